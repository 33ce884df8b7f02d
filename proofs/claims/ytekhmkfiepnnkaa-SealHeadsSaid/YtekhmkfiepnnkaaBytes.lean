/- Slices of bytes of the program: kept facts on types, slices.Clone, string(b), cells of a row that is read. -/
import Derived.Test.YtekhmkfiepnnkaaProg
import Derived.Test.YtekhmkfiepnnkaaMem
import Derived.Test.YtekhmkfiepnnkaaPlan
import Derived.WalkKit
import Derived.WalkSpells
import Derived.WalkLawsBesides
set_option linter.unusedVariables false
set_option linter.unusedSimpArgs false
namespace Go.Proofs.Ytekhmkfiepnnkaa
open Go.RowKit Go.Proofs.YtekhmkfiepnnkaaW.PrintWords
theorem info_u8 : (Try.prog.info? 5).map (fun i => (i.zero, i.size, i.bytes)) = some (some (.int .u8 0), 1, 1) := by kernel_rfl
theorem C_int {w : World} {A : Option Addr} {xs : List Int} (h : KB.C w A xs.length xs) : ReadsInt w .u8 A xs.length xs := Kd.reads_of_C h
theorem RB_int {w : World} {ok : Nat → Prop} {A : Option Addr} {xs : List Int} (h : RB w ok A xs) : ReadsInt w .u8 A xs.length xs := Kd.reads_of_C (Kd.F_now h)
theorem RB_step {w w1 : World} {ok S : Nat → Prop} {A : Option Addr} {xs : List Int} (h : RB w ok A xs) (hc : Chg S w w1) (hne : apart ok S) : RB w1 ok A xs := Kd.F_step h (hc.stays hne)
theorem RB_below {w w1 : World} {ok : Nat → Prop} {A : Option Addr} {xs : List Int} (h : RB w ok A xs) (hc : Below w.heap.size w w1) : RB w1 ok A xs := Kd.F_below h hc
theorem C_none {α : Type} {d : Kd α} {w : World} {xs : List α} (h : d.C w none xs.length xs) : xs = [] := by
  obtain ⟨_, _, h3⟩ := h
  cases xs with
  | nil => rfl
  | cons x xs =>
    obtain ⟨ad, e, _⟩ := h3 (by simp)
    cases e
theorem RB_none {w : World} {ok : Nat → Prop} {xs : List Int} (h : RB w ok none xs) : xs = [] := C_none (Kd.F_now h)
theorem RB_len {w : World} {ok : Nat → Prop} {A : Option Addr} {xs : List Int} (h : RB w ok A xs) : xs.length ≤ 9223372036854775807 := (Kd.F_now h).2.1
theorem Rown {e : Nat} {w : World} {base : Nat} {ok : Nat → Prop} {v : Value} {k : IntKind} {xs : List Int} (ho : w.ownsRow base e 1 v xs.length (nums k xs)) (hok : ∀ i, v.ownBlock = some i → ok i) : (Kd.int k).R e w base ok v xs := Kd.R_of_own ho hok
theorem R_own1 {e : Nat} {w : World} {base : Nat} {ok : Nat → Prop} {v : Value} {k : IntKind} {xs : List Int} (h : (Kd.int k).R e w base ok v xs) : w.ownsRow base e 1 v xs.length (nums k xs) := Kd.own_of_R h
/-- A row of one's own is read. -/
theorem R_RB {e : Nat} {w : World} {base : Nat} {ok : Nat → Prop} {A : Option Addr} {n c : Nat} {xs : List Int} (h : KB.R e w base ok (.slice A n c) xs) : n = xs.length ∧ RB w ok A xs := by
  obtain ⟨A', c', he, _, _⟩ := Kd.R_reads h
  injection he with h1 h2 h3
  subst h2
  exact ⟨rfl, Kd.R_F h⟩
theorem cells_of_C {w : World} {k : IntKind} {a : Addr} {n : Nat} {xs : List Int} (h : (Kd.int k).C w (some a) n xs) : ∀ j v, (nums k xs)[j]? = some v → w.cell? (a.add j) = some v := by
  have h2 := Kd.reads_of_C (enc := Value.int k) (d := (0 : Int)) (h1 := fun _ => rfl) h
  intro j v hj
  have hl : j < xs.length := by
    rcases Nat.lt_or_ge j xs.length with h | h
    · exact h
    · rw [List.getElem?_eq_none (by rw [nums_length]; exact h)] at hj
      cases hj
  obtain ⟨ad, he, hc⟩ := h2.2.2 (by have := h2.1; omega)
  injection he with he
  subst he
  rw [hc j (by have := h2.1; omega)]
  simp [nums, List.getElem?_eq_getElem hl] at hj
  subst hj
  simp [List.getD_eq_getElem?_getD, List.getElem?_eq_getElem hl]
theorem reads_row {w : World} {g : Nat} {cur : Array Value} {t : TypeId} {k : IntKind} {xs : List Int} {o : Nat} (hg : w.heap[g]? = some (.cells cur t (0, 0))) (hl : xs.length ≤ 9223372036854775807)
    (hc : ∀ j, j < xs.length → cur[o + j]? = some (.int k (xs.getD j 0))) : ReadsInt w k (some ⟨g, o, none⟩) xs.length xs :=
  ⟨rfl, hl, fun _ => ⟨_, rfl, fun j hj => by rw [Addr.add_mid, cell_of_row w g _ cur t (0, 0) hg]; exact hc j hj⟩⟩
theorem reads_new (w : World) (t : TypeId) (k : IntKind) (xs : List Int) (hl : xs.length ≤ 9223372036854775807) : ReadsInt (w.alloc (.cells (nums k xs).toArray t)) k (some ⟨w.heap.size, 0, none⟩) xs.length xs :=
  reads_row (heap_alloc_new w _) hl (fun j hj => by simp [nums, List.getD_eq_getElem?_getD, hj])
theorem RB_blk {w : World} {g : Nat} {cur : Array Value} {t : TypeId} {xs : List Int} {o : Nat} (hg : w.heap[g]? = some (.cells cur t (0, 0))) (hl : xs.length ≤ 9223372036854775807)
    (hc : ∀ j, j < xs.length → cur[o + j]? = some (.int .u8 (xs.getD j 0))) : RB w (fun k => k = g) (some ⟨g, o, none⟩) xs :=
  fun W' hW => Kd.C_of_reads (reads_row ((hW g rfl (Array.getElem?_eq_some_iff.1 hg).1).trans hg) hl hc)
theorem RB_new (w : World) (t : TypeId) (xs : List Int) (hl : xs.length ≤ 9223372036854775807) : RB (w.alloc (.cells (nums .u8 xs).toArray t)) (fun k => k = w.heap.size) (some ⟨w.heap.size, 0, none⟩) xs :=
  RB_blk (heap_alloc_new w _) hl (fun j hj => by simp [nums, List.getD_eq_getElem?_getD, hj])
theorem nums_one (k : IntKind) (xs : List Int) : (nums k xs).toArray.all (·.oneCell') = true :=
  all_oneCell_toArray (fun v hv => by simp only [nums, List.mem_map] at hv; obtain ⟨q, _, rfl⟩ := hv; rfl)
set_option maxRecDepth 100000 in
theorem clone_some {w : World} {a : Addr} {c : Nat} {xs : List Int} (h : KB.C w (some a) xs.length xs) (hl : xs.length ≤ 140737488351232) :
  Calls Try.prog 81 #[.slice (some a) xs.length c] w fun e w' => ∃ v, e = .returned v ∧ KB.R 5 w' w.heap.size (fun _ => True) v xs ∧ Below w.heap.size w w' := by
  have hq := fun w => Lib.run_eql_slice_nil (P := Try.prog) w 22 5 (some a) xs.length c 0 0 Try.underlying22
  go_enter Try.func81, Try.ntmps81
  go_wp2_with (at_builtin; refine print_append_row (w0 := w) w.heap.size rfl (.tmp 5) (.tmp 6) 22 5 .u8 1 rfl Try.underlying22 info_u8 (by decide) _ [] xs (some a) xs.length c rfl rfl ?HO ?HR ?HB ?hb ?hl ?_)
  case HO => exact World.ownsRow_made (base := w.heap.size) w #[] 0 (Nat.le_refl _) (Nat.zero_le _) rfl
  case HR => exact (C_int h).below (below_alloc (Below.refl _ _) _)
  case HB => exact below_alloc (Below.refl _ _) _
  case hb => simp
  case hl => simp; omega
  intro v1 w1 ho hb hg hat
  go_wp2
  go_ret
  exact ⟨v1, rfl, Rown (by simpa using ho) (fun _ _ => trivial), hb⟩
set_option maxRecDepth 100000 in
theorem clone_none {w : World} {n c : Nat} :
  Calls Try.prog 81 #[.slice none n c] w fun e w' => e = .returned (.slice none 0 0) ∧ w = w' := by
  have hq := fun w => Lib.run_eql_slice_nil (P := Try.prog) w 22 5 none n c 0 0 Try.underlying22
  go_enter Try.func81, Try.ntmps81
  go_wp2
  go_ret
  exact ⟨rfl, rfl⟩
theorem clone_any {w : World} {A : Option Addr} {c : Nat} {xs : List Int} (h : KB.C w A xs.length xs) (hl : xs.length ≤ 140737488351232) :
  Calls Try.prog 81 #[.slice A xs.length c] w fun e w' => ∃ A' c', e = .returned (.slice A' xs.length c') ∧ KB.R 5 w' w.heap.size (fun k => w.heap.size ≤ k) (.slice A' xs.length c') xs ∧ Below w.heap.size w w' := by
  have key : ∀ {v w'}, KB.R 5 w' w.heap.size (fun _ => True) v xs → ∃ A' c', v = .slice A' xs.length c' ∧ KB.R 5 w' w.heap.size (fun k => w.heap.size ≤ k) v xs := by
    intro v w' hR
    obtain ⟨A', c', he⟩ := Kd.R_slice hR
    exact ⟨A', c', he, Kd.R_mono (Kd.R_bound hR) (fun k hk => hk.2.1)⟩
  cases A with
  | none =>
    obtain rfl := C_none h
    refine clone_none.mono ?_
    rintro e w' ⟨rfl, rfl⟩
    exact ⟨none, 0, rfl, Kd.R_nil _ _ _ _ _, Below.refl _ _⟩
  | some a =>
    refine (clone_some h hl).mono ?_
    rintro e w' ⟨v, rfl, hR, hb⟩
    obtain ⟨A', c', rfl, hR'⟩ := key hR
    exact ⟨A', c', rfl, hR', hb⟩
end Go.Proofs.Ytekhmkfiepnnkaa
namespace Go.Proofs.Ytekhmkfiepnnkaa
open Go.RowKit Go.Proofs.YtekhmkfiepnnkaaW.PrintWords
/-- A conversion whose run is known, as one operation. -/
theorem exec_convert {o : Oper} {A : Act} {w : World} (src dst : TypeId) (x : Operand) (v u : Value) (ho : o.op = .convert src dst x) (hx : A.eval x = v) (hr : (convert src dst v).run Try.prog w = .ok u w) :
    (execOp A.eval o).run Try.prog w = .ok (.value u) w := by
  unfold execOp
  simp only [ho, hx, Sem.run_bind, hr, Result.andThen_ok, Sem.run_pure]
  try rfl
theorem conv_str {w : World} {A : Option Addr} {n c : Nat} {xs : List Int} (h : KB.C w A n xs) : (convert 22 9 (.slice A n c)).run Try.prog w = .ok (.string (strOfNums xs)) w :=
  Kd.C_string Try.underlying22 Try.underlying5 Try.underlying9 h
end Go.Proofs.Ytekhmkfiepnnkaa
