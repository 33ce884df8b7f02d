/- seal.right, seal.blocks; a disk in a round of a loop over an iterator. -/
import Derived.Test.YtekhmkfiepnnkaaSealC
import Derived.Test.YtekhmkfiepnnkaaDiskC
set_option linter.unusedVariables false
set_option linter.unusedSimpArgs false
namespace Go.Proofs.Ytekhmkfiepnnkaa
open Go.RowKit Go.Shelf Go.Proofs.YtekhmkfiepnnkaaW.PrintWords Go.Proofs.YtekhmkfiepnnkaaW.PrintMore
attribute [local go_sem] Oper.semAt_some

/-- May a record be? -/
def sealE (r : SR) : Int := if r.gen = 0 ∨ r.at_ < 0 ∨ 65535 < r.at_ ∨ r.kind < 0 ∨ 255 < r.kind then 1 else if 131072 < r.bytes.length then 3 else 0
/-- A record's value. -/
def recV (r : SR) (A : Option Addr) (c : Nat) : Value := .agg #[.int .u64 r.gen, .int .i64 r.at_, .int .i64 r.kind, .slice A r.bytes.length c]
theorem need_bodies {r : SR} (h : r.bytes.length ≤ 131072) : need (r.bytes.length : Int) = (bodies r : Int) + 1 := by
  unfold need bodies
  rw [if_neg (by omega)]
  split <;> omega
set_option maxRecDepth 100000 in
set_option maxHeartbeats 2000000 in
theorem right_any {w : World} {A : Option Addr} {c : Nat} (r : SR) (hl : r.bytes.length ≤ 9223372036854775807) :
  Calls Try.prog 64 #[recV r A c] w fun e w' => e = .returned (.int .i64 (sealE r)) ∧ Below w.heap.size w w' := by
  obtain ⟨g, a, k, b⟩ := r
  dsimp only at hl
  unfold sealE recV
  dsimp only
  have hB : Below w.heap.size w (w.alloc (.cells #[.int .u64 g, .int .i64 a, .int .i64 k, .slice A b.length c] 25)) := below_alloc (Below.refl _ _) _
  have HB := hid hB
  clear hB
  by_cases h1 : g = 0
  · rw [if_pos (.inl h1)]
    subst h1
    go_enter Try.func64, Try.ntmps64
    go_wp2
    go_ret
    exact ⟨rfl, HB.out⟩
  by_cases h2 : a < 0
  · rw [if_pos (.inr (.inl h2))]
    go_enter Try.func64, Try.ntmps64
    go_wp2
    go_ret
    exact ⟨rfl, HB.out⟩
  by_cases h3 : 65535 < a
  · rw [if_pos (.inr (.inr (.inl h3)))]
    go_enter Try.func64, Try.ntmps64
    go_wp2
    go_ret
    exact ⟨rfl, HB.out⟩
  by_cases h4 : k < 0
  · rw [if_pos (.inr (.inr (.inr (.inl h4))))]
    go_enter Try.func64, Try.ntmps64
    go_wp2
    go_ret
    exact ⟨rfl, HB.out⟩
  by_cases h5 : 255 < k
  · rw [if_pos (.inr (.inr (.inr (.inr h5))))]
    go_enter Try.func64, Try.ntmps64
    go_wp2
    go_ret
    exact ⟨rfl, HB.out⟩
  rw [if_neg (by omega)]
  by_cases h6 : 131072 < b.length
  · rw [if_pos h6]
    have h6' : (131072 : Int) < (b.length : Int) := by omega
    go_enter Try.func64, Try.ntmps64
    go_wp2
    go_ret
    exact ⟨rfl, HB.out⟩
  rw [if_neg h6]
  have h6' : ¬ (131072 : Int) < (b.length : Int) := by omega
  have hnb : 1 ≤ need (b.length : Int) ∧ need (b.length : Int) ≤ 65536 := by unfold need; rw [if_neg (by omega)]; split <;> omega
  go_enter Try.func64, Try.ntmps64
  go_wp2_with (go_at_call 26; refine (need_any (b.length : Int) (by omega)).mono ?_; rintro e w' ⟨rfl, rfl⟩)
  go_ret
  exact ⟨rfl, HB.out⟩

/-! ### A disk, between the rounds of a loop over an iterator -/
/-- Cells lie there. -/
def isC (w : World) : Nat → Prop := fun k => ∃ cells q, w.heap[k]? = some (.cells cells q (0, 0))
theorem PDisk.cells {w : World} {ok : Nat → Prop} {p : Nat} {D : DM} (h : PDisk w ok p D) : PDisk w (fun k => ok k ∧ isC w k) p D := by
  obtain ⟨hw, g, cap, wv, h⟩ := h
  refine ⟨hw, g, cap, wv, ⟨⟨h.okp, _, _, h.blk⟩, ⟨h.okg, ?_⟩, h.blk, h.row, Kd.R_mono (Kd.R_bound h.ws) (fun _ hk => ⟨hk.1, ?_⟩)⟩⟩
  · obtain ⟨c, hc⟩ := own_typed h.row g rfl
    exact ⟨_, _, hc⟩
  · obtain ⟨_, _, _, q, _, cs, hc⟩ := hk
    exact ⟨_, _, hc⟩
theorem PDisk.without {w : World} {ok : Nat → Prop} {p : Nat} {D : DM} (h : PDisk w ok p D) {b : Nat} {cs : Array Value} (hb : w.heap[b]? = some (.cells cs 111 (0, 0))) : PDisk w (fun k => ok k ∧ k ≠ b) p D := by
  obtain ⟨hw, g, cap, wv, h⟩ := h
  refine ⟨hw, g, cap, wv, ⟨⟨h.okp, blk_type_ne h.blk hb (by decide)⟩, ⟨h.okg, ?_⟩, h.blk, h.row, Kd.R_types h.ws hb (by decide)⟩⟩
  obtain ⟨c, hc⟩ := own_typed h.row g rfl
  exact blk_type_ne hc hb (by decide)
/-- What is no cells is turned: cells lie as they lay. -/
theorem turn_cells {W W' : World} {row : Option Nat} (hg : W.grownBy W' row) (hr : ∀ r, row = some r → ∃ o : Obj, W.heap[r]? = some o ∧ o.isCells = false) {k : Nat} (hk : isC W k) : W'.heap[k]? = W.heap[k]? := by
  obtain ⟨cs, q, hc⟩ := hk
  refine hg.block k (blk_lt hc) (fun e => ?_)
  obtain ⟨o, ho, hn⟩ := hr k e.symm
  rw [hc] at ho
  cases ho
  cases hn
theorem PDisk.turn {W W' : World} {row : Option Nat} {ok : Nat → Prop} {p : Nat} {D : DM} (h : PDisk W ok p D) (hg : W.grownBy W' row) (hr : ∀ r, row = some r → ∃ o : Obj, W.heap[r]? = some o ∧ o.isCells = false) : PDisk W' ok p D :=
  (h.cells.step (fun k hk _ => turn_cells hg hr hk.2)).mono (fun _ hk => hk.1)
theorem KeepsFrom.of_chg {B : Nat} {W W' : World} {S : Nat → Prop} (h : Chg S W W') (hS : ∀ k, S k → isC W k) : KeepsFrom B W W' :=
  ⟨h.size, fun k o _ hk ho => (h.block k (Array.getElem?_eq_some_iff.1 hk).1 (fun hs => by
    obtain ⟨cs, q, hc⟩ := hS k hs
    rw [hc] at hk
    cases hk
    cases ho)).trans hk⟩

/-! ### What the rounds make of the disk -/
/-- The rounds of a Write, blocks being written from block b0 on: the disk, the head that is kept, the error that ended them. -/
def runs (b0 : Int) : DM → List Int → List (Nat × List Int) → DM × List Int × Int
  | D, h, [] => (D, h, 0)
  | D, h, x :: l => if x.1 = 0 then runs b0 D x.2 l else if D.writeE (b0 + x.1) x.2 = 0 then runs b0 (D.writeD (b0 + x.1) x.2) h l else (D.writeD (b0 + x.1) x.2, h, D.writeE (b0 + x.1) x.2)
theorem runs_append (b0 : Int) : ∀ (l m : List (Nat × List Int)) (D : DM) (h : List Int), runs b0 D h (l ++ m) = if (runs b0 D h l).2.2 = 0 then runs b0 (runs b0 D h l).1 (runs b0 D h l).2.1 m else runs b0 D h l
  | [], m, D, h => by simp [runs]
  | x :: l, m, D, h => by
    rw [List.cons_append]
    simp only [runs]
    split
    · exact runs_append b0 l m D x.2
    · split
      · exact runs_append b0 l m _ h
      · first | rfl | (rename_i h2; rw [if_neg h2])
/-- Blocks that are written in a row. -/
def puts (b0 : Int) : DM → List (Int × List Int) → DM × Int
  | D, [] => (D, 0)
  | D, x :: l => if D.writeE (b0 + x.1) x.2 = 0 then puts b0 (D.writeD (b0 + x.1) x.2) l else (D.writeD (b0 + x.1) x.2, D.writeE (b0 + x.1) x.2)
theorem puts_append (b0 : Int) : ∀ (l m : List (Int × List Int)) (D : DM), puts b0 D (l ++ m) = if (puts b0 D l).2 = 0 then puts b0 (puts b0 D l).1 m else puts b0 D l
  | [], m, D => by simp [puts]
  | x :: l, m, D => by
    rw [List.cons_append]
    simp only [puts]
    split
    · exact puts_append b0 l m _
    · first | rfl | (rename_i h2; rw [if_neg h2])
/-- What a record's Write writes, in its order. -/
def order (r : SR) : List (Int × List Int) := (List.range (bodies r)).map (fun (i : Nat) => ((i : Int) + 1, bodyB r (i + 1))) ++ [(0, headB r)]
theorem runs_tail (b0 : Int) (r : SR) (h : List Int) : ∀ (l : List Nat) (D : DM), runs b0 D h (l.map fun i => (i + 1, bodyB r (i + 1))) = ((puts b0 D (l.map fun (i : Nat) => ((i : Int) + 1, bodyB r (i + 1)))).1, h, (puts b0 D (l.map fun (i : Nat) => ((i : Int) + 1, bodyB r (i + 1)))).2)
  | [], D => rfl
  | i :: l, D => by
    simp only [List.map_cons, runs, puts]
    rw [if_neg (by omega), show (((i + 1 : Nat)) : Int) = (i : Int) + 1 from by omega]
    split
    · exact runs_tail b0 r h l _
    · rfl
theorem runs_blk (b0 : Int) (r : SR) (D : DM) (h : List Int) : runs b0 D h (blkList r) = ((puts b0 D ((List.range (bodies r)).map fun (i : Nat) => ((i : Int) + 1, bodyB r (i + 1)))).1, headB r, (puts b0 D ((List.range (bodies r)).map fun (i : Nat) => ((i : Int) + 1, bodyB r (i + 1)))).2) := by
  unfold blkList
  simp only [runs, if_true]
  exact runs_tail b0 r _ _ _
/-- Write. -/
def DM.sealW (D : DM) (base : Int) (r : SR) : DM × Int :=
  if sealE r ≠ 0 then (D, sealE r) else if base < 0 ∨ (D.n : Int) < base ∨ (D.n : Int) - base < r.at_ + need r.bytes.length then (D, 60) else puts (base + r.at_) D (order r)

/-! ### blocks -/
theorem seq_any {w : World} {A : Option Addr} {c : Nat} (r : SR) :
  Calls Try.prog 66 #[recV r A c] w fun e w' => e = .returned (.func (.func 82) #[] #[.pointer (some ⟨w.heap.size, 0, none⟩)]) ∧ w' = w.alloc (.cells #[.int .u64 r.gen, .int .i64 r.at_, .int .i64 r.kind, .slice A r.bytes.length c] 25) := by
  unfold recV
  go_enter Try.func66, Try.ntmps66
  go_wp2
  go_ret
  exact ⟨rfl, rfl⟩
theorem blocks_stops {w : World} {rb : Nat} {r : SR} {okr : Nat → Prop} {A : Option Addr} {c : Nat} (h : RBox w rb r okr A c) (hr : r.right) (hok : ∀ k, okr k → k < w.heap.size) :
    SeqStopsK Fence.wide 1 Try.prog 82 #[.pointer (some ⟨rb, 0, none⟩)] encY (KpR okr) (fun xs => xs.map (·.1) = blkList r) (fun pre => pre.map (·.1) <+: blkList r) (blkList r).length w :=
  fun l J Jx W hW hJ hJx hY h0 => blocks_in h hr hok l J Jx W hW hJ hJx hY h0
end Go.Proofs.Ytekhmkfiepnnkaa
