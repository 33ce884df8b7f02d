/- The program's writer: Raw, Text, Ints, Texts. -/
import Derived.Test.YtiecljhgpbifjaaWireN
import Derived.Test.YtiecljhgpbifjaaOpen
set_option linter.unusedVariables false
set_option linter.unusedSimpArgs false
namespace Go.Proofs.Ytiecljhgpbifjaa
open Go.RowKit Go.Proofs.YtiecljhgpbifjaaW.PrintWords

theorem block_of_add'' (a : Addr) (n : Nat) : (a.add n).block = a.block := by unfold Addr.add; split <;> rfl
def rawB (xs : List Int) : List Int := be ((xs.length : Int) % 2147483648) 4 ++ xs
theorem rawB_length (xs : List Int) : (rawB xs).length = 4 + xs.length := by simp [rawB, be_length]
set_option maxRecDepth 100000 in
theorem wraw_any {w : World} {ok okb : Nat → Prop} {p : Nat} {b xs : List Int} {A : Option Addr} {c : Nat} (h : PWr w ok p b) (hF : RB w okb A xs) (hne : apart okb ok) (hl : b.length + xs.length + 16 ≤ 140737488355328) :
  Calls Try.prog 29 #[.pointer (some ⟨p, 0, none⟩), .slice A xs.length c] w fun e w' => e = .returned (.tuple #[]) ∧ PWr w' (orNew ok w) p (b ++ rawB xs) ∧ Chg ok w w' := by
  go_enter Try.func29, Try.ntmps29
  go_wp2_with fail
  refine (wint_any (xs.length : Int) h (by omega)).mono ?_
  rintro e w1 ⟨rfl, ⟨bv, h1⟩, c1⟩
  have hF1 := RB_int (RB_step hF c1 hne)
  have d0 := h1.cell0
  generalize hx : be ((xs.length : Int) % 2147483648) 4 = hd at h1
  have hl4 : hd.length = 4 := by rw [← hx, be_length]
  have HX := hid hx
  clear hx
  go_wp2_with (at_builtin; refine print_append_row (w0 := w1) 0 rfl (.tmp 14) (.tmp 15) 24 5 .u8 1 rfl Try.underlying24 info_u8 (by decide) _ (b ++ hd) xs A xs.length c rfl rfl ?HO ?HR ?HB ?hb ?hl ?_)
  case HO => exact R_own1 h1.row
  case HR => exact hF1
  case HB => exact Below.refl _ _
  case hb => omega
  case hl => simp; omega
  intro v1 w2 ho hB1 hg hat
  have ho' : w2.ownsRow 0 5 1 v1 (b ++ hd ++ xs).length (nums .u8 (b ++ hd ++ xs)) := by simpa [hl4] using ho
  obtain ⟨hf, hc, e0, z0⟩ := h1.stored ho' hg hat
  obtain ⟨A', c', rfl⟩ := Kd.R_slice hf.row
  have hfin : PWr (w2.setCell ⟨p, 0, none⟩ (.slice A' (b ++ hd ++ xs).length c')) (orNew ok w) p (b ++ rawB xs) := by
    unfold rawB
    rw [HX.out, ← List.append_assoc]
    exact ⟨_, hf.mono (orNew_again c1.size)⟩
  have hcf := chg_again c1 hc
  clear ho ho' hg hat d0 hf hc
  generalize (b ++ hd ++ xs).length = L at *
  go_wp2
  go_end0
  exact ⟨rfl, hfin, hcf⟩
theorem RB_reads {W : World} {g n : Nat} {xs : List Int} (h : ReadsInt W .u8 (some ⟨g, 0, none⟩) n xs) : RB W (fun k => k = g) (some ⟨g, 0, none⟩) xs := by
  intro W' hW
  refine Kd.C_of_reads (d := (0 : Int)) ⟨rfl, by have := h.1; have := h.2.1; omega, fun hn => ?_⟩
  obtain ⟨ad, he, hc⟩ := h.2.2 (by have := h.1; omega)
  injection he with he
  subst he
  refine ⟨_, rfl, fun j hj => ?_⟩
  have h1 := hc j (by have := h.1; omega)
  have h2 := hW g rfl (by have := World.block_lt_of_cell? W _ h1; rwa [block_of_add''] at this)
  rw [add_plain] at h1 ⊢
  simpa [World.cell?, h2] using h1
set_option maxRecDepth 100000 in
theorem wtext_any {w : World} {ok : Nat → Prop} {p : Nat} {b : List Int} (s : ByteArray) (h : PWr w ok p b) (hk : ∀ k, ok k → k < w.heap.size) (hl : b.length + s.size + 16 ≤ 140737488355328) :
  Calls Try.prog 28 #[.pointer (some ⟨p, 0, none⟩), .string s] w fun e w' => e = .returned (.tuple #[]) ∧ PWr w' (orNew ok w) p (b ++ rawB (bytesOf s)) ∧ Chg ok w w' := by
  have hcv := fun W => print_bytes (P := Try.prog) 9 24 5 Try.underlying9 Try.underlying24 Try.underlying5 s W
  have hB1 := bytes_below (Below.refl w.heap.size w) (Nat.le_refl _) 5 s
  have hF := RB_reads (bytes_reads w 5 s (by omega))
  have h1 := h.step (w1 := Lib.bytesWorld w 5 s) (fun k _ hlt => hB1.block k hlt)
  have hr := wraw_any (c := grownCap w s.size 0 5) h1 hF (fun k e hok => by have := hk k hok; omega) (by rw [bytesOf_length]; omega)
  rw [bytesOf_length] at hr
  go_enter Try.func28, Try.ntmps28
  go_wp2_with fail
  refine hr.mono ?_
  rintro e w2 ⟨rfl, h2, c2⟩
  have h3 := h2.mono (ok' := orNew ok w) (fun k hk => hk.elim .inl (fun h => .inr (Nat.le_trans hB1.size h)))
  have c3 : Chg ok w w2 := (Chg.of_below hB1 ok).then_ c2 (fun _ h => .inl h)
  clear hcv hr
  go_wp2
  go_end0
  exact ⟨rfl, h3, c3⟩
/-! ### Ints, Texts -/
def intsB (l : List Int) : List Int := be ((l.length : Int) % 2147483648) 4 ++ l.flatMap fun n => be (n % 2147483648) 4
def textsB (l : List ByteArray) : List Int := be ((l.length : Int) % 2147483648) 4 ++ l.flatMap fun s => rawB (bytesOf s)
theorem flat_take_succ {α β : Type} {l : List α} {k : Nat} (h : k < l.length) (f : α → List β) : (l.take k).flatMap f ++ f l[k] = (l.take (k + 1)).flatMap f := by
  rw [List.take_succ_eq_append_getElem h, List.flatMap_append]; simp
theorem flat_take_le {α β : Type} (l : List α) (k : Nat) (f : α → List β) : ((l.take k).flatMap f).length ≤ (l.flatMap f).length := by
  conv => rhs; rw [← List.take_append_drop k l]
  rw [List.flatMap_append, List.length_append]
  omega
theorem flat_get_le {α β : Type} {l : List α} {k : Nat} (h : k < l.length) (f : α → List β) : ((l.take k).flatMap f).length + (f l[k]).length ≤ (l.flatMap f).length := by
  rw [← List.length_append, flat_take_succ h]
  exact flat_take_le l (k + 1) f
theorem ints_len (l : List Int) (k : Nat) : ((l.take k).flatMap fun n => be (n % 2147483648) 4).length ≤ 4 * l.length := by
  have : ∀ m : List Int, (m.flatMap fun n => be (n % 2147483648) 4).length = 4 * m.length := fun m => by
    induction m with
    | nil => rfl
    | cons a m ih => simp only [List.flatMap_cons, List.length_append, be_length, ih, List.length_cons]; omega
  rw [this, List.length_take]; omega
set_option maxRecDepth 100000 in
theorem wints_any {w : World} {ok okb : Nat → Prop} {p : Nat} {b : List Int} {l : List Int} {A : Option Addr} {c : Nat} (h : PWr w ok p b) (hC : ∀ w', Chg ok w w' → (Kd.int .i64).C w' A l.length l) (hl : b.length + 4 * l.length + 16 ≤ 140737488355328) :
  Calls Try.prog 30 #[.pointer (some ⟨p, 0, none⟩), .slice A l.length c] w fun e w' => e = .returned (.tuple #[]) ∧ PWr w' (orNew ok w) p (b ++ intsB l) ∧ Chg ok w w' := by
  go_enter Try.func30, Try.ntmps30
  go_wp2_with fail
  refine (wint_any (l.length : Int) h (by omega)).mono ?_
  rintro e w1 ⟨rfl, h1, c1⟩
  have hl4 : (be ((l.length : Int) % 2147483648) 4).length = 4 := be_length _ _
  generalize hx : be ((l.length : Int) % 2147483648) 4 = hd at h1 hl4
  have HX := hid hx
  clear hx
  go_wp2_with fail
  go_loopw [5, 12] (fun _ i wr => ∃ k : Nat, k ≤ l.length ∧ i = .int .i64 k ∧ PWr wr (orNew ok w) p (b ++ hd ++ (l.take k).flatMap fun n => be (n % 2147483648) 4) ∧ Chg ok w wr) (fun _ i _ => l.length - (intOf i).toNat)
  case atStart => exact ⟨0, Nat.zero_le _, rfl, by simpa using h1, c1⟩
  case round =>
    obtain ⟨k, hk, rfl, hw, hc⟩ := hrel
    by_cases hlt : k < l.length
    · obtain ⟨ad, rfl, hcell⟩ := (Kd.reads_of_C (enc := Value.int .i64) (d := (0 : Int)) (h1 := fun _ => rfl) (hC wr hc)).at_ (k : Int) (by omega) (by omega)
      simp only [Int.toNat_natCast] at hcell
      have hlw : (k : Int) < (l.length : Int) := by omega
      have hrd : rdOf 0 l k = l[k] := by simp [rdOf, List.getD_eq_getElem?_getD, hlt]
      rw [hrd] at hcell
      go_wp2_with fail
      refine (wint_any l[k] hw (by have := ints_len l k; simp only [List.length_append] at this ⊢; omega)).mono ?_
      rintro e w2 ⟨rfl, h2, c2⟩
      rw [List.append_assoc, flat_take_succ hlt] at h2
      have h3 := h2.mono (orNew_again hc.size)
      have c3 := chg_again hc c2
      clear h2 hcell
      go_wp2
      go_roundw
      case rel => exact ⟨k + 1, by omega, by go_num, h3, c3⟩
      case measure => simp [intOf]; omega
    · obtain rfl : k = l.length := by omega
      rw [List.take_length] at hw
      have hfin : PWr wr (orNew ok w) p (b ++ intsB l) := by unfold intsB; rw [HX.out, ← List.append_assoc]; exact hw
      go_wp2
      go_end0
      exact ⟨rfl, hfin, hc⟩
set_option maxRecDepth 100000 in
theorem wtexts_any {w : World} {ok okb : Nat → Prop} {p : Nat} {b : List Int} {l : List ByteArray} {A : Option Addr} {c : Nat} (h : PWr w ok p b) (hk : ∀ k, ok k → k < w.heap.size) (hC : ∀ w', Chg ok w w' → Kd.string.C w' A l.length l) (hl : b.length + (textsB l).length + 16 ≤ 140737488355328) (hl2 : l.length ≤ 140737488355328) :
  Calls Try.prog 31 #[.pointer (some ⟨p, 0, none⟩), .slice A l.length c] w fun e w' => e = .returned (.tuple #[]) ∧ PWr w' (orNew ok w) p (b ++ textsB l) ∧ Chg ok w w' := by
  go_enter Try.func31, Try.ntmps31
  go_wp2_with fail
  refine (wint_any (l.length : Int) h (by omega)).mono ?_
  rintro e w1 ⟨rfl, h1, c1⟩
  have hl4 : (be ((l.length : Int) % 2147483648) 4).length = 4 := be_length _ _
  have hlt3 : (textsB l).length = 4 + (l.flatMap fun s => rawB (bytesOf s)).length := by unfold textsB; rw [List.length_append, hl4]
  rw [hlt3] at hl
  generalize hx : be ((l.length : Int) % 2147483648) 4 = hd at h1 hl4
  have HX := hid hx
  have h1' : PWr w1 (fun k => orNew ok w k ∧ k < w1.heap.size) p (b ++ hd) := h1.bound
  clear hx
  go_wp2_with fail
  go_loopw [5, 12] (fun _ i wr => ∃ k : Nat, k ≤ l.length ∧ i = .int .i64 k ∧ PWr wr (fun k => orNew ok w k ∧ k < wr.heap.size) p (b ++ hd ++ (l.take k).flatMap fun s => rawB (bytesOf s)) ∧ Chg ok w wr) (fun _ i _ => l.length - (intOf i).toNat)
  case atStart => exact ⟨0, Nat.zero_le _, rfl, by simpa using h1', c1⟩
  case round =>
    obtain ⟨k, hkk, rfl, hw, hc⟩ := hrel
    by_cases hlt : k < l.length
    · obtain ⟨ad, rfl, hcell⟩ := (Kd.reads_of_C (enc := Value.string) (d := ByteArray.empty) (h1 := fun _ => rfl) (hC wr hc)).at_ (k : Int) (by omega) (by omega)
      simp only [Int.toNat_natCast] at hcell
      have hlw : (k : Int) < (l.length : Int) := by omega
      have hrd : rdOf ByteArray.empty l k = l[k] := by simp [rdOf, List.getD_eq_getElem?_getD, hlt]
      rw [hrd] at hcell
      have hfl := flat_get_le hlt (fun s => rawB (bytesOf s))
      simp only [rawB_length, bytesOf_length] at hfl
      go_wp2_with fail
      refine (wtext_any l[k] hw (fun _ h => h.2) (by simp only [List.length_append]; omega)).mono ?_
      rintro e w2 ⟨rfl, h2, c2⟩
      rw [List.append_assoc, flat_take_succ hlt] at h2
      have h3 : PWr w2 (fun k => orNew ok w k ∧ k < w2.heap.size) p _ := (h2.mono (ok' := orNew ok w) (fun z hz => by
        rcases hz with hz | hz
        · exact hz.1
        · exact .inr (Nat.le_trans hc.size hz))).bound
      have c3 : Chg ok w w2 := hc.then_ c2 (fun _ h => h.1)
      clear h2 hcell hfl
      go_wp2
      go_roundw
      case rel => exact ⟨k + 1, by omega, by go_num, h3, c3⟩
      case measure => simp [intOf]; omega
    · obtain rfl : k = l.length := by omega
      rw [List.take_length] at hw
      have hfin : PWr wr (orNew ok w) p (b ++ textsB l) := by unfold textsB; rw [HX.out, ← List.append_assoc]; exact hw.mono (fun _ h => h.1)
      go_wp2
      go_end0
      exact ⟨rfl, hfin, hc⟩
end Go.Proofs.Ytiecljhgpbifjaa
