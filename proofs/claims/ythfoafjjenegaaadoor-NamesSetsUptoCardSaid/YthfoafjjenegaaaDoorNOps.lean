/- Names: Set, Union, Minus, Both, Cmp, Split, Words, in memory. -/
import Derived.Test.YthfoafjjenegaaaDoorNBase
import Derived.Test.YthfoafjjenegaaaDoorNRight
import Derived.Sort.Walk0
set_option linter.unusedVariables false
set_option linter.unusedSimpArgs false
namespace Go.Proofs.YthfoafjjenegaaaDoor
open Go.RowKit Go.Sort Go.Proofs.YthfoafjjenegaaaDoorW.PrintWords Go.Proofs.YthfoafjjenegaaaDoor.KCarveNA Go.Proofs.YthfoafjjenegaaaDoor.KCarveNB

theorem Set_any {w : World} {A : Option Addr} {c : Nat} {l : List ByteArray} (h : KS.C w A l.length l) (hl : l.length * 16 ≤ 140737488355328) :
  Calls Tryd.prog 25 #[.slice A l.length c] w fun e w' => ∃ A' c', e = .returned (.slice A' (setS l).length c') ∧ KS.R 9 w' w.heap.size (fun k => w.heap.size ≤ k) (.slice A' (setS l).length c') (setS l) ∧ Below w.heap.size w w' := by
  have hs := set_any (c := c) h hl
  go_enter Tryd.func25, Tryd.ntmps25
  go_wp2_with fail
  refine hs.mono ?_
  rintro e w1 ⟨A', c', rfl, hR, hb⟩
  go_wp2
  go_ret
  exact ⟨A', c', rfl, hR, hb⟩
set_option maxRecDepth 100000 in
theorem Union_any {w : World} {A A2 : Option Addr} {c c2 : Nat} {l l2 : List ByteArray} (h : KS.C w A l.length l) (h2 : KS.C w A2 l2.length l2) (hl : (l.length + l2.length) * 16 ≤ 140737488355328) :
  Calls Tryd.prog 27 #[.slice A l.length c, .slice A2 l2.length c2] w fun e w' => ∃ A' c', e = .returned (.slice A' (setS (l ++ l2)).length c') ∧ KS.R 9 w' w.heap.size (fun k => w.heap.size ≤ k) (.slice A' (setS (l ++ l2)).length c') (setS (l ++ l2)) ∧ Below w.heap.size w w' := by
  have hcl := clone_any (c := c) h (by omega)
  go_enter Tryd.func27, Tryd.ntmps27
  go_wp2_with fail
  refine hcl.mono ?_
  rintro e w1 ⟨A1, c1, rfl, hR1, b1⟩
  clear hcl
  go_wp2_with (at_builtin; refine Kd.R_append_rows KS (w0 := w) w.heap.size rfl (.tmp 6) (.tmp 7) 22 9 (.string ⟨#[]⟩) 16 rfl Tryd.underlying22 info_str rfl (by decide) (by decide) _ l l2 A2 l2.length c2 (fun k => w.heap.size ≤ k) (fun _ => False) rfl rfl hR1 ?HR (fun _ _ h => h) (fun _ h => h.elim) ?hf ?HB ?hb ?hl ?_)
  case HR => exact Kd.C_below h2 b1
  case hf => exact fun k hk => Nat.le_trans b1.size hk
  case HB => exact b1
  case hb => exact b1.size
  case hl => exact hl
  intro v2 w2 hR2 hb2 hg2 hat2
  obtain ⟨A2', c2', rfl⟩ := Kd.R_slice hR2
  have hst := set_any (c := c2') (Kd.R_reads' hR2).2.2 (by rw [List.length_append]; exact hl)
  generalize hll : l ++ l2 = ll at hst ⊢
  clear hR1 hR2 hg2 hat2
  go_wp2_with fail
  refine hst.mono ?_
  rintro e w3 ⟨A', c', rfl, hR, hb⟩
  have hs2 := hb2.size
  subst hll
  go_wp2
  go_ret
  exact ⟨A', c', rfl, Kd.R_mono (Kd.R_lower hR hs2) (fun k hk => by omega), hb2.trans (hb.mono hs2)⟩
theorem spot_none {w : World} {a : Addr} {v : Value} (h : w.cell? a = some v) : a = ⟨a.block, a.off, none⟩ := by
  cases a with
  | mk b o s =>
    cases s with
    | none => rfl
    | some s =>
      simp only [World.cell?] at h
      split at h <;> simp at h
theorem contains_any {w : World} {A : Option Addr} {c : Nat} {l : List ByteArray} (h : KS.C w A l.length l) (x : ByteArray) :
  Calls Tryd.prog 46 #[.slice A l.length c, .string x] w fun e w' => e = .returned (.bool (has l x)) ∧ w = w' := by
  rcases Nat.eq_zero_or_pos l.length with h0 | h0
  · obtain rfl := List.eq_nil_of_length_eq_zero h0
    refine (Tryd.slices_Contains_string_empty A c x w).mono ?_
    rintro e w' ⟨rfl, rfl⟩
    exact ⟨by rw [has_false (by simp)], rfl⟩
  · cases A with
    | none =>
      obtain rfl := KS_none h
      simp at h0
    | some ad =>
      have hsp := spot_none (KS_at h (i := 0) h0)
      have hae : ad = ⟨ad.block, ad.off, none⟩ := by simpa [Addr.add] using hsp
      rw [hae]
      refine (Tryd.slices_Contains_string ad.block ad.off l.length c l x w (Nat.le_refl _) h.2.1 (fun j hj => ?_)).mono ?_
      · have := KS_at h hj
        rw [hae] at this
        have e : (⟨ad.block, ad.off, none⟩ : Addr).add j = ⟨ad.block, ad.off + j, none⟩ := by unfold Addr.add; by_cases hj0 : j = 0 <;> simp [hj0]
        rw [e] at this
        simpa [List.getD_eq_getElem?_getD, hj] using this
      · rintro e w' ⟨rfl, rfl⟩
        refine ⟨?_, rfl⟩
        rw [List.take_length]
        congr 2
        rw [Bool.eq_iff_iff, Lib.containsS_iff, has_iff]
set_option maxRecDepth 100000 in
set_option maxHeartbeats 4000000 in
theorem chosen_any {w : World} {A : Option Addr} {c f B : Nat} {l : List ByteArray} {p : ByteArray → Bool} (ef : ∀ args w, (callFunc f args).run Tryd.prog w = .ok (.enter f args) w) (h : KS.C w A l.length l) (hl : l.length * 16 ≤ 140737488355328)
    (hf : ∀ W, Below w.heap.size w W → ∀ x, Calls Tryd.prog f #[.string x, .pointer (some ⟨B, 0, none⟩)] W fun e w' => e = .returned (.bool (p x)) ∧ W = w') :
  Calls Tryd.prog 44 #[.slice A l.length c, .func (.func f) #[] #[.pointer (some ⟨B, 0, none⟩)]] w fun e w' => ∃ A' c', e = .returned (.slice A' ((setS l).filter p).length c') ∧ KS.R 9 w' w.heap.size (fun k => w.heap.size ≤ k) (.slice A' ((setS l).filter p).length c') ((setS l).filter p) ∧ Below w.heap.size w w' := by
  have hst := set_any (c := c) h hl
  have hle := setS_len l
  have HF := hid hf
  clear hf
  generalize setS l = s at hst hle
  go_enter Tryd.func44, Tryd.ntmps44
  go_wp2_with fail
  refine hst.mono ?_
  rintro e w1 ⟨A1, c1, rfl, hR1, b1⟩
  clear hst
  have s1 := b1.size
  have HR1 := hid hR1
  clear hR1
  go_wp2_with fail
  go_loopw [5, 11] (fun v i wr => ∃ k : Nat, k ≤ s.length ∧ i = .int .i64 k ∧ (∃ A' c', v = .slice A' ((s.take k).filter p).length c') ∧ KS.R 9 wr w.heap.size (fun q => w1.heap.size ≤ q) v ((s.take k).filter p) ∧ Below w1.heap.size w1 wr) (fun _ i _ => s.length - (intOf i).toNat)
  case atStart => exact ⟨0, Nat.zero_le _, rfl, ⟨none, 0, rfl⟩, Kd.R_nil _ _ _ _ _, Below.refl _ _⟩
  case round =>
    obtain ⟨k, hk, rfl, ⟨A', c', rfl⟩, hR, hB⟩ := hrel
    have hs9 : s.length ≤ 8796093022208 := by omega
    by_cases hlt : k < s.length
    · have hltI : (k : Int) < (s.length : Int) := by omega
      cases A1 with
      | none =>
        have := KS_none (Kd.R_reads' HR1.out).2.2
        subst this
        simp at hlt
      | some ad =>
      have hcell := pw_cell_below hB (KS_at (Kd.R_reads' HR1.out).2.2 hlt)
      have htk : s.take (k + 1) = s.take k ++ [s[k]] := List.take_succ_eq_append_getElem hlt
      have hbw : Below w.heap.size w wr := b1.trans (hB.mono s1)
      have hfx := HF.out wr hbw s[k]
      have hlen : ((s.take k).filter p).length ≤ k := Nat.le_trans (List.length_filter_le _ _) (List.length_take_le _ _)
      generalize s[k] = x at hcell htk hfx
      have hsw : w1.heap.size ≤ wr.heap.size := hB.size
      cases hp : p x with
      | true =>
        have hnx : (s.take (k + 1)).filter p = (s.take k).filter p ++ [x] := by rw [htk, List.filter_append]; simp [hp]
        rw [hp] at hfx
        have HN := hid hnx
        clear hnx htk
        go_wp2_with (first | (refine hfx.mono ?_; rintro e w2 ⟨rfl, rfl⟩; clear hfx) | (at_builtin; refine Kd.R_append KS (w0 := w1) (W := wr) w.heap.size rfl (.tmp 18) (.tmp 20) 22 9 (.string ⟨#[]⟩) 16 rfl Tryd.underlying22 info_str rfl (by decide) (by decide) _ _ x [.string x] (fun q => w1.heap.size ≤ q) (fun _ => False) rfl rfl rfl (fun _ h => h.elim) (fun q hq => Nat.le_trans hsw hq) hR ?HB ?hb ?hl ?_))
        case HB => exact hB.mono s1
        case hb => exact hbw.size
        case hl => omega
        intro v2 w2 hR2 _ hg2 _
        have hB2 : Below w1.heap.size w1 w2 := hB.grown hg2 hsw (fun q hq => hR.1 q hq)
        have hsl := Kd.R_slice hR2
        rw [← HN.out] at hR2 hsl
        clear hR hB hg2
        go_wp2
        go_roundw
        case rel => exact ⟨k + 1, by omega, by go_num, hsl, hR2, hB2⟩
        case measure => simp [intOf]; omega
      | false =>
        have hnx : (s.take (k + 1)).filter p = (s.take k).filter p := by rw [htk, List.filter_append]; simp [hp]
        rw [hp] at hfx
        have HN := hid hnx
        clear hnx htk
        go_wp2_with (refine hfx.mono ?_; rintro e w2 ⟨rfl, rfl⟩; clear hfx)
        go_roundw
        case rel => exact ⟨k + 1, by omega, by go_num, ⟨A', c', by rw [HN.out]⟩, by rw [HN.out]; exact hR, hB⟩
        case measure => simp [intOf]; omega
    · have hltI : ¬ (k : Int) < (s.length : Int) := by omega
      obtain rfl : s.length = k := by omega
      have htk : s.take s.length = s := List.take_length
      rw [htk] at hR ⊢
      clear htk
      go_wp2
      go_ret
      exact ⟨A', c', rfl, Kd.R_mono hR (fun q hq => by omega), b1.trans (hB.mono s1)⟩

set_option maxRecDepth 100000 in
theorem Minus_clos {w : World} {A : Option Addr} {c B : Nat} {l : List ByteArray} (h : KS.C w A l.length l) (hB : w.heap[B]? = some (.cells #[.slice A l.length c] 22 (0, 0))) (x : ByteArray) :
  Calls Tryd.prog 45 #[.string x, .pointer (some ⟨B, 0, none⟩)] w fun e w' => e = .returned (.bool (!has l x)) ∧ w = w' := by
  have hc := contains_any (c := c) h x
  have m0 := cell_of_row _ _ 0 _ _ _ hB
  simp at m0
  go_enter Tryd.func45, Tryd.ntmps45
  go_wp2_with fail
  refine hc.mono ?_
  rintro e w1 ⟨rfl, rfl⟩
  go_wp2
  go_ret
  exact ⟨rfl, rfl⟩
set_option maxRecDepth 100000 in
set_option maxHeartbeats 4000000 in
theorem Minus_any {w : World} {A A2 : Option Addr} {c c2 : Nat} {l l2 : List ByteArray} (h : KS.C w A l.length l) (h2 : KS.C w A2 l2.length l2) (hl : l.length * 16 ≤ 140737488355328) :
  Calls Tryd.prog 28 #[.slice A l.length c, .slice A2 l2.length c2] w fun e w' => ∃ A' c', e = .returned (.slice A' ((setS l).filter (fun x => !has l2 x)).length c') ∧ KS.R 9 w' w.heap.size (fun k => w.heap.size ≤ k) (.slice A' ((setS l).filter (fun x => !has l2 x)).length c') ((setS l).filter (fun x => !has l2 x)) ∧ Below w.heap.size w w' := by
  have hb0 := below_alloc (Below.refl w.heap.size w) (.cells #[.slice A2 l2.length c2] 22)
  have hx0 := heap_alloc_new w (.cells #[.slice A2 l2.length c2] 22)
  have hch := chosen_any (w := w.alloc (.cells #[.slice A2 l2.length c2] 22)) (c := c) (f := 45) (B := w.heap.size) (p := fun x => !has l2 x) (enters_of Tryd.func45 (by kernel_rfl) rfl) (Kd.C_alloc h _) hl (fun W hW x => Minus_clos (Kd.C_below (Kd.C_alloc h2 _) hW) ((hW.block _ (blk_lt hx0)).trans hx0) x)
  generalize hp : (fun x : ByteArray => !has l2 x) = p at hch ⊢
  clear hx0
  go_enter Tryd.func28, Tryd.ntmps28
  go_wp2_with fail
  refine hch.mono ?_
  rintro e w1 ⟨A', c', rfl, hR, hb⟩
  go_wp2
  go_ret
  exact ⟨A', c', rfl, Kd.R_mono (Kd.R_lower hR (by rw [World.size_alloc]; omega)) (fun k hk => by rw [World.size_alloc] at hk; omega), hb0.trans (hb.mono (by rw [World.size_alloc]; omega))⟩

set_option maxRecDepth 100000 in
theorem Both_clos {w : World} {A : Option Addr} {c B : Nat} {l : List ByteArray} (h : KS.C w A l.length l) (hB : w.heap[B]? = some (.cells #[.slice A l.length c] 22 (0, 0))) (x : ByteArray) :
  Calls Tryd.prog 47 #[.string x, .pointer (some ⟨B, 0, none⟩)] w fun e w' => e = .returned (.bool (has l x)) ∧ w = w' := by
  have hc := contains_any (c := c) h x
  have m0 := cell_of_row _ _ 0 _ _ _ hB
  simp at m0
  go_enter Tryd.func47, Tryd.ntmps47
  go_wp2_with fail
  refine hc.mono ?_
  rintro e w1 ⟨rfl, rfl⟩
  go_wp2
  go_ret
  exact ⟨rfl, rfl⟩
set_option maxRecDepth 100000 in
set_option maxHeartbeats 4000000 in
theorem Both_any {w : World} {A A2 : Option Addr} {c c2 : Nat} {l l2 : List ByteArray} (h : KS.C w A l.length l) (h2 : KS.C w A2 l2.length l2) (hl : l.length * 16 ≤ 140737488355328) :
  Calls Tryd.prog 29 #[.slice A l.length c, .slice A2 l2.length c2] w fun e w' => ∃ A' c', e = .returned (.slice A' ((setS l).filter (fun x => has l2 x)).length c') ∧ KS.R 9 w' w.heap.size (fun k => w.heap.size ≤ k) (.slice A' ((setS l).filter (fun x => has l2 x)).length c') ((setS l).filter (fun x => has l2 x)) ∧ Below w.heap.size w w' := by
  have hb0 := below_alloc (Below.refl w.heap.size w) (.cells #[.slice A2 l2.length c2] 22)
  have hx0 := heap_alloc_new w (.cells #[.slice A2 l2.length c2] 22)
  have hch := chosen_any (w := w.alloc (.cells #[.slice A2 l2.length c2] 22)) (c := c) (f := 47) (B := w.heap.size) (p := fun x => has l2 x) (enters_of Tryd.func47 (by kernel_rfl) rfl) (Kd.C_alloc h _) hl (fun W hW x => Both_clos (Kd.C_below (Kd.C_alloc h2 _) hW) ((hW.block _ (blk_lt hx0)).trans hx0) x)
  generalize hp : (fun x : ByteArray => has l2 x) = p at hch ⊢
  clear hx0
  go_enter Tryd.func29, Tryd.ntmps29
  go_wp2_with fail
  refine hch.mono ?_
  rintro e w1 ⟨A', c', rfl, hR, hb⟩
  go_wp2
  go_ret
  exact ⟨A', c', rfl, Kd.R_mono (Kd.R_lower hR (by rw [World.size_alloc]; omega)) (fun k hk => by rw [World.size_alloc] at hk; omega), hb0.trans (hb.mono (by rw [World.size_alloc]; omega))⟩
/-- Which of two texts is ahead? -/
def cmpV (a b : ByteArray) : Int := if bl a < bl b then -1 else if bl b < bl a then 1 else 0
theorem isNaN_f (s : ByteArray) : cmp_isNaN_string.f s = some false := by unfold cmp_isNaN_string.f; simp
theorem less_eq (a b : ByteArray) : Op.bytesLess a.toList b.toList = decide (bl a < bl b) := by rw [bytesLess_eq, toL, toL]
set_option maxRecDepth 100000 in
theorem compare_any {w : World} (a b : ByteArray) : Calls Tryd.prog 39 #[.string a, .string b] w fun e w' => e = .returned (.int .i64 (cmpV a b)) ∧ Below w.heap.size w w' := by
  have n1 := fun W => cmp_isNaN_string.calls a false W (isNaN_f a)
  have n2 := fun W => cmp_isNaN_string.calls b false W (isNaN_f b)
  have e1 := less_eq a b
  have e2 := less_eq b a
  have q1 := hid n1
  have q2 := hid n2
  clear n1 n2
  by_cases h1 : bl a < bl b
  · have hv : cmpV a b = -1 := by unfold cmpV; rw [if_pos h1]
    rw [decide_eq_true h1] at e1
    have HV := hid hv
    clear hv e2
    go_enter Tryd.func39, Tryd.ntmps39
    go_wp2_with fail
    refine (q1.out _).mono ?_
    rintro e w1 ⟨rfl, ⟨k1, rfl⟩⟩
    go_wp2_with fail
    refine (q2.out _).mono ?_
    rintro e w1 ⟨rfl, ⟨k2, rfl⟩⟩
    go_wp2
    go_ret
    exact ⟨by rw [HV.out]; rfl, pw_below_drewN (Below.refl _ _) _⟩
  · rw [decide_eq_false h1] at e1
    by_cases h2 : bl b < bl a
    · have hv : cmpV a b = 1 := by unfold cmpV; rw [if_neg h1, if_pos h2]
      rw [decide_eq_true h2] at e2
      have hne : (a.toList == b.toList) = false := by
        rw [toL, toL]
        cases h : (bl a == bl b) with
        | false => rfl
        | true => rw [eq_of_beq h] at h2; exact absurd h2 (BL.lt_irrefl _)
      have hne2 : ¬ a.toList = b.toList := fun h => by rw [toL, toL] at h; rw [h] at h2; exact absurd h2 (BL.lt_irrefl _)
      have HV := hid hv
      clear hv
      go_enter Tryd.func39, Tryd.ntmps39
      go_wp2_with fail
      refine (q1.out _).mono ?_
      rintro e w1 ⟨rfl, ⟨k1, rfl⟩⟩
      go_wp2_with fail
      refine (q2.out _).mono ?_
      rintro e w1 ⟨rfl, ⟨k2, rfl⟩⟩
      go_wp2
      go_ret
      exact ⟨by rw [HV.out]; rfl, pw_below_drewN (Below.refl _ _) _⟩
    · have hab : a = b := bl_inj (BL.eq_of h1 h2)
      subst hab
      have hv : cmpV a a = 0 := by unfold cmpV; rw [if_neg h1, if_neg h1]
      have HV := hid hv
      clear hv e2
      go_enter Tryd.func39, Tryd.ntmps39
      go_wp2_with fail
      refine (q1.out _).mono ?_
      rintro e w1 ⟨rfl, ⟨k1, rfl⟩⟩
      go_wp2_with fail
      refine (q2.out _).mono ?_
      rintro e w1 ⟨rfl, ⟨k2, rfl⟩⟩
      go_wp2
      go_ret
      exact ⟨by rw [HV.out]; rfl, pw_below_drewN (Below.refl _ _) _⟩
theorem Cmp_any {w : World} (a b : ByteArray) : Calls Tryd.prog 19 #[.string a, .string b] w fun e w' => e = .returned (.int .i64 (cmpV a b)) ∧ Below w.heap.size w w' := by
  have hc := fun W => compare_any (w := W) a b
  go_enter Tryd.func19, Tryd.ntmps19
  go_wp2_with fail
  refine (hc _).mono ?_
  rintro e w1 ⟨rfl, b1⟩
  go_wp2
  go_ret
  exact ⟨rfl, b1⟩
end Go.Proofs.YthfoafjjenegaaaDoor
