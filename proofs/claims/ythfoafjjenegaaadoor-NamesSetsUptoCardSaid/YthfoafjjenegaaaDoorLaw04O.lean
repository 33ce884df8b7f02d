/- Law 04: NamesOrder, walked. -/
import Derived.Test.YthfoafjjenegaaaDoorNWords
set_option linter.unusedVariables false
set_option linter.unusedSimpArgs false
namespace Go.Proofs.YthfoafjjenegaaaDoor
open Go.RowKit Go.Sort Go.Proofs.YthfoafjjenegaaaDoorW.PrintWords Go.Proofs.YthfoafjjenegaaaDoor.KCarveNA Go.Proofs.YthfoafjjenegaaaDoor.KCarveNB

theorem bl_append (a b : ByteArray) : bl (a ++ b) = bl a ++ bl b := by simp [bl]
theorem lt_append (c a b : BL) : c ++ a < c ++ b ↔ a < b := by
  induction c with
  | nil => rfl
  | cons x c ih => rw [List.cons_append, List.cons_append, List.cons_lt_cons_iff]; simp [ih]
theorem lt_longer (c a : BL) (h : a ≠ []) : c < c ++ a := by
  have : c ++ [] < c ++ a := by
    rw [lt_append]
    cases a with
    | nil => exact absurd rfl h
    | cons x a => exact List.nil_lt_cons x a
  simpa using this
theorem cmp_bnd (a b : ByteArray) : -1 ≤ cmpV a b ∧ cmpV a b ≤ 1 := by unfold cmpV; split <;> (try split) <;> omega
theorem cmp_neg (a b : ByteArray) : cmpV b a = - cmpV a b := by
  unfold cmpV
  by_cases h1 : bl a < bl b
  · simp [h1, BL.lt_asymm h1]
  · by_cases h2 : bl b < bl a
    · simp [h1, h2]
    · simp [h1, h2]
theorem cmp_zero {a b : ByteArray} : cmpV a b = 0 ↔ a = b := by
  unfold cmpV
  constructor
  · intro h
    split at h
    · omega
    · split at h
      · omega
      · exact bl_inj (BL.eq_of (by assumption) (by assumption))
  · rintro rfl
    rw [if_neg (BL.lt_irrefl _), if_neg (BL.lt_irrefl _)]
theorem cmp_le {a b : ByteArray} : cmpV a b ≤ 0 ↔ ¬ bl b < bl a := by
  unfold cmpV
  by_cases h1 : bl a < bl b
  · rw [if_pos h1]; exact ⟨fun _ => BL.lt_asymm h1, fun _ => by omega⟩
  · rw [if_neg h1]
    by_cases h2 : bl b < bl a
    · rw [if_pos h2]; exact ⟨fun h => by omega, fun h => absurd h2 h⟩
    · rw [if_neg h2]; exact ⟨fun _ => h2, fun _ => by omega⟩
theorem cmp_append (c a b : ByteArray) : cmpV (c ++ a) (c ++ b) = cmpV a b := by
  unfold cmpV
  simp only [bl_append, lt_append]
theorem cmp_longer (c a : ByteArray) (h : a ≠ ⟨#[]⟩) : cmpV c (c ++ a) = -1 := by
  unfold cmpV
  rw [if_pos]
  rw [bl_append]
  exact lt_longer _ _ (fun e => h (bl_inj (by rw [e]; rfl)))
theorem cmp_trans {a b c : ByteArray} (h1 : cmpV a b ≤ 0) (h2 : cmpV b c ≤ 0) : cmpV a c ≤ 0 := by
  rw [cmp_le] at *
  exact fun h => h2 (by
    rcases Classical.em (bl b = bl a) with e | e
    · rw [e]; exact h
    · exact BL.lt_trans h (Classical.byContradiction fun k => e (BL.eq_of h1 k)))
set_option maxRecDepth 100000 in
set_option maxHeartbeats 8000000 in
theorem order_any {w : World} (a b c : ByteArray) (hw : NOK w) (ha : a.size ≤ 140737488351232) (hb : b.size ≤ 140737488351232) (hc : c.size ≤ 140737488351232) : Calls Tryd.prog 4 #[.string a, .string b, .string c] w fun e w' => e = .returned (.bool true) ∧ Below w.heap.size w w' := by
  have c1 := fun W : World => Cmp_any (w := W) a b
  have c2 := fun W : World => Cmp_any (w := W) b a
  have c3 := fun W : World => Cmp_any (w := W) (c ++ a) (c ++ b)
  have c4 := fun W : World => Cmp_any (w := W) c (c ++ a)
  have c5 := fun W : World => Cmp_any (w := W) b c
  have c6 := fun W : World => Cmp_any (w := W) a c
  have k1 := cmp_bnd a b
  have k5 := cmp_bnd b c
  have k6 := cmp_bnd a c
  have kz : cmpV a b = 0 ↔ a = b := cmp_zero
  have kl : a ≠ ⟨#[]⟩ → cmpV c (c ++ a) = -1 := cmp_longer c a
  have kt : cmpV a b ≤ 0 → cmpV b c ≤ 0 → cmpV a c ≤ 0 := cmp_trans
  have k4 := cmp_bnd c (c ++ a)
  rw [cmp_neg a b] at c2
  rw [cmp_append] at c3
  generalize cmpV a b = x at c1 c2 c3 k1 kz kt
  generalize cmpV c (c ++ a) = y at c4 kl k4
  generalize cmpV b c = z at c5 k5 kt
  generalize cmpV a c = u at c6 k6 kt
  have H := hid (And.intro c1 (And.intro c2 (And.intro c3 (And.intro c4 (And.intro c5 c6)))))
  clear c1 c2 c3 c4 c5 c6
  have hsz1 : c.size + a.size ≤ 9223372036854775807 := by omega
  have hsz2 : c.size + b.size ≤ 9223372036854775807 := by omega
  have heq : (x == 0) = (a.toList == b.toList) := by
    by_cases h : a = b
    · rw [kz.2 h, h]; simp
    · have h1 : ¬ x = 0 := fun e => h (kz.1 e)
      have h2 : ¬ a.toList = b.toList := fun e => h (bl_inj (by rw [toL, toL] at e; exact e))
      rw [beq_eq_false_iff_ne.2 h1, beq_eq_false_iff_ne.2 h2]
  have HE := hid heq
  have HK := hid (And.intro kl kt)
  clear heq kz kl kt
  have hlv := live_any hw
  go_enter Tryd.func4, Tryd.ntmps4
  go_wp2_with fail
  refine hlv.mono ?_
  rintro e w1 ⟨rfl, b1⟩
  clear hlv
  go_wp2_with fail
  refine (H.out.1 _).mono ?_
  rintro e w2 ⟨rfl, b2⟩
  replace b2 := below_step b1 b2
  clear b1
  go_wp2_with fail
  refine (H.out.2.1 _).mono ?_
  rintro e w3 ⟨rfl, b3⟩
  replace b3 := below_step b2 b3
  clear b2
  have he := HE.out
  go_wp2_with fail
  refine (H.out.2.2.1 _).mono ?_
  rintro e w4 ⟨rfl, b4⟩
  replace b4 := below_step b3 b4
  clear b3
  by_cases hx : x ≤ 0
  · by_cases hz : z ≤ 0
    · have hu : u ≤ 0 := HK.out.2 hx hz
      by_cases ha0 : a = ⟨#[]⟩
      · have e1 : (a.toList == []) = true := by rw [toL, ha0]; rfl
        have e2 : (a.toList.isEmpty) = true := by rw [toL, ha0]; rfl
        have e3 : a.toList = [] := by rw [toL, ha0]; rfl
        have e4 : (a.toList != []) = false := by rw [toL, ha0]; rfl
        clear ha0
        go_wp2_with fail
        refine (H.out.2.2.2.2.1 _).mono ?_
        rintro e w5 ⟨rfl, b5⟩
        replace b5 := below_step b4 b5
        clear b4
        go_wp2_with fail
        refine (H.out.2.2.2.2.2 _).mono ?_
        rintro e w6 ⟨rfl, b6⟩
        replace b6 := below_step b5 b6
        clear b5
        go_wp2
        go_ret
        exact ⟨rfl, b6⟩
      · have hy : y = -1 := HK.out.1 ha0
        subst hy
        have n0 : bl a ≠ [] := fun e => ha0 (bl_inj (by rw [e]; rfl))
        have e1 : (a.toList == []) = false := by rw [toL]; exact beq_eq_false_iff_ne.2 n0
        have e2 : (a.toList.isEmpty) = false := by rw [toL]; cases h : bl a with | nil => exact absurd h n0 | cons _ _ => rfl
        have e3 : ¬ a.toList = [] := by rw [toL]; exact n0
        have e4 : (a.toList != []) = true := by rw [toL]; simpa using n0
        clear ha0 n0
        go_wp2_with fail
        refine (H.out.2.2.2.1 _).mono ?_
        rintro e w9 ⟨rfl, b9⟩
        replace b9 := below_step b4 b9
        clear b4
        go_wp2_with fail
        refine (H.out.2.2.2.2.1 _).mono ?_
        rintro e w5 ⟨rfl, b5⟩
        replace b5 := below_step b9 b5
        clear b9
        go_wp2_with fail
        refine (H.out.2.2.2.2.2 _).mono ?_
        rintro e w6 ⟨rfl, b6⟩
        replace b6 := below_step b5 b6
        clear b5
        go_wp2
        go_ret
        exact ⟨rfl, b6⟩
    · have hzz : ¬ z ≤ 0 := hz
      by_cases ha0 : a = ⟨#[]⟩
      · have e1 : (a.toList == []) = true := by rw [toL, ha0]; rfl
        have e2 : (a.toList.isEmpty) = true := by rw [toL, ha0]; rfl
        have e3 : a.toList = [] := by rw [toL, ha0]; rfl
        have e4 : (a.toList != []) = false := by rw [toL, ha0]; rfl
        clear ha0
        go_wp2_with fail
        refine (H.out.2.2.2.2.1 _).mono ?_
        rintro e w5 ⟨rfl, b5⟩
        replace b5 := below_step b4 b5
        clear b4
        go_wp2
        go_ret
        exact ⟨rfl, b5⟩
      · have hy : y = -1 := HK.out.1 ha0
        subst hy
        have n0 : bl a ≠ [] := fun e => ha0 (bl_inj (by rw [e]; rfl))
        have e1 : (a.toList == []) = false := by rw [toL]; exact beq_eq_false_iff_ne.2 n0
        have e2 : (a.toList.isEmpty) = false := by rw [toL]; cases h : bl a with | nil => exact absurd h n0 | cons _ _ => rfl
        have e3 : ¬ a.toList = [] := by rw [toL]; exact n0
        have e4 : (a.toList != []) = true := by rw [toL]; simpa using n0
        clear ha0 n0
        go_wp2_with fail
        refine (H.out.2.2.2.1 _).mono ?_
        rintro e w9 ⟨rfl, b9⟩
        replace b9 := below_step b4 b9
        clear b4
        go_wp2_with fail
        refine (H.out.2.2.2.2.1 _).mono ?_
        rintro e w5 ⟨rfl, b5⟩
        replace b5 := below_step b9 b5
        clear b9
        go_wp2
        go_ret
        exact ⟨rfl, b5⟩
  · have hxx : ¬ x ≤ 0 := hx
    by_cases ha0 : a = ⟨#[]⟩
    · have e1 : (a.toList == []) = true := by rw [toL, ha0]; rfl
      have e2 : (a.toList.isEmpty) = true := by rw [toL, ha0]; rfl
      have e3 : a.toList = [] := by rw [toL, ha0]; rfl
      have e4 : (a.toList != []) = false := by rw [toL, ha0]; rfl
      clear ha0
      go_wp2
      go_ret
      exact ⟨rfl, b4⟩
    · have hy : y = -1 := HK.out.1 ha0
      subst hy
      have n0 : bl a ≠ [] := fun e => ha0 (bl_inj (by rw [e]; rfl))
      have e1 : (a.toList == []) = false := by rw [toL]; exact beq_eq_false_iff_ne.2 n0
      have e2 : (a.toList.isEmpty) = false := by rw [toL]; cases h : bl a with | nil => exact absurd h n0 | cons _ _ => rfl
      have e3 : ¬ a.toList = [] := by rw [toL]; exact n0
      have e4 : (a.toList != []) = true := by rw [toL]; simpa using n0
      clear ha0 n0
      go_wp2_with fail
      refine (H.out.2.2.2.1 _).mono ?_
      rintro e w9 ⟨rfl, b9⟩
      replace b9 := below_step b4 b9
      clear b4
      go_wp2
      go_ret
      exact ⟨rfl, b9⟩
end Go.Proofs.YthfoafjjenegaaaDoor
