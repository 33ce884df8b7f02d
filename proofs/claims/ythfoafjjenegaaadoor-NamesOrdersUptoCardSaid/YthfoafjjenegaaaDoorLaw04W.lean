/- Law 04: NamesOrders, NamesFar, walked. -/
import Derived.Test.YthfoafjjenegaaaDoorLaw04Z
import Derived.Test.YthfoafjjenegaaaDoorNPlain2
import Derived.Test.YthfoafjjenegaaaDoorLaw04L
set_option linter.unusedVariables false
set_option linter.unusedSimpArgs false
namespace Go.Proofs.YthfoafjjenegaaaDoor
open Go.RowKit Go.Sort Go.Proofs.YthfoafjjenegaaaDoorW.PrintWords Go.Proofs.YthfoafjjenegaaaDoor.KCarveNA Go.Proofs.YthfoafjjenegaaaDoor.KCarveNB

theorem far_any {w : World} (a b : ByteArray) (h : a.size + 1 + b.size ≤ 9223372036854775807) : Calls Tryd.prog 23 #[.string a, .string b] w fun e w' => e = .returned (.string (farV a b)) ∧ Below w.heap.size w w' :=
  (names_Far.calls a b _ w (far_f a b h).1).mono fun e w' h => ⟨h.1, by first | exact h.2 | exact h.2.below⟩
theorem rfar_any {w : World} (a b : ByteArray) (h : a.size + 1 + b.size ≤ 9223372036854775807) : Calls Tryd.prog 24 #[.string a, .string b] w fun e w' => e = .returned (.string (farV a b)) ∧ Below w.heap.size w w' :=
  (foundryref04_Far.calls a b _ w (far_f a b h).2).mono fun e w' h => ⟨h.1, by first | exact h.2 | exact h.2.below⟩
theorem rcmp_any {w : World} (a b : ByteArray) (h : a.size ≤ 9223372036854775807) : Calls Tryd.prog 22 #[.string a, .string b] w fun e w' => e = .returned (.int .i64 (cmpV a b)) ∧ Below w.heap.size w w' :=
  (foundryref04_Cmp.calls (2 * a.size + 2) a b _ w (rcmp_f a b h (by omega))).mono fun e w' h => ⟨h.1, by first | exact h.2 | exact h.2.below⟩
theorem rsplit_any {w : World} (s : ByteArray) (hs : s.size < 4294967281) : Calls Tryd.prog 21 #[.string s] w fun e w' => e = .returned (.tuple #[.string (splitV s).1, .string (splitV s).2.1, .int .i64 (splitV s).2.2]) ∧ Below w.heap.size w w' :=
  (foundryref04_Split.calls (2 * s.size + 29) s (splitV s).1 (splitV s).2.1 (splitV s).2.2 w (rsplit_f s hs (by omega))).mono fun e w' h => ⟨h.1, by first | exact h.2 | exact h.2.below⟩
set_option maxRecDepth 100000 in
set_option maxHeartbeats 8000000 in
theorem orders_any {w : World} (a b : ByteArray) (hw : NOK w) (la : a.size ≤ 1048576) (lb : b.size ≤ 1048576) : Calls Tryd.prog 6 #[.string a, .string b] w fun e w' => e = .returned (.bool true) ∧ Below w.heap.size w w' := by
  have HW := hid hw
  have c1 := split_any a (by omega) hw
  have c2 := fun W : World => rsplit_any (w := W) a (by omega)
  obtain ⟨⟨p, q, r⟩, hv⟩ : ∃ v, splitV a = v := ⟨_, rfl⟩
  rw [hv] at c1 c2
  dsimp only at c1 c2
  have C2 := hid c2
  have c3 := fun W : World => Cmp_any (w := W) a b
  have c4 := fun W : World => rcmp_any (w := W) a b (by omega)
  have c5 := fun W : World => far_any (w := W) a b (by omega)
  have c6 := fun W : World => rfar_any (w := W) a b (by omega)
  generalize cmpV a b = x at c3 c4
  generalize farV a b = f at c5 c6
  have C3 := hid c3
  have C4 := hid c4
  have C5 := hid c5
  have C6 := hid c6
  clear c2 c3 c4 c5 c6 hv hw
  go_enter Tryd.func6, Tryd.ntmps6
  go_wp2_with fail
  refine c1.mono ?_
  rintro e w1 ⟨rfl, b1⟩
  clear c1
  go_wp2_with fail
  refine (C2.out _).mono ?_
  rintro e w2 ⟨rfl, b2⟩
  replace b2 := below_step b1 b2
  clear b1
  go_wp2_with fail
  refine (C3.out _).mono ?_
  rintro e w3 ⟨rfl, b3⟩
  replace b3 := below_step b2 b3
  clear b2
  go_wp2_with fail
  refine (C4.out _).mono ?_
  rintro e w4 ⟨rfl, b4⟩
  replace b4 := below_step b3 b4
  clear b3
  go_wp2_with fail
  refine (C5.out _).mono ?_
  rintro e w5 ⟨rfl, b5⟩
  replace b5 := below_step b4 b5
  clear b4
  go_wp2_with fail
  refine (C6.out _).mono ?_
  rintro e w6 ⟨rfl, b6⟩
  replace b6 := below_step b5 b6
  clear b5
  go_wp2_with fail
  refine (live_any (HW.out.below b6)).mono ?_
  rintro e w7 ⟨rfl, b7⟩
  replace b7 := below_step b6 b7
  clear b6
  go_wp2
  go_ret
  exact ⟨rfl, b7⟩
/-! Far names. -/
theorem splitV_bad (s : ByteArray) : (splitV s).2.2 = 0 ∨ ((splitV s).1 = E0 ∧ (splitV s).2.1 = E0 ∧ (splitV s).2.2 ≠ 0) := by
  unfold splitV
  split
  · exact .inr ⟨rfl, rfl, by decide⟩
  · split
    · exact .inr ⟨rfl, rfl, by assumption⟩
    · split
      · exact .inr ⟨rfl, rfl, by assumption⟩
      · exact .inl rfl
theorem word_46 : wordB 46 = false := by decide
theorem far_bl (a b : ByteArray) : bl (farV a b) = bl a ++ 46 :: bl b := by unfold farV; rw [bl_append, bl_append, List.append_assoc]; rfl
theorem split_far {a b : ByteArray} (ha : rightE a = 0) (hb : rightE b = 0) : splitV (farV a b) = (a, b, 0) := by
  obtain ⟨_, _, wa, _⟩ := right_zero ha
  have hsz : (farV a b).size = a.size + 1 + b.size := by rw [← bl_size, far_bl, List.length_append, List.length_cons, bl_size, bl_size]; omega
  have hfirst : ∀ j : Nat, j < a.size → bt (farV a b) j = bt a j := fun j hj => by unfold farV; rw [bt_app_l _ _ (by rw [size_append]; omega), bt_app_l _ _ hj]
  have hdot : bt (farV a b) (a.size : Nat) = 46 := by
    rw [bt_46 _ (by omega), far_bl, List.getElem?_append_right (by rw [bl_size]; omega), bl_size, Nat.sub_self]
    rfl
  have hc := cut_hit (farV a b) (i := a.size) (by omega) hdot (fun j hj e => by
    rw [hfirst j hj] at e
    have := wa j hj
    rw [e, word_46] at this
    cases this)
  have e1 : (bl (farV a b)).take a.size = bl a := by rw [far_bl, ← bl_size, List.take_left]
  have e2 : (bl (farV a b)).drop (a.size + 1) = bl b := by
    rw [far_bl, ← bl_size, ← List.drop_drop, List.drop_left]
    rfl
  unfold splitV
  rw [hc, e1, e2]
  dsimp only
  rw [tx_bl, tx_bl, if_neg (by simp), if_neg (fun h => h ha), if_neg (fun h => h hb)]
theorem far_inj {a b c d : ByteArray} (ha : rightE a = 0) (hb : rightE b = 0) (hc : rightE c = 0) (hd : rightE d = 0) : farV a b = farV c d ↔ a = c ∧ b = d := by
  constructor
  · intro h
    have h1 := split_far ha hb
    rw [h, split_far hc hd] at h1
    simp only [Prod.mk.injEq] at h1
    exact ⟨h1.1.symm, h1.2.1.symm⟩
  · rintro ⟨rfl, rfl⟩; rfl
theorem toL_ne {a b : ByteArray} (h : a ≠ b) : (a.toList == b.toList) = false ∧ ¬ a.toList = b.toList := by
  have : ¬ a.toList = b.toList := fun e => h (bl_inj (by rw [toL, toL] at e; exact e))
  exact ⟨beq_eq_false_iff_ne.2 this, this⟩
end Go.Proofs.YthfoafjjenegaaaDoor
