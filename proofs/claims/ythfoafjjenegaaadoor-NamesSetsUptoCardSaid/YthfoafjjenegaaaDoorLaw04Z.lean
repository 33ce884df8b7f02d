/- Law 04: NamesRights, walked. -/
import Derived.Test.YthfoafjjenegaaaDoorNWords
set_option linter.unusedVariables false
set_option linter.unusedSimpArgs false
namespace Go.Proofs.YthfoafjjenegaaaDoor
open Go.RowKit Go.Sort Go.Proofs.YthfoafjjenegaaaDoorW.PrintWords Go.Proofs.YthfoafjjenegaaaDoor.KCarveNA Go.Proofs.YthfoafjjenegaaaDoor.KCarveNB

theorem rwords_any {w : World} : Calls Tryd.prog 13 #[] w fun e w' => ∃ A c, e = .returned (.slice A wordsS.length c) ∧ KS.R 9 w' w.heap.size (fun _ => True) (.slice A wordsS.length c) wordsS ∧ Below w.heap.size w w' :=
  (foundryref04_Words.calls wordsS w words_f).mono fun _ _ ⟨v, h1, h2, h3⟩ => by
    obtain ⟨A, c, rfl⟩ := Kd.R_slice h2
    exact ⟨A, c, h1, h2, h3⟩
theorem rright_any {w : World} (s : ByteArray) (hs : s.size ≤ 9223372036854775807) : Calls Tryd.prog 15 #[.string s] w fun e w' => e = .returned (.int .i64 (rightE s)) ∧ Below w.heap.size w w' :=
  (foundryref04_Right.calls (s.size + 27) s (rightE s) w (rright_f s hs (by omega))).mono fun e w' h => ⟨h.1, by first | exact h.2 | exact h.2.below⟩
theorem rreserved_any {w : World} (s : ByteArray) : Calls Tryd.prog 17 #[.string s] w fun e w' => e = .returned (.bool (resB s)) ∧ Below w.heap.size w w' :=
  (foundryref04_Reserved.calls 24 s (resB s) w (rreserved_f s (by omega))).mono fun e w' h => ⟨h.1, by first | exact h.2 | exact h.2.below⟩
/-- A cell of a row of texts of one's own. -/
theorem KS_cell {w : World} {base g n c : Nat} {ok : Nat → Prop} {l : List ByteArray} (h : KS.R 9 w base ok (.slice (some ⟨g, 0, none⟩) n c) l) {i : Nat} (hi : i < l.length) : w.cell? ⟨g, i, none⟩ = some (.string l[i]) ∧ w.frozen? ⟨g, i, none⟩ = false ∧ base ≤ g := by
  rcases (Kd.own_of_R h).2 with ⟨_, h0⟩ | ⟨g', cap, cur, hv, hb, hh, _, _, _, _⟩
  · omega
  · injection hv with hv1
    injection hv1 with hv1
    injection hv1 with hv1
    subst hv1
    refine ⟨?_, frozen_of_row w g i _ _ hh, hb⟩
    have := KS_at (Kd.R_reads' h).2.2 hi
    have e : (⟨g, 0, none⟩ : Addr).add i = ⟨g, i, none⟩ := by unfold Addr.add; by_cases hj0 : i = 0 <;> simp [hj0]
    rwa [e] at this
set_option maxRecDepth 100000 in
set_option maxHeartbeats 8000000 in
theorem rights_any {w : World} (s : ByteArray) (hw : NOK w) (hs : s.size ≤ 140737488351232) : Calls Tryd.prog 3 #[.string s] w fun e w' => e = .returned (.bool true) ∧ Below w.heap.size w w' := by
  have HW := hid hw
  have hwd := words_any hw
  clear hw
  have hwl : 0 < wordsS.length := by rw [words_len]; omega
  have HL := hid words_len
  go_enter Tryd.func3, Tryd.ntmps3
  go_wp2_with fail
  refine hwd.mono ?_
  rintro e w1 ⟨g, rfl, hR1, b1⟩
  clear hwd
  go_wp2_with fail
  refine rwords_any.mono ?_
  rintro e w2 ⟨A2, c2, rfl, hR2, b2⟩
  have hR12 := Kd.R_below hR1 b2
  have ht := texts_same (Kd.R_reads' hR12).2.2 (Kd.R_reads' hR12).2.1 (Kd.R_reads' hR2).2.2 (Kd.R_reads' hR2).2.1 rfl
  replace b2 := below_step b1 b2
  clear b1 hR1 hR2
  go_wp2_with fail
  refine ht.mono ?_
  rintro e w3 ⟨rfl, b3⟩
  have hR3 := Kd.R_below hR12 b3
  replace b3 := below_step b2 b3
  obtain ⟨k1, k2, k3⟩ := KS_cell hR3 (i := 0) hwl
  have b4 : Below w.heap.size w (w3.setCell ⟨g, 0, none⟩ (.string ⟨#[115, 112, 111, 105, 108, 116]⟩)) := b3.setCell k3 _
  clear ht b2 hR12 hR3 k3 b3
  generalize wordsS[0] = w0 at k1
  go_wp2_with fail
  generalize w3.setCell ⟨g, 0, none⟩ (.string ⟨#[115, 112, 111, 105, 108, 116]⟩) = w4 at b4 ⊢
  clear k1 k2
  have N4 := HW.out.below b4
  refine (words_any N4).mono ?_
  rintro e w5 ⟨g5, rfl, hR5, b5⟩
  replace b5' := below_step b4 b5
  clear N4
  go_wp2_with fail
  refine rwords_any.mono ?_
  rintro e w6 ⟨A6, c6, rfl, hR6, b6⟩
  have hR56 := Kd.R_below hR5 b6
  have ht := texts_same (Kd.R_reads' hR56).2.2 (Kd.R_reads' hR56).2.1 (Kd.R_reads' hR6).2.2 (Kd.R_reads' hR6).2.1 rfl
  have b6' := below_step (below_step b4 b5) b6
  clear b4 b5 b6 hR5 hR56 hR6
  go_wp2_with fail
  refine ht.mono ?_
  rintro e w7 ⟨rfl, b7⟩
  replace b7 := below_step b6' b7
  clear b6' ht
  go_wp2_with fail
  refine (right_any s (by omega)).mono ?_
  rintro e w8 ⟨rfl, b8⟩
  replace b8 := below_step b7 b8
  clear b7
  go_wp2_with fail
  refine (rright_any s (by omega)).mono ?_
  rintro e w9 ⟨rfl, b9⟩
  replace b9 := below_step b8 b9
  clear b8
  go_wp2_with fail
  refine (reserved_any s).mono ?_
  rintro e w10 ⟨rfl, b10⟩
  replace b10 := below_step b9 b10
  clear b9
  go_wp2_with fail
  refine (rreserved_any s).mono ?_
  rintro e w11 ⟨rfl, b11⟩
  replace b11 := below_step b10 b11
  clear b10
  have N11 := HW.out.below b11
  go_wp2_with fail
  refine (live_any N11).mono ?_
  rintro e w12 ⟨rfl, b12⟩
  replace b12 := below_step b11 b12
  clear b11 N11
  go_wp2
  go_ret
  exact ⟨rfl, b12⟩
end Go.Proofs.YthfoafjjenegaaaDoor
