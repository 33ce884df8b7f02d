/- Law 04: NamesAlgebra, walked (printed by gen_law04a.py). -/
import Derived.Test.YthfoafjjenegaaaDoorNRd
set_option linter.unusedVariables false
set_option linter.unusedSimpArgs false
namespace Go.Proofs.YthfoafjjenegaaaDoor
open Go.RowKit Go.Sort Go.Proofs.YthfoafjjenegaaaDoorW.PrintWords Go.Proofs.YthfoafjjenegaaaDoor.KCarveNA Go.Proofs.YthfoafjjenegaaaDoor.KCarveNB

set_option maxRecDepth 100000 in
set_option maxHeartbeats 16000000 in
theorem algebra_any {w : World} {A0 A1 A2 : Option Addr} {c0 c1 c2 : Nat} {a b c : List ByteArray} (hw : NOK w) (ra : Rd w A0 c0 a) (rb : Rd w A1 c1 b) (rc : Rd w A2 c2 c) (la : a.length ≤ 1048576) (lb : b.length ≤ 1048576) (lc : c.length ≤ 1048576) :
    Calls Tryd.prog 9 #[.slice A0 a.length c0, .slice A1 b.length c1, .slice A2 c.length c2] w fun e w' => e = .returned (.bool true) ∧ Below w.heap.size w w' := by
  have hlv := live_any hw
  obtain ⟨u, hu⟩ : ∃ u, setS (a ++ b) = u := ⟨_, rfl⟩
  obtain ⟨m, hm⟩ : ∃ m, (setS a).filter (fun x => !has b x) = m := ⟨_, rfl⟩
  obtain ⟨n, hn⟩ : ∃ n, (setS a).filter (fun x => has b x) = n := ⟨_, rfl⟩
  obtain ⟨y, hy⟩ : ∃ y, (setS a).filter (fun x => has c x) = y := ⟨_, rfl⟩
  obtain ⟨s, hs⟩ : ∃ s, setS a = s := ⟨_, rfl⟩
  obtain ⟨v, hv⟩ : ∃ v, setS (b ++ c) = v := ⟨_, rfl⟩
  obtain ⟨t, ht⟩ : ∃ t, setS (u ++ c) = t := ⟨_, rfl⟩
  obtain ⟨z, hz⟩ : ∃ z, (setS a).filter (fun x => has v x) = z := ⟨_, rfl⟩
  have q1 := alg1 a b; rw [hu] at q1
  have q2 := alg2 a b; rw [hn] at q2
  have q3 := alg3 (a ++ b); rw [hu] at q3
  have q4 := alg4 a; rw [hs] at q4
  have q6 := alg6 a b; rw [hm, hn, hs] at q6
  have q8 := alg8 a b; rw [hm, hn] at q8
  have q10 := alg10 a b c; rw [hv, hu, ht] at q10
  have q14 := alg14 a b c; rw [hn, hy, hv, hz] at q14
  have lu : u.length ≤ 2097152 := by rw [← hu]; have := setS_len (a ++ b); rw [List.length_append] at this; omega
  have lm : m.length ≤ 1048576 := by rw [← hm]; have h1 := List.length_filter_le (fun x => !has b x) (setS a); have h2 := setS_len a; omega
  have ln : n.length ≤ 1048576 := by rw [← hn]; have h1 := List.length_filter_le (fun x => has b x) (setS a); have h2 := setS_len a; omega
  have ly : y.length ≤ 1048576 := by rw [← hy]; have h1 := List.length_filter_le (fun x => has c x) (setS a); have h2 := setS_len a; omega
  have lv : v.length ≤ 2097152 := by rw [← hv]; have := setS_len (b ++ c); rw [List.length_append] at this; omega
  have lt : t.length ≤ 4194304 := by rw [← ht]; have := setS_len (u ++ c); rw [List.length_append] at this; omega
  have Q := hid (And.intro hu (And.intro hm (And.intro hn (And.intro hy (And.intro hs (And.intro hv (And.intro ht (And.intro hz (And.intro q1 (And.intro q2 (And.intro q3 (And.intro q4 (And.intro q6 (And.intro q8 (And.intro q10 q14)))))))))))))))
  clear hu hm hn hy hs hv ht hz q1 q2 q3 q4 q6 q8 q10 q14 hw
  go_enter Tryd.func9, Tryd.ntmps9
  go_wp2_with fail
  refine hlv.mono ?_
  rintro e w1 ⟨rfl, b1⟩
  clear hlv
  obtain ⟨hu, hm, hn, hy, hs, hv, ht, hz, q1, q2, q3, q4, q6, q8, q10, q14⟩ := Q.out
  replace ra := ra.below b1
  replace rb := rb.below b1
  replace rc := rc.below b1
  have hc := union_rd ra rb (by omega) u hu
  clear hu hm hn hy hs hv ht hz q1 q2 q3 q4 q6 q8 q10 q14
  go_wp2_with fail
  refine hc.mono ?_
  rintro e w2 ⟨A2', c2', rfl, r2, b2⟩
  clear hc
  obtain ⟨hu, hm, hn, hy, hs, hv, ht, hz, q1, q2, q3, q4, q6, q8, q10, q14⟩ := Q.out
  replace ra := ra.below b2
  replace rb := rb.below b2
  replace rc := rc.below b2
  replace b1 := below_step b1 b2
  clear b2
  have hc := minus_rd ra rb (by omega) m hm
  clear hu hm hn hy hs hv ht hz q1 q2 q3 q4 q6 q8 q10 q14
  go_wp2_with fail
  refine hc.mono ?_
  rintro e w3 ⟨A3', c3', rfl, r3, b3⟩
  clear hc
  obtain ⟨hu, hm, hn, hy, hs, hv, ht, hz, q1, q2, q3, q4, q6, q8, q10, q14⟩ := Q.out
  replace ra := ra.below b3
  replace rb := rb.below b3
  replace rc := rc.below b3
  replace r2 := r2.below b3
  replace b1 := below_step b1 b3
  clear b3
  have hc := both_rd ra rb (by omega) n hn
  clear hu hm hn hy hs hv ht hz q1 q2 q3 q4 q6 q8 q10 q14
  go_wp2_with fail
  refine hc.mono ?_
  rintro e w4 ⟨A4', c4', rfl, r4, b4⟩
  clear hc
  obtain ⟨hu, hm, hn, hy, hs, hv, ht, hz, q1, q2, q3, q4, q6, q8, q10, q14⟩ := Q.out
  replace ra := ra.below b4
  replace rb := rb.below b4
  replace rc := rc.below b4
  replace r2 := r2.below b4
  replace r3 := r3.below b4
  replace b1 := below_step b1 b4
  clear b4
  have hc := union_rd rb ra (by omega) u q1
  clear hu hm hn hy hs hv ht hz q1 q2 q3 q4 q6 q8 q10 q14
  go_wp2_with fail
  refine hc.mono ?_
  rintro e w5 ⟨A5', c5', rfl, r5, b5⟩
  clear hc
  obtain ⟨hu, hm, hn, hy, hs, hv, ht, hz, q1, q2, q3, q4, q6, q8, q10, q14⟩ := Q.out
  replace ra := ra.below b5
  replace rb := rb.below b5
  replace rc := rc.below b5
  replace r2 := r2.below b5
  replace r3 := r3.below b5
  replace r4 := r4.below b5
  replace b1 := below_step b1 b5
  clear b5
  have hc := texts_rd r2 r5
  clear hu hm hn hy hs hv ht hz q1 q2 q3 q4 q6 q8 q10 q14
  go_wp2_with fail
  refine hc.mono ?_
  rintro e w6 ⟨rfl, b6⟩
  clear hc
  obtain ⟨hu, hm, hn, hy, hs, hv, ht, hz, q1, q2, q3, q4, q6, q8, q10, q14⟩ := Q.out
  replace ra := ra.below b6
  replace rb := rb.below b6
  replace rc := rc.below b6
  replace r2 := r2.below b6
  replace r3 := r3.below b6
  replace r4 := r4.below b6
  replace r5 := r5.below b6
  replace b1 := below_step b1 b6
  clear b6
  clear r5
  have hc := both_rd rb ra (by omega) n q2
  clear hu hm hn hy hs hv ht hz q1 q2 q3 q4 q6 q8 q10 q14
  go_wp2_with fail
  refine hc.mono ?_
  rintro e w7 ⟨A7', c7', rfl, r7, b7⟩
  clear hc
  obtain ⟨hu, hm, hn, hy, hs, hv, ht, hz, q1, q2, q3, q4, q6, q8, q10, q14⟩ := Q.out
  replace ra := ra.below b7
  replace rb := rb.below b7
  replace rc := rc.below b7
  replace r2 := r2.below b7
  replace r3 := r3.below b7
  replace r4 := r4.below b7
  replace b1 := below_step b1 b7
  clear b7
  have hc := texts_rd r4 r7
  clear hu hm hn hy hs hv ht hz q1 q2 q3 q4 q6 q8 q10 q14
  go_wp2_with fail
  refine hc.mono ?_
  rintro e w8 ⟨rfl, b8⟩
  clear hc
  obtain ⟨hu, hm, hn, hy, hs, hv, ht, hz, q1, q2, q3, q4, q6, q8, q10, q14⟩ := Q.out
  replace ra := ra.below b8
  replace rb := rb.below b8
  replace rc := rc.below b8
  replace r2 := r2.below b8
  replace r3 := r3.below b8
  replace r4 := r4.below b8
  replace r7 := r7.below b8
  replace b1 := below_step b1 b8
  clear b8
  clear r7
  have hc := set_rd r2 (by omega) u q3
  clear hu hm hn hy hs hv ht hz q1 q2 q3 q4 q6 q8 q10 q14
  go_wp2_with fail
  refine hc.mono ?_
  rintro e w9 ⟨A9', c9', rfl, r9, b9⟩
  clear hc
  obtain ⟨hu, hm, hn, hy, hs, hv, ht, hz, q1, q2, q3, q4, q6, q8, q10, q14⟩ := Q.out
  replace ra := ra.below b9
  replace rb := rb.below b9
  replace rc := rc.below b9
  replace r2 := r2.below b9
  replace r3 := r3.below b9
  replace r4 := r4.below b9
  replace b1 := below_step b1 b9
  clear b9
  have hc := texts_rd r9 r2
  clear hu hm hn hy hs hv ht hz q1 q2 q3 q4 q6 q8 q10 q14
  go_wp2_with fail
  refine hc.mono ?_
  rintro e w10 ⟨rfl, b10⟩
  clear hc
  obtain ⟨hu, hm, hn, hy, hs, hv, ht, hz, q1, q2, q3, q4, q6, q8, q10, q14⟩ := Q.out
  replace ra := ra.below b10
  replace rb := rb.below b10
  replace rc := rc.below b10
  replace r2 := r2.below b10
  replace r3 := r3.below b10
  replace r4 := r4.below b10
  replace r9 := r9.below b10
  replace b1 := below_step b1 b10
  clear b10
  clear r9
  have hc := union_rd ra ra (by omega) s q4
  clear hu hm hn hy hs hv ht hz q1 q2 q3 q4 q6 q8 q10 q14
  go_wp2_with fail
  refine hc.mono ?_
  rintro e w11 ⟨A11', c11', rfl, r11, b11⟩
  clear hc
  obtain ⟨hu, hm, hn, hy, hs, hv, ht, hz, q1, q2, q3, q4, q6, q8, q10, q14⟩ := Q.out
  replace ra := ra.below b11
  replace rb := rb.below b11
  replace rc := rc.below b11
  replace r2 := r2.below b11
  replace r3 := r3.below b11
  replace r4 := r4.below b11
  replace b1 := below_step b1 b11
  clear b11
  have hc := set_rd ra (by omega) s hs
  clear hu hm hn hy hs hv ht hz q1 q2 q3 q4 q6 q8 q10 q14
  go_wp2_with fail
  refine hc.mono ?_
  rintro e w12 ⟨A12', c12', rfl, r12, b12⟩
  clear hc
  obtain ⟨hu, hm, hn, hy, hs, hv, ht, hz, q1, q2, q3, q4, q6, q8, q10, q14⟩ := Q.out
  replace ra := ra.below b12
  replace rb := rb.below b12
  replace rc := rc.below b12
  replace r2 := r2.below b12
  replace r3 := r3.below b12
  replace r4 := r4.below b12
  replace r11 := r11.below b12
  replace b1 := below_step b1 b12
  clear b12
  have hc := texts_rd r11 r12
  clear hu hm hn hy hs hv ht hz q1 q2 q3 q4 q6 q8 q10 q14
  go_wp2_with fail
  refine hc.mono ?_
  rintro e w13 ⟨rfl, b13⟩
  clear hc
  obtain ⟨hu, hm, hn, hy, hs, hv, ht, hz, q1, q2, q3, q4, q6, q8, q10, q14⟩ := Q.out
  replace ra := ra.below b13
  replace rb := rb.below b13
  replace rc := rc.below b13
  replace r2 := r2.below b13
  replace r3 := r3.below b13
  replace r4 := r4.below b13
  replace r11 := r11.below b13
  replace r12 := r12.below b13
  replace b1 := below_step b1 b13
  clear b13
  clear r11
  clear r12
  have hc := union_rd r3 r4 (by omega) s q6
  clear hu hm hn hy hs hv ht hz q1 q2 q3 q4 q6 q8 q10 q14
  go_wp2_with fail
  refine hc.mono ?_
  rintro e w14 ⟨A14', c14', rfl, r14, b14⟩
  clear hc
  obtain ⟨hu, hm, hn, hy, hs, hv, ht, hz, q1, q2, q3, q4, q6, q8, q10, q14⟩ := Q.out
  replace ra := ra.below b14
  replace rb := rb.below b14
  replace rc := rc.below b14
  replace r2 := r2.below b14
  replace r3 := r3.below b14
  replace r4 := r4.below b14
  replace b1 := below_step b1 b14
  clear b14
  have hc := set_rd ra (by omega) s hs
  clear hu hm hn hy hs hv ht hz q1 q2 q3 q4 q6 q8 q10 q14
  go_wp2_with fail
  refine hc.mono ?_
  rintro e w15 ⟨A15', c15', rfl, r15, b15⟩
  clear hc
  obtain ⟨hu, hm, hn, hy, hs, hv, ht, hz, q1, q2, q3, q4, q6, q8, q10, q14⟩ := Q.out
  replace ra := ra.below b15
  replace rb := rb.below b15
  replace rc := rc.below b15
  replace r2 := r2.below b15
  replace r3 := r3.below b15
  replace r4 := r4.below b15
  replace r14 := r14.below b15
  replace b1 := below_step b1 b15
  clear b15
  have hc := texts_rd r14 r15
  clear hu hm hn hy hs hv ht hz q1 q2 q3 q4 q6 q8 q10 q14
  go_wp2_with fail
  refine hc.mono ?_
  rintro e w16 ⟨rfl, b16⟩
  clear hc
  obtain ⟨hu, hm, hn, hy, hs, hv, ht, hz, q1, q2, q3, q4, q6, q8, q10, q14⟩ := Q.out
  replace ra := ra.below b16
  replace rb := rb.below b16
  replace rc := rc.below b16
  replace r2 := r2.below b16
  replace r3 := r3.below b16
  replace r4 := r4.below b16
  replace r14 := r14.below b16
  replace r15 := r15.below b16
  replace b1 := below_step b1 b16
  clear b16
  clear r14
  clear r15
  have hc := both_rd r3 r4 (by omega) [] q8
  clear hu hm hn hy hs hv ht hz q1 q2 q3 q4 q6 q8 q10 q14
  go_wp2_with fail
  refine hc.mono ?_
  rintro e w17 ⟨A17', c17', rfl, r17, b17⟩
  clear hc
  obtain ⟨hu, hm, hn, hy, hs, hv, ht, hz, q1, q2, q3, q4, q6, q8, q10, q14⟩ := Q.out
  replace ra := ra.below b17
  replace rb := rb.below b17
  replace rc := rc.below b17
  replace r2 := r2.below b17
  replace r3 := r3.below b17
  replace r4 := r4.below b17
  replace b1 := below_step b1 b17
  clear b17
  clear r17
  have hc := union_rd ra rb (by omega) u hu
  clear hu hm hn hy hs hv ht hz q1 q2 q3 q4 q6 q8 q10 q14
  go_wp2_with fail
  refine hc.mono ?_
  rintro e w18 ⟨A18', c18', rfl, r18, b18⟩
  clear hc
  obtain ⟨hu, hm, hn, hy, hs, hv, ht, hz, q1, q2, q3, q4, q6, q8, q10, q14⟩ := Q.out
  replace ra := ra.below b18
  replace rb := rb.below b18
  replace rc := rc.below b18
  replace r2 := r2.below b18
  replace r3 := r3.below b18
  replace r4 := r4.below b18
  replace b1 := below_step b1 b18
  clear b18
  have hc := union_rd r18 rc (by omega) t ht
  clear hu hm hn hy hs hv ht hz q1 q2 q3 q4 q6 q8 q10 q14
  go_wp2_with fail
  refine hc.mono ?_
  rintro e w19 ⟨A19', c19', rfl, r19, b19⟩
  clear hc
  obtain ⟨hu, hm, hn, hy, hs, hv, ht, hz, q1, q2, q3, q4, q6, q8, q10, q14⟩ := Q.out
  replace ra := ra.below b19
  replace rb := rb.below b19
  replace rc := rc.below b19
  replace r2 := r2.below b19
  replace r3 := r3.below b19
  replace r4 := r4.below b19
  replace r18 := r18.below b19
  replace b1 := below_step b1 b19
  clear b19
  have hc := union_rd rb rc (by omega) v hv
  clear hu hm hn hy hs hv ht hz q1 q2 q3 q4 q6 q8 q10 q14
  go_wp2_with fail
  refine hc.mono ?_
  rintro e w20 ⟨A20', c20', rfl, r20, b20⟩
  clear hc
  obtain ⟨hu, hm, hn, hy, hs, hv, ht, hz, q1, q2, q3, q4, q6, q8, q10, q14⟩ := Q.out
  replace ra := ra.below b20
  replace rb := rb.below b20
  replace rc := rc.below b20
  replace r2 := r2.below b20
  replace r3 := r3.below b20
  replace r4 := r4.below b20
  replace r18 := r18.below b20
  replace r19 := r19.below b20
  replace b1 := below_step b1 b20
  clear b20
  have hc := union_rd ra r20 (by omega) t q10
  clear hu hm hn hy hs hv ht hz q1 q2 q3 q4 q6 q8 q10 q14
  go_wp2_with fail
  refine hc.mono ?_
  rintro e w21 ⟨A21', c21', rfl, r21, b21⟩
  clear hc
  obtain ⟨hu, hm, hn, hy, hs, hv, ht, hz, q1, q2, q3, q4, q6, q8, q10, q14⟩ := Q.out
  replace ra := ra.below b21
  replace rb := rb.below b21
  replace rc := rc.below b21
  replace r2 := r2.below b21
  replace r3 := r3.below b21
  replace r4 := r4.below b21
  replace r18 := r18.below b21
  replace r19 := r19.below b21
  replace r20 := r20.below b21
  replace b1 := below_step b1 b21
  clear b21
  have hc := texts_rd r19 r21
  clear hu hm hn hy hs hv ht hz q1 q2 q3 q4 q6 q8 q10 q14
  go_wp2_with fail
  refine hc.mono ?_
  rintro e w22 ⟨rfl, b22⟩
  clear hc
  obtain ⟨hu, hm, hn, hy, hs, hv, ht, hz, q1, q2, q3, q4, q6, q8, q10, q14⟩ := Q.out
  replace ra := ra.below b22
  replace rb := rb.below b22
  replace rc := rc.below b22
  replace r2 := r2.below b22
  replace r3 := r3.below b22
  replace r4 := r4.below b22
  replace r18 := r18.below b22
  replace r19 := r19.below b22
  replace r20 := r20.below b22
  replace r21 := r21.below b22
  replace b1 := below_step b1 b22
  clear b22
  clear r18
  clear r19
  clear r20
  clear r21
  have hc := union_rd rb rc (by omega) v hv
  clear hu hm hn hy hs hv ht hz q1 q2 q3 q4 q6 q8 q10 q14
  go_wp2_with fail
  refine hc.mono ?_
  rintro e w23 ⟨A23', c23', rfl, r23, b23⟩
  clear hc
  obtain ⟨hu, hm, hn, hy, hs, hv, ht, hz, q1, q2, q3, q4, q6, q8, q10, q14⟩ := Q.out
  replace ra := ra.below b23
  replace rb := rb.below b23
  replace rc := rc.below b23
  replace r2 := r2.below b23
  replace r3 := r3.below b23
  replace r4 := r4.below b23
  replace b1 := below_step b1 b23
  clear b23
  have hc := both_rd ra r23 (by omega) z hz
  clear hu hm hn hy hs hv ht hz q1 q2 q3 q4 q6 q8 q10 q14
  go_wp2_with fail
  refine hc.mono ?_
  rintro e w24 ⟨A24', c24', rfl, r24, b24⟩
  clear hc
  obtain ⟨hu, hm, hn, hy, hs, hv, ht, hz, q1, q2, q3, q4, q6, q8, q10, q14⟩ := Q.out
  replace ra := ra.below b24
  replace rb := rb.below b24
  replace rc := rc.below b24
  replace r2 := r2.below b24
  replace r3 := r3.below b24
  replace r4 := r4.below b24
  replace r23 := r23.below b24
  replace b1 := below_step b1 b24
  clear b24
  have hc := both_rd ra rb (by omega) n hn
  clear hu hm hn hy hs hv ht hz q1 q2 q3 q4 q6 q8 q10 q14
  go_wp2_with fail
  refine hc.mono ?_
  rintro e w25 ⟨A25', c25', rfl, r25, b25⟩
  clear hc
  obtain ⟨hu, hm, hn, hy, hs, hv, ht, hz, q1, q2, q3, q4, q6, q8, q10, q14⟩ := Q.out
  replace ra := ra.below b25
  replace rb := rb.below b25
  replace rc := rc.below b25
  replace r2 := r2.below b25
  replace r3 := r3.below b25
  replace r4 := r4.below b25
  replace r23 := r23.below b25
  replace r24 := r24.below b25
  replace b1 := below_step b1 b25
  clear b25
  have hc := both_rd ra rc (by omega) y hy
  clear hu hm hn hy hs hv ht hz q1 q2 q3 q4 q6 q8 q10 q14
  go_wp2_with fail
  refine hc.mono ?_
  rintro e w26 ⟨A26', c26', rfl, r26, b26⟩
  clear hc
  obtain ⟨hu, hm, hn, hy, hs, hv, ht, hz, q1, q2, q3, q4, q6, q8, q10, q14⟩ := Q.out
  replace ra := ra.below b26
  replace rb := rb.below b26
  replace rc := rc.below b26
  replace r2 := r2.below b26
  replace r3 := r3.below b26
  replace r4 := r4.below b26
  replace r23 := r23.below b26
  replace r24 := r24.below b26
  replace r25 := r25.below b26
  replace b1 := below_step b1 b26
  clear b26
  have hc := union_rd r25 r26 (by omega) z q14
  clear hu hm hn hy hs hv ht hz q1 q2 q3 q4 q6 q8 q10 q14
  go_wp2_with fail
  refine hc.mono ?_
  rintro e w27 ⟨A27', c27', rfl, r27, b27⟩
  clear hc
  obtain ⟨hu, hm, hn, hy, hs, hv, ht, hz, q1, q2, q3, q4, q6, q8, q10, q14⟩ := Q.out
  replace ra := ra.below b27
  replace rb := rb.below b27
  replace rc := rc.below b27
  replace r2 := r2.below b27
  replace r3 := r3.below b27
  replace r4 := r4.below b27
  replace r23 := r23.below b27
  replace r24 := r24.below b27
  replace r25 := r25.below b27
  replace r26 := r26.below b27
  replace b1 := below_step b1 b27
  clear b27
  have hc := texts_rd r24 r27
  clear hu hm hn hy hs hv ht hz q1 q2 q3 q4 q6 q8 q10 q14
  go_wp2_with fail
  refine hc.mono ?_
  rintro e w28 ⟨rfl, b28⟩
  clear hc
  obtain ⟨hu, hm, hn, hy, hs, hv, ht, hz, q1, q2, q3, q4, q6, q8, q10, q14⟩ := Q.out
  replace ra := ra.below b28
  replace rb := rb.below b28
  replace rc := rc.below b28
  replace r2 := r2.below b28
  replace r3 := r3.below b28
  replace r4 := r4.below b28
  replace r23 := r23.below b28
  replace r24 := r24.below b28
  replace r25 := r25.below b28
  replace r26 := r26.below b28
  replace r27 := r27.below b28
  replace b1 := below_step b1 b28
  clear b28
  clear hu hm hn hy hs hv ht hz q1 q2 q3 q4 q6 q8 q10 q14
  go_wp2
  go_ret
  exact ⟨rfl, b1⟩
end Go.Proofs.YthfoafjjenegaaaDoor
