/- Law 04: NamesSets, walked (printed by gen_law04s.py). -/
import Derived.Test.YthfoafjjenegaaaDoorLaw04M
set_option linter.unusedVariables false
set_option linter.unusedSimpArgs false
namespace Go.Proofs.YthfoafjjenegaaaDoor
open Go.RowKit Go.Sort Go.Proofs.YthfoafjjenegaaaDoorW.PrintWords Go.Proofs.YthfoafjjenegaaaDoor.KCarveNA Go.Proofs.YthfoafjjenegaaaDoor.KCarveNB

abbrev Sml (l : List ByteArray) : Prop := l.length ≤ 1048576 ∧ ∀ x ∈ l, x.size ≤ 1048576
theorem rset_rd {W : World} {A : Option Addr} {c : Nat} {l : List ByteArray} (h : Rd W A c l) (hl : Sml l) (r : List ByteArray) (hr : setS l = r) :
    Calls Tryd.prog 31 #[.slice A l.length c] W fun e W' => ∃ A' c', e = .returned (.slice A' r.length c') ∧ Rd W' A' c' r ∧ Below W.heap.size W W' := by
  subst hr
  exact (foundryref04_Set.calls 5000000 A c l (setS l) W h.C h.le (rset_f l 1048576 hl.2 (by omega) (by have := hl.1; omega) (by have := hl.1; omega))).mono fun e W' ⟨v, h1, h2, h3⟩ => by
    obtain ⟨A', c', rfl, hR⟩ := KS_own h2
    exact ⟨A', c', h1, Rd.of_R hR, h3⟩
theorem runion_rd {W : World} {A A2 : Option Addr} {c c2 : Nat} {l l2 : List ByteArray} (h : Rd W A c l) (h2 : Rd W A2 c2 l2) (hl : Sml l) (hl2 : Sml l2) (r : List ByteArray) (hr : setS (l ++ l2) = r) :
    Calls Tryd.prog 32 #[.slice A l.length c, .slice A2 l2.length c2] W fun e W' => ∃ A' c', e = .returned (.slice A' r.length c') ∧ Rd W' A' c' r ∧ Below W.heap.size W W' := by
  subst hr
  exact (foundryref04_Union.calls 9000000 A c l A2 c2 l2 (setS (l ++ l2)) W h.C h.le h2.C h2.le (runion_f l l2 1048576 hl.2 hl2.2 (by omega) (by have := hl.1; have := hl2.1; omega) (by have := hl.1; have := hl2.1; omega))).mono fun e W' ⟨v, h1, h2, h3⟩ => by
    obtain ⟨A', c', rfl, hR⟩ := KS_own h2
    exact ⟨A', c', h1, Rd.of_R hR, h3⟩
theorem rminus_rd {W : World} {A A2 : Option Addr} {c c2 : Nat} {l l2 : List ByteArray} (h : Rd W A c l) (h2 : Rd W A2 c2 l2) (hl : Sml l) (hl2 : Sml l2) (r : List ByteArray) (hr : (setS l).filter (fun x => !has l2 x) = r) :
    Calls Tryd.prog 33 #[.slice A l.length c, .slice A2 l2.length c2] W fun e W' => ∃ A' c', e = .returned (.slice A' r.length c') ∧ Rd W' A' c' r ∧ Below W.heap.size W W' := by
  subst hr
  exact (foundryref04_Minus.calls 9000000 A c l A2 c2 l2 _ W h.C h.le h2.C h2.le (rminus_f l l2 1048576 hl.2 (by omega) (by have := hl.1; omega) (by have := hl2.1; omega) (by have := hl.1; have := hl2.1; omega))).mono fun e W' ⟨v, h1, h2, h3⟩ => by
    obtain ⟨A', c', rfl, hR⟩ := KS_own h2
    exact ⟨A', c', h1, Rd.of_R hR, h3⟩
theorem rboth_rd {W : World} {A A2 : Option Addr} {c c2 : Nat} {l l2 : List ByteArray} (h : Rd W A c l) (h2 : Rd W A2 c2 l2) (hl : Sml l) (hl2 : Sml l2) (r : List ByteArray) (hr : (setS l).filter (fun x => has l2 x) = r) :
    Calls Tryd.prog 34 #[.slice A l.length c, .slice A2 l2.length c2] W fun e W' => ∃ A' c', e = .returned (.slice A' r.length c') ∧ Rd W' A' c' r ∧ Below W.heap.size W W' := by
  subst hr
  exact (foundryref04_Both.calls 9000000 A c l A2 c2 l2 _ W h.C h.le h2.C h2.le (rboth_f l l2 1048576 hl.2 (by omega) (by have := hl.1; omega) (by have := hl2.1; omega) (by have := hl.1; have := hl2.1; omega))).mono fun e W' ⟨v, h1, h2, h3⟩ => by
    obtain ⟨A', c', rfl, hR⟩ := KS_own h2
    exact ⟨A', c', h1, Rd.of_R hR, h3⟩
/-- A row of texts of one's own, its address. -/
theorem KS_addr {w : World} {base n c : Nat} {ok : Nat → Prop} {A : Option Addr} {l : List ByteArray} (h : KS.R 9 w base ok (.slice A n c) l) (hn : 0 < l.length) : ∃ g, A = some ⟨g, 0, none⟩ := by
  rcases (Kd.own_of_R h).2 with ⟨_, h0⟩ | ⟨g', cap, cur, hv, hb, hh, _, _, _, _⟩
  · omega
  · injection hv with hv1
    exact ⟨g', hv1⟩
set_option maxRecDepth 100000 in
set_option maxHeartbeats 16000000 in
theorem sets_any {w : World} {A0 A1 : Option Addr} {c0 c1 : Nat} {a b : List ByteArray} (s : ByteArray) (hw : NOK w) (ra : Rd w A0 c0 a) (rb : Rd w A1 c1 b) (la : Sml a) (lb : Sml b) :
    Calls Tryd.prog 10 #[.slice A0 a.length c0, .slice A1 b.length c1, .string s] w fun e w' => e = .returned (.bool true) ∧ Below w.heap.size w w' := by
  have HW := hid hw
  obtain ⟨u, hu⟩ : ∃ u, setS (a ++ b) = u := ⟨_, rfl⟩
  obtain ⟨m, hm⟩ : ∃ m, (setS a).filter (fun x => !has b x) = m := ⟨_, rfl⟩
  obtain ⟨n, hn⟩ : ∃ n, (setS a).filter (fun x => has b x) = n := ⟨_, rfl⟩
  obtain ⟨z, hz⟩ : ∃ z, setS a = z := ⟨_, rfl⟩
  have Q := hid (And.intro hu (And.intro hm (And.intro hn (And.intro hz (And.intro la lb)))))
  have l1 := la.1
  have l2 := lb.1
  clear hu hm hn hz la lb hw
  go_enter Tryd.func10, Tryd.ntmps10
  go_wp2_with (at_builtin; refine Kd.R_append_rows KS (w0 := w) w.heap.size rfl (.tmp 15) (.tmp 16) 22 9 (.string ⟨#[]⟩) 16 rfl Tryd.underlying22 info_str rfl (by decide) (by decide) _ [] a A0 a.length c0 (fun _ => True) (fun _ => False) rfl rfl ?HO ?HR (fun _ _ h => h) (fun _ h => h.elim) (fun _ _ => trivial) ?HB ?hb ?hl ?_)
  case HO => exact Kd.R_of_own (World.ownsRow_made (base := w.heap.size) w #[] 0 (Nat.le_refl _) (Nat.zero_le _) rfl) (fun _ _ => trivial)
  case HR => exact Kd.C_below ra.C (below_alloc (Below.refl _ _) _)
  case HB => exact below_alloc (Below.refl _ _) _
  case hb => simp
  case hl => simp; omega
  intro v1 w1 hR1 b1 _ _

  obtain ⟨A1', c1', rfl, hR1'⟩ := KS_own hR1
  replace ra := ra.below b1
  replace rb := rb.below b1
  have rx := Rd.of_R hR1'
  clear hR1 hR1'
  go_wp2_with (at_builtin; refine Kd.R_append_rows KS (w0 := w1) w1.heap.size rfl (.tmp 18) (.tmp 19) 22 9 (.string ⟨#[]⟩) 16 rfl Tryd.underlying22 info_str rfl (by decide) (by decide) _ [] b A1 b.length c1 (fun _ => True) (fun _ => False) rfl rfl ?HO ?HR (fun _ _ h => h) (fun _ h => h.elim) (fun _ _ => trivial) ?HB ?hb ?hl ?_)
  case HO => exact Kd.R_of_own (World.ownsRow_made (base := w1.heap.size) w1 #[] 0 (Nat.le_refl _) (Nat.zero_le _) rfl) (fun _ _ => trivial)
  case HR => exact Kd.C_below rb.C (below_alloc (Below.refl _ _) _)
  case HB => exact below_alloc (Below.refl _ _) _
  case hb => simp
  case hl => simp; omega
  intro v2 w2 hR2 b2 _ _

  obtain ⟨A2', c2', rfl, hR2'⟩ := KS_own hR2
  replace ra := ra.below b2
  replace rb := rb.below b2
  replace rx := rx.below b2
  have ry := Rd.of_R hR2'
  replace b1 := below_step b1 b2
  clear hR2 hR2' b2
  have hc := nfind_any rx s
  have hc2 := fun (W : World) (h : Below w2.heap.size w2 W) => rfind_any (ra.below h) s
  generalize findI a s = q at hc hc2
  generalize has a s = hh at hc hc2
  have HC2 := hid hc2
  clear hc2
  go_wp2_with fail
  refine hc.mono ?_
  rintro e w3 ⟨rfl, b3⟩
  have hc := HC2.out w3 b3
  clear HC2
  replace ra := ra.below b3
  replace rb := rb.below b3
  replace rx := rx.below b3
  replace ry := ry.below b3
  replace b1 := below_step b1 b3
  clear b3
  go_wp2_with fail
  refine hc.mono ?_
  rintro e w4 ⟨rfl, b4⟩
  clear hc
  replace ra := ra.below b4
  replace rb := rb.below b4
  replace rx := rx.below b4
  replace ry := ry.below b4
  replace b1 := below_step b1 b4
  clear b4
  obtain ⟨hu, hm, hn, hz, la, lb⟩ := Q.out
  have hc := set_rd rx (by omega) z hz
  clear hu hm hn hz la lb
  go_wp2_with fail
  refine hc.mono ?_
  rintro e w5 ⟨A5', c5', rfl, r5, b5⟩
  clear hc
  obtain ⟨hu, hm, hn, hz, la, lb⟩ := Q.out
  replace ra := ra.below b5
  replace rb := rb.below b5
  replace rx := rx.below b5
  replace ry := ry.below b5
  replace b1 := below_step b1 b5
  clear b5
  have hc := rset_rd ra la z hz
  clear hu hm hn hz la lb
  go_wp2_with fail
  refine hc.mono ?_
  rintro e w6 ⟨A6', c6', rfl, r6, b6⟩
  clear hc
  obtain ⟨hu, hm, hn, hz, la, lb⟩ := Q.out
  replace ra := ra.below b6
  replace rb := rb.below b6
  replace rx := rx.below b6
  replace ry := ry.below b6
  replace r5 := r5.below b6
  replace b1 := below_step b1 b6
  clear b6
  have hc := texts_rd r5 r6
  clear hu hm hn hz la lb
  go_wp2_with fail
  refine hc.mono ?_
  rintro e w7 ⟨rfl, b7⟩
  clear hc
  obtain ⟨hu, hm, hn, hz, la, lb⟩ := Q.out
  replace ra := ra.below b7
  replace rb := rb.below b7
  replace rx := rx.below b7
  replace ry := ry.below b7
  replace r5 := r5.below b7
  replace r6 := r6.below b7
  replace b1 := below_step b1 b7
  clear b7
  clear r5
  clear r6
  have hc := union_rd rx ry (by omega) u hu
  clear hu hm hn hz la lb
  go_wp2_with fail
  refine hc.mono ?_
  rintro e w8 ⟨A8', c8', rfl, r8, b8⟩
  clear hc
  obtain ⟨hu, hm, hn, hz, la, lb⟩ := Q.out
  replace ra := ra.below b8
  replace rb := rb.below b8
  replace rx := rx.below b8
  replace ry := ry.below b8
  replace b1 := below_step b1 b8
  clear b8
  have hc := runion_rd ra rb la lb u hu
  clear hu hm hn hz la lb
  go_wp2_with fail
  refine hc.mono ?_
  rintro e w9 ⟨A9', c9', rfl, r9, b9⟩
  clear hc
  obtain ⟨hu, hm, hn, hz, la, lb⟩ := Q.out
  replace ra := ra.below b9
  replace rb := rb.below b9
  replace rx := rx.below b9
  replace ry := ry.below b9
  replace r8 := r8.below b9
  replace b1 := below_step b1 b9
  clear b9
  have hc := texts_rd r8 r9
  clear hu hm hn hz la lb
  go_wp2_with fail
  refine hc.mono ?_
  rintro e w10 ⟨rfl, b10⟩
  clear hc
  obtain ⟨hu, hm, hn, hz, la, lb⟩ := Q.out
  replace ra := ra.below b10
  replace rb := rb.below b10
  replace rx := rx.below b10
  replace ry := ry.below b10
  replace r8 := r8.below b10
  replace r9 := r9.below b10
  replace b1 := below_step b1 b10
  clear b10
  clear r8
  clear r9
  have hc := minus_rd rx ry (by omega) m hm
  clear hu hm hn hz la lb
  go_wp2_with fail
  refine hc.mono ?_
  rintro e w11 ⟨A11', c11', rfl, r11, b11⟩
  clear hc
  obtain ⟨hu, hm, hn, hz, la, lb⟩ := Q.out
  replace ra := ra.below b11
  replace rb := rb.below b11
  replace rx := rx.below b11
  replace ry := ry.below b11
  replace b1 := below_step b1 b11
  clear b11
  have hc := rminus_rd ra rb la lb m hm
  clear hu hm hn hz la lb
  go_wp2_with fail
  refine hc.mono ?_
  rintro e w12 ⟨A12', c12', rfl, r12, b12⟩
  clear hc
  obtain ⟨hu, hm, hn, hz, la, lb⟩ := Q.out
  replace ra := ra.below b12
  replace rb := rb.below b12
  replace rx := rx.below b12
  replace ry := ry.below b12
  replace r11 := r11.below b12
  replace b1 := below_step b1 b12
  clear b12
  have hc := texts_rd r11 r12
  clear hu hm hn hz la lb
  go_wp2_with fail
  refine hc.mono ?_
  rintro e w13 ⟨rfl, b13⟩
  clear hc
  obtain ⟨hu, hm, hn, hz, la, lb⟩ := Q.out
  replace ra := ra.below b13
  replace rb := rb.below b13
  replace rx := rx.below b13
  replace ry := ry.below b13
  replace r11 := r11.below b13
  replace r12 := r12.below b13
  replace b1 := below_step b1 b13
  clear b13
  clear r11
  clear r12
  have hc := both_rd rx ry (by omega) n hn
  clear hu hm hn hz la lb
  go_wp2_with fail
  refine hc.mono ?_
  rintro e w14 ⟨A14', c14', rfl, r14, b14⟩
  clear hc
  obtain ⟨hu, hm, hn, hz, la, lb⟩ := Q.out
  replace ra := ra.below b14
  replace rb := rb.below b14
  replace rx := rx.below b14
  replace ry := ry.below b14
  replace b1 := below_step b1 b14
  clear b14
  have hc := rboth_rd ra rb la lb n hn
  clear hu hm hn hz la lb
  go_wp2_with fail
  refine hc.mono ?_
  rintro e w15 ⟨A15', c15', rfl, r15, b15⟩
  clear hc
  obtain ⟨hu, hm, hn, hz, la, lb⟩ := Q.out
  replace ra := ra.below b15
  replace rb := rb.below b15
  replace rx := rx.below b15
  replace ry := ry.below b15
  replace r14 := r14.below b15
  replace b1 := below_step b1 b15
  clear b15
  have hc := texts_rd r14 r15
  clear hu hm hn hz la lb
  go_wp2_with fail
  refine hc.mono ?_
  rintro e w16 ⟨rfl, b16⟩
  clear hc
  obtain ⟨hu, hm, hn, hz, la, lb⟩ := Q.out
  replace ra := ra.below b16
  replace rb := rb.below b16
  replace rx := rx.below b16
  replace ry := ry.below b16
  replace r14 := r14.below b16
  replace r15 := r15.below b16
  replace b1 := below_step b1 b16
  clear b16
  clear r14
  clear r15
  have hc := Set_any (c := c1') rx.C (by omega)
  rw [hz] at hc
  have hzl : z.length ≤ 1048576 := by rw [← hz]; have := setS_len a; omega
  clear hu hm hn hz la lb
  have HF := hid (And.intro ra (And.intro rb (And.intro rx ry)))
  clear ra rb rx ry
  go_wp2_with fail
  refine hc.mono ?_
  rintro e v ⟨A5, c5, rfl, hR5, b5⟩
  clear hc
  go_upto_block 0 with (fail)
  go_cut [] (fun wc => Below w16.heap.size w16 wc)
  case first =>
    go_wp2_with fail
    go_loopw [14] (fun i wr => ∃ j : Nat, j ≤ z.length ∧ i = .int .i64 (j : Int) ∧ Below w16.heap.size w16 wr ∧ ∃ ls : List ByteArray, ls.length = z.length ∧ KS.R 9 wr w16.heap.size (fun k => w16.heap.size ≤ k) (.slice A5 z.length c5) ls) (fun i _ => z.length - (intOf i).toNat)
    case atStart => exact ⟨0, Nat.zero_le _, rfl, b5, z, rfl, hR5⟩
    case round =>
      clear hR5 b5
      obtain ⟨j, hj, rfl, hB, ls, hls, hR⟩ := hrel
      by_cases hlt : j < z.length
      · have hltI : (j : Int) < (z.length : Int) := by omega
        obtain ⟨g, rfl⟩ := KS_addr hR (by omega)
        obtain ⟨k1, k2, k3⟩ := KS_cell hR (i := j) (by omega)
        have hP := (Kd.R_putg hR (j : Int) ⟨#[115, 112, 111, 105, 108, 116]⟩).1
        have hB2 : Below w16.heap.size w16 (wr.setCell ⟨g, j, none⟩ (.string ⟨#[115, 112, 111, 105, 108, 116]⟩)) := hB.setCell k3 _
        have HP := hid (And.intro hP hB2)
        generalize ls[j] = x0 at k1
        clear hR hB hP hB2 k3
        go_wp2_with fail
        go_roundw
        case rel => exact ⟨j + 1, by omega, by go_num, HP.out.2, _, (by rw [List.length_set]; exact hls), HP.out.1⟩
        case measure => simp [intOf]; omega
      · have hltI : ¬ (j : Int) < (z.length : Int) := by omega
        go_wp2_with fail
        go_meet
        case rel => exact hB
  case rest =>
    clear hR5 b5
    obtain ⟨ra, rb, rx, ry⟩ := HF.out
    have b6 := below_step b1 hcut
    replace ra := ra.below hcut
    replace rb := rb.below hcut
    replace rx := rx.below hcut
    replace ry := ry.below hcut
    have hc := texts_rd rx ra
    go_wp2_with fail
    refine hc.mono ?_
    rintro e w20 ⟨rfl, b20⟩
    clear hc
    have hc := texts_rd (ry.below b20) (rb.below b20)
    replace b6 := below_step b6 b20
    clear ra rb rx ry b20 hcut b1
    go_wp2_with fail
    refine hc.mono ?_
    rintro e w21 ⟨rfl, b21⟩
    clear hc
    replace b6 := below_step b6 b21
    have hc := live_any (HW.out.below b6)
    clear b21
    go_wp2_with fail
    refine hc.mono ?_
    rintro e w22 ⟨rfl, b22⟩
    replace b6 := below_step b6 b22
    clear hc b22
    go_wp2
    go_ret
    exact ⟨rfl, b6⟩
end Go.Proofs.YthfoafjjenegaaaDoor
