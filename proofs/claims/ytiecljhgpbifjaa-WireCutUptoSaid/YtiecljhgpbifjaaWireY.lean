/- The document's reader: Text, Ints, Texts. -/
import Derived.Test.YtiecljhgpbifjaaWireX
set_option linter.unusedVariables false
set_option linter.unusedSimpArgs false
namespace Go.Proofs.Ytiecljhgpbifjaa
open Go.RowKit Go.Proofs.YtiecljhgpbifjaaW.PrintWords

theorem ftext_any {w : World} {ok : Nat → Prop} {q : Nat} {s : St} (most : Int) (h : PFt w ok q s) :
  Calls Try.prog 51 #[.pointer (some ⟨q, 0, none⟩), .int .i64 most] w (TookF ok q w s (oText most s.b) (strOfNums []) fun v _ u => u = .string v) := by
  have ht := took_text s most
  generalize strOfNums [] = z at ht ⊢
  have HT := hid ht
  clear ht
  go_enter Try.func51, Try.ntmps51
  go_wp2_with fail
  refine (fraw_any most h).mono ?_
  rintro e w1 ⟨u, rfl, ⟨A, c, rfl, hR⟩, hP, hC⟩
  obtain ⟨A2, c2, he2, _, hK⟩ := Kd.R_reads hR
  injection he2 with e1 e2 e3
  subst e1
  subst e3
  have hcv := conv_str (c := c) hK
  have HF := hid (And.intro hP hC)
  clear hP hC hR hK
  rw [← HT.out.2] at hcv
  rw [← HT.out.1] at HF
  obtain ⟨y, hy⟩ : ∃ y, s.out (oText most s.b) z = y := ⟨_, rfl⟩
  rw [hy] at hcv
  go_wp2
  go_ret
  exact ⟨_, rfl, by rw [hy]; rfl, HF.out⟩
theorem PFt.cellE {w : World} {ok : Nat → Prop} {q : Nat} {s : St} (h : PFt w ok q s) : w.cell? ⟨q, 2, none⟩ = some (.int .i64 s.e) := by
  obtain ⟨B, at_, hp, hb⟩ := h
  obtain ⟨_, _, _, _, A, c, hblk, _, _⟩ := hp
  have := cell_of_row w q 2 _ _ _ hblk
  simpa using this
theorem PFt.lt {w : World} {ok : Nat → Prop} {q : Nat} {s : St} (h : PFt w ok q s) : q < w.heap.size := by
  obtain ⟨B, at_, hp, hb⟩ := h
  obtain ⟨_, _, _, _, A, c, hblk, _, _⟩ := hp
  exact blk_lt hblk
/-- One more, of however many were told. -/
theorem times_step {α : Type} (f : List Int → Out α) (hf : ∀ b, Errs (f b)) (z : α) {k : Nat} {r : List Int} {l : List α} {s : St} (he : s.e = 0) (h : oTimes f k r = .ok (l, s.b)) :
    ((s.took (f s.b)).e = 0 → oTimes f (k + 1) r = .ok (l ++ [s.out (f s.b) z], (s.took (f s.b)).b)) ∧ (¬ (s.took (f s.b)).e = 0 → oTimes f (k + 1) r = .error (s.took (f s.b)).e) := by
  unfold St.took St.out
  simp only [he, if_true]
  cases hq : f s.b with
  | error x => exact ⟨fun h0 => absurd h0 (hf s.b x hq), fun _ => oTimes_stop h hq⟩
  | ok v => exact ⟨fun _ => oTimes_ok h hq, fun h0 => absurd rfl h0⟩
theorem took_ok {α : Type} {s : St} {o : Out α} {v : α} {r : List Int} {z : α} (he : s.e = 0) (ho : o = .ok (v, r)) : s.took o = ⟨r, 0⟩ ∧ s.out o z = v := by
  subst ho
  unfold St.took St.out
  simp only [he, if_true]
  exact ⟨trivial, trivial⟩
theorem took_err {α : Type} {s : St} {o : Out α} {x : Int} {z : α} (he : s.e = 0) (ho : o = .error x) : s.took o = ⟨[], x⟩ ∧ s.out o z = z := by
  subst ho
  unfold St.took St.out
  simp only [he, if_true]
  exact ⟨trivial, trivial⟩

set_option maxRecDepth 100000 in
theorem fints_any {w : World} {ok : Nat → Prop} {q : Nat} {s : St} (most : Int) (h : PFt w ok q s) (hok : ∀ k, ok k → k < w.heap.size) :
  Calls Try.prog 56 #[.pointer (some ⟨q, 0, none⟩), .int .i64 most] w (TookF ok q w s (oInts most s.b) [] (IntsQ w.heap.size)) := by
  have hm := fmany_any most h
  have hpos := count_pos s most h.bytes
  obtain ⟨v, hv⟩ : ∃ v, s.out (oCount most s.b) 0 = v := ⟨_, rfl⟩
  rw [hv] at hpos
  by_cases hn : (s.took (oCount most s.b)).e = 0
  · obtain ⟨m', r, hs1, hv', hse, hc⟩ := raw_count s most hn
    obtain rfl : v = m' := hv.symm.trans hv'
    obtain ⟨m, rfl⟩ := Int.eq_ofNat_of_zero_le hpos.1
    have ho : oInts most s.b = oTimes oInt m r := by
      unfold oInts
      rw [hc]
      rfl
    have HO := hid ho
    clear ho hc
    go_enter Try.func56, Try.ntmps56
    go_wp2_with fail
    refine hm.mono ?_
    rintro e w1 ⟨u, rfl, rfl, h1, c1⟩
    rw [hs1] at h1
    rw [hv]
    clear hm
    go_wp2_with fail
    go_loopw [6, 7] (fun v i wr => ∃ (k : Nat) (l : List Int) (sk : St), k ≤ m ∧ i = .int .i64 k ∧ l.length = k ∧ (sk.e = 0 → oTimes oInt k r = .ok (l, sk.b)) ∧ (¬ sk.e = 0 → oTimes oInt k r = .error sk.e) ∧ (Kd.int .i64).R 3 wr w.heap.size (fun k => w.heap.size ≤ k) v l ∧ PFt wr ok q sk ∧ Chg (fun k => k = q) w wr) (fun _ i _ => m - (intOf i).toNat)
    case atStart => exact ⟨0, [], ⟨r, 0⟩, Nat.zero_le _, rfl, rfl, fun _ => rfl, fun h => absurd rfl h, Kd.R_nil _ _ _ _ _, h1, c1⟩
    case round =>
      obtain ⟨k, l, sk, hk, rfl, hll, hg, hbad, hR, h3, c3⟩ := hrel
      have hE := h3.cellE
      by_cases hlt : k < m
      · have hlw : (k : Int) < (m : Int) := by omega
        by_cases he : sk.e = 0
        · have hst := times_step oInt errs_int 0 he (hg he)
          have hel := fint_any h3
          obtain ⟨y, hy⟩ : ∃ y, sk.out (oInt sk.b) 0 = y := ⟨_, rfl⟩
          rw [hy] at hst
          rw [he] at hE
          go_wp2_with fail
          refine hel.mono ?_
          rintro e w4 ⟨u, rfl, rfl, h4, c4⟩
          rw [hy]
          have c5 := chg_p c3 c4
          have hR4 := Kd.R_step hR (w1 := w4) (fun k hk hlt => c4.block k hlt (fun e => by have := hok q h.choose_spec.choose_spec.1.okp; omega))
          have hsz : w.heap.size ≤ w4.heap.size := c5.size
          clear hel
          go_wp2_with (at_builtin; refine print_append_num (w0 := w4) w.heap.size rfl (.tmp 23) (.tmp 26) 29 3 .i64 8 rfl Try.underlying29 info_int (by decide) _ l y rfl rfl ?HO ?HB ?hb ?hl ?_)
          case HO => exact R_own1 hR4
          case HB => exact Below.refl _ _
          case hb => omega
          case hl => omega
          intro v1 w5 ho hB1 hg5 hat
          have ho' : w5.ownsRow w.heap.size 3 1 v1 (l ++ [y]).length (nums .i64 (l ++ [y])) := by rw [List.length_append, hll]; exact ho
          have hR5 : (Kd.int .i64).R 3 w5 w.heap.size (fun k => w.heap.size ≤ k) v1 (l ++ [y]) := Rown ho' (fun j hj => own_base ho' j hj)
          have c6 : Chg (fun k => k = q) w w5 := c5.grown hg5 (fun k hk => .inr (own_base (R_own1 hR4) k hk))
          have h5 := h4.step (w1 := w5) (fun k hk _ => hB1.block k (hok k hk))
          clear ho ho' hg5 hat hB1
          go_wp2
          go_roundw
          case rel => exact ⟨k + 1, _, _, by omega, by go_num, by rw [List.length_append, hll]; rfl, hst.1, hst.2, hR5, h5, c6⟩
          case measure => simp [intOf]; omega
        · have hbd := HO.out.trans (oTimes_err (hbad he) hk)
          obtain ⟨t1, t2⟩ := took_err (z := []) hse hbd
          have hfin : PFt wr ok q (s.took (oInts most s.b)) ∧ Chg (fun k => k = q) w wr := ⟨h3.irr (by rw [t1]) (fun h0 => absurd h0 he), c3⟩
          have HF := hid (And.intro t2 hfin)
          clear hfin h3 c3 t1 t2 hbd hbad hg hR
          generalize sk.e = x at he hE
          go_wp2
          go_ret
          exact ⟨_, rfl, by rw [HF.out.1]; exact ⟨none, 0, rfl, Kd.R_nil _ _ _ _ _⟩, HF.out.2⟩
      · obtain rfl : k = m := by omega
        by_cases he : sk.e = 0
        · obtain ⟨t1, t2⟩ := took_ok (z := []) hse (HO.out.trans (hg he))
          obtain ⟨A, c, rfl⟩ := Kd.R_slice hR
          have hfin : PFt wr ok q (s.took (oInts most s.b)) ∧ Chg (fun k => k = q) w wr := ⟨h3.irr (by rw [t1]; exact he.symm) (fun _ => by rw [t1]), c3⟩
          have HF := hid (And.intro t2 (And.intro hR hfin))
          rw [he] at hE
          clear hfin h3 c3 t1 t2 hbad hg hR
          go_wp2
          go_ret
          exact ⟨_, rfl, by rw [HF.out.1]; exact ⟨A, c, rfl, HF.out.2.1⟩, HF.out.2.2⟩
        · have hbd := HO.out.trans (hbad he)
          obtain ⟨t1, t2⟩ := took_err (z := []) hse hbd
          have hfin : PFt wr ok q (s.took (oInts most s.b)) ∧ Chg (fun k => k = q) w wr := ⟨h3.irr (by rw [t1]) (fun h0 => absurd h0 he), c3⟩
          have HF := hid (And.intro t2 hfin)
          clear hfin h3 c3 t1 t2 hbd hbad hg hR
          generalize sk.e = x at he hE
          go_wp2
          go_ret
          exact ⟨_, rfl, by rw [HF.out.1]; exact ⟨none, 0, rfl, Kd.R_nil _ _ _ _ _⟩, HF.out.2⟩
  · obtain ⟨h1, h2⟩ := count_bad s most (fun n r => oTimes oInt n.toNat r) [] hn
    have h1' : s.took (oInts most s.b) = s.took (oCount most s.b) := h1
    have h2' : s.out (oInts most s.b) [] = [] := h2
    have hv0 : v = 0 := by rw [← hv]; unfold St.out St.took at *; by_cases he : s.e = 0 <;> simp only [he, if_true, if_false] at hn ⊢; cases hcc : oCount most s.b with
      | error x => rfl
      | ok z => rw [hcc] at hn; exact absurd rfl hn
    have HO := hid (And.intro h1' h2')
    clear h1 h2 h1' h2'
    subst hv0
    go_enter Try.func56, Try.ntmps56
    go_wp2_with fail
    refine hm.mono ?_
    rintro e w1 ⟨u, rfl, rfl, h1, c1⟩
    rw [hv]
    have e2 := h1.cellE
    rw [← HO.out.1] at h1
    have HF := hid (And.intro h1 c1)
    clear h1 c1
    generalize (s.took (oCount most s.b)).e = x at hn e2
    go_wp2_with fail
    go_loopw [6, 7] (fun v i wr => v = .slice none 0 0 ∧ i = .int .i64 0 ∧ wr = w1) (fun _ _ _ => 0)
    case atStart => exact ⟨rfl, rfl, rfl⟩
    case round =>
      obtain ⟨rfl, rfl, rfl⟩ := hrel
      go_wp2
      go_ret
      exact ⟨_, rfl, by rw [HO.out.2]; exact ⟨none, 0, rfl, Kd.R_nil _ _ _ _ _⟩, HF.out⟩

set_option maxRecDepth 100000 in
theorem ftexts_any {w : World} {ok : Nat → Prop} {q : Nat} {s : St} (most long : Int) (h : PFt w ok q s) (hok : ∀ k, ok k → k < w.heap.size) :
  Calls Try.prog 59 #[.pointer (some ⟨q, 0, none⟩), .int .i64 most, .int .i64 long] w (TookF ok q w s (oTexts most long s.b) [] (TextsQ w.heap.size)) := by
  have hm := fmany_any most h
  have hpos := count_pos s most h.bytes
  obtain ⟨v, hv⟩ : ∃ v, s.out (oCount most s.b) 0 = v := ⟨_, rfl⟩
  rw [hv] at hpos
  by_cases hn : (s.took (oCount most s.b)).e = 0
  · obtain ⟨m', r, hs1, hv', hse, hc⟩ := raw_count s most hn
    obtain rfl : v = m' := hv.symm.trans hv'
    obtain ⟨m, rfl⟩ := Int.eq_ofNat_of_zero_le hpos.1
    have ho : oTexts most long s.b = oTimes (oText long) m r := by
      unfold oTexts
      rw [hc]
      rfl
    have HO := hid ho
    clear ho hc
    go_enter Try.func59, Try.ntmps59
    go_wp2_with fail
    refine hm.mono ?_
    rintro e w1 ⟨u, rfl, rfl, h1, c1⟩
    rw [hs1] at h1
    rw [hv]
    clear hm
    go_wp2_with fail
    go_loopw [8, 9] (fun v i wr => ∃ (k : Nat) (l : List ByteArray) (sk : St), k ≤ m ∧ i = .int .i64 k ∧ l.length = k ∧ (sk.e = 0 → oTimes (oText long) k r = .ok (l, sk.b)) ∧ (¬ sk.e = 0 → oTimes (oText long) k r = .error sk.e) ∧ Kd.string.R 9 wr w.heap.size (fun k => w.heap.size ≤ k) v l ∧ PFt wr ok q sk ∧ Chg (fun k => k = q) w wr) (fun _ i _ => m - (intOf i).toNat)
    case atStart => exact ⟨0, [], ⟨r, 0⟩, Nat.zero_le _, rfl, rfl, fun _ => rfl, fun h => absurd rfl h, Kd.R_nil _ _ _ _ _, h1, c1⟩
    case round =>
      obtain ⟨k, l, sk, hk, rfl, hll, hg, hbad, hR, h3, c3⟩ := hrel
      have hE := h3.cellE
      by_cases hlt : k < m
      · have hlw : (k : Int) < (m : Int) := by omega
        by_cases he : sk.e = 0
        · have hst := times_step (oText long) (errs_text long) (strOfNums []) he (hg he)
          have hel := ftext_any long h3
          obtain ⟨y, hy⟩ : ∃ y, sk.out ((oText long) sk.b) (strOfNums []) = y := ⟨_, rfl⟩
          rw [hy] at hst
          rw [he] at hE
          go_wp2_with fail
          refine hel.mono ?_
          rintro e w4 ⟨u, rfl, rfl, h4, c4⟩
          rw [hy]
          have c5 := chg_p c3 c4
          have hR4 := Kd.R_step hR (w1 := w4) (fun k hk hlt => c4.block k hlt (fun e => by have := hok q h.choose_spec.choose_spec.1.okp; omega))
          have hsz : w.heap.size ≤ w4.heap.size := c5.size
          clear hel
          go_wp2_with (at_builtin; refine print_append_of (w0 := w4) Value.string w.heap.size rfl (.tmp 25) (.tmp 29) 30 9 (.string ⟨#[]⟩) 16 rfl Try.underlying30 info_str rfl (by decide) _ l y rfl rfl rfl ?HO ?HB ?hb ?hl ?_)
          case HO => exact Kd.own_of_R hR4
          case HB => exact Below.refl _ _
          case hb => omega
          case hl => omega
          intro v1 w5 ho hB1 hg5 hat
          have ho' : w5.ownsRow w.heap.size 9 1 v1 (l ++ [y]).length (encs Value.string (l ++ [y])) := by rw [List.length_append, hll]; exact ho
          have hR5 : Kd.string.R 9 w5 w.heap.size (fun k => w.heap.size ≤ k) v1 (l ++ [y]) := Kd.R_of_own ho' (fun j hj => own_base ho' j hj)
          have c6 : Chg (fun k => k = q) w w5 := c5.grown hg5 (fun k hk => .inr (own_base (Kd.own_of_R hR4) k hk))
          have h5 := h4.step (w1 := w5) (fun k hk _ => hB1.block k (hok k hk))
          clear ho ho' hg5 hat hB1
          go_wp2
          go_roundw
          case rel => exact ⟨k + 1, _, _, by omega, by go_num, by rw [List.length_append, hll]; rfl, hst.1, hst.2, hR5, h5, c6⟩
          case measure => simp [intOf]; omega
        · have hbd := HO.out.trans (oTimes_err (hbad he) hk)
          obtain ⟨t1, t2⟩ := took_err (z := []) hse hbd
          have hfin : PFt wr ok q (s.took (oTexts most long s.b)) ∧ Chg (fun k => k = q) w wr := ⟨h3.irr (by rw [t1]) (fun h0 => absurd h0 he), c3⟩
          have HF := hid (And.intro t2 hfin)
          clear hfin h3 c3 t1 t2 hbd hbad hg hR
          generalize sk.e = x at he hE
          go_wp2
          go_ret
          exact ⟨_, rfl, by rw [HF.out.1]; exact ⟨none, 0, rfl, Kd.R_nil _ _ _ _ _⟩, HF.out.2⟩
      · obtain rfl : k = m := by omega
        by_cases he : sk.e = 0
        · obtain ⟨t1, t2⟩ := took_ok (z := []) hse (HO.out.trans (hg he))
          obtain ⟨A, c, rfl⟩ := Kd.R_slice hR
          have hfin : PFt wr ok q (s.took (oTexts most long s.b)) ∧ Chg (fun k => k = q) w wr := ⟨h3.irr (by rw [t1]; exact he.symm) (fun _ => by rw [t1]), c3⟩
          have HF := hid (And.intro t2 (And.intro hR hfin))
          rw [he] at hE
          clear hfin h3 c3 t1 t2 hbad hg hR
          go_wp2
          go_ret
          exact ⟨_, rfl, by rw [HF.out.1]; exact ⟨A, c, rfl, HF.out.2.1⟩, HF.out.2.2⟩
        · have hbd := HO.out.trans (hbad he)
          obtain ⟨t1, t2⟩ := took_err (z := []) hse hbd
          have hfin : PFt wr ok q (s.took (oTexts most long s.b)) ∧ Chg (fun k => k = q) w wr := ⟨h3.irr (by rw [t1]) (fun h0 => absurd h0 he), c3⟩
          have HF := hid (And.intro t2 hfin)
          clear hfin h3 c3 t1 t2 hbd hbad hg hR
          generalize sk.e = x at he hE
          go_wp2
          go_ret
          exact ⟨_, rfl, by rw [HF.out.1]; exact ⟨none, 0, rfl, Kd.R_nil _ _ _ _ _⟩, HF.out.2⟩
  · obtain ⟨h1, h2⟩ := count_bad s most (fun n r => oTimes (oText long) n.toNat r) [] hn
    have h1' : s.took (oTexts most long s.b) = s.took (oCount most s.b) := h1
    have h2' : s.out (oTexts most long s.b) [] = [] := h2
    have hv0 : v = 0 := by rw [← hv]; unfold St.out St.took at *; by_cases he : s.e = 0 <;> simp only [he, if_true, if_false] at hn ⊢; cases hcc : oCount most s.b with
      | error x => rfl
      | ok z => rw [hcc] at hn; exact absurd rfl hn
    have HO := hid (And.intro h1' h2')
    clear h1 h2 h1' h2'
    subst hv0
    go_enter Try.func59, Try.ntmps59
    go_wp2_with fail
    refine hm.mono ?_
    rintro e w1 ⟨u, rfl, rfl, h1, c1⟩
    rw [hv]
    have e2 := h1.cellE
    rw [← HO.out.1] at h1
    have HF := hid (And.intro h1 c1)
    clear h1 c1
    generalize (s.took (oCount most s.b)).e = x at hn e2
    go_wp2_with fail
    go_loopw [8, 9] (fun v i wr => v = .slice none 0 0 ∧ i = .int .i64 0 ∧ wr = w1) (fun _ _ _ => 0)
    case atStart => exact ⟨rfl, rfl, rfl⟩
    case round =>
      obtain ⟨rfl, rfl, rfl⟩ := hrel
      go_wp2
      go_ret
      exact ⟨_, rfl, by rw [HO.out.2]; exact ⟨none, 0, rfl, Kd.R_nil _ _ _ _ _⟩, HF.out⟩
end Go.Proofs.Ytiecljhgpbifjaa
