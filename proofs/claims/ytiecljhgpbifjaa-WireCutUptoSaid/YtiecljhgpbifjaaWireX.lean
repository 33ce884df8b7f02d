/- The document's reader: Raw, Text, Ints, Texts. -/
import Derived.Test.YtiecljhgpbifjaaWireU
import Derived.Test.YtiecljhgpbifjaaRowStep
set_option linter.unusedVariables false
set_option linter.unusedSimpArgs false
namespace Go.Proofs.Ytiecljhgpbifjaa
open Go.RowKit Go.Proofs.YtiecljhgpbifjaaW.PrintWords

/-- How Raw goes on behind its count. -/
theorem raw_count (s : St) (most : Int) (hn : (s.took (oCount most s.b)).e = 0) : ∃ m r, s.took (oCount most s.b) = ⟨r, 0⟩ ∧ s.out (oCount most s.b) 0 = m ∧ s.e = 0 ∧ oCount most s.b = .ok (m, r) := by
  unfold St.took St.out at *
  by_cases he : s.e = 0
  · simp only [he, if_true] at hn ⊢
    cases hc : oCount most s.b with
    | error x => rw [hc] at hn; exact absurd hn (errs_count most s.b x hc)
    | ok v => exact ⟨v.1, v.2, rfl, rfl, trivial, rfl⟩
  · simp only [he, if_false] at hn
theorem count_bad (s : St) (most : Int) {α : Type} (f : Int → List Int → Out α) (z : α) (hn : ¬ (s.took (oCount most s.b)).e = 0) :
    s.took (match oCount most s.b with | .ok (n, r) => f n r | .error e => .error e) = s.took (oCount most s.b) ∧ s.out (match oCount most s.b with | .ok (n, r) => f n r | .error e => .error e) z = z := by
  unfold St.took St.out at *
  by_cases he : s.e = 0
  · simp only [he, if_true] at hn ⊢
    cases hc : oCount most s.b with
    | error x => exact ⟨rfl, rfl⟩
    | ok v => rw [hc] at hn; exact absurd rfl hn
  · simp only [he, if_false]
    exact ⟨trivial, trivial⟩
theorem count_pos (s : St) (most : Int) (hb : s.e = 0 → Bytes s.b) : 0 ≤ s.out (oCount most s.b) 0 ∧ s.out (oCount most s.b) 0 ≤ 2147483647 := by
  have h1 := int_le s
  have h2 : 0 ≤ s.out (oInt s.b) 0 := by
    by_cases h : 2147483647 < s.out (oNum 4 s.b) 0
    · rw [((int_num s).1 h).2]; decide
    · rw [((int_num s).2 h).2]
      unfold St.out
      by_cases he : s.e = 0
      · simp only [he, if_true]
        unfold oNum
        by_cases hn : 4 ≤ s.b.length
        · rw [if_pos hn]; exact (val_lt ((hb he).take 4)).1
        · rw [if_neg hn]; exact Int.le_refl _
      · simp only [he, if_false]; exact Int.le_refl _
  by_cases h : max most 0 < s.out (oInt s.b) 0
  · rw [((count_int s most).1 h).2]; decide
  · rw [((count_int s most).2 h).2]; exact ⟨h2, h1⟩
theorem PFt.bytes {w : World} {ok : Nat → Prop} {q : Nat} {s : St} (h : PFt w ok q s) : s.e = 0 → Bytes s.b := by
  obtain ⟨B, at_, hp, hb⟩ := h
  exact fun he => hb he ▸ hp.bytes.drop _
set_option maxRecDepth 100000 in
theorem fraw_any {w : World} {ok : Nat → Prop} {q : Nat} {s : St} (most : Int) (h : PFt w ok q s) :
  Calls Try.prog 53 #[.pointer (some ⟨q, 0, none⟩), .int .i64 most] w (TookF ok q w s (oRaw most s.b) [] (RawQ w.heap.size)) := by
  have hm := fmany_any most h
  have hpos := count_pos s most h.bytes
  obtain ⟨v, hv⟩ : ∃ v, s.out (oCount most s.b) 0 = v := ⟨_, rfl⟩
  rw [hv] at hpos
  by_cases hn : (s.took (oCount most s.b)).e = 0
  · obtain ⟨m', r, hs1, hv', hse, hc⟩ := raw_count s most hn
    obtain rfl : v = m' := hv.symm.trans hv'
    obtain ⟨m, rfl⟩ := Int.eq_ofNat_of_zero_le hpos.1
    by_cases hlen : m ≤ r.length
    · have ho : s.out (oRaw most s.b) [] = r.take m ∧ s.took (oRaw most s.b) = ⟨r.drop m, 0⟩ := by
        unfold St.out St.took oRaw oNext
        rw [hc]
        simp only [hse, if_true, Int.toNat_natCast, hlen]
        exact ⟨trivial, trivial⟩
      have HO := hid ho
      clear ho hc
      go_enter Try.func53, Try.ntmps53
      go_wp2_with fail
      refine hm.mono ?_
      rintro e w1 ⟨u, rfl, rfl, h1, c1⟩
      rw [hs1] at h1
      rw [hv]
      obtain ⟨B, at_, hp, hb⟩ := h1
      obtain ⟨_, hX, hle, hsh, A, c, hblk, hr, hcap⟩ := id hp
      have hs : B.drop at_ = r := hb rfl
      have hBl : at_ + r.length ≤ B.length ∧ B.length ≤ at_ + r.length := by have := congrArg List.length hs; rw [List.length_drop] at this; omega
      have e0 := cell_of_row w1 q 0 _ _ _ hblk
      have e1 := cell_of_row w1 q 1 _ _ _ hblk
      have e2 := cell_of_row w1 q 2 _ _ _ hblk
      simp at e0 e1 e2
      have hsub : IntKind.i64.wrap ((B.length : Int) - at_) = B.length - at_ := by rw [IntKind.wrap_i64]; omega
      have hadd : IntKind.i64.wrap ((at_ : Int) + m) = at_ + m := by rw [IntKind.wrap_i64]; omega
      have hlt : ¬ ((B.length : Int) - at_ < (m : Int)) := by omega
      go_wp2_with fail
      refine wp_region_plan [] (.take 0 (.take 1 (.take 2 (.take 3 (.take 4 (.take 5 (.take 6 (.take 7 (.take 8 (.take 9 (.take 10 (.take 11 .done)))))))))))) (fun w' => w'.cell? ⟨q, 0, none⟩ = some (.slice A B.length c) ∧ w'.cell? ⟨q, 1, none⟩ = some (.int .i64 at_)) (by kernel_rfl) (by kernel_rfl) (fun c a d v w h => by cases d <;> exact h) ⟨e0, e1⟩ ?_
      iterate 12 (apply plan_take rfl rfl; (case hy => (intro w' hS; obtain ⟨s0, s1⟩ := hS; go_simp; try exact rfl)); go_simp)
      refine plan_done ?_
      go_wp2_with fail
      have hin1 : (at_ : Int) ≤ at_ + m := by omega
      have hin2 : (at_ : Int) + m ≤ c := by omega
      refine wp_region_plan [] (.take 1 (.take 2 (.take 3 (.take 4 (.take 5 (.take 6 (.take 7 (.take 8 (.take 9 (.take 10 (.take 11 (.take 12 (.take 13 (.take 14 (.take 15 (.run 0 (.run 16 (.take 17 .done)))))))))))))))))) (fun w' => w'.cell? ⟨q, 0, none⟩ = some (.slice A B.length c) ∧ w'.cell? ⟨q, 1, none⟩ = some (.int .i64 at_)) (by kernel_rfl) (by kernel_rfl) (fun c a d v w h => by cases d <;> exact h) ⟨e0, e1⟩ ?_
      iterate 15 (apply plan_take rfl rfl; (case hy => (intro w' hS; obtain ⟨s0, s1⟩ := hS; go_simp; try exact rfl)); go_simp)
      refine plan_run_on rfl rfl (fun K hK => ?_)
      go_simp
      have hBa := below_alloc (below_drew (below_drew (Below.refl w1.heap.size w1))) (.cells #[] 5)
      refine hK _ _ _ (fun _ h => h) ⟨pw_cell_below hBa e0, pw_cell_below hBa e1⟩ ?_
      clear hK K
      refine plan_run_on rfl rfl (fun K hK => ?_)
      have hrow : RB w1 (fun k => ok k ∧ k ≠ q) (behind A at_ c) (r.take m) := by
        have := RB_take (RB_drop hr hle hcap) (n := m) (by rw [hs]; exact hlen)
        rwa [hs] at this
      have hlm : (r.take m).length = m := by rw [List.length_take]; omega
      refine step_append_row (w0 := w1) w1.heap.size (.tmp 29) (.tmp 44) 24 5 .u8 1 rfl Try.underlying24 info_u8 (by decide) _ [] (r.take m) (behind A at_ c) m (c - at_) rfl ?HX ?HO ?HR ?HB ?hb ?hl ?_
      case HX =>
        have e : ((at_ : Int) + m).toNat - at_ = m := by omega
        show Value.slice (behind A at_ c) (((at_ : Int) + m).toNat - at_) (c - at_) = _
        rw [e]
      case HO => exact World.ownsRow_made (base := w1.heap.size) w1.drew.drew #[] 0 (Nat.le_refl _) (Nat.zero_le _) rfl
      case HR =>
        have := (C_int (Kd.F_now hrow)).below hBa
        rwa [hlm] at this
      case HB => exact hBa
      case hb => simp
      case hl => simp; omega
      intro v1 w4 ho hB4 hg hat
      have ho2 : w4.ownsRow w1.heap.size 5 1 v1 (r.take m).length (nums .u8 (r.take m)) := by simpa using ho
      have hR4 : KB.R 5 w4 w1.heap.size (fun q => w1.heap.size ≤ q) v1 (r.take m) := Rown ho2 (fun q hq => own_base ho2 q hq)
      obtain ⟨A2, c2, rfl⟩ := Kd.R_slice hR4
      clear ho ho2 hg hat hBa
      have c4 : Chg (fun k => k = q) w w4 := c1.same hB4
      have hp4 : PFb w4 ok q B at_ 0 := hp.step (fun k _ hk => hB4.block k hk)
      refine hK _ _ _ (fun _ h => h) ⟨pw_cell_below hB4 e0, pw_cell_below hB4 e1⟩ ?_
      clear hK K
      go_simp
      apply plan_take rfl rfl
      case hy => (intro w' hS; clear hS; go_simp; try exact rfl)
      go_simp
      refine plan_done ?_
      have hp5 := hp4.putAt (at_ + m) (by omega)
      have c5 : Chg (fun k => k = q) w (w4.setCell ⟨q, 1, none⟩ (.int .i64 ((at_ + m : Nat) : Int))) := chg_p c4 (chg_q 1 _)
      have hR5 : KB.R 5 (w4.setCell ⟨q, 1, none⟩ (.int .i64 ((at_ + m : Nat) : Int))) w1.heap.size (fun q => w1.heap.size ≤ q) (.slice A2 (r.take m).length c2) (r.take m) := Kd.R_step hR4 (fun k hk _ => Below.heap_setCell w4 ⟨q, 1, none⟩ _ k (fun e => by have := blk_lt hblk; dsimp only at e; omega))
      have hfin : TookF ok q w s (oRaw most s.b) [] (RawQ w.heap.size) (.returned (.slice A2 (r.take m).length c2)) (w4.setCell ⟨q, 1, none⟩ (.int .i64 ((at_ + m : Nat) : Int))) :=
        ⟨_, rfl, by rw [HO.out.1]; exact ⟨A2, c2, rfl, Kd.R_lower (Kd.R_mono hR5 (fun q hq => Nat.le_trans c1.size hq)) c1.size⟩, by rw [HO.out.2]; exact ⟨B, at_ + m, hp5, fun _ => by rw [← hs, List.drop_drop]⟩, c5⟩
      rw [Int.natCast_add, hlm] at hfin
      have HF := hid hfin
      have f1 := (pw_cell_below hB4 e1)
      have ff : w4.frozen? ⟨q, 1, none⟩ = false := frozen_of_row w4 q 1 _ _ ((hB4.block q (blk_lt hblk)).trans hblk)
      clear hfin hR5 hR4 c5 hp5
      go_wp2
      all_goals (go_ret; exact HF.out)
    · have ho : s.out (oRaw most s.b) [] = [] ∧ s.took (oRaw most s.b) = ⟨[], 40⟩ := by
        unfold St.out St.took oRaw oNext
        rw [hc]
        simp only [hse, if_true, Int.toNat_natCast, hlen, if_false]
        exact ⟨trivial, trivial⟩
      have HO := hid ho
      clear ho hc
      go_enter Try.func53, Try.ntmps53
      go_wp2_with fail
      refine hm.mono ?_
      rintro e w1 ⟨u, rfl, rfl, h1, c1⟩
      rw [hs1] at h1
      rw [hv]
      have hpd : PFt w1.drew ok q ⟨r, 0⟩ := h1.below (below_drew (Below.refl _ _))
      obtain ⟨B, at_, hp, hb⟩ := h1
      obtain ⟨_, hX, hle, hsh, A, c, hblk, hr, hcap⟩ := id hp
      have hs : B.drop at_ = r := hb rfl
      have hBl : at_ + r.length ≤ B.length ∧ B.length ≤ at_ + r.length := by have := congrArg List.length hs; rw [List.length_drop] at this; omega
      have e0 := cell_of_row w1 q 0 _ _ _ hblk
      have e1 := cell_of_row w1 q 1 _ _ _ hblk
      have e2 := cell_of_row w1 q 2 _ _ _ hblk
      simp at e0 e1 e2
      have hsub : IntKind.i64.wrap ((B.length : Int) - at_) = B.length - at_ := by rw [IntKind.wrap_i64]; omega
      have hlt : ((B.length : Int) - at_ < (m : Int)) := by omega
      have hfl : (⟨r, 0⟩ : St).fail 40 = ⟨r, 40⟩ := rfl
      clear hb
      go_wp2_with fail
      refine wp_region_plan [] (.take 0 (.take 1 (.take 2 (.take 3 (.take 4 (.take 5 (.take 6 (.take 7 (.take 8 (.take 9 (.take 10 (.take 11 .done)))))))))))) (fun w' => w'.cell? ⟨q, 0, none⟩ = some (.slice A B.length c) ∧ w'.cell? ⟨q, 1, none⟩ = some (.int .i64 at_)) (by kernel_rfl) (by kernel_rfl) (fun c a d v w h => by cases d <;> exact h) ⟨e0, e1⟩ ?_
      iterate 12 (apply plan_take rfl rfl; (case hy => (intro w' hS; obtain ⟨s0, s1⟩ := hS; go_simp; try exact rfl)); go_simp)
      refine plan_done ?_
      go_wp2_with fail
      refine (ffail_any 40 hpd).mono ?_
      rintro e w2 ⟨rfl, h2, hc2⟩
      rw [hfl] at h2
      have h3 : PFt w2 ok q ⟨[], 40⟩ := h2.irr rfl (fun h0 => absurd h0 (by show ¬ (40 : Int) = 0; decide))
      have hc3 : Chg (fun k => k = q) w w2 := chg_p c1.drew hc2
      have HF := hid (And.intro h3 hc3)
      clear h2 h3 hc2 hc3
      go_wp2
      go_ret
      exact ⟨_, rfl, by rw [HO.out.1]; exact ⟨none, 0, rfl, Kd.R_nil _ _ _ _ _⟩, by rw [HO.out.2]; exact HF.out.1, HF.out.2⟩
  · obtain ⟨h1, h2⟩ := count_bad s most (fun n r => oNext n.toNat r) [] hn
    have h1' : s.took (oRaw most s.b) = s.took (oCount most s.b) := h1
    have h2' : s.out (oRaw most s.b) [] = [] := h2
    have HO := hid (And.intro h1' h2')
    clear h1 h2 h1' h2'
    go_enter Try.func53, Try.ntmps53
    go_wp2_with fail
    refine hm.mono ?_
    rintro e w1 ⟨u, rfl, rfl, h1, c1⟩
    have h1c := h1
    obtain ⟨B, at_, hp, _⟩ := h1c
    obtain ⟨_, _, _, _, A, c, hblk, _, _⟩ := hp
    have e2 := cell_of_row w1 q 2 _ _ _ hblk
    simp at e2
    clear hblk
    rw [← HO.out.1] at h1
    have HF := hid (And.intro h1 c1)
    clear h1 c1
    generalize (s.took (oCount most s.b)).e = x at hn e2
    go_wp2
    go_ret
    exact ⟨_, rfl, by rw [HO.out.2]; exact ⟨none, 0, rfl, Kd.R_nil _ _ _ _ _⟩, HF.out⟩
end Go.Proofs.Ytiecljhgpbifjaa
