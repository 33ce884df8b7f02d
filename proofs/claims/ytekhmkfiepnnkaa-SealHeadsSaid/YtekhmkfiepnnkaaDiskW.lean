/- The program's disk: Write. -/
import Derived.Test.YtekhmkfiepnnkaaDisk
set_option linter.unusedVariables false
set_option linter.unusedSimpArgs false
namespace Go.Proofs.Ytekhmkfiepnnkaa
open Go.RowKit Go.Proofs.YtekhmkfiepnnkaaW.PrintWords

set_option maxRecDepth 100000 in
set_option maxHeartbeats 1000000 in
theorem write_ok {w : World} {ok okb : Nat → Prop} {p : Nat} {D : DM} {a : Addr} {c : Nat} {xs : List Int} (i : Nat) (h : PDisk w ok p D) (hF : RB w okb (some a) xs) (hne : apart okb ok) (hr : D.ready i = 0) (hi : i < D.n) (hx : xs.length = 64) (hB : Bytes xs) (hl : ¬ D.left = 0)
    (hm : (D.ws.length + 1) * 32 ≤ 140737488355328) :
  Calls Try.prog 63 #[.pointer (some ⟨p, 0, none⟩), .int .i64 i, .slice (some a) xs.length c] w fun e w' => e = .returned (.int .i64 0) ∧ PDisk w' (orNew ok w) p (D.writeD i xs) ∧ Chg ok w w' := by
  have hready := ready_any h i
  rw [hr] at hready
  obtain ⟨hwf, g, cap, wv, hb⟩ := h
  have hwD : D.writeD i xs = { b := splice D.b (i * 64) xs, left := if 0 < D.left then D.left - 1 else D.left, gone := D.gone, ws := D.ws ++ [(↑i, xs)] } := by
    unfold DM.writeD
    rw [if_neg (by rw [hr]; simp), if_neg (by rw [hx]; simp), if_neg hl]
    simp
  have HWD := hid hwD
  have hx2 : ((xs.length : Int) == 64) = true := by simp [hx]
  have hx3 : ((xs.length : Int) != 64) = false := by simp [hx]
  have hl3 : (D.left == 0) = false := by simp [hl]
  have HX := hid hx
  have c0 := hb.cell0
  have c1 := hb.cell1
  have z1 := hb.free 1
  have l1 := hwf.l1
  have l2 := hwf.l2
  clear hx hr hl hwD
  obtain ⟨W0, D0, hW⟩ : ∃ W0 D0, (W0, D0) = (if 0 < D.left then (w.setCell ⟨p, 1, none⟩ (.int .i64 (D.left - 1)), { D with left := D.left - 1 }) else (w, D) : World × DM) := ⟨_, _, rfl⟩
  have hall : PDb W0 ok p D0 g cap wv ∧ Chg ok w W0 ∧ Hid (D0.b = D.b ∧ D0.ws = D.ws ∧ D0.n = D.n ∧ D.writeD i xs = { b := splice D0.b (i * 64) xs, left := D0.left, gone := D0.gone, ws := D0.ws ++ [(↑i, xs)] } ∧ -9223372036854775808 ≤ D0.left ∧ D0.left ≤ 9223372036854775807) := by
    by_cases hpos : 0 < D.left
    · rw [if_pos hpos] at hW
      obtain ⟨rfl, rfl⟩ := Prod.mk.inj hW
      exact ⟨hb.setLeft (D.left - 1), (Chg.refl ok w).setCell (.inl hb.okp) _, rfl, rfl, rfl, by rw [HWD.out, if_pos hpos], by show _ ≤ D.left - 1; omega, by show D.left - 1 ≤ _; omega⟩
    · rw [if_neg hpos] at hW
      obtain ⟨rfl, rfl⟩ := Prod.mk.inj hW
      exact ⟨hb, Chg.refl ok _, rfl, rfl, rfl, by rw [HWD.out, if_neg hpos], l1, l2⟩
  obtain ⟨hb0, hc0, HD⟩ := hall
  have hF0 := RB_step hF hc0 hne
  have HW := hid hW
  clear hW
  by_cases hpos : 0 < D.left
  all_goals
    go_enter Try.func63, Try.ntmps63
    go_wp2_with (go_at_call 74; refine hready.mono ?_; rintro e w' ⟨rfl, rfl⟩)
    have hW := HW.out
    first | rw [if_pos hpos] at hW | rw [if_neg (by omega)] at hW
    have hW2 := congrArg Prod.fst hW
    simp only at hW2
    rw [← hW2]
    clear hW hW2 hready c0 c1 z1
    have c0 := hb0.cell0
    have hn : D0.n = D.n := HD.out.2.2.1
    rw [hn] at c0
    have hrow := hb0.row
    rw [hn] at hrow
    refine wp_region_plan [8, 9] (.take 0 (.take 1 (.take 2 (.take 3 (.take 4 (.take 5 (.take 6 (.take 7 (.tail 8 (.tail 9 .done)))))))))) (fun w' => w'.cell? ⟨p, 0, none⟩ = some (.slice (some ⟨g, 0, none⟩) D.n cap) ∧ Kd.C KB w' (some a) xs.length xs) (by kernel_rfl) (by kernel_rfl) (fun c a d v w h => by cases d <;> exact h) ⟨c0, Kd.F_now hF0⟩ ?_
    iterate 6 (apply plan_take rfl rfl; (case hy => (intro w' hS; obtain ⟨s0, _⟩ := hS; go_simp; try exact rfl)); go_simp)
    apply plan_take rfl rfl
    case hy => (intro w' hS; have hx' := HX.out; go_simp; try exact rfl)
    go_simp
    apply plan_take rfl rfl
    case hy => intro w' hS; exact exec_load_row 125 (.tmp 43) rfl a rfl (nums .u8 xs) _ (cells_of_C hS.2) Try.underlying125 rfl (by rw [nums_length, HX.out]; exact info_block)
    go_simp
    refine plan_tail rfl (fun K hK => ?_)
    go_simp
    refine hK _ _ ?_
    clear hK K
    refine plan_tail_on rfl rfl (fun K hK => ?_)
    refine wp_store_mid 125 (.tmp 45) (.tmp 44) rfl g (i * 64) (nums .u8 xs).toArray rfl rfl ?_ ?_ (nums_one _ _) ?_
    · exact own_there hrow _ (by simp [nums_length, HX.out]; omega)
    · simp only [List.size_toArray, nums_length, HX.out]; exact info_block
    go_simp
    refine hK _ _ (plan_done ?_)
    clear hK K c0 hrow
    have hb1 := hb0.drew.setBytes (i * 64) xs (by rw [hn, HX.out]; omega)
    have hc1 : Chg ok w (W0.drew.setCells g (i * 64) (nums .u8 xs)) := hc0.drew.setCells (.inl hb0.okg) _ _
    have hF1 := RB_step hF hc1 hne
    generalize W0.drew.setCells g (i * 64) (nums .u8 xs) = W1 at hb1 hc1 hF1 ⊢
    clear hn
    have c3 := hb1.cell3
    go_wp2_with fail
    refine wp_region_plan [11, 12, 13] (.take 0 (.take 1 (.take 2 (.take 3 (.take 4 (.take 5 (.take 6 (.run 7 (.take 8 (.run 9 (.run 10 (.tail 11 (.tail 12 (.tail 13 .done)))))))))))))) (fun w' => w'.cell? ⟨p, 3, none⟩ = some wv) (by kernel_rfl) (by kernel_rfl) (fun c a d v w h => by cases d <;> exact h) c3 ?_
    iterate 7 (apply plan_take rfl rfl; (case hy => (intro w' hS; go_simp; try exact rfl)); go_simp)
    refine plan_run_on rfl rfl (fun K hK => ?_)
    go_simp
    refine (clone_any (Kd.F_now (RB_drew hF1)) (by rw [HX.out]; omega)).mono ?_
    rintro e w2 ⟨A2, c2, rfl, hR2, hB2⟩
    have hb2 := hb1.drew.below hB2
    have hc2 := hc1.drew.same hB2
    refine hK _ _ _ (fun _ h => h) hb2.cell3 ?_
    clear hK K
    go_simp
    apply plan_take rfl rfl
    case hy => (intro w' hS; go_simp; try exact rfl)
    go_simp
    refine plan_run_on rfl rfl (fun K hK => ?_)
    go_simp
    refine hK _ _ _ (fun _ h => h) (hb2.below (below_alloc (Below.refl _ _) _)).cell3 ?_
    clear hK K
    refine plan_run rfl (fun K hK => ?_)
    have hw2 : w.heap.size ≤ w2.heap.size := hc2.size
    have hR3 : KB.R 5 w2 0 (fun k => W1.heap.size ≤ k) (.slice A2 xs.length c2) xs := Kd.R_lower hR2 (Nat.zero_le _)
    have hlt : ∀ k, wv.ownBlock = some k → k < W1.heap.size := by
      obtain ⟨_, _, ho, _⟩ := hb1.ws
      exact fun k hk => own_lt ho k hk
    have hpw := hb2.ne_pw
    refine Kd.R_append_step KW (w0 := w2) 0 rfl (.tmp 50) (.tmp 55) 74 77 (.agg #[.int .i64 0, .slice none 0 0]) 32 rfl Try.underlying74 info_Write rfl (by decide) (by decide) wv D0.ws (↑i, xs) [.int .i64 i, .slice A2 xs.length c2]
      (orNew ok w) (fun k => W1.heap.size ≤ k) rfl rfl (KW_new hR3) (fun k hk => ⟨.inr (Nat.le_trans hc1.size hk), fun e => by have := hlt k e.symm; omega⟩) (fun k hk => .inr (Nat.le_trans hw2 hk)) (Kd.R_mono hb2.ws (fun _ h => .inl h)) (Below.refl _ _) (Nat.zero_le _) (by rw [HD.out.2.1]; exact hm) ?_
    intro v3 w3 hR4 _ hg3 _
    obtain ⟨A3, c4, rfl⟩ := Kd.R_slice hR4
    have hblk3 : w3.heap[p]? = _ := (hg3.block p (blk_lt hb2.blk) hpw).trans hb2.blk
    have hrow3 := own_other hb2.row hg3 (.inr (by have := hb2.ne_gw; simpa [Value.ownBlock] using this))
    have hc3 : Chg ok w w3 := hc2.grown hg3 (fun k hk => .inl (by
      obtain ⟨h0, _⟩ := hb2.ws
      exact h0 k hk))
    refine hK _ _ _ (fun _ h => h) (by rw [cell_of_row w3 p 3 _ _ _ hblk3]; rfl) ?_
    clear hK K
    have z3 := frozen_of_row w3 p 3 _ _ hblk3
    have c5 : w3.cell? ⟨p, 3, none⟩ = some wv := by rw [cell_of_row w3 p 3 _ _ _ hblk3]; rfl
    go_simp
    refine plan_tail rfl (fun K hK => ?_)
    go_simp
    refine hK _ _ ?_
    clear hK K
    refine plan_tail rfl (fun K hK => ?_)
    go_simp
    refine hK _ _ ?_
    clear hK K
    refine plan_tail rfl (fun K hK => ?_)
    go_simp
    refine hK _ _ (plan_done ?_)
    clear hK K
    go_wp2_with fail
    go_ret
    have hnl : D0.ws.length + 1 = (D0.ws ++ [((i : Int), xs)]).length := by simp
    rw [hnl]
    refine ⟨rfl, ⟨writeD_wf hwf hB i, g, cap, .slice A3 (D0.ws ++ [((i : Int), xs)]).length c4, ?_⟩, hc3.setCell (.inl hb0.okp) _⟩
    rw [HD.out.2.2.2.1]
    exact PDb.close (.inl hb0.okp) (.inl hb0.okg) hblk3 hrow3 hR4
end Go.Proofs.Ytekhmkfiepnnkaa
