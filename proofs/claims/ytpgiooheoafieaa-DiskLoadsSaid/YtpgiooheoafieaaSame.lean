/- Package foundrylaw21: same: a disk of the program and the document's, alike. -/
import Derived.Test.YtpgiooheoafieaaRefX
set_option linter.unusedVariables false
set_option linter.unusedSimpArgs false
namespace Go.Proofs.Ytpgiooheoafieaa
open Go.RowKit Go.Proofs.YtpgiooheoafieaaW.PrintWords

set_option maxRecDepth 100000 in
set_option maxHeartbeats 4000000 in
theorem same_true {w : World} {okd okt : Nat → Prop} {p q : Nat} {D : DM} (hd : PDisk w okd p D) (ht : RDisk w okt q D) (hl : D.ws.length * 32 ≤ 140737488355328) :
  Calls Try.prog 29 #[.pointer (some ⟨p, 0, none⟩), .pointer (some ⟨q, 0, none⟩)] w fun e w' => e = .returned (.bool true) ∧ Below w.heap.size w w' := by
  go_enter Try.func29, Try.ntmps29
  go_wp2_with fail
  refine (writes_any hd hl).mono ?_
  rintro e w5 ⟨A5, c5, rfl, hR5, hB5⟩
  have hd5 := hd.step (w1 := w5) (fun k _ hk => hB5.block k hk)
  have ht5 := ht.step (w1 := w5) (fun k _ hk => hB5.block k hk)
  obtain ⟨hwf, g, cap, wv, hb5⟩ := ht5
  obtain ⟨Aw, cw, rfl, hlew, hCw⟩ := Kd.R_reads hb5.ws
  have c0 := hb5.cell0
  have c1 := hb5.cell1
  have c3 := hb5.cell3
  have hlb := hwf.len
  have hhi := hwf.hi
  have hRB : RB w5 okt (some ⟨g, 0, none⟩) D.b := (R_RB (c := cap) (Rown (ok := okt) hb5.row (fun k hk => by rw [← ob_eq hk]; exact hb5.okg))).2
  have HLB := hid hlb
  clear hlb
  go_wp2_with fail
  refine wp_region_plan [] (.take 0 (.take 3 (.take 4 (.take 5 (.take 6 (.take 7 (.run 1 (.take 2 (.take 8 (.take 9 (.take 10 (.take 12 (.take 13 (.take 14 (.take 15 (.run 11 (.take 16 (.take 17 (.take 18 (.take 19 (.take 21 (.take 22 (.take 23 (.take 24 (.take 25 (.run 20 (.take 26 (.take 27 (.take 28 (.take 29 (.take 30 (.take 31 (.take 32 (.take 33 (.take 34 (.take 35 (.take 36 (.take 37 (.take 38 (.take 39 (.take 41 (.run 40 (.run 42 (.take 43 (.take 44 .done))))))))))))))))))))))))))))))))))))))))))))) (fun w' => Below w5.heap.size w5 w') (by kernel_rfl) (by kernel_rfl) (fun c a d v w h => by cases d <;> exact h) (below_drew (Below.refl _ _)) ?_
  iterate 5 (apply plan_take rfl rfl; (case hy => (intro w' hS; have e0 := pw_cell_below hS c0; clear hS; go_simp; try exact rfl)); go_simp)
  apply plan_take rfl rfl
  case hy =>
    intro w' hS
    refine exec_convert 29 9 (.tmp 15) (.slice (some ⟨g, 0, none⟩) D.b.length cap) (.string (strOfNums D.b)) ?_ ?_ (conv_str (Kd.F_now (Kd.F_below hRB hS)))
    · exact rfl
    · exact rfl
  go_simp
  refine plan_run_on rfl rfl (fun K hK => ?_)
  go_simp
  have hd5d := hd5.step (w1 := w5.drew) (fun _ _ _ => rfl)
  refine (image_any hd5d).mono ?_
  rintro e w6 ⟨A6, c6, rfl, hR6, hB6⟩
  have hB6' : Below w5.heap.size w5 w6 := below_step (below_drew (Below.refl _ _)) hB6
  have hd6 := hd5.step (w1 := w6) (fun k _ hk => hB6'.block k hk)
  have hb6 := hb5.below hB6'
  refine hK (fun w' => Below w6.heap.size w6 w') _ _ (fun x hx => below_step hB6' hx) (Below.refl _ _) ?_
  clear hK K c0
  have d1 := hb6.cell1
  have d3 := hb6.cell3
  go_simp
  apply plan_take rfl rfl
  case hy =>
    intro w' hS
    refine exec_convert 29 9 (.tmp 10) (.slice A6 D.b.length c6) (.string (strOfNums D.b)) ?_ ?_ (conv_str (Kd.F_now (Kd.F_below (Kd.R_F hR6) hS)))
    · exact rfl
    · exact rfl
  go_simp
  iterate 7 (apply plan_take rfl rfl; (case hy => (intro w' hS; have e0 := pw_cell_below hS d1; clear hS; go_simp; try exact rfl)); go_simp)
  refine plan_run_on rfl rfl (fun K hK => ?_)
  go_simp
  refine (dead_any hd6).mono ?_
  rintro e w7 ⟨rfl, rfl⟩
  refine hK (fun w' => Below w6.heap.size w6 w') _ _ (fun x hx => hx) (Below.refl _ _) ?_
  clear hK K
  go_simp
  iterate 9 (apply plan_take rfl rfl; (case hy => (intro w' hS; have e0 := pw_cell_below hS d3; clear hS; go_simp; try exact rfl)); go_simp)
  refine plan_run_on rfl rfl (fun K hK => ?_)
  go_simp
  refine (count_any hd6).mono ?_
  rintro e w7 ⟨rfl, rfl⟩
  refine hK (fun w' => Below w6.heap.size w6 w') _ _ (fun x hx => hx) (Below.refl _ _) ?_
  clear hK K
  go_simp
  iterate 15 (apply plan_take rfl rfl; (case hy => (intro w' hS; have e0 := pw_cell_below hS d3; clear hS; go_simp; try exact rfl)); go_simp)
  refine plan_run_on rfl rfl (fun K hK => ?_)
  go_simp
  refine (blocks_any hd6).mono ?_
  rintro e w7 ⟨rfl, rfl⟩
  refine hK (fun w' => Below w6.heap.size w6 w') _ _ (fun x hx => hx) (Below.refl _ _) ?_
  clear hK K
  refine plan_run_on rfl rfl (fun K hK => ?_)
  go_simp
  refine (rblocks_any (D := D) ⟨hwf, g, cap, _, hb6⟩).mono ?_
  rintro e w7 ⟨rfl, rfl⟩
  refine hK (fun w' => Below w6.heap.size w6 w') _ _ (fun x hx => hx) (Below.refl _ _) ?_
  clear hK K
  go_simp
  iterate 2 (apply plan_take rfl rfl; (case hy => (intro w' hS; clear hS; go_simp; try exact rfl)); go_simp)
  refine plan_done ?_
  have hR6w := Kd.R_below hR5 hB6'
  have t6 : Below w.heap.size w w6 := hB5.trans (hB6'.mono hB5.size)
  clear d1 c1 c3
  go_wp2_with fail
  go_loopw [6] (fun j wr => ∃ k : Nat, k ≤ D.ws.length ∧ j = .int .i64 k ∧ Below w6.heap.size w6 wr) (fun j _ => D.ws.length - (intOf j).toNat)
  case atStart => exact ⟨0, Nat.zero_le _, rfl, Below.refl _ _⟩
  case round =>
    obtain ⟨k, hk, rfl, hBk⟩ := hrel
    by_cases hlt : k < D.ws.length
    · have hlw : (k : Int) < (D.ws.length : Int) := by omega
      have hbk := hb6.below hBk
      have d3k := hbk.cell3
      obtain ⟨gw, cw', hgw⟩ := KW_form hbk.ws (by omega)
      injection hgw with hgw1 hgw2 hgw3
      subst hgw1
      subst hgw3
      obtain ⟨A1, c1, e0, e1, hC1⟩ := elem2 hbk.ws hlt
      have hRk := Kd.R_below hR6w hBk
      obtain ⟨gv, cv, hgv⟩ := KW_form hRk (by omega)
      injection hgv with hgv1 hgv2 hgv3
      subst hgv1
      subst hgv3
      obtain ⟨A2, c2, f0, f1, hC2⟩ := elem2 hRk hlt
      go_wp2_with fail
      refine wp_region_plan [] (.take 0 (.take 1 (.take 2 (.take 3 (.take 4 (.take 5 (.take 6 (.take 7 (.take 8 (.take 9 (.take 10 (.take 11 (.take 12 (.take 13 (.take 14 (.take 15 (.take 16 (.take 17 (.take 18 (.take 19 (.take 20 (.take 21 (.take 22 (.take 23 (.take 24 (.take 25 (.take 26 (.take 27 (.take 28 (.take 29 (.take 30 (.take 31 .done)))))))))))))))))))))))))))))))) (fun w' => Below wr.heap.size wr w') (by kernel_rfl) (by kernel_rfl) (fun c a d v w h => by cases d <;> exact h) (below_drew (Below.refl _ _)) ?_
      iterate 20 (apply plan_take rfl rfl; (case hy => (intro w' hS; have i0 := pw_cell_below hS d3k; have i1 := pw_cell_below hS e0; have i2 := pw_cell_below hS e1; have i3 := pw_cell_below hS f0; have i4 := pw_cell_below hS f1; clear hS; go_simp; try exact rfl)); go_simp)
      apply plan_take rfl rfl
      case hy =>
        intro w' hS
        refine exec_convert 29 9 (.tmp 79) (.slice A2 D.ws[k].2.length c2) (.string (strOfNums D.ws[k].2)) ?_ ?_ (conv_str (Kd.C_below hC2 hS))
        · exact rfl
        · exact rfl
      go_simp
      iterate 8 (apply plan_take rfl rfl; (case hy => (intro w' hS; have i0 := pw_cell_below hS d3k; have i1 := pw_cell_below hS e0; have i2 := pw_cell_below hS e1; have i3 := pw_cell_below hS f0; have i4 := pw_cell_below hS f1; clear hS; go_simp; try exact rfl)); go_simp)
      apply plan_take rfl rfl
      case hy =>
        intro w' hS
        refine exec_convert 29 9 (.tmp 88) (.slice A1 D.ws[k].2.length c1) (.string (strOfNums D.ws[k].2)) ?_ ?_ (conv_str (Kd.C_below hC1 hS))
        · exact rfl
        · exact rfl
      go_simp
      iterate 2 (apply plan_take rfl rfl; (case hy => (intro w' hS; clear hS; go_simp; try exact rfl)); go_simp)
      refine plan_done ?_
      have hBd := below_drew hBk
      clear d3k e0 e1 f0 f1
      go_wp2
      go_roundw
      case rel => exact ⟨k + 1, by omega, by go_num, hBd⟩
      case measure => simp [intOf]; omega
    · obtain rfl : k = D.ws.length := by omega
      have t7 : Below w.heap.size w wr := t6.trans (hBk.mono t6.size)
      go_wp2
      go_ret
      exact ⟨rfl, t7⟩
end Go.Proofs.Ytpgiooheoafieaa
