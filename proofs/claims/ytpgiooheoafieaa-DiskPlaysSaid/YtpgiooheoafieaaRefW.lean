/- The document's disk: Write. -/
import Derived.Test.YtpgiooheoafieaaRefE
import Derived.Test.YtpgiooheoafieaaRowStep
set_option linter.unusedVariables false
set_option linter.unusedSimpArgs false
namespace Go.Proofs.Ytpgiooheoafieaa
open Go.RowKit Go.Proofs.YtpgiooheoafieaaW.PrintWords

theorem info_RWrite : (Try.prog.info? 131).map (fun i => (i.zero, i.size, i.bytes)) = some (some (.agg #[.int .i64 0, .slice none 0 0]), 2, 32) := by kernel_rfl
theorem splice_none {α : Type} (b : List α) (off : Nat) : splice b off [] = b := by simp [splice]
theorem splice_set {b xs : List Int} {off k : Nat} (hk : k < xs.length) (hl : off + xs.length ≤ b.length) : (splice b off (xs.take k)).set (off + k) (rd xs k) = splice b off (xs.take (k + 1)) := by
  have h1 : (b.take off).length = off := by rw [List.length_take]; omega
  have h2 : (xs.take k).length = k := by rw [List.length_take]; omega
  have h3 : (xs.take (k + 1)).length = k + 1 := by rw [List.length_take]; omega
  have hr : rd xs k = xs[k] := by simp [rd, List.getD_eq_getElem?_getD, hk]
  unfold splice
  rw [h2, h3, List.set_append_right _ _ (by omega), h1, List.set_append_right _ _ (by omega), h2]
  have e : off + k - off - k = 0 := by omega
  rw [e, show off + (k + 1) = (off + k) + 1 by omega, List.drop_eq_getElem_cons (show off + k < b.length by omega), List.set_cons_zero, List.take_succ_eq_append_getElem hk, hr]
  simp only [List.append_assoc, List.singleton_append]
set_option maxRecDepth 100000 in
set_option maxHeartbeats 1000000 in
theorem rwrite_ok {w : World} {ok okb : Nat → Prop} {p : Nat} {D : DM} {a : Addr} {c : Nat} {xs : List Int} (i : Nat) (h : RDisk w ok p D) (hF : RB w okb (some a) xs) (hne : apart okb ok) (hr : D.ready i = 0) (hi : i < D.n) (hx : xs.length = 64) (hB : Bytes xs) (hl : ¬ D.left = 0)
    (hm : (D.ws.length + 1) * 32 ≤ 140737488355328) :
  Calls Try.prog 75 #[.pointer (some ⟨p, 0, none⟩), .int .i64 i, .slice (some a) xs.length c] w fun e w' => e = .returned (.int .i64 0) ∧ RDisk w' (orNew ok w) p (D.writeD i xs) ∧ Chg ok w w' := by
  have hready := bad_any h i
  rw [hr] at hready
  obtain ⟨hwf, g, cap, wv, hb⟩ := h
  have hwD : D.writeD i xs = { b := splice D.b (i * 64) xs, left := if 0 < D.left then D.left - 1 else D.left, gone := D.gone, ws := D.ws ++ [(↑i, xs)] } := by
    unfold DM.writeD
    rw [if_neg (by rw [hr]; simp), if_neg (by rw [hx]; simp), if_neg hl]
    simp
  have HWD := hid hwD
  have hlb := hwf.len
  have hhi := hwf.hi
  have HX := hid hx
  have c2 := hb.cell2
  have z2 := hb.free 2
  have l1 := hwf.l1
  have l2 := hwf.l2
  have hl3 : (D.left == 0) = false := by simp [hl]
  have hx3 : ((xs.length : Int) != 64) = false := by simp [hx]
  obtain ⟨W0, D0, hW⟩ : ∃ W0 D0, (W0, D0) = (if 0 < D.left then (w.setCell ⟨p, 2, none⟩ (.int .i64 (D.left - 1)), { D with left := D.left - 1 }) else (w, D) : World × DM) := ⟨_, _, rfl⟩
  have hall : RDb W0 ok p D0 g cap wv ∧ Chg ok w W0 ∧ Hid (D0.b = D.b ∧ D0.ws = D.ws ∧ D.writeD i xs = { b := splice D0.b (i * 64) xs, left := D0.left, gone := D0.gone, ws := D0.ws ++ [(↑i, xs)] }) := by
    by_cases hpos : 0 < D.left
    · rw [if_pos hpos] at hW
      obtain ⟨rfl, rfl⟩ := Prod.mk.inj hW
      exact ⟨hb.setLeft (D.left - 1), (Chg.refl ok w).setCell (.inl hb.okp) _, rfl, rfl, by rw [HWD.out, if_pos hpos]⟩
    · rw [if_neg hpos] at hW
      obtain ⟨rfl, rfl⟩ := Prod.mk.inj hW
      exact ⟨hb, Chg.refl ok _, rfl, rfl, by rw [HWD.out, if_neg hpos]⟩
  obtain ⟨hb0, hc0, HD⟩ := hall
  have HLB : Hid (D0.b.length = 64 * D.n) := hid (by rw [HD.out.1]; exact hlb)
  have HW := hid hW
  clear hW hx hr hl hwD hlb
  by_cases hpos : 0 < D.left
  all_goals
    go_enter Try.func75, Try.ntmps75
    go_wp2_with (go_at_call 96; refine hready.mono ?_; rintro e w' ⟨rfl, rfl⟩)
    have hW := HW.out
    first | rw [if_pos hpos] at hW | rw [if_neg (by omega)] at hW
    have hW2 := congrArg Prod.fst hW
    simp only at hW2
    try rw [← hW2]
    clear hW hW2 hready c2 z2
    go_loopw [8] (fun j wr => ∃ k : Nat, k ≤ 64 ∧ j = .int .i64 k ∧ RDb wr ok p { D0 with b := splice D0.b (i * 64) (xs.take k) } g cap wv ∧ Chg ok w wr) (fun j _ => 64 - (intOf j).toNat)
    case atStart => exact ⟨0, by omega, rfl, by rw [List.take_zero, splice_none]; exact hb0, hc0⟩
    case round =>
      obtain ⟨k, hk, rfl, hbk, hck⟩ := hrel
      have hln : (splice D0.b (i * 64) (xs.take k)).length = 64 * D.n := by
        rw [length_splice _ _ _ (by rw [List.length_take, HX.out, HLB.out]; omega), HLB.out]
      by_cases hlt : k < 64
      · have c0 := hbk.cell0
        have hFk := RB_step hF hck hne
        obtain ⟨ad, hae, hcell⟩ := (RB_int hFk).at_ (k : Int) (by omega) (by rw [HX.out]; omega)
        injection hae with hae
        subst hae
        simp only [Int.toNat_natCast] at hcell
        obtain ⟨hc, hz⟩ := own_at hbk.row ((i * 64 + k : Nat) : Int) (by omega) (by rw [hln]; omega)
        simp only [Int.toNat_natCast] at hc hz
        have hbn := hbk.setByte (i * 64 + k) (rd xs k)
        have hcn : Chg ok w (wr.setCell ⟨g, i * 64 + k, none⟩ (.int .u8 (rd xs k))) := hck.setCell (.inl hbk.okg) _
        have hse := splice_set (b := D0.b) (xs := xs) (off := i * 64) (k := k) (by rw [HX.out]; omega) (by rw [HX.out, HLB.out]; omega)
        simp only at c0 hbn
        rw [hse] at hbn
        rw [hln] at c0
        have HE := hid hln
        clear hse hln
        rw [Nat.mul_comm i 64] at hc hz
        have hbn' : RDb (wr.drew.setCell ⟨g, 64 * i + k, none⟩ (.int .u8 (rd xs k))) ok p { D0 with b := splice D0.b (i * 64) (xs.take (k + 1)) } g cap wv := by
          have := hbk.drew.setByte (i * 64 + k) (rd xs k)
          simp only [] at this
          rw [splice_set (by rw [HX.out]; omega) (by rw [HX.out, HLB.out]; omega)] at this
          rwa [Nat.mul_comm 64 i]
        have hcn' : Chg ok w (wr.drew.setCell ⟨g, 64 * i + k, none⟩ (.int .u8 (rd xs k))) := hck.drew.setCell (.inl hbk.okg) _
        clear hbn hcn
        have hw1 : IntKind.i64.wrap (64 * (i : Int)) = 64 * (i : Int) := IntWalk.i64_in _ (by omega)
        have hw2 : IntKind.i64.wrap (64 * (i : Int) + (k : Int)) = 64 * (i : Int) + (k : Int) := IntWalk.i64_in _ (by omega)
        have hw3 : (64 * (i : Int) + (k : Int)).toNat = 64 * i + k := by omega
        have hw4 : 0 ≤ 64 * (i : Int) + (k : Int) ∧ 64 * (i : Int) + (k : Int) < 64 * (D.n : Int) := by omega
        go_wp2_with fail
        refine wp_region_plan [12, 13] (.take 0 (.take 1 (.take 2 (.take 3 (.take 4 (.take 5 (.take 6 (.take 7 (.take 8 (.take 9 (.take 10 (.take 11 (.tail 12 (.tail 13 .done)))))))))))))) (fun w' => w'.cell? ⟨p, 0, none⟩ = some (.slice (some ⟨g, 0, none⟩) (64 * D.n) cap) ∧ w'.cell? (a.add k) = some (.int .u8 (rd xs k))) (by kernel_rfl) (by kernel_rfl) (fun c a d v w h => by cases d <;> exact h) ⟨c0, hcell⟩ ?_
        iterate 12 (apply plan_take rfl rfl; (case hy => (intro w' hS; obtain ⟨s0, s1⟩ := hS; have hx' := HX.out; go_simp; try exact rfl)); go_simp)
        refine plan_tail rfl (fun K hK => ?_)
        go_simp
        try rw [if_pos hw4, hw3]
        refine hK _ _ ?_
        clear hK K
        refine plan_tail rfl (fun K hK => ?_)
        go_simp
        refine hK _ _ (plan_done ?_)
        clear hK K c0 hc hz hcell
        go_wp2
        go_roundw
        case rel => exact ⟨k + 1, by omega, by go_num, hbn', hcn'⟩
        case measure => simp [intOf]; omega
      · obtain rfl : k = 64 := by omega
        rw [List.take_of_length_le (by rw [HX.out]; omega)] at hbk
        have HLN : Hid ((splice D0.b (i * 64) xs).length = 64 * D.n) := by
          rw [List.take_of_length_le (by rw [HX.out]; omega)] at hln
          exact hid hln
        have hFk := RB_step hF hck hne
        have c3 := hbk.cell3
        have hszw : w.heap.size ≤ wr.heap.size := hck.size
        clear hln
        go_wp2_with fail
        refine wp_region_plan [12, 13, 14] (.take 0 (.take 1 (.take 2 (.take 3 (.take 4 (.take 5 (.take 7 (.run 6 (.run 8 (.take 9 (.run 10 (.run 11 (.tail 12 (.tail 13 (.tail 14 .done))))))))))))))) (fun w' => w'.cell? ⟨p, 3, none⟩ = some wv) (by kernel_rfl) (by kernel_rfl) (fun c a d v w h => by cases d <;> exact h) c3 ?_
        iterate 7 (apply plan_take rfl rfl; (case hy => (intro w' hS; go_simp; try exact rfl)); go_simp)
        refine plan_run_on rfl rfl (fun K hK => ?_)
        go_simp
        have hBa := below_alloc (below_drew (Below.refl wr.heap.size wr)) (.cells #[] 5)
        refine hK _ _ _ (fun _ h => h) (pw_cell_below hBa c3) ?_
        clear hK K
        refine plan_run_on rfl rfl (fun K hK => ?_)
        refine step_append_row (w0 := wr) wr.heap.size (.tmp 61) (.tmp 62) 29 5 .u8 1 rfl Try.underlying29 info_u8 (by decide) _ [] xs (some a) xs.length c rfl rfl ?HO ?HR ?HB ?hb ?hl ?_
        case HO => exact World.ownsRow_made (base := wr.heap.size) wr.drew #[] 0 (Nat.le_refl _) (Nat.zero_le _) rfl
        case HR => exact (RB_int hFk).below hBa
        case HB => exact hBa
        case hb => simp
        case hl => simp; rw [HX.out]; omega
        intro v1 w2 ho hB2 hg hat
        have hR2 : KB.R 5 w2 wr.heap.size (fun q => wr.heap.size ≤ q) v1 xs := Rown (by simpa using ho) (fun q hq => own_base ho q hq)
        obtain ⟨A2, c2, rfl⟩ := Kd.R_slice hR2
        clear ho hg hat
        have hb2 := hbk.below hB2
        have hc2 := hck.same hB2
        refine hK _ _ _ (fun _ h => h) hb2.cell3 ?_
        clear hK K
        go_simp
        apply plan_take rfl rfl
        case hy => (intro w' hS; go_simp; try exact rfl)
        go_simp
        refine plan_run_on rfl rfl (fun K hK => ?_)
        go_simp
        refine hK _ _ _ (fun _ h => h) (hb2.below (below_alloc (Below.refl _ _) _)).cell3 ?_
        clear hK K
        refine plan_run rfl (fun K hK => ?_)
        have hw2 : w.heap.size ≤ w2.heap.size := hc2.size
        have hR3 : KB.R 5 w2 0 (fun k => wr.heap.size ≤ k) (.slice A2 xs.length c2) xs := Kd.R_lower hR2 (Nat.zero_le _)
        have hlt : ∀ k, wv.ownBlock = some k → k < wr.heap.size := by
          obtain ⟨_, _, ho, _⟩ := hbk.ws
          exact fun k hk => own_lt ho k hk
        have hgl : g < wr.heap.size := own_lt hbk.row g rfl
        have hgl2 : g < w2.heap.size := Nat.lt_of_lt_of_le hgl hB2.size
        have hpw := hb2.ne_pw
        refine Kd.R_append_step KW (w0 := w2) 0 rfl (.tmp 59) (.tmp 65) 85 131 (.agg #[.int .i64 0, .slice none 0 0]) 32 rfl Try.underlying85 info_RWrite rfl (by decide) (by decide) wv D0.ws (↑i, xs) [.int .i64 i, .slice A2 xs.length c2]
          (fun k => orNew ok w k ∧ k ≠ g) (fun k => wr.heap.size ≤ k) rfl rfl (KW_new hR3) (fun k hk => ⟨⟨.inr (Nat.le_trans hszw hk), by omega⟩, fun e => by have := hlt k e.symm; omega⟩) (fun k hk => ⟨.inr (Nat.le_trans hw2 hk), by omega⟩) (Kd.R_mono hb2.ws (fun _ h => ⟨.inl h.1, h.2⟩)) (Below.refl _ _) (Nat.zero_le _) (by rw [HD.out.2.1]; exact hm) ?_
        intro v3 w3 hR4 _ hg3 _
        obtain ⟨A3, c4, rfl⟩ := Kd.R_slice hR4
        have hblk3 : w3.heap[p]? = _ := (hg3.block p (blk_lt hb2.blk) hpw).trans hb2.blk
        have hrow3 := own_other hb2.row hg3 (.inr (by have := hb2.ne_gw; simpa [Value.ownBlock] using this))
        have hc3 : Chg ok w w3 := hc2.grown hg3 (fun k hk => .inl (by
          obtain ⟨h0, _⟩ := hb2.ws
          exact (h0 k hk).1))
        refine hK _ _ _ (fun _ h => h) (by rw [cell_of_row w3 p 3 _ _ _ hblk3]; rfl) ?_
        clear hK K
        have z3 := frozen_of_row w3 p 3 _ _ hblk3
        have c5 : w3.cell? ⟨p, 3, none⟩ = some wv := by rw [cell_of_row w3 p 3 _ _ _ hblk3]; rfl
        go_simp
        iterate 2
          refine plan_tail rfl (fun K hK => ?_)
          go_simp
          refine hK _ _ ?_
          clear hK K
        refine plan_tail rfl (fun K hK => ?_)
        go_simp
        refine hK _ _ (plan_done ?_)
        clear hK K
        go_wp2_with fail
        go_ret
        have hnl : D0.ws.length + 1 = (D0.ws ++ [((i : Int), xs)]).length := by simp
        rw [hnl]
        refine ⟨rfl, ⟨writeD_wf hwf hB i, g, cap, .slice A3 (D0.ws ++ [((i : Int), xs)]).length c4, ?_⟩, hc3.setCell (.inl hb0.okp) _⟩
        rw [HD.out.2.2]
        exact RDb.close (D := { D0 with b := splice D0.b (i * 64) xs }) (.inl hb0.okp) (.inl hb0.okg) hblk3 hrow3 hR4
end Go.Proofs.Ytpgiooheoafieaa
