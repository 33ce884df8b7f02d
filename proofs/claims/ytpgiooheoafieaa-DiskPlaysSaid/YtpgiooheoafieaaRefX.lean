/- The document's disk: Write of anything; Clone. -/
import Derived.Test.YtpgiooheoafieaaRefW
import Derived.Test.YtpgiooheoafieaaLaw21b
set_option linter.unusedVariables false
set_option linter.unusedSimpArgs false
namespace Go.Proofs.Ytpgiooheoafieaa
open Go.RowKit Go.Proofs.YtpgiooheoafieaaW.PrintWords

theorem rwrite_err {w : World} {ok : Nat → Prop} {p : Nat} {D : DM} {A : Option Addr} {n c : Nat} (i : Int) (h : RDisk w ok p D) (hr : ¬ D.ready i = 0) :
  Calls Try.prog 75 #[.pointer (some ⟨p, 0, none⟩), .int .i64 i, .slice A n c] w fun e w' => e = .returned (.int .i64 (D.ready i)) ∧ w = w' := by
  have hready := bad_any h i
  have hr2 : (D.ready i != 0) = true := by simp [hr]
  clear hr
  go_enter Try.func75, Try.ntmps75
  go_wp2_with (go_at_call 96; refine hready.mono ?_; rintro e w' ⟨rfl, rfl⟩)
  go_ret
  exact ⟨rfl, rfl⟩
theorem rwrite_len {w : World} {ok : Nat → Prop} {p : Nat} {D : DM} {A : Option Addr} {n c : Nat} (i : Int) (h : RDisk w ok p D) (hr : D.ready i = 0) (hn : ¬ n = 64) :
  Calls Try.prog 75 #[.pointer (some ⟨p, 0, none⟩), .int .i64 i, .slice A n c] w fun e w' => e = .returned (.int .i64 1) ∧ w = w' := by
  have hready := bad_any h i
  rw [hr] at hready
  have hx3 : ((n : Int) != 64) = true := by simp; omega
  clear hr
  go_enter Try.func75, Try.ntmps75
  go_wp2_with (go_at_call 96; refine hready.mono ?_; rintro e w' ⟨rfl, rfl⟩)
  go_ret
  exact ⟨rfl, rfl⟩
theorem rwrite_gone {w : World} {ok : Nat → Prop} {p : Nat} {D : DM} {A : Option Addr} {c : Nat} (i : Int) (h : RDisk w ok p D) (hr : D.ready i = 0) (hl : D.left = 0) :
  Calls Try.prog 75 #[.pointer (some ⟨p, 0, none⟩), .int .i64 i, .slice A 64 c] w fun e w' => e = .returned (.int .i64 61) ∧ w' = w.setCell ⟨p, 1, none⟩ (.bool true) := by
  have hready := bad_any h i
  rw [hr] at hready
  obtain ⟨hwf, g, cap, wv, hb⟩ := h
  have c1 := hb.cell1
  have c2 := hb.cell2
  have z1 := hb.free 1
  rw [hl] at c2
  clear hr hl
  go_enter Try.func75, Try.ntmps75
  go_wp2_with (go_at_call 96; refine hready.mono ?_; rintro e w' ⟨rfl, rfl⟩)
  go_ret
  exact ⟨rfl, rfl⟩
theorem rwrite_any {w : World} {ok okb : Nat → Prop} {p : Nat} {D : DM} {A : Option Addr} {c : Nat} {xs : List Int} (i : Int) (h : RDisk w ok p D) (hF : RB w okb A xs) (hne : apart okb ok) (hB : Bytes xs)
    (hm : (D.ws.length + 1) * 32 ≤ 140737488355328) :
  Calls Try.prog 75 #[.pointer (some ⟨p, 0, none⟩), .int .i64 i, .slice A xs.length c] w fun e w' => e = .returned (.int .i64 (D.writeE i xs)) ∧ RDisk w' (orNew ok w) p (D.writeD i xs) ∧ Chg ok w w' := by
  by_cases hr : D.ready i = 0
  · by_cases hx : xs.length = 64
    · by_cases hl : D.left = 0
      · have e1 : D.writeE i xs = 61 := by unfold DM.writeE; rw [if_neg (by rw [hr]; simp), if_neg (by rw [hx]; simp), if_pos hl]
        have e2 : D.writeD i xs = { D with gone := true } := by unfold DM.writeD; rw [if_neg (by rw [hr]; simp), if_neg (by rw [hx]; simp), if_pos hl]
        rw [e1, e2, hx]
        refine (rwrite_gone i h hr hl).mono ?_
        rintro e w' ⟨rfl, rfl⟩
        obtain ⟨hwf, g, cap, wv, hb⟩ := h
        exact ⟨rfl, ⟨⟨hwf.len, hwf.lo, hwf.hi, hwf.l1, hwf.l2, hwf.bytes, hwf.wsB⟩, g, cap, wv, (hb.setGone true).mono (fun _ h => .inl h)⟩, (Chg.refl ok w).setCell (.inl hb.okp) _⟩
      · have hi : 0 ≤ i ∧ i < D.n := by
          simp only [DM.ready] at hr
          split at hr
          · simp at hr
          · split at hr
            · simp at hr
            · omega
        obtain ⟨j, rfl⟩ := Int.eq_ofNat_of_zero_le hi.1
        cases A with
        | none => rw [RB_none hF] at hx; simp at hx
        | some a =>
          have e1 : D.writeE j xs = 0 := by unfold DM.writeE; rw [if_neg (by rw [hr]; simp), if_neg (by rw [hx]; simp), if_neg hl]
          rw [e1]
          exact rwrite_ok j h hF hne hr (by omega) hx hB hl hm
    · have e1 : D.writeE i xs = 1 := by unfold DM.writeE; rw [if_neg (by rw [hr]; simp), if_pos hx]
      have e2 : D.writeD i xs = D := by unfold DM.writeD; rw [if_neg (by rw [hr]; simp), if_pos hx]
      rw [e1, e2]
      refine (rwrite_len i h hr hx).mono ?_
      rintro e w' ⟨rfl, rfl⟩
      exact ⟨rfl, h.mono (fun _ h => .inl h), Chg.refl ok w⟩
  · have e1 : D.writeE i xs = D.ready i := by unfold DM.writeE; rw [if_pos hr]
    have e2 : D.writeD i xs = D := by unfold DM.writeD; rw [if_pos hr]
    rw [e1, e2]
    refine (rwrite_err i h hr).mono ?_
    rintro e w' ⟨rfl, rfl⟩
    exact ⟨rfl, h.mono (fun _ h => .inl h), Chg.refl ok w⟩

/-- A row of records that is not empty has a block of its own. -/
theorem KW_form {e : Nat} {w : World} {base : Nat} {ok : Nat → Prop} {v : Value} {l : List (Int × List Int)} (h : KW.R e w base ok v l) (hl : 0 < l.length) : ∃ g c, v = .slice (some ⟨g, 0, none⟩) l.length c := by
  obtain ⟨_, _, ho, _⟩ := h
  obtain ⟨g, cap, rfl, _, _⟩ := ho.form hl
  exact ⟨g, cap, rfl⟩
set_option maxRecDepth 100000 in
set_option maxHeartbeats 1000000 in
theorem rclone_any {w : World} {ok : Nat → Prop} {p : Nat} {D : DM} (h : RDisk w ok p D) (hl : D.ws.length * 32 ≤ 140737488355328) :
  Calls Try.prog 78 #[.pointer (some ⟨p, 0, none⟩)] w fun e w' => ∃ q, e = .returned (.pointer (some ⟨q, 0, none⟩)) ∧ RDisk w' (fun k => w.heap.size ≤ k) q D ∧ Below w.heap.size w w' := by
  obtain ⟨hwf, g, cap, wv, hb⟩ := h
  have c0 := hb.cell0
  have c1 := hb.cell1
  have c2 := hb.cell2
  have hlb := hwf.len
  have hhi := hwf.hi
  have hlo := hwf.lo
  have HLB := hid hlb
  have hread : ReadsInt w .u8 (some ⟨g, 0, none⟩) D.b.length D.b := by
    have := reads_drop hb.row 0 D.b.length (by omega) (by omega)
    simpa using this
  have hB9 : D.b.length ≤ 262144 := by omega
  clear hlb
  go_enter Try.func78, Try.ntmps78
  go_wp2_with fail
  refine wp_region_plan [] (.take 1 (.take 2 (.take 3 (.take 4 (.take 6 (.take 7 (.take 8 (.take 9 (.take 10 (.take 11 (.take 12 (.take 13 (.run 0 (.run 5 (.take 14 (.run 15 (.take 16 .done))))))))))))))))) (fun w' => w'.cell? ⟨p, 0, none⟩ = some (.slice (some ⟨g, 0, none⟩) D.b.length cap) ∧ w'.cell? ⟨p, 1, none⟩ = some (.bool D.gone) ∧ w'.cell? ⟨p, 2, none⟩ = some (.int .i64 D.left)) (by kernel_rfl) (by kernel_rfl) (fun c a d v w h => by cases d <;> exact h) ⟨c0, c1, c2⟩ ?_
  iterate 12 (apply plan_take rfl rfl; (case hy => (intro w' hS; obtain ⟨s0, s1, s2⟩ := hS; go_simp; try exact rfl)); go_simp)
  refine plan_run_on rfl rfl (fun K hK => ?_)
  go_simp
  have hBa := below_alloc (below_drew (Below.refl w.heap.size w)) (.cells #[] 5)
  refine hK _ _ _ (fun _ h => h) ⟨pw_cell_below hBa c0, pw_cell_below hBa c1, pw_cell_below hBa c2⟩ ?_
  clear hK K
  refine plan_run_on rfl rfl (fun K hK => ?_)
  refine step_append_row (w0 := w) w.heap.size (.tmp 7) (.tmp 11) 29 5 .u8 1 rfl Try.underlying29 info_u8 (by decide) _ [] D.b (some ⟨g, 0, none⟩) D.b.length cap rfl rfl ?HO ?HR ?HB ?hb ?hl ?_
  case HO => exact World.ownsRow_made (base := w.heap.size) w.drew #[] 0 (Nat.le_refl _) (Nat.zero_le _) rfl
  case HR => exact hread.below hBa
  case HB => exact hBa
  case hb => simp
  case hl => simp; omega
  intro v1 w2 ho hB2 hg hat
  have ho' : w2.ownsRow w.heap.size 5 1 v1 D.b.length (nums .u8 D.b) := by simpa using ho
  obtain ⟨g2, cap2, rfl, hgb, _⟩ := ho'.form (by have := HLB.out; omega)
  clear ho hg hat
  refine hK _ _ _ (fun _ h => h) ⟨pw_cell_below hB2 c0, pw_cell_below hB2 c1, pw_cell_below hB2 c2⟩ ?_
  clear hK K
  go_simp
  apply plan_take rfl rfl
  case hy => (intro w' hS; go_simp; try exact rfl)
  go_simp
  refine plan_run_on rfl rfl (fun K hK => ?_)
  go_simp
  have hb3 : RDb (w2.alloc (.cells #[.slice (some ⟨g2, 0, none⟩) D.b.length cap2, .bool D.gone, .int .i64 D.left, .slice none 0 0] 87)) (fun k => w.heap.size ≤ k) w2.heap.size { D with ws := [] } g2 cap2 (.slice none 0 0) :=
    ⟨hB2.size, hgb, heap_alloc_new w2 _, own_weaken (own_alloc ho' _) (Nat.zero_le _), Kd.R_nil _ _ _ _ _⟩
  have hB3 : Below w.heap.size w (w2.alloc (.cells #[.slice (some ⟨g2, 0, none⟩) D.b.length cap2, .bool D.gone, .int .i64 D.left, .slice none 0 0] 87)) := hB2.alloc hB2.size _
  refine hK _ _ _ (fun _ h => h) ⟨pw_cell_below hB3 c0, pw_cell_below hB3 c1, pw_cell_below hB3 c2⟩ ?_
  clear hK K
  apply plan_take rfl rfl
  case hy => (intro w' hS; go_simp; try exact rfl)
  go_simp
  refine plan_done ?_
  have hsz2 := hB2.size
  generalize w2.alloc (.cells #[.slice (some ⟨g2, 0, none⟩) D.b.length cap2, .bool D.gone, .int .i64 D.left, .slice none 0 0] 87) = w3 at hb3 hB3 ⊢
  generalize w2.heap.size = q at hb3 hsz2 ⊢
  clear c0 c1 c2 hread hBa hB2 ho'
  go_wp2_with fail
  obtain ⟨Aw, cw, rfl, hlew, hCw⟩ := Kd.R_reads hb.ws
  go_loopw [4] (fun j wr => ∃ k : Nat, k ≤ D.ws.length ∧ j = .int .i64 k ∧ ∃ wv', RDb wr (fun k => w.heap.size ≤ k) q { D with ws := D.ws.take k } g2 cap2 wv' ∧ Below w.heap.size w wr) (fun j _ => D.ws.length - (intOf j).toNat)
  case atStart => exact ⟨0, Nat.zero_le _, rfl, _, hb3, hB3⟩
  case round =>
    obtain ⟨k, hk, rfl, wv', hbk, hBk⟩ := hrel
    have hbo := hb.below hBk
    have d3 := hbo.cell3
    by_cases hlt : k < D.ws.length
    · have hsh := (hwf.wsB D.ws[k] (List.getElem_mem hlt)).2.1
      obtain ⟨gw, cw', hgw⟩ := KW_form hb.ws (by omega)
      injection hgw with hgw1 hgw2 hgw3
      subst hgw1
      subst hgw3
      have HSH := hid hsh
      obtain ⟨A1, c1, e0, e1, hC1⟩ := elem2 hbo.ws hlt
      have d3' := hbk.cell3
      clear hsh
      go_wp2_with fail
      have hlw : (k : Int) < (D.ws.length : Int) := by omega
      refine wp_region_plan [26, 27, 28] (.take 0 (.take 1 (.take 2 (.take 3 (.take 4 (.take 5 (.take 6 (.take 7 (.take 8 (.take 9 (.take 10 (.take 11 (.take 12 (.take 14 (.take 15 (.take 16 (.take 17 (.take 18 (.take 19 (.take 20 (.take 21 (.run 13 (.run 22 (.take 23 (.run 24 (.run 25 (.tail 26 (.tail 27 (.tail 28 .done))))))))))))))))))))))))))))) (fun w' => w'.cell? ⟨q, 3, none⟩ = some wv' ∧ w'.cell? ⟨p, 3, none⟩ = some (.slice (some ⟨gw, 0, none⟩) D.ws.length cw) ∧ w'.cell? ⟨gw, k * 2, none⟩ = some (.int .i64 D.ws[k].1) ∧ w'.cell? ⟨gw, k * 2 + 1, none⟩ = some (.slice A1 D.ws[k].2.length c1)) (by kernel_rfl) (by kernel_rfl) (fun c a d v w h => by cases d <;> exact h) ⟨d3', d3, e0, e1⟩ ?_
      iterate 21 (apply plan_take rfl rfl; (case hy => (intro w' hS; obtain ⟨s0, s1, s2, s3⟩ := hS; go_simp; try exact rfl)); go_simp)
      refine plan_run_on rfl rfl (fun K hK => ?_)
      go_simp
      have hBa := below_alloc (below_drew (Below.refl wr.heap.size wr)) (.cells #[] 5)
      refine hK _ _ _ (fun _ h => h) ⟨pw_cell_below hBa d3', pw_cell_below hBa d3, pw_cell_below hBa e0, pw_cell_below hBa e1⟩ ?_
      clear hK K
      refine plan_run_on rfl rfl (fun K hK => ?_)
      refine step_append_row (w0 := wr) wr.heap.size (.tmp 45) (.tmp 53) 29 5 .u8 1 rfl Try.underlying29 info_u8 (by decide) _ [] D.ws[k].2 A1 D.ws[k].2.length c1 rfl rfl ?HO ?HR ?HB ?hb ?hl ?_
      case HO => exact World.ownsRow_made (base := wr.heap.size) wr.drew #[] 0 (Nat.le_refl _) (Nat.zero_le _) rfl
      case HR => exact (C_int hC1).below hBa
      case HB => exact hBa
      case hb => simp
      case hl => simp; rw [HSH.out]; omega
      intro v1 w4 ho hB4 hg hat
      have hR4 : KB.R 5 w4 wr.heap.size (fun q => wr.heap.size ≤ q) v1 D.ws[k].2 := Rown (by simpa using ho) (fun q hq => own_base ho q hq)
      obtain ⟨A2, c2, rfl⟩ := Kd.R_slice hR4
      clear ho hg hat hBa
      have hb4 := hbk.below hB4
      have hbo4 := hbo.below hB4
      have f0 := pw_cell_below hB4 e0
      have f1 := pw_cell_below hB4 e1
      refine hK _ _ _ (fun _ h => h) ⟨hb4.cell3, hbo4.cell3, f0, f1⟩ ?_
      clear hK K f1 f0
      go_simp
      apply plan_take rfl rfl
      case hy => (intro w' hS; go_simp; try exact rfl)
      go_simp
      refine plan_run_on rfl rfl (fun K hK => ?_)
      go_simp
      have hB5 := hB4.alloc hB4.size (.cells #[.int .i64 D.ws[k].1, .slice A2 D.ws[k].2.length c2] 131)
      refine hK _ _ _ (fun _ h => h) ⟨(hbk.below hB5).cell3, (hbo.below hB5).cell3, pw_cell_below hB5 e0, pw_cell_below hB5 e1⟩ ?_
      clear hK K
      refine plan_run rfl (fun K hK => ?_)
      have hRx : KB.R 5 w4 0 (fun k => wr.heap.size ≤ k) (.slice A2 D.ws[k].2.length c2) D.ws[k].2 := Kd.R_lower hR4 (Nat.zero_le _)
      have hltw : ∀ k, wv'.ownBlock = some k → k < wr.heap.size := by
        obtain ⟨_, _, ho, _⟩ := hbk.ws
        exact fun k hk => own_lt ho k hk
      have hgl : g2 < wr.heap.size := own_lt hbk.row g2 rfl
      have hgl2 : g2 < w4.heap.size := Nat.lt_of_lt_of_le hgl hB4.size
      have hszr : w.heap.size ≤ wr.heap.size := hBk.size
      have hszr4 : wr.heap.size ≤ w4.heap.size := hB4.size
      refine Kd.R_append_step KW (w0 := w4) 0 rfl (.tmp 36) (.tmp 56) 85 131 (.agg #[.int .i64 0, .slice none 0 0]) 32 rfl Try.underlying85 info_RWrite rfl (by decide) (by decide) wv' (D.ws.take k) (D.ws[k].1, D.ws[k].2) [.int .i64 D.ws[k].1, .slice A2 D.ws[k].2.length c2]
        (fun k => w.heap.size ≤ k ∧ k ≠ g2) (fun k => wr.heap.size ≤ k) rfl rfl (KW_new hRx) (fun k hk => ⟨⟨Nat.le_trans hszr hk, by omega⟩, fun e => by have := hltw k e.symm; omega⟩) (fun k hk => ⟨by omega, by omega⟩) hb4.ws (Below.refl _ _) (Nat.zero_le _) (by simp; omega) ?_
      intro v3 w5 hR5 _ hg5 _
      have htake : D.ws.take k ++ [(D.ws[k].1, D.ws[k].2)] = D.ws.take (k + 1) := by rw [List.take_succ_eq_append_getElem hlt]
      rw [htake] at hR5
      have hblk5 : w5.heap[q]? = _ := (hg5.block q (blk_lt hb4.blk) hb4.ne_pw).trans hb4.blk
      have hrow5 := own_other hb4.row hg5 (.inr (by have := hb4.ne_gw; simpa [Value.ownBlock] using this))
      have hB6 : Below w.heap.size w w5 := (hBk.trans (hB4.mono hszr)).grown hg5 (by omega) (fun z hz => by
        obtain ⟨h0, _⟩ := hb4.ws
        exact (h0 z hz).1)
      have hgwl : gw < w.heap.size := by
        obtain ⟨_, _, ho, _⟩ := hb.ws
        exact own_lt ho gw rfl
      have hpl : p < w.heap.size := blk_lt hb.blk
      have hnb : ∀ z, wv'.ownBlock = some z → w.heap.size ≤ z := fun z hz => by
        obtain ⟨h0, _⟩ := hb4.ws
        exact (h0 z hz).1
      have hn1 : ∀ j, some (⟨gw, j, none⟩ : Addr).block ≠ wv'.ownBlock := fun j e => by have := hnb _ e.symm; simp at this; omega
      have hn2 : ∀ j, some (⟨p, j, none⟩ : Addr).block ≠ wv'.ownBlock := fun j e => by have := hnb _ e.symm; simp at this; omega
      refine hK _ _ _ (fun _ h => h) ⟨by rw [cell_of_row w5 q 3 _ _ _ hblk5]; rfl, hg5.cell hbo4.cell3 (hn2 3), hg5.cell (pw_cell_below hB4 e0) (hn1 _), hg5.cell (pw_cell_below hB4 e1) (hn1 _)⟩ ?_
      clear hK K
      have z3 := frozen_of_row w5 q 3 _ _ hblk5
      have d5 : w5.cell? ⟨q, 3, none⟩ = some wv' := by rw [cell_of_row w5 q 3 _ _ _ hblk5]; rfl
      obtain ⟨A3, c4, rfl⟩ := Kd.R_slice hR5
      have hbn : RDb (w5.setCell ⟨q, 3, none⟩ (.slice A3 (D.ws.take (k + 1)).length c4)) (fun k => w.heap.size ≤ k) q { D with ws := D.ws.take (k + 1) } g2 cap2 (.slice A3 (D.ws.take (k + 1)).length c4) :=
        RDb.close (D := { D with ws := D.ws.take k }) hbk.okp hbk.okg hblk5 hrow5 hR5
      have hBn : Below w.heap.size w (w5.setCell ⟨q, 3, none⟩ (.slice A3 (D.ws.take (k + 1)).length c4)) := hB6.setCell (p := ⟨q, 3, none⟩) hsz2 _
      have HT := hid (rfl : (D.ws.take (k + 1)).length = (D.ws.take (k + 1)).length)
      generalize hT : (D.ws.take (k + 1)).length = T at hbn hBn
      clear hT HT
      go_simp
      iterate 2
        refine plan_tail rfl (fun K hK => ?_)
        go_simp
        refine hK _ _ ?_
        clear hK K
      refine plan_tail rfl (fun K hK => ?_)
      go_simp
      refine hK _ _ (plan_done ?_)
      clear hK K
      clear d5 z3 hblk5 hrow5 hR5 hn1 hn2 hnb d3 d3' e0 e1
      go_wp2
      go_roundw
      case rel => exact ⟨k + 1, by omega, by go_num, _, hbn, hBn⟩
      case measure => simp [intOf]; omega
    · obtain rfl : k = D.ws.length := by omega
      rw [List.take_length] at hbk
      go_wp2
      go_ret
      exact ⟨q, rfl, ⟨hwf, g2, cap2, wv', hbk⟩, hBk⟩
end Go.Proofs.Ytpgiooheoafieaa
