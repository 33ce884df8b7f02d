/- Package foundrylaw21: DiskReplays, the walk. -/
import Derived.Test.YtpgiooheoafieaaLaw21d
set_option linter.unusedVariables false
set_option linter.unusedSimpArgs false
namespace Go.Proofs.Ytpgiooheoafieaa
open Go.RowKit Go.Proofs.YtpgiooheoafieaaW.PrintWords Go.Proofs.YtpgiooheoafieaaW.PrintMore
attribute [local go_sem] max2_int min2_int max_two min_two

theorem Addr.add_one' (a : Addr) : a.add 1 = ⟨a.block, a.off + 1, none⟩ := by simp [Addr.add]
theorem Addr.add_zero' (a : Addr) : a.add 0 = a := by simp [Addr.add]
/-- What is told of a loop of DiskReplays. -/
structure RRel (w : World) (n : Nat) (pd pc : Nat) (k : Nat) (D C : DM) (okd okc : Nat → Prop) (wr : World) : Prop where
  d : PDisk wr okd pd D
  c : PDisk wr okc pc C
  ap : apart okd okc
  ed : ∀ q, okd q → w.heap.size ≤ q ∧ q < wr.heap.size
  ec : ∀ q, okc q → w.heap.size ≤ q ∧ q < wr.heap.size
  inv : RInv n k D C
  b : Below w.heap.size w wr
set_option maxRecDepth 100000 in
set_option maxHeartbeats 4000000 in
theorem replays_neg {w : World} {A : Option Addr} {c m : Nat} {n : Int} (hn : n < 0) :
  Calls Try.prog 3 #[.slice A m c, .int .i64 n] w fun e w' => e = .returned (.bool true) ∧ Below w.heap.size w w' := by
  go_enter Try.func3, Try.ntmps3
  go_wp2_with fail
  refine (new_ok 16 (by omega) (by omega)).mono ?_
  rintro e w1 ⟨rfl, h1, b1⟩
  go_wp2_with fail
  refine (new_ok 16 (by omega) (by omega)).mono ?_
  rintro e w2 ⟨rfl, h2, b2⟩
  have t2 := below_step b1 b2
  clear h1 h2 b1 b2
  go_wp2_with fail
  refine alive21.mono ?_
  rintro e w3 ⟨rfl, b3⟩
  have t3 := below_step t2 b3
  go_wp2
  go_ret
  exact ⟨rfl, t3⟩
set_option maxRecDepth 100000 in
set_option maxHeartbeats 4000000 in
theorem replays_pos {w : World} {A : Option Addr} {c : Nat} {l : List OP} (n : Nat) (hn : n ≤ 9223372036854775807) (hC : KOp.C w A l.length l) (hok : ∀ o ∈ l, o.ok) (hl : l.length * 64 ≤ 140737488351232) :
  Calls Try.prog 3 #[.slice A l.length c, .int .i64 n] w fun e w' => e = .returned (.bool true) ∧ Below w.heap.size w w' := by
  go_enter Try.func3, Try.ntmps3
  go_wp2_with fail
  refine (new_ok 16 (by omega) (by omega)).mono ?_
  rintro e w1 ⟨rfl, h1, b1⟩
  go_wp2_with fail
  refine (new_ok 16 (by omega) (by omega)).mono ?_
  rintro e w2 ⟨rfl, h2, b2⟩
  have h1' := h1.bound.step (w1 := w2) (fun k hk _ => b2.block k hk.2)
  go_wp2_with fail
  refine alive21.mono ?_
  rintro e w3 ⟨rfl, b3⟩
  have h1'' := h1'.step (w1 := w3) (fun k hk _ => b3.block k (Nat.lt_of_lt_of_le hk.2 b2.size))
  have h2'' := h2.bound.step (w1 := w3) (fun k hk _ => b3.block k hk.2)
  go_wp2_with fail
  refine (cut_any n h2'' (by omega)).mono ?_
  rintro e w4 ⟨rfl, h4, c4⟩
  have s1 := b1.size
  have s2 := b2.size
  have s3 := b3.size
  have s4 := c4.size
  have hd4 := h1''.step (w1 := w4) (fun k hk _ => c4.block k (by omega) (fun hk2 => by omega))
  have t4 : Below w.heap.size w w4 := (below_step (below_step b1 b2) b3).trans (c4.below_ (B := w.heap.size) (by omega) (fun q hq => by omega))
  have hrel0 : RRel w n (w.heap.size + 1) (w1.heap.size + 1) 0 (DM.new 16) ((DM.new 16).cut n) (fun q => w.heap.size ≤ q ∧ q < w1.heap.size) (fun q => w1.heap.size ≤ q ∧ q < w2.heap.size) w4 :=
    ⟨hd4, h4, fun q h1 h2 => by omega, fun q hq => ⟨hq.1, by omega⟩, fun q hq => ⟨by omega, by omega⟩, rinv_start n, t4⟩
  generalize w.heap.size + 1 = pd at hrel0 ⊢
  generalize w1.heap.size + 1 = pc at hrel0 ⊢
  clear h1 h2 h1' h1'' h2'' h4 hd4 t4 c4 b1 b2 b3 s1 s2 s3 s4
  go_wp2_with fail
  go_loopw [9] (fun i wr => ∃ (k : Nat) (D C : DM) (okd okc : Nat → Prop), k ≤ l.length ∧ i = .int .i64 k ∧ RRel w n pd pc k D C okd okc wr) (fun i _ => l.length - (intOf i).toNat)
  case atStart => exact ⟨0, _, _, _, _, Nat.zero_le _, rfl, hrel0⟩
  case round =>
    obtain ⟨k, D, C, okd, okc, hk, rfl, hr⟩ := hrel
    have hb9 : (l.length : Int) ≤ 140737488351232 := by omega
    by_cases hlt : k < l.length
    · have hlt' : (k : Int) < (l.length : Int) := by omega
      cases A with
      | none =>
        have := C_none hC
        subst this
        simp at hlt
      | some ad =>
      obtain ⟨A1, c1, hcell, hCb⟩ := op_at hC hlt
      have ho := hok l[k] (List.getElem_mem hlt)
      have hcw : ∀ j v, (l[k].cells A1 c1)[j]? = some v → wr.cell? ((ad.add (k * 6)).add j) = some v := fun j v hj => pw_cell_below hr.b (hcell j v hj)
      have hblk : (ad.add (k * 6)).block < w.heap.size := by
        have := World.block_lt_of_cell? w _ (hcell 0 _ rfl)
        rwa [block_of_add'] at this
      have e0 := hcw 0 _ rfl
      have e1 := hcw 1 _ rfl
      simp only [Addr.add_zero'] at e0
      rw [Addr.add_one'] at e1
      have HCW := hid hcw
      clear hcw hcell hC
      by_cases hk2 : l[k].kind = 2
      · have hkk : (l[k].kind == 2) = true := by simp [hk2]
        have HK := hid hk2
        clear hk2
        go_wp2_with fail
        refine wp_region_plan [] (.take 0 (.take 1 (.take 2 (.take 3 (.take 4 (.take 5 (.take 6 (.take 7 (.take 8 (.take 9 (.run 10 (.run 11 (.take 12 .done))))))))))))) (fun w' => ∀ j v, (l[k].cells A1 c1)[j]? = some v → w'.cell? ((ad.add (k * 6)).add j) = some v) (by kernel_rfl) (by kernel_rfl) (fun c a d v w h => by cases d <;> exact h) HCW.out ?_
        iterate 9 (apply plan_take rfl rfl; (case hy => (intro w' hS; have s1 := hS 1 _ rfl; rw [Addr.add_one'] at s1; clear hS; go_simp; try exact rfl)); go_simp)
        apply plan_take rfl rfl
        case hy =>
          intro w' hS
          refine exec_load_row 31 (.tmp 71) ?_ (ad.add (k * 6)) ?_ [.int .i64 l[k].kind, .int .i64 l[k].at_, .int .i64 l[k].n, .int .u8 l[k].fill, .slice A1 l[k].bytes.length c1, .bool l[k].odd] _ ?_ Try.underlying31 ?_ ?_
          · exact rfl
          · exact rfl
          · exact hS
          · exact rfl
          · kernel_rfl
        go_simp
        refine plan_run_on rfl rfl (fun K hK => ?_)
        go_simp
        have hC1 : KB.C wr.drew A1 l[k].bytes.length l[k].bytes := Kd.C_below hCb hr.b.drew
        refine (block_any l[k].odd hC1 ho.l).mono ?_
        rintro e w5 ⟨A2, c2, rfl, hR5, hB5⟩
        have hB5' : Below wr.heap.size wr w5 := below_step (below_drew (Below.refl wr.heap.size wr)) hB5
        have hcw5 : ∀ j v, (l[k].cells A1 c1)[j]? = some v → w5.cell? ((ad.add (k * 6)).add j) = some v := fun j v hj => pw_cell_below hB5' (HCW.out j v hj)
        refine hK _ _ _ (fun _ h => h) hcw5 ?_
        clear hK K
        go_simp
        refine plan_run_on rfl rfl (fun K hK => ?_)
        go_simp
        have hd5 := hr.d.step (w1 := w5) (fun q hq _ => hB5'.block q (hr.ed q hq).2)
        have hc5 := hr.c.step (w1 := w5) (fun q hq _ => hB5'.block q (hr.ec q hq).2)
        have hF5 : RB w5 (fun q => wr.heap.size ≤ q) A2 l[k].block := Kd.R_F hR5
        have hlen5 : D.ws.length ≤ k := hr.inv.le
        have s5 : wr.heap.size ≤ w5.heap.size := hB5'.size
        have swr : w.heap.size ≤ wr.heap.size := hr.b.size
        refine (write_any l[k].at_ hd5 hF5 (fun q h1 h2 => by have := (hr.ed q h2).2; omega) (opBlock_B _ ho.f ho.b) (by omega)).mono ?_
        rintro e w6 ⟨rfl, hd6, c6⟩
        have s6 := c6.size
        have hnad : ∀ j : Nat, ¬ okd ((ad.add (k * 6)).add j).block := fun j hq => by rw [block_of_add'] at hq; have := (hr.ed _ hq).1; omega
        have hcw6 : ∀ j v, (l[k].cells A1 c1)[j]? = some v → w6.cell? ((ad.add (k * 6)).add j) = some v := fun j v hj => c6.cell_ (hcw5 j v hj) (hnad j)
        refine hK _ _ _ (fun _ h => h) hcw6 ?_
        clear hK K
        go_simp
        apply plan_take rfl rfl
        case hy => (intro w' hS; clear hS; go_simp; try exact rfl)
        go_simp
        refine plan_done ?_
        have hc6 := hc5.step (w1 := w6) (fun q hq hlt => c6.block q hlt (fun h => hr.ap q h hq))
        have hB6 : Below w.heap.size w w6 := (hr.b.trans (hB5'.mono swr)).trans (c6.below_ (B := w.heap.size) (by omega) (fun q hq => (hr.ed q hq).1))
        have e0 := hcw6 0 _ rfl
        have e1 := hcw6 1 _ rfl
        simp only [Addr.add_zero'] at e0
        rw [Addr.add_one'] at e1
        have HCW6 := hid hcw6
        clear hcw6 hcw5 HCW
        go_wp2_with fail
        refine wp_region_plan [] (.take 0 (.take 1 (.take 2 (.take 3 (.take 4 (.take 5 (.take 6 (.take 7 (.take 8 (.take 9 (.run 10 (.run 11 (.take 12 .done))))))))))))) (fun w' => ∀ j v, (l[k].cells A1 c1)[j]? = some v → w'.cell? ((ad.add (k * 6)).add j) = some v) (by kernel_rfl) (by kernel_rfl) (fun c a d v w h => by cases d <;> exact h) HCW6.out ?_
        iterate 9 (apply plan_take rfl rfl; (case hy => (intro w' hS; have s1 := hS 1 _ rfl; rw [Addr.add_one'] at s1; clear hS; go_simp; try exact rfl)); go_simp)
        apply plan_take rfl rfl
        case hy =>
          intro w' hS
          refine exec_load_row 31 (.tmp 83) ?_ (ad.add (k * 6)) ?_ [.int .i64 l[k].kind, .int .i64 l[k].at_, .int .i64 l[k].n, .int .u8 l[k].fill, .slice A1 l[k].bytes.length c1, .bool l[k].odd] _ ?_ Try.underlying31 ?_ ?_
          · exact rfl
          · exact rfl
          · exact hS
          · exact rfl
          · kernel_rfl
        go_simp
        refine plan_run_on rfl rfl (fun K hK => ?_)
        go_simp
        have hC6 : KB.C w6.drew A1 l[k].bytes.length l[k].bytes := Kd.C_below hCb hB6.drew
        refine (block_any l[k].odd hC6 ho.l).mono ?_
        rintro e w7 ⟨A3, c3, rfl, hR7, hB7⟩
        have hB7' : Below w6.heap.size w6 w7 := below_step (below_drew (Below.refl w6.heap.size w6)) hB7
        have hcw7 : ∀ j v, (l[k].cells A1 c1)[j]? = some v → w7.cell? ((ad.add (k * 6)).add j) = some v := fun j v hj => pw_cell_below hB7' (HCW6.out j v hj)
        refine hK _ _ _ (fun _ h => h) hcw7 ?_
        clear hK K
        go_simp
        refine plan_run_on rfl rfl (fun K hK => ?_)
        go_simp
        have hd7 := hd6.bound.step (w1 := w7) (fun q hq _ => hB7'.block q hq.2)
        have hc7 := hc6.step (w1 := w7) (fun q hq _ => hB7'.block q (by have := (hr.ec q hq).2; omega))
        have hF7 : RB w7 (fun q => w6.heap.size ≤ q) A3 l[k].block := Kd.R_F hR7
        have hlen7 : C.ws.length ≤ k := by rw [hr.inv.cw, List.length_take]; omega
        have s7 : w6.heap.size ≤ w7.heap.size := hB7'.size
        refine (write_any l[k].at_ hc7 hF7 (fun q h1 h2 => by have := (hr.ec q h2).2; omega) (opBlock_B _ ho.f ho.b) (by omega)).mono ?_
        rintro e w8 ⟨rfl, hc8, c8⟩
        have s8 := c8.size
        have hnac : ∀ j : Nat, ¬ okc ((ad.add (k * 6)).add j).block := fun j hq => by rw [block_of_add'] at hq; have := (hr.ec _ hq).1; omega
        have hcw8 : ∀ j v, (l[k].cells A1 c1)[j]? = some v → w8.cell? ((ad.add (k * 6)).add j) = some v := fun j v hj => c8.cell_ (hcw7 j v hj) (hnac j)
        refine hK _ _ _ (fun _ h => h) hcw8 ?_
        clear hK K
        go_simp
        apply plan_take rfl rfl
        case hy => (intro w' hS; clear hS; go_simp; try exact rfl)
        go_simp
        refine plan_done ?_
        have hd8 := hd7.step (w1 := w8) (fun q hq hlt => c8.block q hlt (fun h => by
          rcases hq.1 with h1 | h1
          · exact hr.ap q h1 h
          · have := (hr.ec q h).2; omega))
        have hB8 : Below w.heap.size w w8 := (hB6.trans (hB7'.mono (by omega))).trans (c8.below_ (B := w.heap.size) (by omega) (fun q hq => (hr.ec q hq).1))
        obtain ⟨hinv, hcmp⟩ := rinv_step hr.inv (hr.d.1) (hr.c.1) l[k].at_ l[k].block
        have hrel8 : RRel w n pd pc (k + 1) (D.writeD l[k].at_ l[k].block) (C.writeD l[k].at_ l[k].block) (fun q => orNew okd w5 q ∧ q < w6.heap.size) (fun q => orNew okc w7 q ∧ q < w8.heap.size) w8 := by
          refine ⟨hd8, hc8.bound, ?_, ?_, ?_, hinv, hB8⟩
          · rintro q ⟨h1 | h1, h2⟩ ⟨h3 | h3, h4⟩
            · exact hr.ap q h1 h3
            · omega
            · have := (hr.ec q h3).2; omega
            · omega
          · rintro q ⟨h1 | h1, h2⟩
            · exact ⟨(hr.ed q h1).1, by omega⟩
            · exact ⟨by omega, by omega⟩
          · rintro q ⟨h1 | h1, h2⟩
            · exact ⟨(hr.ec q h1).1, by omega⟩
            · exact ⟨by omega, by omega⟩
        clear e0 e1 hcw7 hcw8 HCW6 hd5 hc5 hd6 hc6 hd7 hc7 hc8 hd8 c6 c8 hB5 hB5' hB6 hB7 hB7' hB8 hR5 hR7 hF5 hF7 hinv hCb hC1 hC6 hnad hnac hr
        rcases hcmp with hcmp | hcmp
        · have hne : (D.writeE l[k].at_ l[k].block != C.writeE l[k].at_ l[k].block) = false := by rw [hcmp]; simp
          clear hcmp
          go_wp2
          go_roundw
          case rel => exact ⟨k + 1, _, _, _, _, by omega, by go_num, hrel8⟩
          case measure => simp [intOf]; omega
        · have hne : (C.writeE l[k].at_ l[k].block != 61) = false := by rw [hcmp]; simp
          clear hcmp
          go_wp2
          all_goals
            go_roundw
            case rel => exact ⟨k + 1, _, _, _, _, by omega, by go_num, hrel8⟩
            case measure => simp [intOf]; omega
      · have hkk : (l[k].kind == 2) = false := by simp [hk2]
        have hrel8 : RRel w n pd pc (k + 1) D C okd okc wr := ⟨hr.d, hr.c, hr.ap, hr.ed, hr.ec, rinv_skip hr.inv, hr.b⟩
        clear hk2 hr hCb hblk
        go_wp2
        go_roundw
        case rel => exact ⟨k + 1, _, _, _, _, by omega, by go_num, hrel8⟩
        case measure => simp [intOf]; omega
    · obtain rfl : k = l.length := by omega
      have hws : D.ws.length * 32 ≤ 140737488355328 := by have := hr.inv.le; omega
      have hw9 : (D.ws.length : Int) ≤ 140737488351232 := by have := hr.inv.le; omega
      have hfit : Fit 16 D.ws := fun x hx => by
        have h1 := hr.d.1.wsB x hx
        rw [hr.inv.dn] at h1
        exact ⟨h1.2.1, h1.2.2.1, h1.2.2.2⟩
      go_wp2_with fail
      refine (writes_any hr.d hws).mono ?_
      rintro e w5 ⟨A5, c5, rfl, hR5, hB5⟩
      have hd5 := hr.d.step (w1 := w5) (fun q hq _ => hB5.block q (hr.ed q hq).2)
      have hc5 := hr.c.step (w1 := w5) (fun q hq _ => hB5.block q (hr.ec q hq).2)
      have t5 := hr.b.trans (hB5.mono hr.b.size)
      go_wp2_with fail
      refine wp_region_plan [] (.take 0 (.take 1 (.take 2 (.take 5 (.run 3 (.take 4 (.run 6 (.take 7 (.take 8 (.take 9 (.take 10 (.take 11 (.take 14 (.run 12 (.take 13 (.run 15 (.take 16 (.take 17 (.take 18 (.take 19 (.take 20 (.take 22 (.take 23 (.take 24 (.take 25 (.run 21 (.take 26 (.take 27 (.take 28 (.take 29 (.take 31 (.take 32 (.take 33 (.take 34 (.run 30 (.take 35 (.take 36 (.take 37 .done)))))))))))))))))))))))))))))))))))))) (fun w' => Below w5.heap.size w5 w') (by kernel_rfl) (by kernel_rfl) (fun c a d v w h => by cases d <;> exact h) (below_drew (Below.refl _ _)) ?_
      iterate 4 (apply plan_take rfl rfl; (case hy => (intro w' hS; clear hS; go_simp; try exact rfl)); go_simp)
      refine plan_run_on rfl rfl (fun K hK => ?_)
      go_simp
      refine (laid_any (D.ws.length : Int) (w := w5.drew) (Kd.R_below hR5 (below_drew (Below.refl _ _))) (by omega) hfit (by omega)).mono ?_
      rintro e w6 ⟨A6, c6, rfl, hR6, hB6⟩
      have hB6' : Below w5.heap.size w5 w6 := below_step (below_drew (Below.refl _ _)) hB6
      have hDb : lay (List.replicate 1024 0) (List.take (D.ws.length : Int).toNat D.ws) = D.b := by rw [Int.toNat_natCast, List.take_length]; exact hr.inv.db.symm
      rw [hDb] at hR6
      clear hDb
      refine hK (fun w' => Below w6.heap.size w6 w') _ _ (fun x hx => below_step hB6' hx) (Below.refl _ _) ?_
      clear hK K
      go_simp
      apply plan_take rfl rfl
      case hy =>
        intro w' hS
        refine exec_convert 29 9 (.tmp 99) (.slice A6 1024 c6) (.string (strOfNums D.b)) ?_ ?_ (conv_str (Kd.F_now (Kd.F_below (Kd.R_F hR6) hS)))
        · exact rfl
        · exact rfl
      go_simp
      refine plan_run_on rfl rfl (fun K hK => ?_)
      go_simp
      have hd6 := hd5.step (w1 := w6) (fun q hq _ => hB6'.block q (Nat.lt_of_lt_of_le (hr.ed q hq).2 hB5.size))
      have hc6 := hc5.step (w1 := w6) (fun q hq _ => hB6'.block q (Nat.lt_of_lt_of_le (hr.ec q hq).2 hB5.size))
      have s5 := hB5.size
      have s6 := hB6'.size
      refine (image_any hd6).mono ?_
      rintro e w7 ⟨A7, c7, rfl, hR7, hB7⟩
      refine hK (fun w' => Below w7.heap.size w7 w') _ _ (fun x hx => below_step hB7 hx) (Below.refl _ _) ?_
      clear hK K
      have s7 := hB7.size
      go_simp
      apply plan_take rfl rfl
      case hy =>
        intro w' hS
        refine exec_convert 29 9 (.tmp 102) (.slice A7 D.b.length c7) (.string (strOfNums D.b)) ?_ ?_ (conv_str (Kd.F_now (Kd.F_below (Kd.R_F hR7) hS)))
        · exact rfl
        · exact rfl
      go_simp
      iterate 5 (apply plan_take rfl rfl; (case hy => (intro w' hS; clear hS; go_simp; try exact rfl)); go_simp)
      refine plan_run_on rfl rfl (fun K hK => ?_)
      go_simp
      have hB7' : Below w5.heap.size w5 w7 := below_step hB6' hB7
      refine (laid_any (n : Int) (w := w7) (Kd.R_below hR5 hB7') (by omega) hfit (by omega)).mono ?_
      rintro e w8 ⟨A8, c8, rfl, hR8, hB8⟩
      have hCb : lay (List.replicate 1024 0) (List.take (n : Int).toNat D.ws) = C.b := by rw [Int.toNat_natCast, ← hr.inv.cw]; exact hr.inv.cb.symm
      rw [hCb] at hR8
      clear hCb
      refine hK (fun w' => Below w8.heap.size w8 w') _ _ (fun x hx => below_step hB8 hx) (Below.refl _ _) ?_
      clear hK K
      have s8 := hB8.size
      go_simp
      apply plan_take rfl rfl
      case hy =>
        intro w' hS
        refine exec_convert 29 9 (.tmp 108) (.slice A8 1024 c8) (.string (strOfNums C.b)) ?_ ?_ (conv_str (Kd.F_now (Kd.F_below (Kd.R_F hR8) hS)))
        · exact rfl
        · exact rfl
      go_simp
      refine plan_run_on rfl rfl (fun K hK => ?_)
      go_simp
      have hB8' : Below w6.heap.size w6 w8 := below_step hB7 hB8
      have hc8 := hc6.step (w1 := w8) (fun q hq _ => hB8'.block q (by have := (hr.ec q hq).2; omega))
      refine (image_any hc8).mono ?_
      rintro e w9 ⟨A9, c9, rfl, hR9, hB9⟩
      refine hK (fun w' => Below w9.heap.size w9 w') _ _ (fun x hx => below_step hB9 hx) (Below.refl _ _) ?_
      clear hK K
      go_simp
      apply plan_take rfl rfl
      case hy =>
        intro w' hS
        refine exec_convert 29 9 (.tmp 111) (.slice A9 C.b.length c9) (.string (strOfNums C.b)) ?_ ?_ (conv_str (Kd.F_now (Kd.F_below (Kd.R_F hR9) hS)))
        · exact rfl
        · exact rfl
      go_simp
      have hmn : (if D.ws.length < n then (D.ws.length : Int) else (n : Int)) = (C.ws.length : Int) := by rw [hr.inv.cw, List.length_take]; split <;> omega
      iterate 8 (apply plan_take rfl rfl; (case hy => (intro w' hS; clear hS; go_simp; try exact rfl)); go_simp)
      clear hmn
      refine plan_run_on rfl rfl (fun K hK => ?_)
      go_simp
      have hc9 := hc8.step (w1 := w9) (fun q hq _ => hB9.block q (by have := (hr.ec q hq).2; omega))
      refine (count_any hc9).mono ?_
      rintro e w10 ⟨rfl, rfl⟩
      refine hK (fun w' => Below w9.heap.size w9 w') _ _ (fun x hx => hx) (Below.refl _ _) ?_
      clear hK K
      go_simp
      iterate 8 (apply plan_take rfl rfl; (case hy => (intro w' hS; clear hS; go_simp; try exact rfl)); go_simp)
      refine plan_run_on rfl rfl (fun K hK => ?_)
      go_simp
      refine (dead_any hc9).mono ?_
      rintro e w10 ⟨rfl, rfl⟩
      have hgo : C.gone = decide ((n : Int) < (D.ws.length : Int)) := by rw [hr.inv.cg]; simp
      rw [hgo]
      refine hK (fun w' => Below w9.heap.size w9 w') _ _ (fun x hx => hx) (Below.refl _ _) ?_
      clear hK K hgo
      go_simp
      iterate 3 (apply plan_take rfl rfl; (case hy => (intro w' hS; clear hS; go_simp; try exact rfl)); go_simp)
      refine plan_done ?_
      have t9 : Below w.heap.size w w9 := (t5.trans (hB6'.mono (by have := hr.b.size; omega))).trans ((below_step (below_step hB7 hB8) hB9).mono (by have := hr.b.size; omega))
      go_wp2
      go_ret
      exact ⟨rfl, t9⟩
end Go.Proofs.Ytpgiooheoafieaa
