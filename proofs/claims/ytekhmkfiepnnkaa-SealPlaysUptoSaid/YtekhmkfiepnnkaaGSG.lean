/- Texts of one seat, laid together. -/
import Derived.Test.YtekhmkfiepnnkaaGSB
import Derived.Test.YtekhmkfiepnnkaaGSA
import Derived.Test.YtekhmkfiepnnkaaGSF

/- The document's Head. Printed by wip/tools/gen_seali.py out of XSealH. -/
set_option linter.unusedVariables false
set_option linter.unusedSimpArgs false
namespace Go.Proofs.Ytekhmkfiepnnkaa
open Go.RowKit Go.Proofs.YtekhmkfiepnnkaaW.PrintWords Go.Proofs.YtekhmkfiepnnkaaW.PrintMore

theorem clean_tail {w W' : World} {ok : Nat → Prop} {a : Addr} {b : List Int} {c m : Nat} (h : RB w ok (some a) b) (hW : Below w.heap.size w W') (h64 : b.length = 64) (hm : m ≤ 64) (hc : 64 ≤ c) :
    Calls Try.prog 62 #[.slice (behind (some a) m c) (64 - m) (c - m)] W' fun e w' => e = .returned (.bool (blank (b.drop m))) ∧ w' = W' := by
  have h2 := RB_drop h (n := m) (by omega) (by omega : b.length ≤ c)
  have hl : (b.drop m).length = 64 - m := by rw [List.length_drop, h64]
  have h3 := clean_any (c := c - m) (Kd.F_now (RB_below h2 hW))
  rw [hl] at h3
  exact h3
set_option maxRecDepth 100000 in
set_option maxHeartbeats 4000000 in
theorem fhead_any {w : World} {ok : Nat → Prop} {A : Option Addr} {c : Nat} {b : List Int} (h : RB w ok A b) (hb : Bytes b) (hc : b.length ≤ c) :
  Calls Try.prog 15 #[.slice A b.length c] w (HeadPost b w) := by
  have hlm := RB_len h
  obtain ⟨w0, hw0⟩ : ∃ w0, w.alloc (.cells #[.int .u64 0, .int .i64 0, .int .i64 0, .slice none 0 0] 28) = w0 := ⟨_, rfl⟩
  have hfin : Below w.heap.size w w0 := by rw [← hw0]; exact below_alloc (Below.refl _ _) _
  by_cases h64 : b.length = 64
  · obtain ⟨a, rfl⟩ := RB_some h (by omega)
    have hR0 := RB_int h
    obtain ⟨ad, e0, k0⟩ := hR0.at_ 0 (by omega) (by omega)
    cases e0
    obtain ⟨ad, e0, k1⟩ := hR0.at_ 1 (by omega) (by omega)
    cases e0
    simp only [rd, Int.toNat_zero, show (1 : Int).toNat = 1 from rfl, List.getD_eq_getElem?_getD] at k0 k1
    rw [List.getElem?_eq_getElem (by omega), Option.getD_some] at k0 k1
    have k0a : w.cell? a = some (.int .u8 (b[0]'(by omega))) := by simpa [Addr.add] using k0
    have k1a : w.cell? { block := a.block, off := a.off + 1 } = some (.int .u8 (b[1]'(by omega))) := by simpa [Addr.add] using k1
    have k0' := pw_cell_below hfin k0a
    have k1' := pw_cell_below hfin k1a
    have hf := first2 h64 102 104
    clear k0 k1 hR0
    rw [h64] at hc ⊢
    have i2 : (2 : Int) ≤ (c : Int) := by omega
    by_cases ht : b.take 2 = [102, 104]
    · obtain ⟨t0, t1⟩ := hf.1 ht
      rw [t0] at k0'
      rw [t1] at k1'
      clear hf t0 t1 k0a k1a
      have n17 : ¬ c = 17 := by omega
      have n13 : ¬ c = 13 := by omega
      have n2 : ¬ c = 2 := by omega
      have n10 : ¬ c = 10 := by omega
      have i10 : (10 : Int) ≤ (c : Int) := by omega
      have i12 : (12 : Int) ≤ (c : Int) := by omega
      have i17 : (17 : Int) ≤ (c : Int) := by omega
      have hR := RB_int h
      obtain ⟨ad, e0, k12⟩ := hR.at_ 12 (by omega) (by omega)
      cases e0
      simp only [rd, show (12 : Int).toNat = 12 from rfl] at k12
      have hx12 : 0 ≤ b.getD 12 0 ∧ b.getD 12 0 < 256 := hb.rd_ 12
      have c0 := read_part (RB_below h hfin) hb 13 4 (c - 13) (by omega) (by omega)
      have c1 : ∀ W', Below w.heap.size w W' → Calls Try.prog 61 #[.slice (some (a.add 2)) 8 (c - 2)] W' fun e w' => e = .returned (.int .u64 (numAt b 2 8)) ∧ w' = W' := fun W' hW => read_part (RB_below h hW) hb 2 8 (c - 2) (by omega) (by omega)
      have c2 : ∀ W', Below w.heap.size w W' → Calls Try.prog 61 #[.slice (some (a.add 10)) 2 (c - 10)] W' fun e w' => e = .returned (.int .u64 (numAt b 10 2)) ∧ w' = W' := fun W' hW => read_part (RB_below h hW) hb 10 2 (c - 10) (by omega) (by omega)
      have l0 := numAt_lt hb (i := 13) (n := 4) (by omega)
      have l1 := numAt_lt hb (i := 2) (n := 8) (by omega)
      have l2 := numAt_lt hb (i := 10) (n := 2) (by omega)
      rw [show (256 : Int) ^ 4 = 4294967296 from by decide] at l0
      rw [show (256 : Int) ^ 8 = 18446744073709551616 from by decide] at l1
      rw [show (256 : Int) ^ 2 = 65536 from by decide] at l2
      have hmm : min (numAt b 13 4) 47 = ((headM b : Nat) : Int) := by unfold headM; omega
      have hm47 : headM b ≤ 47 := by unfold headM; omega
      have hpart : RB w ok (some (a.add 17)) ((b.drop 17).take (headM b)) := part h (by omega)
      have hplen : ((b.drop 17).take (headM b)).length = headM b := part_len (by omega)
      have hbl : ∀ W', Below w.heap.size w W' → Calls Try.prog 62 #[.slice (behind (some a) (17 + headM b) c) (64 - (17 + headM b)) (c - (17 + headM b))] W' fun e w' => e = .returned (.bool (blank (b.drop (17 + headM b)))) ∧ w' = W' := fun W' hW => clean_tail h hW h64 (by omega) hc
      have hOK : headOK b ↔ ¬ numAt b 2 8 = 0 ∧ numAt b 13 4 ≤ 131072 ∧ blank (b.drop (17 + headM b)) = true := ⟨fun hh => hh.2.2, fun hh => ⟨h64, ht, hh⟩⟩
      have hRR : headOK b → HeadPost b w = fun e w' => ∃ A c, e = .returned (.tuple #[.agg #[.int .u64 (numAt b 2 8), .int .i64 (numAt b 10 2), .int .i64 (b.getD 12 0), .slice A (headM b) c], .int .i64 (numAt b 13 4), .bool true]) ∧ KB.R 5 w' w.heap.size (fun k => w.heap.size ≤ k) (.slice A (headM b) c) ((b.drop 17).take (headM b)) ∧ headM b ≤ c ∧ Below w.heap.size w w' := fun hh => by
        unfold HeadPost
        rw [show headR b = ⟨numAt b 2 8, numAt b 10 2, b.getD 12 0, (b.drop 17).take (headM b)⟩ from if_pos hh, show headN b = numAt b 13 4 from if_pos hh, show decide (headOK b) = true from decide_eq_true hh]
        unfold recV
        dsimp only
        rw [hplen]
      have HRR := hid hRR
      have HOK := hid hOK
      have HM := hid hmm
      clear hRR hOK hR hmm
      generalize hmq : headM b = m at HRR HOK HM hm47 hpart hplen hbl
      generalize numAt b 13 4 = nn at c0 l0 HRR HOK HM
      generalize numAt b 2 8 = g at c1 l1 HRR HOK
      generalize numAt b 10 2 = at_ at c2 l2 HRR HOK
      generalize b.getD 12 0 = x12 at k12 hx12 HRR
      generalize blank (b.drop (17 + m)) = bl at hbl HOK
      have u0 : IntKind.i64.wrap nn = nn := by rw [IntKind.wrap_i64]; omega
      have u2 : IntKind.i64.wrap at_ = at_ := by rw [IntKind.wrap_i64]; omega
      have u12 : IntKind.i64.wrap x12 = x12 := by rw [IntKind.wrap_i64]; omega
      go_enter Try.func15, Try.ntmps15
      go_wp2_with fail
      refine c0.mono ?_
      rintro e w1 ⟨rfl, hw1⟩
      subst hw1
      have hz : w1.heap[w.heap.size]? = some (.cells #[.int .u64 0, .int .i64 0, .int .i64 0, .slice none 0 0] 28 (0, 0)) := by rw [← hw0]; exact heap_alloc_new w _
      clear hw0 c0 k0' k1'
      have k12' : w.cell? { block := a.block, off := a.off + 12 } = some (.int .u8 x12) := by simpa [Addr.add] using k12
      have hS0 : Below w.heap.size w w1.drew := hfin.drew
      have hSa : ∀ o, Below w.heap.size w (w1.drew.alloc o) := fun o => hfin.drew.alloc hfin.drew.size o
      rcases Int.lt_or_le nn 47 with hlt | hge
      · have hnm : nn = (m : Int) := by have := HM.out; omega
        subst hnm
        go_wp2_with fail
        apply wp_region_eq
        case h =>
          refine wp_region_plan [] (.take 0 (.take 1 (.take 3 (.take 4 (.take 7 (.take 8 (.take 9 (.take 10 (.both 2 (.both 5 (.take 6 (.take 11 (.run 12 (.run 13 .done)))) 12 (.run 5 (.take 6 (.take 11 (.run 13 .done))))) 12 (.run 2 (.run 5 (.take 6 (.take 11 (.run 13 .done)))))))))))))) (fun W' => Below w.heap.size w W') (by kernel_rfl) (by kernel_rfl) (fun c a d v w h => absurd h.1 (by simp)) hS0 ?_
          apply plan_take rfl rfl
          case hy => (intro w' hS; have e0 := pw_cell_below hS k12'; clear hS; go_simp; try exact rfl)
          go_simp
          apply plan_take rfl rfl
          case hy => (intro w' hS; have e0 := pw_cell_below hS k12'; clear hS; go_simp; try exact rfl)
          go_simp
          apply plan_take rfl rfl
          case hy => (intro w' hS; have e0 := pw_cell_below hS k12'; clear hS; go_simp; try exact rfl)
          go_simp
          apply plan_take rfl rfl
          case hy => (intro w' hS; have e0 := pw_cell_below hS k12'; clear hS; go_simp; try exact rfl)
          go_simp
          apply plan_take rfl rfl
          case hy => (intro w' hS; have e0 := pw_cell_below hS k12'; clear hS; go_simp; try exact rfl)
          go_simp
          apply plan_take rfl rfl
          case hy => (intro w' hS; have e0 := pw_cell_below hS k12'; clear hS; go_simp; try exact rfl)
          go_simp
          apply plan_take rfl rfl
          case hy => (intro w' hS; have e0 := pw_cell_below hS k12'; clear hS; go_simp; try exact rfl)
          go_simp
          apply plan_take rfl rfl
          case hy => (intro w' hS; have e0 := pw_cell_below hS k12'; clear hS; go_simp; try exact rfl)
          go_simp
          refine plan_both ?_ ?_
          · refine plan_run_on rfl rfl (fun K hK => ?_)
            go_simp
            refine (c1 _ hS0).mono ?_
            rintro e w2 ⟨rfl, rfl⟩
            refine hK _ _ _ (fun _ h => h) hS0 ?_
            clear hK K
            go_simp
            refine plan_both ?_ ?_
            · refine plan_run_on rfl rfl (fun K hK => ?_)
              go_simp
              refine (c2 _ hS0).mono ?_
              rintro e w2 ⟨rfl, rfl⟩
              refine hK _ _ _ (fun _ h => h) hS0 ?_
              clear hK K
              go_simp
              apply plan_take rfl rfl
              case hy => (intro w' hS; have e0 := pw_cell_below hS k12'; clear hS; go_simp; try exact rfl)
              go_simp
              apply plan_take rfl rfl
              case hy => (intro w' hS; have e0 := pw_cell_below hS k12'; clear hS; go_simp; try exact rfl)
              go_simp
              refine plan_run_on rfl rfl (fun K hK => ?_)
              go_simp
              refine hK _ _ _ (fun _ h => h) (hSa _) ?_
              clear hK K
              go_simp
              refine plan_run_on rfl rfl (fun K hK => ?_)
              go_simp
              refine hK _ _ _ (fun _ h => h) (hSa _) ?_
              clear hK K
              exact plan_done ⟨rfl, rfl, rfl⟩
            · refine plan_run_on rfl rfl (fun K hK => ?_)
              go_simp
              refine hK _ _ _ (fun _ h => h) (hSa _) ?_
              clear hK K
              go_simp
              refine plan_run_on rfl rfl (fun K hK => ?_)
              go_simp
              refine (c2 _ (hSa _)).mono ?_
              rintro e w2 ⟨rfl, rfl⟩
              refine hK _ _ _ (fun _ h => h) (hSa _) ?_
              clear hK K
              go_simp
              apply plan_take rfl rfl
              case hy => (intro w' hS; have e0 := pw_cell_below hS k12'; clear hS; go_simp; try exact rfl)
              go_simp
              apply plan_take rfl rfl
              case hy => (intro w' hS; have e0 := pw_cell_below hS k12'; clear hS; go_simp; try exact rfl)
              go_simp
              refine plan_run_on rfl rfl (fun K hK => ?_)
              go_simp
              refine hK _ _ _ (fun _ h => h) (hSa _) ?_
              clear hK K
              exact plan_done ⟨rfl, rfl, rfl⟩
          · refine plan_run_on rfl rfl (fun K hK => ?_)
            go_simp
            refine hK _ _ _ (fun _ h => h) (hSa _) ?_
            clear hK K
            go_simp
            refine plan_run_on rfl rfl (fun K hK => ?_)
            go_simp
            refine (c1 _ (hSa _)).mono ?_
            rintro e w2 ⟨rfl, rfl⟩
            refine hK _ _ _ (fun _ h => h) (hSa _) ?_
            clear hK K
            go_simp
            refine plan_run_on rfl rfl (fun K hK => ?_)
            go_simp
            refine (c2 _ (hSa _)).mono ?_
            rintro e w2 ⟨rfl, rfl⟩
            refine hK _ _ _ (fun _ h => h) (hSa _) ?_
            clear hK K
            go_simp
            apply plan_take rfl rfl
            case hy => (intro w' hS; have e0 := pw_cell_below hS k12'; clear hS; go_simp; try exact rfl)
            go_simp
            apply plan_take rfl rfl
            case hy => (intro w' hS; have e0 := pw_cell_below hS k12'; clear hS; go_simp; try exact rfl)
            go_simp
            refine plan_run_on rfl rfl (fun K hK => ?_)
            go_simp
            refine hK _ _ _ (fun _ h => h) (hSa _) ?_
            clear hK K
            exact plan_done ⟨rfl, rfl, rfl⟩
        case hQ =>
          have hr2 : ((w1.alloc (.cells #[.int .u64 g, .int .i64 at_, .int .i64 x12, .slice none 0 0] 28)).drew).heap[w1.heap.size]? = some (.cells #[.int .u64 g, .int .i64 at_, .int .i64 x12, .slice none 0 0] 28 (0, 0)) := heap_alloc_new w1 _
          have hz2 : ((w1.alloc (.cells #[.int .u64 g, .int .i64 at_, .int .i64 x12, .slice none 0 0] 28)).drew).heap[w.heap.size]? = some (.cells #[.int .u64 0, .int .i64 0, .int .i64 0, .slice none 0 0] 28 (0, 0)) := (Below.heap_alloc w1 _ w.heap.size (blk_lt hz)).trans hz
          have hB2 : Below w.heap.size w ((w1.alloc (.cells #[.int .u64 g, .int .i64 at_, .int .i64 x12, .slice none 0 0] 28)).drew) := (hfin.alloc hfin.size _).drew
          have hlt2 := blk_lt hz
          clear hS0 hSa hz c1 c2
          generalize (w1.alloc (.cells #[.int .u64 g, .int .i64 at_, .int .i64 x12, .slice none 0 0] 28)).drew = w2 at hr2 hz2 hB2 ⊢
          generalize w1.heap.size = rb at hr2 hlt2 ⊢
          clear hfin k12 k12'
          have q0 := cell_of_row _ _ 0 _ _ _ hr2
          have q3 := cell_of_row _ _ 3 _ _ _ hr2
          have htn : (17 + (m : Int)).toNat = 17 + m := by omega
          have him : (17 : Int) + (m : Int) ≤ 64 := by omega
          have him2 : (17 : Int) + (m : Int) ≤ (c : Int) := by omega
          have z0 := cell_of_row _ _ 0 _ _ _ hz2
          have z1 := cell_of_row _ _ 1 _ _ _ hz2
          have z2 := cell_of_row _ _ 2 _ _ _ hz2
          have z3 := cell_of_row _ _ 3 _ _ _ hz2
          have f0 := frozen_of_row _ _ 0 _ _ hz2
          have f1 := frozen_of_row _ _ 1 _ _ hz2
          have f2 := frozen_of_row _ _ 2 _ _ hz2
          have f3 := frozen_of_row _ _ 3 _ _ hz2
          by_cases hg : g = 0
          · have hno : ¬ headOK b := fun hh => (HOK.out.1 hh).1 hg
            subst hg
            go_wp2
            refine bodyPost_ret (results_ctt rfl _ _ w.heap.size 28 _ _ _ rfl (set4 hz2 (.int .u64 0) (.int .i64 0) (.int .i64 0) (.slice none 0 0)) Try.underlying28 rfl (by kernel_rfl)) rfl ?_
            exact head_none hno rfl (below4 hB2 (Nat.le_refl _) _ _ _ _)
          have hg2 : (g == 0) = false := by simpa using hg
          have hn : ¬ 131072 < (m : Int) := by omega
          have hbl2 := hbl w2 hB2
          have BL : ∀ (V : Value), V = .slice (behind (some a) (17 + m) c) (64 - (17 + m)) (c - (17 + m)) → Calls Try.prog 62 #[V] w2 fun e w' => e = .returned (.bool bl) ∧ w' = w2 := fun V e => by rw [e]; exact hbl2
          clear hbl hbl2
          by_cases hcm : c = 17 + m
          have hwm : IntKind.i64.wrap (17 + (m : Int)) = 17 + (m : Int) := by rw [IntKind.wrap_i64]; omega
          have h17 : (17 : Int) ≤ 17 + (m : Int) := by omega
          have h017 : (0 : Int) ≤ 17 + (m : Int) := by omega
          · omega
          · go_wp2_with fail
            refine (BL _ ?_).mono ?_
            · unfold behind
              rw [if_neg hcm]
              rfl
            rintro e w3 ⟨rfl, rfl⟩
            clear BL
            have hlt3 : rb < w3.heap.size := blk_lt hr2
            cases bl with
            | false =>
              have hno : ¬ headOK b := fun hh => by have := (HOK.out.1 hh).2.2; cases this
              go_wp2
              refine bodyPost_ret (results_ctt rfl _ _ w.heap.size 28 _ _ _ rfl (set4 hz2 (.int .u64 0) (.int .i64 0) (.int .i64 0) (.slice none 0 0)) Try.underlying28 rfl (by kernel_rfl)) rfl ?_
              exact head_none hno rfl (below4 hB2 (Nat.le_refl _) _ _ _ _)
            | true =>
              have hh : headOK b := HOK.out.2 ⟨hg, by omega, rfl⟩
              have HP := hid (HRR.out hh)
              clear HRR HOK
              have hRm : ReadsInt w3.drew .u8 (some (a.add 17)) m ((b.drop 17).take m) := by
                have := RB_int (RB_below hpart hB2.drew)
                rwa [hplen] at this
              go_wp2_with fail
              refine wp_region_plan [7, 8] (.take 0 (.take 1 (.take 2 (.take 3 (.take 4 (.take 5 (.run 6 (.tail 7 (.tail 8 .done))))))))) (fun W' => W'.cell? ⟨rb, 3, none⟩ = some (.slice none 0 0)) (by kernel_rfl) (by kernel_rfl) (fun c a d v w h => by cases d <;> exact h) q3 ?_
              have hwm2 : IntKind.i64.wrap (17 + (m : Int)) = 17 + (m : Int) := by rw [IntKind.wrap_i64]; omega
              have h172 : (17 : Int) ≤ 17 + (m : Int) := by omega
              have h0172 : (0 : Int) ≤ 17 + (m : Int) := by omega
              have htn2 : (17 + (m : Int)).toNat = 17 + m := by omega
              iterate 6 (apply plan_take rfl rfl; (case hy => (intro w' hS; go_simp; try exact rfl)); go_simp)
              refine plan_run_on rfl rfl (fun K hK => ?_)
              refine step_append_row (w0 := w3.drew) w3.heap.size (.tmp 61) (.tmp 65) 22 5 .u8 1 rfl Try.underlying22 info_u8 (by decide) _ [] ((b.drop 17).take m) (some (a.add 17)) m (c - 17) rfl rfl (World.ownsRow_nil _ _ _ _) hRm (Below.refl _ _) (Nat.le_refl _) (by simp; omega) ?_
              intro v1 w4 ho hB4 hg4 hat
              have hR4 : KB.R 5 w4 w3.heap.size (fun q => w3.heap.size ≤ q) v1 ((b.drop 17).take m) := Rown (by simpa using ho) (fun q hq => own_base ho q hq)
              obtain ⟨A4, c4, rfl, hle4, hC4⟩ := Kd.R_reads hR4
              rw [hplen] at hle4 hR4 ⊢
              have HR4 := hid hR4
              clear ho hg4 hat hR4 hC4
              have hr4 : w4.heap[rb]? = some (.cells #[.int .u64 g, .int .i64 at_, .int .i64 x12, .slice none 0 0] 28 (0, 0)) := (hB4.block rb hlt3).trans hr2
              have hz4 : w4.heap[w.heap.size]? = some (.cells #[.int .u64 0, .int .i64 0, .int .i64 0, .slice none 0 0] 28 (0, 0)) := (hB4.block w.heap.size (blk_lt hz2)).trans hz2
              have hBw4 : Below w.heap.size w w4 := hB2.drew.trans (hB4.mono hB2.size)
              have p3 := cell_of_row _ _ 3 _ _ _ hr4
              have pf3 := frozen_of_row _ _ 3 _ _ hr4
              simp at p3
              refine hK _ _ _ (fun _ h => h) p3 ?_
              clear hK K
              go_simp
              refine plan_tail_on rfl rfl (fun K hK => ?_)
              go_simp
              refine hK _ _ ?_
              clear hK K
              refine plan_tail_on rfl rfl (fun K hK => ?_)
              go_simp
              refine hK _ _ (plan_done ?_)
              clear hK K
              have hr5 := heap_setCell_same w4 rb 3 _ _ (.slice A4 m c4) hr4
              have hz5 := (Below.heap_setCell w4 ⟨rb, 3, none⟩ (.slice A4 m c4) w.heap.size (by show w.heap.size ≠ rb; omega)).trans hz4
              have hB5 : Below w.heap.size w (w4.setCell ⟨rb, 3, none⟩ (.slice A4 m c4)) := hBw4.setCell (p := ⟨rb, 3, none⟩) (by show w.heap.size ≤ rb; omega) _
              have hk5 : ∀ k, w3.heap.size ≤ k → (w4.setCell ⟨rb, 3, none⟩ (.slice A4 m c4)).heap[k]? = w4.heap[k]? := fun k hk => Below.heap_setCell w4 ⟨rb, 3, none⟩ (.slice A4 m c4) k (by show k ≠ rb; omega)
              clear q0 q3 z0 z1 z2 z3 f0 f1 f2 f3 p3 pf3 hr4 hz4
              generalize w4.setCell ⟨rb, 3, none⟩ (.slice A4 m c4) = w5 at hr5 hz5 hB5 hk5 ⊢
              have hn2 := blk_lt hz2
              clear hr2 hz2 hRm
              have q0 := cell_of_row _ _ 0 _ _ _ hr5
              have q1 := cell_of_row _ _ 1 _ _ _ hr5
              have q2 := cell_of_row _ _ 2 _ _ _ hr5
              have q3 := cell_of_row _ _ 3 _ _ _ hr5
              have z0 := cell_of_row _ _ 0 _ _ _ hz5
              have z1 := cell_of_row _ _ 1 _ _ _ hz5
              have z2 := cell_of_row _ _ 2 _ _ _ hz5
              have z3 := cell_of_row _ _ 3 _ _ _ hz5
              have f0 := frozen_of_row _ _ 0 _ _ hz5
              have f1 := frozen_of_row _ _ 1 _ _ hz5
              have f2 := frozen_of_row _ _ 2 _ _ hz5
              have f3 := frozen_of_row _ _ 3 _ _ hz5
              simp at q0 q1 q2 q3 z0 z1 z2 z3
              go_wp2
              refine bodyPost_ret (results_ctt rfl _ _ w.heap.size 28 _ _ _ rfl (set4 hz5 (.int .u64 g) (.int .i64 at_) (.int .i64 x12) (.slice A4 m c4)) Try.underlying28 rfl (by kernel_rfl)) rfl ?_
              rw [HP.out]
              refine ⟨A4, c4, rfl, ?_, hle4, below4 hB5 (Nat.le_refl _) _ _ _ _⟩
              have hall : ∀ k, w3.heap.size ≤ k → (W4s w5 w.heap.size (.int .u64 g) (.int .i64 at_) (.int .i64 x12) (.slice A4 m c4)).heap[k]? = w4.heap[k]? := fun k hk => by
                have hb := (below4 (Below.refl w.heap.size w5) (Nat.le_refl _) (.int .u64 g) (.int .i64 at_) (.int .i64 x12) (.slice A4 m c4))
                have hne : k ≠ w.heap.size := by omega
                rw [← hk5 k hk]
                unfold W4s
                rw [Below.heap_setCell _ _ _ _ hne, Below.heap_setCell _ _ _ _ hne, Below.heap_setCell _ _ _ _ hne, Below.heap_setCell _ _ _ _ hne]
              exact Kd.R_lower (Kd.R_mono (Kd.R_step HR4.out (fun k hk _ => hall k hk)) (fun k hk => by omega)) (by omega)
      · have h47 : (47 : Int) = (m : Int) := by have := HM.out; omega
        have H47 := hid h47
        clear h47
        have hge2 : ¬ nn < 47 := by omega
        go_wp2_with fail
        rw [H47.out]
        apply wp_region_eq
        case h =>
          refine wp_region_plan [] (.take 0 (.take 1 (.take 3 (.take 4 (.take 7 (.take 8 (.take 9 (.take 10 (.both 2 (.both 5 (.take 6 (.take 11 (.run 12 (.run 13 .done)))) 12 (.run 5 (.take 6 (.take 11 (.run 13 .done))))) 12 (.run 2 (.run 5 (.take 6 (.take 11 (.run 13 .done)))))))))))))) (fun W' => Below w.heap.size w W') (by kernel_rfl) (by kernel_rfl) (fun c a d v w h => absurd h.1 (by simp)) hS0 ?_
          apply plan_take rfl rfl
          case hy => (intro w' hS; have e0 := pw_cell_below hS k12'; clear hS; go_simp; try exact rfl)
          go_simp
          apply plan_take rfl rfl
          case hy => (intro w' hS; have e0 := pw_cell_below hS k12'; clear hS; go_simp; try exact rfl)
          go_simp
          apply plan_take rfl rfl
          case hy => (intro w' hS; have e0 := pw_cell_below hS k12'; clear hS; go_simp; try exact rfl)
          go_simp
          apply plan_take rfl rfl
          case hy => (intro w' hS; have e0 := pw_cell_below hS k12'; clear hS; go_simp; try exact rfl)
          go_simp
          apply plan_take rfl rfl
          case hy => (intro w' hS; have e0 := pw_cell_below hS k12'; clear hS; go_simp; try exact rfl)
          go_simp
          apply plan_take rfl rfl
          case hy => (intro w' hS; have e0 := pw_cell_below hS k12'; clear hS; go_simp; try exact rfl)
          go_simp
          apply plan_take rfl rfl
          case hy => (intro w' hS; have e0 := pw_cell_below hS k12'; clear hS; go_simp; try exact rfl)
          go_simp
          apply plan_take rfl rfl
          case hy => (intro w' hS; have e0 := pw_cell_below hS k12'; clear hS; go_simp; try exact rfl)
          go_simp
          refine plan_both ?_ ?_
          · refine plan_run_on rfl rfl (fun K hK => ?_)
            go_simp
            refine (c1 _ hS0).mono ?_
            rintro e w2 ⟨rfl, rfl⟩
            refine hK _ _ _ (fun _ h => h) hS0 ?_
            clear hK K
            go_simp
            refine plan_both ?_ ?_
            · refine plan_run_on rfl rfl (fun K hK => ?_)
              go_simp
              refine (c2 _ hS0).mono ?_
              rintro e w2 ⟨rfl, rfl⟩
              refine hK _ _ _ (fun _ h => h) hS0 ?_
              clear hK K
              go_simp
              apply plan_take rfl rfl
              case hy => (intro w' hS; have e0 := pw_cell_below hS k12'; clear hS; go_simp; try exact rfl)
              go_simp
              apply plan_take rfl rfl
              case hy => (intro w' hS; have e0 := pw_cell_below hS k12'; clear hS; go_simp; try exact rfl)
              go_simp
              refine plan_run_on rfl rfl (fun K hK => ?_)
              go_simp
              refine hK _ _ _ (fun _ h => h) (hSa _) ?_
              clear hK K
              go_simp
              refine plan_run_on rfl rfl (fun K hK => ?_)
              go_simp
              refine hK _ _ _ (fun _ h => h) (hSa _) ?_
              clear hK K
              exact plan_done ⟨rfl, rfl, rfl⟩
            · refine plan_run_on rfl rfl (fun K hK => ?_)
              go_simp
              refine hK _ _ _ (fun _ h => h) (hSa _) ?_
              clear hK K
              go_simp
              refine plan_run_on rfl rfl (fun K hK => ?_)
              go_simp
              refine (c2 _ (hSa _)).mono ?_
              rintro e w2 ⟨rfl, rfl⟩
              refine hK _ _ _ (fun _ h => h) (hSa _) ?_
              clear hK K
              go_simp
              apply plan_take rfl rfl
              case hy => (intro w' hS; have e0 := pw_cell_below hS k12'; clear hS; go_simp; try exact rfl)
              go_simp
              apply plan_take rfl rfl
              case hy => (intro w' hS; have e0 := pw_cell_below hS k12'; clear hS; go_simp; try exact rfl)
              go_simp
              refine plan_run_on rfl rfl (fun K hK => ?_)
              go_simp
              refine hK _ _ _ (fun _ h => h) (hSa _) ?_
              clear hK K
              exact plan_done ⟨rfl, rfl, rfl⟩
          · refine plan_run_on rfl rfl (fun K hK => ?_)
            go_simp
            refine hK _ _ _ (fun _ h => h) (hSa _) ?_
            clear hK K
            go_simp
            refine plan_run_on rfl rfl (fun K hK => ?_)
            go_simp
            refine (c1 _ (hSa _)).mono ?_
            rintro e w2 ⟨rfl, rfl⟩
            refine hK _ _ _ (fun _ h => h) (hSa _) ?_
            clear hK K
            go_simp
            refine plan_run_on rfl rfl (fun K hK => ?_)
            go_simp
            refine (c2 _ (hSa _)).mono ?_
            rintro e w2 ⟨rfl, rfl⟩
            refine hK _ _ _ (fun _ h => h) (hSa _) ?_
            clear hK K
            go_simp
            apply plan_take rfl rfl
            case hy => (intro w' hS; have e0 := pw_cell_below hS k12'; clear hS; go_simp; try exact rfl)
            go_simp
            apply plan_take rfl rfl
            case hy => (intro w' hS; have e0 := pw_cell_below hS k12'; clear hS; go_simp; try exact rfl)
            go_simp
            refine plan_run_on rfl rfl (fun K hK => ?_)
            go_simp
            refine hK _ _ _ (fun _ h => h) (hSa _) ?_
            clear hK K
            exact plan_done ⟨rfl, rfl, rfl⟩
        case hQ =>
          have hr2 : ((w1.alloc (.cells #[.int .u64 g, .int .i64 at_, .int .i64 x12, .slice none 0 0] 28)).drew).heap[w1.heap.size]? = some (.cells #[.int .u64 g, .int .i64 at_, .int .i64 x12, .slice none 0 0] 28 (0, 0)) := heap_alloc_new w1 _
          have hz2 : ((w1.alloc (.cells #[.int .u64 g, .int .i64 at_, .int .i64 x12, .slice none 0 0] 28)).drew).heap[w.heap.size]? = some (.cells #[.int .u64 0, .int .i64 0, .int .i64 0, .slice none 0 0] 28 (0, 0)) := (Below.heap_alloc w1 _ w.heap.size (blk_lt hz)).trans hz
          have hB2 : Below w.heap.size w ((w1.alloc (.cells #[.int .u64 g, .int .i64 at_, .int .i64 x12, .slice none 0 0] 28)).drew) := (hfin.alloc hfin.size _).drew
          have hlt2 := blk_lt hz
          clear hS0 hSa hz c1 c2
          generalize (w1.alloc (.cells #[.int .u64 g, .int .i64 at_, .int .i64 x12, .slice none 0 0] 28)).drew = w2 at hr2 hz2 hB2 ⊢
          generalize w1.heap.size = rb at hr2 hlt2 ⊢
          clear hfin k12 k12'
          have q0 := cell_of_row _ _ 0 _ _ _ hr2
          have q3 := cell_of_row _ _ 3 _ _ _ hr2
          have htn : (17 + (m : Int)).toNat = 17 + m := by omega
          have him : (17 : Int) + (m : Int) ≤ 64 := by omega
          have him2 : (17 : Int) + (m : Int) ≤ (c : Int) := by omega
          have z0 := cell_of_row _ _ 0 _ _ _ hz2
          have z1 := cell_of_row _ _ 1 _ _ _ hz2
          have z2 := cell_of_row _ _ 2 _ _ _ hz2
          have z3 := cell_of_row _ _ 3 _ _ _ hz2
          have f0 := frozen_of_row _ _ 0 _ _ hz2
          have f1 := frozen_of_row _ _ 1 _ _ hz2
          have f2 := frozen_of_row _ _ 2 _ _ hz2
          have f3 := frozen_of_row _ _ 3 _ _ hz2
          by_cases hg : g = 0
          · have hno : ¬ headOK b := fun hh => (HOK.out.1 hh).1 hg
            subst hg
            go_wp2
            refine bodyPost_ret (results_ctt rfl _ _ w.heap.size 28 _ _ _ rfl (set4 hz2 (.int .u64 0) (.int .i64 0) (.int .i64 0) (.slice none 0 0)) Try.underlying28 rfl (by kernel_rfl)) rfl ?_
            exact head_none hno rfl (below4 hB2 (Nat.le_refl _) _ _ _ _)
          have hg2 : (g == 0) = false := by simpa using hg
          by_cases hn : 131072 < nn
          · have hno : ¬ headOK b := fun hh => by have := (HOK.out.1 hh).2.1; omega
            go_wp2
            refine bodyPost_ret (results_ctt rfl _ _ w.heap.size 28 _ _ _ rfl (set4 hz2 (.int .u64 0) (.int .i64 0) (.int .i64 0) (.slice none 0 0)) Try.underlying28 rfl (by kernel_rfl)) rfl ?_
            exact head_none hno rfl (below4 hB2 (Nat.le_refl _) _ _ _ _)
          have hbl2 := hbl w2 hB2
          have BL : ∀ (V : Value), V = .slice (behind (some a) (17 + m) c) (64 - (17 + m)) (c - (17 + m)) → Calls Try.prog 62 #[V] w2 fun e w' => e = .returned (.bool bl) ∧ w' = w2 := fun V e => by rw [e]; exact hbl2
          clear hbl hbl2
          by_cases hcm : c = 17 + m
          have hwm : IntKind.i64.wrap (17 + (m : Int)) = 17 + (m : Int) := by rw [IntKind.wrap_i64]; omega
          have h17 : (17 : Int) ≤ 17 + (m : Int) := by omega
          have h017 : (0 : Int) ≤ 17 + (m : Int) := by omega
          · have hm0 : ¬ m = 0 := by omega
            subst hcm
            go_wp2_with fail
            refine (BL _ ?_).mono ?_
            · unfold behind
              rw [if_pos rfl, Nat.sub_self, show 64 - (17 + m) = 0 from by omega]
            rintro e w3 ⟨rfl, rfl⟩
            clear BL
            have hlt3 : rb < w3.heap.size := blk_lt hr2
            cases bl with
            | false =>
              have hno : ¬ headOK b := fun hh => by have := (HOK.out.1 hh).2.2; cases this
              go_wp2
              refine bodyPost_ret (results_ctt rfl _ _ w.heap.size 28 _ _ _ rfl (set4 hz2 (.int .u64 0) (.int .i64 0) (.int .i64 0) (.slice none 0 0)) Try.underlying28 rfl (by kernel_rfl)) rfl ?_
              exact head_none hno rfl (below4 hB2 (Nat.le_refl _) _ _ _ _)
            | true =>
              have hh : headOK b := HOK.out.2 ⟨hg, by omega, rfl⟩
              have HP := hid (HRR.out hh)
              clear HRR HOK
              have hRm : ReadsInt w3.drew .u8 (some (a.add 17)) m ((b.drop 17).take m) := by
                have := RB_int (RB_below hpart hB2.drew)
                rwa [hplen] at this
              go_wp2_with fail
              refine wp_region_plan [7, 8] (.take 0 (.take 1 (.take 2 (.take 3 (.take 4 (.take 5 (.run 6 (.tail 7 (.tail 8 .done))))))))) (fun W' => W'.cell? ⟨rb, 3, none⟩ = some (.slice none 0 0)) (by kernel_rfl) (by kernel_rfl) (fun c a d v w h => by cases d <;> exact h) q3 ?_
              have hwm2 : IntKind.i64.wrap (17 + (m : Int)) = 17 + (m : Int) := by rw [IntKind.wrap_i64]; omega
              have h172 : (17 : Int) ≤ 17 + (m : Int) := by omega
              have h0172 : (0 : Int) ≤ 17 + (m : Int) := by omega
              have htn2 : (17 + (m : Int)).toNat = 17 + m := by omega
              iterate 6 (apply plan_take rfl rfl; (case hy => (intro w' hS; go_simp; try exact rfl)); go_simp)
              refine plan_run_on rfl rfl (fun K hK => ?_)
              refine step_append_row (w0 := w3.drew) w3.heap.size (.tmp 61) (.tmp 65) 22 5 .u8 1 rfl Try.underlying22 info_u8 (by decide) _ [] ((b.drop 17).take m) (some (a.add 17)) m m rfl rfl (World.ownsRow_nil _ _ _ _) hRm (Below.refl _ _) (Nat.le_refl _) (by simp; omega) ?_
              intro v1 w4 ho hB4 hg4 hat
              have hR4 : KB.R 5 w4 w3.heap.size (fun q => w3.heap.size ≤ q) v1 ((b.drop 17).take m) := Rown (by simpa using ho) (fun q hq => own_base ho q hq)
              obtain ⟨A4, c4, rfl, hle4, hC4⟩ := Kd.R_reads hR4
              rw [hplen] at hle4 hR4 ⊢
              have HR4 := hid hR4
              clear ho hg4 hat hR4 hC4
              have hr4 : w4.heap[rb]? = some (.cells #[.int .u64 g, .int .i64 at_, .int .i64 x12, .slice none 0 0] 28 (0, 0)) := (hB4.block rb hlt3).trans hr2
              have hz4 : w4.heap[w.heap.size]? = some (.cells #[.int .u64 0, .int .i64 0, .int .i64 0, .slice none 0 0] 28 (0, 0)) := (hB4.block w.heap.size (blk_lt hz2)).trans hz2
              have hBw4 : Below w.heap.size w w4 := hB2.drew.trans (hB4.mono hB2.size)
              have p3 := cell_of_row _ _ 3 _ _ _ hr4
              have pf3 := frozen_of_row _ _ 3 _ _ hr4
              simp at p3
              refine hK _ _ _ (fun _ h => h) p3 ?_
              clear hK K
              go_simp
              refine plan_tail_on rfl rfl (fun K hK => ?_)
              go_simp
              refine hK _ _ ?_
              clear hK K
              refine plan_tail_on rfl rfl (fun K hK => ?_)
              go_simp
              refine hK _ _ (plan_done ?_)
              clear hK K
              have hr5 := heap_setCell_same w4 rb 3 _ _ (.slice A4 m c4) hr4
              have hz5 := (Below.heap_setCell w4 ⟨rb, 3, none⟩ (.slice A4 m c4) w.heap.size (by show w.heap.size ≠ rb; omega)).trans hz4
              have hB5 : Below w.heap.size w (w4.setCell ⟨rb, 3, none⟩ (.slice A4 m c4)) := hBw4.setCell (p := ⟨rb, 3, none⟩) (by show w.heap.size ≤ rb; omega) _
              have hk5 : ∀ k, w3.heap.size ≤ k → (w4.setCell ⟨rb, 3, none⟩ (.slice A4 m c4)).heap[k]? = w4.heap[k]? := fun k hk => Below.heap_setCell w4 ⟨rb, 3, none⟩ (.slice A4 m c4) k (by show k ≠ rb; omega)
              clear q0 q3 z0 z1 z2 z3 f0 f1 f2 f3 p3 pf3 hr4 hz4
              generalize w4.setCell ⟨rb, 3, none⟩ (.slice A4 m c4) = w5 at hr5 hz5 hB5 hk5 ⊢
              have hn2 := blk_lt hz2
              clear hr2 hz2 hRm
              have q0 := cell_of_row _ _ 0 _ _ _ hr5
              have q1 := cell_of_row _ _ 1 _ _ _ hr5
              have q2 := cell_of_row _ _ 2 _ _ _ hr5
              have q3 := cell_of_row _ _ 3 _ _ _ hr5
              have z0 := cell_of_row _ _ 0 _ _ _ hz5
              have z1 := cell_of_row _ _ 1 _ _ _ hz5
              have z2 := cell_of_row _ _ 2 _ _ _ hz5
              have z3 := cell_of_row _ _ 3 _ _ _ hz5
              have f0 := frozen_of_row _ _ 0 _ _ hz5
              have f1 := frozen_of_row _ _ 1 _ _ hz5
              have f2 := frozen_of_row _ _ 2 _ _ hz5
              have f3 := frozen_of_row _ _ 3 _ _ hz5
              simp at q0 q1 q2 q3 z0 z1 z2 z3
              go_wp2
              refine bodyPost_ret (results_ctt rfl _ _ w.heap.size 28 _ _ _ rfl (set4 hz5 (.int .u64 g) (.int .i64 at_) (.int .i64 x12) (.slice A4 m c4)) Try.underlying28 rfl (by kernel_rfl)) rfl ?_
              rw [HP.out]
              refine ⟨A4, c4, rfl, ?_, hle4, below4 hB5 (Nat.le_refl _) _ _ _ _⟩
              have hall : ∀ k, w3.heap.size ≤ k → (W4s w5 w.heap.size (.int .u64 g) (.int .i64 at_) (.int .i64 x12) (.slice A4 m c4)).heap[k]? = w4.heap[k]? := fun k hk => by
                have hb := (below4 (Below.refl w.heap.size w5) (Nat.le_refl _) (.int .u64 g) (.int .i64 at_) (.int .i64 x12) (.slice A4 m c4))
                have hne : k ≠ w.heap.size := by omega
                rw [← hk5 k hk]
                unfold W4s
                rw [Below.heap_setCell _ _ _ _ hne, Below.heap_setCell _ _ _ _ hne, Below.heap_setCell _ _ _ _ hne, Below.heap_setCell _ _ _ _ hne]
              exact Kd.R_lower (Kd.R_mono (Kd.R_step HR4.out (fun k hk _ => hall k hk)) (fun k hk => by omega)) (by omega)
          · go_wp2_with fail
            refine (BL _ ?_).mono ?_
            · unfold behind
              rw [if_neg hcm]
              rfl
            rintro e w3 ⟨rfl, rfl⟩
            clear BL
            have hlt3 : rb < w3.heap.size := blk_lt hr2
            cases bl with
            | false =>
              have hno : ¬ headOK b := fun hh => by have := (HOK.out.1 hh).2.2; cases this
              go_wp2
              refine bodyPost_ret (results_ctt rfl _ _ w.heap.size 28 _ _ _ rfl (set4 hz2 (.int .u64 0) (.int .i64 0) (.int .i64 0) (.slice none 0 0)) Try.underlying28 rfl (by kernel_rfl)) rfl ?_
              exact head_none hno rfl (below4 hB2 (Nat.le_refl _) _ _ _ _)
            | true =>
              have hh : headOK b := HOK.out.2 ⟨hg, by omega, rfl⟩
              have HP := hid (HRR.out hh)
              clear HRR HOK
              have hRm : ReadsInt w3.drew .u8 (some (a.add 17)) m ((b.drop 17).take m) := by
                have := RB_int (RB_below hpart hB2.drew)
                rwa [hplen] at this
              go_wp2_with fail
              refine wp_region_plan [7, 8] (.take 0 (.take 1 (.take 2 (.take 3 (.take 4 (.take 5 (.run 6 (.tail 7 (.tail 8 .done))))))))) (fun W' => W'.cell? ⟨rb, 3, none⟩ = some (.slice none 0 0)) (by kernel_rfl) (by kernel_rfl) (fun c a d v w h => by cases d <;> exact h) q3 ?_
              have hwm2 : IntKind.i64.wrap (17 + (m : Int)) = 17 + (m : Int) := by rw [IntKind.wrap_i64]; omega
              have h172 : (17 : Int) ≤ 17 + (m : Int) := by omega
              have h0172 : (0 : Int) ≤ 17 + (m : Int) := by omega
              have htn2 : (17 + (m : Int)).toNat = 17 + m := by omega
              iterate 6 (apply plan_take rfl rfl; (case hy => (intro w' hS; go_simp; try exact rfl)); go_simp)
              refine plan_run_on rfl rfl (fun K hK => ?_)
              refine step_append_row (w0 := w3.drew) w3.heap.size (.tmp 61) (.tmp 65) 22 5 .u8 1 rfl Try.underlying22 info_u8 (by decide) _ [] ((b.drop 17).take m) (some (a.add 17)) m (c - 17) rfl rfl (World.ownsRow_nil _ _ _ _) hRm (Below.refl _ _) (Nat.le_refl _) (by simp; omega) ?_
              intro v1 w4 ho hB4 hg4 hat
              have hR4 : KB.R 5 w4 w3.heap.size (fun q => w3.heap.size ≤ q) v1 ((b.drop 17).take m) := Rown (by simpa using ho) (fun q hq => own_base ho q hq)
              obtain ⟨A4, c4, rfl, hle4, hC4⟩ := Kd.R_reads hR4
              rw [hplen] at hle4 hR4 ⊢
              have HR4 := hid hR4
              clear ho hg4 hat hR4 hC4
              have hr4 : w4.heap[rb]? = some (.cells #[.int .u64 g, .int .i64 at_, .int .i64 x12, .slice none 0 0] 28 (0, 0)) := (hB4.block rb hlt3).trans hr2
              have hz4 : w4.heap[w.heap.size]? = some (.cells #[.int .u64 0, .int .i64 0, .int .i64 0, .slice none 0 0] 28 (0, 0)) := (hB4.block w.heap.size (blk_lt hz2)).trans hz2
              have hBw4 : Below w.heap.size w w4 := hB2.drew.trans (hB4.mono hB2.size)
              have p3 := cell_of_row _ _ 3 _ _ _ hr4
              have pf3 := frozen_of_row _ _ 3 _ _ hr4
              simp at p3
              refine hK _ _ _ (fun _ h => h) p3 ?_
              clear hK K
              go_simp
              refine plan_tail_on rfl rfl (fun K hK => ?_)
              go_simp
              refine hK _ _ ?_
              clear hK K
              refine plan_tail_on rfl rfl (fun K hK => ?_)
              go_simp
              refine hK _ _ (plan_done ?_)
              clear hK K
              have hr5 := heap_setCell_same w4 rb 3 _ _ (.slice A4 m c4) hr4
              have hz5 := (Below.heap_setCell w4 ⟨rb, 3, none⟩ (.slice A4 m c4) w.heap.size (by show w.heap.size ≠ rb; omega)).trans hz4
              have hB5 : Below w.heap.size w (w4.setCell ⟨rb, 3, none⟩ (.slice A4 m c4)) := hBw4.setCell (p := ⟨rb, 3, none⟩) (by show w.heap.size ≤ rb; omega) _
              have hk5 : ∀ k, w3.heap.size ≤ k → (w4.setCell ⟨rb, 3, none⟩ (.slice A4 m c4)).heap[k]? = w4.heap[k]? := fun k hk => Below.heap_setCell w4 ⟨rb, 3, none⟩ (.slice A4 m c4) k (by show k ≠ rb; omega)
              clear q0 q3 z0 z1 z2 z3 f0 f1 f2 f3 p3 pf3 hr4 hz4
              generalize w4.setCell ⟨rb, 3, none⟩ (.slice A4 m c4) = w5 at hr5 hz5 hB5 hk5 ⊢
              have hn2 := blk_lt hz2
              clear hr2 hz2 hRm
              have q0 := cell_of_row _ _ 0 _ _ _ hr5
              have q1 := cell_of_row _ _ 1 _ _ _ hr5
              have q2 := cell_of_row _ _ 2 _ _ _ hr5
              have q3 := cell_of_row _ _ 3 _ _ _ hr5
              have z0 := cell_of_row _ _ 0 _ _ _ hz5
              have z1 := cell_of_row _ _ 1 _ _ _ hz5
              have z2 := cell_of_row _ _ 2 _ _ _ hz5
              have z3 := cell_of_row _ _ 3 _ _ _ hz5
              have f0 := frozen_of_row _ _ 0 _ _ hz5
              have f1 := frozen_of_row _ _ 1 _ _ hz5
              have f2 := frozen_of_row _ _ 2 _ _ hz5
              have f3 := frozen_of_row _ _ 3 _ _ hz5
              simp at q0 q1 q2 q3 z0 z1 z2 z3
              go_wp2
              refine bodyPost_ret (results_ctt rfl _ _ w.heap.size 28 _ _ _ rfl (set4 hz5 (.int .u64 g) (.int .i64 at_) (.int .i64 x12) (.slice A4 m c4)) Try.underlying28 rfl (by kernel_rfl)) rfl ?_
              rw [HP.out]
              refine ⟨A4, c4, rfl, ?_, hle4, below4 hB5 (Nat.le_refl _) _ _ _ _⟩
              have hall : ∀ k, w3.heap.size ≤ k → (W4s w5 w.heap.size (.int .u64 g) (.int .i64 at_) (.int .i64 x12) (.slice A4 m c4)).heap[k]? = w4.heap[k]? := fun k hk => by
                have hb := (below4 (Below.refl w.heap.size w5) (Nat.le_refl _) (.int .u64 g) (.int .i64 at_) (.int .i64 x12) (.slice A4 m c4))
                have hne : k ≠ w.heap.size := by omega
                rw [← hk5 k hk]
                unfold W4s
                rw [Below.heap_setCell _ _ _ _ hne, Below.heap_setCell _ _ _ _ hne, Below.heap_setCell _ _ _ _ hne, Below.heap_setCell _ _ _ _ hne]
              exact Kd.R_lower (Kd.R_mono (Kd.R_step HR4.out (fun k hk _ => hall k hk)) (fun k hk => by omega)) (by omega)
    · have hno : ¬ headOK b := fun hh => ht hh.2.1
      rw [← hw0] at k0' k1'
      clear hw0
      have hnf : ¬ (b[0]'(by omega) = 102 ∧ b[1]'(by omega) = 104) := fun hh => ht (hf.2 hh)
      clear hf
      generalize b[0]'(by omega) = x0 at k0a k1a k0' k1' hnf
      generalize b[1]'(by omega) = x1 at k0a k1a k0' k1' hnf
      by_cases q0 : x0 = 102
      · have q1 : ¬ x1 = 104 := fun e => hnf ⟨q0, e⟩
        subst q0
        clear hnf
        have q1' : (x1 == 104) = false := by simpa using q1
        have q1'' : (x1 != 104) = true := by simpa using q1
        go_enter Try.func15, Try.ntmps15
        go_wp2
        refine bodyPost_ret (results_ctt rfl _ _ w.heap.size 28 _ _ _ rfl (heap_alloc_new w _) Try.underlying28 rfl (by kernel_rfl)) rfl ?_
        exact head_none hno rfl (below_alloc (Below.refl _ _) _)
      · have q0' : (x0 == 102) = false := by simpa using q0
        have q0'' : (x0 != 102) = true := by simpa using q0
        clear hnf
        go_enter Try.func15, Try.ntmps15
        go_wp2
        refine bodyPost_ret (results_ctt rfl _ _ w.heap.size 28 _ _ _ rfl (heap_alloc_new w _) Try.underlying28 rfl (by kernel_rfl)) rfl ?_
        exact head_none hno rfl (below_alloc (Below.refl _ _) _)
  · have hno : ¬ headOK b := fun hh => h64 hh.1
    have hne : ((b.length : Int) != 64) = true := by simp; omega
    have hne2 : ¬ (b.length : Int) = 64 := by omega
    clear hw0
    go_enter Try.func15, Try.ntmps15
    go_wp2
    refine bodyPost_ret (results_ctt rfl _ _ w.heap.size 28 _ _ _ rfl (heap_alloc_new w _) Try.underlying28 rfl (by kernel_rfl)) rfl ?_
    exact head_none hno rfl (below_alloc (Below.refl _ _) _)
end Go.Proofs.Ytekhmkfiepnnkaa

/- The document's disk (package foundryref21): what its memory says of a disk 'D', and what its small methods do to it. -/
set_option linter.unusedVariables false
set_option linter.unusedSimpArgs false
namespace Go.Proofs.Ytekhmkfiepnnkaa
open Go.RowKit Go.Proofs.YtekhmkfiepnnkaaW.PrintWords

/-- The document's disk: p the struct's block, g the bytes', wv the recorded writes. -/
structure RDb (w : World) (ok : Nat → Prop) (p : Nat) (D : DM) (g cap : Nat) (wv : Value) : Prop where
  okp : ok p
  okg : ok g
  blk : w.heap[p]? = some (.cells #[.slice (some ⟨g, 0, none⟩) D.b.length cap, .bool D.gone, .int .i64 D.left, wv] 69 (0, 0))
  row : w.ownsRow 0 5 1 (.slice (some ⟨g, 0, none⟩) D.b.length cap) D.b.length (nums .u8 D.b)
  ws : KW.R 140 w 0 (fun k => ok k ∧ k ≠ g) wv D.ws
def RDisk (w : World) (ok : Nat → Prop) (p : Nat) (D : DM) : Prop := D.wf ∧ ∃ g cap wv, RDb w ok p D g cap wv
namespace RDb
variable {w w1 : World} {ok ok' : Nat → Prop} {p : Nat} {D : DM} {g cap : Nat} {wv : Value}
theorem ne_pg (h : RDb w ok p D g cap wv) : p ≠ g := by
  obtain ⟨c, hc⟩ := own_typed h.row g rfl
  exact blk_type_ne h.blk hc (by decide)
theorem ne_pw (h : RDb w ok p D g cap wv) : some p ≠ wv.ownBlock := fun e => by
  obtain ⟨_, _, ho, _⟩ := h.ws
  obtain ⟨c, hc⟩ := own_typed ho p e.symm
  exact blk_type_ne h.blk hc (by decide) rfl
theorem ne_gw (h : RDb w ok p D g cap wv) : some g ≠ wv.ownBlock := fun e => by
  obtain ⟨_, _, ho, _⟩ := h.ws
  obtain ⟨c, hc⟩ := own_typed ho g e.symm
  obtain ⟨c', hc'⟩ := own_typed h.row g rfl
  exact blk_type_ne hc' hc (by decide) rfl
theorem mono (h : RDb w ok p D g cap wv) (hs : ∀ k, ok k → ok' k) : RDb w ok' p D g cap wv := ⟨hs _ h.okp, hs _ h.okg, h.blk, h.row, Kd.R_mono h.ws (fun k hk => ⟨hs k hk.1, hk.2⟩)⟩
theorem bound (h : RDb w ok p D g cap wv) : RDb w (fun k => ok k ∧ k < w.heap.size) p D g cap wv :=
  ⟨⟨h.okp, blk_lt h.blk⟩, ⟨h.okg, own_lt h.row g rfl⟩, h.blk, h.row, Kd.R_mono (Kd.R_bound h.ws) (fun _ hk => ⟨⟨hk.1.1, hk.2.2.1⟩, hk.1.2⟩)⟩
theorem step (h : RDb w ok p D g cap wv) (hm : ∀ k, ok k → k < w.heap.size → w1.heap[k]? = w.heap[k]?) : RDb w1 ok p D g cap wv :=
  ⟨h.okp, h.okg, (hm p h.okp (blk_lt h.blk)).trans h.blk, own_move h.row (fun k hk => (by rw [← ob_eq hk]; exact hm _ h.okg (own_lt h.row _ rfl))), Kd.R_step h.ws (fun k hk => hm k hk.1)⟩
theorem below (h : RDb w ok p D g cap wv) (hb : Below w.heap.size w w1) : RDb w1 ok p D g cap wv := h.step (fun k _ hk => hb.block k hk)
theorem drew (h : RDb w ok p D g cap wv) : RDb w.drew ok p D g cap wv := h.step (fun _ _ _ => rfl)
theorem cell0 (h : RDb w ok p D g cap wv) : w.cell? ⟨p, 0, none⟩ = some (.slice (some ⟨g, 0, none⟩) D.b.length cap) := by rw [cell_of_row w p 0 _ _ _ h.blk]; rfl
theorem cell1 (h : RDb w ok p D g cap wv) : w.cell? ⟨p, 1, none⟩ = some (.bool D.gone) := by rw [cell_of_row w p 1 _ _ _ h.blk]; rfl
theorem cell2 (h : RDb w ok p D g cap wv) : w.cell? ⟨p, 2, none⟩ = some (.int .i64 D.left) := by rw [cell_of_row w p 2 _ _ _ h.blk]; rfl
theorem cell3 (h : RDb w ok p D g cap wv) : w.cell? ⟨p, 3, none⟩ = some wv := by rw [cell_of_row w p 3 _ _ _ h.blk]; rfl
theorem free (h : RDb w ok p D g cap wv) (j : Nat) : w.frozen? ⟨p, j, none⟩ = false := frozen_of_row w p j _ _ h.blk
theorem setP (h : RDb w ok p D g cap wv) (j : Nat) (u : Value) : (w.setCell ⟨p, j, none⟩ u).ownsRow 0 5 1 (.slice (some ⟨g, 0, none⟩) D.b.length cap) D.b.length (nums .u8 D.b) ∧ KW.R 140 (w.setCell ⟨p, j, none⟩ u) 0 (fun k => ok k ∧ k ≠ g) wv D.ws :=
  ⟨own_move h.row (fun k hk => (by rw [← ob_eq hk]; exact Below.heap_setCell w _ u _ (fun e => h.ne_pg e.symm))), Kd.R_set h.ws h.blk (by decide) j u⟩
theorem setLeft (h : RDb w ok p D g cap wv) (l : Int) : RDb (w.setCell ⟨p, 2, none⟩ (.int .i64 l)) ok p { D with left := l } g cap wv :=
  ⟨h.okp, h.okg, heap_setCell_same w p 2 _ _ _ h.blk, (h.setP 2 _).1, (h.setP 2 _).2⟩
theorem setGone (h : RDb w ok p D g cap wv) (l : Bool) : RDb (w.setCell ⟨p, 1, none⟩ (.bool l)) ok p { D with gone := l } g cap wv :=
  ⟨h.okp, h.okg, heap_setCell_same w p 1 _ _ _ h.blk, (h.setP 1 _).1, (h.setP 1 _).2⟩
theorem close {u : Value} {l : List (Int × List Int)} (hp : ok p) (hg : ok g)
    (hb : w.heap[p]? = some (.cells #[.slice (some ⟨g, 0, none⟩) D.b.length cap, .bool D.gone, .int .i64 D.left, wv] 69 (0, 0)))
    (hr : w.ownsRow 0 5 1 (.slice (some ⟨g, 0, none⟩) D.b.length cap) D.b.length (nums .u8 D.b)) (hR : KW.R 140 w 0 (fun k => ok k ∧ k ≠ g) u l) :
    RDb (w.setCell ⟨p, 3, none⟩ u) ok p { D with ws := l } g cap u := by
  have hne : g ≠ p := by
    obtain ⟨c, hc⟩ := own_typed hr g rfl
    exact blk_type_ne hc hb (by decide)
  exact ⟨hp, hg, heap_setCell_same w p 3 _ _ _ hb, own_move hr (fun k hk => (by rw [← ob_eq hk]; exact Below.heap_setCell w _ u _ hne)), Kd.R_set hR hb (by decide) 3 u⟩
/-- A byte is stored. -/
theorem setByte (h : RDb w ok p D g cap wv) (j : Nat) (x : Int) : RDb (w.setCell ⟨g, j, none⟩ (.int .u8 x)) ok p { D with b := D.b.set j x } g cap wv := by
  have hn : (D.b.set j x).length = D.b.length := List.length_set
  refine ⟨h.okp, h.okg, ?_, ?_, Kd.R_far h.ws (fun k hk => hk.2) _⟩
  · show (w.setCell ⟨g, j, none⟩ (.int .u8 x)).heap[p]? = some (.cells #[.slice (some ⟨g, 0, none⟩) (D.b.set j x).length cap, .bool D.gone, .int .i64 D.left, wv] 69 (0, 0))
    rw [hn]
    exact (Below.heap_setCell w _ _ _ h.ne_pg).trans h.blk
  · show (w.setCell ⟨g, j, none⟩ (.int .u8 x)).ownsRow 0 5 1 (.slice (some ⟨g, 0, none⟩) (D.b.set j x).length cap) (D.b.set j x).length (nums .u8 (D.b.set j x))
    rw [hn]
    have := (own_store h.row (j : Int) x).1
    simpa using this
end RDb
theorem RDisk.mono {w : World} {ok ok' : Nat → Prop} {p : Nat} {D : DM} (h : RDisk w ok p D) (hs : ∀ k, ok k → ok' k) : RDisk w ok' p D := by
  obtain ⟨hw, g, cap, wv, h⟩ := h
  exact ⟨hw, g, cap, wv, h.mono hs⟩
theorem RDisk.bound {w : World} {ok : Nat → Prop} {p : Nat} {D : DM} (h : RDisk w ok p D) : RDisk w (fun k => ok k ∧ k < w.heap.size) p D := by
  obtain ⟨hw, g, cap, wv, h⟩ := h
  exact ⟨hw, g, cap, wv, h.bound⟩
theorem RDisk.step {w w1 : World} {ok : Nat → Prop} {p : Nat} {D : DM} (h : RDisk w ok p D) (hm : ∀ k, ok k → k < w.heap.size → w1.heap[k]? = w.heap[k]?) : RDisk w1 ok p D := by
  obtain ⟨hw, g, cap, wv, h⟩ := h
  exact ⟨hw, g, cap, wv, h.step hm⟩

theorem rdblocks_any {w : World} {ok : Nat → Prop} {p : Nat} {D : DM} (h : RDisk w ok p D) :
  Calls Try.prog 78 #[.pointer (some ⟨p, 0, none⟩)] w fun e w' => e = .returned (.int .i64 D.n) ∧ w = w' := by
  obtain ⟨hwf, g, cap, wv, hb⟩ := h
  have c0 := hb.cell0
  have hq : ((D.b.length : Int)).tdiv 64 = (D.n : Int) := by unfold DM.n; rw [Int.tdiv_eq_ediv_of_nonneg (by omega)]; omega
  have HQ := hid hq
  have h1 := hwf.len
  have h2 := hwf.hi
  clear hq
  go_enter Try.func78, Try.ntmps78
  go_wp2
  go_ret
  exact ⟨rfl, rfl⟩
end Go.Proofs.Ytekhmkfiepnnkaa

/- The document's disk: bad, Cut, On, Forget, New, Read. -/
set_option linter.unusedVariables false
set_option linter.unusedSimpArgs false
namespace Go.Proofs.Ytekhmkfiepnnkaa
open Go.RowKit Go.Proofs.YtekhmkfiepnnkaaW.PrintWords

theorem bad_any {w : World} {ok : Nat → Prop} {p : Nat} {D : DM} (h : RDisk w ok p D) (i : Int) :
  Calls Try.prog 87 #[.pointer (some ⟨p, 0, none⟩), .int .i64 i] w fun e w' => e = .returned (.int .i64 (D.ready i)) ∧ w = w' := by
  have hbl := rdblocks_any h
  obtain ⟨hwf, g, cap, wv, hb⟩ := h
  have c1 := hb.cell1
  have hgone : D.gone = D.gone := rfl
  unfold DM.ready
  have hh := hwf.hi
  generalize D.gone = gone at c1 ⊢
  cases gone with
  | true =>
    go_enter Try.func87, Try.ntmps87
    go_wp2
    go_ret
    exact ⟨rfl, rfl⟩
  | false =>
    rw [if_neg (by decide)]
    by_cases h0 : i < 0
    · rw [if_pos (.inl h0)]
      go_enter Try.func87, Try.ntmps87
      go_wp2
      go_ret
      exact ⟨rfl, rfl⟩
    · by_cases h1 : (D.n : Int) ≤ i
      · rw [if_pos (.inr h1)]
        go_enter Try.func87, Try.ntmps87
        go_wp2_with (go_at_call 78; refine hbl.mono ?_; rintro e w' ⟨rfl, rfl⟩)
        go_ret
        exact ⟨rfl, rfl⟩
      · rw [if_neg (by omega)]
        go_enter Try.func87, Try.ntmps87
        go_wp2_with (go_at_call 78; refine hbl.mono ?_; rintro e w' ⟨rfl, rfl⟩)
        go_ret
        exact ⟨rfl, rfl⟩
theorem rcut_any {w : World} {ok : Nat → Prop} {p : Nat} {D : DM} (n : Int) (h : RDisk w ok p D) (h1 : n ≤ 9223372036854775807) :
  Calls Try.prog 57 #[.pointer (some ⟨p, 0, none⟩), .int .i64 n] w fun e w' => e = .returned (.tuple #[]) ∧ RDisk w' ok p (D.cut n) ∧ Chg ok w w' := by
  obtain ⟨hwf, g, cap, wv, hb⟩ := h
  have c2 := hb.cell2
  have z2 := hb.free 2
  have hwf' : (D.cut n).wf := ⟨hwf.len, hwf.lo, hwf.hi, by simp only [DM.cut]; split <;> omega, by simp only [DM.cut]; split <;> omega, hwf.bytes, hwf.wsB⟩
  by_cases h0 : n < 0
  · have hfin : RDisk ((w.setCell ⟨p, 2, none⟩ (.int .i64 n)).setCell ⟨p, 2, none⟩ (.int .i64 (-1))) ok p (D.cut n) ∧ Chg ok w ((w.setCell ⟨p, 2, none⟩ (.int .i64 n)).setCell ⟨p, 2, none⟩ (.int .i64 (-1))) := by
      refine ⟨⟨hwf', g, cap, wv, ?_⟩, ((Chg.refl ok w).setCell (.inl hb.okp) _).setCell (.inl hb.okp) _⟩
      have e : D.cut n = { { D with left := n } with left := -1 } := by
        simp only [DM.cut]
        congr 1
        split <;> omega
      rw [e]
      exact (hb.setLeft n).setLeft (-1)
    have HF := hid hfin
    clear hfin
    go_enter Try.func57, Try.ntmps57
    go_wp2
    go_end0
    exact ⟨rfl, HF.out⟩
  · have hfin : RDisk (w.setCell ⟨p, 2, none⟩ (.int .i64 n)) ok p (D.cut n) ∧ Chg ok w (w.setCell ⟨p, 2, none⟩ (.int .i64 n)) := by
      refine ⟨⟨hwf', g, cap, wv, ?_⟩, (Chg.refl ok w).setCell (.inl hb.okp) _⟩
      have e : D.cut n = { D with left := n } := by
        simp only [DM.cut]
        congr 1
        split <;> omega
      rw [e]
      exact hb.setLeft n
    have HF := hid hfin
    clear hfin
    go_enter Try.func57, Try.ntmps57
    go_wp2
    go_end0
    exact ⟨rfl, HF.out⟩
theorem ron_any {w : World} {ok : Nat → Prop} {p : Nat} {D : DM} (h : RDisk w ok p D) :
  Calls Try.prog 58 #[.pointer (some ⟨p, 0, none⟩)] w fun e w' => e = .returned (.tuple #[]) ∧ RDisk w' ok p { D with left := -1, gone := false } ∧ Chg ok w w' := by
  obtain ⟨hwf, g, cap, wv, hb⟩ := h
  have c1 := hb.cell1
  have c2 := hb.cell2
  have z1 := hb.free 1
  have z2 := hb.free 2
  have hfin : RDisk ((w.setCell ⟨p, 1, none⟩ (.bool false)).setCell ⟨p, 2, none⟩ (.int .i64 (-1))) ok p { D with left := -1, gone := false } ∧ Chg ok w ((w.setCell ⟨p, 1, none⟩ (.bool false)).setCell ⟨p, 2, none⟩ (.int .i64 (-1))) :=
    ⟨⟨⟨hwf.len, hwf.lo, hwf.hi, by simp, by simp, hwf.bytes, hwf.wsB⟩, g, cap, wv, (hb.setGone false).setLeft (-1)⟩, ((Chg.refl ok w).setCell (.inl hb.okp) _).setCell (.inl hb.okp) _⟩
  have HF := hid hfin
  clear hfin
  go_enter Try.func58, Try.ntmps58
  go_wp2
  go_end0
  exact ⟨rfl, HF.out⟩
theorem rnew_err {w : World} (n : Int) (h : n < 16 ∨ 4096 < n) : Calls Try.prog 32 #[.int .i64 n] w fun e w' => e = .returned (.tuple #[.pointer none, .int .i64 1]) ∧ w = w' := by
  rcases h with h | h
  · go_enter Try.func32, Try.ntmps32
    go_wp2
    go_ret2
    exact ⟨rfl, rfl⟩
  · go_enter Try.func32, Try.ntmps32
    go_wp2
    go_ret2
    exact ⟨rfl, rfl⟩
set_option maxRecDepth 100000 in
theorem rnew_ok {w : World} (n : Nat) (h1 : 16 ≤ n) (h2 : n ≤ 4096) : Calls Try.prog 32 #[.int .i64 n] w fun e w' =>
    e = .returned (.tuple #[.pointer (some ⟨w.heap.size + 1, 0, none⟩), .int .i64 0]) ∧ RDisk w' (fun k => w.heap.size ≤ k) (w.heap.size + 1) (DM.new n) ∧ Below w.heap.size w w' := by
  have hmk : ∀ W : World, (Instr.makeSlice 22 (.int .i64 (64 * (n : Int))) (.int .i64 (64 * (n : Int)))).run Try.prog W = .ok (.slice (some ⟨W.heap.size, 0, none⟩) (64 * n) (64 * n)) (W.alloc (.cells (madeCells #[.int .u8 0] (64 * n)) 5)) := by
    intro W
    have := make_bytes (64 * n) (by omega) W
    push_cast at this
    exact this
  have hb : (DM.new n).b.length = 64 * n := by simp [DM.new]
  have hfin : RDisk ((w.alloc (.cells (madeCells #[.int .u8 0] (64 * n)) 5)).alloc (.cells #[.slice (some ⟨w.heap.size, 0, none⟩) (64 * n) (64 * n), .bool false, .int .i64 (-1), .slice none 0 0] 69)) (fun k => w.heap.size ≤ k) (w.heap.size + 1) (DM.new n) := by
    refine ⟨new_wf h1 h2, w.heap.size, 64 * n, .slice none 0 0, ?_⟩
    refine ⟨by simp, by simp, ?_, ?_, ?_⟩
    · rw [hb]
      exact heap_alloc2_new w (.cells (madeCells #[.int .u8 0] (64 * n)) 5) (.cells #[.slice (some ⟨w.heap.size, 0, none⟩) (64 * n) (64 * n), .bool false, .int .i64 (-1), .slice none 0 0] 69)
    · rw [hb]
      have h3 := own_made w 0 5 .u8 (64 * n) (by simp) (by omega)
      exact own_alloc h3 (.cells #[.slice (some ⟨w.heap.size, 0, none⟩) (64 * n) (64 * n), .bool false, .int .i64 (-1), .slice none 0 0] 69)
    · exact Kd.R_nil _ _ _ _ _
  have HF := hid hfin
  clear hfin hb
  go_enter Try.func32, Try.ntmps32
  go_wp2
  go_ret2
  exact ⟨rfl, HF.out, below_alloc (below_alloc (Below.refl _ _) _) _⟩
theorem rread_err {w : World} {ok : Nat → Prop} {p : Nat} {D : DM} (i : Int) (h : RDisk w ok p D) (hr : ¬ D.ready i = 0) :
  Calls Try.prog 85 #[.pointer (some ⟨p, 0, none⟩), .int .i64 i] w fun e w' => e = .returned (.tuple #[.slice none 0 0, .int .i64 (D.ready i)]) ∧ w = w' := by
  have hready := bad_any h i
  have hr2 : (D.ready i != 0) = true := by simp [hr]
  clear hr
  go_enter Try.func85, Try.ntmps85
  go_wp2_with (go_at_call 87; refine hready.mono ?_; rintro e w' ⟨rfl, rfl⟩)
  go_ret2
  exact ⟨rfl, rfl⟩
/-- A part of a row of numbers that is read. -/
theorem reads_drop {w : World} {k : IntKind} {g : Nat} {xs : List Int} {base cap n : Nat} {t : Nat} (h : w.ownsRow base t 1 (.slice (some ⟨g, 0, none⟩) n cap) n (nums k xs)) (off m : Nat) (hl : off + m ≤ xs.length) (hm : m ≤ 9223372036854775807) :
    ReadsInt w k (some ⟨g, off, none⟩) m ((xs.drop off).take m) := by
  refine ⟨by rw [List.length_take, List.length_drop]; omega, hm, fun _ => ⟨_, rfl, fun j hj => ?_⟩⟩
  rw [Addr.add_mid]
  apply own_rangeAt h off m j
  simp [nums, List.getD_eq_getElem?_getD, List.getElem?_take, hj]
  rw [List.getElem?_eq_getElem (by omega)]
  rfl
set_option maxRecDepth 100000 in
theorem rread_ok {w : World} {ok : Nat → Prop} {p : Nat} {D : DM} (i : Nat) (h : RDisk w ok p D) (hr : D.ready i = 0) (hi : i < D.n) :
  Calls Try.prog 85 #[.pointer (some ⟨p, 0, none⟩), .int .i64 i] w fun e w' => ∃ A c, e = .returned (.tuple #[.slice A 64 c, .int .i64 0]) ∧ KB.R 5 w' w.heap.size (fun k => w.heap.size ≤ k) (.slice A 64 c) (D.blk i) ∧ Below w.heap.size w w' := by
  have hready := bad_any h i
  rw [hr] at hready
  obtain ⟨hwf, g, cap, wv, hb⟩ := h
  have c0 := hb.cell0
  have hl := blk_length hwf hi
  have h1 := hwf.len
  have h2 := hwf.hi
  have hread : ReadsInt w .u8 (some ⟨g, 64 * i, none⟩) 64 (D.blk i) := by
    have := reads_drop hb.row (64 * i) 64 (by omega) (by omega)
    rwa [DM.blk, Nat.mul_comm i 64]
  have hof := own_form hb.row
  have HL := hid hl
  have ca0 : (w.alloc (.cells #[] 5)).cell? ⟨p, 0, none⟩ = some (.slice (some ⟨g, 0, none⟩) D.b.length cap) := (World.cell?_alloc_lt w _ _ (World.block_lt_of_cell? w _ c0)).trans c0
  have hof1 := hof.1
  have hof2 : cap ≤ 9223372036854775807 := Nat.le_trans hof.2 (by decide)
  clear hr hl hof
  go_enter Try.func85, Try.ntmps85
  go_wp2_with (first | (go_at_call 87; refine hready.mono ?_; rintro e w' ⟨rfl, rfl⟩) | (at_builtin; refine print_append_row (w0 := w) w.heap.size rfl (.tmp 13) (.tmp 23) 22 5 .u8 1 rfl Try.underlying22 info_u8 (by decide) _ [] (D.blk i) (some ⟨g, 64 * i, none⟩) (64 * i + 64 - 64 * i) (cap - 64 * i) rfl rfl ?HO ?HR ?HB ?hb ?hl ?_))
  case HO => exact World.ownsRow_made (base := w.heap.size) w #[] 0 (Nat.le_refl _) (Nat.zero_le _) rfl
  case HR => rw [show 64 * i + 64 - 64 * i = 64 by omega]; exact hread.below (below_alloc (Below.refl _ _) _)
  case HB => exact below_alloc (Below.refl _ _) _
  case hb => simp
  case hl => simp
  intro v1 w1 ho hb1 hg hat
  have hR1 : KB.R 5 w1 w.heap.size (fun q => w.heap.size ≤ q) v1 (D.blk i) := Rown (by simpa using ho) (fun q hq => own_base ho q hq)
  obtain ⟨A', c', hv⟩ := Kd.R_slice hR1
  rw [HL.out] at hv
  subst hv
  clear ho
  go_wp2
  go_ret2
  exact ⟨A', c', rfl, hR1, hb1⟩
end Go.Proofs.Ytekhmkfiepnnkaa

/- The document's disk: Write. -/
set_option linter.unusedVariables false
set_option linter.unusedSimpArgs false
namespace Go.Proofs.Ytekhmkfiepnnkaa
open Go.RowKit Go.Proofs.YtekhmkfiepnnkaaW.PrintWords

theorem info_RWrite : (Try.prog.info? 140).map (fun i => (i.zero, i.size, i.bytes)) = some (some (.agg #[.int .i64 0, .slice none 0 0]), 2, 32) := by kernel_rfl
theorem splice_none {α : Type} (b : List α) (off : Nat) : splice b off [] = b := by simp [splice]
theorem splice_set {b xs : List Int} {off k : Nat} (hk : k < xs.length) (hl : off + xs.length ≤ b.length) : (splice b off (xs.take k)).set (off + k) (rd xs k) = splice b off (xs.take (k + 1)) := by
  have h1 : (b.take off).length = off := by rw [List.length_take]; omega
  have h2 : (xs.take k).length = k := by rw [List.length_take]; omega
  have h3 : (xs.take (k + 1)).length = k + 1 := by rw [List.length_take]; omega
  have hr : rd xs k = xs[k] := by simp [rd, List.getD_eq_getElem?_getD, hk]
  unfold splice
  rw [h2, h3, List.set_append_right _ _ (by omega), h1, List.set_append_right _ _ (by omega), h2]
  have e : off + k - off - k = 0 := by omega
  rw [e, show off + (k + 1) = (off + k) + 1 by omega, List.drop_eq_getElem_cons (show off + k < b.length by omega), List.set_cons_zero, List.take_succ_eq_append_getElem hk, hr]
  simp only [List.append_assoc, List.singleton_append]
set_option maxRecDepth 100000 in
set_option maxHeartbeats 1000000 in
theorem rwrite_ok {w : World} {ok okb : Nat → Prop} {p : Nat} {D : DM} {a : Addr} {c : Nat} {xs : List Int} (i : Nat) (h : RDisk w ok p D) (hF : RB w okb (some a) xs) (hne : apart okb ok) (hr : D.ready i = 0) (hi : i < D.n) (hx : xs.length = 64) (hB : Bytes xs) (hl : ¬ D.left = 0)
    (hm : (D.ws.length + 1) * 32 ≤ 140737488355328) :
  Calls Try.prog 73 #[.pointer (some ⟨p, 0, none⟩), .int .i64 i, .slice (some a) xs.length c] w fun e w' => e = .returned (.int .i64 0) ∧ RDisk w' (orNew ok w) p (D.writeD i xs) ∧ Chg ok w w' := by
  have hready := bad_any h i
  rw [hr] at hready
  obtain ⟨hwf, g, cap, wv, hb⟩ := h
  have hwD : D.writeD i xs = { b := splice D.b (i * 64) xs, left := if 0 < D.left then D.left - 1 else D.left, gone := D.gone, ws := D.ws ++ [(↑i, xs)] } := by
    unfold DM.writeD
    rw [if_neg (by rw [hr]; simp), if_neg (by rw [hx]; simp), if_neg hl]
    simp
  have HWD := hid hwD
  have hlb := hwf.len
  have hhi := hwf.hi
  have HX := hid hx
  have c2 := hb.cell2
  have z2 := hb.free 2
  have l1 := hwf.l1
  have l2 := hwf.l2
  have hl3 : (D.left == 0) = false := by simp [hl]
  have hx3 : ((xs.length : Int) != 64) = false := by simp [hx]
  obtain ⟨W0, D0, hW⟩ : ∃ W0 D0, (W0, D0) = (if 0 < D.left then (w.setCell ⟨p, 2, none⟩ (.int .i64 (D.left - 1)), { D with left := D.left - 1 }) else (w, D) : World × DM) := ⟨_, _, rfl⟩
  have hall : RDb W0 ok p D0 g cap wv ∧ Chg ok w W0 ∧ Hid (D0.b = D.b ∧ D0.ws = D.ws ∧ D.writeD i xs = { b := splice D0.b (i * 64) xs, left := D0.left, gone := D0.gone, ws := D0.ws ++ [(↑i, xs)] }) := by
    by_cases hpos : 0 < D.left
    · rw [if_pos hpos] at hW
      obtain ⟨rfl, rfl⟩ := Prod.mk.inj hW
      exact ⟨hb.setLeft (D.left - 1), (Chg.refl ok w).setCell (.inl hb.okp) _, rfl, rfl, by rw [HWD.out, if_pos hpos]⟩
    · rw [if_neg hpos] at hW
      obtain ⟨rfl, rfl⟩ := Prod.mk.inj hW
      exact ⟨hb, Chg.refl ok _, rfl, rfl, by rw [HWD.out, if_neg hpos]⟩
  obtain ⟨hb0, hc0, HD⟩ := hall
  have HLB : Hid (D0.b.length = 64 * D.n) := hid (by rw [HD.out.1]; exact hlb)
  have HW := hid hW
  clear hW hx hr hl hwD hlb
  by_cases hpos : 0 < D.left
  all_goals
    go_enter Try.func73, Try.ntmps73
    go_wp2_with (go_at_call 87; refine hready.mono ?_; rintro e w' ⟨rfl, rfl⟩)
    have hW := HW.out
    first | rw [if_pos hpos] at hW | rw [if_neg (by omega)] at hW
    have hW2 := congrArg Prod.fst hW
    simp only at hW2
    try rw [← hW2]
    clear hW hW2 hready c2 z2
    go_loopw [8] (fun j wr => ∃ k : Nat, k ≤ 64 ∧ j = .int .i64 k ∧ RDb wr ok p { D0 with b := splice D0.b (i * 64) (xs.take k) } g cap wv ∧ Chg ok w wr) (fun j _ => 64 - (intOf j).toNat)
    case atStart => exact ⟨0, by omega, rfl, by rw [List.take_zero, splice_none]; exact hb0, hc0⟩
    case round =>
      obtain ⟨k, hk, rfl, hbk, hck⟩ := hrel
      have hln : (splice D0.b (i * 64) (xs.take k)).length = 64 * D.n := by
        rw [length_splice _ _ _ (by rw [List.length_take, HX.out, HLB.out]; omega), HLB.out]
      by_cases hlt : k < 64
      · have c0 := hbk.cell0
        have hFk := RB_step hF hck hne
        obtain ⟨ad, hae, hcell⟩ := (RB_int hFk).at_ (k : Int) (by omega) (by rw [HX.out]; omega)
        injection hae with hae
        subst hae
        simp only [Int.toNat_natCast] at hcell
        obtain ⟨hc, hz⟩ := own_at hbk.row ((i * 64 + k : Nat) : Int) (by omega) (by rw [hln]; omega)
        simp only [Int.toNat_natCast] at hc hz
        have hbn := hbk.setByte (i * 64 + k) (rd xs k)
        have hcn : Chg ok w (wr.setCell ⟨g, i * 64 + k, none⟩ (.int .u8 (rd xs k))) := hck.setCell (.inl hbk.okg) _
        have hse := splice_set (b := D0.b) (xs := xs) (off := i * 64) (k := k) (by rw [HX.out]; omega) (by rw [HX.out, HLB.out]; omega)
        simp only at c0 hbn
        rw [hse] at hbn
        rw [hln] at c0
        have HE := hid hln
        clear hse hln
        rw [Nat.mul_comm i 64] at hc hz
        have hbn' : RDb (wr.drew.setCell ⟨g, 64 * i + k, none⟩ (.int .u8 (rd xs k))) ok p { D0 with b := splice D0.b (i * 64) (xs.take (k + 1)) } g cap wv := by
          have := hbk.drew.setByte (i * 64 + k) (rd xs k)
          simp only [] at this
          rw [splice_set (by rw [HX.out]; omega) (by rw [HX.out, HLB.out]; omega)] at this
          rwa [Nat.mul_comm 64 i]
        have hcn' : Chg ok w (wr.drew.setCell ⟨g, 64 * i + k, none⟩ (.int .u8 (rd xs k))) := hck.drew.setCell (.inl hbk.okg) _
        clear hbn hcn
        have hw1 : IntKind.i64.wrap (64 * (i : Int)) = 64 * (i : Int) := IntWalk.i64_in _ (by omega)
        have hw2 : IntKind.i64.wrap (64 * (i : Int) + (k : Int)) = 64 * (i : Int) + (k : Int) := IntWalk.i64_in _ (by omega)
        have hw3 : (64 * (i : Int) + (k : Int)).toNat = 64 * i + k := by omega
        have hw4 : 0 ≤ 64 * (i : Int) + (k : Int) ∧ 64 * (i : Int) + (k : Int) < 64 * (D.n : Int) := by omega
        go_wp2_with fail
        refine wp_region_plan [12, 13] (.take 0 (.take 1 (.take 2 (.take 3 (.take 4 (.take 5 (.take 6 (.take 7 (.take 8 (.take 9 (.take 10 (.take 11 (.tail 12 (.tail 13 .done)))))))))))))) (fun w' => w'.cell? ⟨p, 0, none⟩ = some (.slice (some ⟨g, 0, none⟩) (64 * D.n) cap) ∧ w'.cell? (a.add k) = some (.int .u8 (rd xs k))) (by kernel_rfl) (by kernel_rfl) (fun c a d v w h => by cases d <;> exact h) ⟨c0, hcell⟩ ?_
        iterate 12 (apply plan_take rfl rfl; (case hy => (intro w' hS; obtain ⟨s0, s1⟩ := hS; have hx' := HX.out; go_simp; try exact rfl)); go_simp)
        refine plan_tail rfl (fun K hK => ?_)
        go_simp
        try rw [if_pos hw4, hw3]
        refine hK _ _ ?_
        clear hK K
        refine plan_tail rfl (fun K hK => ?_)
        go_simp
        refine hK _ _ (plan_done ?_)
        clear hK K c0 hc hz hcell
        go_wp2
        go_roundw
        case rel => exact ⟨k + 1, by omega, by go_num, hbn', hcn'⟩
        case measure => simp [intOf]; omega
      · obtain rfl : k = 64 := by omega
        rw [List.take_of_length_le (by rw [HX.out]; omega)] at hbk
        have HLN : Hid ((splice D0.b (i * 64) xs).length = 64 * D.n) := by
          rw [List.take_of_length_le (by rw [HX.out]; omega)] at hln
          exact hid hln
        have hFk := RB_step hF hck hne
        have c3 := hbk.cell3
        have hszw : w.heap.size ≤ wr.heap.size := hck.size
        clear hln
        go_wp2_with fail
        refine wp_region_plan [12, 13, 14] (.take 0 (.take 1 (.take 2 (.take 3 (.take 4 (.take 5 (.take 7 (.run 6 (.run 8 (.take 9 (.run 10 (.run 11 (.tail 12 (.tail 13 (.tail 14 .done))))))))))))))) (fun w' => w'.cell? ⟨p, 3, none⟩ = some wv) (by kernel_rfl) (by kernel_rfl) (fun c a d v w h => by cases d <;> exact h) c3 ?_
        iterate 7 (apply plan_take rfl rfl; (case hy => (intro w' hS; go_simp; try exact rfl)); go_simp)
        refine plan_run_on rfl rfl (fun K hK => ?_)
        go_simp
        have hBa := below_alloc (below_drew (Below.refl wr.heap.size wr)) (.cells #[] 5)
        refine hK _ _ _ (fun _ h => h) (pw_cell_below hBa c3) ?_
        clear hK K
        refine plan_run_on rfl rfl (fun K hK => ?_)
        refine step_append_row (w0 := wr) wr.heap.size (.tmp 61) (.tmp 62) 22 5 .u8 1 rfl Try.underlying22 info_u8 (by decide) _ [] xs (some a) xs.length c rfl rfl ?HO ?HR ?HB ?hb ?hl ?_
        case HO => exact World.ownsRow_made (base := wr.heap.size) wr.drew #[] 0 (Nat.le_refl _) (Nat.zero_le _) rfl
        case HR => exact (RB_int hFk).below hBa
        case HB => exact hBa
        case hb => simp
        case hl => simp; rw [HX.out]; omega
        intro v1 w2 ho hB2 hg hat
        have hR2 : KB.R 5 w2 wr.heap.size (fun q => wr.heap.size ≤ q) v1 xs := Rown (by simpa using ho) (fun q hq => own_base ho q hq)
        obtain ⟨A2, c2, rfl⟩ := Kd.R_slice hR2
        clear ho hg hat
        have hb2 := hbk.below hB2
        have hc2 := hck.same hB2
        refine hK _ _ _ (fun _ h => h) hb2.cell3 ?_
        clear hK K
        go_simp
        apply plan_take rfl rfl
        case hy => (intro w' hS; go_simp; try exact rfl)
        go_simp
        refine plan_run_on rfl rfl (fun K hK => ?_)
        go_simp
        refine hK _ _ _ (fun _ h => h) (hb2.below (below_alloc (Below.refl _ _) _)).cell3 ?_
        clear hK K
        refine plan_run rfl (fun K hK => ?_)
        have hw2 : w.heap.size ≤ w2.heap.size := hc2.size
        have hR3 : KB.R 5 w2 0 (fun k => wr.heap.size ≤ k) (.slice A2 xs.length c2) xs := Kd.R_lower hR2 (Nat.zero_le _)
        have hlt : ∀ k, wv.ownBlock = some k → k < wr.heap.size := by
          obtain ⟨_, _, ho, _⟩ := hbk.ws
          exact fun k hk => own_lt ho k hk
        have hgl : g < wr.heap.size := own_lt hbk.row g rfl
        have hgl2 : g < w2.heap.size := Nat.lt_of_lt_of_le hgl hB2.size
        have hpw := hb2.ne_pw
        refine Kd.R_append_step KW (w0 := w2) 0 rfl (.tmp 59) (.tmp 65) 67 140 (.agg #[.int .i64 0, .slice none 0 0]) 32 rfl Try.underlying67 info_RWrite rfl (by decide) (by decide) wv D0.ws (↑i, xs) [.int .i64 i, .slice A2 xs.length c2]
          (fun k => orNew ok w k ∧ k ≠ g) (fun k => wr.heap.size ≤ k) rfl rfl (KW_new hR3) (fun k hk => ⟨⟨.inr (Nat.le_trans hszw hk), by omega⟩, fun e => by have := hlt k e.symm; omega⟩) (fun k hk => ⟨.inr (Nat.le_trans hw2 hk), by omega⟩) (Kd.R_mono hb2.ws (fun _ h => ⟨.inl h.1, h.2⟩)) (Below.refl _ _) (Nat.zero_le _) (by rw [HD.out.2.1]; exact hm) ?_
        intro v3 w3 hR4 _ hg3 _
        obtain ⟨A3, c4, rfl⟩ := Kd.R_slice hR4
        have hblk3 : w3.heap[p]? = _ := (hg3.block p (blk_lt hb2.blk) hpw).trans hb2.blk
        have hrow3 := own_other hb2.row hg3 (.inr (by have := hb2.ne_gw; simpa [Value.ownBlock] using this))
        have hc3 : Chg ok w w3 := hc2.grown hg3 (fun k hk => .inl (by
          obtain ⟨h0, _⟩ := hb2.ws
          exact (h0 k hk).1))
        refine hK _ _ _ (fun _ h => h) (by rw [cell_of_row w3 p 3 _ _ _ hblk3]; rfl) ?_
        clear hK K
        have z3 := frozen_of_row w3 p 3 _ _ hblk3
        have c5 : w3.cell? ⟨p, 3, none⟩ = some wv := by rw [cell_of_row w3 p 3 _ _ _ hblk3]; rfl
        go_simp
        iterate 2
          refine plan_tail rfl (fun K hK => ?_)
          go_simp
          refine hK _ _ ?_
          clear hK K
        refine plan_tail rfl (fun K hK => ?_)
        go_simp
        refine hK _ _ (plan_done ?_)
        clear hK K
        go_wp2_with fail
        go_ret
        have hnl : D0.ws.length + 1 = (D0.ws ++ [((i : Int), xs)]).length := by simp
        rw [hnl]
        refine ⟨rfl, ⟨writeD_wf hwf hB i, g, cap, .slice A3 (D0.ws ++ [((i : Int), xs)]).length c4, ?_⟩, hc3.setCell (.inl hb0.okp) _⟩
        rw [HD.out.2.2]
        exact RDb.close (D := { D0 with b := splice D0.b (i * 64) xs }) (.inl hb0.okp) (.inl hb0.okg) hblk3 hrow3 hR4
end Go.Proofs.Ytekhmkfiepnnkaa

/- (without Clone) The document's disk: Write of anything; Clone. -/
set_option linter.unusedVariables false
set_option linter.unusedSimpArgs false
namespace Go.Proofs.Ytekhmkfiepnnkaa
open Go.RowKit Go.Proofs.YtekhmkfiepnnkaaW.PrintWords

theorem rwrite_err {w : World} {ok : Nat → Prop} {p : Nat} {D : DM} {A : Option Addr} {n c : Nat} (i : Int) (h : RDisk w ok p D) (hr : ¬ D.ready i = 0) :
  Calls Try.prog 73 #[.pointer (some ⟨p, 0, none⟩), .int .i64 i, .slice A n c] w fun e w' => e = .returned (.int .i64 (D.ready i)) ∧ w = w' := by
  have hready := bad_any h i
  have hr2 : (D.ready i != 0) = true := by simp [hr]
  clear hr
  go_enter Try.func73, Try.ntmps73
  go_wp2_with (go_at_call 87; refine hready.mono ?_; rintro e w' ⟨rfl, rfl⟩)
  go_ret
  exact ⟨rfl, rfl⟩
theorem rwrite_len {w : World} {ok : Nat → Prop} {p : Nat} {D : DM} {A : Option Addr} {n c : Nat} (i : Int) (h : RDisk w ok p D) (hr : D.ready i = 0) (hn : ¬ n = 64) :
  Calls Try.prog 73 #[.pointer (some ⟨p, 0, none⟩), .int .i64 i, .slice A n c] w fun e w' => e = .returned (.int .i64 1) ∧ w = w' := by
  have hready := bad_any h i
  rw [hr] at hready
  have hx3 : ((n : Int) != 64) = true := by simp; omega
  clear hr
  go_enter Try.func73, Try.ntmps73
  go_wp2_with (go_at_call 87; refine hready.mono ?_; rintro e w' ⟨rfl, rfl⟩)
  go_ret
  exact ⟨rfl, rfl⟩
theorem rwrite_gone {w : World} {ok : Nat → Prop} {p : Nat} {D : DM} {A : Option Addr} {c : Nat} (i : Int) (h : RDisk w ok p D) (hr : D.ready i = 0) (hl : D.left = 0) :
  Calls Try.prog 73 #[.pointer (some ⟨p, 0, none⟩), .int .i64 i, .slice A 64 c] w fun e w' => e = .returned (.int .i64 61) ∧ w' = w.setCell ⟨p, 1, none⟩ (.bool true) := by
  have hready := bad_any h i
  rw [hr] at hready
  obtain ⟨hwf, g, cap, wv, hb⟩ := h
  have c1 := hb.cell1
  have c2 := hb.cell2
  have z1 := hb.free 1
  rw [hl] at c2
  clear hr hl
  go_enter Try.func73, Try.ntmps73
  go_wp2_with (go_at_call 87; refine hready.mono ?_; rintro e w' ⟨rfl, rfl⟩)
  go_ret
  exact ⟨rfl, rfl⟩
theorem rwrite_any {w : World} {ok okb : Nat → Prop} {p : Nat} {D : DM} {A : Option Addr} {c : Nat} {xs : List Int} (i : Int) (h : RDisk w ok p D) (hF : RB w okb A xs) (hne : apart okb ok) (hB : Bytes xs)
    (hm : (D.ws.length + 1) * 32 ≤ 140737488355328) :
  Calls Try.prog 73 #[.pointer (some ⟨p, 0, none⟩), .int .i64 i, .slice A xs.length c] w fun e w' => e = .returned (.int .i64 (D.writeE i xs)) ∧ RDisk w' (orNew ok w) p (D.writeD i xs) ∧ Chg ok w w' := by
  by_cases hr : D.ready i = 0
  · by_cases hx : xs.length = 64
    · by_cases hl : D.left = 0
      · have e1 : D.writeE i xs = 61 := by unfold DM.writeE; rw [if_neg (by rw [hr]; simp), if_neg (by rw [hx]; simp), if_pos hl]
        have e2 : D.writeD i xs = { D with gone := true } := by unfold DM.writeD; rw [if_neg (by rw [hr]; simp), if_neg (by rw [hx]; simp), if_pos hl]
        rw [e1, e2, hx]
        refine (rwrite_gone i h hr hl).mono ?_
        rintro e w' ⟨rfl, rfl⟩
        obtain ⟨hwf, g, cap, wv, hb⟩ := h
        exact ⟨rfl, ⟨⟨hwf.len, hwf.lo, hwf.hi, hwf.l1, hwf.l2, hwf.bytes, hwf.wsB⟩, g, cap, wv, (hb.setGone true).mono (fun _ h => .inl h)⟩, (Chg.refl ok w).setCell (.inl hb.okp) _⟩
      · have hi : 0 ≤ i ∧ i < D.n := by
          simp only [DM.ready] at hr
          split at hr
          · simp at hr
          · split at hr
            · simp at hr
            · omega
        obtain ⟨j, rfl⟩ := Int.eq_ofNat_of_zero_le hi.1
        cases A with
        | none => rw [RB_none hF] at hx; simp at hx
        | some a =>
          have e1 : D.writeE j xs = 0 := by unfold DM.writeE; rw [if_neg (by rw [hr]; simp), if_neg (by rw [hx]; simp), if_neg hl]
          rw [e1]
          exact rwrite_ok j h hF hne hr (by omega) hx hB hl hm
    · have e1 : D.writeE i xs = 1 := by unfold DM.writeE; rw [if_neg (by rw [hr]; simp), if_pos hx]
      have e2 : D.writeD i xs = D := by unfold DM.writeD; rw [if_neg (by rw [hr]; simp), if_pos hx]
      rw [e1, e2]
      refine (rwrite_len i h hr hx).mono ?_
      rintro e w' ⟨rfl, rfl⟩
      exact ⟨rfl, h.mono (fun _ h => .inl h), Chg.refl ok w⟩
  · have e1 : D.writeE i xs = D.ready i := by unfold DM.writeE; rw [if_pos hr]
    have e2 : D.writeD i xs = D := by unfold DM.writeD; rw [if_pos hr]
    rw [e1, e2]
    refine (rwrite_err i h hr).mono ?_
    rintro e w' ⟨rfl, rfl⟩
    exact ⟨rfl, h.mono (fun _ h => .inl h), Chg.refl ok w⟩

end Go.Proofs.Ytekhmkfiepnnkaa

/- The document's seal over its disk: asked, GenBelow, Gen. -/
set_option linter.unusedVariables false
set_option linter.unusedSimpArgs false
namespace Go.Proofs.Ytekhmkfiepnnkaa
open Go.RowKit Go.Proofs.YtekhmkfiepnnkaaW.PrintWords Go.Proofs.YtekhmkfiepnnkaaW.PrintMore

theorem rdead_any {w : World} {ok : Nat → Prop} {p : Nat} {D : DM} (h : RDisk w ok p D) :
  Calls Try.prog 89 #[.pointer (some ⟨p, 0, none⟩)] w fun e w' => e = .returned (.bool D.gone) ∧ w = w' := by
  obtain ⟨hwf, g, cap, wv, hb⟩ := h
  have c1 := hb.cell1
  go_enter Try.func89, Try.ntmps89
  go_wp2
  go_ret
  exact ⟨rfl, rfl⟩
theorem asked_nil {w : World} (base end_ : Int) : Calls Try.prog 84 #[.pointer none, .int .i64 base, .int .i64 end_] w fun e w' => e = .returned (.int .i64 2) ∧ w = w' := by
  go_enter Try.func84, Try.ntmps84
  go_wp2
  go_ret
  exact ⟨rfl, rfl⟩
theorem asked_any {w : World} {ok : Nat → Prop} {p : Nat} {D : DM} (h : RDisk w ok p D) (base end_ : Int) :
  Calls Try.prog 84 #[.pointer (some ⟨p, 0, none⟩), .int .i64 base, .int .i64 end_] w fun e w' => e = .returned (.int .i64 (regE D base end_)) ∧ w = w' := by
  have hb := rdblocks_any h
  have hd := rdead_any h
  unfold regE
  generalize D.n = n at hb ⊢
  generalize D.gone = gg at hd ⊢
  by_cases h1 : base < 0
  · rw [if_pos (.inl h1)]
    go_enter Try.func84, Try.ntmps84
    go_wp2
    go_ret
    exact ⟨rfl, rfl⟩
  · by_cases h2 : end_ < base
    · rw [if_pos (.inr (.inl h2))]
      go_enter Try.func84, Try.ntmps84
      go_wp2
      go_ret
      exact ⟨rfl, rfl⟩
    · by_cases h3 : (n : Int) < end_
      · rw [if_pos (.inr (.inr h3))]
        go_enter Try.func84, Try.ntmps84
        go_wp2_with fail
        refine hb.mono ?_
        rintro e w' ⟨rfl, rfl⟩
        go_wp2
        go_ret
        exact ⟨rfl, rfl⟩
      · rw [if_neg (by omega)]
        cases gg with
        | true =>
          rw [if_pos rfl]
          go_enter Try.func84, Try.ntmps84
          go_wp2_with fail
          refine hb.mono ?_
          rintro e w' ⟨rfl, rfl⟩
          go_wp2_with fail
          refine hd.mono ?_
          rintro e w' ⟨rfl, rfl⟩
          go_wp2
          go_ret
          exact ⟨rfl, rfl⟩
        | false =>
          rw [if_neg (by simp)]
          go_enter Try.func84, Try.ntmps84
          go_wp2_with fail
          refine hb.mono ?_
          rintro e w' ⟨rfl, rfl⟩
          go_wp2_with fail
          refine hd.mono ?_
          rintro e w' ⟨rfl, rfl⟩
          go_wp2
          go_ret
          exact ⟨rfl, rfl⟩
theorem genBelow_err {w : World} {ok : Nat → Prop} {p : Nat} {D : DM} (h : RDisk w ok p D) (base end_ : Int) (he : ¬ regE D base end_ = 0) :
  Calls Try.prog 86 #[.pointer (some ⟨p, 0, none⟩), .int .i64 base, .int .i64 end_, .int .u64 18446744073709551615] w fun e w' => e = .returned (.tuple #[.int .u64 0, .int .i64 (regE D base end_)]) ∧ w = w' := by
  have hr := asked_any h base end_
  generalize regE D base end_ = E at he hr ⊢
  have he2 : (E != 0) = true := by simpa using he
  go_enter Try.func86, Try.ntmps86
  go_wp2_with fail
  refine hr.mono ?_
  rintro e w' ⟨rfl, rfl⟩
  go_wp2
  go_ret2
  exact ⟨rfl, rfl⟩
theorem genBelow_nil {w : World} (base end_ : Int) :
  Calls Try.prog 86 #[.pointer none, .int .i64 base, .int .i64 end_, .int .u64 18446744073709551615] w fun e w' => e = .returned (.tuple #[.int .u64 0, .int .i64 2]) ∧ w = w' := by
  go_enter Try.func86, Try.ntmps86
  go_wp2_with fail
  refine (asked_nil _ _).mono ?_
  rintro e w' ⟨rfl, rfl⟩
  go_wp2
  go_ret2
  exact ⟨rfl, rfl⟩
theorem head_not_body {b : List Int} (h : headOK b) : (bodyV b).1 = 0 := by
  have h2 := h.2.1
  unfold bodyV
  rw [if_neg (fun hb => by have h3 := hb.2.1; rw [h2] at h3; simp at h3)]
theorem not_head {b : List Int} (h : ¬ headOK b) : (headR b).gen = 0 := by rw [(head_no h).1]
set_option maxRecDepth 100000 in
set_option maxHeartbeats 2000000 in
theorem genBelow_ok {w : World} {ok : Nat → Prop} {p : Nat} {D : DM} (h : RDisk w ok p D) (b m : Nat) (hg : D.gone = false) (hm : b + m ≤ D.n) :
  Calls Try.prog 86 #[.pointer (some ⟨p, 0, none⟩), .int .i64 (b : Nat), .int .i64 (b + m : Nat), .int .u64 18446744073709551615] w fun e w' => e = .returned (.tuple #[.int .u64 (genK D b m), .int .i64 0]) ∧ Below w.heap.size w w' := by
  have hr := asked_any h (b : Int) ((b + m : Nat) : Int)
  rw [show regE D (b : Int) ((b + m : Nat) : Int) = 0 from by unfold regE; rw [if_neg (by omega), if_neg (by simp [hg])]] at hr
  have hn := h.1.hi
  obtain ⟨n, hnn⟩ : ∃ n, b + m = n := ⟨_, rfl⟩
  rw [hnn] at hr ⊢
  have hn9 : n ≤ 4096 := by omega
  have HN := hid hnn
  go_enter Try.func86, Try.ntmps86
  go_wp2_with fail
  refine hr.mono ?_
  rintro e w' ⟨rfl, rfl⟩
  clear hr
  go_wp2_with fail
  go_loopw [11, 12] (fun v i wr => ∃ j : Nat, b ≤ j ∧ j ≤ n ∧ i = .int .i64 j ∧ v = .int .u64 (genK D b (j - b)) ∧ Below w.heap.size w wr) (fun _ i _ => n - (intOf i).toNat)
  case atStart => exact ⟨b, Nat.le_refl _, by omega, rfl, by rw [Nat.sub_self]; rfl, Below.refl _ _⟩
  case round =>
    obtain ⟨j, hbj, hj, rfl, rfl, hB⟩ := hrel
    by_cases hlt : j < n
    · have hPD := h.step (w1 := wr) (fun k _ hk => hB.block k hk)
      have hrd := rread_ok j hPD (ready_in hg (by omega)) (by omega)
      have hl := blk_length h.1 (i := j) (by omega)
      have hbb := blk_bytes h.1 j
      have hk0 := genK_lt h.1 b (j - b)
      have hk1 := headR_gen hbb
      have hk2 := bodyV_gen hbb
      have hnext : genK D b (j + 1 - b) = max (max (genK D b (j - b)) (headR (D.blk j)).gen) (bodyV (D.blk j)).1 := by
        rw [show j + 1 - b = (j - b) + 1 from by omega]
        simp only [genK]
        rw [show b + (j - b) = j from by omega]
      have HX := hid hnext
      clear hnext hnn
      have hlw : (j : Int) < (n : Int) := by omega
      have HL := hid hl
      clear hl
      have hn1 := fun hh : headOK (D.blk j) => head_not_body hh
      have hn2 := fun hh : ¬ headOK (D.blk j) => not_head hh
      have HNN := hid (And.intro hn1 hn2)
      clear hn1 hn2
      go_wp2_with fail
      refine hrd.mono ?_
      rintro e w1 ⟨A1, c1, rfl, hR1, b1⟩
      obtain ⟨h64, hRB⟩ := R_RB hR1
      have hc1 : 64 ≤ c1 := (Kd.R_reads' hR1).2.1
      have hB1 : Below w.heap.size w w1 := below_step hB b1
      clear hrd hPD hR1 b1 h64
      have hh := fhead_any (c := c1) hRB hbb (by rw [HL.out]; omega)
      rw [HL.out] at hh
      go_wp2_with fail
      refine hh.mono ?_
      rintro e w2 ⟨A, c, rfl, hRB2, hle, hB2⟩
      clear hh
      have hbd : ∀ W, Below w1.heap.size w1 W → Calls Try.prog 17 #[.slice A1 64 c1] W fun e w' => e = .returned (.tuple #[.int .u64 (bodyV (D.blk j)).1, .int .i64 (bodyV (D.blk j)).2.1, .int .i64 (bodyV (D.blk j)).2.2.1, .bool (bodyV (D.blk j)).2.2.2]) ∧ Below W.heap.size W w' := fun W hW => by
        have := fbody_any (c := c1) (RB_below hRB hW) hbb (by rw [HL.out]; omega)
        rw [HL.out] at this
        exact this
      unfold recV
      generalize headR (D.blk j) = R at hk1 HX hRB2 hle HNN ⊢
      generalize headN (D.blk j) = N
      by_cases hok : headOK (D.blk j)
      · have e0 := HNN.out.1 hok
        rw [decide_eq_true hok]
        rw [e0] at HX
        generalize bodyV (D.blk j) = V at hbd hk2 HX HNN e0
        obtain ⟨rg, ra, rk, rb⟩ := R
        dsimp only at hk1 HX hle ⊢
        have hBn : Below w.heap.size w (w2.alloc (.cells #[.int .u64 rg, .int .i64 ra, .int .i64 rk, .slice A rb.length c] 28)) := below_alloc (below_step hB1 hB2) _
        have HB := hid hBn
        clear hbd hB2 hB1 hRB hRB2 hBn HNN e0
        by_cases hgt : genK D b (j - b) < rg
        · have hle2 : rg ≤ 18446744073709551615 := by omega
          go_wp2
          go_roundw
          case rel => exact ⟨j + 1, by omega, by omega, by go_num, by rw [HX.out]; congr 1; omega, HB.out⟩
          case measure => simp [intOf]; omega
        · go_wp2
          go_roundw
          case rel => exact ⟨j + 1, by omega, by omega, by go_num, by rw [HX.out]; congr 1; omega, HB.out⟩
          case measure => simp [intOf]; omega
      · have e0 := HNN.out.2 hok
        rw [decide_eq_false hok]
        rw [e0] at HX
        generalize bodyV (D.blk j) = V at hbd hk2 HX HNN
        obtain ⟨rg, ra, rk, rb⟩ := R
        obtain ⟨vg, va, vk, vi⟩ := V
        dsimp only at hk1 hk2 hbd HX hle ⊢
        have hB2' : Below w1.heap.size w1 (w2.alloc (.cells #[.int .u64 rg, .int .i64 ra, .int .i64 rk, .slice A rb.length c] 28)) := below_alloc hB2 _
        clear HNN e0
        go_wp2_with fail
        refine (hbd _ hB2').mono ?_
        rintro e w3 ⟨rfl, hB3⟩
        have hBn : Below w.heap.size w w3 := hB1.trans ((hB2'.trans (hB3.mono hB2'.size)).mono hB1.size)
        have HB := hid hBn
        clear hbd hB2' hB3 hB2 hB1 hRB hRB2 hBn
        by_cases hgt : genK D b (j - b) < vg
        · have hle2 : vg ≤ 18446744073709551615 := by omega
          go_wp2
          go_roundw
          case rel => exact ⟨j + 1, by omega, by omega, by go_num, by rw [HX.out]; congr 1; omega, HB.out⟩
          case measure => simp [intOf]; omega
        · go_wp2
          go_roundw
          case rel => exact ⟨j + 1, by omega, by omega, by go_num, by rw [HX.out]; congr 1; omega, HB.out⟩
          case measure => simp [intOf]; omega
    · obtain rfl : j = n := by omega
      have hjb : j - b = m := by have := HN.out; omega
      rw [hjb]
      go_wp2
      go_ret2
      exact ⟨rfl, hB⟩
theorem rgen_nil {w : World} (base end_ : Int) :
  Calls Try.prog 72 #[.pointer none, .int .i64 base, .int .i64 end_] w fun e w' => e = .returned (.tuple #[.int .u64 0, .int .i64 2]) ∧ Below w.heap.size w w' := by
  go_enter Try.func72, Try.ntmps72
  go_wp2_with fail
  refine (genBelow_nil _ _).mono ?_
  rintro e w' ⟨rfl, rfl⟩
  go_wp2
  go_ret2
  exact ⟨rfl, Below.refl _ _⟩
theorem rgen_any {w : World} {ok : Nat → Prop} {p : Nat} {D : DM} (h : RDisk w ok p D) (base end_ : Int) :
  Calls Try.prog 72 #[.pointer (some ⟨p, 0, none⟩), .int .i64 base, .int .i64 end_] w fun e w' => e = .returned (.tuple #[.int .u64 (genM D base end_), .int .i64 (regE D base end_)]) ∧ Below w.heap.size w w' := by
  by_cases he : regE D base end_ = 0
  · obtain ⟨h1, h2, h3, h4⟩ := regE_ok he
    obtain ⟨b, rfl⟩ := Int.eq_ofNat_of_zero_le h1
    obtain ⟨m, hm⟩ := Int.eq_ofNat_of_zero_le (show 0 ≤ end_ - b from by omega)
    obtain rfl : end_ = ((b + m : Nat) : Int) := by omega
    have hgm : genM D (b : Int) ((b + m : Nat) : Int) = genK D b m := by
      unfold genM
      rw [if_pos he]
      congr 1
      omega
    have hc := genBelow_ok h b m h4 (by omega)
    rw [hgm, he]
    generalize genK D b m = G at hc ⊢
    go_enter Try.func72, Try.ntmps72
    go_wp2_with fail
    refine hc.mono ?_
    rintro e w' ⟨rfl, hB⟩
    go_wp2
    go_ret2
    exact ⟨rfl, hB⟩
  · have hgm : genM D base end_ = 0 := by unfold genM; rw [if_neg he]
    have hc := genBelow_err h base end_ he
    rw [hgm]
    generalize regE D base end_ = E at hc ⊢
    go_enter Try.func72, Try.ntmps72
    go_wp2_with fail
    refine hc.mono ?_
    rintro e w' ⟨rfl, rfl⟩
    go_wp2
    go_ret2
    exact ⟨rfl, Below.refl _ _⟩
end Go.Proofs.Ytekhmkfiepnnkaa

/- The document's Write (foundryref22). -/
set_option linter.unusedVariables false
set_option linter.unusedSimpArgs false
namespace Go.Proofs.Ytekhmkfiepnnkaa
open Go.RowKit Go.Proofs.YtekhmkfiepnnkaaW.PrintWords Go.Proofs.YtekhmkfiepnnkaaW.PrintMore

/-- One of the rows that Blocks hands out. -/
theorem N_row {w : World} {base c n : Nat} {ok : Nat → Prop} {A : Option Addr} {l : List (List Int)} (h : Kd.N (Kd.slice 5 KB) 22 w base ok (.slice A n c) l) {i : Nat} {xs : List Int} (hi : l[i]? = some xs) :
    ∃ g A' c', A = some ⟨g, 0, none⟩ ∧ w.cell? ⟨g, i, none⟩ = some (.slice A' xs.length c') ∧ xs.length ≤ c' ∧ RB w ok A' xs ∧ ok g := by
  have hl := (List.getElem?_eq_some_iff.1 hi).1
  have hn := (Kd.N_reads' h).1
  obtain ⟨g, cap, hv, _⟩ := Kd.N_form h (by omega)
  injection hv with e1 e2 e3
  subst e1
  obtain ⟨cs, hcl, hK, hcc, _⟩ := Kd.N_elem h [] (i : Int) (by omega) (by omega)
  simp only [Int.toNat_natCast] at hK hcc
  have hget : l.getD i [] = xs := by simp [List.getD_eq_getElem?_getD, hi]
  rw [hget] at hK
  obtain ⟨A', c', rfl, hle, hF⟩ := Kd.FK_slice_open hK
  have h2 := hcc 0 _ rfl
  have hsz : (Kd.slice 5 KB).sz = 1 := rfl
  rw [hsz, Nat.mul_one] at h2
  exact ⟨g, A', c', rfl, by simpa using h2, hle, Kd.F_mono hF (fun k hk => hk.1), h.1 g rfl⟩
theorem rwnil_any {w : World} {A : Option Addr} {c : Nat} (base : Int) (r : SR) :
  Calls Try.prog 70 #[.pointer none, .int .i64 base, recV r A c] w fun e w' => e = .returned (.int .i64 2) ∧ Below w.heap.size w w' := by
  have hb := below_alloc (Below.refl w.heap.size w) (.cells #[.int .u64 r.gen, .int .i64 r.at_, .int .i64 r.kind, .slice A r.bytes.length c] 28)
  unfold recV
  go_enter Try.func70, Try.ntmps70
  go_wp2
  go_ret
  exact ⟨rfl, hb⟩
theorem rwerr_any {w : World} {okd okr : Nat → Prop} {D : DM} {A : Option Addr} {c : Nat} (p : Nat) (base : Int) (r : SR) (_h : RDisk w okd p D) (hF : RB w okr A r.bytes) (hl : r.bytes.length ≤ c)
    (hb : Bytes r.bytes) (hg : 0 ≤ r.gen ∧ r.gen < 18446744073709551616) (he : ¬ sealE r = 0) :
  Calls Try.prog 70 #[.pointer (some ⟨p, 0, none⟩), .int .i64 base, recV r A c] w fun e w' => e = .returned (.int .i64 (sealE r)) ∧ Below w.heap.size w w' := by
  have hb0 := below_alloc (Below.refl w.heap.size w) (.cells #[.int .u64 r.gen, .int .i64 r.at_, .int .i64 r.kind, .slice A r.bytes.length c] 28)
  have hc := rblocks_any r (Kd.C_below (Kd.F_now hF) hb0) hl hg hb
  unfold recV at hc ⊢
  have he2 : (sealE r != 0) = true := by simpa using he
  generalize sealE r = E at hc he2 ⊢
  clear he
  go_enter Try.func70, Try.ntmps70
  go_wp2_with fail
  refine hc.mono ?_
  rintro e w1 ⟨v, rfl, _, b1⟩
  have hB := hb0.trans (b1.mono hb0.size)
  clear hc b1 hb0
  go_wp2
  go_ret
  exact ⟨rfl, hB⟩
theorem puts_one (b0 : Int) (D : DM) (x : Int × List Int) : puts b0 D [x] = (D.writeD (b0 + x.1) x.2, D.writeE (b0 + x.1) x.2) := by
  simp only [puts]
  split
  · rename_i h; rw [h]
  · rfl
theorem bodyL_succ (r : SR) (m : Nat) : bodyL r (m + 1) = bodyL r m ++ [((m : Int) + 1, bodyB r (m + 1))] := by unfold bodyL; rw [List.range_succ, List.map_append]; rfl
theorem bodyL_len (r : SR) (m : Nat) : (bodyL r m).length = m := by simp [bodyL]
/-- Writes so far, the disk and the error. -/
def putK (D : DM) (b0 : Int) (r : SR) (m : Nat) : DM × Int := puts b0 D (bodyL r m)
theorem putK_succ (D : DM) (b0 : Int) (r : SR) (m : Nat) (h : (putK D b0 r m).2 = 0) : putK D b0 r (m + 1) = ((putK D b0 r m).1.writeD (b0 + ((m : Int) + 1)) (bodyB r (m + 1)), (putK D b0 r m).1.writeE (b0 + ((m : Int) + 1)) (bodyB r (m + 1))) := by
  unfold putK at *
  rw [bodyL_succ, puts_append, if_pos h, puts_one]
theorem putK_stop (D : DM) (b0 : Int) (r : SR) {m : Nat} (hm : m ≤ bodies r) (h : ¬ (putK D b0 r m).2 = 0) : puts b0 D (order r) = putK D b0 r m := by
  have e : order r = bodyL r m ++ (order r).drop m := by rw [← order_take r hm, List.take_append_drop]
  rw [e, puts_append]
  unfold putK at *
  rw [if_neg h]
theorem putK_all (D : DM) (b0 : Int) (r : SR) (h : (putK D b0 r (bodies r)).2 = 0) : puts b0 D (order r) = ((putK D b0 r (bodies r)).1.writeD b0 (headB r), (putK D b0 r (bodies r)).1.writeE b0 (headB r)) := by
  have e : order r = bodyL r (bodies r) ++ [(0, headB r)] := rfl
  rw [e, puts_append]
  unfold putK at *
  rw [if_pos h, puts_one, Int.add_zero]
theorem puts_ws (b0 : Int) : ∀ (l : List (Int × List Int)) (D : DM), (puts b0 D l).1.ws.length ≤ D.ws.length + l.length
  | [], D => by simp [puts]
  | x :: l, D => by
    have hw : (D.writeD (b0 + x.1) x.2).ws.length ≤ D.ws.length + 1 := by
      unfold DM.writeD
      split
      · omega
      · split
        · omega
        · split
          · exact Nat.le_succ _
          · simp
    simp only [puts]
    split
    · have := puts_ws b0 l (D.writeD (b0 + x.1) x.2)
      simp only [List.length_cons]; omega
    · simp only [List.length_cons]; omega
theorem upB_get0 (r : SR) (n : Nat) : (upB r n)[0]? = some (headB r) := rfl
theorem upB_get (r : SR) {n i : Nat} (hi : i < n) : (upB r n)[i + 1]? = some (bodyB r (i + 1)) := by simp [upB, hi]
set_option maxRecDepth 100000 in
set_option maxHeartbeats 4000000 in
theorem rwrite22_any {w : World} {okd okr : Nat → Prop} {D : DM} {A : Option Addr} {c : Nat} (p : Nat) (base : Int) (r : SR) (h : RDisk w okd p D) (hF : RB w okr A r.bytes) (hl : r.bytes.length ≤ c)
    (hb : Bytes r.bytes) (hg : 0 ≤ r.gen ∧ r.gen < 18446744073709551616) (hb9 : -9223372036854775808 ≤ base ∧ base ≤ 9223372036854775807) (hm : (D.ws.length + 65537) * 32 ≤ 140737488355328) :
  Calls Try.prog 70 #[.pointer (some ⟨p, 0, none⟩), .int .i64 base, recV r A c] w fun e w' => e = .returned (.int .i64 (D.sealW base r).2) ∧ RDisk w' (orNew okd w) p (D.sealW base r).1 ∧ Chg okd w w' := by
  unfold DM.sealW
  by_cases he : sealE r = 0
  case neg =>
    rw [if_pos he]
    refine (rwerr_any p base r h hF hl hb hg he).mono ?_
    rintro e w' ⟨rfl, hB⟩
    exact ⟨rfl, (h.bound.step (fun k hk hlt => hB.block k hlt)).mono (fun k hk => .inl hk.1), Chg.of_below hB _⟩
  rw [if_neg (by simp [he])]
  have hr := right_of he hg hb
  have hnd := need_bodies hr.l
  have hbl := bodies_le hr
  have hat := hr.a
  have hnn := h.1.hi
  rw [hnd]
  have hb0 := below_alloc (Below.refl w.heap.size w) (.cells #[.int .u64 r.gen, .int .i64 r.at_, .int .i64 r.kind, .slice A r.bytes.length c] 28)
  have hn0 := heap_alloc_new w (.cells #[.int .u64 r.gen, .int .i64 r.at_, .int .i64 r.kind, .slice A r.bytes.length c] 28)
  have hc := rblocks_any r (Kd.C_below (Kd.F_now hF) hb0) hl hg hb
  have hbL : blkL r = upB r (bodies r) := by unfold blkL; rw [if_pos he, upB_all]
  rw [hbL, he] at hc
  have hlen := upB_len r (bodies r)
  have hg0 := upB_get0 r (bodies r)
  have hgk := fun i (hi : i < bodies r) => upB_get r hi
  unfold recV at hc ⊢
  generalize upB r (bodies r) = L at hc hlen hg0 hgk
  have HL := hid (And.intro hlen (And.intro hg0 hgk))
  clear hlen hg0 hgk hbL hnd
  obtain ⟨BN, hBN⟩ : ∃ BN, bodies r = BN := ⟨_, rfl⟩
  have HBN := hid hBN
  have hsw : sealE r = 0 := he
  rw [hBN] at hbl ⊢
  obtain ⟨X, hX⟩ : ∃ X, (if base < 0 ∨ (D.n : Int) < base ∨ (D.n : Int) - base < r.at_ + ((BN : Int) + 1) then (D, (60 : Int)) else puts (base + r.at_) D (order r)) = X := ⟨_, rfl⟩
  rw [hX]
  have HX := hid hX
  clear hX hBN he hsw
  go_enter Try.func70, Try.ntmps70
  go_wp2_with fail
  generalize w.alloc (.cells #[.int .u64 r.gen, .int .i64 r.at_, .int .i64 r.kind, .slice A r.bytes.length c] 28) = w0 at hb0 hn0 hc ⊢
  refine hc.mono ?_
  rintro e w6 ⟨v6, rfl, hN6, b6⟩
  have hwb6 : Below w.heap.size w w6 := hb0.trans (b6.mono hb0.size)
  have hR6 := h.bound.step (w1 := w6) (fun k _ hk => hwb6.block k hk)
  have hn6 := (b6.block _ (blk_lt hn0)).trans hn0
  obtain ⟨A6, c6, rfl⟩ := Kd.N_slice hN6
  have hN6b := Kd.N_bound hN6
  have hws0 : w.heap.size < w0.heap.size := blk_lt hn0
  have hs06 := b6.size
  clear hc hN6 b6 hn0 hb0 h hF
  have k1 : w6.cell? ⟨w.heap.size, 1, none⟩ = some (.int .i64 r.at_) := by have := cell_of_row _ _ 1 _ _ _ hn6; simpa using this
  have hbk := rdblocks_any (w := w6.drew) (hR6.step (fun _ _ _ => rfl))
  have HLL := hid (show L.length = BN + 1 by rw [HL.out.1, HBN.out])
  have hL9 : L.length ≤ 65535 := by have := HLL.out; omega
  have hfin0 : RDisk w6 (orNew okd w) p D ∧ Chg okd w w6 := ⟨hR6.mono (fun k hk => .inl hk.1), Chg.of_below hwb6 _⟩
  have HF0 := hid hfin0
  have HFN := hid (show ∀ (W : World) (D1 : DM), RDisk W (orNew (fun k => okd k ∧ k < w.heap.size) w6) p D1 → Chg (fun k => okd k ∧ k < w.heap.size) w6 W → RDisk W (orNew okd w) p D1 ∧ Chg okd w W from fun W D1 h1 h2 =>
    ⟨h1.mono (fun k hk => hk.elim (fun h => .inl h.1) (fun h => .inr (Nat.le_trans hwb6.size h))), (Chg.of_below hwb6 okd).then_ h2 (fun k hk => .inl hk.1)⟩)
  have HK := hid (And.intro hR6 (And.intro hn6 (And.intro hN6b hwb6)))
  clear hR6 hn6 hN6b hwb6 hfin0
  obtain ⟨nD, hnD⟩ : ∃ nD, D.n = nD := ⟨_, rfl⟩
  rw [hnD] at hbk hnn
  have HD := hid hnD
  clear hnD
  by_cases x1 : base < 0
  · go_wp2_with fail
    refine wp_region_plan [] (.take 0 (.take 1 (.take 2 (.take 3 (.take 4 (.run 5 (.take 6 (.take 7 (.take 8 (.take 9 (.take 10 (.take 11 (.take 12 (.take 13 (.take 14 (.take 15 (.take 16 (.run 17 (.take 18 (.take 19 .done)))))))))))))))))))) (fun w' => w'.cell? ⟨w.heap.size, 1, none⟩ = some (.int .i64 r.at_)) (by kernel_rfl) (by kernel_rfl) (fun c a d v w h => by cases d <;> exact h) k1 ?_
    ((first | (apply plan_take rfl rfl; (case hy => (intro w' hS; have s1 := hS; clear hS; go_simp; try exact rfl))) | refine plan_skip rfl rfl ?_); go_simp); ((first | (apply plan_take rfl rfl; (case hy => (intro w' hS; have s1 := hS; clear hS; go_simp; try exact rfl))) | refine plan_skip rfl rfl ?_); go_simp); ((first | (apply plan_take rfl rfl; (case hy => (intro w' hS; have s1 := hS; clear hS; go_simp; try exact rfl))) | refine plan_skip rfl rfl ?_); go_simp); ((first | (apply plan_take rfl rfl; (case hy => (intro w' hS; have s1 := hS; clear hS; go_simp; try exact rfl))) | refine plan_skip rfl rfl ?_); go_simp); ((first | (apply plan_take rfl rfl; (case hy => (intro w' hS; have s1 := hS; clear hS; go_simp; try exact rfl))) | refine plan_skip rfl rfl ?_); go_simp)
    refine plan_run_off rfl rfl k1 ?_
    go_simp
    ((first | (apply plan_take rfl rfl; (case hy => (intro w' hS; have s1 := hS; clear hS; go_simp; try exact rfl))) | refine plan_skip rfl rfl ?_); go_simp); ((first | (apply plan_take rfl rfl; (case hy => (intro w' hS; have s1 := hS; clear hS; go_simp; try exact rfl))) | refine plan_skip rfl rfl ?_); go_simp); ((first | (apply plan_take rfl rfl; (case hy => (intro w' hS; have s1 := hS; clear hS; go_simp; try exact rfl))) | refine plan_skip rfl rfl ?_); go_simp); ((first | (apply plan_take rfl rfl; (case hy => (intro w' hS; have s1 := hS; clear hS; go_simp; try exact rfl))) | refine plan_skip rfl rfl ?_); go_simp); ((first | (apply plan_take rfl rfl; (case hy => (intro w' hS; have s1 := hS; clear hS; go_simp; try exact rfl))) | refine plan_skip rfl rfl ?_); go_simp); ((first | (apply plan_take rfl rfl; (case hy => (intro w' hS; have s1 := hS; clear hS; go_simp; try exact rfl))) | refine plan_skip rfl rfl ?_); go_simp); ((first | (apply plan_take rfl rfl; (case hy => (intro w' hS; have s1 := hS; clear hS; go_simp; try exact rfl))) | refine plan_skip rfl rfl ?_); go_simp); ((first | (apply plan_take rfl rfl; (case hy => (intro w' hS; have s1 := hS; clear hS; go_simp; try exact rfl))) | refine plan_skip rfl rfl ?_); go_simp); ((first | (apply plan_take rfl rfl; (case hy => (intro w' hS; have s1 := hS; clear hS; go_simp; try exact rfl))) | refine plan_skip rfl rfl ?_); go_simp); ((first | (apply plan_take rfl rfl; (case hy => (intro w' hS; have s1 := hS; clear hS; go_simp; try exact rfl))) | refine plan_skip rfl rfl ?_); go_simp); ((first | (apply plan_take rfl rfl; (case hy => (intro w' hS; have s1 := hS; clear hS; go_simp; try exact rfl))) | refine plan_skip rfl rfl ?_); go_simp)
    refine plan_run_off rfl rfl k1 ?_
    go_simp
    ((first | (apply plan_take rfl rfl; (case hy => (intro w' hS; have s1 := hS; clear hS; go_simp; try exact rfl))) | refine plan_skip rfl rfl ?_); go_simp); ((first | (apply plan_take rfl rfl; (case hy => (intro w' hS; have s1 := hS; clear hS; go_simp; try exact rfl))) | refine plan_skip rfl rfl ?_); go_simp)
    refine plan_done ?_
    go_wp2
    go_ret
    have hx := HX.out
    rw [if_pos (.inl x1)] at hx
    rw [← hx]
    exact ⟨rfl, HF0.out.1.step (fun _ _ _ => rfl), HF0.out.2.drew⟩
  · have x1b : decide (base < 0) = false := decide_eq_false x1
    by_cases x2 : (nD : Int) < base
    · go_wp2_with fail
      refine wp_region_plan [] (.take 0 (.take 1 (.take 2 (.take 3 (.take 4 (.run 5 (.take 6 (.take 7 (.take 8 (.take 9 (.take 10 (.take 11 (.take 12 (.take 13 (.take 14 (.take 15 (.take 16 (.run 17 (.take 18 (.take 19 .done)))))))))))))))))))) (fun w' => w'.cell? ⟨w.heap.size, 1, none⟩ = some (.int .i64 r.at_)) (by kernel_rfl) (by kernel_rfl) (fun c a d v w h => by cases d <;> exact h) k1 ?_
      ((first | (apply plan_take rfl rfl; (case hy => (intro w' hS; have s1 := hS; clear hS; go_simp; try exact rfl))) | refine plan_skip rfl rfl ?_); go_simp); ((first | (apply plan_take rfl rfl; (case hy => (intro w' hS; have s1 := hS; clear hS; go_simp; try exact rfl))) | refine plan_skip rfl rfl ?_); go_simp); ((first | (apply plan_take rfl rfl; (case hy => (intro w' hS; have s1 := hS; clear hS; go_simp; try exact rfl))) | refine plan_skip rfl rfl ?_); go_simp); ((first | (apply plan_take rfl rfl; (case hy => (intro w' hS; have s1 := hS; clear hS; go_simp; try exact rfl))) | refine plan_skip rfl rfl ?_); go_simp); ((first | (apply plan_take rfl rfl; (case hy => (intro w' hS; have s1 := hS; clear hS; go_simp; try exact rfl))) | refine plan_skip rfl rfl ?_); go_simp)
      refine plan_run_on rfl rfl (fun K hK => ?_)
      go_simp
      refine hbk.mono ?_
      rintro e w' ⟨rfl, rfl⟩
      refine hK _ _ _ (fun _ h => h) k1 ?_
      clear hK K
      go_simp
      ((first | (apply plan_take rfl rfl; (case hy => (intro w' hS; have s1 := hS; clear hS; go_simp; try exact rfl))) | refine plan_skip rfl rfl ?_); go_simp); ((first | (apply plan_take rfl rfl; (case hy => (intro w' hS; have s1 := hS; clear hS; go_simp; try exact rfl))) | refine plan_skip rfl rfl ?_); go_simp); ((first | (apply plan_take rfl rfl; (case hy => (intro w' hS; have s1 := hS; clear hS; go_simp; try exact rfl))) | refine plan_skip rfl rfl ?_); go_simp); ((first | (apply plan_take rfl rfl; (case hy => (intro w' hS; have s1 := hS; clear hS; go_simp; try exact rfl))) | refine plan_skip rfl rfl ?_); go_simp); ((first | (apply plan_take rfl rfl; (case hy => (intro w' hS; have s1 := hS; clear hS; go_simp; try exact rfl))) | refine plan_skip rfl rfl ?_); go_simp); ((first | (apply plan_take rfl rfl; (case hy => (intro w' hS; have s1 := hS; clear hS; go_simp; try exact rfl))) | refine plan_skip rfl rfl ?_); go_simp); ((first | (apply plan_take rfl rfl; (case hy => (intro w' hS; have s1 := hS; clear hS; go_simp; try exact rfl))) | refine plan_skip rfl rfl ?_); go_simp); ((first | (apply plan_take rfl rfl; (case hy => (intro w' hS; have s1 := hS; clear hS; go_simp; try exact rfl))) | refine plan_skip rfl rfl ?_); go_simp); ((first | (apply plan_take rfl rfl; (case hy => (intro w' hS; have s1 := hS; clear hS; go_simp; try exact rfl))) | refine plan_skip rfl rfl ?_); go_simp); ((first | (apply plan_take rfl rfl; (case hy => (intro w' hS; have s1 := hS; clear hS; go_simp; try exact rfl))) | refine plan_skip rfl rfl ?_); go_simp); ((first | (apply plan_take rfl rfl; (case hy => (intro w' hS; have s1 := hS; clear hS; go_simp; try exact rfl))) | refine plan_skip rfl rfl ?_); go_simp)
      refine plan_run_off rfl rfl k1 ?_
      go_simp
      ((first | (apply plan_take rfl rfl; (case hy => (intro w' hS; have s1 := hS; clear hS; go_simp; try exact rfl))) | refine plan_skip rfl rfl ?_); go_simp); ((first | (apply plan_take rfl rfl; (case hy => (intro w' hS; have s1 := hS; clear hS; go_simp; try exact rfl))) | refine plan_skip rfl rfl ?_); go_simp)
      refine plan_done ?_
      go_wp2
      go_ret
      have hx := HX.out
      rw [HD.out, if_pos (.inr (.inl x2))] at hx
      rw [← hx]
      exact ⟨rfl, HF0.out.1.step (fun _ _ _ => rfl), HF0.out.2.drew⟩
    · have x2b : decide ((nD : Int) < base) = false := decide_eq_false x2
      obtain ⟨b0, hb0⟩ : ∃ b0, base + r.at_ = b0 := ⟨_, rfl⟩
      have hw1 : IntKind.i64.wrap (base + r.at_) = b0 := by rw [IntKind.wrap_i64]; omega
      have hw2 : IntKind.i64.wrap (b0 + (L.length : Int)) = b0 + (L.length : Int) := by rw [IntKind.wrap_i64]; omega
      have HB0 := hid hb0
      clear hb0
      by_cases x3 : (nD : Int) < b0 + (L.length : Int)
      · go_wp2_with fail
        refine wp_region_plan [] (.take 0 (.take 1 (.take 2 (.take 3 (.take 4 (.run 5 (.take 6 (.take 7 (.take 8 (.take 9 (.take 10 (.take 11 (.take 12 (.take 13 (.take 14 (.take 15 (.take 16 (.run 17 (.take 18 (.take 19 .done)))))))))))))))))))) (fun w' => w'.cell? ⟨w.heap.size, 1, none⟩ = some (.int .i64 r.at_)) (by kernel_rfl) (by kernel_rfl) (fun c a d v w h => by cases d <;> exact h) k1 ?_
        ((first | (apply plan_take rfl rfl; (case hy => (intro w' hS; have s1 := hS; clear hS; go_simp; try exact rfl))) | refine plan_skip rfl rfl ?_); go_simp); ((first | (apply plan_take rfl rfl; (case hy => (intro w' hS; have s1 := hS; clear hS; go_simp; try exact rfl))) | refine plan_skip rfl rfl ?_); go_simp); ((first | (apply plan_take rfl rfl; (case hy => (intro w' hS; have s1 := hS; clear hS; go_simp; try exact rfl))) | refine plan_skip rfl rfl ?_); go_simp); ((first | (apply plan_take rfl rfl; (case hy => (intro w' hS; have s1 := hS; clear hS; go_simp; try exact rfl))) | refine plan_skip rfl rfl ?_); go_simp); ((first | (apply plan_take rfl rfl; (case hy => (intro w' hS; have s1 := hS; clear hS; go_simp; try exact rfl))) | refine plan_skip rfl rfl ?_); go_simp)
        refine plan_run_on rfl rfl (fun K hK => ?_)
        go_simp
        refine hbk.mono ?_
        rintro e w' ⟨rfl, rfl⟩
        refine hK _ _ _ (fun _ h => h) k1 ?_
        clear hK K
        go_simp
        ((first | (apply plan_take rfl rfl; (case hy => (intro w' hS; have s1 := hS; clear hS; go_simp; try exact rfl))) | refine plan_skip rfl rfl ?_); go_simp); ((first | (apply plan_take rfl rfl; (case hy => (intro w' hS; have s1 := hS; clear hS; go_simp; try exact rfl))) | refine plan_skip rfl rfl ?_); go_simp); ((first | (apply plan_take rfl rfl; (case hy => (intro w' hS; have s1 := hS; clear hS; go_simp; try exact rfl))) | refine plan_skip rfl rfl ?_); go_simp); ((first | (apply plan_take rfl rfl; (case hy => (intro w' hS; have s1 := hS; clear hS; go_simp; try exact rfl))) | refine plan_skip rfl rfl ?_); go_simp); ((first | (apply plan_take rfl rfl; (case hy => (intro w' hS; have s1 := hS; clear hS; go_simp; try exact rfl))) | refine plan_skip rfl rfl ?_); go_simp); ((first | (apply plan_take rfl rfl; (case hy => (intro w' hS; have s1 := hS; clear hS; go_simp; try exact rfl))) | refine plan_skip rfl rfl ?_); go_simp); ((first | (apply plan_take rfl rfl; (case hy => (intro w' hS; have s1 := hS; clear hS; go_simp; try exact rfl))) | refine plan_skip rfl rfl ?_); go_simp); ((first | (apply plan_take rfl rfl; (case hy => (intro w' hS; have s1 := hS; clear hS; go_simp; try exact rfl))) | refine plan_skip rfl rfl ?_); go_simp); ((first | (apply plan_take rfl rfl; (case hy => (intro w' hS; have s1 := hS; clear hS; go_simp; try exact rfl))) | refine plan_skip rfl rfl ?_); go_simp); ((first | (apply plan_take rfl rfl; (case hy => (intro w' hS; have s1 := hS; clear hS; go_simp; try exact rfl))) | refine plan_skip rfl rfl ?_); go_simp); ((first | (apply plan_take rfl rfl; (case hy => (intro w' hS; have s1 := hS; clear hS; go_simp; try exact rfl))) | refine plan_skip rfl rfl ?_); go_simp)
        refine plan_run_on rfl rfl (fun K hK => ?_)
        go_simp
        refine hbk.mono ?_
        rintro e w' ⟨rfl, rfl⟩
        refine hK _ _ _ (fun _ h => h) k1 ?_
        clear hK K
        go_simp
        ((first | (apply plan_take rfl rfl; (case hy => (intro w' hS; have s1 := hS; clear hS; go_simp; try exact rfl))) | refine plan_skip rfl rfl ?_); go_simp); ((first | (apply plan_take rfl rfl; (case hy => (intro w' hS; have s1 := hS; clear hS; go_simp; try exact rfl))) | refine plan_skip rfl rfl ?_); go_simp)
        refine plan_done ?_
        go_wp2
        go_ret
        have hx := HX.out
        rw [HD.out, if_pos (by have := HLL.out; have := HB0.out; omega)] at hx
        rw [← hx]
        exact ⟨rfl, HF0.out.1.step (fun _ _ _ => rfl), HF0.out.2.drew⟩
      · have x3b : decide ((nD : Int) < b0 + (L.length : Int)) = false := decide_eq_false x3
        go_wp2_with fail
        refine wp_region_plan [] (.take 0 (.take 1 (.take 2 (.take 3 (.take 4 (.run 5 (.take 6 (.take 7 (.take 8 (.take 9 (.take 10 (.take 11 (.take 12 (.take 13 (.take 14 (.take 15 (.take 16 (.run 17 (.take 18 (.take 19 .done)))))))))))))))))))) (fun w' => w'.cell? ⟨w.heap.size, 1, none⟩ = some (.int .i64 r.at_)) (by kernel_rfl) (by kernel_rfl) (fun c a d v w h => by cases d <;> exact h) k1 ?_
        ((first | (apply plan_take rfl rfl; (case hy => (intro w' hS; have s1 := hS; clear hS; go_simp; try exact rfl))) | refine plan_skip rfl rfl ?_); go_simp); ((first | (apply plan_take rfl rfl; (case hy => (intro w' hS; have s1 := hS; clear hS; go_simp; try exact rfl))) | refine plan_skip rfl rfl ?_); go_simp); ((first | (apply plan_take rfl rfl; (case hy => (intro w' hS; have s1 := hS; clear hS; go_simp; try exact rfl))) | refine plan_skip rfl rfl ?_); go_simp); ((first | (apply plan_take rfl rfl; (case hy => (intro w' hS; have s1 := hS; clear hS; go_simp; try exact rfl))) | refine plan_skip rfl rfl ?_); go_simp); ((first | (apply plan_take rfl rfl; (case hy => (intro w' hS; have s1 := hS; clear hS; go_simp; try exact rfl))) | refine plan_skip rfl rfl ?_); go_simp)
        refine plan_run_on rfl rfl (fun K hK => ?_)
        go_simp
        refine hbk.mono ?_
        rintro e w' ⟨rfl, rfl⟩
        refine hK _ _ _ (fun _ h => h) k1 ?_
        clear hK K
        go_simp
        ((first | (apply plan_take rfl rfl; (case hy => (intro w' hS; have s1 := hS; clear hS; go_simp; try exact rfl))) | refine plan_skip rfl rfl ?_); go_simp); ((first | (apply plan_take rfl rfl; (case hy => (intro w' hS; have s1 := hS; clear hS; go_simp; try exact rfl))) | refine plan_skip rfl rfl ?_); go_simp); ((first | (apply plan_take rfl rfl; (case hy => (intro w' hS; have s1 := hS; clear hS; go_simp; try exact rfl))) | refine plan_skip rfl rfl ?_); go_simp); ((first | (apply plan_take rfl rfl; (case hy => (intro w' hS; have s1 := hS; clear hS; go_simp; try exact rfl))) | refine plan_skip rfl rfl ?_); go_simp); ((first | (apply plan_take rfl rfl; (case hy => (intro w' hS; have s1 := hS; clear hS; go_simp; try exact rfl))) | refine plan_skip rfl rfl ?_); go_simp); ((first | (apply plan_take rfl rfl; (case hy => (intro w' hS; have s1 := hS; clear hS; go_simp; try exact rfl))) | refine plan_skip rfl rfl ?_); go_simp); ((first | (apply plan_take rfl rfl; (case hy => (intro w' hS; have s1 := hS; clear hS; go_simp; try exact rfl))) | refine plan_skip rfl rfl ?_); go_simp); ((first | (apply plan_take rfl rfl; (case hy => (intro w' hS; have s1 := hS; clear hS; go_simp; try exact rfl))) | refine plan_skip rfl rfl ?_); go_simp); ((first | (apply plan_take rfl rfl; (case hy => (intro w' hS; have s1 := hS; clear hS; go_simp; try exact rfl))) | refine plan_skip rfl rfl ?_); go_simp); ((first | (apply plan_take rfl rfl; (case hy => (intro w' hS; have s1 := hS; clear hS; go_simp; try exact rfl))) | refine plan_skip rfl rfl ?_); go_simp); ((first | (apply plan_take rfl rfl; (case hy => (intro w' hS; have s1 := hS; clear hS; go_simp; try exact rfl))) | refine plan_skip rfl rfl ?_); go_simp)
        refine plan_run_on rfl rfl (fun K hK => ?_)
        go_simp
        refine hbk.mono ?_
        rintro e w' ⟨rfl, rfl⟩
        refine hK _ _ _ (fun _ h => h) k1 ?_
        clear hK K
        go_simp
        ((first | (apply plan_take rfl rfl; (case hy => (intro w' hS; have s1 := hS; clear hS; go_simp; try exact rfl))) | refine plan_skip rfl rfl ?_); go_simp); ((first | (apply plan_take rfl rfl; (case hy => (intro w' hS; have s1 := hS; clear hS; go_simp; try exact rfl))) | refine plan_skip rfl rfl ?_); go_simp)
        refine plan_done ?_
        have hx := HX.out
        rw [HD.out, if_neg (by have := HLL.out; have := HB0.out; omega), HB0.out] at hx
        have HX2 := hid hx
        clear hx HX
        have hb0r : 0 ≤ b0 ∧ b0 + (L.length : Int) ≤ nD := by have := HB0.out; omega
        clear hbk k1 hw2 x3
        go_wp2_with fail
        go_loopw [9] (fun i wr => ∃ j : Nat, j ≤ BN ∧ i = .int .i64 ((j : Int) + 1) ∧ (putK D b0 r j).2 = 0 ∧ RDisk wr (orNew (fun k => okd k ∧ k < w.heap.size) w6) p (putK D b0 r j).1 ∧ Chg (fun k => okd k ∧ k < w.heap.size) w6 wr) (fun i _ => BN + 1 - (intOf i).toNat)
        case atStart => exact ⟨0, Nat.zero_le _, rfl, rfl, (HK.out.1.mono (fun k hk => .inl hk)).step (fun _ _ _ => rfl), (Chg.refl _ _).drew⟩
        case round =>
          obtain ⟨j, hj, rfl, hp0, hRj, hch⟩ := hrel
          obtain ⟨hR6, hn6, hN6b, hwb6⟩ := HK.out
          have hNr := Kd.N_step hN6b (w1 := wr) (fun k hk hlt => hch.block k hlt (fun hs => by have h1 := hs.2; have h2 := hk.1; omega))
          have hnr := hch.old hn6 (fun hs => by have := hs.2; omega)
          have k1 : wr.cell? ⟨w.heap.size, 1, none⟩ = some (.int .i64 r.at_) := by have := cell_of_row _ _ 1 _ _ _ hnr; simpa using this
          have hws : (putK D b0 r j).1.ws.length ≤ D.ws.length + j := by have := puts_ws b0 (bodyL r j) D; rwa [bodyL_len] at this
          have hps := putK_succ D b0 r j hp0
          have hall := putK_all D b0 r
          have hst := putK_stop D b0 r (m := j + 1)
          rw [HBN.out] at hall hst
          by_cases hlt : j < BN
          · have hltI : (j : Int) + 1 < (L.length : Int) := by have := HLL.out; omega
            obtain ⟨g, A7, c7, rfl, hd1, hd2, hd3, hd4⟩ := N_row hNr (HL.out.2.2 j (by rw [HBN.out]; exact hlt))
            have b64 := bodyB_length r (j + 1)
            have hRj2 : RDisk wr.drew (orNew (fun k => okd k ∧ k < w.heap.size) w6) p (putK D b0 r j).1 := hRj.step (fun _ _ _ => rfl)
            have hwc := rwrite_any (c := c7) (b0 + ((j : Int) + 1)) hRj2 (RB_drew hd3) (fun k k1 k2 => k2.elim (fun h3 => by have h1 := k1.1; have h2 := h3.2; omega) (fun h3 => by have h1 := k1.2; omega)) (bodyB_bytes hr _) (by omega)
            rw [b64] at hwc hd1
            have hw3 : IntKind.i64.wrap (b0 + ((j : Int) + 1)) = b0 + ((j : Int) + 1) := by rw [IntKind.wrap_i64]; omega
            generalize bodyB r (j + 1) = xs at hwc hps b64 hd3
            generalize putK D b0 r j = Dj at hwc hps hp0 hRj hRj2 hws
            generalize Dj.1.writeE (b0 + ((j : Int) + 1)) xs = E at hwc hps
            generalize Dj.1.writeD (b0 + ((j : Int) + 1)) xs = D' at hwc hps
            have HQ := hid (And.intro hps (And.intro hst hch))
            clear hps hst hall hch hRj hRj2 hNr hnr hN6b hR6 hn6 hwb6 hd2 hd3 b64 hws hp0
            go_wp2_with fail
            refine wp_region_plan [] (.take 0 (.take 1 (.take 2 (.take 3 (.take 4 (.take 5 (.take 6 (.take 7 (.take 8 (.take 9 (.take 10 (.run 11 (.take 12 .done))))))))))))) (fun w' => w'.cell? ⟨w.heap.size, 1, none⟩ = some (.int .i64 r.at_) ∧ w'.cell? ⟨g, j + 1, none⟩ = some (.slice A7 64 c7)) (by kernel_rfl) (by kernel_rfl) (fun c a d v w h => by cases d <;> exact h) ⟨k1, hd1⟩ ?_
            iterate 11 (apply plan_take rfl rfl; (case hy => (intro w' hS; obtain ⟨s1, s2⟩ := hS; go_simp; try exact rfl)); go_simp)
            refine plan_run_on rfl rfl (fun K hK => ?_)
            go_simp
            refine hwc.mono ?_
            rintro e w8 ⟨rfl, h8, c8⟩
            refine hK _ _ _ (fun _ h => h) ⟨c8.cell_ (w := wr.drew) k1 (fun hs => hs.elim (fun h3 => by have h4 : w.heap.size < w.heap.size := h3.2; omega) (fun h3 => by have h4 : w6.heap.size ≤ w.heap.size := h3; omega)), c8.cell_ (w := wr.drew) hd1 (fun hs => hs.elim (fun h3 => by have h4 : g < w.heap.size := h3.2; have h5 := hd4.1; omega) (fun h3 => by have h4 : w6.heap.size ≤ g := h3; have h5 := hd4.2; omega))⟩ ?_
            clear hK K
            go_simp
            apply plan_take rfl rfl
            case hy => (intro w' hS; clear hS; go_simp; try exact rfl)
            go_simp
            refine plan_done ?_
            obtain ⟨hps, hst, hch⟩ := HQ.out
            have h8' := h8.mono (orNew_again hch.drew.size)
            have c8' := chg_again hch.drew c8
            clear hch h8 c8 hwc hw3 k1 hd1 hd4 HQ
            by_cases hE : E = 0
            · subst hE
              have HR := hid (And.intro hps (And.intro h8' c8'))
              clear hps h8' c8' hst
              go_wp2
              go_roundw
              case rel => exact ⟨j + 1, by omega, by go_num, by rw [HR.out.1], by rw [HR.out.1]; exact HR.out.2.1, HR.out.2.2⟩
              case measure => simp [intOf]; omega
            · have hEb : (E != 0) = true := by simpa using hE
              have hx : X = (D', E) := by rw [← HX2.out, hst (by omega) (by rw [hps]; exact hE), hps]
              have HR := hid (HFN.out w8 D' h8' c8')
              have HXX := hid hx
              clear hst hps h8' c8' hx hE
              go_wp2
              go_ret
              rw [HXX.out]
              exact ⟨rfl, HR.out⟩
          · have hltI : ¬ (j : Int) + 1 < (L.length : Int) := by have := HLL.out; omega
            have hL0 : 0 < L.length := by have := HLL.out; omega
            obtain rfl : j = BN := by omega
            obtain ⟨g, A7, c7, rfl, hd1, hd2, hd3, hd4⟩ := N_row hNr HL.out.2.1
            have b64 := headB_length r
            have hRj2 : RDisk wr.drew (orNew (fun k => okd k ∧ k < w.heap.size) w6) p (putK D b0 r j).1 := hRj.step (fun _ _ _ => rfl)
            have hwc := rwrite_any (c := c7) b0 hRj2 (RB_drew hd3) (fun k k1 k2 => k2.elim (fun h3 => by have h1 := k1.1; have h2 := h3.2; omega) (fun h3 => by have h1 := k1.2; omega)) (headB_bytes hr) (by omega)
            rw [b64] at hwc hd1
            replace hall := hall hp0
            generalize headB r = xs at hwc hall b64 hd3
            generalize putK D b0 r j = Dj at hwc hall hp0 hRj hRj2 hws
            generalize Dj.1.writeE b0 xs = E at hwc hall
            generalize Dj.1.writeD b0 xs = D' at hwc hall
            have HQ := hid (And.intro hall hch)
            clear hps hst hall hch hRj hRj2 hNr hnr hN6b hR6 hn6 hwb6 hd2 hd3 b64 hws hp0
            go_wp2_with fail
            refine wp_region_plan [] (.take 0 (.take 1 (.take 2 (.take 3 (.take 4 (.take 5 (.take 6 (.take 7 (.run 8 (.take 9 .done)))))))))) (fun w' => w'.cell? ⟨w.heap.size, 1, none⟩ = some (.int .i64 r.at_) ∧ w'.cell? ⟨g, 0, none⟩ = some (.slice A7 64 c7)) (by kernel_rfl) (by kernel_rfl) (fun c a d v w h => by cases d <;> exact h) ⟨k1, hd1⟩ ?_
            iterate 8 (apply plan_take rfl rfl; (case hy => (intro w' hS; obtain ⟨s1, s2⟩ := hS; go_simp; try exact rfl)); go_simp)
            refine plan_run_on rfl rfl (fun K hK => ?_)
            go_simp
            refine hwc.mono ?_
            rintro e w8 ⟨rfl, h8, c8⟩
            refine hK _ _ _ (fun _ h => h) ⟨c8.cell_ (w := wr.drew) k1 (fun hs => hs.elim (fun h3 => by have h4 : w.heap.size < w.heap.size := h3.2; omega) (fun h3 => by have h4 : w6.heap.size ≤ w.heap.size := h3; omega)), c8.cell_ (w := wr.drew) hd1 (fun hs => hs.elim (fun h3 => by have h4 : g < w.heap.size := h3.2; have h5 := hd4.1; omega) (fun h3 => by have h4 : w6.heap.size ≤ g := h3; have h5 := hd4.2; omega))⟩ ?_
            clear hK K
            go_simp
            apply plan_take rfl rfl
            case hy => (intro w' hS; clear hS; go_simp; try exact rfl)
            go_simp
            refine plan_done ?_
            obtain ⟨hall, hch⟩ := HQ.out
            have hx : X = (D', E) := by rw [← HX2.out, hall]
            have HR := hid (HFN.out w8 D' (h8.mono (orNew_again hch.drew.size)) (chg_again hch.drew c8))
            have HXX := hid hx
            clear hch h8 c8 hwc k1 hd1 hd4 HQ hall hx
            go_wp2
            go_ret
            rw [HXX.out]
            exact ⟨rfl, HR.out⟩
end Go.Proofs.Ytekhmkfiepnnkaa

/- The document's Read (foundryref22). -/
set_option linter.unusedVariables false
set_option linter.unusedSimpArgs false
namespace Go.Proofs.Ytekhmkfiepnnkaa
open Go.RowKit Go.Proofs.YtekhmkfiepnnkaaW.PrintWords Go.Proofs.YtekhmkfiepnnkaaW.PrintMore
attribute [local go_sem] min_two

theorem rhead_zero {w : World} : (w.alloc (.cells #[.int .u64 0, .int .i64 0, .int .i64 0, .slice none 0 0] 28)).heap[w.heap.size]? = some (.cells #[.int .u64 0, .int .i64 0, .int .i64 0, .slice none 0 0] 28 (0, 0)) := heap_alloc_new w _
set_option maxRecDepth 100000 in
theorem rread_nilD {w : World} (base end_ gen at_ : Int) :
  Calls Try.prog 71 #[.pointer none, .int .i64 base, .int .i64 end_, .int .u64 gen, .int .i64 at_] w (ReadPost none 2 w) := by
  have HB0 := hid (below_alloc (Below.refl w.heap.size w) (.cells #[.int .u64 0, .int .i64 0, .int .i64 0, .slice none 0 0] 28))
  go_enter Try.func71, Try.ntmps71
  go_wp2_with fail
  refine (asked_nil _ _).mono ?_
  rintro e w' ⟨rfl, rfl⟩
  go_wp2
  (refine bodyPost_ret (results_ctt rfl _ _ w.heap.size 28 _ _ _ rfl (heap_alloc_new w _) Try.underlying28 rfl (by kernel_rfl)) rfl ?_; exact readpost_none rfl HB0.out)
set_option maxRecDepth 100000 in
set_option maxHeartbeats 1000000 in
theorem rread_errD {w : World} {ok : Nat → Prop} {p : Nat} {D : DM} (h : RDisk w ok p D) (base end_ gen at_ : Int) (he : ¬ readE D base end_ at_ = 0) :
  Calls Try.prog 71 #[.pointer (some ⟨p, 0, none⟩), .int .i64 base, .int .i64 end_, .int .u64 gen, .int .i64 at_] w (ReadPost none (readE D base end_ at_) w) := by
  have hB0 : Below w.heap.size w (w.alloc (.cells #[.int .u64 0, .int .i64 0, .int .i64 0, .slice none 0 0] 28)) := below_alloc (Below.refl _ _) _
  have h0 := h.step (w1 := w.alloc (.cells #[.int .u64 0, .int .i64 0, .int .i64 0, .slice none 0 0] 28)) (fun k _ hk => hB0.block k hk)
  have hR := asked_any h0 base end_
  have HB0 := hid hB0
  clear hB0
  by_cases h4 : at_ < 0
  · have hE : readE D base end_ at_ = 1 := by unfold readE; simp [h4]
    rw [hE]
    go_enter Try.func71, Try.ntmps71
    go_wp2
    (refine bodyPost_ret (results_ctt rfl _ _ w.heap.size 28 _ _ _ rfl (heap_alloc_new w _) Try.underlying28 rfl (by kernel_rfl)) rfl ?_; exact readpost_none rfl HB0.out)
  have hE : readE D base end_ at_ = regE D base end_ := by unfold readE; rw [if_neg h4]
  rw [hE] at he ⊢
  generalize regE D base end_ = E at he hR ⊢
  have he2 : (E != 0) = true := by simpa using he
  clear hE
  go_enter Try.func71, Try.ntmps71
  go_wp2_with fail
  refine hR.mono ?_
  rintro e w' ⟨rfl, rfl⟩
  go_wp2
  (refine bodyPost_ret (results_ctt rfl _ _ w.heap.size 28 _ _ _ rfl (heap_alloc_new w _) Try.underlying28 rfl (by kernel_rfl)) rfl ?_; exact readpost_none rfl HB0.out)
set_option maxRecDepth 100000 in
set_option maxHeartbeats 1000000 in
theorem rread_outD {w : World} {ok : Nat → Prop} {p : Nat} {D : DM} (h : RDisk w ok p D) (base end_ gen at_ : Int) (he : readE D base end_ at_ = 0) (ho : end_ - base ≤ at_) :
  Calls Try.prog 71 #[.pointer (some ⟨p, 0, none⟩), .int .i64 base, .int .i64 end_, .int .u64 gen, .int .i64 at_] w (ReadPost none 0 w) := by
  have hB0 : Below w.heap.size w (w.alloc (.cells #[.int .u64 0, .int .i64 0, .int .i64 0, .slice none 0 0] 28)) := below_alloc (Below.refl _ _) _
  have h0 := h.step (w1 := w.alloc (.cells #[.int .u64 0, .int .i64 0, .int .i64 0, .slice none 0 0] 28)) (fun k _ hk => hB0.block k hk)
  have hR := asked_any h0 base end_
  have HB0 := hid hB0
  obtain ⟨r1, r2, r3, r4, r5⟩ := readE_ok he
  rw [show regE D base end_ = 0 from by unfold readE at he; rwa [if_neg (by omega)] at he] at hR
  have hn := h.1.hi
  clear hB0 he
  have n4 : ¬ at_ < 0 := by omega
  have hw : IntKind.i64.wrap (end_ - base) = end_ - base := by rw [IntKind.wrap_i64]; omega
  go_enter Try.func71, Try.ntmps71
  go_wp2_with fail
  refine hR.mono ?_
  rintro e w' ⟨rfl, rfl⟩
  go_wp2
  (refine bodyPost_ret (results_ctt rfl _ _ w.heap.size 28 _ _ _ rfl (heap_alloc_new w _) Try.underlying28 rfl (by kernel_rfl)) rfl ?_; exact readpost_none rfl HB0.out)
/-- A record's block holds them. -/
structure RdInR (w wr : World) (rb : Nat) (g a kd : Int) (A : Option Addr) (c : Nat) (xs : List Int) : Prop where
  z : wr.heap[w.heap.size]? = some (.cells #[.int .u64 0, .int .i64 0, .int .i64 0, .slice none 0 0] 28 (0, 0))
  r : wr.heap[rb]? = some (.cells #[.int .u64 g, .int .i64 a, .int .i64 kd, .slice A xs.length c] 28 (0, 0))
  row : KB.R 5 wr w.heap.size (fun q => w.heap.size ≤ q) (.slice A xs.length c) xs
  le : xs.length ≤ c
  bel : Below w.heap.size w wr
theorem RdInR.below {w wr w' : World} {rb : Nat} {g a kd : Int} {A : Option Addr} {c : Nat} {xs : List Int} (h : RdInR w wr rb g a kd A c xs) (hb : Below wr.heap.size wr w') : RdInR w w' rb g a kd A c xs :=
  ⟨(hb.block _ (blk_lt h.z)).trans h.z, (hb.block _ (blk_lt h.r)).trans h.r, Kd.R_below h.row hb, h.le, h.bel.trans (hb.mono h.bel.size)⟩
theorem RdInR.end_ {w wr : World} {rb : Nat} {g a kd : Int} {A : Option Addr} {c : Nat} {xs : List Int} (h : RdInR w wr rb g a kd A c xs) (hrb : w.heap.size < rb) {v : Value} (hv : v = .tuple #[.agg #[.int .u64 g, .int .i64 a, .int .i64 kd, .slice A xs.length c], .bool true, .int .i64 0]) :
    ReadPost (some ⟨g, a, kd, xs⟩) 0 w (.returned v) (W4s wr w.heap.size (.int .u64 g) (.int .i64 a) (.int .i64 kd) (.slice A xs.length c)) := by
  refine ⟨A, c, by rw [hv]; rfl, ?_, h.le, below4 h.bel (Nat.le_refl _) _ _ _ _⟩
  refine Kd.R_mono (Kd.R_step (Kd.R_types h.row h.z (by decide)) (fun k hk _ => ?_)) (fun k hk => hk.1)
  unfold W4s
  rw [Below.heap_setCell _ _ _ _ hk.2, Below.heap_setCell _ _ _ _ hk.2, Below.heap_setCell _ _ _ _ hk.2, Below.heap_setCell _ _ _ _ hk.2]
set_option maxRecDepth 100000 in
set_option maxHeartbeats 4000000 in
theorem rread_inD {w : World} {ok : Nat → Prop} {p : Nat} {D : DM} (h : RDisk w ok p D) (b a e : Nat) (gen : Int) (hg : D.gone = false) (he : e ≤ D.n) (hae : b + a < e) :
  Calls Try.prog 71 #[.pointer (some ⟨p, 0, none⟩), .int .i64 (b : Nat), .int .i64 (e : Nat), .int .u64 gen, .int .i64 (a : Nat)] w (ReadPost (readV D b e gen a) 0 w) := by
  have hn := h.1.hi
  have hRE : regE D (b : Int) (e : Int) = 0 := by unfold regE; rw [if_neg (by omega), if_neg (by simp [hg])]
  have hE : readE D b e a = 0 := by unfold readE; rw [if_neg (by omega), hRE]
  have hV := readV_in gen hE hae
  have hB0 : Below w.heap.size w (w.alloc (.cells #[.int .u64 0, .int .i64 0, .int .i64 0, .slice none 0 0] 28)) := below_alloc (Below.refl _ _) _
  have h0 := h.step (w1 := w.alloc (.cells #[.int .u64 0, .int .i64 0, .int .i64 0, .slice none 0 0] 28)) (fun k _ hk => hB0.block k hk)
  have hR := asked_any h0 (b : Int) (e : Int)
  rw [hRE] at hR
  have hX := blk_length h.1 (i := b + a) (by omega)
  have hXb := blk_bytes h.1 (b + a)
  have hrd := rread_ok (b + a) h0 (ready_in hg (by omega)) (by omega)
  rw [show ((b + a : Nat) : Int) = (b : Int) + (a : Int) from by omega] at hrd
  obtain ⟨hN1, hN2, hN3⟩ := headN_in _ hXb
  have hBL := bytesK_len h.1 hN3
  obtain ⟨n, hNn⟩ := Int.eq_ofNat_of_zero_le hN1
  rw [hNn] at hN2
  have hNt : (headN (D.blk (b + a))).toNat = n := by rw [hNn]; simp
  rw [hNt] at hV hN3 hBL
  rw [hNn] at hV
  have n1 : ¬ (b : Int) < 0 := by omega
  have n2 : ¬ (e : Int) < (b : Int) := by omega
  have n3 : ¬ (D.n : Int) < (e : Int) := by omega
  have n4 : ¬ (a : Int) < 0 := by omega
  have n5 : ¬ (e : Int) - (b : Int) ≤ (a : Int) := by omega
  have hw1 : IntKind.i64.wrap ((e : Int) - (b : Int)) = (e : Int) - (b : Int) := by rw [IntKind.wrap_i64]; omega
  have hw2 : IntKind.i64.wrap ((b : Int) + (a : Int)) = (b : Int) + (a : Int) := by rw [IntKind.wrap_i64]; omega
  have hn131 : n ≤ 131072 := by omega
  have HX := hid hX
  have HBL := hid hBL
  have HB0 := hid hB0
  have hRb : (headR (D.blk (b + a))).bytes = bytesK D (b + a) n 0 := rfl
  have HV := hid hV
  have HNn := hid hNn
  clear hE hRE hX hBL hB0 hV hNt hNn hN1
  generalize hVV : readV D b e gen a = VV at HV ⊢
  clear hVV
  go_enter Try.func71, Try.ntmps71
  go_wp2_with fail
  refine hR.mono ?_
  rintro e0 w' ⟨rfl, rfl⟩
  clear hR
  go_wp2_with fail
  refine hrd.mono ?_
  rintro e0 w1 ⟨A0, c0, rfl, hR0, hb1⟩
  have hz1 := (hb1.block _ (blk_lt rhead_zero)).trans rhead_zero
  have hBw1 : Below w.heap.size w w1 := below_step HB0.out hb1
  have hRB := (R_RB hR0).2
  have hc0 : 64 ≤ c0 := (Kd.R_reads' hR0).2.1
  clear hrd hR0 hb1 h0
  have hh := fhead_any (c := c0) hRB hXb (by rw [HX.out]; omega)
  rw [HX.out] at hh
  go_wp2_with fail
  refine hh.mono ?_
  rintro e0 w2 ⟨A, c, rfl, hR2, hle, hB2⟩
  clear hh hRB
  rw [HNn.out]
  unfold recV
  obtain ⟨R, hRR⟩ : ∃ R, headR (D.blk (b + a)) = R := ⟨_, rfl⟩
  rw [hRR] at hR2 hle hN3 ⊢
  have HV2 := HV.out
  rw [hRR] at HV2
  have HV3 := hid HV2
  have HRb : Hid (R.bytes = bytesK D (b + a) n 0) := hid (by rw [← hRb, hRR])
  clear HV2 HV hRR hRb HX
  obtain ⟨rg, ra, rk, rb⟩ := R
  dsimp only at hR2 hle hN3 HV3 HRb ⊢
  have HN3 := hid hN3
  clear hN3
  obtain ⟨ib, hib⟩ : ∃ ib, decide (headOK (D.blk (b + a))) = ib := ⟨_, rfl⟩
  rw [hib]
  have HIB := hid hib
  clear hib
  have hz2 := (hB2.block _ (blk_lt hz1)).trans hz1
  have hBw2 : Below w.heap.size w w2 := hBw1.trans (hB2.mono hBw1.size)
  have hRd0 : RdInR w (w2.alloc (.cells #[.int .u64 rg, .int .i64 ra, .int .i64 rk, .slice A rb.length c] 28)) w2.heap.size rg ra rk A c rb :=
    ⟨(Below.heap_alloc w2 _ _ (blk_lt hz2)).trans hz2, heap_alloc_new w2 _, Kd.R_alloc (Kd.R_lower (Kd.R_mono hR2 (fun k hk => by have := hBw1.size; omega)) hBw1.size) _, hle, below_alloc hBw2 _⟩
  have hrbn : w.heap.size < w2.heap.size := blk_lt hz2
  go_upto_region 10 with (fail)
  clear hB2 hBw2 hz2 hz1 hR2
  generalize w2.alloc (.cells #[.int .u64 rg, .int .i64 ra, .int .i64 rk, .slice A rb.length c] 28) = w3 at hRd0 ⊢
  generalize w2.heap.size = rx at hRd0 hrbn ⊢
  have hz := hRd0.z
  have hbel := hRd0.bel
  have z0 := cell_of_row _ _ 0 _ _ _ hz
  have z1 := cell_of_row _ _ 1 _ _ _ hz
  have z2 := cell_of_row _ _ 2 _ _ _ hz
  have z3 := cell_of_row _ _ 3 _ _ _ hz
  have f0 := frozen_of_row _ _ 0 _ _ hz
  have f1 := frozen_of_row _ _ 1 _ _ hz
  have f2 := frozen_of_row _ _ 2 _ _ hz
  have f3 := frozen_of_row _ _ 3 _ _ hz
  have q0 := cell_of_row _ _ 0 _ _ _ hRd0.r
  have q1 := cell_of_row _ _ 1 _ _ _ hRd0.r
  have q2 := cell_of_row _ _ 2 _ _ _ hRd0.r
  have q3 := cell_of_row _ _ 3 _ _ _ hRd0.r
  simp at z0 z1 z2 z3 q0 q1 q2 q3
  cases ib with
  | false =>
    have hno : VV = none := by rw [HV3.out, if_neg]; rintro ⟨hh, _⟩; have := HIB.out; rw [decide_eq_true hh] at this; cases this
    clear HV3 hRd0
    subst hno
    go_wp2
    (refine bodyPost_ret (results_ctt rfl _ _ w.heap.size 28 _ _ _ rfl (set4 hz (.int .u64 0) (.int .i64 0) (.int .i64 0) (.slice none 0 0)) Try.underlying28 rfl (by kernel_rfl)) rfl ?_; exact readpost_none rfl (below4 hbel (Nat.le_refl _) _ _ _ _))
  | true =>
    have hOK : headOK (D.blk (b + a)) := of_decide_eq_true HIB.out
    clear HIB
    by_cases t1 : rg = gen
    case neg =>
      have hno : VV = none := by rw [HV3.out, if_neg]; rintro ⟨_, hh, _⟩; exact t1 hh
      have t1a : (rg == gen) = false := by simpa using t1
      have t1b : (rg != gen) = true := by simpa using t1
      clear HV3 hRd0 hOK
      subst hno
      go_wp2
      (refine bodyPost_ret (results_ctt rfl _ _ w.heap.size 28 _ _ _ rfl (set4 hz (.int .u64 0) (.int .i64 0) (.int .i64 0) (.slice none 0 0)) Try.underlying28 rfl (by kernel_rfl)) rfl ?_; exact readpost_none rfl (below4 hbel (Nat.le_refl _) _ _ _ _))
    subst t1
    by_cases t2 : ra = (a : Int)
    case neg =>
      have hno : VV = none := by rw [HV3.out, if_neg]; rintro ⟨_, _, hh, _⟩; exact t2 hh
      have t2a : (ra == (a : Int)) = false := by simpa using t2
      have t2b : (ra != (a : Int)) = true := by simpa using t2
      clear HV3 hRd0 hOK
      subst hno
      go_wp2
      (refine bodyPost_ret (results_ctt rfl _ _ w.heap.size 28 _ _ _ rfl (set4 hz (.int .u64 0) (.int .i64 0) (.int .i64 0) (.slice none 0 0)) Try.underlying28 rfl (by kernel_rfl)) rfl ?_; exact readpost_none rfl (below4 hbel (Nat.le_refl _) _ _ _ _))
    subst t2
    have hbn9 : bodiesN n ≤ 131072 := by unfold bodiesN; omega
    have hw3 : IntKind.i64.wrap ((a : Int) + ((bodiesN n : Int) + 1)) = (a : Int) + ((bodiesN n : Int) + 1) := by rw [IntKind.wrap_i64]; omega
    have hnd := fun W => fneed_any (w := W) (n : Int) (by omega)
    rw [need_bodiesN hn131] at hnd HV3
    by_cases t3 : (e : Int) - (b : Int) < (a : Int) + ((bodiesN n : Int) + 1)
    · have hno : VV = none := by rw [HV3.out, if_neg]; rintro ⟨_, _, _, hh, _⟩; omega
      clear HV3 hRd0 hOK
      subst hno
      go_wp2_with (go_at_call 27; refine (hnd _).mono ?_; rintro e0 w' ⟨rfl, rfl⟩)
      (refine bodyPost_ret (results_ctt rfl _ _ w.heap.size 28 _ _ _ rfl (set4 hz (.int .u64 0) (.int .i64 0) (.int .i64 0) (.slice none 0 0)) Try.underlying28 rfl (by kernel_rfl)) rfl ?_; exact readpost_none rfl (below4 hbel (Nat.le_refl _) _ _ _ _))
    have hbn : b + a + (bodiesN n + 1) ≤ e := by omega
    have hRd1 : RdInR w w3 rx rg a rk A c (bytesK D (b + a) n 0) := by rw [← HRb.out]; exact hRd0
    have HV : Hid (VV = if (List.range (bodiesN n)).all (goodK D (b + a) n rg a) = true then some ⟨rg, a, rk, bytesK D (b + a) n (bodiesN n)⟩ else none) := hid (by
      rw [HV3.out]
      by_cases hq : (List.range (bodiesN n)).all (goodK D (b + a) n rg a) = true
      · rw [if_pos hq, if_pos ⟨hOK, rfl, rfl, by omega, hq⟩]
      · rw [if_neg hq, if_neg (fun hh => hq hh.2.2.2.2)])
    clear HV3 hRd0 HRb HN3 hOK z0 z1 z2 z3 f0 f1 f2 f3 q3 hz hbel hle
    go_wp2_with (go_at_call 27; refine (hnd _).mono ?_; rintro e0 w' ⟨rfl, rfl⟩)
    have HND := hid hnd
    clear q0 q1 q2 hnd
    have hbN : bodiesN n ≤ 4096 := by omega
    go_loopw [19] (fun kk wr => ∃ (k : Nat) (A1 : Option Addr) (c1 : Nat), k ≤ bodiesN n ∧ kk = .int .i64 ((k : Int) + 1) ∧ RdInR w wr rx rg a rk A1 c1 (bytesK D (b + a) n k) ∧ GoodTo D (b + a) n rg a k) (fun kk _ => bodiesN n + 1 - (intOf kk).toNat)
    case atStart => exact ⟨0, A, c, Nat.zero_le _, rfl, hRd1, fun i hi => absurd hi (by omega)⟩
    case round =>
      obtain ⟨k, A1, c1, hk, rfl, hI, hgood⟩ := hrel
      clear hRd1
      have hxl := HBL.out k (by omega)
      obtain ⟨xs, hxs⟩ : ∃ xs, bytesK D (b + a) n k = xs := ⟨_, rfl⟩
      rw [hxs] at hI hxl
      have HXS := hid hxs
      clear hxs
      have q3 := cell_of_row _ _ 3 _ _ _ hI.r
      simp at q3
      by_cases hlt : k < bodiesN n
      · have h47 := bodiesN_lt.1 hlt
        have hlen : xs.length < n := by omega
        have HXL := hid hxl
        clear hxl
        have hPD := h.step (w1 := wr) (fun j _ hj => hI.bel.block j hj)
        have hrd := rread_ok (b + a + (k + 1)) hPD (ready_in hg (by omega)) (by omega)
        rw [show ((b + a + (k + 1) : Nat) : Int) = (b : Int) + (a : Int) + ((k : Int) + 1) from by omega] at hrd
        have hltI : (k : Int) + 1 < (bodiesN n : Int) + 1 := by omega
        have hX := blk_length h.1 (i := b + a + (k + 1)) (by omega)
        have hXb2 := blk_bytes h.1 (b + a + (k + 1))
        have HX := hid hX
        clear hX
        have hw4 : IntKind.i64.wrap ((b : Int) + (a : Int) + ((k : Int) + 1)) = (b : Int) + (a : Int) + ((k : Int) + 1) := by rw [IntKind.wrap_i64]; omega
        go_wp2_with fail
        refine (HND.out _).mono ?_
        rintro e0 w' ⟨rfl, rfl⟩
        go_wp2_with fail
        refine hrd.mono ?_
        rintro e0 w4 ⟨A4, c4, rfl, hR4, hb4⟩
        have hRB := (R_RB hR4).2
        have hc4 : 64 ≤ c4 := (Kd.R_reads' hR4).2.1
        obtain ⟨ad4, rfl⟩ := RB_some hRB (by rw [HX.out]; omega)
        obtain ⟨g4, rfl⟩ := Kd.R_head hR4
        have hI4 := hI.below hb4
        clear hrd hPD hI hR4 hb4
        have hbd := fbody_any (c := c4) hRB hXb2 (by rw [HX.out]; omega)
        rw [HX.out] at hbd
        obtain ⟨V, hVe⟩ : ∃ V, bodyV (D.blk (b + a + (k + 1))) = V := ⟨_, rfl⟩
        have hgk : goodK D (b + a) n rg a k = (decide (V = (rg, (a : Int), ((k + 1 : Nat) : Int), true)) && blank ((D.blk (b + a + (k + 1))).drop (14 + hasK n k))) := by unfold goodK; rw [hVe]
        rw [hVe] at hbd
        clear hVe
        obtain ⟨vg, va, vk, vi⟩ := V
        unfold bodyT at hbd
        dsimp only at hbd
        have hm50 := hasK_le n k
        have hmx : hasK n k = min (n - xs.length) 50 := by unfold hasK; rw [show xs.length = 47 + 50 * k from by have := HXL.out; omega]
        have HBAD : Hid (goodK D (b + a) n rg a k = false → VV = none) := hid (fun hf => by rw [HV.out, all_range hlt hf]; rfl)
        have hpartl := part_len (b := D.blk (b + a + (k + 1))) (i := 14) (n := hasK n k) (by rw [HX.out]; omega)
        have hnext : xs ++ ((D.blk (b + a + (k + 1))).drop 14).take (hasK n k) = bytesK D (b + a) n (k + 1) := by rw [← HXS.out]; rfl
        have HNX := hid hnext
        have HPL := hid hpartl
        have HMX := hid hmx
        clear hnext hpartl hmx
        generalize hasK n k = m at hgk hm50 HNX HPL HMX
        have HGK := hid hgk
        clear hgk
        go_wp2_with fail
        refine hbd.mono ?_
        rintro e0 w5 ⟨rfl, hB5⟩
        clear hbd
        have hI5 := hI4.below hB5
        have hRB5 := RB_below hRB hB5
        clear hI4 q3
        have hz := hI5.z
        have hbel := hI5.bel
        have z0 := cell_of_row _ _ 0 _ _ _ hz
        have z1 := cell_of_row _ _ 1 _ _ _ hz
        have z2 := cell_of_row _ _ 2 _ _ _ hz
        have z3 := cell_of_row _ _ 3 _ _ _ hz
        have f0 := frozen_of_row _ _ 0 _ _ hz
        have f1 := frozen_of_row _ _ 1 _ _ hz
        have f2 := frozen_of_row _ _ 2 _ _ hz
        have f3 := frozen_of_row _ _ 3 _ _ hz
        have q3 := cell_of_row _ _ 3 _ _ _ hI5.r
        have qf3 := frozen_of_row _ _ 3 _ _ hI5.r
        simp at z0 z1 z2 z3 q3
        have hsub : IntKind.i64.wrap ((n : Int) - (xs.length : Int)) = (n : Int) - (xs.length : Int) := by rw [IntKind.wrap_i64]; omega
        have HCT := hid (And.intro HBAD.out (And.intro HGK.out (And.intro HV.out (And.intro hI5 (And.intro hRB (And.intro hRB5 (And.intro hB5 hgood)))))))
        go_upto_if 114 with (fail)
        clear HBAD HGK HV hI5 hRB hRB5 hB5 hgood
        go_cut [24] (fun v24 wc => .int .i64 (m : Int) = v24 ∧ w5 = wc)
        case first =>
          by_cases h50 : (50 : Int) < (n : Int) - (xs.length : Int)
          · have hm5 : (m : Int) = 50 := by have := HMX.out; omega
            go_wp2
            go_meet
            case rel => exact ⟨by rw [hm5], rfl⟩
          · have hm5 : (m : Int) = (n : Int) - (xs.length : Int) := by have := HMX.out; omega
            go_wp2
            go_meet
            case rel => exact ⟨by rw [hm5], rfl⟩
        case rest =>
          obtain ⟨rfl, rfl⟩ := hcut
          obtain ⟨HBAD', HGK', HV', hI5, hRB, hRB5, hB5, hgood⟩ := HCT.out
          have HBAD := hid HBAD'
          have HGK := hid HGK'
          have HV := hid HV'
          clear HBAD' HGK' HV' HCT hsub
          cases vi with
          | false =>
            have hno : VV = none := HBAD.out (by rw [HGK.out, decide_eq_false (by simp)]; rfl)
            clear HBAD HGK HV hI5
            subst hno
            go_wp2
            (refine bodyPost_ret (results_ctt rfl _ _ w.heap.size 28 _ _ _ rfl (set4 hz (.int .u64 0) (.int .i64 0) (.int .i64 0) (.slice none 0 0)) Try.underlying28 rfl (by kernel_rfl)) rfl ?_; exact readpost_none rfl (below4 hbel (Nat.le_refl _) _ _ _ _))
          | true =>
            by_cases t1 : vg = rg
            case neg =>
              have hno : VV = none := HBAD.out (by rw [HGK.out, decide_eq_false (by simp [t1])]; rfl)
              have t1a : (vg == rg) = false := by simpa using t1
              have t1b : (vg != rg) = true := by simpa using t1
              clear HBAD HGK HV hI5
              subst hno
              go_wp2
              (refine bodyPost_ret (results_ctt rfl _ _ w.heap.size 28 _ _ _ rfl (set4 hz (.int .u64 0) (.int .i64 0) (.int .i64 0) (.slice none 0 0)) Try.underlying28 rfl (by kernel_rfl)) rfl ?_; exact readpost_none rfl (below4 hbel (Nat.le_refl _) _ _ _ _))
            subst t1
            by_cases t2 : va = (a : Int)
            case neg =>
              have hno : VV = none := HBAD.out (by rw [HGK.out, decide_eq_false (by simp [t2])]; rfl)
              have t2a : (va == (a : Int)) = false := by simpa using t2
              have t2b : (va != (a : Int)) = true := by simpa using t2
              clear HBAD HGK HV hI5
              subst hno
              go_wp2
              (refine bodyPost_ret (results_ctt rfl _ _ w.heap.size 28 _ _ _ rfl (set4 hz (.int .u64 0) (.int .i64 0) (.int .i64 0) (.slice none 0 0)) Try.underlying28 rfl (by kernel_rfl)) rfl ?_; exact readpost_none rfl (below4 hbel (Nat.le_refl _) _ _ _ _))
            subst t2
            by_cases t3 : vk = (k : Int) + 1
            case neg =>
              have hno : VV = none := HBAD.out (by rw [HGK.out, decide_eq_false (by simp; omega)]; rfl)
              have t3a : (vk == (k : Int) + 1) = false := by simpa using t3
              have t3b : (vk != (k : Int) + 1) = true := by simpa using t3
              clear HBAD HGK HV hI5
              subst hno
              go_wp2
              (refine bodyPost_ret (results_ctt rfl _ _ w.heap.size 28 _ _ _ rfl (set4 hz (.int .u64 0) (.int .i64 0) (.int .i64 0) (.slice none 0 0)) Try.underlying28 rfl (by kernel_rfl)) rfl ?_; exact readpost_none rfl (below4 hbel (Nat.le_refl _) _ _ _ _))
            subst t3
            have hbl := clean_tail (a := ⟨g4, 0, none⟩) (m := 14 + m) hRB hB5 HX.out (by omega) hc4
            have htn : (14 + (m : Int)).toNat = 14 + m := by omega
            have him : (14 : Int) + (m : Int) ≤ 64 := by omega
            have h14 : (14 : Int) ≤ 14 + (m : Int) := by omega
            have h014 : (0 : Int) ≤ 14 + (m : Int) := by omega
            have hwm : IntKind.i64.wrap (14 + (m : Int)) = 14 + (m : Int) := by rw [IntKind.wrap_i64]; omega
            obtain ⟨bl, hblE⟩ : ∃ bl, blank ((D.blk (b + a + (k + 1))).drop (14 + m)) = bl := ⟨_, rfl⟩
            rw [hblE] at hbl
            have HBK := hid hblE
            clear hblE
            have BL : ∀ (V : Value), V = .slice (behind (some ⟨g4, 0, none⟩) (14 + m) c4) (64 - (14 + m)) (c4 - (14 + m)) → Calls Try.prog 62 #[V] w5 fun e w' => e = .returned (.bool bl) ∧ w' = w5 := fun V e => by rw [e]; exact hbl
            clear hbl
            by_cases hcm : c4 = 14 + m
            · obtain rfl : m = 50 := by omega
              obtain rfl : c4 = 64 := by omega
              clear hwm h14 h014 him htn hcm
              go_wp2_with fail
              refine (BL _ ?_).mono ?_
              · unfold behind
                rw [if_pos rfl]
              rintro e0 w6 ⟨rfl, rfl⟩
              clear BL
              cases bl with
              | false =>
                have hno : VV = none := HBAD.out (by rw [HGK.out, HBK.out]; simp)
                clear HBAD HGK HV hI5
                subst hno
                go_wp2
                (refine bodyPost_ret (results_ctt rfl _ _ w.heap.size 28 _ _ _ rfl (set4 hz (.int .u64 0) (.int .i64 0) (.int .i64 0) (.slice none 0 0)) Try.underlying28 rfl (by kernel_rfl)) rfl ?_; exact readpost_none rfl (below4 hbel (Nat.le_refl _) _ _ _ _))
              | true =>
                have hRow := hI5.row
                have hpart := part (i := 14) (n := 50) hRB5 (by rw [HX.out]; omega)
                have hRm : ReadsInt w6.drew .u8 (some (Addr.add ⟨g4, 0, none⟩ 14)) 50 (((D.blk (b + a + (k + 1))).drop 14).take 50) := by
                  have := RB_int (RB_drew hpart)
                  rwa [HPL.out] at this
                have hgood1 : GoodTo D (b + a) n vg a (k + 1) := fun i hi => by
                  rcases Nat.lt_or_ge i k with h1 | h1
                  · exact hgood i h1
                  · obtain rfl : i = k := by omega
                    rw [HGK.out, HBK.out]
                    simp
                have HG1 := hid hgood1
                clear hgood1 hgood HGK HBAD HBK
                have hne : some rx ≠ (Value.slice A1 xs.length c1).ownBlock := Kd.R_ne hRow hI5.r (by decide)
                have hnz : some w.heap.size ≠ (Value.slice A1 xs.length c1).ownBlock := Kd.R_ne hRow hI5.z (by decide)
                go_wp2_with fail
                refine wp_region_plan [7, 8] (.take 0 (.take 1 (.take 2 (.take 3 (.take 4 (.take 5 (.run 6 (.tail 7 (.tail 8 .done))))))))) (fun W' => W'.cell? ⟨rx, 3, none⟩ = some (.slice A1 xs.length c1)) (by kernel_rfl) (by kernel_rfl) (fun c a d v w h => by cases d <;> exact h) q3 ?_
                iterate 6 (apply plan_take rfl rfl; (case hy => (intro w' hS; go_simp; try exact rfl)); go_simp)
                refine plan_run_on rfl rfl (fun K hK => ?_)
                refine step_append_row (w0 := w) w.heap.size (.tmp 142) (.tmp 146) 22 5 .u8 1 rfl Try.underlying22 info_u8 (by decide) _ xs (((D.blk (b + a + (k + 1))).drop 14).take 50) (some (Addr.add ⟨g4, 0, none⟩ 14)) 50 50 rfl rfl (R_own1 (Kd.R_drew hRow)) hRm hI5.bel.drew hI5.bel.drew.size (by omega) ?_
                intro v1 w7 ho hB6 hg6 hat
                have hR6 : KB.R 5 w7 w.heap.size (fun q => w.heap.size ≤ q) v1 (xs ++ ((D.blk (b + a + (k + 1))).drop 14).take 50) := Rown ho (fun q hq => own_base ho q hq)
                rw [HNX.out] at hR6
                obtain ⟨A6, c6, rfl, hle6, _⟩ := Kd.R_reads hR6
                have hr6 := (hg6.block rx (blk_lt hI5.r) (fun e => hne e)).trans hI5.r
                have hz6 := (hg6.block w.heap.size (blk_lt hI5.z) (fun e => hnz e)).trans hI5.z
                clear ho hg6 hat hRm hpart hne hnz hRow hRB5 hRB
                have p3 := cell_of_row _ _ 3 _ _ _ hr6
                have pf3 := frozen_of_row _ _ 3 _ _ hr6
                simp at p3
                refine hK _ _ _ (fun _ h => h) p3 ?_
                clear hK K
                go_simp
                refine plan_tail_on rfl rfl (fun K hK => ?_)
                go_simp
                refine hK _ _ ?_
                clear hK K
                refine plan_tail_on rfl rfl (fun K hK => ?_)
                go_simp
                refine hK _ _ (plan_done ?_)
                clear hK K
                have hI7 : RdInR w (w7.setCell ⟨rx, 3, none⟩ (.slice A6 (bytesK D (b + a) n (k + 1)).length c6)) rx vg a rk A6 c6 (bytesK D (b + a) n (k + 1)) :=
                  ⟨(Below.heap_setCell w7 ⟨rx, 3, none⟩ _ w.heap.size (by show w.heap.size ≠ rx; omega)).trans hz6, heap_setCell_same w7 rx 3 _ _ _ hr6, Kd.R_set hR6 hr6 (by decide) 3 _, hle6, hB6.setCell (p := ⟨rx, 3, none⟩) (by show w.heap.size ≤ rx; omega) _⟩
                have HI7 := hid hI7
                clear hI7 hR6 hr6 hz6 hle6 p3 pf3 q3 qf3 z0 z1 z2 z3 f0 f1 f2 f3 hz hbel hI5
                go_wp2
                go_roundw
                case rel => exact ⟨k + 1, A6, c6, by omega, by go_num, HI7.out, HG1.out⟩
                case measure => simp [intOf]; omega
            · go_wp2_with fail
              refine (BL _ ?_).mono ?_
              · unfold behind
                rw [if_neg hcm]
                simp [Addr.add]
              rintro e0 w6 ⟨rfl, rfl⟩
              clear BL
              cases bl with
              | false =>
                have hno : VV = none := HBAD.out (by rw [HGK.out, HBK.out]; simp)
                clear HBAD HGK HV hI5
                subst hno
                go_wp2
                (refine bodyPost_ret (results_ctt rfl _ _ w.heap.size 28 _ _ _ rfl (set4 hz (.int .u64 0) (.int .i64 0) (.int .i64 0) (.slice none 0 0)) Try.underlying28 rfl (by kernel_rfl)) rfl ?_; exact readpost_none rfl (below4 hbel (Nat.le_refl _) _ _ _ _))
              | true =>
                have hRow := hI5.row
                have hpart := part (i := 14) (n := m) hRB5 (by rw [HX.out]; omega)
                have hRm : ReadsInt w6.drew .u8 (some (Addr.add ⟨g4, 0, none⟩ 14)) m (((D.blk (b + a + (k + 1))).drop 14).take m) := by
                  have := RB_int (RB_drew hpart)
                  rwa [HPL.out] at this
                have hgood1 : GoodTo D (b + a) n vg a (k + 1) := fun i hi => by
                  rcases Nat.lt_or_ge i k with h1 | h1
                  · exact hgood i h1
                  · obtain rfl : i = k := by omega
                    rw [HGK.out, HBK.out]
                    simp
                have HG1 := hid hgood1
                clear hgood1 hgood HGK HBAD HBK
                have hne : some rx ≠ (Value.slice A1 xs.length c1).ownBlock := Kd.R_ne hRow hI5.r (by decide)
                have hnz : some w.heap.size ≠ (Value.slice A1 xs.length c1).ownBlock := Kd.R_ne hRow hI5.z (by decide)
                go_wp2_with fail
                refine wp_region_plan [7, 8] (.take 0 (.take 1 (.take 2 (.take 3 (.take 4 (.take 5 (.run 6 (.tail 7 (.tail 8 .done))))))))) (fun W' => W'.cell? ⟨rx, 3, none⟩ = some (.slice A1 xs.length c1)) (by kernel_rfl) (by kernel_rfl) (fun c a d v w h => by cases d <;> exact h) q3 ?_
                have hwm2 : IntKind.i64.wrap (14 + (m : Int)) = 14 + (m : Int) := by rw [IntKind.wrap_i64]; omega
                have h142 : (14 : Int) ≤ 14 + (m : Int) := by omega
                have h0142 : (0 : Int) ≤ 14 + (m : Int) := by omega
                have htn2 : (14 + (m : Int)).toNat = 14 + m := by omega
                have hcap : (14 : Int) + (m : Int) ≤ (c4 : Int) := by omega
                have hc14 : ¬ c4 = 14 := by omega
                iterate 6 (apply plan_take rfl rfl; (case hy => (intro w' hS; go_simp; try exact rfl)); go_simp)
                refine plan_run_on rfl rfl (fun K hK => ?_)
                refine step_append_row (w0 := w) w.heap.size (.tmp 142) (.tmp 146) 22 5 .u8 1 rfl Try.underlying22 info_u8 (by decide) _ xs (((D.blk (b + a + (k + 1))).drop 14).take m) (some (Addr.add ⟨g4, 0, none⟩ 14)) m (c4 - 14) rfl rfl (R_own1 (Kd.R_drew hRow)) hRm hI5.bel.drew hI5.bel.drew.size (by omega) ?_
                intro v1 w7 ho hB6 hg6 hat
                have hR6 : KB.R 5 w7 w.heap.size (fun q => w.heap.size ≤ q) v1 (xs ++ ((D.blk (b + a + (k + 1))).drop 14).take m) := Rown ho (fun q hq => own_base ho q hq)
                rw [HNX.out] at hR6
                obtain ⟨A6, c6, rfl, hle6, _⟩ := Kd.R_reads hR6
                have hr6 := (hg6.block rx (blk_lt hI5.r) (fun e => hne e)).trans hI5.r
                have hz6 := (hg6.block w.heap.size (blk_lt hI5.z) (fun e => hnz e)).trans hI5.z
                clear ho hg6 hat hRm hpart hne hnz hRow hRB5 hRB
                have p3 := cell_of_row _ _ 3 _ _ _ hr6
                have pf3 := frozen_of_row _ _ 3 _ _ hr6
                simp at p3
                refine hK _ _ _ (fun _ h => h) p3 ?_
                clear hK K
                go_simp
                refine plan_tail_on rfl rfl (fun K hK => ?_)
                go_simp
                refine hK _ _ ?_
                clear hK K
                refine plan_tail_on rfl rfl (fun K hK => ?_)
                go_simp
                refine hK _ _ (plan_done ?_)
                clear hK K
                have hI7 : RdInR w (w7.setCell ⟨rx, 3, none⟩ (.slice A6 (bytesK D (b + a) n (k + 1)).length c6)) rx vg a rk A6 c6 (bytesK D (b + a) n (k + 1)) :=
                  ⟨(Below.heap_setCell w7 ⟨rx, 3, none⟩ _ w.heap.size (by show w.heap.size ≠ rx; omega)).trans hz6, heap_setCell_same w7 rx 3 _ _ _ hr6, Kd.R_set hR6 hr6 (by decide) 3 _, hle6, hB6.setCell (p := ⟨rx, 3, none⟩) (by show w.heap.size ≤ rx; omega) _⟩
                have HI7 := hid hI7
                clear hI7 hR6 hr6 hz6 hle6 p3 pf3 q3 qf3 z0 z1 z2 z3 f0 f1 f2 f3 hz hbel hI5
                go_wp2
                go_roundw
                case rel => exact ⟨k + 1, A6, c6, by omega, by go_num, HI7.out, HG1.out⟩
                case measure => simp [intOf]; omega
      · obtain rfl : k = bodiesN n := by omega
        have hge : n ≤ xs.length := by have := bodiesN_lt (n := n) (k := bodiesN n); omega
        have hge2 : ¬ xs.length < n := by omega
        have HXL := hid hxl
        have hyes : VV = some ⟨rg, a, rk, xs⟩ := by
          rw [HV.out, if_pos (all_range_true (fun i hi => hgood i hi)), HXS.out]
        have hz := hI.z
        have z0 := cell_of_row _ _ 0 _ _ _ hz
        have z1 := cell_of_row _ _ 1 _ _ _ hz
        have z2 := cell_of_row _ _ 2 _ _ _ hz
        have z3 := cell_of_row _ _ 3 _ _ _ hz
        have f0 := frozen_of_row _ _ 0 _ _ hz
        have f1 := frozen_of_row _ _ 1 _ _ hz
        have f2 := frozen_of_row _ _ 2 _ _ hz
        have f3 := frozen_of_row _ _ 3 _ _ hz
        have q0 := cell_of_row _ _ 0 _ _ _ hI.r
        have q1 := cell_of_row _ _ 1 _ _ _ hI.r
        have q2 := cell_of_row _ _ 2 _ _ _ hI.r
        simp at z0 z1 z2 z3 q0 q1 q2
        have HI := hid hI
        clear hxl HV hgood hI
        subst hyes
        have hltI : ¬ (bodiesN n : Int) + 1 < (bodiesN n : Int) + 1 := by omega
        go_wp2_with fail
        refine (HND.out _).mono ?_
        rintro e0 w' ⟨rfl, rfl⟩
        go_wp2
        refine bodyPost_ret (results_ctt rfl _ _ w.heap.size 28 _ _ _ rfl (set4 hz (.int .u64 rg) (.int .i64 a) (.int .i64 rk) (.slice A1 xs.length c1)) Try.underlying28 rfl (by kernel_rfl)) rfl ?_
        exact HI.out.end_ hrbn rfl
end Go.Proofs.Ytekhmkfiepnnkaa
