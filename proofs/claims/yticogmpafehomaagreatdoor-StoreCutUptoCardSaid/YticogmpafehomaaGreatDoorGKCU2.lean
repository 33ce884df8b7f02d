/- Texts of one seat, laid together. -/
import Derived.RangeFuncNested
import Derived.OpenShut
import Derived.Maps.OwnIn
import Derived.Laws.Bits64b
import Derived.WalkSmall
import Derived.Defers
import Derived.Recover
import Derived.Laws.Pointers
import Derived.Test.YticogmpafehomaaGreatDoorGKCU1

set_option linter.unusedVariables false
set_option linter.unusedSimpArgs false
namespace Go.Proofs.YticogmpafehomaaGreatDoor
open Go.RowKit Go.Proofs.YticogmpafehomaaGreatDoorW.PrintWords Go.Proofs.YticogmpafehomaaGreatDoorW.PrintMore
attribute [local go_sem] min_two

theorem wp_region_eq {P : Program} {c : Code} {Q : Exit → Act → World → Prop} {a af : Act} {w Wf : World} (h : c.wp P (fun e a w => e = .normal ∧ a = af ∧ w = Wf) a w) (hQ : Q .normal af Wf) : c.wp P Q a w :=
  Code.wp_mono (fun e a w h => by obtain ⟨rfl, rfl, rfl⟩ := h; exact hQ) h
/-- How many bytes a head has. -/
def headM (b : List Int) : Nat := min (numAt b 13 4).toNat 47
def headOK (b : List Int) : Prop := b.length = 64 ∧ b.take 2 = [102, 104] ∧ ¬ numAt b 2 8 = 0 ∧ numAt b 13 4 ≤ 131072 ∧ blank (b.drop (17 + headM b)) = true
instance (b : List Int) : Decidable (headOK b) := by unfold headOK; infer_instance
def headR (b : List Int) : SR := if headOK b then ⟨numAt b 2 8, numAt b 10 2, b.getD 12 0, (b.drop 17).take (headM b)⟩ else ⟨0, 0, 0, []⟩
def headN (b : List Int) : Int := if headOK b then numAt b 13 4 else 0
theorem head_no {b : List Int} (h : ¬ headOK b) : headR b = ⟨0, 0, 0, []⟩ ∧ headN b = 0 ∧ decide (headOK b) = false := by unfold headR headN; rw [if_neg h, if_neg h]; exact ⟨rfl, rfl, by simpa using h⟩
/-- What Head hands back. -/
def HeadPost (b : List Int) (w : World) (e : Ending) (w' : World) : Prop :=
  ∃ A c, e = .returned (.tuple #[recV (headR b) A c, .int .i64 (headN b), .bool (decide (headOK b))]) ∧ KB.R 5 w' w.heap.size (fun k => w.heap.size ≤ k) (.slice A (headR b).bytes.length c) (headR b).bytes ∧ (headR b).bytes.length ≤ c ∧ Below w.heap.size w w'
theorem RB_nil (w : World) (ok : Nat → Prop) (c : Nat) : RB w ok none [] := fun W' _ => Kd.C_of_reads (enc := Value.int .u8) (d := (0 : Int)) (h1 := fun _ => rfl) ⟨rfl, by simp, fun h => absurd h (by simp)⟩
theorem head_none {b : List Int} {w w' : World} {v : Value} (h : ¬ headOK b) (hv : v = .tuple #[.agg #[.int .u64 0, .int .i64 0, .int .i64 0, .slice none 0 0], .int .i64 0, .bool false]) (hB : Below w.heap.size w w') : HeadPost b w (.returned v) w' := by
  obtain ⟨e1, e2, e3⟩ := head_no h
  refine ⟨none, 0, ?_, ?_, ?_, hB⟩
  · rw [e1, e2, e3, hv]; rfl
  · rw [e1]; exact Kd.R_nil _ _ _ _ _
  · rw [e1]; simp
theorem blank_tail {w W' : World} {ok : Nat → Prop} {a : Addr} {b : List Int} {c m : Nat} (h : RB w ok (some a) b) (hW : Below w.heap.size w W') (h64 : b.length = 64) (hm : m ≤ 64) (hc : 64 ≤ c) :
    Calls Tryz.prog 158 #[.slice (behind (some a) m c) (64 - m) (c - m)] W' fun e w' => e = .returned (.bool (blank (b.drop m))) ∧ w' = W' := by
  have h2 := RB_drop h (n := m) (by omega) (by omega : b.length ≤ c)
  have hl : (b.drop m).length = 64 - m := by rw [List.length_drop, h64]
  have h3 := blank_any (c := c - m) (Kd.F_now (RB_below h2 hW))
  rw [hl] at h3
  exact h3
abbrev W4s (w : World) (n : Nat) (v0 v1 v2 v3 : Value) : World := (((w.setCell ⟨n, 0, none⟩ v0).setCell ⟨n, 1, none⟩ v1).setCell ⟨n, 2, none⟩ v2).setCell ⟨n, 3, none⟩ v3
theorem set4 {w : World} {n T : Nat} {a0 a1 a2 a3 : Value} (h : w.heap[n]? = some (.cells #[a0, a1, a2, a3] T (0, 0))) (v0 v1 v2 v3 : Value) : (W4s w n v0 v1 v2 v3).heap[n]? = some (.cells #[v0, v1, v2, v3] T (0, 0)) := by
  have h1 := heap_setCell_same w n 0 _ _ v0 h
  have h2 := heap_setCell_same _ n 1 _ _ v1 h1
  have h3 := heap_setCell_same _ n 2 _ _ v2 h2
  have h4 := heap_setCell_same _ n 3 _ _ v3 h3
  exact h4
theorem below4 {B : Nat} {w0 w : World} (h : Below B w0 w) {n : Nat} (hn : B ≤ n) (v0 v1 v2 v3 : Value) : Below B w0 (W4s w n v0 v1 v2 v3) := (((h.setCell (p := ⟨n, 0, none⟩) hn v0).setCell (p := ⟨n, 1, none⟩) hn v1).setCell (p := ⟨n, 2, none⟩) hn v2).setCell (p := ⟨n, 3, none⟩) hn v3
set_option maxRecDepth 100000 in
set_option maxHeartbeats 4000000 in
theorem head_any {w : World} {ok : Nat → Prop} {A : Option Addr} {c : Nat} {b : List Int} (h : RB w ok A b) (hb : Bytes b) (hc : b.length ≤ c) :
  Calls Tryz.prog 121 #[.slice A b.length c] w (HeadPost b w) := by
  have hlm := RB_len h
  obtain ⟨w0, hw0⟩ : ∃ w0, w.alloc (.cells #[.int .u64 0, .int .i64 0, .int .i64 0, .slice none 0 0] 117) = w0 := ⟨_, rfl⟩
  have hfin : Below w.heap.size w w0 := by rw [← hw0]; exact below_alloc (Below.refl _ _) _
  by_cases h64 : b.length = 64
  · obtain ⟨a, rfl⟩ := RB_some h (by omega)
    have hp2 : RB w ok (some a) (b.take 2) := RB_take h (by omega)
    have hcv : (convert 25 9 (.slice (some a) 2 c)).run Tryz.prog w0 = .ok (.string (strOfNums (b.take 2))) w0 := by
      have := conv_str (c := c) (Kd.F_now (RB_below hp2 hfin))
      rwa [show (b.take 2).length = 2 from by rw [List.length_take]; omega] at this
    have hs := str_iff (hb.take 2) (show Bytes [102, 104] from fun x hx => by simp at hx; omega)
    rw [show strOfNums [102, 104] = ⟨#[102, 104]⟩ from rfl] at hs
    rw [h64] at hc ⊢
    have i2 : (2 : Int) ≤ (c : Int) := by omega
    by_cases ht : b.take 2 = [102, 104]
    · have hS := hs.2 ht
      rw [hS] at hcv
      clear hs hS
      have n17 : ¬ c = 17 := by omega
      have n13 : ¬ c = 13 := by omega
      have n2 : ¬ c = 2 := by omega
      have n10 : ¬ c = 10 := by omega
      have i10 : (10 : Int) ≤ (c : Int) := by omega
      have i12 : (12 : Int) ≤ (c : Int) := by omega
      have i17 : (17 : Int) ≤ (c : Int) := by omega
      have hR := RB_int h
      obtain ⟨ad, e0, k12⟩ := hR.at_ 12 (by omega) (by omega)
      cases e0
      simp only [rd, show (12 : Int).toNat = 12 from rfl] at k12
      have hx12 : 0 ≤ b.getD 12 0 ∧ b.getD 12 0 < 256 := hb.rd_ 12
      have c0 := number_part (RB_below h hfin) hb 13 4 (c - 13) (by omega) (by omega)
      have c1 : ∀ W', Below w.heap.size w W' → Calls Tryz.prog 157 #[.slice (some (a.add 2)) 8 (c - 2)] W' fun e w' => e = .returned (.int .u64 (numAt b 2 8)) ∧ w' = W' := fun W' hW => number_part (RB_below h hW) hb 2 8 (c - 2) (by omega) (by omega)
      have c2 : ∀ W', Below w.heap.size w W' → Calls Tryz.prog 157 #[.slice (some (a.add 10)) 2 (c - 10)] W' fun e w' => e = .returned (.int .u64 (numAt b 10 2)) ∧ w' = W' := fun W' hW => number_part (RB_below h hW) hb 10 2 (c - 10) (by omega) (by omega)
      have l0 := numAt_lt hb (i := 13) (n := 4) (by omega)
      have l1 := numAt_lt hb (i := 2) (n := 8) (by omega)
      have l2 := numAt_lt hb (i := 10) (n := 2) (by omega)
      rw [show (256 : Int) ^ 4 = 4294967296 from by decide] at l0
      rw [show (256 : Int) ^ 8 = 18446744073709551616 from by decide] at l1
      rw [show (256 : Int) ^ 2 = 65536 from by decide] at l2
      have hmm : min (numAt b 13 4) 47 = ((headM b : Nat) : Int) := by unfold headM; omega
      have hm47 : headM b ≤ 47 := by unfold headM; omega
      have hpart : RB w ok (some (a.add 17)) ((b.drop 17).take (headM b)) := part h (by omega)
      have hplen : ((b.drop 17).take (headM b)).length = headM b := part_len (by omega)
      have hbl : ∀ W', Below w.heap.size w W' → Calls Tryz.prog 158 #[.slice (behind (some a) (17 + headM b) c) (64 - (17 + headM b)) (c - (17 + headM b))] W' fun e w' => e = .returned (.bool (blank (b.drop (17 + headM b)))) ∧ w' = W' := fun W' hW => blank_tail h hW h64 (by omega) hc
      have hOK : headOK b ↔ ¬ numAt b 2 8 = 0 ∧ numAt b 13 4 ≤ 131072 ∧ blank (b.drop (17 + headM b)) = true := ⟨fun hh => hh.2.2, fun hh => ⟨h64, ht, hh⟩⟩
      have hRR : headOK b → HeadPost b w = fun e w' => ∃ A c, e = .returned (.tuple #[.agg #[.int .u64 (numAt b 2 8), .int .i64 (numAt b 10 2), .int .i64 (b.getD 12 0), .slice A (headM b) c], .int .i64 (numAt b 13 4), .bool true]) ∧ KB.R 5 w' w.heap.size (fun k => w.heap.size ≤ k) (.slice A (headM b) c) ((b.drop 17).take (headM b)) ∧ headM b ≤ c ∧ Below w.heap.size w w' := fun hh => by
        unfold HeadPost
        rw [show headR b = ⟨numAt b 2 8, numAt b 10 2, b.getD 12 0, (b.drop 17).take (headM b)⟩ from if_pos hh, show headN b = numAt b 13 4 from if_pos hh, show decide (headOK b) = true from decide_eq_true hh]
        unfold recV
        dsimp only
        rw [hplen]
      have HRR := hid hRR
      have HOK := hid hOK
      have HM := hid hmm
      clear hRR hOK hR hmm
      generalize hmq : headM b = m at HRR HOK HM hm47 hpart hplen hbl
      generalize numAt b 13 4 = nn at c0 l0 HRR HOK HM
      generalize numAt b 2 8 = g at c1 l1 HRR HOK
      generalize numAt b 10 2 = at_ at c2 l2 HRR HOK
      generalize b.getD 12 0 = x12 at k12 hx12 HRR
      generalize blank (b.drop (17 + m)) = bl at hbl HOK
      have u0 : IntKind.i64.wrap nn = nn := by rw [IntKind.wrap_i64]; omega
      have u2 : IntKind.i64.wrap at_ = at_ := by rw [IntKind.wrap_i64]; omega
      have u12 : IntKind.i64.wrap x12 = x12 := by rw [IntKind.wrap_i64]; omega
      go_enter Tryz.func121, Tryz.ntmps121
      go_wp2_with fail
      refine c0.mono ?_
      rintro e w1 ⟨rfl, hw1⟩
      subst hw1
      have hz : w1.heap[w.heap.size]? = some (.cells #[.int .u64 0, .int .i64 0, .int .i64 0, .slice none 0 0] 117 (0, 0)) := by rw [← hw0]; exact heap_alloc_new w _
      clear hw0 hcv c0
      have k12' : w.cell? { block := a.block, off := a.off + 12 } = some (.int .u8 x12) := by simpa [Addr.add] using k12
      have hS0 : Below w.heap.size w w1.drew := hfin.drew
      have hSa : ∀ o, Below w.heap.size w (w1.drew.alloc o) := fun o => hfin.drew.alloc hfin.drew.size o
      go_wp2_with fail
      apply wp_region_eq
      case h =>
        refine wp_region_plan [] (.take 0 (.take 1 (.take 3 (.take 4 (.take 7 (.take 8 (.take 9 (.take 10 (.both 2 (.both 5 (.take 6 (.take 11 (.run 12 (.run 13 .done)))) 12 (.run 5 (.take 6 (.take 11 (.run 13 .done))))) 12 (.run 2 (.run 5 (.take 6 (.take 11 (.run 13 .done)))))))))))))) (fun W' => Below w.heap.size w W') (by kernel_rfl) (by kernel_rfl) (fun c a d v w h => absurd h.1 (by simp)) hS0 ?_
        apply plan_take rfl rfl
        case hy => (intro w' hS; have e0 := pw_cell_below hS k12'; clear hS; go_simp; try exact rfl)
        go_simp
        apply plan_take rfl rfl
        case hy => (intro w' hS; have e0 := pw_cell_below hS k12'; clear hS; go_simp; try exact rfl)
        go_simp
        apply plan_take rfl rfl
        case hy => (intro w' hS; have e0 := pw_cell_below hS k12'; clear hS; go_simp; try exact rfl)
        go_simp
        apply plan_take rfl rfl
        case hy => (intro w' hS; have e0 := pw_cell_below hS k12'; clear hS; go_simp; try exact rfl)
        go_simp
        apply plan_take rfl rfl
        case hy => (intro w' hS; have e0 := pw_cell_below hS k12'; clear hS; go_simp; try exact rfl)
        go_simp
        apply plan_take rfl rfl
        case hy => (intro w' hS; have e0 := pw_cell_below hS k12'; clear hS; go_simp; try exact rfl)
        go_simp
        apply plan_take rfl rfl
        case hy => (intro w' hS; have e0 := pw_cell_below hS k12'; clear hS; go_simp; try exact rfl)
        go_simp
        apply plan_take rfl rfl
        case hy => (intro w' hS; have e0 := pw_cell_below hS k12'; clear hS; go_simp; try exact rfl)
        go_simp
        refine plan_both ?_ ?_
        · refine plan_run_on rfl rfl (fun K hK => ?_)
          go_simp
          refine (c1 _ hS0).mono ?_
          rintro e w2 ⟨rfl, rfl⟩
          refine hK _ _ _ (fun _ h => h) hS0 ?_
          clear hK K
          go_simp
          refine plan_both ?_ ?_
          · refine plan_run_on rfl rfl (fun K hK => ?_)
            go_simp
            refine (c2 _ hS0).mono ?_
            rintro e w2 ⟨rfl, rfl⟩
            refine hK _ _ _ (fun _ h => h) hS0 ?_
            clear hK K
            go_simp
            apply plan_take rfl rfl
            case hy => (intro w' hS; have e0 := pw_cell_below hS k12'; clear hS; go_simp; try exact rfl)
            go_simp
            apply plan_take rfl rfl
            case hy => (intro w' hS; have e0 := pw_cell_below hS k12'; clear hS; go_simp; try exact rfl)
            go_simp
            refine plan_run_on rfl rfl (fun K hK => ?_)
            go_simp
            refine hK _ _ _ (fun _ h => h) (hSa _) ?_
            clear hK K
            go_simp
            refine plan_run_on rfl rfl (fun K hK => ?_)
            go_simp
            refine hK _ _ _ (fun _ h => h) (hSa _) ?_
            clear hK K
            exact plan_done ⟨rfl, rfl, rfl⟩
          · refine plan_run_on rfl rfl (fun K hK => ?_)
            go_simp
            refine hK _ _ _ (fun _ h => h) (hSa _) ?_
            clear hK K
            go_simp
            refine plan_run_on rfl rfl (fun K hK => ?_)
            go_simp
            refine (c2 _ (hSa _)).mono ?_
            rintro e w2 ⟨rfl, rfl⟩
            refine hK _ _ _ (fun _ h => h) (hSa _) ?_
            clear hK K
            go_simp
            apply plan_take rfl rfl
            case hy => (intro w' hS; have e0 := pw_cell_below hS k12'; clear hS; go_simp; try exact rfl)
            go_simp
            apply plan_take rfl rfl
            case hy => (intro w' hS; have e0 := pw_cell_below hS k12'; clear hS; go_simp; try exact rfl)
            go_simp
            refine plan_run_on rfl rfl (fun K hK => ?_)
            go_simp
            refine hK _ _ _ (fun _ h => h) (hSa _) ?_
            clear hK K
            exact plan_done ⟨rfl, rfl, rfl⟩
        · refine plan_run_on rfl rfl (fun K hK => ?_)
          go_simp
          refine hK _ _ _ (fun _ h => h) (hSa _) ?_
          clear hK K
          go_simp
          refine plan_run_on rfl rfl (fun K hK => ?_)
          go_simp
          refine (c1 _ (hSa _)).mono ?_
          rintro e w2 ⟨rfl, rfl⟩
          refine hK _ _ _ (fun _ h => h) (hSa _) ?_
          clear hK K
          go_simp
          refine plan_run_on rfl rfl (fun K hK => ?_)
          go_simp
          refine (c2 _ (hSa _)).mono ?_
          rintro e w2 ⟨rfl, rfl⟩
          refine hK _ _ _ (fun _ h => h) (hSa _) ?_
          clear hK K
          go_simp
          apply plan_take rfl rfl
          case hy => (intro w' hS; have e0 := pw_cell_below hS k12'; clear hS; go_simp; try exact rfl)
          go_simp
          apply plan_take rfl rfl
          case hy => (intro w' hS; have e0 := pw_cell_below hS k12'; clear hS; go_simp; try exact rfl)
          go_simp
          refine plan_run_on rfl rfl (fun K hK => ?_)
          go_simp
          refine hK _ _ _ (fun _ h => h) (hSa _) ?_
          clear hK K
          exact plan_done ⟨rfl, rfl, rfl⟩
      case hQ =>
        have hr2 : ((w1.alloc (.cells #[.int .u64 g, .int .i64 at_, .int .i64 x12, .slice none 0 0] 117)).drew).heap[w1.heap.size]? = some (.cells #[.int .u64 g, .int .i64 at_, .int .i64 x12, .slice none 0 0] 117 (0, 0)) := heap_alloc_new w1 _
        have hz2 : ((w1.alloc (.cells #[.int .u64 g, .int .i64 at_, .int .i64 x12, .slice none 0 0] 117)).drew).heap[w.heap.size]? = some (.cells #[.int .u64 0, .int .i64 0, .int .i64 0, .slice none 0 0] 117 (0, 0)) := (Below.heap_alloc w1 _ w.heap.size (blk_lt hz)).trans hz
        have hB2 : Below w.heap.size w ((w1.alloc (.cells #[.int .u64 g, .int .i64 at_, .int .i64 x12, .slice none 0 0] 117)).drew) := (hfin.alloc hfin.size _).drew
        have hlt2 := blk_lt hz
        clear hS0 hSa hz c1 c2
        generalize (w1.alloc (.cells #[.int .u64 g, .int .i64 at_, .int .i64 x12, .slice none 0 0] 117)).drew = w2 at hr2 hz2 hB2 ⊢
        generalize w1.heap.size = rb at hr2 hlt2 ⊢
        clear hfin k12 k12'
        have q0 := cell_of_row _ _ 0 _ _ _ hr2
        have q3 := cell_of_row _ _ 3 _ _ _ hr2
        have hmin : Builtin.min2 (.int .i64 nn) (.int .i64 47) = pure (.int .i64 (m : Int)) := by
          have hmm := HM.out
          rw [min2_int, ← hmm]
          congr 2
          split <;> omega
        have htn : (17 + (m : Int)).toNat = 17 + m := by omega
        have him : (17 : Int) + (m : Int) ≤ 64 := by omega
        have him2 : (17 : Int) + (m : Int) ≤ (c : Int) := by omega
        have z0 := cell_of_row _ _ 0 _ _ _ hz2
        have z1 := cell_of_row _ _ 1 _ _ _ hz2
        have z2 := cell_of_row _ _ 2 _ _ _ hz2
        have z3 := cell_of_row _ _ 3 _ _ _ hz2
        have f0 := frozen_of_row _ _ 0 _ _ hz2
        have f1 := frozen_of_row _ _ 1 _ _ hz2
        have f2 := frozen_of_row _ _ 2 _ _ hz2
        have f3 := frozen_of_row _ _ 3 _ _ hz2
        by_cases hg : g = 0
        · have hno : ¬ headOK b := fun hh => (HOK.out.1 hh).1 hg
          subst hg
          go_wp2
          refine bodyPost_ret (results_ctt rfl _ _ w.heap.size 117 _ _ _ rfl (set4 hz2 (.int .u64 0) (.int .i64 0) (.int .i64 0) (.slice none 0 0)) Tryz.underlying117 rfl (by kernel_rfl)) rfl ?_
          exact head_none hno rfl (below4 hB2 (Nat.le_refl _) _ _ _ _)
        have hg2 : (g == 0) = false := by simpa using hg
        by_cases hn : 131072 < nn
        · have hno : ¬ headOK b := fun hh => by have := (HOK.out.1 hh).2.1; omega
          go_wp2
          refine bodyPost_ret (results_ctt rfl _ _ w.heap.size 117 _ _ _ rfl (set4 hz2 (.int .u64 0) (.int .i64 0) (.int .i64 0) (.slice none 0 0)) Tryz.underlying117 rfl (by kernel_rfl)) rfl ?_
          exact head_none hno rfl (below4 hB2 (Nat.le_refl _) _ _ _ _)
        have hbl2 := hbl w2 hB2
        have BL : ∀ (V : Value), V = .slice (behind (some a) (17 + m) c) (64 - (17 + m)) (c - (17 + m)) → Calls Tryz.prog 158 #[V] w2 fun e w' => e = .returned (.bool bl) ∧ w' = w2 := fun V e => by rw [e]; exact hbl2
        clear hbl hbl2
        by_cases hcm : c = 17 + m
        have hwm : IntKind.i64.wrap (17 + (m : Int)) = 17 + (m : Int) := by rw [IntKind.wrap_i64]; omega
        have h17 : (17 : Int) ≤ 17 + (m : Int) := by omega
        have h017 : (0 : Int) ≤ 17 + (m : Int) := by omega
        · have hm0 : ¬ m = 0 := by omega
          subst hcm
          go_wp2_with fail
          refine (BL _ ?_).mono ?_
          · unfold behind
            rw [if_pos rfl, Nat.sub_self, show 64 - (17 + m) = 0 from by omega]
          rintro e w3 ⟨rfl, rfl⟩
          clear BL
          have hlt3 : rb < w3.heap.size := blk_lt hr2
          cases bl with
          | false =>
            have hno : ¬ headOK b := fun hh => by have := (HOK.out.1 hh).2.2; cases this
            go_wp2
            refine bodyPost_ret (results_ctt rfl _ _ w.heap.size 117 _ _ _ rfl (set4 hz2 (.int .u64 0) (.int .i64 0) (.int .i64 0) (.slice none 0 0)) Tryz.underlying117 rfl (by kernel_rfl)) rfl ?_
            exact head_none hno rfl (below4 hB2 (Nat.le_refl _) _ _ _ _)
          | true =>
            have hh : headOK b := HOK.out.2 ⟨hg, by omega, rfl⟩
            have HP := hid (HRR.out hh)
            clear HRR HOK
            have hRm : ReadsInt w3.drew .u8 (some (a.add 17)) m ((b.drop 17).take m) := by
              have := RB_int (RB_below hpart hB2.drew)
              rwa [hplen] at this
            go_wp2_with fail
            refine wp_region_plan [7, 8] (.take 0 (.take 1 (.take 2 (.take 3 (.take 4 (.take 5 (.run 6 (.tail 7 (.tail 8 .done))))))))) (fun W' => W'.cell? ⟨rb, 3, none⟩ = some (.slice none 0 0)) (by kernel_rfl) (by kernel_rfl) (fun c a d v w h => by cases d <;> exact h) q3 ?_
            have hwm2 : IntKind.i64.wrap (17 + (m : Int)) = 17 + (m : Int) := by rw [IntKind.wrap_i64]; omega
            have h172 : (17 : Int) ≤ 17 + (m : Int) := by omega
            have h0172 : (0 : Int) ≤ 17 + (m : Int) := by omega
            have htn2 : (17 + (m : Int)).toNat = 17 + m := by omega
            iterate 6 (apply plan_take rfl rfl; (case hy => (intro w' hS; go_simp; try exact rfl)); go_simp)
            refine plan_run_on rfl rfl (fun K hK => ?_)
            refine step_append_row (w0 := w3.drew) w3.heap.size (.tmp 53) (.tmp 57) 25 5 .u8 1 rfl Tryz.underlying25 info_u8 (by decide) _ [] ((b.drop 17).take m) (some (a.add 17)) m m rfl rfl (World.ownsRow_nil _ _ _ _) hRm (Below.refl _ _) (Nat.le_refl _) (by simp; omega) ?_
            intro v1 w4 ho hB4 hg4 hat
            have hR4 : KB.R 5 w4 w3.heap.size (fun q => w3.heap.size ≤ q) v1 ((b.drop 17).take m) := Rown (by simpa using ho) (fun q hq => own_base ho q hq)
            obtain ⟨A4, c4, rfl, hle4, hC4⟩ := Kd.R_reads hR4
            rw [hplen] at hle4 hR4 ⊢
            have HR4 := hid hR4
            clear ho hg4 hat hR4 hC4
            have hr4 : w4.heap[rb]? = some (.cells #[.int .u64 g, .int .i64 at_, .int .i64 x12, .slice none 0 0] 117 (0, 0)) := (hB4.block rb hlt3).trans hr2
            have hz4 : w4.heap[w.heap.size]? = some (.cells #[.int .u64 0, .int .i64 0, .int .i64 0, .slice none 0 0] 117 (0, 0)) := (hB4.block w.heap.size (blk_lt hz2)).trans hz2
            have hBw4 : Below w.heap.size w w4 := hB2.drew.trans (hB4.mono hB2.size)
            have p3 := cell_of_row _ _ 3 _ _ _ hr4
            have pf3 := frozen_of_row _ _ 3 _ _ hr4
            simp at p3
            refine hK _ _ _ (fun _ h => h) p3 ?_
            clear hK K
            go_simp
            refine plan_tail_on rfl rfl (fun K hK => ?_)
            go_simp
            refine hK _ _ ?_
            clear hK K
            refine plan_tail_on rfl rfl (fun K hK => ?_)
            go_simp
            refine hK _ _ (plan_done ?_)
            clear hK K
            have hr5 := heap_setCell_same w4 rb 3 _ _ (.slice A4 m c4) hr4
            have hz5 := (Below.heap_setCell w4 ⟨rb, 3, none⟩ (.slice A4 m c4) w.heap.size (by show w.heap.size ≠ rb; omega)).trans hz4
            have hB5 : Below w.heap.size w (w4.setCell ⟨rb, 3, none⟩ (.slice A4 m c4)) := hBw4.setCell (p := ⟨rb, 3, none⟩) (by show w.heap.size ≤ rb; omega) _
            have hk5 : ∀ k, w3.heap.size ≤ k → (w4.setCell ⟨rb, 3, none⟩ (.slice A4 m c4)).heap[k]? = w4.heap[k]? := fun k hk => Below.heap_setCell w4 ⟨rb, 3, none⟩ (.slice A4 m c4) k (by show k ≠ rb; omega)
            clear q0 q3 z0 z1 z2 z3 f0 f1 f2 f3 p3 pf3 hr4 hz4
            generalize w4.setCell ⟨rb, 3, none⟩ (.slice A4 m c4) = w5 at hr5 hz5 hB5 hk5 ⊢
            have hn2 := blk_lt hz2
            clear hr2 hz2 hRm
            have q0 := cell_of_row _ _ 0 _ _ _ hr5
            have q1 := cell_of_row _ _ 1 _ _ _ hr5
            have q2 := cell_of_row _ _ 2 _ _ _ hr5
            have q3 := cell_of_row _ _ 3 _ _ _ hr5
            have z0 := cell_of_row _ _ 0 _ _ _ hz5
            have z1 := cell_of_row _ _ 1 _ _ _ hz5
            have z2 := cell_of_row _ _ 2 _ _ _ hz5
            have z3 := cell_of_row _ _ 3 _ _ _ hz5
            have f0 := frozen_of_row _ _ 0 _ _ hz5
            have f1 := frozen_of_row _ _ 1 _ _ hz5
            have f2 := frozen_of_row _ _ 2 _ _ hz5
            have f3 := frozen_of_row _ _ 3 _ _ hz5
            simp at q0 q1 q2 q3 z0 z1 z2 z3
            go_wp2
            refine bodyPost_ret (results_ctt rfl _ _ w.heap.size 117 _ _ _ rfl (set4 hz5 (.int .u64 g) (.int .i64 at_) (.int .i64 x12) (.slice A4 m c4)) Tryz.underlying117 rfl (by kernel_rfl)) rfl ?_
            rw [HP.out]
            refine ⟨A4, c4, rfl, ?_, hle4, below4 hB5 (Nat.le_refl _) _ _ _ _⟩
            have hall : ∀ k, w3.heap.size ≤ k → (W4s w5 w.heap.size (.int .u64 g) (.int .i64 at_) (.int .i64 x12) (.slice A4 m c4)).heap[k]? = w4.heap[k]? := fun k hk => by
              have hb := (below4 (Below.refl w.heap.size w5) (Nat.le_refl _) (.int .u64 g) (.int .i64 at_) (.int .i64 x12) (.slice A4 m c4))
              have hne : k ≠ w.heap.size := by omega
              rw [← hk5 k hk]
              unfold W4s
              rw [Below.heap_setCell _ _ _ _ hne, Below.heap_setCell _ _ _ _ hne, Below.heap_setCell _ _ _ _ hne, Below.heap_setCell _ _ _ _ hne]
            exact Kd.R_lower (Kd.R_mono (Kd.R_step HR4.out (fun k hk _ => hall k hk)) (fun k hk => by omega)) (by omega)
        · go_wp2_with fail
          refine (BL _ ?_).mono ?_
          · unfold behind
            rw [if_neg hcm]
            rfl
          rintro e w3 ⟨rfl, rfl⟩
          clear BL
          have hlt3 : rb < w3.heap.size := blk_lt hr2
          cases bl with
          | false =>
            have hno : ¬ headOK b := fun hh => by have := (HOK.out.1 hh).2.2; cases this
            go_wp2
            refine bodyPost_ret (results_ctt rfl _ _ w.heap.size 117 _ _ _ rfl (set4 hz2 (.int .u64 0) (.int .i64 0) (.int .i64 0) (.slice none 0 0)) Tryz.underlying117 rfl (by kernel_rfl)) rfl ?_
            exact head_none hno rfl (below4 hB2 (Nat.le_refl _) _ _ _ _)
          | true =>
            have hh : headOK b := HOK.out.2 ⟨hg, by omega, rfl⟩
            have HP := hid (HRR.out hh)
            clear HRR HOK
            have hRm : ReadsInt w3.drew .u8 (some (a.add 17)) m ((b.drop 17).take m) := by
              have := RB_int (RB_below hpart hB2.drew)
              rwa [hplen] at this
            go_wp2_with fail
            refine wp_region_plan [7, 8] (.take 0 (.take 1 (.take 2 (.take 3 (.take 4 (.take 5 (.run 6 (.tail 7 (.tail 8 .done))))))))) (fun W' => W'.cell? ⟨rb, 3, none⟩ = some (.slice none 0 0)) (by kernel_rfl) (by kernel_rfl) (fun c a d v w h => by cases d <;> exact h) q3 ?_
            have hwm2 : IntKind.i64.wrap (17 + (m : Int)) = 17 + (m : Int) := by rw [IntKind.wrap_i64]; omega
            have h172 : (17 : Int) ≤ 17 + (m : Int) := by omega
            have h0172 : (0 : Int) ≤ 17 + (m : Int) := by omega
            have htn2 : (17 + (m : Int)).toNat = 17 + m := by omega
            iterate 6 (apply plan_take rfl rfl; (case hy => (intro w' hS; go_simp; try exact rfl)); go_simp)
            refine plan_run_on rfl rfl (fun K hK => ?_)
            refine step_append_row (w0 := w3.drew) w3.heap.size (.tmp 53) (.tmp 57) 25 5 .u8 1 rfl Tryz.underlying25 info_u8 (by decide) _ [] ((b.drop 17).take m) (some (a.add 17)) m (c - 17) rfl rfl (World.ownsRow_nil _ _ _ _) hRm (Below.refl _ _) (Nat.le_refl _) (by simp; omega) ?_
            intro v1 w4 ho hB4 hg4 hat
            have hR4 : KB.R 5 w4 w3.heap.size (fun q => w3.heap.size ≤ q) v1 ((b.drop 17).take m) := Rown (by simpa using ho) (fun q hq => own_base ho q hq)
            obtain ⟨A4, c4, rfl, hle4, hC4⟩ := Kd.R_reads hR4
            rw [hplen] at hle4 hR4 ⊢
            have HR4 := hid hR4
            clear ho hg4 hat hR4 hC4
            have hr4 : w4.heap[rb]? = some (.cells #[.int .u64 g, .int .i64 at_, .int .i64 x12, .slice none 0 0] 117 (0, 0)) := (hB4.block rb hlt3).trans hr2
            have hz4 : w4.heap[w.heap.size]? = some (.cells #[.int .u64 0, .int .i64 0, .int .i64 0, .slice none 0 0] 117 (0, 0)) := (hB4.block w.heap.size (blk_lt hz2)).trans hz2
            have hBw4 : Below w.heap.size w w4 := hB2.drew.trans (hB4.mono hB2.size)
            have p3 := cell_of_row _ _ 3 _ _ _ hr4
            have pf3 := frozen_of_row _ _ 3 _ _ hr4
            simp at p3
            refine hK _ _ _ (fun _ h => h) p3 ?_
            clear hK K
            go_simp
            refine plan_tail_on rfl rfl (fun K hK => ?_)
            go_simp
            refine hK _ _ ?_
            clear hK K
            refine plan_tail_on rfl rfl (fun K hK => ?_)
            go_simp
            refine hK _ _ (plan_done ?_)
            clear hK K
            have hr5 := heap_setCell_same w4 rb 3 _ _ (.slice A4 m c4) hr4
            have hz5 := (Below.heap_setCell w4 ⟨rb, 3, none⟩ (.slice A4 m c4) w.heap.size (by show w.heap.size ≠ rb; omega)).trans hz4
            have hB5 : Below w.heap.size w (w4.setCell ⟨rb, 3, none⟩ (.slice A4 m c4)) := hBw4.setCell (p := ⟨rb, 3, none⟩) (by show w.heap.size ≤ rb; omega) _
            have hk5 : ∀ k, w3.heap.size ≤ k → (w4.setCell ⟨rb, 3, none⟩ (.slice A4 m c4)).heap[k]? = w4.heap[k]? := fun k hk => Below.heap_setCell w4 ⟨rb, 3, none⟩ (.slice A4 m c4) k (by show k ≠ rb; omega)
            clear q0 q3 z0 z1 z2 z3 f0 f1 f2 f3 p3 pf3 hr4 hz4
            generalize w4.setCell ⟨rb, 3, none⟩ (.slice A4 m c4) = w5 at hr5 hz5 hB5 hk5 ⊢
            have hn2 := blk_lt hz2
            clear hr2 hz2 hRm
            have q0 := cell_of_row _ _ 0 _ _ _ hr5
            have q1 := cell_of_row _ _ 1 _ _ _ hr5
            have q2 := cell_of_row _ _ 2 _ _ _ hr5
            have q3 := cell_of_row _ _ 3 _ _ _ hr5
            have z0 := cell_of_row _ _ 0 _ _ _ hz5
            have z1 := cell_of_row _ _ 1 _ _ _ hz5
            have z2 := cell_of_row _ _ 2 _ _ _ hz5
            have z3 := cell_of_row _ _ 3 _ _ _ hz5
            have f0 := frozen_of_row _ _ 0 _ _ hz5
            have f1 := frozen_of_row _ _ 1 _ _ hz5
            have f2 := frozen_of_row _ _ 2 _ _ hz5
            have f3 := frozen_of_row _ _ 3 _ _ hz5
            simp at q0 q1 q2 q3 z0 z1 z2 z3
            go_wp2
            refine bodyPost_ret (results_ctt rfl _ _ w.heap.size 117 _ _ _ rfl (set4 hz5 (.int .u64 g) (.int .i64 at_) (.int .i64 x12) (.slice A4 m c4)) Tryz.underlying117 rfl (by kernel_rfl)) rfl ?_
            rw [HP.out]
            refine ⟨A4, c4, rfl, ?_, hle4, below4 hB5 (Nat.le_refl _) _ _ _ _⟩
            have hall : ∀ k, w3.heap.size ≤ k → (W4s w5 w.heap.size (.int .u64 g) (.int .i64 at_) (.int .i64 x12) (.slice A4 m c4)).heap[k]? = w4.heap[k]? := fun k hk => by
              have hb := (below4 (Below.refl w.heap.size w5) (Nat.le_refl _) (.int .u64 g) (.int .i64 at_) (.int .i64 x12) (.slice A4 m c4))
              have hne : k ≠ w.heap.size := by omega
              rw [← hk5 k hk]
              unfold W4s
              rw [Below.heap_setCell _ _ _ _ hne, Below.heap_setCell _ _ _ _ hne, Below.heap_setCell _ _ _ _ hne, Below.heap_setCell _ _ _ _ hne]
            exact Kd.R_lower (Kd.R_mono (Kd.R_step HR4.out (fun k hk _ => hall k hk)) (fun k hk => by omega)) (by omega)
    · have hno : ¬ headOK b := fun hh => ht hh.2.1
      have hS : ¬ strOfNums (b.take 2) = ⟨#[102, 104]⟩ := fun e => ht (hs.1 e)
      generalize strOfNums (b.take 2) = S at hcv hS
      have hS2 : (S.toList == [102, 104]) = false := str_neq hS
      clear hs
      rw [← hw0] at hcv
      clear hw0
      go_enter Tryz.func121, Tryz.ntmps121
      go_wp2
      refine bodyPost_ret (results_ctt rfl _ _ w.heap.size 117 _ _ _ rfl (heap_alloc_new w _) Tryz.underlying117 rfl (by kernel_rfl)) rfl ?_
      exact head_none hno rfl (below_alloc (Below.refl _ _) _)
  · have hno : ¬ headOK b := fun hh => h64 hh.1
    have hne : ((b.length : Int) != 64) = true := by simp; omega
    have hne2 : ¬ (b.length : Int) = 64 := by omega
    clear hw0
    go_enter Tryz.func121, Tryz.ntmps121
    go_wp2
    refine bodyPost_ret (results_ctt rfl _ _ w.heap.size 117 _ _ _ rfl (heap_alloc_new w _) Tryz.underlying117 rfl (by kernel_rfl)) rfl ?_
    exact head_none hno rfl (below_alloc (Below.refl _ _) _)
end Go.Proofs.YticogmpafehomaaGreatDoor

set_option linter.unusedVariables false
set_option linter.unusedSimpArgs false
namespace Go.Proofs.YticogmpafehomaaGreatDoor
open Go.RowKit Go.Proofs.YticogmpafehomaaGreatDoorW.PrintWords Go.Proofs.YticogmpafehomaaGreatDoorW.PrintMore
attribute [local go_sem] max_three max2_int

/-- May a stretch be read? -/
def regE (D : DM) (base end_ : Int) : Int := if base < 0 ∨ end_ < base ∨ (D.n : Int) < end_ then 1 else if D.gone = true then 61 else 0
theorem region_any {w : World} {ok : Nat → Prop} {p : Nat} {D : DM} (h : PDisk w ok p D) (base end_ : Int) :
  Calls Tryz.prog 178 #[.pointer (some ⟨p, 0, none⟩), .int .i64 base, .int .i64 end_] w fun e w' => e = .returned (.int .i64 (regE D base end_)) ∧ w = w' := by
  have hB := blocks_any h
  have hD := dead_any h
  unfold regE
  by_cases h1 : base < 0
  · rw [if_pos (.inl h1)]
    go_enter Tryz.func178, Tryz.ntmps178
    go_wp2
    go_ret
    exact ⟨rfl, rfl⟩
  by_cases h2 : end_ < base
  · rw [if_pos (.inr (.inl h2))]
    go_enter Tryz.func178, Tryz.ntmps178
    go_wp2
    go_ret
    exact ⟨rfl, rfl⟩
  by_cases h3 : (D.n : Int) < end_
  · rw [if_pos (.inr (.inr h3))]
    go_enter Tryz.func178, Tryz.ntmps178
    go_wp2_with (go_at_call 112; refine hB.mono ?_; rintro e w' ⟨rfl, rfl⟩)
    go_ret
    exact ⟨rfl, rfl⟩
  rw [if_neg (by omega)]
  cases hg : D.gone
  all_goals
    rw [hg] at hD
    clear hg
    go_enter Tryz.func178, Tryz.ntmps178
    go_wp2_with (first | (go_at_call 112; refine hB.mono ?_; rintro e w' ⟨rfl, rfl⟩) | (go_at_call 110; refine hD.mono ?_; rintro e w' ⟨rfl, rfl⟩))
    go_ret
    exact ⟨rfl, rfl⟩

/-- The greatest generation in k blocks from b0 on. -/
def genK (D : DM) (b0 : Nat) : Nat → Int
  | 0 => 0
  | k + 1 => max (max (genK D b0 k) (headR (D.blk (b0 + k))).gen) (bodyV (D.blk (b0 + k))).1
theorem headR_gen {b : List Int} (h : Bytes b) : 0 ≤ (headR b).gen ∧ (headR b).gen < 18446744073709551616 := by
  unfold headR
  split
  · rename_i hh
    have := numAt_lt h (i := 2) (n := 8) (by have := hh.1; omega)
    rwa [show (256 : Int) ^ 8 = 18446744073709551616 from by decide] at this
  · simp
theorem bodyV_gen {b : List Int} (h : Bytes b) : 0 ≤ (bodyV b).1 ∧ (bodyV b).1 < 18446744073709551616 := by
  unfold bodyV
  split
  · rename_i hh
    have := numAt_lt h (i := 2) (n := 8) (by have := hh.1; omega)
    rwa [show (256 : Int) ^ 8 = 18446744073709551616 from by decide] at this
  · simp
theorem blk_bytes {D : DM} (h : D.wf) (i : Nat) : Bytes (D.blk i) := (h.bytes.drop _).take _
theorem regE_ok {D : DM} {base end_ : Int} (h : regE D base end_ = 0) : 0 ≤ base ∧ base ≤ end_ ∧ end_ ≤ D.n ∧ D.gone = false := by
  unfold regE at h
  split at h
  · simp at h
  · split at h
    · simp at h
    · rename_i h1 h2; exact ⟨by omega, by omega, by omega, by simpa using h2⟩
theorem ready_in {D : DM} {i : Nat} (hg : D.gone = false) (hi : i < D.n) : D.ready i = 0 := by
  unfold DM.ready
  rw [if_neg (by simp [hg]), if_neg (by omega)]
end Go.Proofs.YticogmpafehomaaGreatDoor

set_option linter.unusedVariables false
set_option linter.unusedSimpArgs false
namespace Go.Proofs.YticogmpafehomaaGreatDoor
open Go.RowKit Go.Proofs.YticogmpafehomaaGreatDoorW.PrintWords Go.Proofs.YticogmpafehomaaGreatDoorW.PrintMore
attribute [local go_sem] max_three max2_int min_two min2_int

def bodiesN (n : Nat) : Nat := (n - 47 + 49) / 50
/-- How many bytes body block k + 1 has. -/
def hasK (n k : Nat) : Nat := min (n - (47 + 50 * k)) 50
/-- The bytes that a head and k body blocks tell. -/
def bytesK (D : DM) (b0 n : Nat) : Nat → List Int
  | 0 => (headR (D.blk b0)).bytes
  | k + 1 => bytesK D b0 n k ++ ((D.blk (b0 + (k + 1))).drop 14).take (hasK n k)
/-- Is block b0 + k + 1 body k + 1 of that record? -/
def goodK (D : DM) (b0 n : Nat) (gen at_ : Int) (k : Nat) : Bool :=
  decide (bodyV (D.blk (b0 + (k + 1))) = (gen, at_, ((k + 1 : Nat) : Int), true)) && blank ((D.blk (b0 + (k + 1))).drop (14 + hasK n k))
def readE (D : DM) (base end_ at_ : Int) : Int := if at_ < 0 then 1 else regE D base end_
/-- The record that Read tells of. -/
def readV (D : DM) (base end_ gen at_ : Int) : Option SR :=
  if readE D base end_ at_ = 0 ∧ at_ < end_ - base ∧ headOK (D.blk (base + at_).toNat) ∧ (headR (D.blk (base + at_).toNat)).gen = gen ∧ (headR (D.blk (base + at_).toNat)).at_ = at_ ∧
      need (headN (D.blk (base + at_).toNat)) ≤ end_ - base - at_ ∧
      ((List.range (bodiesN (headN (D.blk (base + at_).toNat)).toNat)).all (goodK D (base + at_).toNat (headN (D.blk (base + at_).toNat)).toNat gen at_)) = true then
    some ⟨gen, at_, (headR (D.blk (base + at_).toNat)).kind, bytesK D (base + at_).toNat (headN (D.blk (base + at_).toNat)).toNat (bodiesN (headN (D.blk (base + at_).toNat)).toNat)⟩
  else none
def noR : SR := ⟨0, 0, 0, []⟩
/-- What Read hands back. -/
def ReadPost (v : Option SR) (E : Int) (w : World) (e : Ending) (w' : World) : Prop :=
  ∃ A c, e = .returned (.tuple #[recV (v.getD noR) A c, .bool v.isSome, .int .i64 E]) ∧ KB.R 5 w' w.heap.size (fun k => w.heap.size ≤ k) (.slice A (v.getD noR).bytes.length c) (v.getD noR).bytes ∧ (v.getD noR).bytes.length ≤ c ∧ Below w.heap.size w w'
theorem readpost_none {E : Int} {w w' : World} {v : Value} (hv : v = .tuple #[.agg #[.int .u64 0, .int .i64 0, .int .i64 0, .slice none 0 0], .bool false, .int .i64 E]) (hB : Below w.heap.size w w') : ReadPost none E w (.returned v) w' :=
  ⟨none, 0, by rw [hv]; rfl, Kd.R_nil _ _ _ _ _, Nat.le_refl _, hB⟩
theorem headR_zero {w : World} : (w.alloc (.cells #[.int .u64 0, .int .i64 0, .int .i64 0, .slice none 0 0] 117)).heap[w.heap.size]? = some (.cells #[.int .u64 0, .int .i64 0, .int .i64 0, .slice none 0 0] 117 (0, 0)) := heap_alloc_new w _
set_option maxRecDepth 100000 in
set_option maxHeartbeats 1000000 in
theorem read_errD {w : World} {ok : Nat → Prop} {p : Nat} {D : DM} (h : PDisk w ok p D) (base end_ gen at_ : Int) (he : ¬ readE D base end_ at_ = 0) :
  Calls Tryz.prog 151 #[.pointer (some ⟨p, 0, none⟩), .int .i64 base, .int .i64 end_, .int .u64 gen, .int .i64 at_] w (ReadPost none (readE D base end_ at_) w) := by
  have hB0 : Below w.heap.size w (w.alloc (.cells #[.int .u64 0, .int .i64 0, .int .i64 0, .slice none 0 0] 117)) := below_alloc (Below.refl _ _) _
  have h0 := h.step (w1 := w.alloc (.cells #[.int .u64 0, .int .i64 0, .int .i64 0, .slice none 0 0] 117)) (fun k _ hk => hB0.block k hk)
  have hB := blocks_any h0
  have hR := region_any h0 base end_
  have HB0 := hid hB0
  clear hB0
  by_cases h1 : base < 0
  · have hE : readE D base end_ at_ = 1 := by unfold readE regE; split <;> simp [h1]
    rw [hE]
    go_enter Tryz.func151, Tryz.ntmps151
    go_wp2
    refine bodyPost_ret (results_ctt rfl _ _ w.heap.size 117 _ _ _ rfl (heap_alloc_new w _) Tryz.underlying117 rfl (by kernel_rfl)) rfl ?_
    exact readpost_none rfl HB0.out
  by_cases h2 : end_ < base
  · have hE : readE D base end_ at_ = 1 := by unfold readE regE; split <;> simp [h2]
    rw [hE]
    go_enter Tryz.func151, Tryz.ntmps151
    go_wp2
    refine bodyPost_ret (results_ctt rfl _ _ w.heap.size 117 _ _ _ rfl (heap_alloc_new w _) Tryz.underlying117 rfl (by kernel_rfl)) rfl ?_
    exact readpost_none rfl HB0.out
  by_cases h3 : (D.n : Int) < end_
  · have hE : readE D base end_ at_ = 1 := by unfold readE regE; split <;> simp [h3]
    rw [hE]
    go_enter Tryz.func151, Tryz.ntmps151
    go_wp2_with (go_at_call 112; refine hB.mono ?_; rintro e w' ⟨rfl, rfl⟩)
    refine bodyPost_ret (results_ctt rfl _ _ w.heap.size 117 _ _ _ rfl (heap_alloc_new w _) Tryz.underlying117 rfl (by kernel_rfl)) rfl ?_
    exact readpost_none rfl HB0.out
  by_cases h4 : at_ < 0
  · have hE : readE D base end_ at_ = 1 := by unfold readE; simp [h4]
    rw [hE]
    go_enter Tryz.func151, Tryz.ntmps151
    go_wp2_with (go_at_call 112; refine hB.mono ?_; rintro e w' ⟨rfl, rfl⟩)
    refine bodyPost_ret (results_ctt rfl _ _ w.heap.size 117 _ _ _ rfl (heap_alloc_new w _) Tryz.underlying117 rfl (by kernel_rfl)) rfl ?_
    exact readpost_none rfl HB0.out
  have hE : readE D base end_ at_ = regE D base end_ := by unfold readE; rw [if_neg h4]
  rw [hE] at he ⊢
  generalize regE D base end_ = E at he hR ⊢
  have he2 : (E != 0) = true := by simpa using he
  clear hE
  go_enter Tryz.func151, Tryz.ntmps151
  go_wp2_with (first | (go_at_call 112; refine hB.mono ?_; rintro e w' ⟨rfl, rfl⟩) | (go_at_call 178; refine hR.mono ?_; rintro e w' ⟨rfl, rfl⟩))
  refine bodyPost_ret (results_ctt rfl _ _ w.heap.size 117 _ _ _ rfl (heap_alloc_new w _) Tryz.underlying117 rfl (by kernel_rfl)) rfl ?_
  exact readpost_none rfl HB0.out
/-- What holds where a block is to be read. -/
structure RdOk (D : DM) (base end_ at_ : Int) : Prop where
  b : 0 ≤ base
  e : base ≤ end_
  n : end_ ≤ D.n
  g : D.gone = false
  a : 0 ≤ at_
theorem readE_ok {D : DM} {base end_ at_ : Int} (h : readE D base end_ at_ = 0) : RdOk D base end_ at_ := by
  unfold readE at h
  split at h
  · cases h
  · obtain ⟨a, b, c, d⟩ := regE_ok h
    exact ⟨a, b, c, d, by omega⟩
set_option maxRecDepth 100000 in
set_option maxHeartbeats 1000000 in
theorem read_outD {w : World} {ok : Nat → Prop} {p : Nat} {D : DM} (h : PDisk w ok p D) (base end_ gen at_ : Int) (he : readE D base end_ at_ = 0) (ho : end_ - base ≤ at_) :
  Calls Tryz.prog 151 #[.pointer (some ⟨p, 0, none⟩), .int .i64 base, .int .i64 end_, .int .u64 gen, .int .i64 at_] w (ReadPost none 0 w) := by
  have hB0 : Below w.heap.size w (w.alloc (.cells #[.int .u64 0, .int .i64 0, .int .i64 0, .slice none 0 0] 117)) := below_alloc (Below.refl _ _) _
  have h0 := h.step (w1 := w.alloc (.cells #[.int .u64 0, .int .i64 0, .int .i64 0, .slice none 0 0] 117)) (fun k _ hk => hB0.block k hk)
  have hB := blocks_any h0
  have hR := region_any h0 base end_
  have HB0 := hid hB0
  obtain ⟨r1, r2, r3, r4, r5⟩ := readE_ok he
  rw [show regE D base end_ = 0 from by unfold readE at he; rwa [if_neg (by omega)] at he] at hR
  have hn := h.1.hi
  clear hB0 he
  have n1 : ¬ base < 0 := by omega
  have n2 : ¬ end_ < base := by omega
  have n3 : ¬ (D.n : Int) < end_ := by omega
  have n4 : ¬ at_ < 0 := by omega
  have hw : IntKind.i64.wrap (end_ - base) = end_ - base := by rw [IntKind.wrap_i64]; omega
  go_enter Tryz.func151, Tryz.ntmps151
  go_wp2_with (first | (go_at_call 112; refine hB.mono ?_; rintro e w' ⟨rfl, rfl⟩) | (go_at_call 178; refine hR.mono ?_; rintro e w' ⟨rfl, rfl⟩))
  refine bodyPost_ret (results_ctt rfl _ _ w.heap.size 117 _ _ _ rfl (heap_alloc_new w _) Tryz.underlying117 rfl (by kernel_rfl)) rfl ?_
  exact readpost_none rfl HB0.out
end Go.Proofs.YticogmpafehomaaGreatDoor

set_option linter.unusedVariables false
set_option linter.unusedSimpArgs false
namespace Go.Proofs.YticogmpafehomaaGreatDoor
open Go.RowKit Go.Proofs.YticogmpafehomaaGreatDoorW.PrintWords Go.Proofs.YticogmpafehomaaGreatDoorW.PrintMore
attribute [local go_sem] min_two

theorem read_okI {w : World} {ok : Nat → Prop} {p : Nat} {D : DM} (j : Nat) (i : Int) (h : PDisk w ok p D) (hij : i = (j : Int)) (hr : D.ready j = 0) (hi : j < D.n) :
  Calls Tryz.prog 65 #[.pointer (some ⟨p, 0, none⟩), .int .i64 i] w fun e w' => e = .returned (.tuple #[.slice (some ⟨w.heap.size, 0, none⟩) 64 64, .int .i64 0]) ∧ w' = w.alloc (.cells (nums .u8 (D.blk j)).toArray 135) := by
  subst hij
  exact read_ok j h hr hi
theorem headN_in (b : List Int) (h : Bytes b) : 0 ≤ headN b ∧ headN b ≤ 131072 ∧ (headR b).bytes.length = min (headN b).toNat 47 := by
  unfold headN headR
  split
  · rename_i hh
    have h0 := numAt_lt h (i := 13) (n := 4) (by have := hh.1; omega)
    refine ⟨h0.1, hh.2.2.2.1, ?_⟩
    dsimp only
    rw [part_len (by have := hh.1; unfold headM; omega)]
    rfl
  · simp
theorem hasK_le (n k : Nat) : hasK n k ≤ 50 := Nat.min_le_right _ _
theorem blk_part_len {D : DM} (h : D.wf) {i m : Nat} (hi : i < D.n) (hm : m ≤ 50) : (((D.blk i).drop 14).take m).length = m := part_len (by rw [blk_length h hi]; omega)
theorem bytesK_len {D : DM} (h : D.wf) {b0 n : Nat} (hn : (headR (D.blk b0)).bytes.length = min n 47) : ∀ k, b0 + k < D.n → (bytesK D b0 n k).length = min n (47 + 50 * k)
  | 0, _ => hn
  | k + 1, hk => by
    simp only [bytesK, List.length_append]
    rw [bytesK_len h hn k (by omega), blk_part_len h hk (hasK_le n k)]
    unfold hasK
    omega
theorem bodiesN_lt {n k : Nat} : k < bodiesN n ↔ 47 + 50 * k < n := by unfold bodiesN; omega
theorem need_bodiesN {n : Nat} (h : n ≤ 131072) : need (n : Int) = (bodiesN n : Int) + 1 := by
  unfold need bodiesN
  rw [if_neg (by omega)]
  split <;> omega
theorem readV_in {D : DM} {b a e : Nat} (gen : Int) (hE : readE D b e a = 0) (hae : b + a < e) : readV D b e gen a =
    if headOK (D.blk (b + a)) ∧ (headR (D.blk (b + a))).gen = gen ∧ (headR (D.blk (b + a))).at_ = a ∧ need (headN (D.blk (b + a))) ≤ (e : Int) - b - a ∧
      ((List.range (bodiesN (headN (D.blk (b + a))).toNat)).all (goodK D (b + a) (headN (D.blk (b + a))).toNat gen a)) = true then
      some ⟨gen, a, (headR (D.blk (b + a))).kind, bytesK D (b + a) (headN (D.blk (b + a))).toNat (bodiesN (headN (D.blk (b + a))).toNat)⟩ else none := by
  unfold readV
  rw [show ((b : Int) + (a : Int)).toNat = b + a from by omega]
  have h1 : (a : Int) < (e : Int) - (b : Int) := by omega
  simp only [hE, h1, true_and]
/-- A record's block holds them. -/
structure RdIn (w wr : World) (rb : Nat) (g a kd : Int) (A : Option Addr) (c : Nat) (xs : List Int) : Prop where
  z : wr.heap[w.heap.size]? = some (.cells #[.int .u64 0, .int .i64 0, .int .i64 0, .slice none 0 0] 117 (0, 0))
  r : wr.heap[rb]? = some (.cells #[.int .u64 g, .int .i64 a, .int .i64 kd, .slice A xs.length c] 117 (0, 0))
  row : KB.R 5 wr w.heap.size (fun q => w.heap.size ≤ q) (.slice A xs.length c) xs
  le : xs.length ≤ c
  bel : Below w.heap.size w wr
theorem RdIn.below {w wr w' : World} {rb : Nat} {g a kd : Int} {A : Option Addr} {c : Nat} {xs : List Int} (h : RdIn w wr rb g a kd A c xs) (hb : Below wr.heap.size wr w') : RdIn w w' rb g a kd A c xs :=
  ⟨(hb.block _ (blk_lt h.z)).trans h.z, (hb.block _ (blk_lt h.r)).trans h.r, Kd.R_below h.row hb, h.le, h.bel.trans (hb.mono h.bel.size)⟩
theorem RdIn.end_ {w wr : World} {rb : Nat} {g a kd : Int} {A : Option Addr} {c : Nat} {xs : List Int} (h : RdIn w wr rb g a kd A c xs) (hrb : w.heap.size < rb) {v : Value} (hv : v = .tuple #[.agg #[.int .u64 g, .int .i64 a, .int .i64 kd, .slice A xs.length c], .bool true, .int .i64 0]) :
    ReadPost (some ⟨g, a, kd, xs⟩) 0 w (.returned v) (W4s wr w.heap.size (.int .u64 g) (.int .i64 a) (.int .i64 kd) (.slice A xs.length c)) := by
  refine ⟨A, c, by rw [hv]; rfl, ?_, h.le, below4 h.bel (Nat.le_refl _) _ _ _ _⟩
  refine Kd.R_mono (Kd.R_step (Kd.R_types h.row h.z (by decide)) (fun k hk _ => ?_)) (fun k hk => hk.1)
  unfold W4s
  rw [Below.heap_setCell _ _ _ _ hk.2, Below.heap_setCell _ _ _ _ hk.2, Below.heap_setCell _ _ _ _ hk.2, Below.heap_setCell _ _ _ _ hk.2]
theorem all_range {n : Nat} {f : Nat → Bool} {k : Nat} (hk : k < n) (hf : f k = false) : (List.range n).all f = false := by
  rw [List.all_eq_false]
  exact ⟨k, List.mem_range.2 hk, by rw [hf]; simp⟩
theorem all_range_true {n : Nat} {f : Nat → Bool} (hf : ∀ k, k < n → f k = true) : (List.range n).all f = true := List.all_eq_true.2 (fun k hk => hf k (List.mem_range.1 hk))
def GoodTo (D : DM) (b0 n : Nat) (gen at_ : Int) (k : Nat) : Prop := ∀ i, i < k → goodK D b0 n gen at_ i = true
set_option maxRecDepth 100000 in
set_option maxHeartbeats 4000000 in
theorem read_inD {w : World} {ok : Nat → Prop} {p : Nat} {D : DM} (h : PDisk w ok p D) (b a e : Nat) (gen : Int) (hg : D.gone = false) (he : e ≤ D.n) (hae : b + a < e) :
  Calls Tryz.prog 151 #[.pointer (some ⟨p, 0, none⟩), .int .i64 (b : Nat), .int .i64 (e : Nat), .int .u64 gen, .int .i64 (a : Nat)] w (ReadPost (readV D b e gen a) 0 w) := by
  have hn := h.1.hi
  have hRE : regE D (b : Int) (e : Int) = 0 := by unfold regE; rw [if_neg (by omega), if_neg (by simp [hg])]
  have hE : readE D b e a = 0 := by unfold readE; rw [if_neg (by omega), hRE]
  have hV := readV_in gen hE hae
  have hB0 : Below w.heap.size w (w.alloc (.cells #[.int .u64 0, .int .i64 0, .int .i64 0, .slice none 0 0] 117)) := below_alloc (Below.refl _ _) _
  have h0 := h.step (w1 := w.alloc (.cells #[.int .u64 0, .int .i64 0, .int .i64 0, .slice none 0 0] 117)) (fun k _ hk => hB0.block k hk)
  have hB := blocks_any h0
  have hR := region_any h0 (b : Int) (e : Int)
  rw [hRE] at hR
  have hX := blk_length h.1 (i := b + a) (by omega)
  have hXb := blk_bytes h.1 (b + a)
  have hrd := fun i hi => read_okI (b + a) i h0 hi (ready_in hg (by omega)) (by omega)
  obtain ⟨hN1, hN2, hN3⟩ := headN_in _ hXb
  have hBL := bytesK_len h.1 hN3
  obtain ⟨n, hNn⟩ := Int.eq_ofNat_of_zero_le hN1
  rw [hNn] at hN2
  have hNt : (headN (D.blk (b + a))).toNat = n := by rw [hNn]; simp
  rw [hNt] at hV hN3 hBL
  rw [hNn] at hV
  have n1 : ¬ (b : Int) < 0 := by omega
  have n2 : ¬ (e : Int) < (b : Int) := by omega
  have n3 : ¬ (D.n : Int) < (e : Int) := by omega
  have n4 : ¬ (a : Int) < 0 := by omega
  have n5 : ¬ (e : Int) - (b : Int) ≤ (a : Int) := by omega
  have hw1 : IntKind.i64.wrap ((e : Int) - (b : Int)) = (e : Int) - (b : Int) := by rw [IntKind.wrap_i64]; omega
  have hw2 : IntKind.i64.wrap ((b : Int) + (a : Int)) = (b : Int) + (a : Int) := by rw [IntKind.wrap_i64]; omega
  have hn131 : n ≤ 131072 := by omega
  have HX := hid hX
  have HBL := hid hBL
  have HB0 := hid hB0
  have hRb : (headR (D.blk (b + a))).bytes = bytesK D (b + a) n 0 := rfl
  have HV := hid hV
  have HNn := hid hNn
  clear hE hRE hX hBL hB0 hV hNt hNn hN1
  generalize hVV : readV D b e gen a = VV at HV ⊢
  clear hVV
  go_enter Tryz.func151, Tryz.ntmps151
  go_wp2_with (first | (go_at_call 112; refine hB.mono ?_; rintro e w' ⟨rfl, rfl⟩) | (go_at_call 178; refine hR.mono ?_; rintro e w' ⟨rfl, rfl⟩))
  refine (hrd _ (by omega)).mono ?_
  rintro e0 w1 ⟨rfl, hw1e⟩
  have hz1 : w1.heap[w.heap.size]? = some (.cells #[.int .u64 0, .int .i64 0, .int .i64 0, .slice none 0 0] 117 (0, 0)) := by rw [hw1e, Below.heap_alloc _ _ _ (by simp)]; exact headR_zero
  have hBw1 : Below w.heap.size w w1 := by rw [hw1e]; exact HB0.out.alloc HB0.out.size _
  have hRB : RB w1 (fun k => k = w.heap.size + 1) (some ⟨w.heap.size + 1, 0, none⟩) (D.blk (b + a)) := by
    rw [hw1e]
    have := RB_new (w.alloc (.cells #[.int .u64 0, .int .i64 0, .int .i64 0, .slice none 0 0] 117)) 135 (D.blk (b + a)) (by rw [HX.out]; omega)
    rw [World.size_alloc] at this
    exact this
  clear hrd hw1e hB hR h0
  have hh := head_any (c := 64) hRB hXb (by rw [HX.out]; omega)
  rw [HX.out] at hh
  go_wp2_with fail
  refine hh.mono ?_
  rintro e0 w2 ⟨A, c, rfl, hR2, hle, hB2⟩
  clear hh hRB
  rw [HNn.out]
  unfold recV
  obtain ⟨R, hRR⟩ : ∃ R, headR (D.blk (b + a)) = R := ⟨_, rfl⟩
  rw [hRR] at hR2 hle hN3 ⊢
  have HV2 := HV.out
  rw [hRR] at HV2
  have HV3 := hid HV2
  have HRb : Hid (R.bytes = bytesK D (b + a) n 0) := hid (by rw [← hRb, hRR])
  clear HV2 HV hRR hRb HX
  obtain ⟨rg, ra, rk, rb⟩ := R
  dsimp only at hR2 hle hN3 HV3 HRb ⊢
  have HN3 := hid hN3
  clear hN3
  obtain ⟨ib, hib⟩ : ∃ ib, decide (headOK (D.blk (b + a))) = ib := ⟨_, rfl⟩
  rw [hib]
  have HIB := hid hib
  clear hib
  have hz2 := (hB2.block _ (blk_lt hz1)).trans hz1
  have hBw2 : Below w.heap.size w w2 := hBw1.trans (hB2.mono hBw1.size)
  have hRd0 : RdIn w (w2.alloc (.cells #[.int .u64 rg, .int .i64 ra, .int .i64 rk, .slice A rb.length c] 117)) w2.heap.size rg ra rk A c rb :=
    ⟨(Below.heap_alloc w2 _ _ (blk_lt hz2)).trans hz2, heap_alloc_new w2 _, Kd.R_alloc (Kd.R_lower (Kd.R_mono hR2 (fun k hk => by have := hBw1.size; omega)) hBw1.size) _, hle, below_alloc hBw2 _⟩
  have hrbn : w.heap.size < w2.heap.size := blk_lt hz2
  go_upto_region 12 with (fail)
  clear hB2 hBw2 hz2 hz1 hR2
  generalize w2.alloc (.cells #[.int .u64 rg, .int .i64 ra, .int .i64 rk, .slice A rb.length c] 117) = w3 at hRd0 ⊢
  generalize w2.heap.size = rx at hRd0 hrbn ⊢
  have hz := hRd0.z
  have hbel := hRd0.bel
  have z0 := cell_of_row _ _ 0 _ _ _ hz
  have z1 := cell_of_row _ _ 1 _ _ _ hz
  have z2 := cell_of_row _ _ 2 _ _ _ hz
  have z3 := cell_of_row _ _ 3 _ _ _ hz
  have f0 := frozen_of_row _ _ 0 _ _ hz
  have f1 := frozen_of_row _ _ 1 _ _ hz
  have f2 := frozen_of_row _ _ 2 _ _ hz
  have f3 := frozen_of_row _ _ 3 _ _ hz
  have q0 := cell_of_row _ _ 0 _ _ _ hRd0.r
  have q1 := cell_of_row _ _ 1 _ _ _ hRd0.r
  have q2 := cell_of_row _ _ 2 _ _ _ hRd0.r
  have q3 := cell_of_row _ _ 3 _ _ _ hRd0.r
  simp at z0 z1 z2 z3 q0 q1 q2 q3
  cases ib with
  | false =>
    have hno : VV = none := by rw [HV3.out, if_neg]; rintro ⟨hh, _⟩; have := HIB.out; rw [decide_eq_true hh] at this; cases this
    clear HV3 hRd0
    subst hno
    go_wp2
    (refine bodyPost_ret (results_ctt rfl _ _ w.heap.size 117 _ _ _ rfl (set4 hz (.int .u64 0) (.int .i64 0) (.int .i64 0) (.slice none 0 0)) Tryz.underlying117 rfl (by kernel_rfl)) rfl ?_; exact readpost_none rfl (below4 hbel (Nat.le_refl _) _ _ _ _))
  | true =>
    have hOK : headOK (D.blk (b + a)) := of_decide_eq_true HIB.out
    clear HIB
    by_cases t1 : rg = gen
    case neg =>
      have hno : VV = none := by rw [HV3.out, if_neg]; rintro ⟨_, hh, _⟩; exact t1 hh
      have t1a : (rg == gen) = false := by simpa using t1
      have t1b : (rg != gen) = true := by simpa using t1
      clear HV3 hRd0 hOK
      subst hno
      go_wp2
      (refine bodyPost_ret (results_ctt rfl _ _ w.heap.size 117 _ _ _ rfl (set4 hz (.int .u64 0) (.int .i64 0) (.int .i64 0) (.slice none 0 0)) Tryz.underlying117 rfl (by kernel_rfl)) rfl ?_; exact readpost_none rfl (below4 hbel (Nat.le_refl _) _ _ _ _))
    subst t1
    by_cases t2 : ra = (a : Int)
    case neg =>
      have hno : VV = none := by rw [HV3.out, if_neg]; rintro ⟨_, _, hh, _⟩; exact t2 hh
      have t2a : (ra == (a : Int)) = false := by simpa using t2
      have t2b : (ra != (a : Int)) = true := by simpa using t2
      clear HV3 hRd0 hOK
      subst hno
      go_wp2
      (refine bodyPost_ret (results_ctt rfl _ _ w.heap.size 117 _ _ _ rfl (set4 hz (.int .u64 0) (.int .i64 0) (.int .i64 0) (.slice none 0 0)) Tryz.underlying117 rfl (by kernel_rfl)) rfl ?_; exact readpost_none rfl (below4 hbel (Nat.le_refl _) _ _ _ _))
    subst t2
    have hw3 : IntKind.i64.wrap ((e : Int) - (b : Int) - (a : Int)) = (e : Int) - (b : Int) - (a : Int) := by rw [IntKind.wrap_i64]; omega
    have hnd := fun W => need_any (w := W) (n : Int) (by omega)
    rw [need_bodiesN hn131] at hnd HV3
    by_cases t3 : (e : Int) - (b : Int) - (a : Int) < (bodiesN n : Int) + 1
    · have hno : VV = none := by rw [HV3.out, if_neg]; rintro ⟨_, _, _, hh, _⟩; omega
      clear HV3 hRd0 hOK
      subst hno
      go_wp2_with (go_at_call 52; refine (hnd _).mono ?_; rintro e0 w' ⟨rfl, rfl⟩)
      (refine bodyPost_ret (results_ctt rfl _ _ w.heap.size 117 _ _ _ rfl (set4 hz (.int .u64 0) (.int .i64 0) (.int .i64 0) (.slice none 0 0)) Tryz.underlying117 rfl (by kernel_rfl)) rfl ?_; exact readpost_none rfl (below4 hbel (Nat.le_refl _) _ _ _ _))
    have hbn : b + a + (bodiesN n + 1) ≤ e := by omega
    have hRd1 : RdIn w w3 rx rg a rk A c (bytesK D (b + a) n 0) := by rw [← HRb.out]; exact hRd0
    have HV : Hid (VV = if (List.range (bodiesN n)).all (goodK D (b + a) n rg a) = true then some ⟨rg, a, rk, bytesK D (b + a) n (bodiesN n)⟩ else none) := hid (by
      rw [HV3.out]
      by_cases hq : (List.range (bodiesN n)).all (goodK D (b + a) n rg a) = true
      · rw [if_pos hq, if_pos ⟨hOK, rfl, rfl, by omega, hq⟩]
      · rw [if_neg hq, if_neg (fun hh => hq hh.2.2.2.2)])
    clear HV3 hRd0 HRb HN3 hOK z0 z1 z2 z3 f0 f1 f2 f3 q3 hz hbel hle
    go_wp2_with (go_at_call 52; refine (hnd _).mono ?_; rintro e0 w' ⟨rfl, rfl⟩)
    clear q0 q1 q2 hnd
    have hbN : bodiesN n ≤ 4096 := by omega
    go_loopw [19] (fun kk wr => ∃ (k : Nat) (A1 : Option Addr) (c1 : Nat), k ≤ bodiesN n ∧ kk = .int .i64 ((k : Int) + 1) ∧ RdIn w wr rx rg a rk A1 c1 (bytesK D (b + a) n k) ∧ GoodTo D (b + a) n rg a k) (fun kk _ => bodiesN n + 1 - (intOf kk).toNat)
    case atStart => exact ⟨0, A, c, Nat.zero_le _, rfl, hRd1, fun i hi => absurd hi (by omega)⟩
    case round =>
      obtain ⟨k, A1, c1, hk, rfl, hI, hgood⟩ := hrel
      clear hRd1
      have hxl := HBL.out k (by omega)
      obtain ⟨xs, hxs⟩ : ∃ xs, bytesK D (b + a) n k = xs := ⟨_, rfl⟩
      rw [hxs] at hI hxl
      have HXS := hid hxs
      clear hxs
      have q3 := cell_of_row _ _ 3 _ _ _ hI.r
      simp at q3
      by_cases hlt : k < bodiesN n
      · have h47 := bodiesN_lt.1 hlt
        have hlen : xs.length < n := by omega
        have HXL := hid hxl
        clear hxl
        have hPD := h.step (w1 := wr) (fun j _ hj => hI.bel.block j hj)
        have hrd := fun i hi => read_okI (b + a + (k + 1)) i hPD hi (ready_in hg (by omega)) (by omega)
        have hX := blk_length h.1 (i := b + a + (k + 1)) (by omega)
        have hXb2 := blk_bytes h.1 (b + a + (k + 1))
        have HX := hid hX
        clear hX
        have hw4 : IntKind.i64.wrap ((b : Int) + (a : Int) + ((k : Int) + 1)) = (b : Int) + (a : Int) + ((k : Int) + 1) := by rw [IntKind.wrap_i64]; omega
        go_wp2_with fail
        refine (hrd _ (by omega)).mono ?_
        rintro e0 w4 ⟨rfl, hw4e⟩
        have hRB : RB w4 (fun q => q = wr.heap.size) (some ⟨wr.heap.size, 0, none⟩) (D.blk (b + a + (k + 1))) := by rw [hw4e]; exact RB_new _ _ _ (by rw [HX.out]; omega)
        have hI4 := hI.below (w' := w4) (by rw [hw4e]; exact below_alloc (Below.refl _ _) _)
        clear hw4e hrd hPD hI
        have hbd := body_any (c := 64) hRB hXb2 (by rw [HX.out]; omega)
        rw [HX.out] at hbd
        obtain ⟨V, hVe⟩ : ∃ V, bodyV (D.blk (b + a + (k + 1))) = V := ⟨_, rfl⟩
        have hgk : goodK D (b + a) n rg a k = (decide (V = (rg, (a : Int), ((k + 1 : Nat) : Int), true)) && blank ((D.blk (b + a + (k + 1))).drop (14 + hasK n k))) := by unfold goodK; rw [hVe]
        rw [hVe] at hbd
        clear hVe
        obtain ⟨vg, va, vk, vi⟩ := V
        unfold bodyT at hbd
        dsimp only at hbd
        have hm50 := hasK_le n k
        have hmx : hasK n k = min (n - xs.length) 50 := by unfold hasK; rw [show xs.length = 47 + 50 * k from by have := HXL.out; omega]
        have HBAD : Hid (goodK D (b + a) n rg a k = false → VV = none) := hid (fun hf => by rw [HV.out, all_range hlt hf]; rfl)
        have hpartl := part_len (b := D.blk (b + a + (k + 1))) (i := 14) (n := hasK n k) (by rw [HX.out]; omega)
        have hnext : xs ++ ((D.blk (b + a + (k + 1))).drop 14).take (hasK n k) = bytesK D (b + a) n (k + 1) := by rw [← HXS.out]; rfl
        have HNX := hid hnext
        have HPL := hid hpartl
        have HMX := hid hmx
        clear hnext hpartl hmx
        generalize hasK n k = m at hgk hm50 HNX HPL HMX
        have HGK := hid hgk
        clear hgk
        go_wp2_with fail
        refine hbd.mono ?_
        rintro e0 w5 ⟨rfl, hB5⟩
        clear hbd
        have hI5 := hI4.below hB5
        have hRB5 := RB_below hRB hB5
        clear hI4 q3
        have hz := hI5.z
        have hbel := hI5.bel
        have z0 := cell_of_row _ _ 0 _ _ _ hz
        have z1 := cell_of_row _ _ 1 _ _ _ hz
        have z2 := cell_of_row _ _ 2 _ _ _ hz
        have z3 := cell_of_row _ _ 3 _ _ _ hz
        have f0 := frozen_of_row _ _ 0 _ _ hz
        have f1 := frozen_of_row _ _ 1 _ _ hz
        have f2 := frozen_of_row _ _ 2 _ _ hz
        have f3 := frozen_of_row _ _ 3 _ _ hz
        have q3 := cell_of_row _ _ 3 _ _ _ hI5.r
        have qf3 := frozen_of_row _ _ 3 _ _ hI5.r
        simp at z0 z1 z2 z3 q3
        have hmin : Builtin.min2 (.int .i64 ((n : Int) - (xs.length : Int))) (.int .i64 50) = pure (.int .i64 (m : Int)) := by
          have hmm := HMX.out
          rw [min2_int]
          congr 2
          split <;> omega
        cases vi with
        | false =>
          have hno : VV = none := HBAD.out (by rw [HGK.out, decide_eq_false (by simp)]; rfl)
          clear HBAD HGK HV hI5
          subst hno
          go_wp2
          (refine bodyPost_ret (results_ctt rfl _ _ w.heap.size 117 _ _ _ rfl (set4 hz (.int .u64 0) (.int .i64 0) (.int .i64 0) (.slice none 0 0)) Tryz.underlying117 rfl (by kernel_rfl)) rfl ?_; exact readpost_none rfl (below4 hbel (Nat.le_refl _) _ _ _ _))
        | true =>
          by_cases t1 : vg = rg
          case neg =>
            have hno : VV = none := HBAD.out (by rw [HGK.out, decide_eq_false (by simp [t1])]; rfl)
            have t1a : (vg == rg) = false := by simpa using t1
            have t1b : (vg != rg) = true := by simpa using t1
            clear HBAD HGK HV hI5
            subst hno
            go_wp2
            (refine bodyPost_ret (results_ctt rfl _ _ w.heap.size 117 _ _ _ rfl (set4 hz (.int .u64 0) (.int .i64 0) (.int .i64 0) (.slice none 0 0)) Tryz.underlying117 rfl (by kernel_rfl)) rfl ?_; exact readpost_none rfl (below4 hbel (Nat.le_refl _) _ _ _ _))
          subst t1
          by_cases t2 : va = (a : Int)
          case neg =>
            have hno : VV = none := HBAD.out (by rw [HGK.out, decide_eq_false (by simp [t2])]; rfl)
            have t2a : (va == (a : Int)) = false := by simpa using t2
            have t2b : (va != (a : Int)) = true := by simpa using t2
            clear HBAD HGK HV hI5
            subst hno
            go_wp2
            (refine bodyPost_ret (results_ctt rfl _ _ w.heap.size 117 _ _ _ rfl (set4 hz (.int .u64 0) (.int .i64 0) (.int .i64 0) (.slice none 0 0)) Tryz.underlying117 rfl (by kernel_rfl)) rfl ?_; exact readpost_none rfl (below4 hbel (Nat.le_refl _) _ _ _ _))
          subst t2
          by_cases t3 : vk = (k : Int) + 1
          case neg =>
            have hno : VV = none := HBAD.out (by rw [HGK.out, decide_eq_false (by simp; omega)]; rfl)
            have t3a : (vk == (k : Int) + 1) = false := by simpa using t3
            have t3b : (vk != (k : Int) + 1) = true := by simpa using t3
            clear HBAD HGK HV hI5
            subst hno
            go_wp2
            (refine bodyPost_ret (results_ctt rfl _ _ w.heap.size 117 _ _ _ rfl (set4 hz (.int .u64 0) (.int .i64 0) (.int .i64 0) (.slice none 0 0)) Tryz.underlying117 rfl (by kernel_rfl)) rfl ?_; exact readpost_none rfl (below4 hbel (Nat.le_refl _) _ _ _ _))
          subst t3
          have hbl := blank_tail (a := ⟨wr.heap.size, 0, none⟩) (m := 14 + m) hRB hB5 HX.out (by omega) (Nat.le_refl 64)
          have htn : (14 + (m : Int)).toNat = 14 + m := by omega
          have him : (14 : Int) + (m : Int) ≤ 64 := by omega
          have h14 : (14 : Int) ≤ 14 + (m : Int) := by omega
          have h014 : (0 : Int) ≤ 14 + (m : Int) := by omega
          have hwm : IntKind.i64.wrap (14 + (m : Int)) = 14 + (m : Int) := by rw [IntKind.wrap_i64]; omega
          obtain ⟨bl, hblE⟩ : ∃ bl, blank ((D.blk (b + a + (k + 1))).drop (14 + m)) = bl := ⟨_, rfl⟩
          rw [hblE] at hbl
          have HBK := hid hblE
          clear hblE
          have BL : ∀ (V : Value), V = .slice (behind (some ⟨wr.heap.size, 0, none⟩) (14 + m) 64) (64 - (14 + m)) (64 - (14 + m)) → Calls Tryz.prog 158 #[V] w5 fun e w' => e = .returned (.bool bl) ∧ w' = w5 := fun V e => by rw [e]; exact hbl
          clear hbl
          by_cases hcm : 64 = 14 + m
          · obtain rfl : m = 50 := by omega
            clear hwm h14 h014 him htn hcm
            go_wp2_with fail
            refine (BL _ ?_).mono ?_
            · unfold behind
              rw [if_pos rfl]
            rintro e0 w6 ⟨rfl, rfl⟩
            clear BL
            cases bl with
            | false =>
              have hno : VV = none := HBAD.out (by rw [HGK.out, HBK.out]; simp)
              clear HBAD HGK HV hI5
              subst hno
              go_wp2
              (refine bodyPost_ret (results_ctt rfl _ _ w.heap.size 117 _ _ _ rfl (set4 hz (.int .u64 0) (.int .i64 0) (.int .i64 0) (.slice none 0 0)) Tryz.underlying117 rfl (by kernel_rfl)) rfl ?_; exact readpost_none rfl (below4 hbel (Nat.le_refl _) _ _ _ _))
            | true =>
              have hRow := hI5.row
              have hpart := part (i := 14) (n := 50) hRB5 (by rw [HX.out]; omega)
              have hRm : ReadsInt w6.drew .u8 (some (Addr.add ⟨wr.heap.size, 0, none⟩ 14)) 50 (((D.blk (b + a + (k + 1))).drop 14).take 50) := by
                have := RB_int (RB_drew hpart)
                rwa [HPL.out] at this
              have hgood1 : GoodTo D (b + a) n vg a (k + 1) := fun i hi => by
                rcases Nat.lt_or_ge i k with h1 | h1
                · exact hgood i h1
                · obtain rfl : i = k := by omega
                  rw [HGK.out, HBK.out]
                  simp
              have HG1 := hid hgood1
              clear hgood1 hgood HGK HBAD HBK
              have hne : some rx ≠ (Value.slice A1 xs.length c1).ownBlock := Kd.R_ne hRow hI5.r (by decide)
              have hnz : some w.heap.size ≠ (Value.slice A1 xs.length c1).ownBlock := Kd.R_ne hRow hI5.z (by decide)
              go_wp2_with fail
              refine wp_region_plan [7, 8] (.take 0 (.take 1 (.take 2 (.take 3 (.take 4 (.take 5 (.run 6 (.tail 7 (.tail 8 .done))))))))) (fun W' => W'.cell? ⟨rx, 3, none⟩ = some (.slice A1 xs.length c1)) (by kernel_rfl) (by kernel_rfl) (fun c a d v w h => by cases d <;> exact h) q3 ?_
              iterate 6 (apply plan_take rfl rfl; (case hy => (intro w' hS; go_simp; try exact rfl)); go_simp)
              refine plan_run_on rfl rfl (fun K hK => ?_)
              refine step_append_row (w0 := w) w.heap.size (.tmp 158) (.tmp 162) 25 5 .u8 1 rfl Tryz.underlying25 info_u8 (by decide) _ xs (((D.blk (b + a + (k + 1))).drop 14).take 50) (some (Addr.add ⟨wr.heap.size, 0, none⟩ 14)) 50 50 rfl rfl (R_own1 (Kd.R_drew hRow)) hRm hI5.bel.drew hI5.bel.drew.size (by omega) ?_
              intro v1 w7 ho hB6 hg6 hat
              have hR6 : KB.R 5 w7 w.heap.size (fun q => w.heap.size ≤ q) v1 (xs ++ ((D.blk (b + a + (k + 1))).drop 14).take 50) := Rown ho (fun q hq => own_base ho q hq)
              rw [HNX.out] at hR6
              obtain ⟨A6, c6, rfl, hle6, _⟩ := Kd.R_reads hR6
              have hr6 := (hg6.block rx (blk_lt hI5.r) (fun e => hne e)).trans hI5.r
              have hz6 := (hg6.block w.heap.size (blk_lt hI5.z) (fun e => hnz e)).trans hI5.z
              clear ho hg6 hat hRm hpart hne hnz hRow hRB5 hRB
              have p3 := cell_of_row _ _ 3 _ _ _ hr6
              have pf3 := frozen_of_row _ _ 3 _ _ hr6
              simp at p3
              refine hK _ _ _ (fun _ h => h) p3 ?_
              clear hK K
              go_simp
              refine plan_tail_on rfl rfl (fun K hK => ?_)
              go_simp
              refine hK _ _ ?_
              clear hK K
              refine plan_tail_on rfl rfl (fun K hK => ?_)
              go_simp
              refine hK _ _ (plan_done ?_)
              clear hK K
              have hI7 : RdIn w (w7.setCell ⟨rx, 3, none⟩ (.slice A6 (bytesK D (b + a) n (k + 1)).length c6)) rx vg a rk A6 c6 (bytesK D (b + a) n (k + 1)) :=
                ⟨(Below.heap_setCell w7 ⟨rx, 3, none⟩ _ w.heap.size (by show w.heap.size ≠ rx; omega)).trans hz6, heap_setCell_same w7 rx 3 _ _ _ hr6, Kd.R_set hR6 hr6 (by decide) 3 _, hle6, hB6.setCell (p := ⟨rx, 3, none⟩) (by show w.heap.size ≤ rx; omega) _⟩
              have HI7 := hid hI7
              clear hI7 hR6 hr6 hz6 hle6 p3 pf3 q3 qf3 z0 z1 z2 z3 f0 f1 f2 f3 hz hbel hI5 hmin
              go_wp2
              go_roundw
              case rel => exact ⟨k + 1, A6, c6, by omega, by go_num, HI7.out, HG1.out⟩
              case measure => simp [intOf]; omega
          · go_wp2_with fail
            refine (BL _ ?_).mono ?_
            · unfold behind
              rw [if_neg hcm]
              simp [Addr.add]
            rintro e0 w6 ⟨rfl, rfl⟩
            clear BL
            cases bl with
            | false =>
              have hno : VV = none := HBAD.out (by rw [HGK.out, HBK.out]; simp)
              clear HBAD HGK HV hI5
              subst hno
              go_wp2
              (refine bodyPost_ret (results_ctt rfl _ _ w.heap.size 117 _ _ _ rfl (set4 hz (.int .u64 0) (.int .i64 0) (.int .i64 0) (.slice none 0 0)) Tryz.underlying117 rfl (by kernel_rfl)) rfl ?_; exact readpost_none rfl (below4 hbel (Nat.le_refl _) _ _ _ _))
            | true =>
              have hRow := hI5.row
              have hpart := part (i := 14) (n := m) hRB5 (by rw [HX.out]; omega)
              have hRm : ReadsInt w6.drew .u8 (some (Addr.add ⟨wr.heap.size, 0, none⟩ 14)) m (((D.blk (b + a + (k + 1))).drop 14).take m) := by
                have := RB_int (RB_drew hpart)
                rwa [HPL.out] at this
              have hgood1 : GoodTo D (b + a) n vg a (k + 1) := fun i hi => by
                rcases Nat.lt_or_ge i k with h1 | h1
                · exact hgood i h1
                · obtain rfl : i = k := by omega
                  rw [HGK.out, HBK.out]
                  simp
              have HG1 := hid hgood1
              clear hgood1 hgood HGK HBAD HBK
              have hne : some rx ≠ (Value.slice A1 xs.length c1).ownBlock := Kd.R_ne hRow hI5.r (by decide)
              have hnz : some w.heap.size ≠ (Value.slice A1 xs.length c1).ownBlock := Kd.R_ne hRow hI5.z (by decide)
              go_wp2_with fail
              refine wp_region_plan [7, 8] (.take 0 (.take 1 (.take 2 (.take 3 (.take 4 (.take 5 (.run 6 (.tail 7 (.tail 8 .done))))))))) (fun W' => W'.cell? ⟨rx, 3, none⟩ = some (.slice A1 xs.length c1)) (by kernel_rfl) (by kernel_rfl) (fun c a d v w h => by cases d <;> exact h) q3 ?_
              have hwm2 : IntKind.i64.wrap (14 + (m : Int)) = 14 + (m : Int) := by rw [IntKind.wrap_i64]; omega
              have h142 : (14 : Int) ≤ 14 + (m : Int) := by omega
              have h0142 : (0 : Int) ≤ 14 + (m : Int) := by omega
              have htn2 : (14 + (m : Int)).toNat = 14 + m := by omega
              iterate 6 (apply plan_take rfl rfl; (case hy => (intro w' hS; go_simp; try exact rfl)); go_simp)
              refine plan_run_on rfl rfl (fun K hK => ?_)
              refine step_append_row (w0 := w) w.heap.size (.tmp 158) (.tmp 162) 25 5 .u8 1 rfl Tryz.underlying25 info_u8 (by decide) _ xs (((D.blk (b + a + (k + 1))).drop 14).take m) (some (Addr.add ⟨wr.heap.size, 0, none⟩ 14)) m 50 rfl rfl (R_own1 (Kd.R_drew hRow)) hRm hI5.bel.drew hI5.bel.drew.size (by omega) ?_
              intro v1 w7 ho hB6 hg6 hat
              have hR6 : KB.R 5 w7 w.heap.size (fun q => w.heap.size ≤ q) v1 (xs ++ ((D.blk (b + a + (k + 1))).drop 14).take m) := Rown ho (fun q hq => own_base ho q hq)
              rw [HNX.out] at hR6
              obtain ⟨A6, c6, rfl, hle6, _⟩ := Kd.R_reads hR6
              have hr6 := (hg6.block rx (blk_lt hI5.r) (fun e => hne e)).trans hI5.r
              have hz6 := (hg6.block w.heap.size (blk_lt hI5.z) (fun e => hnz e)).trans hI5.z
              clear ho hg6 hat hRm hpart hne hnz hRow hRB5 hRB
              have p3 := cell_of_row _ _ 3 _ _ _ hr6
              have pf3 := frozen_of_row _ _ 3 _ _ hr6
              simp at p3
              refine hK _ _ _ (fun _ h => h) p3 ?_
              clear hK K
              go_simp
              refine plan_tail_on rfl rfl (fun K hK => ?_)
              go_simp
              refine hK _ _ ?_
              clear hK K
              refine plan_tail_on rfl rfl (fun K hK => ?_)
              go_simp
              refine hK _ _ (plan_done ?_)
              clear hK K
              have hI7 : RdIn w (w7.setCell ⟨rx, 3, none⟩ (.slice A6 (bytesK D (b + a) n (k + 1)).length c6)) rx vg a rk A6 c6 (bytesK D (b + a) n (k + 1)) :=
                ⟨(Below.heap_setCell w7 ⟨rx, 3, none⟩ _ w.heap.size (by show w.heap.size ≠ rx; omega)).trans hz6, heap_setCell_same w7 rx 3 _ _ _ hr6, Kd.R_set hR6 hr6 (by decide) 3 _, hle6, hB6.setCell (p := ⟨rx, 3, none⟩) (by show w.heap.size ≤ rx; omega) _⟩
              have HI7 := hid hI7
              clear hI7 hR6 hr6 hz6 hle6 p3 pf3 q3 qf3 z0 z1 z2 z3 f0 f1 f2 f3 hz hbel hI5 hmin
              go_wp2
              go_roundw
              case rel => exact ⟨k + 1, A6, c6, by omega, by go_num, HI7.out, HG1.out⟩
              case measure => simp [intOf]; omega
      · obtain rfl : k = bodiesN n := by omega
        have hge : n ≤ xs.length := by have := bodiesN_lt (n := n) (k := bodiesN n); omega
        have hge2 : ¬ xs.length < n := by omega
        have HXL := hid hxl
        have hyes : VV = some ⟨rg, a, rk, xs⟩ := by
          rw [HV.out, if_pos (all_range_true (fun i hi => hgood i hi)), HXS.out]
        have hz := hI.z
        have z0 := cell_of_row _ _ 0 _ _ _ hz
        have z1 := cell_of_row _ _ 1 _ _ _ hz
        have z2 := cell_of_row _ _ 2 _ _ _ hz
        have z3 := cell_of_row _ _ 3 _ _ _ hz
        have f0 := frozen_of_row _ _ 0 _ _ hz
        have f1 := frozen_of_row _ _ 1 _ _ hz
        have f2 := frozen_of_row _ _ 2 _ _ hz
        have f3 := frozen_of_row _ _ 3 _ _ hz
        have q0 := cell_of_row _ _ 0 _ _ _ hI.r
        have q1 := cell_of_row _ _ 1 _ _ _ hI.r
        have q2 := cell_of_row _ _ 2 _ _ _ hI.r
        simp at z0 z1 z2 z3 q0 q1 q2
        have HI := hid hI
        clear hxl HV hgood hI
        subst hyes
        go_wp2
        refine bodyPost_ret (results_ctt rfl _ _ w.heap.size 117 _ _ _ rfl (set4 hz (.int .u64 rg) (.int .i64 a) (.int .i64 rk) (.slice A1 xs.length c1)) Tryz.underlying117 rfl (by kernel_rfl)) rfl ?_
        exact HI.out.end_ hrbn rfl
end Go.Proofs.YticogmpafehomaaGreatDoor

set_option linter.unusedVariables false
set_option linter.unusedSimpArgs false
namespace Go.Proofs.YticogmpafehomaaGreatDoor
open Go.RowKit Go.Proofs.YticogmpafehomaaGreatDoorW.PrintWords Go.Proofs.YticogmpafehomaaGreatDoorW.PrintMore

theorem right_of {r : SR} (h : sealE r = 0) (hg : 0 ≤ r.gen ∧ r.gen < 18446744073709551616) (hb : Bytes r.bytes) : r.right := by
  unfold sealE at h
  split at h
  · simp at h
  · split at h
    · simp at h
    · exact ⟨by omega, by omega, by omega, hb, by omega⟩
theorem swrite_any {w : World} {okd okr : Nat → Prop} {D : DM} {A : Option Addr} {c : Nat} (p : Nat) (base : Int) (r : SR) (h : PDisk w okd p D) (hF : RB w okr A r.bytes) (hne : apart okr okd) (hl : r.bytes.length ≤ c)
    (hb : Bytes r.bytes) (hg : 0 ≤ r.gen ∧ r.gen < 18446744073709551616) (hb9 : -9223372036854775808 ≤ base ∧ base ≤ 9223372036854775807) (hm : (D.ws.length + 65537) * 32 ≤ 140737488355328) :
  Calls Tryz.prog 146 #[.pointer (some ⟨p, 0, none⟩), .int .i64 base, recV r A c] w fun e w' => e = .returned (.int .i64 (D.sealW base r).2) ∧ PDisk w' (orNew okd w) p (D.sealW base r).1 ∧ Chg okd w w' := by
  unfold DM.sealW
  by_cases he : sealE r = 0
  · rw [if_neg (by simp [he])]
    have hr := right_of he hg hb
    by_cases ho : outB D base r = true
    · have hx : base < 0 ∨ (D.n : Int) < base ∨ (D.n : Int) - base < r.at_ + need r.bytes.length := by
        unfold outB at ho
        simp only [Bool.or_eq_true, decide_eq_true_eq] at ho
        rcases ho with (ho | ho) | ho
        · exact .inl ho
        · exact .inr (.inl ho)
        · exact .inr (.inr ho)
      rw [if_pos hx]
      refine (seal_bad p base r h hr.l hr.a hb9 he ho).mono ?_
      rintro e w' ⟨rfl, hB⟩
      exact ⟨rfl, (h.step (fun k _ hk => hB.block k hk)).mono (fun _ hk => .inl hk), Chg.of_below hB _⟩
    · have hx : ¬ (base < 0 ∨ (D.n : Int) < base ∨ (D.n : Int) - base < r.at_ + need r.bytes.length) := by
        unfold outB at ho
        simp only [Bool.or_eq_true, decide_eq_true_eq] at ho
        rintro (hh | hh | hh)
        · exact ho (.inl (.inl hh))
        · exact ho (.inl (.inr hh))
        · exact ho (.inr hh)
      rw [if_neg hx]
      exact seal_go p base r h hF hne hl hr hb9 he (by simpa using ho) hm
  · rw [if_pos he]
    refine (seal_err p base r (RB_len hF) he).mono ?_
    rintro e w' ⟨rfl, hB⟩
    exact ⟨rfl, (h.step (fun k _ hk => hB.block k hk)).mono (fun _ hk => .inl hk), Chg.of_below hB _⟩
theorem readV_E {D : DM} {base end_ gen at_ : Int} (h : ¬ readE D base end_ at_ = 0) : readV D base end_ gen at_ = none := by
  unfold readV
  rw [if_neg (fun hh => h hh.1)]
theorem sread_any {w : World} {ok : Nat → Prop} {p : Nat} {D : DM} (h : PDisk w ok p D) (base end_ gen at_ : Int) :
  Calls Tryz.prog 151 #[.pointer (some ⟨p, 0, none⟩), .int .i64 base, .int .i64 end_, .int .u64 gen, .int .i64 at_] w (ReadPost (readV D base end_ gen at_) (readE D base end_ at_) w) := by
  by_cases he : readE D base end_ at_ = 0
  · by_cases ho : end_ - base ≤ at_
    · rw [show readV D base end_ gen at_ = none from by unfold readV; rw [if_neg (fun hh => by have := hh.2.1; omega)], he]
      exact read_outD h base end_ gen at_ he ho
    · obtain ⟨h1, h2, h3, h4, h5⟩ := readE_ok he
      rw [he]
      obtain ⟨b, rfl⟩ := Int.eq_ofNat_of_zero_le h1
      obtain ⟨a, rfl⟩ := Int.eq_ofNat_of_zero_le h5
      obtain ⟨e, rfl⟩ := Int.eq_ofNat_of_zero_le (Int.le_trans h1 h2)
      exact read_inD h b a e gen h4 (by omega) (by omega)
  · rw [readV_E he]
    exact read_errD h base end_ gen at_ he
/-! ### live -/
def B60 : List Int := (List.replicate 60 0).set 59 7
end Go.Proofs.YticogmpafehomaaGreatDoor

set_option linter.unusedVariables false
set_option linter.unusedSimpArgs false
namespace Go.Proofs.YticogmpafehomaaGreatDoor
open Go.RowKit Go.Proofs.YticogmpafehomaaGreatDoorW.PrintWords Go.Proofs.YticogmpafehomaaGreatDoorW.PrintMore

/-! ### Blocks that are written -/
theorem splice_get {α : Type} {L vs : List α} {off : Nat} (h : off + vs.length ≤ L.length) (k : Nat) : (splice L off vs)[k]? = if off ≤ k ∧ k < off + vs.length then vs[k - off]? else L[k]? := by
  unfold splice
  have hl : (L.take off).length = off := by rw [List.length_take]; omega
  by_cases h1 : k < off
  · rw [if_neg (by omega), List.getElem?_append_left (by omega), List.getElem?_take, if_pos h1]
  · rw [List.getElem?_append_right (by omega), hl]
    by_cases h2 : k < off + vs.length
    · rw [if_pos ⟨by omega, h2⟩, List.getElem?_append_left (by omega)]
    · rw [if_neg (by omega), List.getElem?_append_right (by omega), List.getElem?_drop]
      congr 1
      omega
theorem blk_get (D : DM) (j k : Nat) : (D.blk j)[k]? = if k < 64 then D.b[j * 64 + k]? else none := by
  unfold DM.blk
  rw [List.getElem?_take]
  split
  · rw [List.getElem?_drop]
  · rfl
theorem blk_splice {D D' : DM} {n i : Nat} {xs : List Int} (hb : D.b.length = 64 * n) (hi : i < n) (hx : xs.length = 64) (hD : D'.b = splice D.b (i * 64) xs) (j : Nat) : D'.blk j = if j = i then xs else D.blk j := by
  apply List.ext_getElem?
  intro k
  rw [blk_get, hD]
  by_cases hk : k < 64
  · rw [if_pos hk, splice_get (by omega)]
    by_cases hj : j = i
    · subst hj
      rw [if_pos (by omega), if_pos rfl]
      congr 1
      omega
    · rw [if_neg (by omega), if_neg hj, blk_get, if_pos hk]
  · rw [if_neg hk]
    split
    · rw [List.getElem?_eq_none (by omega)]
    · rw [blk_get, if_neg hk]
/-- One write on a disk that is on: the blocks behind it. -/
theorem write_on {D : DM} (h : D.wf) (hg : D.gone = false) {i : Int} (hi : 0 ≤ i ∧ i < D.n) {xs : List Int} (hx : xs.length = 64) (hl : ¬ D.left = 0) :
    D.writeE i xs = 0 ∧ (D.writeD i xs).gone = false ∧ (D.writeD i xs).left = (if 0 < D.left then D.left - 1 else D.left) ∧ (D.writeD i xs).n = D.n ∧ (D.writeD i xs).ws = D.ws ++ [(i, xs)] ∧
    ∀ j, (D.writeD i xs).blk j = if (j : Int) = i then xs else D.blk j := by
  obtain ⟨m, rfl⟩ := Int.eq_ofNat_of_zero_le hi.1
  have hr : D.ready m = 0 := ready_in hg (by omega)
  have hE : D.writeE m xs = 0 := by unfold DM.writeE; rw [if_neg (by simp [hr]), if_neg (by simp [hx]), if_neg hl]
  have hD : D.writeD m xs = { b := splice D.b (m * 64) xs, left := if 0 < D.left then D.left - 1 else D.left, gone := D.gone, ws := D.ws ++ [((m : Int), xs)] } := by
    unfold DM.writeD
    rw [if_neg (by simp [hr]), if_neg (by simp [hx]), if_neg hl]
    simp
  have hb := h.len
  have hn : (splice D.b (m * 64) xs).length = D.b.length := length_splice _ _ _ (by omega)
  refine ⟨hE, by rw [hD]; exact hg, by rw [hD], by rw [hD]; simp only [DM.n, hn], by rw [hD], fun j => ?_⟩
  rw [blk_splice (D := D) (D' := D.writeD m xs) (i := m) hb (by omega) hx (by rw [hD]) j]
  by_cases hj : j = m
  · rw [if_pos hj, if_pos (by omega)]
  · rw [if_neg hj, if_neg (by omega)]
theorem write_off {D : DM} (hg : D.gone = false) {i : Int} (hi : 0 ≤ i ∧ i < D.n) {xs : List Int} (hx : xs.length = 64) (hl : D.left = 0) :
    D.writeE i xs = 61 ∧ D.writeD i xs = { D with gone := true } := by
  obtain ⟨m, rfl⟩ := Int.eq_ofNat_of_zero_le hi.1
  have hr : D.ready m = 0 := ready_in hg (by omega)
  constructor
  · unfold DM.writeE; rw [if_neg (by simp [hr]), if_neg (by simp [hx]), if_pos hl]
  · unfold DM.writeD
    rw [if_neg (by simp [hr]), if_neg (by simp [hx]), if_pos hl]
/-- What stands in the blocks behind some writes. -/
def after (b0 : Int) : List (Int × List Int) → (Nat → List Int) → Nat → List Int
  | [], f => f
  | x :: l, f => after b0 l (fun j => if (j : Int) = b0 + x.1 then x.2 else f j)
theorem after_congr (b0 : Int) : ∀ (l : List (Int × List Int)) {f g : Nat → List Int}, (∀ j, f j = g j) → ∀ j, after b0 l f j = after b0 l g j
  | [], _, _, h, j => h j
  | x :: l, f, g, h, j => after_congr b0 l (fun j => by simp only [h j]) j
theorem after_append (b0 : Int) : ∀ (l m : List (Int × List Int)) (f : Nat → List Int), after b0 (l ++ m) f = after b0 m (after b0 l f)
  | [], _, _ => rfl
  | x :: l, m, f => after_append b0 l m _
/-- How many of m writes are done. -/
def done_ (left : Int) (m : Nat) : Nat := if left < 0 then m else min left.toNat m
def Fine (b0 : Int) (n : Nat) (l : List (Int × List Int)) : Prop := ∀ x ∈ l, 0 ≤ b0 + x.1 ∧ b0 + x.1 < n ∧ x.2.length = 64 ∧ Bytes x.2
theorem puts_any (b0 : Int) : ∀ (l : List (Int × List Int)) (D : DM), D.wf → D.gone = false → Fine b0 D.n l →
    (puts b0 D l).2 = (if done_ D.left l.length < l.length then 61 else 0) ∧ (puts b0 D l).1.wf ∧ (puts b0 D l).1.gone = decide (done_ D.left l.length < l.length) ∧
    (puts b0 D l).1.left = (if D.left < 0 then D.left else D.left - (done_ D.left l.length : Nat)) ∧ (puts b0 D l).1.n = D.n ∧
    (puts b0 D l).1.ws = D.ws ++ (l.take (done_ D.left l.length)).map (fun x => (b0 + x.1, x.2)) ∧ ∀ j, (puts b0 D l).1.blk j = after b0 (l.take (done_ D.left l.length)) D.blk j
  | [], D, hw, hg, _ => by
    have : done_ D.left 0 = 0 := by unfold done_; split <;> simp
    simp only [puts, List.length_nil, this]
    refine ⟨by simp, hw, by simp [hg], ?_, trivial, by simp, fun j => by simp [after]⟩
    split <;> simp
  | x :: l, D, hw, hg, hF => by
    obtain ⟨h1, h2, h3, h4⟩ := hF x (List.mem_cons_self ..)
    by_cases hl : D.left = 0
    · obtain ⟨e1, e2⟩ := write_off hg ⟨h1, h2⟩ h3 hl
      have hd : done_ D.left (l.length + 1) = 0 := by unfold done_; rw [hl]; simp
      simp only [puts, e1, List.length_cons, hd]
      rw [if_neg (by decide), e2]
      exact ⟨by simp, ⟨hw.len, hw.lo, hw.hi, hw.l1, hw.l2, hw.bytes, hw.wsB⟩, by simp, by simp [hl], rfl, by simp, fun j => by simp [after, DM.blk]⟩
    · obtain ⟨e1, e2, e3, e4, e5, e6⟩ := write_on hw hg ⟨h1, h2⟩ h3 hl
      have hw' := writeD_wf hw h4 (b0 + x.1)
      obtain ⟨i1, i2, i3, i4, i5, i6, i7⟩ := puts_any b0 l (D.writeD (b0 + x.1) x.2) hw' e2 (fun y hy => by rw [e4]; exact hF y (List.mem_cons_of_mem _ hy))
      have hd : done_ D.left (l.length + 1) = done_ (D.writeD (b0 + x.1) x.2).left l.length + 1 := by
        rw [e3]
        unfold done_
        by_cases hn : D.left < 0
        · rw [if_neg (show ¬ 0 < D.left by omega), if_pos hn, if_pos hn]
        · rw [if_pos (show 0 < D.left by omega), if_neg hn, if_neg (by omega)]
          omega
      simp only [puts, List.length_cons, if_pos e1, hd]
      refine ⟨?_, i2, ?_, ?_, i5.trans e4, ?_, fun j => ?_⟩
      · rw [i1]
        by_cases hq : done_ (D.writeD (b0 + x.1) x.2).left l.length < l.length
        · rw [if_pos hq, if_pos (by omega)]
        · rw [if_neg hq, if_neg (by omega)]
      · rw [i3]
        congr 1
        simp
      · rw [i4, e3]
        by_cases hn : D.left < 0
        · rw [if_neg (show ¬ 0 < D.left by omega), if_pos hn, if_pos hn]
        · rw [if_pos (show 0 < D.left by omega), if_neg (by omega), if_neg hn]
          omega
      · rw [i6, e5]
        simp
      · rw [i7 j, List.take_succ_cons]
        exact after_congr b0 _ (fun j => by rw [e6 j]) j
end Go.Proofs.YticogmpafehomaaGreatDoor

set_option linter.unusedVariables false
set_option linter.unusedSimpArgs false
namespace Go.Proofs.YticogmpafehomaaGreatDoor
open Go.RowKit Go.Proofs.YticogmpafehomaaGreatDoorW.PrintWords Go.Proofs.YticogmpafehomaaGreatDoorW.PrintMore

theorem take_app {α : Type} {a b : List α} {n : Nat} (h : a.length = n) : (a ++ b).take n = a := by subst h; simp
theorem drop_app {α : Type} {a b : List α} {n : Nat} (h : a.length = n) : (a ++ b).drop n = b := by subst h; simp
theorem val_be_lt {n : Int} {m : Nat} (h0 : 0 ≤ n) (h : n < 256 ^ m) : val (be n m) = n := by rw [val_be m n h0]; exact Int.emod_eq_of_lt h0 h
theorem pow8 : (256 : Int) ^ 8 = 18446744073709551616 := by decide
theorem pow4 : (256 : Int) ^ 4 = 4294967296 := by decide
theorem pow2 : (256 : Int) ^ 2 = 65536 := by decide
theorem blank_zeros (n : Nat) : blank (List.replicate n 0) = true := by unfold blank; simp
/-! ### A head -/
theorem head_drop2 (r : SR) : (headB r).drop 2 = be r.gen 8 ++ (be r.at_ 2 ++ (r.kind :: (be r.bytes.length 4 ++ padTo 47 (r.bytes.take 47)))) := rfl
theorem head_drop10 (r : SR) : (headB r).drop 10 = be r.at_ 2 ++ (r.kind :: (be r.bytes.length 4 ++ padTo 47 (r.bytes.take 47))) := by
  rw [show (10 : Nat) = 2 + 8 from rfl, ← List.drop_drop, head_drop2, drop_app (be_length _ _)]
theorem head_drop12 (r : SR) : (headB r).drop 12 = r.kind :: (be r.bytes.length 4 ++ padTo 47 (r.bytes.take 47)) := by
  rw [show (12 : Nat) = 10 + 2 from rfl, ← List.drop_drop, head_drop10, drop_app (be_length _ _)]
theorem head_drop13 (r : SR) : (headB r).drop 13 = be r.bytes.length 4 ++ padTo 47 (r.bytes.take 47) := by
  rw [show (13 : Nat) = 12 + 1 from rfl, ← List.drop_drop, head_drop12]; rfl
theorem head_drop17 (r : SR) : (headB r).drop 17 = padTo 47 (r.bytes.take 47) := by
  rw [show (17 : Nat) = 13 + 4 from rfl, ← List.drop_drop, head_drop13, drop_app (be_length _ _)]
theorem head_num2 {r : SR} (h : r.right) : numAt (headB r) 2 8 = r.gen := by
  unfold numAt
  rw [head_drop2, take_app (be_length _ _)]
  exact val_be_lt (by have := h.g; omega) (by rw [pow8]; exact h.g.2)
theorem head_num10 {r : SR} (h : r.right) : numAt (headB r) 10 2 = r.at_ := by
  unfold numAt
  rw [head_drop10, take_app (be_length _ _)]
  exact val_be_lt h.a.1 (by rw [pow2]; have := h.a.2; omega)
theorem head_num13 {r : SR} (h : r.right) : numAt (headB r) 13 4 = (r.bytes.length : Int) := by
  unfold numAt
  rw [head_drop13, take_app (be_length _ _)]
  exact val_be_lt (by omega) (by rw [pow4]; have := h.l; omega)
theorem head_12 (r : SR) : (headB r).getD 12 0 = r.kind := by
  have h2 : ((headB r).drop 12)[0]? = some r.kind := by rw [head_drop12]; rfl
  rw [List.getElem?_drop] at h2
  rw [List.getD_eq_getElem?_getD, show (12 : Nat) = 12 + 0 from rfl, h2]; rfl
theorem head_M {r : SR} (h : r.right) : headM (headB r) = (r.bytes.take 47).length := by unfold headM; rw [head_num13 h, List.length_take]; omega
theorem head_OK {r : SR} (h : r.right) : headOK (headB r) := by
  refine ⟨headB_length r, rfl, by rw [head_num2 h]; have := h.g; omega, by rw [head_num13 h]; have := h.l; omega, ?_⟩
  rw [head_M h, ← List.drop_drop, head_drop17]
  unfold padTo
  rw [drop_app rfl]
  exact blank_zeros _
theorem head_R {r : SR} (h : r.right) : headR (headB r) = ⟨r.gen, r.at_, r.kind, r.bytes.take 47⟩ := by
  unfold headR
  rw [if_pos (head_OK h), head_num2 h, head_num10 h, head_12, head_drop17, head_M h]
  unfold padTo
  rw [take_app rfl]
theorem head_N {r : SR} (h : r.right) : headN (headB r) = (r.bytes.length : Int) := by unfold headN; rw [if_pos (head_OK h), head_num13 h]
theorem head_bodyV (r : SR) : bodyV (headB r) = (0, 0, 0, false) := by
  unfold bodyV
  rw [if_neg]
  rintro ⟨_, h, _⟩
  have h2 : (headB r).take 2 = [102, 104] := rfl
  rw [h2] at h
  cases h
/-! ### A body -/
theorem body_drop2 (r : SR) (k : Nat) : (bodyB r k).drop 2 = be r.gen 8 ++ (be r.at_ 2 ++ (be k 2 ++ padTo 50 ((r.bytes.drop (47 + 50 * (k - 1))).take 50))) := rfl
theorem body_drop10 (r : SR) (k : Nat) : (bodyB r k).drop 10 = be r.at_ 2 ++ (be k 2 ++ padTo 50 ((r.bytes.drop (47 + 50 * (k - 1))).take 50)) := by
  rw [show (10 : Nat) = 2 + 8 from rfl, ← List.drop_drop, body_drop2, drop_app (be_length _ _)]
theorem body_drop12 (r : SR) (k : Nat) : (bodyB r k).drop 12 = be k 2 ++ padTo 50 ((r.bytes.drop (47 + 50 * (k - 1))).take 50) := by
  rw [show (12 : Nat) = 10 + 2 from rfl, ← List.drop_drop, body_drop10, drop_app (be_length _ _)]
theorem body_drop14 (r : SR) (k : Nat) : (bodyB r k).drop 14 = padTo 50 ((r.bytes.drop (47 + 50 * (k - 1))).take 50) := by
  rw [show (14 : Nat) = 12 + 2 from rfl, ← List.drop_drop, body_drop12, drop_app (be_length _ _)]
theorem body_num2 {r : SR} (h : r.right) (k : Nat) : numAt (bodyB r k) 2 8 = r.gen := by
  unfold numAt
  rw [body_drop2, take_app (be_length _ _)]
  exact val_be_lt (by have := h.g; omega) (by rw [pow8]; exact h.g.2)
theorem body_num10 {r : SR} (h : r.right) (k : Nat) : numAt (bodyB r k) 10 2 = r.at_ := by
  unfold numAt
  rw [body_drop10, take_app (be_length _ _)]
  exact val_be_lt h.a.1 (by rw [pow2]; have := h.a.2; omega)
theorem body_num12 (r : SR) {k : Nat} (hk : k ≤ 65535) : numAt (bodyB r k) 12 2 = (k : Int) := by
  unfold numAt
  rw [body_drop12, take_app (be_length _ _)]
  exact val_be_lt (by omega) (by rw [pow2]; omega)
theorem body_V {r : SR} (h : r.right) {k : Nat} (h0 : 0 < k) (hk : k ≤ 65535) : bodyV (bodyB r k) = (r.gen, r.at_, (k : Int), true) := by
  unfold bodyV
  rw [if_pos ⟨bodyB_length r k, rfl, by rw [body_num2 h]; have := h.g; omega, by rw [body_num12 r hk]; omega⟩, body_num2 h, body_num10 h, body_num12 r hk]
theorem body_headR (r : SR) (k : Nat) : headR (bodyB r k) = ⟨0, 0, 0, []⟩ ∧ ¬ headOK (bodyB r k) := by
  have hn : ¬ headOK (bodyB r k) := by
    rintro ⟨_, h, _⟩
    have h2 : (bodyB r k).take 2 = [102, 98] := rfl
    rw [h2] at h
    cases h
  exact ⟨(head_no hn).1, hn⟩
/-- The bytes of a body block. -/
def partB (r : SR) (k : Nat) : List Int := (r.bytes.drop (47 + 50 * k)).take 50
theorem partB_len (r : SR) (k : Nat) : (partB r k).length = hasK r.bytes.length k := by unfold partB hasK; rw [List.length_take, List.length_drop]; omega
theorem body_part (r : SR) (k : Nat) : ((bodyB r (k + 1)).drop 14).take (hasK r.bytes.length k) = partB r k := by
  rw [body_drop14]
  show (padTo 50 (partB r k)).take _ = _
  unfold padTo
  exact take_app (partB_len r k)
theorem body_blank (r : SR) (k : Nat) : blank ((bodyB r (k + 1)).drop (14 + hasK r.bytes.length k)) = true := by
  rw [← List.drop_drop, body_drop14]
  show blank ((padTo 50 (partB r k)).drop _) = true
  unfold padTo
  rw [drop_app (partB_len r k)]
  exact blank_zeros _
theorem take_part (r : SR) (k : Nat) : r.bytes.take (47 + 50 * k) ++ partB r k = r.bytes.take (47 + 50 * (k + 1)) := by
  unfold partB
  rw [show 47 + 50 * (k + 1) = (47 + 50 * k) + 50 from by omega]
  exact (List.take_add ..).symm
theorem bodies_eq (r : SR) : bodies r = bodiesN r.bytes.length := rfl
/-- Where the blocks of a record stand, it is read. -/
theorem reads_there {D : DM} {r : SR} (h : r.right) {base end_ b : Nat} (hb : base + r.at_ = (b : Int)) (hE : readE D base end_ r.at_ = 0) (hfit : b + bodies r < end_) (h0 : D.blk b = headB r) (hk : ∀ k, k < bodies r → D.blk (b + (k + 1)) = bodyB r (k + 1)) :
    readV D base end_ r.gen r.at_ = some r := by
  obtain ⟨a, ha⟩ := Int.eq_ofNat_of_zero_le h.a.1
  have hba : base + a = b := by omega
  have hnd := need_bodies h.l
  have hbl := bodies_le h
  rw [ha] at hE ⊢
  rw [readV_in r.gen hE (by omega), hba, h0, head_R h, head_N h]
  have hn : ((r.bytes.length : Nat) : Int).toNat = r.bytes.length := by simp
  rw [hn, if_pos]
  · have hB : ∀ k, k ≤ bodies r → bytesK D b r.bytes.length k = r.bytes.take (47 + 50 * k) := by
      intro k
      induction k with
      | zero => intro _; simp only [bytesK]; rw [h0, head_R h]
      | succ k ih =>
        intro hle
        simp only [bytesK]
        rw [ih (by omega), hk k (by omega), body_part, take_part]
    have hfull : r.bytes.take (47 + 50 * bodies r) = r.bytes := List.take_of_length_le (by unfold bodies; omega)
    rw [← bodies_eq, hB _ (Nat.le_refl _), hfull]
    obtain ⟨g, a', k', bs⟩ := r
    simp only at ha ⊢
    rw [ha]
  · refine ⟨head_OK h, rfl, ha, by rw [hnd]; omega, ?_⟩
    refine all_range_true (fun k hlt => ?_)
    rw [← bodies_eq] at hlt
    unfold goodK
    rw [hk k hlt, body_V h (by omega) (by omega), ha, body_blank]
    simp
end Go.Proofs.YticogmpafehomaaGreatDoor

set_option linter.unusedVariables false
set_option linter.unusedSimpArgs false
namespace Go.Proofs.YticogmpafehomaaGreatDoor
open Go.RowKit Go.Proofs.YticogmpafehomaaGreatDoorW.PrintWords Go.Proofs.YticogmpafehomaaGreatDoorW.PrintMore

theorem order_len (r : SR) : (order r).length = bodies r + 1 := by simp [order]
theorem order_fine {r : SR} (h : r.right) {b0 : Int} {n : Nat} (h0 : 0 ≤ b0) (hn : b0 + bodies r < n) : Fine b0 n (order r) := by
  intro x hx
  unfold order at hx
  rcases List.mem_append.1 hx with hx | hx
  · obtain ⟨i, hi, rfl⟩ := List.mem_map.1 hx
    have := List.mem_range.1 hi
    dsimp only
    exact ⟨by omega, by omega, bodyB_length _ _, bodyB_bytes h _⟩
  · rw [List.mem_singleton.1 hx]
    dsimp only
    exact ⟨by omega, by omega, headB_length _, headB_bytes h⟩
/-- Body blocks alone. -/
def bodyL (r : SR) (m : Nat) : List (Int × List Int) := (List.range m).map fun (i : Nat) => ((i : Int) + 1, bodyB r (i + 1))
theorem after_bodies (r : SR) (b : Nat) (f : Nat → List Int) : ∀ m j, after (b : Int) (bodyL r m) f j = if b < j ∧ j ≤ b + m then bodyB r (j - b) else f j
  | 0, j => by rw [if_neg (by omega)]; rfl
  | m + 1, j => by
    have e : bodyL r (m + 1) = bodyL r m ++ [((m : Int) + 1, bodyB r (m + 1))] := by unfold bodyL; rw [List.range_succ, List.map_append]; rfl
    rw [e, after_append]
    show (if (j : Int) = (b : Int) + ((m : Int) + 1) then bodyB r (m + 1) else after (b : Int) (bodyL r m) f j) = _
    rw [after_bodies r b f m j]
    by_cases hj : j = b + (m + 1)
    · rw [if_pos (by omega), if_pos (by omega), hj]
      congr 1
      omega
    · rw [if_neg (by omega)]
      by_cases h2 : b < j ∧ j ≤ b + m
      · rw [if_pos h2, if_pos (by omega)]
      · rw [if_neg h2, if_neg (by omega)]
theorem order_take (r : SR) {m : Nat} (hm : m ≤ bodies r) : (order r).take m = bodyL r m := by
  unfold order
  rw [List.take_append_of_le_length (by simp; exact hm), ← List.map_take, List.take_range, Nat.min_eq_left hm]
  rfl
theorem after_order (r : SR) (b : Nat) (f : Nat → List Int) (j : Nat) : after (b : Int) (order r) f j = if j = b then headB r else if b < j ∧ j ≤ b + bodies r then bodyB r (j - b) else f j := by
  have e : order r = bodyL r (bodies r) ++ [(0, headB r)] := rfl
  rw [e, after_append]
  show (if (j : Int) = (b : Int) + 0 then headB r else after (b : Int) (bodyL r (bodies r)) f j) = _
  rw [after_bodies]
  by_cases hj : j = b
  · rw [if_pos (by omega), if_pos hj]
  · rw [if_neg (by omega), if_neg hj]
/-- What a record's Write makes of the blocks, m writes of it being done. -/
def sealedB (r : SR) (b m : Nat) (f : Nat → List Int) (j : Nat) : List Int :=
  if m = bodies r + 1 ∧ j = b then headB r else if b < j ∧ j ≤ b + min m (bodies r) then bodyB r (j - b) else f j
theorem after_take (r : SR) (b m : Nat) (hm : m ≤ bodies r + 1) (f : Nat → List Int) (j : Nat) : after (b : Int) ((order r).take m) f j = sealedB r b m f j := by
  unfold sealedB
  by_cases h : m = bodies r + 1
  · rw [h, ← order_len, List.take_length, after_order, order_len]
    simp
  · rw [order_take r (by omega), after_bodies, if_neg (show ¬ (m = bodies r + 1 ∧ j = b) from fun hh => h hh.1), Nat.min_eq_left (by omega)]
/-- Write on a disk that is on. -/
structure Sealed (D D' : DM) (b m : Nat) (r : SR) : Prop where
  wf : D'.wf
  gone : D'.gone = decide (m < bodies r + 1)
  left : D'.left = if D.left < 0 then D.left else D.left - (m : Nat)
  n : D'.n = D.n
  ws : D'.ws = D.ws ++ ((order r).take m).map (fun x => ((b : Int) + x.1, x.2))
  blk : ∀ j, D'.blk j = sealedB r b m D.blk j
theorem done_le (left : Int) (m : Nat) : done_ left m ≤ m := by unfold done_; split <;> omega
theorem sealW_right {D : DM} (hw : D.wf) (hg : D.gone = false) {r : SR} (hr : r.right) {base : Int} {b : Nat} (hb : base + r.at_ = (b : Int)) (h0 : 0 ≤ base) (hn : base ≤ D.n) (hfit : b + bodies r < D.n) :
    (D.sealW base r).2 = (if done_ D.left (bodies r + 1) < bodies r + 1 then 61 else 0) ∧ Sealed D (D.sealW base r).1 b (done_ D.left (bodies r + 1)) r := by
  have he : sealE r = 0 := by
    have h1 := hr.g; have h2 := hr.a; have h3 := hr.k; have h4 := hr.l
    unfold sealE
    rw [if_neg (by omega), if_neg (by omega)]
  have hnd := need_bodies hr.l
  have hX : D.sealW base r = puts (base + r.at_) D (order r) := by
    unfold DM.sealW
    rw [if_neg (by simp [he]), if_neg (by rw [hnd]; omega)]
  have hF : Fine (base + r.at_) D.n (order r) := order_fine hr (by omega) (by omega)
  obtain ⟨p1, p2, p3, p4, p5, p6, p7⟩ := puts_any _ _ D hw hg hF
  rw [order_len] at p1 p3 p4 p6 p7
  rw [hX]
  refine ⟨p1, p2, p3, p4, p5, ?_, fun j => ?_⟩
  · rw [p6]
    congr 1
    rw [hb]
  · rw [p7 j, hb]
    exact after_take r b _ (done_le _ _) _ j
/-! ### Gen -/
theorem genK_le {D : DM} {b0 : Nat} {M : Int} (h0 : 0 ≤ M) : ∀ k, (∀ i, i < k → (headR (D.blk (b0 + i))).gen ≤ M ∧ (bodyV (D.blk (b0 + i))).1 ≤ M) → genK D b0 k ≤ M
  | 0, _ => h0
  | k + 1, h => by
    have h1 := genK_le h0 k (fun i hi => h i (by omega))
    have h2 := h k (by omega)
    simp only [genK]
    omega
end Go.Proofs.YticogmpafehomaaGreatDoor

set_option linter.unusedVariables false
set_option linter.unusedSimpArgs false
namespace Go.Proofs.YticogmpafehomaaGreatDoor
open Go.RowKit Go.Proofs.YticogmpafehomaaGreatDoorW.PrintWords Go.Proofs.YticogmpafehomaaGreatDoorW.PrintMore

theorem bytesK_bytes {D : DM} (h : D.wf) (b0 n : Nat) (h0 : Bytes (headR (D.blk b0)).bytes) : ∀ k, Bytes (bytesK D b0 n k)
  | 0 => h0
  | k + 1 => Bytes.append (bytesK_bytes h b0 n h0 k) (((blk_bytes h _).drop _).take _)
theorem headR_bytes {b : List Int} (h : Bytes b) : Bytes (headR b).bytes ∧ 0 ≤ (headR b).kind ∧ (headR b).kind < 256 := by
  unfold headR
  split
  · exact ⟨(h.drop _).take _, by have := h.rd_ 12; simpa [rd] using this⟩
  · exact ⟨fun x hx => by simp at hx, by simp⟩
/-- What holds of a record that is read. -/
structure Got (r : SR) (base end_ gen at_ : Int) : Prop where
  g : r.gen = gen
  a : r.at_ = at_
  k : 0 ≤ r.kind ∧ r.kind < 256
  b : Bytes r.bytes
  l : r.bytes.length ≤ 131072
  fit : at_ + ((bodies r : Int) + 1) ≤ end_ - base
  a0 : 0 ≤ at_
theorem readV_got {D : DM} (hw : D.wf) {base end_ gen at_ : Int} {r : SR} (h : readV D base end_ gen at_ = some r) : Got r base end_ gen at_ := by
  unfold readV at h
  split at h
  · rename_i hc
    obtain ⟨h1, h2, h3, h4, h5, h6, h7⟩ := hc
    obtain ⟨e1, e2, e3, e4, e5⟩ := readE_ok h1
    injection h with h
    have hb := blk_bytes hw (base + at_).toNat
    obtain ⟨n1, n2, n3⟩ := headN_in _ hb
    have hhb := headR_bytes hb
    obtain ⟨n, hn⟩ := Int.eq_ofNat_of_zero_le n1
    have hnt : (headN (D.blk (base + at_).toNat)).toNat = n := by rw [hn]; simp
    rw [hnt] at h n3
    rw [hn] at h6 n2
    have hnd := need_bodiesN (n := n) (by omega)
    rw [hnd] at h6
    have hlen := bytesK_len hw n3 (bodiesN n) (by omega)
    have hl : r.bytes.length = n := by
      rw [← h]
      show (bytesK D (base + at_).toNat n (bodiesN n)).length = n
      rw [hlen]
      have := bodiesN_lt (n := n) (k := bodiesN n)
      omega
    refine ⟨by rw [← h], by rw [← h], by rw [← h]; exact hhb.2, by rw [← h]; exact bytesK_bytes hw _ _ hhb.1 _, by omega, ?_, e5⟩
    rw [bodies_eq, hl]
    omega
  · cases h
/-- The records from a place on. -/
def recsAt (D : DM) (base size : Nat) (gen : Int) : Nat → Nat → List SR
  | 0, _ => []
  | f + 1, a => if a < size then
      match readV D base ((base + size : Nat) : Int) gen a with
      | none => []
      | some r => r :: recsAt D base size gen f (a + (bodies r + 1))
    else []
/-- All of a stretch. -/
def recsM (D : DM) (base size : Nat) (gen : Int) : List SR := recsAt D base size gen size 0
/-- Where the tail is behind some records. -/
def tailOf (l : List SR) : Nat := (l.map fun r => bodies r + 1).sum
theorem tailOf_snoc (l : List SR) (r : SR) : tailOf (l ++ [r]) = tailOf l + (bodies r + 1) := by simp [tailOf]
theorem recsAt_stop {D : DM} {base size : Nat} {gen : Int} {f a : Nat} (h : ¬ a < size ∨ readV D base ((base + size : Nat) : Int) gen a = none) : recsAt D base size gen f a = [] := by
  cases f with
  | zero => rfl
  | succ f =>
    unfold recsAt
    rcases h with h | h
    · rw [if_neg h]
    · split
      · rw [h]
      · rfl
theorem recsAt_cons {D : DM} {base size : Nat} {gen : Int} {f a : Nat} {r : SR} (h1 : a < size) (h2 : readV D base ((base + size : Nat) : Int) gen a = some r) : recsAt D base size gen (f + 1) a = r :: recsAt D base size gen f (a + (bodies r + 1)) := by
  show (if a < size then _ else _) = _
  rw [if_pos h1, h2]
/-- More rounds tell the same. -/
theorem recsAt_fuel {D : DM} {base size : Nat} {gen : Int} : ∀ (f g a : Nat), size - a ≤ f → size - a ≤ g → recsAt D base size gen f a = recsAt D base size gen g a
  | 0, g, a, h, _ => by rw [recsAt_stop (.inl (by omega)), recsAt_stop (.inl (by omega))]
  | f + 1, 0, a, _, h => by rw [recsAt_stop (.inl (by omega)), recsAt_stop (.inl (by omega))]
  | f + 1, g + 1, a, h1, h2 => by
    by_cases ha : a < size
    · cases hr : readV D base ((base + size : Nat) : Int) gen a with
      | none => rw [recsAt_stop (.inr hr), recsAt_stop (.inr hr)]
      | some r => rw [recsAt_cons ha hr, recsAt_cons ha hr, recsAt_fuel f g _ (by omega) (by omega)]
    · rw [recsAt_stop (.inl ha), recsAt_stop (.inl ha)]
theorem recsM_at {D : DM} {base size : Nat} {gen : Int} (l : List SR) (h : l ++ recsAt D base size gen (size - tailOf l) (tailOf l) = recsM D base size gen) {r : SR} (h1 : tailOf l < size) (h2 : readV D base ((base + size : Nat) : Int) gen (tailOf l) = some r) :
    (l ++ [r]) ++ recsAt D base size gen (size - tailOf (l ++ [r])) (tailOf (l ++ [r])) = recsM D base size gen := by
  rw [← h, tailOf_snoc]
  obtain ⟨f, hf⟩ : ∃ f, size - tailOf l = f + 1 := ⟨size - tailOf l - 1, by omega⟩
  rw [hf, recsAt_cons h1 h2, List.append_assoc]
  congr 1
  show r :: _ = r :: _
  congr 1
  exact recsAt_fuel _ _ _ (by omega) (by omega)
theorem recsAt_len {D : DM} {base size : Nat} {gen : Int} : ∀ (f a : Nat), (recsAt D base size gen f a).length ≤ f
  | 0, _ => by simp [recsAt]
  | f + 1, a => by
    by_cases ha : a < size
    · cases hr : readV D base ((base + size : Nat) : Int) gen a with
      | none => rw [recsAt_stop (.inr hr)]; simp
      | some r => rw [recsAt_cons ha hr]; simp only [List.length_cons]; have := recsAt_len (D := D) (base := base) (size := size) (gen := gen) f (a + (bodies r + 1)); omega
    · rw [recsAt_stop (.inl ha)]; simp
theorem tailOf_len : ∀ (l : List SR), l.length ≤ tailOf l
  | [] => by simp
  | r :: l => by have := tailOf_len l; simp only [tailOf, List.map_cons, List.sum_cons, List.length_cons] at this ⊢; omega
end Go.Proofs.YticogmpafehomaaGreatDoor

set_option linter.unusedVariables false
set_option linter.unusedSimpArgs false
namespace Go.Proofs.YticogmpafehomaaGreatDoor
open Go.RowKit Go.Proofs.YticogmpafehomaaGreatDoorW.PrintWords Go.Proofs.YticogmpafehomaaGreatDoorW.PrintMore

/-- Record r's blocks lie from block b on. -/
def LaidB (D : DM) (b : Nat) (r : SR) : Prop := D.blk b = headB r ∧ ∀ k, k < bodies r → D.blk (b + (k + 1)) = bodyB r (k + 1)
def LiesB (D : DM) (base : Nat) (gen : Int) : Nat → List SR → Prop
  | _, [] => True
  | a, r :: l => r.right ∧ r.gen = gen ∧ r.at_ = (a : Int) ∧ LaidB D (base + a) r ∧ LiesB D base gen (a + (bodies r + 1)) l
/-- A log: its records, and no head of its generation behind them. -/
structure Log (D : DM) (base size : Nat) (gen : Int) (l : List SR) : Prop where
  lies : LiesB D base gen 0 l
  free : ∀ j, base + tailOf l ≤ j → j < base + size → headOK (D.blk j) → (headR (D.blk j)).gen ≠ gen
  fit : tailOf l ≤ size
  n : base + size ≤ D.n
theorem tailOf_cons (r : SR) (l : List SR) : tailOf (r :: l) = (bodies r + 1) + tailOf l := by simp [tailOf]
theorem LiesB.congr {D D' : DM} {base : Nat} {gen : Int} : ∀ (l : List SR) (a : Nat), (∀ j, j < base + a + tailOf l → D'.blk j = D.blk j) → LiesB D base gen a l → LiesB D' base gen a l
  | [], _, _, _ => trivial
  | r :: l, a, h, hl => by
    obtain ⟨h1, h2, h3, h4, h5⟩ := hl
    rw [tailOf_cons] at h
    refine ⟨h1, h2, h3, ⟨(h _ (by omega)).trans h4.1, fun k hk => (h _ (by omega)).trans (h4.2 k hk)⟩, LiesB.congr l _ (fun j hj => h j (by omega)) h5⟩
theorem LiesB.snoc {D : DM} {base : Nat} {gen : Int} {r : SR} (hr : r.right) (hg : r.gen = gen) : ∀ (l : List SR) (a : Nat), LiesB D base gen a l → r.at_ = ((a + tailOf l : Nat) : Int) → LaidB D (base + (a + tailOf l)) r → LiesB D base gen a (l ++ [r])
  | [], a, _, ha, hb => ⟨hr, hg, ha, hb, trivial⟩
  | s :: l, a, hl, ha, hb => by
    obtain ⟨h1, h2, h3, h4, h5⟩ := hl
    rw [tailOf_cons, show a + (bodies s + 1 + tailOf l) = a + (bodies s + 1) + tailOf l from by omega] at ha hb
    exact ⟨h1, h2, h3, h4, LiesB.snoc hr hg l _ h5 ha hb⟩
theorem readV_free {D : DM} {base end_ : Nat} {gen : Int} {a : Nat} (h : headOK (D.blk (base + a)) → (headR (D.blk (base + a))).gen ≠ gen) : readV D base end_ gen a = none := by
  unfold readV
  rw [if_neg]
  rintro ⟨_, _, h3, h4, _⟩
  rw [show ((base : Int) + (a : Int)).toNat = base + a from by omega] at h3 h4
  exact h h3 h4
theorem recsAt_lies {D : DM} {base size : Nat} {gen : Int} (hg : D.gone = false) (hn : base + size ≤ D.n) : ∀ (l : List SR) (a f : Nat), LiesB D base gen a l → a + tailOf l ≤ size → size - a ≤ f → (¬ a + tailOf l < size ∨ readV D base ((base + size : Nat) : Int) gen ((a + tailOf l : Nat) : Int) = none) → recsAt D base size gen f a = l
  | [], a, f, _, _, _, hs => recsAt_stop (by simpa [tailOf] using hs)
  | r :: l, a, f, hl, ht, hf, hs => by
    obtain ⟨h1, h2, h3, h4, h5⟩ := hl
    rw [tailOf_cons] at ht hs
    obtain ⟨f, rfl⟩ : ∃ g, f = g + 1 := ⟨f - 1, by omega⟩
    have hrd : readV D base ((base + size : Nat) : Int) gen a = some r := by
      have hE : readE D base ((base + size : Nat) : Int) r.at_ = 0 := by
        unfold readE regE
        rw [if_neg (by omega), if_neg (by omega), if_neg (by rw [hg]; simp)]
      have := reads_there h1 (base := base) (end_ := base + size) (b := base + a) (by omega) hE (by omega) h4.1 h4.2
      rw [h2, h3] at this
      exact this
    rw [recsAt_cons (by omega) hrd, recsAt_lies hg hn l _ f h5 (by omega) (by omega) (by rw [show a + (bodies r + 1) + tailOf l = a + (bodies r + 1 + tailOf l) from by omega]; exact hs)]
theorem Log.recs {D : DM} {base size : Nat} {gen : Int} {l : List SR} (h : Log D base size gen l) (hg : D.gone = false) : recsM D base size gen = l := by
  unfold recsM
  refine recsAt_lies hg h.n l 0 size h.lies (by have := h.fit; omega) (by omega) ?_
  by_cases hs : 0 + tailOf l < size
  · refine .inr (readV_free (fun hk => ?_))
    rw [show base + (0 + tailOf l) = base + tailOf l from by omega] at hk ⊢
    exact h.free _ (Nat.le_refl _) (by omega) hk
  · exact .inl hs
/-- What is written at the tail, whole or in part. -/
theorem Log.put {D D' : DM} {base size : Nat} {gen : Int} {l : List SR} (h : Log D base size gen l) {r : SR} (hr : r.right) (hg : r.gen = gen) (ha : r.at_ = (tailOf l : Int)) (hfit : tailOf l + (bodies r + 1) ≤ size) {m : Nat} (hs : Sealed D D' (base + tailOf l) m r) :
    Log D' base size gen (if m = bodies r + 1 then l ++ [r] else l) := by
  have hlow : ∀ j, j < base + tailOf l → D'.blk j = D.blk j := fun j hj => by
    rw [hs.blk]; unfold sealedB; rw [if_neg (by omega), if_neg (by omega)]
  have hl2 : LiesB D' base gen 0 l := LiesB.congr l 0 (fun j hj => hlow j (by omega)) h.lies
  split
  · rename_i hm
    have hb : LaidB D' (base + tailOf l) r := by
      constructor
      · rw [hs.blk]; unfold sealedB; rw [if_pos ⟨hm, rfl⟩]
      · intro k hk
        rw [hs.blk]; unfold sealedB; rw [if_neg (by omega), if_pos (by omega), show base + tailOf l + (k + 1) - (base + tailOf l) = k + 1 from by omega]
    refine ⟨LiesB.snoc hr hg l 0 hl2 (by rw [ha]; simp) (by rw [Nat.zero_add]; exact hb), ?_, by rw [tailOf_snoc]; exact hfit, by rw [hs.n]; exact h.n⟩
    intro j h1 h2
    rw [tailOf_snoc] at h1
    rw [hs.blk]; unfold sealedB; rw [if_neg (by omega), if_neg (by omega)]
    exact h.free j (by omega) h2
  · rename_i hm
    refine ⟨hl2, ?_, h.fit, by rw [hs.n]; exact h.n⟩
    intro j h1 h2
    rw [hs.blk]; unfold sealedB; rw [if_neg (by omega)]
    split
    · intro hk; exact absurd hk (body_headR r _).2
    · exact h.free j h1 h2
/-- Every head is of this generation. -/
def OnlyG (D : DM) (g : Int) : Prop := ∀ j, headOK (D.blk j) → (headR (D.blk j)).gen = g
theorem OnlyG.put {D D' : DM} {g : Int} (h : OnlyG D g) {b m : Nat} {r : SR} (hr : r.right) (hg : r.gen = g) (hs : Sealed D D' b m r) : OnlyG D' g := by
  intro j
  rw [hs.blk]
  unfold sealedB
  split
  · intro _; rw [head_R hr]; exact hg
  · split
    · intro hk; exact absurd hk (body_headR r _).2
    · exact h j
end Go.Proofs.YticogmpafehomaaGreatDoor

set_option linter.unusedVariables false
set_option linter.unusedSimpArgs false
namespace Go.Proofs.YticogmpafehomaaGreatDoor
open Go.RowKit Go.Proofs.YticogmpafehomaaGreatDoorW.PrintWords Go.Proofs.YticogmpafehomaaGreatDoorW.PrintMore

/-- A log: its stretch, its generation, its tail, how many records. -/
structure HM where
  base : Int
  size : Int
  gen : Int
  tail : Int
  n : Int
/-- The log's variable; p: the disk's. -/
def HBlk (w : World) (hb p : Nat) (H : HM) : Prop := w.heap[hb]? = some (.cells #[.pointer (some ⟨p, 0, none⟩), .int .i64 H.base, .int .i64 H.size, .int .u64 H.gen, .int .i64 H.tail, .int .i64 H.n] 173 (0, 0))
theorem HBlk.cell0 {w : World} {hb p : Nat} {H : HM} (h : HBlk w hb p H) : w.cell? ⟨hb, 0, none⟩ = some (.pointer (some ⟨p, 0, none⟩)) := by rw [cell_of_row w hb 0 _ _ _ h]; rfl
theorem HBlk.cell1 {w : World} {hb p : Nat} {H : HM} (h : HBlk w hb p H) : w.cell? ⟨hb, 1, none⟩ = some (.int .i64 H.base) := by rw [cell_of_row w hb 1 _ _ _ h]; rfl
theorem HBlk.cell2 {w : World} {hb p : Nat} {H : HM} (h : HBlk w hb p H) : w.cell? ⟨hb, 2, none⟩ = some (.int .i64 H.size) := by rw [cell_of_row w hb 2 _ _ _ h]; rfl
theorem HBlk.cell3 {w : World} {hb p : Nat} {H : HM} (h : HBlk w hb p H) : w.cell? ⟨hb, 3, none⟩ = some (.int .u64 H.gen) := by rw [cell_of_row w hb 3 _ _ _ h]; rfl
theorem HBlk.cell4 {w : World} {hb p : Nat} {H : HM} (h : HBlk w hb p H) : w.cell? ⟨hb, 4, none⟩ = some (.int .i64 H.tail) := by rw [cell_of_row w hb 4 _ _ _ h]; rfl
theorem HBlk.cell5 {w : World} {hb p : Nat} {H : HM} (h : HBlk w hb p H) : w.cell? ⟨hb, 5, none⟩ = some (.int .i64 H.n) := by rw [cell_of_row w hb 5 _ _ _ h]; rfl
theorem HBlk.free {w : World} {hb p : Nat} {H : HM} (h : HBlk w hb p H) (j : Nat) : w.frozen? ⟨hb, j, none⟩ = false := frozen_of_row w hb j _ _ h
theorem HBlk.setTail {w : World} {hb p : Nat} {H : HM} (h : HBlk w hb p H) (t : Int) : HBlk (w.setCell ⟨hb, 4, none⟩ (.int .i64 t)) hb p { H with tail := t } := heap_setCell_same w hb 4 _ _ _ h
theorem HBlk.setN {w : World} {hb p : Nat} {H : HM} (h : HBlk w hb p H) (t : Int) : HBlk (w.setCell ⟨hb, 5, none⟩ (.int .i64 t)) hb p { H with n := t } := heap_setCell_same w hb 5 _ _ _ h
theorem HBlk.step {w w1 : World} {hb p : Nat} {H : HM} (h : HBlk w hb p H) (hm : w1.heap[hb]? = w.heap[hb]?) : HBlk w1 hb p H := hm.trans h
theorem HBlk.lt {w : World} {hb p : Nat} {H : HM} (h : HBlk w hb p H) : hb < w.heap.size := blk_lt h
/-- May a log be? -/
def hnewE (D : DM) (base size gen : Int) : Int := if base < 0 ∨ size < 1 ∨ (D.n : Int) < base ∨ (D.n : Int) - base < size ∨ gen = 0 then 1 else 0
set_option maxHeartbeats 1000000 in
theorem hnew_ok {w : World} {ok : Nat → Prop} {p : Nat} {D : DM} (h : PDisk w ok p D) (base size gen : Int) (he : hnewE D base size gen = 0) :
  Calls Tryz.prog 77 #[.pointer (some ⟨p, 0, none⟩), .int .i64 base, .int .i64 size, .int .u64 gen] w fun e w' => e = .returned (.tuple #[.pointer (some ⟨w.heap.size, 0, none⟩), .int .i64 0]) ∧ HBlk w' w.heap.size p ⟨base, size, gen, 0, 0⟩ ∧ Below w.heap.size w w' := by
  have hB := blocks_any h
  have hn := h.1.hi
  have hx : ¬ base < 0 ∧ ¬ size < 1 ∧ ¬ (D.n : Int) < base ∧ ¬ (D.n : Int) - base < size ∧ ¬ gen = 0 := by
    unfold hnewE at he
    split at he
    · cases he
    · rename_i hh; simp only [not_or] at hh; exact hh
  obtain ⟨h1, h2, h3, h4, h5⟩ := hx
  have hw : IntKind.i64.wrap ((D.n : Int) - base) = (D.n : Int) - base := by rw [IntKind.wrap_i64]; omega
  have h5b : (gen == 0) = false := by simpa using h5
  have hfin : HBlk (w.alloc (.cells #[.pointer (some ⟨p, 0, none⟩), .int .i64 base, .int .i64 size, .int .u64 gen, .int .i64 0, .int .i64 0] 173)) w.heap.size p ⟨base, size, gen, 0, 0⟩ := heap_alloc_new w _
  have HF := hid (And.intro hfin (below_alloc (Below.refl w.heap.size w) (.cells #[.pointer (some ⟨p, 0, none⟩), .int .i64 base, .int .i64 size, .int .u64 gen, .int .i64 0, .int .i64 0] 173)))
  clear hfin
  go_enter Tryz.func77, Tryz.ntmps77
  go_wp2_with (go_at_call 112; refine hB.mono ?_; rintro e w' ⟨rfl, rfl⟩)
  go_ret2
  exact ⟨rfl, HF.out⟩
theorem used_any {w : World} {hb p : Nat} {H : HM} (h : HBlk w hb p H) : Calls Tryz.prog 79 #[.pointer (some ⟨hb, 0, none⟩)] w fun e w' => e = .returned (.int .i64 H.tail) ∧ w = w' := by
  have c4 := h.cell4
  go_enter Tryz.func79, Tryz.ntmps79
  go_wp2
  go_ret
  exact ⟨rfl, rfl⟩
theorem room_any {w : World} {hb p : Nat} {H : HM} (h : HBlk w hb p H) (h1 : 0 ≤ H.tail ∧ H.tail ≤ H.size ∧ H.size ≤ 4096) :
    Calls Tryz.prog 145 #[.pointer (some ⟨hb, 0, none⟩)] w fun e w' => e = .returned (.int .i64 (H.size - H.tail)) ∧ Below w.heap.size w w' := by
  have c2 := h.cell2
  have c4 := h.cell4
  have hw : IntKind.i64.wrap (H.size - H.tail) = H.size - H.tail := by rw [IntKind.wrap_i64]; omega
  go_enter Tryz.func145, Tryz.ntmps145
  go_wp2_with fail
  refine wp_region_plan [] (.take 0 (.take 1 (.take 2 (.take 3 (.take 4 (.take 5 (.take 6 (.take 7 (.take 8 (.take 9 .done)))))))))) (fun w' => w'.cell? ⟨hb, 2, none⟩ = some (.int .i64 H.size) ∧ w'.cell? ⟨hb, 4, none⟩ = some (.int .i64 H.tail)) (by kernel_rfl) (by kernel_rfl) (fun c a d v w h => by cases d <;> exact h) ⟨c2, c4⟩ ?_
  iterate 10 (apply plan_take rfl rfl; (case hy => (intro w' hS; obtain ⟨s0, s1⟩ := hS; go_simp; try exact rfl)); go_simp)
  refine plan_done ?_
  go_wp2
  go_ret
  exact ⟨rfl, (Below.refl _ _).drew⟩
/-- Is there room for so many bytes? -/
def fitsB (H : HM) (n : Int) : Bool := decide (0 < need n ∧ need n ≤ H.size - H.tail)
theorem need_bnd (n : Int) : 0 ≤ need n ∧ need n ≤ 65536 := by unfold need; split <;> (try split) <;> omega
theorem fits_any {w : World} {hb p : Nat} {H : HM} (h : HBlk w hb p H) (h1 : 0 ≤ H.tail ∧ H.tail ≤ H.size ∧ H.size ≤ 4096) (n : Int) (hn : -9223372036854775808 ≤ n ∧ n ≤ 9223372036854775807) :
    Calls Tryz.prog 103 #[.pointer (some ⟨hb, 0, none⟩), .int .i64 n] w fun e w' => e = .returned (.bool (fitsB H n)) ∧ Below w.heap.size w w' := by
  have hnd := need_any (w := w) n hn
  have hr := room_any h h1
  have hb := need_bnd n
  unfold fitsB
  generalize need n = k at hnd hb ⊢
  by_cases h0 : 0 < k
  · rw [show decide (0 < k ∧ k ≤ H.size - H.tail) = decide (k ≤ H.size - H.tail) from by simp [h0]]
    go_enter Tryz.func103, Tryz.ntmps103
    go_wp2_with (first | (go_at_call 52; refine hnd.mono ?_; rintro e w' ⟨rfl, rfl⟩) | (go_at_call 145; refine hr.mono ?_; rintro e w1 ⟨rfl, hB⟩))
    go_ret
    exact ⟨rfl, hB⟩
  · rw [show decide (0 < k ∧ k ≤ H.size - H.tail) = false from by simp [h0]]
    go_enter Tryz.func103, Tryz.ntmps103
    go_wp2_with (go_at_call 52; refine hnd.mono ?_; rintro e w' ⟨rfl, rfl⟩)
    go_ret
    exact ⟨rfl, Below.refl _ _⟩
theorem records_any {w : World} (hb : Nat) :
    Calls Tryz.prog 111 #[.pointer (some ⟨hb, 0, none⟩)] w fun e w' => e = .returned (.func (.func 150) #[] #[.pointer (some ⟨w.heap.size, 0, none⟩)]) ∧ w' = w.alloc (.cells #[.pointer (some ⟨hb, 0, none⟩)] 96) := by
  go_enter Tryz.func111, Tryz.ntmps111
  go_wp2
  go_ret
  exact ⟨rfl, rfl⟩
end Go.Proofs.YticogmpafehomaaGreatDoor

set_option linter.unusedVariables false
set_option linter.unusedSimpArgs false
namespace Go.Proofs.YticogmpafehomaaGreatDoor
open Go.RowKit
section
variable {F : Fence} {n : Nat} {P : Program} {α : Type}
/-- An iterator that goes on to its end. -/
def SeqMem (F : Fence) (n : Nat) (P : Program) (g : Nat) (lb : Array Value) (encs : α → Array Value) (Kp : World → World → Prop) (Mx : α → World → Prop) (S : List α → Prop) (N : Nat) (w : World) : Prop :=
  ∀ (l : Nat) (J : List α → World → Prop) (W : World), Below w.heap.size w W → AbidesFrom W.heap.size J →
    (∀ pre x W1, J pre W1 → Mx x W1 → pre.length < N → YieldAt F (n - 1) P l (encs x) W1 fun e W' => e = .returned (.bool true) ∧ J (pre ++ [x]) W' ∧ Kp W1 W') → J [] W →
    CallsIn F n P g (#[.func (.yield l) #[] #[]] ++ lb) W fun e W' => (∃ v, e = .returned v) ∧ ∃ xs, S xs ∧ J xs W'
/-- What is kept on a loop: its record, and the block for deferred calls ahead of it. -/
def Kept2 (D : Nat) (r : Loop) (W : World) : Prop := W.heap[D + 1]? = some (.loop r) ∧ W.heap[D]? = some (.deferred (some []))
theorem Kept2.keeps {D B : Nat} {r : Loop} {W W' : World} (h : Kept2 D r W) (hB : B ≤ D) (hk : KeepsFrom B W W') : Kept2 D r W' := ⟨hk.same _ _ (by omega) h.1 rfl, hk.same _ _ hB h.2 rfl⟩
theorem Kept2.put {D : Nat} {r : Loop} {W : World} (h : Kept2 D r W) (r' : Loop) : Kept2 D r' (W.putObj (D + 1) (.loop r')) :=
  ⟨World.putObj_heap_same (Array.getElem?_eq_some_iff.1 h.1).1, (World.putObj_heap_other (by omega)).trans h.2⟩
theorem Kept2.walks {D : Nat} {r : Loop} {W W' : World} {row : Option Nat} (h : Kept2 D r W) (hg : W.grownBy W' row) (hr : ∀ q, row = some q → ∃ o : Obj, W.heap[q]? = some o ∧ o.isWalk = true) : Kept2 D r W' :=
  ⟨(grownBy_keeps hg hr h.1 rfl).trans h.1, (grownBy_keeps hg hr h.2 rfl).trans h.2⟩
theorem wpIn_range_mem {g : Operand} {ps : Array Tmp} {assign body : Code} {Q : Exit → Act → World → Prop} {a : Act} {w : World}
    (hro : F.round = none) (h1 : 1 ≤ n) {gf : Nat} {lb : Array Value} (hg : a.eval g = .func (.func gf) #[] lb) (hFg : F.fn gf) (eg : ∀ args w, (callFunc gf args).run P w = .ok (.enter gf args) w)
    {encs : α → Array Value} {Kp : World → World → Prop} {Mx : α → World → Prop} {S : List α → Prop} {N : Nat} {w0 : World} (hseq : SeqMem F (n - 1) P gf lb encs Kp Mx S N w0)
    (hKt : ∀ {A B C : World}, Kp A B → Kp B C → Kp A C) (hKb : ∀ (W : World) (l : Nat) (o o' : Obj), w.heap.size ≤ l → W.heap[l]? = some o → o.isCells = false → o.isWalk = false → Kp W (W.putObj l o'))
    (hb0 : Below w0.heap.size w0 w) (hps : ∀ x, (encs x).size = ps.size) (hM : ∀ x, OwnFrom w.heap.size (fun (_ : Unit) W => Mx x W))
    (I : List α → World → Prop) (hI : OwnFrom w.heap.size I) (h0 : I [] w) (Ax : α → Act → World → Prop) (hAx : ∀ x a', OwnFrom w.heap.size (fun (_ : Unit) W => Ax x a' W))
    (hassign : ∀ (l : Nat) (pre : List α) (x : α) (W : World) (K : Act → World → Prop), I pre W → Mx x W → (∀ a' W', KeepsFrom w.heap.size W W' → Kp W W' → I pre W' → Mx x W' → Ax x a' W' → K a' W') →
      assign.wpIn (F.inRound l) (n - 1 - 1) P (Exit.then K (fun _ _ _ => False)) { tmps := (ps.zip (encs x)).foldl (fun t (p, v) => t.setIfInBounds p v) a.tmps, defers := [] } W)
    (hbody : ∀ (l : Nat) (pre : List α) (x : α) (a' : Act) (W : World), w.heap.size ≤ l → I pre W → Mx x W → Ax x a' W → pre.length < N →
      body.wpIn (F.inRound l) (n - 1 - 1) P (fun e _ W' => e = .normal ∧ KeepsFrom w.heap.size W W' ∧ Kp W W' ∧ I (pre ++ [x]) W') a' W)
    (hdone : ∀ (D : Nat) (xs : List α) (W : World), w.heap.size ≤ D → S xs → I xs W → W.heap[D]? = some (.deferred (some [])) → Q .normal { a with defers := { target := .collected D, args := #[] } :: a.defers } W) :
    (Code.rangeFunc g ps assign body).wpIn F n P Q a w := by
  refine wpIn_rangeFunc (fun fn hfn => ?_)
  rw [hro]
  generalize hD : w.heap.size = D at *
  let rec_ : LoopState → Loop := fun st => { state := st, pending := none, fn, tmps := a.tmps, params := ps, assign, body, defers := D }
  let W1 : World := (w.alloc (.deferred (some []))).alloc (.loop (rec_ .ready))
  have hsz : W1.heap.size = D + 2 := by show ((w.alloc _).alloc _).heap.size = _; rw [World.size_alloc, World.size_alloc, hD]
  have hk1 : Kept2 D (rec_ .ready) W1 := by
    constructor
    · have := World.alloc_heap_new (w.alloc (.deferred (some []))) (.loop (rec_ .ready))
      rwa [World.size_alloc, hD] at this
    · have h2 := World.alloc_heap_new w (.deferred (some []))
      rw [hD] at h2
      exact (Below.heap_alloc _ _ _ (by rw [World.size_alloc, hD]; omega)).trans h2
  have hI1 : I [] W1 := hI.alloc _ (hI.alloc _ h0)
  have hbW : Below w0.heap.size w0 W1 := hb0.trans ((((Below.refl w.heap.size w).alloc (Nat.le_refl _) _).alloc (by rw [World.size_alloc]; omega) _).mono (by have := hb0.size; omega))
  refine ⟨D + 1, [{ target := .collected D, args := #[] }], W1, { target := .fn (.func gf) lb, args := #[.func (.yield (D + 1)) #[] #[]] }, W1, gf, #[.func (.yield (D + 1)) #[] #[]] ++ lb, W1, ?_, ?_, ?_, ?_, fun _ => h1, ?_⟩
  · have := run_enterLoop_outer (P := P) (w := w) fn a.tmps ps assign body
    rw [hD] at this
    exact this
  · simp only [resolve, hg]
    simp [go_sem]
  · intro f' hf'
    simp [Target.leads] at hf'
    subst hf'
    exact hFg
  · simp [invoke, go_sem, eg]
  · refine (hseq (D + 1) (fun pre W => I pre W ∧ Kept2 D (rec_ .ready) W) W1 hbW (fun s A B row hs hgr hr => ⟨hI s A B row hs.1 hgr (fun q e => ?_), hs.2.walks hgr (fun q e => (hr q e).2)⟩) ?_ ⟨hI1, hk1⟩).mono ?_
    · obtain ⟨hq, o, ho, hwk⟩ := hr q e
      exact ⟨by omega, o, ho, Obj.not_cells_of_walk hwk⟩
    · rintro pre x W ⟨hi, hk⟩ hm hlen
      refine ⟨fn, _, assign, body, run_yield (P := P) (args := encs x) hk.1 (hps x), roundIn_of_wpIn hfn (hassign _ pre x W _ hi hm ?_)⟩
      intro a' Wa hkf hkp hia hma hax
      have hka := hk.keeps (Nat.le_refl _) hkf
      have hbz := hka.put (rec_ .busy)
      have e1 : Kp Wa (Wa.putObj (D + 1) (.loop (rec_ .busy))) := hKb _ _ _ _ (by omega) hka.1 rfl rfl
      refine ⟨_, run_beginRound hka.1 rfl, wpIn_mono (hbody _ pre x a' _ (by omega) (hI.putObj _ hia (by omega) hka.1 rfl) ((hM x).putObj (s := ()) _ hma (by omega) hka.1 rfl) ((hAx x a').putObj (s := ()) _ hax (by omega) hka.1 rfl) hlen) ?_⟩
      rintro e a3 W3 ⟨rfl, hkf3, hkp3, hi3⟩
      have hk3 := hbz.keeps (Nat.le_refl _) hkf3
      refine ⟨_, _, run_endRound (P := P) none hk3.1, rfl, ⟨hI.putObj _ hi3 (by omega) hk3.1 rfl, hk3.put (rec_ .ready)⟩, hKt hkp (hKt (hKt e1 hkp3) (hKb _ _ _ _ (by omega) hk3.1 rfl rfl))⟩
    · rintro e W2 ⟨⟨v, rfl⟩, xs, hS, hi, hk⟩
      have hend := run_endLoop (P := P) hk.1 (show LoopState.ready ≠ LoopState.busy by simp)
      refine ⟨none, _, hend, hdone D xs _ (Nat.le_refl _) hS (hI.putObj _ hi (by omega) hk.1 rfl) ((World.putObj_heap_other (by omega)).trans hk.2)⟩
end
end Go.Proofs.YticogmpafehomaaGreatDoor

set_option linter.unusedVariables false
set_option linter.unusedSimpArgs false
namespace Go.Proofs.YticogmpafehomaaGreatDoor
open Go.RowKit Go.Shelf Go.Proofs.YticogmpafehomaaGreatDoorW.PrintWords Go.Proofs.YticogmpafehomaaGreatDoorW.PrintMore
attribute [local go_sem] Oper.semAt_some

/-- A record that is yielded: what it tells, and where its bytes lie. -/
abbrev XR := SR × Option Addr × Nat
def encR (x : XR) : Array Value := #[recV x.1 x.2.1 x.2.2]
def MxR (B : Nat) (x : XR) (W : World) : Prop := KB.R 5 W B (fun k => B ≤ k) (.slice x.2.1 x.1.bytes.length x.2.2) x.1.bytes ∧ x.1.bytes.length ≤ x.2.2 ∧ x.1.bytes.length ≤ 131072
/-- The block of the row that the variable lb holds. -/
def OwnL (lb : Nat) (W : World) (k : Nat) : Prop := ∃ v t, W.heap[lb]? = some (.cells #[v] t (0, 0)) ∧ v.ownBlock = some k
theorem OwnL.back {lb : Nat} {W W' : World} {k : Nat} (h : OwnL lb W' k) (hb : Below W.heap.size W W') (hl : lb < W.heap.size) : OwnL lb W k := by
  obtain ⟨v, t, h1, h2⟩ := h
  exact ⟨v, t, (hb.block lb hl).symm.trans h1, h2⟩
/-- Which blocks are which. -/
structure Fx (lb rb hb B : Nat) (okd : Nat → Prop) : Prop where
  fl : lb < B
  fr : rb < B
  fh : hb < B
  n1 : rb ≠ hb
  n2 : rb ≠ lb
  n3 : hb ≠ lb
  d : ∀ k, okd k → k < B ∧ k ≠ hb ∧ k ≠ lb
/-- What the rounds stand on. -/
structure RI (lb rb hb p B : Nat) (okd : Nat → Prop) (D : DM) (base size gen : Int) (W : World) : Prop where
  box : W.heap[rb]? = some (.cells #[.pointer (some ⟨hb, 0, none⟩)] 96 (0, 0))
  h : ∃ t n, HBlk W hb p ⟨base, size, gen, t, n⟩
  d : PDisk W okd p D
  own : ∀ k, OwnL lb W k → B ≤ k ∧ k < W.heap.size
  sz : B ≤ W.heap.size
/-- What a consumer's round keeps. -/
structure KpH (lb hb p : Nat) (base size gen : Int) (W W' : World) : Prop where
  grow : W.heap.size ≤ W'.heap.size
  same : ∀ k, isC W k → k ≠ hb → k ≠ lb → ¬ OwnL lb W k → W'.heap[k]? = W.heap[k]?
  own : ∀ k, OwnL lb W' k → (OwnL lb W k ∨ W.heap.size ≤ k) ∧ (k < W'.heap.size ∨ OwnL lb W k)
  h : ∀ t n, HBlk W hb p ⟨base, size, gen, t, n⟩ → ∃ t' n', HBlk W' hb p ⟨base, size, gen, t', n'⟩
theorem isC_lt {W : World} {k : Nat} (h : isC W k) : k < W.heap.size := by obtain ⟨_, _, hc⟩ := h; exact blk_lt hc
theorem KpH.trans {lb hb p : Nat} {base size gen : Int} {A B C : World} (h : KpH lb hb p base size gen A B) (k : KpH lb hb p base size gen B C) : KpH lb hb p base size gen A C := by
  refine ⟨Nat.le_trans h.grow k.grow, fun q hq n1 n2 no => ?_, fun q hq => ?_, fun t n hh => ?_⟩
  · have e1 := h.same q hq n1 n2 no
    have hq' : isC B q := by obtain ⟨c, t, hc⟩ := hq; exact ⟨c, t, e1.trans hc⟩
    refine (k.same q hq' n1 n2 (fun ho => ?_)).trans e1
    rcases (h.own q ho).1 with h1 | h1
    · exact no h1
    · have := isC_lt hq; omega
  · obtain ⟨a1, a2⟩ := k.own q hq
    constructor
    · rcases a1 with a1 | a1
      · exact (h.own q a1).1
      · exact .inr (Nat.le_trans h.grow a1)
    · rcases a2 with a2 | a2
      · exact .inl a2
      · rcases (h.own q a2).2 with b | b
        · exact .inl (Nat.lt_of_lt_of_le b k.grow)
        · exact .inr b
  · obtain ⟨t', n', h1⟩ := h.h t n hh
    exact k.h t' n' h1
theorem RI.below {lb rb hb p B : Nat} {okd : Nat → Prop} {D : DM} {base size gen : Int} {W W' : World} (h : RI lb rb hb p B okd D base size gen W) (hF : Fx lb rb hb B okd) (hbl : Below W.heap.size W W') : RI lb rb hb p B okd D base size gen W' := by
  obtain ⟨t, n, hh⟩ := h.h
  have hsz := h.sz
  have hs := hbl.size
  exact ⟨(hbl.block _ (by have := hF.fr; omega)).trans h.box, ⟨t, n, hh.step (hbl.block _ (by have := hF.fh; omega))⟩, h.d.step (fun k _ hk => hbl.block k hk), fun k hk => by
    obtain ⟨a, b⟩ := h.own k (hk.back hbl (by have := hF.fl; omega))
    exact ⟨a, by omega⟩, by omega⟩
theorem RI.keep {lb rb hb p B : Nat} {okd : Nat → Prop} {D : DM} {base size gen : Int} {W W' : World} (h : RI lb rb hb p B okd D base size gen W) (hF : Fx lb rb hb B okd) (hk : KpH lb hb p base size gen W W') : RI lb rb hb p B okd D base size gen W' := by
  obtain ⟨t, n, hh⟩ := h.h
  have hsz := h.sz
  refine ⟨(hk.same rb ⟨_, _, h.box⟩ hF.n1 hF.n2 (fun ho => ?_)).trans h.box, hk.h t n hh, (h.d.cells.step (fun k hc _ => hk.same k hc.2 (hF.d k hc.1).2.1 (hF.d k hc.1).2.2 (fun ho => ?_))).mono (fun _ hc => hc.1), fun k ho => ?_, Nat.le_trans hsz hk.grow⟩
  · have := (h.own rb ho).1; have := hF.fr; omega
  · have := (h.own k ho).1; have := (hF.d k hc.1).1; omega
  · obtain ⟨a1, a2⟩ := hk.own k ho
    refine ⟨?_, ?_⟩
    · rcases a1 with a1 | a1
      · exact (h.own k a1).1
      · omega
    · rcases a2 with a2 | a2
      · exact a2
      · exact Nat.lt_of_lt_of_le (h.own k a2).2 hk.grow
theorem R_W4r {w : World} {base b n c : Nat} {ok : Nat → Prop} {A : Option Addr} {xs : List Int} {a0 a1 a2 a3 : Value} (h : KB.R 5 w base ok (.slice A n c) xs) (hb : w.heap[b]? = some (.cells #[a0, a1, a2, a3] 117 (0, 0))) (v0 v1 v2 v3 : Value) :
    KB.R 5 (W4s w b v0 v1 v2 v3) base ok (.slice A n c) xs := by
  have h1 := heap_setCell_same w b 0 _ _ v0 hb
  have h2 := heap_setCell_same _ b 1 _ _ v1 h1
  have h3 := heap_setCell_same _ b 2 _ _ v2 h2
  exact Kd.R_set (Kd.R_set (Kd.R_set (Kd.R_set h hb (by decide) 0 v0) h1 (by decide) 1 v1) h2 (by decide) 2 v2) h3 (by decide) 3 v3
set_option maxRecDepth 100000 in
set_option maxHeartbeats 8000000 in
theorem records_in {w : World} {lb rb hb p B : Nat} {okd : Nat → Prop} {D : DM} {base size : Nat} {gen : Int} (hF : Fx lb rb hb B okd) (h : RI lb rb hb p B okd D base size gen w) (hn : base + size ≤ D.n) (hg : D.gone = false) :
    SeqMem Fence.wide 1 Tryz.prog 150 #[.pointer (some ⟨rb, 0, none⟩)] encR (KpH lb hb p base size gen) (MxR B) (fun xs => xs.map (·.1) = recsM D base size gen) size w := by
  intro l J W hW hJ hY h0
  have hRI0 := h.below hF hW
  have hn4 := h.d.1.hi
  refine callsIn_of_wp Tryz.func150 rfl trivial ?_ rfl
  simp only [Tryz.ntmps150, List.size_toArray, List.length_cons, List.length_nil, Nat.reduceAdd, Nat.reduceSub, Array.replicate_succ, Array.replicate_zero, List.push_toArray, List.append_toArray, List.nil_append, List.cons_append]
  gi_wp2_with fail
  gi_loopw [3] (fun av wr => ∃ (xs : List XR), av = .int .i64 ((tailOf (xs.map (·.1)) : Nat) : Int) ∧ xs.map (·.1) ++ recsAt D base size gen (size - tailOf (xs.map (·.1))) (tailOf (xs.map (·.1))) = recsM D base size gen ∧ tailOf (xs.map (·.1)) ≤ size ∧ J xs wr ∧ RI lb rb hb p B okd D base size gen wr ∧ W.heap.size ≤ wr.heap.size) (fun av _ => size - (intOf av).toNat)
  case atStart => exact ⟨[], rfl, rfl, Nat.zero_le _, h0, hRI0, Nat.le_refl _⟩
  case round =>
    obtain ⟨xs, rfl, hX, htl, hJr, hRI, hsz⟩ := hrel
    obtain ⟨a, hxa⟩ : ∃ a, tailOf (xs.map (·.1)) = a := ⟨_, rfl⟩
    rw [hxa] at hX htl ⊢
    have HX := hid hX
    have HXA := hid hxa
    clear hX hRI0 hxa
    obtain ⟨t0, n0, hh⟩ := hRI.h
    have kb : wr.cell? ⟨rb, 0, none⟩ = some (.pointer (some ⟨hb, 0, none⟩)) := by have := cell_of_row _ _ 0 _ _ _ hRI.box; simpa using this
    have k0 := hh.cell0
    have k1 := hh.cell1
    have k2 := hh.cell2
    have k3 := hh.cell3
    dsimp only at k0 k1 k2 k3
    by_cases hlt : a < size
    · have hltI : (a : Int) < (size : Int) := by omega
      have hD0 := hRI.d.step (w1 := wr.drew) (fun _ _ _ => rfl)
      obtain ⟨E, hE0⟩ : ∃ E : Int, E = ((base + size : Nat) : Int) := ⟨_, rfl⟩
      obtain ⟨V, hV⟩ : ∃ V, readV D base E gen a = V := ⟨_, rfl⟩
      have hE : readE D base E a = 0 := by
        rw [hE0]
        unfold readE regE
        rw [if_neg (by omega), if_neg (by omega), if_neg (by rw [hg]; simp)]
      have HVE := hid (And.intro hV hE)
      have HV := hid (show readV D base ((base + size : Nat) : Int) gen a = V from hE0 ▸ hV)
      clear hV hE
      have hwE : IntKind.i64.wrap ((base : Int) + (size : Int)) = E := by rw [hE0, IntKind.wrap_i64]; omega
      clear hE0
      gi_wp2_with fail
      refine wpIn_wide.2 (wp_region_plan [] (.take 0 (.take 1 (.take 2 (.take 3 (.take 4 (.take 5 (.take 6 (.take 7 (.take 8 (.take 9 (.take 10 (.take 11 (.take 12 (.take 13 (.take 14 (.take 15 (.take 16 (.take 17 (.take 18 (.take 19 (.take 20 (.take 21 (.both 22 (.take 23 (.take 24 (.take 25 (.take 26 (.run 27 (.run 28 (.take 29 (.take 30 .done)))))))) 27 (.run 22 (.take 23 (.take 24 (.take 25 (.take 26 (.run 28 (.take 29 (.take 30 .done))))))))))))))))))))))))))))))) (fun w' => Below wr.heap.size wr w') (by kernel_rfl) (by kernel_rfl) (fun c a d v w h => by cases d <;> exact h) (below_drew (Below.refl _ _)) ?_)
      iterate 22 (apply plan_take rfl rfl; (case hy => (intro w' hS; have e0 := pw_cell_below hS kb; have e1 := pw_cell_below hS k0; have e2 := pw_cell_below hS k1; have e3 := pw_cell_below hS k2; have e4 := pw_cell_below hS k3; clear hS; go_simp; try exact rfl)); go_simp)
      refine plan_both ?_ ?_
      · refine plan_run_on rfl rfl (fun K hK => ?_)
        go_simp
        have hrd := sread_any hD0 base E gen a
        rw [HVE.out.1, HVE.out.2] at hrd
        refine hrd.mono ?_
        clear hrd
        rintro e w1 ⟨A1, c1, rfl, hR1, hle, hb1⟩
        have hBa : Below wr.heap.size wr w1 := below_step (below_drew (Below.refl _ _)) hb1
        refine hK _ _ _ (fun _ h => h) hBa ?_
        clear hK K
        unfold recV
        go_simp
        iterate 4 (apply plan_take rfl rfl; (case hy => (intro w' hS; clear hS; go_simp; try exact rfl)); go_simp)
        refine plan_run_on rfl rfl (fun K hK => ?_)
        go_simp
        have hBn' := below_step hBa (below_alloc (Below.refl w1.heap.size w1) (.cells #[.int .u64 0, .int .i64 0, .int .i64 0, .slice none 0 0] 117))
        refine hK _ _ _ (fun _ h => h) hBn' ?_
        clear hK K
        go_simp
        refine plan_run_on rfl rfl (fun K hK => ?_)
        go_simp
        have hBn := below_step hBa (below_alloc (Below.refl w1.heap.size w1) (.cells #[.int .u64 (V.getD noR).gen, .int .i64 (V.getD noR).at_, .int .i64 (V.getD noR).kind, .slice A1 (V.getD noR).bytes.length c1] 117))
        refine hK _ _ _ (fun _ h => h) hBn ?_
        clear hK K
        go_simp
        iterate 2 (apply plan_take rfl rfl; (case hy => (intro w' hS; clear hS; go_simp; try exact rfl)); go_simp)
        refine plan_done ?_
        have hbx := heap_alloc_new w1 (.cells #[.int .u64 (V.getD noR).gen, .int .i64 (V.getD noR).at_, .int .i64 (V.getD noR).kind, .slice A1 (V.getD noR).bytes.length c1] 117)
        have hRow : KB.R 5 (w1.alloc (.cells #[.int .u64 (V.getD noR).gen, .int .i64 (V.getD noR).at_, .int .i64 (V.getD noR).kind, .slice A1 (V.getD noR).bytes.length c1] 117)) B (fun k => B ≤ k) (.slice A1 (V.getD noR).bytes.length c1) (V.getD noR).bytes := Kd.R_alloc (Kd.R_lower (Kd.R_mono hR1 (fun k hk => Nat.le_trans hRI.sz hk)) hRI.sz) _
        have hbxs : wr.heap.size ≤ w1.heap.size := hBa.size
        clear hBn' hb1 hR1 hBa
        generalize w1.alloc (.cells #[.int .u64 (V.getD noR).gen, .int .i64 (V.getD noR).at_, .int .i64 (V.getD noR).kind, .slice A1 (V.getD noR).bytes.length c1] 117) = wN at hBn hbx hRow ⊢
        generalize w1.heap.size = bx at hbx hbxs ⊢
        have hRIn := hRI.below hF hBn
        have hJn : J xs wN := hJ xs wr wN none hJr (grown_of_below hBn) (fun _ e => by cases e)
        have hbxC : isC wN bx := ⟨_, _, hbx⟩
        have hown : ¬ OwnL lb wN bx := fun ho => by
          have := (hRI.own bx (ho.back hBn (by have := hF.fl; have := hRI.sz; omega))).2
          omega
        have hbxb : bx ≠ hb ∧ bx ≠ lb := by have := hF.fh; have := hF.fl; have := hRI.sz; exact ⟨by omega, by omega⟩
        cases V with
        | none =>
          clear hbx hRow hbxC hown
          gi_wp2_with fail
          rename_i hk _ _ _ _
          refine ⟨(fun _ h => by cases h), hk _ _ ?_⟩
          clear hk
          gi_wp2_with fail
          refine bodyPost_ret (results_none rfl _ _ _) rfl ?_
          exact ⟨⟨_, rfl⟩, xs, by rw [← HX.out, recsAt_stop (.inr HV.out)]; simp, hJn⟩
        | some r =>
          have hgot := readV_got hRI.d.1 HV.out
          simp only [Option.getD_some, Option.isSome_some] at hbx hRow hle ⊢
          obtain ⟨fn, tmps, assign, body, hy, hR⟩ := hY xs (r, A1, c1) wN hJn ⟨hRow, hle, hgot.l⟩ (by have := tailOf_len (xs.map (·.1)); rw [List.length_map, HXA.out] at this; omega)
          dsimp only [encR, recV] at hy
          have q0 := cell_of_row _ _ 0 _ _ _ hbx
          have q1 := cell_of_row _ _ 1 _ _ _ hbx
          have q2 := cell_of_row _ _ 2 _ _ _ hbx
          have q3 := cell_of_row _ _ 3 _ _ _ hbx
          simp at q0 q1 q2 q3
          gi_wp2_with fail
          refine hR.mono ?_
          rintro e W8 ⟨rfl, hJ8, hk8⟩
          have hbx8 := (hk8.same bx hbxC hbxb.1 hbxb.2 hown).trans hbx
          have q83 := cell_of_row _ _ 3 _ _ _ hbx8
          simp at q83
          have hRI8 := hRIn.keep hF hk8
          have s8 : W.heap.size ≤ W8.heap.size := Nat.le_trans hsz (Nat.le_trans hBn.size hk8.grow)
          have hnd := need_any (w := W8) (r.bytes.length : Int) (by have := hgot.l; omega)
          rw [need_bodies hgot.l] at hnd
          have hfit := hgot.fit
          have hrel := recsM_at (xs.map (·.1)) (by rw [HXA.out]; exact HX.out) (by rw [HXA.out]; exact hlt) (by rw [HXA.out]; exact HV.out)
          have hlr : (xs ++ [((r, A1, c1) : XR)]).map (·.1) = xs.map (·.1) ++ [r] := by simp
          rw [← hlr] at hrel
          have htl : tailOf ((xs ++ [((r, A1, c1) : XR)]).map (·.1)) = a + (bodies r + 1) := by rw [hlr, tailOf_snoc, HXA.out]
          have HREL := hid (And.intro hrel htl)
          have hwS : IntKind.i64.wrap ((a : Int) + ((bodies r : Int) + 1)) = (a : Int) + ((bodies r : Int) + 1) := by rw [IntKind.wrap_i64]; omega
          have hfitN : a + (bodies r + 1) ≤ size := by omega
          clear hR hy hrel htl hlr hbx hRow q0 q1 q2 q3 hbx8 hbxC hown hRIn hgot
          gi_wp2_with fail
          refine ⟨trivial, callsIn_wide.2 (hnd.mono ?_)⟩
          rintro e W9 ⟨rfl, rfl⟩
          gi_wp2_with fail
          go_roundw
          case rel => exact ⟨xs ++ [(r, A1, c1)], by rw [HREL.out.2]; rfl, HREL.out.1, by rw [HREL.out.2]; exact hfitN, hJ8, hRI8, s8⟩
          case measure => simp [intOf]; omega
      · refine plan_run_on rfl rfl (fun K hK => ?_)
        go_simp
        have hBz := below_step (below_drew (Below.refl wr.heap.size wr)) (below_alloc (Below.refl wr.drew.heap.size wr.drew) (.cells #[.int .u64 0, .int .i64 0, .int .i64 0, .slice none 0 0] 117))
        have hz0 := heap_alloc_new wr.drew (.cells #[.int .u64 0, .int .i64 0, .int .i64 0, .slice none 0 0] 117)
        have hDz := hRI.d.step (w1 := wr.drew.alloc (.cells #[.int .u64 0, .int .i64 0, .int .i64 0, .slice none 0 0] 117)) (fun k _ hk => hBz.block k hk)
        refine hK _ _ _ (fun _ h => h) hBz ?_
        clear hK K
        go_simp
        refine plan_run_on rfl rfl (fun K hK => ?_)
        go_simp
        have hrd := sread_any hDz base E gen a
        rw [HVE.out.1, HVE.out.2] at hrd
        refine hrd.mono ?_
        clear hrd
        rintro e w1 ⟨A1, c1, rfl, hR1, hle, hb1⟩
        have hBa : Below wr.heap.size wr w1 := below_step hBz hb1
        have hz1 : w1.heap[wr.heap.size]? = some (.cells #[.int .u64 0, .int .i64 0, .int .i64 0, .slice none 0 0] 117 (0, 0)) := (hb1.block _ (blk_lt hz0)).trans hz0
        refine hK _ _ _ (fun _ h => h) hBa ?_
        clear hK K
        unfold recV
        go_simp
        have z0 := cell_of_row _ _ 0 _ _ _ hz1
        have z1 := cell_of_row _ _ 1 _ _ _ hz1
        have z2 := cell_of_row _ _ 2 _ _ _ hz1
        have z3 := cell_of_row _ _ 3 _ _ _ hz1
        have f0 := frozen_of_row _ _ 0 _ _ hz1
        have f1 := frozen_of_row _ _ 1 _ _ hz1
        have f2 := frozen_of_row _ _ 2 _ _ hz1
        have f3 := frozen_of_row _ _ 3 _ _ hz1
        simp at z0 z1 z2 z3
        iterate 4 (apply plan_take rfl rfl; (case hy => (intro w' hS; clear hS; go_simp; try exact rfl)); go_simp)
        refine plan_run_on rfl rfl (fun K hK => ?_)
        go_simp
        have hBn := below4 hBa (Nat.le_refl _) (.int .u64 (V.getD noR).gen) (.int .i64 (V.getD noR).at_) (.int .i64 (V.getD noR).kind) (.slice A1 (V.getD noR).bytes.length c1)
        refine hK _ _ _ (fun _ h => h) hBn ?_
        clear hK K
        go_simp
        iterate 2 (apply plan_take rfl rfl; (case hy => (intro w' hS; clear hS; go_simp; try exact rfl)); go_simp)
        refine plan_done ?_
        have hbx := set4 hz1 (.int .u64 (V.getD noR).gen) (.int .i64 (V.getD noR).at_) (.int .i64 (V.getD noR).kind) (.slice A1 (V.getD noR).bytes.length c1)
        have hRow : KB.R 5 (W4s w1 wr.heap.size (.int .u64 (V.getD noR).gen) (.int .i64 (V.getD noR).at_) (.int .i64 (V.getD noR).kind) (.slice A1 (V.getD noR).bytes.length c1)) B (fun k => B ≤ k) (.slice A1 (V.getD noR).bytes.length c1) (V.getD noR).bytes :=
          R_W4r (Kd.R_lower (Kd.R_mono hR1 (fun k hk => Nat.le_trans hRI.sz (Nat.le_trans hBz.size hk))) (Nat.le_trans hRI.sz hBz.size)) hz1 _ _ _ _
        have hbxs : wr.heap.size ≤ wr.heap.size := Nat.le_refl _
        clear hb1 hR1 hBa hBz hz0 hDz z0 z1 z2 z3 f0 f1 f2 f3 hz1
        have hW4 : W4s w1 wr.heap.size (.int .u64 (V.getD noR).gen) (.int .i64 (V.getD noR).at_) (.int .i64 (V.getD noR).kind) (.slice A1 (V.getD noR).bytes.length c1) = (((w1.setCell ⟨wr.heap.size, 0, none⟩ (.int .u64 (V.getD noR).gen)).setCell ⟨wr.heap.size, 1, none⟩ (.int .i64 (V.getD noR).at_)).setCell ⟨wr.heap.size, 2, none⟩ (.int .i64 (V.getD noR).kind)).setCell ⟨wr.heap.size, 3, none⟩ (.slice A1 (V.getD noR).bytes.length c1) := rfl
        rw [← hW4]
        clear hW4
        generalize W4s w1 wr.heap.size (.int .u64 (V.getD noR).gen) (.int .i64 (V.getD noR).at_) (.int .i64 (V.getD noR).kind) (.slice A1 (V.getD noR).bytes.length c1) = wN at hBn hbx hRow ⊢
        obtain ⟨bx, hbxe⟩ : ∃ bx, bx = wr.heap.size := ⟨_, rfl⟩
        rw [← hbxe] at hbx ⊢
        have hbxs : wr.heap.size ≤ bx := by omega
        clear hbxe
        have hRIn := hRI.below hF hBn
        have hJn : J xs wN := hJ xs wr wN none hJr (grown_of_below hBn) (fun _ e => by cases e)
        have hbxC : isC wN bx := ⟨_, _, hbx⟩
        have hown : ¬ OwnL lb wN bx := fun ho => by
          have := (hRI.own bx (ho.back hBn (by have := hF.fl; have := hRI.sz; omega))).2
          omega
        have hbxb : bx ≠ hb ∧ bx ≠ lb := by have := hF.fh; have := hF.fl; have := hRI.sz; exact ⟨by omega, by omega⟩
        cases V with
        | none =>
          clear hbx hRow hbxC hown
          gi_wp2_with fail
          rename_i hk _ _ _ _
          refine ⟨(fun _ h => by cases h), hk _ _ ?_⟩
          clear hk
          gi_wp2_with fail
          refine bodyPost_ret (results_none rfl _ _ _) rfl ?_
          exact ⟨⟨_, rfl⟩, xs, by rw [← HX.out, recsAt_stop (.inr HV.out)]; simp, hJn⟩
        | some r =>
          have hgot := readV_got hRI.d.1 HV.out
          simp only [Option.getD_some, Option.isSome_some] at hbx hRow hle ⊢
          obtain ⟨fn, tmps, assign, body, hy, hR⟩ := hY xs (r, A1, c1) wN hJn ⟨hRow, hle, hgot.l⟩ (by have := tailOf_len (xs.map (·.1)); rw [List.length_map, HXA.out] at this; omega)
          dsimp only [encR, recV] at hy
          have q0 := cell_of_row _ _ 0 _ _ _ hbx
          have q1 := cell_of_row _ _ 1 _ _ _ hbx
          have q2 := cell_of_row _ _ 2 _ _ _ hbx
          have q3 := cell_of_row _ _ 3 _ _ _ hbx
          simp at q0 q1 q2 q3
          gi_wp2_with fail
          refine hR.mono ?_
          rintro e W8 ⟨rfl, hJ8, hk8⟩
          have hbx8 := (hk8.same bx hbxC hbxb.1 hbxb.2 hown).trans hbx
          have q83 := cell_of_row _ _ 3 _ _ _ hbx8
          simp at q83
          have hRI8 := hRIn.keep hF hk8
          have s8 : W.heap.size ≤ W8.heap.size := Nat.le_trans hsz (Nat.le_trans hBn.size hk8.grow)
          have hnd := need_any (w := W8) (r.bytes.length : Int) (by have := hgot.l; omega)
          rw [need_bodies hgot.l] at hnd
          have hfit := hgot.fit
          have hrel := recsM_at (xs.map (·.1)) (by rw [HXA.out]; exact HX.out) (by rw [HXA.out]; exact hlt) (by rw [HXA.out]; exact HV.out)
          have hlr : (xs ++ [((r, A1, c1) : XR)]).map (·.1) = xs.map (·.1) ++ [r] := by simp
          rw [← hlr] at hrel
          have htl : tailOf ((xs ++ [((r, A1, c1) : XR)]).map (·.1)) = a + (bodies r + 1) := by rw [hlr, tailOf_snoc, HXA.out]
          have HREL := hid (And.intro hrel htl)
          have hwS : IntKind.i64.wrap ((a : Int) + ((bodies r : Int) + 1)) = (a : Int) + ((bodies r : Int) + 1) := by rw [IntKind.wrap_i64]; omega
          have hfitN : a + (bodies r + 1) ≤ size := by omega
          clear hR hy hrel htl hlr hbx hRow q0 q1 q2 q3 hbx8 hbxC hown hRIn hgot
          gi_wp2_with fail
          refine ⟨trivial, callsIn_wide.2 (hnd.mono ?_)⟩
          rintro e W9 ⟨rfl, rfl⟩
          gi_wp2_with fail
          go_roundw
          case rel => exact ⟨xs ++ [(r, A1, c1)], by rw [HREL.out.2]; rfl, HREL.out.1, by rw [HREL.out.2]; exact hfitN, hJ8, hRI8, s8⟩
          case measure => simp [intOf]; omega
    · have hltI : ¬ (a : Int) < (size : Int) := by omega
      gi_wp2_with fail
      go_end0
      exact ⟨⟨_, rfl⟩, xs, by rw [← HX.out, recsAt_stop (.inl hlt)]; simp, hJr⟩
end Go.Proofs.YticogmpafehomaaGreatDoor

set_option linter.unusedVariables false
set_option linter.unusedSimpArgs false
namespace Go.Proofs.YticogmpafehomaaGreatDoor
open Go.RowKit Go.Proofs.YticogmpafehomaaGreatDoorW.PrintWords

theorem opens_bytes : Opens Tryz.prog 25 (Kd.slice 5 KB) (fun xs => Bytes xs ∧ xs.length ≤ 140737488351232) :=
  (opens_slice Tryz.underlying25 (by kernel_rfl) (B := 1) (by kernel_rfl) (opens_int Tryz.underlying5)).mono fun _ h => ⟨fun x hx => by have := bounds_u8 (h.1 x hx); omega, by have := h.2; omega⟩
end Go.Proofs.YticogmpafehomaaGreatDoor

set_option linter.unusedVariables false
set_option linter.unusedSimpArgs false
namespace Go.Proofs.YticogmpafehomaaGreatDoor
open Go.RowKit Go.Proofs.YticogmpafehomaaGreatDoorW.PrintWords

abbrev KRec : Kd SR := Kd.iso (Kd.pair (Kd.int .u64) (Kd.pair (Kd.int .i64) (Kd.pair (Kd.int .i64) (Kd.slice 5 KB)))) (fun x : SR => (x.gen, x.at_, x.kind, x.bytes))
def SR.cells (o : SR) (A : Option Addr) (c : Nat) : List Value := [.int .u64 o.gen, .int .i64 o.at_, .int .i64 o.kind, .slice A o.bytes.length c]
theorem KRec_open {w : World} {o : SR} {cs : List Value} (h : KRec.K w o cs) : ∃ A c, cs = o.cells A c ∧ o.bytes.length ≤ c ∧ KB.C w A o.bytes.length o.bytes := by
  obtain ⟨c0, cs1, rfl, h0, c1, cs2, rfl, h1, c2, c3, rfl, h2, A, c, h3, hl, hC⟩ := h
  obtain rfl : c0 = [.int .u64 o.gen] := h0
  obtain rfl : c1 = [.int .i64 o.at_] := h1
  obtain rfl : c2 = [.int .i64 o.kind] := h2
  subst h3
  exact ⟨A, c, rfl, hl, hC⟩
theorem add_add' (a : Addr) (i j : Nat) : (a.add i).add j = a.add (i + j) := by
  unfold Addr.add
  by_cases e1 : i = 0 <;> by_cases e2 : j = 0 <;> simp [e1, e2, Nat.add_assoc]
theorem rec_at {w : World} {ad : Addr} {l : List SR} (h : KRec.C w (some ad) l.length l) {i : Nat} (hi : i < l.length) :
    ∃ A c, (∀ j v, (l[i].cells A c)[j]? = some v → w.cell? ((ad.add (i * 4)).add j) = some v) ∧ l[i].bytes.length ≤ c ∧ KB.C w A l[i].bytes.length l[i].bytes := by
  obtain ⟨ad', cs, hA, hcs, hK, hcell⟩ := Kd.C_get h ⟨0, 0, 0, []⟩ (i : Int) (by omega) (by omega)
  injection hA with hA
  subst hA
  simp only [Int.toNat_natCast] at hK hcell
  have hget : l.getD i ⟨0, 0, 0, []⟩ = l[i] := by simp [List.getD_eq_getElem?_getD, hi]
  rw [hget] at hK
  obtain ⟨A, c, rfl, hl, hC⟩ := KRec_open hK
  refine ⟨A, c, fun j v hj => ?_, hl, hC⟩
  have h3 := hcell j v hj
  rw [add_add']
  exact h3
end Go.Proofs.YticogmpafehomaaGreatDoor

set_option linter.unusedVariables false
set_option linter.unusedSimpArgs false
namespace Go.Proofs.YticogmpafehomaaGreatDoor
open Go.RowKit Go.Shelf Go.Proofs.YticogmpafehomaaGreatDoorW.PrintWords Go.Proofs.YticogmpafehomaaGreatDoorW.PrintMore
attribute [local go_sem] Oper.semAt_some

theorem info_Rec : (Tryz.prog.info? 117).map (fun i => (i.zero, i.size, i.bytes)) = some (some (.agg #[.int .u64 0, .int .i64 0, .int .i64 0, .slice none 0 0]), 4, 48) := by kernel_rfl
theorem KRec_M {w : World} {base : Nat} {ok : Nat → Prop} {r : SR} {A : Option Addr} {c : Nat} (h : KB.R 5 w base ok (.slice A r.bytes.length c) r.bytes) : KRec.M w base ok r (r.cells A c) :=
  ⟨[.int .u64 r.gen], [.int .i64 r.at_, .int .i64 r.kind, .slice A r.bytes.length c], rfl, rfl, [.int .i64 r.at_], [.int .i64 r.kind, .slice A r.bytes.length c], rfl, rfl, [.int .i64 r.kind], [.slice A r.bytes.length c], rfl, rfl, _, rfl, h⟩
section
variable {F : Fence} {nF : Nat} {P : Program} {ops : Array Oper} {rest : List Oper} {o : Oper} {a : Act} {Q : Exit → Act → World → Prop} {α : Type}
/-- An append to a row, in a walk with a fence. -/
theorem R_append_in (d : Kd α) {W : World} (base : Nat) (hgd : o.guard = none) (s x : Operand) (t e : TypeId) (z : Value) (bytes : Nat)
    (ho : o.op = .call { callee := .builtin .append, args := #[s, x], argTypes := #[t, t] })
    (ht : P.underlying t = some (.slice e)) (hinfo : (P.info? e).map (fun i => (i.zero, i.size, i.bytes)) = some (some z, d.sz, bytes)) (hz : z.cells.size = d.sz) (hs0 : 0 < d.sz) (hb0 : 0 < bytes)
    (v : Value) (xs : List α) (p : α) (cs : List Value) (ok okp : Nat → Prop) (hs : a.eval s = v) (hx : a.eval x = .slice (some ⟨W.heap.size, 0, none⟩) 1 1) (hp : d.M W base okp p cs) (hokp : ∀ k, okp k → ok k ∧ some k ≠ v.ownBlock) (hfresh : ∀ k, W.heap.size ≤ k → ok k)
    (HO : d.R e W base ok v xs) (hbase : base ≤ W.heap.size) (hl : (xs.length + 1) * bytes ≤ 140737488355328)
    (h : ∀ v1 w1, d.R e w1 base ok v1 (xs ++ [p]) → W.grownBy w1 v.ownBlock → (v1.ownBlock = v.ownBlock ∨ ∃ b, v1.ownBlock = some b ∧ W.heap.size ≤ b) → wpListIn F nF P ops Q rest (a.put o.dst v1) w1) :
    wpListIn F nF P ops Q (o :: rest) a (W.alloc (.cells cs.toArray e)) := by
  obtain ⟨h0, inner, hown, hr⟩ := HO
  obtain ⟨i0, hi, hzz⟩ := Option.map_eq_some_iff.1 hinfo
  simp only [Prod.mk.injEq] at hzz
  obtain ⟨hz0, hz1, hz2⟩ := hzz
  have hlen : xs.length + 1 ≤ 140737488355328 := Nat.le_trans (Nat.le_mul_of_pos_right _ hb0) hl
  refine wpListIn_append_own_at (w := W.alloc (.cells cs.toArray e)) hgd s x t ho base e i0 z d.sz bytes ht hi hz0 hz1 hz2 hz hs0 v xs.length inner hs (hown.alloc _) ⟨W.heap.size, 0, none⟩ 1 1 cs hx (by rw [d.K_len (d.K_of_M hp)]; simp)
    (by simpa using World.news_of_block (cs := cs.toArray) (t := e) (fr := (0, 0)) (heap_alloc_new W (.cells cs.toArray e))) (d.K_one (d.K_of_M hp)) (by simp only [maxLen]; omega) hl (by simp; omega) ?_
  intro v1 w1 hown1 hg _ hat
  have hg2 := World.grownBy.trans (World.grownBy_alloc W (.cells cs.toArray e) v.ownBlock) hg
  have hat2 : v1.ownBlock = v.ownBlock ∨ ∃ b, v1.ownBlock = some b ∧ W.heap.size ≤ b := by
    rcases hat with hat | hat
    · exact .inl hat
    · exact .inr ⟨_, hat, by simp⟩
  exact h v1 w1 (Kd.R_appended h0 hr hp hokp hfresh hown1 hg2 hat2) hg2 hat2
end
/-- Block g is not the row's own. -/
def NotL (lb g : Nat) (W : World) : Prop := ∃ v, W.heap[lb]? = some (.cells #[v] 111 (0, 0)) ∧ some g ≠ v.ownBlock
theorem NotL.turn {lb g : Nat} {W W' : World} (h : NotL lb g W) {row : Option Nat} (hg : W.grownBy W' row) (hr : ∀ r, row = some r → ∃ o : Obj, W.heap[r]? = some o ∧ o.isCells = false) : NotL lb g W' := by
  obtain ⟨v, h1, h2⟩ := h
  exact ⟨v, (turn_cells hg hr ⟨_, _, h1⟩).trans h1, h2⟩
/-- What stands after some rounds of Open. -/
structure OI (w : World) (lb hb p xb B : Nat) (base size gen : Int) (l : List SR) (W : World) : Prop where
  row : ∃ v, W.heap[lb]? = some (.cells #[v] 111 (0, 0)) ∧ KRec.R 117 W B (fun k => B ≤ k) v l
  h : HBlk W hb p ⟨base, size, gen, (tailOf l : Int), (l.length : Int)⟩
  x : W.heap[xb]? = some (.cells #[.pointer (some ⟨hb, 0, none⟩)] 96 (0, 0))
  bel : Below w.heap.size w W
  sz : B ≤ W.heap.size
  few : tailOf l ≤ l.length * 3000
theorem OI.turn {w W W' : World} {lb hb p xb B : Nat} {base size gen : Int} {l : List SR} (h : OI w lb hb p xb B base size gen l W) {row : Option Nat} (hg : W.grownBy W' row) (hr : ∀ r, row = some r → w.heap.size ≤ r ∧ ∃ o : Obj, W.heap[r]? = some o ∧ o.isCells = false) : OI w lb hb p xb B base size gen l W' := by
  obtain ⟨⟨v, h1, h2⟩, h3, h4, h5, h6, h7⟩ := h
  have ht : ∀ k, isC W k → W'.heap[k]? = W.heap[k]? := fun k hk => turn_cells hg (fun r e => (hr r e).2) hk
  refine ⟨⟨v, (ht _ ⟨_, _, h1⟩).trans h1, ?_⟩, h3.step (ht _ ⟨_, _, h3⟩), (ht _ ⟨_, _, h4⟩).trans h4, h5.trans ⟨hg.os, hg.tape, hg.output, hg.size, fun k hk => hg.block k (by have := h5.size; omega) (fun e => by have := (hr k e.symm).1; omega)⟩, Nat.le_trans h6 hg.size, h7⟩
  refine Kd.R_mono (Kd.R_step (Kd.R_bound h2) (fun k hk _ => ht k ?_)) (fun k hk => hk.1)
  obtain ⟨_, _, _, q, _, cs, hc⟩ := hk
  exact ⟨_, _, hc⟩
theorem MxR_turn {B : Nat} {x : XR} {W W' : World} (h : MxR B x W) {row : Option Nat} (hg : W.grownBy W' row) (hr : ∀ r, row = some r → ∃ o : Obj, W.heap[r]? = some o ∧ o.isCells = false) : MxR B x W' := by
  refine ⟨?_, h.2⟩
  refine Kd.R_mono (Kd.R_step (Kd.R_bound h.1) (fun k hk _ => turn_cells hg hr ?_)) (fun k hk => hk.1)
  obtain ⟨_, _, _, q, _, cs, hc⟩ := hk
  exact ⟨_, _, hc⟩
theorem OI.fresh {w W : World} {lb hb p xb B : Nat} {base size gen : Int} {l : List SR} (h : OI w lb hb p xb B base size gen l W) (o : Obj) : NotL lb W.heap.size (W.alloc o) := by
  obtain ⟨⟨v, h1, h2⟩, h3, h4, h5, h6, h7⟩ := h
  refine ⟨v, (Below.heap_alloc W o lb (blk_lt h1)).trans h1, fun hm => ?_⟩
  obtain ⟨cs, hc⟩ := Kd.R_typed h2 _ hm.symm
  have := blk_lt hc
  omega
theorem KpH_putObj {lb hb p l : Nat} {base size gen : Int} {W : World} {o o' : Obj} (h1 : lb < l) (h2 : hb < l) (hl : W.heap[l]? = some o) (ho : o.isCells = false) : KpH lb hb p base size gen W (W.putObj l o') := by
  refine ⟨by simp, fun k hk _ _ _ => World.putObj_heap_other (fun e => ?_), fun k hk => ?_, fun t n hh => ⟨t, n, hh.step (World.putObj_heap_other (by omega))⟩⟩
  · obtain ⟨cs, q, hc⟩ := hk
    rw [e] at hc
    rw [hc] at hl
    cases hl
    cases ho
  · obtain ⟨v, t, q1, q2⟩ := hk
    have : OwnL lb W k := ⟨v, t, (World.putObj_heap_other (by omega)).symm.trans q1, q2⟩
    exact ⟨.inl this, .inr this⟩
theorem KpH_alloc {lb hb p : Nat} {base size gen : Int} {W : World} (h1 : lb < W.heap.size) (h2 : hb < W.heap.size) (o : Obj) : KpH lb hb p base size gen W (W.alloc o) := by
  refine ⟨by simp, fun k hk _ _ _ => Below.heap_alloc _ _ _ (isC_lt hk), fun k hk => ?_, fun t n hh => ⟨t, n, hh.step (Below.heap_alloc _ _ _ h2)⟩⟩
  obtain ⟨v, t, q1, q2⟩ := hk
  have : OwnL lb W k := ⟨v, t, (Below.heap_alloc _ _ _ h1).symm.trans q1, q2⟩
  exact ⟨.inl this, .inr this⟩
/-- A plan whose region cannot but run to its end. -/
theorem wpIn_plan_normal {P : Program} {n : Nat} {ops : Array Oper} {Q : Exit → Act → World → Prop} {id : Nat} {a : Act} {w : World} (T : List Nat) (p : Plan) (S : World → Prop) (hm : P.follows .mixedOrders = true) (hB : planB ops T p = true)
    (hS : S w.drew) (h : wpPlan P ops (fun e a w => e = Exit.normal ∧ Q e a w) p S a w.drew) : (Code.region id ops true).wpIn Fence.wide n P Q a w :=
  wpIn_mono (wpIn_wide.2 (wp_region_plan T p S hm hB (fun _ _ _ _ _ h => by cases h.1) hS h)) (fun e a w h => h.2)
end Go.Proofs.YticogmpafehomaaGreatDoor

set_option linter.unusedVariables false
set_option linter.unusedSimpArgs false
namespace Go.Proofs.YticogmpafehomaaGreatDoor
open Go.RowKit Go.Shelf Go.Proofs.YticogmpafehomaaGreatDoorW.PrintWords Go.Proofs.YticogmpafehomaaGreatDoorW.PrintMore
attribute [local go_sem] Oper.semAt_some

/-- What Open hands out. -/
def Opened (w : World) (p : Nat) (D : DM) (base size : Nat) (gen : Int) (e : Ending) (w' : World) : Prop :=
  ∃ hb A c, e = .returned (.tuple #[.pointer (some ⟨hb, 0, none⟩), .slice A (recsM D base size gen).length c, .int .i64 0]) ∧ w.heap.size ≤ hb ∧ HBlk w' hb p ⟨base, size, gen, (tailOf (recsM D base size gen) : Int), ((recsM D base size gen).length : Int)⟩ ∧
    KRec.R 117 w' w.heap.size (fun k => w.heap.size ≤ k) (.slice A (recsM D base size gen).length c) (recsM D base size gen) ∧ Below w.heap.size w w'
set_option maxRecDepth 100000 in
set_option maxHeartbeats 8000000 in
theorem hopen_ok {w : World} {ok : Nat → Prop} {p : Nat} {D : DM} (h : PDisk w ok p D) (base size : Nat) (gen : Int) (he : hnewE D base size gen = 0) (hg : D.gone = false) :
    Calls Tryz.prog 66 #[.pointer (some ⟨p, 0, none⟩), .int .i64 base, .int .i64 size, .int .u64 gen] w (Opened w p D base size gen) := by
  have hnw := hnew_ok h base size gen he
  have hn4 := h.1.hi
  have hbs : base + size ≤ D.n ∧ 0 < size := by
    unfold hnewE at he
    split at he
    · cases he
    · rename_i hh; omega
  have hd0 : PDisk w (fun k => ok k ∧ k < w.heap.size) p D := h.cells.mono (fun _ hc => ⟨hc.1, isC_lt hc.2⟩)
  refine (callsIn_wide (n := 2)).1 (callsIn_of_wp_marks Tryz.func66 rfl trivial ?_ rfl)
  simp only [Tryz.ntmps66, List.size_toArray, List.length_cons, List.length_nil, Nat.reduceAdd, Nat.reduceSub, Array.replicate_succ, Array.replicate_zero, List.push_toArray, List.append_toArray, List.nil_append, List.cons_append]
  gi_wp2_with fail
  refine ⟨trivial, callsIn_wide.2 (hnw.mono ?_)⟩
  rintro e w1 ⟨rfl, hh1, hb1⟩
  have hs1 : w.heap.size < w1.heap.size := hh1.lt
  have hx2 := heap_alloc_new w1 (.cells #[.pointer (some ⟨w.heap.size, 0, none⟩)] 96)
  have hb2 : Below w.heap.size w (w1.alloc (.cells #[.pointer (some ⟨w.heap.size, 0, none⟩)] 96)) := below_step hb1 (below_alloc (Below.refl _ _) _)
  have hh2 : HBlk (w1.alloc (.cells #[.pointer (some ⟨w.heap.size, 0, none⟩)] 96)) w.heap.size p ⟨base, size, gen, 0, 0⟩ := hh1.step (Below.heap_alloc _ _ _ hs1)
  have hs2 : (w1.alloc (.cells #[.pointer (some ⟨w.heap.size, 0, none⟩)] 96)).heap.size = w1.heap.size + 1 := World.size_alloc _ _
  have hdd := dead_any (h.step (w1 := w1.alloc (.cells #[.pointer (some ⟨w.heap.size, 0, none⟩)] 96)) (fun k _ hk => hb2.block k hk))
  rw [hg] at hdd
  generalize hw2 : w1.alloc (.cells #[.pointer (some ⟨w.heap.size, 0, none⟩)] 96) = w2 at hx2 hb2 hh2 hs2 hdd
  have hs2b := And.intro (Nat.le_of_eq hs2) (Nat.le_of_eq hs2.symm)
  have HW2 := hid hw2
  clear hs2 hw2 hnw he hh1 hb1
  gi_wp2_with fail
  rw [HW2.out]
  refine ⟨trivial, callsIn_wide.2 (hdd.mono ?_)⟩
  rintro e w2' ⟨rfl, rfl⟩
  clear hdd HW2
  have hl3 := heap_alloc_new w2 (.cells #[.slice none 0 0] 111)
  have hb23 := below_alloc (Below.refl w2.heap.size w2) (.cells #[.slice none 0 0] 111)
  have hx3 := (hb23.block _ (blk_lt hx2)).trans hx2
  have hh3 := hh2.step (hb23.block _ hh2.lt)
  have hb3 := below_step hb2 hb23
  have hs3 : (w2.alloc (.cells #[.slice none 0 0] 111)).heap.size = w2.heap.size + 1 := World.size_alloc _ _
  have hs3b := And.intro (Nat.le_of_eq hs3) (Nat.le_of_eq hs3.symm)
  have k1 := cell_of_row _ _ 0 _ _ _ hx3
  simp at k1
  clear hb23 hx2 hh2 hb2 hs3
  have HB3 := hid (And.intro hl3 (And.intro hx3 (And.intro hh3 (And.intro hb3 hs3b))))
  clear hl3 hx3 hh3 hb3 hs3b
  gi_wp2_with fail
  refine ⟨trivial, callsIn_wide.2 ((records_any _).mono ?_)⟩
  rintro e w4 ⟨rfl, hw4⟩
  obtain ⟨hl3, hx3, hh3, hb3, hs3b⟩ := HB3.out
  clear HB3 k1
  generalize w2.alloc (.cells #[.slice none 0 0] 111) = w3 at hl3 hx3 hh3 hb3 hs3b hw4 ⊢
  have hr4 := heap_alloc_new w3 (.cells #[.pointer (some ⟨w.heap.size, 0, none⟩)] 96)
  have hb34 := below_alloc (Below.refl w3.heap.size w3) (.cells #[.pointer (some ⟨w.heap.size, 0, none⟩)] 96)
  have hs4 : (w3.alloc (.cells #[.pointer (some ⟨w.heap.size, 0, none⟩)] 96)).heap.size = w3.heap.size + 1 := World.size_alloc _ _
  rw [← hw4] at hr4 hb34 hs4
  have hs4b := And.intro (Nat.le_of_eq hs4) (Nat.le_of_eq hs4.symm)
  have hl4 := (hb34.block _ (blk_lt hl3)).trans hl3
  have hx4 := (hb34.block _ (blk_lt hx3)).trans hx3
  have hh4 := hh3.step (hb34.block _ hh3.lt)
  have hb4 := below_step hb3 hb34
  have hd4 := hd0.step (w1 := w4) (fun k _ hk => hb4.block k hk)
  clear hb34 hl3 hx3 hh3 hb3 hw4 hs4
  have hF : Fx w2.heap.size w3.heap.size w.heap.size w4.heap.size (fun k => ok k ∧ k < w.heap.size) := ⟨by omega, by omega, by omega, by omega, by omega, by omega, fun k hk => ⟨by omega, by omega, by omega⟩⟩
  have hRI : RI w2.heap.size w3.heap.size w.heap.size p w4.heap.size (fun k => ok k ∧ k < w.heap.size) D base size gen w4 := ⟨hr4, ⟨_, _, hh4⟩, hd4, (fun k hk => by
    obtain ⟨v, t, q1, q2⟩ := hk
    rw [hl4] at q1
    cases q1
    cases q2), Nat.le_refl _⟩
  have hseq := records_in hF hRI hbs.1 hg
  have hI0 : OI w w2.heap.size w.heap.size p w1.heap.size w4.heap.size base size gen [] w4 := ⟨⟨_, hl4, Kd.R_nil _ _ _ _ _⟩, hh4, hx4, hb4, Nat.le_refl _, Nat.le_refl _⟩
  have HN := hid (And.intro hs2b (And.intro hs3b hs4b))
  have HF := hid hF
  clear hRI hl4 hx4 hh4 hb4 hd4 hr4 hs2b hs3b hs4b hd0 h hF
  gi_wp2_with fail
  refine wpIn_range_mem (α := XR) (n := 2) (w := w4) rfl (by decide) (gf := 150) (lb := #[.pointer (some ⟨w3.heap.size, 0, none⟩)]) rfl trivial (enters_of Tryz.func150 (by kernel_rfl) rfl)
    hseq (fun a b => a.trans b) (fun W l o o' hl ho hc _ => KpH_putObj (by have := HN.out; omega) (by have := HN.out; omega) ho hc) (Below.refl _ _) (fun _ => rfl)
    (fun x s X Y row hs hgr hr => MxR_turn hs hgr (fun r e => (hr r e).2))
    (fun xs W => OI w w2.heap.size w.heap.size p w1.heap.size w4.heap.size base size gen (xs.map (fun z : XR => z.1)) W)
    (fun s X Y row hs hgr hr => OI.turn hs hgr (fun r e => ⟨by have := (hr r e).1; have := HN.out; omega, (hr r e).2⟩))
    hI0
    (fun x a' W => ∃ Bx, w4.heap.size ≤ Bx ∧ W.heap[Bx]? = some (.cells #[.int .u64 x.1.gen, .int .i64 x.1.at_, .int .i64 x.1.kind, .slice x.2.1 x.1.bytes.length x.2.2] 117 (0, 0)) ∧ NotL w2.heap.size Bx W ∧ a' = { tmps := #[.pointer (some ⟨p, 0, none⟩), .int .i64 base, .int .i64 size, .int .u64 gen, undef, undef, undef, undef, .pointer none, .slice none 0 0, .int .i64 0, .pointer (some ⟨w1.heap.size, 0, none⟩), .int .i64 0, .pointer (some ⟨w2.heap.size, 0, none⟩), .pointer (some ⟨Bx, 0, none⟩), .tuple #[.pointer (some ⟨w.heap.size, 0, none⟩), .int .i64 0], .pointer (some ⟨p, 0, none⟩), .int .i64 base, .int .i64 size, .int .u64 gen, .tuple #[.pointer (some ⟨w.heap.size, 0, none⟩), .int .i64 0], .pointer (some ⟨w.heap.size, 0, none⟩), .int .i64 0, .int .i64 0, .bool false, undef, .pointer (some ⟨p, 0, none⟩), .bool false, .pointer (some ⟨w.heap.size, 0, none⟩), .func (.func 150) #[] #[.pointer (some ⟨w3.heap.size, 0, none⟩)], .agg #[.int .u64 x.1.gen, .int .i64 x.1.at_, .int .i64 x.1.kind, .slice x.2.1 x.1.bytes.length x.2.2], undef, undef, undef, undef, undef, undef, undef, undef, undef, undef, undef, undef, undef, undef, undef, undef, undef, undef, undef, undef, undef, undef, undef, undef], defers := [] })
    (fun x a' s X Y row hs hgr hr => by obtain ⟨Bx, e1, e2, e3, e4⟩ := hs; exact ⟨Bx, e1, (turn_cells hgr (fun r e => (hr r e).2) ⟨_, _, e2⟩).trans e2, e3.turn hgr (fun r e => (hr r e).2), e4⟩)
    ?assign ?body ?done
  case assign =>
    rintro l pre ⟨r, A1, c1⟩ W K hI hM hK
    dsimp only [encR, recV]
    gi_wp2
    exact hK _ _ ((KeepsOthers.alloc _ _).from _) (KpH_alloc (by have := hI.sz; have := HF.out.fl; omega) (by have := hI.sz; have := HF.out.fh; omega) _) (OI.turn hI (World.grownBy_alloc W _ none) (fun r e => by cases e)) (MxR_turn hM (World.grownBy_alloc W _ none) (fun r e => by cases e)) ⟨W.heap.size, hI.sz, heap_alloc_new _ _, OI.fresh hI _, rfl⟩
  case body =>
    rintro l pre ⟨r, A1, c1⟩ a' W hl0 hI hM ⟨Bx, hBx, hbx, ⟨v, hbo, hne⟩, rfl⟩ hlt
    obtain ⟨hM1, hM2, hM3⟩ := hM
    dsimp only at hbx hM1 hM2 hM3 ⊢
    obtain ⟨⟨v', hbo', hR⟩, hh, hx, hbel, hsz, hfew⟩ := hI
    obtain rfl : v' = v := by rw [hbo'] at hbo; cases hbo; rfl
    have hFx := HF.out
    have hm1 := hFx.fl
    have hm2 := hFx.fh
    have hmx : w1.heap.size < w4.heap.size ∧ w1.heap.size ≠ w2.heap.size ∧ w1.heap.size ≠ w.heap.size ∧ w.heap.size < w2.heap.size := by have := HN.out; omega
    have hbse := Kd.R_base hR
    have hRr : KB.R 5 W w4.heap.size (fun k => w4.heap.size ≤ k ∧ some k ≠ v'.ownBlock) (.slice A1 r.bytes.length c1) r.bytes := by
      refine Kd.R_mono (Kd.R_bound hM1) (fun k hk => ⟨hk.1, ?_⟩)
      obtain ⟨_, _, _, q, hq, cs, hc⟩ := hk
      have hq2 : q ∈ [5] := hq
      obtain rfl := List.mem_singleton.1 hq2
      exact Kd.R_ne hR hc (by decide)
    have hcv : W.cell? ⟨w2.heap.size, 0, none⟩ = some v' := by have := cell_of_row _ _ 0 _ _ _ hbo; simpa using this
    have q0 := cell_of_row _ _ 0 _ _ _ hbx
    have q1 := cell_of_row _ _ 1 _ _ _ hbx
    have q2 := cell_of_row _ _ 2 _ _ _ hbx
    have q3 := cell_of_row _ _ 3 _ _ _ hbx
    simp at q0 q1 q2 q3
    obtain ⟨ls, hls⟩ : ∃ ls, ls = pre.map (fun z : XR => z.1) := ⟨_, rfl⟩
    rw [← hls] at hR hh hfew
    have hlen : ls.length = pre.length := by rw [hls, List.length_map]
    have HLS := hid (And.intro hls hlen)
    have hlsb : ls.length < 4096 := by omega
    clear hls hlen hlt hm1 hm2 hFx hM1
    gi_wp2_with (gi_at_builtin; refine R_append_in KRec w4.heap.size rfl (.tmp 31) (.tmp 33) 111 117 (.agg #[.int .u64 0, .int .i64 0, .int .i64 0, .slice none 0 0]) 48 rfl Tryz.underlying111 info_Rec rfl (by decide) (by decide) v' ls r (r.cells A1 c1) (fun k => w4.heap.size ≤ k) (fun k => w4.heap.size ≤ k ∧ some k ≠ v'.ownBlock) rfl rfl (KRec_M hRr) (fun k hk => hk) (fun k hk => Nat.le_trans hsz hk) hR hsz (by omega) ?_)
    intro v1 w5 hR5 hg5 hat5
    obtain ⟨A5, c5, rfl⟩ := Kd.R_slice hR5
    obtain ⟨v5, hv5⟩ : ∃ v5, v5 = Value.slice A5 (ls ++ [r]).length c5 := ⟨_, rfl⟩
    rw [← hv5] at hR5 hat5 ⊢
    generalize (ls ++ [r]).length = n5 at hv5
    have hm := HF.out
    have hm1 := hm.fl
    have hm2 := hm.fh
    have hblk : ∀ q, q < W.heap.size → some q ≠ v'.ownBlock → w5.heap[q]? = W.heap[q]? := fun q h1 h2 => hg5.block q h1 (fun e => h2 e)
    have nlt : ∀ q, q < w4.heap.size → some q ≠ v'.ownBlock := fun q hq e => by have := hbse q e.symm; omega
    have hbo5 := (hblk _ (blk_lt hbo) (nlt _ hm1)).trans hbo
    have hh5 := hh.step (hblk _ hh.lt (nlt _ hm2))
    have hx5 := (hblk _ (blk_lt hx) (nlt _ hmx.1)).trans hx
    have hbx5 := (hblk _ (blk_lt hbx) hne).trans hbx
    have hl6 := heap_setCell_same w5 w2.heap.size 0 _ _ v5 hbo5
    have hh6 : HBlk (w5.setCell ⟨w2.heap.size, 0, none⟩ v5) _ _ _ := hh5.step (Below.heap_setCell _ _ _ _ (by show w.heap.size ≠ w2.heap.size; omega))
    have hx6 : (w5.setCell ⟨w2.heap.size, 0, none⟩ v5).heap[w1.heap.size]? = _ := (Below.heap_setCell _ _ _ _ (by show w1.heap.size ≠ w2.heap.size; omega)).trans hx5
    have hbx6 : (w5.setCell ⟨w2.heap.size, 0, none⟩ v5).heap[Bx]? = _ := (Below.heap_setCell _ _ _ _ (by show Bx ≠ w2.heap.size; omega)).trans hbx5
    obtain ⟨T, hT⟩ : ∃ T : Int, ((tailOf (ls ++ [r]) : Nat) : Int) = T := ⟨_, rfl⟩
    obtain ⟨N, hN⟩ : ∃ N : Int, (((ls ++ [r]).length : Nat) : Int) = N := ⟨_, rfl⟩
    have hbod : bodies r + 1 ≤ 3000 := by unfold bodies; omega
    have hwT : IntKind.i64.wrap (((tailOf ls : Nat) : Int) + ((bodies r : Int) + 1)) = T := by
      rw [← hT, tailOf_snoc, IntKind.wrap_i64]; omega
    have hwN : IntKind.i64.wrap ((ls.length : Int) + 1) = N := by
      rw [← hN, List.length_append, List.length_singleton, IntKind.wrap_i64]; omega
    have hfew2 : tailOf (ls ++ [r]) ≤ (ls ++ [r]).length * 3000 := by rw [tailOf_snoc, List.length_append, List.length_singleton]; omega
    have hh7 : HBlk ((w5.setCell ⟨w2.heap.size, 0, none⟩ v5).setCell ⟨w.heap.size, 4, none⟩ (.int .i64 T)) _ _ _ := hh6.setTail T
    have hh8 := hh7.setN N
    have k7x : ((w5.setCell ⟨w2.heap.size, 0, none⟩ v5).setCell ⟨w.heap.size, 4, none⟩ (.int .i64 T)).heap[w1.heap.size]? = _ := (Below.heap_setCell (w5.setCell ⟨w2.heap.size, 0, none⟩ v5) ⟨w.heap.size, 4, none⟩ (.int .i64 T) w1.heap.size (by show w1.heap.size ≠ w.heap.size; omega)).trans hx6
    have hch : Chg (fun q => some q = v'.ownBlock ∨ q = w2.heap.size ∨ q = w.heap.size) W (((w5.setCell ⟨w2.heap.size, 0, none⟩ v5).setCell ⟨w.heap.size, 4, none⟩ (.int .i64 T)).setCell ⟨w.heap.size, 5, none⟩ (.int .i64 N)).drew :=
      ((((((Chg.refl _ W).grown hg5 (fun q e => .inl (.inl e.symm))).setCell (p := ⟨w2.heap.size, 0, none⟩) (.inl (.inr (.inl rfl))) v5)).setCell (p := ⟨w.heap.size, 4, none⟩) (.inl (.inr (.inr rfl))) (.int .i64 T)).setCell (p := ⟨w.heap.size, 5, none⟩) (.inl (.inr (.inr rfl))) (.int .i64 N)).drew
    have hset : ∀ q, q ≠ w2.heap.size → q ≠ w.heap.size → (((w5.setCell ⟨w2.heap.size, 0, none⟩ v5).setCell ⟨w.heap.size, 4, none⟩ (.int .i64 T)).setCell ⟨w.heap.size, 5, none⟩ (.int .i64 N)).drew.heap[q]? = w5.heap[q]? := fun q h1 h2 =>
      (Below.heap_setCell _ ⟨w.heap.size, 5, none⟩ _ q h2).trans ((Below.heap_setCell _ ⟨w.heap.size, 4, none⟩ _ q h2).trans (Below.heap_setCell w5 ⟨w2.heap.size, 0, none⟩ v5 q h1))
    have hl8 : (((w5.setCell ⟨w2.heap.size, 0, none⟩ v5).setCell ⟨w.heap.size, 4, none⟩ (.int .i64 T)).setCell ⟨w.heap.size, 5, none⟩ (.int .i64 N)).drew.heap[w2.heap.size]? = _ :=
      (Below.heap_setCell _ ⟨w.heap.size, 5, none⟩ _ w2.heap.size (by show w2.heap.size ≠ w.heap.size; omega)).trans ((Below.heap_setCell _ ⟨w.heap.size, 4, none⟩ _ w2.heap.size (by show w2.heap.size ≠ w.heap.size; omega)).trans hl6)
    have hR8 := Kd.R_step hR5 (fun q hq _ => hset q (by omega) (by omega))
    have hKP := hid (show KpH w2.heap.size w.heap.size p base size gen W _ from ⟨hch.size, fun k hk n1 n2 no => hch.block k (isC_lt hk) (by
        rintro (e | e | e)
        · exact no ⟨v', _, hbo, e.symm⟩
        · exact n2 e
        · exact n1 e), fun k hk => by
      obtain ⟨u, t, a1, a2⟩ := hk
      rw [hl8] at a1
      cases a1
      refine ⟨?_, ?_⟩
      · rcases hat5 with e | ⟨b, e1, e2⟩
        · exact .inl ⟨v', _, hbo, e ▸ a2⟩
        · rw [e1] at a2; cases a2; exact .inr e2
      · obtain ⟨cs, hcs⟩ := Kd.R_typed hR8 k a2
        exact .inl (blk_lt hcs), fun t n _ => ⟨_, _, hh8⟩⟩)
    have hKF := hid (KeepsFrom.of_chg (B := w4.heap.size) hch (fun q hq => by
      rcases hq with e | rfl | rfl
      · obtain ⟨cs, hcs⟩ := Kd.R_typed hR q e.symm; exact ⟨_, _, hcs⟩
      · exact ⟨_, _, hbo⟩
      · exact ⟨_, _, hh⟩))
    have hHH : Hid (OI w w2.heap.size w.heap.size p w1.heap.size w4.heap.size base size gen ((pre ++ [((r, A1, c1) : XR)]).map (fun z : XR => z.1)) (((w5.setCell ⟨w2.heap.size, 0, none⟩ v5).setCell ⟨w.heap.size, 4, none⟩ (.int .i64 T)).setCell ⟨w.heap.size, 5, none⟩ (.int .i64 N)).drew) := hid (by
      rw [List.map_append, ← HLS.out.1]
      show OI w w2.heap.size w.heap.size p w1.heap.size w4.heap.size base size gen (ls ++ [r]) _
      refine ⟨⟨v5, hl8, hR8⟩, ?_, ?_, ?_, Nat.le_trans hsz hch.size, hfew2⟩
      · rw [hT, hN]; exact hh8
      · exact (hset _ (by omega) (by omega)).trans hx5
      · exact hbel.trans (hch.below_ (B := w.heap.size) hbel.size (fun q hq => by
          rcases hq with e | rfl | rfl
          · have := hbse q e.symm; omega
          · omega
          · omega)))
    have kx := cell_of_row _ _ 0 _ _ _ hx6
    have kx7 := cell_of_row _ _ 0 _ _ _ k7x
    have kt := hh6.cell4
    have kn7 := hh7.cell5
    have kb := cell_of_row _ _ 3 _ _ _ hbx6
    have z0 := frozen_of_row _ _ 0 _ _ hbo5
    have kl5 := cell_of_row _ _ 0 _ _ _ hbo5
    have z4 := hh6.free 4
    have z5 := hh7.free 5
    simp at kx kx7 kb kl5
    dsimp only at kt kn7
    have hnb := need_bodies hM3
    have HNB := hid hnb
    clear hnb hT hN hfew2 hbod hlsb hfew hbse hne hblk nlt hset hR8 hl8 hch hRr hM2 hmx hm hm1 hm2 hat5 hg5 hbel hR hh hx hbo' hcv q0 q1 q2 q3 hh7 hh8 k7x hx5 hh5 hbx5
    rw [hv5] at *
    gi_wp2_with fail
    refine wpIn_region_plan [9, 10, 11] (.take 0 (.take 1 (.take 2 (.take 3 (.take 4 (.take 5 (.take 6 (.run 7 (.take 8 (.tail 9 (.tail 10 (.tail 11 .done)))))))))))) (fun w' => w' = (w5.setCell ⟨w2.heap.size, 0, none⟩ (.slice A5 n5 c5)).drew) (by kernel_rfl) (by kernel_rfl) (by kernel_rfl) (by rintro ⟨_, _, h⟩; have h2 : Exit.outgrown = Exit.normal ∧ _ := h; cases h2.1) (fun c a d v w h => h) rfl ?_
    iterate 7 (apply plan_take rfl rfl; (case hy => (intro w' hS; subst hS; go_simp; try exact rfl)); go_simp)
    refine plan_run_on rfl rfl (fun K hK => ?_)
    go_simp
    refine (need_any _ (by omega)).mono ?_
    rintro e w' ⟨rfl, rfl⟩
    rw [HNB.out]
    refine hK _ _ _ (fun _ h => h) rfl ?_
    clear hK K
    go_simp
    apply plan_take rfl rfl
    case hy => (intro w' hS; subst hS; go_simp; try exact rfl)
    go_simp
    refine plan_tail_on rfl rfl (fun K hK => ?_)
    go_simp
    refine hK _ _ ?_
    clear hK K
    refine plan_tail_on rfl rfl (fun K hK => ?_)
    go_simp
    refine hK _ _ ?_
    clear hK K
    refine plan_tail_on rfl rfl (fun K hK => ?_)
    go_simp
    refine hK _ _ (plan_done ?_)
    clear hK K
    gi_wp2_with fail
    exact ⟨hKF.out, hKP.out, by have hq := hHH.out; rw [List.map_append] at hq; exact hq⟩
  case done =>
    rintro D1 xs W hD1 hS hI hK
    rw [hS] at hI
    obtain ⟨⟨v, hbo, hR⟩, hh, hx, hbel, hsz, hfew⟩ := hI
    obtain ⟨A, c, rfl⟩ := Kd.R_slice hR
    have hN := HN.out
    have hI2 : OI w w2.heap.size w.heap.size p w1.heap.size w4.heap.size base size gen (recsM D base size gen) W.drew := ⟨⟨_, hbo, Kd.R_drew hR⟩, hh, hx, hbel.drew, hsz, hfew⟩
    obtain ⟨⟨v3, hbo3, hR3⟩, hh3, hx3, hbel3, hsz3, _⟩ := hI2.turn (grownBy_putObj' W.drew D1 (.deferred none)) (fun q e => by cases e; exact ⟨by omega, _, hK, rfl⟩)
    have e3 : v3 = .slice A (recsM D base size gen).length c := by
      have q5 : (W.drew.putObj D1 (.deferred none)).heap[w2.heap.size]? = _ := (World.putObj_heap_other (by omega)).trans hbo
      rw [q5] at hbo3
      cases hbo3
      rfl
    subst e3
    have kx := cell_of_row _ _ 0 _ _ _ hx
    have kl := cell_of_row _ _ 0 _ _ _ hbo
    simp at kx kl
    have HF2 := hid (And.intro hK (And.intro hh3 (And.intro (Kd.R_mono (Kd.R_lower hR3 (by omega : w.heap.size ≤ w4.heap.size)) (ok' := fun k => w.heap.size ≤ k) (fun k hk => Nat.le_trans (by omega : w.heap.size ≤ w4.heap.size) hk)) hbel3)))
    clear hK hh3 hR3 hbel3 hbo3 hx3 hsz3 hI2 hN hR hh hx hbo hbel hfew
    obtain ⟨nn, hnn⟩ : ∃ nn, nn = (recsM D base size gen).length := ⟨_, rfl⟩
    rw [← hnn] at kl
    have HNN := hid hnn
    clear hnn
    gi_wp2_with fail
    refine wpIn_plan_normal [] (.take 0 (.take 1 (.take 2 (.take 3 (.take 4 .done))))) (fun w' => w' = W.drew) (by kernel_rfl) (by kernel_rfl) rfl ?_
    iterate 5 (apply plan_take rfl rfl; (case hy => (intro w' hS; subst hS; go_simp; try exact rfl)); go_simp)
    refine plan_done ⟨rfl, ?_⟩
    gi_wp2_with fail
    refine ⟨by simp, .inl ⟨_, _, rfl, run_takeDeferred HF2.out.1, ?_⟩⟩
    refine ⟨_, results_list rfl (by simp) (.tmp (.tmp (.tmp .nil))), w.heap.size, A, c, ?_, Nat.le_refl _, HF2.out.2⟩
    rw [HNN.out]
    rfl
end Go.Proofs.YticogmpafehomaaGreatDoor

set_option linter.unusedVariables false
set_option linter.unusedSimpArgs false
namespace Go.Proofs.YticogmpafehomaaGreatDoor
open Go.RowKit Go.Shelf Go.Proofs.YticogmpafehomaaGreatDoorW.PrintWords Go.Proofs.YticogmpafehomaaGreatDoorW.PrintMore

/-- What Append asks of a record before it writes. -/
def hputC (H : HM) (kind : Int) (n : Nat) : Int := if kind < 0 ∨ 255 < kind then 1 else if 131072 < n then 3 else if fitsB H n = false then 63 else 0
theorem hput_err {w : World} {hb p : Nat} {H : HM} (h : HBlk w hb p H) (h1 : 0 ≤ H.tail ∧ H.tail ≤ H.size ∧ H.size ≤ 4096) (kind : Int) (A : Option Addr) (n c : Nat) (hn : n ≤ 140737488355328) (he : ¬ hputC H kind n = 0) :
    Calls Tryz.prog 105 #[.pointer (some ⟨hb, 0, none⟩), .int .i64 kind, .slice A n c] w fun e w' => e = .returned (.int .i64 (hputC H kind n)) ∧ Below w.heap.size w w' := by
  have hf := fits_any h h1 (n : Int) (by omega)
  unfold hputC at he ⊢
  by_cases k1 : kind < 0
  · rw [if_pos (.inl k1)]
    go_enter Tryz.func105, Tryz.ntmps105
    go_wp2
    go_ret
    exact ⟨rfl, Below.refl _ _⟩
  by_cases k2 : 255 < kind
  · rw [if_pos (.inr k2)]
    go_enter Tryz.func105, Tryz.ntmps105
    go_wp2
    go_ret
    exact ⟨rfl, Below.refl _ _⟩
  rw [if_neg (by omega)] at he ⊢
  by_cases k3 : 131072 < n
  · rw [if_pos k3]
    have k3I : (131072 : Int) < (n : Int) := by omega
    go_enter Tryz.func105, Tryz.ntmps105
    go_wp2
    go_ret
    exact ⟨rfl, Below.refl _ _⟩
  have k3I : ¬ (131072 : Int) < (n : Int) := by omega
  rw [if_neg k3] at he ⊢
  cases hb2 : fitsB H n with
  | true => rw [hb2] at he; exact absurd rfl he
  | false =>
    rw [hb2] at hf
    rw [if_pos rfl]
    go_enter Tryz.func105, Tryz.ntmps105
    go_wp2_with (go_at_call 103; refine hf.mono ?_; rintro e w1 ⟨rfl, hB⟩)
    go_ret
    exact ⟨rfl, hB⟩
/-- What Append leaves: its answer, the disk, the log. -/
def hputR (H : HM) (kind : Int) (bs : List Int) : SR := ⟨H.gen, H.tail, kind, bs⟩
def hputH (D : DM) (H : HM) (kind : Int) (bs : List Int) : HM := if (D.sealW H.base (hputR H kind bs)).2 = 0 then { H with tail := H.tail + need bs.length, n := H.n + 1 } else H
set_option maxRecDepth 100000 in
set_option maxHeartbeats 4000000 in
theorem hput_ok {w : World} {okd okr : Nat → Prop} {hb p : Nat} {D : DM} {H : HM} {A : Option Addr} {c : Nat} {bs : List Int} (h : PDisk w okd p D) (hh : HBlk w hb p H) (hF : RB w okr A bs) (hne : apart okr okd) (hnh : ¬ okd hb) (hl : bs.length ≤ c) (hB : Bytes bs)
    (h1 : 0 ≤ H.tail ∧ H.tail ≤ H.size ∧ H.size ≤ 4096) (hg : 0 ≤ H.gen ∧ H.gen < 18446744073709551616) (hb9 : 0 ≤ H.base ∧ H.base ≤ 4096) (hn9 : 0 ≤ H.n ∧ H.n ≤ 4096) (hm : (D.ws.length + 65537) * 32 ≤ 140737488355328) (kind : Int) (he : hputC H kind bs.length = 0) :
    Calls Tryz.prog 105 #[.pointer (some ⟨hb, 0, none⟩), .int .i64 kind, .slice A bs.length c] w fun e w' => e = .returned (.int .i64 (D.sealW H.base (hputR H kind bs)).2) ∧ PDisk w' (orNew okd w) p (D.sealW H.base (hputR H kind bs)).1 ∧ HBlk w' hb p (hputH D H kind bs) ∧ Chg (fun k => okd k ∨ k = hb) w w' := by
  obtain ⟨k1, k2, k3⟩ : (0 ≤ kind ∧ kind ≤ 255) ∧ bs.length ≤ 131072 ∧ fitsB H bs.length = true := by
    unfold hputC at he
    split at he
    · cases he
    · split at he
      · cases he
      · split at he
        · cases he
        · rename_i a1 a2 a3
          exact ⟨by omega, by omega, by simpa using a3⟩
  have hf := fits_any hh h1 (bs.length : Int) (by omega)
  rw [k3] at hf
  have kn1 : ¬ kind < 0 := by omega
  have kn2 : ¬ 255 < kind := by omega
  have k3I : ¬ (131072 : Int) < (bs.length : Int) := by omega
  obtain ⟨⟨D2, E⟩, hX⟩ : ∃ X, D.sealW H.base (hputR H kind bs) = X := ⟨_, rfl⟩
  have hHb : H.base + 0 = H.base := by omega
  unfold hputH
  rw [hX]
  dsimp only
  have hlen9 : -9223372036854775808 ≤ (bs.length : Int) ∧ (bs.length : Int) ≤ 9223372036854775807 := by omega
  have hnb := need_bnd (bs.length : Int)
  go_enter Tryz.func105, Tryz.ntmps105
  go_wp2_with (go_at_call 103; refine hf.mono ?_; rintro e w1 ⟨rfl, hB1⟩)
  have hh1 := hh.step (hB1.block _ hh.lt)
  have hD1 := h.step (w1 := w1.drew) (fun k _ hk => hB1.block k hk)
  have hF1 : RB w1.drew okr A bs := RB_drew (RB_below hF hB1)
  have hsw := swrite_any p H.base (hputR H kind bs) hD1 hF1 hne hl hB hg (by omega) hm
  rw [hX] at hsw
  unfold recV hputR at hsw
  dsimp only at hsw
  have hlt1 := hh.lt
  clear hF hF1 hX k1 k2 k3 he hf hHb hB hl hm
  refine wp_region_plan [] (.take 0 (.take 1 (.take 2 (.take 3 (.take 4 (.take 5 (.take 6 (.take 7 (.take 8 (.take 9 (.take 10 (.take 11 (.take 12 (.take 13 (.take 14 (.take 15 (.take 16 (.take 17 (.take 18 (.run 19 (.take 20 .done))))))))))))))))))))) (fun w' => HBlk w' hb p H) (by kernel_rfl) (by kernel_rfl) (fun c a d v w h => by cases d <;> exact h) hh1 ?_
  iterate 19 (apply plan_take rfl rfl; (case hy => (intro w' hS; have e0 := hS.cell0; have e1 := hS.cell1; have e3 := hS.cell3; have e4 := hS.cell4; clear hS; go_simp; try exact rfl)); go_simp)
  refine plan_run_on rfl rfl (fun K hK => ?_)
  go_simp
  refine hsw.mono ?_
  rintro e w2 ⟨rfl, hD2, c2⟩
  have hh2 := hh1.step (c2.block _ (Nat.lt_of_lt_of_le hlt1 hB1.size) hnh)
  refine hK _ _ _ (fun _ h => h) hh2 ?_
  clear hK K hsw
  go_simp
  apply plan_take rfl rfl
  case hy => (intro w' hS; clear hS; go_simp; try exact rfl)
  go_simp
  refine plan_done ?_
  have hc2 : Chg (fun k => okd k ∨ k = hb) w w2 := (Chg.of_below hB1 (fun k => okd k ∨ k = hb)).drew.then_ c2 (fun k hk => .inl (.inl hk))
  have hD3 : PDisk w2 (orNew okd w) p D2 := hD2.mono (fun k hk => by
    rcases hk with hk | hk
    · exact .inl hk
    · exact .inr (Nat.le_trans hB1.size hk))
  by_cases hE : E = 0
  · subst hE
    obtain ⟨T, hT⟩ : ∃ T : Int, H.tail + need bs.length = T := ⟨_, rfl⟩
    obtain ⟨N, hN⟩ : ∃ N : Int, H.n + 1 = N := ⟨_, rfl⟩
    have hwT : IntKind.i64.wrap (H.tail + need bs.length) = T := by rw [← hT, IntKind.wrap_i64]; omega
    have hwN : IntKind.i64.wrap (H.n + 1) = N := by rw [← hN, IntKind.wrap_i64]; omega
    have hh7 : HBlk (w2.setCell ⟨hb, 4, none⟩ (.int .i64 T)) _ _ _ := hh2.setTail T
    have hh8 : HBlk ((w2.setCell ⟨hb, 4, none⟩ (.int .i64 T)).setCell ⟨hb, 5, none⟩ (.int .i64 N)).drew _ _ _ := hh7.setN N
    have hpd : ∀ k, isC w2 k → orNew okd w k → ((w2.setCell ⟨hb, 4, none⟩ (.int .i64 T)).setCell ⟨hb, 5, none⟩ (.int .i64 N)).drew.heap[k]? = w2.heap[k]? := fun k _ hk => by
      have hkb : k ≠ hb := by
        rintro rfl
        rcases hk with hk | hk
        · exact hnh hk
        · have := hh.lt; omega
      exact (Below.heap_setCell (w2.setCell ⟨hb, 4, none⟩ (.int .i64 T)) ⟨hb, 5, none⟩ (.int .i64 N) k hkb).trans (Below.heap_setCell w2 ⟨hb, 4, none⟩ (.int .i64 T) k hkb)
    have hD8 := (hD3.cells.step (w1 := ((w2.setCell ⟨hb, 4, none⟩ (.int .i64 T)).setCell ⟨hb, 5, none⟩ (.int .i64 N)).drew) (fun k hc _ => hpd k hc.2 hc.1)).mono (fun _ hc => hc.1)
    have hc8 : Chg (fun k => okd k ∨ k = hb) w ((w2.setCell ⟨hb, 4, none⟩ (.int .i64 T)).setCell ⟨hb, 5, none⟩ (.int .i64 N)).drew := ((hc2.setCell (p := ⟨hb, 4, none⟩) (.inl (.inr rfl)) (.int .i64 T)).setCell (p := ⟨hb, 5, none⟩) (.inl (.inr rfl)) (.int .i64 N)).drew
    have e4 := hh2.cell4
    have e5 := hh7.cell5
    have z4 := hh2.free 4
    have z5 := hh7.free 5
    dsimp only at e5
    have HFI := hid (And.intro hD8 (And.intro hh8 (And.intro hc8 (And.intro hT hN))))
    clear hD8 hh8 hc8 hT hN hD3 hc2 hh7 hpd hD2 c2 hD1 hh1 hh h
    go_wp2_with fail
    refine wp_region_plan [8, 9, 10] (.take 0 (.take 1 (.take 2 (.take 3 (.take 4 (.take 5 (.run 6 (.take 7 (.tail 8 (.tail 9 (.tail 10 .done))))))))))) (fun w' => w' = w2.drew) (by kernel_rfl) (by kernel_rfl) (fun c a d v w h => by cases d <;> exact h) rfl ?_
    iterate 6 (apply plan_take rfl rfl; (case hy => (intro w' hS; subst hS; go_simp; try exact rfl)); go_simp)
    refine plan_run_on rfl rfl (fun K hK => ?_)
    go_simp
    refine (need_any _ hlen9).mono ?_
    rintro e w' ⟨rfl, rfl⟩
    refine hK _ _ _ (fun _ h => h) rfl ?_
    clear hK K
    go_simp
    apply plan_take rfl rfl
    case hy => (intro w' hS; subst hS; go_simp; try exact rfl)
    go_simp
    refine plan_tail_on rfl rfl (fun K hK => ?_)
    go_simp
    refine hK _ _ ?_
    clear hK K
    refine plan_tail_on rfl rfl (fun K hK => ?_)
    go_simp
    refine hK _ _ ?_
    clear hK K
    refine plan_tail_on rfl rfl (fun K hK => ?_)
    go_simp
    refine hK _ _ (plan_done ?_)
    clear hK K
    go_wp2_with fail
    go_ret
    obtain ⟨f1, f2, f3, f4, f5⟩ := HFI.out
    refine ⟨rfl, f1, ?_, f3⟩
    rw [f4, f5]
    exact f2
  · go_wp2_with fail
    go_ret
    exact ⟨rfl, hD3, hh2, hc2⟩
end Go.Proofs.YticogmpafehomaaGreatDoor

set_option linter.unusedVariables false
set_option linter.unusedSimpArgs false
namespace Go.Proofs.YticogmpafehomaaGreatDoor
open Go.RowKit Go.Proofs.YticogmpafehomaaGreatDoorW.PrintWords

/-- A writer: p its block, bv its row. -/
structure PWb (w : World) (ok : Nat → Prop) (p : Nat) (b : List Int) (bv : Value) : Prop where
  okp : ok p
  blk : w.heap[p]? = some (.cells #[bv] 108 (0, 0))
  row : KB.R 5 w 0 (fun k => ok k ∧ k ≠ p) bv b
def PWr (w : World) (ok : Nat → Prop) (p : Nat) (b : List Int) : Prop := ∃ bv, PWb w ok p b bv
namespace PWb
variable {w w1 : World} {ok ok' : Nat → Prop} {p : Nat} {b : List Int} {bv : Value}
theorem mono (h : PWb w ok p b bv) (hs : ∀ k, ok k → ok' k) : PWb w ok' p b bv := ⟨hs _ h.okp, h.blk, Kd.R_mono h.row (fun k hk => ⟨hs k hk.1, hk.2⟩)⟩
theorem bound (h : PWb w ok p b bv) : PWb w (fun k => ok k ∧ k < w.heap.size) p b bv :=
  ⟨⟨h.okp, blk_lt h.blk⟩, h.blk, Kd.R_mono (Kd.R_bound h.row) (fun _ hk => ⟨⟨hk.1.1, hk.2.2.1⟩, hk.1.2⟩)⟩
theorem step (h : PWb w ok p b bv) (hm : ∀ k, ok k → k < w.heap.size → w1.heap[k]? = w.heap[k]?) : PWb w1 ok p b bv :=
  ⟨h.okp, (hm p h.okp (blk_lt h.blk)).trans h.blk, Kd.R_step h.row (fun k hk => hm k hk.1)⟩
theorem cell0 (h : PWb w ok p b bv) : w.cell? ⟨p, 0, none⟩ = some bv := by rw [cell_of_row w p 0 _ _ _ h.blk]; rfl
theorem close {u : Value} {c : List Int} (hp : ok p) (hb : w.heap[p]? = some (.cells #[bv] 108 (0, 0))) (hR : KB.R 5 w 0 (fun k => ok k ∧ k ≠ p) u c) : PWb (w.setCell ⟨p, 0, none⟩ u) ok p c u :=
  ⟨hp, heap_setCell_same w p 0 _ _ _ hb, Kd.R_far hR (fun k hk => hk.2) u⟩
end PWb
theorem PWr.mono {w : World} {ok ok' : Nat → Prop} {p : Nat} {b : List Int} (h : PWr w ok p b) (hs : ∀ k, ok k → ok' k) : PWr w ok' p b := by
  obtain ⟨bv, h⟩ := h
  exact ⟨bv, h.mono hs⟩
theorem PWr.bound {w : World} {ok : Nat → Prop} {p : Nat} {b : List Int} (h : PWr w ok p b) : PWr w (fun k => ok k ∧ k < w.heap.size) p b := by
  obtain ⟨bv, h⟩ := h
  exact ⟨bv, h.bound⟩
theorem PWr.step {w w1 : World} {ok : Nat → Prop} {p : Nat} {b : List Int} (h : PWr w ok p b) (hm : ∀ k, ok k → k < w.heap.size → w1.heap[k]? = w.heap[k]?) : PWr w1 ok p b := by
  obtain ⟨bv, h⟩ := h
  exact ⟨bv, h.step hm⟩
/-- The writer's new row is stored. -/
theorem PWb.stored {w w1 : World} {ok : Nat → Prop} {p : Nat} {b c : List Int} {bv v1 : Value} (h : PWb w ok p b bv) (ho : w1.ownsRow 0 5 1 v1 c.length (nums .u8 c)) (hg : w.grownBy w1 bv.ownBlock) (hat : v1.ownBlock = bv.ownBlock ∨ ∃ k, v1.ownBlock = some k ∧ w.heap.size ≤ k) :
    PWb (w1.setCell ⟨p, 0, none⟩ v1) (orNew ok w) p c v1 ∧ Chg ok w (w1.setCell ⟨p, 0, none⟩ v1) ∧ w1.cell? ⟨p, 0, none⟩ = some bv ∧ w1.frozen? ⟨p, 0, none⟩ = false := by
  have h0 := h.row.1
  have hpb : some p ≠ bv.ownBlock := fun e => (h0 p e.symm).2 rfl
  have hblk : w1.heap[p]? = some (.cells #[bv] 108 (0, 0)) := (hg.block p (blk_lt h.blk) hpb).trans h.blk
  refine ⟨PWb.close (.inl h.okp) hblk (Rown ho (fun k hk => ?_)), ((Chg.refl ok w).grown hg (fun k hk => .inl (h0 k hk).1)).setCell (.inl h.okp) _, by rw [cell_of_row w1 p 0 _ _ _ hblk]; rfl, frozen_of_row w1 p 0 _ _ hblk⟩
  rcases hat with hat | ⟨j, hj, hs⟩
  · have := h0 k (hat ▸ hk)
    exact ⟨.inl this.1, this.2⟩
  · rw [hj] at hk
    injection hk with hk
    subst hk
    have := blk_lt h.blk
    exact ⟨.inr hs, by omega⟩

set_option maxRecDepth 100000 in
theorem byte_any {w : World} {ok : Nat → Prop} {p : Nat} {b : List Int} (x : Int) (h : PWr w ok p b) (hl : b.length + 1 ≤ 140737488355328) :
  Calls Tryz.prog 172 #[.pointer (some ⟨p, 0, none⟩), .int .u8 x] w fun e w' => e = .returned (.tuple #[]) ∧ PWr w' (orNew ok w) p (b ++ [x]) ∧ Chg ok w w' := by
  obtain ⟨bv, h⟩ := h
  have c0 := h.cell0
  go_enter Tryz.func172, Tryz.ntmps172
  go_wp2_with (at_builtin; refine print_append_num (w0 := w) 0 rfl (.tmp 10) (.tmp 12) 25 5 .u8 1 rfl Tryz.underlying25 info_u8 (by decide) _ b x rfl rfl ?HO ?HB ?hb ?hl ?_)
  case HO => exact R_own1 h.row
  case HB => exact Below.refl _ _
  case hb => omega
  case hl => omega
  intro v1 w1 ho hB1 hg hat
  have ho' : w1.ownsRow 0 5 1 v1 (b ++ [x]).length (nums .u8 (b ++ [x])) := by simpa using ho
  obtain ⟨hf, hc, d0, z0⟩ := h.stored ho' hg hat
  obtain ⟨A', c', rfl⟩ := Kd.R_slice hf.row
  clear ho ho' hg hat c0
  generalize (b ++ [x]).length = L at *
  go_wp2
  go_end0
  exact ⟨rfl, ⟨_, hf⟩, hc⟩
theorem wbytes_any {w : World} {ok : Nat → Prop} {p : Nat} {b : List Int} (h : PWr w ok p b) (hl : b.length ≤ 140737488351232) :
  Calls Tryz.prog 63 #[.pointer (some ⟨p, 0, none⟩)] w fun e w' => ∃ A' c', e = .returned (.slice A' b.length c') ∧ KB.R 5 w' w.heap.size (fun k => w.heap.size ≤ k) (.slice A' b.length c') b ∧ Below w.heap.size w w' := by
  obtain ⟨bv, h⟩ := h
  obtain ⟨A, c, rfl, _, hC⟩ := Kd.R_reads h.row
  have c0 := h.cell0
  have hcl := clone_any (c := c) hC hl
  go_enter Tryz.func63, Tryz.ntmps63
  go_wp2_with (go_at_call 57; refine hcl.mono ?_; rintro e w1 ⟨A', c', rfl, hR, hB⟩)
  go_ret
  exact ⟨A', c', rfl, hR, hB⟩
end Go.Proofs.YticogmpafehomaaGreatDoor

set_option linter.unusedVariables false
set_option linter.unusedSimpArgs false
namespace Go.Proofs.YticogmpafehomaaGreatDoor
open Go.RowKit Go.Proofs.YticogmpafehomaaGreatDoorW.PrintWords

set_option maxRecDepth 100000 in
theorem number_any {w : World} {ok : Nat → Prop} {p : Nat} {b : List Int} (n : Int) (m : Nat) (hn : 0 ≤ n ∧ n < 18446744073709551616) (hm : m ≤ 8) (h : PWr w ok p b) (hl : b.length + 8 ≤ 140737488355328) :
  Calls Tryz.prog 137 #[.pointer (some ⟨p, 0, none⟩), .int .u64 n, .int .i64 m] w fun e w' => e = .returned (.tuple #[]) ∧ PWr w' (orNew ok w) p (b ++ be n m) ∧ Chg ok w w' := by
  go_enter Tryz.func137, Tryz.ntmps137
  go_wp2
  go_loopw [6] (fun i wr => ∃ j : Nat, j ≤ m ∧ i = .int .i64 (8 * (j : Int) - 8) ∧ PWr wr (orNew ok w) p (b ++ (be n m).take (m - j)) ∧ Chg ok w wr) (fun i _ => ((intOf i) + 8).toNat)
  case atStart => exact ⟨m, Nat.le_refl _, by congr 1; omega, by rw [Nat.sub_self, List.take_zero, List.append_nil]; exact h.mono (fun _ h => .inl h), Chg.refl _ _⟩
  case round =>
    obtain ⟨j, hj, rfl, hw, hc⟩ := hrel
    by_cases h0 : j = 0
    · subst h0
      rw [Nat.sub_zero, List.take_of_length_le (by rw [be_length]; omega)] at hw
      go_wp2
      go_end0
      exact ⟨rfl, hw, hc⟩
    · go_wp2_with fail
      refine (byte_any _ hw (by rw [List.length_append, List.length_take, be_length]; omega)).mono ?_
      rintro e w1 ⟨rfl, h1, c1⟩
      rw [List.append_assoc, be_take (by omega) hj] at h1
      have h2 := h1.mono (orNew_again hc.size)
      have hc2 := chg_again hc c1
      clear h1
      go_wp2
      go_roundw
      case rel => exact ⟨j - 1, by omega, by congr 1; omega, h2, hc2⟩
      case measure => simp [intOf]; omega
theorem and31 (n : Int) : bits .and .u64 (IntKind.u64.wrap n) 2147483647 = n % 2147483648 := by
  rw [IntKind.wrap_u64]
  obtain ⟨m, hm⟩ := Int.eq_ofNat_of_zero_le (show 0 ≤ n % 18446744073709551616 by omega)
  have hlt : m < 18446744073709551616 := by omega
  have h := bits_and_u64_nat m 2147483647 hlt (by omega)
  have e : m &&& 2147483647 = m % 2147483648 := Nat.and_two_pow_sub_one_eq_mod m 31
  rw [e] at h
  rw [hm]
  refine Eq.trans (by exact h) ?_
  omega
theorem wint_any {w : World} {ok : Nat → Prop} {p : Nat} {b : List Int} (n : Int) (h : PWr w ok p b) (hl : b.length + 8 ≤ 140737488355328) :
  Calls Tryz.prog 149 #[.pointer (some ⟨p, 0, none⟩), .int .i64 n] w fun e w' => e = .returned (.tuple #[]) ∧ PWr w' (orNew ok w) p (b ++ be (n % 2147483648) 4) ∧ Chg ok w w' := by
  have hn := and31 n
  have hb : 0 ≤ n % 2147483648 ∧ n % 2147483648 < 18446744073709551616 := by omega
  generalize n % 2147483648 = x at hn hb ⊢
  go_enter Tryz.func149, Tryz.ntmps149
  go_wp2_with fail
  refine (number_any x 4 hb (by omega) h hl).mono ?_
  rintro e w1 ⟨rfl, h1, c1⟩
  go_wp2
  go_end0
  exact ⟨rfl, h1, c1⟩
theorem wlong_any {w : World} {ok : Nat → Prop} {p : Nat} {b : List Int} (n : Int) (hn : 0 ≤ n ∧ n < 18446744073709551616) (h : PWr w ok p b) (hl : b.length + 8 ≤ 140737488355328) :
  Calls Tryz.prog 94 #[.pointer (some ⟨p, 0, none⟩), .int .u64 n] w fun e w' => e = .returned (.tuple #[]) ∧ PWr w' (orNew ok w) p (b ++ be n 8) ∧ Chg ok w w' := by
  go_enter Tryz.func94, Tryz.ntmps94
  go_wp2_with fail
  refine (number_any n 8 hn (by omega) h hl).mono ?_
  rintro e w1 ⟨rfl, h1, c1⟩
  go_wp2
  go_end0
  exact ⟨rfl, h1, c1⟩
end Go.Proofs.YticogmpafehomaaGreatDoor

set_option linter.unusedVariables false
set_option linter.unusedSimpArgs false
namespace Go.Proofs.YticogmpafehomaaGreatDoor
open Go.RowKit Go.Proofs.YticogmpafehomaaGreatDoorW.PrintWords

theorem block_of_add'' (a : Addr) (n : Nat) : (a.add n).block = a.block := by unfold Addr.add; split <;> rfl
def rawB (xs : List Int) : List Int := be ((xs.length : Int) % 2147483648) 4 ++ xs
theorem rawB_length (xs : List Int) : (rawB xs).length = 4 + xs.length := by simp [rawB, be_length]
set_option maxRecDepth 100000 in
theorem wraw_any {w : World} {ok okb : Nat → Prop} {p : Nat} {b xs : List Int} {A : Option Addr} {c : Nat} (h : PWr w ok p b) (hF : RB w okb A xs) (hne : apart okb ok) (hl : b.length + xs.length + 16 ≤ 140737488355328) :
  Calls Tryz.prog 108 #[.pointer (some ⟨p, 0, none⟩), .slice A xs.length c] w fun e w' => e = .returned (.tuple #[]) ∧ PWr w' (orNew ok w) p (b ++ rawB xs) ∧ Chg ok w w' := by
  go_enter Tryz.func108, Tryz.ntmps108
  go_wp2_with fail
  refine (wint_any (xs.length : Int) h (by omega)).mono ?_
  rintro e w1 ⟨rfl, ⟨bv, h1⟩, c1⟩
  have hF1 := RB_int (RB_step hF c1 hne)
  have d0 := h1.cell0
  generalize hx : be ((xs.length : Int) % 2147483648) 4 = hd at h1
  have hl4 : hd.length = 4 := by rw [← hx, be_length]
  have HX := hid hx
  clear hx
  go_wp2_with (at_builtin; refine print_append_row (w0 := w1) 0 rfl (.tmp 14) (.tmp 15) 25 5 .u8 1 rfl Tryz.underlying25 info_u8 (by decide) _ (b ++ hd) xs A xs.length c rfl rfl ?HO ?HR ?HB ?hb ?hl ?_)
  case HO => exact R_own1 h1.row
  case HR => exact hF1
  case HB => exact Below.refl _ _
  case hb => omega
  case hl => simp; omega
  intro v1 w2 ho hB1 hg hat
  have ho' : w2.ownsRow 0 5 1 v1 (b ++ hd ++ xs).length (nums .u8 (b ++ hd ++ xs)) := by simpa [hl4] using ho
  obtain ⟨hf, hc, e0, z0⟩ := h1.stored ho' hg hat
  obtain ⟨A', c', rfl⟩ := Kd.R_slice hf.row
  have hfin : PWr (w2.setCell ⟨p, 0, none⟩ (.slice A' (b ++ hd ++ xs).length c')) (orNew ok w) p (b ++ rawB xs) := by
    unfold rawB
    rw [HX.out, ← List.append_assoc]
    exact ⟨_, hf.mono (orNew_again c1.size)⟩
  have hcf := chg_again c1 hc
  clear ho ho' hg hat d0 hf hc
  generalize (b ++ hd ++ xs).length = L at *
  go_wp2
  go_end0
  exact ⟨rfl, hfin, hcf⟩
theorem RB_reads {W : World} {g n : Nat} {xs : List Int} (h : ReadsInt W .u8 (some ⟨g, 0, none⟩) n xs) : RB W (fun k => k = g) (some ⟨g, 0, none⟩) xs := by
  intro W' hW
  refine Kd.C_of_reads (d := (0 : Int)) ⟨rfl, by have := h.1; have := h.2.1; omega, fun hn => ?_⟩
  obtain ⟨ad, he, hc⟩ := h.2.2 (by have := h.1; omega)
  injection he with he
  subst he
  refine ⟨_, rfl, fun j hj => ?_⟩
  have h1 := hc j (by have := h.1; omega)
  have h2 := hW g rfl (by have := World.block_lt_of_cell? W _ h1; rwa [block_of_add''] at this)
  rw [add_plain] at h1 ⊢
  simpa [World.cell?, h2] using h1
set_option maxRecDepth 100000 in
theorem wtext_any {w : World} {ok : Nat → Prop} {p : Nat} {b : List Int} (s : ByteArray) (h : PWr w ok p b) (hk : ∀ k, ok k → k < w.heap.size) (hl : b.length + s.size + 16 ≤ 140737488355328) :
  Calls Tryz.prog 62 #[.pointer (some ⟨p, 0, none⟩), .string s] w fun e w' => e = .returned (.tuple #[]) ∧ PWr w' (orNew ok w) p (b ++ rawB (bytesOf s)) ∧ Chg ok w w' := by
  have hcv := fun W => print_bytes (P := Tryz.prog) 9 25 5 Tryz.underlying9 Tryz.underlying25 Tryz.underlying5 s W
  have hB1 := bytes_below (Below.refl w.heap.size w) (Nat.le_refl _) 5 s
  have hF := RB_reads (bytes_reads w 5 s (by omega))
  have h1 := h.step (w1 := Lib.bytesWorld w 5 s) (fun k _ hlt => hB1.block k hlt)
  have hr := wraw_any (c := grownCap w s.size 0 5) h1 hF (fun k e hok => by have := hk k hok; omega) (by rw [bytesOf_length]; omega)
  rw [bytesOf_length] at hr
  go_enter Tryz.func62, Tryz.ntmps62
  go_wp2_with fail
  refine hr.mono ?_
  rintro e w2 ⟨rfl, h2, c2⟩
  have h3 := h2.mono (ok' := orNew ok w) (fun k hk => hk.elim .inl (fun h => .inr (Nat.le_trans hB1.size h)))
  have c3 : Chg ok w w2 := (Chg.of_below hB1 ok).then_ c2 (fun _ h => .inl h)
  clear hcv hr
  go_wp2
  go_end0
  exact ⟨rfl, h3, c3⟩
/-! ### Ints, Texts -/
def intsB (l : List Int) : List Int := be ((l.length : Int) % 2147483648) 4 ++ l.flatMap fun n => be (n % 2147483648) 4
end Go.Proofs.YticogmpafehomaaGreatDoor

set_option linter.unusedVariables false
set_option linter.unusedSimpArgs false
namespace Go.Proofs.YticogmpafehomaaGreatDoor
open Go.RowKit Go.Proofs.YticogmpafehomaaGreatDoorW.PrintWords

/-! ### A part of a row that is read -/
/-! ### A number of bytes, the highest first -/
set_option maxRecDepth 100000 in
theorem wvalue_any {w : World} {A : Option Addr} {c : Nat} {b : List Int} (h : KB.C w A b.length b) (hb : Bytes b) (hl : b.length ≤ 8) :
  Calls Tryz.prog 97 #[.slice A b.length c] w fun e w' => e = .returned (.int .u64 (val b)) ∧ w' = w := by
  go_enter Tryz.func97, Tryz.ntmps97
  go_wp2_with fail
  go_loopw [3, 8] (fun v i wr => wr = w ∧ ∃ k : Nat, k ≤ b.length ∧ i = .int .i64 k ∧ v = .int .u64 (val (b.take k))) (fun _ i _ => b.length - (intOf i).toNat)
  case atStart => exact ⟨rfl, 0, Nat.zero_le _, rfl, by simp [val]⟩
  case round =>
    obtain ⟨rfl, k, hk, rfl, rfl⟩ := hrel
    by_cases hlt : k < b.length
    · obtain ⟨ad, rfl, hcell⟩ := (C_int h).at_ (k : Int) (by omega) (by omega)
      simp only [Int.toNat_natCast] at hcell
      have hlw : (k : Int) < (b.length : Int) := by omega
      have hrd : rd b k = b[k] := by simp [rd, List.getD_eq_getElem?_getD, hlt]
      rw [hrd] at hcell
      have hx := hb b[k] (List.getElem_mem hlt)
      have hv0 := val_lt (hb.take k)
      have hv := val_le8 (hb.take (k + 1)) (by rw [List.length_take]; omega)
      rw [← List.take_append_getElem hlt, val_snoc] at hv
      have hor := or_byte hv0.1 hv hx.1 hx.2
      have hw1 : IntKind.u64.wrap (val (b.take k) * 256) = val (b.take k) * 256 := by rw [wrap_u64_mod]; exact Int.emod_eq_of_lt (by omega) (by omega)
      go_wp2
      go_roundw
      case rel => exact ⟨trivial, k + 1, by omega, by go_num, by rw [← List.take_append_getElem hlt, val_snoc]⟩
      case measure => simp [intOf]; omega
    · obtain rfl : k = b.length := by omega
      rw [List.take_length]
      go_wp2
      go_ret
      exact ⟨rfl, rfl⟩

/-! ### The reader -/
/-- A reader: p its block; b the bytes that are left (a row that is read, in ok), e its error. -/
structure PRd (w : World) (ok : Nat → Prop) (p : Nat) (b : List Int) (e : Int) : Prop where
  okp : ok p
  bytes : Bytes b
  cells : ∃ A c, w.heap[p]? = some (.cells #[.slice A b.length c, .int .i64 e] 152 (0, 0)) ∧ RB w (fun k => ok k ∧ k ≠ p) A b ∧ b.length ≤ c ∧ c ≤ 9223372036854775807
theorem PRd.step {w w1 : World} {ok : Nat → Prop} {p : Nat} {b : List Int} {e : Int} (h : PRd w ok p b e) (hm : ∀ k, ok k → k < w.heap.size → w1.heap[k]? = w.heap[k]?) : PRd w1 ok p b e := by
  obtain ⟨hp, hB, A, c, hb, hr, h1, h2⟩ := h
  exact ⟨hp, hB, A, c, (hm p hp (blk_lt hb)).trans hb, Kd.F_step hr (fun k hk => hm k hk.1), h1, h2⟩
theorem PRd.below {w w1 : World} {ok : Nat → Prop} {p : Nat} {b : List Int} {e : Int} (h : PRd w ok p b e) (hm : Below w.heap.size w w1) : PRd w1 ok p b e := h.step (fun k _ hk => hm.block k hk)
theorem PRd.lt {w : World} {ok : Nat → Prop} {p : Nat} {b : List Int} {e : Int} (h : PRd w ok p b e) : p < w.heap.size := by
  obtain ⟨hp, hB, A, c, hb, hr, h1, h2⟩ := h
  exact blk_lt hb
/-- A cell of the reader is written. -/
theorem PRd.put {w : World} {ok : Nat → Prop} {p : Nat} {b : List Int} {e : Int} (h : PRd w ok p b e) (x : Int) : PRd (w.setCell ⟨p, 1, none⟩ (.int .i64 x)) ok p b x := by
  obtain ⟨hp, hB, A, c, hb, hr, h1, h2⟩ := h
  exact ⟨hp, hB, A, c, heap_setCell_same w p 1 _ _ _ hb, Kd.F_step hr (fun k hk _ => Below.heap_setCell w ⟨p, 1, none⟩ _ k hk.2), h1, h2⟩
theorem error_any {w : World} {ok : Nat → Prop} {p : Nat} {b : List Int} {x : Int} (h : PRd w ok p b x) :
  Calls Tryz.prog 117 #[.pointer (some ⟨p, 0, none⟩)] w fun e w' => e = .returned (.int .i64 x) ∧ w = w' := by
  obtain ⟨hp, hB, A, c, hb, hr, h1, h2⟩ := h
  have c1 := cell_of_row w p 1 _ _ _ hb
  simp at c1
  clear hb
  go_enter Tryz.func117, Tryz.ntmps117
  go_wp2
  go_ret
  exact ⟨rfl, rfl⟩
/-- What a reader gives up with. -/
def gives (x : Int) : List PanicEntry := [{ v := .iface 200 (.int .i64 x), recovered := false }]
theorem next_none {w : World} {ok : Nat → Prop} {p : Nat} {b : List Int} {x : Int} {n : Nat} (h : PRd w ok p b x) (hn : b.length < n) :
  Calls Tryz.prog 98 #[.pointer (some ⟨p, 0, none⟩), .int .i64 n] w fun e w' => e = .panicked (gives 40) ∧ w' = w := by
  obtain ⟨hp, hB, A, c, hb, hr, h1, h2⟩ := h
  have c0 := cell_of_row w p 0 _ _ _ hb
  simp at c0
  clear hb
  have hlt : (b.length : Int) < (n : Int) := by omega
  go_enter Tryz.func98, Tryz.ntmps98
  go_wp2
  exact ⟨rfl, rfl, rfl⟩
theorem next_some {w : World} {ok : Nat → Prop} {p : Nat} {b : List Int} {x : Int} {n : Nat} (h : PRd w ok p b x) (hn : n ≤ b.length) :
  Calls Tryz.prog 98 #[.pointer (some ⟨p, 0, none⟩), .int .i64 n] w fun e w' => ∃ A c, e = .returned (.slice A n c) ∧ RB w' (fun k => ok k ∧ k ≠ p) A (b.take n) ∧ PRd w' ok p (b.drop n) x ∧ n ≤ c ∧ Chg (fun k => k = p) w w' := by
  obtain ⟨hp, hB, A, c, hb, hr, h1, h2⟩ := h
  have c0 := cell_of_row w p 0 _ _ _ hb
  have hf := frozen_of_row w p 0 _ _ hb
  simp at c0
  have hlt : ¬ (b.length : Int) < (n : Int) := by omega
  have hd : b.length - n = (b.drop n).length := by rw [List.length_drop]
  have fin : ∀ B, B = behind A n c → RB (w.setCell ⟨p, 0, none⟩ (.slice B (b.length - n) (c - n))) (fun k => ok k ∧ k ≠ p) A (b.take n) ∧ PRd (w.setCell ⟨p, 0, none⟩ (.slice B (b.length - n) (c - n))) ok p (b.drop n) x ∧ n ≤ c ∧ Chg (fun k => k = p) w (w.setCell ⟨p, 0, none⟩ (.slice B (b.length - n) (c - n))) := by
    rintro B rfl
    have hst : ∀ k, (ok k ∧ k ≠ p) → k < w.heap.size → (w.setCell ⟨p, 0, none⟩ (.slice (behind A n c) (b.length - n) (c - n))).heap[k]? = w.heap[k]? := fun k hk _ => Below.heap_setCell w ⟨p, 0, none⟩ _ k hk.2
    refine ⟨Kd.F_step (RB_take hr hn) hst, ⟨hp, hB.drop n, behind A n c, c - n, ?_, Kd.F_step (RB_drop hr hn h1) hst, by rw [List.length_drop]; omega, by omega⟩, by omega, Chg.setCell (S := fun k => k = p) (p := ⟨p, 0, none⟩) (Chg.refl _ w) (.inl rfl) _⟩
    rw [← hd]
    exact heap_setCell_same w p 0 _ _ _ hb
  clear hd
  by_cases hcn : c = n
  · subst hcn
    have f := fin A (by unfold behind; rw [if_pos rfl])
    rw [Nat.sub_self, show b.length - c = 0 from by omega] at f
    go_enter Tryz.func98, Tryz.ntmps98
    go_wp2
    go_ret
    exact ⟨_, _, rfl, f⟩
  · have f := fin (A.map (·.add n)) (by unfold behind; rw [if_neg hcn])
    go_enter Tryz.func98, Tryz.ntmps98
    go_wp2
    go_ret
    exact ⟨_, _, rfl, f⟩
end Go.Proofs.YticogmpafehomaaGreatDoor

set_option linter.unusedVariables false
set_option linter.unusedSimpArgs false
namespace Go.Proofs.YticogmpafehomaaGreatDoor
open Go.RowKit Go.Proofs.YticogmpafehomaaGreatDoorW.PrintWords Go.Proofs.YticogmpafehomaaGreatDoorW.PrintMore
attribute [local go_sem] max2_int min2_int max_two min_two

/-- What comes of bytes: a value and the bytes behind it, or an error. -/
abbrev Out (α : Type) := Except Int (α × List Int)
def oNext (n : Nat) (b : List Int) : Out (List Int) := if n ≤ b.length then .ok (b.take n, b.drop n) else .error 40
def oNum (n : Nat) (b : List Int) : Out Int := if n ≤ b.length then .ok (val (b.take n), b.drop n) else .error 40
def oInt (b : List Int) : Out Int := match oNum 4 b with
  | .ok (v, r) => if 2147483647 < v then .error 42 else .ok (v, r)
  | .error e => .error e
def oCount (most : Int) (b : List Int) : Out Int := match oInt b with
  | .ok (v, r) => if max most 0 < v then .error 3 else .ok (v, r)
  | .error e => .error e
/-- How an inner function ends: with the value of the outcome (Q), or it gives up. -/
def Ends {α : Type} (ok : Nat → Prop) (p : Nat) (w : World) (o : Out α) (Q : α → World → Value → Prop) (e : Ending) (w' : World) : Prop :=
  Chg (fun k => k = p) w w' ∧ match o with
  | .ok (v, r) => (∃ u, e = .returned u ∧ Q v w' u) ∧ PRd w' ok p r 0
  | .error x => e = .panicked (gives x) ∧ ∃ b', PRd w' ok p b' 0
theorem Ends.good {α : Type} {ok : Nat → Prop} {p : Nat} {w w' : World} {o : Out α} {Q : α → World → Value → Prop} {v : α} {r : List Int} {u : Value} (ho : o = .ok (v, r)) (hc : Chg (fun k => k = p) w w') (hq : Q v w' u) (hp : PRd w' ok p r 0) : Ends ok p w o Q (.returned u) w' := by
  subst ho; exact ⟨hc, ⟨_, rfl, hq⟩, hp⟩
theorem Ends.bad {α : Type} {ok : Nat → Prop} {p : Nat} {w w' : World} {o : Out α} {Q : α → World → Value → Prop} {x : Int} {b' : List Int} (ho : o = .error x) (hc : Chg (fun k => k = p) w w') (hp : PRd w' ok p b' 0) : Ends ok p w o Q (.panicked (gives x)) w' := by
  subst ho; exact ⟨hc, rfl, _, hp⟩
/-- Both ways out of it. -/
theorem Ends.both {α : Type} {ok : Nat → Prop} {p : Nat} {w w' : World} {o : Out α} {Q : α → World → Value → Prop} {e : Ending} (h : Ends ok p w o Q e w') : Chg (fun k => k = p) w w' ∧
    ((∃ v r u, o = .ok (v, r) ∧ e = .returned u ∧ Q v w' u ∧ PRd w' ok p r 0) ∨ (∃ x b', o = .error x ∧ e = .panicked (gives x) ∧ PRd w' ok p b' 0)) := by
  obtain ⟨hc, hm⟩ := h
  refine ⟨hc, ?_⟩
  rcases o with x | ⟨v, r⟩
  · obtain ⟨he, b', hb⟩ := hm
    exact .inr ⟨x, b', rfl, he, hb⟩
  · obtain ⟨⟨u, he, hq⟩, hp⟩ := hm
    exact .inl ⟨v, r, u, rfl, he, hq, hp⟩
theorem chg_p {p : Nat} {w w1 w2 : World} (h : Chg (fun k => k = p) w w1) (k : Chg (fun k => k = p) w1 w2) : Chg (fun k => k = p) w w2 := h.then_ k (fun _ h => .inl h)
theorem val_take {b : List Int} (hB : Bytes b) {n : Nat} (hn : n ≤ 8) : 0 ≤ val (b.take n) ∧ val (b.take n) < 18446744073709551616 :=
  ⟨(val_lt (hB.take n)).1, val_le8 (hB.take n) (by rw [List.length_take]; omega)⟩
theorem value_next {w : World} {ok : Nat → Prop} {A : Option Addr} {c n : Nat} {b : List Int} (hr : RB w ok A (b.take n)) (hB : Bytes b) (hn : n ≤ b.length) (h8 : n ≤ 8) :
  Calls Tryz.prog 97 #[.slice A n c] w fun e w' => e = .returned (.int .u64 (val (b.take n))) ∧ w' = w := by
  have hl : (b.take n).length = n := by rw [List.length_take]; omega
  have := wvalue_any (c := c) (Kd.F_now hr) (hB.take n) (by omega)
  rwa [hl] at this
theorem int_in {w : World} {ok : Nat → Prop} {p : Nat} {b : List Int} (h : PRd w ok p b 0) :
  Calls Tryz.prog 153 #[.pointer (some ⟨p, 0, none⟩)] w (Ends ok p w (oInt b) fun v _ u => u = .int .i64 v ∧ 0 ≤ v ∧ v ≤ 2147483647) := by
  have hB := h.bytes
  by_cases hn : 4 ≤ b.length
  · have hv := val_take hB (n := 4) (by omega)
    have ho : oInt b = if 2147483647 < val (b.take 4) then .error 42 else .ok (val (b.take 4), b.drop 4) := by unfold oInt oNum; rw [if_pos hn]
    generalize oInt b = o at ho
    go_enter Tryz.func153, Tryz.ntmps153
    go_wp2_with fail
    refine (next_some (n := 4) h hn).mono ?_
    rintro e w1 ⟨A, c, rfl, hr, h1, hc, c1⟩
    go_wp2_with fail
    refine (value_next (c := c) hr hB hn (by omega)).mono ?_
    rintro e w2 ⟨rfl, rfl⟩
    generalize val (b.take 4) = v at hv ho
    by_cases hbig : 2147483647 < v
    · rw [if_pos hbig] at ho
      have HO := hid ho
      clear ho
      go_wp2
      exact ⟨rfl, Ends.bad HO.out c1 h1⟩
    · rw [if_neg hbig] at ho
      have HO := hid ho
      clear ho
      have hw1 : IntKind.i64.wrap v = v := by rw [IntKind.wrap_i64]; omega
      go_wp2
      go_ret
      exact Ends.good HO.out c1 ⟨rfl, hv.1, by omega⟩ h1
  · have ho : oInt b = .error 40 := by unfold oInt oNum; rw [if_neg hn]
    generalize oInt b = o at ho
    have HO := hid ho
    clear ho
    go_enter Tryz.func153, Tryz.ntmps153
    go_wp2_with fail
    refine (next_none (n := 4) h (by omega)).mono ?_
    rintro e w1 ⟨rfl, rfl⟩
    go_wp2
    exact ⟨rfl, Ends.bad HO.out (Chg.refl _ _) h⟩
theorem count_in {w : World} {ok : Nat → Prop} {p : Nat} {b : List Int} (most : Int) (h : PRd w ok p b 0) :
  Calls Tryz.prog 115 #[.pointer (some ⟨p, 0, none⟩), .int .i64 most] w (Ends ok p w (oCount most b) fun v _ u => u = .int .i64 v ∧ 0 ≤ v ∧ v ≤ 2147483647) := by
  have ho : oCount most b = match oInt b with | .ok (v, r) => if max most 0 < v then .error 3 else .ok (v, r) | .error e => .error e := rfl
  generalize oCount most b = o at ho
  have HO := hid ho
  clear ho
  go_enter Tryz.func115, Tryz.ntmps115
  go_wp2_with fail
  refine (int_in h).mono ?_
  intro e w1 he
  obtain ⟨c1, ⟨v, r, u, h1, rfl, ⟨rfl, hv0, hv1⟩, h2⟩ | ⟨x, b', h1, rfl, h2⟩⟩ := he.both
  · have ho := HO.out
    rw [h1] at ho
    dsimp only at ho
    have go : ∀ m, m = max most 0 → (if m < v then o = .error 3 else o = .ok (v, r)) := by
      rintro m rfl
      by_cases hb : max most 0 < v
      · rw [if_pos hb] at ho ⊢; exact ho
      · rw [if_neg hb] at ho ⊢; exact ho
    clear HO ho h1 he
    by_cases hm : most < 0
    · have hg := go 0 (by omega)
      clear go
      by_cases hbig : 0 < v
      · rw [if_pos hbig] at hg
        have HO2 := hid hg
        clear hg
        go_wp2
        exact ⟨rfl, Ends.bad HO2.out c1 h2⟩
      · rw [if_neg hbig] at hg
        have HO2 := hid hg
        clear hg
        go_wp2
        go_ret
        exact Ends.good HO2.out c1 ⟨rfl, hv0, hv1⟩ h2
    · have hg := go most (by omega)
      clear go
      by_cases hbig : most < v
      · rw [if_pos hbig] at hg
        have HO2 := hid hg
        clear hg
        go_wp2
        exact ⟨rfl, Ends.bad HO2.out c1 h2⟩
      · rw [if_neg hbig] at hg
        have HO2 := hid hg
        clear hg
        go_wp2
        go_ret
        exact Ends.good HO2.out c1 ⟨rfl, hv0, hv1⟩ h2
  · have ho := HO.out
    rw [h1] at ho
    have HO2 := hid ho
    clear HO ho h1 he
    go_wp2
    exact ⟨rfl, Ends.bad HO2.out c1 h2⟩

theorem addr_add0 (a : Addr) : a.add 0 = a := by
  rcases a with ⟨k, o, v⟩
  cases v <;> simp [Addr.add]
/-! ### What is handed to guarded -/
/-- A variable that a closure has captured: it holds the reader. -/
structure Held (w : World) (p rb : Nat) : Prop where
  cell : w.cell? ⟨rb, 0, none⟩ = some (.pointer (some ⟨p, 0, none⟩))
  ne : rb ≠ p
theorem Held.chg {w w1 : World} {p rb : Nat} (h : Held w p rb) (c : Chg (fun k => k = p) w w1) : Held w1 p rb := ⟨c.cell_ h.cell h.ne, h.ne⟩
theorem byte_in {w : World} {ok : Nat → Prop} {p rb : Nat} {b : List Int} (h : PRd w ok p b 0) (hr : Held w p rb) :
  Calls Tryz.prog 100 #[.pointer (some ⟨rb, 0, none⟩)] w (Ends ok p w (oNum 1 b) fun v _ u => u = .int .u8 v) := by
  have hB := h.bytes
  have hrc := hr.cell
  by_cases hn : 1 ≤ b.length
  · have ho : oNum 1 b = .ok (val (b.take 1), b.drop 1) := by unfold oNum; rw [if_pos hn]
    have hx : val (b.take 1) = b[0] := by cases b with
      | nil => simp at hn
      | cons x b => simp [val]
    rw [hx] at ho
    have hx2 := hB b[0] (List.getElem_mem hn)
    generalize oNum 1 b = o at ho
    have HO := hid ho
    clear ho
    go_enter Tryz.func100, Tryz.ntmps100
    go_wp2_with fail
    refine (next_some (n := 1) h hn).mono ?_
    rintro e w1 ⟨A, c, rfl, hr, h1, hc, c1⟩
    have hl1 : (b.take 1).length = 1 := by rw [List.length_take]; omega
    obtain ⟨ad, rfl, hcell⟩ := (RB_int hr).at_ 0 (by omega) (by omega)
    have hrd : rd (b.take 1) 0 = b[0] := by simp [rd, List.getD_eq_getElem?_getD, List.getElem?_take, List.getElem?_eq_getElem hn]
    rw [hrd] at hcell
    have ha0 : ad.add 0 = ad := addr_add0 ad
    simp [ha0] at hcell
    clear hrd hx
    go_wp2
    go_ret
    exact Ends.good HO.out c1 rfl h1
  · have ho : oNum 1 b = .error 40 := by unfold oNum; rw [if_neg hn]
    generalize oNum 1 b = o at ho
    have HO := hid ho
    clear ho
    go_enter Tryz.func100, Tryz.ntmps100
    go_wp2_with fail
    refine (next_none (n := 1) h (by omega)).mono ?_
    rintro e w1 ⟨rfl, rfl⟩
    go_wp2
    exact ⟨rfl, Ends.bad HO.out (Chg.refl _ _) h⟩
theorem long_in {w : World} {ok : Nat → Prop} {p rb : Nat} {b : List Int} (h : PRd w ok p b 0) (hr : Held w p rb) :
  Calls Tryz.prog 96 #[.pointer (some ⟨rb, 0, none⟩)] w (Ends ok p w (oNum 8 b) fun v _ u => u = .int .u64 v) := by
  have hB := h.bytes
  have hrc := hr.cell
  by_cases hn : 8 ≤ b.length
  · have ho : oNum 8 b = .ok (val (b.take 8), b.drop 8) := by unfold oNum; rw [if_pos hn]
    generalize oNum 8 b = o at ho
    have HO := hid ho
    clear ho
    go_enter Tryz.func96, Tryz.ntmps96
    go_wp2_with fail
    refine (next_some (n := 8) h hn).mono ?_
    rintro e w1 ⟨A, c, rfl, hr, h1, hc, c1⟩
    go_wp2_with fail
    refine (value_next (c := c) hr hB hn (by omega)).mono ?_
    rintro e w2 ⟨rfl, rfl⟩
    go_wp2
    go_ret
    exact Ends.good HO.out c1 rfl h1
  · have ho : oNum 8 b = .error 40 := by unfold oNum; rw [if_neg hn]
    generalize oNum 8 b = o at ho
    have HO := hid ho
    clear ho
    go_enter Tryz.func96, Tryz.ntmps96
    go_wp2_with fail
    refine (next_none (n := 8) h (by omega)).mono ?_
    rintro e w1 ⟨rfl, rfl⟩
    go_wp2
    exact ⟨rfl, Ends.bad HO.out (Chg.refl _ _) h⟩
end Go.Proofs.YticogmpafehomaaGreatDoor

set_option linter.unusedVariables false
set_option linter.unusedSimpArgs false
namespace Go.Proofs.YticogmpafehomaaGreatDoor
open Go.RowKit Go.Proofs.YticogmpafehomaaGreatDoorW.PrintWords
theorem assert_failure (v : Value) (W : World) : (Instr.typeAssert (.iface 200 v) 20 200 true).run Tryz.prog W = .ok (.tuple #[v, .bool true]) W := by
  simp [Instr.typeAssert, run_underlying (show Tryz.prog.underlying 200 = some (.int .i64) from by kernel_rfl)]
/-- How a function ends that has caught what its inner one gave up with. -/
def Ended {α : Type} (ok : Nat → Prop) (p : Nat) (w : World) (o : Out α) (Q : α → World → Value → Prop) (zero : Value) (e : Ending) (w' : World) : Prop :=
  Chg (fun k => k = p) w w' ∧ match o with
  | .ok (v, r) => (∃ u, e = .returned u ∧ Q v w' u) ∧ PRd w' ok p r 0
  | .error x => e = .returned zero ∧ ∃ b', PRd w' ok p b' x
theorem Ended.good {α : Type} {ok : Nat → Prop} {p : Nat} {w w' : World} {o : Out α} {Q : α → World → Value → Prop} {zero : Value} {v : α} {r : List Int} {u : Value} (ho : o = .ok (v, r)) (hc : Chg (fun k => k = p) w w') (hq : Q v w' u) (hp : PRd w' ok p r 0) : Ended ok p w o Q zero (.returned u) w' := by
  subst ho; exact ⟨hc, ⟨_, rfl, hq⟩, hp⟩
theorem Ended.bad {α : Type} {ok : Nat → Prop} {p : Nat} {w w' : World} {o : Out α} {Q : α → World → Value → Prop} {zero : Value} {x : Int} {b' : List Int} (ho : o = .error x) (hc : Chg (fun k => k = p) w w') (hp : PRd w' ok p b' x) : Ended ok p w o Q zero (.returned zero) w' := by
  subst ho; exact ⟨hc, rfl, _, hp⟩
theorem make_func (fn : Fn) (first cap : Array Value) (w : World) : (Instr.makeFunc fn first cap).run Tryz.prog w = .ok (.func fn first cap) w := rfl

theorem catch_idle_byte (v r : Addr) (w : World) :
    CallsD Tryz.prog 139 #[.pointer (some v), .pointer (some r)] .returning w fun e u' w' => e = .returned (.tuple #[]) ∧ u' = .returning ∧ w' = w := by
  refine callsD_of_wpS Tryz.func139 rfl fun c₀ cs hu => ?_
  apply wpS_seq
  apply wpS_region
  simp [wpOpsS, go_sem, recoverD, hu, Tryz.ntmps139, Exit.thenS]
  refine wpS_of_wp ?_
  have hst : (#[Value.pointer (some v), Value.pointer (some r)] ++ (Array.replicate 15 undef).setIfInBounds 4 Value.nilIface : Array Value) = #[.pointer (some v), .pointer (some r), undef, undef, undef, undef, Value.nilIface, undef, undef, undef, undef, undef, undef, undef, undef, undef, undef] := rfl
  rw [hst]
  go_wp2
  clear hst
  cases c₀
  simp_all [bodyPostS, results, Tryz.results139]
theorem catch_panic_byte (bv br p : Nat) (u : Int) (x y : Int) (older : List PanicEntry) (w : World) (hv : w.cell? ⟨bv, 0, none⟩ = some (.int .u8 u)) (hvz : w.frozen? ⟨bv, 0, none⟩ = false) (hr : w.cell? ⟨br, 0, none⟩ = some (.pointer (some ⟨p, 0, none⟩)))
    (hp : w.cell? ⟨p, 1, none⟩ = some (.int .i64 y)) (hpz : w.frozen? ⟨p, 1, none⟩ = false) (h1 : ¬ br = bv) (h2 : ¬ p = bv) :
    CallsD Tryz.prog 139 #[.pointer (some ⟨bv, 0, none⟩), .pointer (some ⟨br, 0, none⟩)] (.panicking ({ v := .iface 200 (.int .i64 x), recovered := false } :: older)) w fun e u' w' =>
      e = .returned (.tuple #[]) ∧ u' = .panicking ({ v := .iface 200 (.int .i64 x), recovered := true } :: older) ∧ w' = (w.setCell ⟨bv, 0, none⟩ (.int .u8 0)).setCell ⟨p, 1, none⟩ (.int .i64 x) := by
  have hr2 : (w.setCell ⟨bv, 0, none⟩ (.int .u8 0)).cell? ⟨br, 0, none⟩ = some (.pointer (some ⟨p, 0, none⟩)) := by rw [World.cell?_setCell_other _ _ _ _ (by simp [h1])]; exact hr
  have hp2 : (w.setCell ⟨bv, 0, none⟩ (.int .u8 0)).cell? ⟨p, 1, none⟩ = some (.int .i64 y) := by rw [World.cell?_setCell_other _ _ _ _ (by simp [h2])]; exact hp
  refine callsD_of_wpS Tryz.func139 rfl fun c₀ cs hu => ?_
  apply wpS_seq
  apply wpS_region
  simp [wpOpsS, go_sem, recoverD, hu, Tryz.ntmps139, Exit.thenS]
  refine wpS_of_wp ?_
  have hst : (#[Value.pointer (some ⟨bv, 0, none⟩), Value.pointer (some ⟨br, 0, none⟩)] ++ (Array.replicate 15 undef).setIfInBounds 4 (Value.iface 200 (.int .i64 x)) : Array Value) = #[.pointer (some ⟨bv, 0, none⟩), .pointer (some ⟨br, 0, none⟩), undef, undef, undef, undef, Value.iface 200 (.int .i64 x), undef, undef, undef, undef, undef, undef, undef, undef, undef, undef] := rfl
  rw [hst]
  clear hst
  have hta := assert_failure (.int .i64 x)
  go_wp2
  cases c₀
  simp_all [bodyPostS, results, Tryz.results139]
set_option maxRecDepth 100000 in
theorem guard_byte {α : Type} {w : World} {ok : Nat → Prop} {p K : Nat} {b : List Int} {cap : Array Value} {o : Out α} {Q : α → World → Value → Prop} (h : PRd w ok p b 0) (hok : ∀ k, ok k → k < w.heap.size)
    (hQ : ∀ v w1 u, Q v w1 u → ∃ u' : Int, u = (fun (u : Int) => .int .u8 u) u') (hS : ∀ v w1 u j x, Q v w1 u → j < w.heap.size + 2 → Q v (w1.setCell ⟨j, 0, none⟩ x) u)
    (hE : ∀ args w, (callFunc K args).run Tryz.prog w = .ok (.enter K args) w) (hK : ∀ w1, Below w.heap.size w w1 → w.heap.size + 2 ≤ w1.heap.size → Calls Tryz.prog K cap w1 (Ends ok p w1 o Q)) :
  Calls Tryz.prog 99 #[.pointer (some ⟨p, 0, none⟩), .func (.func K) #[] cap] w (Ended ok p w o Q (.int .u8 0)) := by
  have hp := h
  obtain ⟨_, _, A, c, hb, _, _, _⟩ := h
  have c1 := cell_of_row w p 1 _ _ _ hb
  simp at c1
  have hlt := hp.lt
  clear hb
  have hmf := make_func
  go_enter_defers Tryz.func99, Tryz.ntmps99
  go_wp2_with fail
  refine (hK _ (below_alloc (below_alloc (Below.refl _ _) _) _) (by simp)).mono ?_
  have b1 : Below w.heap.size w ((w.alloc (.cells #[.pointer (some ⟨p, 0, none⟩)] 82)).alloc (.cells #[.int .u8 0] 5)) := below_alloc (below_alloc (Below.refl _ _) _) _
  intro e w2 he
  obtain ⟨c2, hh⟩ := he.both
  have c3 : Chg (fun k => k = p) w w2 := (Chg.of_below b1 _).then_ c2 (fun _ h => .inl h)
  clear he
  have ev : w2.heap[w.heap.size + 1]? = some (.cells #[.int .u8 0] 5 (0, 0)) := by
    rw [c2.block _ (by simp) (by omega)]
    have := heap_alloc_new (w.alloc (.cells #[.pointer (some ⟨p, 0, none⟩)] 82)) (.cells #[.int .u8 0] 5)
    rwa [World.size_alloc] at this
  have er : w2.heap[w.heap.size]? = some (.cells #[.pointer (some ⟨p, 0, none⟩)] 82 (0, 0)) := by
    rw [c2.block _ (by simp; omega) (by omega), Below.heap_alloc _ _ _ (by simp)]
    exact heap_alloc_new w _
  have cv := cell_of_row w2 (w.heap.size + 1) 0 _ _ _ ev
  have cvf := frozen_of_row w2 (w.heap.size + 1) 0 _ _ ev
  have cr := cell_of_row w2 w.heap.size 0 _ _ _ er
  have crf := frozen_of_row w2 w.heap.size 0 _ _ er
  simp at cv cr
  clear ev er
  rcases hh with ⟨v, r, u, h1, rfl, hq, h2⟩ | ⟨x, b', h1, rfl, h2⟩
  · obtain ⟨u, rfl⟩ := hQ _ _ _ hq
    have hfin : Ended ok p w o Q (.int .u8 0) (.returned (.int .u8 u)) (w2.setCell ⟨w.heap.size + 1, 0, none⟩ (.int .u8 u)) := Ended.good h1 (c3.setCell (.inr (by simp)) _) (hS _ _ _ _ _ hq (by omega)) (h2.step (fun k hk hlt => Below.heap_setCell w2 ⟨w.heap.size + 1, 0, none⟩ _ k (fun e => by subst e; have := hok _ hk; dsimp only at this; omega)))
    have HF := hid hfin
    clear hfin h1 hq hQ hS hK
    go_wp2
    refine leaves_cons (f := 139) (args := #[.pointer (some ⟨w.heap.size + 1, 0, none⟩), .pointer (some ⟨w.heap.size, 0, none⟩)]) (by simp) (by simp [go_sem]) ?_
    refine (catch_idle_byte _ _ _).mono ?_
    rintro e u' w'' ⟨rfl, rfl, rfl⟩
    have hcu : (w2.setCell ⟨w.heap.size + 1, 0, none⟩ (.int .u8 u)).cell? ⟨w.heap.size + 1, 0, none⟩ = some (.int .u8 u) := World.cell?_setCell_same' _ _ _ (by rw [cv]; rfl)
    simp [Leaves, settle, results, Tryz.results99, go_sem, hcu]
    exact HF.out
  · have hp3 := h2.put x
    have hw3 : w2.setCell ⟨w.heap.size + 1, 0, none⟩ (.int .u8 0) = w2.setCell ⟨w.heap.size + 1, 0, none⟩ (.int .u8 0) := rfl
    have h3 : PRd (w2.setCell ⟨w.heap.size + 1, 0, none⟩ (.int .u8 0)) ok p b' 0 := h2.step (fun k hk hlt => Below.heap_setCell w2 ⟨w.heap.size + 1, 0, none⟩ _ k (fun e => by subst e; have := hok _ hk; dsimp only at this; omega))
    have hfin : Ended ok p w o Q (.int .u8 0) (.returned (.int .u8 0)) ((w2.setCell ⟨w.heap.size + 1, 0, none⟩ (.int .u8 0)).setCell ⟨p, 1, none⟩ (.int .i64 x)) := Ended.bad h1 ((c3.setCell (.inr (by simp)) _).setCell (.inl rfl) _) (h3.put x)
    obtain ⟨_, _, A', c', hb', _, _, _⟩ := h2
    have cp := cell_of_row w2 p 1 _ _ _ hb'
    have cpf := frozen_of_row w2 p 1 _ _ hb'
    simp at cp
    have HF := hid hfin
    clear hfin h1 hQ hS hK hb' hp3 h3 hw3
    unfold gives
    go_wp2
    refine leaves_cons (f := 139) (args := #[.pointer (some ⟨w.heap.size + 1, 0, none⟩), .pointer (some ⟨w.heap.size, 0, none⟩)]) (by simp) (by simp [go_sem]) ?_
    refine (catch_panic_byte (w.heap.size + 1) w.heap.size p 0 x 0 [] w2 cv cvf cr cp cpf (by omega) (by omega)).mono ?_
    rintro e u' w'' ⟨rfl, rfl, rfl⟩
    have hcu : (w2.setCell ⟨w.heap.size + 1, 0, none⟩ (.int .u8 0)).cell? ⟨w.heap.size + 1, 0, none⟩ = some (.int .u8 0) := World.cell?_setCell_same' _ _ _ (by rw [cv]; rfl)
    simp [Leaves, settle, results, Tryz.results99, go_sem, hcu]
    exact HF.out
theorem skip_byte {w : World} {ok : Nat → Prop} {p : Nat} {b : List Int} {x : Int} {f : Value} (h : PRd w ok p b x) (hx : ¬ x = 0) :
  Calls Tryz.prog 99 #[.pointer (some ⟨p, 0, none⟩), f] w fun e w' => e = .returned (.int .u8 0) ∧ Below w.heap.size w w' := by
  have hlt := h.lt
  obtain ⟨_, _, A, c, hb, _, _, _⟩ := h
  have c1 := cell_of_row w p 1 _ _ _ hb
  simp at c1
  clear hb
  have b1 : Below w.heap.size w ((w.alloc (.cells #[.pointer (some ⟨p, 0, none⟩)] 82)).alloc (.cells #[.int .u8 0] 5)) := below_alloc (below_alloc (Below.refl _ _) _) _
  have HB := hid b1
  clear b1
  go_enter_defers Tryz.func99, Tryz.ntmps99
  go_wp2
  simp [bodyPostD, Leaves, settle, results, Tryz.results99, go_sem]
  exact HB.out
theorem catch_idle_u64 (v r : Addr) (w : World) :
    CallsD Tryz.prog 138 #[.pointer (some v), .pointer (some r)] .returning w fun e u' w' => e = .returned (.tuple #[]) ∧ u' = .returning ∧ w' = w := by
  refine callsD_of_wpS Tryz.func138 rfl fun c₀ cs hu => ?_
  apply wpS_seq
  apply wpS_region
  simp [wpOpsS, go_sem, recoverD, hu, Tryz.ntmps138, Exit.thenS]
  refine wpS_of_wp ?_
  have hst : (#[Value.pointer (some v), Value.pointer (some r)] ++ (Array.replicate 15 undef).setIfInBounds 4 Value.nilIface : Array Value) = #[.pointer (some v), .pointer (some r), undef, undef, undef, undef, Value.nilIface, undef, undef, undef, undef, undef, undef, undef, undef, undef, undef] := rfl
  rw [hst]
  go_wp2
  clear hst
  cases c₀
  simp_all [bodyPostS, results, Tryz.results138]
theorem catch_panic_u64 (bv br p : Nat) (u : Int) (x y : Int) (older : List PanicEntry) (w : World) (hv : w.cell? ⟨bv, 0, none⟩ = some (.int .u64 u)) (hvz : w.frozen? ⟨bv, 0, none⟩ = false) (hr : w.cell? ⟨br, 0, none⟩ = some (.pointer (some ⟨p, 0, none⟩)))
    (hp : w.cell? ⟨p, 1, none⟩ = some (.int .i64 y)) (hpz : w.frozen? ⟨p, 1, none⟩ = false) (h1 : ¬ br = bv) (h2 : ¬ p = bv) :
    CallsD Tryz.prog 138 #[.pointer (some ⟨bv, 0, none⟩), .pointer (some ⟨br, 0, none⟩)] (.panicking ({ v := .iface 200 (.int .i64 x), recovered := false } :: older)) w fun e u' w' =>
      e = .returned (.tuple #[]) ∧ u' = .panicking ({ v := .iface 200 (.int .i64 x), recovered := true } :: older) ∧ w' = (w.setCell ⟨bv, 0, none⟩ (.int .u64 0)).setCell ⟨p, 1, none⟩ (.int .i64 x) := by
  have hr2 : (w.setCell ⟨bv, 0, none⟩ (.int .u64 0)).cell? ⟨br, 0, none⟩ = some (.pointer (some ⟨p, 0, none⟩)) := by rw [World.cell?_setCell_other _ _ _ _ (by simp [h1])]; exact hr
  have hp2 : (w.setCell ⟨bv, 0, none⟩ (.int .u64 0)).cell? ⟨p, 1, none⟩ = some (.int .i64 y) := by rw [World.cell?_setCell_other _ _ _ _ (by simp [h2])]; exact hp
  refine callsD_of_wpS Tryz.func138 rfl fun c₀ cs hu => ?_
  apply wpS_seq
  apply wpS_region
  simp [wpOpsS, go_sem, recoverD, hu, Tryz.ntmps138, Exit.thenS]
  refine wpS_of_wp ?_
  have hst : (#[Value.pointer (some ⟨bv, 0, none⟩), Value.pointer (some ⟨br, 0, none⟩)] ++ (Array.replicate 15 undef).setIfInBounds 4 (Value.iface 200 (.int .i64 x)) : Array Value) = #[.pointer (some ⟨bv, 0, none⟩), .pointer (some ⟨br, 0, none⟩), undef, undef, undef, undef, Value.iface 200 (.int .i64 x), undef, undef, undef, undef, undef, undef, undef, undef, undef, undef] := rfl
  rw [hst]
  clear hst
  have hta := assert_failure (.int .i64 x)
  go_wp2
  cases c₀
  simp_all [bodyPostS, results, Tryz.results138]
set_option maxRecDepth 100000 in
theorem guard_u64 {α : Type} {w : World} {ok : Nat → Prop} {p K : Nat} {b : List Int} {cap : Array Value} {o : Out α} {Q : α → World → Value → Prop} (h : PRd w ok p b 0) (hok : ∀ k, ok k → k < w.heap.size)
    (hQ : ∀ v w1 u, Q v w1 u → ∃ u' : Int, u = (fun (u : Int) => .int .u64 u) u') (hS : ∀ v w1 u j x, Q v w1 u → j < w.heap.size + 2 → Q v (w1.setCell ⟨j, 0, none⟩ x) u)
    (hE : ∀ args w, (callFunc K args).run Tryz.prog w = .ok (.enter K args) w) (hK : ∀ w1, Below w.heap.size w w1 → w.heap.size + 2 ≤ w1.heap.size → Calls Tryz.prog K cap w1 (Ends ok p w1 o Q)) :
  Calls Tryz.prog 95 #[.pointer (some ⟨p, 0, none⟩), .func (.func K) #[] cap] w (Ended ok p w o Q (.int .u64 0)) := by
  have hp := h
  obtain ⟨_, _, A, c, hb, _, _, _⟩ := h
  have c1 := cell_of_row w p 1 _ _ _ hb
  simp at c1
  have hlt := hp.lt
  clear hb
  have hmf := make_func
  go_enter_defers Tryz.func95, Tryz.ntmps95
  go_wp2_with fail
  refine (hK _ (below_alloc (below_alloc (Below.refl _ _) _) _) (by simp)).mono ?_
  have b1 : Below w.heap.size w ((w.alloc (.cells #[.pointer (some ⟨p, 0, none⟩)] 82)).alloc (.cells #[.int .u64 0] 22)) := below_alloc (below_alloc (Below.refl _ _) _) _
  intro e w2 he
  obtain ⟨c2, hh⟩ := he.both
  have c3 : Chg (fun k => k = p) w w2 := (Chg.of_below b1 _).then_ c2 (fun _ h => .inl h)
  clear he
  have ev : w2.heap[w.heap.size + 1]? = some (.cells #[.int .u64 0] 22 (0, 0)) := by
    rw [c2.block _ (by simp) (by omega)]
    have := heap_alloc_new (w.alloc (.cells #[.pointer (some ⟨p, 0, none⟩)] 82)) (.cells #[.int .u64 0] 22)
    rwa [World.size_alloc] at this
  have er : w2.heap[w.heap.size]? = some (.cells #[.pointer (some ⟨p, 0, none⟩)] 82 (0, 0)) := by
    rw [c2.block _ (by simp; omega) (by omega), Below.heap_alloc _ _ _ (by simp)]
    exact heap_alloc_new w _
  have cv := cell_of_row w2 (w.heap.size + 1) 0 _ _ _ ev
  have cvf := frozen_of_row w2 (w.heap.size + 1) 0 _ _ ev
  have cr := cell_of_row w2 w.heap.size 0 _ _ _ er
  have crf := frozen_of_row w2 w.heap.size 0 _ _ er
  simp at cv cr
  clear ev er
  rcases hh with ⟨v, r, u, h1, rfl, hq, h2⟩ | ⟨x, b', h1, rfl, h2⟩
  · obtain ⟨u, rfl⟩ := hQ _ _ _ hq
    have hfin : Ended ok p w o Q (.int .u64 0) (.returned (.int .u64 u)) (w2.setCell ⟨w.heap.size + 1, 0, none⟩ (.int .u64 u)) := Ended.good h1 (c3.setCell (.inr (by simp)) _) (hS _ _ _ _ _ hq (by omega)) (h2.step (fun k hk hlt => Below.heap_setCell w2 ⟨w.heap.size + 1, 0, none⟩ _ k (fun e => by subst e; have := hok _ hk; dsimp only at this; omega)))
    have HF := hid hfin
    clear hfin h1 hq hQ hS hK
    go_wp2
    refine leaves_cons (f := 138) (args := #[.pointer (some ⟨w.heap.size + 1, 0, none⟩), .pointer (some ⟨w.heap.size, 0, none⟩)]) (by simp) (by simp [go_sem]) ?_
    refine (catch_idle_u64 _ _ _).mono ?_
    rintro e u' w'' ⟨rfl, rfl, rfl⟩
    have hcu : (w2.setCell ⟨w.heap.size + 1, 0, none⟩ (.int .u64 u)).cell? ⟨w.heap.size + 1, 0, none⟩ = some (.int .u64 u) := World.cell?_setCell_same' _ _ _ (by rw [cv]; rfl)
    simp [Leaves, settle, results, Tryz.results95, go_sem, hcu]
    exact HF.out
  · have hp3 := h2.put x
    have hw3 : w2.setCell ⟨w.heap.size + 1, 0, none⟩ (.int .u64 0) = w2.setCell ⟨w.heap.size + 1, 0, none⟩ (.int .u64 0) := rfl
    have h3 : PRd (w2.setCell ⟨w.heap.size + 1, 0, none⟩ (.int .u64 0)) ok p b' 0 := h2.step (fun k hk hlt => Below.heap_setCell w2 ⟨w.heap.size + 1, 0, none⟩ _ k (fun e => by subst e; have := hok _ hk; dsimp only at this; omega))
    have hfin : Ended ok p w o Q (.int .u64 0) (.returned (.int .u64 0)) ((w2.setCell ⟨w.heap.size + 1, 0, none⟩ (.int .u64 0)).setCell ⟨p, 1, none⟩ (.int .i64 x)) := Ended.bad h1 ((c3.setCell (.inr (by simp)) _).setCell (.inl rfl) _) (h3.put x)
    obtain ⟨_, _, A', c', hb', _, _, _⟩ := h2
    have cp := cell_of_row w2 p 1 _ _ _ hb'
    have cpf := frozen_of_row w2 p 1 _ _ hb'
    simp at cp
    have HF := hid hfin
    clear hfin h1 hQ hS hK hb' hp3 h3 hw3
    unfold gives
    go_wp2
    refine leaves_cons (f := 138) (args := #[.pointer (some ⟨w.heap.size + 1, 0, none⟩), .pointer (some ⟨w.heap.size, 0, none⟩)]) (by simp) (by simp [go_sem]) ?_
    refine (catch_panic_u64 (w.heap.size + 1) w.heap.size p 0 x 0 [] w2 cv cvf cr cp cpf (by omega) (by omega)).mono ?_
    rintro e u' w'' ⟨rfl, rfl, rfl⟩
    have hcu : (w2.setCell ⟨w.heap.size + 1, 0, none⟩ (.int .u64 0)).cell? ⟨w.heap.size + 1, 0, none⟩ = some (.int .u64 0) := World.cell?_setCell_same' _ _ _ (by rw [cv]; rfl)
    simp [Leaves, settle, results, Tryz.results95, go_sem, hcu]
    exact HF.out
theorem skip_u64 {w : World} {ok : Nat → Prop} {p : Nat} {b : List Int} {x : Int} {f : Value} (h : PRd w ok p b x) (hx : ¬ x = 0) :
  Calls Tryz.prog 95 #[.pointer (some ⟨p, 0, none⟩), f] w fun e w' => e = .returned (.int .u64 0) ∧ Below w.heap.size w w' := by
  have hlt := h.lt
  obtain ⟨_, _, A, c, hb, _, _, _⟩ := h
  have c1 := cell_of_row w p 1 _ _ _ hb
  simp at c1
  clear hb
  have b1 : Below w.heap.size w ((w.alloc (.cells #[.pointer (some ⟨p, 0, none⟩)] 82)).alloc (.cells #[.int .u64 0] 22)) := below_alloc (below_alloc (Below.refl _ _) _) _
  have HB := hid b1
  clear b1
  go_enter_defers Tryz.func95, Tryz.ntmps95
  go_wp2
  simp [bodyPostD, Leaves, settle, results, Tryz.results95, go_sem]
  exact HB.out
theorem catch_idle_raw (v r : Addr) (w : World) :
    CallsD Tryz.prog 152 #[.pointer (some v), .pointer (some r)] .returning w fun e u' w' => e = .returned (.tuple #[]) ∧ u' = .returning ∧ w' = w := by
  refine callsD_of_wpS Tryz.func152 rfl fun c₀ cs hu => ?_
  apply wpS_seq
  apply wpS_region
  simp [wpOpsS, go_sem, recoverD, hu, Tryz.ntmps152, Exit.thenS]
  refine wpS_of_wp ?_
  have hst : (#[Value.pointer (some v), Value.pointer (some r)] ++ (Array.replicate 15 undef).setIfInBounds 4 Value.nilIface : Array Value) = #[.pointer (some v), .pointer (some r), undef, undef, undef, undef, Value.nilIface, undef, undef, undef, undef, undef, undef, undef, undef, undef, undef] := rfl
  rw [hst]
  go_wp2
  clear hst
  cases c₀
  simp_all [bodyPostS, results, Tryz.results152]
theorem catch_panic_raw (bv br p : Nat) (u : Option Addr × Nat × Nat) (x y : Int) (older : List PanicEntry) (w : World) (hv : w.cell? ⟨bv, 0, none⟩ = some (.slice u.1 u.2.1 u.2.2)) (hvz : w.frozen? ⟨bv, 0, none⟩ = false) (hr : w.cell? ⟨br, 0, none⟩ = some (.pointer (some ⟨p, 0, none⟩)))
    (hp : w.cell? ⟨p, 1, none⟩ = some (.int .i64 y)) (hpz : w.frozen? ⟨p, 1, none⟩ = false) (h1 : ¬ br = bv) (h2 : ¬ p = bv) :
    CallsD Tryz.prog 152 #[.pointer (some ⟨bv, 0, none⟩), .pointer (some ⟨br, 0, none⟩)] (.panicking ({ v := .iface 200 (.int .i64 x), recovered := false } :: older)) w fun e u' w' =>
      e = .returned (.tuple #[]) ∧ u' = .panicking ({ v := .iface 200 (.int .i64 x), recovered := true } :: older) ∧ w' = (w.setCell ⟨bv, 0, none⟩ (.slice none 0 0)).setCell ⟨p, 1, none⟩ (.int .i64 x) := by
  have hr2 : (w.setCell ⟨bv, 0, none⟩ (.slice none 0 0)).cell? ⟨br, 0, none⟩ = some (.pointer (some ⟨p, 0, none⟩)) := by rw [World.cell?_setCell_other _ _ _ _ (by simp [h1])]; exact hr
  have hp2 : (w.setCell ⟨bv, 0, none⟩ (.slice none 0 0)).cell? ⟨p, 1, none⟩ = some (.int .i64 y) := by rw [World.cell?_setCell_other _ _ _ _ (by simp [h2])]; exact hp
  refine callsD_of_wpS Tryz.func152 rfl fun c₀ cs hu => ?_
  apply wpS_seq
  apply wpS_region
  simp [wpOpsS, go_sem, recoverD, hu, Tryz.ntmps152, Exit.thenS]
  refine wpS_of_wp ?_
  have hst : (#[Value.pointer (some ⟨bv, 0, none⟩), Value.pointer (some ⟨br, 0, none⟩)] ++ (Array.replicate 15 undef).setIfInBounds 4 (Value.iface 200 (.int .i64 x)) : Array Value) = #[.pointer (some ⟨bv, 0, none⟩), .pointer (some ⟨br, 0, none⟩), undef, undef, undef, undef, Value.iface 200 (.int .i64 x), undef, undef, undef, undef, undef, undef, undef, undef, undef, undef] := rfl
  rw [hst]
  clear hst
  have hta := assert_failure (.int .i64 x)
  go_wp2
  cases c₀
  simp_all [bodyPostS, results, Tryz.results152]
set_option maxRecDepth 100000 in
theorem guard_raw {α : Type} {w : World} {ok : Nat → Prop} {p K : Nat} {b : List Int} {cap : Array Value} {o : Out α} {Q : α → World → Value → Prop} (h : PRd w ok p b 0) (hok : ∀ k, ok k → k < w.heap.size)
    (hQ : ∀ v w1 u, Q v w1 u → ∃ u' : Option Addr × Nat × Nat, u = (fun (u : Option Addr × Nat × Nat) => .slice u.1 u.2.1 u.2.2) u') (hS : ∀ v w1 u j x, Q v w1 u → j < w.heap.size + 2 → Q v (w1.setCell ⟨j, 0, none⟩ x) u)
    (hE : ∀ args w, (callFunc K args).run Tryz.prog w = .ok (.enter K args) w) (hK : ∀ w1, Below w.heap.size w w1 → w.heap.size + 2 ≤ w1.heap.size → Calls Tryz.prog K cap w1 (Ends ok p w1 o Q)) :
  Calls Tryz.prog 113 #[.pointer (some ⟨p, 0, none⟩), .func (.func K) #[] cap] w (Ended ok p w o Q (.slice none 0 0)) := by
  have hp := h
  obtain ⟨_, _, A, c, hb, _, _, _⟩ := h
  have c1 := cell_of_row w p 1 _ _ _ hb
  simp at c1
  have hlt := hp.lt
  clear hb
  have hmf := make_func
  go_enter_defers Tryz.func113, Tryz.ntmps113
  go_wp2_with fail
  refine (hK _ (below_alloc (below_alloc (Below.refl _ _) _) _) (by simp)).mono ?_
  have b1 : Below w.heap.size w ((w.alloc (.cells #[.pointer (some ⟨p, 0, none⟩)] 82)).alloc (.cells #[.slice none 0 0] 25)) := below_alloc (below_alloc (Below.refl _ _) _) _
  intro e w2 he
  obtain ⟨c2, hh⟩ := he.both
  have c3 : Chg (fun k => k = p) w w2 := (Chg.of_below b1 _).then_ c2 (fun _ h => .inl h)
  clear he
  have ev : w2.heap[w.heap.size + 1]? = some (.cells #[.slice none 0 0] 25 (0, 0)) := by
    rw [c2.block _ (by simp) (by omega)]
    have := heap_alloc_new (w.alloc (.cells #[.pointer (some ⟨p, 0, none⟩)] 82)) (.cells #[.slice none 0 0] 25)
    rwa [World.size_alloc] at this
  have er : w2.heap[w.heap.size]? = some (.cells #[.pointer (some ⟨p, 0, none⟩)] 82 (0, 0)) := by
    rw [c2.block _ (by simp; omega) (by omega), Below.heap_alloc _ _ _ (by simp)]
    exact heap_alloc_new w _
  have cv := cell_of_row w2 (w.heap.size + 1) 0 _ _ _ ev
  have cvf := frozen_of_row w2 (w.heap.size + 1) 0 _ _ ev
  have cr := cell_of_row w2 w.heap.size 0 _ _ _ er
  have crf := frozen_of_row w2 w.heap.size 0 _ _ er
  simp at cv cr
  clear ev er
  rcases hh with ⟨v, r, u, h1, rfl, hq, h2⟩ | ⟨x, b', h1, rfl, h2⟩
  · obtain ⟨u, rfl⟩ := hQ _ _ _ hq
    have hfin : Ended ok p w o Q (.slice none 0 0) (.returned (.slice u.1 u.2.1 u.2.2)) (w2.setCell ⟨w.heap.size + 1, 0, none⟩ (.slice u.1 u.2.1 u.2.2)) := Ended.good h1 (c3.setCell (.inr (by simp)) _) (hS _ _ _ _ _ hq (by omega)) (h2.step (fun k hk hlt => Below.heap_setCell w2 ⟨w.heap.size + 1, 0, none⟩ _ k (fun e => by subst e; have := hok _ hk; dsimp only at this; omega)))
    have HF := hid hfin
    clear hfin h1 hq hQ hS hK
    go_wp2
    refine leaves_cons (f := 152) (args := #[.pointer (some ⟨w.heap.size + 1, 0, none⟩), .pointer (some ⟨w.heap.size, 0, none⟩)]) (by simp) (by simp [go_sem]) ?_
    refine (catch_idle_raw _ _ _).mono ?_
    rintro e u' w'' ⟨rfl, rfl, rfl⟩
    have hcu : (w2.setCell ⟨w.heap.size + 1, 0, none⟩ (.slice u.1 u.2.1 u.2.2)).cell? ⟨w.heap.size + 1, 0, none⟩ = some (.slice u.1 u.2.1 u.2.2) := World.cell?_setCell_same' _ _ _ (by rw [cv]; rfl)
    simp [Leaves, settle, results, Tryz.results113, go_sem, hcu]
    exact HF.out
  · have hp3 := h2.put x
    have hw3 : w2.setCell ⟨w.heap.size + 1, 0, none⟩ (.slice none 0 0) = w2.setCell ⟨w.heap.size + 1, 0, none⟩ (.slice none 0 0) := rfl
    have h3 : PRd (w2.setCell ⟨w.heap.size + 1, 0, none⟩ (.slice none 0 0)) ok p b' 0 := h2.step (fun k hk hlt => Below.heap_setCell w2 ⟨w.heap.size + 1, 0, none⟩ _ k (fun e => by subst e; have := hok _ hk; dsimp only at this; omega))
    have hfin : Ended ok p w o Q (.slice none 0 0) (.returned (.slice none 0 0)) ((w2.setCell ⟨w.heap.size + 1, 0, none⟩ (.slice none 0 0)).setCell ⟨p, 1, none⟩ (.int .i64 x)) := Ended.bad h1 ((c3.setCell (.inr (by simp)) _).setCell (.inl rfl) _) (h3.put x)
    obtain ⟨_, _, A', c', hb', _, _, _⟩ := h2
    have cp := cell_of_row w2 p 1 _ _ _ hb'
    have cpf := frozen_of_row w2 p 1 _ _ hb'
    simp at cp
    have HF := hid hfin
    clear hfin h1 hQ hS hK hb' hp3 h3 hw3
    unfold gives
    go_wp2
    refine leaves_cons (f := 152) (args := #[.pointer (some ⟨w.heap.size + 1, 0, none⟩), .pointer (some ⟨w.heap.size, 0, none⟩)]) (by simp) (by simp [go_sem]) ?_
    refine (catch_panic_raw (w.heap.size + 1) w.heap.size p (none, 0, 0) x 0 [] w2 cv cvf cr cp cpf (by omega) (by omega)).mono ?_
    rintro e u' w'' ⟨rfl, rfl, rfl⟩
    have hcu : (w2.setCell ⟨w.heap.size + 1, 0, none⟩ (.slice none 0 0)).cell? ⟨w.heap.size + 1, 0, none⟩ = some (.slice none 0 0) := World.cell?_setCell_same' _ _ _ (by rw [cv]; rfl)
    simp [Leaves, settle, results, Tryz.results113, go_sem, hcu]
    exact HF.out
theorem skip_raw {w : World} {ok : Nat → Prop} {p : Nat} {b : List Int} {x : Int} {f : Value} (h : PRd w ok p b x) (hx : ¬ x = 0) :
  Calls Tryz.prog 113 #[.pointer (some ⟨p, 0, none⟩), f] w fun e w' => e = .returned (.slice none 0 0) ∧ Below w.heap.size w w' := by
  have hlt := h.lt
  obtain ⟨_, _, A, c, hb, _, _, _⟩ := h
  have c1 := cell_of_row w p 1 _ _ _ hb
  simp at c1
  clear hb
  have b1 : Below w.heap.size w ((w.alloc (.cells #[.pointer (some ⟨p, 0, none⟩)] 82)).alloc (.cells #[.slice none 0 0] 25)) := below_alloc (below_alloc (Below.refl _ _) _) _
  have HB := hid b1
  clear b1
  go_enter_defers Tryz.func113, Tryz.ntmps113
  go_wp2
  simp [bodyPostD, Leaves, settle, results, Tryz.results113, go_sem]
  exact HB.out
end Go.Proofs.YticogmpafehomaaGreatDoor
