/- Texts of one seat, laid together. -/
import Derived.Test.YtekhmkfiepnnkaaProg
import Derived.Below
import Derived.Deep.Draws
import Derived.Deep.AppendLies
import Derived.Maps.AppendAt
import Derived.OwnWalk
import Derived.Laws.BytesArg
import Derived.Laws.MakeOwn
import Derived.Laws.OwnMore
import Derived.Deep.OwnRows
import Derived.Tactics
import Derived.Lib.ConvBytes
import Derived.Laws.Slices
import Derived.WalkKit
import Derived.KernelRfl
import Derived.RowKit3
import Derived.Deep.LoopGhost
import Derived.Deep.QuietTactic
import Derived.BigQuiet
import Derived.WideLaws
import Derived.Deep.DeepCutAuto
import Derived.Deep.CutBlock
import Derived.Deep.RegionHeld3
import Derived.Laws.Rows
import Derived.Lib.AppendStr
import Derived.ArgAppend
import Derived.Laws.IdiomCopy
import Derived.OrdersHeld
import Derived.Laws.BitsLemmas
import Derived.RowKit
import Derived.Test.YtekhmkfiepnnkaaWWords
import Derived.Test.YtekhmkfiepnnkaaWLast
import Derived.Test.YtekhmkfiepnnkaaWTab
import Derived.Test.YtekhmkfiepnnkaaWFour
import Derived.Test.YtekhmkfiepnnkaaWQPut
import Derived.Test.YtekhmkfiepnnkaaWApart
import Derived.Test.YtekhmkfiepnnkaaWArr
import Derived.Test.YtekhmkfiepnnkaaWZeros
import Derived.Test.YtekhmkfiepnnkaaWFoot
import Derived.Test.YtekhmkfiepnnkaaWKept
import Derived.Test.YtekhmkfiepnnkaaWShare
import Derived.Test.YtekhmkfiepnnkaaWN
import Derived.Test.YtekhmkfiepnnkaaWFootNe
import Derived.Test.YtekhmkfiepnnkaaWAt
import Derived.Test.YtekhmkfiepnnkaaWEqStruct
import Derived.Test.YtekhmkfiepnnkaaWRepsOne
import Derived.Test.YtekhmkfiepnnkaaWInv
import Derived.Test.YtekhmkfiepnnkaaWInvWords
import Derived.Test.YtekhmkfiepnnkaaWGuard
import Derived.Test.YtekhmkfiepnnkaaWNEv
import Derived.Test.YtekhmkfiepnnkaaWMore
import Derived.Deep.Slices
import Derived.SizedLaws
import Derived.OpenShut
import Derived.Test.YtekhmkfiepnnkaaGHPL1

set_option linter.unusedVariables false
set_option linter.unusedSimpArgs false
namespace Go.Proofs.Ytekhmkfiepnnkaa
open Go.RowKit Go.Proofs.YtekhmkfiepnnkaaW.PrintWords Go.Proofs.YtekhmkfiepnnkaaW.PrintMore
attribute [local go_sem] min_two

theorem wp_region_eq {P : Program} {c : Code} {Q : Exit → Act → World → Prop} {a af : Act} {w Wf : World} (h : c.wp P (fun e a w => e = .normal ∧ a = af ∧ w = Wf) a w) (hQ : Q .normal af Wf) : c.wp P Q a w :=
  Code.wp_mono (fun e a w h => by obtain ⟨rfl, rfl, rfl⟩ := h; exact hQ) h
/-- How many bytes a head has. -/
def headM (b : List Int) : Nat := min (numAt b 13 4).toNat 47
def headOK (b : List Int) : Prop := b.length = 64 ∧ b.take 2 = [102, 104] ∧ ¬ numAt b 2 8 = 0 ∧ numAt b 13 4 ≤ 131072 ∧ blank (b.drop (17 + headM b)) = true
instance (b : List Int) : Decidable (headOK b) := by unfold headOK; infer_instance
def headR (b : List Int) : SR := if headOK b then ⟨numAt b 2 8, numAt b 10 2, b.getD 12 0, (b.drop 17).take (headM b)⟩ else ⟨0, 0, 0, []⟩
def headN (b : List Int) : Int := if headOK b then numAt b 13 4 else 0
theorem head_no {b : List Int} (h : ¬ headOK b) : headR b = ⟨0, 0, 0, []⟩ ∧ headN b = 0 ∧ decide (headOK b) = false := by unfold headR headN; rw [if_neg h, if_neg h]; exact ⟨rfl, rfl, by simpa using h⟩
/-- What Head hands back. -/
def HeadPost (b : List Int) (w : World) (e : Ending) (w' : World) : Prop :=
  ∃ A c, e = .returned (.tuple #[recV (headR b) A c, .int .i64 (headN b), .bool (decide (headOK b))]) ∧ KB.R 5 w' w.heap.size (fun k => w.heap.size ≤ k) (.slice A (headR b).bytes.length c) (headR b).bytes ∧ (headR b).bytes.length ≤ c ∧ Below w.heap.size w w'
theorem head_none {b : List Int} {w w' : World} {v : Value} (h : ¬ headOK b) (hv : v = .tuple #[.agg #[.int .u64 0, .int .i64 0, .int .i64 0, .slice none 0 0], .int .i64 0, .bool false]) (hB : Below w.heap.size w w') : HeadPost b w (.returned v) w' := by
  obtain ⟨e1, e2, e3⟩ := head_no h
  refine ⟨none, 0, ?_, ?_, ?_, hB⟩
  · rw [e1, e2, e3, hv]; rfl
  · rw [e1]; exact Kd.R_nil _ _ _ _ _
  · rw [e1]; simp
theorem blank_tail {w W' : World} {ok : Nat → Prop} {a : Addr} {b : List Int} {c m : Nat} (h : RB w ok (some a) b) (hW : Below w.heap.size w W') (h64 : b.length = 64) (hm : m ≤ 64) (hc : 64 ≤ c) :
    Calls Try.prog 60 #[.slice (behind (some a) m c) (64 - m) (c - m)] W' fun e w' => e = .returned (.bool (blank (b.drop m))) ∧ w' = W' := by
  have h2 := RB_drop h (n := m) (by omega) (by omega : b.length ≤ c)
  have hl : (b.drop m).length = 64 - m := by rw [List.length_drop, h64]
  have h3 := blank_any (c := c - m) (Kd.F_now (RB_below h2 hW))
  rw [hl] at h3
  exact h3
abbrev W4s (w : World) (n : Nat) (v0 v1 v2 v3 : Value) : World := (((w.setCell ⟨n, 0, none⟩ v0).setCell ⟨n, 1, none⟩ v1).setCell ⟨n, 2, none⟩ v2).setCell ⟨n, 3, none⟩ v3
theorem set4 {w : World} {n T : Nat} {a0 a1 a2 a3 : Value} (h : w.heap[n]? = some (.cells #[a0, a1, a2, a3] T (0, 0))) (v0 v1 v2 v3 : Value) : (W4s w n v0 v1 v2 v3).heap[n]? = some (.cells #[v0, v1, v2, v3] T (0, 0)) := by
  have h1 := heap_setCell_same w n 0 _ _ v0 h
  have h2 := heap_setCell_same _ n 1 _ _ v1 h1
  have h3 := heap_setCell_same _ n 2 _ _ v2 h2
  have h4 := heap_setCell_same _ n 3 _ _ v3 h3
  exact h4
theorem below4 {B : Nat} {w0 w : World} (h : Below B w0 w) {n : Nat} (hn : B ≤ n) (v0 v1 v2 v3 : Value) : Below B w0 (W4s w n v0 v1 v2 v3) := (((h.setCell (p := ⟨n, 0, none⟩) hn v0).setCell (p := ⟨n, 1, none⟩) hn v1).setCell (p := ⟨n, 2, none⟩) hn v2).setCell (p := ⟨n, 3, none⟩) hn v3
set_option maxRecDepth 100000 in
set_option maxHeartbeats 4000000 in
theorem head_any {w : World} {ok : Nat → Prop} {A : Option Addr} {c : Nat} {b : List Int} (h : RB w ok A b) (hb : Bytes b) (hc : b.length ≤ c) :
  Calls Try.prog 14 #[.slice A b.length c] w (HeadPost b w) := by
  have hlm := RB_len h
  obtain ⟨w0, hw0⟩ : ∃ w0, w.alloc (.cells #[.int .u64 0, .int .i64 0, .int .i64 0, .slice none 0 0] 25) = w0 := ⟨_, rfl⟩
  have hfin : Below w.heap.size w w0 := by rw [← hw0]; exact below_alloc (Below.refl _ _) _
  by_cases h64 : b.length = 64
  · obtain ⟨a, rfl⟩ := RB_some h (by omega)
    have hp2 : RB w ok (some a) (b.take 2) := RB_take h (by omega)
    have hcv : (convert 22 9 (.slice (some a) 2 c)).run Try.prog w0 = .ok (.string (strOfNums (b.take 2))) w0 := by
      have := conv_str (c := c) (Kd.F_now (RB_below hp2 hfin))
      rwa [show (b.take 2).length = 2 from by rw [List.length_take]; omega] at this
    have hs := str_iff (hb.take 2) (show Bytes [102, 104] from fun x hx => by simp at hx; omega)
    rw [show strOfNums [102, 104] = ⟨#[102, 104]⟩ from rfl] at hs
    rw [h64] at hc ⊢
    have i2 : (2 : Int) ≤ (c : Int) := by omega
    by_cases ht : b.take 2 = [102, 104]
    · have hS := hs.2 ht
      rw [hS] at hcv
      clear hs hS
      have n17 : ¬ c = 17 := by omega
      have n13 : ¬ c = 13 := by omega
      have n2 : ¬ c = 2 := by omega
      have n10 : ¬ c = 10 := by omega
      have i10 : (10 : Int) ≤ (c : Int) := by omega
      have i12 : (12 : Int) ≤ (c : Int) := by omega
      have i17 : (17 : Int) ≤ (c : Int) := by omega
      have hR := RB_int h
      obtain ⟨ad, e0, k12⟩ := hR.at_ 12 (by omega) (by omega)
      cases e0
      simp only [rd, show (12 : Int).toNat = 12 from rfl] at k12
      have hx12 : 0 ≤ b.getD 12 0 ∧ b.getD 12 0 < 256 := hb.rd_ 12
      have c0 := number_part (RB_below h hfin) hb 13 4 (c - 13) (by omega) (by omega)
      have c1 : ∀ W', Below w.heap.size w W' → Calls Try.prog 59 #[.slice (some (a.add 2)) 8 (c - 2)] W' fun e w' => e = .returned (.int .u64 (numAt b 2 8)) ∧ w' = W' := fun W' hW => number_part (RB_below h hW) hb 2 8 (c - 2) (by omega) (by omega)
      have c2 : ∀ W', Below w.heap.size w W' → Calls Try.prog 59 #[.slice (some (a.add 10)) 2 (c - 10)] W' fun e w' => e = .returned (.int .u64 (numAt b 10 2)) ∧ w' = W' := fun W' hW => number_part (RB_below h hW) hb 10 2 (c - 10) (by omega) (by omega)
      have l0 := numAt_lt hb (i := 13) (n := 4) (by omega)
      have l1 := numAt_lt hb (i := 2) (n := 8) (by omega)
      have l2 := numAt_lt hb (i := 10) (n := 2) (by omega)
      rw [show (256 : Int) ^ 4 = 4294967296 from by decide] at l0
      rw [show (256 : Int) ^ 8 = 18446744073709551616 from by decide] at l1
      rw [show (256 : Int) ^ 2 = 65536 from by decide] at l2
      have hmm : min (numAt b 13 4) 47 = ((headM b : Nat) : Int) := by unfold headM; omega
      have hm47 : headM b ≤ 47 := by unfold headM; omega
      have hpart : RB w ok (some (a.add 17)) ((b.drop 17).take (headM b)) := part h (by omega)
      have hplen : ((b.drop 17).take (headM b)).length = headM b := part_len (by omega)
      have hbl : ∀ W', Below w.heap.size w W' → Calls Try.prog 60 #[.slice (behind (some a) (17 + headM b) c) (64 - (17 + headM b)) (c - (17 + headM b))] W' fun e w' => e = .returned (.bool (blank (b.drop (17 + headM b)))) ∧ w' = W' := fun W' hW => blank_tail h hW h64 (by omega) hc
      have hOK : headOK b ↔ ¬ numAt b 2 8 = 0 ∧ numAt b 13 4 ≤ 131072 ∧ blank (b.drop (17 + headM b)) = true := ⟨fun hh => hh.2.2, fun hh => ⟨h64, ht, hh⟩⟩
      have hRR : headOK b → HeadPost b w = fun e w' => ∃ A c, e = .returned (.tuple #[.agg #[.int .u64 (numAt b 2 8), .int .i64 (numAt b 10 2), .int .i64 (b.getD 12 0), .slice A (headM b) c], .int .i64 (numAt b 13 4), .bool true]) ∧ KB.R 5 w' w.heap.size (fun k => w.heap.size ≤ k) (.slice A (headM b) c) ((b.drop 17).take (headM b)) ∧ headM b ≤ c ∧ Below w.heap.size w w' := fun hh => by
        unfold HeadPost
        rw [show headR b = ⟨numAt b 2 8, numAt b 10 2, b.getD 12 0, (b.drop 17).take (headM b)⟩ from if_pos hh, show headN b = numAt b 13 4 from if_pos hh, show decide (headOK b) = true from decide_eq_true hh]
        unfold recV
        dsimp only
        rw [hplen]
      have HRR := hid hRR
      have HOK := hid hOK
      have HM := hid hmm
      clear hRR hOK hR hmm
      generalize hmq : headM b = m at HRR HOK HM hm47 hpart hplen hbl
      generalize numAt b 13 4 = nn at c0 l0 HRR HOK HM
      generalize numAt b 2 8 = g at c1 l1 HRR HOK
      generalize numAt b 10 2 = at_ at c2 l2 HRR HOK
      generalize b.getD 12 0 = x12 at k12 hx12 HRR
      generalize blank (b.drop (17 + m)) = bl at hbl HOK
      have u0 : IntKind.i64.wrap nn = nn := by rw [IntKind.wrap_i64]; omega
      have u2 : IntKind.i64.wrap at_ = at_ := by rw [IntKind.wrap_i64]; omega
      have u12 : IntKind.i64.wrap x12 = x12 := by rw [IntKind.wrap_i64]; omega
      go_enter Try.func14, Try.ntmps14
      go_wp2_with fail
      refine c0.mono ?_
      rintro e w1 ⟨rfl, hw1⟩
      subst hw1
      have hz : w1.heap[w.heap.size]? = some (.cells #[.int .u64 0, .int .i64 0, .int .i64 0, .slice none 0 0] 25 (0, 0)) := by rw [← hw0]; exact heap_alloc_new w _
      clear hw0 hcv c0
      have k12' : w.cell? { block := a.block, off := a.off + 12 } = some (.int .u8 x12) := by simpa [Addr.add] using k12
      have hS0 : Below w.heap.size w w1.drew := hfin.drew
      have hSa : ∀ o, Below w.heap.size w (w1.drew.alloc o) := fun o => hfin.drew.alloc hfin.drew.size o
      go_wp2_with fail
      apply wp_region_eq
      case h =>
        refine wp_region_plan [] (.take 0 (.take 1 (.take 3 (.take 4 (.take 7 (.take 8 (.take 9 (.take 10 (.both 2 (.both 5 (.take 6 (.take 11 (.run 12 (.run 13 .done)))) 12 (.run 5 (.take 6 (.take 11 (.run 13 .done))))) 12 (.run 2 (.run 5 (.take 6 (.take 11 (.run 13 .done)))))))))))))) (fun W' => Below w.heap.size w W') (by kernel_rfl) (by kernel_rfl) (fun c a d v w h => absurd h.1 (by simp)) hS0 ?_
        apply plan_take rfl rfl
        case hy => (intro w' hS; have e0 := pw_cell_below hS k12'; clear hS; go_simp; try exact rfl)
        go_simp
        apply plan_take rfl rfl
        case hy => (intro w' hS; have e0 := pw_cell_below hS k12'; clear hS; go_simp; try exact rfl)
        go_simp
        apply plan_take rfl rfl
        case hy => (intro w' hS; have e0 := pw_cell_below hS k12'; clear hS; go_simp; try exact rfl)
        go_simp
        apply plan_take rfl rfl
        case hy => (intro w' hS; have e0 := pw_cell_below hS k12'; clear hS; go_simp; try exact rfl)
        go_simp
        apply plan_take rfl rfl
        case hy => (intro w' hS; have e0 := pw_cell_below hS k12'; clear hS; go_simp; try exact rfl)
        go_simp
        apply plan_take rfl rfl
        case hy => (intro w' hS; have e0 := pw_cell_below hS k12'; clear hS; go_simp; try exact rfl)
        go_simp
        apply plan_take rfl rfl
        case hy => (intro w' hS; have e0 := pw_cell_below hS k12'; clear hS; go_simp; try exact rfl)
        go_simp
        apply plan_take rfl rfl
        case hy => (intro w' hS; have e0 := pw_cell_below hS k12'; clear hS; go_simp; try exact rfl)
        go_simp
        refine plan_both ?_ ?_
        · refine plan_run_on rfl rfl (fun K hK => ?_)
          go_simp
          refine (c1 _ hS0).mono ?_
          rintro e w2 ⟨rfl, rfl⟩
          refine hK _ _ _ (fun _ h => h) hS0 ?_
          clear hK K
          go_simp
          refine plan_both ?_ ?_
          · refine plan_run_on rfl rfl (fun K hK => ?_)
            go_simp
            refine (c2 _ hS0).mono ?_
            rintro e w2 ⟨rfl, rfl⟩
            refine hK _ _ _ (fun _ h => h) hS0 ?_
            clear hK K
            go_simp
            apply plan_take rfl rfl
            case hy => (intro w' hS; have e0 := pw_cell_below hS k12'; clear hS; go_simp; try exact rfl)
            go_simp
            apply plan_take rfl rfl
            case hy => (intro w' hS; have e0 := pw_cell_below hS k12'; clear hS; go_simp; try exact rfl)
            go_simp
            refine plan_run_on rfl rfl (fun K hK => ?_)
            go_simp
            refine hK _ _ _ (fun _ h => h) (hSa _) ?_
            clear hK K
            go_simp
            refine plan_run_on rfl rfl (fun K hK => ?_)
            go_simp
            refine hK _ _ _ (fun _ h => h) (hSa _) ?_
            clear hK K
            exact plan_done ⟨rfl, rfl, rfl⟩
          · refine plan_run_on rfl rfl (fun K hK => ?_)
            go_simp
            refine hK _ _ _ (fun _ h => h) (hSa _) ?_
            clear hK K
            go_simp
            refine plan_run_on rfl rfl (fun K hK => ?_)
            go_simp
            refine (c2 _ (hSa _)).mono ?_
            rintro e w2 ⟨rfl, rfl⟩
            refine hK _ _ _ (fun _ h => h) (hSa _) ?_
            clear hK K
            go_simp
            apply plan_take rfl rfl
            case hy => (intro w' hS; have e0 := pw_cell_below hS k12'; clear hS; go_simp; try exact rfl)
            go_simp
            apply plan_take rfl rfl
            case hy => (intro w' hS; have e0 := pw_cell_below hS k12'; clear hS; go_simp; try exact rfl)
            go_simp
            refine plan_run_on rfl rfl (fun K hK => ?_)
            go_simp
            refine hK _ _ _ (fun _ h => h) (hSa _) ?_
            clear hK K
            exact plan_done ⟨rfl, rfl, rfl⟩
        · refine plan_run_on rfl rfl (fun K hK => ?_)
          go_simp
          refine hK _ _ _ (fun _ h => h) (hSa _) ?_
          clear hK K
          go_simp
          refine plan_run_on rfl rfl (fun K hK => ?_)
          go_simp
          refine (c1 _ (hSa _)).mono ?_
          rintro e w2 ⟨rfl, rfl⟩
          refine hK _ _ _ (fun _ h => h) (hSa _) ?_
          clear hK K
          go_simp
          refine plan_run_on rfl rfl (fun K hK => ?_)
          go_simp
          refine (c2 _ (hSa _)).mono ?_
          rintro e w2 ⟨rfl, rfl⟩
          refine hK _ _ _ (fun _ h => h) (hSa _) ?_
          clear hK K
          go_simp
          apply plan_take rfl rfl
          case hy => (intro w' hS; have e0 := pw_cell_below hS k12'; clear hS; go_simp; try exact rfl)
          go_simp
          apply plan_take rfl rfl
          case hy => (intro w' hS; have e0 := pw_cell_below hS k12'; clear hS; go_simp; try exact rfl)
          go_simp
          refine plan_run_on rfl rfl (fun K hK => ?_)
          go_simp
          refine hK _ _ _ (fun _ h => h) (hSa _) ?_
          clear hK K
          exact plan_done ⟨rfl, rfl, rfl⟩
      case hQ =>
        have hr2 : ((w1.alloc (.cells #[.int .u64 g, .int .i64 at_, .int .i64 x12, .slice none 0 0] 25)).drew).heap[w1.heap.size]? = some (.cells #[.int .u64 g, .int .i64 at_, .int .i64 x12, .slice none 0 0] 25 (0, 0)) := heap_alloc_new w1 _
        have hz2 : ((w1.alloc (.cells #[.int .u64 g, .int .i64 at_, .int .i64 x12, .slice none 0 0] 25)).drew).heap[w.heap.size]? = some (.cells #[.int .u64 0, .int .i64 0, .int .i64 0, .slice none 0 0] 25 (0, 0)) := (Below.heap_alloc w1 _ w.heap.size (blk_lt hz)).trans hz
        have hB2 : Below w.heap.size w ((w1.alloc (.cells #[.int .u64 g, .int .i64 at_, .int .i64 x12, .slice none 0 0] 25)).drew) := (hfin.alloc hfin.size _).drew
        have hlt2 := blk_lt hz
        clear hS0 hSa hz c1 c2
        generalize (w1.alloc (.cells #[.int .u64 g, .int .i64 at_, .int .i64 x12, .slice none 0 0] 25)).drew = w2 at hr2 hz2 hB2 ⊢
        generalize w1.heap.size = rb at hr2 hlt2 ⊢
        clear hfin k12 k12'
        have q0 := cell_of_row _ _ 0 _ _ _ hr2
        have q3 := cell_of_row _ _ 3 _ _ _ hr2
        have hmin : Builtin.min2 (.int .i64 nn) (.int .i64 47) = pure (.int .i64 (m : Int)) := by
          have hmm := HM.out
          rw [min2_int, ← hmm]
          congr 2
          split <;> omega
        have htn : (17 + (m : Int)).toNat = 17 + m := by omega
        have him : (17 : Int) + (m : Int) ≤ 64 := by omega
        have him2 : (17 : Int) + (m : Int) ≤ (c : Int) := by omega
        have z0 := cell_of_row _ _ 0 _ _ _ hz2
        have z1 := cell_of_row _ _ 1 _ _ _ hz2
        have z2 := cell_of_row _ _ 2 _ _ _ hz2
        have z3 := cell_of_row _ _ 3 _ _ _ hz2
        have f0 := frozen_of_row _ _ 0 _ _ hz2
        have f1 := frozen_of_row _ _ 1 _ _ hz2
        have f2 := frozen_of_row _ _ 2 _ _ hz2
        have f3 := frozen_of_row _ _ 3 _ _ hz2
        by_cases hg : g = 0
        · have hno : ¬ headOK b := fun hh => (HOK.out.1 hh).1 hg
          subst hg
          go_wp2
          refine bodyPost_ret (results_ctt rfl _ _ w.heap.size 25 _ _ _ rfl (set4 hz2 (.int .u64 0) (.int .i64 0) (.int .i64 0) (.slice none 0 0)) Try.underlying25 rfl (by kernel_rfl)) rfl ?_
          exact head_none hno rfl (below4 hB2 (Nat.le_refl _) _ _ _ _)
        have hg2 : (g == 0) = false := by simpa using hg
        by_cases hn : 131072 < nn
        · have hno : ¬ headOK b := fun hh => by have := (HOK.out.1 hh).2.1; omega
          go_wp2
          refine bodyPost_ret (results_ctt rfl _ _ w.heap.size 25 _ _ _ rfl (set4 hz2 (.int .u64 0) (.int .i64 0) (.int .i64 0) (.slice none 0 0)) Try.underlying25 rfl (by kernel_rfl)) rfl ?_
          exact head_none hno rfl (below4 hB2 (Nat.le_refl _) _ _ _ _)
        have hbl2 := hbl w2 hB2
        have BL : ∀ (V : Value), V = .slice (behind (some a) (17 + m) c) (64 - (17 + m)) (c - (17 + m)) → Calls Try.prog 60 #[V] w2 fun e w' => e = .returned (.bool bl) ∧ w' = w2 := fun V e => by rw [e]; exact hbl2
        clear hbl hbl2
        by_cases hcm : c = 17 + m
        have hwm : IntKind.i64.wrap (17 + (m : Int)) = 17 + (m : Int) := by rw [IntKind.wrap_i64]; omega
        have h17 : (17 : Int) ≤ 17 + (m : Int) := by omega
        have h017 : (0 : Int) ≤ 17 + (m : Int) := by omega
        · have hm0 : ¬ m = 0 := by omega
          subst hcm
          go_wp2_with fail
          refine (BL _ ?_).mono ?_
          · unfold behind
            rw [if_pos rfl, Nat.sub_self, show 64 - (17 + m) = 0 from by omega]
          rintro e w3 ⟨rfl, rfl⟩
          clear BL
          have hlt3 : rb < w3.heap.size := blk_lt hr2
          cases bl with
          | false =>
            have hno : ¬ headOK b := fun hh => by have := (HOK.out.1 hh).2.2; cases this
            go_wp2
            refine bodyPost_ret (results_ctt rfl _ _ w.heap.size 25 _ _ _ rfl (set4 hz2 (.int .u64 0) (.int .i64 0) (.int .i64 0) (.slice none 0 0)) Try.underlying25 rfl (by kernel_rfl)) rfl ?_
            exact head_none hno rfl (below4 hB2 (Nat.le_refl _) _ _ _ _)
          | true =>
            have hh : headOK b := HOK.out.2 ⟨hg, by omega, rfl⟩
            have HP := hid (HRR.out hh)
            clear HRR HOK
            have hRm : ReadsInt w3.drew .u8 (some (a.add 17)) m ((b.drop 17).take m) := by
              have := RB_int (RB_below hpart hB2.drew)
              rwa [hplen] at this
            go_wp2_with fail
            refine wp_region_plan [7, 8] (.take 0 (.take 1 (.take 2 (.take 3 (.take 4 (.take 5 (.run 6 (.tail 7 (.tail 8 .done))))))))) (fun W' => W'.cell? ⟨rb, 3, none⟩ = some (.slice none 0 0)) (by kernel_rfl) (by kernel_rfl) (fun c a d v w h => by cases d <;> exact h) q3 ?_
            have hwm2 : IntKind.i64.wrap (17 + (m : Int)) = 17 + (m : Int) := by rw [IntKind.wrap_i64]; omega
            have h172 : (17 : Int) ≤ 17 + (m : Int) := by omega
            have h0172 : (0 : Int) ≤ 17 + (m : Int) := by omega
            have htn2 : (17 + (m : Int)).toNat = 17 + m := by omega
            iterate 6 (apply plan_take rfl rfl; (case hy => (intro w' hS; go_simp; try exact rfl)); go_simp)
            refine plan_run_on rfl rfl (fun K hK => ?_)
            refine step_append_row (w0 := w3.drew) w3.heap.size (.tmp 53) (.tmp 57) 22 5 .u8 1 rfl Try.underlying22 info_u8 (by decide) _ [] ((b.drop 17).take m) (some (a.add 17)) m m rfl rfl (World.ownsRow_nil _ _ _ _) hRm (Below.refl _ _) (Nat.le_refl _) (by simp; omega) ?_
            intro v1 w4 ho hB4 hg4 hat
            have hR4 : KB.R 5 w4 w3.heap.size (fun q => w3.heap.size ≤ q) v1 ((b.drop 17).take m) := Rown (by simpa using ho) (fun q hq => own_base ho q hq)
            obtain ⟨A4, c4, rfl, hle4, hC4⟩ := Kd.R_reads hR4
            rw [hplen] at hle4 hR4 ⊢
            have HR4 := hid hR4
            clear ho hg4 hat hR4 hC4
            have hr4 : w4.heap[rb]? = some (.cells #[.int .u64 g, .int .i64 at_, .int .i64 x12, .slice none 0 0] 25 (0, 0)) := (hB4.block rb hlt3).trans hr2
            have hz4 : w4.heap[w.heap.size]? = some (.cells #[.int .u64 0, .int .i64 0, .int .i64 0, .slice none 0 0] 25 (0, 0)) := (hB4.block w.heap.size (blk_lt hz2)).trans hz2
            have hBw4 : Below w.heap.size w w4 := hB2.drew.trans (hB4.mono hB2.size)
            have p3 := cell_of_row _ _ 3 _ _ _ hr4
            have pf3 := frozen_of_row _ _ 3 _ _ hr4
            simp at p3
            refine hK _ _ _ (fun _ h => h) p3 ?_
            clear hK K
            go_simp
            refine plan_tail_on rfl rfl (fun K hK => ?_)
            go_simp
            refine hK _ _ ?_
            clear hK K
            refine plan_tail_on rfl rfl (fun K hK => ?_)
            go_simp
            refine hK _ _ (plan_done ?_)
            clear hK K
            have hr5 := heap_setCell_same w4 rb 3 _ _ (.slice A4 m c4) hr4
            have hz5 := (Below.heap_setCell w4 ⟨rb, 3, none⟩ (.slice A4 m c4) w.heap.size (by show w.heap.size ≠ rb; omega)).trans hz4
            have hB5 : Below w.heap.size w (w4.setCell ⟨rb, 3, none⟩ (.slice A4 m c4)) := hBw4.setCell (p := ⟨rb, 3, none⟩) (by show w.heap.size ≤ rb; omega) _
            have hk5 : ∀ k, w3.heap.size ≤ k → (w4.setCell ⟨rb, 3, none⟩ (.slice A4 m c4)).heap[k]? = w4.heap[k]? := fun k hk => Below.heap_setCell w4 ⟨rb, 3, none⟩ (.slice A4 m c4) k (by show k ≠ rb; omega)
            clear q0 q3 z0 z1 z2 z3 f0 f1 f2 f3 p3 pf3 hr4 hz4
            generalize w4.setCell ⟨rb, 3, none⟩ (.slice A4 m c4) = w5 at hr5 hz5 hB5 hk5 ⊢
            have hn2 := blk_lt hz2
            clear hr2 hz2 hRm
            have q0 := cell_of_row _ _ 0 _ _ _ hr5
            have q1 := cell_of_row _ _ 1 _ _ _ hr5
            have q2 := cell_of_row _ _ 2 _ _ _ hr5
            have q3 := cell_of_row _ _ 3 _ _ _ hr5
            have z0 := cell_of_row _ _ 0 _ _ _ hz5
            have z1 := cell_of_row _ _ 1 _ _ _ hz5
            have z2 := cell_of_row _ _ 2 _ _ _ hz5
            have z3 := cell_of_row _ _ 3 _ _ _ hz5
            have f0 := frozen_of_row _ _ 0 _ _ hz5
            have f1 := frozen_of_row _ _ 1 _ _ hz5
            have f2 := frozen_of_row _ _ 2 _ _ hz5
            have f3 := frozen_of_row _ _ 3 _ _ hz5
            simp at q0 q1 q2 q3 z0 z1 z2 z3
            go_wp2
            refine bodyPost_ret (results_ctt rfl _ _ w.heap.size 25 _ _ _ rfl (set4 hz5 (.int .u64 g) (.int .i64 at_) (.int .i64 x12) (.slice A4 m c4)) Try.underlying25 rfl (by kernel_rfl)) rfl ?_
            rw [HP.out]
            refine ⟨A4, c4, rfl, ?_, hle4, below4 hB5 (Nat.le_refl _) _ _ _ _⟩
            have hall : ∀ k, w3.heap.size ≤ k → (W4s w5 w.heap.size (.int .u64 g) (.int .i64 at_) (.int .i64 x12) (.slice A4 m c4)).heap[k]? = w4.heap[k]? := fun k hk => by
              have hb := (below4 (Below.refl w.heap.size w5) (Nat.le_refl _) (.int .u64 g) (.int .i64 at_) (.int .i64 x12) (.slice A4 m c4))
              have hne : k ≠ w.heap.size := by omega
              rw [← hk5 k hk]
              unfold W4s
              rw [Below.heap_setCell _ _ _ _ hne, Below.heap_setCell _ _ _ _ hne, Below.heap_setCell _ _ _ _ hne, Below.heap_setCell _ _ _ _ hne]
            exact Kd.R_lower (Kd.R_mono (Kd.R_step HR4.out (fun k hk _ => hall k hk)) (fun k hk => by omega)) (by omega)
        · go_wp2_with fail
          refine (BL _ ?_).mono ?_
          · unfold behind
            rw [if_neg hcm]
            rfl
          rintro e w3 ⟨rfl, rfl⟩
          clear BL
          have hlt3 : rb < w3.heap.size := blk_lt hr2
          cases bl with
          | false =>
            have hno : ¬ headOK b := fun hh => by have := (HOK.out.1 hh).2.2; cases this
            go_wp2
            refine bodyPost_ret (results_ctt rfl _ _ w.heap.size 25 _ _ _ rfl (set4 hz2 (.int .u64 0) (.int .i64 0) (.int .i64 0) (.slice none 0 0)) Try.underlying25 rfl (by kernel_rfl)) rfl ?_
            exact head_none hno rfl (below4 hB2 (Nat.le_refl _) _ _ _ _)
          | true =>
            have hh : headOK b := HOK.out.2 ⟨hg, by omega, rfl⟩
            have HP := hid (HRR.out hh)
            clear HRR HOK
            have hRm : ReadsInt w3.drew .u8 (some (a.add 17)) m ((b.drop 17).take m) := by
              have := RB_int (RB_below hpart hB2.drew)
              rwa [hplen] at this
            go_wp2_with fail
            refine wp_region_plan [7, 8] (.take 0 (.take 1 (.take 2 (.take 3 (.take 4 (.take 5 (.run 6 (.tail 7 (.tail 8 .done))))))))) (fun W' => W'.cell? ⟨rb, 3, none⟩ = some (.slice none 0 0)) (by kernel_rfl) (by kernel_rfl) (fun c a d v w h => by cases d <;> exact h) q3 ?_
            have hwm2 : IntKind.i64.wrap (17 + (m : Int)) = 17 + (m : Int) := by rw [IntKind.wrap_i64]; omega
            have h172 : (17 : Int) ≤ 17 + (m : Int) := by omega
            have h0172 : (0 : Int) ≤ 17 + (m : Int) := by omega
            have htn2 : (17 + (m : Int)).toNat = 17 + m := by omega
            iterate 6 (apply plan_take rfl rfl; (case hy => (intro w' hS; go_simp; try exact rfl)); go_simp)
            refine plan_run_on rfl rfl (fun K hK => ?_)
            refine step_append_row (w0 := w3.drew) w3.heap.size (.tmp 53) (.tmp 57) 22 5 .u8 1 rfl Try.underlying22 info_u8 (by decide) _ [] ((b.drop 17).take m) (some (a.add 17)) m (c - 17) rfl rfl (World.ownsRow_nil _ _ _ _) hRm (Below.refl _ _) (Nat.le_refl _) (by simp; omega) ?_
            intro v1 w4 ho hB4 hg4 hat
            have hR4 : KB.R 5 w4 w3.heap.size (fun q => w3.heap.size ≤ q) v1 ((b.drop 17).take m) := Rown (by simpa using ho) (fun q hq => own_base ho q hq)
            obtain ⟨A4, c4, rfl, hle4, hC4⟩ := Kd.R_reads hR4
            rw [hplen] at hle4 hR4 ⊢
            have HR4 := hid hR4
            clear ho hg4 hat hR4 hC4
            have hr4 : w4.heap[rb]? = some (.cells #[.int .u64 g, .int .i64 at_, .int .i64 x12, .slice none 0 0] 25 (0, 0)) := (hB4.block rb hlt3).trans hr2
            have hz4 : w4.heap[w.heap.size]? = some (.cells #[.int .u64 0, .int .i64 0, .int .i64 0, .slice none 0 0] 25 (0, 0)) := (hB4.block w.heap.size (blk_lt hz2)).trans hz2
            have hBw4 : Below w.heap.size w w4 := hB2.drew.trans (hB4.mono hB2.size)
            have p3 := cell_of_row _ _ 3 _ _ _ hr4
            have pf3 := frozen_of_row _ _ 3 _ _ hr4
            simp at p3
            refine hK _ _ _ (fun _ h => h) p3 ?_
            clear hK K
            go_simp
            refine plan_tail_on rfl rfl (fun K hK => ?_)
            go_simp
            refine hK _ _ ?_
            clear hK K
            refine plan_tail_on rfl rfl (fun K hK => ?_)
            go_simp
            refine hK _ _ (plan_done ?_)
            clear hK K
            have hr5 := heap_setCell_same w4 rb 3 _ _ (.slice A4 m c4) hr4
            have hz5 := (Below.heap_setCell w4 ⟨rb, 3, none⟩ (.slice A4 m c4) w.heap.size (by show w.heap.size ≠ rb; omega)).trans hz4
            have hB5 : Below w.heap.size w (w4.setCell ⟨rb, 3, none⟩ (.slice A4 m c4)) := hBw4.setCell (p := ⟨rb, 3, none⟩) (by show w.heap.size ≤ rb; omega) _
            have hk5 : ∀ k, w3.heap.size ≤ k → (w4.setCell ⟨rb, 3, none⟩ (.slice A4 m c4)).heap[k]? = w4.heap[k]? := fun k hk => Below.heap_setCell w4 ⟨rb, 3, none⟩ (.slice A4 m c4) k (by show k ≠ rb; omega)
            clear q0 q3 z0 z1 z2 z3 f0 f1 f2 f3 p3 pf3 hr4 hz4
            generalize w4.setCell ⟨rb, 3, none⟩ (.slice A4 m c4) = w5 at hr5 hz5 hB5 hk5 ⊢
            have hn2 := blk_lt hz2
            clear hr2 hz2 hRm
            have q0 := cell_of_row _ _ 0 _ _ _ hr5
            have q1 := cell_of_row _ _ 1 _ _ _ hr5
            have q2 := cell_of_row _ _ 2 _ _ _ hr5
            have q3 := cell_of_row _ _ 3 _ _ _ hr5
            have z0 := cell_of_row _ _ 0 _ _ _ hz5
            have z1 := cell_of_row _ _ 1 _ _ _ hz5
            have z2 := cell_of_row _ _ 2 _ _ _ hz5
            have z3 := cell_of_row _ _ 3 _ _ _ hz5
            have f0 := frozen_of_row _ _ 0 _ _ hz5
            have f1 := frozen_of_row _ _ 1 _ _ hz5
            have f2 := frozen_of_row _ _ 2 _ _ hz5
            have f3 := frozen_of_row _ _ 3 _ _ hz5
            simp at q0 q1 q2 q3 z0 z1 z2 z3
            go_wp2
            refine bodyPost_ret (results_ctt rfl _ _ w.heap.size 25 _ _ _ rfl (set4 hz5 (.int .u64 g) (.int .i64 at_) (.int .i64 x12) (.slice A4 m c4)) Try.underlying25 rfl (by kernel_rfl)) rfl ?_
            rw [HP.out]
            refine ⟨A4, c4, rfl, ?_, hle4, below4 hB5 (Nat.le_refl _) _ _ _ _⟩
            have hall : ∀ k, w3.heap.size ≤ k → (W4s w5 w.heap.size (.int .u64 g) (.int .i64 at_) (.int .i64 x12) (.slice A4 m c4)).heap[k]? = w4.heap[k]? := fun k hk => by
              have hb := (below4 (Below.refl w.heap.size w5) (Nat.le_refl _) (.int .u64 g) (.int .i64 at_) (.int .i64 x12) (.slice A4 m c4))
              have hne : k ≠ w.heap.size := by omega
              rw [← hk5 k hk]
              unfold W4s
              rw [Below.heap_setCell _ _ _ _ hne, Below.heap_setCell _ _ _ _ hne, Below.heap_setCell _ _ _ _ hne, Below.heap_setCell _ _ _ _ hne]
            exact Kd.R_lower (Kd.R_mono (Kd.R_step HR4.out (fun k hk _ => hall k hk)) (fun k hk => by omega)) (by omega)
    · have hno : ¬ headOK b := fun hh => ht hh.2.1
      have hS : ¬ strOfNums (b.take 2) = ⟨#[102, 104]⟩ := fun e => ht (hs.1 e)
      generalize strOfNums (b.take 2) = S at hcv hS
      have hS2 : (S.toList == [102, 104]) = false := str_neq hS
      clear hs
      rw [← hw0] at hcv
      clear hw0
      go_enter Try.func14, Try.ntmps14
      go_wp2
      refine bodyPost_ret (results_ctt rfl _ _ w.heap.size 25 _ _ _ rfl (heap_alloc_new w _) Try.underlying25 rfl (by kernel_rfl)) rfl ?_
      exact head_none hno rfl (below_alloc (Below.refl _ _) _)
  · have hno : ¬ headOK b := fun hh => h64 hh.1
    have hne : ((b.length : Int) != 64) = true := by simp; omega
    have hne2 : ¬ (b.length : Int) = 64 := by omega
    clear hw0
    go_enter Try.func14, Try.ntmps14
    go_wp2
    refine bodyPost_ret (results_ctt rfl _ _ w.heap.size 25 _ _ _ rfl (heap_alloc_new w _) Try.underlying25 rfl (by kernel_rfl)) rfl ?_
    exact head_none hno rfl (below_alloc (Below.refl _ _) _)
end Go.Proofs.Ytekhmkfiepnnkaa

set_option linter.unusedVariables false
set_option linter.unusedSimpArgs false
namespace Go.Proofs.Ytekhmkfiepnnkaa
open Go.RowKit Go.Proofs.YtekhmkfiepnnkaaW.PrintWords Go.Proofs.YtekhmkfiepnnkaaW.PrintMore
attribute [local go_sem] max_three max2_int

/-- May a stretch be read? -/
def regE (D : DM) (base end_ : Int) : Int := if base < 0 ∨ end_ < base ∨ (D.n : Int) < end_ then 1 else if D.gone = true then 61 else 0
theorem region_any {w : World} {ok : Nat → Prop} {p : Nat} {D : DM} (h : PDisk w ok p D) (base end_ : Int) :
  Calls Try.prog 67 #[.pointer (some ⟨p, 0, none⟩), .int .i64 base, .int .i64 end_] w fun e w' => e = .returned (.int .i64 (regE D base end_)) ∧ w = w' := by
  have hB := blocks_any h
  have hD := dead_any h
  unfold regE
  by_cases h1 : base < 0
  · rw [if_pos (.inl h1)]
    go_enter Try.func67, Try.ntmps67
    go_wp2
    go_ret
    exact ⟨rfl, rfl⟩
  by_cases h2 : end_ < base
  · rw [if_pos (.inr (.inl h2))]
    go_enter Try.func67, Try.ntmps67
    go_wp2
    go_ret
    exact ⟨rfl, rfl⟩
  by_cases h3 : (D.n : Int) < end_
  · rw [if_pos (.inr (.inr h3))]
    go_enter Try.func67, Try.ntmps67
    go_wp2_with (go_at_call 65; refine hB.mono ?_; rintro e w' ⟨rfl, rfl⟩)
    go_ret
    exact ⟨rfl, rfl⟩
  rw [if_neg (by omega)]
  cases hg : D.gone
  all_goals
    rw [hg] at hD
    clear hg
    go_enter Try.func67, Try.ntmps67
    go_wp2_with (first | (go_at_call 65; refine hB.mono ?_; rintro e w' ⟨rfl, rfl⟩) | (go_at_call 76; refine hD.mono ?_; rintro e w' ⟨rfl, rfl⟩))
    go_ret
    exact ⟨rfl, rfl⟩

/-- The greatest generation in k blocks from b0 on. -/
def genK (D : DM) (b0 : Nat) : Nat → Int
  | 0 => 0
  | k + 1 => max (max (genK D b0 k) (headR (D.blk (b0 + k))).gen) (bodyV (D.blk (b0 + k))).1
theorem blk_bytes {D : DM} (h : D.wf) (i : Nat) : Bytes (D.blk i) := (h.bytes.drop _).take _
theorem regE_ok {D : DM} {base end_ : Int} (h : regE D base end_ = 0) : 0 ≤ base ∧ base ≤ end_ ∧ end_ ≤ D.n ∧ D.gone = false := by
  unfold regE at h
  split at h
  · simp at h
  · split at h
    · simp at h
    · rename_i h1 h2; exact ⟨by omega, by omega, by omega, by simpa using h2⟩
theorem ready_in {D : DM} {i : Nat} (hg : D.gone = false) (hi : i < D.n) : D.ready i = 0 := by
  unfold DM.ready
  rw [if_neg (by simp [hg]), if_neg (by omega)]
end Go.Proofs.Ytekhmkfiepnnkaa

set_option linter.unusedVariables false
set_option linter.unusedSimpArgs false
namespace Go.Proofs.Ytekhmkfiepnnkaa
open Go.RowKit Go.Proofs.YtekhmkfiepnnkaaW.PrintWords Go.Proofs.YtekhmkfiepnnkaaW.PrintMore
attribute [local go_sem] max_three max2_int min_two min2_int

def bodiesN (n : Nat) : Nat := (n - 47 + 49) / 50
/-- How many bytes body block k + 1 has. -/
def hasK (n k : Nat) : Nat := min (n - (47 + 50 * k)) 50
/-- The bytes that a head and k body blocks tell. -/
def bytesK (D : DM) (b0 n : Nat) : Nat → List Int
  | 0 => (headR (D.blk b0)).bytes
  | k + 1 => bytesK D b0 n k ++ ((D.blk (b0 + (k + 1))).drop 14).take (hasK n k)
/-- Is block b0 + k + 1 body k + 1 of that record? -/
def goodK (D : DM) (b0 n : Nat) (gen at_ : Int) (k : Nat) : Bool :=
  decide (bodyV (D.blk (b0 + (k + 1))) = (gen, at_, ((k + 1 : Nat) : Int), true)) && blank ((D.blk (b0 + (k + 1))).drop (14 + hasK n k))
def readE (D : DM) (base end_ at_ : Int) : Int := if at_ < 0 then 1 else regE D base end_
/-- The record that Read tells of. -/
def readV (D : DM) (base end_ gen at_ : Int) : Option SR :=
  if readE D base end_ at_ = 0 ∧ at_ < end_ - base ∧ headOK (D.blk (base + at_).toNat) ∧ (headR (D.blk (base + at_).toNat)).gen = gen ∧ (headR (D.blk (base + at_).toNat)).at_ = at_ ∧
      need (headN (D.blk (base + at_).toNat)) ≤ end_ - base - at_ ∧
      ((List.range (bodiesN (headN (D.blk (base + at_).toNat)).toNat)).all (goodK D (base + at_).toNat (headN (D.blk (base + at_).toNat)).toNat gen at_)) = true then
    some ⟨gen, at_, (headR (D.blk (base + at_).toNat)).kind, bytesK D (base + at_).toNat (headN (D.blk (base + at_).toNat)).toNat (bodiesN (headN (D.blk (base + at_).toNat)).toNat)⟩
  else none
def noR : SR := ⟨0, 0, 0, []⟩
/-- What Read hands back. -/
def ReadPost (v : Option SR) (E : Int) (w : World) (e : Ending) (w' : World) : Prop :=
  ∃ A c, e = .returned (.tuple #[recV (v.getD noR) A c, .bool v.isSome, .int .i64 E]) ∧ KB.R 5 w' w.heap.size (fun k => w.heap.size ≤ k) (.slice A (v.getD noR).bytes.length c) (v.getD noR).bytes ∧ (v.getD noR).bytes.length ≤ c ∧ Below w.heap.size w w'
theorem readpost_none {E : Int} {w w' : World} {v : Value} (hv : v = .tuple #[.agg #[.int .u64 0, .int .i64 0, .int .i64 0, .slice none 0 0], .bool false, .int .i64 E]) (hB : Below w.heap.size w w') : ReadPost none E w (.returned v) w' :=
  ⟨none, 0, by rw [hv]; rfl, Kd.R_nil _ _ _ _ _, Nat.le_refl _, hB⟩
theorem headR_zero {w : World} : (w.alloc (.cells #[.int .u64 0, .int .i64 0, .int .i64 0, .slice none 0 0] 25)).heap[w.heap.size]? = some (.cells #[.int .u64 0, .int .i64 0, .int .i64 0, .slice none 0 0] 25 (0, 0)) := heap_alloc_new w _
set_option maxRecDepth 100000 in
set_option maxHeartbeats 1000000 in
theorem read_errD {w : World} {ok : Nat → Prop} {p : Nat} {D : DM} (h : PDisk w ok p D) (base end_ gen at_ : Int) (he : ¬ readE D base end_ at_ = 0) :
  Calls Try.prog 29 #[.pointer (some ⟨p, 0, none⟩), .int .i64 base, .int .i64 end_, .int .u64 gen, .int .i64 at_] w (ReadPost none (readE D base end_ at_) w) := by
  have hB0 : Below w.heap.size w (w.alloc (.cells #[.int .u64 0, .int .i64 0, .int .i64 0, .slice none 0 0] 25)) := below_alloc (Below.refl _ _) _
  have h0 := h.step (w1 := w.alloc (.cells #[.int .u64 0, .int .i64 0, .int .i64 0, .slice none 0 0] 25)) (fun k _ hk => hB0.block k hk)
  have hB := blocks_any h0
  have hR := region_any h0 base end_
  have HB0 := hid hB0
  clear hB0
  by_cases h1 : base < 0
  · have hE : readE D base end_ at_ = 1 := by unfold readE regE; split <;> simp [h1]
    rw [hE]
    go_enter Try.func29, Try.ntmps29
    go_wp2
    refine bodyPost_ret (results_ctt rfl _ _ w.heap.size 25 _ _ _ rfl (heap_alloc_new w _) Try.underlying25 rfl (by kernel_rfl)) rfl ?_
    exact readpost_none rfl HB0.out
  by_cases h2 : end_ < base
  · have hE : readE D base end_ at_ = 1 := by unfold readE regE; split <;> simp [h2]
    rw [hE]
    go_enter Try.func29, Try.ntmps29
    go_wp2
    refine bodyPost_ret (results_ctt rfl _ _ w.heap.size 25 _ _ _ rfl (heap_alloc_new w _) Try.underlying25 rfl (by kernel_rfl)) rfl ?_
    exact readpost_none rfl HB0.out
  by_cases h3 : (D.n : Int) < end_
  · have hE : readE D base end_ at_ = 1 := by unfold readE regE; split <;> simp [h3]
    rw [hE]
    go_enter Try.func29, Try.ntmps29
    go_wp2_with (go_at_call 65; refine hB.mono ?_; rintro e w' ⟨rfl, rfl⟩)
    refine bodyPost_ret (results_ctt rfl _ _ w.heap.size 25 _ _ _ rfl (heap_alloc_new w _) Try.underlying25 rfl (by kernel_rfl)) rfl ?_
    exact readpost_none rfl HB0.out
  by_cases h4 : at_ < 0
  · have hE : readE D base end_ at_ = 1 := by unfold readE; simp [h4]
    rw [hE]
    go_enter Try.func29, Try.ntmps29
    go_wp2_with (go_at_call 65; refine hB.mono ?_; rintro e w' ⟨rfl, rfl⟩)
    refine bodyPost_ret (results_ctt rfl _ _ w.heap.size 25 _ _ _ rfl (heap_alloc_new w _) Try.underlying25 rfl (by kernel_rfl)) rfl ?_
    exact readpost_none rfl HB0.out
  have hE : readE D base end_ at_ = regE D base end_ := by unfold readE; rw [if_neg h4]
  rw [hE] at he ⊢
  generalize regE D base end_ = E at he hR ⊢
  have he2 : (E != 0) = true := by simpa using he
  clear hE
  go_enter Try.func29, Try.ntmps29
  go_wp2_with (first | (go_at_call 65; refine hB.mono ?_; rintro e w' ⟨rfl, rfl⟩) | (go_at_call 67; refine hR.mono ?_; rintro e w' ⟨rfl, rfl⟩))
  refine bodyPost_ret (results_ctt rfl _ _ w.heap.size 25 _ _ _ rfl (heap_alloc_new w _) Try.underlying25 rfl (by kernel_rfl)) rfl ?_
  exact readpost_none rfl HB0.out
/-- What holds where a block is to be read. -/
structure RdOk (D : DM) (base end_ at_ : Int) : Prop where
  b : 0 ≤ base
  e : base ≤ end_
  n : end_ ≤ D.n
  g : D.gone = false
  a : 0 ≤ at_
theorem readE_ok {D : DM} {base end_ at_ : Int} (h : readE D base end_ at_ = 0) : RdOk D base end_ at_ := by
  unfold readE at h
  split at h
  · cases h
  · obtain ⟨a, b, c, d⟩ := regE_ok h
    exact ⟨a, b, c, d, by omega⟩
set_option maxRecDepth 100000 in
set_option maxHeartbeats 1000000 in
theorem read_outD {w : World} {ok : Nat → Prop} {p : Nat} {D : DM} (h : PDisk w ok p D) (base end_ gen at_ : Int) (he : readE D base end_ at_ = 0) (ho : end_ - base ≤ at_) :
  Calls Try.prog 29 #[.pointer (some ⟨p, 0, none⟩), .int .i64 base, .int .i64 end_, .int .u64 gen, .int .i64 at_] w (ReadPost none 0 w) := by
  have hB0 : Below w.heap.size w (w.alloc (.cells #[.int .u64 0, .int .i64 0, .int .i64 0, .slice none 0 0] 25)) := below_alloc (Below.refl _ _) _
  have h0 := h.step (w1 := w.alloc (.cells #[.int .u64 0, .int .i64 0, .int .i64 0, .slice none 0 0] 25)) (fun k _ hk => hB0.block k hk)
  have hB := blocks_any h0
  have hR := region_any h0 base end_
  have HB0 := hid hB0
  obtain ⟨r1, r2, r3, r4, r5⟩ := readE_ok he
  rw [show regE D base end_ = 0 from by unfold readE at he; rwa [if_neg (by omega)] at he] at hR
  have hn := h.1.hi
  clear hB0 he
  have n1 : ¬ base < 0 := by omega
  have n2 : ¬ end_ < base := by omega
  have n3 : ¬ (D.n : Int) < end_ := by omega
  have n4 : ¬ at_ < 0 := by omega
  have hw : IntKind.i64.wrap (end_ - base) = end_ - base := by rw [IntKind.wrap_i64]; omega
  go_enter Try.func29, Try.ntmps29
  go_wp2_with (first | (go_at_call 65; refine hB.mono ?_; rintro e w' ⟨rfl, rfl⟩) | (go_at_call 67; refine hR.mono ?_; rintro e w' ⟨rfl, rfl⟩))
  refine bodyPost_ret (results_ctt rfl _ _ w.heap.size 25 _ _ _ rfl (heap_alloc_new w _) Try.underlying25 rfl (by kernel_rfl)) rfl ?_
  exact readpost_none rfl HB0.out
end Go.Proofs.Ytekhmkfiepnnkaa

set_option linter.unusedVariables false
set_option linter.unusedSimpArgs false
namespace Go.Proofs.Ytekhmkfiepnnkaa
open Go.RowKit Go.Proofs.YtekhmkfiepnnkaaW.PrintWords Go.Proofs.YtekhmkfiepnnkaaW.PrintMore
attribute [local go_sem] min_two

theorem read_okI {w : World} {ok : Nat → Prop} {p : Nat} {D : DM} (j : Nat) (i : Int) (h : PDisk w ok p D) (hij : i = (j : Int)) (hr : D.ready j = 0) (hi : j < D.n) :
  Calls Try.prog 35 #[.pointer (some ⟨p, 0, none⟩), .int .i64 i] w fun e w' => e = .returned (.tuple #[.slice (some ⟨w.heap.size, 0, none⟩) 64 64, .int .i64 0]) ∧ w' = w.alloc (.cells (nums .u8 (D.blk j)).toArray 125) := by
  subst hij
  exact read_ok j h hr hi
theorem headN_in (b : List Int) (h : Bytes b) : 0 ≤ headN b ∧ headN b ≤ 131072 ∧ (headR b).bytes.length = min (headN b).toNat 47 := by
  unfold headN headR
  split
  · rename_i hh
    have h0 := numAt_lt h (i := 13) (n := 4) (by have := hh.1; omega)
    refine ⟨h0.1, hh.2.2.2.1, ?_⟩
    dsimp only
    rw [part_len (by have := hh.1; unfold headM; omega)]
    rfl
  · simp
theorem hasK_le (n k : Nat) : hasK n k ≤ 50 := Nat.min_le_right _ _
theorem blk_part_len {D : DM} (h : D.wf) {i m : Nat} (hi : i < D.n) (hm : m ≤ 50) : (((D.blk i).drop 14).take m).length = m := part_len (by rw [blk_length h hi]; omega)
theorem bytesK_len {D : DM} (h : D.wf) {b0 n : Nat} (hn : (headR (D.blk b0)).bytes.length = min n 47) : ∀ k, b0 + k < D.n → (bytesK D b0 n k).length = min n (47 + 50 * k)
  | 0, _ => hn
  | k + 1, hk => by
    simp only [bytesK, List.length_append]
    rw [bytesK_len h hn k (by omega), blk_part_len h hk (hasK_le n k)]
    unfold hasK
    omega
theorem bodiesN_lt {n k : Nat} : k < bodiesN n ↔ 47 + 50 * k < n := by unfold bodiesN; omega
theorem need_bodiesN {n : Nat} (h : n ≤ 131072) : need (n : Int) = (bodiesN n : Int) + 1 := by
  unfold need bodiesN
  rw [if_neg (by omega)]
  split <;> omega
theorem readV_in {D : DM} {b a e : Nat} (gen : Int) (hE : readE D b e a = 0) (hae : b + a < e) : readV D b e gen a =
    if headOK (D.blk (b + a)) ∧ (headR (D.blk (b + a))).gen = gen ∧ (headR (D.blk (b + a))).at_ = a ∧ need (headN (D.blk (b + a))) ≤ (e : Int) - b - a ∧
      ((List.range (bodiesN (headN (D.blk (b + a))).toNat)).all (goodK D (b + a) (headN (D.blk (b + a))).toNat gen a)) = true then
      some ⟨gen, a, (headR (D.blk (b + a))).kind, bytesK D (b + a) (headN (D.blk (b + a))).toNat (bodiesN (headN (D.blk (b + a))).toNat)⟩ else none := by
  unfold readV
  rw [show ((b : Int) + (a : Int)).toNat = b + a from by omega]
  have h1 : (a : Int) < (e : Int) - (b : Int) := by omega
  simp only [hE, h1, true_and]
/-- A record's block holds them. -/
structure RdIn (w wr : World) (rb : Nat) (g a kd : Int) (A : Option Addr) (c : Nat) (xs : List Int) : Prop where
  z : wr.heap[w.heap.size]? = some (.cells #[.int .u64 0, .int .i64 0, .int .i64 0, .slice none 0 0] 25 (0, 0))
  r : wr.heap[rb]? = some (.cells #[.int .u64 g, .int .i64 a, .int .i64 kd, .slice A xs.length c] 25 (0, 0))
  row : KB.R 5 wr w.heap.size (fun q => w.heap.size ≤ q) (.slice A xs.length c) xs
  le : xs.length ≤ c
  bel : Below w.heap.size w wr
theorem RdIn.below {w wr w' : World} {rb : Nat} {g a kd : Int} {A : Option Addr} {c : Nat} {xs : List Int} (h : RdIn w wr rb g a kd A c xs) (hb : Below wr.heap.size wr w') : RdIn w w' rb g a kd A c xs :=
  ⟨(hb.block _ (blk_lt h.z)).trans h.z, (hb.block _ (blk_lt h.r)).trans h.r, Kd.R_below h.row hb, h.le, h.bel.trans (hb.mono h.bel.size)⟩
theorem RdIn.end_ {w wr : World} {rb : Nat} {g a kd : Int} {A : Option Addr} {c : Nat} {xs : List Int} (h : RdIn w wr rb g a kd A c xs) (hrb : w.heap.size < rb) {v : Value} (hv : v = .tuple #[.agg #[.int .u64 g, .int .i64 a, .int .i64 kd, .slice A xs.length c], .bool true, .int .i64 0]) :
    ReadPost (some ⟨g, a, kd, xs⟩) 0 w (.returned v) (W4s wr w.heap.size (.int .u64 g) (.int .i64 a) (.int .i64 kd) (.slice A xs.length c)) := by
  refine ⟨A, c, by rw [hv]; rfl, ?_, h.le, below4 h.bel (Nat.le_refl _) _ _ _ _⟩
  refine Kd.R_mono (Kd.R_step (Kd.R_types h.row h.z (by decide)) (fun k hk _ => ?_)) (fun k hk => hk.1)
  unfold W4s
  rw [Below.heap_setCell _ _ _ _ hk.2, Below.heap_setCell _ _ _ _ hk.2, Below.heap_setCell _ _ _ _ hk.2, Below.heap_setCell _ _ _ _ hk.2]
theorem all_range {n : Nat} {f : Nat → Bool} {k : Nat} (hk : k < n) (hf : f k = false) : (List.range n).all f = false := by
  rw [List.all_eq_false]
  exact ⟨k, List.mem_range.2 hk, by rw [hf]; simp⟩
theorem all_range_true {n : Nat} {f : Nat → Bool} (hf : ∀ k, k < n → f k = true) : (List.range n).all f = true := List.all_eq_true.2 (fun k hk => hf k (List.mem_range.1 hk))
def GoodTo (D : DM) (b0 n : Nat) (gen at_ : Int) (k : Nat) : Prop := ∀ i, i < k → goodK D b0 n gen at_ i = true
set_option maxRecDepth 100000 in
set_option maxHeartbeats 4000000 in
theorem read_inD {w : World} {ok : Nat → Prop} {p : Nat} {D : DM} (h : PDisk w ok p D) (b a e : Nat) (gen : Int) (hg : D.gone = false) (he : e ≤ D.n) (hae : b + a < e) :
  Calls Try.prog 29 #[.pointer (some ⟨p, 0, none⟩), .int .i64 (b : Nat), .int .i64 (e : Nat), .int .u64 gen, .int .i64 (a : Nat)] w (ReadPost (readV D b e gen a) 0 w) := by
  have hn := h.1.hi
  have hRE : regE D (b : Int) (e : Int) = 0 := by unfold regE; rw [if_neg (by omega), if_neg (by simp [hg])]
  have hE : readE D b e a = 0 := by unfold readE; rw [if_neg (by omega), hRE]
  have hV := readV_in gen hE hae
  have hB0 : Below w.heap.size w (w.alloc (.cells #[.int .u64 0, .int .i64 0, .int .i64 0, .slice none 0 0] 25)) := below_alloc (Below.refl _ _) _
  have h0 := h.step (w1 := w.alloc (.cells #[.int .u64 0, .int .i64 0, .int .i64 0, .slice none 0 0] 25)) (fun k _ hk => hB0.block k hk)
  have hB := blocks_any h0
  have hR := region_any h0 (b : Int) (e : Int)
  rw [hRE] at hR
  have hX := blk_length h.1 (i := b + a) (by omega)
  have hXb := blk_bytes h.1 (b + a)
  have hrd := fun i hi => read_okI (b + a) i h0 hi (ready_in hg (by omega)) (by omega)
  obtain ⟨hN1, hN2, hN3⟩ := headN_in _ hXb
  have hBL := bytesK_len h.1 hN3
  obtain ⟨n, hNn⟩ := Int.eq_ofNat_of_zero_le hN1
  rw [hNn] at hN2
  have hNt : (headN (D.blk (b + a))).toNat = n := by rw [hNn]; simp
  rw [hNt] at hV hN3 hBL
  rw [hNn] at hV
  have n1 : ¬ (b : Int) < 0 := by omega
  have n2 : ¬ (e : Int) < (b : Int) := by omega
  have n3 : ¬ (D.n : Int) < (e : Int) := by omega
  have n4 : ¬ (a : Int) < 0 := by omega
  have n5 : ¬ (e : Int) - (b : Int) ≤ (a : Int) := by omega
  have hw1 : IntKind.i64.wrap ((e : Int) - (b : Int)) = (e : Int) - (b : Int) := by rw [IntKind.wrap_i64]; omega
  have hw2 : IntKind.i64.wrap ((b : Int) + (a : Int)) = (b : Int) + (a : Int) := by rw [IntKind.wrap_i64]; omega
  have hn131 : n ≤ 131072 := by omega
  have HX := hid hX
  have HBL := hid hBL
  have HB0 := hid hB0
  have hRb : (headR (D.blk (b + a))).bytes = bytesK D (b + a) n 0 := rfl
  have HV := hid hV
  have HNn := hid hNn
  clear hE hRE hX hBL hB0 hV hNt hNn hN1
  generalize hVV : readV D b e gen a = VV at HV ⊢
  clear hVV
  go_enter Try.func29, Try.ntmps29
  go_wp2_with (first | (go_at_call 65; refine hB.mono ?_; rintro e w' ⟨rfl, rfl⟩) | (go_at_call 67; refine hR.mono ?_; rintro e w' ⟨rfl, rfl⟩))
  refine (hrd _ (by omega)).mono ?_
  rintro e0 w1 ⟨rfl, hw1e⟩
  have hz1 : w1.heap[w.heap.size]? = some (.cells #[.int .u64 0, .int .i64 0, .int .i64 0, .slice none 0 0] 25 (0, 0)) := by rw [hw1e, Below.heap_alloc _ _ _ (by simp)]; exact headR_zero
  have hBw1 : Below w.heap.size w w1 := by rw [hw1e]; exact HB0.out.alloc HB0.out.size _
  have hRB : RB w1 (fun k => k = w.heap.size + 1) (some ⟨w.heap.size + 1, 0, none⟩) (D.blk (b + a)) := by
    rw [hw1e]
    have := RB_new (w.alloc (.cells #[.int .u64 0, .int .i64 0, .int .i64 0, .slice none 0 0] 25)) 125 (D.blk (b + a)) (by rw [HX.out]; omega)
    rw [World.size_alloc] at this
    exact this
  clear hrd hw1e hB hR h0
  have hh := head_any (c := 64) hRB hXb (by rw [HX.out]; omega)
  rw [HX.out] at hh
  go_wp2_with fail
  refine hh.mono ?_
  rintro e0 w2 ⟨A, c, rfl, hR2, hle, hB2⟩
  clear hh hRB
  rw [HNn.out]
  unfold recV
  obtain ⟨R, hRR⟩ : ∃ R, headR (D.blk (b + a)) = R := ⟨_, rfl⟩
  rw [hRR] at hR2 hle hN3 ⊢
  have HV2 := HV.out
  rw [hRR] at HV2
  have HV3 := hid HV2
  have HRb : Hid (R.bytes = bytesK D (b + a) n 0) := hid (by rw [← hRb, hRR])
  clear HV2 HV hRR hRb HX
  obtain ⟨rg, ra, rk, rb⟩ := R
  dsimp only at hR2 hle hN3 HV3 HRb ⊢
  have HN3 := hid hN3
  clear hN3
  obtain ⟨ib, hib⟩ : ∃ ib, decide (headOK (D.blk (b + a))) = ib := ⟨_, rfl⟩
  rw [hib]
  have HIB := hid hib
  clear hib
  have hz2 := (hB2.block _ (blk_lt hz1)).trans hz1
  have hBw2 : Below w.heap.size w w2 := hBw1.trans (hB2.mono hBw1.size)
  have hRd0 : RdIn w (w2.alloc (.cells #[.int .u64 rg, .int .i64 ra, .int .i64 rk, .slice A rb.length c] 25)) w2.heap.size rg ra rk A c rb :=
    ⟨(Below.heap_alloc w2 _ _ (blk_lt hz2)).trans hz2, heap_alloc_new w2 _, Kd.R_alloc (Kd.R_lower (Kd.R_mono hR2 (fun k hk => by have := hBw1.size; omega)) hBw1.size) _, hle, below_alloc hBw2 _⟩
  have hrbn : w.heap.size < w2.heap.size := blk_lt hz2
  go_upto_region 12 with (fail)
  clear hB2 hBw2 hz2 hz1 hR2
  generalize w2.alloc (.cells #[.int .u64 rg, .int .i64 ra, .int .i64 rk, .slice A rb.length c] 25) = w3 at hRd0 ⊢
  generalize w2.heap.size = rx at hRd0 hrbn ⊢
  have hz := hRd0.z
  have hbel := hRd0.bel
  have z0 := cell_of_row _ _ 0 _ _ _ hz
  have z1 := cell_of_row _ _ 1 _ _ _ hz
  have z2 := cell_of_row _ _ 2 _ _ _ hz
  have z3 := cell_of_row _ _ 3 _ _ _ hz
  have f0 := frozen_of_row _ _ 0 _ _ hz
  have f1 := frozen_of_row _ _ 1 _ _ hz
  have f2 := frozen_of_row _ _ 2 _ _ hz
  have f3 := frozen_of_row _ _ 3 _ _ hz
  have q0 := cell_of_row _ _ 0 _ _ _ hRd0.r
  have q1 := cell_of_row _ _ 1 _ _ _ hRd0.r
  have q2 := cell_of_row _ _ 2 _ _ _ hRd0.r
  have q3 := cell_of_row _ _ 3 _ _ _ hRd0.r
  simp at z0 z1 z2 z3 q0 q1 q2 q3
  cases ib with
  | false =>
    have hno : VV = none := by rw [HV3.out, if_neg]; rintro ⟨hh, _⟩; have := HIB.out; rw [decide_eq_true hh] at this; cases this
    clear HV3 hRd0
    subst hno
    go_wp2
    (refine bodyPost_ret (results_ctt rfl _ _ w.heap.size 25 _ _ _ rfl (set4 hz (.int .u64 0) (.int .i64 0) (.int .i64 0) (.slice none 0 0)) Try.underlying25 rfl (by kernel_rfl)) rfl ?_; exact readpost_none rfl (below4 hbel (Nat.le_refl _) _ _ _ _))
  | true =>
    have hOK : headOK (D.blk (b + a)) := of_decide_eq_true HIB.out
    clear HIB
    by_cases t1 : rg = gen
    case neg =>
      have hno : VV = none := by rw [HV3.out, if_neg]; rintro ⟨_, hh, _⟩; exact t1 hh
      have t1a : (rg == gen) = false := by simpa using t1
      have t1b : (rg != gen) = true := by simpa using t1
      clear HV3 hRd0 hOK
      subst hno
      go_wp2
      (refine bodyPost_ret (results_ctt rfl _ _ w.heap.size 25 _ _ _ rfl (set4 hz (.int .u64 0) (.int .i64 0) (.int .i64 0) (.slice none 0 0)) Try.underlying25 rfl (by kernel_rfl)) rfl ?_; exact readpost_none rfl (below4 hbel (Nat.le_refl _) _ _ _ _))
    subst t1
    by_cases t2 : ra = (a : Int)
    case neg =>
      have hno : VV = none := by rw [HV3.out, if_neg]; rintro ⟨_, _, hh, _⟩; exact t2 hh
      have t2a : (ra == (a : Int)) = false := by simpa using t2
      have t2b : (ra != (a : Int)) = true := by simpa using t2
      clear HV3 hRd0 hOK
      subst hno
      go_wp2
      (refine bodyPost_ret (results_ctt rfl _ _ w.heap.size 25 _ _ _ rfl (set4 hz (.int .u64 0) (.int .i64 0) (.int .i64 0) (.slice none 0 0)) Try.underlying25 rfl (by kernel_rfl)) rfl ?_; exact readpost_none rfl (below4 hbel (Nat.le_refl _) _ _ _ _))
    subst t2
    have hw3 : IntKind.i64.wrap ((e : Int) - (b : Int) - (a : Int)) = (e : Int) - (b : Int) - (a : Int) := by rw [IntKind.wrap_i64]; omega
    have hnd := fun W => need_any (w := W) (n : Int) (by omega)
    rw [need_bodiesN hn131] at hnd HV3
    by_cases t3 : (e : Int) - (b : Int) - (a : Int) < (bodiesN n : Int) + 1
    · have hno : VV = none := by rw [HV3.out, if_neg]; rintro ⟨_, _, _, hh, _⟩; omega
      clear HV3 hRd0 hOK
      subst hno
      go_wp2_with (go_at_call 26; refine (hnd _).mono ?_; rintro e0 w' ⟨rfl, rfl⟩)
      (refine bodyPost_ret (results_ctt rfl _ _ w.heap.size 25 _ _ _ rfl (set4 hz (.int .u64 0) (.int .i64 0) (.int .i64 0) (.slice none 0 0)) Try.underlying25 rfl (by kernel_rfl)) rfl ?_; exact readpost_none rfl (below4 hbel (Nat.le_refl _) _ _ _ _))
    have hbn : b + a + (bodiesN n + 1) ≤ e := by omega
    have hRd1 : RdIn w w3 rx rg a rk A c (bytesK D (b + a) n 0) := by rw [← HRb.out]; exact hRd0
    have HV : Hid (VV = if (List.range (bodiesN n)).all (goodK D (b + a) n rg a) = true then some ⟨rg, a, rk, bytesK D (b + a) n (bodiesN n)⟩ else none) := hid (by
      rw [HV3.out]
      by_cases hq : (List.range (bodiesN n)).all (goodK D (b + a) n rg a) = true
      · rw [if_pos hq, if_pos ⟨hOK, rfl, rfl, by omega, hq⟩]
      · rw [if_neg hq, if_neg (fun hh => hq hh.2.2.2.2)])
    clear HV3 hRd0 HRb HN3 hOK z0 z1 z2 z3 f0 f1 f2 f3 q3 hz hbel hle
    go_wp2_with (go_at_call 26; refine (hnd _).mono ?_; rintro e0 w' ⟨rfl, rfl⟩)
    clear q0 q1 q2 hnd
    have hbN : bodiesN n ≤ 4096 := by omega
    go_loopw [19] (fun kk wr => ∃ (k : Nat) (A1 : Option Addr) (c1 : Nat), k ≤ bodiesN n ∧ kk = .int .i64 ((k : Int) + 1) ∧ RdIn w wr rx rg a rk A1 c1 (bytesK D (b + a) n k) ∧ GoodTo D (b + a) n rg a k) (fun kk _ => bodiesN n + 1 - (intOf kk).toNat)
    case atStart => exact ⟨0, A, c, Nat.zero_le _, rfl, hRd1, fun i hi => absurd hi (by omega)⟩
    case round =>
      obtain ⟨k, A1, c1, hk, rfl, hI, hgood⟩ := hrel
      clear hRd1
      have hxl := HBL.out k (by omega)
      obtain ⟨xs, hxs⟩ : ∃ xs, bytesK D (b + a) n k = xs := ⟨_, rfl⟩
      rw [hxs] at hI hxl
      have HXS := hid hxs
      clear hxs
      have q3 := cell_of_row _ _ 3 _ _ _ hI.r
      simp at q3
      by_cases hlt : k < bodiesN n
      · have h47 := bodiesN_lt.1 hlt
        have hlen : xs.length < n := by omega
        have HXL := hid hxl
        clear hxl
        have hPD := h.step (w1 := wr) (fun j _ hj => hI.bel.block j hj)
        have hrd := fun i hi => read_okI (b + a + (k + 1)) i hPD hi (ready_in hg (by omega)) (by omega)
        have hX := blk_length h.1 (i := b + a + (k + 1)) (by omega)
        have hXb2 := blk_bytes h.1 (b + a + (k + 1))
        have HX := hid hX
        clear hX
        have hw4 : IntKind.i64.wrap ((b : Int) + (a : Int) + ((k : Int) + 1)) = (b : Int) + (a : Int) + ((k : Int) + 1) := by rw [IntKind.wrap_i64]; omega
        go_wp2_with fail
        refine (hrd _ (by omega)).mono ?_
        rintro e0 w4 ⟨rfl, hw4e⟩
        have hRB : RB w4 (fun q => q = wr.heap.size) (some ⟨wr.heap.size, 0, none⟩) (D.blk (b + a + (k + 1))) := by rw [hw4e]; exact RB_new _ _ _ (by rw [HX.out]; omega)
        have hI4 := hI.below (w' := w4) (by rw [hw4e]; exact below_alloc (Below.refl _ _) _)
        clear hw4e hrd hPD hI
        have hbd := body_any (c := 64) hRB hXb2 (by rw [HX.out]; omega)
        rw [HX.out] at hbd
        obtain ⟨V, hVe⟩ : ∃ V, bodyV (D.blk (b + a + (k + 1))) = V := ⟨_, rfl⟩
        have hgk : goodK D (b + a) n rg a k = (decide (V = (rg, (a : Int), ((k + 1 : Nat) : Int), true)) && blank ((D.blk (b + a + (k + 1))).drop (14 + hasK n k))) := by unfold goodK; rw [hVe]
        rw [hVe] at hbd
        clear hVe
        obtain ⟨vg, va, vk, vi⟩ := V
        unfold bodyT at hbd
        dsimp only at hbd
        have hm50 := hasK_le n k
        have hmx : hasK n k = min (n - xs.length) 50 := by unfold hasK; rw [show xs.length = 47 + 50 * k from by have := HXL.out; omega]
        have HBAD : Hid (goodK D (b + a) n rg a k = false → VV = none) := hid (fun hf => by rw [HV.out, all_range hlt hf]; rfl)
        have hpartl := part_len (b := D.blk (b + a + (k + 1))) (i := 14) (n := hasK n k) (by rw [HX.out]; omega)
        have hnext : xs ++ ((D.blk (b + a + (k + 1))).drop 14).take (hasK n k) = bytesK D (b + a) n (k + 1) := by rw [← HXS.out]; rfl
        have HNX := hid hnext
        have HPL := hid hpartl
        have HMX := hid hmx
        clear hnext hpartl hmx
        generalize hasK n k = m at hgk hm50 HNX HPL HMX
        have HGK := hid hgk
        clear hgk
        go_wp2_with fail
        refine hbd.mono ?_
        rintro e0 w5 ⟨rfl, hB5⟩
        clear hbd
        have hI5 := hI4.below hB5
        have hRB5 := RB_below hRB hB5
        clear hI4 q3
        have hz := hI5.z
        have hbel := hI5.bel
        have z0 := cell_of_row _ _ 0 _ _ _ hz
        have z1 := cell_of_row _ _ 1 _ _ _ hz
        have z2 := cell_of_row _ _ 2 _ _ _ hz
        have z3 := cell_of_row _ _ 3 _ _ _ hz
        have f0 := frozen_of_row _ _ 0 _ _ hz
        have f1 := frozen_of_row _ _ 1 _ _ hz
        have f2 := frozen_of_row _ _ 2 _ _ hz
        have f3 := frozen_of_row _ _ 3 _ _ hz
        have q3 := cell_of_row _ _ 3 _ _ _ hI5.r
        have qf3 := frozen_of_row _ _ 3 _ _ hI5.r
        simp at z0 z1 z2 z3 q3
        have hmin : Builtin.min2 (.int .i64 ((n : Int) - (xs.length : Int))) (.int .i64 50) = pure (.int .i64 (m : Int)) := by
          have hmm := HMX.out
          rw [min2_int]
          congr 2
          split <;> omega
        cases vi with
        | false =>
          have hno : VV = none := HBAD.out (by rw [HGK.out, decide_eq_false (by simp)]; rfl)
          clear HBAD HGK HV hI5
          subst hno
          go_wp2
          (refine bodyPost_ret (results_ctt rfl _ _ w.heap.size 25 _ _ _ rfl (set4 hz (.int .u64 0) (.int .i64 0) (.int .i64 0) (.slice none 0 0)) Try.underlying25 rfl (by kernel_rfl)) rfl ?_; exact readpost_none rfl (below4 hbel (Nat.le_refl _) _ _ _ _))
        | true =>
          by_cases t1 : vg = rg
          case neg =>
            have hno : VV = none := HBAD.out (by rw [HGK.out, decide_eq_false (by simp [t1])]; rfl)
            have t1a : (vg == rg) = false := by simpa using t1
            have t1b : (vg != rg) = true := by simpa using t1
            clear HBAD HGK HV hI5
            subst hno
            go_wp2
            (refine bodyPost_ret (results_ctt rfl _ _ w.heap.size 25 _ _ _ rfl (set4 hz (.int .u64 0) (.int .i64 0) (.int .i64 0) (.slice none 0 0)) Try.underlying25 rfl (by kernel_rfl)) rfl ?_; exact readpost_none rfl (below4 hbel (Nat.le_refl _) _ _ _ _))
          subst t1
          by_cases t2 : va = (a : Int)
          case neg =>
            have hno : VV = none := HBAD.out (by rw [HGK.out, decide_eq_false (by simp [t2])]; rfl)
            have t2a : (va == (a : Int)) = false := by simpa using t2
            have t2b : (va != (a : Int)) = true := by simpa using t2
            clear HBAD HGK HV hI5
            subst hno
            go_wp2
            (refine bodyPost_ret (results_ctt rfl _ _ w.heap.size 25 _ _ _ rfl (set4 hz (.int .u64 0) (.int .i64 0) (.int .i64 0) (.slice none 0 0)) Try.underlying25 rfl (by kernel_rfl)) rfl ?_; exact readpost_none rfl (below4 hbel (Nat.le_refl _) _ _ _ _))
          subst t2
          by_cases t3 : vk = (k : Int) + 1
          case neg =>
            have hno : VV = none := HBAD.out (by rw [HGK.out, decide_eq_false (by simp; omega)]; rfl)
            have t3a : (vk == (k : Int) + 1) = false := by simpa using t3
            have t3b : (vk != (k : Int) + 1) = true := by simpa using t3
            clear HBAD HGK HV hI5
            subst hno
            go_wp2
            (refine bodyPost_ret (results_ctt rfl _ _ w.heap.size 25 _ _ _ rfl (set4 hz (.int .u64 0) (.int .i64 0) (.int .i64 0) (.slice none 0 0)) Try.underlying25 rfl (by kernel_rfl)) rfl ?_; exact readpost_none rfl (below4 hbel (Nat.le_refl _) _ _ _ _))
          subst t3
          have hbl := blank_tail (a := ⟨wr.heap.size, 0, none⟩) (m := 14 + m) hRB hB5 HX.out (by omega) (Nat.le_refl 64)
          have htn : (14 + (m : Int)).toNat = 14 + m := by omega
          have him : (14 : Int) + (m : Int) ≤ 64 := by omega
          have h14 : (14 : Int) ≤ 14 + (m : Int) := by omega
          have h014 : (0 : Int) ≤ 14 + (m : Int) := by omega
          have hwm : IntKind.i64.wrap (14 + (m : Int)) = 14 + (m : Int) := by rw [IntKind.wrap_i64]; omega
          obtain ⟨bl, hblE⟩ : ∃ bl, blank ((D.blk (b + a + (k + 1))).drop (14 + m)) = bl := ⟨_, rfl⟩
          rw [hblE] at hbl
          have HBK := hid hblE
          clear hblE
          have BL : ∀ (V : Value), V = .slice (behind (some ⟨wr.heap.size, 0, none⟩) (14 + m) 64) (64 - (14 + m)) (64 - (14 + m)) → Calls Try.prog 60 #[V] w5 fun e w' => e = .returned (.bool bl) ∧ w' = w5 := fun V e => by rw [e]; exact hbl
          clear hbl
          by_cases hcm : 64 = 14 + m
          · obtain rfl : m = 50 := by omega
            clear hwm h14 h014 him htn hcm
            go_wp2_with fail
            refine (BL _ ?_).mono ?_
            · unfold behind
              rw [if_pos rfl]
            rintro e0 w6 ⟨rfl, rfl⟩
            clear BL
            cases bl with
            | false =>
              have hno : VV = none := HBAD.out (by rw [HGK.out, HBK.out]; simp)
              clear HBAD HGK HV hI5
              subst hno
              go_wp2
              (refine bodyPost_ret (results_ctt rfl _ _ w.heap.size 25 _ _ _ rfl (set4 hz (.int .u64 0) (.int .i64 0) (.int .i64 0) (.slice none 0 0)) Try.underlying25 rfl (by kernel_rfl)) rfl ?_; exact readpost_none rfl (below4 hbel (Nat.le_refl _) _ _ _ _))
            | true =>
              have hRow := hI5.row
              have hpart := part (i := 14) (n := 50) hRB5 (by rw [HX.out]; omega)
              have hRm : ReadsInt w6.drew .u8 (some (Addr.add ⟨wr.heap.size, 0, none⟩ 14)) 50 (((D.blk (b + a + (k + 1))).drop 14).take 50) := by
                have := RB_int (RB_drew hpart)
                rwa [HPL.out] at this
              have hgood1 : GoodTo D (b + a) n vg a (k + 1) := fun i hi => by
                rcases Nat.lt_or_ge i k with h1 | h1
                · exact hgood i h1
                · obtain rfl : i = k := by omega
                  rw [HGK.out, HBK.out]
                  simp
              have HG1 := hid hgood1
              clear hgood1 hgood HGK HBAD HBK
              have hne : some rx ≠ (Value.slice A1 xs.length c1).ownBlock := Kd.R_ne hRow hI5.r (by decide)
              have hnz : some w.heap.size ≠ (Value.slice A1 xs.length c1).ownBlock := Kd.R_ne hRow hI5.z (by decide)
              go_wp2_with fail
              refine wp_region_plan [7, 8] (.take 0 (.take 1 (.take 2 (.take 3 (.take 4 (.take 5 (.run 6 (.tail 7 (.tail 8 .done))))))))) (fun W' => W'.cell? ⟨rx, 3, none⟩ = some (.slice A1 xs.length c1)) (by kernel_rfl) (by kernel_rfl) (fun c a d v w h => by cases d <;> exact h) q3 ?_
              iterate 6 (apply plan_take rfl rfl; (case hy => (intro w' hS; go_simp; try exact rfl)); go_simp)
              refine plan_run_on rfl rfl (fun K hK => ?_)
              refine step_append_row (w0 := w) w.heap.size (.tmp 158) (.tmp 162) 22 5 .u8 1 rfl Try.underlying22 info_u8 (by decide) _ xs (((D.blk (b + a + (k + 1))).drop 14).take 50) (some (Addr.add ⟨wr.heap.size, 0, none⟩ 14)) 50 50 rfl rfl (R_own1 (Kd.R_drew hRow)) hRm hI5.bel.drew hI5.bel.drew.size (by omega) ?_
              intro v1 w7 ho hB6 hg6 hat
              have hR6 : KB.R 5 w7 w.heap.size (fun q => w.heap.size ≤ q) v1 (xs ++ ((D.blk (b + a + (k + 1))).drop 14).take 50) := Rown ho (fun q hq => own_base ho q hq)
              rw [HNX.out] at hR6
              obtain ⟨A6, c6, rfl, hle6, _⟩ := Kd.R_reads hR6
              have hr6 := (hg6.block rx (blk_lt hI5.r) (fun e => hne e)).trans hI5.r
              have hz6 := (hg6.block w.heap.size (blk_lt hI5.z) (fun e => hnz e)).trans hI5.z
              clear ho hg6 hat hRm hpart hne hnz hRow hRB5 hRB
              have p3 := cell_of_row _ _ 3 _ _ _ hr6
              have pf3 := frozen_of_row _ _ 3 _ _ hr6
              simp at p3
              refine hK _ _ _ (fun _ h => h) p3 ?_
              clear hK K
              go_simp
              refine plan_tail_on rfl rfl (fun K hK => ?_)
              go_simp
              refine hK _ _ ?_
              clear hK K
              refine plan_tail_on rfl rfl (fun K hK => ?_)
              go_simp
              refine hK _ _ (plan_done ?_)
              clear hK K
              have hI7 : RdIn w (w7.setCell ⟨rx, 3, none⟩ (.slice A6 (bytesK D (b + a) n (k + 1)).length c6)) rx vg a rk A6 c6 (bytesK D (b + a) n (k + 1)) :=
                ⟨(Below.heap_setCell w7 ⟨rx, 3, none⟩ _ w.heap.size (by show w.heap.size ≠ rx; omega)).trans hz6, heap_setCell_same w7 rx 3 _ _ _ hr6, Kd.R_set hR6 hr6 (by decide) 3 _, hle6, hB6.setCell (p := ⟨rx, 3, none⟩) (by show w.heap.size ≤ rx; omega) _⟩
              have HI7 := hid hI7
              clear hI7 hR6 hr6 hz6 hle6 p3 pf3 q3 qf3 z0 z1 z2 z3 f0 f1 f2 f3 hz hbel hI5 hmin
              go_wp2
              go_roundw
              case rel => exact ⟨k + 1, A6, c6, by omega, by go_num, HI7.out, HG1.out⟩
              case measure => simp [intOf]; omega
          · go_wp2_with fail
            refine (BL _ ?_).mono ?_
            · unfold behind
              rw [if_neg hcm]
              simp [Addr.add]
            rintro e0 w6 ⟨rfl, rfl⟩
            clear BL
            cases bl with
            | false =>
              have hno : VV = none := HBAD.out (by rw [HGK.out, HBK.out]; simp)
              clear HBAD HGK HV hI5
              subst hno
              go_wp2
              (refine bodyPost_ret (results_ctt rfl _ _ w.heap.size 25 _ _ _ rfl (set4 hz (.int .u64 0) (.int .i64 0) (.int .i64 0) (.slice none 0 0)) Try.underlying25 rfl (by kernel_rfl)) rfl ?_; exact readpost_none rfl (below4 hbel (Nat.le_refl _) _ _ _ _))
            | true =>
              have hRow := hI5.row
              have hpart := part (i := 14) (n := m) hRB5 (by rw [HX.out]; omega)
              have hRm : ReadsInt w6.drew .u8 (some (Addr.add ⟨wr.heap.size, 0, none⟩ 14)) m (((D.blk (b + a + (k + 1))).drop 14).take m) := by
                have := RB_int (RB_drew hpart)
                rwa [HPL.out] at this
              have hgood1 : GoodTo D (b + a) n vg a (k + 1) := fun i hi => by
                rcases Nat.lt_or_ge i k with h1 | h1
                · exact hgood i h1
                · obtain rfl : i = k := by omega
                  rw [HGK.out, HBK.out]
                  simp
              have HG1 := hid hgood1
              clear hgood1 hgood HGK HBAD HBK
              have hne : some rx ≠ (Value.slice A1 xs.length c1).ownBlock := Kd.R_ne hRow hI5.r (by decide)
              have hnz : some w.heap.size ≠ (Value.slice A1 xs.length c1).ownBlock := Kd.R_ne hRow hI5.z (by decide)
              go_wp2_with fail
              refine wp_region_plan [7, 8] (.take 0 (.take 1 (.take 2 (.take 3 (.take 4 (.take 5 (.run 6 (.tail 7 (.tail 8 .done))))))))) (fun W' => W'.cell? ⟨rx, 3, none⟩ = some (.slice A1 xs.length c1)) (by kernel_rfl) (by kernel_rfl) (fun c a d v w h => by cases d <;> exact h) q3 ?_
              have hwm2 : IntKind.i64.wrap (14 + (m : Int)) = 14 + (m : Int) := by rw [IntKind.wrap_i64]; omega
              have h142 : (14 : Int) ≤ 14 + (m : Int) := by omega
              have h0142 : (0 : Int) ≤ 14 + (m : Int) := by omega
              have htn2 : (14 + (m : Int)).toNat = 14 + m := by omega
              iterate 6 (apply plan_take rfl rfl; (case hy => (intro w' hS; go_simp; try exact rfl)); go_simp)
              refine plan_run_on rfl rfl (fun K hK => ?_)
              refine step_append_row (w0 := w) w.heap.size (.tmp 158) (.tmp 162) 22 5 .u8 1 rfl Try.underlying22 info_u8 (by decide) _ xs (((D.blk (b + a + (k + 1))).drop 14).take m) (some (Addr.add ⟨wr.heap.size, 0, none⟩ 14)) m 50 rfl rfl (R_own1 (Kd.R_drew hRow)) hRm hI5.bel.drew hI5.bel.drew.size (by omega) ?_
              intro v1 w7 ho hB6 hg6 hat
              have hR6 : KB.R 5 w7 w.heap.size (fun q => w.heap.size ≤ q) v1 (xs ++ ((D.blk (b + a + (k + 1))).drop 14).take m) := Rown ho (fun q hq => own_base ho q hq)
              rw [HNX.out] at hR6
              obtain ⟨A6, c6, rfl, hle6, _⟩ := Kd.R_reads hR6
              have hr6 := (hg6.block rx (blk_lt hI5.r) (fun e => hne e)).trans hI5.r
              have hz6 := (hg6.block w.heap.size (blk_lt hI5.z) (fun e => hnz e)).trans hI5.z
              clear ho hg6 hat hRm hpart hne hnz hRow hRB5 hRB
              have p3 := cell_of_row _ _ 3 _ _ _ hr6
              have pf3 := frozen_of_row _ _ 3 _ _ hr6
              simp at p3
              refine hK _ _ _ (fun _ h => h) p3 ?_
              clear hK K
              go_simp
              refine plan_tail_on rfl rfl (fun K hK => ?_)
              go_simp
              refine hK _ _ ?_
              clear hK K
              refine plan_tail_on rfl rfl (fun K hK => ?_)
              go_simp
              refine hK _ _ (plan_done ?_)
              clear hK K
              have hI7 : RdIn w (w7.setCell ⟨rx, 3, none⟩ (.slice A6 (bytesK D (b + a) n (k + 1)).length c6)) rx vg a rk A6 c6 (bytesK D (b + a) n (k + 1)) :=
                ⟨(Below.heap_setCell w7 ⟨rx, 3, none⟩ _ w.heap.size (by show w.heap.size ≠ rx; omega)).trans hz6, heap_setCell_same w7 rx 3 _ _ _ hr6, Kd.R_set hR6 hr6 (by decide) 3 _, hle6, hB6.setCell (p := ⟨rx, 3, none⟩) (by show w.heap.size ≤ rx; omega) _⟩
              have HI7 := hid hI7
              clear hI7 hR6 hr6 hz6 hle6 p3 pf3 q3 qf3 z0 z1 z2 z3 f0 f1 f2 f3 hz hbel hI5 hmin
              go_wp2
              go_roundw
              case rel => exact ⟨k + 1, A6, c6, by omega, by go_num, HI7.out, HG1.out⟩
              case measure => simp [intOf]; omega
      · obtain rfl : k = bodiesN n := by omega
        have hge : n ≤ xs.length := by have := bodiesN_lt (n := n) (k := bodiesN n); omega
        have hge2 : ¬ xs.length < n := by omega
        have HXL := hid hxl
        have hyes : VV = some ⟨rg, a, rk, xs⟩ := by
          rw [HV.out, if_pos (all_range_true (fun i hi => hgood i hi)), HXS.out]
        have hz := hI.z
        have z0 := cell_of_row _ _ 0 _ _ _ hz
        have z1 := cell_of_row _ _ 1 _ _ _ hz
        have z2 := cell_of_row _ _ 2 _ _ _ hz
        have z3 := cell_of_row _ _ 3 _ _ _ hz
        have f0 := frozen_of_row _ _ 0 _ _ hz
        have f1 := frozen_of_row _ _ 1 _ _ hz
        have f2 := frozen_of_row _ _ 2 _ _ hz
        have f3 := frozen_of_row _ _ 3 _ _ hz
        have q0 := cell_of_row _ _ 0 _ _ _ hI.r
        have q1 := cell_of_row _ _ 1 _ _ _ hI.r
        have q2 := cell_of_row _ _ 2 _ _ _ hI.r
        simp at z0 z1 z2 z3 q0 q1 q2
        have HI := hid hI
        clear hxl HV hgood hI
        subst hyes
        go_wp2
        refine bodyPost_ret (results_ctt rfl _ _ w.heap.size 25 _ _ _ rfl (set4 hz (.int .u64 rg) (.int .i64 a) (.int .i64 rk) (.slice A1 xs.length c1)) Try.underlying25 rfl (by kernel_rfl)) rfl ?_
        exact HI.out.end_ hrbn rfl
end Go.Proofs.Ytekhmkfiepnnkaa

namespace Go.Proofs.Ytekhmkfiepnnkaa.KCarveA
open Go.RowKit Go.Proofs.YtekhmkfiepnnkaaW.PrintWords Go.Proofs.YtekhmkfiepnnkaaW.PrintLast Go.Proofs.YtekhmkfiepnnkaaW.PrintMore
attribute [local go_sem] max2_int min2_int max_two min_two max_three min_three max_four min_four   -- for this text's walks alone
set_option linter.unusedVariables false
set_option linter.unusedSimpArgs false




theorem info5 : (Try.prog.info? 5).map (fun i => (i.zero, i.size, i.bytes)) = some (some (.int .u8 0), 1, 1) := by kernel_rfl
theorem info22 : (Try.prog.info? 22).map (fun i => (i.zero, i.size, i.bytes)) = some (some (.slice none 0 0), 1, 24) := by kernel_rfl
def foundryref22_number.l0 : Nat → Int → List Int → Int → Option (List Int)
  | 0, _, _, _ => none
  | k + 1, x0, x5, x6 => if x6 ≥ 0 then (if 0 ≤ (IntKind.u64.wrap (x6)) then (if x5.length < 140737488355328 then (foundryref22_number.l0 k x0 (x5 ++ [(shr .u64 x0 (IntKind.u64.wrap (x6))) % 256]) (wrap64 (x6 - 8))) else (none)) else (none)) else (some x5)
def foundryref22_number.f (k : Nat) (a0 : Int) (a1 : Int) : Option (List Int) := foundryref22_number.l0 k a0 ([] : List Int) (wrap64 ((wrap64 (8 * a1)) - 8))
set_option maxHeartbeats 8000000 in
set_option maxRecDepth 100000 in
theorem foundryref22_number.calls (k : Nat) (a0 : Int) (a1 : Int) (r : List Int) (w : World) (h : foundryref22_number.f k a0 a1 = some r) :
    Calls Try.prog 68 #[.int .u64 a0, .int .i64 a1] w fun e w' => ∃ v0_ : Value, e = .returned (v0_) ∧ Kd.R (Kd.int .u8) 5 w' w.heap.size (fun _ => True) v0_ r ∧ Below w.heap.size w w' := by
  have HB := Aside0.mk (Below.refl w.heap.size w)
  have H : (foundryref22_number.l0 k a0 ([] : List Int) (wrap64 ((wrap64 (8 * a1)) - 8))) = some r := h
  clear h
  have H' := Aside0.mk H
  clear H
  go_enter Try.func68, Try.ntmps68
  go_wp2
  go_loopg [5, 6] k (fun kq v5 v6 w' => ∃ (x5_1 : List Int) (x6_1 : Int), v6 = .int .i64 x6_1 ∧ Aside0 (foundryref22_number.l0 kq a0 x5_1 x6_1 = some r) ∧ Aside0 (kq ≤ k) ∧ Aside0 (Kd.R (Kd.int .u8) 5 w' w.heap.size (fun _ => True) v5 x5_1) ∧ Aside0 (Below w.heap.size w w'))
  case atStart => exact ⟨(([] : List Int)), (wrap64 ((wrap64 (8 * a1)) - 8)), (by first | rfl | (simp; done) | (simp [*]; done)), H', ⟨Nat.le_refl _⟩, ⟨by first | exact Kd.R_nil _ _ _ _ _ | exact Kd.N_nil _ _ _ _ _ | exact Kd.V_nil _ _ _ _ _ | exact Kd.Q_nil _ _ _ _ _ | exact Kd.S_nil _ _ _ _ _⟩, ⟨by repeat (first | (with_reducible first | exact HB.out | apply below_alloc | apply pw_below_drewN | apply below_drew1) | exact HB.out)⟩⟩
  case round =>
    clear H'
    try clear p2
    obtain ⟨x5_1, x6_1, rfl, HA, HK1, HO_5, HB⟩ := hrel
    cases gk with
    | zero => exact absurd HA.out (by simp [foundryref22_number.l0])
    | succ k1 =>
      have H := HA.out
      clear HA
      simp only [foundryref22_number.l0] at H
      by_cases c3 : x6_1 ≥ 0
      · rw [if_pos c3] at H
        have c3b0 : decide (0 ≤ x6_1) = true := decide_eq_true c3
        clear c3
        obtain ⟨ji4, hji4⟩ : ∃ j_ : Int, (IntKind.u64.wrap (x6_1)) = j_ := ⟨_, rfl⟩
        replace H : (if 0 ≤ (ji4) then (if x5_1.length < 140737488355328 then (foundryref22_number.l0 k1 a0 (x5_1 ++ [(shr .u64 a0 (ji4)) % 256]) (wrap64 (x6_1 - 8))) else (none)) else (none)) = some r := by first | (rw [hji4] at H; exact H) | (simp only [hji4] at H ⊢; exact H)
        by_cases c5 : 0 ≤ (ji4)
        · rw [if_pos c5] at H
          have c5b0 := eq_true c5
          have c5b1 : decide (0 ≤ (ji4)) = true := decide_eq_true c5
          clear c5
          obtain ⟨ji6, hji6⟩ : ∃ j_ : Int, (shr .u64 a0 (ji4)) = j_ := ⟨_, rfl⟩
          replace H : (if x5_1.length < 140737488355328 then (foundryref22_number.l0 k1 a0 (x5_1 ++ [(ji6) % 256]) (wrap64 (x6_1 - 8))) else (none)) = some r := by first | (rw [hji6] at H; exact H) | (simp only [hji6] at H ⊢; exact H)
          have hji6_ : (a0 / 2 ^ min (ji4).toNat 64) = ji6 := hji6
          have hji6z : (ji4) ≤ 64 → (a0 / 2 ^ (ji4).toNat) = ji6 := shr_small hji6
          by_cases c7 : x5_1.length < 140737488355328
          · rw [if_pos c7] at H
            have LMc7 := Aside0.mk c7
            clear c7
            obtain ⟨y139, hy139⟩ : ∃ y_ : List Int, y_ = (x5_1 ++ [(ji6) % 256]) := ⟨_, rfl⟩
            replace H : (foundryref22_number.l0 k1 a0 y139 (wrap64 (x6_1 - 8))) = some r := by first | (rw [hy139]; with_reducible exact H) | (have H2_ := (Option.bind_some _ _).symm.trans H; rw [hy139]; with_reducible exact H2_) | (have H2_ := (Option.bind_some _ _).symm.trans H; with_reducible exact H2_) | with_reducible exact H | (rw [hy139]; exact H) | exact H
            have Ny139 := Aside0.mk hy139
            clear hy139
            have H' := Aside0.mk H
            clear H
            go_wp2_with (first | ((with_reducible refine gate_builtin (b := .append) (xs := #[.tmp 14, .tmp 20]) rfl ?_); at_builtin; refine Kd.R_append (Kd.int .u8) (w0 := w) w.heap.size rfl (.tmp 14) (.tmp 20) 22 5 (.int .u8 0) 1 rfl Try.underlying22 info5 rfl (by decide) (by omega) u5 x5_1 ((ji6) % 256) [.int .u8 ((ji6) % 256)] (fun _ => True) (fun _ => False) rfl rfl ?aP (fun _ hk => hk.elim) ?aF ?aO ?aB ?aS ?aL ?_; (case aP => exact rfl); (case aB => exact (by repeat (first | (with_reducible first | exact HB.out | apply below_alloc | apply pw_below_drewN | apply below_drew1) | exact HB.out))); (case aF => exact (fun _ _ => trivial)); (case aO => exact (by (with_reducible repeat (first | apply Kd.R_alloc | apply Kd.R_drewN | apply Kd.R_drew)); exact HO_5.out)); (case aS => exact (below_size (by repeat (first | (with_reducible first | exact HB.out | apply below_alloc | apply pw_below_drewN | apply below_drew1) | exact HB.out)))); (case aL => have := LMc7.out; omega); intro v140 w8 ho hb hg hat; rw [← Ny139.out] at ho; have n0_ := Aside0.mk (hb); have n1_ := Aside0.mk (ho); clear HB; clear HO_5; have HB := n0_; have HO141 := n1_; clear n0_ n1_; clear ho hb hg hat))
            go_roundg k1
            case measure => have := HK1.out; omega
            case rel => exact ⟨(y139), (wrap64 (x6_1 - 8)), (by first | rfl | (simp; done) | (simp [*]; done)), H', ⟨by have := HK1.out; omega⟩, ⟨by (with_reducible repeat (first | apply Kd.R_alloc | apply Kd.R_drewN | apply Kd.R_drew)); exact HO141.out⟩, ⟨by repeat (first | (with_reducible first | exact HB.out | apply below_alloc | apply pw_below_drewN | apply below_drew1) | exact HB.out)⟩⟩
          · rw [if_neg c7] at H
            exact absurd H (by simp)
        · rw [if_neg c5] at H
          exact absurd H (by simp)
      · rw [if_neg c3] at H
        have c3b0 : decide (0 ≤ x6_1) = false := decide_eq_false c3
        clear c3
        obtain rfl := Option.some.inj H
        go_wp2
        go_ret
        exact ⟨_, by first | rfl | (simp [errW_none, errW_some] <;> rfl) | (simp [*, errW_none, errW_some] <;> rfl), by (with_reducible repeat (first | apply Kd.R_alloc | apply Kd.R_drewN | apply Kd.R_drew)); exact HO_5.out, by repeat (first | (with_reducible first | exact HB.out | apply below_alloc | apply pw_below_drewN | apply below_drew1) | exact HB.out)⟩

def foundryref22_filled.l0 : Nat → List Int → Option (List Int)
  | 0, _ => none
  | k + 1, x0 => if (x0.length : Int) < 64 then (if x0.length < 140737488355328 then (foundryref22_filled.l0 k (x0 ++ [0])) else (none)) else (some x0)
def foundryref22_filled.f (k : Nat) (l0 : List Int) : Option (List Int) := foundryref22_filled.l0 k l0
set_option maxHeartbeats 8000000 in
set_option maxRecDepth 100000 in
theorem foundryref22_filled.calls (k : Nat) (P0_ : Nat → Prop) (u9000_ : Value) (l0 : List Int) (r : List Int) (w0 w : World) (hB : Below w0.heap.size w0 w) (ho0 : Kd.R (Kd.int .u8) 5 w w0.heap.size P0_ u9000_ l0) (h : foundryref22_filled.f k l0 = some r) :
    Calls Try.prog 69 #[u9000_] w fun e w' => ∃ v0_ : Value, e = .returned (v0_) ∧ Kd.R (Kd.int .u8) 5 w' w0.heap.size (fun k_ => (P0_ k_ ∨ w.heap.size ≤ k_)) v0_ r ∧ Below w0.heap.size w0 w' ∧ Kept w w' (fun k_ => P0_ k_) := by
  have HO0 := Aside0.mk (show Kd.R (Kd.int .u8) 5 w w0.heap.size (fun k_ => (P0_ k_ ∨ w.heap.size ≤ k_)) u9000_ l0 from Kd.R_mono ho0 (fun k_ hk => (.inl hk)))
  have HK := Aside0.mk (Kept.refl w (fun k_ => P0_ k_))
  have HW0 := Aside0.mk hB.size
  have HB := Aside0.mk hB
  clear hB
  have H : (foundryref22_filled.l0 k l0) = some r := h
  clear h
  have H' := Aside0.mk H
  clear H
  go_enter Try.func69, Try.ntmps69
  go_wp2
  go_loopg [0] k (fun kq v0 w' => ∃ (x0_1 : List Int), Aside0 (foundryref22_filled.l0 kq x0_1 = some r) ∧ Aside0 (kq ≤ k) ∧ Aside0 (Kd.R (Kd.int .u8) 5 w' w0.heap.size (fun k_ => (P0_ k_ ∨ w.heap.size ≤ k_)) v0 x0_1) ∧ Aside0 (Kept w w' (fun k_ => P0_ k_)) ∧ Aside0 (Below w0.heap.size w0 w'))
  case atStart => exact ⟨(l0), H', ⟨Nat.le_refl _⟩, ⟨by (with_reducible repeat (first | apply Kd.R_alloc | apply Kd.R_drewN | apply Kd.R_drew)); exact HO0.out⟩, ⟨by repeat (first | (with_reducible first | exact HK.out | apply Kept.alloc | apply Kept.drewN | apply Kept.drew) | exact HK.out)⟩, ⟨by repeat (first | (with_reducible first | exact HB.out | apply below_alloc | apply pw_below_drewN | apply below_drew1) | exact HB.out)⟩⟩
  case round =>
    clear H'
    obtain ⟨x0_1, HA, HK1, HO_0, HK, HB⟩ := hrel
    cases gk with
    | zero => exact absurd HA.out (by simp [foundryref22_filled.l0])
    | succ k1 =>
      have H := HA.out
      clear HA
      simp only [foundryref22_filled.l0] at H
      by_cases c2 : (x0_1.length : Int) < 64
      · rw [if_pos c2] at H
        have c2b0 : decide ((x0_1.length : Int) < 64) = true := decide_eq_true c2
        have c2b1 : decide (x0_1.length < 64) = true := decide_eq_true (by omega)
        clear c2
        by_cases c3 : x0_1.length < 140737488355328
        · rw [if_pos c3] at H
          have LMc3 := Aside0.mk c3
          clear c3
          obtain ⟨y142, hy142⟩ : ∃ y_ : List Int, y_ = (x0_1 ++ [0]) := ⟨_, rfl⟩
          replace H : (foundryref22_filled.l0 k1 y142) = some r := by first | (rw [hy142]; with_reducible exact H) | (have H2_ := (Option.bind_some _ _).symm.trans H; rw [hy142]; with_reducible exact H2_) | (have H2_ := (Option.bind_some _ _).symm.trans H; with_reducible exact H2_) | with_reducible exact H | (rw [hy142]; exact H) | exact H
          have Ny142 := Aside0.mk hy142
          clear hy142
          have H' := Aside0.mk H
          clear H
          obtain ⟨Ao4, co4, eo4⟩ := Kd.R_slice HO_0.out
          subst eo4
          go_wp2_with (first | ((with_reducible refine gate_builtin (b := .append) (xs := #[.tmp 6, .tmp 7]) rfl ?_); at_builtin; refine Kd.R_append (Kd.int .u8) (w0 := w0) w0.heap.size rfl (.tmp 6) (.tmp 7) 22 5 (.int .u8 0) 1 rfl Try.underlying22 info5 rfl (by decide) (by omega) (.slice Ao4 x0_1.length co4) x0_1 0 [.int .u8 0] (fun k_ => (P0_ k_ ∨ w.heap.size ≤ k_)) (fun _ => False) rfl rfl ?aP (fun _ hk => hk.elim) ?aF ?aO ?aB ?aS ?aL ?_; (case aP => exact rfl); (case aB => exact (by repeat (first | (with_reducible first | exact HB.out | apply below_alloc | apply pw_below_drewN | apply below_drew1) | exact HB.out))); (case aF => exact (fun k_ hk => (.inr (Nat.le_trans (by first | exact HK.out.1 | exact (show Kept w _ (fun k_ => P0_ k_) from by repeat (first | (with_reducible first | exact HK.out | apply Kept.alloc | apply Kept.drewN | apply Kept.drew) | exact HK.out)).1) hk)))); (case aO => exact (by (with_reducible repeat (first | apply Kd.R_alloc | apply Kd.R_drewN | apply Kd.R_drew)); exact HO_0.out)); (case aS => exact (below_size (by repeat (first | (with_reducible first | exact HB.out | apply below_alloc | apply pw_below_drewN | apply below_drew1) | exact HB.out)))); (case aL => have := LMc3.out; omega); intro v143 w5 ho hb hg hat; rw [← Ny142.out] at ho; have n0_ := Aside0.mk (hb); have n1_ := Aside0.mk (Kept.of_grown (S := (fun k_ => P0_ k_)) hg (by repeat (first | (with_reducible first | exact HK.out | apply Kept.alloc | apply Kept.drewN | apply Kept.drew) | exact HK.out)) (fun k_ e_ => (HO_0.out.1 k_ e_))); have n2_ := Aside0.mk (ho); clear HB; clear HK; clear HO_0; have HB := n0_; have HK := n1_; have HO144 := n2_; clear n0_ n1_ n2_; clear ho hb hg hat))
          go_roundg k1
          case measure => have := HK1.out; omega
          case rel => exact ⟨(y142), H', ⟨by have := HK1.out; omega⟩, ⟨by (with_reducible repeat (first | apply Kd.R_alloc | apply Kd.R_drewN | apply Kd.R_drew)); exact HO144.out⟩, ⟨by repeat (first | (with_reducible first | exact HK.out | apply Kept.alloc | apply Kept.drewN | apply Kept.drew) | exact HK.out)⟩, ⟨by repeat (first | (with_reducible first | exact HB.out | apply below_alloc | apply pw_below_drewN | apply below_drew1) | exact HB.out)⟩⟩
        · rw [if_neg c3] at H
          exact absurd H (by simp)
      · rw [if_neg c2] at H
        have c2b0 : decide ((x0_1.length : Int) < 64) = false := decide_eq_false c2
        have c2b1 : decide (x0_1.length < 64) = false := decide_eq_false (by omega)
        clear c2
        obtain rfl := Option.some.inj H
        obtain ⟨Ao6, co6, eo6⟩ := Kd.R_slice HO_0.out
        subst eo6
        go_wp2
        go_ret
        exact ⟨_, by first | rfl | (simp [errW_none, errW_some] <;> rfl) | (simp [*, errW_none, errW_some] <;> rfl), by (with_reducible repeat (first | apply Kd.R_alloc | apply Kd.R_drewN | apply Kd.R_drew)); exact HO_0.out, by repeat (first | (with_reducible first | exact HB.out | apply below_alloc | apply pw_below_drewN | apply below_drew1) | exact HB.out), by repeat (first | (with_reducible first | exact HK.out | apply Kept.alloc | apply Kept.drewN | apply Kept.drew) | exact HK.out)⟩


end Go.Proofs.Ytekhmkfiepnnkaa.KCarveA

set_option linter.unusedVariables false
set_option linter.unusedSimpArgs false
namespace Go.Proofs.Ytekhmkfiepnnkaa
open Go.RowKit Go.Proofs.YtekhmkfiepnnkaaW.PrintWords Go.Proofs.YtekhmkfiepnnkaaW.PrintMore

theorem right_of {r : SR} (h : sealE r = 0) (hg : 0 ≤ r.gen ∧ r.gen < 18446744073709551616) (hb : Bytes r.bytes) : r.right := by
  unfold sealE at h
  split at h
  · simp at h
  · split at h
    · simp at h
    · exact ⟨by omega, by omega, by omega, hb, by omega⟩
theorem swrite_any {w : World} {okd okr : Nat → Prop} {D : DM} {A : Option Addr} {c : Nat} (p : Nat) (base : Int) (r : SR) (h : PDisk w okd p D) (hF : RB w okr A r.bytes) (hne : apart okr okd) (hl : r.bytes.length ≤ c)
    (hb : Bytes r.bytes) (hg : 0 ≤ r.gen ∧ r.gen < 18446744073709551616) (hb9 : -9223372036854775808 ≤ base ∧ base ≤ 9223372036854775807) (hm : (D.ws.length + 65537) * 32 ≤ 140737488355328) :
  Calls Try.prog 22 #[.pointer (some ⟨p, 0, none⟩), .int .i64 base, recV r A c] w fun e w' => e = .returned (.int .i64 (D.sealW base r).2) ∧ PDisk w' (orNew okd w) p (D.sealW base r).1 ∧ Chg okd w w' := by
  unfold DM.sealW
  by_cases he : sealE r = 0
  · rw [if_neg (by simp [he])]
    have hr := right_of he hg hb
    by_cases ho : outB D base r = true
    · have hx : base < 0 ∨ (D.n : Int) < base ∨ (D.n : Int) - base < r.at_ + need r.bytes.length := by
        unfold outB at ho
        simp only [Bool.or_eq_true, decide_eq_true_eq] at ho
        rcases ho with (ho | ho) | ho
        · exact .inl ho
        · exact .inr (.inl ho)
        · exact .inr (.inr ho)
      rw [if_pos hx]
      refine (seal_bad p base r h hr.l hr.a hb9 he ho).mono ?_
      rintro e w' ⟨rfl, hB⟩
      exact ⟨rfl, (h.step (fun k _ hk => hB.block k hk)).mono (fun _ hk => .inl hk), Chg.of_below hB _⟩
    · have hx : ¬ (base < 0 ∨ (D.n : Int) < base ∨ (D.n : Int) - base < r.at_ + need r.bytes.length) := by
        unfold outB at ho
        simp only [Bool.or_eq_true, decide_eq_true_eq] at ho
        rintro (hh | hh | hh)
        · exact ho (.inl (.inl hh))
        · exact ho (.inl (.inr hh))
        · exact ho (.inr hh)
      rw [if_neg hx]
      exact seal_go p base r h hF hne hl hr hb9 he (by simpa using ho) hm
  · rw [if_pos he]
    refine (seal_err p base r (RB_len hF) he).mono ?_
    rintro e w' ⟨rfl, hB⟩
    exact ⟨rfl, (h.step (fun k _ hk => hB.block k hk)).mono (fun _ hk => .inl hk), Chg.of_below hB _⟩
theorem readV_E {D : DM} {base end_ gen at_ : Int} (h : ¬ readE D base end_ at_ = 0) : readV D base end_ gen at_ = none := by
  unfold readV
  rw [if_neg (fun hh => h hh.1)]
theorem sread_any {w : World} {ok : Nat → Prop} {p : Nat} {D : DM} (h : PDisk w ok p D) (base end_ gen at_ : Int) :
  Calls Try.prog 29 #[.pointer (some ⟨p, 0, none⟩), .int .i64 base, .int .i64 end_, .int .u64 gen, .int .i64 at_] w (ReadPost (readV D base end_ gen at_) (readE D base end_ at_) w) := by
  by_cases he : readE D base end_ at_ = 0
  · by_cases ho : end_ - base ≤ at_
    · rw [show readV D base end_ gen at_ = none from by unfold readV; rw [if_neg (fun hh => by have := hh.2.1; omega)], he]
      exact read_outD h base end_ gen at_ he ho
    · obtain ⟨h1, h2, h3, h4, h5⟩ := readE_ok he
      rw [he]
      obtain ⟨b, rfl⟩ := Int.eq_ofNat_of_zero_le h1
      obtain ⟨a, rfl⟩ := Int.eq_ofNat_of_zero_le h5
      obtain ⟨e, rfl⟩ := Int.eq_ofNat_of_zero_le (Int.le_trans h1 h2)
      exact read_inD h b a e gen h4 (by omega) (by omega)
  · rw [readV_E he]
    exact read_errD h base end_ gen at_ he
/-! ### live -/
def B60 : List Int := (List.replicate 60 0).set 59 7
def lr : SR := ⟨5, 0, 0, B60⟩
end Go.Proofs.Ytekhmkfiepnnkaa

set_option linter.unusedVariables false
set_option linter.unusedSimpArgs false
namespace Go.Proofs.Ytekhmkfiepnnkaa
open Go.RowKit Go.Proofs.YtekhmkfiepnnkaaW.PrintWords Go.Proofs.YtekhmkfiepnnkaaW.PrintMore

theorem make_bytes (m : Nat) (hn : m ≤ 281474976710656) : ∀ W : World, (Instr.makeSlice 22 (.int .i64 (m : Int)) (.int .i64 (m : Int))).run Try.prog W = .ok (.slice (some ⟨W.heap.size, 0, none⟩) m m) (W.alloc (.cells (madeCells #[.int .u8 0] m) 5)) :=
  print_make 22 5 .u8 1 Try.underlying22 info_u8 (by decide) m (by omega)
end Go.Proofs.Ytekhmkfiepnnkaa

set_option linter.unusedVariables false
set_option linter.unusedSimpArgs false
namespace Go.Proofs.Ytekhmkfiepnnkaa
open Go.RowKit Go.Proofs.YtekhmkfiepnnkaaW.PrintWords

/-- The document's disk: p the struct's block, g the bytes', wv the recorded writes. -/
structure RDb (w : World) (ok : Nat → Prop) (p : Nat) (D : DM) (g cap : Nat) (wv : Value) : Prop where
  okp : ok p
  okg : ok g
  blk : w.heap[p]? = some (.cells #[.slice (some ⟨g, 0, none⟩) D.b.length cap, .bool D.gone, .int .i64 D.left, wv] 69 (0, 0))
  row : w.ownsRow 0 5 1 (.slice (some ⟨g, 0, none⟩) D.b.length cap) D.b.length (nums .u8 D.b)
  ws : KW.R 140 w 0 (fun k => ok k ∧ k ≠ g) wv D.ws
def RDisk (w : World) (ok : Nat → Prop) (p : Nat) (D : DM) : Prop := D.wf ∧ ∃ g cap wv, RDb w ok p D g cap wv
namespace RDb
variable {w w1 : World} {ok ok' : Nat → Prop} {p : Nat} {D : DM} {g cap : Nat} {wv : Value}
theorem ne_pg (h : RDb w ok p D g cap wv) : p ≠ g := by
  obtain ⟨c, hc⟩ := own_typed h.row g rfl
  exact blk_type_ne h.blk hc (by decide)
theorem ne_pw (h : RDb w ok p D g cap wv) : some p ≠ wv.ownBlock := fun e => by
  obtain ⟨_, _, ho, _⟩ := h.ws
  obtain ⟨c, hc⟩ := own_typed ho p e.symm
  exact blk_type_ne h.blk hc (by decide) rfl
theorem ne_gw (h : RDb w ok p D g cap wv) : some g ≠ wv.ownBlock := fun e => by
  obtain ⟨_, _, ho, _⟩ := h.ws
  obtain ⟨c, hc⟩ := own_typed ho g e.symm
  obtain ⟨c', hc'⟩ := own_typed h.row g rfl
  exact blk_type_ne hc' hc (by decide) rfl
theorem mono (h : RDb w ok p D g cap wv) (hs : ∀ k, ok k → ok' k) : RDb w ok' p D g cap wv := ⟨hs _ h.okp, hs _ h.okg, h.blk, h.row, Kd.R_mono h.ws (fun k hk => ⟨hs k hk.1, hk.2⟩)⟩
theorem bound (h : RDb w ok p D g cap wv) : RDb w (fun k => ok k ∧ k < w.heap.size) p D g cap wv :=
  ⟨⟨h.okp, blk_lt h.blk⟩, ⟨h.okg, own_lt h.row g rfl⟩, h.blk, h.row, Kd.R_mono (Kd.R_bound h.ws) (fun _ hk => ⟨⟨hk.1.1, hk.2.2.1⟩, hk.1.2⟩)⟩
theorem step (h : RDb w ok p D g cap wv) (hm : ∀ k, ok k → k < w.heap.size → w1.heap[k]? = w.heap[k]?) : RDb w1 ok p D g cap wv :=
  ⟨h.okp, h.okg, (hm p h.okp (blk_lt h.blk)).trans h.blk, own_move h.row (fun k hk => (by rw [← ob_eq hk]; exact hm _ h.okg (own_lt h.row _ rfl))), Kd.R_step h.ws (fun k hk => hm k hk.1)⟩
theorem below (h : RDb w ok p D g cap wv) (hb : Below w.heap.size w w1) : RDb w1 ok p D g cap wv := h.step (fun k _ hk => hb.block k hk)
theorem drew (h : RDb w ok p D g cap wv) : RDb w.drew ok p D g cap wv := h.step (fun _ _ _ => rfl)
theorem cell0 (h : RDb w ok p D g cap wv) : w.cell? ⟨p, 0, none⟩ = some (.slice (some ⟨g, 0, none⟩) D.b.length cap) := by rw [cell_of_row w p 0 _ _ _ h.blk]; rfl
theorem cell1 (h : RDb w ok p D g cap wv) : w.cell? ⟨p, 1, none⟩ = some (.bool D.gone) := by rw [cell_of_row w p 1 _ _ _ h.blk]; rfl
theorem cell2 (h : RDb w ok p D g cap wv) : w.cell? ⟨p, 2, none⟩ = some (.int .i64 D.left) := by rw [cell_of_row w p 2 _ _ _ h.blk]; rfl
theorem cell3 (h : RDb w ok p D g cap wv) : w.cell? ⟨p, 3, none⟩ = some wv := by rw [cell_of_row w p 3 _ _ _ h.blk]; rfl
theorem free (h : RDb w ok p D g cap wv) (j : Nat) : w.frozen? ⟨p, j, none⟩ = false := frozen_of_row w p j _ _ h.blk
theorem setP (h : RDb w ok p D g cap wv) (j : Nat) (u : Value) : (w.setCell ⟨p, j, none⟩ u).ownsRow 0 5 1 (.slice (some ⟨g, 0, none⟩) D.b.length cap) D.b.length (nums .u8 D.b) ∧ KW.R 140 (w.setCell ⟨p, j, none⟩ u) 0 (fun k => ok k ∧ k ≠ g) wv D.ws :=
  ⟨own_move h.row (fun k hk => (by rw [← ob_eq hk]; exact Below.heap_setCell w _ u _ (fun e => h.ne_pg e.symm))), Kd.R_set h.ws h.blk (by decide) j u⟩
theorem setLeft (h : RDb w ok p D g cap wv) (l : Int) : RDb (w.setCell ⟨p, 2, none⟩ (.int .i64 l)) ok p { D with left := l } g cap wv :=
  ⟨h.okp, h.okg, heap_setCell_same w p 2 _ _ _ h.blk, (h.setP 2 _).1, (h.setP 2 _).2⟩
theorem setGone (h : RDb w ok p D g cap wv) (l : Bool) : RDb (w.setCell ⟨p, 1, none⟩ (.bool l)) ok p { D with gone := l } g cap wv :=
  ⟨h.okp, h.okg, heap_setCell_same w p 1 _ _ _ h.blk, (h.setP 1 _).1, (h.setP 1 _).2⟩
theorem close {u : Value} {l : List (Int × List Int)} (hp : ok p) (hg : ok g)
    (hb : w.heap[p]? = some (.cells #[.slice (some ⟨g, 0, none⟩) D.b.length cap, .bool D.gone, .int .i64 D.left, wv] 69 (0, 0)))
    (hr : w.ownsRow 0 5 1 (.slice (some ⟨g, 0, none⟩) D.b.length cap) D.b.length (nums .u8 D.b)) (hR : KW.R 140 w 0 (fun k => ok k ∧ k ≠ g) u l) :
    RDb (w.setCell ⟨p, 3, none⟩ u) ok p { D with ws := l } g cap u := by
  have hne : g ≠ p := by
    obtain ⟨c, hc⟩ := own_typed hr g rfl
    exact blk_type_ne hc hb (by decide)
  exact ⟨hp, hg, heap_setCell_same w p 3 _ _ _ hb, own_move hr (fun k hk => (by rw [← ob_eq hk]; exact Below.heap_setCell w _ u _ hne)), Kd.R_set hR hb (by decide) 3 u⟩
/-- A byte is stored. -/
theorem setByte (h : RDb w ok p D g cap wv) (j : Nat) (x : Int) : RDb (w.setCell ⟨g, j, none⟩ (.int .u8 x)) ok p { D with b := D.b.set j x } g cap wv := by
  have hn : (D.b.set j x).length = D.b.length := List.length_set
  refine ⟨h.okp, h.okg, ?_, ?_, Kd.R_far h.ws (fun k hk => hk.2) _⟩
  · show (w.setCell ⟨g, j, none⟩ (.int .u8 x)).heap[p]? = some (.cells #[.slice (some ⟨g, 0, none⟩) (D.b.set j x).length cap, .bool D.gone, .int .i64 D.left, wv] 69 (0, 0))
    rw [hn]
    exact (Below.heap_setCell w _ _ _ h.ne_pg).trans h.blk
  · show (w.setCell ⟨g, j, none⟩ (.int .u8 x)).ownsRow 0 5 1 (.slice (some ⟨g, 0, none⟩) (D.b.set j x).length cap) (D.b.set j x).length (nums .u8 (D.b.set j x))
    rw [hn]
    have := (own_store h.row (j : Int) x).1
    simpa using this
end RDb
theorem RDisk.mono {w : World} {ok ok' : Nat → Prop} {p : Nat} {D : DM} (h : RDisk w ok p D) (hs : ∀ k, ok k → ok' k) : RDisk w ok' p D := by
  obtain ⟨hw, g, cap, wv, h⟩ := h
  exact ⟨hw, g, cap, wv, h.mono hs⟩
theorem RDisk.bound {w : World} {ok : Nat → Prop} {p : Nat} {D : DM} (h : RDisk w ok p D) : RDisk w (fun k => ok k ∧ k < w.heap.size) p D := by
  obtain ⟨hw, g, cap, wv, h⟩ := h
  exact ⟨hw, g, cap, wv, h.bound⟩
theorem RDisk.step {w w1 : World} {ok : Nat → Prop} {p : Nat} {D : DM} (h : RDisk w ok p D) (hm : ∀ k, ok k → k < w.heap.size → w1.heap[k]? = w.heap[k]?) : RDisk w1 ok p D := by
  obtain ⟨hw, g, cap, wv, h⟩ := h
  exact ⟨hw, g, cap, wv, h.step hm⟩

theorem rdblocks_any {w : World} {ok : Nat → Prop} {p : Nat} {D : DM} (h : RDisk w ok p D) :
  Calls Try.prog 78 #[.pointer (some ⟨p, 0, none⟩)] w fun e w' => e = .returned (.int .i64 D.n) ∧ w = w' := by
  obtain ⟨hwf, g, cap, wv, hb⟩ := h
  have c0 := hb.cell0
  have hq : ((D.b.length : Int)).tdiv 64 = (D.n : Int) := by unfold DM.n; rw [Int.tdiv_eq_ediv_of_nonneg (by omega)]; omega
  have HQ := hid hq
  have h1 := hwf.len
  have h2 := hwf.hi
  clear hq
  go_enter Try.func78, Try.ntmps78
  go_wp2
  go_ret
  exact ⟨rfl, rfl⟩
end Go.Proofs.Ytekhmkfiepnnkaa

set_option linter.unusedVariables false
set_option linter.unusedSimpArgs false
namespace Go.Proofs.Ytekhmkfiepnnkaa
open Go.RowKit Go.Proofs.YtekhmkfiepnnkaaW.PrintWords

theorem bad_any {w : World} {ok : Nat → Prop} {p : Nat} {D : DM} (h : RDisk w ok p D) (i : Int) :
  Calls Try.prog 87 #[.pointer (some ⟨p, 0, none⟩), .int .i64 i] w fun e w' => e = .returned (.int .i64 (D.ready i)) ∧ w = w' := by
  have hbl := rdblocks_any h
  obtain ⟨hwf, g, cap, wv, hb⟩ := h
  have c1 := hb.cell1
  have hgone : D.gone = D.gone := rfl
  unfold DM.ready
  have hh := hwf.hi
  generalize D.gone = gone at c1 ⊢
  cases gone with
  | true =>
    go_enter Try.func87, Try.ntmps87
    go_wp2
    go_ret
    exact ⟨rfl, rfl⟩
  | false =>
    rw [if_neg (by decide)]
    by_cases h0 : i < 0
    · rw [if_pos (.inl h0)]
      go_enter Try.func87, Try.ntmps87
      go_wp2
      go_ret
      exact ⟨rfl, rfl⟩
    · by_cases h1 : (D.n : Int) ≤ i
      · rw [if_pos (.inr h1)]
        go_enter Try.func87, Try.ntmps87
        go_wp2_with (go_at_call 78; refine hbl.mono ?_; rintro e w' ⟨rfl, rfl⟩)
        go_ret
        exact ⟨rfl, rfl⟩
      · rw [if_neg (by omega)]
        go_enter Try.func87, Try.ntmps87
        go_wp2_with (go_at_call 78; refine hbl.mono ?_; rintro e w' ⟨rfl, rfl⟩)
        go_ret
        exact ⟨rfl, rfl⟩
theorem rcut_any {w : World} {ok : Nat → Prop} {p : Nat} {D : DM} (n : Int) (h : RDisk w ok p D) (h1 : n ≤ 9223372036854775807) :
  Calls Try.prog 57 #[.pointer (some ⟨p, 0, none⟩), .int .i64 n] w fun e w' => e = .returned (.tuple #[]) ∧ RDisk w' ok p (D.cut n) ∧ Chg ok w w' := by
  obtain ⟨hwf, g, cap, wv, hb⟩ := h
  have c2 := hb.cell2
  have z2 := hb.free 2
  have hwf' : (D.cut n).wf := ⟨hwf.len, hwf.lo, hwf.hi, by simp only [DM.cut]; split <;> omega, by simp only [DM.cut]; split <;> omega, hwf.bytes, hwf.wsB⟩
  by_cases h0 : n < 0
  · have hfin : RDisk ((w.setCell ⟨p, 2, none⟩ (.int .i64 n)).setCell ⟨p, 2, none⟩ (.int .i64 (-1))) ok p (D.cut n) ∧ Chg ok w ((w.setCell ⟨p, 2, none⟩ (.int .i64 n)).setCell ⟨p, 2, none⟩ (.int .i64 (-1))) := by
      refine ⟨⟨hwf', g, cap, wv, ?_⟩, ((Chg.refl ok w).setCell (.inl hb.okp) _).setCell (.inl hb.okp) _⟩
      have e : D.cut n = { { D with left := n } with left := -1 } := by
        simp only [DM.cut]
        congr 1
        split <;> omega
      rw [e]
      exact (hb.setLeft n).setLeft (-1)
    have HF := hid hfin
    clear hfin
    go_enter Try.func57, Try.ntmps57
    go_wp2
    go_end0
    exact ⟨rfl, HF.out⟩
  · have hfin : RDisk (w.setCell ⟨p, 2, none⟩ (.int .i64 n)) ok p (D.cut n) ∧ Chg ok w (w.setCell ⟨p, 2, none⟩ (.int .i64 n)) := by
      refine ⟨⟨hwf', g, cap, wv, ?_⟩, (Chg.refl ok w).setCell (.inl hb.okp) _⟩
      have e : D.cut n = { D with left := n } := by
        simp only [DM.cut]
        congr 1
        split <;> omega
      rw [e]
      exact hb.setLeft n
    have HF := hid hfin
    clear hfin
    go_enter Try.func57, Try.ntmps57
    go_wp2
    go_end0
    exact ⟨rfl, HF.out⟩
theorem ron_any {w : World} {ok : Nat → Prop} {p : Nat} {D : DM} (h : RDisk w ok p D) :
  Calls Try.prog 58 #[.pointer (some ⟨p, 0, none⟩)] w fun e w' => e = .returned (.tuple #[]) ∧ RDisk w' ok p { D with left := -1, gone := false } ∧ Chg ok w w' := by
  obtain ⟨hwf, g, cap, wv, hb⟩ := h
  have c1 := hb.cell1
  have c2 := hb.cell2
  have z1 := hb.free 1
  have z2 := hb.free 2
  have hfin : RDisk ((w.setCell ⟨p, 1, none⟩ (.bool false)).setCell ⟨p, 2, none⟩ (.int .i64 (-1))) ok p { D with left := -1, gone := false } ∧ Chg ok w ((w.setCell ⟨p, 1, none⟩ (.bool false)).setCell ⟨p, 2, none⟩ (.int .i64 (-1))) :=
    ⟨⟨⟨hwf.len, hwf.lo, hwf.hi, by simp, by simp, hwf.bytes, hwf.wsB⟩, g, cap, wv, (hb.setGone false).setLeft (-1)⟩, ((Chg.refl ok w).setCell (.inl hb.okp) _).setCell (.inl hb.okp) _⟩
  have HF := hid hfin
  clear hfin
  go_enter Try.func58, Try.ntmps58
  go_wp2
  go_end0
  exact ⟨rfl, HF.out⟩
theorem rnew_err {w : World} (n : Int) (h : n < 16 ∨ 4096 < n) : Calls Try.prog 32 #[.int .i64 n] w fun e w' => e = .returned (.tuple #[.pointer none, .int .i64 1]) ∧ w = w' := by
  rcases h with h | h
  · go_enter Try.func32, Try.ntmps32
    go_wp2
    go_ret2
    exact ⟨rfl, rfl⟩
  · go_enter Try.func32, Try.ntmps32
    go_wp2
    go_ret2
    exact ⟨rfl, rfl⟩
set_option maxRecDepth 100000 in
theorem rnew_ok {w : World} (n : Nat) (h1 : 16 ≤ n) (h2 : n ≤ 4096) : Calls Try.prog 32 #[.int .i64 n] w fun e w' =>
    e = .returned (.tuple #[.pointer (some ⟨w.heap.size + 1, 0, none⟩), .int .i64 0]) ∧ RDisk w' (fun k => w.heap.size ≤ k) (w.heap.size + 1) (DM.new n) ∧ Below w.heap.size w w' := by
  have hmk : ∀ W : World, (Instr.makeSlice 22 (.int .i64 (64 * (n : Int))) (.int .i64 (64 * (n : Int)))).run Try.prog W = .ok (.slice (some ⟨W.heap.size, 0, none⟩) (64 * n) (64 * n)) (W.alloc (.cells (madeCells #[.int .u8 0] (64 * n)) 5)) := by
    intro W
    have := make_bytes (64 * n) (by omega) W
    push_cast at this
    exact this
  have hb : (DM.new n).b.length = 64 * n := by simp [DM.new]
  have hfin : RDisk ((w.alloc (.cells (madeCells #[.int .u8 0] (64 * n)) 5)).alloc (.cells #[.slice (some ⟨w.heap.size, 0, none⟩) (64 * n) (64 * n), .bool false, .int .i64 (-1), .slice none 0 0] 69)) (fun k => w.heap.size ≤ k) (w.heap.size + 1) (DM.new n) := by
    refine ⟨new_wf h1 h2, w.heap.size, 64 * n, .slice none 0 0, ?_⟩
    refine ⟨by simp, by simp, ?_, ?_, ?_⟩
    · rw [hb]
      exact heap_alloc2_new w (.cells (madeCells #[.int .u8 0] (64 * n)) 5) (.cells #[.slice (some ⟨w.heap.size, 0, none⟩) (64 * n) (64 * n), .bool false, .int .i64 (-1), .slice none 0 0] 69)
    · rw [hb]
      have h3 := own_made w 0 5 .u8 (64 * n) (by simp) (by omega)
      exact own_alloc h3 (.cells #[.slice (some ⟨w.heap.size, 0, none⟩) (64 * n) (64 * n), .bool false, .int .i64 (-1), .slice none 0 0] 69)
    · exact Kd.R_nil _ _ _ _ _
  have HF := hid hfin
  clear hfin hb
  go_enter Try.func32, Try.ntmps32
  go_wp2
  go_ret2
  exact ⟨rfl, HF.out, below_alloc (below_alloc (Below.refl _ _) _) _⟩
/-- A part of a row of numbers that is read. -/
theorem reads_drop {w : World} {k : IntKind} {g : Nat} {xs : List Int} {base cap n : Nat} {t : Nat} (h : w.ownsRow base t 1 (.slice (some ⟨g, 0, none⟩) n cap) n (nums k xs)) (off m : Nat) (hl : off + m ≤ xs.length) (hm : m ≤ 9223372036854775807) :
    ReadsInt w k (some ⟨g, off, none⟩) m ((xs.drop off).take m) := by
  refine ⟨by rw [List.length_take, List.length_drop]; omega, hm, fun _ => ⟨_, rfl, fun j hj => ?_⟩⟩
  rw [Addr.add_mid]
  apply own_rangeAt h off m j
  simp [nums, List.getD_eq_getElem?_getD, List.getElem?_take, hj]
  rw [List.getElem?_eq_getElem (by omega)]
  rfl
set_option maxRecDepth 100000 in
theorem rread_ok {w : World} {ok : Nat → Prop} {p : Nat} {D : DM} (i : Nat) (h : RDisk w ok p D) (hr : D.ready i = 0) (hi : i < D.n) :
  Calls Try.prog 85 #[.pointer (some ⟨p, 0, none⟩), .int .i64 i] w fun e w' => ∃ A c, e = .returned (.tuple #[.slice A 64 c, .int .i64 0]) ∧ KB.R 5 w' w.heap.size (fun k => w.heap.size ≤ k) (.slice A 64 c) (D.blk i) ∧ Below w.heap.size w w' := by
  have hready := bad_any h i
  rw [hr] at hready
  obtain ⟨hwf, g, cap, wv, hb⟩ := h
  have c0 := hb.cell0
  have hl := blk_length hwf hi
  have h1 := hwf.len
  have h2 := hwf.hi
  have hread : ReadsInt w .u8 (some ⟨g, 64 * i, none⟩) 64 (D.blk i) := by
    have := reads_drop hb.row (64 * i) 64 (by omega) (by omega)
    rwa [DM.blk, Nat.mul_comm i 64]
  have hof := own_form hb.row
  have HL := hid hl
  have ca0 : (w.alloc (.cells #[] 5)).cell? ⟨p, 0, none⟩ = some (.slice (some ⟨g, 0, none⟩) D.b.length cap) := (World.cell?_alloc_lt w _ _ (World.block_lt_of_cell? w _ c0)).trans c0
  have hof1 := hof.1
  have hof2 : cap ≤ 9223372036854775807 := Nat.le_trans hof.2 (by decide)
  clear hr hl hof
  go_enter Try.func85, Try.ntmps85
  go_wp2_with (first | (go_at_call 87; refine hready.mono ?_; rintro e w' ⟨rfl, rfl⟩) | (at_builtin; refine print_append_row (w0 := w) w.heap.size rfl (.tmp 13) (.tmp 23) 22 5 .u8 1 rfl Try.underlying22 info_u8 (by decide) _ [] (D.blk i) (some ⟨g, 64 * i, none⟩) (64 * i + 64 - 64 * i) (cap - 64 * i) rfl rfl ?HO ?HR ?HB ?hb ?hl ?_))
  case HO => exact World.ownsRow_made (base := w.heap.size) w #[] 0 (Nat.le_refl _) (Nat.zero_le _) rfl
  case HR => rw [show 64 * i + 64 - 64 * i = 64 by omega]; exact hread.below (below_alloc (Below.refl _ _) _)
  case HB => exact below_alloc (Below.refl _ _) _
  case hb => simp
  case hl => simp
  intro v1 w1 ho hb1 hg hat
  have hR1 : KB.R 5 w1 w.heap.size (fun q => w.heap.size ≤ q) v1 (D.blk i) := Rown (by simpa using ho) (fun q hq => own_base ho q hq)
  obtain ⟨A', c', hv⟩ := Kd.R_slice hR1
  rw [HL.out] at hv
  subst hv
  clear ho
  go_wp2
  go_ret2
  exact ⟨A', c', rfl, hR1, hb1⟩
end Go.Proofs.Ytekhmkfiepnnkaa

set_option linter.unusedVariables false
set_option linter.unusedSimpArgs false
namespace Go.Proofs.Ytekhmkfiepnnkaa
open Go.RowKit Go.Proofs.YtekhmkfiepnnkaaW.PrintWords

theorem info_RWrite : (Try.prog.info? 140).map (fun i => (i.zero, i.size, i.bytes)) = some (some (.agg #[.int .i64 0, .slice none 0 0]), 2, 32) := by kernel_rfl
theorem splice_none {α : Type} (b : List α) (off : Nat) : splice b off [] = b := by simp [splice]
theorem splice_set {b xs : List Int} {off k : Nat} (hk : k < xs.length) (hl : off + xs.length ≤ b.length) : (splice b off (xs.take k)).set (off + k) (rd xs k) = splice b off (xs.take (k + 1)) := by
  have h1 : (b.take off).length = off := by rw [List.length_take]; omega
  have h2 : (xs.take k).length = k := by rw [List.length_take]; omega
  have h3 : (xs.take (k + 1)).length = k + 1 := by rw [List.length_take]; omega
  have hr : rd xs k = xs[k] := by simp [rd, List.getD_eq_getElem?_getD, hk]
  unfold splice
  rw [h2, h3, List.set_append_right _ _ (by omega), h1, List.set_append_right _ _ (by omega), h2]
  have e : off + k - off - k = 0 := by omega
  rw [e, show off + (k + 1) = (off + k) + 1 by omega, List.drop_eq_getElem_cons (show off + k < b.length by omega), List.set_cons_zero, List.take_succ_eq_append_getElem hk, hr]
  simp only [List.append_assoc, List.singleton_append]
set_option maxRecDepth 100000 in
set_option maxHeartbeats 1000000 in
theorem rwrite_ok {w : World} {ok okb : Nat → Prop} {p : Nat} {D : DM} {a : Addr} {c : Nat} {xs : List Int} (i : Nat) (h : RDisk w ok p D) (hF : RB w okb (some a) xs) (hne : apart okb ok) (hr : D.ready i = 0) (hi : i < D.n) (hx : xs.length = 64) (hB : Bytes xs) (hl : ¬ D.left = 0)
    (hm : (D.ws.length + 1) * 32 ≤ 140737488355328) :
  Calls Try.prog 73 #[.pointer (some ⟨p, 0, none⟩), .int .i64 i, .slice (some a) xs.length c] w fun e w' => e = .returned (.int .i64 0) ∧ RDisk w' (orNew ok w) p (D.writeD i xs) ∧ Chg ok w w' := by
  have hready := bad_any h i
  rw [hr] at hready
  obtain ⟨hwf, g, cap, wv, hb⟩ := h
  have hwD : D.writeD i xs = { b := splice D.b (i * 64) xs, left := if 0 < D.left then D.left - 1 else D.left, gone := D.gone, ws := D.ws ++ [(↑i, xs)] } := by
    unfold DM.writeD
    rw [if_neg (by rw [hr]; simp), if_neg (by rw [hx]; simp), if_neg hl]
    simp
  have HWD := hid hwD
  have hlb := hwf.len
  have hhi := hwf.hi
  have HX := hid hx
  have c2 := hb.cell2
  have z2 := hb.free 2
  have l1 := hwf.l1
  have l2 := hwf.l2
  have hl3 : (D.left == 0) = false := by simp [hl]
  have hx3 : ((xs.length : Int) != 64) = false := by simp [hx]
  obtain ⟨W0, D0, hW⟩ : ∃ W0 D0, (W0, D0) = (if 0 < D.left then (w.setCell ⟨p, 2, none⟩ (.int .i64 (D.left - 1)), { D with left := D.left - 1 }) else (w, D) : World × DM) := ⟨_, _, rfl⟩
  have hall : RDb W0 ok p D0 g cap wv ∧ Chg ok w W0 ∧ Hid (D0.b = D.b ∧ D0.ws = D.ws ∧ D.writeD i xs = { b := splice D0.b (i * 64) xs, left := D0.left, gone := D0.gone, ws := D0.ws ++ [(↑i, xs)] }) := by
    by_cases hpos : 0 < D.left
    · rw [if_pos hpos] at hW
      obtain ⟨rfl, rfl⟩ := Prod.mk.inj hW
      exact ⟨hb.setLeft (D.left - 1), (Chg.refl ok w).setCell (.inl hb.okp) _, rfl, rfl, by rw [HWD.out, if_pos hpos]⟩
    · rw [if_neg hpos] at hW
      obtain ⟨rfl, rfl⟩ := Prod.mk.inj hW
      exact ⟨hb, Chg.refl ok _, rfl, rfl, by rw [HWD.out, if_neg hpos]⟩
  obtain ⟨hb0, hc0, HD⟩ := hall
  have HLB : Hid (D0.b.length = 64 * D.n) := hid (by rw [HD.out.1]; exact hlb)
  have HW := hid hW
  clear hW hx hr hl hwD hlb
  by_cases hpos : 0 < D.left
  all_goals
    go_enter Try.func73, Try.ntmps73
    go_wp2_with (go_at_call 87; refine hready.mono ?_; rintro e w' ⟨rfl, rfl⟩)
    have hW := HW.out
    first | rw [if_pos hpos] at hW | rw [if_neg (by omega)] at hW
    have hW2 := congrArg Prod.fst hW
    simp only at hW2
    try rw [← hW2]
    clear hW hW2 hready c2 z2
    go_loopw [8] (fun j wr => ∃ k : Nat, k ≤ 64 ∧ j = .int .i64 k ∧ RDb wr ok p { D0 with b := splice D0.b (i * 64) (xs.take k) } g cap wv ∧ Chg ok w wr) (fun j _ => 64 - (intOf j).toNat)
    case atStart => exact ⟨0, by omega, rfl, by rw [List.take_zero, splice_none]; exact hb0, hc0⟩
    case round =>
      obtain ⟨k, hk, rfl, hbk, hck⟩ := hrel
      have hln : (splice D0.b (i * 64) (xs.take k)).length = 64 * D.n := by
        rw [length_splice _ _ _ (by rw [List.length_take, HX.out, HLB.out]; omega), HLB.out]
      by_cases hlt : k < 64
      · have c0 := hbk.cell0
        have hFk := RB_step hF hck hne
        obtain ⟨ad, hae, hcell⟩ := (RB_int hFk).at_ (k : Int) (by omega) (by rw [HX.out]; omega)
        injection hae with hae
        subst hae
        simp only [Int.toNat_natCast] at hcell
        obtain ⟨hc, hz⟩ := own_at hbk.row ((i * 64 + k : Nat) : Int) (by omega) (by rw [hln]; omega)
        simp only [Int.toNat_natCast] at hc hz
        have hbn := hbk.setByte (i * 64 + k) (rd xs k)
        have hcn : Chg ok w (wr.setCell ⟨g, i * 64 + k, none⟩ (.int .u8 (rd xs k))) := hck.setCell (.inl hbk.okg) _
        have hse := splice_set (b := D0.b) (xs := xs) (off := i * 64) (k := k) (by rw [HX.out]; omega) (by rw [HX.out, HLB.out]; omega)
        simp only at c0 hbn
        rw [hse] at hbn
        rw [hln] at c0
        have HE := hid hln
        clear hse hln
        rw [Nat.mul_comm i 64] at hc hz
        have hbn' : RDb (wr.drew.setCell ⟨g, 64 * i + k, none⟩ (.int .u8 (rd xs k))) ok p { D0 with b := splice D0.b (i * 64) (xs.take (k + 1)) } g cap wv := by
          have := hbk.drew.setByte (i * 64 + k) (rd xs k)
          simp only [] at this
          rw [splice_set (by rw [HX.out]; omega) (by rw [HX.out, HLB.out]; omega)] at this
          rwa [Nat.mul_comm 64 i]
        have hcn' : Chg ok w (wr.drew.setCell ⟨g, 64 * i + k, none⟩ (.int .u8 (rd xs k))) := hck.drew.setCell (.inl hbk.okg) _
        clear hbn hcn
        have hw1 : IntKind.i64.wrap (64 * (i : Int)) = 64 * (i : Int) := IntWalk.i64_in _ (by omega)
        have hw2 : IntKind.i64.wrap (64 * (i : Int) + (k : Int)) = 64 * (i : Int) + (k : Int) := IntWalk.i64_in _ (by omega)
        have hw3 : (64 * (i : Int) + (k : Int)).toNat = 64 * i + k := by omega
        have hw4 : 0 ≤ 64 * (i : Int) + (k : Int) ∧ 64 * (i : Int) + (k : Int) < 64 * (D.n : Int) := by omega
        go_wp2_with fail
        refine wp_region_plan [12, 13] (.take 0 (.take 1 (.take 2 (.take 3 (.take 4 (.take 5 (.take 6 (.take 7 (.take 8 (.take 9 (.take 10 (.take 11 (.tail 12 (.tail 13 .done)))))))))))))) (fun w' => w'.cell? ⟨p, 0, none⟩ = some (.slice (some ⟨g, 0, none⟩) (64 * D.n) cap) ∧ w'.cell? (a.add k) = some (.int .u8 (rd xs k))) (by kernel_rfl) (by kernel_rfl) (fun c a d v w h => by cases d <;> exact h) ⟨c0, hcell⟩ ?_
        iterate 12 (apply plan_take rfl rfl; (case hy => (intro w' hS; obtain ⟨s0, s1⟩ := hS; have hx' := HX.out; go_simp; try exact rfl)); go_simp)
        refine plan_tail rfl (fun K hK => ?_)
        go_simp
        try rw [if_pos hw4, hw3]
        refine hK _ _ ?_
        clear hK K
        refine plan_tail rfl (fun K hK => ?_)
        go_simp
        refine hK _ _ (plan_done ?_)
        clear hK K c0 hc hz hcell
        go_wp2
        go_roundw
        case rel => exact ⟨k + 1, by omega, by go_num, hbn', hcn'⟩
        case measure => simp [intOf]; omega
      · obtain rfl : k = 64 := by omega
        rw [List.take_of_length_le (by rw [HX.out]; omega)] at hbk
        have HLN : Hid ((splice D0.b (i * 64) xs).length = 64 * D.n) := by
          rw [List.take_of_length_le (by rw [HX.out]; omega)] at hln
          exact hid hln
        have hFk := RB_step hF hck hne
        have c3 := hbk.cell3
        have hszw : w.heap.size ≤ wr.heap.size := hck.size
        clear hln
        go_wp2_with fail
        refine wp_region_plan [12, 13, 14] (.take 0 (.take 1 (.take 2 (.take 3 (.take 4 (.take 5 (.take 7 (.run 6 (.run 8 (.take 9 (.run 10 (.run 11 (.tail 12 (.tail 13 (.tail 14 .done))))))))))))))) (fun w' => w'.cell? ⟨p, 3, none⟩ = some wv) (by kernel_rfl) (by kernel_rfl) (fun c a d v w h => by cases d <;> exact h) c3 ?_
        iterate 7 (apply plan_take rfl rfl; (case hy => (intro w' hS; go_simp; try exact rfl)); go_simp)
        refine plan_run_on rfl rfl (fun K hK => ?_)
        go_simp
        have hBa := below_alloc (below_drew (Below.refl wr.heap.size wr)) (.cells #[] 5)
        refine hK _ _ _ (fun _ h => h) (pw_cell_below hBa c3) ?_
        clear hK K
        refine plan_run_on rfl rfl (fun K hK => ?_)
        refine step_append_row (w0 := wr) wr.heap.size (.tmp 61) (.tmp 62) 22 5 .u8 1 rfl Try.underlying22 info_u8 (by decide) _ [] xs (some a) xs.length c rfl rfl ?HO ?HR ?HB ?hb ?hl ?_
        case HO => exact World.ownsRow_made (base := wr.heap.size) wr.drew #[] 0 (Nat.le_refl _) (Nat.zero_le _) rfl
        case HR => exact (RB_int hFk).below hBa
        case HB => exact hBa
        case hb => simp
        case hl => simp; rw [HX.out]; omega
        intro v1 w2 ho hB2 hg hat
        have hR2 : KB.R 5 w2 wr.heap.size (fun q => wr.heap.size ≤ q) v1 xs := Rown (by simpa using ho) (fun q hq => own_base ho q hq)
        obtain ⟨A2, c2, rfl⟩ := Kd.R_slice hR2
        clear ho hg hat
        have hb2 := hbk.below hB2
        have hc2 := hck.same hB2
        refine hK _ _ _ (fun _ h => h) hb2.cell3 ?_
        clear hK K
        go_simp
        apply plan_take rfl rfl
        case hy => (intro w' hS; go_simp; try exact rfl)
        go_simp
        refine plan_run_on rfl rfl (fun K hK => ?_)
        go_simp
        refine hK _ _ _ (fun _ h => h) (hb2.below (below_alloc (Below.refl _ _) _)).cell3 ?_
        clear hK K
        refine plan_run rfl (fun K hK => ?_)
        have hw2 : w.heap.size ≤ w2.heap.size := hc2.size
        have hR3 : KB.R 5 w2 0 (fun k => wr.heap.size ≤ k) (.slice A2 xs.length c2) xs := Kd.R_lower hR2 (Nat.zero_le _)
        have hlt : ∀ k, wv.ownBlock = some k → k < wr.heap.size := by
          obtain ⟨_, _, ho, _⟩ := hbk.ws
          exact fun k hk => own_lt ho k hk
        have hgl : g < wr.heap.size := own_lt hbk.row g rfl
        have hgl2 : g < w2.heap.size := Nat.lt_of_lt_of_le hgl hB2.size
        have hpw := hb2.ne_pw
        refine Kd.R_append_step KW (w0 := w2) 0 rfl (.tmp 59) (.tmp 65) 67 140 (.agg #[.int .i64 0, .slice none 0 0]) 32 rfl Try.underlying67 info_RWrite rfl (by decide) (by decide) wv D0.ws (↑i, xs) [.int .i64 i, .slice A2 xs.length c2]
          (fun k => orNew ok w k ∧ k ≠ g) (fun k => wr.heap.size ≤ k) rfl rfl (KW_new hR3) (fun k hk => ⟨⟨.inr (Nat.le_trans hszw hk), by omega⟩, fun e => by have := hlt k e.symm; omega⟩) (fun k hk => ⟨.inr (Nat.le_trans hw2 hk), by omega⟩) (Kd.R_mono hb2.ws (fun _ h => ⟨.inl h.1, h.2⟩)) (Below.refl _ _) (Nat.zero_le _) (by rw [HD.out.2.1]; exact hm) ?_
        intro v3 w3 hR4 _ hg3 _
        obtain ⟨A3, c4, rfl⟩ := Kd.R_slice hR4
        have hblk3 : w3.heap[p]? = _ := (hg3.block p (blk_lt hb2.blk) hpw).trans hb2.blk
        have hrow3 := own_other hb2.row hg3 (.inr (by have := hb2.ne_gw; simpa [Value.ownBlock] using this))
        have hc3 : Chg ok w w3 := hc2.grown hg3 (fun k hk => .inl (by
          obtain ⟨h0, _⟩ := hb2.ws
          exact (h0 k hk).1))
        refine hK _ _ _ (fun _ h => h) (by rw [cell_of_row w3 p 3 _ _ _ hblk3]; rfl) ?_
        clear hK K
        have z3 := frozen_of_row w3 p 3 _ _ hblk3
        have c5 : w3.cell? ⟨p, 3, none⟩ = some wv := by rw [cell_of_row w3 p 3 _ _ _ hblk3]; rfl
        go_simp
        iterate 2
          refine plan_tail rfl (fun K hK => ?_)
          go_simp
          refine hK _ _ ?_
          clear hK K
        refine plan_tail rfl (fun K hK => ?_)
        go_simp
        refine hK _ _ (plan_done ?_)
        clear hK K
        go_wp2_with fail
        go_ret
        have hnl : D0.ws.length + 1 = (D0.ws ++ [((i : Int), xs)]).length := by simp
        rw [hnl]
        refine ⟨rfl, ⟨writeD_wf hwf hB i, g, cap, .slice A3 (D0.ws ++ [((i : Int), xs)]).length c4, ?_⟩, hc3.setCell (.inl hb0.okp) _⟩
        rw [HD.out.2.2]
        exact RDb.close (D := { D0 with b := splice D0.b (i * 64) xs }) (.inl hb0.okp) (.inl hb0.okg) hblk3 hrow3 hR4
end Go.Proofs.Ytekhmkfiepnnkaa

set_option linter.unusedVariables false
set_option linter.unusedSimpArgs false
namespace Go.Proofs.Ytekhmkfiepnnkaa
open Go.RowKit Go.Proofs.YtekhmkfiepnnkaaW.PrintWords

theorem rwrite_err {w : World} {ok : Nat → Prop} {p : Nat} {D : DM} {A : Option Addr} {n c : Nat} (i : Int) (h : RDisk w ok p D) (hr : ¬ D.ready i = 0) :
  Calls Try.prog 73 #[.pointer (some ⟨p, 0, none⟩), .int .i64 i, .slice A n c] w fun e w' => e = .returned (.int .i64 (D.ready i)) ∧ w = w' := by
  have hready := bad_any h i
  have hr2 : (D.ready i != 0) = true := by simp [hr]
  clear hr
  go_enter Try.func73, Try.ntmps73
  go_wp2_with (go_at_call 87; refine hready.mono ?_; rintro e w' ⟨rfl, rfl⟩)
  go_ret
  exact ⟨rfl, rfl⟩
theorem rwrite_len {w : World} {ok : Nat → Prop} {p : Nat} {D : DM} {A : Option Addr} {n c : Nat} (i : Int) (h : RDisk w ok p D) (hr : D.ready i = 0) (hn : ¬ n = 64) :
  Calls Try.prog 73 #[.pointer (some ⟨p, 0, none⟩), .int .i64 i, .slice A n c] w fun e w' => e = .returned (.int .i64 1) ∧ w = w' := by
  have hready := bad_any h i
  rw [hr] at hready
  have hx3 : ((n : Int) != 64) = true := by simp; omega
  clear hr
  go_enter Try.func73, Try.ntmps73
  go_wp2_with (go_at_call 87; refine hready.mono ?_; rintro e w' ⟨rfl, rfl⟩)
  go_ret
  exact ⟨rfl, rfl⟩
theorem rwrite_gone {w : World} {ok : Nat → Prop} {p : Nat} {D : DM} {A : Option Addr} {c : Nat} (i : Int) (h : RDisk w ok p D) (hr : D.ready i = 0) (hl : D.left = 0) :
  Calls Try.prog 73 #[.pointer (some ⟨p, 0, none⟩), .int .i64 i, .slice A 64 c] w fun e w' => e = .returned (.int .i64 61) ∧ w' = w.setCell ⟨p, 1, none⟩ (.bool true) := by
  have hready := bad_any h i
  rw [hr] at hready
  obtain ⟨hwf, g, cap, wv, hb⟩ := h
  have c1 := hb.cell1
  have c2 := hb.cell2
  have z1 := hb.free 1
  rw [hl] at c2
  clear hr hl
  go_enter Try.func73, Try.ntmps73
  go_wp2_with (go_at_call 87; refine hready.mono ?_; rintro e w' ⟨rfl, rfl⟩)
  go_ret
  exact ⟨rfl, rfl⟩
theorem rwrite_any {w : World} {ok okb : Nat → Prop} {p : Nat} {D : DM} {A : Option Addr} {c : Nat} {xs : List Int} (i : Int) (h : RDisk w ok p D) (hF : RB w okb A xs) (hne : apart okb ok) (hB : Bytes xs)
    (hm : (D.ws.length + 1) * 32 ≤ 140737488355328) :
  Calls Try.prog 73 #[.pointer (some ⟨p, 0, none⟩), .int .i64 i, .slice A xs.length c] w fun e w' => e = .returned (.int .i64 (D.writeE i xs)) ∧ RDisk w' (orNew ok w) p (D.writeD i xs) ∧ Chg ok w w' := by
  by_cases hr : D.ready i = 0
  · by_cases hx : xs.length = 64
    · by_cases hl : D.left = 0
      · have e1 : D.writeE i xs = 61 := by unfold DM.writeE; rw [if_neg (by rw [hr]; simp), if_neg (by rw [hx]; simp), if_pos hl]
        have e2 : D.writeD i xs = { D with gone := true } := by unfold DM.writeD; rw [if_neg (by rw [hr]; simp), if_neg (by rw [hx]; simp), if_pos hl]
        rw [e1, e2, hx]
        refine (rwrite_gone i h hr hl).mono ?_
        rintro e w' ⟨rfl, rfl⟩
        obtain ⟨hwf, g, cap, wv, hb⟩ := h
        exact ⟨rfl, ⟨⟨hwf.len, hwf.lo, hwf.hi, hwf.l1, hwf.l2, hwf.bytes, hwf.wsB⟩, g, cap, wv, (hb.setGone true).mono (fun _ h => .inl h)⟩, (Chg.refl ok w).setCell (.inl hb.okp) _⟩
      · have hi : 0 ≤ i ∧ i < D.n := by
          simp only [DM.ready] at hr
          split at hr
          · simp at hr
          · split at hr
            · simp at hr
            · omega
        obtain ⟨j, rfl⟩ := Int.eq_ofNat_of_zero_le hi.1
        cases A with
        | none => rw [RB_none hF] at hx; simp at hx
        | some a =>
          have e1 : D.writeE j xs = 0 := by unfold DM.writeE; rw [if_neg (by rw [hr]; simp), if_neg (by rw [hx]; simp), if_neg hl]
          rw [e1]
          exact rwrite_ok j h hF hne hr (by omega) hx hB hl hm
    · have e1 : D.writeE i xs = 1 := by unfold DM.writeE; rw [if_neg (by rw [hr]; simp), if_pos hx]
      have e2 : D.writeD i xs = D := by unfold DM.writeD; rw [if_neg (by rw [hr]; simp), if_pos hx]
      rw [e1, e2]
      refine (rwrite_len i h hr hx).mono ?_
      rintro e w' ⟨rfl, rfl⟩
      exact ⟨rfl, h.mono (fun _ h => .inl h), Chg.refl ok w⟩
  · have e1 : D.writeE i xs = D.ready i := by unfold DM.writeE; rw [if_pos hr]
    have e2 : D.writeD i xs = D := by unfold DM.writeD; rw [if_pos hr]
    rw [e1, e2]
    refine (rwrite_err i h hr).mono ?_
    rintro e w' ⟨rfl, rfl⟩
    exact ⟨rfl, h.mono (fun _ h => .inl h), Chg.refl ok w⟩

end Go.Proofs.Ytekhmkfiepnnkaa

set_option linter.unusedVariables false
set_option linter.unusedSimpArgs false
namespace Go.Proofs.Ytekhmkfiepnnkaa
open Go.RowKit Go.Proofs.YtekhmkfiepnnkaaW.PrintWords Go.Proofs.YtekhmkfiepnnkaaW.PrintMore

theorem clean_tail {w W' : World} {ok : Nat → Prop} {a : Addr} {b : List Int} {c m : Nat} (h : RB w ok (some a) b) (hW : Below w.heap.size w W') (h64 : b.length = 64) (hm : m ≤ 64) (hc : 64 ≤ c) :
    Calls Try.prog 62 #[.slice (behind (some a) m c) (64 - m) (c - m)] W' fun e w' => e = .returned (.bool (blank (b.drop m))) ∧ w' = W' := by
  have h2 := RB_drop h (n := m) (by omega) (by omega : b.length ≤ c)
  have hl : (b.drop m).length = 64 - m := by rw [List.length_drop, h64]
  have h3 := clean_any (c := c - m) (Kd.F_now (RB_below h2 hW))
  rw [hl] at h3
  exact h3
set_option maxRecDepth 100000 in
set_option maxHeartbeats 4000000 in
theorem fhead_any {w : World} {ok : Nat → Prop} {A : Option Addr} {c : Nat} {b : List Int} (h : RB w ok A b) (hb : Bytes b) (hc : b.length ≤ c) :
  Calls Try.prog 15 #[.slice A b.length c] w (HeadPost b w) := by
  have hlm := RB_len h
  obtain ⟨w0, hw0⟩ : ∃ w0, w.alloc (.cells #[.int .u64 0, .int .i64 0, .int .i64 0, .slice none 0 0] 28) = w0 := ⟨_, rfl⟩
  have hfin : Below w.heap.size w w0 := by rw [← hw0]; exact below_alloc (Below.refl _ _) _
  by_cases h64 : b.length = 64
  · obtain ⟨a, rfl⟩ := RB_some h (by omega)
    have hR0 := RB_int h
    obtain ⟨ad, e0, k0⟩ := hR0.at_ 0 (by omega) (by omega)
    cases e0
    obtain ⟨ad, e0, k1⟩ := hR0.at_ 1 (by omega) (by omega)
    cases e0
    simp only [rd, Int.toNat_zero, show (1 : Int).toNat = 1 from rfl, List.getD_eq_getElem?_getD] at k0 k1
    rw [List.getElem?_eq_getElem (by omega), Option.getD_some] at k0 k1
    have k0a : w.cell? a = some (.int .u8 (b[0]'(by omega))) := by simpa [Addr.add] using k0
    have k1a : w.cell? { block := a.block, off := a.off + 1 } = some (.int .u8 (b[1]'(by omega))) := by simpa [Addr.add] using k1
    have k0' := pw_cell_below hfin k0a
    have k1' := pw_cell_below hfin k1a
    have hf := first2 h64 102 104
    clear k0 k1 hR0
    rw [h64] at hc ⊢
    have i2 : (2 : Int) ≤ (c : Int) := by omega
    by_cases ht : b.take 2 = [102, 104]
    · obtain ⟨t0, t1⟩ := hf.1 ht
      rw [t0] at k0'
      rw [t1] at k1'
      clear hf t0 t1 k0a k1a
      have n17 : ¬ c = 17 := by omega
      have n13 : ¬ c = 13 := by omega
      have n2 : ¬ c = 2 := by omega
      have n10 : ¬ c = 10 := by omega
      have i10 : (10 : Int) ≤ (c : Int) := by omega
      have i12 : (12 : Int) ≤ (c : Int) := by omega
      have i17 : (17 : Int) ≤ (c : Int) := by omega
      have hR := RB_int h
      obtain ⟨ad, e0, k12⟩ := hR.at_ 12 (by omega) (by omega)
      cases e0
      simp only [rd, show (12 : Int).toNat = 12 from rfl] at k12
      have hx12 : 0 ≤ b.getD 12 0 ∧ b.getD 12 0 < 256 := hb.rd_ 12
      have c0 := read_part (RB_below h hfin) hb 13 4 (c - 13) (by omega) (by omega)
      have c1 : ∀ W', Below w.heap.size w W' → Calls Try.prog 61 #[.slice (some (a.add 2)) 8 (c - 2)] W' fun e w' => e = .returned (.int .u64 (numAt b 2 8)) ∧ w' = W' := fun W' hW => read_part (RB_below h hW) hb 2 8 (c - 2) (by omega) (by omega)
      have c2 : ∀ W', Below w.heap.size w W' → Calls Try.prog 61 #[.slice (some (a.add 10)) 2 (c - 10)] W' fun e w' => e = .returned (.int .u64 (numAt b 10 2)) ∧ w' = W' := fun W' hW => read_part (RB_below h hW) hb 10 2 (c - 10) (by omega) (by omega)
      have l0 := numAt_lt hb (i := 13) (n := 4) (by omega)
      have l1 := numAt_lt hb (i := 2) (n := 8) (by omega)
      have l2 := numAt_lt hb (i := 10) (n := 2) (by omega)
      rw [show (256 : Int) ^ 4 = 4294967296 from by decide] at l0
      rw [show (256 : Int) ^ 8 = 18446744073709551616 from by decide] at l1
      rw [show (256 : Int) ^ 2 = 65536 from by decide] at l2
      have hmm : min (numAt b 13 4) 47 = ((headM b : Nat) : Int) := by unfold headM; omega
      have hm47 : headM b ≤ 47 := by unfold headM; omega
      have hpart : RB w ok (some (a.add 17)) ((b.drop 17).take (headM b)) := part h (by omega)
      have hplen : ((b.drop 17).take (headM b)).length = headM b := part_len (by omega)
      have hbl : ∀ W', Below w.heap.size w W' → Calls Try.prog 62 #[.slice (behind (some a) (17 + headM b) c) (64 - (17 + headM b)) (c - (17 + headM b))] W' fun e w' => e = .returned (.bool (blank (b.drop (17 + headM b)))) ∧ w' = W' := fun W' hW => clean_tail h hW h64 (by omega) hc
      have hOK : headOK b ↔ ¬ numAt b 2 8 = 0 ∧ numAt b 13 4 ≤ 131072 ∧ blank (b.drop (17 + headM b)) = true := ⟨fun hh => hh.2.2, fun hh => ⟨h64, ht, hh⟩⟩
      have hRR : headOK b → HeadPost b w = fun e w' => ∃ A c, e = .returned (.tuple #[.agg #[.int .u64 (numAt b 2 8), .int .i64 (numAt b 10 2), .int .i64 (b.getD 12 0), .slice A (headM b) c], .int .i64 (numAt b 13 4), .bool true]) ∧ KB.R 5 w' w.heap.size (fun k => w.heap.size ≤ k) (.slice A (headM b) c) ((b.drop 17).take (headM b)) ∧ headM b ≤ c ∧ Below w.heap.size w w' := fun hh => by
        unfold HeadPost
        rw [show headR b = ⟨numAt b 2 8, numAt b 10 2, b.getD 12 0, (b.drop 17).take (headM b)⟩ from if_pos hh, show headN b = numAt b 13 4 from if_pos hh, show decide (headOK b) = true from decide_eq_true hh]
        unfold recV
        dsimp only
        rw [hplen]
      have HRR := hid hRR
      have HOK := hid hOK
      have HM := hid hmm
      clear hRR hOK hR hmm
      generalize hmq : headM b = m at HRR HOK HM hm47 hpart hplen hbl
      generalize numAt b 13 4 = nn at c0 l0 HRR HOK HM
      generalize numAt b 2 8 = g at c1 l1 HRR HOK
      generalize numAt b 10 2 = at_ at c2 l2 HRR HOK
      generalize b.getD 12 0 = x12 at k12 hx12 HRR
      generalize blank (b.drop (17 + m)) = bl at hbl HOK
      have u0 : IntKind.i64.wrap nn = nn := by rw [IntKind.wrap_i64]; omega
      have u2 : IntKind.i64.wrap at_ = at_ := by rw [IntKind.wrap_i64]; omega
      have u12 : IntKind.i64.wrap x12 = x12 := by rw [IntKind.wrap_i64]; omega
      go_enter Try.func15, Try.ntmps15
      go_wp2_with fail
      refine c0.mono ?_
      rintro e w1 ⟨rfl, hw1⟩
      subst hw1
      have hz : w1.heap[w.heap.size]? = some (.cells #[.int .u64 0, .int .i64 0, .int .i64 0, .slice none 0 0] 28 (0, 0)) := by rw [← hw0]; exact heap_alloc_new w _
      clear hw0 c0 k0' k1'
      have k12' : w.cell? { block := a.block, off := a.off + 12 } = some (.int .u8 x12) := by simpa [Addr.add] using k12
      have hS0 : Below w.heap.size w w1.drew := hfin.drew
      have hSa : ∀ o, Below w.heap.size w (w1.drew.alloc o) := fun o => hfin.drew.alloc hfin.drew.size o
      rcases Int.lt_or_le nn 47 with hlt | hge
      · have hnm : nn = (m : Int) := by have := HM.out; omega
        subst hnm
        go_wp2_with fail
        apply wp_region_eq
        case h =>
          refine wp_region_plan [] (.take 0 (.take 1 (.take 3 (.take 4 (.take 7 (.take 8 (.take 9 (.take 10 (.both 2 (.both 5 (.take 6 (.take 11 (.run 12 (.run 13 .done)))) 12 (.run 5 (.take 6 (.take 11 (.run 13 .done))))) 12 (.run 2 (.run 5 (.take 6 (.take 11 (.run 13 .done)))))))))))))) (fun W' => Below w.heap.size w W') (by kernel_rfl) (by kernel_rfl) (fun c a d v w h => absurd h.1 (by simp)) hS0 ?_
          apply plan_take rfl rfl
          case hy => (intro w' hS; have e0 := pw_cell_below hS k12'; clear hS; go_simp; try exact rfl)
          go_simp
          apply plan_take rfl rfl
          case hy => (intro w' hS; have e0 := pw_cell_below hS k12'; clear hS; go_simp; try exact rfl)
          go_simp
          apply plan_take rfl rfl
          case hy => (intro w' hS; have e0 := pw_cell_below hS k12'; clear hS; go_simp; try exact rfl)
          go_simp
          apply plan_take rfl rfl
          case hy => (intro w' hS; have e0 := pw_cell_below hS k12'; clear hS; go_simp; try exact rfl)
          go_simp
          apply plan_take rfl rfl
          case hy => (intro w' hS; have e0 := pw_cell_below hS k12'; clear hS; go_simp; try exact rfl)
          go_simp
          apply plan_take rfl rfl
          case hy => (intro w' hS; have e0 := pw_cell_below hS k12'; clear hS; go_simp; try exact rfl)
          go_simp
          apply plan_take rfl rfl
          case hy => (intro w' hS; have e0 := pw_cell_below hS k12'; clear hS; go_simp; try exact rfl)
          go_simp
          apply plan_take rfl rfl
          case hy => (intro w' hS; have e0 := pw_cell_below hS k12'; clear hS; go_simp; try exact rfl)
          go_simp
          refine plan_both ?_ ?_
          · refine plan_run_on rfl rfl (fun K hK => ?_)
            go_simp
            refine (c1 _ hS0).mono ?_
            rintro e w2 ⟨rfl, rfl⟩
            refine hK _ _ _ (fun _ h => h) hS0 ?_
            clear hK K
            go_simp
            refine plan_both ?_ ?_
            · refine plan_run_on rfl rfl (fun K hK => ?_)
              go_simp
              refine (c2 _ hS0).mono ?_
              rintro e w2 ⟨rfl, rfl⟩
              refine hK _ _ _ (fun _ h => h) hS0 ?_
              clear hK K
              go_simp
              apply plan_take rfl rfl
              case hy => (intro w' hS; have e0 := pw_cell_below hS k12'; clear hS; go_simp; try exact rfl)
              go_simp
              apply plan_take rfl rfl
              case hy => (intro w' hS; have e0 := pw_cell_below hS k12'; clear hS; go_simp; try exact rfl)
              go_simp
              refine plan_run_on rfl rfl (fun K hK => ?_)
              go_simp
              refine hK _ _ _ (fun _ h => h) (hSa _) ?_
              clear hK K
              go_simp
              refine plan_run_on rfl rfl (fun K hK => ?_)
              go_simp
              refine hK _ _ _ (fun _ h => h) (hSa _) ?_
              clear hK K
              exact plan_done ⟨rfl, rfl, rfl⟩
            · refine plan_run_on rfl rfl (fun K hK => ?_)
              go_simp
              refine hK _ _ _ (fun _ h => h) (hSa _) ?_
              clear hK K
              go_simp
              refine plan_run_on rfl rfl (fun K hK => ?_)
              go_simp
              refine (c2 _ (hSa _)).mono ?_
              rintro e w2 ⟨rfl, rfl⟩
              refine hK _ _ _ (fun _ h => h) (hSa _) ?_
              clear hK K
              go_simp
              apply plan_take rfl rfl
              case hy => (intro w' hS; have e0 := pw_cell_below hS k12'; clear hS; go_simp; try exact rfl)
              go_simp
              apply plan_take rfl rfl
              case hy => (intro w' hS; have e0 := pw_cell_below hS k12'; clear hS; go_simp; try exact rfl)
              go_simp
              refine plan_run_on rfl rfl (fun K hK => ?_)
              go_simp
              refine hK _ _ _ (fun _ h => h) (hSa _) ?_
              clear hK K
              exact plan_done ⟨rfl, rfl, rfl⟩
          · refine plan_run_on rfl rfl (fun K hK => ?_)
            go_simp
            refine hK _ _ _ (fun _ h => h) (hSa _) ?_
            clear hK K
            go_simp
            refine plan_run_on rfl rfl (fun K hK => ?_)
            go_simp
            refine (c1 _ (hSa _)).mono ?_
            rintro e w2 ⟨rfl, rfl⟩
            refine hK _ _ _ (fun _ h => h) (hSa _) ?_
            clear hK K
            go_simp
            refine plan_run_on rfl rfl (fun K hK => ?_)
            go_simp
            refine (c2 _ (hSa _)).mono ?_
            rintro e w2 ⟨rfl, rfl⟩
            refine hK _ _ _ (fun _ h => h) (hSa _) ?_
            clear hK K
            go_simp
            apply plan_take rfl rfl
            case hy => (intro w' hS; have e0 := pw_cell_below hS k12'; clear hS; go_simp; try exact rfl)
            go_simp
            apply plan_take rfl rfl
            case hy => (intro w' hS; have e0 := pw_cell_below hS k12'; clear hS; go_simp; try exact rfl)
            go_simp
            refine plan_run_on rfl rfl (fun K hK => ?_)
            go_simp
            refine hK _ _ _ (fun _ h => h) (hSa _) ?_
            clear hK K
            exact plan_done ⟨rfl, rfl, rfl⟩
        case hQ =>
          have hr2 : ((w1.alloc (.cells #[.int .u64 g, .int .i64 at_, .int .i64 x12, .slice none 0 0] 28)).drew).heap[w1.heap.size]? = some (.cells #[.int .u64 g, .int .i64 at_, .int .i64 x12, .slice none 0 0] 28 (0, 0)) := heap_alloc_new w1 _
          have hz2 : ((w1.alloc (.cells #[.int .u64 g, .int .i64 at_, .int .i64 x12, .slice none 0 0] 28)).drew).heap[w.heap.size]? = some (.cells #[.int .u64 0, .int .i64 0, .int .i64 0, .slice none 0 0] 28 (0, 0)) := (Below.heap_alloc w1 _ w.heap.size (blk_lt hz)).trans hz
          have hB2 : Below w.heap.size w ((w1.alloc (.cells #[.int .u64 g, .int .i64 at_, .int .i64 x12, .slice none 0 0] 28)).drew) := (hfin.alloc hfin.size _).drew
          have hlt2 := blk_lt hz
          clear hS0 hSa hz c1 c2
          generalize (w1.alloc (.cells #[.int .u64 g, .int .i64 at_, .int .i64 x12, .slice none 0 0] 28)).drew = w2 at hr2 hz2 hB2 ⊢
          generalize w1.heap.size = rb at hr2 hlt2 ⊢
          clear hfin k12 k12'
          have q0 := cell_of_row _ _ 0 _ _ _ hr2
          have q3 := cell_of_row _ _ 3 _ _ _ hr2
          have htn : (17 + (m : Int)).toNat = 17 + m := by omega
          have him : (17 : Int) + (m : Int) ≤ 64 := by omega
          have him2 : (17 : Int) + (m : Int) ≤ (c : Int) := by omega
          have z0 := cell_of_row _ _ 0 _ _ _ hz2
          have z1 := cell_of_row _ _ 1 _ _ _ hz2
          have z2 := cell_of_row _ _ 2 _ _ _ hz2
          have z3 := cell_of_row _ _ 3 _ _ _ hz2
          have f0 := frozen_of_row _ _ 0 _ _ hz2
          have f1 := frozen_of_row _ _ 1 _ _ hz2
          have f2 := frozen_of_row _ _ 2 _ _ hz2
          have f3 := frozen_of_row _ _ 3 _ _ hz2
          by_cases hg : g = 0
          · have hno : ¬ headOK b := fun hh => (HOK.out.1 hh).1 hg
            subst hg
            go_wp2
            refine bodyPost_ret (results_ctt rfl _ _ w.heap.size 28 _ _ _ rfl (set4 hz2 (.int .u64 0) (.int .i64 0) (.int .i64 0) (.slice none 0 0)) Try.underlying28 rfl (by kernel_rfl)) rfl ?_
            exact head_none hno rfl (below4 hB2 (Nat.le_refl _) _ _ _ _)
          have hg2 : (g == 0) = false := by simpa using hg
          have hn : ¬ 131072 < (m : Int) := by omega
          have hbl2 := hbl w2 hB2
          have BL : ∀ (V : Value), V = .slice (behind (some a) (17 + m) c) (64 - (17 + m)) (c - (17 + m)) → Calls Try.prog 62 #[V] w2 fun e w' => e = .returned (.bool bl) ∧ w' = w2 := fun V e => by rw [e]; exact hbl2
          clear hbl hbl2
          by_cases hcm : c = 17 + m
          have hwm : IntKind.i64.wrap (17 + (m : Int)) = 17 + (m : Int) := by rw [IntKind.wrap_i64]; omega
          have h17 : (17 : Int) ≤ 17 + (m : Int) := by omega
          have h017 : (0 : Int) ≤ 17 + (m : Int) := by omega
          · omega
          · go_wp2_with fail
            refine (BL _ ?_).mono ?_
            · unfold behind
              rw [if_neg hcm]
              rfl
            rintro e w3 ⟨rfl, rfl⟩
            clear BL
            have hlt3 : rb < w3.heap.size := blk_lt hr2
            cases bl with
            | false =>
              have hno : ¬ headOK b := fun hh => by have := (HOK.out.1 hh).2.2; cases this
              go_wp2
              refine bodyPost_ret (results_ctt rfl _ _ w.heap.size 28 _ _ _ rfl (set4 hz2 (.int .u64 0) (.int .i64 0) (.int .i64 0) (.slice none 0 0)) Try.underlying28 rfl (by kernel_rfl)) rfl ?_
              exact head_none hno rfl (below4 hB2 (Nat.le_refl _) _ _ _ _)
            | true =>
              have hh : headOK b := HOK.out.2 ⟨hg, by omega, rfl⟩
              have HP := hid (HRR.out hh)
              clear HRR HOK
              have hRm : ReadsInt w3.drew .u8 (some (a.add 17)) m ((b.drop 17).take m) := by
                have := RB_int (RB_below hpart hB2.drew)
                rwa [hplen] at this
              go_wp2_with fail
              refine wp_region_plan [7, 8] (.take 0 (.take 1 (.take 2 (.take 3 (.take 4 (.take 5 (.run 6 (.tail 7 (.tail 8 .done))))))))) (fun W' => W'.cell? ⟨rb, 3, none⟩ = some (.slice none 0 0)) (by kernel_rfl) (by kernel_rfl) (fun c a d v w h => by cases d <;> exact h) q3 ?_
              have hwm2 : IntKind.i64.wrap (17 + (m : Int)) = 17 + (m : Int) := by rw [IntKind.wrap_i64]; omega
              have h172 : (17 : Int) ≤ 17 + (m : Int) := by omega
              have h0172 : (0 : Int) ≤ 17 + (m : Int) := by omega
              have htn2 : (17 + (m : Int)).toNat = 17 + m := by omega
              iterate 6 (apply plan_take rfl rfl; (case hy => (intro w' hS; go_simp; try exact rfl)); go_simp)
              refine plan_run_on rfl rfl (fun K hK => ?_)
              refine step_append_row (w0 := w3.drew) w3.heap.size (.tmp 61) (.tmp 65) 22 5 .u8 1 rfl Try.underlying22 info_u8 (by decide) _ [] ((b.drop 17).take m) (some (a.add 17)) m (c - 17) rfl rfl (World.ownsRow_nil _ _ _ _) hRm (Below.refl _ _) (Nat.le_refl _) (by simp; omega) ?_
              intro v1 w4 ho hB4 hg4 hat
              have hR4 : KB.R 5 w4 w3.heap.size (fun q => w3.heap.size ≤ q) v1 ((b.drop 17).take m) := Rown (by simpa using ho) (fun q hq => own_base ho q hq)
              obtain ⟨A4, c4, rfl, hle4, hC4⟩ := Kd.R_reads hR4
              rw [hplen] at hle4 hR4 ⊢
              have HR4 := hid hR4
              clear ho hg4 hat hR4 hC4
              have hr4 : w4.heap[rb]? = some (.cells #[.int .u64 g, .int .i64 at_, .int .i64 x12, .slice none 0 0] 28 (0, 0)) := (hB4.block rb hlt3).trans hr2
              have hz4 : w4.heap[w.heap.size]? = some (.cells #[.int .u64 0, .int .i64 0, .int .i64 0, .slice none 0 0] 28 (0, 0)) := (hB4.block w.heap.size (blk_lt hz2)).trans hz2
              have hBw4 : Below w.heap.size w w4 := hB2.drew.trans (hB4.mono hB2.size)
              have p3 := cell_of_row _ _ 3 _ _ _ hr4
              have pf3 := frozen_of_row _ _ 3 _ _ hr4
              simp at p3
              refine hK _ _ _ (fun _ h => h) p3 ?_
              clear hK K
              go_simp
              refine plan_tail_on rfl rfl (fun K hK => ?_)
              go_simp
              refine hK _ _ ?_
              clear hK K
              refine plan_tail_on rfl rfl (fun K hK => ?_)
              go_simp
              refine hK _ _ (plan_done ?_)
              clear hK K
              have hr5 := heap_setCell_same w4 rb 3 _ _ (.slice A4 m c4) hr4
              have hz5 := (Below.heap_setCell w4 ⟨rb, 3, none⟩ (.slice A4 m c4) w.heap.size (by show w.heap.size ≠ rb; omega)).trans hz4
              have hB5 : Below w.heap.size w (w4.setCell ⟨rb, 3, none⟩ (.slice A4 m c4)) := hBw4.setCell (p := ⟨rb, 3, none⟩) (by show w.heap.size ≤ rb; omega) _
              have hk5 : ∀ k, w3.heap.size ≤ k → (w4.setCell ⟨rb, 3, none⟩ (.slice A4 m c4)).heap[k]? = w4.heap[k]? := fun k hk => Below.heap_setCell w4 ⟨rb, 3, none⟩ (.slice A4 m c4) k (by show k ≠ rb; omega)
              clear q0 q3 z0 z1 z2 z3 f0 f1 f2 f3 p3 pf3 hr4 hz4
              generalize w4.setCell ⟨rb, 3, none⟩ (.slice A4 m c4) = w5 at hr5 hz5 hB5 hk5 ⊢
              have hn2 := blk_lt hz2
              clear hr2 hz2 hRm
              have q0 := cell_of_row _ _ 0 _ _ _ hr5
              have q1 := cell_of_row _ _ 1 _ _ _ hr5
              have q2 := cell_of_row _ _ 2 _ _ _ hr5
              have q3 := cell_of_row _ _ 3 _ _ _ hr5
              have z0 := cell_of_row _ _ 0 _ _ _ hz5
              have z1 := cell_of_row _ _ 1 _ _ _ hz5
              have z2 := cell_of_row _ _ 2 _ _ _ hz5
              have z3 := cell_of_row _ _ 3 _ _ _ hz5
              have f0 := frozen_of_row _ _ 0 _ _ hz5
              have f1 := frozen_of_row _ _ 1 _ _ hz5
              have f2 := frozen_of_row _ _ 2 _ _ hz5
              have f3 := frozen_of_row _ _ 3 _ _ hz5
              simp at q0 q1 q2 q3 z0 z1 z2 z3
              go_wp2
              refine bodyPost_ret (results_ctt rfl _ _ w.heap.size 28 _ _ _ rfl (set4 hz5 (.int .u64 g) (.int .i64 at_) (.int .i64 x12) (.slice A4 m c4)) Try.underlying28 rfl (by kernel_rfl)) rfl ?_
              rw [HP.out]
              refine ⟨A4, c4, rfl, ?_, hle4, below4 hB5 (Nat.le_refl _) _ _ _ _⟩
              have hall : ∀ k, w3.heap.size ≤ k → (W4s w5 w.heap.size (.int .u64 g) (.int .i64 at_) (.int .i64 x12) (.slice A4 m c4)).heap[k]? = w4.heap[k]? := fun k hk => by
                have hb := (below4 (Below.refl w.heap.size w5) (Nat.le_refl _) (.int .u64 g) (.int .i64 at_) (.int .i64 x12) (.slice A4 m c4))
                have hne : k ≠ w.heap.size := by omega
                rw [← hk5 k hk]
                unfold W4s
                rw [Below.heap_setCell _ _ _ _ hne, Below.heap_setCell _ _ _ _ hne, Below.heap_setCell _ _ _ _ hne, Below.heap_setCell _ _ _ _ hne]
              exact Kd.R_lower (Kd.R_mono (Kd.R_step HR4.out (fun k hk _ => hall k hk)) (fun k hk => by omega)) (by omega)
      · have h47 : (47 : Int) = (m : Int) := by have := HM.out; omega
        have H47 := hid h47
        clear h47
        have hge2 : ¬ nn < 47 := by omega
        go_wp2_with fail
        rw [H47.out]
        apply wp_region_eq
        case h =>
          refine wp_region_plan [] (.take 0 (.take 1 (.take 3 (.take 4 (.take 7 (.take 8 (.take 9 (.take 10 (.both 2 (.both 5 (.take 6 (.take 11 (.run 12 (.run 13 .done)))) 12 (.run 5 (.take 6 (.take 11 (.run 13 .done))))) 12 (.run 2 (.run 5 (.take 6 (.take 11 (.run 13 .done)))))))))))))) (fun W' => Below w.heap.size w W') (by kernel_rfl) (by kernel_rfl) (fun c a d v w h => absurd h.1 (by simp)) hS0 ?_
          apply plan_take rfl rfl
          case hy => (intro w' hS; have e0 := pw_cell_below hS k12'; clear hS; go_simp; try exact rfl)
          go_simp
          apply plan_take rfl rfl
          case hy => (intro w' hS; have e0 := pw_cell_below hS k12'; clear hS; go_simp; try exact rfl)
          go_simp
          apply plan_take rfl rfl
          case hy => (intro w' hS; have e0 := pw_cell_below hS k12'; clear hS; go_simp; try exact rfl)
          go_simp
          apply plan_take rfl rfl
          case hy => (intro w' hS; have e0 := pw_cell_below hS k12'; clear hS; go_simp; try exact rfl)
          go_simp
          apply plan_take rfl rfl
          case hy => (intro w' hS; have e0 := pw_cell_below hS k12'; clear hS; go_simp; try exact rfl)
          go_simp
          apply plan_take rfl rfl
          case hy => (intro w' hS; have e0 := pw_cell_below hS k12'; clear hS; go_simp; try exact rfl)
          go_simp
          apply plan_take rfl rfl
          case hy => (intro w' hS; have e0 := pw_cell_below hS k12'; clear hS; go_simp; try exact rfl)
          go_simp
          apply plan_take rfl rfl
          case hy => (intro w' hS; have e0 := pw_cell_below hS k12'; clear hS; go_simp; try exact rfl)
          go_simp
          refine plan_both ?_ ?_
          · refine plan_run_on rfl rfl (fun K hK => ?_)
            go_simp
            refine (c1 _ hS0).mono ?_
            rintro e w2 ⟨rfl, rfl⟩
            refine hK _ _ _ (fun _ h => h) hS0 ?_
            clear hK K
            go_simp
            refine plan_both ?_ ?_
            · refine plan_run_on rfl rfl (fun K hK => ?_)
              go_simp
              refine (c2 _ hS0).mono ?_
              rintro e w2 ⟨rfl, rfl⟩
              refine hK _ _ _ (fun _ h => h) hS0 ?_
              clear hK K
              go_simp
              apply plan_take rfl rfl
              case hy => (intro w' hS; have e0 := pw_cell_below hS k12'; clear hS; go_simp; try exact rfl)
              go_simp
              apply plan_take rfl rfl
              case hy => (intro w' hS; have e0 := pw_cell_below hS k12'; clear hS; go_simp; try exact rfl)
              go_simp
              refine plan_run_on rfl rfl (fun K hK => ?_)
              go_simp
              refine hK _ _ _ (fun _ h => h) (hSa _) ?_
              clear hK K
              go_simp
              refine plan_run_on rfl rfl (fun K hK => ?_)
              go_simp
              refine hK _ _ _ (fun _ h => h) (hSa _) ?_
              clear hK K
              exact plan_done ⟨rfl, rfl, rfl⟩
            · refine plan_run_on rfl rfl (fun K hK => ?_)
              go_simp
              refine hK _ _ _ (fun _ h => h) (hSa _) ?_
              clear hK K
              go_simp
              refine plan_run_on rfl rfl (fun K hK => ?_)
              go_simp
              refine (c2 _ (hSa _)).mono ?_
              rintro e w2 ⟨rfl, rfl⟩
              refine hK _ _ _ (fun _ h => h) (hSa _) ?_
              clear hK K
              go_simp
              apply plan_take rfl rfl
              case hy => (intro w' hS; have e0 := pw_cell_below hS k12'; clear hS; go_simp; try exact rfl)
              go_simp
              apply plan_take rfl rfl
              case hy => (intro w' hS; have e0 := pw_cell_below hS k12'; clear hS; go_simp; try exact rfl)
              go_simp
              refine plan_run_on rfl rfl (fun K hK => ?_)
              go_simp
              refine hK _ _ _ (fun _ h => h) (hSa _) ?_
              clear hK K
              exact plan_done ⟨rfl, rfl, rfl⟩
          · refine plan_run_on rfl rfl (fun K hK => ?_)
            go_simp
            refine hK _ _ _ (fun _ h => h) (hSa _) ?_
            clear hK K
            go_simp
            refine plan_run_on rfl rfl (fun K hK => ?_)
            go_simp
            refine (c1 _ (hSa _)).mono ?_
            rintro e w2 ⟨rfl, rfl⟩
            refine hK _ _ _ (fun _ h => h) (hSa _) ?_
            clear hK K
            go_simp
            refine plan_run_on rfl rfl (fun K hK => ?_)
            go_simp
            refine (c2 _ (hSa _)).mono ?_
            rintro e w2 ⟨rfl, rfl⟩
            refine hK _ _ _ (fun _ h => h) (hSa _) ?_
            clear hK K
            go_simp
            apply plan_take rfl rfl
            case hy => (intro w' hS; have e0 := pw_cell_below hS k12'; clear hS; go_simp; try exact rfl)
            go_simp
            apply plan_take rfl rfl
            case hy => (intro w' hS; have e0 := pw_cell_below hS k12'; clear hS; go_simp; try exact rfl)
            go_simp
            refine plan_run_on rfl rfl (fun K hK => ?_)
            go_simp
            refine hK _ _ _ (fun _ h => h) (hSa _) ?_
            clear hK K
            exact plan_done ⟨rfl, rfl, rfl⟩
        case hQ =>
          have hr2 : ((w1.alloc (.cells #[.int .u64 g, .int .i64 at_, .int .i64 x12, .slice none 0 0] 28)).drew).heap[w1.heap.size]? = some (.cells #[.int .u64 g, .int .i64 at_, .int .i64 x12, .slice none 0 0] 28 (0, 0)) := heap_alloc_new w1 _
          have hz2 : ((w1.alloc (.cells #[.int .u64 g, .int .i64 at_, .int .i64 x12, .slice none 0 0] 28)).drew).heap[w.heap.size]? = some (.cells #[.int .u64 0, .int .i64 0, .int .i64 0, .slice none 0 0] 28 (0, 0)) := (Below.heap_alloc w1 _ w.heap.size (blk_lt hz)).trans hz
          have hB2 : Below w.heap.size w ((w1.alloc (.cells #[.int .u64 g, .int .i64 at_, .int .i64 x12, .slice none 0 0] 28)).drew) := (hfin.alloc hfin.size _).drew
          have hlt2 := blk_lt hz
          clear hS0 hSa hz c1 c2
          generalize (w1.alloc (.cells #[.int .u64 g, .int .i64 at_, .int .i64 x12, .slice none 0 0] 28)).drew = w2 at hr2 hz2 hB2 ⊢
          generalize w1.heap.size = rb at hr2 hlt2 ⊢
          clear hfin k12 k12'
          have q0 := cell_of_row _ _ 0 _ _ _ hr2
          have q3 := cell_of_row _ _ 3 _ _ _ hr2
          have htn : (17 + (m : Int)).toNat = 17 + m := by omega
          have him : (17 : Int) + (m : Int) ≤ 64 := by omega
          have him2 : (17 : Int) + (m : Int) ≤ (c : Int) := by omega
          have z0 := cell_of_row _ _ 0 _ _ _ hz2
          have z1 := cell_of_row _ _ 1 _ _ _ hz2
          have z2 := cell_of_row _ _ 2 _ _ _ hz2
          have z3 := cell_of_row _ _ 3 _ _ _ hz2
          have f0 := frozen_of_row _ _ 0 _ _ hz2
          have f1 := frozen_of_row _ _ 1 _ _ hz2
          have f2 := frozen_of_row _ _ 2 _ _ hz2
          have f3 := frozen_of_row _ _ 3 _ _ hz2
          by_cases hg : g = 0
          · have hno : ¬ headOK b := fun hh => (HOK.out.1 hh).1 hg
            subst hg
            go_wp2
            refine bodyPost_ret (results_ctt rfl _ _ w.heap.size 28 _ _ _ rfl (set4 hz2 (.int .u64 0) (.int .i64 0) (.int .i64 0) (.slice none 0 0)) Try.underlying28 rfl (by kernel_rfl)) rfl ?_
            exact head_none hno rfl (below4 hB2 (Nat.le_refl _) _ _ _ _)
          have hg2 : (g == 0) = false := by simpa using hg
          by_cases hn : 131072 < nn
          · have hno : ¬ headOK b := fun hh => by have := (HOK.out.1 hh).2.1; omega
            go_wp2
            refine bodyPost_ret (results_ctt rfl _ _ w.heap.size 28 _ _ _ rfl (set4 hz2 (.int .u64 0) (.int .i64 0) (.int .i64 0) (.slice none 0 0)) Try.underlying28 rfl (by kernel_rfl)) rfl ?_
            exact head_none hno rfl (below4 hB2 (Nat.le_refl _) _ _ _ _)
          have hbl2 := hbl w2 hB2
          have BL : ∀ (V : Value), V = .slice (behind (some a) (17 + m) c) (64 - (17 + m)) (c - (17 + m)) → Calls Try.prog 62 #[V] w2 fun e w' => e = .returned (.bool bl) ∧ w' = w2 := fun V e => by rw [e]; exact hbl2
          clear hbl hbl2
          by_cases hcm : c = 17 + m
          have hwm : IntKind.i64.wrap (17 + (m : Int)) = 17 + (m : Int) := by rw [IntKind.wrap_i64]; omega
          have h17 : (17 : Int) ≤ 17 + (m : Int) := by omega
          have h017 : (0 : Int) ≤ 17 + (m : Int) := by omega
          · have hm0 : ¬ m = 0 := by omega
            subst hcm
            go_wp2_with fail
            refine (BL _ ?_).mono ?_
            · unfold behind
              rw [if_pos rfl, Nat.sub_self, show 64 - (17 + m) = 0 from by omega]
            rintro e w3 ⟨rfl, rfl⟩
            clear BL
            have hlt3 : rb < w3.heap.size := blk_lt hr2
            cases bl with
            | false =>
              have hno : ¬ headOK b := fun hh => by have := (HOK.out.1 hh).2.2; cases this
              go_wp2
              refine bodyPost_ret (results_ctt rfl _ _ w.heap.size 28 _ _ _ rfl (set4 hz2 (.int .u64 0) (.int .i64 0) (.int .i64 0) (.slice none 0 0)) Try.underlying28 rfl (by kernel_rfl)) rfl ?_
              exact head_none hno rfl (below4 hB2 (Nat.le_refl _) _ _ _ _)
            | true =>
              have hh : headOK b := HOK.out.2 ⟨hg, by omega, rfl⟩
              have HP := hid (HRR.out hh)
              clear HRR HOK
              have hRm : ReadsInt w3.drew .u8 (some (a.add 17)) m ((b.drop 17).take m) := by
                have := RB_int (RB_below hpart hB2.drew)
                rwa [hplen] at this
              go_wp2_with fail
              refine wp_region_plan [7, 8] (.take 0 (.take 1 (.take 2 (.take 3 (.take 4 (.take 5 (.run 6 (.tail 7 (.tail 8 .done))))))))) (fun W' => W'.cell? ⟨rb, 3, none⟩ = some (.slice none 0 0)) (by kernel_rfl) (by kernel_rfl) (fun c a d v w h => by cases d <;> exact h) q3 ?_
              have hwm2 : IntKind.i64.wrap (17 + (m : Int)) = 17 + (m : Int) := by rw [IntKind.wrap_i64]; omega
              have h172 : (17 : Int) ≤ 17 + (m : Int) := by omega
              have h0172 : (0 : Int) ≤ 17 + (m : Int) := by omega
              have htn2 : (17 + (m : Int)).toNat = 17 + m := by omega
              iterate 6 (apply plan_take rfl rfl; (case hy => (intro w' hS; go_simp; try exact rfl)); go_simp)
              refine plan_run_on rfl rfl (fun K hK => ?_)
              refine step_append_row (w0 := w3.drew) w3.heap.size (.tmp 61) (.tmp 65) 22 5 .u8 1 rfl Try.underlying22 info_u8 (by decide) _ [] ((b.drop 17).take m) (some (a.add 17)) m m rfl rfl (World.ownsRow_nil _ _ _ _) hRm (Below.refl _ _) (Nat.le_refl _) (by simp; omega) ?_
              intro v1 w4 ho hB4 hg4 hat
              have hR4 : KB.R 5 w4 w3.heap.size (fun q => w3.heap.size ≤ q) v1 ((b.drop 17).take m) := Rown (by simpa using ho) (fun q hq => own_base ho q hq)
              obtain ⟨A4, c4, rfl, hle4, hC4⟩ := Kd.R_reads hR4
              rw [hplen] at hle4 hR4 ⊢
              have HR4 := hid hR4
              clear ho hg4 hat hR4 hC4
              have hr4 : w4.heap[rb]? = some (.cells #[.int .u64 g, .int .i64 at_, .int .i64 x12, .slice none 0 0] 28 (0, 0)) := (hB4.block rb hlt3).trans hr2
              have hz4 : w4.heap[w.heap.size]? = some (.cells #[.int .u64 0, .int .i64 0, .int .i64 0, .slice none 0 0] 28 (0, 0)) := (hB4.block w.heap.size (blk_lt hz2)).trans hz2
              have hBw4 : Below w.heap.size w w4 := hB2.drew.trans (hB4.mono hB2.size)
              have p3 := cell_of_row _ _ 3 _ _ _ hr4
              have pf3 := frozen_of_row _ _ 3 _ _ hr4
              simp at p3
              refine hK _ _ _ (fun _ h => h) p3 ?_
              clear hK K
              go_simp
              refine plan_tail_on rfl rfl (fun K hK => ?_)
              go_simp
              refine hK _ _ ?_
              clear hK K
              refine plan_tail_on rfl rfl (fun K hK => ?_)
              go_simp
              refine hK _ _ (plan_done ?_)
              clear hK K
              have hr5 := heap_setCell_same w4 rb 3 _ _ (.slice A4 m c4) hr4
              have hz5 := (Below.heap_setCell w4 ⟨rb, 3, none⟩ (.slice A4 m c4) w.heap.size (by show w.heap.size ≠ rb; omega)).trans hz4
              have hB5 : Below w.heap.size w (w4.setCell ⟨rb, 3, none⟩ (.slice A4 m c4)) := hBw4.setCell (p := ⟨rb, 3, none⟩) (by show w.heap.size ≤ rb; omega) _
              have hk5 : ∀ k, w3.heap.size ≤ k → (w4.setCell ⟨rb, 3, none⟩ (.slice A4 m c4)).heap[k]? = w4.heap[k]? := fun k hk => Below.heap_setCell w4 ⟨rb, 3, none⟩ (.slice A4 m c4) k (by show k ≠ rb; omega)
              clear q0 q3 z0 z1 z2 z3 f0 f1 f2 f3 p3 pf3 hr4 hz4
              generalize w4.setCell ⟨rb, 3, none⟩ (.slice A4 m c4) = w5 at hr5 hz5 hB5 hk5 ⊢
              have hn2 := blk_lt hz2
              clear hr2 hz2 hRm
              have q0 := cell_of_row _ _ 0 _ _ _ hr5
              have q1 := cell_of_row _ _ 1 _ _ _ hr5
              have q2 := cell_of_row _ _ 2 _ _ _ hr5
              have q3 := cell_of_row _ _ 3 _ _ _ hr5
              have z0 := cell_of_row _ _ 0 _ _ _ hz5
              have z1 := cell_of_row _ _ 1 _ _ _ hz5
              have z2 := cell_of_row _ _ 2 _ _ _ hz5
              have z3 := cell_of_row _ _ 3 _ _ _ hz5
              have f0 := frozen_of_row _ _ 0 _ _ hz5
              have f1 := frozen_of_row _ _ 1 _ _ hz5
              have f2 := frozen_of_row _ _ 2 _ _ hz5
              have f3 := frozen_of_row _ _ 3 _ _ hz5
              simp at q0 q1 q2 q3 z0 z1 z2 z3
              go_wp2
              refine bodyPost_ret (results_ctt rfl _ _ w.heap.size 28 _ _ _ rfl (set4 hz5 (.int .u64 g) (.int .i64 at_) (.int .i64 x12) (.slice A4 m c4)) Try.underlying28 rfl (by kernel_rfl)) rfl ?_
              rw [HP.out]
              refine ⟨A4, c4, rfl, ?_, hle4, below4 hB5 (Nat.le_refl _) _ _ _ _⟩
              have hall : ∀ k, w3.heap.size ≤ k → (W4s w5 w.heap.size (.int .u64 g) (.int .i64 at_) (.int .i64 x12) (.slice A4 m c4)).heap[k]? = w4.heap[k]? := fun k hk => by
                have hb := (below4 (Below.refl w.heap.size w5) (Nat.le_refl _) (.int .u64 g) (.int .i64 at_) (.int .i64 x12) (.slice A4 m c4))
                have hne : k ≠ w.heap.size := by omega
                rw [← hk5 k hk]
                unfold W4s
                rw [Below.heap_setCell _ _ _ _ hne, Below.heap_setCell _ _ _ _ hne, Below.heap_setCell _ _ _ _ hne, Below.heap_setCell _ _ _ _ hne]
              exact Kd.R_lower (Kd.R_mono (Kd.R_step HR4.out (fun k hk _ => hall k hk)) (fun k hk => by omega)) (by omega)
          · go_wp2_with fail
            refine (BL _ ?_).mono ?_
            · unfold behind
              rw [if_neg hcm]
              rfl
            rintro e w3 ⟨rfl, rfl⟩
            clear BL
            have hlt3 : rb < w3.heap.size := blk_lt hr2
            cases bl with
            | false =>
              have hno : ¬ headOK b := fun hh => by have := (HOK.out.1 hh).2.2; cases this
              go_wp2
              refine bodyPost_ret (results_ctt rfl _ _ w.heap.size 28 _ _ _ rfl (set4 hz2 (.int .u64 0) (.int .i64 0) (.int .i64 0) (.slice none 0 0)) Try.underlying28 rfl (by kernel_rfl)) rfl ?_
              exact head_none hno rfl (below4 hB2 (Nat.le_refl _) _ _ _ _)
            | true =>
              have hh : headOK b := HOK.out.2 ⟨hg, by omega, rfl⟩
              have HP := hid (HRR.out hh)
              clear HRR HOK
              have hRm : ReadsInt w3.drew .u8 (some (a.add 17)) m ((b.drop 17).take m) := by
                have := RB_int (RB_below hpart hB2.drew)
                rwa [hplen] at this
              go_wp2_with fail
              refine wp_region_plan [7, 8] (.take 0 (.take 1 (.take 2 (.take 3 (.take 4 (.take 5 (.run 6 (.tail 7 (.tail 8 .done))))))))) (fun W' => W'.cell? ⟨rb, 3, none⟩ = some (.slice none 0 0)) (by kernel_rfl) (by kernel_rfl) (fun c a d v w h => by cases d <;> exact h) q3 ?_
              have hwm2 : IntKind.i64.wrap (17 + (m : Int)) = 17 + (m : Int) := by rw [IntKind.wrap_i64]; omega
              have h172 : (17 : Int) ≤ 17 + (m : Int) := by omega
              have h0172 : (0 : Int) ≤ 17 + (m : Int) := by omega
              have htn2 : (17 + (m : Int)).toNat = 17 + m := by omega
              iterate 6 (apply plan_take rfl rfl; (case hy => (intro w' hS; go_simp; try exact rfl)); go_simp)
              refine plan_run_on rfl rfl (fun K hK => ?_)
              refine step_append_row (w0 := w3.drew) w3.heap.size (.tmp 61) (.tmp 65) 22 5 .u8 1 rfl Try.underlying22 info_u8 (by decide) _ [] ((b.drop 17).take m) (some (a.add 17)) m (c - 17) rfl rfl (World.ownsRow_nil _ _ _ _) hRm (Below.refl _ _) (Nat.le_refl _) (by simp; omega) ?_
              intro v1 w4 ho hB4 hg4 hat
              have hR4 : KB.R 5 w4 w3.heap.size (fun q => w3.heap.size ≤ q) v1 ((b.drop 17).take m) := Rown (by simpa using ho) (fun q hq => own_base ho q hq)
              obtain ⟨A4, c4, rfl, hle4, hC4⟩ := Kd.R_reads hR4
              rw [hplen] at hle4 hR4 ⊢
              have HR4 := hid hR4
              clear ho hg4 hat hR4 hC4
              have hr4 : w4.heap[rb]? = some (.cells #[.int .u64 g, .int .i64 at_, .int .i64 x12, .slice none 0 0] 28 (0, 0)) := (hB4.block rb hlt3).trans hr2
              have hz4 : w4.heap[w.heap.size]? = some (.cells #[.int .u64 0, .int .i64 0, .int .i64 0, .slice none 0 0] 28 (0, 0)) := (hB4.block w.heap.size (blk_lt hz2)).trans hz2
              have hBw4 : Below w.heap.size w w4 := hB2.drew.trans (hB4.mono hB2.size)
              have p3 := cell_of_row _ _ 3 _ _ _ hr4
              have pf3 := frozen_of_row _ _ 3 _ _ hr4
              simp at p3
              refine hK _ _ _ (fun _ h => h) p3 ?_
              clear hK K
              go_simp
              refine plan_tail_on rfl rfl (fun K hK => ?_)
              go_simp
              refine hK _ _ ?_
              clear hK K
              refine plan_tail_on rfl rfl (fun K hK => ?_)
              go_simp
              refine hK _ _ (plan_done ?_)
              clear hK K
              have hr5 := heap_setCell_same w4 rb 3 _ _ (.slice A4 m c4) hr4
              have hz5 := (Below.heap_setCell w4 ⟨rb, 3, none⟩ (.slice A4 m c4) w.heap.size (by show w.heap.size ≠ rb; omega)).trans hz4
              have hB5 : Below w.heap.size w (w4.setCell ⟨rb, 3, none⟩ (.slice A4 m c4)) := hBw4.setCell (p := ⟨rb, 3, none⟩) (by show w.heap.size ≤ rb; omega) _
              have hk5 : ∀ k, w3.heap.size ≤ k → (w4.setCell ⟨rb, 3, none⟩ (.slice A4 m c4)).heap[k]? = w4.heap[k]? := fun k hk => Below.heap_setCell w4 ⟨rb, 3, none⟩ (.slice A4 m c4) k (by show k ≠ rb; omega)
              clear q0 q3 z0 z1 z2 z3 f0 f1 f2 f3 p3 pf3 hr4 hz4
              generalize w4.setCell ⟨rb, 3, none⟩ (.slice A4 m c4) = w5 at hr5 hz5 hB5 hk5 ⊢
              have hn2 := blk_lt hz2
              clear hr2 hz2 hRm
              have q0 := cell_of_row _ _ 0 _ _ _ hr5
              have q1 := cell_of_row _ _ 1 _ _ _ hr5
              have q2 := cell_of_row _ _ 2 _ _ _ hr5
              have q3 := cell_of_row _ _ 3 _ _ _ hr5
              have z0 := cell_of_row _ _ 0 _ _ _ hz5
              have z1 := cell_of_row _ _ 1 _ _ _ hz5
              have z2 := cell_of_row _ _ 2 _ _ _ hz5
              have z3 := cell_of_row _ _ 3 _ _ _ hz5
              have f0 := frozen_of_row _ _ 0 _ _ hz5
              have f1 := frozen_of_row _ _ 1 _ _ hz5
              have f2 := frozen_of_row _ _ 2 _ _ hz5
              have f3 := frozen_of_row _ _ 3 _ _ hz5
              simp at q0 q1 q2 q3 z0 z1 z2 z3
              go_wp2
              refine bodyPost_ret (results_ctt rfl _ _ w.heap.size 28 _ _ _ rfl (set4 hz5 (.int .u64 g) (.int .i64 at_) (.int .i64 x12) (.slice A4 m c4)) Try.underlying28 rfl (by kernel_rfl)) rfl ?_
              rw [HP.out]
              refine ⟨A4, c4, rfl, ?_, hle4, below4 hB5 (Nat.le_refl _) _ _ _ _⟩
              have hall : ∀ k, w3.heap.size ≤ k → (W4s w5 w.heap.size (.int .u64 g) (.int .i64 at_) (.int .i64 x12) (.slice A4 m c4)).heap[k]? = w4.heap[k]? := fun k hk => by
                have hb := (below4 (Below.refl w.heap.size w5) (Nat.le_refl _) (.int .u64 g) (.int .i64 at_) (.int .i64 x12) (.slice A4 m c4))
                have hne : k ≠ w.heap.size := by omega
                rw [← hk5 k hk]
                unfold W4s
                rw [Below.heap_setCell _ _ _ _ hne, Below.heap_setCell _ _ _ _ hne, Below.heap_setCell _ _ _ _ hne, Below.heap_setCell _ _ _ _ hne]
              exact Kd.R_lower (Kd.R_mono (Kd.R_step HR4.out (fun k hk _ => hall k hk)) (fun k hk => by omega)) (by omega)
    · have hno : ¬ headOK b := fun hh => ht hh.2.1
      rw [← hw0] at k0' k1'
      clear hw0
      have hnf : ¬ (b[0]'(by omega) = 102 ∧ b[1]'(by omega) = 104) := fun hh => ht (hf.2 hh)
      clear hf
      generalize b[0]'(by omega) = x0 at k0a k1a k0' k1' hnf
      generalize b[1]'(by omega) = x1 at k0a k1a k0' k1' hnf
      by_cases q0 : x0 = 102
      · have q1 : ¬ x1 = 104 := fun e => hnf ⟨q0, e⟩
        subst q0
        clear hnf
        have q1' : (x1 == 104) = false := by simpa using q1
        have q1'' : (x1 != 104) = true := by simpa using q1
        go_enter Try.func15, Try.ntmps15
        go_wp2
        refine bodyPost_ret (results_ctt rfl _ _ w.heap.size 28 _ _ _ rfl (heap_alloc_new w _) Try.underlying28 rfl (by kernel_rfl)) rfl ?_
        exact head_none hno rfl (below_alloc (Below.refl _ _) _)
      · have q0' : (x0 == 102) = false := by simpa using q0
        have q0'' : (x0 != 102) = true := by simpa using q0
        clear hnf
        go_enter Try.func15, Try.ntmps15
        go_wp2
        refine bodyPost_ret (results_ctt rfl _ _ w.heap.size 28 _ _ _ rfl (heap_alloc_new w _) Try.underlying28 rfl (by kernel_rfl)) rfl ?_
        exact head_none hno rfl (below_alloc (Below.refl _ _) _)
  · have hno : ¬ headOK b := fun hh => h64 hh.1
    have hne : ((b.length : Int) != 64) = true := by simp; omega
    have hne2 : ¬ (b.length : Int) = 64 := by omega
    clear hw0
    go_enter Try.func15, Try.ntmps15
    go_wp2
    refine bodyPost_ret (results_ctt rfl _ _ w.heap.size 28 _ _ _ rfl (heap_alloc_new w _) Try.underlying28 rfl (by kernel_rfl)) rfl ?_
    exact head_none hno rfl (below_alloc (Below.refl _ _) _)
end Go.Proofs.Ytekhmkfiepnnkaa

set_option linter.unusedVariables false
set_option linter.unusedSimpArgs false
namespace Go.Proofs.Ytekhmkfiepnnkaa
open Go.RowKit Go.Proofs.YtekhmkfiepnnkaaW.PrintWords Go.Proofs.YtekhmkfiepnnkaaW.PrintMore

theorem rdead_any {w : World} {ok : Nat → Prop} {p : Nat} {D : DM} (h : RDisk w ok p D) :
  Calls Try.prog 89 #[.pointer (some ⟨p, 0, none⟩)] w fun e w' => e = .returned (.bool D.gone) ∧ w = w' := by
  obtain ⟨hwf, g, cap, wv, hb⟩ := h
  have c1 := hb.cell1
  go_enter Try.func89, Try.ntmps89
  go_wp2
  go_ret
  exact ⟨rfl, rfl⟩
theorem asked_any {w : World} {ok : Nat → Prop} {p : Nat} {D : DM} (h : RDisk w ok p D) (base end_ : Int) :
  Calls Try.prog 84 #[.pointer (some ⟨p, 0, none⟩), .int .i64 base, .int .i64 end_] w fun e w' => e = .returned (.int .i64 (regE D base end_)) ∧ w = w' := by
  have hb := rdblocks_any h
  have hd := rdead_any h
  unfold regE
  generalize D.n = n at hb ⊢
  generalize D.gone = gg at hd ⊢
  by_cases h1 : base < 0
  · rw [if_pos (.inl h1)]
    go_enter Try.func84, Try.ntmps84
    go_wp2
    go_ret
    exact ⟨rfl, rfl⟩
  · by_cases h2 : end_ < base
    · rw [if_pos (.inr (.inl h2))]
      go_enter Try.func84, Try.ntmps84
      go_wp2
      go_ret
      exact ⟨rfl, rfl⟩
    · by_cases h3 : (n : Int) < end_
      · rw [if_pos (.inr (.inr h3))]
        go_enter Try.func84, Try.ntmps84
        go_wp2_with fail
        refine hb.mono ?_
        rintro e w' ⟨rfl, rfl⟩
        go_wp2
        go_ret
        exact ⟨rfl, rfl⟩
      · rw [if_neg (by omega)]
        cases gg with
        | true =>
          rw [if_pos rfl]
          go_enter Try.func84, Try.ntmps84
          go_wp2_with fail
          refine hb.mono ?_
          rintro e w' ⟨rfl, rfl⟩
          go_wp2_with fail
          refine hd.mono ?_
          rintro e w' ⟨rfl, rfl⟩
          go_wp2
          go_ret
          exact ⟨rfl, rfl⟩
        | false =>
          rw [if_neg (by simp)]
          go_enter Try.func84, Try.ntmps84
          go_wp2_with fail
          refine hb.mono ?_
          rintro e w' ⟨rfl, rfl⟩
          go_wp2_with fail
          refine hd.mono ?_
          rintro e w' ⟨rfl, rfl⟩
          go_wp2
          go_ret
          exact ⟨rfl, rfl⟩
end Go.Proofs.Ytekhmkfiepnnkaa

set_option linter.unusedVariables false
set_option linter.unusedSimpArgs false
namespace Go.Proofs.Ytekhmkfiepnnkaa
open Go.RowKit Go.Proofs.YtekhmkfiepnnkaaW.PrintWords Go.Proofs.YtekhmkfiepnnkaaW.PrintMore

/-! ### Blocks that are written -/
theorem splice_get {α : Type} {L vs : List α} {off : Nat} (h : off + vs.length ≤ L.length) (k : Nat) : (splice L off vs)[k]? = if off ≤ k ∧ k < off + vs.length then vs[k - off]? else L[k]? := by
  unfold splice
  have hl : (L.take off).length = off := by rw [List.length_take]; omega
  by_cases h1 : k < off
  · rw [if_neg (by omega), List.getElem?_append_left (by omega), List.getElem?_take, if_pos h1]
  · rw [List.getElem?_append_right (by omega), hl]
    by_cases h2 : k < off + vs.length
    · rw [if_pos ⟨by omega, h2⟩, List.getElem?_append_left (by omega)]
    · rw [if_neg (by omega), List.getElem?_append_right (by omega), List.getElem?_drop]
      congr 1
      omega
theorem blk_get (D : DM) (j k : Nat) : (D.blk j)[k]? = if k < 64 then D.b[j * 64 + k]? else none := by
  unfold DM.blk
  rw [List.getElem?_take]
  split
  · rw [List.getElem?_drop]
  · rfl
theorem blk_splice {D D' : DM} {n i : Nat} {xs : List Int} (hb : D.b.length = 64 * n) (hi : i < n) (hx : xs.length = 64) (hD : D'.b = splice D.b (i * 64) xs) (j : Nat) : D'.blk j = if j = i then xs else D.blk j := by
  apply List.ext_getElem?
  intro k
  rw [blk_get, hD]
  by_cases hk : k < 64
  · rw [if_pos hk, splice_get (by omega)]
    by_cases hj : j = i
    · subst hj
      rw [if_pos (by omega), if_pos rfl]
      congr 1
      omega
    · rw [if_neg (by omega), if_neg hj, blk_get, if_pos hk]
  · rw [if_neg hk]
    split
    · rw [List.getElem?_eq_none (by omega)]
    · rw [blk_get, if_neg hk]
/-- One write on a disk that is on: the blocks behind it. -/
theorem write_on {D : DM} (h : D.wf) (hg : D.gone = false) {i : Int} (hi : 0 ≤ i ∧ i < D.n) {xs : List Int} (hx : xs.length = 64) (hl : ¬ D.left = 0) :
    D.writeE i xs = 0 ∧ (D.writeD i xs).gone = false ∧ (D.writeD i xs).left = (if 0 < D.left then D.left - 1 else D.left) ∧ (D.writeD i xs).n = D.n ∧ (D.writeD i xs).ws = D.ws ++ [(i, xs)] ∧
    ∀ j, (D.writeD i xs).blk j = if (j : Int) = i then xs else D.blk j := by
  obtain ⟨m, rfl⟩ := Int.eq_ofNat_of_zero_le hi.1
  have hr : D.ready m = 0 := ready_in hg (by omega)
  have hE : D.writeE m xs = 0 := by unfold DM.writeE; rw [if_neg (by simp [hr]), if_neg (by simp [hx]), if_neg hl]
  have hD : D.writeD m xs = { b := splice D.b (m * 64) xs, left := if 0 < D.left then D.left - 1 else D.left, gone := D.gone, ws := D.ws ++ [((m : Int), xs)] } := by
    unfold DM.writeD
    rw [if_neg (by simp [hr]), if_neg (by simp [hx]), if_neg hl]
    simp
  have hb := h.len
  have hn : (splice D.b (m * 64) xs).length = D.b.length := length_splice _ _ _ (by omega)
  refine ⟨hE, by rw [hD]; exact hg, by rw [hD], by rw [hD]; simp only [DM.n, hn], by rw [hD], fun j => ?_⟩
  rw [blk_splice (D := D) (D' := D.writeD m xs) (i := m) hb (by omega) hx (by rw [hD]) j]
  by_cases hj : j = m
  · rw [if_pos hj, if_pos (by omega)]
  · rw [if_neg hj, if_neg (by omega)]
theorem write_off {D : DM} (hg : D.gone = false) {i : Int} (hi : 0 ≤ i ∧ i < D.n) {xs : List Int} (hx : xs.length = 64) (hl : D.left = 0) :
    D.writeE i xs = 61 ∧ D.writeD i xs = { D with gone := true } := by
  obtain ⟨m, rfl⟩ := Int.eq_ofNat_of_zero_le hi.1
  have hr : D.ready m = 0 := ready_in hg (by omega)
  constructor
  · unfold DM.writeE; rw [if_neg (by simp [hr]), if_neg (by simp [hx]), if_pos hl]
  · unfold DM.writeD
    rw [if_neg (by simp [hr]), if_neg (by simp [hx]), if_pos hl]
/-- What stands in the blocks behind some writes. -/
def after (b0 : Int) : List (Int × List Int) → (Nat → List Int) → Nat → List Int
  | [], f => f
  | x :: l, f => after b0 l (fun j => if (j : Int) = b0 + x.1 then x.2 else f j)
theorem after_congr (b0 : Int) : ∀ (l : List (Int × List Int)) {f g : Nat → List Int}, (∀ j, f j = g j) → ∀ j, after b0 l f j = after b0 l g j
  | [], _, _, h, j => h j
  | x :: l, f, g, h, j => after_congr b0 l (fun j => by simp only [h j]) j
theorem after_append (b0 : Int) : ∀ (l m : List (Int × List Int)) (f : Nat → List Int), after b0 (l ++ m) f = after b0 m (after b0 l f)
  | [], _, _ => rfl
  | x :: l, m, f => after_append b0 l m _
/-- How many of m writes are done. -/
def done_ (left : Int) (m : Nat) : Nat := if left < 0 then m else min left.toNat m
def Fine (b0 : Int) (n : Nat) (l : List (Int × List Int)) : Prop := ∀ x ∈ l, 0 ≤ b0 + x.1 ∧ b0 + x.1 < n ∧ x.2.length = 64 ∧ Bytes x.2
theorem puts_any (b0 : Int) : ∀ (l : List (Int × List Int)) (D : DM), D.wf → D.gone = false → Fine b0 D.n l →
    (puts b0 D l).2 = (if done_ D.left l.length < l.length then 61 else 0) ∧ (puts b0 D l).1.wf ∧ (puts b0 D l).1.gone = decide (done_ D.left l.length < l.length) ∧
    (puts b0 D l).1.left = (if D.left < 0 then D.left else D.left - (done_ D.left l.length : Nat)) ∧ (puts b0 D l).1.n = D.n ∧
    (puts b0 D l).1.ws = D.ws ++ (l.take (done_ D.left l.length)).map (fun x => (b0 + x.1, x.2)) ∧ ∀ j, (puts b0 D l).1.blk j = after b0 (l.take (done_ D.left l.length)) D.blk j
  | [], D, hw, hg, _ => by
    have : done_ D.left 0 = 0 := by unfold done_; split <;> simp
    simp only [puts, List.length_nil, this]
    refine ⟨by simp, hw, by simp [hg], ?_, trivial, by simp, fun j => by simp [after]⟩
    split <;> simp
  | x :: l, D, hw, hg, hF => by
    obtain ⟨h1, h2, h3, h4⟩ := hF x (List.mem_cons_self ..)
    by_cases hl : D.left = 0
    · obtain ⟨e1, e2⟩ := write_off hg ⟨h1, h2⟩ h3 hl
      have hd : done_ D.left (l.length + 1) = 0 := by unfold done_; rw [hl]; simp
      simp only [puts, e1, List.length_cons, hd]
      rw [if_neg (by decide), e2]
      exact ⟨by simp, ⟨hw.len, hw.lo, hw.hi, hw.l1, hw.l2, hw.bytes, hw.wsB⟩, by simp, by simp [hl], rfl, by simp, fun j => by simp [after, DM.blk]⟩
    · obtain ⟨e1, e2, e3, e4, e5, e6⟩ := write_on hw hg ⟨h1, h2⟩ h3 hl
      have hw' := writeD_wf hw h4 (b0 + x.1)
      obtain ⟨i1, i2, i3, i4, i5, i6, i7⟩ := puts_any b0 l (D.writeD (b0 + x.1) x.2) hw' e2 (fun y hy => by rw [e4]; exact hF y (List.mem_cons_of_mem _ hy))
      have hd : done_ D.left (l.length + 1) = done_ (D.writeD (b0 + x.1) x.2).left l.length + 1 := by
        rw [e3]
        unfold done_
        by_cases hn : D.left < 0
        · rw [if_neg (show ¬ 0 < D.left by omega), if_pos hn, if_pos hn]
        · rw [if_pos (show 0 < D.left by omega), if_neg hn, if_neg (by omega)]
          omega
      simp only [puts, List.length_cons, if_pos e1, hd]
      refine ⟨?_, i2, ?_, ?_, i5.trans e4, ?_, fun j => ?_⟩
      · rw [i1]
        by_cases hq : done_ (D.writeD (b0 + x.1) x.2).left l.length < l.length
        · rw [if_pos hq, if_pos (by omega)]
        · rw [if_neg hq, if_neg (by omega)]
      · rw [i3]
        congr 1
        simp
      · rw [i4, e3]
        by_cases hn : D.left < 0
        · rw [if_neg (show ¬ 0 < D.left by omega), if_pos hn, if_pos hn]
        · rw [if_pos (show 0 < D.left by omega), if_neg (by omega), if_neg hn]
          omega
      · rw [i6, e5]
        simp
      · rw [i7 j, List.take_succ_cons]
        exact after_congr b0 _ (fun j => by rw [e6 j]) j
end Go.Proofs.Ytekhmkfiepnnkaa

set_option linter.unusedVariables false
set_option linter.unusedSimpArgs false
namespace Go.Proofs.Ytekhmkfiepnnkaa
open Go.RowKit Go.Proofs.YtekhmkfiepnnkaaW.PrintWords Go.Proofs.YtekhmkfiepnnkaaW.PrintMore

theorem take_app {α : Type} {a b : List α} {n : Nat} (h : a.length = n) : (a ++ b).take n = a := by subst h; simp
theorem drop_app {α : Type} {a b : List α} {n : Nat} (h : a.length = n) : (a ++ b).drop n = b := by subst h; simp
theorem val_be_lt {n : Int} {m : Nat} (h0 : 0 ≤ n) (h : n < 256 ^ m) : val (be n m) = n := by rw [val_be m n h0]; exact Int.emod_eq_of_lt h0 h
theorem pow8 : (256 : Int) ^ 8 = 18446744073709551616 := by decide
theorem pow4 : (256 : Int) ^ 4 = 4294967296 := by decide
theorem pow2 : (256 : Int) ^ 2 = 65536 := by decide
theorem blank_zeros (n : Nat) : blank (List.replicate n 0) = true := by unfold blank; simp
/-! ### A head -/
theorem head_drop2 (r : SR) : (headB r).drop 2 = be r.gen 8 ++ (be r.at_ 2 ++ (r.kind :: (be r.bytes.length 4 ++ padTo 47 (r.bytes.take 47)))) := rfl
theorem head_drop10 (r : SR) : (headB r).drop 10 = be r.at_ 2 ++ (r.kind :: (be r.bytes.length 4 ++ padTo 47 (r.bytes.take 47))) := by
  rw [show (10 : Nat) = 2 + 8 from rfl, ← List.drop_drop, head_drop2, drop_app (be_length _ _)]
theorem head_drop12 (r : SR) : (headB r).drop 12 = r.kind :: (be r.bytes.length 4 ++ padTo 47 (r.bytes.take 47)) := by
  rw [show (12 : Nat) = 10 + 2 from rfl, ← List.drop_drop, head_drop10, drop_app (be_length _ _)]
theorem head_drop13 (r : SR) : (headB r).drop 13 = be r.bytes.length 4 ++ padTo 47 (r.bytes.take 47) := by
  rw [show (13 : Nat) = 12 + 1 from rfl, ← List.drop_drop, head_drop12]; rfl
theorem head_drop17 (r : SR) : (headB r).drop 17 = padTo 47 (r.bytes.take 47) := by
  rw [show (17 : Nat) = 13 + 4 from rfl, ← List.drop_drop, head_drop13, drop_app (be_length _ _)]
theorem head_num2 {r : SR} (h : r.right) : numAt (headB r) 2 8 = r.gen := by
  unfold numAt
  rw [head_drop2, take_app (be_length _ _)]
  exact val_be_lt (by have := h.g; omega) (by rw [pow8]; exact h.g.2)
theorem head_num10 {r : SR} (h : r.right) : numAt (headB r) 10 2 = r.at_ := by
  unfold numAt
  rw [head_drop10, take_app (be_length _ _)]
  exact val_be_lt h.a.1 (by rw [pow2]; have := h.a.2; omega)
theorem head_num13 {r : SR} (h : r.right) : numAt (headB r) 13 4 = (r.bytes.length : Int) := by
  unfold numAt
  rw [head_drop13, take_app (be_length _ _)]
  exact val_be_lt (by omega) (by rw [pow4]; have := h.l; omega)
theorem head_12 (r : SR) : (headB r).getD 12 0 = r.kind := by
  have h2 : ((headB r).drop 12)[0]? = some r.kind := by rw [head_drop12]; rfl
  rw [List.getElem?_drop] at h2
  rw [List.getD_eq_getElem?_getD, show (12 : Nat) = 12 + 0 from rfl, h2]; rfl
theorem head_M {r : SR} (h : r.right) : headM (headB r) = (r.bytes.take 47).length := by unfold headM; rw [head_num13 h, List.length_take]; omega
theorem head_OK {r : SR} (h : r.right) : headOK (headB r) := by
  refine ⟨headB_length r, rfl, by rw [head_num2 h]; have := h.g; omega, by rw [head_num13 h]; have := h.l; omega, ?_⟩
  rw [head_M h, ← List.drop_drop, head_drop17]
  unfold padTo
  rw [drop_app rfl]
  exact blank_zeros _
theorem head_R {r : SR} (h : r.right) : headR (headB r) = ⟨r.gen, r.at_, r.kind, r.bytes.take 47⟩ := by
  unfold headR
  rw [if_pos (head_OK h), head_num2 h, head_num10 h, head_12, head_drop17, head_M h]
  unfold padTo
  rw [take_app rfl]
theorem head_N {r : SR} (h : r.right) : headN (headB r) = (r.bytes.length : Int) := by unfold headN; rw [if_pos (head_OK h), head_num13 h]
/-! ### A body -/
theorem body_drop2 (r : SR) (k : Nat) : (bodyB r k).drop 2 = be r.gen 8 ++ (be r.at_ 2 ++ (be k 2 ++ padTo 50 ((r.bytes.drop (47 + 50 * (k - 1))).take 50))) := rfl
theorem body_drop10 (r : SR) (k : Nat) : (bodyB r k).drop 10 = be r.at_ 2 ++ (be k 2 ++ padTo 50 ((r.bytes.drop (47 + 50 * (k - 1))).take 50)) := by
  rw [show (10 : Nat) = 2 + 8 from rfl, ← List.drop_drop, body_drop2, drop_app (be_length _ _)]
theorem body_drop12 (r : SR) (k : Nat) : (bodyB r k).drop 12 = be k 2 ++ padTo 50 ((r.bytes.drop (47 + 50 * (k - 1))).take 50) := by
  rw [show (12 : Nat) = 10 + 2 from rfl, ← List.drop_drop, body_drop10, drop_app (be_length _ _)]
theorem body_drop14 (r : SR) (k : Nat) : (bodyB r k).drop 14 = padTo 50 ((r.bytes.drop (47 + 50 * (k - 1))).take 50) := by
  rw [show (14 : Nat) = 12 + 2 from rfl, ← List.drop_drop, body_drop12, drop_app (be_length _ _)]
theorem body_num2 {r : SR} (h : r.right) (k : Nat) : numAt (bodyB r k) 2 8 = r.gen := by
  unfold numAt
  rw [body_drop2, take_app (be_length _ _)]
  exact val_be_lt (by have := h.g; omega) (by rw [pow8]; exact h.g.2)
theorem body_num10 {r : SR} (h : r.right) (k : Nat) : numAt (bodyB r k) 10 2 = r.at_ := by
  unfold numAt
  rw [body_drop10, take_app (be_length _ _)]
  exact val_be_lt h.a.1 (by rw [pow2]; have := h.a.2; omega)
theorem body_num12 (r : SR) {k : Nat} (hk : k ≤ 65535) : numAt (bodyB r k) 12 2 = (k : Int) := by
  unfold numAt
  rw [body_drop12, take_app (be_length _ _)]
  exact val_be_lt (by omega) (by rw [pow2]; omega)
theorem body_V {r : SR} (h : r.right) {k : Nat} (h0 : 0 < k) (hk : k ≤ 65535) : bodyV (bodyB r k) = (r.gen, r.at_, (k : Int), true) := by
  unfold bodyV
  rw [if_pos ⟨bodyB_length r k, rfl, by rw [body_num2 h]; have := h.g; omega, by rw [body_num12 r hk]; omega⟩, body_num2 h, body_num10 h, body_num12 r hk]
theorem body_headR (r : SR) (k : Nat) : headR (bodyB r k) = ⟨0, 0, 0, []⟩ ∧ ¬ headOK (bodyB r k) := by
  have hn : ¬ headOK (bodyB r k) := by
    rintro ⟨_, h, _⟩
    have h2 : (bodyB r k).take 2 = [102, 98] := rfl
    rw [h2] at h
    cases h
  exact ⟨(head_no hn).1, hn⟩
/-- The bytes of a body block. -/
def partB (r : SR) (k : Nat) : List Int := (r.bytes.drop (47 + 50 * k)).take 50
theorem partB_len (r : SR) (k : Nat) : (partB r k).length = hasK r.bytes.length k := by unfold partB hasK; rw [List.length_take, List.length_drop]; omega
theorem body_part (r : SR) (k : Nat) : ((bodyB r (k + 1)).drop 14).take (hasK r.bytes.length k) = partB r k := by
  rw [body_drop14]
  show (padTo 50 (partB r k)).take _ = _
  unfold padTo
  exact take_app (partB_len r k)
theorem body_blank (r : SR) (k : Nat) : blank ((bodyB r (k + 1)).drop (14 + hasK r.bytes.length k)) = true := by
  rw [← List.drop_drop, body_drop14]
  show blank ((padTo 50 (partB r k)).drop _) = true
  unfold padTo
  rw [drop_app (partB_len r k)]
  exact blank_zeros _
theorem take_part (r : SR) (k : Nat) : r.bytes.take (47 + 50 * k) ++ partB r k = r.bytes.take (47 + 50 * (k + 1)) := by
  unfold partB
  rw [show 47 + 50 * (k + 1) = (47 + 50 * k) + 50 from by omega]
  exact (List.take_add ..).symm
theorem bodies_eq (r : SR) : bodies r = bodiesN r.bytes.length := rfl
/-- Where the blocks of a record stand, it is read. -/
theorem reads_there {D : DM} {r : SR} (h : r.right) {base end_ b : Nat} (hb : base + r.at_ = (b : Int)) (hE : readE D base end_ r.at_ = 0) (hfit : b + bodies r < end_) (h0 : D.blk b = headB r) (hk : ∀ k, k < bodies r → D.blk (b + (k + 1)) = bodyB r (k + 1)) :
    readV D base end_ r.gen r.at_ = some r := by
  obtain ⟨a, ha⟩ := Int.eq_ofNat_of_zero_le h.a.1
  have hba : base + a = b := by omega
  have hnd := need_bodies h.l
  have hbl := bodies_le h
  rw [ha] at hE ⊢
  rw [readV_in r.gen hE (by omega), hba, h0, head_R h, head_N h]
  have hn : ((r.bytes.length : Nat) : Int).toNat = r.bytes.length := by simp
  rw [hn, if_pos]
  · have hB : ∀ k, k ≤ bodies r → bytesK D b r.bytes.length k = r.bytes.take (47 + 50 * k) := by
      intro k
      induction k with
      | zero => intro _; simp only [bytesK]; rw [h0, head_R h]
      | succ k ih =>
        intro hle
        simp only [bytesK]
        rw [ih (by omega), hk k (by omega), body_part, take_part]
    have hfull : r.bytes.take (47 + 50 * bodies r) = r.bytes := List.take_of_length_le (by unfold bodies; omega)
    rw [← bodies_eq, hB _ (Nat.le_refl _), hfull]
    obtain ⟨g, a', k', bs⟩ := r
    simp only at ha ⊢
    rw [ha]
  · refine ⟨head_OK h, rfl, ha, by rw [hnd]; omega, ?_⟩
    refine all_range_true (fun k hlt => ?_)
    rw [← bodies_eq] at hlt
    unfold goodK
    rw [hk k hlt, body_V h (by omega) (by omega), ha, body_blank]
    simp
end Go.Proofs.Ytekhmkfiepnnkaa

set_option linter.unusedVariables false
set_option linter.unusedSimpArgs false
namespace Go.Proofs.Ytekhmkfiepnnkaa
open Go.RowKit Go.Proofs.YtekhmkfiepnnkaaW.PrintWords Go.Proofs.YtekhmkfiepnnkaaW.PrintMore

theorem order_len (r : SR) : (order r).length = bodies r + 1 := by simp [order]
theorem order_fine {r : SR} (h : r.right) {b0 : Int} {n : Nat} (h0 : 0 ≤ b0) (hn : b0 + bodies r < n) : Fine b0 n (order r) := by
  intro x hx
  unfold order at hx
  rcases List.mem_append.1 hx with hx | hx
  · obtain ⟨i, hi, rfl⟩ := List.mem_map.1 hx
    have := List.mem_range.1 hi
    dsimp only
    exact ⟨by omega, by omega, bodyB_length _ _, bodyB_bytes h _⟩
  · rw [List.mem_singleton.1 hx]
    dsimp only
    exact ⟨by omega, by omega, headB_length _, headB_bytes h⟩
/-- Body blocks alone. -/
def bodyL (r : SR) (m : Nat) : List (Int × List Int) := (List.range m).map fun (i : Nat) => ((i : Int) + 1, bodyB r (i + 1))
theorem after_bodies (r : SR) (b : Nat) (f : Nat → List Int) : ∀ m j, after (b : Int) (bodyL r m) f j = if b < j ∧ j ≤ b + m then bodyB r (j - b) else f j
  | 0, j => by rw [if_neg (by omega)]; rfl
  | m + 1, j => by
    have e : bodyL r (m + 1) = bodyL r m ++ [((m : Int) + 1, bodyB r (m + 1))] := by unfold bodyL; rw [List.range_succ, List.map_append]; rfl
    rw [e, after_append]
    show (if (j : Int) = (b : Int) + ((m : Int) + 1) then bodyB r (m + 1) else after (b : Int) (bodyL r m) f j) = _
    rw [after_bodies r b f m j]
    by_cases hj : j = b + (m + 1)
    · rw [if_pos (by omega), if_pos (by omega), hj]
      congr 1
      omega
    · rw [if_neg (by omega)]
      by_cases h2 : b < j ∧ j ≤ b + m
      · rw [if_pos h2, if_pos (by omega)]
      · rw [if_neg h2, if_neg (by omega)]
theorem order_take (r : SR) {m : Nat} (hm : m ≤ bodies r) : (order r).take m = bodyL r m := by
  unfold order
  rw [List.take_append_of_le_length (by simp; exact hm), ← List.map_take, List.take_range, Nat.min_eq_left hm]
  rfl
theorem after_order (r : SR) (b : Nat) (f : Nat → List Int) (j : Nat) : after (b : Int) (order r) f j = if j = b then headB r else if b < j ∧ j ≤ b + bodies r then bodyB r (j - b) else f j := by
  have e : order r = bodyL r (bodies r) ++ [(0, headB r)] := rfl
  rw [e, after_append]
  show (if (j : Int) = (b : Int) + 0 then headB r else after (b : Int) (bodyL r (bodies r)) f j) = _
  rw [after_bodies]
  by_cases hj : j = b
  · rw [if_pos (by omega), if_pos hj]
  · rw [if_neg (by omega), if_neg hj]
/-- What a record's Write makes of the blocks, m writes of it being done. -/
def sealedB (r : SR) (b m : Nat) (f : Nat → List Int) (j : Nat) : List Int :=
  if m = bodies r + 1 ∧ j = b then headB r else if b < j ∧ j ≤ b + min m (bodies r) then bodyB r (j - b) else f j
theorem after_take (r : SR) (b m : Nat) (hm : m ≤ bodies r + 1) (f : Nat → List Int) (j : Nat) : after (b : Int) ((order r).take m) f j = sealedB r b m f j := by
  unfold sealedB
  by_cases h : m = bodies r + 1
  · rw [h, ← order_len, List.take_length, after_order, order_len]
    simp
  · rw [order_take r (by omega), after_bodies, if_neg (show ¬ (m = bodies r + 1 ∧ j = b) from fun hh => h hh.1), Nat.min_eq_left (by omega)]
/-- Write on a disk that is on. -/
structure Sealed (D D' : DM) (b m : Nat) (r : SR) : Prop where
  wf : D'.wf
  gone : D'.gone = decide (m < bodies r + 1)
  left : D'.left = if D.left < 0 then D.left else D.left - (m : Nat)
  n : D'.n = D.n
  ws : D'.ws = D.ws ++ ((order r).take m).map (fun x => ((b : Int) + x.1, x.2))
  blk : ∀ j, D'.blk j = sealedB r b m D.blk j
theorem done_le (left : Int) (m : Nat) : done_ left m ≤ m := by unfold done_; split <;> omega
theorem sealW_right {D : DM} (hw : D.wf) (hg : D.gone = false) {r : SR} (hr : r.right) {base : Int} {b : Nat} (hb : base + r.at_ = (b : Int)) (h0 : 0 ≤ base) (hn : base ≤ D.n) (hfit : b + bodies r < D.n) :
    (D.sealW base r).2 = (if done_ D.left (bodies r + 1) < bodies r + 1 then 61 else 0) ∧ Sealed D (D.sealW base r).1 b (done_ D.left (bodies r + 1)) r := by
  have he : sealE r = 0 := by
    have h1 := hr.g; have h2 := hr.a; have h3 := hr.k; have h4 := hr.l
    unfold sealE
    rw [if_neg (by omega), if_neg (by omega)]
  have hnd := need_bodies hr.l
  have hX : D.sealW base r = puts (base + r.at_) D (order r) := by
    unfold DM.sealW
    rw [if_neg (by simp [he]), if_neg (by rw [hnd]; omega)]
  have hF : Fine (base + r.at_) D.n (order r) := order_fine hr (by omega) (by omega)
  obtain ⟨p1, p2, p3, p4, p5, p6, p7⟩ := puts_any _ _ D hw hg hF
  rw [order_len] at p1 p3 p4 p6 p7
  rw [hX]
  refine ⟨p1, p2, p3, p4, p5, ?_, fun j => ?_⟩
  · rw [p6]
    congr 1
    rw [hb]
  · rw [p7 j, hb]
    exact after_take r b _ (done_le _ _) _ j
/-! ### Gen -/
theorem genK_le {D : DM} {b0 : Nat} {M : Int} (h0 : 0 ≤ M) : ∀ k, (∀ i, i < k → (headR (D.blk (b0 + i))).gen ≤ M ∧ (bodyV (D.blk (b0 + i))).1 ≤ M) → genK D b0 k ≤ M
  | 0, _ => h0
  | k + 1, h => by
    have h1 := genK_le h0 k (fun i hi => h i (by omega))
    have h2 := h k (by omega)
    simp only [genK]
    omega
end Go.Proofs.Ytekhmkfiepnnkaa

set_option linter.unusedVariables false
set_option linter.unusedSimpArgs false
namespace Go.Proofs.Ytekhmkfiepnnkaa
open Go.RowKit Go.Proofs.YtekhmkfiepnnkaaW.PrintWords Go.Proofs.YtekhmkfiepnnkaaW.PrintMore

structure On64 (D : DM) : Prop where
  wf : D.wf
  gone : D.gone = false
  left : D.left = -1
  n : D.n = 64
end Go.Proofs.Ytekhmkfiepnnkaa

set_option linter.unusedVariables false
set_option linter.unusedSimpArgs false
namespace Go.Proofs.Ytekhmkfiepnnkaa
open Go.RowKit Go.Proofs.YtekhmkfiepnnkaaW.PrintWords

/-- A value of type t, where it is read, is of kind K and obeys G. -/
structure Opens (P : Program) (t : TypeId) {α : Type} (K : Kd α) (G : α → Prop) : Prop where
  go : ∀ {H : Type} {enc : TypeId × Value → H} {W : World} {base : Nat} {spare : Nat → Bool} {held : Bool} {fuel : Nat} {cs : List Value} {d : DataW H} {ps : List MemPlace},
    DataW.trod enc P W base spare held fuel t cs = some (d, ps) → (∀ n ∈ d.weights P t, n ≤ reachBytes) → ∃ x, K.K W x cs ∧ G x
/-- The same of a struct's fields, from the offset off on. -/
structure OpensF (P : Program) (fs : List Field) (off : Nat) {α : Type} (K : Kd α) (G : α → Prop) : Prop where
  go : ∀ {H : Type} {enc : TypeId × Value → H} {W : World} {base : Nat} {spare : Nat → Bool} {held : Bool} {fuel : Nat} {cs : List Value} {xs : List (DataW H × List MemPlace)},
    cs.length = off + K.sz → xs.length = fs.length → (∀ (i : Nat) (f : Field), fs[i]? = some f → DataW.trod enc P W base spare held fuel f.type ((cs.drop f.offset).take (P.cellsOf f.type)) = xs[i]?) →
    (∀ n ∈ DataW.weightsEach P (fs.map (·.type)) (xs.map (·.1)), n ≤ reachBytes) → ∃ x, K.K W x (cs.drop off) ∧ G x

section
variable {P : Program} {t e : TypeId}

theorem opens_int {k : IntKind} (ht : P.underlying t = some (.int k)) : Opens P t (Kd.int k) (fun n => (Lit.int k n).wf = true) := by
  constructor
  intro H enc W base spare held fuel cs d ps h _
  obtain ⟨n, rfl, _, hw⟩ := DataW.trod_int ht h
  exact ⟨n, rfl, hw⟩
theorem weightsAll_mem {H : Type} {ds : List (DataW H)} {d : DataW H} (hd : d ∈ ds) {n : Nat} (hn : n ∈ d.weights P e) : n ∈ DataW.weightsAll P e ds := by
  induction ds with
  | nil => simp at hd
  | cons a r ih =>
    simp only [DataW.weightsAll, List.mem_append]
    rcases List.mem_cons.1 hd with rfl | hd
    · exact .inl hn
    · exact .inr (ih hd)
theorem opens_slice {α : Type} {K : Kd α} {G : α → Prop} {B : Nat} (ht : P.underlying t = some (.slice e)) (hc : P.cellsOf e = K.sz) (hB : P.bytesOf e = B) (hO : Opens P e K G) :
    Opens P t (Kd.slice e K) (fun xs => (∀ x ∈ xs, G x) ∧ xs.length * B ≤ 140737488351232) := by
  constructor
  intro H enc W base spare held fuel cs d ps h hw
  rcases Go.Deep.open_slice ht h with ⟨rfl, hx⟩ | ⟨a, len, cap, m, n, D, Pl, rfl, _, hl, hm, hmm, hx, hel⟩
  · exact ⟨[], ⟨none, 0, rfl, Nat.le_refl _, rfl, by simp, fun h => absurd h (by simp)⟩, by simp, by simp⟩
  · obtain ⟨rfl, _⟩ := Prod.mk.inj hx
    have hlm : len ≤ m := by rw [hmm]; split <;> omega
    have one : ∀ i, i < len → ∃ x, (∃ cs', W.cells? base (a.add (i * P.cellsOf e)) (P.cellsOf e) = some cs' ∧ K.K W x cs') ∧ G x := fun i hi => by
      obtain ⟨cs', h1, h2⟩ := hel i (by omega)
      obtain ⟨x, hk, hg⟩ := hO.go h2 (fun n hn => hw n (by
        simp only [DataW.weights, ht]
        exact List.mem_cons_of_mem _ (List.mem_append_left _ (weightsAll_mem (List.mem_map.2 ⟨i, List.mem_range.2 hi, rfl⟩) hn))))
      exact ⟨x, ⟨cs', h1, hk⟩, hg⟩
    rcases Nat.eq_zero_or_pos len with h0 | h0
    · subst h0
      exact ⟨[], ⟨some a, cap, rfl, Nat.zero_le _, rfl, by simp, fun h => absurd h (by simp)⟩, by simp, by simp⟩
    · obtain ⟨x0, _⟩ := one 0 h0
      haveI : Inhabited α := ⟨x0⟩
      obtain ⟨X, hX⟩ := Go.Deep.choose_lt (α := α) (p := fun i x => (∃ cs', W.cells? base (a.add (i * P.cellsOf e)) (P.cellsOf e) = some cs' ∧ K.K W x cs') ∧ G x) one
      have hlen : ((List.range len).map X).length = len := by simp
      refine ⟨(List.range len).map X, ⟨some a, cap, by rw [hlen], by rw [hlen]; exact hl, hlen.symm ▸ rfl, ?_, ?_⟩, ?_, ?_⟩
      · rw [hlen]; exact Nat.le_trans hl (Nat.le_trans hm (by decide))
      · intro _
        refine ⟨a, rfl, fun j p hj => ?_⟩
        have hjl : j < len := by
          have := (List.getElem?_eq_some_iff.1 hj).1
          simpa using this
        have hp : X j = p := by simpa [hjl] using hj
        obtain ⟨⟨cs', h1, hk⟩, _⟩ := hX j hjl
        rw [← hp]
        refine ⟨cs', K.K_len hk, hk, fun i u hu => ?_⟩
        obtain ⟨_, hlen', hcell⟩ := World.cells?_some h1
        have := hcell i (by have := (List.getElem?_eq_some_iff.1 hu).1; omega)
        rw [Go.Deep.add_add, hc] at this
        rw [this, hu]
      · intro x hx
        obtain ⟨i, hi, rfl⟩ := List.mem_map.1 hx
        exact (hX i (List.mem_range.1 hi)).2
      · have := hw ((((List.range len).map D).length + ((List.range (m - len)).map fun j => D (len + j)).length) * P.bytesOf e) (by simp [DataW.weights, ht])
        rw [hB] at this
        simp only [List.length_map, List.length_range] at this ⊢
        exact Nat.le_trans (Nat.mul_le_mul_right _ (by omega)) this
theorem opensF_one {α : Type} {K : Kd α} {G : α → Prop} {f : Field} {off : Nat} (ho : f.offset = off) (hc : P.cellsOf f.type = K.sz) (hO : Opens P f.type K G) : OpensF P [f] off K G := by
  constructor
  intro H enc W base spare held fuel cs xs hcs hxs hf hw
  match xs, hxs with
  | [(d, ps)], _ =>
    have h := hf 0 f rfl
    have e0 : ((cs.drop f.offset).take (P.cellsOf f.type)) = cs.drop off := by
      rw [ho, hc]; exact List.take_of_length_le (by rw [List.length_drop]; omega)
    rw [e0] at h
    exact hO.go h (fun n hn => hw n (by simpa [DataW.weightsEach] using hn))
theorem opensF_cons {α β : Type} {K : Kd α} {L : Kd β} {G : α → Prop} {G' : β → Prop} {f : Field} {fs : List Field} {off : Nat} (ho : f.offset = off) (hc : P.cellsOf f.type = K.sz) (hO : Opens P f.type K G)
    (hF : OpensF P fs (off + K.sz) L G') : OpensF P (f :: fs) off (Kd.pair K L) (fun x => G x.1 ∧ G' x.2) := by
  constructor
  intro H enc W base spare held fuel cs xs hcs hxs hf hw
  match xs, hxs with
  | (d, ps) :: xs, hxs =>
    have hcs' : cs.length = off + (K.sz + L.sz) := hcs
    have h := hf 0 f rfl
    rw [ho, hc] at h
    obtain ⟨x, hk, hg⟩ := hO.go h (fun n hn => hw n (by simp only [List.map_cons, DataW.weightsEach, List.mem_append]; exact .inl hn))
    obtain ⟨y, hl, hg'⟩ := hF.go (cs := cs) (xs := xs) (by omega) (by simpa using hxs) (fun i g hi => by simpa using hf (i + 1) g (by simpa using hi)) (fun n hn => hw n (by simp only [List.map_cons, DataW.weightsEach, List.mem_append]; exact .inr hn))
    refine ⟨(x, y), ⟨(cs.drop off).take K.sz, cs.drop (off + K.sz), ?_, hk, hl⟩, hg, hg'⟩
    rw [← List.drop_drop, List.take_append_drop]
theorem opens_struct {α : Type} {K : Kd α} {G : α → Prop} {fs : Array Field} (ht : P.underlying t = some (.struct fs)) (hc : P.cellsOf t = K.sz) (hF : OpensF P fs.toList 0 K G) : Opens P t K G := by
  constructor
  intro H enc W base spare held fuel cs d ps h hw
  obtain ⟨xs, n, rfl, hx, hcs, hxs, hf⟩ := DataW.trod_struct ht h
  obtain ⟨rfl, _⟩ := Prod.mk.inj hx
  have := hF.go (enc := enc) (W := W) (base := base) (spare := spare) (held := held) (fuel := n) (cs := cs) (xs := xs) (by omega) (by simpa using hxs) (fun i f hi => hf i f (by simpa using hi))
    (fun n hn => hw n (by simpa [DataW.weights, ht] using hn))
  simpa using this
theorem opens_iso {α β : Type} {K : Kd α} {G : α → Prop} (f : β → α) (g : α → β) (hfg : ∀ x, f (g x) = x) (h : Opens P t K G) : Opens P t (Kd.iso K f) (fun x => G (f x)) := by
  constructor
  intro H enc W base spare held fuel cs d ps hd hw
  obtain ⟨x, hk, hx⟩ := h.go hd hw
  refine ⟨g x, ?_, by show G (f (g x)); rw [hfg]; exact hx⟩
  show K.K W (f (g x)) cs
  rw [hfg]; exact hk
theorem Opens.mono {α : Type} {K : Kd α} {G G' : α → Prop} (h : Opens P t K G) (hG : ∀ x, G x → G' x) : Opens P t K G' := ⟨fun hd hw => by
  obtain ⟨x, hk, hx⟩ := h.go hd hw
  exact ⟨x, hk, hG x hx⟩⟩
/-- Down from a row's weights. -/
theorem Opens.arg {α : Type} {K : Kd α} {G : α → Prop} (hO : Opens P t K G) {H : Type} {enc : TypeId × Value → H} {W : World} {base : Nat} {spare : Nat → Bool} {held : Bool} {v : Value} {d : DataW H} {ps : List MemPlace} {ts : List TypeId} {ds : List (DataW H)} {j : Nat}
    (hsz : (DataW.weightsEach P ts ds).all (· ≤ reachBytes) = true) (ht : ts[j]? = some t) (hd : ds[j]? = some d) (h : DataW.Trod enc P W base spare held t v d ps) : ∃ x, K.K W x v.cells.toList ∧ G x := by
  obtain ⟨fuel, hf⟩ := h
  exact hO.go hf (fun n hn => by
    have := List.all_eq_true.1 hsz _ (DataW.weights_mem_each ht hd n hn)
    simpa using this)
/-- .. of a slice. -/
theorem opens_slice_arg {α : Type} {K : Kd α} {G : List α → Prop} (hO : Opens P t (Kd.slice e K) G) {H : Type} {enc : TypeId × Value → H} {W : World} {base : Nat} {spare : Nat → Bool} {held : Bool} {a : Option Addr} {len cap : Nat} {d : DataW H} {ps : List MemPlace} {ts : List TypeId} {ds : List (DataW H)} {j : Nat}
    (hsz : (DataW.weightsEach P ts ds).all (· ≤ reachBytes) = true) (ht : ts[j]? = some t) (hd : ds[j]? = some d) (h : DataW.Trod enc P W base spare held t (.slice a len cap) d ps) : ∃ xs, len = xs.length ∧ len ≤ cap ∧ K.C W a xs.length xs ∧ G xs := by
  obtain ⟨xs, ⟨A, c, hcs, hl, hC⟩, hg⟩ := hO.arg hsz ht hd h
  simp [Value.cells] at hcs
  obtain ⟨rfl, rfl, rfl⟩ := hcs
  exact ⟨xs, rfl, hl, hC, hg⟩
end
end Go.Proofs.Ytekhmkfiepnnkaa

set_option linter.unusedVariables false
set_option linter.unusedSimpArgs false
namespace Go.Proofs.Ytekhmkfiepnnkaa
open Go.RowKit Go.Proofs.YtekhmkfiepnnkaaW.PrintWords

end Go.Proofs.Ytekhmkfiepnnkaa

set_option linter.unusedVariables false
set_option linter.unusedSimpArgs false
namespace Go.Proofs.Ytekhmkfiepnnkaa
open Go.RowKit Go.Proofs.YtekhmkfiepnnkaaW.PrintWords

abbrev KRec : Kd SR := Kd.iso (Kd.pair (Kd.int .u64) (Kd.pair (Kd.int .i64) (Kd.pair (Kd.int .i64) (Kd.slice 5 KB)))) (fun x : SR => (x.gen, x.at_, x.kind, x.bytes))
def SR.cells (o : SR) (A : Option Addr) (c : Nat) : List Value := [.int .u64 o.gen, .int .i64 o.at_, .int .i64 o.kind, .slice A o.bytes.length c]
theorem KRec_open {w : World} {o : SR} {cs : List Value} (h : KRec.K w o cs) : ∃ A c, cs = o.cells A c ∧ o.bytes.length ≤ c ∧ KB.C w A o.bytes.length o.bytes := by
  obtain ⟨c0, cs1, rfl, h0, c1, cs2, rfl, h1, c2, c3, rfl, h2, A, c, h3, hl, hC⟩ := h
  obtain rfl : c0 = [.int .u64 o.gen] := h0
  obtain rfl : c1 = [.int .i64 o.at_] := h1
  obtain rfl : c2 = [.int .i64 o.kind] := h2
  subst h3
  exact ⟨A, c, rfl, hl, hC⟩
theorem add_add' (a : Addr) (i j : Nat) : (a.add i).add j = a.add (i + j) := by
  unfold Addr.add
  by_cases e1 : i = 0 <;> by_cases e2 : j = 0 <;> simp [e1, e2, Nat.add_assoc]
theorem rec_at {w : World} {ad : Addr} {l : List SR} (h : KRec.C w (some ad) l.length l) {i : Nat} (hi : i < l.length) :
    ∃ A c, (∀ j v, (l[i].cells A c)[j]? = some v → w.cell? ((ad.add (i * 4)).add j) = some v) ∧ l[i].bytes.length ≤ c ∧ KB.C w A l[i].bytes.length l[i].bytes := by
  obtain ⟨ad', cs, hA, hcs, hK, hcell⟩ := Kd.C_get h ⟨0, 0, 0, []⟩ (i : Int) (by omega) (by omega)
  injection hA with hA
  subst hA
  simp only [Int.toNat_natCast] at hK hcell
  have hget : l.getD i ⟨0, 0, 0, []⟩ = l[i] := by simp [List.getD_eq_getElem?_getD, hi]
  rw [hget] at hK
  obtain ⟨A, c, rfl, hl, hC⟩ := KRec_open hK
  refine ⟨A, c, fun j v hj => ?_, hl, hC⟩
  have h3 := hcell j v hj
  rw [add_add']
  exact h3
end Go.Proofs.Ytekhmkfiepnnkaa

set_option linter.unusedVariables false
set_option linter.unusedSimpArgs false
namespace Go.Proofs.Ytekhmkfiepnnkaa
open Go.RowKit Go.Proofs.YtekhmkfiepnnkaaW.PrintWords Go.Proofs.YtekhmkfiepnnkaaW.PrintMore

/-! ### The plain law -/
/-- What the disk is like: from block 1 on no generation above M; block 0 has none. -/
structure GI (D : DM) (M : Int) : Prop where
  on : On64 D
  M0 : 0 ≤ M
  le : ∀ j, 1 ≤ j → j < 64 → (headR (D.blk j)).gen ≤ M ∧ (bodyV (D.blk j)).1 ≤ M
  z : (headR (D.blk 0)).gen = 0 ∧ (bodyV (D.blk 0)).1 = 0
end Go.Proofs.Ytekhmkfiepnnkaa

set_option linter.unusedVariables false
set_option linter.unusedSimpArgs false
namespace Go.Proofs.Ytekhmkfiepnnkaa
open Go.RowKit Go.Shelf Go.Proofs.YtekhmkfiepnnkaaW.PrintWords Go.Proofs.YtekhmkfiepnnkaaW.PrintMore
attribute [local go_sem] Oper.semAt_some

end Go.Proofs.Ytekhmkfiepnnkaa

set_option linter.unusedVariables false
set_option linter.unusedSimpArgs false
namespace Go.Proofs.Ytekhmkfiepnnkaa
open Go.RowKit Go.Shelf Go.Proofs.YtekhmkfiepnnkaaW.PrintWords Go.Proofs.YtekhmkfiepnnkaaW.PrintMore
attribute [local go_sem] Oper.semAt_some

end Go.Proofs.Ytekhmkfiepnnkaa

namespace Go.Proofs.Ytekhmkfiepnnkaa.KCarveC
open Go.RowKit Go.Proofs.YtekhmkfiepnnkaaW.PrintWords Go.Proofs.YtekhmkfiepnnkaaW.PrintLast Go.Proofs.YtekhmkfiepnnkaaW.PrintMore
attribute [local go_sem] max2_int min2_int max_two min_two max_three min_three max_four min_four   -- for this text's walks alone
set_option linter.unusedVariables false
set_option linter.unusedSimpArgs false
open Go.Proofs.Ytekhmkfiepnnkaa.KCarveA
end Go.Proofs.Ytekhmkfiepnnkaa.KCarveC

set_option linter.unusedVariables false
set_option linter.unusedSimpArgs false
namespace Go.Proofs.Ytekhmkfiepnnkaa
open Go.RowKit Go.Proofs.YtekhmkfiepnnkaaW.PrintWords Go.Proofs.YtekhmkfiepnnkaaW.PrintMore

end Go.Proofs.Ytekhmkfiepnnkaa
