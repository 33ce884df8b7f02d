/- Texts of one seat, laid together. -/
import Derived.Test.YtekhmkfiepnnkaaProg
import Derived.Below
import Derived.Deep.Draws
import Derived.Deep.AppendLies
import Derived.Maps.AppendAt
import Derived.OwnWalk
import Derived.Laws.BytesArg
import Derived.Laws.MakeOwn
import Derived.Laws.OwnMore
import Derived.Deep.OwnRows
import Derived.Tactics
import Derived.Lib.ConvBytes
import Derived.Laws.Slices
import Derived.WalkKit
import Derived.KernelRfl
import Derived.RowKit3
import Derived.Deep.LoopGhost
import Derived.Deep.QuietTactic
import Derived.BigQuiet
import Derived.WideLaws
import Derived.Deep.DeepCutAuto
import Derived.Deep.CutBlock
import Derived.Deep.RegionHeld3
import Derived.Laws.Rows
import Derived.Lib.AppendStr
import Derived.ArgAppend
import Derived.Laws.IdiomCopy
import Derived.OrdersHeld
import Derived.Laws.BitsLemmas
import Derived.RowKit
import Derived.Test.YtekhmkfiepnnkaaWWords
import Derived.Test.YtekhmkfiepnnkaaWLast
import Derived.Test.YtekhmkfiepnnkaaWTab
import Derived.Test.YtekhmkfiepnnkaaWFour
import Derived.Test.YtekhmkfiepnnkaaWQPut
import Derived.Test.YtekhmkfiepnnkaaWApart
import Derived.Test.YtekhmkfiepnnkaaWArr
import Derived.Test.YtekhmkfiepnnkaaWZeros
import Derived.Test.YtekhmkfiepnnkaaWFoot
import Derived.Test.YtekhmkfiepnnkaaWKept
import Derived.Test.YtekhmkfiepnnkaaWShare
import Derived.Test.YtekhmkfiepnnkaaWN
import Derived.Test.YtekhmkfiepnnkaaWFootNe
import Derived.Test.YtekhmkfiepnnkaaWAt
import Derived.Test.YtekhmkfiepnnkaaWEqStruct
import Derived.Test.YtekhmkfiepnnkaaWRepsOne
import Derived.Test.YtekhmkfiepnnkaaWInv
import Derived.Test.YtekhmkfiepnnkaaWInvWords
import Derived.Test.YtekhmkfiepnnkaaWGuard
import Derived.Test.YtekhmkfiepnnkaaWNEv
import Derived.Test.YtekhmkfiepnnkaaWMore
import Derived.Deep.Slices
import Derived.SizedLaws
import Derived.OpenShut
import Derived.Test.YtekhmkfiepnnkaaGSA

/- Head: of package seal and of the document. Printed by wip/tools/gen_sealh.py. -/
set_option linter.unusedVariables false
set_option linter.unusedSimpArgs false
namespace Go.Proofs.Ytekhmkfiepnnkaa
open Go.RowKit Go.Proofs.YtekhmkfiepnnkaaW.PrintWords Go.Proofs.YtekhmkfiepnnkaaW.PrintMore
attribute [local go_sem] min_two

theorem wp_region_eq {P : Program} {c : Code} {Q : Exit → Act → World → Prop} {a af : Act} {w Wf : World} (h : c.wp P (fun e a w => e = .normal ∧ a = af ∧ w = Wf) a w) (hQ : Q .normal af Wf) : c.wp P Q a w :=
  Code.wp_mono (fun e a w h => by obtain ⟨rfl, rfl, rfl⟩ := h; exact hQ) h
/-- How many bytes a head has. -/
def headM (b : List Int) : Nat := min (numAt b 13 4).toNat 47
def headOK (b : List Int) : Prop := b.length = 64 ∧ b.take 2 = [102, 104] ∧ ¬ numAt b 2 8 = 0 ∧ numAt b 13 4 ≤ 131072 ∧ blank (b.drop (17 + headM b)) = true
instance (b : List Int) : Decidable (headOK b) := by unfold headOK; infer_instance
def headR (b : List Int) : SR := if headOK b then ⟨numAt b 2 8, numAt b 10 2, b.getD 12 0, (b.drop 17).take (headM b)⟩ else ⟨0, 0, 0, []⟩
def headN (b : List Int) : Int := if headOK b then numAt b 13 4 else 0
theorem head_no {b : List Int} (h : ¬ headOK b) : headR b = ⟨0, 0, 0, []⟩ ∧ headN b = 0 ∧ decide (headOK b) = false := by unfold headR headN; rw [if_neg h, if_neg h]; exact ⟨rfl, rfl, by simpa using h⟩
/-- What Head hands back. -/
def HeadPost (b : List Int) (w : World) (e : Ending) (w' : World) : Prop :=
  ∃ A c, e = .returned (.tuple #[recV (headR b) A c, .int .i64 (headN b), .bool (decide (headOK b))]) ∧ KB.R 5 w' w.heap.size (fun k => w.heap.size ≤ k) (.slice A (headR b).bytes.length c) (headR b).bytes ∧ (headR b).bytes.length ≤ c ∧ Below w.heap.size w w'
theorem RB_nil (w : World) (ok : Nat → Prop) (c : Nat) : RB w ok none [] := fun W' _ => Kd.C_of_reads (enc := Value.int .u8) (d := (0 : Int)) (h1 := fun _ => rfl) ⟨rfl, by simp, fun h => absurd h (by simp)⟩
theorem head_none {b : List Int} {w w' : World} {v : Value} (h : ¬ headOK b) (hv : v = .tuple #[.agg #[.int .u64 0, .int .i64 0, .int .i64 0, .slice none 0 0], .int .i64 0, .bool false]) (hB : Below w.heap.size w w') : HeadPost b w (.returned v) w' := by
  obtain ⟨e1, e2, e3⟩ := head_no h
  refine ⟨none, 0, ?_, ?_, ?_, hB⟩
  · rw [e1, e2, e3, hv]; rfl
  · rw [e1]; exact Kd.R_nil _ _ _ _ _
  · rw [e1]; simp
theorem blank_tail {w W' : World} {ok : Nat → Prop} {a : Addr} {b : List Int} {c m : Nat} (h : RB w ok (some a) b) (hW : Below w.heap.size w W') (h64 : b.length = 64) (hm : m ≤ 64) (hc : 64 ≤ c) :
    Calls Try.prog 60 #[.slice (behind (some a) m c) (64 - m) (c - m)] W' fun e w' => e = .returned (.bool (blank (b.drop m))) ∧ w' = W' := by
  have h2 := RB_drop h (n := m) (by omega) (by omega : b.length ≤ c)
  have hl : (b.drop m).length = 64 - m := by rw [List.length_drop, h64]
  have h3 := blank_any (c := c - m) (Kd.F_now (RB_below h2 hW))
  rw [hl] at h3
  exact h3
theorem blk_size_lt {w w1 : World} {k : Nat} (h : w1.heap[k]? = w.heap[k]?) (hk : k < w.heap.size) : k < w1.heap.size := by
  rw [Array.getElem?_eq_getElem hk] at h
  exact (Array.getElem?_eq_some_iff.1 h).1
abbrev W4s (w : World) (n : Nat) (v0 v1 v2 v3 : Value) : World := (((w.setCell ⟨n, 0, none⟩ v0).setCell ⟨n, 1, none⟩ v1).setCell ⟨n, 2, none⟩ v2).setCell ⟨n, 3, none⟩ v3
theorem set4 {w : World} {n T : Nat} {a0 a1 a2 a3 : Value} (h : w.heap[n]? = some (.cells #[a0, a1, a2, a3] T (0, 0))) (v0 v1 v2 v3 : Value) : (W4s w n v0 v1 v2 v3).heap[n]? = some (.cells #[v0, v1, v2, v3] T (0, 0)) := by
  have h1 := heap_setCell_same w n 0 _ _ v0 h
  have h2 := heap_setCell_same _ n 1 _ _ v1 h1
  have h3 := heap_setCell_same _ n 2 _ _ v2 h2
  have h4 := heap_setCell_same _ n 3 _ _ v3 h3
  exact h4
theorem below4 {B : Nat} {w0 w : World} (h : Below B w0 w) {n : Nat} (hn : B ≤ n) (v0 v1 v2 v3 : Value) : Below B w0 (W4s w n v0 v1 v2 v3) := (((h.setCell (p := ⟨n, 0, none⟩) hn v0).setCell (p := ⟨n, 1, none⟩) hn v1).setCell (p := ⟨n, 2, none⟩) hn v2).setCell (p := ⟨n, 3, none⟩) hn v3
set_option maxRecDepth 100000 in
set_option maxHeartbeats 4000000 in
theorem head_any {w : World} {ok : Nat → Prop} {A : Option Addr} {c : Nat} {b : List Int} (h : RB w ok A b) (hb : Bytes b) (hc : b.length ≤ c) :
  Calls Try.prog 14 #[.slice A b.length c] w (HeadPost b w) := by
  have hlm := RB_len h
  obtain ⟨w0, hw0⟩ : ∃ w0, w.alloc (.cells #[.int .u64 0, .int .i64 0, .int .i64 0, .slice none 0 0] 25) = w0 := ⟨_, rfl⟩
  have hfin : Below w.heap.size w w0 := by rw [← hw0]; exact below_alloc (Below.refl _ _) _
  by_cases h64 : b.length = 64
  · obtain ⟨a, rfl⟩ := RB_some h (by omega)
    have hp2 : RB w ok (some a) (b.take 2) := RB_take h (by omega)
    have hcv : (convert 22 9 (.slice (some a) 2 c)).run Try.prog w0 = .ok (.string (strOfNums (b.take 2))) w0 := by
      have := conv_str (c := c) (Kd.F_now (RB_below hp2 hfin))
      rwa [show (b.take 2).length = 2 from by rw [List.length_take]; omega] at this
    have hs := str_iff (hb.take 2) (show Bytes [102, 104] from fun x hx => by simp at hx; omega)
    rw [show strOfNums [102, 104] = ⟨#[102, 104]⟩ from rfl] at hs
    rw [h64] at hc ⊢
    have i2 : (2 : Int) ≤ (c : Int) := by omega
    by_cases ht : b.take 2 = [102, 104]
    · have hS := hs.2 ht
      rw [hS] at hcv
      clear hs hS
      have n17 : ¬ c = 17 := by omega
      have n13 : ¬ c = 13 := by omega
      have n2 : ¬ c = 2 := by omega
      have n10 : ¬ c = 10 := by omega
      have i10 : (10 : Int) ≤ (c : Int) := by omega
      have i12 : (12 : Int) ≤ (c : Int) := by omega
      have i17 : (17 : Int) ≤ (c : Int) := by omega
      have hR := RB_int h
      obtain ⟨ad, e0, k12⟩ := hR.at_ 12 (by omega) (by omega)
      cases e0
      simp only [rd, show (12 : Int).toNat = 12 from rfl] at k12
      have hx12 : 0 ≤ b.getD 12 0 ∧ b.getD 12 0 < 256 := hb.rd_ 12
      have c0 := number_part (RB_below h hfin) hb 13 4 (c - 13) (by omega) (by omega)
      have c1 : ∀ W', Below w.heap.size w W' → Calls Try.prog 59 #[.slice (some (a.add 2)) 8 (c - 2)] W' fun e w' => e = .returned (.int .u64 (numAt b 2 8)) ∧ w' = W' := fun W' hW => number_part (RB_below h hW) hb 2 8 (c - 2) (by omega) (by omega)
      have c2 : ∀ W', Below w.heap.size w W' → Calls Try.prog 59 #[.slice (some (a.add 10)) 2 (c - 10)] W' fun e w' => e = .returned (.int .u64 (numAt b 10 2)) ∧ w' = W' := fun W' hW => number_part (RB_below h hW) hb 10 2 (c - 10) (by omega) (by omega)
      have l0 := numAt_lt hb (i := 13) (n := 4) (by omega)
      have l1 := numAt_lt hb (i := 2) (n := 8) (by omega)
      have l2 := numAt_lt hb (i := 10) (n := 2) (by omega)
      rw [show (256 : Int) ^ 4 = 4294967296 from by decide] at l0
      rw [show (256 : Int) ^ 8 = 18446744073709551616 from by decide] at l1
      rw [show (256 : Int) ^ 2 = 65536 from by decide] at l2
      have hmm : min (numAt b 13 4) 47 = ((headM b : Nat) : Int) := by unfold headM; omega
      have hm47 : headM b ≤ 47 := by unfold headM; omega
      have hpart : RB w ok (some (a.add 17)) ((b.drop 17).take (headM b)) := part h (by omega)
      have hplen : ((b.drop 17).take (headM b)).length = headM b := part_len (by omega)
      have hbl : ∀ W', Below w.heap.size w W' → Calls Try.prog 60 #[.slice (behind (some a) (17 + headM b) c) (64 - (17 + headM b)) (c - (17 + headM b))] W' fun e w' => e = .returned (.bool (blank (b.drop (17 + headM b)))) ∧ w' = W' := fun W' hW => blank_tail h hW h64 (by omega) hc
      have hOK : headOK b ↔ ¬ numAt b 2 8 = 0 ∧ numAt b 13 4 ≤ 131072 ∧ blank (b.drop (17 + headM b)) = true := ⟨fun hh => hh.2.2, fun hh => ⟨h64, ht, hh⟩⟩
      have hRR : headOK b → HeadPost b w = fun e w' => ∃ A c, e = .returned (.tuple #[.agg #[.int .u64 (numAt b 2 8), .int .i64 (numAt b 10 2), .int .i64 (b.getD 12 0), .slice A (headM b) c], .int .i64 (numAt b 13 4), .bool true]) ∧ KB.R 5 w' w.heap.size (fun k => w.heap.size ≤ k) (.slice A (headM b) c) ((b.drop 17).take (headM b)) ∧ headM b ≤ c ∧ Below w.heap.size w w' := fun hh => by
        unfold HeadPost
        rw [show headR b = ⟨numAt b 2 8, numAt b 10 2, b.getD 12 0, (b.drop 17).take (headM b)⟩ from if_pos hh, show headN b = numAt b 13 4 from if_pos hh, show decide (headOK b) = true from decide_eq_true hh]
        unfold recV
        dsimp only
        rw [hplen]
      have HRR := hid hRR
      have HOK := hid hOK
      have HM := hid hmm
      clear hRR hOK hR hmm
      generalize hmq : headM b = m at HRR HOK HM hm47 hpart hplen hbl
      generalize numAt b 13 4 = nn at c0 l0 HRR HOK HM
      generalize numAt b 2 8 = g at c1 l1 HRR HOK
      generalize numAt b 10 2 = at_ at c2 l2 HRR HOK
      generalize b.getD 12 0 = x12 at k12 hx12 HRR
      generalize blank (b.drop (17 + m)) = bl at hbl HOK
      have u0 : IntKind.i64.wrap nn = nn := by rw [IntKind.wrap_i64]; omega
      have u2 : IntKind.i64.wrap at_ = at_ := by rw [IntKind.wrap_i64]; omega
      have u12 : IntKind.i64.wrap x12 = x12 := by rw [IntKind.wrap_i64]; omega
      go_enter Try.func14, Try.ntmps14
      go_wp2_with fail
      refine c0.mono ?_
      rintro e w1 ⟨rfl, hw1⟩
      subst hw1
      have hz : w1.heap[w.heap.size]? = some (.cells #[.int .u64 0, .int .i64 0, .int .i64 0, .slice none 0 0] 25 (0, 0)) := by rw [← hw0]; exact heap_alloc_new w _
      clear hw0 hcv c0
      have k12' : w.cell? { block := a.block, off := a.off + 12 } = some (.int .u8 x12) := by simpa [Addr.add] using k12
      have hS0 : Below w.heap.size w w1.drew := hfin.drew
      have hSa : ∀ o, Below w.heap.size w (w1.drew.alloc o) := fun o => hfin.drew.alloc hfin.drew.size o
      go_wp2_with fail
      apply wp_region_eq
      case h =>
        refine wp_region_plan [] (.take 0 (.take 1 (.take 3 (.take 4 (.take 7 (.take 8 (.take 9 (.take 10 (.both 2 (.both 5 (.take 6 (.take 11 (.run 12 (.run 13 .done)))) 12 (.run 5 (.take 6 (.take 11 (.run 13 .done))))) 12 (.run 2 (.run 5 (.take 6 (.take 11 (.run 13 .done)))))))))))))) (fun W' => Below w.heap.size w W') (by kernel_rfl) (by kernel_rfl) (fun c a d v w h => absurd h.1 (by simp)) hS0 ?_
        apply plan_take rfl rfl
        case hy => (intro w' hS; have e0 := pw_cell_below hS k12'; clear hS; go_simp; try exact rfl)
        go_simp
        apply plan_take rfl rfl
        case hy => (intro w' hS; have e0 := pw_cell_below hS k12'; clear hS; go_simp; try exact rfl)
        go_simp
        apply plan_take rfl rfl
        case hy => (intro w' hS; have e0 := pw_cell_below hS k12'; clear hS; go_simp; try exact rfl)
        go_simp
        apply plan_take rfl rfl
        case hy => (intro w' hS; have e0 := pw_cell_below hS k12'; clear hS; go_simp; try exact rfl)
        go_simp
        apply plan_take rfl rfl
        case hy => (intro w' hS; have e0 := pw_cell_below hS k12'; clear hS; go_simp; try exact rfl)
        go_simp
        apply plan_take rfl rfl
        case hy => (intro w' hS; have e0 := pw_cell_below hS k12'; clear hS; go_simp; try exact rfl)
        go_simp
        apply plan_take rfl rfl
        case hy => (intro w' hS; have e0 := pw_cell_below hS k12'; clear hS; go_simp; try exact rfl)
        go_simp
        apply plan_take rfl rfl
        case hy => (intro w' hS; have e0 := pw_cell_below hS k12'; clear hS; go_simp; try exact rfl)
        go_simp
        refine plan_both ?_ ?_
        · refine plan_run_on rfl rfl (fun K hK => ?_)
          go_simp
          refine (c1 _ hS0).mono ?_
          rintro e w2 ⟨rfl, rfl⟩
          refine hK _ _ _ (fun _ h => h) hS0 ?_
          clear hK K
          go_simp
          refine plan_both ?_ ?_
          · refine plan_run_on rfl rfl (fun K hK => ?_)
            go_simp
            refine (c2 _ hS0).mono ?_
            rintro e w2 ⟨rfl, rfl⟩
            refine hK _ _ _ (fun _ h => h) hS0 ?_
            clear hK K
            go_simp
            apply plan_take rfl rfl
            case hy => (intro w' hS; have e0 := pw_cell_below hS k12'; clear hS; go_simp; try exact rfl)
            go_simp
            apply plan_take rfl rfl
            case hy => (intro w' hS; have e0 := pw_cell_below hS k12'; clear hS; go_simp; try exact rfl)
            go_simp
            refine plan_run_on rfl rfl (fun K hK => ?_)
            go_simp
            refine hK _ _ _ (fun _ h => h) (hSa _) ?_
            clear hK K
            go_simp
            refine plan_run_on rfl rfl (fun K hK => ?_)
            go_simp
            refine hK _ _ _ (fun _ h => h) (hSa _) ?_
            clear hK K
            exact plan_done ⟨rfl, rfl, rfl⟩
          · refine plan_run_on rfl rfl (fun K hK => ?_)
            go_simp
            refine hK _ _ _ (fun _ h => h) (hSa _) ?_
            clear hK K
            go_simp
            refine plan_run_on rfl rfl (fun K hK => ?_)
            go_simp
            refine (c2 _ (hSa _)).mono ?_
            rintro e w2 ⟨rfl, rfl⟩
            refine hK _ _ _ (fun _ h => h) (hSa _) ?_
            clear hK K
            go_simp
            apply plan_take rfl rfl
            case hy => (intro w' hS; have e0 := pw_cell_below hS k12'; clear hS; go_simp; try exact rfl)
            go_simp
            apply plan_take rfl rfl
            case hy => (intro w' hS; have e0 := pw_cell_below hS k12'; clear hS; go_simp; try exact rfl)
            go_simp
            refine plan_run_on rfl rfl (fun K hK => ?_)
            go_simp
            refine hK _ _ _ (fun _ h => h) (hSa _) ?_
            clear hK K
            exact plan_done ⟨rfl, rfl, rfl⟩
        · refine plan_run_on rfl rfl (fun K hK => ?_)
          go_simp
          refine hK _ _ _ (fun _ h => h) (hSa _) ?_
          clear hK K
          go_simp
          refine plan_run_on rfl rfl (fun K hK => ?_)
          go_simp
          refine (c1 _ (hSa _)).mono ?_
          rintro e w2 ⟨rfl, rfl⟩
          refine hK _ _ _ (fun _ h => h) (hSa _) ?_
          clear hK K
          go_simp
          refine plan_run_on rfl rfl (fun K hK => ?_)
          go_simp
          refine (c2 _ (hSa _)).mono ?_
          rintro e w2 ⟨rfl, rfl⟩
          refine hK _ _ _ (fun _ h => h) (hSa _) ?_
          clear hK K
          go_simp
          apply plan_take rfl rfl
          case hy => (intro w' hS; have e0 := pw_cell_below hS k12'; clear hS; go_simp; try exact rfl)
          go_simp
          apply plan_take rfl rfl
          case hy => (intro w' hS; have e0 := pw_cell_below hS k12'; clear hS; go_simp; try exact rfl)
          go_simp
          refine plan_run_on rfl rfl (fun K hK => ?_)
          go_simp
          refine hK _ _ _ (fun _ h => h) (hSa _) ?_
          clear hK K
          exact plan_done ⟨rfl, rfl, rfl⟩
      case hQ =>
        have hr2 : ((w1.alloc (.cells #[.int .u64 g, .int .i64 at_, .int .i64 x12, .slice none 0 0] 25)).drew).heap[w1.heap.size]? = some (.cells #[.int .u64 g, .int .i64 at_, .int .i64 x12, .slice none 0 0] 25 (0, 0)) := heap_alloc_new w1 _
        have hz2 : ((w1.alloc (.cells #[.int .u64 g, .int .i64 at_, .int .i64 x12, .slice none 0 0] 25)).drew).heap[w.heap.size]? = some (.cells #[.int .u64 0, .int .i64 0, .int .i64 0, .slice none 0 0] 25 (0, 0)) := (Below.heap_alloc w1 _ w.heap.size (blk_lt hz)).trans hz
        have hB2 : Below w.heap.size w ((w1.alloc (.cells #[.int .u64 g, .int .i64 at_, .int .i64 x12, .slice none 0 0] 25)).drew) := (hfin.alloc hfin.size _).drew
        have hlt2 := blk_lt hz
        clear hS0 hSa hz c1 c2
        generalize (w1.alloc (.cells #[.int .u64 g, .int .i64 at_, .int .i64 x12, .slice none 0 0] 25)).drew = w2 at hr2 hz2 hB2 ⊢
        generalize w1.heap.size = rb at hr2 hlt2 ⊢
        clear hfin k12 k12'
        have q0 := cell_of_row _ _ 0 _ _ _ hr2
        have q3 := cell_of_row _ _ 3 _ _ _ hr2
        have hmin : Builtin.min2 (.int .i64 nn) (.int .i64 47) = pure (.int .i64 (m : Int)) := by
          have hmm := HM.out
          rw [min2_int, ← hmm]
          congr 2
          split <;> omega
        have htn : (17 + (m : Int)).toNat = 17 + m := by omega
        have him : (17 : Int) + (m : Int) ≤ 64 := by omega
        have him2 : (17 : Int) + (m : Int) ≤ (c : Int) := by omega
        have z0 := cell_of_row _ _ 0 _ _ _ hz2
        have z1 := cell_of_row _ _ 1 _ _ _ hz2
        have z2 := cell_of_row _ _ 2 _ _ _ hz2
        have z3 := cell_of_row _ _ 3 _ _ _ hz2
        have f0 := frozen_of_row _ _ 0 _ _ hz2
        have f1 := frozen_of_row _ _ 1 _ _ hz2
        have f2 := frozen_of_row _ _ 2 _ _ hz2
        have f3 := frozen_of_row _ _ 3 _ _ hz2
        by_cases hg : g = 0
        · have hno : ¬ headOK b := fun hh => (HOK.out.1 hh).1 hg
          subst hg
          go_wp2
          refine bodyPost_ret (results_ctt rfl _ _ w.heap.size 25 _ _ _ rfl (set4 hz2 (.int .u64 0) (.int .i64 0) (.int .i64 0) (.slice none 0 0)) Try.underlying25 rfl (by kernel_rfl)) rfl ?_
          exact head_none hno rfl (below4 hB2 (Nat.le_refl _) _ _ _ _)
        have hg2 : (g == 0) = false := by simpa using hg
        by_cases hn : 131072 < nn
        · have hno : ¬ headOK b := fun hh => by have := (HOK.out.1 hh).2.1; omega
          go_wp2
          refine bodyPost_ret (results_ctt rfl _ _ w.heap.size 25 _ _ _ rfl (set4 hz2 (.int .u64 0) (.int .i64 0) (.int .i64 0) (.slice none 0 0)) Try.underlying25 rfl (by kernel_rfl)) rfl ?_
          exact head_none hno rfl (below4 hB2 (Nat.le_refl _) _ _ _ _)
        have hbl2 := hbl w2 hB2
        have BL : ∀ (V : Value), V = .slice (behind (some a) (17 + m) c) (64 - (17 + m)) (c - (17 + m)) → Calls Try.prog 60 #[V] w2 fun e w' => e = .returned (.bool bl) ∧ w' = w2 := fun V e => by rw [e]; exact hbl2
        clear hbl hbl2
        by_cases hcm : c = 17 + m
        have hwm : IntKind.i64.wrap (17 + (m : Int)) = 17 + (m : Int) := by rw [IntKind.wrap_i64]; omega
        have h17 : (17 : Int) ≤ 17 + (m : Int) := by omega
        have h017 : (0 : Int) ≤ 17 + (m : Int) := by omega
        · have hm0 : ¬ m = 0 := by omega
          subst hcm
          go_wp2_with fail
          refine (BL _ ?_).mono ?_
          · unfold behind
            rw [if_pos rfl, Nat.sub_self, show 64 - (17 + m) = 0 from by omega]
          rintro e w3 ⟨rfl, rfl⟩
          clear BL
          have hlt3 : rb < w3.heap.size := blk_lt hr2
          cases bl with
          | false =>
            have hno : ¬ headOK b := fun hh => by have := (HOK.out.1 hh).2.2; cases this
            go_wp2
            refine bodyPost_ret (results_ctt rfl _ _ w.heap.size 25 _ _ _ rfl (set4 hz2 (.int .u64 0) (.int .i64 0) (.int .i64 0) (.slice none 0 0)) Try.underlying25 rfl (by kernel_rfl)) rfl ?_
            exact head_none hno rfl (below4 hB2 (Nat.le_refl _) _ _ _ _)
          | true =>
            have hh : headOK b := HOK.out.2 ⟨hg, by omega, rfl⟩
            have HP := hid (HRR.out hh)
            clear HRR HOK
            have hRm : ReadsInt w3.drew .u8 (some (a.add 17)) m ((b.drop 17).take m) := by
              have := RB_int (RB_below hpart hB2.drew)
              rwa [hplen] at this
            go_wp2_with fail
            refine wp_region_plan [7, 8] (.take 0 (.take 1 (.take 2 (.take 3 (.take 4 (.take 5 (.run 6 (.tail 7 (.tail 8 .done))))))))) (fun W' => W'.cell? ⟨rb, 3, none⟩ = some (.slice none 0 0)) (by kernel_rfl) (by kernel_rfl) (fun c a d v w h => by cases d <;> exact h) q3 ?_
            have hwm2 : IntKind.i64.wrap (17 + (m : Int)) = 17 + (m : Int) := by rw [IntKind.wrap_i64]; omega
            have h172 : (17 : Int) ≤ 17 + (m : Int) := by omega
            have h0172 : (0 : Int) ≤ 17 + (m : Int) := by omega
            have htn2 : (17 + (m : Int)).toNat = 17 + m := by omega
            iterate 6 (apply plan_take rfl rfl; (case hy => (intro w' hS; go_simp; try exact rfl)); go_simp)
            refine plan_run_on rfl rfl (fun K hK => ?_)
            refine step_append_row (w0 := w3.drew) w3.heap.size (.tmp 53) (.tmp 57) 22 5 .u8 1 rfl Try.underlying22 info_u8 (by decide) _ [] ((b.drop 17).take m) (some (a.add 17)) m m rfl rfl (World.ownsRow_nil _ _ _ _) hRm (Below.refl _ _) (Nat.le_refl _) (by simp; omega) ?_
            intro v1 w4 ho hB4 hg4 hat
            have hR4 : KB.R 5 w4 w3.heap.size (fun q => w3.heap.size ≤ q) v1 ((b.drop 17).take m) := Rown (by simpa using ho) (fun q hq => own_base ho q hq)
            obtain ⟨A4, c4, rfl, hle4, hC4⟩ := Kd.R_reads hR4
            rw [hplen] at hle4 hR4 ⊢
            have HR4 := hid hR4
            clear ho hg4 hat hR4 hC4
            have hr4 : w4.heap[rb]? = some (.cells #[.int .u64 g, .int .i64 at_, .int .i64 x12, .slice none 0 0] 25 (0, 0)) := (hB4.block rb hlt3).trans hr2
            have hz4 : w4.heap[w.heap.size]? = some (.cells #[.int .u64 0, .int .i64 0, .int .i64 0, .slice none 0 0] 25 (0, 0)) := (hB4.block w.heap.size (blk_lt hz2)).trans hz2
            have hBw4 : Below w.heap.size w w4 := hB2.drew.trans (hB4.mono hB2.size)
            have p3 := cell_of_row _ _ 3 _ _ _ hr4
            have pf3 := frozen_of_row _ _ 3 _ _ hr4
            simp at p3
            refine hK _ _ _ (fun _ h => h) p3 ?_
            clear hK K
            go_simp
            refine plan_tail_on rfl rfl (fun K hK => ?_)
            go_simp
            refine hK _ _ ?_
            clear hK K
            refine plan_tail_on rfl rfl (fun K hK => ?_)
            go_simp
            refine hK _ _ (plan_done ?_)
            clear hK K
            have hr5 := heap_setCell_same w4 rb 3 _ _ (.slice A4 m c4) hr4
            have hz5 := (Below.heap_setCell w4 ⟨rb, 3, none⟩ (.slice A4 m c4) w.heap.size (by show w.heap.size ≠ rb; omega)).trans hz4
            have hB5 : Below w.heap.size w (w4.setCell ⟨rb, 3, none⟩ (.slice A4 m c4)) := hBw4.setCell (p := ⟨rb, 3, none⟩) (by show w.heap.size ≤ rb; omega) _
            have hk5 : ∀ k, w3.heap.size ≤ k → (w4.setCell ⟨rb, 3, none⟩ (.slice A4 m c4)).heap[k]? = w4.heap[k]? := fun k hk => Below.heap_setCell w4 ⟨rb, 3, none⟩ (.slice A4 m c4) k (by show k ≠ rb; omega)
            clear q0 q3 z0 z1 z2 z3 f0 f1 f2 f3 p3 pf3 hr4 hz4
            generalize w4.setCell ⟨rb, 3, none⟩ (.slice A4 m c4) = w5 at hr5 hz5 hB5 hk5 ⊢
            have hn2 := blk_lt hz2
            clear hr2 hz2 hRm
            have q0 := cell_of_row _ _ 0 _ _ _ hr5
            have q1 := cell_of_row _ _ 1 _ _ _ hr5
            have q2 := cell_of_row _ _ 2 _ _ _ hr5
            have q3 := cell_of_row _ _ 3 _ _ _ hr5
            have z0 := cell_of_row _ _ 0 _ _ _ hz5
            have z1 := cell_of_row _ _ 1 _ _ _ hz5
            have z2 := cell_of_row _ _ 2 _ _ _ hz5
            have z3 := cell_of_row _ _ 3 _ _ _ hz5
            have f0 := frozen_of_row _ _ 0 _ _ hz5
            have f1 := frozen_of_row _ _ 1 _ _ hz5
            have f2 := frozen_of_row _ _ 2 _ _ hz5
            have f3 := frozen_of_row _ _ 3 _ _ hz5
            simp at q0 q1 q2 q3 z0 z1 z2 z3
            go_wp2
            refine bodyPost_ret (results_ctt rfl _ _ w.heap.size 25 _ _ _ rfl (set4 hz5 (.int .u64 g) (.int .i64 at_) (.int .i64 x12) (.slice A4 m c4)) Try.underlying25 rfl (by kernel_rfl)) rfl ?_
            rw [HP.out]
            refine ⟨A4, c4, rfl, ?_, hle4, below4 hB5 (Nat.le_refl _) _ _ _ _⟩
            have hall : ∀ k, w3.heap.size ≤ k → (W4s w5 w.heap.size (.int .u64 g) (.int .i64 at_) (.int .i64 x12) (.slice A4 m c4)).heap[k]? = w4.heap[k]? := fun k hk => by
              have hb := (below4 (Below.refl w.heap.size w5) (Nat.le_refl _) (.int .u64 g) (.int .i64 at_) (.int .i64 x12) (.slice A4 m c4))
              have hne : k ≠ w.heap.size := by omega
              rw [← hk5 k hk]
              unfold W4s
              rw [Below.heap_setCell _ _ _ _ hne, Below.heap_setCell _ _ _ _ hne, Below.heap_setCell _ _ _ _ hne, Below.heap_setCell _ _ _ _ hne]
            exact Kd.R_lower (Kd.R_mono (Kd.R_step HR4.out (fun k hk _ => hall k hk)) (fun k hk => by omega)) (by omega)
        · go_wp2_with fail
          refine (BL _ ?_).mono ?_
          · unfold behind
            rw [if_neg hcm]
            rfl
          rintro e w3 ⟨rfl, rfl⟩
          clear BL
          have hlt3 : rb < w3.heap.size := blk_lt hr2
          cases bl with
          | false =>
            have hno : ¬ headOK b := fun hh => by have := (HOK.out.1 hh).2.2; cases this
            go_wp2
            refine bodyPost_ret (results_ctt rfl _ _ w.heap.size 25 _ _ _ rfl (set4 hz2 (.int .u64 0) (.int .i64 0) (.int .i64 0) (.slice none 0 0)) Try.underlying25 rfl (by kernel_rfl)) rfl ?_
            exact head_none hno rfl (below4 hB2 (Nat.le_refl _) _ _ _ _)
          | true =>
            have hh : headOK b := HOK.out.2 ⟨hg, by omega, rfl⟩
            have HP := hid (HRR.out hh)
            clear HRR HOK
            have hRm : ReadsInt w3.drew .u8 (some (a.add 17)) m ((b.drop 17).take m) := by
              have := RB_int (RB_below hpart hB2.drew)
              rwa [hplen] at this
            go_wp2_with fail
            refine wp_region_plan [7, 8] (.take 0 (.take 1 (.take 2 (.take 3 (.take 4 (.take 5 (.run 6 (.tail 7 (.tail 8 .done))))))))) (fun W' => W'.cell? ⟨rb, 3, none⟩ = some (.slice none 0 0)) (by kernel_rfl) (by kernel_rfl) (fun c a d v w h => by cases d <;> exact h) q3 ?_
            have hwm2 : IntKind.i64.wrap (17 + (m : Int)) = 17 + (m : Int) := by rw [IntKind.wrap_i64]; omega
            have h172 : (17 : Int) ≤ 17 + (m : Int) := by omega
            have h0172 : (0 : Int) ≤ 17 + (m : Int) := by omega
            have htn2 : (17 + (m : Int)).toNat = 17 + m := by omega
            iterate 6 (apply plan_take rfl rfl; (case hy => (intro w' hS; go_simp; try exact rfl)); go_simp)
            refine plan_run_on rfl rfl (fun K hK => ?_)
            refine step_append_row (w0 := w3.drew) w3.heap.size (.tmp 53) (.tmp 57) 22 5 .u8 1 rfl Try.underlying22 info_u8 (by decide) _ [] ((b.drop 17).take m) (some (a.add 17)) m (c - 17) rfl rfl (World.ownsRow_nil _ _ _ _) hRm (Below.refl _ _) (Nat.le_refl _) (by simp; omega) ?_
            intro v1 w4 ho hB4 hg4 hat
            have hR4 : KB.R 5 w4 w3.heap.size (fun q => w3.heap.size ≤ q) v1 ((b.drop 17).take m) := Rown (by simpa using ho) (fun q hq => own_base ho q hq)
            obtain ⟨A4, c4, rfl, hle4, hC4⟩ := Kd.R_reads hR4
            rw [hplen] at hle4 hR4 ⊢
            have HR4 := hid hR4
            clear ho hg4 hat hR4 hC4
            have hr4 : w4.heap[rb]? = some (.cells #[.int .u64 g, .int .i64 at_, .int .i64 x12, .slice none 0 0] 25 (0, 0)) := (hB4.block rb hlt3).trans hr2
            have hz4 : w4.heap[w.heap.size]? = some (.cells #[.int .u64 0, .int .i64 0, .int .i64 0, .slice none 0 0] 25 (0, 0)) := (hB4.block w.heap.size (blk_lt hz2)).trans hz2
            have hBw4 : Below w.heap.size w w4 := hB2.drew.trans (hB4.mono hB2.size)
            have p3 := cell_of_row _ _ 3 _ _ _ hr4
            have pf3 := frozen_of_row _ _ 3 _ _ hr4
            simp at p3
            refine hK _ _ _ (fun _ h => h) p3 ?_
            clear hK K
            go_simp
            refine plan_tail_on rfl rfl (fun K hK => ?_)
            go_simp
            refine hK _ _ ?_
            clear hK K
            refine plan_tail_on rfl rfl (fun K hK => ?_)
            go_simp
            refine hK _ _ (plan_done ?_)
            clear hK K
            have hr5 := heap_setCell_same w4 rb 3 _ _ (.slice A4 m c4) hr4
            have hz5 := (Below.heap_setCell w4 ⟨rb, 3, none⟩ (.slice A4 m c4) w.heap.size (by show w.heap.size ≠ rb; omega)).trans hz4
            have hB5 : Below w.heap.size w (w4.setCell ⟨rb, 3, none⟩ (.slice A4 m c4)) := hBw4.setCell (p := ⟨rb, 3, none⟩) (by show w.heap.size ≤ rb; omega) _
            have hk5 : ∀ k, w3.heap.size ≤ k → (w4.setCell ⟨rb, 3, none⟩ (.slice A4 m c4)).heap[k]? = w4.heap[k]? := fun k hk => Below.heap_setCell w4 ⟨rb, 3, none⟩ (.slice A4 m c4) k (by show k ≠ rb; omega)
            clear q0 q3 z0 z1 z2 z3 f0 f1 f2 f3 p3 pf3 hr4 hz4
            generalize w4.setCell ⟨rb, 3, none⟩ (.slice A4 m c4) = w5 at hr5 hz5 hB5 hk5 ⊢
            have hn2 := blk_lt hz2
            clear hr2 hz2 hRm
            have q0 := cell_of_row _ _ 0 _ _ _ hr5
            have q1 := cell_of_row _ _ 1 _ _ _ hr5
            have q2 := cell_of_row _ _ 2 _ _ _ hr5
            have q3 := cell_of_row _ _ 3 _ _ _ hr5
            have z0 := cell_of_row _ _ 0 _ _ _ hz5
            have z1 := cell_of_row _ _ 1 _ _ _ hz5
            have z2 := cell_of_row _ _ 2 _ _ _ hz5
            have z3 := cell_of_row _ _ 3 _ _ _ hz5
            have f0 := frozen_of_row _ _ 0 _ _ hz5
            have f1 := frozen_of_row _ _ 1 _ _ hz5
            have f2 := frozen_of_row _ _ 2 _ _ hz5
            have f3 := frozen_of_row _ _ 3 _ _ hz5
            simp at q0 q1 q2 q3 z0 z1 z2 z3
            go_wp2
            refine bodyPost_ret (results_ctt rfl _ _ w.heap.size 25 _ _ _ rfl (set4 hz5 (.int .u64 g) (.int .i64 at_) (.int .i64 x12) (.slice A4 m c4)) Try.underlying25 rfl (by kernel_rfl)) rfl ?_
            rw [HP.out]
            refine ⟨A4, c4, rfl, ?_, hle4, below4 hB5 (Nat.le_refl _) _ _ _ _⟩
            have hall : ∀ k, w3.heap.size ≤ k → (W4s w5 w.heap.size (.int .u64 g) (.int .i64 at_) (.int .i64 x12) (.slice A4 m c4)).heap[k]? = w4.heap[k]? := fun k hk => by
              have hb := (below4 (Below.refl w.heap.size w5) (Nat.le_refl _) (.int .u64 g) (.int .i64 at_) (.int .i64 x12) (.slice A4 m c4))
              have hne : k ≠ w.heap.size := by omega
              rw [← hk5 k hk]
              unfold W4s
              rw [Below.heap_setCell _ _ _ _ hne, Below.heap_setCell _ _ _ _ hne, Below.heap_setCell _ _ _ _ hne, Below.heap_setCell _ _ _ _ hne]
            exact Kd.R_lower (Kd.R_mono (Kd.R_step HR4.out (fun k hk _ => hall k hk)) (fun k hk => by omega)) (by omega)
    · have hno : ¬ headOK b := fun hh => ht hh.2.1
      have hS : ¬ strOfNums (b.take 2) = ⟨#[102, 104]⟩ := fun e => ht (hs.1 e)
      generalize strOfNums (b.take 2) = S at hcv hS
      have hS2 : (S.toList == [102, 104]) = false := str_neq hS
      clear hs
      rw [← hw0] at hcv
      clear hw0
      go_enter Try.func14, Try.ntmps14
      go_wp2
      refine bodyPost_ret (results_ctt rfl _ _ w.heap.size 25 _ _ _ rfl (heap_alloc_new w _) Try.underlying25 rfl (by kernel_rfl)) rfl ?_
      exact head_none hno rfl (below_alloc (Below.refl _ _) _)
  · have hno : ¬ headOK b := fun hh => h64 hh.1
    have hne : ((b.length : Int) != 64) = true := by simp; omega
    have hne2 : ¬ (b.length : Int) = 64 := by omega
    clear hw0
    go_enter Try.func14, Try.ntmps14
    go_wp2
    refine bodyPost_ret (results_ctt rfl _ _ w.heap.size 25 _ _ _ rfl (heap_alloc_new w _) Try.underlying25 rfl (by kernel_rfl)) rfl ?_
    exact head_none hno rfl (below_alloc (Below.refl _ _) _)
end Go.Proofs.Ytekhmkfiepnnkaa

/- seal.region, seal.Gen. -/
set_option linter.unusedVariables false
set_option linter.unusedSimpArgs false
namespace Go.Proofs.Ytekhmkfiepnnkaa
open Go.RowKit Go.Proofs.YtekhmkfiepnnkaaW.PrintWords Go.Proofs.YtekhmkfiepnnkaaW.PrintMore
attribute [local go_sem] max_three max2_int

/-- May a stretch be read? -/
def regE (D : DM) (base end_ : Int) : Int := if base < 0 ∨ end_ < base ∨ (D.n : Int) < end_ then 1 else if D.gone = true then 61 else 0
theorem region_nil {w : World} (base end_ : Int) : Calls Try.prog 67 #[.pointer none, .int .i64 base, .int .i64 end_] w fun e w' => e = .returned (.int .i64 2) ∧ w = w' := by
  go_enter Try.func67, Try.ntmps67
  go_wp2
  go_ret
  exact ⟨rfl, rfl⟩
theorem region_any {w : World} {ok : Nat → Prop} {p : Nat} {D : DM} (h : PDisk w ok p D) (base end_ : Int) :
  Calls Try.prog 67 #[.pointer (some ⟨p, 0, none⟩), .int .i64 base, .int .i64 end_] w fun e w' => e = .returned (.int .i64 (regE D base end_)) ∧ w = w' := by
  have hB := blocks_any h
  have hD := dead_any h
  unfold regE
  by_cases h1 : base < 0
  · rw [if_pos (.inl h1)]
    go_enter Try.func67, Try.ntmps67
    go_wp2
    go_ret
    exact ⟨rfl, rfl⟩
  by_cases h2 : end_ < base
  · rw [if_pos (.inr (.inl h2))]
    go_enter Try.func67, Try.ntmps67
    go_wp2
    go_ret
    exact ⟨rfl, rfl⟩
  by_cases h3 : (D.n : Int) < end_
  · rw [if_pos (.inr (.inr h3))]
    go_enter Try.func67, Try.ntmps67
    go_wp2_with (go_at_call 65; refine hB.mono ?_; rintro e w' ⟨rfl, rfl⟩)
    go_ret
    exact ⟨rfl, rfl⟩
  rw [if_neg (by omega)]
  cases hg : D.gone
  all_goals
    rw [hg] at hD
    clear hg
    go_enter Try.func67, Try.ntmps67
    go_wp2_with (first | (go_at_call 65; refine hB.mono ?_; rintro e w' ⟨rfl, rfl⟩) | (go_at_call 76; refine hD.mono ?_; rintro e w' ⟨rfl, rfl⟩))
    go_ret
    exact ⟨rfl, rfl⟩

/-- The greatest generation in k blocks from b0 on. -/
def genK (D : DM) (b0 : Nat) : Nat → Int
  | 0 => 0
  | k + 1 => max (max (genK D b0 k) (headR (D.blk (b0 + k))).gen) (bodyV (D.blk (b0 + k))).1
def genM (D : DM) (base end_ : Int) : Int := if regE D base end_ = 0 then genK D base.toNat (end_ - base).toNat else 0
theorem headR_gen {b : List Int} (h : Bytes b) : 0 ≤ (headR b).gen ∧ (headR b).gen < 18446744073709551616 := by
  unfold headR
  split
  · rename_i hh
    have := numAt_lt h (i := 2) (n := 8) (by have := hh.1; omega)
    rwa [show (256 : Int) ^ 8 = 18446744073709551616 from by decide] at this
  · simp
theorem bodyV_gen {b : List Int} (h : Bytes b) : 0 ≤ (bodyV b).1 ∧ (bodyV b).1 < 18446744073709551616 := by
  unfold bodyV
  split
  · rename_i hh
    have := numAt_lt h (i := 2) (n := 8) (by have := hh.1; omega)
    rwa [show (256 : Int) ^ 8 = 18446744073709551616 from by decide] at this
  · simp
theorem blk_bytes {D : DM} (h : D.wf) (i : Nat) : Bytes (D.blk i) := (h.bytes.drop _).take _
theorem genK_lt {D : DM} (h : D.wf) (b0 : Nat) : ∀ k, 0 ≤ genK D b0 k ∧ genK D b0 k < 18446744073709551616
  | 0 => by simp [genK]
  | k + 1 => by
    have h1 := genK_lt h b0 k
    have h2 := headR_gen (blk_bytes h (b0 + k))
    have h3 := bodyV_gen (blk_bytes h (b0 + k))
    simp only [genK]
    omega
theorem regE_ok {D : DM} {base end_ : Int} (h : regE D base end_ = 0) : 0 ≤ base ∧ base ≤ end_ ∧ end_ ≤ D.n ∧ D.gone = false := by
  unfold regE at h
  split at h
  · simp at h
  · split at h
    · simp at h
    · rename_i h1 h2; exact ⟨by omega, by omega, by omega, by simpa using h2⟩
theorem ready_in {D : DM} {i : Nat} (hg : D.gone = false) (hi : i < D.n) : D.ready i = 0 := by
  unfold DM.ready
  rw [if_neg (by simp [hg]), if_neg (by omega)]
theorem gen_err {w : World} {ok : Nat → Prop} {p : Nat} {D : DM} (h : PDisk w ok p D) (base end_ : Int) (he : ¬ regE D base end_ = 0) :
  Calls Try.prog 23 #[.pointer (some ⟨p, 0, none⟩), .int .i64 base, .int .i64 end_] w fun e w' => e = .returned (.tuple #[.int .u64 0, .int .i64 (regE D base end_)]) ∧ w = w' := by
  have hr := region_any h base end_
  generalize regE D base end_ = E at he hr ⊢
  have he2 : (E != 0) = true := by simpa using he
  go_enter Try.func23, Try.ntmps23
  go_wp2_with (go_at_call 67; refine hr.mono ?_; rintro e w' ⟨rfl, rfl⟩)
  go_ret2
  exact ⟨rfl, rfl⟩
theorem gen_nil {w : World} (base end_ : Int) :
  Calls Try.prog 23 #[.pointer none, .int .i64 base, .int .i64 end_] w fun e w' => e = .returned (.tuple #[.int .u64 0, .int .i64 2]) ∧ w = w' := by
  go_enter Try.func23, Try.ntmps23
  go_wp2_with (go_at_call 67; refine (region_nil _ _).mono ?_; rintro e w' ⟨rfl, rfl⟩)
  go_ret2
  exact ⟨rfl, rfl⟩
set_option maxRecDepth 100000 in
set_option maxHeartbeats 2000000 in
theorem gen_ok {w : World} {ok : Nat → Prop} {p : Nat} {D : DM} (h : PDisk w ok p D) (b m : Nat) (hg : D.gone = false) (hm : b + m ≤ D.n) :
  Calls Try.prog 23 #[.pointer (some ⟨p, 0, none⟩), .int .i64 (b : Nat), .int .i64 (b + m : Nat)] w fun e w' => e = .returned (.tuple #[.int .u64 (genK D b m), .int .i64 0]) ∧ Below w.heap.size w w' := by
  have hr := region_any h (b : Int) ((b + m : Nat) : Int)
  rw [show regE D (b : Int) ((b + m : Nat) : Int) = 0 from by unfold regE; rw [if_neg (by omega), if_neg (by simp [hg])]] at hr
  have hn := h.1.hi
  obtain ⟨n, hnn⟩ : ∃ n, b + m = n := ⟨_, rfl⟩
  rw [hnn] at hr ⊢
  have hn9 : n ≤ 4096 := by omega
  have HN := hid hnn
  go_enter Try.func23, Try.ntmps23
  go_wp2_with (go_at_call 67; refine hr.mono ?_; rintro e w' ⟨rfl, rfl⟩)
  go_loopw [9, 10] (fun v i wr => ∃ j : Nat, b ≤ j ∧ j ≤ n ∧ i = .int .i64 j ∧ v = .int .u64 (genK D b (j - b)) ∧ Below w.heap.size w wr) (fun _ i _ => n - (intOf i).toNat)
  case atStart => exact ⟨b, Nat.le_refl _, by omega, rfl, by rw [Nat.sub_self]; rfl, Below.refl _ _⟩
  case round =>
    obtain ⟨j, hbj, hj, rfl, rfl, hB⟩ := hrel
    by_cases hlt : j < n
    · have hPD := h.step (w1 := wr) (fun k _ hk => hB.block k hk)
      have hrd := read_ok j hPD (ready_in hg (by omega)) (by omega)
      have hl := blk_length h.1 (i := j) (by omega)
      have hbb := blk_bytes h.1 j
      have hk0 := genK_lt h.1 b (j - b)
      have hk1 := headR_gen hbb
      have hk2 := bodyV_gen hbb
      have hnext : genK D b (j + 1 - b) = max (max (genK D b (j - b)) (headR (D.blk j)).gen) (bodyV (D.blk j)).1 := by
        rw [show j + 1 - b = (j - b) + 1 from by omega]
        simp only [genK]
        rw [show b + (j - b) = j from by omega]
      have HX := hid hnext
      clear hnext hnn
      have hlw : (j : Int) < (n : Int) := by omega
      have HL := hid hl
      clear hl
      go_wp2_with fail
      refine hrd.mono ?_
      rintro e w1 ⟨rfl, hw1⟩
      have hRB : RB w1 (fun k => k = wr.heap.size) (some ⟨wr.heap.size, 0, none⟩) (D.blk j) := by rw [hw1]; exact RB_new _ _ _ (by rw [HL.out]; omega)
      have hB1 : Below w.heap.size w w1 := by rw [hw1]; exact below_alloc hB _
      clear hw1 hrd hPD
      have hh := head_any (c := 64) hRB hbb (by rw [HL.out]; omega)
      rw [HL.out] at hh
      go_wp2_with fail
      refine hh.mono ?_
      rintro e w2 ⟨A, c, rfl, hRB2, hle, hB2⟩
      clear hh
      have hbd : ∀ W, Below w1.heap.size w1 W → Calls Try.prog 16 #[.slice (some ⟨wr.heap.size, 0, none⟩) 64 64] W fun e w' => e = .returned (.tuple #[.int .u64 (bodyV (D.blk j)).1, .int .i64 (bodyV (D.blk j)).2.1, .int .i64 (bodyV (D.blk j)).2.2.1, .bool (bodyV (D.blk j)).2.2.2]) ∧ Below W.heap.size W w' := fun W hW => by
        have := body_any (c := 64) (RB_below hRB hW) hbb (by rw [HL.out]; omega)
        rw [HL.out] at this
        exact this
      unfold recV
      generalize headR (D.blk j) = R at hk1 HX hRB2 hle ⊢
      generalize headN (D.blk j) = N
      generalize decide (headOK (D.blk j)) = ib
      generalize bodyV (D.blk j) = V at hbd hk2 HX
      obtain ⟨rg, ra, rk, rb⟩ := R
      obtain ⟨vg, va, vk, vi⟩ := V
      dsimp only at hk1 hk2 hbd HX hle ⊢
      have hB2' : Below w1.heap.size w1 (w2.alloc (.cells #[.int .u64 rg, .int .i64 ra, .int .i64 rk, .slice A rb.length c] 25)) := below_alloc hB2 _
      go_wp2_with fail
      refine (hbd _ hB2').mono ?_
      rintro e w3 ⟨rfl, hB3⟩
      have hc3 : w3.cell? ⟨w2.heap.size, 0, none⟩ = some (.int .u64 rg) := by rw [hB3.cell (by simp)]; go_simp
      have hBn : Below w.heap.size w w3 := hB1.trans ((hB2'.trans (hB3.mono hB2'.size)).mono hB1.size)
      clear hbd hB2' hB3 hB2 hB1 hRB hRB2 hr
      go_wp2
      go_roundw
      case rel => exact ⟨j + 1, by omega, by omega, by go_num, by rw [HX.out]; congr 1; split <;> split <;> omega, hBn⟩
      case measure => simp [intOf]; omega
    · obtain rfl : j = n := by omega
      have hjb : j - b = m := by have := HN.out; omega
      rw [hjb]
      go_wp2
      go_ret2
      exact ⟨rfl, hB⟩
end Go.Proofs.Ytekhmkfiepnnkaa

/- seal.Read: what it tells; its ways out. -/
set_option linter.unusedVariables false
set_option linter.unusedSimpArgs false
namespace Go.Proofs.Ytekhmkfiepnnkaa
open Go.RowKit Go.Proofs.YtekhmkfiepnnkaaW.PrintWords Go.Proofs.YtekhmkfiepnnkaaW.PrintMore
attribute [local go_sem] max_three max2_int min_two min2_int

def bodiesN (n : Nat) : Nat := (n - 47 + 49) / 50
/-- How many bytes body block k + 1 has. -/
def hasK (n k : Nat) : Nat := min (n - (47 + 50 * k)) 50
/-- The bytes that a head and k body blocks tell. -/
def bytesK (D : DM) (b0 n : Nat) : Nat → List Int
  | 0 => (headR (D.blk b0)).bytes
  | k + 1 => bytesK D b0 n k ++ ((D.blk (b0 + (k + 1))).drop 14).take (hasK n k)
/-- Is block b0 + k + 1 body k + 1 of that record? -/
def goodK (D : DM) (b0 n : Nat) (gen at_ : Int) (k : Nat) : Bool :=
  decide (bodyV (D.blk (b0 + (k + 1))) = (gen, at_, ((k + 1 : Nat) : Int), true)) && blank ((D.blk (b0 + (k + 1))).drop (14 + hasK n k))
def readE (D : DM) (base end_ at_ : Int) : Int := if at_ < 0 then 1 else regE D base end_
/-- The record that Read tells of. -/
def readV (D : DM) (base end_ gen at_ : Int) : Option SR :=
  if readE D base end_ at_ = 0 ∧ at_ < end_ - base ∧ headOK (D.blk (base + at_).toNat) ∧ (headR (D.blk (base + at_).toNat)).gen = gen ∧ (headR (D.blk (base + at_).toNat)).at_ = at_ ∧
      need (headN (D.blk (base + at_).toNat)) ≤ end_ - base - at_ ∧
      ((List.range (bodiesN (headN (D.blk (base + at_).toNat)).toNat)).all (goodK D (base + at_).toNat (headN (D.blk (base + at_).toNat)).toNat gen at_)) = true then
    some ⟨gen, at_, (headR (D.blk (base + at_).toNat)).kind, bytesK D (base + at_).toNat (headN (D.blk (base + at_).toNat)).toNat (bodiesN (headN (D.blk (base + at_).toNat)).toNat)⟩
  else none
def noR : SR := ⟨0, 0, 0, []⟩
/-- What Read hands back. -/
def ReadPost (v : Option SR) (E : Int) (w : World) (e : Ending) (w' : World) : Prop :=
  ∃ A c, e = .returned (.tuple #[recV (v.getD noR) A c, .bool v.isSome, .int .i64 E]) ∧ KB.R 5 w' w.heap.size (fun k => w.heap.size ≤ k) (.slice A (v.getD noR).bytes.length c) (v.getD noR).bytes ∧ (v.getD noR).bytes.length ≤ c ∧ Below w.heap.size w w'
theorem readpost_none {E : Int} {w w' : World} {v : Value} (hv : v = .tuple #[.agg #[.int .u64 0, .int .i64 0, .int .i64 0, .slice none 0 0], .bool false, .int .i64 E]) (hB : Below w.heap.size w w') : ReadPost none E w (.returned v) w' :=
  ⟨none, 0, by rw [hv]; rfl, Kd.R_nil _ _ _ _ _, Nat.le_refl _, hB⟩
theorem headR_zero {w : World} : (w.alloc (.cells #[.int .u64 0, .int .i64 0, .int .i64 0, .slice none 0 0] 25)).heap[w.heap.size]? = some (.cells #[.int .u64 0, .int .i64 0, .int .i64 0, .slice none 0 0] 25 (0, 0)) := heap_alloc_new w _
set_option maxRecDepth 100000 in
theorem read_nilD {w : World} (base end_ gen at_ : Int) :
  Calls Try.prog 29 #[.pointer none, .int .i64 base, .int .i64 end_, .int .u64 gen, .int .i64 at_] w (ReadPost none 2 w) := by
  go_enter Try.func29, Try.ntmps29
  go_wp2
  refine bodyPost_ret (results_ctt rfl _ _ w.heap.size 25 _ _ _ rfl (heap_alloc_new w _) Try.underlying25 rfl (by kernel_rfl)) rfl ?_
  exact readpost_none rfl (below_alloc (Below.refl _ _) _)
set_option maxRecDepth 100000 in
set_option maxHeartbeats 1000000 in
theorem read_errD {w : World} {ok : Nat → Prop} {p : Nat} {D : DM} (h : PDisk w ok p D) (base end_ gen at_ : Int) (he : ¬ readE D base end_ at_ = 0) :
  Calls Try.prog 29 #[.pointer (some ⟨p, 0, none⟩), .int .i64 base, .int .i64 end_, .int .u64 gen, .int .i64 at_] w (ReadPost none (readE D base end_ at_) w) := by
  have hB0 : Below w.heap.size w (w.alloc (.cells #[.int .u64 0, .int .i64 0, .int .i64 0, .slice none 0 0] 25)) := below_alloc (Below.refl _ _) _
  have h0 := h.step (w1 := w.alloc (.cells #[.int .u64 0, .int .i64 0, .int .i64 0, .slice none 0 0] 25)) (fun k _ hk => hB0.block k hk)
  have hB := blocks_any h0
  have hR := region_any h0 base end_
  have HB0 := hid hB0
  clear hB0
  by_cases h1 : base < 0
  · have hE : readE D base end_ at_ = 1 := by unfold readE regE; split <;> simp [h1]
    rw [hE]
    go_enter Try.func29, Try.ntmps29
    go_wp2
    refine bodyPost_ret (results_ctt rfl _ _ w.heap.size 25 _ _ _ rfl (heap_alloc_new w _) Try.underlying25 rfl (by kernel_rfl)) rfl ?_
    exact readpost_none rfl HB0.out
  by_cases h2 : end_ < base
  · have hE : readE D base end_ at_ = 1 := by unfold readE regE; split <;> simp [h2]
    rw [hE]
    go_enter Try.func29, Try.ntmps29
    go_wp2
    refine bodyPost_ret (results_ctt rfl _ _ w.heap.size 25 _ _ _ rfl (heap_alloc_new w _) Try.underlying25 rfl (by kernel_rfl)) rfl ?_
    exact readpost_none rfl HB0.out
  by_cases h3 : (D.n : Int) < end_
  · have hE : readE D base end_ at_ = 1 := by unfold readE regE; split <;> simp [h3]
    rw [hE]
    go_enter Try.func29, Try.ntmps29
    go_wp2_with (go_at_call 65; refine hB.mono ?_; rintro e w' ⟨rfl, rfl⟩)
    refine bodyPost_ret (results_ctt rfl _ _ w.heap.size 25 _ _ _ rfl (heap_alloc_new w _) Try.underlying25 rfl (by kernel_rfl)) rfl ?_
    exact readpost_none rfl HB0.out
  by_cases h4 : at_ < 0
  · have hE : readE D base end_ at_ = 1 := by unfold readE; simp [h4]
    rw [hE]
    go_enter Try.func29, Try.ntmps29
    go_wp2_with (go_at_call 65; refine hB.mono ?_; rintro e w' ⟨rfl, rfl⟩)
    refine bodyPost_ret (results_ctt rfl _ _ w.heap.size 25 _ _ _ rfl (heap_alloc_new w _) Try.underlying25 rfl (by kernel_rfl)) rfl ?_
    exact readpost_none rfl HB0.out
  have hE : readE D base end_ at_ = regE D base end_ := by unfold readE; rw [if_neg h4]
  rw [hE] at he ⊢
  generalize regE D base end_ = E at he hR ⊢
  have he2 : (E != 0) = true := by simpa using he
  clear hE
  go_enter Try.func29, Try.ntmps29
  go_wp2_with (first | (go_at_call 65; refine hB.mono ?_; rintro e w' ⟨rfl, rfl⟩) | (go_at_call 67; refine hR.mono ?_; rintro e w' ⟨rfl, rfl⟩))
  refine bodyPost_ret (results_ctt rfl _ _ w.heap.size 25 _ _ _ rfl (heap_alloc_new w _) Try.underlying25 rfl (by kernel_rfl)) rfl ?_
  exact readpost_none rfl HB0.out
/-- What holds where a block is to be read. -/
structure RdOk (D : DM) (base end_ at_ : Int) : Prop where
  b : 0 ≤ base
  e : base ≤ end_
  n : end_ ≤ D.n
  g : D.gone = false
  a : 0 ≤ at_
theorem readE_ok {D : DM} {base end_ at_ : Int} (h : readE D base end_ at_ = 0) : RdOk D base end_ at_ := by
  unfold readE at h
  split at h
  · cases h
  · obtain ⟨a, b, c, d⟩ := regE_ok h
    exact ⟨a, b, c, d, by omega⟩
set_option maxRecDepth 100000 in
set_option maxHeartbeats 1000000 in
theorem read_outD {w : World} {ok : Nat → Prop} {p : Nat} {D : DM} (h : PDisk w ok p D) (base end_ gen at_ : Int) (he : readE D base end_ at_ = 0) (ho : end_ - base ≤ at_) :
  Calls Try.prog 29 #[.pointer (some ⟨p, 0, none⟩), .int .i64 base, .int .i64 end_, .int .u64 gen, .int .i64 at_] w (ReadPost none 0 w) := by
  have hB0 : Below w.heap.size w (w.alloc (.cells #[.int .u64 0, .int .i64 0, .int .i64 0, .slice none 0 0] 25)) := below_alloc (Below.refl _ _) _
  have h0 := h.step (w1 := w.alloc (.cells #[.int .u64 0, .int .i64 0, .int .i64 0, .slice none 0 0] 25)) (fun k _ hk => hB0.block k hk)
  have hB := blocks_any h0
  have hR := region_any h0 base end_
  have HB0 := hid hB0
  obtain ⟨r1, r2, r3, r4, r5⟩ := readE_ok he
  rw [show regE D base end_ = 0 from by unfold readE at he; rwa [if_neg (by omega)] at he] at hR
  have hn := h.1.hi
  clear hB0 he
  have n1 : ¬ base < 0 := by omega
  have n2 : ¬ end_ < base := by omega
  have n3 : ¬ (D.n : Int) < end_ := by omega
  have n4 : ¬ at_ < 0 := by omega
  have hw : IntKind.i64.wrap (end_ - base) = end_ - base := by rw [IntKind.wrap_i64]; omega
  go_enter Try.func29, Try.ntmps29
  go_wp2_with (first | (go_at_call 65; refine hB.mono ?_; rintro e w' ⟨rfl, rfl⟩) | (go_at_call 67; refine hR.mono ?_; rintro e w' ⟨rfl, rfl⟩))
  refine bodyPost_ret (results_ctt rfl _ _ w.heap.size 25 _ _ _ rfl (heap_alloc_new w _) Try.underlying25 rfl (by kernel_rfl)) rfl ?_
  exact readpost_none rfl HB0.out
end Go.Proofs.Ytekhmkfiepnnkaa

/- seal.Read: the reading. -/
set_option linter.unusedVariables false
set_option linter.unusedSimpArgs false
namespace Go.Proofs.Ytekhmkfiepnnkaa
open Go.RowKit Go.Proofs.YtekhmkfiepnnkaaW.PrintWords Go.Proofs.YtekhmkfiepnnkaaW.PrintMore
attribute [local go_sem] min_two

theorem read_okI {w : World} {ok : Nat → Prop} {p : Nat} {D : DM} (j : Nat) (i : Int) (h : PDisk w ok p D) (hij : i = (j : Int)) (hr : D.ready j = 0) (hi : j < D.n) :
  Calls Try.prog 35 #[.pointer (some ⟨p, 0, none⟩), .int .i64 i] w fun e w' => e = .returned (.tuple #[.slice (some ⟨w.heap.size, 0, none⟩) 64 64, .int .i64 0]) ∧ w' = w.alloc (.cells (nums .u8 (D.blk j)).toArray 125) := by
  subst hij
  exact read_ok j h hr hi
theorem headN_in (b : List Int) (h : Bytes b) : 0 ≤ headN b ∧ headN b ≤ 131072 ∧ (headR b).bytes.length = min (headN b).toNat 47 := by
  unfold headN headR
  split
  · rename_i hh
    have h0 := numAt_lt h (i := 13) (n := 4) (by have := hh.1; omega)
    refine ⟨h0.1, hh.2.2.2.1, ?_⟩
    dsimp only
    rw [part_len (by have := hh.1; unfold headM; omega)]
    rfl
  · simp
theorem hasK_le (n k : Nat) : hasK n k ≤ 50 := Nat.min_le_right _ _
theorem blk_part_len {D : DM} (h : D.wf) {i m : Nat} (hi : i < D.n) (hm : m ≤ 50) : (((D.blk i).drop 14).take m).length = m := part_len (by rw [blk_length h hi]; omega)
theorem bytesK_len {D : DM} (h : D.wf) {b0 n : Nat} (hn : (headR (D.blk b0)).bytes.length = min n 47) : ∀ k, b0 + k < D.n → (bytesK D b0 n k).length = min n (47 + 50 * k)
  | 0, _ => hn
  | k + 1, hk => by
    simp only [bytesK, List.length_append]
    rw [bytesK_len h hn k (by omega), blk_part_len h hk (hasK_le n k)]
    unfold hasK
    omega
theorem bodiesN_lt {n k : Nat} : k < bodiesN n ↔ 47 + 50 * k < n := by unfold bodiesN; omega
theorem need_bodiesN {n : Nat} (h : n ≤ 131072) : need (n : Int) = (bodiesN n : Int) + 1 := by
  unfold need bodiesN
  rw [if_neg (by omega)]
  split <;> omega
theorem readV_in {D : DM} {b a e : Nat} (gen : Int) (hE : readE D b e a = 0) (hae : b + a < e) : readV D b e gen a =
    if headOK (D.blk (b + a)) ∧ (headR (D.blk (b + a))).gen = gen ∧ (headR (D.blk (b + a))).at_ = a ∧ need (headN (D.blk (b + a))) ≤ (e : Int) - b - a ∧
      ((List.range (bodiesN (headN (D.blk (b + a))).toNat)).all (goodK D (b + a) (headN (D.blk (b + a))).toNat gen a)) = true then
      some ⟨gen, a, (headR (D.blk (b + a))).kind, bytesK D (b + a) (headN (D.blk (b + a))).toNat (bodiesN (headN (D.blk (b + a))).toNat)⟩ else none := by
  unfold readV
  rw [show ((b : Int) + (a : Int)).toNat = b + a from by omega]
  have h1 : (a : Int) < (e : Int) - (b : Int) := by omega
  simp only [hE, h1, true_and]
/-- A record's block holds them. -/
structure RdIn (w wr : World) (rb : Nat) (g a kd : Int) (A : Option Addr) (c : Nat) (xs : List Int) : Prop where
  z : wr.heap[w.heap.size]? = some (.cells #[.int .u64 0, .int .i64 0, .int .i64 0, .slice none 0 0] 25 (0, 0))
  r : wr.heap[rb]? = some (.cells #[.int .u64 g, .int .i64 a, .int .i64 kd, .slice A xs.length c] 25 (0, 0))
  row : KB.R 5 wr w.heap.size (fun q => w.heap.size ≤ q) (.slice A xs.length c) xs
  le : xs.length ≤ c
  bel : Below w.heap.size w wr
theorem RdIn.below {w wr w' : World} {rb : Nat} {g a kd : Int} {A : Option Addr} {c : Nat} {xs : List Int} (h : RdIn w wr rb g a kd A c xs) (hb : Below wr.heap.size wr w') : RdIn w w' rb g a kd A c xs :=
  ⟨(hb.block _ (blk_lt h.z)).trans h.z, (hb.block _ (blk_lt h.r)).trans h.r, Kd.R_below h.row hb, h.le, h.bel.trans (hb.mono h.bel.size)⟩
theorem RdIn.end_ {w wr : World} {rb : Nat} {g a kd : Int} {A : Option Addr} {c : Nat} {xs : List Int} (h : RdIn w wr rb g a kd A c xs) (hrb : w.heap.size < rb) {v : Value} (hv : v = .tuple #[.agg #[.int .u64 g, .int .i64 a, .int .i64 kd, .slice A xs.length c], .bool true, .int .i64 0]) :
    ReadPost (some ⟨g, a, kd, xs⟩) 0 w (.returned v) (W4s wr w.heap.size (.int .u64 g) (.int .i64 a) (.int .i64 kd) (.slice A xs.length c)) := by
  refine ⟨A, c, by rw [hv]; rfl, ?_, h.le, below4 h.bel (Nat.le_refl _) _ _ _ _⟩
  refine Kd.R_mono (Kd.R_step (Kd.R_types h.row h.z (by decide)) (fun k hk _ => ?_)) (fun k hk => hk.1)
  unfold W4s
  rw [Below.heap_setCell _ _ _ _ hk.2, Below.heap_setCell _ _ _ _ hk.2, Below.heap_setCell _ _ _ _ hk.2, Below.heap_setCell _ _ _ _ hk.2]
theorem all_range {n : Nat} {f : Nat → Bool} {k : Nat} (hk : k < n) (hf : f k = false) : (List.range n).all f = false := by
  rw [List.all_eq_false]
  exact ⟨k, List.mem_range.2 hk, by rw [hf]; simp⟩
theorem all_range_true {n : Nat} {f : Nat → Bool} (hf : ∀ k, k < n → f k = true) : (List.range n).all f = true := List.all_eq_true.2 (fun k hk => hf k (List.mem_range.1 hk))
def GoodTo (D : DM) (b0 n : Nat) (gen at_ : Int) (k : Nat) : Prop := ∀ i, i < k → goodK D b0 n gen at_ i = true
set_option maxRecDepth 100000 in
set_option maxHeartbeats 4000000 in
theorem read_inD {w : World} {ok : Nat → Prop} {p : Nat} {D : DM} (h : PDisk w ok p D) (b a e : Nat) (gen : Int) (hg : D.gone = false) (he : e ≤ D.n) (hae : b + a < e) :
  Calls Try.prog 29 #[.pointer (some ⟨p, 0, none⟩), .int .i64 (b : Nat), .int .i64 (e : Nat), .int .u64 gen, .int .i64 (a : Nat)] w (ReadPost (readV D b e gen a) 0 w) := by
  have hn := h.1.hi
  have hRE : regE D (b : Int) (e : Int) = 0 := by unfold regE; rw [if_neg (by omega), if_neg (by simp [hg])]
  have hE : readE D b e a = 0 := by unfold readE; rw [if_neg (by omega), hRE]
  have hV := readV_in gen hE hae
  have hB0 : Below w.heap.size w (w.alloc (.cells #[.int .u64 0, .int .i64 0, .int .i64 0, .slice none 0 0] 25)) := below_alloc (Below.refl _ _) _
  have h0 := h.step (w1 := w.alloc (.cells #[.int .u64 0, .int .i64 0, .int .i64 0, .slice none 0 0] 25)) (fun k _ hk => hB0.block k hk)
  have hB := blocks_any h0
  have hR := region_any h0 (b : Int) (e : Int)
  rw [hRE] at hR
  have hX := blk_length h.1 (i := b + a) (by omega)
  have hXb := blk_bytes h.1 (b + a)
  have hrd := fun i hi => read_okI (b + a) i h0 hi (ready_in hg (by omega)) (by omega)
  obtain ⟨hN1, hN2, hN3⟩ := headN_in _ hXb
  have hBL := bytesK_len h.1 hN3
  obtain ⟨n, hNn⟩ := Int.eq_ofNat_of_zero_le hN1
  rw [hNn] at hN2
  have hNt : (headN (D.blk (b + a))).toNat = n := by rw [hNn]; simp
  rw [hNt] at hV hN3 hBL
  rw [hNn] at hV
  have n1 : ¬ (b : Int) < 0 := by omega
  have n2 : ¬ (e : Int) < (b : Int) := by omega
  have n3 : ¬ (D.n : Int) < (e : Int) := by omega
  have n4 : ¬ (a : Int) < 0 := by omega
  have n5 : ¬ (e : Int) - (b : Int) ≤ (a : Int) := by omega
  have hw1 : IntKind.i64.wrap ((e : Int) - (b : Int)) = (e : Int) - (b : Int) := by rw [IntKind.wrap_i64]; omega
  have hw2 : IntKind.i64.wrap ((b : Int) + (a : Int)) = (b : Int) + (a : Int) := by rw [IntKind.wrap_i64]; omega
  have hn131 : n ≤ 131072 := by omega
  have HX := hid hX
  have HBL := hid hBL
  have HB0 := hid hB0
  have hRb : (headR (D.blk (b + a))).bytes = bytesK D (b + a) n 0 := rfl
  have HV := hid hV
  have HNn := hid hNn
  clear hE hRE hX hBL hB0 hV hNt hNn hN1
  generalize hVV : readV D b e gen a = VV at HV ⊢
  clear hVV
  go_enter Try.func29, Try.ntmps29
  go_wp2_with (first | (go_at_call 65; refine hB.mono ?_; rintro e w' ⟨rfl, rfl⟩) | (go_at_call 67; refine hR.mono ?_; rintro e w' ⟨rfl, rfl⟩))
  refine (hrd _ (by omega)).mono ?_
  rintro e0 w1 ⟨rfl, hw1e⟩
  have hz1 : w1.heap[w.heap.size]? = some (.cells #[.int .u64 0, .int .i64 0, .int .i64 0, .slice none 0 0] 25 (0, 0)) := by rw [hw1e, Below.heap_alloc _ _ _ (by simp)]; exact headR_zero
  have hBw1 : Below w.heap.size w w1 := by rw [hw1e]; exact HB0.out.alloc HB0.out.size _
  have hRB : RB w1 (fun k => k = w.heap.size + 1) (some ⟨w.heap.size + 1, 0, none⟩) (D.blk (b + a)) := by
    rw [hw1e]
    have := RB_new (w.alloc (.cells #[.int .u64 0, .int .i64 0, .int .i64 0, .slice none 0 0] 25)) 125 (D.blk (b + a)) (by rw [HX.out]; omega)
    rw [World.size_alloc] at this
    exact this
  clear hrd hw1e hB hR h0
  have hh := head_any (c := 64) hRB hXb (by rw [HX.out]; omega)
  rw [HX.out] at hh
  go_wp2_with fail
  refine hh.mono ?_
  rintro e0 w2 ⟨A, c, rfl, hR2, hle, hB2⟩
  clear hh hRB
  rw [HNn.out]
  unfold recV
  obtain ⟨R, hRR⟩ : ∃ R, headR (D.blk (b + a)) = R := ⟨_, rfl⟩
  rw [hRR] at hR2 hle hN3 ⊢
  have HV2 := HV.out
  rw [hRR] at HV2
  have HV3 := hid HV2
  have HRb : Hid (R.bytes = bytesK D (b + a) n 0) := hid (by rw [← hRb, hRR])
  clear HV2 HV hRR hRb HX
  obtain ⟨rg, ra, rk, rb⟩ := R
  dsimp only at hR2 hle hN3 HV3 HRb ⊢
  have HN3 := hid hN3
  clear hN3
  obtain ⟨ib, hib⟩ : ∃ ib, decide (headOK (D.blk (b + a))) = ib := ⟨_, rfl⟩
  rw [hib]
  have HIB := hid hib
  clear hib
  have hz2 := (hB2.block _ (blk_lt hz1)).trans hz1
  have hBw2 : Below w.heap.size w w2 := hBw1.trans (hB2.mono hBw1.size)
  have hRd0 : RdIn w (w2.alloc (.cells #[.int .u64 rg, .int .i64 ra, .int .i64 rk, .slice A rb.length c] 25)) w2.heap.size rg ra rk A c rb :=
    ⟨(Below.heap_alloc w2 _ _ (blk_lt hz2)).trans hz2, heap_alloc_new w2 _, Kd.R_alloc (Kd.R_lower (Kd.R_mono hR2 (fun k hk => by have := hBw1.size; omega)) hBw1.size) _, hle, below_alloc hBw2 _⟩
  have hrbn : w.heap.size < w2.heap.size := blk_lt hz2
  go_upto_region 12 with (fail)
  clear hB2 hBw2 hz2 hz1 hR2
  generalize w2.alloc (.cells #[.int .u64 rg, .int .i64 ra, .int .i64 rk, .slice A rb.length c] 25) = w3 at hRd0 ⊢
  generalize w2.heap.size = rx at hRd0 hrbn ⊢
  have hz := hRd0.z
  have hbel := hRd0.bel
  have z0 := cell_of_row _ _ 0 _ _ _ hz
  have z1 := cell_of_row _ _ 1 _ _ _ hz
  have z2 := cell_of_row _ _ 2 _ _ _ hz
  have z3 := cell_of_row _ _ 3 _ _ _ hz
  have f0 := frozen_of_row _ _ 0 _ _ hz
  have f1 := frozen_of_row _ _ 1 _ _ hz
  have f2 := frozen_of_row _ _ 2 _ _ hz
  have f3 := frozen_of_row _ _ 3 _ _ hz
  have q0 := cell_of_row _ _ 0 _ _ _ hRd0.r
  have q1 := cell_of_row _ _ 1 _ _ _ hRd0.r
  have q2 := cell_of_row _ _ 2 _ _ _ hRd0.r
  have q3 := cell_of_row _ _ 3 _ _ _ hRd0.r
  simp at z0 z1 z2 z3 q0 q1 q2 q3
  cases ib with
  | false =>
    have hno : VV = none := by rw [HV3.out, if_neg]; rintro ⟨hh, _⟩; have := HIB.out; rw [decide_eq_true hh] at this; cases this
    clear HV3 hRd0
    subst hno
    go_wp2
    (refine bodyPost_ret (results_ctt rfl _ _ w.heap.size 25 _ _ _ rfl (set4 hz (.int .u64 0) (.int .i64 0) (.int .i64 0) (.slice none 0 0)) Try.underlying25 rfl (by kernel_rfl)) rfl ?_; exact readpost_none rfl (below4 hbel (Nat.le_refl _) _ _ _ _))
  | true =>
    have hOK : headOK (D.blk (b + a)) := of_decide_eq_true HIB.out
    clear HIB
    by_cases t1 : rg = gen
    case neg =>
      have hno : VV = none := by rw [HV3.out, if_neg]; rintro ⟨_, hh, _⟩; exact t1 hh
      have t1a : (rg == gen) = false := by simpa using t1
      have t1b : (rg != gen) = true := by simpa using t1
      clear HV3 hRd0 hOK
      subst hno
      go_wp2
      (refine bodyPost_ret (results_ctt rfl _ _ w.heap.size 25 _ _ _ rfl (set4 hz (.int .u64 0) (.int .i64 0) (.int .i64 0) (.slice none 0 0)) Try.underlying25 rfl (by kernel_rfl)) rfl ?_; exact readpost_none rfl (below4 hbel (Nat.le_refl _) _ _ _ _))
    subst t1
    by_cases t2 : ra = (a : Int)
    case neg =>
      have hno : VV = none := by rw [HV3.out, if_neg]; rintro ⟨_, _, hh, _⟩; exact t2 hh
      have t2a : (ra == (a : Int)) = false := by simpa using t2
      have t2b : (ra != (a : Int)) = true := by simpa using t2
      clear HV3 hRd0 hOK
      subst hno
      go_wp2
      (refine bodyPost_ret (results_ctt rfl _ _ w.heap.size 25 _ _ _ rfl (set4 hz (.int .u64 0) (.int .i64 0) (.int .i64 0) (.slice none 0 0)) Try.underlying25 rfl (by kernel_rfl)) rfl ?_; exact readpost_none rfl (below4 hbel (Nat.le_refl _) _ _ _ _))
    subst t2
    have hw3 : IntKind.i64.wrap ((e : Int) - (b : Int) - (a : Int)) = (e : Int) - (b : Int) - (a : Int) := by rw [IntKind.wrap_i64]; omega
    have hnd := fun W => need_any (w := W) (n : Int) (by omega)
    rw [need_bodiesN hn131] at hnd HV3
    by_cases t3 : (e : Int) - (b : Int) - (a : Int) < (bodiesN n : Int) + 1
    · have hno : VV = none := by rw [HV3.out, if_neg]; rintro ⟨_, _, _, hh, _⟩; omega
      clear HV3 hRd0 hOK
      subst hno
      go_wp2_with (go_at_call 26; refine (hnd _).mono ?_; rintro e0 w' ⟨rfl, rfl⟩)
      (refine bodyPost_ret (results_ctt rfl _ _ w.heap.size 25 _ _ _ rfl (set4 hz (.int .u64 0) (.int .i64 0) (.int .i64 0) (.slice none 0 0)) Try.underlying25 rfl (by kernel_rfl)) rfl ?_; exact readpost_none rfl (below4 hbel (Nat.le_refl _) _ _ _ _))
    have hbn : b + a + (bodiesN n + 1) ≤ e := by omega
    have hRd1 : RdIn w w3 rx rg a rk A c (bytesK D (b + a) n 0) := by rw [← HRb.out]; exact hRd0
    have HV : Hid (VV = if (List.range (bodiesN n)).all (goodK D (b + a) n rg a) = true then some ⟨rg, a, rk, bytesK D (b + a) n (bodiesN n)⟩ else none) := hid (by
      rw [HV3.out]
      by_cases hq : (List.range (bodiesN n)).all (goodK D (b + a) n rg a) = true
      · rw [if_pos hq, if_pos ⟨hOK, rfl, rfl, by omega, hq⟩]
      · rw [if_neg hq, if_neg (fun hh => hq hh.2.2.2.2)])
    clear HV3 hRd0 HRb HN3 hOK z0 z1 z2 z3 f0 f1 f2 f3 q3 hz hbel hle
    go_wp2_with (go_at_call 26; refine (hnd _).mono ?_; rintro e0 w' ⟨rfl, rfl⟩)
    clear q0 q1 q2 hnd
    have hbN : bodiesN n ≤ 4096 := by omega
    go_loopw [19] (fun kk wr => ∃ (k : Nat) (A1 : Option Addr) (c1 : Nat), k ≤ bodiesN n ∧ kk = .int .i64 ((k : Int) + 1) ∧ RdIn w wr rx rg a rk A1 c1 (bytesK D (b + a) n k) ∧ GoodTo D (b + a) n rg a k) (fun kk _ => bodiesN n + 1 - (intOf kk).toNat)
    case atStart => exact ⟨0, A, c, Nat.zero_le _, rfl, hRd1, fun i hi => absurd hi (by omega)⟩
    case round =>
      obtain ⟨k, A1, c1, hk, rfl, hI, hgood⟩ := hrel
      clear hRd1
      have hxl := HBL.out k (by omega)
      obtain ⟨xs, hxs⟩ : ∃ xs, bytesK D (b + a) n k = xs := ⟨_, rfl⟩
      rw [hxs] at hI hxl
      have HXS := hid hxs
      clear hxs
      have q3 := cell_of_row _ _ 3 _ _ _ hI.r
      simp at q3
      by_cases hlt : k < bodiesN n
      · have h47 := bodiesN_lt.1 hlt
        have hlen : xs.length < n := by omega
        have HXL := hid hxl
        clear hxl
        have hPD := h.step (w1 := wr) (fun j _ hj => hI.bel.block j hj)
        have hrd := fun i hi => read_okI (b + a + (k + 1)) i hPD hi (ready_in hg (by omega)) (by omega)
        have hX := blk_length h.1 (i := b + a + (k + 1)) (by omega)
        have hXb2 := blk_bytes h.1 (b + a + (k + 1))
        have HX := hid hX
        clear hX
        have hw4 : IntKind.i64.wrap ((b : Int) + (a : Int) + ((k : Int) + 1)) = (b : Int) + (a : Int) + ((k : Int) + 1) := by rw [IntKind.wrap_i64]; omega
        go_wp2_with fail
        refine (hrd _ (by omega)).mono ?_
        rintro e0 w4 ⟨rfl, hw4e⟩
        have hRB : RB w4 (fun q => q = wr.heap.size) (some ⟨wr.heap.size, 0, none⟩) (D.blk (b + a + (k + 1))) := by rw [hw4e]; exact RB_new _ _ _ (by rw [HX.out]; omega)
        have hI4 := hI.below (w' := w4) (by rw [hw4e]; exact below_alloc (Below.refl _ _) _)
        clear hw4e hrd hPD hI
        have hbd := body_any (c := 64) hRB hXb2 (by rw [HX.out]; omega)
        rw [HX.out] at hbd
        obtain ⟨V, hVe⟩ : ∃ V, bodyV (D.blk (b + a + (k + 1))) = V := ⟨_, rfl⟩
        have hgk : goodK D (b + a) n rg a k = (decide (V = (rg, (a : Int), ((k + 1 : Nat) : Int), true)) && blank ((D.blk (b + a + (k + 1))).drop (14 + hasK n k))) := by unfold goodK; rw [hVe]
        rw [hVe] at hbd
        clear hVe
        obtain ⟨vg, va, vk, vi⟩ := V
        unfold bodyT at hbd
        dsimp only at hbd
        have hm50 := hasK_le n k
        have hmx : hasK n k = min (n - xs.length) 50 := by unfold hasK; rw [show xs.length = 47 + 50 * k from by have := HXL.out; omega]
        have HBAD : Hid (goodK D (b + a) n rg a k = false → VV = none) := hid (fun hf => by rw [HV.out, all_range hlt hf]; rfl)
        have hpartl := part_len (b := D.blk (b + a + (k + 1))) (i := 14) (n := hasK n k) (by rw [HX.out]; omega)
        have hnext : xs ++ ((D.blk (b + a + (k + 1))).drop 14).take (hasK n k) = bytesK D (b + a) n (k + 1) := by rw [← HXS.out]; rfl
        have HNX := hid hnext
        have HPL := hid hpartl
        have HMX := hid hmx
        clear hnext hpartl hmx
        generalize hasK n k = m at hgk hm50 HNX HPL HMX
        have HGK := hid hgk
        clear hgk
        go_wp2_with fail
        refine hbd.mono ?_
        rintro e0 w5 ⟨rfl, hB5⟩
        clear hbd
        have hI5 := hI4.below hB5
        have hRB5 := RB_below hRB hB5
        clear hI4 q3
        have hz := hI5.z
        have hbel := hI5.bel
        have z0 := cell_of_row _ _ 0 _ _ _ hz
        have z1 := cell_of_row _ _ 1 _ _ _ hz
        have z2 := cell_of_row _ _ 2 _ _ _ hz
        have z3 := cell_of_row _ _ 3 _ _ _ hz
        have f0 := frozen_of_row _ _ 0 _ _ hz
        have f1 := frozen_of_row _ _ 1 _ _ hz
        have f2 := frozen_of_row _ _ 2 _ _ hz
        have f3 := frozen_of_row _ _ 3 _ _ hz
        have q3 := cell_of_row _ _ 3 _ _ _ hI5.r
        have qf3 := frozen_of_row _ _ 3 _ _ hI5.r
        simp at z0 z1 z2 z3 q3
        have hmin : Builtin.min2 (.int .i64 ((n : Int) - (xs.length : Int))) (.int .i64 50) = pure (.int .i64 (m : Int)) := by
          have hmm := HMX.out
          rw [min2_int]
          congr 2
          split <;> omega
        cases vi with
        | false =>
          have hno : VV = none := HBAD.out (by rw [HGK.out, decide_eq_false (by simp)]; rfl)
          clear HBAD HGK HV hI5
          subst hno
          go_wp2
          (refine bodyPost_ret (results_ctt rfl _ _ w.heap.size 25 _ _ _ rfl (set4 hz (.int .u64 0) (.int .i64 0) (.int .i64 0) (.slice none 0 0)) Try.underlying25 rfl (by kernel_rfl)) rfl ?_; exact readpost_none rfl (below4 hbel (Nat.le_refl _) _ _ _ _))
        | true =>
          by_cases t1 : vg = rg
          case neg =>
            have hno : VV = none := HBAD.out (by rw [HGK.out, decide_eq_false (by simp [t1])]; rfl)
            have t1a : (vg == rg) = false := by simpa using t1
            have t1b : (vg != rg) = true := by simpa using t1
            clear HBAD HGK HV hI5
            subst hno
            go_wp2
            (refine bodyPost_ret (results_ctt rfl _ _ w.heap.size 25 _ _ _ rfl (set4 hz (.int .u64 0) (.int .i64 0) (.int .i64 0) (.slice none 0 0)) Try.underlying25 rfl (by kernel_rfl)) rfl ?_; exact readpost_none rfl (below4 hbel (Nat.le_refl _) _ _ _ _))
          subst t1
          by_cases t2 : va = (a : Int)
          case neg =>
            have hno : VV = none := HBAD.out (by rw [HGK.out, decide_eq_false (by simp [t2])]; rfl)
            have t2a : (va == (a : Int)) = false := by simpa using t2
            have t2b : (va != (a : Int)) = true := by simpa using t2
            clear HBAD HGK HV hI5
            subst hno
            go_wp2
            (refine bodyPost_ret (results_ctt rfl _ _ w.heap.size 25 _ _ _ rfl (set4 hz (.int .u64 0) (.int .i64 0) (.int .i64 0) (.slice none 0 0)) Try.underlying25 rfl (by kernel_rfl)) rfl ?_; exact readpost_none rfl (below4 hbel (Nat.le_refl _) _ _ _ _))
          subst t2
          by_cases t3 : vk = (k : Int) + 1
          case neg =>
            have hno : VV = none := HBAD.out (by rw [HGK.out, decide_eq_false (by simp; omega)]; rfl)
            have t3a : (vk == (k : Int) + 1) = false := by simpa using t3
            have t3b : (vk != (k : Int) + 1) = true := by simpa using t3
            clear HBAD HGK HV hI5
            subst hno
            go_wp2
            (refine bodyPost_ret (results_ctt rfl _ _ w.heap.size 25 _ _ _ rfl (set4 hz (.int .u64 0) (.int .i64 0) (.int .i64 0) (.slice none 0 0)) Try.underlying25 rfl (by kernel_rfl)) rfl ?_; exact readpost_none rfl (below4 hbel (Nat.le_refl _) _ _ _ _))
          subst t3
          have hbl := blank_tail (a := ⟨wr.heap.size, 0, none⟩) (m := 14 + m) hRB hB5 HX.out (by omega) (Nat.le_refl 64)
          have htn : (14 + (m : Int)).toNat = 14 + m := by omega
          have him : (14 : Int) + (m : Int) ≤ 64 := by omega
          have h14 : (14 : Int) ≤ 14 + (m : Int) := by omega
          have h014 : (0 : Int) ≤ 14 + (m : Int) := by omega
          have hwm : IntKind.i64.wrap (14 + (m : Int)) = 14 + (m : Int) := by rw [IntKind.wrap_i64]; omega
          obtain ⟨bl, hblE⟩ : ∃ bl, blank ((D.blk (b + a + (k + 1))).drop (14 + m)) = bl := ⟨_, rfl⟩
          rw [hblE] at hbl
          have HBK := hid hblE
          clear hblE
          have BL : ∀ (V : Value), V = .slice (behind (some ⟨wr.heap.size, 0, none⟩) (14 + m) 64) (64 - (14 + m)) (64 - (14 + m)) → Calls Try.prog 60 #[V] w5 fun e w' => e = .returned (.bool bl) ∧ w' = w5 := fun V e => by rw [e]; exact hbl
          clear hbl
          by_cases hcm : 64 = 14 + m
          · obtain rfl : m = 50 := by omega
            clear hwm h14 h014 him htn hcm
            go_wp2_with fail
            refine (BL _ ?_).mono ?_
            · unfold behind
              rw [if_pos rfl]
            rintro e0 w6 ⟨rfl, rfl⟩
            clear BL
            cases bl with
            | false =>
              have hno : VV = none := HBAD.out (by rw [HGK.out, HBK.out]; simp)
              clear HBAD HGK HV hI5
              subst hno
              go_wp2
              (refine bodyPost_ret (results_ctt rfl _ _ w.heap.size 25 _ _ _ rfl (set4 hz (.int .u64 0) (.int .i64 0) (.int .i64 0) (.slice none 0 0)) Try.underlying25 rfl (by kernel_rfl)) rfl ?_; exact readpost_none rfl (below4 hbel (Nat.le_refl _) _ _ _ _))
            | true =>
              have hRow := hI5.row
              have hpart := part (i := 14) (n := 50) hRB5 (by rw [HX.out]; omega)
              have hRm : ReadsInt w6.drew .u8 (some (Addr.add ⟨wr.heap.size, 0, none⟩ 14)) 50 (((D.blk (b + a + (k + 1))).drop 14).take 50) := by
                have := RB_int (RB_drew hpart)
                rwa [HPL.out] at this
              have hgood1 : GoodTo D (b + a) n vg a (k + 1) := fun i hi => by
                rcases Nat.lt_or_ge i k with h1 | h1
                · exact hgood i h1
                · obtain rfl : i = k := by omega
                  rw [HGK.out, HBK.out]
                  simp
              have HG1 := hid hgood1
              clear hgood1 hgood HGK HBAD HBK
              have hne : some rx ≠ (Value.slice A1 xs.length c1).ownBlock := Kd.R_ne hRow hI5.r (by decide)
              have hnz : some w.heap.size ≠ (Value.slice A1 xs.length c1).ownBlock := Kd.R_ne hRow hI5.z (by decide)
              go_wp2_with fail
              refine wp_region_plan [7, 8] (.take 0 (.take 1 (.take 2 (.take 3 (.take 4 (.take 5 (.run 6 (.tail 7 (.tail 8 .done))))))))) (fun W' => W'.cell? ⟨rx, 3, none⟩ = some (.slice A1 xs.length c1)) (by kernel_rfl) (by kernel_rfl) (fun c a d v w h => by cases d <;> exact h) q3 ?_
              iterate 6 (apply plan_take rfl rfl; (case hy => (intro w' hS; go_simp; try exact rfl)); go_simp)
              refine plan_run_on rfl rfl (fun K hK => ?_)
              refine step_append_row (w0 := w) w.heap.size (.tmp 158) (.tmp 162) 22 5 .u8 1 rfl Try.underlying22 info_u8 (by decide) _ xs (((D.blk (b + a + (k + 1))).drop 14).take 50) (some (Addr.add ⟨wr.heap.size, 0, none⟩ 14)) 50 50 rfl rfl (R_own1 (Kd.R_drew hRow)) hRm hI5.bel.drew hI5.bel.drew.size (by omega) ?_
              intro v1 w7 ho hB6 hg6 hat
              have hR6 : KB.R 5 w7 w.heap.size (fun q => w.heap.size ≤ q) v1 (xs ++ ((D.blk (b + a + (k + 1))).drop 14).take 50) := Rown ho (fun q hq => own_base ho q hq)
              rw [HNX.out] at hR6
              obtain ⟨A6, c6, rfl, hle6, _⟩ := Kd.R_reads hR6
              have hr6 := (hg6.block rx (blk_lt hI5.r) (fun e => hne e)).trans hI5.r
              have hz6 := (hg6.block w.heap.size (blk_lt hI5.z) (fun e => hnz e)).trans hI5.z
              clear ho hg6 hat hRm hpart hne hnz hRow hRB5 hRB
              have p3 := cell_of_row _ _ 3 _ _ _ hr6
              have pf3 := frozen_of_row _ _ 3 _ _ hr6
              simp at p3
              refine hK _ _ _ (fun _ h => h) p3 ?_
              clear hK K
              go_simp
              refine plan_tail_on rfl rfl (fun K hK => ?_)
              go_simp
              refine hK _ _ ?_
              clear hK K
              refine plan_tail_on rfl rfl (fun K hK => ?_)
              go_simp
              refine hK _ _ (plan_done ?_)
              clear hK K
              have hI7 : RdIn w (w7.setCell ⟨rx, 3, none⟩ (.slice A6 (bytesK D (b + a) n (k + 1)).length c6)) rx vg a rk A6 c6 (bytesK D (b + a) n (k + 1)) :=
                ⟨(Below.heap_setCell w7 ⟨rx, 3, none⟩ _ w.heap.size (by show w.heap.size ≠ rx; omega)).trans hz6, heap_setCell_same w7 rx 3 _ _ _ hr6, Kd.R_set hR6 hr6 (by decide) 3 _, hle6, hB6.setCell (p := ⟨rx, 3, none⟩) (by show w.heap.size ≤ rx; omega) _⟩
              have HI7 := hid hI7
              clear hI7 hR6 hr6 hz6 hle6 p3 pf3 q3 qf3 z0 z1 z2 z3 f0 f1 f2 f3 hz hbel hI5 hmin
              go_wp2
              go_roundw
              case rel => exact ⟨k + 1, A6, c6, by omega, by go_num, HI7.out, HG1.out⟩
              case measure => simp [intOf]; omega
          · go_wp2_with fail
            refine (BL _ ?_).mono ?_
            · unfold behind
              rw [if_neg hcm]
              simp [Addr.add]
            rintro e0 w6 ⟨rfl, rfl⟩
            clear BL
            cases bl with
            | false =>
              have hno : VV = none := HBAD.out (by rw [HGK.out, HBK.out]; simp)
              clear HBAD HGK HV hI5
              subst hno
              go_wp2
              (refine bodyPost_ret (results_ctt rfl _ _ w.heap.size 25 _ _ _ rfl (set4 hz (.int .u64 0) (.int .i64 0) (.int .i64 0) (.slice none 0 0)) Try.underlying25 rfl (by kernel_rfl)) rfl ?_; exact readpost_none rfl (below4 hbel (Nat.le_refl _) _ _ _ _))
            | true =>
              have hRow := hI5.row
              have hpart := part (i := 14) (n := m) hRB5 (by rw [HX.out]; omega)
              have hRm : ReadsInt w6.drew .u8 (some (Addr.add ⟨wr.heap.size, 0, none⟩ 14)) m (((D.blk (b + a + (k + 1))).drop 14).take m) := by
                have := RB_int (RB_drew hpart)
                rwa [HPL.out] at this
              have hgood1 : GoodTo D (b + a) n vg a (k + 1) := fun i hi => by
                rcases Nat.lt_or_ge i k with h1 | h1
                · exact hgood i h1
                · obtain rfl : i = k := by omega
                  rw [HGK.out, HBK.out]
                  simp
              have HG1 := hid hgood1
              clear hgood1 hgood HGK HBAD HBK
              have hne : some rx ≠ (Value.slice A1 xs.length c1).ownBlock := Kd.R_ne hRow hI5.r (by decide)
              have hnz : some w.heap.size ≠ (Value.slice A1 xs.length c1).ownBlock := Kd.R_ne hRow hI5.z (by decide)
              go_wp2_with fail
              refine wp_region_plan [7, 8] (.take 0 (.take 1 (.take 2 (.take 3 (.take 4 (.take 5 (.run 6 (.tail 7 (.tail 8 .done))))))))) (fun W' => W'.cell? ⟨rx, 3, none⟩ = some (.slice A1 xs.length c1)) (by kernel_rfl) (by kernel_rfl) (fun c a d v w h => by cases d <;> exact h) q3 ?_
              have hwm2 : IntKind.i64.wrap (14 + (m : Int)) = 14 + (m : Int) := by rw [IntKind.wrap_i64]; omega
              have h142 : (14 : Int) ≤ 14 + (m : Int) := by omega
              have h0142 : (0 : Int) ≤ 14 + (m : Int) := by omega
              have htn2 : (14 + (m : Int)).toNat = 14 + m := by omega
              iterate 6 (apply plan_take rfl rfl; (case hy => (intro w' hS; go_simp; try exact rfl)); go_simp)
              refine plan_run_on rfl rfl (fun K hK => ?_)
              refine step_append_row (w0 := w) w.heap.size (.tmp 158) (.tmp 162) 22 5 .u8 1 rfl Try.underlying22 info_u8 (by decide) _ xs (((D.blk (b + a + (k + 1))).drop 14).take m) (some (Addr.add ⟨wr.heap.size, 0, none⟩ 14)) m 50 rfl rfl (R_own1 (Kd.R_drew hRow)) hRm hI5.bel.drew hI5.bel.drew.size (by omega) ?_
              intro v1 w7 ho hB6 hg6 hat
              have hR6 : KB.R 5 w7 w.heap.size (fun q => w.heap.size ≤ q) v1 (xs ++ ((D.blk (b + a + (k + 1))).drop 14).take m) := Rown ho (fun q hq => own_base ho q hq)
              rw [HNX.out] at hR6
              obtain ⟨A6, c6, rfl, hle6, _⟩ := Kd.R_reads hR6
              have hr6 := (hg6.block rx (blk_lt hI5.r) (fun e => hne e)).trans hI5.r
              have hz6 := (hg6.block w.heap.size (blk_lt hI5.z) (fun e => hnz e)).trans hI5.z
              clear ho hg6 hat hRm hpart hne hnz hRow hRB5 hRB
              have p3 := cell_of_row _ _ 3 _ _ _ hr6
              have pf3 := frozen_of_row _ _ 3 _ _ hr6
              simp at p3
              refine hK _ _ _ (fun _ h => h) p3 ?_
              clear hK K
              go_simp
              refine plan_tail_on rfl rfl (fun K hK => ?_)
              go_simp
              refine hK _ _ ?_
              clear hK K
              refine plan_tail_on rfl rfl (fun K hK => ?_)
              go_simp
              refine hK _ _ (plan_done ?_)
              clear hK K
              have hI7 : RdIn w (w7.setCell ⟨rx, 3, none⟩ (.slice A6 (bytesK D (b + a) n (k + 1)).length c6)) rx vg a rk A6 c6 (bytesK D (b + a) n (k + 1)) :=
                ⟨(Below.heap_setCell w7 ⟨rx, 3, none⟩ _ w.heap.size (by show w.heap.size ≠ rx; omega)).trans hz6, heap_setCell_same w7 rx 3 _ _ _ hr6, Kd.R_set hR6 hr6 (by decide) 3 _, hle6, hB6.setCell (p := ⟨rx, 3, none⟩) (by show w.heap.size ≤ rx; omega) _⟩
              have HI7 := hid hI7
              clear hI7 hR6 hr6 hz6 hle6 p3 pf3 q3 qf3 z0 z1 z2 z3 f0 f1 f2 f3 hz hbel hI5 hmin
              go_wp2
              go_roundw
              case rel => exact ⟨k + 1, A6, c6, by omega, by go_num, HI7.out, HG1.out⟩
              case measure => simp [intOf]; omega
      · obtain rfl : k = bodiesN n := by omega
        have hge : n ≤ xs.length := by have := bodiesN_lt (n := n) (k := bodiesN n); omega
        have hge2 : ¬ xs.length < n := by omega
        have HXL := hid hxl
        have hyes : VV = some ⟨rg, a, rk, xs⟩ := by
          rw [HV.out, if_pos (all_range_true (fun i hi => hgood i hi)), HXS.out]
        have hz := hI.z
        have z0 := cell_of_row _ _ 0 _ _ _ hz
        have z1 := cell_of_row _ _ 1 _ _ _ hz
        have z2 := cell_of_row _ _ 2 _ _ _ hz
        have z3 := cell_of_row _ _ 3 _ _ _ hz
        have f0 := frozen_of_row _ _ 0 _ _ hz
        have f1 := frozen_of_row _ _ 1 _ _ hz
        have f2 := frozen_of_row _ _ 2 _ _ hz
        have f3 := frozen_of_row _ _ 3 _ _ hz
        have q0 := cell_of_row _ _ 0 _ _ _ hI.r
        have q1 := cell_of_row _ _ 1 _ _ _ hI.r
        have q2 := cell_of_row _ _ 2 _ _ _ hI.r
        simp at z0 z1 z2 z3 q0 q1 q2
        have HI := hid hI
        clear hxl HV hgood hI
        subst hyes
        go_wp2
        refine bodyPost_ret (results_ctt rfl _ _ w.heap.size 25 _ _ _ rfl (set4 hz (.int .u64 rg) (.int .i64 a) (.int .i64 rk) (.slice A1 xs.length c1)) Try.underlying25 rfl (by kernel_rfl)) rfl ?_
        exact HI.out.end_ hrbn rfl
end Go.Proofs.Ytekhmkfiepnnkaa

/- foundrylaw22_sameBytes, foundrylaw22_sameRecord, foundrylaw22_mine, foundryref22_number, foundryref22_filled, as the kit's printer prints them (print.sh), carved by wip/tools/carve.py. -/
namespace Go.Proofs.Ytekhmkfiepnnkaa.KCarveA
open Go.RowKit Go.Proofs.YtekhmkfiepnnkaaW.PrintWords Go.Proofs.YtekhmkfiepnnkaaW.PrintLast Go.Proofs.YtekhmkfiepnnkaaW.PrintMore
attribute [local go_sem] max2_int min2_int max_two min_two max_three min_three max_four min_four   -- for this text's walks alone
set_option linter.unusedVariables false
set_option linter.unusedSimpArgs false




def errW : Option Int → Value
  | none => .nilIface
  | some c => .iface 0 (.int .i64 c)
theorem errW_none : errW none = .nilIface := rfl
theorem errW_some (c : Int) : errW (some c) = .iface 0 (.int .i64 c) := rfl

theorem info5 : (Try.prog.info? 5).map (fun i => (i.zero, i.size, i.bytes)) = some (some (.int .u8 0), 1, 1) := by kernel_rfl
theorem info22 : (Try.prog.info? 22).map (fun i => (i.zero, i.size, i.bytes)) = some (some (.slice none 0 0), 1, 24) := by kernel_rfl
-- the values' own types
def rd_L1 (xs : List (List Int)) (i : Int) : (List Int) := xs.getD i.toNat ([] : List Int)
theorem at_L1 {w : World} {A : Option Addr} {n : Nat} {xs : List (List Int)} (h : Kd.C (Kd.slice 5 (Kd.int .u8)) w A n xs) (i : Int) (h0 : 0 ≤ i) (h1 : i < n) : ∃ ad A0 c0, A = some ad ∧ w.cell? (ad.add i.toNat) = some (.slice A0 (rd_L1 xs i).length c0) ∧ (rd_L1 xs i).length ≤ c0 ∧ (Kd.int .u8).C w A0 (rd_L1 xs i).length (rd_L1 xs i) := by
  obtain ⟨ad, c, e, _, hK, hc0⟩ := Kd.C_get h ([] : List Int) i h0 h1
  have hc : ∀ j u, c[j]? = some u → w.cell? (ad.add (i.toNat * 1 + j)) = some u := hc0
  obtain ⟨A0, c0, rfl, l0, g0⟩ := hK
  exact ⟨ad, A0, c0, e, by have hq := hc 0 _ rfl; rwa [Nat.mul_one, Nat.add_zero] at hq, l0, g0⟩


def foundrylaw22_sameBytes.f (l0 : List Int) (l1 : List Int) : Option (Bool) := some ((strOfNums l0).toList == (strOfNums l1).toList)
set_option maxHeartbeats 8000000 in
set_option maxRecDepth 100000 in
theorem foundrylaw22_sameBytes.calls (A0 : Option Addr) (c0 : Nat) (l0 : List Int) (A1 : Option Addr) (c1 : Nat) (l1 : List Int) (r : Bool) (w : World) (hr0 : Kd.C (Kd.int .u8) w A0 l0.length l0) (hc0 : l0.length ≤ c0) (hr1 : Kd.C (Kd.int .u8) w A1 l1.length l1) (hc1 : l1.length ≤ c1) (h : foundrylaw22_sameBytes.f l0 l1 = some r) :
    Calls Try.prog 28 #[.slice A0 l0.length c0, .slice A1 l1.length c1] w fun e w' => e = .returned (.bool r) ∧ Drawn0 w w' := by
  have HR0 := Aside0.mk hr0
  have HC0 := Aside0.mk hc0
  clear hr0 hc0
  have HR1 := Aside0.mk hr1
  have HC1 := Aside0.mk hc1
  clear hr1 hc1
  have H : (some ((strOfNums l0).toList == (strOfNums l1).toList)) = some r := h
  clear h
  obtain rfl := Option.some.inj H
  have hcv3 := Kd.C_string (P := Try.prog) (A := A0) (c := c0) Try.underlying22 Try.underlying5 Try.underlying9 HR0.out
  have hcv4 := Kd.C_string (P := Try.prog) (A := A1) (c := c1) Try.underlying22 Try.underlying5 Try.underlying9 HR1.out
  go_enter Try.func28, Try.ntmps28
  go_wp2
  go_ret
  exact ⟨by first | rfl | (simp; done) | (simp [*]; done), by repeat (first | exact Drawn0.refl _ | apply Drawn0.step)⟩

-- NOT PRINTED: function 29 (seal_Read)

-- NOT PRINTED: function 31 (disk_New)

-- NOT PRINTED: function 19 (foundrylaw22_live)

-- NOT PRINTED: function 32 (foundryref21_New)

def foundrylaw22_sameRecord.f (a0_0 : Int) (a0_1 : Int) (a0_2 : Int) (l0_3 : List Int) (a1_0 : Int) (a1_1 : Int) (a1_2 : Int) (l1_3 : List Int) : Option (Bool) := if a0_0 = a1_0 then (if a0_1 = a1_1 then (if a0_2 = a1_2 then ((foundrylaw22_sameBytes.f l0_3 l1_3).bind fun t130 => (some t130)) else (some false)) else (some false)) else (some false)
set_option maxHeartbeats 8000000 in
set_option maxRecDepth 100000 in
theorem foundrylaw22_sameRecord.calls (a0_0 : Int) (a0_1 : Int) (a0_2 : Int) (A0_3 : Option Addr) (c0_3 : Nat) (l0_3 : List Int) (a1_0 : Int) (a1_1 : Int) (a1_2 : Int) (A1_3 : Option Addr) (c1_3 : Nat) (l1_3 : List Int) (r : Bool) (w : World) (hr0_3 : Kd.C (Kd.int .u8) w A0_3 l0_3.length l0_3) (hc0_3 : l0_3.length ≤ c0_3) (hr1_3 : Kd.C (Kd.int .u8) w A1_3 l1_3.length l1_3) (hc1_3 : l1_3.length ≤ c1_3) (h : foundrylaw22_sameRecord.f a0_0 a0_1 a0_2 l0_3 a1_0 a1_1 a1_2 l1_3 = some r) :
    Calls Try.prog 18 #[.agg #[.int .u64 a0_0, .int .i64 a0_1, .int .i64 a0_2, .slice A0_3 l0_3.length c0_3], .agg #[.int .u64 a1_0, .int .i64 a1_1, .int .i64 a1_2, .slice A1_3 l1_3.length c1_3]] w fun e w' => e = .returned (.bool r) ∧ Below w.heap.size w w' := by
  have hu25 := Try.underlying25
  have hu28 := Try.underlying28
  have HR0_3 := Aside0.mk hr0_3
  have HC0_3 := Aside0.mk hc0_3
  clear hr0_3 hc0_3
  have HR1_3 := Aside0.mk hr1_3
  have HC1_3 := Aside0.mk hc1_3
  clear hr1_3 hc1_3
  have HB := Aside0.mk (Below.refl w.heap.size w)
  have H : (if a0_0 = a1_0 then (if a0_1 = a1_1 then (if a0_2 = a1_2 then ((foundrylaw22_sameBytes.f l0_3 l1_3).bind fun t130 => (some t130)) else (some false)) else (some false)) else (some false)) = some r := h
  clear h
  by_cases c3 : a0_0 = a1_0
  · rw [if_pos c3] at H
    have c3b0 : (a0_0 == a1_0) = true := beq_iff_eq.mpr c3
    have c3b1 : (a0_0 != a1_0) = false := bne_eq_false_iff_eq.mpr c3
    clear c3
    by_cases c4 : a0_1 = a1_1
    · rw [if_pos c4] at H
      have c4b0 : (a0_1 == a1_1) = true := beq_iff_eq.mpr c4
      have c4b1 : (a0_1 != a1_1) = false := bne_eq_false_iff_eq.mpr c4
      clear c4
      by_cases c5 : a0_2 = a1_2
      · rw [if_pos c5] at H
        have c5b0 : (a0_2 == a1_2) = true := beq_iff_eq.mpr c5
        have c5b1 : (a0_2 != a1_2) = false := bne_eq_false_iff_eq.mpr c5
        clear c5
        replace H := Option.bind_eq_some_iff.mp H
        obtain ⟨t130, A60, H⟩ := H
        replace H : (some t130) = some r := H
        have A6 := Aside0.mk A60
        clear A60
        obtain rfl := Option.some.inj H
        go_enter Try.func18, Try.ntmps18
        go_wp2_with (first | ((with_reducible refine gate_dst (N := 2) rfl ?_); refine box_event ?hg (N := 2) ?hd (cs := #[.int .u64 a0_0, .int .i64 a0_1, .int .i64 a0_2, .slice A0_3 l0_3.length c0_3]) (t := 25) ?hr ?_; (case hd => rfl); (case hg => rfl); (case hr => first | (go_simp; done) | (go_simp; rfl)); intro gb128 hg w7 hbox hb; have n0_ := Aside0.mk (below_step (by repeat (first | (with_reducible first | exact HB.out | apply below_alloc | apply pw_below_drewN | apply below_drew1) | exact HB.out)) hb); have n1_ := Aside0.mk (hbox); have n2_ := Aside0.mk ((by rw [hg]; exact (below_size (by repeat (first | (with_reducible first | exact HB.out | apply below_alloc | apply pw_below_drewN | apply below_drew1) | exact HB.out))) : w.heap.size ≤ gb128)); have n3_ := Aside0.mk ((by rw [hg]; exact (below_size (by repeat (first | (with_reducible first | exact HB.out | apply below_alloc | apply pw_below_drewN | apply below_drew1) | exact HB.out))) : w.heap.size ≤ gb128)); clear HB; have HB := n0_; have BK128 := n1_; have GW128 := n2_; have GE128 := n3_; clear n0_ n1_ n2_ n3_; clear hb hbox hg) | ((with_reducible refine gate_dst (N := 3) rfl ?_); refine box_event ?hg (N := 3) ?hd (cs := #[.int .u64 a1_0, .int .i64 a1_1, .int .i64 a1_2, .slice A1_3 l1_3.length c1_3]) (t := 28) ?hr ?_; (case hd => rfl); (case hg => rfl); (case hr => first | (go_simp; done) | (go_simp; rfl)); intro gb129 hg w8 hbox hb; have n0_ := Aside0.mk (blk_below (g := gb128) (o := .cells #[.int .u64 a0_0, .int .i64 a0_1, .int .i64 a0_2, .slice A0_3 l0_3.length c0_3] 25 (0, 0)) (by (with_reducible repeat (first | refine blk_drewN ?_ _ | refine blk_drew ?_ | refine blk_alloc ?_ _)); exact BK128.out) hb); have n1_ := Aside0.mk (below_step (by repeat (first | (with_reducible first | exact HB.out | apply below_alloc | apply pw_below_drewN | apply below_drew1 | refine below_set ?_ GE128.out) | exact HB.out)) hb); have n2_ := Aside0.mk (hbox); have n3_ := Aside0.mk ((by rw [hg]; exact (below_size (by repeat (first | (with_reducible first | exact HB.out | apply below_alloc | apply pw_below_drewN | apply below_drew1 | refine below_set ?_ GE128.out) | exact HB.out))) : w.heap.size ≤ gb129)); have n4_ := Aside0.mk ((by rw [hg]; exact (below_size (by repeat (first | (with_reducible first | exact HB.out | apply below_alloc | apply pw_below_drewN | apply below_drew1 | refine below_set ?_ GE128.out) | exact HB.out))) : w.heap.size ≤ gb129)); have n5_ := Aside0.mk ((by rw [hg]; exact Nat.ne_of_lt (blk_lt (g := gb128) (o := .cells #[.int .u64 a0_0, .int .i64 a0_1, .int .i64 a0_2, .slice A0_3 l0_3.length c0_3] 25 (0, 0)) (by (with_reducible repeat (first | refine blk_drewN ?_ _ | refine blk_drew ?_ | refine blk_alloc ?_ _)); exact BK128.out)) : gb128 ≠ gb129)); have n6_ := Aside0.mk ((by rw [hg]; exact Nat.ne_of_gt (blk_lt (g := gb128) (o := .cells #[.int .u64 a0_0, .int .i64 a0_1, .int .i64 a0_2, .slice A0_3 l0_3.length c0_3] 25 (0, 0)) (by (with_reducible repeat (first | refine blk_drewN ?_ _ | refine blk_drew ?_ | refine blk_alloc ?_ _)); exact BK128.out)) : gb129 ≠ gb128)); clear BK128; clear HB; have BK128 := n0_; have HB := n1_; have BK129 := n2_; have GW129 := n3_; have GE129 := n4_; have NB128_129 := n5_; have NB129_128 := n6_; clear n0_ n1_ n2_ n3_ n4_ n5_ n6_; clear hb hbox hg; have hnb9 := NB128_129.out; have hnc9 := NB129_128.out; have hcz10_0 : w8.cell? ⟨gb128, 0, none⟩ = some (.int .u64 a0_0) := (blk_cell BK128.out 0).trans rfl; have hcz10_1 : w8.cell? ⟨gb128, 1, none⟩ = some (.int .i64 a0_1) := (blk_cell BK128.out 1).trans rfl; have hcz10_2 : w8.cell? ⟨gb128, 2, none⟩ = some (.int .i64 a0_2) := (blk_cell BK128.out 2).trans rfl; have hcz10_3 : w8.cell? ⟨gb128, 3, none⟩ = some (.slice A0_3 l0_3.length c0_3) := (blk_cell BK128.out 3).trans rfl; have hfz10_0 := blk_frozen BK128.out 0; have hfz10_1 := blk_frozen BK128.out 1; have hfz10_2 := blk_frozen BK128.out 2; have hfz10_3 := blk_frozen BK128.out 3; have hcz11_0 : w8.cell? ⟨gb129, 0, none⟩ = some (.int .u64 a1_0) := (blk_cell BK129.out 0).trans rfl; have hcz11_1 : w8.cell? ⟨gb129, 1, none⟩ = some (.int .i64 a1_1) := (blk_cell BK129.out 1).trans rfl; have hcz11_2 : w8.cell? ⟨gb129, 2, none⟩ = some (.int .i64 a1_2) := (blk_cell BK129.out 2).trans rfl; have hcz11_3 : w8.cell? ⟨gb129, 3, none⟩ = some (.slice A1_3 l1_3.length c1_3) := (blk_cell BK129.out 3).trans rfl; have hfz11_0 := blk_frozen BK129.out 0; have hfz11_1 := blk_frozen BK129.out 1; have hfz11_2 := blk_frozen BK129.out 2; have hfz11_3 := blk_frozen BK129.out 3) | (go_at_call 28; (with_reducible refine (foundrylaw22_sameBytes.calls _ _ l0_3 _ _ l1_3 t130 _ ?side1 ?side2 ?side3 ?side4 A6.out).mono ?_); (case side1 => repeat (first | exact (Kd.C_below HR0_3.out HB.out) | (with_reducible refine Kd.C_alloc ?_ _) | (with_reducible refine Kd.C_drewN ?_ _) | (with_reducible refine Kd.C_drew ?_))); (case side2 => exact HC0_3.out); (case side3 => repeat (first | exact (Kd.C_below HR1_3.out HB.out) | (with_reducible refine Kd.C_alloc ?_ _) | (with_reducible refine Kd.C_drewN ?_ _) | (with_reducible refine Kd.C_drew ?_))); (case side4 => exact HC1_3.out); rintro e w' ⟨rfl, ⟨nd, rfl⟩⟩))
        go_ret
        exact ⟨by first | rfl | (simp [errW_none, errW_some] <;> rfl) | (simp [*, errW_none, errW_some] <;> rfl), by repeat (first | (with_reducible first | exact HB.out | apply below_alloc | apply pw_below_drewN | apply below_drew1 | refine below_set ?_ GE128.out | refine below_set ?_ GE129.out) | exact HB.out)⟩
      · rw [if_neg c5] at H
        have c5b0 : (a0_2 == a1_2) = false := beq_eq_false_iff_ne.mpr c5
        have c5b1 : (a0_2 != a1_2) = true := bne_iff_ne.mpr c5
        obtain rfl := Option.some.inj H
        go_enter Try.func18, Try.ntmps18
        go_wp2_with (first | ((with_reducible refine gate_dst (N := 2) rfl ?_); refine box_event ?hg (N := 2) ?hd (cs := #[.int .u64 a0_0, .int .i64 a0_1, .int .i64 a0_2, .slice A0_3 l0_3.length c0_3]) (t := 25) ?hr ?_; (case hd => rfl); (case hg => rfl); (case hr => first | (go_simp; done) | (go_simp; rfl)); intro gb128 hg w12 hbox hb; have n0_ := Aside0.mk (below_step (by repeat (first | (with_reducible first | exact HB.out | apply below_alloc | apply pw_below_drewN | apply below_drew1) | exact HB.out)) hb); have n1_ := Aside0.mk (hbox); have n2_ := Aside0.mk ((by rw [hg]; exact (below_size (by repeat (first | (with_reducible first | exact HB.out | apply below_alloc | apply pw_below_drewN | apply below_drew1) | exact HB.out))) : w.heap.size ≤ gb128)); have n3_ := Aside0.mk ((by rw [hg]; exact (below_size (by repeat (first | (with_reducible first | exact HB.out | apply below_alloc | apply pw_below_drewN | apply below_drew1) | exact HB.out))) : w.heap.size ≤ gb128)); clear HB; have HB := n0_; have BK128 := n1_; have GW128 := n2_; have GE128 := n3_; clear n0_ n1_ n2_ n3_; clear hb hbox hg) | ((with_reducible refine gate_dst (N := 3) rfl ?_); refine box_event ?hg (N := 3) ?hd (cs := #[.int .u64 a1_0, .int .i64 a1_1, .int .i64 a1_2, .slice A1_3 l1_3.length c1_3]) (t := 28) ?hr ?_; (case hd => rfl); (case hg => rfl); (case hr => first | (go_simp; done) | (go_simp; rfl)); intro gb129 hg w13 hbox hb; have n0_ := Aside0.mk (blk_below (g := gb128) (o := .cells #[.int .u64 a0_0, .int .i64 a0_1, .int .i64 a0_2, .slice A0_3 l0_3.length c0_3] 25 (0, 0)) (by (with_reducible repeat (first | refine blk_drewN ?_ _ | refine blk_drew ?_ | refine blk_alloc ?_ _)); exact BK128.out) hb); have n1_ := Aside0.mk (below_step (by repeat (first | (with_reducible first | exact HB.out | apply below_alloc | apply pw_below_drewN | apply below_drew1 | refine below_set ?_ GE128.out) | exact HB.out)) hb); have n2_ := Aside0.mk (hbox); have n3_ := Aside0.mk ((by rw [hg]; exact (below_size (by repeat (first | (with_reducible first | exact HB.out | apply below_alloc | apply pw_below_drewN | apply below_drew1 | refine below_set ?_ GE128.out) | exact HB.out))) : w.heap.size ≤ gb129)); have n4_ := Aside0.mk ((by rw [hg]; exact (below_size (by repeat (first | (with_reducible first | exact HB.out | apply below_alloc | apply pw_below_drewN | apply below_drew1 | refine below_set ?_ GE128.out) | exact HB.out))) : w.heap.size ≤ gb129)); have n5_ := Aside0.mk ((by rw [hg]; exact Nat.ne_of_lt (blk_lt (g := gb128) (o := .cells #[.int .u64 a0_0, .int .i64 a0_1, .int .i64 a0_2, .slice A0_3 l0_3.length c0_3] 25 (0, 0)) (by (with_reducible repeat (first | refine blk_drewN ?_ _ | refine blk_drew ?_ | refine blk_alloc ?_ _)); exact BK128.out)) : gb128 ≠ gb129)); have n6_ := Aside0.mk ((by rw [hg]; exact Nat.ne_of_gt (blk_lt (g := gb128) (o := .cells #[.int .u64 a0_0, .int .i64 a0_1, .int .i64 a0_2, .slice A0_3 l0_3.length c0_3] 25 (0, 0)) (by (with_reducible repeat (first | refine blk_drewN ?_ _ | refine blk_drew ?_ | refine blk_alloc ?_ _)); exact BK128.out)) : gb129 ≠ gb128)); clear BK128; clear HB; have BK128 := n0_; have HB := n1_; have BK129 := n2_; have GW129 := n3_; have GE129 := n4_; have NB128_129 := n5_; have NB129_128 := n6_; clear n0_ n1_ n2_ n3_ n4_ n5_ n6_; clear hb hbox hg; have hnb14 := NB128_129.out; have hnc14 := NB129_128.out; have hcz15_0 : w13.cell? ⟨gb128, 0, none⟩ = some (.int .u64 a0_0) := (blk_cell BK128.out 0).trans rfl; have hcz15_1 : w13.cell? ⟨gb128, 1, none⟩ = some (.int .i64 a0_1) := (blk_cell BK128.out 1).trans rfl; have hcz15_2 : w13.cell? ⟨gb128, 2, none⟩ = some (.int .i64 a0_2) := (blk_cell BK128.out 2).trans rfl; have hcz15_3 : w13.cell? ⟨gb128, 3, none⟩ = some (.slice A0_3 l0_3.length c0_3) := (blk_cell BK128.out 3).trans rfl; have hfz15_0 := blk_frozen BK128.out 0; have hfz15_1 := blk_frozen BK128.out 1; have hfz15_2 := blk_frozen BK128.out 2; have hfz15_3 := blk_frozen BK128.out 3; have hcz16_0 : w13.cell? ⟨gb129, 0, none⟩ = some (.int .u64 a1_0) := (blk_cell BK129.out 0).trans rfl; have hcz16_1 : w13.cell? ⟨gb129, 1, none⟩ = some (.int .i64 a1_1) := (blk_cell BK129.out 1).trans rfl; have hcz16_2 : w13.cell? ⟨gb129, 2, none⟩ = some (.int .i64 a1_2) := (blk_cell BK129.out 2).trans rfl; have hcz16_3 : w13.cell? ⟨gb129, 3, none⟩ = some (.slice A1_3 l1_3.length c1_3) := (blk_cell BK129.out 3).trans rfl; have hfz16_0 := blk_frozen BK129.out 0; have hfz16_1 := blk_frozen BK129.out 1; have hfz16_2 := blk_frozen BK129.out 2; have hfz16_3 := blk_frozen BK129.out 3))
        go_ret
        exact ⟨by first | rfl | (simp [errW_none, errW_some] <;> rfl) | (simp [*, errW_none, errW_some] <;> rfl), by repeat (first | (with_reducible first | exact HB.out | apply below_alloc | apply pw_below_drewN | apply below_drew1 | refine below_set ?_ GE128.out | refine below_set ?_ GE129.out) | exact HB.out)⟩
    · rw [if_neg c4] at H
      have c4b0 : (a0_1 == a1_1) = false := beq_eq_false_iff_ne.mpr c4
      have c4b1 : (a0_1 != a1_1) = true := bne_iff_ne.mpr c4
      obtain rfl := Option.some.inj H
      go_enter Try.func18, Try.ntmps18
      go_wp2_with (first | ((with_reducible refine gate_dst (N := 2) rfl ?_); refine box_event ?hg (N := 2) ?hd (cs := #[.int .u64 a0_0, .int .i64 a0_1, .int .i64 a0_2, .slice A0_3 l0_3.length c0_3]) (t := 25) ?hr ?_; (case hd => rfl); (case hg => rfl); (case hr => first | (go_simp; done) | (go_simp; rfl)); intro gb128 hg w17 hbox hb; have n0_ := Aside0.mk (below_step (by repeat (first | (with_reducible first | exact HB.out | apply below_alloc | apply pw_below_drewN | apply below_drew1) | exact HB.out)) hb); have n1_ := Aside0.mk (hbox); have n2_ := Aside0.mk ((by rw [hg]; exact (below_size (by repeat (first | (with_reducible first | exact HB.out | apply below_alloc | apply pw_below_drewN | apply below_drew1) | exact HB.out))) : w.heap.size ≤ gb128)); have n3_ := Aside0.mk ((by rw [hg]; exact (below_size (by repeat (first | (with_reducible first | exact HB.out | apply below_alloc | apply pw_below_drewN | apply below_drew1) | exact HB.out))) : w.heap.size ≤ gb128)); clear HB; have HB := n0_; have BK128 := n1_; have GW128 := n2_; have GE128 := n3_; clear n0_ n1_ n2_ n3_; clear hb hbox hg) | ((with_reducible refine gate_dst (N := 3) rfl ?_); refine box_event ?hg (N := 3) ?hd (cs := #[.int .u64 a1_0, .int .i64 a1_1, .int .i64 a1_2, .slice A1_3 l1_3.length c1_3]) (t := 28) ?hr ?_; (case hd => rfl); (case hg => rfl); (case hr => first | (go_simp; done) | (go_simp; rfl)); intro gb129 hg w18 hbox hb; have n0_ := Aside0.mk (blk_below (g := gb128) (o := .cells #[.int .u64 a0_0, .int .i64 a0_1, .int .i64 a0_2, .slice A0_3 l0_3.length c0_3] 25 (0, 0)) (by (with_reducible repeat (first | refine blk_drewN ?_ _ | refine blk_drew ?_ | refine blk_alloc ?_ _)); exact BK128.out) hb); have n1_ := Aside0.mk (below_step (by repeat (first | (with_reducible first | exact HB.out | apply below_alloc | apply pw_below_drewN | apply below_drew1 | refine below_set ?_ GE128.out) | exact HB.out)) hb); have n2_ := Aside0.mk (hbox); have n3_ := Aside0.mk ((by rw [hg]; exact (below_size (by repeat (first | (with_reducible first | exact HB.out | apply below_alloc | apply pw_below_drewN | apply below_drew1 | refine below_set ?_ GE128.out) | exact HB.out))) : w.heap.size ≤ gb129)); have n4_ := Aside0.mk ((by rw [hg]; exact (below_size (by repeat (first | (with_reducible first | exact HB.out | apply below_alloc | apply pw_below_drewN | apply below_drew1 | refine below_set ?_ GE128.out) | exact HB.out))) : w.heap.size ≤ gb129)); have n5_ := Aside0.mk ((by rw [hg]; exact Nat.ne_of_lt (blk_lt (g := gb128) (o := .cells #[.int .u64 a0_0, .int .i64 a0_1, .int .i64 a0_2, .slice A0_3 l0_3.length c0_3] 25 (0, 0)) (by (with_reducible repeat (first | refine blk_drewN ?_ _ | refine blk_drew ?_ | refine blk_alloc ?_ _)); exact BK128.out)) : gb128 ≠ gb129)); have n6_ := Aside0.mk ((by rw [hg]; exact Nat.ne_of_gt (blk_lt (g := gb128) (o := .cells #[.int .u64 a0_0, .int .i64 a0_1, .int .i64 a0_2, .slice A0_3 l0_3.length c0_3] 25 (0, 0)) (by (with_reducible repeat (first | refine blk_drewN ?_ _ | refine blk_drew ?_ | refine blk_alloc ?_ _)); exact BK128.out)) : gb129 ≠ gb128)); clear BK128; clear HB; have BK128 := n0_; have HB := n1_; have BK129 := n2_; have GW129 := n3_; have GE129 := n4_; have NB128_129 := n5_; have NB129_128 := n6_; clear n0_ n1_ n2_ n3_ n4_ n5_ n6_; clear hb hbox hg; have hnb19 := NB128_129.out; have hnc19 := NB129_128.out; have hcz20_0 : w18.cell? ⟨gb128, 0, none⟩ = some (.int .u64 a0_0) := (blk_cell BK128.out 0).trans rfl; have hcz20_1 : w18.cell? ⟨gb128, 1, none⟩ = some (.int .i64 a0_1) := (blk_cell BK128.out 1).trans rfl; have hcz20_2 : w18.cell? ⟨gb128, 2, none⟩ = some (.int .i64 a0_2) := (blk_cell BK128.out 2).trans rfl; have hcz20_3 : w18.cell? ⟨gb128, 3, none⟩ = some (.slice A0_3 l0_3.length c0_3) := (blk_cell BK128.out 3).trans rfl; have hfz20_0 := blk_frozen BK128.out 0; have hfz20_1 := blk_frozen BK128.out 1; have hfz20_2 := blk_frozen BK128.out 2; have hfz20_3 := blk_frozen BK128.out 3; have hcz21_0 : w18.cell? ⟨gb129, 0, none⟩ = some (.int .u64 a1_0) := (blk_cell BK129.out 0).trans rfl; have hcz21_1 : w18.cell? ⟨gb129, 1, none⟩ = some (.int .i64 a1_1) := (blk_cell BK129.out 1).trans rfl; have hcz21_2 : w18.cell? ⟨gb129, 2, none⟩ = some (.int .i64 a1_2) := (blk_cell BK129.out 2).trans rfl; have hcz21_3 : w18.cell? ⟨gb129, 3, none⟩ = some (.slice A1_3 l1_3.length c1_3) := (blk_cell BK129.out 3).trans rfl; have hfz21_0 := blk_frozen BK129.out 0; have hfz21_1 := blk_frozen BK129.out 1; have hfz21_2 := blk_frozen BK129.out 2; have hfz21_3 := blk_frozen BK129.out 3))
      go_ret
      exact ⟨by first | rfl | (simp [errW_none, errW_some] <;> rfl) | (simp [*, errW_none, errW_some] <;> rfl), by repeat (first | (with_reducible first | exact HB.out | apply below_alloc | apply pw_below_drewN | apply below_drew1 | refine below_set ?_ GE128.out | refine below_set ?_ GE129.out) | exact HB.out)⟩
  · rw [if_neg c3] at H
    have c3b0 : (a0_0 == a1_0) = false := beq_eq_false_iff_ne.mpr c3
    have c3b1 : (a0_0 != a1_0) = true := bne_iff_ne.mpr c3
    obtain rfl := Option.some.inj H
    go_enter Try.func18, Try.ntmps18
    go_wp2_with (first | ((with_reducible refine gate_dst (N := 2) rfl ?_); refine box_event ?hg (N := 2) ?hd (cs := #[.int .u64 a0_0, .int .i64 a0_1, .int .i64 a0_2, .slice A0_3 l0_3.length c0_3]) (t := 25) ?hr ?_; (case hd => rfl); (case hg => rfl); (case hr => first | (go_simp; done) | (go_simp; rfl)); intro gb128 hg w22 hbox hb; have n0_ := Aside0.mk (below_step (by repeat (first | (with_reducible first | exact HB.out | apply below_alloc | apply pw_below_drewN | apply below_drew1) | exact HB.out)) hb); have n1_ := Aside0.mk (hbox); have n2_ := Aside0.mk ((by rw [hg]; exact (below_size (by repeat (first | (with_reducible first | exact HB.out | apply below_alloc | apply pw_below_drewN | apply below_drew1) | exact HB.out))) : w.heap.size ≤ gb128)); have n3_ := Aside0.mk ((by rw [hg]; exact (below_size (by repeat (first | (with_reducible first | exact HB.out | apply below_alloc | apply pw_below_drewN | apply below_drew1) | exact HB.out))) : w.heap.size ≤ gb128)); clear HB; have HB := n0_; have BK128 := n1_; have GW128 := n2_; have GE128 := n3_; clear n0_ n1_ n2_ n3_; clear hb hbox hg) | ((with_reducible refine gate_dst (N := 3) rfl ?_); refine box_event ?hg (N := 3) ?hd (cs := #[.int .u64 a1_0, .int .i64 a1_1, .int .i64 a1_2, .slice A1_3 l1_3.length c1_3]) (t := 28) ?hr ?_; (case hd => rfl); (case hg => rfl); (case hr => first | (go_simp; done) | (go_simp; rfl)); intro gb129 hg w23 hbox hb; have n0_ := Aside0.mk (blk_below (g := gb128) (o := .cells #[.int .u64 a0_0, .int .i64 a0_1, .int .i64 a0_2, .slice A0_3 l0_3.length c0_3] 25 (0, 0)) (by (with_reducible repeat (first | refine blk_drewN ?_ _ | refine blk_drew ?_ | refine blk_alloc ?_ _)); exact BK128.out) hb); have n1_ := Aside0.mk (below_step (by repeat (first | (with_reducible first | exact HB.out | apply below_alloc | apply pw_below_drewN | apply below_drew1 | refine below_set ?_ GE128.out) | exact HB.out)) hb); have n2_ := Aside0.mk (hbox); have n3_ := Aside0.mk ((by rw [hg]; exact (below_size (by repeat (first | (with_reducible first | exact HB.out | apply below_alloc | apply pw_below_drewN | apply below_drew1 | refine below_set ?_ GE128.out) | exact HB.out))) : w.heap.size ≤ gb129)); have n4_ := Aside0.mk ((by rw [hg]; exact (below_size (by repeat (first | (with_reducible first | exact HB.out | apply below_alloc | apply pw_below_drewN | apply below_drew1 | refine below_set ?_ GE128.out) | exact HB.out))) : w.heap.size ≤ gb129)); have n5_ := Aside0.mk ((by rw [hg]; exact Nat.ne_of_lt (blk_lt (g := gb128) (o := .cells #[.int .u64 a0_0, .int .i64 a0_1, .int .i64 a0_2, .slice A0_3 l0_3.length c0_3] 25 (0, 0)) (by (with_reducible repeat (first | refine blk_drewN ?_ _ | refine blk_drew ?_ | refine blk_alloc ?_ _)); exact BK128.out)) : gb128 ≠ gb129)); have n6_ := Aside0.mk ((by rw [hg]; exact Nat.ne_of_gt (blk_lt (g := gb128) (o := .cells #[.int .u64 a0_0, .int .i64 a0_1, .int .i64 a0_2, .slice A0_3 l0_3.length c0_3] 25 (0, 0)) (by (with_reducible repeat (first | refine blk_drewN ?_ _ | refine blk_drew ?_ | refine blk_alloc ?_ _)); exact BK128.out)) : gb129 ≠ gb128)); clear BK128; clear HB; have BK128 := n0_; have HB := n1_; have BK129 := n2_; have GW129 := n3_; have GE129 := n4_; have NB128_129 := n5_; have NB129_128 := n6_; clear n0_ n1_ n2_ n3_ n4_ n5_ n6_; clear hb hbox hg; have hnb24 := NB128_129.out; have hnc24 := NB129_128.out; have hcz25_0 : w23.cell? ⟨gb128, 0, none⟩ = some (.int .u64 a0_0) := (blk_cell BK128.out 0).trans rfl; have hcz25_1 : w23.cell? ⟨gb128, 1, none⟩ = some (.int .i64 a0_1) := (blk_cell BK128.out 1).trans rfl; have hcz25_2 : w23.cell? ⟨gb128, 2, none⟩ = some (.int .i64 a0_2) := (blk_cell BK128.out 2).trans rfl; have hcz25_3 : w23.cell? ⟨gb128, 3, none⟩ = some (.slice A0_3 l0_3.length c0_3) := (blk_cell BK128.out 3).trans rfl; have hfz25_0 := blk_frozen BK128.out 0; have hfz25_1 := blk_frozen BK128.out 1; have hfz25_2 := blk_frozen BK128.out 2; have hfz25_3 := blk_frozen BK128.out 3; have hcz26_0 : w23.cell? ⟨gb129, 0, none⟩ = some (.int .u64 a1_0) := (blk_cell BK129.out 0).trans rfl; have hcz26_1 : w23.cell? ⟨gb129, 1, none⟩ = some (.int .i64 a1_1) := (blk_cell BK129.out 1).trans rfl; have hcz26_2 : w23.cell? ⟨gb129, 2, none⟩ = some (.int .i64 a1_2) := (blk_cell BK129.out 2).trans rfl; have hcz26_3 : w23.cell? ⟨gb129, 3, none⟩ = some (.slice A1_3 l1_3.length c1_3) := (blk_cell BK129.out 3).trans rfl; have hfz26_0 := blk_frozen BK129.out 0; have hfz26_1 := blk_frozen BK129.out 1; have hfz26_2 := blk_frozen BK129.out 2; have hfz26_3 := blk_frozen BK129.out 3))
    go_ret
    exact ⟨by first | rfl | (simp [errW_none, errW_some] <;> rfl) | (simp [*, errW_none, errW_some] <;> rfl), by repeat (first | (with_reducible first | exact HB.out | apply below_alloc | apply pw_below_drewN | apply below_drew1 | refine below_set ?_ GE128.out | refine below_set ?_ GE129.out) | exact HB.out)⟩

def foundrylaw22_mine.f (a0_0 : Int) (a0_1 : Int) (a0_2 : Int) (l0_3 : List Int) : Option (Int × Int × Int × List Int) := (some (([] : List Int) : List Int)).bind fun y133 => (if y133.length + l0_3.length < 140737488355328 then (some (a0_0, a0_1, a0_2, (y133 ++ l0_3))) else (none))
def foundrylaw22_mine.T1 : Bool × List (List Nat × List Nat) := (true, [([], []), ([0], [0]), ([], []), ([2], [2]), ([], []), ([4], [4]), ([], []), ([], []), ([7], [7]), ([6, 8], [6, 8]), ([1, 3, 5, 9], [1, 3, 5, 9]), ([10, 9, 0, 1, 2, 3, 4, 5, 6, 7, 8, 9, 10], [10])])
def foundrylaw22_mine.B1 : List Nat := [0, 1, 0, 4, 0, 16, 0, 0, 128, 448, 1023, 2047]
theorem foundrylaw22_mine.tab1 : rtab .any (opsOf Try.f21 1) = foundrylaw22_mine.T1 := by kernel_rfl
theorem foundrylaw22_mine.bits1 : waitsOk foundrylaw22_mine.T1.2 foundrylaw22_mine.B1 = true := by kernel_rfl
set_option maxHeartbeats 8000000 in
set_option maxRecDepth 100000 in
theorem foundrylaw22_mine.calls (a0_0 : Int) (a0_1 : Int) (a0_2 : Int) (A0_3 : Option Addr) (c0_3 : Nat) (l0_3 : List Int) (r1 : Int) (r2 : Int) (r3 : Int) (r4 : List Int) (w : World) (hr0_3 : Kd.C (Kd.int .u8) w A0_3 l0_3.length l0_3) (hc0_3 : l0_3.length ≤ c0_3) (h : foundrylaw22_mine.f a0_0 a0_1 a0_2 l0_3 = some (r1, r2, r3, r4)) :
    Calls Try.prog 21 #[.agg #[.int .u64 a0_0, .int .i64 a0_1, .int .i64 a0_2, .slice A0_3 l0_3.length c0_3]] w fun e w' => ∃ v3_ : Value, e = .returned (.agg #[.int .u64 r1, .int .i64 r2, .int .i64 r3, v3_]) ∧ Kd.R (Kd.int .u8) 5 w' w.heap.size (fun _ => True) v3_ r4 ∧ Below w.heap.size w w' := by
  have hu28 := Try.underlying28
  have hu25 := Try.underlying25
  have HR0_3 := Aside0.mk hr0_3
  have HC0_3 := Aside0.mk hc0_3
  clear hr0_3 hc0_3
  have HB := Aside0.mk (Below.refl w.heap.size w)
  have H : ((some (([] : List Int) : List Int)).bind fun y133 => (if y133.length + l0_3.length < 140737488355328 then (some (a0_0, a0_1, a0_2, (y133 ++ l0_3))) else (none))) = some (r1, r2, r3, r4) := h
  clear h
  obtain ⟨y133, hy133⟩ : ∃ y_ : List Int, y_ = (([] : List Int)) := ⟨_, rfl⟩
  replace H : (if y133.length + l0_3.length < 140737488355328 then (some (a0_0, a0_1, a0_2, (y133 ++ l0_3))) else (none)) = some (r1, r2, r3, r4) := by first | (rw [hy133]; with_reducible exact H) | (have H2_ := (Option.bind_some _ _).symm.trans H; rw [hy133]; with_reducible exact H2_) | (have H2_ := (Option.bind_some _ _).symm.trans H; with_reducible exact H2_) | with_reducible exact H | (rw [hy133]; exact H) | exact H
  have Ny133 := Aside0.mk hy133
  clear hy133
  by_cases c2 : y133.length + l0_3.length < 140737488355328
  · rw [if_pos c2] at H
    have LMc2 := Aside0.mk c2
    clear c2
    obtain ⟨y136, hy136⟩ : ∃ y_ : List Int, y_ = (y133 ++ l0_3) := ⟨_, rfl⟩
    replace H : (some (a0_0, a0_1, a0_2, y136)) = some (r1, r2, r3, r4) := by first | (rw [hy136]; with_reducible exact H) | (have H2_ := (Option.bind_some _ _).symm.trans H; rw [hy136]; with_reducible exact H2_) | (have H2_ := (Option.bind_some _ _).symm.trans H; with_reducible exact H2_) | with_reducible exact H | (rw [hy136]; exact H) | exact H
    have Ny136 := Aside0.mk hy136
    clear hy136
    simp only [Option.some.injEq, Prod.mk.injEq] at H
    obtain ⟨rfl, rfl, rfl, rfl⟩ := H
    go_enter Try.func21, Try.ntmps21
    try go_wp2_with (first | ((with_reducible refine gate_dst (N := 1) rfl ?_); refine box_event ?hg (N := 1) ?hd (cs := #[.int .u64 a0_0, .int .i64 a0_1, .int .i64 a0_2, .slice A0_3 l0_3.length c0_3]) (t := 28) ?hr ?_; (case hd => rfl); (case hg => rfl); (case hr => first | (go_simp; done) | (go_simp; rfl)); intro gb131 hg w3 hbox hb; have n0_ := Aside0.mk (below_step (by repeat (first | (with_reducible first | exact HB.out | apply below_alloc | apply pw_below_drewN | apply below_drew1) | exact HB.out)) hb); have n1_ := Aside0.mk (hbox); have n2_ := Aside0.mk ((by rw [hg]; exact (below_size (by repeat (first | (with_reducible first | exact HB.out | apply below_alloc | apply pw_below_drewN | apply below_drew1) | exact HB.out))) : w.heap.size ≤ gb131)); have n3_ := Aside0.mk ((by rw [hg]; exact (below_size (by repeat (first | (with_reducible first | exact HB.out | apply below_alloc | apply pw_below_drewN | apply below_drew1) | exact HB.out))) : w.heap.size ≤ gb131)); clear HB; have HB := n0_; have BK131 := n1_; have GW131 := n2_; have GE131 := n3_; clear n0_ n1_ n2_ n3_; clear hb hbox hg) | ((with_reducible refine gate_dst (N := 2) rfl ?_); refine box_event ?hg (N := 2) ?hd (cs := #[.int .u64 0, .int .i64 0, .int .i64 0, .slice none 0 0]) (t := 25) ?hr ?_; (case hd => rfl); (case hg => rfl); (case hr => first | (go_simp; done) | (go_simp; rfl)); intro gb132 hg w4 hbox hb; have n0_ := Aside0.mk (blk_below (g := gb131) (o := .cells #[.int .u64 a0_0, .int .i64 a0_1, .int .i64 a0_2, .slice A0_3 l0_3.length c0_3] 28 (0, 0)) (by (with_reducible repeat (first | refine blk_drewN ?_ _ | refine blk_drew ?_ | refine blk_alloc ?_ _)); exact BK131.out) hb); have n1_ := Aside0.mk (below_step (by repeat (first | (with_reducible first | exact HB.out | apply below_alloc | apply pw_below_drewN | apply below_drew1 | refine below_set ?_ GE131.out) | exact HB.out)) hb); have n2_ := Aside0.mk (hbox); have n3_ := Aside0.mk ((by rw [hg]; exact (below_size (by repeat (first | (with_reducible first | exact HB.out | apply below_alloc | apply pw_below_drewN | apply below_drew1 | refine below_set ?_ GE131.out) | exact HB.out))) : w.heap.size ≤ gb132)); have n4_ := Aside0.mk ((by rw [hg]; exact (below_size (by repeat (first | (with_reducible first | exact HB.out | apply below_alloc | apply pw_below_drewN | apply below_drew1 | refine below_set ?_ GE131.out) | exact HB.out))) : w.heap.size ≤ gb132)); have n5_ := Aside0.mk ((by rw [hg]; exact Nat.ne_of_lt (blk_lt (g := gb131) (o := .cells #[.int .u64 a0_0, .int .i64 a0_1, .int .i64 a0_2, .slice A0_3 l0_3.length c0_3] 28 (0, 0)) (by (with_reducible repeat (first | refine blk_drewN ?_ _ | refine blk_drew ?_ | refine blk_alloc ?_ _)); exact BK131.out)) : gb131 ≠ gb132)); have n6_ := Aside0.mk ((by rw [hg]; exact Nat.ne_of_gt (blk_lt (g := gb131) (o := .cells #[.int .u64 a0_0, .int .i64 a0_1, .int .i64 a0_2, .slice A0_3 l0_3.length c0_3] 28 (0, 0)) (by (with_reducible repeat (first | refine blk_drewN ?_ _ | refine blk_drew ?_ | refine blk_alloc ?_ _)); exact BK131.out)) : gb132 ≠ gb131)); clear BK131; clear HB; have BK131 := n0_; have HB := n1_; have BK132 := n2_; have GW132 := n3_; have GE132 := n4_; have NB131_132 := n5_; have NB132_131 := n6_; clear n0_ n1_ n2_ n3_ n4_ n5_ n6_; clear hb hbox hg))
    have n0_ := Aside0.mk (blk_drew BK131.out)
    have n1_ := Aside0.mk (blk_drew BK132.out)
    have n2_ := Aside0.mk (below_drew1 HB.out)
    clear BK131
    clear BK132
    clear HB
    have BK131 := n0_
    have BK132 := n1_
    have HB := n2_
    clear n0_ n1_ n2_
    refine start_ (n := 12) (S := fun w' => w'.cell? ⟨gb131, 0, none⟩ = some (.int .u64 a0_0) ∧ w'.cell? ⟨gb131, 1, none⟩ = some (.int .i64 a0_1) ∧ w'.cell? ⟨gb131, 2, none⟩ = some (.int .i64 a0_2) ∧ w'.cell? ⟨gb131, 3, none⟩ = some (.slice A0_3 l0_3.length c0_3)) (ds := []) #[false, false, false, false, false, false, false, false, false, false, false, false] (by kernel_rfl) rfl rfl ⟨(blk_cell BK131.out 0).trans rfl, (blk_cell BK131.out 1).trans rfl, (blk_cell BK131.out 2).trans rfl, (blk_cell BK131.out 3).trans rfl⟩ (fun hHeld => ?_); refine with_tabW foundrylaw22_mine.tab1 foundrylaw22_mine.bits1 (fun HT_ HW_ => ?_)
    generalize w4.drew = w5 at BK131 BK132 HB hHeld ⊢
    refine pure_ (i := 0) (N := some 3) (v := ?_) (a' := ?_) #[true, false, false, false, false, false, false, false, false, false, false, false] rfl rfl (any_of HT_.out (by kernel_rfl)) (fun _ _ _ h => h) (Or.inl ⟨by rfl, ?_⟩) ?_ ?_
    rotate_left
    · intro w'
      go_simp
      with_reducible rfl
    rotate_left
    · simp only [Act.put, List.setIfInBounds_toArray, List.set_cons_zero, List.set_cons_succ, i64_w, i32_w]
      rfl
    refine pure_ (i := 2) (N := some 5) (v := ?_) (a' := ?_) #[true, false, true, false, false, false, false, false, false, false, false, false] rfl rfl (any_of HT_.out (by kernel_rfl)) (fun _ _ _ h => h) (Or.inl ⟨by rfl, ?_⟩) ?_ ?_
    rotate_left
    · intro w'
      go_simp
      with_reducible rfl
    rotate_left
    · simp only [Act.put, List.setIfInBounds_toArray, List.set_cons_zero, List.set_cons_succ, i64_w, i32_w]
      rfl
    refine pure_ (i := 4) (N := some 7) (v := ?_) (a' := ?_) #[true, false, true, false, true, false, false, false, false, false, false, false] rfl rfl (any_of HT_.out (by kernel_rfl)) (fun _ _ _ h => h) (Or.inl ⟨by rfl, ?_⟩) ?_ ?_
    rotate_left
    · intro w'
      go_simp
      with_reducible rfl
    rotate_left
    · simp only [Act.put, List.setIfInBounds_toArray, List.set_cons_zero, List.set_cons_succ, i64_w, i32_w]
      rfl
    refine pure_ (i := 7) (N := some 10) (v := ?_) (a' := ?_) #[true, false, true, false, true, false, false, true, false, false, false, false] rfl rfl (any_of HT_.out (by kernel_rfl)) (fun _ _ _ h => h) (Or.inl ⟨by rfl, ?_⟩) ?_ ?_
    rotate_left
    · intro w'
      go_simp
      with_reducible rfl
    rotate_left
    · simp only [Act.put, List.setIfInBounds_toArray, List.set_cons_zero, List.set_cons_succ, i64_w, i32_w]
      rfl
    refine take_ (i := 1) (N := some 4) (v := ?_) (a' := ?_) #[true, true, true, false, true, false, false, true, false, false, false, false] rfl rfl (take_ofW HT_.out HW_.out (by kernel_rfl)) (fun _ _ _ h => h) (Or.inl ⟨by rfl, ?_⟩) hHeld ?_ ?_
    rotate_left
    · rintro w' ⟨s0, s1, s2, s3⟩
      go_simp
      with_reducible rfl
    rotate_left
    · simp only [Act.put, List.setIfInBounds_toArray, List.set_cons_zero, List.set_cons_succ, i64_w, i32_w]
      rfl
    refine take_ (i := 3) (N := some 6) (v := ?_) (a' := ?_) #[true, true, true, true, true, false, false, true, false, false, false, false] rfl rfl (take_ofW HT_.out HW_.out (by kernel_rfl)) (fun _ _ _ h => h) (Or.inl ⟨by rfl, ?_⟩) hHeld ?_ ?_
    rotate_left
    · rintro w' ⟨s0, s1, s2, s3⟩
      go_simp
      with_reducible rfl
    rotate_left
    · simp only [Act.put, List.setIfInBounds_toArray, List.set_cons_zero, List.set_cons_succ, i64_w, i32_w]
      rfl
    refine take_ (i := 5) (N := some 8) (v := ?_) (a' := ?_) #[true, true, true, true, true, true, false, true, false, false, false, false] rfl rfl (take_ofW HT_.out HW_.out (by kernel_rfl)) (fun _ _ _ h => h) (Or.inl ⟨by rfl, ?_⟩) hHeld ?_ ?_
    rotate_left
    · rintro w' ⟨s0, s1, s2, s3⟩
      go_simp
      with_reducible rfl
    rotate_left
    · simp only [Act.put, List.setIfInBounds_toArray, List.set_cons_zero, List.set_cons_succ, i64_w, i32_w]
      rfl
    refine take_ (i := 8) (N := some 11) (v := ?_) (a' := ?_) #[true, true, true, true, true, true, false, true, true, false, false, false] rfl rfl (take_ofW HT_.out HW_.out (by kernel_rfl)) (fun _ _ _ h => h) (Or.inl ⟨by rfl, ?_⟩) hHeld ?_ ?_
    rotate_left
    · rintro w' ⟨s0, s1, s2, s3⟩
      go_simp
      with_reducible rfl
    rotate_left
    · simp only [Act.put, List.setIfInBounds_toArray, List.set_cons_zero, List.set_cons_succ, i64_w, i32_w]
      rfl
    refine one_ (i := 6) (N := some 9) #[true, true, true, true, true, true, true, true, true, false, false, false] rfl rfl (one_of HT_.out (by kernel_rfl)) (by decide) (fun K hK => ?_)
    refine Kd.R_lit_step (Kd.int .u8) _ 5 ?hg (N := 9) ?hd (xs := ([] : List Int)) (inner := []) (ok := fun _ => True) (okp := fun _ => True) ?hr ?hp (fun _ hk => hk) trivial (Below.refl _ _) (Nat.le_refl _) (by simp) ?_; (case hd => rfl); (case hg => rfl); (case hr => first | (go_simp; done) | (go_simp; rfl)); (case hp => exact (Reps.none _ _))
    intro v134 w6 ho7 hb hg_ hnew_
    clear hg_ hnew_
    (first | rw [← Ny133.out] at ho7 | (simp only [Int.reduceToNat] at ho7; rw [← Ny133.out] at ho7))
    have n0_ := Aside0.mk (Kd.R_lower ho7 (below_size (by repeat (first | (with_reducible first | exact HB.out | apply below_alloc | apply pw_below_drewN | apply below_drew1 | refine below_set ?_ GE131.out | refine below_set ?_ GE132.out) | exact HB.out))))
    have n1_ := Aside0.mk (blk_below (g := gb131) (o := .cells #[.int .u64 a0_0, .int .i64 a0_1, .int .i64 a0_2, .slice A0_3 l0_3.length c0_3] 28 (0, 0)) (by (with_reducible repeat (first | refine blk_drewN ?_ _ | refine blk_drew ?_ | refine blk_alloc ?_ _)); exact BK131.out) hb)
    have n2_ := Aside0.mk (blk_below (g := gb132) (o := .cells #[.int .u64 0, .int .i64 0, .int .i64 0, .slice none 0 0] 25 (0, 0)) (by (with_reducible repeat (first | refine blk_drewN ?_ _ | refine blk_drew ?_ | refine blk_alloc ?_ _)); exact BK132.out) hb)
    have n3_ := Aside0.mk (below_step (by repeat (first | (with_reducible first | exact HB.out | apply below_alloc | apply pw_below_drewN | apply below_drew1 | refine below_set ?_ GE131.out | refine below_set ?_ GE132.out) | exact HB.out)) hb)
    clear BK131
    clear BK132
    clear HB
    have HO135 := n0_
    have BK131 := n1_
    have BK132 := n2_
    have HB := n3_
    clear n0_ n1_ n2_ n3_
    clear hb ho7
    refine hK.out _ _ ⟨(blk_cell BK131.out 0).trans rfl, (blk_cell BK131.out 1).trans rfl, (blk_cell BK131.out 2).trans rfl, (blk_cell BK131.out 3).trans rfl⟩ (fun hHeld => ?_)
    clear hK K
    refine norm_ (a' := ?_) ?_ ?_
    rotate_left
    · show Act.put _ (some 9) _ = _
      simp only [Act.put, List.setIfInBounds_toArray, List.set_cons_zero, List.set_cons_succ, i64_w, i32_w]
      rfl
    refine one_ (i := 9) (N := some 12) #[true, true, true, true, true, true, true, true, true, true, false, false] rfl rfl (one_of HT_.out (by kernel_rfl)) (by decide) (fun K hK => ?_)
    refine Kd.R_append_rows_step (Kd.int .u8) (w0 := w) w.heap.size (by rfl) (.tmp 9) (.tmp 11) 22 5 (.int .u8 0) 1 rfl Try.underlying22 info5 rfl (by decide) (by omega) v134 y133 l0_3 _ _ _ (fun _ => True) (fun _ => False) rfl rfl ?aO ?aR (fun _ _ h => h) (fun _ h => h.elim) ?aF ?aB ?aS ?aL ?_
    (case aR => repeat (first | exact (Kd.C_below HR0_3.out HB.out) | (with_reducible refine Kd.C_alloc ?_ _) | (with_reducible refine Kd.C_drewN ?_ _) | (with_reducible refine Kd.C_drew ?_)))
    (case aB => exact (by repeat (first | (with_reducible first | exact HB.out | apply below_alloc | apply pw_below_drewN | apply below_drew1 | refine below_set ?_ GE131.out | refine below_set ?_ GE132.out) | exact HB.out)))
    (case aF => exact (fun _ _ => trivial))
    (case aO => exact (by (with_reducible repeat (first | apply Kd.R_alloc | apply Kd.R_drewN | apply Kd.R_drew)); exact HO135.out))
    (case aS => exact (below_size (by repeat (first | (with_reducible first | exact HB.out | apply below_alloc | apply pw_below_drewN | apply below_drew1 | refine below_set ?_ GE131.out | refine below_set ?_ GE132.out) | exact HB.out))))
    (case aL => have := LMc2.out; omega)
    intro v137 w8 ho hb hg hat
    rw [← Ny136.out] at ho
    have n0_ := Aside0.mk (blk_grown (g := gb131) (o := .cells #[.int .u64 a0_0, .int .i64 a0_1, .int .i64 a0_2, .slice A0_3 l0_3.length c0_3] 28 (0, 0)) (by (with_reducible repeat (first | refine blk_drewN ?_ _ | refine blk_drew ?_ | refine blk_alloc ?_ _)); exact BK131.out) hg (Kd.R_ne HO135.out BK131.out (by decide)))
    have n1_ := Aside0.mk (blk_grown (g := gb132) (o := .cells #[.int .u64 0, .int .i64 0, .int .i64 0, .slice none 0 0] 25 (0, 0)) (by (with_reducible repeat (first | refine blk_drewN ?_ _ | refine blk_drew ?_ | refine blk_alloc ?_ _)); exact BK132.out) hg (Kd.R_ne HO135.out BK132.out (by decide)))
    have n2_ := Aside0.mk (hb)
    have n3_ := Aside0.mk (ho)
    clear BK131
    clear BK132
    clear HB
    clear HO135
    have BK131 := n0_
    have BK132 := n1_
    have HB := n2_
    have HO138 := n3_
    clear n0_ n1_ n2_ n3_
    clear ho hb hg hat
    obtain ⟨Ao9, co9, eo9⟩ := Kd.R_slice HO138.out
    (first | subst eo9 | (injection eo9 with f1_ f2_ f3_; have f4_ := f1_.symm; have f5_ := f3_.symm; clear f1_ f2_ f3_; subst f4_; subst f5_))
    refine hK.out _ _ ⟨(blk_cell BK131.out 0).trans rfl, (blk_cell BK131.out 1).trans rfl, (blk_cell BK131.out 2).trans rfl, (blk_cell BK131.out 3).trans rfl⟩ (fun hHeld => ?_)
    clear hK K
    refine norm_ (a' := ?_) ?_ ?_
    rotate_left
    · show Act.put _ (some 12) _ = _
      simp only [Act.put, List.setIfInBounds_toArray, List.set_cons_zero, List.set_cons_succ, i64_w, i32_w]
      rfl
    refine pure_ (i := 10) (N := some 13) (v := ?_) (a' := ?_) #[true, true, true, true, true, true, true, true, true, true, true, false] rfl rfl (any_of HT_.out (by kernel_rfl)) (fun _ _ _ h => h) (Or.inl ⟨by rfl, ?_⟩) ?_ ?_
    rotate_left
    · intro w'
      go_simp
      with_reducible rfl
    rotate_left
    · simp only [Act.put, List.setIfInBounds_toArray, List.set_cons_zero, List.set_cons_succ, i64_w, i32_w]
      rfl
    refine one_ (i := 11) (N := none) #[true, true, true, true, true, true, true, true, true, true, true, true] rfl rfl (one_of HT_.out (by kernel_rfl)) (by decide) (fun K hK => ?_)
    have hs10 : w8.cell? ⟨gb132, 0, none⟩ = some (.int .u64 0) := (blk_cell BK132.out 0).trans rfl
    have hfs10 := blk_frozen BK132.out 0
    have hns10_0 := NB131_132.out
    have hms10_0 := NB132_131.out
    have hs11 : w8.cell? ⟨gb132, 1, none⟩ = some (.int .i64 0) := (blk_cell BK132.out 1).trans rfl
    have hfs11 := blk_frozen BK132.out 1
    have hns11_0 := NB131_132.out
    have hms11_0 := NB132_131.out
    have hs12 : w8.cell? ⟨gb132, 2, none⟩ = some (.int .i64 0) := (blk_cell BK132.out 2).trans rfl
    have hfs12 := blk_frozen BK132.out 2
    have hns12_0 := NB131_132.out
    have hms12_0 := NB132_131.out
    have hs13 : w8.cell? ⟨gb132, 3, none⟩ = some (.slice none 0 0) := (blk_cell BK132.out 3).trans rfl
    have hfs13 := blk_frozen BK132.out 3
    have hns13_0 := NB131_132.out
    have hms13_0 := NB132_131.out
    refine skip_ (w1 := ?_) (by rfl) rfl ?_ ?_
    rotate_left
    · go_simp
      rfl
    refine hK.out _ _ ⟨((cell_far (p := ⟨gb132, _, none⟩) NB131_132.out _).trans (((cell_far (p := ⟨gb132, _, none⟩) NB131_132.out _).trans (((cell_far (p := ⟨gb132, _, none⟩) NB131_132.out _).trans (((cell_far (p := ⟨gb132, _, none⟩) NB131_132.out _).trans (hHeld.1)))))))), ((cell_far (p := ⟨gb132, _, none⟩) NB131_132.out _).trans (((cell_far (p := ⟨gb132, _, none⟩) NB131_132.out _).trans (((cell_far (p := ⟨gb132, _, none⟩) NB131_132.out _).trans (((cell_far (p := ⟨gb132, _, none⟩) NB131_132.out _).trans (hHeld.2.1)))))))), ((cell_far (p := ⟨gb132, _, none⟩) NB131_132.out _).trans (((cell_far (p := ⟨gb132, _, none⟩) NB131_132.out _).trans (((cell_far (p := ⟨gb132, _, none⟩) NB131_132.out _).trans (((cell_far (p := ⟨gb132, _, none⟩) NB131_132.out _).trans (hHeld.2.2.1)))))))), ((cell_far (p := ⟨gb132, _, none⟩) NB131_132.out _).trans (((cell_far (p := ⟨gb132, _, none⟩) NB131_132.out _).trans (((cell_far (p := ⟨gb132, _, none⟩) NB131_132.out _).trans (((cell_far (p := ⟨gb132, _, none⟩) NB131_132.out _).trans (hHeld.2.2.2))))))))⟩ (fun hHeld => ?_)
    clear hK K
    refine done_ (done_of HT_.out (by kernel_rfl)) ?_
    try go_wp2
    refine bodyPost_ret (results_cell_row rfl _ _ gb132 25 #[.int .u64 a0_0, .int .i64 a0_1, .int .i64 a0_2, .slice Ao9 y136.length co9] (0, 0) _ rfl (by (with_reducible repeat (first | refine blk_drewN ?_ _ | refine blk_drew ?_ | refine blk_alloc ?_ _)); refine blk_put (cs := #[.int .u64 a0_0, .int .i64 a0_1, .int .i64 a0_2, .slice none 0 0]) ?_ 3 _ rfl; (with_reducible repeat (first | refine blk_drewN ?_ _ | refine blk_drew ?_ | refine blk_alloc ?_ _)); refine blk_put (cs := #[.int .u64 a0_0, .int .i64 a0_1, .int .i64 0, .slice none 0 0]) ?_ 2 _ rfl; (with_reducible repeat (first | refine blk_drewN ?_ _ | refine blk_drew ?_ | refine blk_alloc ?_ _)); refine blk_put (cs := #[.int .u64 a0_0, .int .i64 0, .int .i64 0, .slice none 0 0]) ?_ 1 _ rfl; (with_reducible repeat (first | refine blk_drewN ?_ _ | refine blk_drew ?_ | refine blk_alloc ?_ _)); refine blk_put (cs := #[.int .u64 0, .int .i64 0, .int .i64 0, .slice none 0 0]) ?_ 0 _ rfl; (with_reducible repeat (first | refine blk_drewN ?_ _ | refine blk_drew ?_ | refine blk_alloc ?_ _)); exact BK132.out) Try.underlying25 rfl (by kernel_rfl)) rfl ?_
    exact ⟨_, by first | rfl | (simp [errW_none, errW_some] <;> rfl) | (simp [*, errW_none, errW_some] <;> rfl), by (with_reducible repeat (first | apply Kd.R_alloc | apply Kd.R_drewN | apply Kd.R_drew)); exact Kd.R_mono (Kd.R_far (p := ⟨gb132, 3, none⟩) (Kd.R_far (p := ⟨gb132, 2, none⟩) (Kd.R_far (p := ⟨gb132, 1, none⟩) (Kd.R_far (p := ⟨gb132, 0, none⟩) (Kd.R_types HO138.out BK132.out (by decide)) (fun _ hk => hk.2) (.int .u64 a0_0)) (fun _ hk => hk.2) (.int .i64 a0_1)) (fun _ hk => hk.2) (.int .i64 a0_2)) (fun _ hk => hk.2) (.slice Ao9 y136.length co9)) (fun _ hk => trivial), by repeat (first | (with_reducible first | exact HB.out | apply below_alloc | apply pw_below_drewN | apply below_drew1 | refine below_set ?_ GE131.out | refine below_set ?_ GE132.out) | exact HB.out)⟩
  · rw [if_neg c2] at H
    exact absurd H (by simp)

-- NOT PRINTED: function 37 (disk_Disk_Cut)

-- NOT PRINTED: function 39 (disk_Disk_On)

-- NOT PRINTED: function 57 (foundryref21_Disk_Cut)

-- NOT PRINTED: function 58 (foundryref21_Disk_On)

def foundryref22_number.l0 : Nat → Int → List Int → Int → Option (List Int)
  | 0, _, _, _ => none
  | k + 1, x0, x5, x6 => if x6 ≥ 0 then (if 0 ≤ (IntKind.u64.wrap (x6)) then (if x5.length < 140737488355328 then (foundryref22_number.l0 k x0 (x5 ++ [(shr .u64 x0 (IntKind.u64.wrap (x6))) % 256]) (wrap64 (x6 - 8))) else (none)) else (none)) else (some x5)
def foundryref22_number.f (k : Nat) (a0 : Int) (a1 : Int) : Option (List Int) := foundryref22_number.l0 k a0 ([] : List Int) (wrap64 ((wrap64 (8 * a1)) - 8))
theorem foundryref22_number.mono_l : ∀ k, (∀ y0 y1 y2, LeO (foundryref22_number.l0 k y0 y1 y2) (foundryref22_number.l0 (k + 1) y0 y1 y2))
  | 0 => fun _ _ _ r h => by simp [foundryref22_number.l0] at h
  | k + 1 => by
    have ih0 := foundryref22_number.mono_l k
    · intro y0 y1 y2
      unfold foundryref22_number.l0
      repeat' first
      | (with_reducible exact ih0 _ _ _)
      | (with_reducible exact LeO.refl _)
      | (with_reducible exact LeO.none _)
      | (with_reducible refine LeO.ite ?_ ?_)
      | (with_reducible refine LeO.bind ?_ (fun _ => ?_))
      | exact ih0 _ _ _
      | exact LeO.none _
      | refine LeO.ite ?_ ?_
      | refine LeO.bind ?_ (fun _ => ?_)
theorem foundryref22_number.mono : ∀ a0 a1 k, LeO (foundryref22_number.f k a0 a1) (foundryref22_number.f (k + 1) a0 a1) := by
  intro a0 a1 k
  have ih0 := foundryref22_number.mono_l k
  unfold foundryref22_number.f
  repeat' first
      | (with_reducible exact ih0 _ _ _)
      | (with_reducible exact LeO.refl _)
      | (with_reducible exact LeO.none _)
      | (with_reducible refine LeO.ite ?_ ?_)
      | (with_reducible refine LeO.bind ?_ (fun _ => ?_))
      | exact ih0 _ _ _
      | exact LeO.none _
      | refine LeO.ite ?_ ?_
      | refine LeO.bind ?_ (fun _ => ?_)
set_option maxHeartbeats 8000000 in
set_option maxRecDepth 100000 in
theorem foundryref22_number.calls (k : Nat) (a0 : Int) (a1 : Int) (r : List Int) (w : World) (h : foundryref22_number.f k a0 a1 = some r) :
    Calls Try.prog 68 #[.int .u64 a0, .int .i64 a1] w fun e w' => ∃ v0_ : Value, e = .returned (v0_) ∧ Kd.R (Kd.int .u8) 5 w' w.heap.size (fun _ => True) v0_ r ∧ Below w.heap.size w w' := by
  have HB := Aside0.mk (Below.refl w.heap.size w)
  have H : (foundryref22_number.l0 k a0 ([] : List Int) (wrap64 ((wrap64 (8 * a1)) - 8))) = some r := h
  clear h
  have H' := Aside0.mk H
  clear H
  go_enter Try.func68, Try.ntmps68
  go_wp2
  go_loopg [5, 6] k (fun kq v5 v6 w' => ∃ (x5_1 : List Int) (x6_1 : Int), v6 = .int .i64 x6_1 ∧ Aside0 (foundryref22_number.l0 kq a0 x5_1 x6_1 = some r) ∧ Aside0 (kq ≤ k) ∧ Aside0 (Kd.R (Kd.int .u8) 5 w' w.heap.size (fun _ => True) v5 x5_1) ∧ Aside0 (Below w.heap.size w w'))
  case atStart => exact ⟨(([] : List Int)), (wrap64 ((wrap64 (8 * a1)) - 8)), (by first | rfl | (simp; done) | (simp [*]; done)), H', ⟨Nat.le_refl _⟩, ⟨by first | exact Kd.R_nil _ _ _ _ _ | exact Kd.N_nil _ _ _ _ _ | exact Kd.V_nil _ _ _ _ _ | exact Kd.Q_nil _ _ _ _ _ | exact Kd.S_nil _ _ _ _ _⟩, ⟨by repeat (first | (with_reducible first | exact HB.out | apply below_alloc | apply pw_below_drewN | apply below_drew1) | exact HB.out)⟩⟩
  case round =>
    clear H'
    try clear p2
    obtain ⟨x5_1, x6_1, rfl, HA, HK1, HO_5, HB⟩ := hrel
    cases gk with
    | zero => exact absurd HA.out (by simp [foundryref22_number.l0])
    | succ k1 =>
      have H := HA.out
      clear HA
      simp only [foundryref22_number.l0] at H
      by_cases c3 : x6_1 ≥ 0
      · rw [if_pos c3] at H
        have c3b0 : decide (0 ≤ x6_1) = true := decide_eq_true c3
        clear c3
        obtain ⟨ji4, hji4⟩ : ∃ j_ : Int, (IntKind.u64.wrap (x6_1)) = j_ := ⟨_, rfl⟩
        replace H : (if 0 ≤ (ji4) then (if x5_1.length < 140737488355328 then (foundryref22_number.l0 k1 a0 (x5_1 ++ [(shr .u64 a0 (ji4)) % 256]) (wrap64 (x6_1 - 8))) else (none)) else (none)) = some r := by first | (rw [hji4] at H; exact H) | (simp only [hji4] at H ⊢; exact H)
        by_cases c5 : 0 ≤ (ji4)
        · rw [if_pos c5] at H
          have c5b0 := eq_true c5
          have c5b1 : decide (0 ≤ (ji4)) = true := decide_eq_true c5
          clear c5
          obtain ⟨ji6, hji6⟩ : ∃ j_ : Int, (shr .u64 a0 (ji4)) = j_ := ⟨_, rfl⟩
          replace H : (if x5_1.length < 140737488355328 then (foundryref22_number.l0 k1 a0 (x5_1 ++ [(ji6) % 256]) (wrap64 (x6_1 - 8))) else (none)) = some r := by first | (rw [hji6] at H; exact H) | (simp only [hji6] at H ⊢; exact H)
          have hji6_ : (a0 / 2 ^ min (ji4).toNat 64) = ji6 := hji6
          have hji6z : (ji4) ≤ 64 → (a0 / 2 ^ (ji4).toNat) = ji6 := shr_small hji6
          by_cases c7 : x5_1.length < 140737488355328
          · rw [if_pos c7] at H
            have LMc7 := Aside0.mk c7
            clear c7
            obtain ⟨y139, hy139⟩ : ∃ y_ : List Int, y_ = (x5_1 ++ [(ji6) % 256]) := ⟨_, rfl⟩
            replace H : (foundryref22_number.l0 k1 a0 y139 (wrap64 (x6_1 - 8))) = some r := by first | (rw [hy139]; with_reducible exact H) | (have H2_ := (Option.bind_some _ _).symm.trans H; rw [hy139]; with_reducible exact H2_) | (have H2_ := (Option.bind_some _ _).symm.trans H; with_reducible exact H2_) | with_reducible exact H | (rw [hy139]; exact H) | exact H
            have Ny139 := Aside0.mk hy139
            clear hy139
            have H' := Aside0.mk H
            clear H
            go_wp2_with (first | ((with_reducible refine gate_builtin (b := .append) (xs := #[.tmp 14, .tmp 20]) rfl ?_); at_builtin; refine Kd.R_append (Kd.int .u8) (w0 := w) w.heap.size rfl (.tmp 14) (.tmp 20) 22 5 (.int .u8 0) 1 rfl Try.underlying22 info5 rfl (by decide) (by omega) u5 x5_1 ((ji6) % 256) [.int .u8 ((ji6) % 256)] (fun _ => True) (fun _ => False) rfl rfl ?aP (fun _ hk => hk.elim) ?aF ?aO ?aB ?aS ?aL ?_; (case aP => exact rfl); (case aB => exact (by repeat (first | (with_reducible first | exact HB.out | apply below_alloc | apply pw_below_drewN | apply below_drew1) | exact HB.out))); (case aF => exact (fun _ _ => trivial)); (case aO => exact (by (with_reducible repeat (first | apply Kd.R_alloc | apply Kd.R_drewN | apply Kd.R_drew)); exact HO_5.out)); (case aS => exact (below_size (by repeat (first | (with_reducible first | exact HB.out | apply below_alloc | apply pw_below_drewN | apply below_drew1) | exact HB.out)))); (case aL => have := LMc7.out; omega); intro v140 w8 ho hb hg hat; rw [← Ny139.out] at ho; have n0_ := Aside0.mk (hb); have n1_ := Aside0.mk (ho); clear HB; clear HO_5; have HB := n0_; have HO141 := n1_; clear n0_ n1_; clear ho hb hg hat))
            go_roundg k1
            case measure => have := HK1.out; omega
            case rel => exact ⟨(y139), (wrap64 (x6_1 - 8)), (by first | rfl | (simp; done) | (simp [*]; done)), H', ⟨by have := HK1.out; omega⟩, ⟨by (with_reducible repeat (first | apply Kd.R_alloc | apply Kd.R_drewN | apply Kd.R_drew)); exact HO141.out⟩, ⟨by repeat (first | (with_reducible first | exact HB.out | apply below_alloc | apply pw_below_drewN | apply below_drew1) | exact HB.out)⟩⟩
          · rw [if_neg c7] at H
            exact absurd H (by simp)
        · rw [if_neg c5] at H
          exact absurd H (by simp)
      · rw [if_neg c3] at H
        have c3b0 : decide (0 ≤ x6_1) = false := decide_eq_false c3
        clear c3
        obtain rfl := Option.some.inj H
        go_wp2
        go_ret
        exact ⟨_, by first | rfl | (simp [errW_none, errW_some] <;> rfl) | (simp [*, errW_none, errW_some] <;> rfl), by (with_reducible repeat (first | apply Kd.R_alloc | apply Kd.R_drewN | apply Kd.R_drew)); exact HO_5.out, by repeat (first | (with_reducible first | exact HB.out | apply below_alloc | apply pw_below_drewN | apply below_drew1) | exact HB.out)⟩

def foundryref22_filled.l0 : Nat → List Int → Option (List Int)
  | 0, _ => none
  | k + 1, x0 => if (x0.length : Int) < 64 then (if x0.length < 140737488355328 then (foundryref22_filled.l0 k (x0 ++ [0])) else (none)) else (some x0)
def foundryref22_filled.f (k : Nat) (l0 : List Int) : Option (List Int) := foundryref22_filled.l0 k l0
theorem foundryref22_filled.mono_l : ∀ k, (∀ y0, LeO (foundryref22_filled.l0 k y0) (foundryref22_filled.l0 (k + 1) y0))
  | 0 => fun _ r h => by simp [foundryref22_filled.l0] at h
  | k + 1 => by
    have ih0 := foundryref22_filled.mono_l k
    · intro y0
      unfold foundryref22_filled.l0
      repeat' first
      | (with_reducible exact ih0 _)
      | (with_reducible exact LeO.refl _)
      | (with_reducible exact LeO.none _)
      | (with_reducible refine LeO.ite ?_ ?_)
      | (with_reducible refine LeO.bind ?_ (fun _ => ?_))
      | exact ih0 _
      | exact LeO.none _
      | refine LeO.ite ?_ ?_
      | refine LeO.bind ?_ (fun _ => ?_)
theorem foundryref22_filled.mono : ∀ a0 k, LeO (foundryref22_filled.f k a0) (foundryref22_filled.f (k + 1) a0) := by
  intro a0 k
  have ih0 := foundryref22_filled.mono_l k
  unfold foundryref22_filled.f
  repeat' first
      | (with_reducible exact ih0 _)
      | (with_reducible exact LeO.refl _)
      | (with_reducible exact LeO.none _)
      | (with_reducible refine LeO.ite ?_ ?_)
      | (with_reducible refine LeO.bind ?_ (fun _ => ?_))
      | exact ih0 _
      | exact LeO.none _
      | refine LeO.ite ?_ ?_
      | refine LeO.bind ?_ (fun _ => ?_)
set_option maxHeartbeats 8000000 in
set_option maxRecDepth 100000 in
theorem foundryref22_filled.calls (k : Nat) (P0_ : Nat → Prop) (u9000_ : Value) (l0 : List Int) (r : List Int) (w0 w : World) (hB : Below w0.heap.size w0 w) (ho0 : Kd.R (Kd.int .u8) 5 w w0.heap.size P0_ u9000_ l0) (h : foundryref22_filled.f k l0 = some r) :
    Calls Try.prog 69 #[u9000_] w fun e w' => ∃ v0_ : Value, e = .returned (v0_) ∧ Kd.R (Kd.int .u8) 5 w' w0.heap.size (fun k_ => (P0_ k_ ∨ w.heap.size ≤ k_)) v0_ r ∧ Below w0.heap.size w0 w' ∧ Kept w w' (fun k_ => P0_ k_) := by
  have HO0 := Aside0.mk (show Kd.R (Kd.int .u8) 5 w w0.heap.size (fun k_ => (P0_ k_ ∨ w.heap.size ≤ k_)) u9000_ l0 from Kd.R_mono ho0 (fun k_ hk => (.inl hk)))
  have HK := Aside0.mk (Kept.refl w (fun k_ => P0_ k_))
  have HW0 := Aside0.mk hB.size
  have HB := Aside0.mk hB
  clear hB
  have H : (foundryref22_filled.l0 k l0) = some r := h
  clear h
  have H' := Aside0.mk H
  clear H
  go_enter Try.func69, Try.ntmps69
  go_wp2
  go_loopg [0] k (fun kq v0 w' => ∃ (x0_1 : List Int), Aside0 (foundryref22_filled.l0 kq x0_1 = some r) ∧ Aside0 (kq ≤ k) ∧ Aside0 (Kd.R (Kd.int .u8) 5 w' w0.heap.size (fun k_ => (P0_ k_ ∨ w.heap.size ≤ k_)) v0 x0_1) ∧ Aside0 (Kept w w' (fun k_ => P0_ k_)) ∧ Aside0 (Below w0.heap.size w0 w'))
  case atStart => exact ⟨(l0), H', ⟨Nat.le_refl _⟩, ⟨by (with_reducible repeat (first | apply Kd.R_alloc | apply Kd.R_drewN | apply Kd.R_drew)); exact HO0.out⟩, ⟨by repeat (first | (with_reducible first | exact HK.out | apply Kept.alloc | apply Kept.drewN | apply Kept.drew) | exact HK.out)⟩, ⟨by repeat (first | (with_reducible first | exact HB.out | apply below_alloc | apply pw_below_drewN | apply below_drew1) | exact HB.out)⟩⟩
  case round =>
    clear H'
    obtain ⟨x0_1, HA, HK1, HO_0, HK, HB⟩ := hrel
    cases gk with
    | zero => exact absurd HA.out (by simp [foundryref22_filled.l0])
    | succ k1 =>
      have H := HA.out
      clear HA
      simp only [foundryref22_filled.l0] at H
      by_cases c2 : (x0_1.length : Int) < 64
      · rw [if_pos c2] at H
        have c2b0 : decide ((x0_1.length : Int) < 64) = true := decide_eq_true c2
        have c2b1 : decide (x0_1.length < 64) = true := decide_eq_true (by omega)
        clear c2
        by_cases c3 : x0_1.length < 140737488355328
        · rw [if_pos c3] at H
          have LMc3 := Aside0.mk c3
          clear c3
          obtain ⟨y142, hy142⟩ : ∃ y_ : List Int, y_ = (x0_1 ++ [0]) := ⟨_, rfl⟩
          replace H : (foundryref22_filled.l0 k1 y142) = some r := by first | (rw [hy142]; with_reducible exact H) | (have H2_ := (Option.bind_some _ _).symm.trans H; rw [hy142]; with_reducible exact H2_) | (have H2_ := (Option.bind_some _ _).symm.trans H; with_reducible exact H2_) | with_reducible exact H | (rw [hy142]; exact H) | exact H
          have Ny142 := Aside0.mk hy142
          clear hy142
          have H' := Aside0.mk H
          clear H
          obtain ⟨Ao4, co4, eo4⟩ := Kd.R_slice HO_0.out
          subst eo4
          go_wp2_with (first | ((with_reducible refine gate_builtin (b := .append) (xs := #[.tmp 6, .tmp 7]) rfl ?_); at_builtin; refine Kd.R_append (Kd.int .u8) (w0 := w0) w0.heap.size rfl (.tmp 6) (.tmp 7) 22 5 (.int .u8 0) 1 rfl Try.underlying22 info5 rfl (by decide) (by omega) (.slice Ao4 x0_1.length co4) x0_1 0 [.int .u8 0] (fun k_ => (P0_ k_ ∨ w.heap.size ≤ k_)) (fun _ => False) rfl rfl ?aP (fun _ hk => hk.elim) ?aF ?aO ?aB ?aS ?aL ?_; (case aP => exact rfl); (case aB => exact (by repeat (first | (with_reducible first | exact HB.out | apply below_alloc | apply pw_below_drewN | apply below_drew1) | exact HB.out))); (case aF => exact (fun k_ hk => (.inr (Nat.le_trans (by first | exact HK.out.1 | exact (show Kept w _ (fun k_ => P0_ k_) from by repeat (first | (with_reducible first | exact HK.out | apply Kept.alloc | apply Kept.drewN | apply Kept.drew) | exact HK.out)).1) hk)))); (case aO => exact (by (with_reducible repeat (first | apply Kd.R_alloc | apply Kd.R_drewN | apply Kd.R_drew)); exact HO_0.out)); (case aS => exact (below_size (by repeat (first | (with_reducible first | exact HB.out | apply below_alloc | apply pw_below_drewN | apply below_drew1) | exact HB.out)))); (case aL => have := LMc3.out; omega); intro v143 w5 ho hb hg hat; rw [← Ny142.out] at ho; have n0_ := Aside0.mk (hb); have n1_ := Aside0.mk (Kept.of_grown (S := (fun k_ => P0_ k_)) hg (by repeat (first | (with_reducible first | exact HK.out | apply Kept.alloc | apply Kept.drewN | apply Kept.drew) | exact HK.out)) (fun k_ e_ => (HO_0.out.1 k_ e_))); have n2_ := Aside0.mk (ho); clear HB; clear HK; clear HO_0; have HB := n0_; have HK := n1_; have HO144 := n2_; clear n0_ n1_ n2_; clear ho hb hg hat))
          go_roundg k1
          case measure => have := HK1.out; omega
          case rel => exact ⟨(y142), H', ⟨by have := HK1.out; omega⟩, ⟨by (with_reducible repeat (first | apply Kd.R_alloc | apply Kd.R_drewN | apply Kd.R_drew)); exact HO144.out⟩, ⟨by repeat (first | (with_reducible first | exact HK.out | apply Kept.alloc | apply Kept.drewN | apply Kept.drew) | exact HK.out)⟩, ⟨by repeat (first | (with_reducible first | exact HB.out | apply below_alloc | apply pw_below_drewN | apply below_drew1) | exact HB.out)⟩⟩
        · rw [if_neg c3] at H
          exact absurd H (by simp)
      · rw [if_neg c2] at H
        have c2b0 : decide ((x0_1.length : Int) < 64) = false := decide_eq_false c2
        have c2b1 : decide (x0_1.length < 64) = false := decide_eq_false (by omega)
        clear c2
        obtain rfl := Option.some.inj H
        obtain ⟨Ao6, co6, eo6⟩ := Kd.R_slice HO_0.out
        subst eo6
        go_wp2
        go_ret
        exact ⟨_, by first | rfl | (simp [errW_none, errW_some] <;> rfl) | (simp [*, errW_none, errW_some] <;> rfl), by (with_reducible repeat (first | apply Kd.R_alloc | apply Kd.R_drewN | apply Kd.R_drew)); exact HO_0.out, by repeat (first | (with_reducible first | exact HB.out | apply below_alloc | apply pw_below_drewN | apply below_drew1) | exact HB.out), by repeat (first | (with_reducible first | exact HK.out | apply Kept.alloc | apply Kept.drewN | apply Kept.drew) | exact HK.out)⟩


end Go.Proofs.Ytekhmkfiepnnkaa.KCarveA

/- Write, Read, Gen, whole; sameBytes, sameRecord, mine. -/
set_option linter.unusedVariables false
set_option linter.unusedSimpArgs false
namespace Go.Proofs.Ytekhmkfiepnnkaa
open Go.RowKit Go.Proofs.YtekhmkfiepnnkaaW.PrintWords Go.Proofs.YtekhmkfiepnnkaaW.PrintMore

theorem right_of {r : SR} (h : sealE r = 0) (hg : 0 ≤ r.gen ∧ r.gen < 18446744073709551616) (hb : Bytes r.bytes) : r.right := by
  unfold sealE at h
  split at h
  · simp at h
  · split at h
    · simp at h
    · exact ⟨by omega, by omega, by omega, hb, by omega⟩
theorem swrite_any {w : World} {okd okr : Nat → Prop} {D : DM} {A : Option Addr} {c : Nat} (p : Nat) (base : Int) (r : SR) (h : PDisk w okd p D) (hF : RB w okr A r.bytes) (hne : apart okr okd) (hl : r.bytes.length ≤ c)
    (hb : Bytes r.bytes) (hg : 0 ≤ r.gen ∧ r.gen < 18446744073709551616) (hb9 : -9223372036854775808 ≤ base ∧ base ≤ 9223372036854775807) (hm : (D.ws.length + 65537) * 32 ≤ 140737488355328) :
  Calls Try.prog 22 #[.pointer (some ⟨p, 0, none⟩), .int .i64 base, recV r A c] w fun e w' => e = .returned (.int .i64 (D.sealW base r).2) ∧ PDisk w' (orNew okd w) p (D.sealW base r).1 ∧ Chg okd w w' := by
  unfold DM.sealW
  by_cases he : sealE r = 0
  · rw [if_neg (by simp [he])]
    have hr := right_of he hg hb
    by_cases ho : outB D base r = true
    · have hx : base < 0 ∨ (D.n : Int) < base ∨ (D.n : Int) - base < r.at_ + need r.bytes.length := by
        unfold outB at ho
        simp only [Bool.or_eq_true, decide_eq_true_eq] at ho
        rcases ho with (ho | ho) | ho
        · exact .inl ho
        · exact .inr (.inl ho)
        · exact .inr (.inr ho)
      rw [if_pos hx]
      refine (seal_bad p base r h hr.l hr.a hb9 he ho).mono ?_
      rintro e w' ⟨rfl, hB⟩
      exact ⟨rfl, (h.step (fun k _ hk => hB.block k hk)).mono (fun _ hk => .inl hk), Chg.of_below hB _⟩
    · have hx : ¬ (base < 0 ∨ (D.n : Int) < base ∨ (D.n : Int) - base < r.at_ + need r.bytes.length) := by
        unfold outB at ho
        simp only [Bool.or_eq_true, decide_eq_true_eq] at ho
        rintro (hh | hh | hh)
        · exact ho (.inl (.inl hh))
        · exact ho (.inl (.inr hh))
        · exact ho (.inr hh)
      rw [if_neg hx]
      exact seal_go p base r h hF hne hl hr hb9 he (by simpa using ho) hm
  · rw [if_pos he]
    refine (seal_err p base r (RB_len hF) he).mono ?_
    rintro e w' ⟨rfl, hB⟩
    exact ⟨rfl, (h.step (fun k _ hk => hB.block k hk)).mono (fun _ hk => .inl hk), Chg.of_below hB _⟩
theorem readV_E {D : DM} {base end_ gen at_ : Int} (h : ¬ readE D base end_ at_ = 0) : readV D base end_ gen at_ = none := by
  unfold readV
  rw [if_neg (fun hh => h hh.1)]
theorem sread_any {w : World} {ok : Nat → Prop} {p : Nat} {D : DM} (h : PDisk w ok p D) (base end_ gen at_ : Int) :
  Calls Try.prog 29 #[.pointer (some ⟨p, 0, none⟩), .int .i64 base, .int .i64 end_, .int .u64 gen, .int .i64 at_] w (ReadPost (readV D base end_ gen at_) (readE D base end_ at_) w) := by
  by_cases he : readE D base end_ at_ = 0
  · by_cases ho : end_ - base ≤ at_
    · rw [show readV D base end_ gen at_ = none from by unfold readV; rw [if_neg (fun hh => by have := hh.2.1; omega)], he]
      exact read_outD h base end_ gen at_ he ho
    · obtain ⟨h1, h2, h3, h4, h5⟩ := readE_ok he
      rw [he]
      obtain ⟨b, rfl⟩ := Int.eq_ofNat_of_zero_le h1
      obtain ⟨a, rfl⟩ := Int.eq_ofNat_of_zero_le h5
      obtain ⟨e, rfl⟩ := Int.eq_ofNat_of_zero_le (Int.le_trans h1 h2)
      exact read_inD h b a e gen h4 (by omega) (by omega)
  · rw [readV_E he]
    exact read_errD h base end_ gen at_ he
theorem sgen_any {w : World} {ok : Nat → Prop} {p : Nat} {D : DM} (h : PDisk w ok p D) (base end_ : Int) :
  Calls Try.prog 23 #[.pointer (some ⟨p, 0, none⟩), .int .i64 base, .int .i64 end_] w fun e w' => e = .returned (.tuple #[.int .u64 (genM D base end_), .int .i64 (regE D base end_)]) ∧ Below w.heap.size w w' := by
  unfold genM
  by_cases he : regE D base end_ = 0
  · rw [if_pos he, he]
    obtain ⟨h1, h2, h3, h4⟩ := regE_ok he
    obtain ⟨b, rfl⟩ := Int.eq_ofNat_of_zero_le h1
    obtain ⟨m, hm⟩ := Int.eq_ofNat_of_zero_le (show 0 ≤ end_ - b from by omega)
    rw [hm]
    obtain rfl : end_ = ((b + m : Nat) : Int) := by omega
    exact gen_ok h b m h4 (by omega)
  · rw [if_neg he]
    refine (gen_err h base end_ he).mono ?_
    rintro e w' ⟨rfl, rfl⟩
    exact ⟨rfl, Below.refl _ _⟩
theorem sameBytes_any {w : World} {A A' : Option Addr} {c c' : Nat} {xs ys : List Int} (h : KB.C w A xs.length xs) (hx : Bytes xs) (hc : xs.length ≤ c) (h' : KB.C w A' ys.length ys) (hy : Bytes ys) (hc' : ys.length ≤ c') :
  Calls Try.prog 28 #[.slice A xs.length c, .slice A' ys.length c'] w fun e w' => e = .returned (.bool (decide (xs = ys))) ∧ Below w.heap.size w w' := by
  have hk := KCarveA.foundrylaw22_sameBytes.calls A c xs A' c' ys (decide (xs = ys)) w h hc h' hc' (by
    unfold KCarveA.foundrylaw22_sameBytes.f
    congr 1
    rw [Bool.eq_iff_iff, beq_iff_eq, decide_eq_true_eq]
    constructor
    · intro hh
      rw [ByteArray.toList_eq, ByteArray.toList_eq] at hh
      exact (str_iff hx hy).1 (by
        cases h1 : strOfNums xs; cases h2 : strOfNums ys
        rw [h1, h2] at hh
        simp only [ByteArray.mk.injEq]
        exact Array.toList_inj.1 hh)
    · rintro rfl; rfl)
  refine hk.mono ?_
  rintro e w' ⟨rfl, hd⟩
  exact ⟨rfl, hd.below⟩
theorem sameRecord_true {w : World} {A A' : Option Addr} {c c' : Nat} (r : SR) (h : KB.C w A r.bytes.length r.bytes) (hc : r.bytes.length ≤ c) (h' : KB.C w A' r.bytes.length r.bytes) (hc' : r.bytes.length ≤ c') :
  Calls Try.prog 18 #[recV r A c, recV r A' c'] w fun e w' => e = .returned (.bool true) ∧ Below w.heap.size w w' :=
  KCarveA.foundrylaw22_sameRecord.calls r.gen r.at_ r.kind A c r.bytes r.gen r.at_ r.kind A' c' r.bytes true w h hc h' hc' (by
    unfold KCarveA.foundrylaw22_sameRecord.f KCarveA.foundrylaw22_sameBytes.f
    simp)
theorem mine_any {w : World} {A : Option Addr} {c : Nat} (r : SR) (h : KB.C w A r.bytes.length r.bytes) (hc : r.bytes.length ≤ c) (hl : r.bytes.length < 140737488355328) :
  Calls Try.prog 21 #[recV r A c] w fun e w' => ∃ A' c', e = .returned (recV r A' c') ∧ KB.R 5 w' w.heap.size (fun k => w.heap.size ≤ k) (.slice A' r.bytes.length c') r.bytes ∧ r.bytes.length ≤ c' ∧ Below w.heap.size w w' := by
  refine (KCarveA.foundrylaw22_mine.calls r.gen r.at_ r.kind A c r.bytes r.gen r.at_ r.kind r.bytes w h hc (by unfold KCarveA.foundrylaw22_mine.f; simp [hl])).mono ?_
  rintro e w' ⟨v, rfl, hR, hB⟩
  obtain ⟨A', c', rfl, hle, _⟩ := Kd.R_reads hR
  exact ⟨A', c', rfl, Kd.R_mono (Kd.R_bound hR) (fun k hk => hk.2.1), hle, hB⟩

/-! ### live -/
def B60 : List Int := (List.replicate 60 0).set 59 7
def lr : SR := ⟨5, 0, 0, B60⟩
def lD : DM := ((DM.new 16).sealW 2 lr).1
theorem live_facts : ((DM.new 16).sealW 2 lr).2 = 0 ∧ (readV lD 2 16 5 0).map (·.bytes) = some B60 ∧ readE lD 2 16 0 = 0 ∧ (readV lD 2 3 5 0).isSome = false ∧ readE lD 2 3 0 = 0 ∧ genM lD 2 16 = 5 ∧ regE lD 2 16 = 0 := by decide +kernel
theorem live_need : need 47 = 1 ∧ need 48 = 2 ∧ need (-1) = 0 := by decide
theorem B60_bytes : Bytes B60 := by unfold Bytes; decide
end Go.Proofs.Ytekhmkfiepnnkaa

/- Package foundrylaw22: live. -/
set_option linter.unusedVariables false
set_option linter.unusedSimpArgs false
namespace Go.Proofs.Ytekhmkfiepnnkaa
open Go.RowKit Go.Proofs.YtekhmkfiepnnkaaW.PrintWords Go.Proofs.YtekhmkfiepnnkaaW.PrintMore

theorem make_bytes (m : Nat) (hn : m ≤ 281474976710656) : ∀ W : World, (Instr.makeSlice 22 (.int .i64 (m : Int)) (.int .i64 (m : Int))).run Try.prog W = .ok (.slice (some ⟨W.heap.size, 0, none⟩) m m) (W.alloc (.cells (madeCells #[.int .u8 0] m) 5)) :=
  print_make 22 5 .u8 1 Try.underlying22 info_u8 (by decide) m (by omega)
set_option maxRecDepth 100000 in
set_option maxHeartbeats 1000000 in
theorem live_any {w : World} : Calls Try.prog 19 #[] w fun e w' => e = .returned (.bool true) ∧ Below w.heap.size w w' := by
  have hmk : ∀ W : World, (Instr.makeSlice 22 (.int .i64 60) (.int .i64 60)).run Try.prog W = .ok (.slice (some ⟨W.heap.size, 0, none⟩) 60 60) (W.alloc (.cells (madeCells #[.int .u8 0] 60) 5)) := make_bytes 60 (by omega)
  have hm0 : (madeCells #[Value.int .u8 0] 60)[59]? = some (.int .u8 0) := by kernel_rfl
  obtain ⟨f1, f2, f3, f4, f5, f6, f7⟩ := live_facts
  obtain ⟨g1, g2, g3⟩ := live_need
  have n1 := fun W => need_any (w := W) 47 (by omega)
  have n2 := fun W => need_any (w := W) 48 (by omega)
  have n3 := fun W => need_any (w := W) (-1) (by omega)
  rw [g1] at n1
  rw [g2] at n2
  rw [g3] at n3
  clear g1 g2 g3
  go_enter Try.func19, Try.ntmps19
  go_wp2_with fail
  refine (new_ok 16 (by omega) (by omega)).mono ?_
  rintro e w1 ⟨rfl, h1, b1⟩
  go_wp2_with fail
  refine (n1 _).mono ?_
  rintro e w2 ⟨rfl, rfl⟩
  go_wp2_with fail
  refine (n2 _).mono ?_
  rintro e w2 ⟨rfl, rfl⟩
  go_wp2_with fail
  refine (n3 _).mono ?_
  rintro e w2 ⟨rfl, rfl⟩
  go_wp2_with fail
  have hB60 : (madeCells #[Value.int .u8 0] 60).setIfInBounds 59 (.int .u8 7) = (nums .u8 B60).toArray := by kernel_rfl
  rw [hB60]
  have hb3 := below_alloc (Below.refl w1.heap.size w1) (.cells (nums .u8 B60).toArray 5)
  have hF3 := RB_new w1 5 B60 (by decide)
  have h3 := h1.bound.step (w1 := w1.alloc (.cells (nums .u8 B60).toArray 5)) (fun k _ hlt => hb3.block k hlt)
  have hne : apart (fun k => k = w1.heap.size) (fun k => w.heap.size ≤ k ∧ k < w1.heap.size) := fun k hk h => by omega
  have hs1 := b1.size
  have hs3 : (w1.alloc (.cells (nums .u8 B60).toArray 5)).heap.size = w1.heap.size + 1 := World.size_alloc _ _
  have b3 : Below w.heap.size w (w1.alloc (.cells (nums .u8 B60).toArray 5)) := b1.trans (hb3.mono hs1)
  have hsw := swrite_any (c := 60) (w.heap.size + 1) 2 lr h3 hF3 hne (by decide) B60_bytes (by decide) (by omega) (by simp [DM.new])
  rw [f1] at hsw
  have hsw2 : Calls Try.prog 22 #[.pointer (some ⟨w.heap.size + 1, 0, none⟩), .int .i64 2, .agg #[.int .u64 5, .int .i64 0, .int .i64 0, .slice (some ⟨w1.heap.size, 0, none⟩) 60 60]] (w1.alloc (.cells (nums .u8 B60).toArray 5))
    fun e w' => e = .returned (.int .i64 0) ∧ PDisk w' (orNew (fun k => w.heap.size ≤ k ∧ k < w1.heap.size) (w1.alloc (.cells (nums .u8 B60).toArray 5))) (w.heap.size + 1) lD ∧ Chg (fun k => w.heap.size ≤ k ∧ k < w1.heap.size) (w1.alloc (.cells (nums .u8 B60).toArray 5)) w' := hsw
  clear hsw hmk hm0 hb3 h3 h1 n1 n2 n3 f1
  generalize w1.alloc (.cells (nums .u8 B60).toArray 5) = w3 at hsw2 hs3 hF3 b3 ⊢
  refine hsw2.mono ?_
  rintro e w4 ⟨rfl, h4, c4⟩
  have hF4 := RB_step hF3 c4 hne
  have b4 : Below w.heap.size w w4 := b3.trans (c4.below_ (B := w.heap.size) b3.size (fun k hk => hk.1))
  clear hsw2 hF3 c4
  have hr1 := sread_any h4 2 16 5 0
  rw [f3] at hr1
  go_wp2_with fail
  refine hr1.mono ?_
  rintro e w5 ⟨A5, c5, rfl, hR5, hle5, b5⟩
  clear hr1
  obtain ⟨r5, hr5, hrb⟩ := Option.map_eq_some_iff.1 f2
  simp only [hr5, Option.getD_some, Option.isSome_some] at hR5 hle5 ⊢
  rw [hrb] at hR5 hle5
  unfold recV
  rw [hrb]
  have hl60 : B60.length = 60 := by decide
  have hl60b : B60.length ≤ 60 := by decide
  have h5 := h4.step (w1 := w5) (fun k _ hk => b5.block k hk)
  have hF5 := RB_below hF4 b5
  have hR5' := Kd.R_alloc hR5 (.cells #[.int .u64 r5.gen, .int .i64 r5.at_, .int .i64 r5.kind, .slice A5 B60.length c5] 25)
  have b5' := below_alloc b5 (.cells #[.int .u64 r5.gen, .int .i64 r5.at_, .int .i64 r5.kind, .slice A5 B60.length c5] 25)
  have hFb := RB_below hF5 (below_alloc (Below.refl w5.heap.size w5) (.cells #[.int .u64 r5.gen, .int .i64 r5.at_, .int .i64 r5.kind, .slice A5 B60.length c5] 25))
  have hh5 := h5.step (w1 := w5.alloc (.cells #[.int .u64 r5.gen, .int .i64 r5.at_, .int .i64 r5.kind, .slice A5 B60.length c5] 25)) (fun k _ hk => (below_alloc (Below.refl w5.heap.size w5) _).block k hk)
  have hc5 : (w5.alloc (.cells #[.int .u64 r5.gen, .int .i64 r5.at_, .int .i64 r5.kind, .slice A5 B60.length c5] 25)).cell? ⟨w5.heap.size, 3, none⟩ = some (.slice A5 B60.length c5) := by rw [cell_of_row _ _ 3 _ _ _ (heap_alloc_new w5 _)]; rfl
  clear hl60 h5 hF4 hF5 hR5 hr5 hrb b5 f2
  have hsz5 : w5.heap.size < (w5.alloc (.cells #[.int .u64 r5.gen, .int .i64 r5.at_, .int .i64 r5.kind, .slice A5 B60.length c5] 25)).heap.size := by simp
  go_wp2_with fail
  generalize w5.alloc (.cells #[.int .u64 r5.gen, .int .i64 r5.at_, .int .i64 r5.kind, .slice A5 B60.length c5] 25) = w6 at hR5' b5' hFb hh5 hc5 hsz5 ⊢
  have hr2 := sread_any hh5 2 3 5 0
  rw [f5, show readV lD 2 3 5 0 = none from by rw [← Option.not_isSome_iff_eq_none, f4]; simp] at hr2
  refine hr2.mono ?_
  rintro e w7 ⟨A7, c7, rfl, hR7, hle7, b7⟩
  clear hr2 hR7 hle7
  simp only [Option.getD_none, Option.isSome_none]
  unfold recV noR
  dsimp only
  have b8 := below_alloc b7 (.cells #[.int .u64 0, .int .i64 0, .int .i64 0, .slice A7 0 c7] 25)
  have h8 := hh5.step (w1 := w7.alloc (.cells #[.int .u64 0, .int .i64 0, .int .i64 0, .slice A7 0 c7] 25)) (fun k _ hk => b8.block k hk)
  have hg := sgen_any h8 2 16
  rw [f6, f7] at hg
  go_wp2_with fail
  generalize w7.alloc (.cells #[.int .u64 0, .int .i64 0, .int .i64 0, .slice A7 0 c7] 25) = w8 at b8 h8 hg ⊢
  refine hg.mono ?_
  rintro e w9 ⟨rfl, b9⟩
  have b69 : Below w6.heap.size w6 w9 := b8.trans (b9.mono b8.size)
  have c9 : w9.cell? ⟨w5.heap.size, 3, none⟩ = some (.slice A5 B60.length c5) := (b69.cell hsz5).trans hc5
  have hsb := sameBytes_any (Kd.C_below (Kd.R_reads' hR5').2.2 b69) B60_bytes hle5 (Kd.C_below (Kd.F_now hFb) b69) B60_bytes hl60b
  rw [show decide (B60 = B60) = true from by simp] at hsb
  have hfin : Below w.heap.size w w9 := b4.trans ((b5'.trans (b69.mono b5'.size)).mono b4.size)
  have HF := hid hfin
  have hl60 : (B60.length : Nat) = 60 := by decide
  clear hfin b69 b9 b8 h8 hg b7 hc5 hR5' hFb hle5 b5' b4 hB60 hh5 h4 b3 hs3 f3 f4 f5 f6 f7
  rw [hl60] at c9 hsb
  clear hl60 hl60b
  go_wp2_with fail
  refine hsb.mono ?_
  rintro e w10 ⟨rfl, b10⟩
  have hfin : Below w.heap.size w w10 := HF.out.trans (b10.mono HF.out.size)
  clear c9 hsb
  go_wp2
  go_ret
  exact ⟨rfl, hfin⟩
end Go.Proofs.Ytekhmkfiepnnkaa

/- The plain law of sealed records: blocks that are written, heads and bodies that are read back. No Go function in sight. -/
set_option linter.unusedVariables false
set_option linter.unusedSimpArgs false
namespace Go.Proofs.Ytekhmkfiepnnkaa
open Go.RowKit Go.Proofs.YtekhmkfiepnnkaaW.PrintWords Go.Proofs.YtekhmkfiepnnkaaW.PrintMore

/-! ### Blocks that are written -/
theorem splice_get {α : Type} {L vs : List α} {off : Nat} (h : off + vs.length ≤ L.length) (k : Nat) : (splice L off vs)[k]? = if off ≤ k ∧ k < off + vs.length then vs[k - off]? else L[k]? := by
  unfold splice
  have hl : (L.take off).length = off := by rw [List.length_take]; omega
  by_cases h1 : k < off
  · rw [if_neg (by omega), List.getElem?_append_left (by omega), List.getElem?_take, if_pos h1]
  · rw [List.getElem?_append_right (by omega), hl]
    by_cases h2 : k < off + vs.length
    · rw [if_pos ⟨by omega, h2⟩, List.getElem?_append_left (by omega)]
    · rw [if_neg (by omega), List.getElem?_append_right (by omega), List.getElem?_drop]
      congr 1
      omega
theorem blk_get (D : DM) (j k : Nat) : (D.blk j)[k]? = if k < 64 then D.b[j * 64 + k]? else none := by
  unfold DM.blk
  rw [List.getElem?_take]
  split
  · rw [List.getElem?_drop]
  · rfl
theorem blk_splice {D D' : DM} {n i : Nat} {xs : List Int} (hb : D.b.length = 64 * n) (hi : i < n) (hx : xs.length = 64) (hD : D'.b = splice D.b (i * 64) xs) (j : Nat) : D'.blk j = if j = i then xs else D.blk j := by
  apply List.ext_getElem?
  intro k
  rw [blk_get, hD]
  by_cases hk : k < 64
  · rw [if_pos hk, splice_get (by omega)]
    by_cases hj : j = i
    · subst hj
      rw [if_pos (by omega), if_pos rfl]
      congr 1
      omega
    · rw [if_neg (by omega), if_neg hj, blk_get, if_pos hk]
  · rw [if_neg hk]
    split
    · rw [List.getElem?_eq_none (by omega)]
    · rw [blk_get, if_neg hk]
/-- One write on a disk that is on: the blocks behind it. -/
theorem write_on {D : DM} (h : D.wf) (hg : D.gone = false) {i : Int} (hi : 0 ≤ i ∧ i < D.n) {xs : List Int} (hx : xs.length = 64) (hl : ¬ D.left = 0) :
    D.writeE i xs = 0 ∧ (D.writeD i xs).gone = false ∧ (D.writeD i xs).left = (if 0 < D.left then D.left - 1 else D.left) ∧ (D.writeD i xs).n = D.n ∧ (D.writeD i xs).ws = D.ws ++ [(i, xs)] ∧
    ∀ j, (D.writeD i xs).blk j = if (j : Int) = i then xs else D.blk j := by
  obtain ⟨m, rfl⟩ := Int.eq_ofNat_of_zero_le hi.1
  have hr : D.ready m = 0 := ready_in hg (by omega)
  have hE : D.writeE m xs = 0 := by unfold DM.writeE; rw [if_neg (by simp [hr]), if_neg (by simp [hx]), if_neg hl]
  have hD : D.writeD m xs = { b := splice D.b (m * 64) xs, left := if 0 < D.left then D.left - 1 else D.left, gone := D.gone, ws := D.ws ++ [((m : Int), xs)] } := by
    unfold DM.writeD
    rw [if_neg (by simp [hr]), if_neg (by simp [hx]), if_neg hl]
    simp
  have hb := h.len
  have hn : (splice D.b (m * 64) xs).length = D.b.length := length_splice _ _ _ (by omega)
  refine ⟨hE, by rw [hD]; exact hg, by rw [hD], by rw [hD]; simp only [DM.n, hn], by rw [hD], fun j => ?_⟩
  rw [blk_splice (D := D) (D' := D.writeD m xs) (i := m) hb (by omega) hx (by rw [hD]) j]
  by_cases hj : j = m
  · rw [if_pos hj, if_pos (by omega)]
  · rw [if_neg hj, if_neg (by omega)]
theorem write_off {D : DM} (hg : D.gone = false) {i : Int} (hi : 0 ≤ i ∧ i < D.n) {xs : List Int} (hx : xs.length = 64) (hl : D.left = 0) :
    D.writeE i xs = 61 ∧ D.writeD i xs = { D with gone := true } := by
  obtain ⟨m, rfl⟩ := Int.eq_ofNat_of_zero_le hi.1
  have hr : D.ready m = 0 := ready_in hg (by omega)
  constructor
  · unfold DM.writeE; rw [if_neg (by simp [hr]), if_neg (by simp [hx]), if_pos hl]
  · unfold DM.writeD
    rw [if_neg (by simp [hr]), if_neg (by simp [hx]), if_pos hl]
/-- What stands in the blocks behind some writes. -/
def after (b0 : Int) : List (Int × List Int) → (Nat → List Int) → Nat → List Int
  | [], f => f
  | x :: l, f => after b0 l (fun j => if (j : Int) = b0 + x.1 then x.2 else f j)
theorem after_congr (b0 : Int) : ∀ (l : List (Int × List Int)) {f g : Nat → List Int}, (∀ j, f j = g j) → ∀ j, after b0 l f j = after b0 l g j
  | [], _, _, h, j => h j
  | x :: l, f, g, h, j => after_congr b0 l (fun j => by simp only [h j]) j
theorem after_append (b0 : Int) : ∀ (l m : List (Int × List Int)) (f : Nat → List Int), after b0 (l ++ m) f = after b0 m (after b0 l f)
  | [], _, _ => rfl
  | x :: l, m, f => after_append b0 l m _
/-- How many of m writes are done. -/
def done_ (left : Int) (m : Nat) : Nat := if left < 0 then m else min left.toNat m
def Fine (b0 : Int) (n : Nat) (l : List (Int × List Int)) : Prop := ∀ x ∈ l, 0 ≤ b0 + x.1 ∧ b0 + x.1 < n ∧ x.2.length = 64 ∧ Bytes x.2
theorem puts_any (b0 : Int) : ∀ (l : List (Int × List Int)) (D : DM), D.wf → D.gone = false → Fine b0 D.n l →
    (puts b0 D l).2 = (if done_ D.left l.length < l.length then 61 else 0) ∧ (puts b0 D l).1.wf ∧ (puts b0 D l).1.gone = decide (done_ D.left l.length < l.length) ∧
    (puts b0 D l).1.left = (if D.left < 0 then D.left else D.left - (done_ D.left l.length : Nat)) ∧ (puts b0 D l).1.n = D.n ∧
    (puts b0 D l).1.ws = D.ws ++ (l.take (done_ D.left l.length)).map (fun x => (b0 + x.1, x.2)) ∧ ∀ j, (puts b0 D l).1.blk j = after b0 (l.take (done_ D.left l.length)) D.blk j
  | [], D, hw, hg, _ => by
    have : done_ D.left 0 = 0 := by unfold done_; split <;> simp
    simp only [puts, List.length_nil, this]
    refine ⟨by simp, hw, by simp [hg], ?_, trivial, by simp, fun j => by simp [after]⟩
    split <;> simp
  | x :: l, D, hw, hg, hF => by
    obtain ⟨h1, h2, h3, h4⟩ := hF x (List.mem_cons_self ..)
    by_cases hl : D.left = 0
    · obtain ⟨e1, e2⟩ := write_off hg ⟨h1, h2⟩ h3 hl
      have hd : done_ D.left (l.length + 1) = 0 := by unfold done_; rw [hl]; simp
      simp only [puts, e1, List.length_cons, hd]
      rw [if_neg (by decide), e2]
      exact ⟨by simp, ⟨hw.len, hw.lo, hw.hi, hw.l1, hw.l2, hw.bytes, hw.wsB⟩, by simp, by simp [hl], rfl, by simp, fun j => by simp [after, DM.blk]⟩
    · obtain ⟨e1, e2, e3, e4, e5, e6⟩ := write_on hw hg ⟨h1, h2⟩ h3 hl
      have hw' := writeD_wf hw h4 (b0 + x.1)
      obtain ⟨i1, i2, i3, i4, i5, i6, i7⟩ := puts_any b0 l (D.writeD (b0 + x.1) x.2) hw' e2 (fun y hy => by rw [e4]; exact hF y (List.mem_cons_of_mem _ hy))
      have hd : done_ D.left (l.length + 1) = done_ (D.writeD (b0 + x.1) x.2).left l.length + 1 := by
        rw [e3]
        unfold done_
        by_cases hn : D.left < 0
        · rw [if_neg (show ¬ 0 < D.left by omega), if_pos hn, if_pos hn]
        · rw [if_pos (show 0 < D.left by omega), if_neg hn, if_neg (by omega)]
          omega
      simp only [puts, List.length_cons, if_pos e1, hd]
      refine ⟨?_, i2, ?_, ?_, i5.trans e4, ?_, fun j => ?_⟩
      · rw [i1]
        by_cases hq : done_ (D.writeD (b0 + x.1) x.2).left l.length < l.length
        · rw [if_pos hq, if_pos (by omega)]
        · rw [if_neg hq, if_neg (by omega)]
      · rw [i3]
        congr 1
        simp
      · rw [i4, e3]
        by_cases hn : D.left < 0
        · rw [if_neg (show ¬ 0 < D.left by omega), if_pos hn, if_pos hn]
        · rw [if_pos (show 0 < D.left by omega), if_neg (by omega), if_neg hn]
          omega
      · rw [i6, e5]
        simp
      · rw [i7 j, List.take_succ_cons]
        exact after_congr b0 _ (fun j => by rw [e6 j]) j
end Go.Proofs.Ytekhmkfiepnnkaa

/- The plain law of sealed records: heads and bodies, read back. -/
set_option linter.unusedVariables false
set_option linter.unusedSimpArgs false
namespace Go.Proofs.Ytekhmkfiepnnkaa
open Go.RowKit Go.Proofs.YtekhmkfiepnnkaaW.PrintWords Go.Proofs.YtekhmkfiepnnkaaW.PrintMore

theorem take_app {α : Type} {a b : List α} {n : Nat} (h : a.length = n) : (a ++ b).take n = a := by subst h; simp
theorem drop_app {α : Type} {a b : List α} {n : Nat} (h : a.length = n) : (a ++ b).drop n = b := by subst h; simp
theorem val_be_lt {n : Int} {m : Nat} (h0 : 0 ≤ n) (h : n < 256 ^ m) : val (be n m) = n := by rw [val_be m n h0]; exact Int.emod_eq_of_lt h0 h
theorem pow8 : (256 : Int) ^ 8 = 18446744073709551616 := by decide
theorem pow4 : (256 : Int) ^ 4 = 4294967296 := by decide
theorem pow2 : (256 : Int) ^ 2 = 65536 := by decide
theorem blank_zeros (n : Nat) : blank (List.replicate n 0) = true := by unfold blank; simp
/-! ### A head -/
theorem head_drop2 (r : SR) : (headB r).drop 2 = be r.gen 8 ++ (be r.at_ 2 ++ (r.kind :: (be r.bytes.length 4 ++ padTo 47 (r.bytes.take 47)))) := rfl
theorem head_drop10 (r : SR) : (headB r).drop 10 = be r.at_ 2 ++ (r.kind :: (be r.bytes.length 4 ++ padTo 47 (r.bytes.take 47))) := by
  rw [show (10 : Nat) = 2 + 8 from rfl, ← List.drop_drop, head_drop2, drop_app (be_length _ _)]
theorem head_drop12 (r : SR) : (headB r).drop 12 = r.kind :: (be r.bytes.length 4 ++ padTo 47 (r.bytes.take 47)) := by
  rw [show (12 : Nat) = 10 + 2 from rfl, ← List.drop_drop, head_drop10, drop_app (be_length _ _)]
theorem head_drop13 (r : SR) : (headB r).drop 13 = be r.bytes.length 4 ++ padTo 47 (r.bytes.take 47) := by
  rw [show (13 : Nat) = 12 + 1 from rfl, ← List.drop_drop, head_drop12]; rfl
theorem head_drop17 (r : SR) : (headB r).drop 17 = padTo 47 (r.bytes.take 47) := by
  rw [show (17 : Nat) = 13 + 4 from rfl, ← List.drop_drop, head_drop13, drop_app (be_length _ _)]
theorem head_num2 {r : SR} (h : r.right) : numAt (headB r) 2 8 = r.gen := by
  unfold numAt
  rw [head_drop2, take_app (be_length _ _)]
  exact val_be_lt (by have := h.g; omega) (by rw [pow8]; exact h.g.2)
theorem head_num10 {r : SR} (h : r.right) : numAt (headB r) 10 2 = r.at_ := by
  unfold numAt
  rw [head_drop10, take_app (be_length _ _)]
  exact val_be_lt h.a.1 (by rw [pow2]; have := h.a.2; omega)
theorem head_num13 {r : SR} (h : r.right) : numAt (headB r) 13 4 = (r.bytes.length : Int) := by
  unfold numAt
  rw [head_drop13, take_app (be_length _ _)]
  exact val_be_lt (by omega) (by rw [pow4]; have := h.l; omega)
theorem head_12 (r : SR) : (headB r).getD 12 0 = r.kind := by
  have h2 : ((headB r).drop 12)[0]? = some r.kind := by rw [head_drop12]; rfl
  rw [List.getElem?_drop] at h2
  rw [List.getD_eq_getElem?_getD, show (12 : Nat) = 12 + 0 from rfl, h2]; rfl
theorem head_M {r : SR} (h : r.right) : headM (headB r) = (r.bytes.take 47).length := by unfold headM; rw [head_num13 h, List.length_take]; omega
theorem head_OK {r : SR} (h : r.right) : headOK (headB r) := by
  refine ⟨headB_length r, rfl, by rw [head_num2 h]; have := h.g; omega, by rw [head_num13 h]; have := h.l; omega, ?_⟩
  rw [head_M h, ← List.drop_drop, head_drop17]
  unfold padTo
  rw [drop_app rfl]
  exact blank_zeros _
theorem head_R {r : SR} (h : r.right) : headR (headB r) = ⟨r.gen, r.at_, r.kind, r.bytes.take 47⟩ := by
  unfold headR
  rw [if_pos (head_OK h), head_num2 h, head_num10 h, head_12, head_drop17, head_M h]
  unfold padTo
  rw [take_app rfl]
theorem head_N {r : SR} (h : r.right) : headN (headB r) = (r.bytes.length : Int) := by unfold headN; rw [if_pos (head_OK h), head_num13 h]
theorem head_bodyV (r : SR) : bodyV (headB r) = (0, 0, 0, false) := by
  unfold bodyV
  rw [if_neg]
  rintro ⟨_, h, _⟩
  have h2 : (headB r).take 2 = [102, 104] := rfl
  rw [h2] at h
  cases h
/-! ### A body -/
theorem body_drop2 (r : SR) (k : Nat) : (bodyB r k).drop 2 = be r.gen 8 ++ (be r.at_ 2 ++ (be k 2 ++ padTo 50 ((r.bytes.drop (47 + 50 * (k - 1))).take 50))) := rfl
theorem body_drop10 (r : SR) (k : Nat) : (bodyB r k).drop 10 = be r.at_ 2 ++ (be k 2 ++ padTo 50 ((r.bytes.drop (47 + 50 * (k - 1))).take 50)) := by
  rw [show (10 : Nat) = 2 + 8 from rfl, ← List.drop_drop, body_drop2, drop_app (be_length _ _)]
theorem body_drop12 (r : SR) (k : Nat) : (bodyB r k).drop 12 = be k 2 ++ padTo 50 ((r.bytes.drop (47 + 50 * (k - 1))).take 50) := by
  rw [show (12 : Nat) = 10 + 2 from rfl, ← List.drop_drop, body_drop10, drop_app (be_length _ _)]
theorem body_drop14 (r : SR) (k : Nat) : (bodyB r k).drop 14 = padTo 50 ((r.bytes.drop (47 + 50 * (k - 1))).take 50) := by
  rw [show (14 : Nat) = 12 + 2 from rfl, ← List.drop_drop, body_drop12, drop_app (be_length _ _)]
theorem body_num2 {r : SR} (h : r.right) (k : Nat) : numAt (bodyB r k) 2 8 = r.gen := by
  unfold numAt
  rw [body_drop2, take_app (be_length _ _)]
  exact val_be_lt (by have := h.g; omega) (by rw [pow8]; exact h.g.2)
theorem body_num10 {r : SR} (h : r.right) (k : Nat) : numAt (bodyB r k) 10 2 = r.at_ := by
  unfold numAt
  rw [body_drop10, take_app (be_length _ _)]
  exact val_be_lt h.a.1 (by rw [pow2]; have := h.a.2; omega)
theorem body_num12 (r : SR) {k : Nat} (hk : k ≤ 65535) : numAt (bodyB r k) 12 2 = (k : Int) := by
  unfold numAt
  rw [body_drop12, take_app (be_length _ _)]
  exact val_be_lt (by omega) (by rw [pow2]; omega)
theorem body_V {r : SR} (h : r.right) {k : Nat} (h0 : 0 < k) (hk : k ≤ 65535) : bodyV (bodyB r k) = (r.gen, r.at_, (k : Int), true) := by
  unfold bodyV
  rw [if_pos ⟨bodyB_length r k, rfl, by rw [body_num2 h]; have := h.g; omega, by rw [body_num12 r hk]; omega⟩, body_num2 h, body_num10 h, body_num12 r hk]
theorem body_headR (r : SR) (k : Nat) : headR (bodyB r k) = ⟨0, 0, 0, []⟩ ∧ ¬ headOK (bodyB r k) := by
  have hn : ¬ headOK (bodyB r k) := by
    rintro ⟨_, h, _⟩
    have h2 : (bodyB r k).take 2 = [102, 98] := rfl
    rw [h2] at h
    cases h
  exact ⟨(head_no hn).1, hn⟩
/-- The bytes of a body block. -/
def partB (r : SR) (k : Nat) : List Int := (r.bytes.drop (47 + 50 * k)).take 50
theorem partB_len (r : SR) (k : Nat) : (partB r k).length = hasK r.bytes.length k := by unfold partB hasK; rw [List.length_take, List.length_drop]; omega
theorem body_part (r : SR) (k : Nat) : ((bodyB r (k + 1)).drop 14).take (hasK r.bytes.length k) = partB r k := by
  rw [body_drop14]
  show (padTo 50 (partB r k)).take _ = _
  unfold padTo
  exact take_app (partB_len r k)
theorem body_blank (r : SR) (k : Nat) : blank ((bodyB r (k + 1)).drop (14 + hasK r.bytes.length k)) = true := by
  rw [← List.drop_drop, body_drop14]
  show blank ((padTo 50 (partB r k)).drop _) = true
  unfold padTo
  rw [drop_app (partB_len r k)]
  exact blank_zeros _
theorem take_part (r : SR) (k : Nat) : r.bytes.take (47 + 50 * k) ++ partB r k = r.bytes.take (47 + 50 * (k + 1)) := by
  unfold partB
  rw [show 47 + 50 * (k + 1) = (47 + 50 * k) + 50 from by omega]
  exact (List.take_add ..).symm
theorem bodies_eq (r : SR) : bodies r = bodiesN r.bytes.length := rfl
/-- Where the blocks of a record stand, it is read. -/
theorem reads_there {D : DM} {r : SR} (h : r.right) {base end_ b : Nat} (hb : base + r.at_ = (b : Int)) (hE : readE D base end_ r.at_ = 0) (hfit : b + bodies r < end_) (h0 : D.blk b = headB r) (hk : ∀ k, k < bodies r → D.blk (b + (k + 1)) = bodyB r (k + 1)) :
    readV D base end_ r.gen r.at_ = some r := by
  obtain ⟨a, ha⟩ := Int.eq_ofNat_of_zero_le h.a.1
  have hba : base + a = b := by omega
  have hnd := need_bodies h.l
  have hbl := bodies_le h
  rw [ha] at hE ⊢
  rw [readV_in r.gen hE (by omega), hba, h0, head_R h, head_N h]
  have hn : ((r.bytes.length : Nat) : Int).toNat = r.bytes.length := by simp
  rw [hn, if_pos]
  · have hB : ∀ k, k ≤ bodies r → bytesK D b r.bytes.length k = r.bytes.take (47 + 50 * k) := by
      intro k
      induction k with
      | zero => intro _; simp only [bytesK]; rw [h0, head_R h]
      | succ k ih =>
        intro hle
        simp only [bytesK]
        rw [ih (by omega), hk k (by omega), body_part, take_part]
    have hfull : r.bytes.take (47 + 50 * bodies r) = r.bytes := List.take_of_length_le (by unfold bodies; omega)
    rw [← bodies_eq, hB _ (Nat.le_refl _), hfull]
    obtain ⟨g, a', k', bs⟩ := r
    simp only at ha ⊢
    rw [ha]
  · refine ⟨head_OK h, rfl, ha, by rw [hnd]; omega, ?_⟩
    refine all_range_true (fun k hlt => ?_)
    rw [← bodies_eq] at hlt
    unfold goodK
    rw [hk k hlt, body_V h (by omega) (by omega), ha, body_blank]
    simp
end Go.Proofs.Ytekhmkfiepnnkaa

/- The plain law of sealed records: Write, and what Read and Gen tell then. -/
set_option linter.unusedVariables false
set_option linter.unusedSimpArgs false
namespace Go.Proofs.Ytekhmkfiepnnkaa
open Go.RowKit Go.Proofs.YtekhmkfiepnnkaaW.PrintWords Go.Proofs.YtekhmkfiepnnkaaW.PrintMore

theorem order_len (r : SR) : (order r).length = bodies r + 1 := by simp [order]
theorem order_fine {r : SR} (h : r.right) {b0 : Int} {n : Nat} (h0 : 0 ≤ b0) (hn : b0 + bodies r < n) : Fine b0 n (order r) := by
  intro x hx
  unfold order at hx
  rcases List.mem_append.1 hx with hx | hx
  · obtain ⟨i, hi, rfl⟩ := List.mem_map.1 hx
    have := List.mem_range.1 hi
    dsimp only
    exact ⟨by omega, by omega, bodyB_length _ _, bodyB_bytes h _⟩
  · rw [List.mem_singleton.1 hx]
    dsimp only
    exact ⟨by omega, by omega, headB_length _, headB_bytes h⟩
/-- Body blocks alone. -/
def bodyL (r : SR) (m : Nat) : List (Int × List Int) := (List.range m).map fun (i : Nat) => ((i : Int) + 1, bodyB r (i + 1))
theorem after_bodies (r : SR) (b : Nat) (f : Nat → List Int) : ∀ m j, after (b : Int) (bodyL r m) f j = if b < j ∧ j ≤ b + m then bodyB r (j - b) else f j
  | 0, j => by rw [if_neg (by omega)]; rfl
  | m + 1, j => by
    have e : bodyL r (m + 1) = bodyL r m ++ [((m : Int) + 1, bodyB r (m + 1))] := by unfold bodyL; rw [List.range_succ, List.map_append]; rfl
    rw [e, after_append]
    show (if (j : Int) = (b : Int) + ((m : Int) + 1) then bodyB r (m + 1) else after (b : Int) (bodyL r m) f j) = _
    rw [after_bodies r b f m j]
    by_cases hj : j = b + (m + 1)
    · rw [if_pos (by omega), if_pos (by omega), hj]
      congr 1
      omega
    · rw [if_neg (by omega)]
      by_cases h2 : b < j ∧ j ≤ b + m
      · rw [if_pos h2, if_pos (by omega)]
      · rw [if_neg h2, if_neg (by omega)]
theorem order_take (r : SR) {m : Nat} (hm : m ≤ bodies r) : (order r).take m = bodyL r m := by
  unfold order
  rw [List.take_append_of_le_length (by simp; exact hm), ← List.map_take, List.take_range, Nat.min_eq_left hm]
  rfl
theorem after_order (r : SR) (b : Nat) (f : Nat → List Int) (j : Nat) : after (b : Int) (order r) f j = if j = b then headB r else if b < j ∧ j ≤ b + bodies r then bodyB r (j - b) else f j := by
  have e : order r = bodyL r (bodies r) ++ [(0, headB r)] := rfl
  rw [e, after_append]
  show (if (j : Int) = (b : Int) + 0 then headB r else after (b : Int) (bodyL r (bodies r)) f j) = _
  rw [after_bodies]
  by_cases hj : j = b
  · rw [if_pos (by omega), if_pos hj]
  · rw [if_neg (by omega), if_neg hj]
/-- What a record's Write makes of the blocks, m writes of it being done. -/
def sealedB (r : SR) (b m : Nat) (f : Nat → List Int) (j : Nat) : List Int :=
  if m = bodies r + 1 ∧ j = b then headB r else if b < j ∧ j ≤ b + min m (bodies r) then bodyB r (j - b) else f j
theorem after_take (r : SR) (b m : Nat) (hm : m ≤ bodies r + 1) (f : Nat → List Int) (j : Nat) : after (b : Int) ((order r).take m) f j = sealedB r b m f j := by
  unfold sealedB
  by_cases h : m = bodies r + 1
  · rw [h, ← order_len, List.take_length, after_order, order_len]
    simp
  · rw [order_take r (by omega), after_bodies, if_neg (show ¬ (m = bodies r + 1 ∧ j = b) from fun hh => h hh.1), Nat.min_eq_left (by omega)]
/-- Write on a disk that is on. -/
structure Sealed (D D' : DM) (b m : Nat) (r : SR) : Prop where
  wf : D'.wf
  gone : D'.gone = decide (m < bodies r + 1)
  left : D'.left = if D.left < 0 then D.left else D.left - (m : Nat)
  n : D'.n = D.n
  ws : D'.ws = D.ws ++ ((order r).take m).map (fun x => ((b : Int) + x.1, x.2))
  blk : ∀ j, D'.blk j = sealedB r b m D.blk j
theorem done_le (left : Int) (m : Nat) : done_ left m ≤ m := by unfold done_; split <;> omega
theorem sealW_right {D : DM} (hw : D.wf) (hg : D.gone = false) {r : SR} (hr : r.right) {base : Int} {b : Nat} (hb : base + r.at_ = (b : Int)) (h0 : 0 ≤ base) (hn : base ≤ D.n) (hfit : b + bodies r < D.n) :
    (D.sealW base r).2 = (if done_ D.left (bodies r + 1) < bodies r + 1 then 61 else 0) ∧ Sealed D (D.sealW base r).1 b (done_ D.left (bodies r + 1)) r := by
  have he : sealE r = 0 := by
    have h1 := hr.g; have h2 := hr.a; have h3 := hr.k; have h4 := hr.l
    unfold sealE
    rw [if_neg (by omega), if_neg (by omega)]
  have hnd := need_bodies hr.l
  have hX : D.sealW base r = puts (base + r.at_) D (order r) := by
    unfold DM.sealW
    rw [if_neg (by simp [he]), if_neg (by rw [hnd]; omega)]
  have hF : Fine (base + r.at_) D.n (order r) := order_fine hr (by omega) (by omega)
  obtain ⟨p1, p2, p3, p4, p5, p6, p7⟩ := puts_any _ _ D hw hg hF
  rw [order_len] at p1 p3 p4 p6 p7
  rw [hX]
  refine ⟨p1, p2, p3, p4, p5, ?_, fun j => ?_⟩
  · rw [p6]
    congr 1
    rw [hb]
  · rw [p7 j, hb]
    exact after_take r b _ (done_le _ _) _ j
/-- A whole Write: the record is read. -/
theorem Sealed.reads {D D' : DM} {b : Nat} {r : SR} (h : Sealed D D' b (bodies r + 1) r) (hr : r.right) {base end_ : Nat} (hb : base + r.at_ = (b : Int)) (he : end_ ≤ D.n) (hfit : b + bodies r < end_) : readV D' base end_ r.gen r.at_ = some r ∧ readE D' base end_ r.at_ = 0 := by
  have hE : readE D' base end_ r.at_ = 0 := by
    have h2 := hr.a
    have h3 := h.gone
    have h4 := h.n
    unfold readE regE
    rw [if_neg (by omega), if_neg (by omega), if_neg (by rw [h3]; simp)]
  refine ⟨reads_there hr hb hE hfit ?_ ?_, hE⟩
  · rw [h.blk]; unfold sealedB; rw [if_pos ⟨rfl, rfl⟩]
  · intro k hk
    rw [h.blk]; unfold sealedB
    rw [if_neg (by omega), if_pos (by omega)]
    congr 1
    omega
/-! ### Gen -/
theorem genK_le {D : DM} {b0 : Nat} {M : Int} (h0 : 0 ≤ M) : ∀ k, (∀ i, i < k → (headR (D.blk (b0 + i))).gen ≤ M ∧ (bodyV (D.blk (b0 + i))).1 ≤ M) → genK D b0 k ≤ M
  | 0, _ => h0
  | k + 1, h => by
    have h1 := genK_le h0 k (fun i hi => h i (by omega))
    have h2 := h k (by omega)
    simp only [genK]
    omega
theorem genK_ge {D : DM} {b0 : Nat} : ∀ k i, i < k → (headR (D.blk (b0 + i))).gen ≤ genK D b0 k ∧ (bodyV (D.blk (b0 + i))).1 ≤ genK D b0 k
  | 0, i, h => absurd h (by omega)
  | k + 1, i, h => by
    simp only [genK]
    by_cases hi : i = k
    · subst hi; omega
    · have := genK_ge (D := D) (b0 := b0) k i (by omega)
      omega
end Go.Proofs.Ytekhmkfiepnnkaa

/- Package foundrylaw22: laid. -/
set_option linter.unusedVariables false
set_option linter.unusedSimpArgs false
namespace Go.Proofs.Ytekhmkfiepnnkaa
open Go.RowKit Go.Proofs.YtekhmkfiepnnkaaW.PrintWords Go.Proofs.YtekhmkfiepnnkaaW.PrintMore

/-- Block k of some bytes. -/
def blkOf (b : List Int) (k : Nat) : List Int := (b.drop (k * 64)).take 64
/-- The disk with k blocks laid. -/
def laidK (b : List Int) : Nat → DM
  | 0 => DM.new 64
  | k + 1 => (laidK b k).writeD k (blkOf b k)
def laidN (b : List Int) : Nat := min (b.length / 64) 64
theorem blkOf_len {b : List Int} {k : Nat} (h : k < b.length / 64) : (blkOf b k).length = 64 := by unfold blkOf; rw [List.length_take, List.length_drop]; omega
structure On64 (D : DM) : Prop where
  wf : D.wf
  gone : D.gone = false
  left : D.left = -1
  n : D.n = 64
theorem laidK_on {b : List Int} (hb : Bytes b) : ∀ k, k ≤ laidN b → On64 (laidK b k) ∧ (laidK b k).ws.length = k
  | 0, _ => ⟨⟨new_wf (by omega) (by omega), rfl, rfl, new_n 64⟩, rfl⟩
  | k + 1, h => by
    obtain ⟨⟨h1, h2, h3, h4⟩, h5⟩ := laidK_on hb k (by omega)
    have hk : k < b.length / 64 ∧ k < 64 := by unfold laidN at h; omega
    obtain ⟨_, e2, e3, e4, e5, _⟩ := write_on h1 h2 (i := (k : Int)) ⟨by omega, by omega⟩ (blkOf_len hk.1) (by omega)
    refine ⟨⟨writeD_wf h1 ((hb.drop _).take _) _, e2, ?_, ?_⟩, ?_⟩
    · show ((laidK b k).writeD k (blkOf b k)).left = -1
      rw [e3, if_neg (by omega), h3]
    · show ((laidK b k).writeD k (blkOf b k)).n = 64
      rw [e4, h4]
    · show ((laidK b k).writeD k (blkOf b k)).ws.length = k + 1
      rw [e5, List.length_append, h5]; rfl
set_option maxRecDepth 100000 in
set_option maxHeartbeats 2000000 in
theorem laid_any {w : World} {ok : Nat → Prop} {A : Option Addr} {c : Nat} {b : List Int} (hF : RB w ok A b) (hb : Bytes b) (hc : b.length ≤ c) (hl : b.length ≤ 140737488351232) (hok : ∀ k, ok k → k < w.heap.size) :
  Calls Try.prog 20 #[.slice A b.length c] w fun e w' => ∃ p, e = .returned (.pointer (some ⟨p, 0, none⟩)) ∧ PDisk w' (fun k => w.heap.size ≤ k) p (laidK b (laidN b)) ∧ Below w.heap.size w w' := by
  go_enter Try.func20, Try.ntmps20
  go_wp2_with fail
  refine (new_ok 64 (by omega) (by omega)).mono ?_
  rintro e w1 ⟨rfl, h1, b1⟩
  go_wp2_with fail
  go_loopw [5] (fun i wr => ∃ k : Nat, k ≤ laidN b ∧ i = .int .i64 k ∧ PDisk wr (fun k => w.heap.size ≤ k) (w.heap.size + 1) (laidK b k) ∧ Below w.heap.size w wr) (fun i _ => laidN b + 1 - (intOf i).toNat)
  case atStart => exact ⟨0, Nat.zero_le _, rfl, h1, b1⟩
  case round =>
    obtain ⟨k, hk, rfl, hD, hB⟩ := hrel
    have hk64 : k ≤ 64 := by unfold laidN at hk; omega
    have hw1 : IntKind.i64.wrap ((k : Int) * 64) = (k : Int) * 64 := by rw [IntKind.wrap_i64]; omega
    have hw2 : IntKind.i64.wrap ((k : Int) * 64 + 64) = (k : Int) * 64 + 64 := by rw [IntKind.wrap_i64]; omega
    by_cases hlt : k < laidN b
    · have hkk : k < b.length / 64 ∧ k < 64 := by unfold laidN at hlt; omega
      obtain ⟨a, rfl⟩ := RB_some hF (by omega)
      have hFr := RB_below hF hB
      have hpt := part (i := k * 64) (n := 64) hFr (by omega)
      have hpl : ((b.drop (k * 64)).take 64).length = 64 := part_len (by omega)
      have t1 : (k : Int) * 64 + 64 ≤ (b.length : Int) := by omega
      have t2 : (k : Int) * 64 + 64 ≤ (c : Int) := by omega
      have t3 : (k : Int) < 64 := by omega
      have t4 : ((k : Int) * 64).toNat = k * 64 := by omega
      have t5 : ((k : Int) * 64 + 64).toNat = k * 64 + 64 := by omega
      have t6 : (0 : Int) ≤ (k : Int) * 64 := by omega
      have t7 : ¬ c = k * 64 := by omega
      have t8 : (k : Int) * 64 ≤ (k : Int) * 64 + 64 := by omega
      go_wp2_with (at_builtin; refine print_append_row (w0 := wr) wr.heap.size rfl (.tmp 30) (.tmp 37) 22 5 .u8 1 rfl Try.underlying22 info_u8 (by decide) _ [] (blkOf b k) _ _ _ rfl rfl ?HO ?HR ?HB ?hb ?hl ?_)
      case HO => exact World.ownsRow_made (base := wr.heap.size) wr #[] 0 (Nat.le_refl _) (Nat.zero_le _) rfl
      case HR =>
        have := RB_int (RB_below hpt (below_alloc (Below.refl wr.heap.size wr) (.cells #[] 5)))
        rw [hpl] at this
        exact this
      case HB => exact below_alloc (Below.refl _ _) _
      case hb => simp
      case hl => simp
      intro v2 w2 ho hb2 hg hat
      have hR2 : KB.R 5 w2 wr.heap.size (fun k => wr.heap.size ≤ k) v2 (blkOf b k) := Rown (by simpa using ho) (fun q hq => own_base ho q hq)
      obtain ⟨A2, c2, rfl, hle2, _⟩ := Kd.R_reads hR2
      have hF2 := (R_RB (ok := fun k => wr.heap.size ≤ k) hR2).2
      clear ho hg hat hR2
      have hbo : (blkOf b k).length = 64 := hpl
      obtain ⟨⟨o1, o2, o3, o4⟩, o5⟩ := laidK_on hb k hk
      have hD2 := (hD.bound.step (w1 := w2) (fun k _ hlt => hb2.block k hlt))
      have hwr := write_any (c := c2) (k : Int) hD2 hF2 (fun j hj hj2 => by omega) ((hb.drop _).take _) (by rw [o5]; omega)
      obtain ⟨e1, _⟩ := write_on o1 o2 (i := (k : Int)) ⟨by omega, by omega⟩ hbo (by omega)
      rw [e1] at hwr
      have HE := hid e1
      have HO5 := hid o5
      clear o1 o2 o3 o4 e1 o5 hD hD2 hF2 hpt hpl hbo
      go_wp2_with fail
      refine hwr.mono ?_
      rintro e w3 ⟨rfl, hD3, hc3⟩
      have hB3 : Below w.heap.size w w3 := (hB.trans (hb2.mono hB.size)).trans (hc3.below_ (B := w.heap.size) (Nat.le_trans hB.size hb2.size) (fun k hk => hk.1))
      have hs2 := hb2.size
      have hs := hB.size
      have hD4 : PDisk w3 (fun k => w.heap.size ≤ k) (w.heap.size + 1) (laidK b (k + 1)) := hD3.mono (fun j hj => by
        rcases hj with hj | hj
        · exact hj.1
        · omega)
      clear hwr hD3 hc3 hb2 hFr
      go_wp2
      go_roundw
      case rel => exact ⟨k + 1, by omega, by go_num, hD4, hB3⟩
      case measure => simp [intOf]; omega
    · obtain rfl : k = laidN b := by omega
      have t1 : ¬ ((laidN b : Int) * 64 + 64 ≤ (b.length : Int)) ∨ ¬ ((laidN b : Int) < 64) := by unfold laidN; omega
      rcases t1 with t1 | t1
      · go_wp2
        go_ret
        exact ⟨_, rfl, hD, hB⟩
      · by_cases t2 : (laidN b : Int) * 64 + 64 ≤ (b.length : Int)
        all_goals
          go_wp2
          go_ret
          exact ⟨_, rfl, hD, hB⟩
end Go.Proofs.Ytekhmkfiepnnkaa

/- What a call's argument reads as, opened kind by kind: numbers, bools, strings, slices and structs of them, with the sizes that the row's weights give. -/
set_option linter.unusedVariables false
set_option linter.unusedSimpArgs false
namespace Go.Proofs.Ytekhmkfiepnnkaa
open Go.RowKit Go.Proofs.YtekhmkfiepnnkaaW.PrintWords

/-- A value of type t, where it is read, is of kind K and obeys G. -/
structure Opens (P : Program) (t : TypeId) {α : Type} (K : Kd α) (G : α → Prop) : Prop where
  go : ∀ {H : Type} {enc : TypeId × Value → H} {W : World} {base : Nat} {spare : Nat → Bool} {held : Bool} {fuel : Nat} {cs : List Value} {d : DataW H} {ps : List MemPlace},
    DataW.trod enc P W base spare held fuel t cs = some (d, ps) → (∀ n ∈ d.weights P t, n ≤ reachBytes) → ∃ x, K.K W x cs ∧ G x
/-- The same of a struct's fields, from the offset off on. -/
structure OpensF (P : Program) (fs : List Field) (off : Nat) {α : Type} (K : Kd α) (G : α → Prop) : Prop where
  go : ∀ {H : Type} {enc : TypeId × Value → H} {W : World} {base : Nat} {spare : Nat → Bool} {held : Bool} {fuel : Nat} {cs : List Value} {xs : List (DataW H × List MemPlace)},
    cs.length = off + K.sz → xs.length = fs.length → (∀ (i : Nat) (f : Field), fs[i]? = some f → DataW.trod enc P W base spare held fuel f.type ((cs.drop f.offset).take (P.cellsOf f.type)) = xs[i]?) →
    (∀ n ∈ DataW.weightsEach P (fs.map (·.type)) (xs.map (·.1)), n ≤ reachBytes) → ∃ x, K.K W x (cs.drop off) ∧ G x

section
variable {P : Program} {t e : TypeId}

theorem opens_int {k : IntKind} (ht : P.underlying t = some (.int k)) : Opens P t (Kd.int k) (fun n => (Lit.int k n).wf = true) := by
  constructor
  intro H enc W base spare held fuel cs d ps h _
  obtain ⟨n, rfl, _, hw⟩ := DataW.trod_int ht h
  exact ⟨n, rfl, hw⟩
theorem opens_bool (ht : P.underlying t = some .bool) : Opens P t Kd.bool (fun _ => True) := by
  constructor
  intro H enc W base spare held fuel cs d ps h _
  obtain ⟨n, rfl, _⟩ := DataW.trod_bool ht h
  exact ⟨n, rfl, trivial⟩
theorem opens_string (ht : P.underlying t = some .string) : Opens P t Kd.string (fun s => s.size ≤ 140737488351232) := by
  constructor
  intro H enc W base spare held fuel cs d ps h hw
  obtain ⟨s, rfl, hx, _⟩ := DataW.trod_string ht h
  obtain ⟨rfl, _⟩ := Prod.mk.inj hx
  refine ⟨s, rfl, ?_⟩
  have := hw s.data.toList.length (by simp [DataW.weights])
  rw [Array.length_toList] at this
  exact this
theorem weightsAll_mem {H : Type} {ds : List (DataW H)} {d : DataW H} (hd : d ∈ ds) {n : Nat} (hn : n ∈ d.weights P e) : n ∈ DataW.weightsAll P e ds := by
  induction ds with
  | nil => simp at hd
  | cons a r ih =>
    simp only [DataW.weightsAll, List.mem_append]
    rcases List.mem_cons.1 hd with rfl | hd
    · exact .inl hn
    · exact .inr (ih hd)
theorem opens_slice {α : Type} {K : Kd α} {G : α → Prop} {B : Nat} (ht : P.underlying t = some (.slice e)) (hc : P.cellsOf e = K.sz) (hB : P.bytesOf e = B) (hO : Opens P e K G) :
    Opens P t (Kd.slice e K) (fun xs => (∀ x ∈ xs, G x) ∧ xs.length * B ≤ 140737488351232) := by
  constructor
  intro H enc W base spare held fuel cs d ps h hw
  rcases Go.Deep.open_slice ht h with ⟨rfl, hx⟩ | ⟨a, len, cap, m, n, D, Pl, rfl, _, hl, hm, hmm, hx, hel⟩
  · exact ⟨[], ⟨none, 0, rfl, Nat.le_refl _, rfl, by simp, fun h => absurd h (by simp)⟩, by simp, by simp⟩
  · obtain ⟨rfl, _⟩ := Prod.mk.inj hx
    have hlm : len ≤ m := by rw [hmm]; split <;> omega
    have one : ∀ i, i < len → ∃ x, (∃ cs', W.cells? base (a.add (i * P.cellsOf e)) (P.cellsOf e) = some cs' ∧ K.K W x cs') ∧ G x := fun i hi => by
      obtain ⟨cs', h1, h2⟩ := hel i (by omega)
      obtain ⟨x, hk, hg⟩ := hO.go h2 (fun n hn => hw n (by
        simp only [DataW.weights, ht]
        exact List.mem_cons_of_mem _ (List.mem_append_left _ (weightsAll_mem (List.mem_map.2 ⟨i, List.mem_range.2 hi, rfl⟩) hn))))
      exact ⟨x, ⟨cs', h1, hk⟩, hg⟩
    rcases Nat.eq_zero_or_pos len with h0 | h0
    · subst h0
      exact ⟨[], ⟨some a, cap, rfl, Nat.zero_le _, rfl, by simp, fun h => absurd h (by simp)⟩, by simp, by simp⟩
    · obtain ⟨x0, _⟩ := one 0 h0
      haveI : Inhabited α := ⟨x0⟩
      obtain ⟨X, hX⟩ := Go.Deep.choose_lt (α := α) (p := fun i x => (∃ cs', W.cells? base (a.add (i * P.cellsOf e)) (P.cellsOf e) = some cs' ∧ K.K W x cs') ∧ G x) one
      have hlen : ((List.range len).map X).length = len := by simp
      refine ⟨(List.range len).map X, ⟨some a, cap, by rw [hlen], by rw [hlen]; exact hl, hlen.symm ▸ rfl, ?_, ?_⟩, ?_, ?_⟩
      · rw [hlen]; exact Nat.le_trans hl (Nat.le_trans hm (by decide))
      · intro _
        refine ⟨a, rfl, fun j p hj => ?_⟩
        have hjl : j < len := by
          have := (List.getElem?_eq_some_iff.1 hj).1
          simpa using this
        have hp : X j = p := by simpa [hjl] using hj
        obtain ⟨⟨cs', h1, hk⟩, _⟩ := hX j hjl
        rw [← hp]
        refine ⟨cs', K.K_len hk, hk, fun i u hu => ?_⟩
        obtain ⟨_, hlen', hcell⟩ := World.cells?_some h1
        have := hcell i (by have := (List.getElem?_eq_some_iff.1 hu).1; omega)
        rw [Go.Deep.add_add, hc] at this
        rw [this, hu]
      · intro x hx
        obtain ⟨i, hi, rfl⟩ := List.mem_map.1 hx
        exact (hX i (List.mem_range.1 hi)).2
      · have := hw ((((List.range len).map D).length + ((List.range (m - len)).map fun j => D (len + j)).length) * P.bytesOf e) (by simp [DataW.weights, ht])
        rw [hB] at this
        simp only [List.length_map, List.length_range] at this ⊢
        exact Nat.le_trans (Nat.mul_le_mul_right _ (by omega)) this
theorem opensF_one {α : Type} {K : Kd α} {G : α → Prop} {f : Field} {off : Nat} (ho : f.offset = off) (hc : P.cellsOf f.type = K.sz) (hO : Opens P f.type K G) : OpensF P [f] off K G := by
  constructor
  intro H enc W base spare held fuel cs xs hcs hxs hf hw
  match xs, hxs with
  | [(d, ps)], _ =>
    have h := hf 0 f rfl
    have e0 : ((cs.drop f.offset).take (P.cellsOf f.type)) = cs.drop off := by
      rw [ho, hc]; exact List.take_of_length_le (by rw [List.length_drop]; omega)
    rw [e0] at h
    exact hO.go h (fun n hn => hw n (by simpa [DataW.weightsEach] using hn))
theorem opensF_cons {α β : Type} {K : Kd α} {L : Kd β} {G : α → Prop} {G' : β → Prop} {f : Field} {fs : List Field} {off : Nat} (ho : f.offset = off) (hc : P.cellsOf f.type = K.sz) (hO : Opens P f.type K G)
    (hF : OpensF P fs (off + K.sz) L G') : OpensF P (f :: fs) off (Kd.pair K L) (fun x => G x.1 ∧ G' x.2) := by
  constructor
  intro H enc W base spare held fuel cs xs hcs hxs hf hw
  match xs, hxs with
  | (d, ps) :: xs, hxs =>
    have hcs' : cs.length = off + (K.sz + L.sz) := hcs
    have h := hf 0 f rfl
    rw [ho, hc] at h
    obtain ⟨x, hk, hg⟩ := hO.go h (fun n hn => hw n (by simp only [List.map_cons, DataW.weightsEach, List.mem_append]; exact .inl hn))
    obtain ⟨y, hl, hg'⟩ := hF.go (cs := cs) (xs := xs) (by omega) (by simpa using hxs) (fun i g hi => by simpa using hf (i + 1) g (by simpa using hi)) (fun n hn => hw n (by simp only [List.map_cons, DataW.weightsEach, List.mem_append]; exact .inr hn))
    refine ⟨(x, y), ⟨(cs.drop off).take K.sz, cs.drop (off + K.sz), ?_, hk, hl⟩, hg, hg'⟩
    rw [← List.drop_drop, List.take_append_drop]
theorem opens_struct {α : Type} {K : Kd α} {G : α → Prop} {fs : Array Field} (ht : P.underlying t = some (.struct fs)) (hc : P.cellsOf t = K.sz) (hF : OpensF P fs.toList 0 K G) : Opens P t K G := by
  constructor
  intro H enc W base spare held fuel cs d ps h hw
  obtain ⟨xs, n, rfl, hx, hcs, hxs, hf⟩ := DataW.trod_struct ht h
  obtain ⟨rfl, _⟩ := Prod.mk.inj hx
  have := hF.go (enc := enc) (W := W) (base := base) (spare := spare) (held := held) (fuel := n) (cs := cs) (xs := xs) (by omega) (by simpa using hxs) (fun i f hi => hf i f (by simpa using hi))
    (fun n hn => hw n (by simpa [DataW.weights, ht] using hn))
  simpa using this
theorem opens_iso {α β : Type} {K : Kd α} {G : α → Prop} (f : β → α) (g : α → β) (hfg : ∀ x, f (g x) = x) (h : Opens P t K G) : Opens P t (Kd.iso K f) (fun x => G (f x)) := by
  constructor
  intro H enc W base spare held fuel cs d ps hd hw
  obtain ⟨x, hk, hx⟩ := h.go hd hw
  refine ⟨g x, ?_, by show G (f (g x)); rw [hfg]; exact hx⟩
  show K.K W (f (g x)) cs
  rw [hfg]; exact hk
theorem Opens.mono {α : Type} {K : Kd α} {G G' : α → Prop} (h : Opens P t K G) (hG : ∀ x, G x → G' x) : Opens P t K G' := ⟨fun hd hw => by
  obtain ⟨x, hk, hx⟩ := h.go hd hw
  exact ⟨x, hk, hG x hx⟩⟩
/-- Down from a row's weights. -/
theorem Opens.arg {α : Type} {K : Kd α} {G : α → Prop} (hO : Opens P t K G) {H : Type} {enc : TypeId × Value → H} {W : World} {base : Nat} {spare : Nat → Bool} {held : Bool} {v : Value} {d : DataW H} {ps : List MemPlace} {ts : List TypeId} {ds : List (DataW H)} {j : Nat}
    (hsz : (DataW.weightsEach P ts ds).all (· ≤ reachBytes) = true) (ht : ts[j]? = some t) (hd : ds[j]? = some d) (h : DataW.Trod enc P W base spare held t v d ps) : ∃ x, K.K W x v.cells.toList ∧ G x := by
  obtain ⟨fuel, hf⟩ := h
  exact hO.go hf (fun n hn => by
    have := List.all_eq_true.1 hsz _ (DataW.weights_mem_each ht hd n hn)
    simpa using this)
/-- .. of a slice. -/
theorem opens_slice_arg {α : Type} {K : Kd α} {G : List α → Prop} (hO : Opens P t (Kd.slice e K) G) {H : Type} {enc : TypeId × Value → H} {W : World} {base : Nat} {spare : Nat → Bool} {held : Bool} {a : Option Addr} {len cap : Nat} {d : DataW H} {ps : List MemPlace} {ts : List TypeId} {ds : List (DataW H)} {j : Nat}
    (hsz : (DataW.weightsEach P ts ds).all (· ≤ reachBytes) = true) (ht : ts[j]? = some t) (hd : ds[j]? = some d) (h : DataW.Trod enc P W base spare held t (.slice a len cap) d ps) : ∃ xs, len = xs.length ∧ len ≤ cap ∧ K.C W a xs.length xs ∧ G xs := by
  obtain ⟨xs, ⟨A, c, hcs, hl, hC⟩, hg⟩ := hO.arg hsz ht hd h
  simp [Value.cells] at hcs
  obtain ⟨rfl, rfl, rfl⟩ := hcs
  exact ⟨xs, rfl, hl, hC, hg⟩
end
end Go.Proofs.Ytekhmkfiepnnkaa

/- Arguments of chapter 22's statements, opened. -/
set_option linter.unusedVariables false
set_option linter.unusedSimpArgs false
namespace Go.Proofs.Ytekhmkfiepnnkaa
open Go.RowKit Go.Proofs.YtekhmkfiepnnkaaW.PrintWords

theorem opens_bytes : Opens Try.prog 22 (Kd.slice 5 KB) (fun xs => Bytes xs ∧ xs.length ≤ 140737488351232) :=
  (opens_slice Try.underlying22 (by kernel_rfl) (B := 1) (by kernel_rfl) (opens_int Try.underlying5)).mono fun _ h => ⟨fun x hx => by have := bounds_u8 (h.1 x hx); omega, by have := h.2; omega⟩
end Go.Proofs.Ytekhmkfiepnnkaa

/- A record of the document as memory has it. -/
set_option linter.unusedVariables false
set_option linter.unusedSimpArgs false
namespace Go.Proofs.Ytekhmkfiepnnkaa
open Go.RowKit Go.Proofs.YtekhmkfiepnnkaaW.PrintWords

structure SR.ok (r : SR) : Prop where
  g : 0 ≤ r.gen ∧ r.gen < 18446744073709551616
  a : -9223372036854775808 ≤ r.at_ ∧ r.at_ ≤ 9223372036854775807
  k : -9223372036854775808 ≤ r.kind ∧ r.kind ≤ 9223372036854775807
  b : Bytes r.bytes
  l : r.bytes.length ≤ 140737488351232
abbrev KRec : Kd SR := Kd.iso (Kd.pair (Kd.int .u64) (Kd.pair (Kd.int .i64) (Kd.pair (Kd.int .i64) (Kd.slice 5 KB)))) (fun x : SR => (x.gen, x.at_, x.kind, x.bytes))
def SR.cells (o : SR) (A : Option Addr) (c : Nat) : List Value := [.int .u64 o.gen, .int .i64 o.at_, .int .i64 o.kind, .slice A o.bytes.length c]
theorem KRec_open {w : World} {o : SR} {cs : List Value} (h : KRec.K w o cs) : ∃ A c, cs = o.cells A c ∧ o.bytes.length ≤ c ∧ KB.C w A o.bytes.length o.bytes := by
  obtain ⟨c0, cs1, rfl, h0, c1, cs2, rfl, h1, c2, c3, rfl, h2, A, c, h3, hl, hC⟩ := h
  obtain rfl : c0 = [.int .u64 o.gen] := h0
  obtain rfl : c1 = [.int .i64 o.at_] := h1
  obtain rfl : c2 = [.int .i64 o.kind] := h2
  subst h3
  exact ⟨A, c, rfl, hl, hC⟩
theorem add_add' (a : Addr) (i j : Nat) : (a.add i).add j = a.add (i + j) := by
  unfold Addr.add
  by_cases e1 : i = 0 <;> by_cases e2 : j = 0 <;> simp [e1, e2, Nat.add_assoc]
theorem rec_at {w : World} {ad : Addr} {l : List SR} (h : KRec.C w (some ad) l.length l) {i : Nat} (hi : i < l.length) :
    ∃ A c, (∀ j v, (l[i].cells A c)[j]? = some v → w.cell? ((ad.add (i * 4)).add j) = some v) ∧ l[i].bytes.length ≤ c ∧ KB.C w A l[i].bytes.length l[i].bytes := by
  obtain ⟨ad', cs, hA, hcs, hK, hcell⟩ := Kd.C_get h ⟨0, 0, 0, []⟩ (i : Int) (by omega) (by omega)
  injection hA with hA
  subst hA
  simp only [Int.toNat_natCast] at hK hcell
  have hget : l.getD i ⟨0, 0, 0, []⟩ = l[i] := by simp [List.getD_eq_getElem?_getD, hi]
  rw [hget] at hK
  obtain ⟨A, c, rfl, hl, hC⟩ := KRec_open hK
  refine ⟨A, c, fun j v hj => ?_, hl, hC⟩
  have h3 := hcell j v hj
  rw [add_add']
  exact h3
theorem opens_rec : Opens Try.prog 28 KRec SR.ok := by
  refine (opens_iso (P := Try.prog) (t := 28) (fun x : SR => (x.gen, x.at_, x.kind, x.bytes)) (fun p => ⟨p.1, p.2.1, p.2.2.1, p.2.2.2⟩) (fun _ => rfl)
    (opens_struct Try.underlying28 (by kernel_rfl) (opensF_cons rfl (by kernel_rfl) (opens_int Try.underlying23) (opensF_cons rfl (by kernel_rfl) (opens_int Try.underlying3) (opensF_cons rfl (by kernel_rfl) (opens_int Try.underlying3)
      (opensF_one rfl (by kernel_rfl) opens_bytes)))))).mono ?_
  rintro o ⟨h0, h1, h2, h3⟩
  have b0 := bounds_u64 h0
  have b1 := bounds_i64 h1
  have b2 := bounds_i64 h2
  exact ⟨by omega, b1, b2, h3.1, h3.2⟩
theorem opens_recs : Opens Try.prog 36 (Kd.slice 28 KRec) (fun xs => (∀ x ∈ xs, x.ok) ∧ xs.length * 48 ≤ 140737488351232) :=
  opens_slice Try.underlying36 (by kernel_rfl) (by kernel_rfl) opens_rec
end Go.Proofs.Ytekhmkfiepnnkaa

/- Package foundrylaw22: SealGen. -/
set_option linter.unusedVariables false
set_option linter.unusedSimpArgs false
namespace Go.Proofs.Ytekhmkfiepnnkaa
open Go.RowKit Go.Proofs.YtekhmkfiepnnkaaW.PrintWords Go.Proofs.YtekhmkfiepnnkaaW.PrintMore

/-! ### The plain law -/
/-- What the disk is like: from block 1 on no generation above M; block 0 has none. -/
structure GI (D : DM) (M : Int) : Prop where
  on : On64 D
  M0 : 0 ≤ M
  le : ∀ j, 1 ≤ j → j < 64 → (headR (D.blk j)).gen ≤ M ∧ (bodyV (D.blk j)).1 ≤ M
  z : (headR (D.blk 0)).gen = 0 ∧ (bodyV (D.blk 0)).1 = 0
theorem new_blk {n j : Nat} (hj : j < n) : (DM.new n).blk j = List.replicate 64 0 := by
  unfold DM.blk DM.new
  simp only [List.drop_replicate, List.take_replicate]
  congr 1
  omega
theorem zero_gen : (headR (List.replicate 64 0)).gen = 0 ∧ (bodyV (List.replicate 64 0)).1 = 0 := by decide +kernel
theorem gi_start : GI (DM.new 64) 0 := by
  have hz : ∀ j, j < 64 → (headR ((DM.new 64).blk j)).gen = 0 ∧ (bodyV ((DM.new 64).blk j)).1 = 0 := fun j hj => by rw [new_blk hj]; exact zero_gen
  exact ⟨⟨new_wf (by omega) (by omega), rfl, rfl, new_n 64⟩, Int.le_refl _, fun j _ h => by have := hz j h; omega, hz 0 (by omega)⟩
/-- Write at a place: it fails and does nothing, or all is done. -/
theorem sealW_on {D : DM} (ho : On64 D) {r : SR} (hb : Bytes r.bytes) (hg : 0 ≤ r.gen ∧ r.gen < 18446744073709551616) (base : Nat) :
    (¬ (D.sealW base r).2 = 0 ∧ (D.sealW base r).1 = D) ∨ ((D.sealW base r).2 = 0 ∧ r.right ∧ (base : Int) + r.at_ + bodies r < 64 ∧ Sealed D (D.sealW base r).1 ((base : Int) + r.at_).toNat (bodies r + 1) r) := by
  by_cases he : sealE r = 0
  · have hr := right_of he hg hb
    have hnd := need_bodies hr.l
    have hn := ho.n
    by_cases hx : (base : Int) < 0 ∨ (D.n : Int) < base ∨ (D.n : Int) - base < r.at_ + need r.bytes.length
    · refine .inl ?_
      unfold DM.sealW
      rw [if_neg (by simp [he]), if_pos hx]
      exact ⟨by simp, rfl⟩
    · have h1 := hr.a
      have hbb : (base : Int) + r.at_ = ((((base : Int) + r.at_).toNat : Nat) : Int) := by omega
      obtain ⟨e1, e2⟩ := sealW_right ho.wf ho.gone hr hbb (by omega) (by omega) (by omega)
      have hd : done_ D.left (bodies r + 1) = bodies r + 1 := by unfold done_; rw [if_pos (by rw [ho.left]; omega)]
      rw [hd] at e1 e2
      rw [if_neg (by omega)] at e1
      exact .inr ⟨e1, hr, by omega, e2⟩
  · refine .inl ?_
    unfold DM.sealW
    rw [if_pos he]
    exact ⟨he, rfl⟩
theorem Sealed.on {D D' : DM} {b : Nat} {r : SR} (h : Sealed D D' b (bodies r + 1) r) (ho : On64 D) : On64 D' :=
  ⟨h.wf, by rw [h.gone]; simp, by rw [h.left, if_pos (by rw [ho.left]; omega)]; exact ho.left, h.n.trans ho.n⟩
theorem Sealed.wsLen {D D' : DM} {b : Nat} {r : SR} (h : Sealed D D' b (bodies r + 1) r) : D'.ws.length = D.ws.length + (bodies r + 1) := by
  rw [h.ws, List.length_append, List.length_map, List.length_take, order_len, Nat.min_self]
theorem genM_64 {D : DM} (ho : On64 D) : genM D 1 64 = genK D 1 63 ∧ regE D 1 64 = 0 ∧ genM D 0 1 = genK D 0 1 ∧ regE D 0 1 = 0 := by
  have h1 : regE D 1 64 = 0 := by unfold regE; rw [if_neg (by rw [ho.n]; omega), if_neg (by rw [ho.gone]; simp)]
  have h2 : regE D 0 1 = 0 := by unfold regE; rw [if_neg (by rw [ho.n]; omega), if_neg (by rw [ho.gone]; simp)]
  refine ⟨by unfold genM; rw [if_pos h1]; rfl, h1, by unfold genM; rw [if_pos h2]; rfl, h2⟩
theorem gi_gen0 {D : DM} {M : Int} (h : GI D M) : genM D 0 1 = 0 := by
  rw [(genM_64 h.on).2.2.1]
  simp only [genK]
  have := h.z
  simp only [Nat.add_zero]
  omega
theorem gi_done {D D' : DM} {M : Int} (h : GI D M) {r : SR} (hr : r.right) (hS : Sealed D D' 1 (bodies r + 1) r) (hfit : 1 + bodies r < 64) :
    GI D' (max M r.gen) ∧ r.gen ≤ genM D' 1 64 ∧ genM D' 1 64 ≤ max M r.gen := by
  have hle : ∀ j, 1 ≤ j → j < 64 → (headR (D'.blk j)).gen ≤ max M r.gen ∧ (bodyV (D'.blk j)).1 ≤ max M r.gen := by
    intro j h1 h2
    have hg := hr.g
    rw [hS.blk]
    unfold sealedB
    by_cases h3 : j = 1
    · rw [if_pos ⟨rfl, h3⟩, head_R hr, head_bodyV]
      dsimp only
      omega
    · rw [if_neg (fun hh => h3 hh.2)]
      by_cases h4 : 1 < j ∧ j ≤ 1 + min (bodies r + 1) (bodies r)
      · have := bodies_le hr
        rw [if_pos h4, (body_headR r _).1, body_V hr (by omega) (by omega)]
        dsimp only
        omega
      · rw [if_neg h4]
        have := h.le j h1 h2
        omega
  have hon := hS.on h.on
  have hgm := (genM_64 hon).1
  have hM := h.M0
  refine ⟨⟨hon, by omega, hle, ?_⟩, ?_, ?_⟩
  · rw [hS.blk]
    unfold sealedB
    rw [if_neg (by omega), if_neg (by omega)]
    exact h.z
  · rw [hgm]
    have := (genK_ge (D := D') (b0 := 1) 63 0 (by omega)).1
    rw [hS.blk] at this
    unfold sealedB at this
    rw [if_pos ⟨rfl, rfl⟩, head_R hr] at this
    exact this
  · rw [hgm]
    exact genK_le (by omega) 63 (fun i hi => hle (1 + i) (by omega) (by omega))
def SR.at0 (r : SR) : SR := ⟨r.gen, 0, r.kind, r.bytes⟩
theorem gi_write {D : DM} {M : Int} (h : GI D M) {r : SR} (hb : Bytes r.bytes) (hg : 0 ≤ r.gen ∧ r.gen < 18446744073709551616) :
    (¬ (D.sealW 1 r.at0).2 = 0 ∧ (D.sealW 1 r.at0).1 = D) ∨
    ((D.sealW 1 r.at0).2 = 0 ∧ GI (D.sealW 1 r.at0).1 (max M r.gen) ∧ r.gen ≤ genM (D.sealW 1 r.at0).1 1 64 ∧ genM (D.sealW 1 r.at0).1 1 64 ≤ max M r.gen ∧ (D.sealW 1 r.at0).1.ws.length ≤ D.ws.length + 64) := by
  rcases sealW_on h.on (r := r.at0) hb hg 1 with h1 | ⟨h1, hr, hf, hS⟩
  · exact .inl h1
  · have e : (((1 : Nat) : Int) + r.at0.at_).toNat = 1 := rfl
    rw [e] at hS
    have hf' : 1 + bodies r.at0 < 64 := by
      have : r.at0.at_ = 0 := rfl
      omega
    obtain ⟨a1, a2, a3⟩ := gi_done h hr hS hf'
    exact .inr ⟨h1, a1, a2, a3, by have := hS.wsLen; simp only [Int.natCast_one] at this ⊢; omega⟩
end Go.Proofs.Ytekhmkfiepnnkaa
