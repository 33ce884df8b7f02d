/- Head: of package seal and of the document. Printed by wip/tools/gen_sealh.py. -/
import Derived.Test.YtekhmkfiepnnkaaSealG
import Derived.Test.YtekhmkfiepnnkaaRowStep
set_option linter.unusedVariables false
set_option linter.unusedSimpArgs false
namespace Go.Proofs.Ytekhmkfiepnnkaa
open Go.RowKit Go.Proofs.YtekhmkfiepnnkaaW.PrintWords Go.Proofs.YtekhmkfiepnnkaaW.PrintMore
attribute [local go_sem] min_two

theorem wp_region_eq {P : Program} {c : Code} {Q : Exit → Act → World → Prop} {a af : Act} {w Wf : World} (h : c.wp P (fun e a w => e = .normal ∧ a = af ∧ w = Wf) a w) (hQ : Q .normal af Wf) : c.wp P Q a w :=
  Code.wp_mono (fun e a w h => by obtain ⟨rfl, rfl, rfl⟩ := h; exact hQ) h
/-- How many bytes a head has. -/
def headM (b : List Int) : Nat := min (numAt b 13 4).toNat 47
def headOK (b : List Int) : Prop := b.length = 64 ∧ b.take 2 = [102, 104] ∧ ¬ numAt b 2 8 = 0 ∧ numAt b 13 4 ≤ 131072 ∧ blank (b.drop (17 + headM b)) = true
instance (b : List Int) : Decidable (headOK b) := by unfold headOK; infer_instance
def headR (b : List Int) : SR := if headOK b then ⟨numAt b 2 8, numAt b 10 2, b.getD 12 0, (b.drop 17).take (headM b)⟩ else ⟨0, 0, 0, []⟩
def headN (b : List Int) : Int := if headOK b then numAt b 13 4 else 0
theorem head_no {b : List Int} (h : ¬ headOK b) : headR b = ⟨0, 0, 0, []⟩ ∧ headN b = 0 ∧ decide (headOK b) = false := by unfold headR headN; rw [if_neg h, if_neg h]; exact ⟨rfl, rfl, by simpa using h⟩
/-- What Head hands back. -/
def HeadPost (b : List Int) (w : World) (e : Ending) (w' : World) : Prop :=
  ∃ A c, e = .returned (.tuple #[recV (headR b) A c, .int .i64 (headN b), .bool (decide (headOK b))]) ∧ KB.R 5 w' w.heap.size (fun k => w.heap.size ≤ k) (.slice A (headR b).bytes.length c) (headR b).bytes ∧ (headR b).bytes.length ≤ c ∧ Below w.heap.size w w'
theorem RB_nil (w : World) (ok : Nat → Prop) (c : Nat) : RB w ok none [] := fun W' _ => Kd.C_of_reads (enc := Value.int .u8) (d := (0 : Int)) (h1 := fun _ => rfl) ⟨rfl, by simp, fun h => absurd h (by simp)⟩
theorem head_none {b : List Int} {w w' : World} {v : Value} (h : ¬ headOK b) (hv : v = .tuple #[.agg #[.int .u64 0, .int .i64 0, .int .i64 0, .slice none 0 0], .int .i64 0, .bool false]) (hB : Below w.heap.size w w') : HeadPost b w (.returned v) w' := by
  obtain ⟨e1, e2, e3⟩ := head_no h
  refine ⟨none, 0, ?_, ?_, ?_, hB⟩
  · rw [e1, e2, e3, hv]; rfl
  · rw [e1]; exact Kd.R_nil _ _ _ _ _
  · rw [e1]; simp
theorem blank_tail {w W' : World} {ok : Nat → Prop} {a : Addr} {b : List Int} {c m : Nat} (h : RB w ok (some a) b) (hW : Below w.heap.size w W') (h64 : b.length = 64) (hm : m ≤ 64) (hc : 64 ≤ c) :
    Calls Try.prog 60 #[.slice (behind (some a) m c) (64 - m) (c - m)] W' fun e w' => e = .returned (.bool (blank (b.drop m))) ∧ w' = W' := by
  have h2 := RB_drop h (n := m) (by omega) (by omega : b.length ≤ c)
  have hl : (b.drop m).length = 64 - m := by rw [List.length_drop, h64]
  have h3 := blank_any (c := c - m) (Kd.F_now (RB_below h2 hW))
  rw [hl] at h3
  exact h3
theorem blk_size_lt {w w1 : World} {k : Nat} (h : w1.heap[k]? = w.heap[k]?) (hk : k < w.heap.size) : k < w1.heap.size := by
  rw [Array.getElem?_eq_getElem hk] at h
  exact (Array.getElem?_eq_some_iff.1 h).1
abbrev W4s (w : World) (n : Nat) (v0 v1 v2 v3 : Value) : World := (((w.setCell ⟨n, 0, none⟩ v0).setCell ⟨n, 1, none⟩ v1).setCell ⟨n, 2, none⟩ v2).setCell ⟨n, 3, none⟩ v3
theorem set4 {w : World} {n T : Nat} {a0 a1 a2 a3 : Value} (h : w.heap[n]? = some (.cells #[a0, a1, a2, a3] T (0, 0))) (v0 v1 v2 v3 : Value) : (W4s w n v0 v1 v2 v3).heap[n]? = some (.cells #[v0, v1, v2, v3] T (0, 0)) := by
  have h1 := heap_setCell_same w n 0 _ _ v0 h
  have h2 := heap_setCell_same _ n 1 _ _ v1 h1
  have h3 := heap_setCell_same _ n 2 _ _ v2 h2
  have h4 := heap_setCell_same _ n 3 _ _ v3 h3
  exact h4
theorem below4 {B : Nat} {w0 w : World} (h : Below B w0 w) {n : Nat} (hn : B ≤ n) (v0 v1 v2 v3 : Value) : Below B w0 (W4s w n v0 v1 v2 v3) := (((h.setCell (p := ⟨n, 0, none⟩) hn v0).setCell (p := ⟨n, 1, none⟩) hn v1).setCell (p := ⟨n, 2, none⟩) hn v2).setCell (p := ⟨n, 3, none⟩) hn v3
set_option maxRecDepth 100000 in
set_option maxHeartbeats 4000000 in
theorem head_any {w : World} {ok : Nat → Prop} {A : Option Addr} {c : Nat} {b : List Int} (h : RB w ok A b) (hb : Bytes b) (hc : b.length ≤ c) :
  Calls Try.prog 14 #[.slice A b.length c] w (HeadPost b w) := by
  have hlm := RB_len h
  obtain ⟨w0, hw0⟩ : ∃ w0, w.alloc (.cells #[.int .u64 0, .int .i64 0, .int .i64 0, .slice none 0 0] 25) = w0 := ⟨_, rfl⟩
  have hfin : Below w.heap.size w w0 := by rw [← hw0]; exact below_alloc (Below.refl _ _) _
  by_cases h64 : b.length = 64
  · obtain ⟨a, rfl⟩ := RB_some h (by omega)
    have hp2 : RB w ok (some a) (b.take 2) := RB_take h (by omega)
    have hcv : (convert 22 9 (.slice (some a) 2 c)).run Try.prog w0 = .ok (.string (strOfNums (b.take 2))) w0 := by
      have := conv_str (c := c) (Kd.F_now (RB_below hp2 hfin))
      rwa [show (b.take 2).length = 2 from by rw [List.length_take]; omega] at this
    have hs := str_iff (hb.take 2) (show Bytes [102, 104] from fun x hx => by simp at hx; omega)
    rw [show strOfNums [102, 104] = ⟨#[102, 104]⟩ from rfl] at hs
    rw [h64] at hc ⊢
    have i2 : (2 : Int) ≤ (c : Int) := by omega
    by_cases ht : b.take 2 = [102, 104]
    · have hS := hs.2 ht
      rw [hS] at hcv
      clear hs hS
      have n17 : ¬ c = 17 := by omega
      have n13 : ¬ c = 13 := by omega
      have n2 : ¬ c = 2 := by omega
      have n10 : ¬ c = 10 := by omega
      have i10 : (10 : Int) ≤ (c : Int) := by omega
      have i12 : (12 : Int) ≤ (c : Int) := by omega
      have i17 : (17 : Int) ≤ (c : Int) := by omega
      have hR := RB_int h
      obtain ⟨ad, e0, k12⟩ := hR.at_ 12 (by omega) (by omega)
      cases e0
      simp only [rd, show (12 : Int).toNat = 12 from rfl] at k12
      have hx12 : 0 ≤ b.getD 12 0 ∧ b.getD 12 0 < 256 := hb.rd_ 12
      have c0 := number_part (RB_below h hfin) hb 13 4 (c - 13) (by omega) (by omega)
      have c1 : ∀ W', Below w.heap.size w W' → Calls Try.prog 59 #[.slice (some (a.add 2)) 8 (c - 2)] W' fun e w' => e = .returned (.int .u64 (numAt b 2 8)) ∧ w' = W' := fun W' hW => number_part (RB_below h hW) hb 2 8 (c - 2) (by omega) (by omega)
      have c2 : ∀ W', Below w.heap.size w W' → Calls Try.prog 59 #[.slice (some (a.add 10)) 2 (c - 10)] W' fun e w' => e = .returned (.int .u64 (numAt b 10 2)) ∧ w' = W' := fun W' hW => number_part (RB_below h hW) hb 10 2 (c - 10) (by omega) (by omega)
      have l0 := numAt_lt hb (i := 13) (n := 4) (by omega)
      have l1 := numAt_lt hb (i := 2) (n := 8) (by omega)
      have l2 := numAt_lt hb (i := 10) (n := 2) (by omega)
      rw [show (256 : Int) ^ 4 = 4294967296 from by decide] at l0
      rw [show (256 : Int) ^ 8 = 18446744073709551616 from by decide] at l1
      rw [show (256 : Int) ^ 2 = 65536 from by decide] at l2
      have hmm : min (numAt b 13 4) 47 = ((headM b : Nat) : Int) := by unfold headM; omega
      have hm47 : headM b ≤ 47 := by unfold headM; omega
      have hpart : RB w ok (some (a.add 17)) ((b.drop 17).take (headM b)) := part h (by omega)
      have hplen : ((b.drop 17).take (headM b)).length = headM b := part_len (by omega)
      have hbl : ∀ W', Below w.heap.size w W' → Calls Try.prog 60 #[.slice (behind (some a) (17 + headM b) c) (64 - (17 + headM b)) (c - (17 + headM b))] W' fun e w' => e = .returned (.bool (blank (b.drop (17 + headM b)))) ∧ w' = W' := fun W' hW => blank_tail h hW h64 (by omega) hc
      have hOK : headOK b ↔ ¬ numAt b 2 8 = 0 ∧ numAt b 13 4 ≤ 131072 ∧ blank (b.drop (17 + headM b)) = true := ⟨fun hh => hh.2.2, fun hh => ⟨h64, ht, hh⟩⟩
      have hRR : headOK b → HeadPost b w = fun e w' => ∃ A c, e = .returned (.tuple #[.agg #[.int .u64 (numAt b 2 8), .int .i64 (numAt b 10 2), .int .i64 (b.getD 12 0), .slice A (headM b) c], .int .i64 (numAt b 13 4), .bool true]) ∧ KB.R 5 w' w.heap.size (fun k => w.heap.size ≤ k) (.slice A (headM b) c) ((b.drop 17).take (headM b)) ∧ headM b ≤ c ∧ Below w.heap.size w w' := fun hh => by
        unfold HeadPost
        rw [show headR b = ⟨numAt b 2 8, numAt b 10 2, b.getD 12 0, (b.drop 17).take (headM b)⟩ from if_pos hh, show headN b = numAt b 13 4 from if_pos hh, show decide (headOK b) = true from decide_eq_true hh]
        unfold recV
        dsimp only
        rw [hplen]
      have HRR := hid hRR
      have HOK := hid hOK
      have HM := hid hmm
      clear hRR hOK hR hmm
      generalize hmq : headM b = m at HRR HOK HM hm47 hpart hplen hbl
      generalize numAt b 13 4 = nn at c0 l0 HRR HOK HM
      generalize numAt b 2 8 = g at c1 l1 HRR HOK
      generalize numAt b 10 2 = at_ at c2 l2 HRR HOK
      generalize b.getD 12 0 = x12 at k12 hx12 HRR
      generalize blank (b.drop (17 + m)) = bl at hbl HOK
      have u0 : IntKind.i64.wrap nn = nn := by rw [IntKind.wrap_i64]; omega
      have u2 : IntKind.i64.wrap at_ = at_ := by rw [IntKind.wrap_i64]; omega
      have u12 : IntKind.i64.wrap x12 = x12 := by rw [IntKind.wrap_i64]; omega
      go_enter Try.func14, Try.ntmps14
      go_wp2_with fail
      refine c0.mono ?_
      rintro e w1 ⟨rfl, hw1⟩
      subst hw1
      have hz : w1.heap[w.heap.size]? = some (.cells #[.int .u64 0, .int .i64 0, .int .i64 0, .slice none 0 0] 25 (0, 0)) := by rw [← hw0]; exact heap_alloc_new w _
      clear hw0 hcv c0
      have k12' : w.cell? { block := a.block, off := a.off + 12 } = some (.int .u8 x12) := by simpa [Addr.add] using k12
      have hS0 : Below w.heap.size w w1.drew := hfin.drew
      have hSa : ∀ o, Below w.heap.size w (w1.drew.alloc o) := fun o => hfin.drew.alloc hfin.drew.size o
      go_wp2_with fail
      apply wp_region_eq
      case h =>
        refine wp_region_plan [] (.take 0 (.take 1 (.take 3 (.take 4 (.take 7 (.take 8 (.take 9 (.take 10 (.both 2 (.both 5 (.take 6 (.take 11 (.run 12 (.run 13 .done)))) 12 (.run 5 (.take 6 (.take 11 (.run 13 .done))))) 12 (.run 2 (.run 5 (.take 6 (.take 11 (.run 13 .done)))))))))))))) (fun W' => Below w.heap.size w W') (by kernel_rfl) (by kernel_rfl) (fun c a d v w h => absurd h.1 (by simp)) hS0 ?_
        apply plan_take rfl rfl
        case hy => (intro w' hS; have e0 := pw_cell_below hS k12'; clear hS; go_simp; try exact rfl)
        go_simp
        apply plan_take rfl rfl
        case hy => (intro w' hS; have e0 := pw_cell_below hS k12'; clear hS; go_simp; try exact rfl)
        go_simp
        apply plan_take rfl rfl
        case hy => (intro w' hS; have e0 := pw_cell_below hS k12'; clear hS; go_simp; try exact rfl)
        go_simp
        apply plan_take rfl rfl
        case hy => (intro w' hS; have e0 := pw_cell_below hS k12'; clear hS; go_simp; try exact rfl)
        go_simp
        apply plan_take rfl rfl
        case hy => (intro w' hS; have e0 := pw_cell_below hS k12'; clear hS; go_simp; try exact rfl)
        go_simp
        apply plan_take rfl rfl
        case hy => (intro w' hS; have e0 := pw_cell_below hS k12'; clear hS; go_simp; try exact rfl)
        go_simp
        apply plan_take rfl rfl
        case hy => (intro w' hS; have e0 := pw_cell_below hS k12'; clear hS; go_simp; try exact rfl)
        go_simp
        apply plan_take rfl rfl
        case hy => (intro w' hS; have e0 := pw_cell_below hS k12'; clear hS; go_simp; try exact rfl)
        go_simp
        refine plan_both ?_ ?_
        · refine plan_run_on rfl rfl (fun K hK => ?_)
          go_simp
          refine (c1 _ hS0).mono ?_
          rintro e w2 ⟨rfl, rfl⟩
          refine hK _ _ _ (fun _ h => h) hS0 ?_
          clear hK K
          go_simp
          refine plan_both ?_ ?_
          · refine plan_run_on rfl rfl (fun K hK => ?_)
            go_simp
            refine (c2 _ hS0).mono ?_
            rintro e w2 ⟨rfl, rfl⟩
            refine hK _ _ _ (fun _ h => h) hS0 ?_
            clear hK K
            go_simp
            apply plan_take rfl rfl
            case hy => (intro w' hS; have e0 := pw_cell_below hS k12'; clear hS; go_simp; try exact rfl)
            go_simp
            apply plan_take rfl rfl
            case hy => (intro w' hS; have e0 := pw_cell_below hS k12'; clear hS; go_simp; try exact rfl)
            go_simp
            refine plan_run_on rfl rfl (fun K hK => ?_)
            go_simp
            refine hK _ _ _ (fun _ h => h) (hSa _) ?_
            clear hK K
            go_simp
            refine plan_run_on rfl rfl (fun K hK => ?_)
            go_simp
            refine hK _ _ _ (fun _ h => h) (hSa _) ?_
            clear hK K
            exact plan_done ⟨rfl, rfl, rfl⟩
          · refine plan_run_on rfl rfl (fun K hK => ?_)
            go_simp
            refine hK _ _ _ (fun _ h => h) (hSa _) ?_
            clear hK K
            go_simp
            refine plan_run_on rfl rfl (fun K hK => ?_)
            go_simp
            refine (c2 _ (hSa _)).mono ?_
            rintro e w2 ⟨rfl, rfl⟩
            refine hK _ _ _ (fun _ h => h) (hSa _) ?_
            clear hK K
            go_simp
            apply plan_take rfl rfl
            case hy => (intro w' hS; have e0 := pw_cell_below hS k12'; clear hS; go_simp; try exact rfl)
            go_simp
            apply plan_take rfl rfl
            case hy => (intro w' hS; have e0 := pw_cell_below hS k12'; clear hS; go_simp; try exact rfl)
            go_simp
            refine plan_run_on rfl rfl (fun K hK => ?_)
            go_simp
            refine hK _ _ _ (fun _ h => h) (hSa _) ?_
            clear hK K
            exact plan_done ⟨rfl, rfl, rfl⟩
        · refine plan_run_on rfl rfl (fun K hK => ?_)
          go_simp
          refine hK _ _ _ (fun _ h => h) (hSa _) ?_
          clear hK K
          go_simp
          refine plan_run_on rfl rfl (fun K hK => ?_)
          go_simp
          refine (c1 _ (hSa _)).mono ?_
          rintro e w2 ⟨rfl, rfl⟩
          refine hK _ _ _ (fun _ h => h) (hSa _) ?_
          clear hK K
          go_simp
          refine plan_run_on rfl rfl (fun K hK => ?_)
          go_simp
          refine (c2 _ (hSa _)).mono ?_
          rintro e w2 ⟨rfl, rfl⟩
          refine hK _ _ _ (fun _ h => h) (hSa _) ?_
          clear hK K
          go_simp
          apply plan_take rfl rfl
          case hy => (intro w' hS; have e0 := pw_cell_below hS k12'; clear hS; go_simp; try exact rfl)
          go_simp
          apply plan_take rfl rfl
          case hy => (intro w' hS; have e0 := pw_cell_below hS k12'; clear hS; go_simp; try exact rfl)
          go_simp
          refine plan_run_on rfl rfl (fun K hK => ?_)
          go_simp
          refine hK _ _ _ (fun _ h => h) (hSa _) ?_
          clear hK K
          exact plan_done ⟨rfl, rfl, rfl⟩
      case hQ =>
        have hr2 : ((w1.alloc (.cells #[.int .u64 g, .int .i64 at_, .int .i64 x12, .slice none 0 0] 25)).drew).heap[w1.heap.size]? = some (.cells #[.int .u64 g, .int .i64 at_, .int .i64 x12, .slice none 0 0] 25 (0, 0)) := heap_alloc_new w1 _
        have hz2 : ((w1.alloc (.cells #[.int .u64 g, .int .i64 at_, .int .i64 x12, .slice none 0 0] 25)).drew).heap[w.heap.size]? = some (.cells #[.int .u64 0, .int .i64 0, .int .i64 0, .slice none 0 0] 25 (0, 0)) := (Below.heap_alloc w1 _ w.heap.size (blk_lt hz)).trans hz
        have hB2 : Below w.heap.size w ((w1.alloc (.cells #[.int .u64 g, .int .i64 at_, .int .i64 x12, .slice none 0 0] 25)).drew) := (hfin.alloc hfin.size _).drew
        have hlt2 := blk_lt hz
        clear hS0 hSa hz c1 c2
        generalize (w1.alloc (.cells #[.int .u64 g, .int .i64 at_, .int .i64 x12, .slice none 0 0] 25)).drew = w2 at hr2 hz2 hB2 ⊢
        generalize w1.heap.size = rb at hr2 hlt2 ⊢
        clear hfin k12 k12'
        have q0 := cell_of_row _ _ 0 _ _ _ hr2
        have q3 := cell_of_row _ _ 3 _ _ _ hr2
        have hmin : Builtin.min2 (.int .i64 nn) (.int .i64 47) = pure (.int .i64 (m : Int)) := by
          have hmm := HM.out
          rw [min2_int, ← hmm]
          congr 2
          split <;> omega
        have htn : (17 + (m : Int)).toNat = 17 + m := by omega
        have him : (17 : Int) + (m : Int) ≤ 64 := by omega
        have him2 : (17 : Int) + (m : Int) ≤ (c : Int) := by omega
        have z0 := cell_of_row _ _ 0 _ _ _ hz2
        have z1 := cell_of_row _ _ 1 _ _ _ hz2
        have z2 := cell_of_row _ _ 2 _ _ _ hz2
        have z3 := cell_of_row _ _ 3 _ _ _ hz2
        have f0 := frozen_of_row _ _ 0 _ _ hz2
        have f1 := frozen_of_row _ _ 1 _ _ hz2
        have f2 := frozen_of_row _ _ 2 _ _ hz2
        have f3 := frozen_of_row _ _ 3 _ _ hz2
        by_cases hg : g = 0
        · have hno : ¬ headOK b := fun hh => (HOK.out.1 hh).1 hg
          subst hg
          go_wp2
          refine bodyPost_ret (results_ctt rfl _ _ w.heap.size 25 _ _ _ rfl (set4 hz2 (.int .u64 0) (.int .i64 0) (.int .i64 0) (.slice none 0 0)) Try.underlying25 rfl (by kernel_rfl)) rfl ?_
          exact head_none hno rfl (below4 hB2 (Nat.le_refl _) _ _ _ _)
        have hg2 : (g == 0) = false := by simpa using hg
        by_cases hn : 131072 < nn
        · have hno : ¬ headOK b := fun hh => by have := (HOK.out.1 hh).2.1; omega
          go_wp2
          refine bodyPost_ret (results_ctt rfl _ _ w.heap.size 25 _ _ _ rfl (set4 hz2 (.int .u64 0) (.int .i64 0) (.int .i64 0) (.slice none 0 0)) Try.underlying25 rfl (by kernel_rfl)) rfl ?_
          exact head_none hno rfl (below4 hB2 (Nat.le_refl _) _ _ _ _)
        have hbl2 := hbl w2 hB2
        have BL : ∀ (V : Value), V = .slice (behind (some a) (17 + m) c) (64 - (17 + m)) (c - (17 + m)) → Calls Try.prog 60 #[V] w2 fun e w' => e = .returned (.bool bl) ∧ w' = w2 := fun V e => by rw [e]; exact hbl2
        clear hbl hbl2
        by_cases hcm : c = 17 + m
        have hwm : IntKind.i64.wrap (17 + (m : Int)) = 17 + (m : Int) := by rw [IntKind.wrap_i64]; omega
        have h17 : (17 : Int) ≤ 17 + (m : Int) := by omega
        have h017 : (0 : Int) ≤ 17 + (m : Int) := by omega
        · have hm0 : ¬ m = 0 := by omega
          subst hcm
          go_wp2_with fail
          refine (BL _ ?_).mono ?_
          · unfold behind
            rw [if_pos rfl, Nat.sub_self, show 64 - (17 + m) = 0 from by omega]
          rintro e w3 ⟨rfl, rfl⟩
          clear BL
          have hlt3 : rb < w3.heap.size := blk_lt hr2
          cases bl with
          | false =>
            have hno : ¬ headOK b := fun hh => by have := (HOK.out.1 hh).2.2; cases this
            go_wp2
            refine bodyPost_ret (results_ctt rfl _ _ w.heap.size 25 _ _ _ rfl (set4 hz2 (.int .u64 0) (.int .i64 0) (.int .i64 0) (.slice none 0 0)) Try.underlying25 rfl (by kernel_rfl)) rfl ?_
            exact head_none hno rfl (below4 hB2 (Nat.le_refl _) _ _ _ _)
          | true =>
            have hh : headOK b := HOK.out.2 ⟨hg, by omega, rfl⟩
            have HP := hid (HRR.out hh)
            clear HRR HOK
            have hRm : ReadsInt w3.drew .u8 (some (a.add 17)) m ((b.drop 17).take m) := by
              have := RB_int (RB_below hpart hB2.drew)
              rwa [hplen] at this
            go_wp2_with fail
            refine wp_region_plan [7, 8] (.take 0 (.take 1 (.take 2 (.take 3 (.take 4 (.take 5 (.run 6 (.tail 7 (.tail 8 .done))))))))) (fun W' => W'.cell? ⟨rb, 3, none⟩ = some (.slice none 0 0)) (by kernel_rfl) (by kernel_rfl) (fun c a d v w h => by cases d <;> exact h) q3 ?_
            have hwm2 : IntKind.i64.wrap (17 + (m : Int)) = 17 + (m : Int) := by rw [IntKind.wrap_i64]; omega
            have h172 : (17 : Int) ≤ 17 + (m : Int) := by omega
            have h0172 : (0 : Int) ≤ 17 + (m : Int) := by omega
            have htn2 : (17 + (m : Int)).toNat = 17 + m := by omega
            iterate 6 (apply plan_take rfl rfl; (case hy => (intro w' hS; go_simp; try exact rfl)); go_simp)
            refine plan_run_on rfl rfl (fun K hK => ?_)
            refine step_append_row (w0 := w3.drew) w3.heap.size (.tmp 53) (.tmp 57) 22 5 .u8 1 rfl Try.underlying22 info_u8 (by decide) _ [] ((b.drop 17).take m) (some (a.add 17)) m m rfl rfl (World.ownsRow_nil _ _ _ _) hRm (Below.refl _ _) (Nat.le_refl _) (by simp; omega) ?_
            intro v1 w4 ho hB4 hg4 hat
            have hR4 : KB.R 5 w4 w3.heap.size (fun q => w3.heap.size ≤ q) v1 ((b.drop 17).take m) := Rown (by simpa using ho) (fun q hq => own_base ho q hq)
            obtain ⟨A4, c4, rfl, hle4, hC4⟩ := Kd.R_reads hR4
            rw [hplen] at hle4 hR4 ⊢
            have HR4 := hid hR4
            clear ho hg4 hat hR4 hC4
            have hr4 : w4.heap[rb]? = some (.cells #[.int .u64 g, .int .i64 at_, .int .i64 x12, .slice none 0 0] 25 (0, 0)) := (hB4.block rb hlt3).trans hr2
            have hz4 : w4.heap[w.heap.size]? = some (.cells #[.int .u64 0, .int .i64 0, .int .i64 0, .slice none 0 0] 25 (0, 0)) := (hB4.block w.heap.size (blk_lt hz2)).trans hz2
            have hBw4 : Below w.heap.size w w4 := hB2.drew.trans (hB4.mono hB2.size)
            have p3 := cell_of_row _ _ 3 _ _ _ hr4
            have pf3 := frozen_of_row _ _ 3 _ _ hr4
            simp at p3
            refine hK _ _ _ (fun _ h => h) p3 ?_
            clear hK K
            go_simp
            refine plan_tail_on rfl rfl (fun K hK => ?_)
            go_simp
            refine hK _ _ ?_
            clear hK K
            refine plan_tail_on rfl rfl (fun K hK => ?_)
            go_simp
            refine hK _ _ (plan_done ?_)
            clear hK K
            have hr5 := heap_setCell_same w4 rb 3 _ _ (.slice A4 m c4) hr4
            have hz5 := (Below.heap_setCell w4 ⟨rb, 3, none⟩ (.slice A4 m c4) w.heap.size (by show w.heap.size ≠ rb; omega)).trans hz4
            have hB5 : Below w.heap.size w (w4.setCell ⟨rb, 3, none⟩ (.slice A4 m c4)) := hBw4.setCell (p := ⟨rb, 3, none⟩) (by show w.heap.size ≤ rb; omega) _
            have hk5 : ∀ k, w3.heap.size ≤ k → (w4.setCell ⟨rb, 3, none⟩ (.slice A4 m c4)).heap[k]? = w4.heap[k]? := fun k hk => Below.heap_setCell w4 ⟨rb, 3, none⟩ (.slice A4 m c4) k (by show k ≠ rb; omega)
            clear q0 q3 z0 z1 z2 z3 f0 f1 f2 f3 p3 pf3 hr4 hz4
            generalize w4.setCell ⟨rb, 3, none⟩ (.slice A4 m c4) = w5 at hr5 hz5 hB5 hk5 ⊢
            have hn2 := blk_lt hz2
            clear hr2 hz2 hRm
            have q0 := cell_of_row _ _ 0 _ _ _ hr5
            have q1 := cell_of_row _ _ 1 _ _ _ hr5
            have q2 := cell_of_row _ _ 2 _ _ _ hr5
            have q3 := cell_of_row _ _ 3 _ _ _ hr5
            have z0 := cell_of_row _ _ 0 _ _ _ hz5
            have z1 := cell_of_row _ _ 1 _ _ _ hz5
            have z2 := cell_of_row _ _ 2 _ _ _ hz5
            have z3 := cell_of_row _ _ 3 _ _ _ hz5
            have f0 := frozen_of_row _ _ 0 _ _ hz5
            have f1 := frozen_of_row _ _ 1 _ _ hz5
            have f2 := frozen_of_row _ _ 2 _ _ hz5
            have f3 := frozen_of_row _ _ 3 _ _ hz5
            simp at q0 q1 q2 q3 z0 z1 z2 z3
            go_wp2
            refine bodyPost_ret (results_ctt rfl _ _ w.heap.size 25 _ _ _ rfl (set4 hz5 (.int .u64 g) (.int .i64 at_) (.int .i64 x12) (.slice A4 m c4)) Try.underlying25 rfl (by kernel_rfl)) rfl ?_
            rw [HP.out]
            refine ⟨A4, c4, rfl, ?_, hle4, below4 hB5 (Nat.le_refl _) _ _ _ _⟩
            have hall : ∀ k, w3.heap.size ≤ k → (W4s w5 w.heap.size (.int .u64 g) (.int .i64 at_) (.int .i64 x12) (.slice A4 m c4)).heap[k]? = w4.heap[k]? := fun k hk => by
              have hb := (below4 (Below.refl w.heap.size w5) (Nat.le_refl _) (.int .u64 g) (.int .i64 at_) (.int .i64 x12) (.slice A4 m c4))
              have hne : k ≠ w.heap.size := by omega
              rw [← hk5 k hk]
              unfold W4s
              rw [Below.heap_setCell _ _ _ _ hne, Below.heap_setCell _ _ _ _ hne, Below.heap_setCell _ _ _ _ hne, Below.heap_setCell _ _ _ _ hne]
            exact Kd.R_lower (Kd.R_mono (Kd.R_step HR4.out (fun k hk _ => hall k hk)) (fun k hk => by omega)) (by omega)
        · go_wp2_with fail
          refine (BL _ ?_).mono ?_
          · unfold behind
            rw [if_neg hcm]
            rfl
          rintro e w3 ⟨rfl, rfl⟩
          clear BL
          have hlt3 : rb < w3.heap.size := blk_lt hr2
          cases bl with
          | false =>
            have hno : ¬ headOK b := fun hh => by have := (HOK.out.1 hh).2.2; cases this
            go_wp2
            refine bodyPost_ret (results_ctt rfl _ _ w.heap.size 25 _ _ _ rfl (set4 hz2 (.int .u64 0) (.int .i64 0) (.int .i64 0) (.slice none 0 0)) Try.underlying25 rfl (by kernel_rfl)) rfl ?_
            exact head_none hno rfl (below4 hB2 (Nat.le_refl _) _ _ _ _)
          | true =>
            have hh : headOK b := HOK.out.2 ⟨hg, by omega, rfl⟩
            have HP := hid (HRR.out hh)
            clear HRR HOK
            have hRm : ReadsInt w3.drew .u8 (some (a.add 17)) m ((b.drop 17).take m) := by
              have := RB_int (RB_below hpart hB2.drew)
              rwa [hplen] at this
            go_wp2_with fail
            refine wp_region_plan [7, 8] (.take 0 (.take 1 (.take 2 (.take 3 (.take 4 (.take 5 (.run 6 (.tail 7 (.tail 8 .done))))))))) (fun W' => W'.cell? ⟨rb, 3, none⟩ = some (.slice none 0 0)) (by kernel_rfl) (by kernel_rfl) (fun c a d v w h => by cases d <;> exact h) q3 ?_
            have hwm2 : IntKind.i64.wrap (17 + (m : Int)) = 17 + (m : Int) := by rw [IntKind.wrap_i64]; omega
            have h172 : (17 : Int) ≤ 17 + (m : Int) := by omega
            have h0172 : (0 : Int) ≤ 17 + (m : Int) := by omega
            have htn2 : (17 + (m : Int)).toNat = 17 + m := by omega
            iterate 6 (apply plan_take rfl rfl; (case hy => (intro w' hS; go_simp; try exact rfl)); go_simp)
            refine plan_run_on rfl rfl (fun K hK => ?_)
            refine step_append_row (w0 := w3.drew) w3.heap.size (.tmp 53) (.tmp 57) 22 5 .u8 1 rfl Try.underlying22 info_u8 (by decide) _ [] ((b.drop 17).take m) (some (a.add 17)) m (c - 17) rfl rfl (World.ownsRow_nil _ _ _ _) hRm (Below.refl _ _) (Nat.le_refl _) (by simp; omega) ?_
            intro v1 w4 ho hB4 hg4 hat
            have hR4 : KB.R 5 w4 w3.heap.size (fun q => w3.heap.size ≤ q) v1 ((b.drop 17).take m) := Rown (by simpa using ho) (fun q hq => own_base ho q hq)
            obtain ⟨A4, c4, rfl, hle4, hC4⟩ := Kd.R_reads hR4
            rw [hplen] at hle4 hR4 ⊢
            have HR4 := hid hR4
            clear ho hg4 hat hR4 hC4
            have hr4 : w4.heap[rb]? = some (.cells #[.int .u64 g, .int .i64 at_, .int .i64 x12, .slice none 0 0] 25 (0, 0)) := (hB4.block rb hlt3).trans hr2
            have hz4 : w4.heap[w.heap.size]? = some (.cells #[.int .u64 0, .int .i64 0, .int .i64 0, .slice none 0 0] 25 (0, 0)) := (hB4.block w.heap.size (blk_lt hz2)).trans hz2
            have hBw4 : Below w.heap.size w w4 := hB2.drew.trans (hB4.mono hB2.size)
            have p3 := cell_of_row _ _ 3 _ _ _ hr4
            have pf3 := frozen_of_row _ _ 3 _ _ hr4
            simp at p3
            refine hK _ _ _ (fun _ h => h) p3 ?_
            clear hK K
            go_simp
            refine plan_tail_on rfl rfl (fun K hK => ?_)
            go_simp
            refine hK _ _ ?_
            clear hK K
            refine plan_tail_on rfl rfl (fun K hK => ?_)
            go_simp
            refine hK _ _ (plan_done ?_)
            clear hK K
            have hr5 := heap_setCell_same w4 rb 3 _ _ (.slice A4 m c4) hr4
            have hz5 := (Below.heap_setCell w4 ⟨rb, 3, none⟩ (.slice A4 m c4) w.heap.size (by show w.heap.size ≠ rb; omega)).trans hz4
            have hB5 : Below w.heap.size w (w4.setCell ⟨rb, 3, none⟩ (.slice A4 m c4)) := hBw4.setCell (p := ⟨rb, 3, none⟩) (by show w.heap.size ≤ rb; omega) _
            have hk5 : ∀ k, w3.heap.size ≤ k → (w4.setCell ⟨rb, 3, none⟩ (.slice A4 m c4)).heap[k]? = w4.heap[k]? := fun k hk => Below.heap_setCell w4 ⟨rb, 3, none⟩ (.slice A4 m c4) k (by show k ≠ rb; omega)
            clear q0 q3 z0 z1 z2 z3 f0 f1 f2 f3 p3 pf3 hr4 hz4
            generalize w4.setCell ⟨rb, 3, none⟩ (.slice A4 m c4) = w5 at hr5 hz5 hB5 hk5 ⊢
            have hn2 := blk_lt hz2
            clear hr2 hz2 hRm
            have q0 := cell_of_row _ _ 0 _ _ _ hr5
            have q1 := cell_of_row _ _ 1 _ _ _ hr5
            have q2 := cell_of_row _ _ 2 _ _ _ hr5
            have q3 := cell_of_row _ _ 3 _ _ _ hr5
            have z0 := cell_of_row _ _ 0 _ _ _ hz5
            have z1 := cell_of_row _ _ 1 _ _ _ hz5
            have z2 := cell_of_row _ _ 2 _ _ _ hz5
            have z3 := cell_of_row _ _ 3 _ _ _ hz5
            have f0 := frozen_of_row _ _ 0 _ _ hz5
            have f1 := frozen_of_row _ _ 1 _ _ hz5
            have f2 := frozen_of_row _ _ 2 _ _ hz5
            have f3 := frozen_of_row _ _ 3 _ _ hz5
            simp at q0 q1 q2 q3 z0 z1 z2 z3
            go_wp2
            refine bodyPost_ret (results_ctt rfl _ _ w.heap.size 25 _ _ _ rfl (set4 hz5 (.int .u64 g) (.int .i64 at_) (.int .i64 x12) (.slice A4 m c4)) Try.underlying25 rfl (by kernel_rfl)) rfl ?_
            rw [HP.out]
            refine ⟨A4, c4, rfl, ?_, hle4, below4 hB5 (Nat.le_refl _) _ _ _ _⟩
            have hall : ∀ k, w3.heap.size ≤ k → (W4s w5 w.heap.size (.int .u64 g) (.int .i64 at_) (.int .i64 x12) (.slice A4 m c4)).heap[k]? = w4.heap[k]? := fun k hk => by
              have hb := (below4 (Below.refl w.heap.size w5) (Nat.le_refl _) (.int .u64 g) (.int .i64 at_) (.int .i64 x12) (.slice A4 m c4))
              have hne : k ≠ w.heap.size := by omega
              rw [← hk5 k hk]
              unfold W4s
              rw [Below.heap_setCell _ _ _ _ hne, Below.heap_setCell _ _ _ _ hne, Below.heap_setCell _ _ _ _ hne, Below.heap_setCell _ _ _ _ hne]
            exact Kd.R_lower (Kd.R_mono (Kd.R_step HR4.out (fun k hk _ => hall k hk)) (fun k hk => by omega)) (by omega)
    · have hno : ¬ headOK b := fun hh => ht hh.2.1
      have hS : ¬ strOfNums (b.take 2) = ⟨#[102, 104]⟩ := fun e => ht (hs.1 e)
      generalize strOfNums (b.take 2) = S at hcv hS
      have hS2 : (S.toList == [102, 104]) = false := str_neq hS
      clear hs
      rw [← hw0] at hcv
      clear hw0
      go_enter Try.func14, Try.ntmps14
      go_wp2
      refine bodyPost_ret (results_ctt rfl _ _ w.heap.size 25 _ _ _ rfl (heap_alloc_new w _) Try.underlying25 rfl (by kernel_rfl)) rfl ?_
      exact head_none hno rfl (below_alloc (Below.refl _ _) _)
  · have hno : ¬ headOK b := fun hh => h64 hh.1
    have hne : ((b.length : Int) != 64) = true := by simp; omega
    have hne2 : ¬ (b.length : Int) = 64 := by omega
    clear hw0
    go_enter Try.func14, Try.ntmps14
    go_wp2
    refine bodyPost_ret (results_ctt rfl _ _ w.heap.size 25 _ _ _ rfl (heap_alloc_new w _) Try.underlying25 rfl (by kernel_rfl)) rfl ?_
    exact head_none hno rfl (below_alloc (Below.refl _ _) _)
end Go.Proofs.Ytekhmkfiepnnkaa
