/- Texts of one seat, laid together. -/
import Derived.Test.YtekhmkfiepnnkaaProg
import Derived.Below
import Derived.Deep.Draws
import Derived.Deep.AppendLies
import Derived.Maps.AppendAt
import Derived.OwnWalk
import Derived.Laws.BytesArg
import Derived.Laws.MakeOwn
import Derived.Laws.OwnMore
import Derived.Deep.OwnRows
import Derived.Tactics
import Derived.Lib.ConvBytes
import Derived.Laws.Slices
import Derived.WalkKit
import Derived.KernelRfl
import Derived.RowKit3
import Derived.Deep.LoopGhost
import Derived.Deep.QuietTactic
import Derived.BigQuiet
import Derived.WideLaws
import Derived.Deep.DeepCutAuto
import Derived.Deep.CutBlock
import Derived.Deep.RegionHeld3
import Derived.Laws.Rows
import Derived.Lib.AppendStr
import Derived.ArgAppend
import Derived.Laws.IdiomCopy
import Derived.OrdersHeld
import Derived.Laws.BitsLemmas
import Derived.RowKit
import Derived.Test.YtekhmkfiepnnkaaWWords
import Derived.Test.YtekhmkfiepnnkaaWLast
import Derived.Test.YtekhmkfiepnnkaaWTab
import Derived.Test.YtekhmkfiepnnkaaWFour
import Derived.Test.YtekhmkfiepnnkaaWQPut
import Derived.Test.YtekhmkfiepnnkaaWApart
import Derived.Test.YtekhmkfiepnnkaaWArr
import Derived.Test.YtekhmkfiepnnkaaWZeros
import Derived.Test.YtekhmkfiepnnkaaWFoot
import Derived.Test.YtekhmkfiepnnkaaWKept
import Derived.Test.YtekhmkfiepnnkaaWShare
import Derived.Test.YtekhmkfiepnnkaaWN
import Derived.Test.YtekhmkfiepnnkaaWFootNe
import Derived.Test.YtekhmkfiepnnkaaWAt
import Derived.Test.YtekhmkfiepnnkaaWEqStruct
import Derived.Test.YtekhmkfiepnnkaaWRepsOne
import Derived.Test.YtekhmkfiepnnkaaWInv
import Derived.Test.YtekhmkfiepnnkaaWInvWords
import Derived.Test.YtekhmkfiepnnkaaWGuard
import Derived.Test.YtekhmkfiepnnkaaWNEv
import Derived.Test.YtekhmkfiepnnkaaWMore
import Derived.Test.YtekhmkfiepnnkaaGSB
import Derived.Test.YtekhmkfiepnnkaaGSC

/- foundryref22_Blocks, as the kit's printer prints them (print.sh), carved by wip/tools/carve.py. -/
namespace Go.Proofs.Ytekhmkfiepnnkaa.KCarveD
open Go.RowKit Go.Proofs.YtekhmkfiepnnkaaW.PrintWords Go.Proofs.YtekhmkfiepnnkaaW.PrintLast Go.Proofs.YtekhmkfiepnnkaaW.PrintMore
attribute [local go_sem] max2_int min2_int max_two min_two max_three min_three max_four min_four   -- for this text's walks alone
set_option linter.unusedVariables false
set_option linter.unusedSimpArgs false
open Go.Proofs.Ytekhmkfiepnnkaa.KCarveA
mutual
def foundryref22_Blocks.j0 : Nat → Bool → Int → Int → Int → List Int → Option ((List (List Int)) × Int)
  | 0, _, _, _, _, _ => none
  | k + 1, x31, x146000, x146001, x146002, x146003 => if x31 = true then (some (([] : List (List Int)), 1)) else (if (x146003.length : Int) > 131072 then (some (([] : List (List Int)), 3)) else ((some (([102, 104] : List Int) : List Int)).bind fun y146 => ((foundryref22_number.f k x146000 8).bind fun t149 => (if y146.length + t149.length < 140737488355328 then ((some (y146 ++ t149 : List Int)).bind fun y152 => ((foundryref22_number.f k (IntKind.u64.wrap (x146001)) 2).bind fun t155 => (if y152.length + t155.length < 140737488355328 then ((some (y152 ++ t155 : List Int)).bind fun y158 => (if y158.length < 140737488355328 then ((some (y158 ++ [(x146002) % 256] : List Int)).bind fun y161 => ((foundryref22_number.f k (IntKind.u64.wrap ((x146003.length : Int))) 4).bind fun t164 => (if y161.length + t164.length < 140737488355328 then ((some (y161 ++ t164 : List Int)).bind fun y167 => (if (x146003.length : Int) < 47 then (foundryref22_Blocks.j1 k y167 (x146003.length : Int) x146000 x146001 x146002 x146003) else (foundryref22_Blocks.j1 k y167 47 x146000 x146001 x146002 x146003))) else (none)))) else (none))) else (none)))) else (none)))))
def foundryref22_Blocks.j1 : Nat → List Int → Int → Int → Int → Int → List Int → Option ((List (List Int)) × Int)
  | 0, _, _, _, _, _, _ => none
  | k + 1, x4, x5, x146000, x146001, x146002, x146003 => if 0 ≤ x5 then (if x5 ≤ (x146003.length : Int) then (if x4.length + (x146003.take (x5 : Int).toNat).length < 140737488355328 then ((foundryref22_filled.f k (x4 ++ (x146003.take (x5 : Int).toNat))).bind fun t174 => (foundryref22_Blocks.l0 k x5 (([t174] : List (List Int))) x146000 x146001 x146002 x146003)) else (none)) else (none)) else (none)
def foundryref22_Blocks.l0 : Nat → Int → List (List Int) → Int → Int → Int → List Int → Option ((List (List Int)) × Int)
  | 0, _, _, _, _, _, _ => none
  | k + 1, x5, x6, x146000, x146001, x146002, x146003 => if x5 < (x146003.length : Int) then (if (wrap64 (x5 + 50)) > (x146003.length : Int) then (foundryref22_Blocks.j3 k x5 x6 (x146003.length : Int) x146000 x146001 x146002 x146003) else (foundryref22_Blocks.j3 k x5 x6 (wrap64 (x5 + 50)) x146000 x146001 x146002 x146003)) else (some (x6, 0))
def foundryref22_Blocks.j3 : Nat → Int → List (List Int) → Int → Int → Int → Int → List Int → Option ((List (List Int)) × Int)
  | 0, _, _, _, _, _, _, _ => none
  | k + 1, x5, x6, x7, x146000, x146001, x146002, x146003 => (some (([102, 98] : List Int) : List Int)).bind fun y180 => ((foundryref22_number.f k x146000 8).bind fun t183 => (if y180.length + t183.length < 140737488355328 then ((some (y180 ++ t183 : List Int)).bind fun y186 => ((foundryref22_number.f k (IntKind.u64.wrap (x146001)) 2).bind fun t189 => (if y186.length + t189.length < 140737488355328 then ((some (y186 ++ t189 : List Int)).bind fun y192 => ((foundryref22_number.f k (IntKind.u64.wrap ((x6.length : Int))) 2).bind fun t195 => (if y192.length + t195.length < 140737488355328 then ((some (y192 ++ t195 : List Int)).bind fun y198 => (if 0 ≤ x5 then (if x5 ≤ x7 then (if x7 ≤ (x146003.length : Int) then (if y198.length + ((x146003.take (x7 : Int).toNat).drop (x5 : Int).toNat).length < 140737488355328 then ((foundryref22_filled.f k (y198 ++ ((x146003.take (x7 : Int).toNat).drop (x5 : Int).toNat))).bind fun t205 => (if x6.length < 5864062014805 then (foundryref22_Blocks.l0 k x7 (x6 ++ [t205]) x146000 x146001 x146002 x146003) else (none))) else (none)) else (none)) else (none)) else (none))) else (none)))) else (none)))) else (none)))
end
def foundryref22_Blocks.f (k : Nat) (a0_0 : Int) (a0_1 : Int) (a0_2 : Int) (l0_3 : List Int) : Option ((List (List Int)) × Int) := if a0_0 = 0 then (foundryref22_Blocks.j0 k true a0_0 a0_1 a0_2 l0_3) else (if a0_1 < 0 then (foundryref22_Blocks.j0 k true a0_0 a0_1 a0_2 l0_3) else (if a0_1 > 65535 then (foundryref22_Blocks.j0 k true a0_0 a0_1 a0_2 l0_3) else (if a0_2 < 0 then (foundryref22_Blocks.j0 k true a0_0 a0_1 a0_2 l0_3) else (foundryref22_Blocks.j0 k (decide (a0_2 > 255)) a0_0 a0_1 a0_2 l0_3))))
theorem foundryref22_Blocks.mono_l : ∀ k, (∀ y0 y1 y2 y3 y4, LeO (foundryref22_Blocks.j0 k y0 y1 y2 y3 y4) (foundryref22_Blocks.j0 (k + 1) y0 y1 y2 y3 y4)) ∧ (∀ y0 y1 y2 y3 y4 y5, LeO (foundryref22_Blocks.j1 k y0 y1 y2 y3 y4 y5) (foundryref22_Blocks.j1 (k + 1) y0 y1 y2 y3 y4 y5)) ∧ (∀ y0 y1 y2 y3 y4 y5, LeO (foundryref22_Blocks.l0 k y0 y1 y2 y3 y4 y5) (foundryref22_Blocks.l0 (k + 1) y0 y1 y2 y3 y4 y5)) ∧ (∀ y0 y1 y2 y3 y4 y5 y6, LeO (foundryref22_Blocks.j3 k y0 y1 y2 y3 y4 y5 y6) (foundryref22_Blocks.j3 (k + 1) y0 y1 y2 y3 y4 y5 y6))
  | 0 => ⟨fun _ _ _ _ _ r h => by simp [foundryref22_Blocks.j0] at h, fun _ _ _ _ _ _ r h => by simp [foundryref22_Blocks.j1] at h, fun _ _ _ _ _ _ r h => by simp [foundryref22_Blocks.l0] at h, fun _ _ _ _ _ _ _ r h => by simp [foundryref22_Blocks.j3] at h⟩
  | k + 1 => by
    obtain ⟨ih0, ih1, ih2, ih3⟩ := foundryref22_Blocks.mono_l k
    refine ⟨?_, ?_, ?_, ?_⟩
    · intro y0 y1 y2 y3 y4
      unfold foundryref22_Blocks.j0
      repeat' first
      | (with_reducible exact ih0 _ _ _ _ _)
      | (with_reducible exact ih1 _ _ _ _ _ _)
      | (with_reducible exact ih2 _ _ _ _ _ _)
      | (with_reducible exact ih3 _ _ _ _ _ _ _)
      | (with_reducible exact foundryref22_filled.mono _ _)
      | (with_reducible exact foundryref22_number.mono _ _ _)
      | (with_reducible exact LeO.refl _)
      | (with_reducible exact LeO.none _)
      | (with_reducible refine LeO.ite ?_ ?_)
      | (with_reducible refine LeO.bind ?_ (fun _ => ?_))
      | exact ih0 _ _ _ _ _
      | exact ih1 _ _ _ _ _ _
      | exact ih2 _ _ _ _ _ _
      | exact ih3 _ _ _ _ _ _ _
      | exact foundryref22_filled.mono _ _
      | exact foundryref22_number.mono _ _ _
      | exact LeO.none _
      | refine LeO.ite ?_ ?_
      | refine LeO.bind ?_ (fun _ => ?_)
    · intro y0 y1 y2 y3 y4 y5
      unfold foundryref22_Blocks.j1
      repeat' first
      | (with_reducible exact ih0 _ _ _ _ _)
      | (with_reducible exact ih1 _ _ _ _ _ _)
      | (with_reducible exact ih2 _ _ _ _ _ _)
      | (with_reducible exact ih3 _ _ _ _ _ _ _)
      | (with_reducible exact foundryref22_filled.mono _ _)
      | (with_reducible exact foundryref22_number.mono _ _ _)
      | (with_reducible exact LeO.refl _)
      | (with_reducible exact LeO.none _)
      | (with_reducible refine LeO.ite ?_ ?_)
      | (with_reducible refine LeO.bind ?_ (fun _ => ?_))
      | exact ih0 _ _ _ _ _
      | exact ih1 _ _ _ _ _ _
      | exact ih2 _ _ _ _ _ _
      | exact ih3 _ _ _ _ _ _ _
      | exact foundryref22_filled.mono _ _
      | exact foundryref22_number.mono _ _ _
      | exact LeO.none _
      | refine LeO.ite ?_ ?_
      | refine LeO.bind ?_ (fun _ => ?_)
    · intro y0 y1 y2 y3 y4 y5
      unfold foundryref22_Blocks.l0
      repeat' first
      | (with_reducible exact ih0 _ _ _ _ _)
      | (with_reducible exact ih1 _ _ _ _ _ _)
      | (with_reducible exact ih2 _ _ _ _ _ _)
      | (with_reducible exact ih3 _ _ _ _ _ _ _)
      | (with_reducible exact foundryref22_filled.mono _ _)
      | (with_reducible exact foundryref22_number.mono _ _ _)
      | (with_reducible exact LeO.refl _)
      | (with_reducible exact LeO.none _)
      | (with_reducible refine LeO.ite ?_ ?_)
      | (with_reducible refine LeO.bind ?_ (fun _ => ?_))
      | exact ih0 _ _ _ _ _
      | exact ih1 _ _ _ _ _ _
      | exact ih2 _ _ _ _ _ _
      | exact ih3 _ _ _ _ _ _ _
      | exact foundryref22_filled.mono _ _
      | exact foundryref22_number.mono _ _ _
      | exact LeO.none _
      | refine LeO.ite ?_ ?_
      | refine LeO.bind ?_ (fun _ => ?_)
    · intro y0 y1 y2 y3 y4 y5 y6
      unfold foundryref22_Blocks.j3
      repeat' first
      | (with_reducible exact ih0 _ _ _ _ _)
      | (with_reducible exact ih1 _ _ _ _ _ _)
      | (with_reducible exact ih2 _ _ _ _ _ _)
      | (with_reducible exact ih3 _ _ _ _ _ _ _)
      | (with_reducible exact foundryref22_filled.mono _ _)
      | (with_reducible exact foundryref22_number.mono _ _ _)
      | (with_reducible exact LeO.refl _)
      | (with_reducible exact LeO.none _)
      | (with_reducible refine LeO.ite ?_ ?_)
      | (with_reducible refine LeO.bind ?_ (fun _ => ?_))
      | exact ih0 _ _ _ _ _
      | exact ih1 _ _ _ _ _ _
      | exact ih2 _ _ _ _ _ _
      | exact ih3 _ _ _ _ _ _ _
      | exact foundryref22_filled.mono _ _
      | exact foundryref22_number.mono _ _ _
      | exact LeO.none _
      | refine LeO.ite ?_ ?_
      | refine LeO.bind ?_ (fun _ => ?_)
theorem foundryref22_Blocks.mono : ∀ a0 a1 a2 a3 k, LeO (foundryref22_Blocks.f k a0 a1 a2 a3) (foundryref22_Blocks.f (k + 1) a0 a1 a2 a3) := by
  intro a0 a1 a2 a3 k
  obtain ⟨ih0, ih1, ih2, ih3⟩ := foundryref22_Blocks.mono_l k
  unfold foundryref22_Blocks.f
  repeat' first
      | (with_reducible exact ih0 _ _ _ _ _)
      | (with_reducible exact ih1 _ _ _ _ _ _)
      | (with_reducible exact ih2 _ _ _ _ _ _)
      | (with_reducible exact ih3 _ _ _ _ _ _ _)
      | (with_reducible exact foundryref22_filled.mono _ _)
      | (with_reducible exact foundryref22_number.mono _ _ _)
      | (with_reducible exact LeO.refl _)
      | (with_reducible exact LeO.none _)
      | (with_reducible refine LeO.ite ?_ ?_)
      | (with_reducible refine LeO.bind ?_ (fun _ => ?_))
      | exact ih0 _ _ _ _ _
      | exact ih1 _ _ _ _ _ _
      | exact ih2 _ _ _ _ _ _
      | exact ih3 _ _ _ _ _ _ _
      | exact foundryref22_filled.mono _ _
      | exact foundryref22_number.mono _ _ _
      | exact LeO.none _
      | refine LeO.ite ?_ ?_
      | refine LeO.bind ?_ (fun _ => ?_)
set_option maxHeartbeats 8000000 in
set_option maxRecDepth 100000 in
theorem foundryref22_Blocks.calls (k : Nat) (a0_0 : Int) (a0_1 : Int) (a0_2 : Int) (A0_3 : Option Addr) (c0_3 : Nat) (l0_3 : List Int) (r1 : List (List Int)) (r2 : Int) (w : World) (hr0_3 : Kd.C (Kd.int .u8) w A0_3 l0_3.length l0_3) (hc0_3 : l0_3.length ≤ c0_3) (h : foundryref22_Blocks.f k a0_0 a0_1 a0_2 l0_3 = some (r1, r2)) :
    Calls Try.prog 25 #[.agg #[.int .u64 a0_0, .int .i64 a0_1, .int .i64 a0_2, .slice A0_3 l0_3.length c0_3]] w fun e w' => ∃ v0_ : Value, e = .returned (.tuple #[v0_, .int .i64 r2]) ∧ Kd.N (Kd.slice 5 (Kd.int .u8)) 22 w' w.heap.size (fun k_ => (w.heap.size ≤ k_)) v0_ r1 ∧ Below w.heap.size w w' := by
  have hu28 := Try.underlying28
  have HR0_3 := Aside0.mk hr0_3
  have HC0_3 := Aside0.mk hc0_3
  clear hr0_3 hc0_3
  have HB := Aside0.mk (Below.refl w.heap.size w)
  have H : (if a0_0 = 0 then (foundryref22_Blocks.j0 k true a0_0 a0_1 a0_2 l0_3) else (if a0_1 < 0 then (foundryref22_Blocks.j0 k true a0_0 a0_1 a0_2 l0_3) else (if a0_1 > 65535 then (foundryref22_Blocks.j0 k true a0_0 a0_1 a0_2 l0_3) else (if a0_2 < 0 then (foundryref22_Blocks.j0 k true a0_0 a0_1 a0_2 l0_3) else (foundryref22_Blocks.j0 k (decide (a0_2 > 255)) a0_0 a0_1 a0_2 l0_3))))) = some (r1, r2) := h
  clear h
  have HC2 := Aside0.mk H
  clear H
  go_enter Try.func25, Try.ntmps25
  go_upto_region 1 with (first | ((with_reducible refine gate_dst (N := 1) rfl ?_); refine box_event ?hg (N := 1) ?hd (cs := #[.int .u64 a0_0, .int .i64 a0_1, .int .i64 a0_2, .slice A0_3 l0_3.length c0_3]) (t := 28) ?hr ?_; (case hd => rfl); (case hg => rfl); (case hr => first | (go_simp; done) | (go_simp; rfl)); intro gb145 hg w3 hbox hb; have n0_ := Aside0.mk (below_step (by repeat (first | (with_reducible first | exact HB.out | apply below_alloc | apply pw_below_drewN | apply below_drew1) | exact HB.out)) hb); have n1_ := Aside0.mk (hbox); have n2_ := Aside0.mk ((by rw [hg]; exact (below_size (by repeat (first | (with_reducible first | exact HB.out | apply below_alloc | apply pw_below_drewN | apply below_drew1) | exact HB.out))) : w.heap.size ≤ gb145)); have n3_ := Aside0.mk ((by rw [hg]; exact (below_size (by repeat (first | (with_reducible first | exact HB.out | apply below_alloc | apply pw_below_drewN | apply below_drew1) | exact HB.out))) : w.heap.size ≤ gb145)); clear HB; have HB := n0_; have BK145 := n1_; have GW145 := n2_; have GE145 := n3_; clear n0_ n1_ n2_ n3_; clear hb hbox hg))
  (try simp only [Act.put, List.setIfInBounds_toArray, List.set_cons_zero, List.set_cons_succ])
  go_cut [31] (fun v31 wc => ∃ (kq : Nat) (x31_1 : Bool), v31 = .bool x31_1 ∧ Aside0 (foundryref22_Blocks.j0 kq x31_1 a0_0 a0_1 a0_2 l0_3 = some (r1, r2)) ∧ Aside0 (kq ≤ k) ∧ Aside0 (wc.heap[gb145]? = some (.cells #[.int .u64 a0_0, .int .i64 a0_1, .int .i64 a0_2, (.slice A0_3 l0_3.length c0_3)] 28 (0, 0))) ∧ Aside0 (Below w.heap.size w wc))
  case first =>
    have H := HC2.out
    clear HC2
    by_cases c4 : a0_0 = 0
    · rw [if_pos c4] at H
      have c4b0 : (a0_0 == 0) = true := beq_iff_eq.mpr c4
      have c4b1 : (a0_0 != 0) = false := bne_eq_false_iff_eq.mpr c4
      clear c4
      (first | rw [c4b0] | (simp only [i64_w, i32_w]; rw [c4b0]) | skip)
      have H' := Aside0.mk H
      clear H
      have hcz5_0 : w3.cell? ⟨gb145, 0, none⟩ = some (.int .u64 a0_0) := (blk_cell BK145.out 0).trans rfl
      have hcz5_1 : w3.cell? ⟨gb145, 1, none⟩ = some (.int .i64 a0_1) := (blk_cell BK145.out 1).trans rfl
      have hcz5_2 : w3.cell? ⟨gb145, 2, none⟩ = some (.int .i64 a0_2) := (blk_cell BK145.out 2).trans rfl
      have hcz5_3 : w3.cell? ⟨gb145, 3, none⟩ = some (.slice A0_3 l0_3.length c0_3) := (blk_cell BK145.out 3).trans rfl
      have hfz5_0 := blk_frozen BK145.out 0
      have hfz5_1 := blk_frozen BK145.out 1
      have hfz5_2 := blk_frozen BK145.out 2
      have hfz5_3 := blk_frozen BK145.out 3
      go_wp2
      go_meet
      case rel => exact ⟨_, (true), (by first | rfl | (simp; done) | (simp [*]; done)), H', ⟨by first | omega | exact Nat.le_refl _⟩, ⟨by (with_reducible repeat (first | refine blk_drewN ?_ _ | refine blk_drew ?_ | refine blk_alloc ?_ _)); exact BK145.out⟩, ⟨by repeat (first | (with_reducible first | exact HB.out | apply below_alloc | apply pw_below_drewN | apply below_drew1 | refine below_set ?_ GE145.out) | exact HB.out)⟩⟩
    · rw [if_neg c4] at H
      have c4b0 : (a0_0 == 0) = false := beq_eq_false_iff_ne.mpr c4
      have c4b1 : (a0_0 != 0) = true := bne_iff_ne.mpr c4
      (first | rw [c4b0] | (simp only [i64_w, i32_w]; rw [c4b0]) | skip)
      by_cases c6 : a0_1 < 0
      · rw [if_pos c6] at H
        have c6b0 : decide (a0_1 < 0) = true := decide_eq_true c6
        clear c6
        have H' := Aside0.mk H
        clear H
        have hcz7_0 : w3.cell? ⟨gb145, 0, none⟩ = some (.int .u64 a0_0) := (blk_cell BK145.out 0).trans rfl
        have hcz7_1 : w3.cell? ⟨gb145, 1, none⟩ = some (.int .i64 a0_1) := (blk_cell BK145.out 1).trans rfl
        have hcz7_2 : w3.cell? ⟨gb145, 2, none⟩ = some (.int .i64 a0_2) := (blk_cell BK145.out 2).trans rfl
        have hcz7_3 : w3.cell? ⟨gb145, 3, none⟩ = some (.slice A0_3 l0_3.length c0_3) := (blk_cell BK145.out 3).trans rfl
        have hfz7_0 := blk_frozen BK145.out 0
        have hfz7_1 := blk_frozen BK145.out 1
        have hfz7_2 := blk_frozen BK145.out 2
        have hfz7_3 := blk_frozen BK145.out 3
        go_wp2
        go_meet
        case rel => exact ⟨_, (true), (by first | rfl | (simp; done) | (simp [*]; done)), H', ⟨by first | omega | exact Nat.le_refl _⟩, ⟨by (with_reducible repeat (first | refine blk_drewN ?_ _ | refine blk_drew ?_ | refine blk_alloc ?_ _)); exact BK145.out⟩, ⟨by repeat (first | (with_reducible first | exact HB.out | apply below_alloc | apply pw_below_drewN | apply below_drew1 | refine below_set ?_ GE145.out) | exact HB.out)⟩⟩
      · rw [if_neg c6] at H
        have c6b0 : decide (a0_1 < 0) = false := decide_eq_false c6
        clear c6
        by_cases c8 : a0_1 > 65535
        · rw [if_pos c8] at H
          have c8b0 : decide (65535 < a0_1) = true := decide_eq_true c8
          clear c8
          have H' := Aside0.mk H
          clear H
          have hcz9_0 : w3.cell? ⟨gb145, 0, none⟩ = some (.int .u64 a0_0) := (blk_cell BK145.out 0).trans rfl
          have hcz9_1 : w3.cell? ⟨gb145, 1, none⟩ = some (.int .i64 a0_1) := (blk_cell BK145.out 1).trans rfl
          have hcz9_2 : w3.cell? ⟨gb145, 2, none⟩ = some (.int .i64 a0_2) := (blk_cell BK145.out 2).trans rfl
          have hcz9_3 : w3.cell? ⟨gb145, 3, none⟩ = some (.slice A0_3 l0_3.length c0_3) := (blk_cell BK145.out 3).trans rfl
          have hfz9_0 := blk_frozen BK145.out 0
          have hfz9_1 := blk_frozen BK145.out 1
          have hfz9_2 := blk_frozen BK145.out 2
          have hfz9_3 := blk_frozen BK145.out 3
          go_wp2
          go_meet
          case rel => exact ⟨_, (true), (by first | rfl | (simp; done) | (simp [*]; done)), H', ⟨by first | omega | exact Nat.le_refl _⟩, ⟨by (with_reducible repeat (first | refine blk_drewN ?_ _ | refine blk_drew ?_ | refine blk_alloc ?_ _)); exact BK145.out⟩, ⟨by repeat (first | (with_reducible first | exact HB.out | apply below_alloc | apply pw_below_drewN | apply below_drew1 | refine below_set ?_ GE145.out) | exact HB.out)⟩⟩
        · rw [if_neg c8] at H
          have c8b0 : decide (65535 < a0_1) = false := decide_eq_false c8
          clear c8
          by_cases c10 : a0_2 < 0
          · rw [if_pos c10] at H
            have c10b0 : decide (a0_2 < 0) = true := decide_eq_true c10
            clear c10
            have H' := Aside0.mk H
            clear H
            have hcz11_0 : w3.cell? ⟨gb145, 0, none⟩ = some (.int .u64 a0_0) := (blk_cell BK145.out 0).trans rfl
            have hcz11_1 : w3.cell? ⟨gb145, 1, none⟩ = some (.int .i64 a0_1) := (blk_cell BK145.out 1).trans rfl
            have hcz11_2 : w3.cell? ⟨gb145, 2, none⟩ = some (.int .i64 a0_2) := (blk_cell BK145.out 2).trans rfl
            have hcz11_3 : w3.cell? ⟨gb145, 3, none⟩ = some (.slice A0_3 l0_3.length c0_3) := (blk_cell BK145.out 3).trans rfl
            have hfz11_0 := blk_frozen BK145.out 0
            have hfz11_1 := blk_frozen BK145.out 1
            have hfz11_2 := blk_frozen BK145.out 2
            have hfz11_3 := blk_frozen BK145.out 3
            go_wp2
            go_meet
            case rel => exact ⟨_, (true), (by first | rfl | (simp; done) | (simp [*]; done)), H', ⟨by first | omega | exact Nat.le_refl _⟩, ⟨by (with_reducible repeat (first | refine blk_drewN ?_ _ | refine blk_drew ?_ | refine blk_alloc ?_ _)); exact BK145.out⟩, ⟨by repeat (first | (with_reducible first | exact HB.out | apply below_alloc | apply pw_below_drewN | apply below_drew1 | refine below_set ?_ GE145.out) | exact HB.out)⟩⟩
          · rw [if_neg c10] at H
            have c10b0 : decide (a0_2 < 0) = false := decide_eq_false c10
            clear c10
            have H' := Aside0.mk H
            clear H
            have hcz12_0 : w3.cell? ⟨gb145, 0, none⟩ = some (.int .u64 a0_0) := (blk_cell BK145.out 0).trans rfl
            have hcz12_1 : w3.cell? ⟨gb145, 1, none⟩ = some (.int .i64 a0_1) := (blk_cell BK145.out 1).trans rfl
            have hcz12_2 : w3.cell? ⟨gb145, 2, none⟩ = some (.int .i64 a0_2) := (blk_cell BK145.out 2).trans rfl
            have hcz12_3 : w3.cell? ⟨gb145, 3, none⟩ = some (.slice A0_3 l0_3.length c0_3) := (blk_cell BK145.out 3).trans rfl
            have hfz12_0 := blk_frozen BK145.out 0
            have hfz12_1 := blk_frozen BK145.out 1
            have hfz12_2 := blk_frozen BK145.out 2
            have hfz12_3 := blk_frozen BK145.out 3
            go_wp2
            go_meet
            case rel => exact ⟨_, (decide (a0_2 > 255)), (by first | rfl | (simp; done) | (simp [*]; done)), H', ⟨by first | omega | exact Nat.le_refl _⟩, ⟨by (with_reducible repeat (first | refine blk_drewN ?_ _ | refine blk_drew ?_ | refine blk_alloc ?_ _)); exact BK145.out⟩, ⟨by repeat (first | (with_reducible first | exact HB.out | apply below_alloc | apply pw_below_drewN | apply below_drew1 | refine below_set ?_ GE145.out) | exact HB.out)⟩⟩
  case rest =>
    clear HC2
    try clear c1
    try clear c2
    try clear p2
    try clear c4
    try clear c4b0
    try clear c4b1
    try clear c6
    try clear c6b0
    try clear c8
    try clear c8b0
    try clear c10
    try clear c10b0
    try clear hcz11_0
    try clear hcz11_1
    try clear hcz11_2
    try clear hcz11_3
    try clear hcz12_0
    try clear hcz12_1
    try clear hcz12_2
    try clear hcz12_3
    try clear hcz5_0
    try clear hcz5_1
    try clear hcz5_2
    try clear hcz5_3
    try clear hcz7_0
    try clear hcz7_1
    try clear hcz7_2
    try clear hcz7_3
    try clear hcz9_0
    try clear hcz9_1
    try clear hcz9_2
    try clear hcz9_3
    try clear hfz11_0
    try clear hfz11_1
    try clear hfz11_2
    try clear hfz11_3
    try clear hfz12_0
    try clear hfz12_1
    try clear hfz12_2
    try clear hfz12_3
    try clear hfz5_0
    try clear hfz5_1
    try clear hfz5_2
    try clear hfz5_3
    try clear hfz7_0
    try clear hfz7_1
    try clear hfz7_2
    try clear hfz7_3
    try clear hfz9_0
    try clear hfz9_1
    try clear hfz9_2
    try clear hfz9_3
    obtain ⟨kq, x31_1, rfl, HA, HJ1, BK145, HB⟩ := hcut
    cases kq with
    | zero => exact absurd HA.out (by simp [foundryref22_Blocks.j0])
    | succ kj1 =>
      have H := HA.out
      clear HA
      simp only [foundryref22_Blocks.j0] at H
      by_cases c13 : x31_1 = true
      · subst c13
        have H1 : (some (([] : List (List Int)), 1)) = some (r1, r2) := by rw [if_pos rfl] at H; exact H
        clear H
        have H := H1
        clear H1
        simp only [Option.some.injEq, Prod.mk.injEq] at H
        obtain ⟨rfl, rfl⟩ := H
        go_wp2
        go_ret2
        exact ⟨_, by first | rfl | (simp [errW_none, errW_some] <;> rfl) | (simp [*, errW_none, errW_some] <;> rfl), by first | exact Kd.S_nil _ _ _ _ _ | exact Kd.N_nil _ _ _ _ _ | exact Kd.V_nil _ _ _ _ _ | exact Kd.Q_nil _ _ _ _ _ | exact Kd.R_nil _ _ _ _ _, by repeat (first | (with_reducible first | exact HB.out | apply below_alloc | apply pw_below_drewN | apply below_drew1 | refine below_set ?_ GE145.out) | exact HB.out)⟩
      · replace c13 := Bool.eq_false_iff.mpr c13
        subst c13
        have H1 : (if (l0_3.length : Int) > 131072 then (some (([] : List (List Int)), 3)) else ((some (([102, 104] : List Int) : List Int)).bind fun y146 => ((foundryref22_number.f kj1 a0_0 8).bind fun t149 => (if y146.length + t149.length < 140737488355328 then ((some (y146 ++ t149 : List Int)).bind fun y152 => ((foundryref22_number.f kj1 (IntKind.u64.wrap (a0_1)) 2).bind fun t155 => (if y152.length + t155.length < 140737488355328 then ((some (y152 ++ t155 : List Int)).bind fun y158 => (if y158.length < 140737488355328 then ((some (y158 ++ [(a0_2) % 256] : List Int)).bind fun y161 => ((foundryref22_number.f kj1 (IntKind.u64.wrap ((l0_3.length : Int))) 4).bind fun t164 => (if y161.length + t164.length < 140737488355328 then ((some (y161 ++ t164 : List Int)).bind fun y167 => (if (l0_3.length : Int) < 47 then (foundryref22_Blocks.j1 kj1 y167 (l0_3.length : Int) a0_0 a0_1 a0_2 l0_3) else (foundryref22_Blocks.j1 kj1 y167 47 a0_0 a0_1 a0_2 l0_3))) else (none)))) else (none))) else (none)))) else (none))))) = some (r1, r2) := by rw [if_neg (show ¬ (false = true) by decide)] at H; exact H
        clear H
        have H := H1
        clear H1
        by_cases c14 : (l0_3.length : Int) > 131072
        · rw [if_pos c14] at H
          have c14b0 : decide (131072 < (l0_3.length : Int)) = true := decide_eq_true c14
          have c14b1 : decide (131072 < l0_3.length) = true := decide_eq_true (by omega)
          clear c14
          simp only [Option.some.injEq, Prod.mk.injEq] at H
          obtain ⟨rfl, rfl⟩ := H
          have hcz15_0 : wc.cell? ⟨gb145, 0, none⟩ = some (.int .u64 a0_0) := (blk_cell BK145.out 0).trans rfl
          have hcz15_1 : wc.cell? ⟨gb145, 1, none⟩ = some (.int .i64 a0_1) := (blk_cell BK145.out 1).trans rfl
          have hcz15_2 : wc.cell? ⟨gb145, 2, none⟩ = some (.int .i64 a0_2) := (blk_cell BK145.out 2).trans rfl
          have hcz15_3 : wc.cell? ⟨gb145, 3, none⟩ = some (.slice A0_3 l0_3.length c0_3) := (blk_cell BK145.out 3).trans rfl
          have hfz15_0 := blk_frozen BK145.out 0
          have hfz15_1 := blk_frozen BK145.out 1
          have hfz15_2 := blk_frozen BK145.out 2
          have hfz15_3 := blk_frozen BK145.out 3
          go_wp2
          go_ret2
          exact ⟨_, by first | rfl | (simp [errW_none, errW_some] <;> rfl) | (simp [*, errW_none, errW_some] <;> rfl), by first | exact Kd.S_nil _ _ _ _ _ | exact Kd.N_nil _ _ _ _ _ | exact Kd.V_nil _ _ _ _ _ | exact Kd.Q_nil _ _ _ _ _ | exact Kd.R_nil _ _ _ _ _, by repeat (first | (with_reducible first | exact HB.out | apply below_alloc | apply pw_below_drewN | apply below_drew1 | refine below_set ?_ GE145.out) | exact HB.out)⟩
        · rw [if_neg c14] at H
          have c14b0 : decide (131072 < (l0_3.length : Int)) = false := decide_eq_false c14
          have c14b1 : decide (131072 < l0_3.length) = false := decide_eq_false (by omega)
          clear c14
          obtain ⟨y146, hy146⟩ : ∃ y_ : List Int, y_ = (([102, 104] : List Int)) := ⟨_, rfl⟩
          replace H : ((foundryref22_number.f kj1 a0_0 8).bind fun t149 => (if y146.length + t149.length < 140737488355328 then ((some (y146 ++ t149 : List Int)).bind fun y152 => ((foundryref22_number.f kj1 (IntKind.u64.wrap (a0_1)) 2).bind fun t155 => (if y152.length + t155.length < 140737488355328 then ((some (y152 ++ t155 : List Int)).bind fun y158 => (if y158.length < 140737488355328 then ((some (y158 ++ [(a0_2) % 256] : List Int)).bind fun y161 => ((foundryref22_number.f kj1 (IntKind.u64.wrap ((l0_3.length : Int))) 4).bind fun t164 => (if y161.length + t164.length < 140737488355328 then ((some (y161 ++ t164 : List Int)).bind fun y167 => (if (l0_3.length : Int) < 47 then (foundryref22_Blocks.j1 kj1 y167 (l0_3.length : Int) a0_0 a0_1 a0_2 l0_3) else (foundryref22_Blocks.j1 kj1 y167 47 a0_0 a0_1 a0_2 l0_3))) else (none)))) else (none))) else (none)))) else (none))) = some (r1, r2) := by first | (rw [hy146]; with_reducible exact H) | (have H2_ := (Option.bind_some _ _).symm.trans H; rw [hy146]; with_reducible exact H2_) | (have H2_ := (Option.bind_some _ _).symm.trans H; with_reducible exact H2_) | with_reducible exact H | (rw [hy146]; exact H) | exact H
          have Ny146 := Aside0.mk hy146
          clear hy146
          replace H := Option.bind_eq_some_iff.mp H
          obtain ⟨t149, A160, H⟩ := H
          replace H : (if y146.length + t149.length < 140737488355328 then ((some (y146 ++ t149 : List Int)).bind fun y152 => ((foundryref22_number.f kj1 (IntKind.u64.wrap (a0_1)) 2).bind fun t155 => (if y152.length + t155.length < 140737488355328 then ((some (y152 ++ t155 : List Int)).bind fun y158 => (if y158.length < 140737488355328 then ((some (y158 ++ [(a0_2) % 256] : List Int)).bind fun y161 => ((foundryref22_number.f kj1 (IntKind.u64.wrap ((l0_3.length : Int))) 4).bind fun t164 => (if y161.length + t164.length < 140737488355328 then ((some (y161 ++ t164 : List Int)).bind fun y167 => (if (l0_3.length : Int) < 47 then (foundryref22_Blocks.j1 kj1 y167 (l0_3.length : Int) a0_0 a0_1 a0_2 l0_3) else (foundryref22_Blocks.j1 kj1 y167 47 a0_0 a0_1 a0_2 l0_3))) else (none)))) else (none))) else (none)))) else (none)) = some (r1, r2) := H
          have A16 := Aside0.mk A160
          clear A160
          by_cases c17 : y146.length + t149.length < 140737488355328
          · rw [if_pos c17] at H
            have LMc17 := Aside0.mk c17
            clear c17
            obtain ⟨y152, hy152⟩ : ∃ y_ : List Int, y_ = (y146 ++ t149) := ⟨_, rfl⟩
            replace H : ((foundryref22_number.f kj1 (IntKind.u64.wrap (a0_1)) 2).bind fun t155 => (if y152.length + t155.length < 140737488355328 then ((some (y152 ++ t155 : List Int)).bind fun y158 => (if y158.length < 140737488355328 then ((some (y158 ++ [(a0_2) % 256] : List Int)).bind fun y161 => ((foundryref22_number.f kj1 (IntKind.u64.wrap ((l0_3.length : Int))) 4).bind fun t164 => (if y161.length + t164.length < 140737488355328 then ((some (y161 ++ t164 : List Int)).bind fun y167 => (if (l0_3.length : Int) < 47 then (foundryref22_Blocks.j1 kj1 y167 (l0_3.length : Int) a0_0 a0_1 a0_2 l0_3) else (foundryref22_Blocks.j1 kj1 y167 47 a0_0 a0_1 a0_2 l0_3))) else (none)))) else (none))) else (none))) = some (r1, r2) := by first | (rw [hy152]; with_reducible exact H) | (have H2_ := (Option.bind_some _ _).symm.trans H; rw [hy152]; with_reducible exact H2_) | (have H2_ := (Option.bind_some _ _).symm.trans H; with_reducible exact H2_) | with_reducible exact H | (rw [hy152]; exact H) | exact H
            have Ny152 := Aside0.mk hy152
            clear hy152
            replace H := Option.bind_eq_some_iff.mp H
            obtain ⟨t155, A180, H⟩ := H
            replace H : (if y152.length + t155.length < 140737488355328 then ((some (y152 ++ t155 : List Int)).bind fun y158 => (if y158.length < 140737488355328 then ((some (y158 ++ [(a0_2) % 256] : List Int)).bind fun y161 => ((foundryref22_number.f kj1 (IntKind.u64.wrap ((l0_3.length : Int))) 4).bind fun t164 => (if y161.length + t164.length < 140737488355328 then ((some (y161 ++ t164 : List Int)).bind fun y167 => (if (l0_3.length : Int) < 47 then (foundryref22_Blocks.j1 kj1 y167 (l0_3.length : Int) a0_0 a0_1 a0_2 l0_3) else (foundryref22_Blocks.j1 kj1 y167 47 a0_0 a0_1 a0_2 l0_3))) else (none)))) else (none))) else (none)) = some (r1, r2) := H
            have A18 := Aside0.mk A180
            clear A180
            by_cases c19 : y152.length + t155.length < 140737488355328
            · rw [if_pos c19] at H
              have LMc19 := Aside0.mk c19
              clear c19
              obtain ⟨y158, hy158⟩ : ∃ y_ : List Int, y_ = (y152 ++ t155) := ⟨_, rfl⟩
              replace H : (if y158.length < 140737488355328 then ((some (y158 ++ [(a0_2) % 256] : List Int)).bind fun y161 => ((foundryref22_number.f kj1 (IntKind.u64.wrap ((l0_3.length : Int))) 4).bind fun t164 => (if y161.length + t164.length < 140737488355328 then ((some (y161 ++ t164 : List Int)).bind fun y167 => (if (l0_3.length : Int) < 47 then (foundryref22_Blocks.j1 kj1 y167 (l0_3.length : Int) a0_0 a0_1 a0_2 l0_3) else (foundryref22_Blocks.j1 kj1 y167 47 a0_0 a0_1 a0_2 l0_3))) else (none)))) else (none)) = some (r1, r2) := by first | (rw [hy158]; with_reducible exact H) | (have H2_ := (Option.bind_some _ _).symm.trans H; rw [hy158]; with_reducible exact H2_) | (have H2_ := (Option.bind_some _ _).symm.trans H; with_reducible exact H2_) | with_reducible exact H | (rw [hy158]; exact H) | exact H
              have Ny158 := Aside0.mk hy158
              clear hy158
              by_cases c20 : y158.length < 140737488355328
              · rw [if_pos c20] at H
                have LMc20 := Aside0.mk c20
                clear c20
                obtain ⟨y161, hy161⟩ : ∃ y_ : List Int, y_ = (y158 ++ [(a0_2) % 256]) := ⟨_, rfl⟩
                replace H : ((foundryref22_number.f kj1 (IntKind.u64.wrap ((l0_3.length : Int))) 4).bind fun t164 => (if y161.length + t164.length < 140737488355328 then ((some (y161 ++ t164 : List Int)).bind fun y167 => (if (l0_3.length : Int) < 47 then (foundryref22_Blocks.j1 kj1 y167 (l0_3.length : Int) a0_0 a0_1 a0_2 l0_3) else (foundryref22_Blocks.j1 kj1 y167 47 a0_0 a0_1 a0_2 l0_3))) else (none))) = some (r1, r2) := by first | (rw [hy161]; with_reducible exact H) | (have H2_ := (Option.bind_some _ _).symm.trans H; rw [hy161]; with_reducible exact H2_) | (have H2_ := (Option.bind_some _ _).symm.trans H; with_reducible exact H2_) | with_reducible exact H | (rw [hy161]; exact H) | exact H
                have Ny161 := Aside0.mk hy161
                clear hy161
                replace H := Option.bind_eq_some_iff.mp H
                obtain ⟨t164, A210, H⟩ := H
                replace H : (if y161.length + t164.length < 140737488355328 then ((some (y161 ++ t164 : List Int)).bind fun y167 => (if (l0_3.length : Int) < 47 then (foundryref22_Blocks.j1 kj1 y167 (l0_3.length : Int) a0_0 a0_1 a0_2 l0_3) else (foundryref22_Blocks.j1 kj1 y167 47 a0_0 a0_1 a0_2 l0_3))) else (none)) = some (r1, r2) := H
                have A21 := Aside0.mk A210
                clear A210
                by_cases c22 : y161.length + t164.length < 140737488355328
                · rw [if_pos c22] at H
                  have LMc22 := Aside0.mk c22
                  clear c22
                  obtain ⟨y167, hy167⟩ : ∃ y_ : List Int, y_ = (y161 ++ t164) := ⟨_, rfl⟩
                  replace H : (if (l0_3.length : Int) < 47 then (foundryref22_Blocks.j1 kj1 y167 (l0_3.length : Int) a0_0 a0_1 a0_2 l0_3) else (foundryref22_Blocks.j1 kj1 y167 47 a0_0 a0_1 a0_2 l0_3)) = some (r1, r2) := by first | (rw [hy167]; with_reducible exact H) | (have H2_ := (Option.bind_some _ _).symm.trans H; rw [hy167]; with_reducible exact H2_) | (have H2_ := (Option.bind_some _ _).symm.trans H; with_reducible exact H2_) | with_reducible exact H | (rw [hy167]; exact H) | exact H
                  have Ny167 := Aside0.mk hy167
                  clear hy167
                  have HC23 := Aside0.mk H
                  clear H
                  have hcz24_0 : wc.cell? ⟨gb145, 0, none⟩ = some (.int .u64 a0_0) := (blk_cell BK145.out 0).trans rfl
                  have hcz24_1 : wc.cell? ⟨gb145, 1, none⟩ = some (.int .i64 a0_1) := (blk_cell BK145.out 1).trans rfl
                  have hcz24_2 : wc.cell? ⟨gb145, 2, none⟩ = some (.int .i64 a0_2) := (blk_cell BK145.out 2).trans rfl
                  have hcz24_3 : wc.cell? ⟨gb145, 3, none⟩ = some (.slice A0_3 l0_3.length c0_3) := (blk_cell BK145.out 3).trans rfl
                  have hfz24_0 := blk_frozen BK145.out 0
                  have hfz24_1 := blk_frozen BK145.out 1
                  have hfz24_2 := blk_frozen BK145.out 2
                  have hfz24_3 := blk_frozen BK145.out 3
                  go_upto_if 65 with (first | ((with_reducible refine gate_dst (N := 36) rfl ?_); refine Kd.R_lit (Kd.int .u8) _ 5 ?hg (N := 36) ?hd (xs := ([102, 104] : List Int)) (inner := [.int .u8 102, .int .u8 104]) (ok := fun _ => True) (okp := fun _ => True) ?hr ?hp (fun _ hk => hk) trivial (Below.refl _ _) (Nat.le_refl _) (by simp) ?_; (case hd => rfl); (case hg => rfl); (case hr => first | (go_simp; done) | (go_simp; rfl)); (case hp => exact (Reps.one (show Kd.M (Kd.int .u8) _ _ _ 102 [.int .u8 102] from rfl) (Reps.one (show Kd.M (Kd.int .u8) _ _ _ 104 [.int .u8 104] from rfl) (Reps.none _ _)))); intro v147 w25 ho26 hb hg_ hnew_; clear hg_ hnew_; (first | rw [← Ny146.out] at ho26 | (simp only [Int.reduceToNat] at ho26; rw [← Ny146.out] at ho26)); have n0_ := Aside0.mk (Kd.R_lower (Kd.R_newM (M := fun k_ => (w.heap.size ≤ k_)) ho26 (below_size (by repeat (first | (with_reducible first | exact HB.out | apply below_alloc | apply pw_below_drewN | apply below_drew1 | refine below_set ?_ GE145.out) | exact HB.out))) (fun k_ h_ => h_)) (below_size (by repeat (first | (with_reducible first | exact HB.out | apply below_alloc | apply pw_below_drewN | apply below_drew1 | refine below_set ?_ GE145.out) | exact HB.out)))); have n1_ := Aside0.mk (blk_below (g := gb145) (o := .cells #[.int .u64 a0_0, .int .i64 a0_1, .int .i64 a0_2, .slice A0_3 l0_3.length c0_3] 28 (0, 0)) (by (with_reducible repeat (first | refine blk_drewN ?_ _ | refine blk_drew ?_ | refine blk_alloc ?_ _)); exact BK145.out) hb); have n2_ := Aside0.mk (below_step (by repeat (first | (with_reducible first | exact HB.out | apply below_alloc | apply pw_below_drewN | apply below_drew1 | refine below_set ?_ GE145.out) | exact HB.out)) hb); clear BK145; clear HB; have HO148 := n0_; have BK145 := n1_; have HB := n2_; clear n0_ n1_ n2_; clear hb ho26; have hcz27_0 : w25.cell? ⟨gb145, 0, none⟩ = some (.int .u64 a0_0) := (blk_cell BK145.out 0).trans rfl; have hcz27_1 : w25.cell? ⟨gb145, 1, none⟩ = some (.int .i64 a0_1) := (blk_cell BK145.out 1).trans rfl; have hcz27_2 : w25.cell? ⟨gb145, 2, none⟩ = some (.int .i64 a0_2) := (blk_cell BK145.out 2).trans rfl; have hcz27_3 : w25.cell? ⟨gb145, 3, none⟩ = some (.slice A0_3 l0_3.length c0_3) := (blk_cell BK145.out 3).trans rfl; have hfz27_0 := blk_frozen BK145.out 0; have hfz27_1 := blk_frozen BK145.out 1; have hfz27_2 := blk_frozen BK145.out 2; have hfz27_3 := blk_frozen BK145.out 3) | ((with_reducible refine gate_callee (f := 68) rfl ?_); refine goesL_ (some 40) rfl rfl Try.func68 (by kernel_rfl) rfl #[.int .u64 a0_0, .int .i64 8] rfl (by (try simp only [List.map_toArray, List.map_cons, List.map_nil]); first | done | rfl | (simp only [List.length_drop, List.length_take]; rfl)) ?_; (with_reducible refine (foundryref22_number.calls kj1 a0_0 8 t149 _ A16.out).mono ?_); rintro e w28 ⟨v150, rfl, ho0, hb⟩; refine ⟨_, rfl, ?_⟩; have n0_ := Aside0.mk (Kd.R_elder' (by (with_reducible repeat (first | apply Kd.R_alloc | apply Kd.R_drewN | apply Kd.R_drew)); exact HO148.out) (Kd.R_base ho0) hb); have n1_ := Aside0.mk (Kd.R_lower (Kd.R_new' (Kd.R_newM (M := fun k_ => (w.heap.size ≤ k_)) ho0 (below_size (by repeat (first | (with_reducible first | exact HB.out | apply below_alloc | apply pw_below_drewN | apply below_drew1 | refine below_set ?_ GE145.out) | exact HB.out))) (fun k_ h_ => h_)) (Kd.R_lt (by (with_reducible repeat (first | apply Kd.R_alloc | apply Kd.R_drewN | apply Kd.R_drew)); exact HO148.out))) (below_size (by repeat (first | (with_reducible first | exact HB.out | apply below_alloc | apply pw_below_drewN | apply below_drew1 | refine below_set ?_ GE145.out) | exact HB.out)))); have n2_ := Aside0.mk (blk_below (g := gb145) (o := .cells #[.int .u64 a0_0, .int .i64 a0_1, .int .i64 a0_2, .slice A0_3 l0_3.length c0_3] 28 (0, 0)) (by (with_reducible repeat (first | refine blk_drewN ?_ _ | refine blk_drew ?_ | refine blk_alloc ?_ _)); exact BK145.out) hb); have n3_ := Aside0.mk (below_step (by repeat (first | (with_reducible first | exact HB.out | apply below_alloc | apply pw_below_drewN | apply below_drew1 | refine below_set ?_ GE145.out) | exact HB.out)) hb); clear HO148; clear BK145; clear HB; have HO148 := n0_; have HO151 := n1_; have BK145 := n2_; have HB := n3_; clear n0_ n1_ n2_ n3_; (try clear hb); (try clear hb2); (try clear hk); (try clear hi); (try clear ho0); obtain ⟨Ao30, co30, eo30⟩ := Kd.R_slice HO151.out; subst eo30) | ((with_reducible refine gate_builtin (b := .append) (xs := #[.tmp 37, .tmp 40]) rfl ?_); at_builtin; refine Kd.R_append_rows (Kd.int .u8) (w0 := w) w.heap.size rfl (.tmp 37) (.tmp 40) 22 5 (.int .u8 0) 1 rfl Try.underlying22 info5 rfl (by decide) (by omega) v147 y146 t149 _ _ _ (fun k_ => (w.heap.size ≤ k_) ∧ some k_ ≠ (.slice Ao30 t149.length co30 : Value).ownBlock) (fun _ => False) rfl rfl ?aO ?aR (fun _ _ h => h) (fun _ h => h.elim) ?aF ?aB ?aS ?aL ?_; (case aR => repeat (first | exact (Kd.R_reads' HO151.out).2.2 | (with_reducible refine Kd.C_alloc ?_ _) | (with_reducible refine Kd.C_drewN ?_ _) | (with_reducible refine Kd.C_drew ?_))); (case aB => exact (by repeat (first | (with_reducible first | exact HB.out | apply below_alloc | apply pw_below_drewN | apply below_drew1 | refine below_set ?_ GE145.out) | exact HB.out))); (case aF => exact (fun k_ hk => ⟨(Nat.le_trans (below_size (by repeat (first | (with_reducible first | exact HB.out | apply below_alloc | apply pw_below_drewN | apply below_drew1 | refine below_set ?_ GE145.out) | exact HB.out))) hk), Kd.fresh' (Kd.R_lt (by (with_reducible repeat (first | apply Kd.R_alloc | apply Kd.R_drewN | apply Kd.R_drew)); exact HO151.out)) k_ hk⟩)); (case aO => exact (by (with_reducible repeat (first | apply Kd.R_alloc | apply Kd.R_drewN | apply Kd.R_drew)); exact Kd.R_mono HO148.out (fun _ hk => ⟨hk.1.1, hk.2⟩))); (case aS => exact (below_size (by repeat (first | (with_reducible first | exact HB.out | apply below_alloc | apply pw_below_drewN | apply below_drew1 | refine below_set ?_ GE145.out) | exact HB.out)))); (case aL => have := LMc17.out; omega); intro v153 w29 ho hb hg hat; rw [← Ny152.out] at ho; have n0_ := Aside0.mk (blk_grown (g := gb145) (o := .cells #[.int .u64 a0_0, .int .i64 a0_1, .int .i64 a0_2, .slice A0_3 l0_3.length c0_3] 28 (0, 0)) (by (with_reducible repeat (first | refine blk_drewN ?_ _ | refine blk_drew ?_ | refine blk_alloc ?_ _)); exact BK145.out) hg (Kd.R_ne HO148.out BK145.out (by decide))); have n1_ := Aside0.mk (Kd.R_after (ok := (fun k_ => (w.heap.size ≤ k_))) (by (with_reducible repeat (first | apply Kd.R_alloc | apply Kd.R_drewN | apply Kd.R_drew)); exact Kd.R_mono HO151.out (fun _ hk => ⟨hk.1.1, hk.2⟩)) hg hat); have n2_ := Aside0.mk (hb); have n3_ := Aside0.mk (ho); clear BK145; clear HO151; clear HB; clear HO148; have BK145 := n0_; have HO151 := n1_; have HB := n2_; have HO154 := n3_; clear n0_ n1_ n2_ n3_; clear ho hb hg hat; have hcz31_0 : w29.cell? ⟨gb145, 0, none⟩ = some (.int .u64 a0_0) := (blk_cell BK145.out 0).trans rfl; have hcz31_1 : w29.cell? ⟨gb145, 1, none⟩ = some (.int .i64 a0_1) := (blk_cell BK145.out 1).trans rfl; have hcz31_2 : w29.cell? ⟨gb145, 2, none⟩ = some (.int .i64 a0_2) := (blk_cell BK145.out 2).trans rfl; have hcz31_3 : w29.cell? ⟨gb145, 3, none⟩ = some (.slice A0_3 l0_3.length c0_3) := (blk_cell BK145.out 3).trans rfl; have hfz31_0 := blk_frozen BK145.out 0; have hfz31_1 := blk_frozen BK145.out 1; have hfz31_2 := blk_frozen BK145.out 2; have hfz31_3 := blk_frozen BK145.out 3) | ((with_reducible refine gate_callee (f := 68) rfl ?_); refine goesL_ (some 46) rfl rfl Try.func68 (by kernel_rfl) rfl #[.int .u64 (IntKind.u64.wrap (a0_1)), .int .i64 2] rfl (by (try simp only [List.map_toArray, List.map_cons, List.map_nil]); first | done | rfl | (simp only [List.length_drop, List.length_take]; rfl)) ?_; (with_reducible refine (foundryref22_number.calls kj1 (IntKind.u64.wrap (a0_1)) 2 t155 _ A18.out).mono ?_); rintro e w32 ⟨v156, rfl, ho0, hb⟩; refine ⟨_, rfl, ?_⟩; have n0_ := Aside0.mk (Kd.R_elder' (by (with_reducible repeat (first | apply Kd.R_alloc | apply Kd.R_drewN | apply Kd.R_drew)); exact HO151.out) (Kd.R_base ho0) hb); have n1_ := Aside0.mk (Kd.R_elder' (by (with_reducible repeat (first | apply Kd.R_alloc | apply Kd.R_drewN | apply Kd.R_drew)); exact HO154.out) (Kd.R_base ho0) hb); have n2_ := Aside0.mk (Kd.R_lower (Kd.R_new' (Kd.R_new' (Kd.R_newM (M := fun k_ => (w.heap.size ≤ k_)) ho0 (below_size (by repeat (first | (with_reducible first | exact HB.out | apply below_alloc | apply pw_below_drewN | apply below_drew1 | refine below_set ?_ GE145.out) | exact HB.out))) (fun k_ h_ => h_)) (Kd.R_lt (by (with_reducible repeat (first | apply Kd.R_alloc | apply Kd.R_drewN | apply Kd.R_drew)); exact HO151.out))) (Kd.R_lt (by (with_reducible repeat (first | apply Kd.R_alloc | apply Kd.R_drewN | apply Kd.R_drew)); exact HO154.out))) (below_size (by repeat (first | (with_reducible first | exact HB.out | apply below_alloc | apply pw_below_drewN | apply below_drew1 | refine below_set ?_ GE145.out) | exact HB.out)))); have n3_ := Aside0.mk (blk_below (g := gb145) (o := .cells #[.int .u64 a0_0, .int .i64 a0_1, .int .i64 a0_2, .slice A0_3 l0_3.length c0_3] 28 (0, 0)) (by (with_reducible repeat (first | refine blk_drewN ?_ _ | refine blk_drew ?_ | refine blk_alloc ?_ _)); exact BK145.out) hb); have n4_ := Aside0.mk (below_step (by repeat (first | (with_reducible first | exact HB.out | apply below_alloc | apply pw_below_drewN | apply below_drew1 | refine below_set ?_ GE145.out) | exact HB.out)) hb); clear HO151; clear HO154; clear BK145; clear HB; have HO151 := n0_; have HO154 := n1_; have HO157 := n2_; have BK145 := n3_; have HB := n4_; clear n0_ n1_ n2_ n3_ n4_; (try clear hb); (try clear hb2); (try clear hk); (try clear hi); (try clear ho0); obtain ⟨Ao34, co34, eo34⟩ := Kd.R_slice HO157.out; subst eo34) | ((with_reducible refine gate_builtin (b := .append) (xs := #[.tmp 42, .tmp 46]) rfl ?_); at_builtin; refine Kd.R_append_rows (Kd.int .u8) (w0 := w) w.heap.size rfl (.tmp 42) (.tmp 46) 22 5 (.int .u8 0) 1 rfl Try.underlying22 info5 rfl (by decide) (by omega) v153 y152 t155 _ _ _ (fun k_ => (w.heap.size ≤ k_) ∧ some k_ ≠ (.slice Ao30 t149.length co30 : Value).ownBlock ∧ some k_ ≠ (.slice Ao34 t155.length co34 : Value).ownBlock) (fun _ => False) rfl rfl ?aO ?aR (fun _ _ h => h) (fun _ h => h.elim) ?aF ?aB ?aS ?aL ?_; (case aR => repeat (first | exact (Kd.R_reads' HO157.out).2.2 | (with_reducible refine Kd.C_alloc ?_ _) | (with_reducible refine Kd.C_drewN ?_ _) | (with_reducible refine Kd.C_drew ?_))); (case aB => exact (by repeat (first | (with_reducible first | exact HB.out | apply below_alloc | apply pw_below_drewN | apply below_drew1 | refine below_set ?_ GE145.out) | exact HB.out))); (case aF => exact (fun k_ hk => ⟨(Nat.le_trans (below_size (by repeat (first | (with_reducible first | exact HB.out | apply below_alloc | apply pw_below_drewN | apply below_drew1 | refine below_set ?_ GE145.out) | exact HB.out))) hk), Kd.fresh' (Kd.R_lt (by (with_reducible repeat (first | apply Kd.R_alloc | apply Kd.R_drewN | apply Kd.R_drew)); exact HO151.out)) k_ hk, Kd.fresh' (Kd.R_lt (by (with_reducible repeat (first | apply Kd.R_alloc | apply Kd.R_drewN | apply Kd.R_drew)); exact HO157.out)) k_ hk⟩)); (case aO => exact (by (with_reducible repeat (first | apply Kd.R_alloc | apply Kd.R_drewN | apply Kd.R_drew)); exact Kd.R_mono HO154.out (fun _ hk => ⟨hk.1.1, ⟨hk.1.2, hk.2⟩⟩))); (case aS => exact (below_size (by repeat (first | (with_reducible first | exact HB.out | apply below_alloc | apply pw_below_drewN | apply below_drew1 | refine below_set ?_ GE145.out) | exact HB.out)))); (case aL => have := LMc19.out; omega); intro v159 w33 ho hb hg hat; rw [← Ny158.out] at ho; have n0_ := Aside0.mk (blk_grown (g := gb145) (o := .cells #[.int .u64 a0_0, .int .i64 a0_1, .int .i64 a0_2, .slice A0_3 l0_3.length c0_3] 28 (0, 0)) (by (with_reducible repeat (first | refine blk_drewN ?_ _ | refine blk_drew ?_ | refine blk_alloc ?_ _)); exact BK145.out) hg (Kd.R_ne HO154.out BK145.out (by decide))); have n1_ := Aside0.mk (Kd.R_after (ok := (fun k_ => (w.heap.size ≤ k_) ∧ some k_ ≠ (.slice Ao34 t155.length co34 : Value).ownBlock)) (by (with_reducible repeat (first | apply Kd.R_alloc | apply Kd.R_drewN | apply Kd.R_drew)); exact Kd.R_mono HO151.out (fun _ hk => ⟨⟨hk.1.1, hk.2⟩, hk.1.2⟩)) hg hat); have n2_ := Aside0.mk (Kd.R_after (ok := (fun k_ => (w.heap.size ≤ k_) ∧ some k_ ≠ (.slice Ao30 t149.length co30 : Value).ownBlock)) (by (with_reducible repeat (first | apply Kd.R_alloc | apply Kd.R_drewN | apply Kd.R_drew)); exact Kd.R_mono HO157.out (fun _ hk => ⟨⟨hk.1.1.1, hk.1.2⟩, hk.2⟩)) hg hat); have n3_ := Aside0.mk (hb); have n4_ := Aside0.mk (ho); clear BK145; clear HO151; clear HO157; clear HB; clear HO154; have BK145 := n0_; have HO151 := n1_; have HO157 := n2_; have HB := n3_; have HO160 := n4_; clear n0_ n1_ n2_ n3_ n4_; clear ho hb hg hat; have hcz35_0 : w33.cell? ⟨gb145, 0, none⟩ = some (.int .u64 a0_0) := (blk_cell BK145.out 0).trans rfl; have hcz35_1 : w33.cell? ⟨gb145, 1, none⟩ = some (.int .i64 a0_1) := (blk_cell BK145.out 1).trans rfl; have hcz35_2 : w33.cell? ⟨gb145, 2, none⟩ = some (.int .i64 a0_2) := (blk_cell BK145.out 2).trans rfl; have hcz35_3 : w33.cell? ⟨gb145, 3, none⟩ = some (.slice A0_3 l0_3.length c0_3) := (blk_cell BK145.out 3).trans rfl; have hfz35_0 := blk_frozen BK145.out 0; have hfz35_1 := blk_frozen BK145.out 1; have hfz35_2 := blk_frozen BK145.out 2; have hfz35_3 := blk_frozen BK145.out 3) | ((with_reducible refine gate_builtin (b := .append) (xs := #[.tmp 48, .tmp 52]) rfl ?_); at_builtin; refine Kd.R_append (Kd.int .u8) (w0 := w) w.heap.size rfl (.tmp 48) (.tmp 52) 22 5 (.int .u8 0) 1 rfl Try.underlying22 info5 rfl (by decide) (by omega) v159 y158 ((a0_2) % 256) [.int .u8 ((a0_2) % 256)] (fun k_ => (w.heap.size ≤ k_) ∧ some k_ ≠ (.slice Ao30 t149.length co30 : Value).ownBlock ∧ some k_ ≠ (.slice Ao34 t155.length co34 : Value).ownBlock) (fun _ => False) rfl rfl ?aP (fun _ hk => hk.elim) ?aF ?aO ?aB ?aS ?aL ?_; (case aP => exact rfl); (case aB => exact (by repeat (first | (with_reducible first | exact HB.out | apply below_alloc | apply pw_below_drewN | apply below_drew1 | refine below_set ?_ GE145.out) | exact HB.out))); (case aF => exact (fun k_ hk => ⟨(Nat.le_trans (below_size (by repeat (first | (with_reducible first | exact HB.out | apply below_alloc | apply pw_below_drewN | apply below_drew1 | refine below_set ?_ GE145.out) | exact HB.out))) hk), Kd.fresh' (Kd.R_lt (by (with_reducible repeat (first | apply Kd.R_alloc | apply Kd.R_drewN | apply Kd.R_drew)); exact HO151.out)) k_ hk, Kd.fresh' (Kd.R_lt (by (with_reducible repeat (first | apply Kd.R_alloc | apply Kd.R_drewN | apply Kd.R_drew)); exact HO157.out)) k_ hk⟩)); (case aO => exact (by (with_reducible repeat (first | apply Kd.R_alloc | apply Kd.R_drewN | apply Kd.R_drew)); exact HO160.out)); (case aS => exact (below_size (by repeat (first | (with_reducible first | exact HB.out | apply below_alloc | apply pw_below_drewN | apply below_drew1 | refine below_set ?_ GE145.out) | exact HB.out)))); (case aL => have := LMc20.out; omega); intro v162 w36 ho hb hg hat; rw [← Ny161.out] at ho; have n0_ := Aside0.mk (blk_grown (g := gb145) (o := .cells #[.int .u64 a0_0, .int .i64 a0_1, .int .i64 a0_2, .slice A0_3 l0_3.length c0_3] 28 (0, 0)) (by (with_reducible repeat (first | refine blk_drewN ?_ _ | refine blk_drew ?_ | refine blk_alloc ?_ _)); exact BK145.out) hg (Kd.R_ne HO160.out BK145.out (by decide))); have n1_ := Aside0.mk (Kd.R_after (ok := (fun k_ => (w.heap.size ≤ k_) ∧ some k_ ≠ (.slice Ao34 t155.length co34 : Value).ownBlock)) (by (with_reducible repeat (first | apply Kd.R_alloc | apply Kd.R_drewN | apply Kd.R_drew)); exact HO151.out) hg hat); have n2_ := Aside0.mk (Kd.R_after (ok := (fun k_ => (w.heap.size ≤ k_) ∧ some k_ ≠ (.slice Ao30 t149.length co30 : Value).ownBlock)) (by (with_reducible repeat (first | apply Kd.R_alloc | apply Kd.R_drewN | apply Kd.R_drew)); exact HO157.out) hg hat); have n3_ := Aside0.mk (hb); have n4_ := Aside0.mk (ho); clear BK145; clear HO151; clear HO157; clear HB; clear HO160; have BK145 := n0_; have HO151 := n1_; have HO157 := n2_; have HB := n3_; have HO163 := n4_; clear n0_ n1_ n2_ n3_ n4_; clear ho hb hg hat; have hcz37_0 : w36.cell? ⟨gb145, 0, none⟩ = some (.int .u64 a0_0) := (blk_cell BK145.out 0).trans rfl; have hcz37_1 : w36.cell? ⟨gb145, 1, none⟩ = some (.int .i64 a0_1) := (blk_cell BK145.out 1).trans rfl; have hcz37_2 : w36.cell? ⟨gb145, 2, none⟩ = some (.int .i64 a0_2) := (blk_cell BK145.out 2).trans rfl; have hcz37_3 : w36.cell? ⟨gb145, 3, none⟩ = some (.slice A0_3 l0_3.length c0_3) := (blk_cell BK145.out 3).trans rfl; have hfz37_0 := blk_frozen BK145.out 0; have hfz37_1 := blk_frozen BK145.out 1; have hfz37_2 := blk_frozen BK145.out 2; have hfz37_3 := blk_frozen BK145.out 3) | ((with_reducible refine gate_callee (f := 68) rfl ?_); refine goesL_ (some 59) rfl rfl Try.func68 (by kernel_rfl) rfl #[.int .u64 (IntKind.u64.wrap ((l0_3.length : Int))), .int .i64 4] rfl (by (try simp only [List.map_toArray, List.map_cons, List.map_nil]); first | done | rfl | (simp only [List.length_drop, List.length_take]; rfl)) ?_; (with_reducible refine (foundryref22_number.calls kj1 (IntKind.u64.wrap ((l0_3.length : Int))) 4 t164 _ A21.out).mono ?_); rintro e w38 ⟨v165, rfl, ho0, hb⟩; refine ⟨_, rfl, ?_⟩; have n0_ := Aside0.mk (Kd.R_elder' (by (with_reducible repeat (first | apply Kd.R_alloc | apply Kd.R_drewN | apply Kd.R_drew)); exact HO151.out) (Kd.R_base ho0) hb); have n1_ := Aside0.mk (Kd.R_elder' (by (with_reducible repeat (first | apply Kd.R_alloc | apply Kd.R_drewN | apply Kd.R_drew)); exact HO157.out) (Kd.R_base ho0) hb); have n2_ := Aside0.mk (Kd.R_elder' (by (with_reducible repeat (first | apply Kd.R_alloc | apply Kd.R_drewN | apply Kd.R_drew)); exact HO163.out) (Kd.R_base ho0) hb); have n3_ := Aside0.mk (Kd.R_lower (Kd.R_new' (Kd.R_new' (Kd.R_new' (Kd.R_newM (M := fun k_ => (w.heap.size ≤ k_)) ho0 (below_size (by repeat (first | (with_reducible first | exact HB.out | apply below_alloc | apply pw_below_drewN | apply below_drew1 | refine below_set ?_ GE145.out) | exact HB.out))) (fun k_ h_ => h_)) (Kd.R_lt (by (with_reducible repeat (first | apply Kd.R_alloc | apply Kd.R_drewN | apply Kd.R_drew)); exact HO151.out))) (Kd.R_lt (by (with_reducible repeat (first | apply Kd.R_alloc | apply Kd.R_drewN | apply Kd.R_drew)); exact HO157.out))) (Kd.R_lt (by (with_reducible repeat (first | apply Kd.R_alloc | apply Kd.R_drewN | apply Kd.R_drew)); exact HO163.out))) (below_size (by repeat (first | (with_reducible first | exact HB.out | apply below_alloc | apply pw_below_drewN | apply below_drew1 | refine below_set ?_ GE145.out) | exact HB.out)))); have n4_ := Aside0.mk (blk_below (g := gb145) (o := .cells #[.int .u64 a0_0, .int .i64 a0_1, .int .i64 a0_2, .slice A0_3 l0_3.length c0_3] 28 (0, 0)) (by (with_reducible repeat (first | refine blk_drewN ?_ _ | refine blk_drew ?_ | refine blk_alloc ?_ _)); exact BK145.out) hb); have n5_ := Aside0.mk (below_step (by repeat (first | (with_reducible first | exact HB.out | apply below_alloc | apply pw_below_drewN | apply below_drew1 | refine below_set ?_ GE145.out) | exact HB.out)) hb); clear HO151; clear HO157; clear HO163; clear BK145; clear HB; have HO151 := n0_; have HO157 := n1_; have HO163 := n2_; have HO166 := n3_; have BK145 := n4_; have HB := n5_; clear n0_ n1_ n2_ n3_ n4_ n5_; (try clear hb); (try clear hb2); (try clear hk); (try clear hi); (try clear ho0); obtain ⟨Ao40, co40, eo40⟩ := Kd.R_slice HO166.out; subst eo40) | ((with_reducible refine gate_builtin (b := .append) (xs := #[.tmp 54, .tmp 59]) rfl ?_); at_builtin; refine Kd.R_append_rows (Kd.int .u8) (w0 := w) w.heap.size rfl (.tmp 54) (.tmp 59) 22 5 (.int .u8 0) 1 rfl Try.underlying22 info5 rfl (by decide) (by omega) v162 y161 t164 _ _ _ (fun k_ => (w.heap.size ≤ k_) ∧ some k_ ≠ (.slice Ao30 t149.length co30 : Value).ownBlock ∧ some k_ ≠ (.slice Ao34 t155.length co34 : Value).ownBlock ∧ some k_ ≠ (.slice Ao40 t164.length co40 : Value).ownBlock) (fun _ => False) rfl rfl ?aO ?aR (fun _ _ h => h) (fun _ h => h.elim) ?aF ?aB ?aS ?aL ?_; (case aR => repeat (first | exact (Kd.R_reads' HO166.out).2.2 | (with_reducible refine Kd.C_alloc ?_ _) | (with_reducible refine Kd.C_drewN ?_ _) | (with_reducible refine Kd.C_drew ?_))); (case aB => exact (by repeat (first | (with_reducible first | exact HB.out | apply below_alloc | apply pw_below_drewN | apply below_drew1 | refine below_set ?_ GE145.out) | exact HB.out))); (case aF => exact (fun k_ hk => ⟨(Nat.le_trans (below_size (by repeat (first | (with_reducible first | exact HB.out | apply below_alloc | apply pw_below_drewN | apply below_drew1 | refine below_set ?_ GE145.out) | exact HB.out))) hk), Kd.fresh' (Kd.R_lt (by (with_reducible repeat (first | apply Kd.R_alloc | apply Kd.R_drewN | apply Kd.R_drew)); exact HO151.out)) k_ hk, Kd.fresh' (Kd.R_lt (by (with_reducible repeat (first | apply Kd.R_alloc | apply Kd.R_drewN | apply Kd.R_drew)); exact HO157.out)) k_ hk, Kd.fresh' (Kd.R_lt (by (with_reducible repeat (first | apply Kd.R_alloc | apply Kd.R_drewN | apply Kd.R_drew)); exact HO166.out)) k_ hk⟩)); (case aO => exact (by (with_reducible repeat (first | apply Kd.R_alloc | apply Kd.R_drewN | apply Kd.R_drew)); exact Kd.R_mono HO163.out (fun _ hk => ⟨hk.1.1, ⟨hk.1.2.1, ⟨hk.1.2.2, hk.2⟩⟩⟩))); (case aS => exact (below_size (by repeat (first | (with_reducible first | exact HB.out | apply below_alloc | apply pw_below_drewN | apply below_drew1 | refine below_set ?_ GE145.out) | exact HB.out)))); (case aL => have := LMc22.out; omega); intro v168 w39 ho hb hg hat; rw [← Ny167.out] at ho; have n0_ := Aside0.mk (blk_grown (g := gb145) (o := .cells #[.int .u64 a0_0, .int .i64 a0_1, .int .i64 a0_2, .slice A0_3 l0_3.length c0_3] 28 (0, 0)) (by (with_reducible repeat (first | refine blk_drewN ?_ _ | refine blk_drew ?_ | refine blk_alloc ?_ _)); exact BK145.out) hg (Kd.R_ne HO163.out BK145.out (by decide))); have n1_ := Aside0.mk (Kd.R_after (ok := (fun k_ => (w.heap.size ≤ k_) ∧ some k_ ≠ (.slice Ao34 t155.length co34 : Value).ownBlock ∧ some k_ ≠ (.slice Ao40 t164.length co40 : Value).ownBlock)) (by (with_reducible repeat (first | apply Kd.R_alloc | apply Kd.R_drewN | apply Kd.R_drew)); exact Kd.R_mono HO151.out (fun _ hk => ⟨⟨hk.1.1.1, ⟨hk.1.1.2, hk.2⟩⟩, hk.1.2⟩)) hg hat); have n2_ := Aside0.mk (Kd.R_after (ok := (fun k_ => (w.heap.size ≤ k_) ∧ some k_ ≠ (.slice Ao30 t149.length co30 : Value).ownBlock ∧ some k_ ≠ (.slice Ao40 t164.length co40 : Value).ownBlock)) (by (with_reducible repeat (first | apply Kd.R_alloc | apply Kd.R_drewN | apply Kd.R_drew)); exact Kd.R_mono HO157.out (fun _ hk => ⟨⟨hk.1.1.1, ⟨hk.1.1.2, hk.2⟩⟩, hk.1.2⟩)) hg hat); have n3_ := Aside0.mk (Kd.R_after (ok := (fun k_ => (w.heap.size ≤ k_) ∧ some k_ ≠ (.slice Ao30 t149.length co30 : Value).ownBlock ∧ some k_ ≠ (.slice Ao34 t155.length co34 : Value).ownBlock)) (by (with_reducible repeat (first | apply Kd.R_alloc | apply Kd.R_drewN | apply Kd.R_drew)); exact Kd.R_mono HO166.out (fun _ hk => ⟨⟨hk.1.1.1.1, ⟨hk.1.1.2, hk.1.2⟩⟩, hk.2⟩)) hg hat); have n4_ := Aside0.mk (hb); have n5_ := Aside0.mk (ho); clear BK145; clear HO151; clear HO157; clear HO166; clear HB; clear HO163; have BK145 := n0_; have HO151 := n1_; have HO157 := n2_; have HO166 := n3_; have HB := n4_; have HO169 := n5_; clear n0_ n1_ n2_ n3_ n4_ n5_; clear ho hb hg hat; have hcz41_0 : w39.cell? ⟨gb145, 0, none⟩ = some (.int .u64 a0_0) := (blk_cell BK145.out 0).trans rfl; have hcz41_1 : w39.cell? ⟨gb145, 1, none⟩ = some (.int .i64 a0_1) := (blk_cell BK145.out 1).trans rfl; have hcz41_2 : w39.cell? ⟨gb145, 2, none⟩ = some (.int .i64 a0_2) := (blk_cell BK145.out 2).trans rfl; have hcz41_3 : w39.cell? ⟨gb145, 3, none⟩ = some (.slice A0_3 l0_3.length c0_3) := (blk_cell BK145.out 3).trans rfl; have hfz41_0 := blk_frozen BK145.out 0; have hfz41_1 := blk_frozen BK145.out 1; have hfz41_2 := blk_frozen BK145.out 2; have hfz41_3 := blk_frozen BK145.out 3))
                  (try simp only [Act.put, List.setIfInBounds_toArray, List.set_cons_zero, List.set_cons_succ])
                  go_cut [5] (fun v5 wc => ∃ (kq : Nat) (x5_22 : Int), v5 = .int .i64 x5_22 ∧ Aside0 (foundryref22_Blocks.j1 kq y167 x5_22 a0_0 a0_1 a0_2 l0_3 = some (r1, r2)) ∧ Aside0 (kq ≤ kj1) ∧ Aside0 (Kd.R (Kd.int .u8) 5 wc w.heap.size (fun k_ => (w.heap.size ≤ k_)) v168 y167) ∧ Aside0 (wc.heap[gb145]? = some (.cells #[.int .u64 a0_0, .int .i64 a0_1, .int .i64 a0_2, (.slice A0_3 l0_3.length c0_3)] 28 (0, 0))) ∧ Aside0 (Below w.heap.size w wc))
                  case first =>
                    have H := HC23.out
                    clear HC23
                    by_cases c42 : (l0_3.length : Int) < 47
                    · rw [if_pos c42] at H
                      have c42b0 : decide ((l0_3.length : Int) < 47) = true := decide_eq_true c42
                      have c42b1 : decide (l0_3.length < 47) = true := decide_eq_true (by omega)
                      clear c42
                      (first | rw [c42b0] | (simp only [i64_w, i32_w]; rw [c42b0]) | skip)
                      have H' := Aside0.mk H
                      clear H
                      have hcz43_0 : w39.cell? ⟨gb145, 0, none⟩ = some (.int .u64 a0_0) := (blk_cell BK145.out 0).trans rfl
                      have hcz43_1 : w39.cell? ⟨gb145, 1, none⟩ = some (.int .i64 a0_1) := (blk_cell BK145.out 1).trans rfl
                      have hcz43_2 : w39.cell? ⟨gb145, 2, none⟩ = some (.int .i64 a0_2) := (blk_cell BK145.out 2).trans rfl
                      have hcz43_3 : w39.cell? ⟨gb145, 3, none⟩ = some (.slice A0_3 l0_3.length c0_3) := (blk_cell BK145.out 3).trans rfl
                      have hfz43_0 := blk_frozen BK145.out 0
                      have hfz43_1 := blk_frozen BK145.out 1
                      have hfz43_2 := blk_frozen BK145.out 2
                      have hfz43_3 := blk_frozen BK145.out 3
                      go_wp2
                      go_meet
                      case rel => exact ⟨_, ((l0_3.length : Int)), (by first | rfl | (simp; done) | (simp [*]; done)), H', ⟨by have := HJ1.out; first | omega | exact Nat.le_refl _⟩, ⟨by (with_reducible repeat (first | apply Kd.R_alloc | apply Kd.R_drewN | apply Kd.R_drew)); exact Kd.R_mono HO169.out (fun _ hk => hk.1)⟩, ⟨by (with_reducible repeat (first | refine blk_drewN ?_ _ | refine blk_drew ?_ | refine blk_alloc ?_ _)); exact BK145.out⟩, ⟨by repeat (first | (with_reducible first | exact HB.out | apply below_alloc | apply pw_below_drewN | apply below_drew1 | refine below_set ?_ GE145.out) | exact HB.out)⟩⟩
                    · rw [if_neg c42] at H
                      have c42b0 : decide ((l0_3.length : Int) < 47) = false := decide_eq_false c42
                      have c42b1 : decide (l0_3.length < 47) = false := decide_eq_false (by omega)
                      clear c42
                      (first | rw [c42b0] | (simp only [i64_w, i32_w]; rw [c42b0]) | skip)
                      have H' := Aside0.mk H
                      clear H
                      go_wp2
                      go_meet
                      case rel => exact ⟨_, (47), (by first | rfl | (simp; done) | (simp [*]; done)), H', ⟨by have := HJ1.out; first | omega | exact Nat.le_refl _⟩, ⟨by (with_reducible repeat (first | apply Kd.R_alloc | apply Kd.R_drewN | apply Kd.R_drew)); exact Kd.R_mono HO169.out (fun _ hk => hk.1)⟩, ⟨by (with_reducible repeat (first | refine blk_drewN ?_ _ | refine blk_drew ?_ | refine blk_alloc ?_ _)); exact BK145.out⟩, ⟨by repeat (first | (with_reducible first | exact HB.out | apply below_alloc | apply pw_below_drewN | apply below_drew1 | refine below_set ?_ GE145.out) | exact HB.out)⟩⟩
                  case rest =>
                    clear HC23
                    try clear c1
                    try clear c2
                    try clear p2
                    try clear c4
                    try clear c4b0
                    try clear c4b1
                    try clear c6
                    try clear c6b0
                    try clear c8
                    try clear c8b0
                    try clear c10
                    try clear c10b0
                    try clear c13
                    try clear c14
                    try clear c14b0
                    try clear c14b1
                    try clear c17
                    try clear c19
                    try clear c20
                    try clear c22
                    try clear c25
                    try clear c42
                    try clear c42b0
                    try clear c42b1
                    try clear hcz11_0
                    try clear hcz11_1
                    try clear hcz11_2
                    try clear hcz11_3
                    try clear hcz12_0
                    try clear hcz12_1
                    try clear hcz12_2
                    try clear hcz12_3
                    try clear hcz15_0
                    try clear hcz15_1
                    try clear hcz15_2
                    try clear hcz15_3
                    try clear hcz24_0
                    try clear hcz24_1
                    try clear hcz24_2
                    try clear hcz24_3
                    try clear hcz27_0
                    try clear hcz27_1
                    try clear hcz27_2
                    try clear hcz27_3
                    try clear hcz31_0
                    try clear hcz31_1
                    try clear hcz31_2
                    try clear hcz31_3
                    try clear hcz35_0
                    try clear hcz35_1
                    try clear hcz35_2
                    try clear hcz35_3
                    try clear hcz37_0
                    try clear hcz37_1
                    try clear hcz37_2
                    try clear hcz37_3
                    try clear hcz41_0
                    try clear hcz41_1
                    try clear hcz41_2
                    try clear hcz41_3
                    try clear hcz43_0
                    try clear hcz43_1
                    try clear hcz43_2
                    try clear hcz43_3
                    try clear hcz5_0
                    try clear hcz5_1
                    try clear hcz5_2
                    try clear hcz5_3
                    try clear hcz7_0
                    try clear hcz7_1
                    try clear hcz7_2
                    try clear hcz7_3
                    try clear hcz9_0
                    try clear hcz9_1
                    try clear hcz9_2
                    try clear hcz9_3
                    try clear hfz11_0
                    try clear hfz11_1
                    try clear hfz11_2
                    try clear hfz11_3
                    try clear hfz12_0
                    try clear hfz12_1
                    try clear hfz12_2
                    try clear hfz12_3
                    try clear hfz15_0
                    try clear hfz15_1
                    try clear hfz15_2
                    try clear hfz15_3
                    try clear hfz24_0
                    try clear hfz24_1
                    try clear hfz24_2
                    try clear hfz24_3
                    try clear hfz27_0
                    try clear hfz27_1
                    try clear hfz27_2
                    try clear hfz27_3
                    try clear hfz31_0
                    try clear hfz31_1
                    try clear hfz31_2
                    try clear hfz31_3
                    try clear hfz35_0
                    try clear hfz35_1
                    try clear hfz35_2
                    try clear hfz35_3
                    try clear hfz37_0
                    try clear hfz37_1
                    try clear hfz37_2
                    try clear hfz37_3
                    try clear hfz41_0
                    try clear hfz41_1
                    try clear hfz41_2
                    try clear hfz41_3
                    try clear hfz43_0
                    try clear hfz43_1
                    try clear hfz43_2
                    try clear hfz43_3
                    try clear hfz5_0
                    try clear hfz5_1
                    try clear hfz5_2
                    try clear hfz5_3
                    try clear hfz7_0
                    try clear hfz7_1
                    try clear hfz7_2
                    try clear hfz7_3
                    try clear hfz9_0
                    try clear hfz9_1
                    try clear hfz9_2
                    try clear hfz9_3
                    try clear p2
                    obtain ⟨kq, x5_22, rfl, HA, HJ22, HO_4, BK145, HB⟩ := hcut
                    cases kq with
                    | zero => exact absurd HA.out (by simp [foundryref22_Blocks.j1])
                    | succ kj22 =>
                      have H := HA.out
                      clear HA
                      simp only [foundryref22_Blocks.j1] at H
                      by_cases c44 : 0 ≤ x5_22
                      · rw [if_pos c44] at H
                        have c44b0 := eq_true c44
                        have c44b1 : decide (0 ≤ x5_22) = true := decide_eq_true c44
                        clear c44
                        by_cases c45 : x5_22 ≤ (l0_3.length : Int)
                        · rw [if_pos c45] at H
                          have c45b0 := eq_true c45
                          have c45b1 : decide (x5_22 ≤ (l0_3.length : Int)) = true := decide_eq_true c45
                          clear c45
                          by_cases c46 : y167.length + (l0_3.take (x5_22 : Int).toNat).length < 140737488355328
                          · rw [if_pos c46] at H
                            have LMc46 := Aside0.mk c46
                            clear c46
                            obtain ⟨y171, hy171⟩ : ∃ y_ : List Int, y_ = (y167 ++ (l0_3.take (x5_22 : Int).toNat)) := ⟨_, rfl⟩
                            replace H : ((foundryref22_filled.f kj22 y171).bind fun t174 => (foundryref22_Blocks.l0 kj22 x5_22 (([t174] : List (List Int))) a0_0 a0_1 a0_2 l0_3)) = some (r1, r2) := by first | (rw [hy171]; with_reducible exact H) | (have H2_ := (Option.bind_some _ _).symm.trans H; rw [hy171]; with_reducible exact H2_) | (have H2_ := (Option.bind_some _ _).symm.trans H; with_reducible exact H2_) | with_reducible exact H | (rw [hy171]; exact H) | exact H
                            have Ny171 := Aside0.mk hy171
                            clear hy171
                            replace H := Option.bind_eq_some_iff.mp H
                            obtain ⟨t174, A470, H⟩ := H
                            replace H : (foundryref22_Blocks.l0 kj22 x5_22 (([t174] : List (List Int))) a0_0 a0_1 a0_2 l0_3) = some (r1, r2) := H
                            have A47 := Aside0.mk A470
                            clear A470
                            obtain ⟨y177, hy177⟩ : ∃ y_ : List (List Int), y_ = (([t174] : List (List Int))) := ⟨_, rfl⟩
                            replace H : (foundryref22_Blocks.l0 kj22 x5_22 y177 a0_0 a0_1 a0_2 l0_3) = some (r1, r2) := by first | (rw [hy177]; with_reducible exact H) | (have H2_ := (Option.bind_some _ _).symm.trans H; rw [hy177]; with_reducible exact H2_) | (have H2_ := (Option.bind_some _ _).symm.trans H; with_reducible exact H2_) | with_reducible exact H | (rw [hy177]; exact H) | exact H
                            have Ny177 := Aside0.mk hy177
                            clear hy177
                            have H' := Aside0.mk H
                            clear H
                            have hcz48_0 : wc.cell? ⟨gb145, 0, none⟩ = some (.int .u64 a0_0) := (blk_cell BK145.out 0).trans rfl
                            have hcz48_1 : wc.cell? ⟨gb145, 1, none⟩ = some (.int .i64 a0_1) := (blk_cell BK145.out 1).trans rfl
                            have hcz48_2 : wc.cell? ⟨gb145, 2, none⟩ = some (.int .i64 a0_2) := (blk_cell BK145.out 2).trans rfl
                            have hcz48_3 : wc.cell? ⟨gb145, 3, none⟩ = some (.slice A0_3 l0_3.length c0_3) := (blk_cell BK145.out 3).trans rfl
                            have hfz48_0 := blk_frozen BK145.out 0
                            have hfz48_1 := blk_frozen BK145.out 1
                            have hfz48_2 := blk_frozen BK145.out 2
                            have hfz48_3 := blk_frozen BK145.out 3
                            obtain ⟨i049, hi049, _, hsz49, _⟩ := info_parts info5
                            obtain ⟨hcut49, hA49, hC49⟩ := print_take_of (P := Try.prog) (Value.int .u8) 0 22 5 .i64 Try.underlying22 hi049 hsz49 A0_3 c0_3 l0_3 x5_22 (of_decide_eq_true (by first | (with_reducible assumption) | assumption)) (of_decide_eq_true (by first | (with_reducible assumption) | assumption)) HC0_3.out
                            have HR170 := Aside0.mk (Kd.C_of_reads (h1 := fun _ => rfl) (hA49 _ (Kd.reads_of_C HR0_3.out)))
                            have HC170 := Aside0.mk hC49
                            clear hA49 hC49 hi049 hsz49
                            go_wp2_with (first | ((with_reducible refine gate_builtin (b := .append) (xs := #[.tmp 69, .tmp 73]) rfl ?_); at_builtin; refine Kd.R_append_rows (Kd.int .u8) (w0 := w) w.heap.size rfl (.tmp 69) (.tmp 73) 22 5 (.int .u8 0) 1 rfl Try.underlying22 info5 rfl (by decide) (by omega) v168 y167 (l0_3.take (x5_22 : Int).toNat) _ _ _ (fun k_ => (w.heap.size ≤ k_)) (fun _ => False) rfl rfl ?aO ?aR (fun _ _ h => h) (fun _ h => h.elim) ?aF ?aB ?aS ?aL ?_; (case aR => first | (have h0_ := (Kd.C_below HR170.out HB.out); have h1_ := h0_; rw [show (l0_3.take (x5_22 : Int).toNat).length = x5_22.toNat from (by rw [List.length_take]; have h_ : (x5_22 : Int) ≤ (l0_3.length : Int) := of_decide_eq_true (by first | (with_reducible assumption) | assumption); omega)] at h1_; exact h1_) | (repeat (first | exact (Kd.C_below HR170.out HB.out) | (with_reducible refine Kd.C_alloc ?_ _) | (with_reducible refine Kd.C_drewN ?_ _) | (with_reducible refine Kd.C_drew ?_))) | (repeat (first | exact (Kd.C_below HR170.out HB.out) | (with_reducible refine Kd.C_alloc ?_ _) | (with_reducible refine Kd.C_drewN ?_ _) | (with_reducible refine Kd.C_drew ?_)))); (case aB => exact (by repeat (first | (with_reducible first | exact HB.out | apply below_alloc | apply pw_below_drewN | apply below_drew1 | refine below_set ?_ GE145.out) | exact HB.out))); (case aF => exact (fun k_ hk => (Nat.le_trans (below_size (by repeat (first | (with_reducible first | exact HB.out | apply below_alloc | apply pw_below_drewN | apply below_drew1 | refine below_set ?_ GE145.out) | exact HB.out))) hk))); (case aO => exact (by (with_reducible repeat (first | apply Kd.R_alloc | apply Kd.R_drewN | apply Kd.R_drew)); exact HO_4.out)); (case aS => exact (below_size (by repeat (first | (with_reducible first | exact HB.out | apply below_alloc | apply pw_below_drewN | apply below_drew1 | refine below_set ?_ GE145.out) | exact HB.out)))); (case aL => have := LMc46.out; have hlx_ := (show (l0_3.take (x5_22 : Int).toNat).length = x5_22.toNat from (by rw [List.length_take]; have h_ : (x5_22 : Int) ≤ (l0_3.length : Int) := of_decide_eq_true (by first | (with_reducible assumption) | assumption); omega)); omega); intro v172 w50 ho hb hg hat; rw [← Ny171.out] at ho; have n0_ := Aside0.mk (blk_grown (g := gb145) (o := .cells #[.int .u64 a0_0, .int .i64 a0_1, .int .i64 a0_2, .slice A0_3 l0_3.length c0_3] 28 (0, 0)) (by (with_reducible repeat (first | refine blk_drewN ?_ _ | refine blk_drew ?_ | refine blk_alloc ?_ _)); exact BK145.out) hg (Kd.R_ne HO_4.out BK145.out (by decide))); have n1_ := Aside0.mk (hb); have n2_ := Aside0.mk (ho); clear BK145; clear HB; clear HO_4; have BK145 := n0_; have HB := n1_; have HO173 := n2_; clear n0_ n1_ n2_; clear ho hb hg hat; obtain ⟨Ao51, co51, eo51⟩ := Kd.R_slice HO173.out; subst eo51) | ((with_reducible refine gate_callee (f := 69) rfl ?_); refine goesL_ (some 76) rfl rfl Try.func69 (by kernel_rfl) rfl #[.slice Ao51 y171.length co51] rfl (by (try simp only [List.map_toArray, List.map_cons, List.map_nil]); first | done | rfl | (simp only [List.length_drop, List.length_take]; rfl)) ?_; (with_reducible refine (foundryref22_filled.calls kj22 (fun k_ => some k_ = (.slice Ao51 y171.length co51 : Value).ownBlock) (.slice Ao51 y171.length co51) y171 t174 w _ ?side1 ?side2 A47.out).mono ?_); (case side1 => repeat (first | (with_reducible first | exact HB.out | apply below_alloc | apply pw_below_drewN | apply below_drew1 | refine below_set ?_ GE145.out) | exact HB.out)); (case side2 => exact Kd.R_tight rfl HO173.out); rintro e w52 ⟨v175, rfl, ho0, hb, hkp⟩; refine ⟨_, rfl, ?_⟩; have n0_ := Aside0.mk (blk_kept (by (with_reducible repeat (first | refine blk_drewN ?_ _ | refine blk_drew ?_ | refine blk_alloc ?_ _)); exact BK145.out) hkp (fun hs_ => (fun e_ => (Kd.R_ne HO173.out BK145.out (by decide)) e_) hs_)); have n1_ := Aside0.mk (Kd.R_mono (ok' := fun k_ => (w.heap.size ≤ k_)) ho0 (fun k_ hk_ => Or.elim hk_ (fun hs_ => (HO173.out.1 k_ (hs_).symm)) (fun hn_ => (Nat.le_trans (below_size (by repeat (first | (with_reducible first | exact HB.out | apply below_alloc | apply pw_below_drewN | apply below_drew1 | refine below_set ?_ GE145.out) | exact HB.out))) hn_)))); have n2_ := Aside0.mk (hb); clear BK145; clear HB; clear HO173; have BK145 := n0_; have HO176 := n1_; have HB := n2_; clear n0_ n1_ n2_; (try clear hb); (try clear hkp); (try clear ho0); obtain ⟨Ao53, co53, eo53⟩ := Kd.R_slice HO176.out; subst eo53) | ((with_reducible refine gate_dst (N := 77) rfl ?_); refine Kd.N_lit (Kd.slice 5 (Kd.int .u8)) _ 22 ?hg (N' := 77) ?hd (xs := ([t174] : List (List Int))) (inner := [.slice Ao53 t174.length co53]) (ok := (fun k_ => (w.heap.size ≤ k_) ∧ k_ ≠ gb145)) (okp := (fun k_ => (w.heap.size ≤ k_) ∧ k_ ≠ gb145)) ?hr ?hp (fun _ hk => hk) ((show ∀ k_, w52.heap.size ≤ k_ → (fun k_ => (w.heap.size ≤ k_) ∧ k_ ≠ gb145) k_ from fun k_ hk => ⟨(Nat.le_trans (below_size (by repeat (first | (with_reducible first | exact HB.out | apply below_alloc | apply pw_below_drewN | apply below_drew1 | refine below_set ?_ GE145.out) | exact HB.out))) hk), Kd.freshB (g := gb145) (o := .cells #[.int .u64 a0_0, .int .i64 a0_1, .int .i64 a0_2, .slice A0_3 l0_3.length c0_3] 28 (0, 0)) (by (with_reducible repeat (first | refine blk_drewN ?_ _ | refine blk_drew ?_ | refine blk_alloc ?_ _)); exact BK145.out) k_ hk⟩) _ (Nat.le_refl _)) (Below.refl _ _) (Nat.le_refl _) (by simp) ?_; (case hd => rfl); (case hg => rfl); (case hr => first | (go_simp; done) | (go_simp; rfl)); (case hp => exact (Reps.one (show Kd.FK (Kd.slice 5 (Kd.int .u8)) _ _ t174 [.slice Ao53 t174.length co53] from (Kd.FK_slice_mk (Kd.R_reads' (Kd.R_mono (ok' := (fun k_ => (w.heap.size ≤ k_) ∧ k_ ≠ gb145)) (Kd.R_types (HO176.out) BK145.out (by decide)) (fun k_ hk => ⟨hk.1, hk.2⟩))).2.1 (Kd.R_F (Kd.R_mono (ok' := (fun k_ => (w.heap.size ≤ k_) ∧ k_ ≠ gb145)) (Kd.R_types (HO176.out) BK145.out (by decide)) (fun k_ hk => ⟨hk.1, hk.2⟩))))) (Reps.none _ _))); intro v178 w54 ho55 hb hg_ hnew_; clear hg_ hnew_; (first | rw [← Ny177.out] at ho55 | (simp only [Int.reduceToNat] at ho55; rw [← Ny177.out] at ho55)); have n0_ := Aside0.mk (Kd.N_lower ho55 (below_size (by repeat (first | (with_reducible first | exact HB.out | apply below_alloc | apply pw_below_drewN | apply below_drew1 | refine below_set ?_ GE145.out) | exact HB.out)))); have n1_ := Aside0.mk (blk_below (g := gb145) (o := .cells #[.int .u64 a0_0, .int .i64 a0_1, .int .i64 a0_2, .slice A0_3 l0_3.length c0_3] 28 (0, 0)) (by (with_reducible repeat (first | refine blk_drewN ?_ _ | refine blk_drew ?_ | refine blk_alloc ?_ _)); exact BK145.out) hb); have n2_ := Aside0.mk (below_step (by repeat (first | (with_reducible first | exact HB.out | apply below_alloc | apply pw_below_drewN | apply below_drew1 | refine below_set ?_ GE145.out) | exact HB.out)) hb); clear BK145; clear HB; clear HO176; have HO179 := n0_; have BK145 := n1_; have HB := n2_; clear n0_ n1_ n2_; clear hb ho55))
                            go_loopg [5, 6] kj22 (fun kq v5 v6 w' => ∃ (x5_3 : Int) (x6_3 : List (List Int)), v5 = .int .i64 x5_3 ∧ Aside0 (foundryref22_Blocks.l0 kq x5_3 x6_3 a0_0 a0_1 a0_2 l0_3 = some (r1, r2)) ∧ Aside0 (kq ≤ kj22) ∧ Aside0 (Kd.N (Kd.slice 5 (Kd.int .u8)) 22 w' w.heap.size (fun k_ => (w.heap.size ≤ k_) ∧ k_ ≠ gb145) v6 x6_3) ∧ Aside0 (w'.heap[gb145]? = some (.cells #[.int .u64 a0_0, .int .i64 a0_1, .int .i64 a0_2, (.slice A0_3 l0_3.length c0_3)] 28 (0, 0))) ∧ Aside0 (Below w.heap.size w w'))
                            case atStart => exact ⟨(x5_22), (y177), (by first | rfl | (simp; done) | (simp [*]; done)), H', ⟨Nat.le_refl _⟩, ⟨by (with_reducible repeat (first | apply Kd.N_alloc | apply Kd.N_drewN | apply Kd.N_drew)); exact HO179.out⟩, ⟨by (with_reducible repeat (first | refine blk_drewN ?_ _ | refine blk_drew ?_ | refine blk_alloc ?_ _)); exact BK145.out⟩, ⟨by repeat (first | (with_reducible first | exact HB.out | apply below_alloc | apply pw_below_drewN | apply below_drew1 | refine below_set ?_ GE145.out) | exact HB.out)⟩⟩
                            case round =>
                              clear H'
                              try clear c1
                              try clear c2
                              try clear p2
                              try clear c4
                              try clear c4b0
                              try clear c4b1
                              try clear c6
                              try clear c6b0
                              try clear c8
                              try clear c8b0
                              try clear c10
                              try clear c10b0
                              try clear c13
                              try clear c14
                              try clear c14b0
                              try clear c14b1
                              try clear c17
                              try clear c19
                              try clear c20
                              try clear c22
                              try clear c25
                              try clear c42
                              try clear c42b0
                              try clear c42b1
                              try clear c44
                              try clear c44b0
                              try clear c44b1
                              try clear c45
                              try clear c45b0
                              try clear c45b1
                              try clear c46
                              try clear hcz11_0
                              try clear hcz11_1
                              try clear hcz11_2
                              try clear hcz11_3
                              try clear hcz12_0
                              try clear hcz12_1
                              try clear hcz12_2
                              try clear hcz12_3
                              try clear hcz15_0
                              try clear hcz15_1
                              try clear hcz15_2
                              try clear hcz15_3
                              try clear hcz24_0
                              try clear hcz24_1
                              try clear hcz24_2
                              try clear hcz24_3
                              try clear hcz27_0
                              try clear hcz27_1
                              try clear hcz27_2
                              try clear hcz27_3
                              try clear hcz31_0
                              try clear hcz31_1
                              try clear hcz31_2
                              try clear hcz31_3
                              try clear hcz35_0
                              try clear hcz35_1
                              try clear hcz35_2
                              try clear hcz35_3
                              try clear hcz37_0
                              try clear hcz37_1
                              try clear hcz37_2
                              try clear hcz37_3
                              try clear hcz41_0
                              try clear hcz41_1
                              try clear hcz41_2
                              try clear hcz41_3
                              try clear hcz43_0
                              try clear hcz43_1
                              try clear hcz43_2
                              try clear hcz43_3
                              try clear hcz48_0
                              try clear hcz48_1
                              try clear hcz48_2
                              try clear hcz48_3
                              try clear hcz5_0
                              try clear hcz5_1
                              try clear hcz5_2
                              try clear hcz5_3
                              try clear hcz7_0
                              try clear hcz7_1
                              try clear hcz7_2
                              try clear hcz7_3
                              try clear hcz9_0
                              try clear hcz9_1
                              try clear hcz9_2
                              try clear hcz9_3
                              try clear hfz11_0
                              try clear hfz11_1
                              try clear hfz11_2
                              try clear hfz11_3
                              try clear hfz12_0
                              try clear hfz12_1
                              try clear hfz12_2
                              try clear hfz12_3
                              try clear hfz15_0
                              try clear hfz15_1
                              try clear hfz15_2
                              try clear hfz15_3
                              try clear hfz24_0
                              try clear hfz24_1
                              try clear hfz24_2
                              try clear hfz24_3
                              try clear hfz27_0
                              try clear hfz27_1
                              try clear hfz27_2
                              try clear hfz27_3
                              try clear hfz31_0
                              try clear hfz31_1
                              try clear hfz31_2
                              try clear hfz31_3
                              try clear hfz35_0
                              try clear hfz35_1
                              try clear hfz35_2
                              try clear hfz35_3
                              try clear hfz37_0
                              try clear hfz37_1
                              try clear hfz37_2
                              try clear hfz37_3
                              try clear hfz41_0
                              try clear hfz41_1
                              try clear hfz41_2
                              try clear hfz41_3
                              try clear hfz43_0
                              try clear hfz43_1
                              try clear hfz43_2
                              try clear hfz43_3
                              try clear hfz48_0
                              try clear hfz48_1
                              try clear hfz48_2
                              try clear hfz48_3
                              try clear hfz5_0
                              try clear hfz5_1
                              try clear hfz5_2
                              try clear hfz5_3
                              try clear hfz7_0
                              try clear hfz7_1
                              try clear hfz7_2
                              try clear hfz7_3
                              try clear hfz9_0
                              try clear hfz9_1
                              try clear hfz9_2
                              try clear hfz9_3
                              try clear p2
                              obtain ⟨x5_3, x6_3, rfl, HA, HK3, HO_6, BK145, HB⟩ := hrel
                              cases gk with
                              | zero => exact absurd HA.out (by simp [foundryref22_Blocks.l0])
                              | succ k3 =>
                                have H := HA.out
                                clear HA
                                simp only [foundryref22_Blocks.l0] at H
                                by_cases c56 : x5_3 < (l0_3.length : Int)
                                · rw [if_pos c56] at H
                                  have c56b0 : decide (x5_3 < (l0_3.length : Int)) = true := decide_eq_true c56
                                  clear c56
                                  have HC57 := Aside0.mk H
                                  clear H
                                  have hcz58_0 : wr.cell? ⟨gb145, 0, none⟩ = some (.int .u64 a0_0) := (blk_cell BK145.out 0).trans rfl
                                  have hcz58_1 : wr.cell? ⟨gb145, 1, none⟩ = some (.int .i64 a0_1) := (blk_cell BK145.out 1).trans rfl
                                  have hcz58_2 : wr.cell? ⟨gb145, 2, none⟩ = some (.int .i64 a0_2) := (blk_cell BK145.out 2).trans rfl
                                  have hcz58_3 : wr.cell? ⟨gb145, 3, none⟩ = some (.slice A0_3 l0_3.length c0_3) := (blk_cell BK145.out 3).trans rfl
                                  have hfz58_0 := blk_frozen BK145.out 0
                                  have hfz58_1 := blk_frozen BK145.out 1
                                  have hfz58_2 := blk_frozen BK145.out 2
                                  have hfz58_3 := blk_frozen BK145.out 3
                                  go_upto_if 89 with (fail)
                                  go_cut [7] (fun v7 wc => ∃ (kq : Nat) (x7_56 : Int), v7 = .int .i64 x7_56 ∧ Aside0 (foundryref22_Blocks.j3 kq x5_3 x6_3 x7_56 a0_0 a0_1 a0_2 l0_3 = some (r1, r2)) ∧ Aside0 (kq ≤ k3) ∧ Aside0 (Kd.N (Kd.slice 5 (Kd.int .u8)) 22 wc w.heap.size (fun k_ => (w.heap.size ≤ k_) ∧ k_ ≠ gb145) u6 x6_3) ∧ Aside0 (wc.heap[gb145]? = some (.cells #[.int .u64 a0_0, .int .i64 a0_1, .int .i64 a0_2, (.slice A0_3 l0_3.length c0_3)] 28 (0, 0))) ∧ Aside0 (Below w.heap.size w wc))
                                  case first =>
                                    have H := HC57.out
                                    clear HC57
                                    by_cases c59 : (wrap64 (x5_3 + 50)) > (l0_3.length : Int)
                                    · rw [if_pos c59] at H
                                      have c59b0 : decide ((l0_3.length : Int) < (wrap64 (x5_3 + 50))) = true := decide_eq_true c59
                                      clear c59
                                      (first | rw [c59b0] | (simp only [i64_w, i32_w]; rw [c59b0]) | skip)
                                      have H' := Aside0.mk H
                                      clear H
                                      have hcz60_0 : wr.cell? ⟨gb145, 0, none⟩ = some (.int .u64 a0_0) := (blk_cell BK145.out 0).trans rfl
                                      have hcz60_1 : wr.cell? ⟨gb145, 1, none⟩ = some (.int .i64 a0_1) := (blk_cell BK145.out 1).trans rfl
                                      have hcz60_2 : wr.cell? ⟨gb145, 2, none⟩ = some (.int .i64 a0_2) := (blk_cell BK145.out 2).trans rfl
                                      have hcz60_3 : wr.cell? ⟨gb145, 3, none⟩ = some (.slice A0_3 l0_3.length c0_3) := (blk_cell BK145.out 3).trans rfl
                                      have hfz60_0 := blk_frozen BK145.out 0
                                      have hfz60_1 := blk_frozen BK145.out 1
                                      have hfz60_2 := blk_frozen BK145.out 2
                                      have hfz60_3 := blk_frozen BK145.out 3
                                      go_wp2
                                      go_meet
                                      case rel => exact ⟨_, ((l0_3.length : Int)), (by first | rfl | (simp; done) | (simp [*]; done)), H', ⟨by have := HJ1.out; have := HJ22.out; have := HK3.out; first | omega | exact Nat.le_refl _⟩, ⟨by (with_reducible repeat (first | apply Kd.N_alloc | apply Kd.N_drewN | apply Kd.N_drew)); exact HO_6.out⟩, ⟨by (with_reducible repeat (first | refine blk_drewN ?_ _ | refine blk_drew ?_ | refine blk_alloc ?_ _)); exact BK145.out⟩, ⟨by repeat (first | (with_reducible first | exact HB.out | apply below_alloc | apply pw_below_drewN | apply below_drew1 | refine below_set ?_ GE145.out) | exact HB.out)⟩⟩
                                    · rw [if_neg c59] at H
                                      have c59b0 : decide ((l0_3.length : Int) < (wrap64 (x5_3 + 50))) = false := decide_eq_false c59
                                      clear c59
                                      (first | rw [c59b0] | (simp only [i64_w, i32_w]; rw [c59b0]) | skip)
                                      have H' := Aside0.mk H
                                      clear H
                                      go_wp2
                                      go_meet
                                      case rel => exact ⟨_, (wrap64 (x5_3 + 50)), (by first | rfl | (simp; done) | (simp [*]; done)), H', ⟨by have := HJ1.out; have := HJ22.out; have := HK3.out; first | omega | exact Nat.le_refl _⟩, ⟨by (with_reducible repeat (first | apply Kd.N_alloc | apply Kd.N_drewN | apply Kd.N_drew)); exact HO_6.out⟩, ⟨by (with_reducible repeat (first | refine blk_drewN ?_ _ | refine blk_drew ?_ | refine blk_alloc ?_ _)); exact BK145.out⟩, ⟨by repeat (first | (with_reducible first | exact HB.out | apply below_alloc | apply pw_below_drewN | apply below_drew1 | refine below_set ?_ GE145.out) | exact HB.out)⟩⟩
                                  case rest =>
                                    clear HC57
                                    try clear c1
                                    try clear c2
                                    try clear p2
                                    try clear c4
                                    try clear c4b0
                                    try clear c4b1
                                    try clear c5
                                    try clear c6
                                    try clear c6b0
                                    try clear p6
                                    try clear c8
                                    try clear c8b0
                                    try clear c10
                                    try clear c10b0
                                    try clear c13
                                    try clear c14
                                    try clear c14b0
                                    try clear c14b1
                                    try clear c17
                                    try clear c19
                                    try clear c20
                                    try clear c22
                                    try clear c25
                                    try clear c42
                                    try clear c42b0
                                    try clear c42b1
                                    try clear c44
                                    try clear c44b0
                                    try clear c44b1
                                    try clear c45
                                    try clear c45b0
                                    try clear c45b1
                                    try clear c46
                                    try clear c56
                                    try clear c56b0
                                    try clear c59
                                    try clear c59b0
                                    try clear hcz11_0
                                    try clear hcz11_1
                                    try clear hcz11_2
                                    try clear hcz11_3
                                    try clear hcz12_0
                                    try clear hcz12_1
                                    try clear hcz12_2
                                    try clear hcz12_3
                                    try clear hcz15_0
                                    try clear hcz15_1
                                    try clear hcz15_2
                                    try clear hcz15_3
                                    try clear hcz24_0
                                    try clear hcz24_1
                                    try clear hcz24_2
                                    try clear hcz24_3
                                    try clear hcz27_0
                                    try clear hcz27_1
                                    try clear hcz27_2
                                    try clear hcz27_3
                                    try clear hcz31_0
                                    try clear hcz31_1
                                    try clear hcz31_2
                                    try clear hcz31_3
                                    try clear hcz35_0
                                    try clear hcz35_1
                                    try clear hcz35_2
                                    try clear hcz35_3
                                    try clear hcz37_0
                                    try clear hcz37_1
                                    try clear hcz37_2
                                    try clear hcz37_3
                                    try clear hcz41_0
                                    try clear hcz41_1
                                    try clear hcz41_2
                                    try clear hcz41_3
                                    try clear hcz43_0
                                    try clear hcz43_1
                                    try clear hcz43_2
                                    try clear hcz43_3
                                    try clear hcz48_0
                                    try clear hcz48_1
                                    try clear hcz48_2
                                    try clear hcz48_3
                                    try clear hcz58_0
                                    try clear hcz58_1
                                    try clear hcz58_2
                                    try clear hcz58_3
                                    try clear hcz5_0
                                    try clear hcz5_1
                                    try clear hcz5_2
                                    try clear hcz5_3
                                    try clear hcz60_0
                                    try clear hcz60_1
                                    try clear hcz60_2
                                    try clear hcz60_3
                                    try clear hcz7_0
                                    try clear hcz7_1
                                    try clear hcz7_2
                                    try clear hcz7_3
                                    try clear hcz9_0
                                    try clear hcz9_1
                                    try clear hcz9_2
                                    try clear hcz9_3
                                    try clear hfz11_0
                                    try clear hfz11_1
                                    try clear hfz11_2
                                    try clear hfz11_3
                                    try clear hfz12_0
                                    try clear hfz12_1
                                    try clear hfz12_2
                                    try clear hfz12_3
                                    try clear hfz15_0
                                    try clear hfz15_1
                                    try clear hfz15_2
                                    try clear hfz15_3
                                    try clear hfz24_0
                                    try clear hfz24_1
                                    try clear hfz24_2
                                    try clear hfz24_3
                                    try clear hfz27_0
                                    try clear hfz27_1
                                    try clear hfz27_2
                                    try clear hfz27_3
                                    try clear hfz31_0
                                    try clear hfz31_1
                                    try clear hfz31_2
                                    try clear hfz31_3
                                    try clear hfz35_0
                                    try clear hfz35_1
                                    try clear hfz35_2
                                    try clear hfz35_3
                                    try clear hfz37_0
                                    try clear hfz37_1
                                    try clear hfz37_2
                                    try clear hfz37_3
                                    try clear hfz41_0
                                    try clear hfz41_1
                                    try clear hfz41_2
                                    try clear hfz41_3
                                    try clear hfz43_0
                                    try clear hfz43_1
                                    try clear hfz43_2
                                    try clear hfz43_3
                                    try clear hfz48_0
                                    try clear hfz48_1
                                    try clear hfz48_2
                                    try clear hfz48_3
                                    try clear hfz58_0
                                    try clear hfz58_1
                                    try clear hfz58_2
                                    try clear hfz58_3
                                    try clear hfz5_0
                                    try clear hfz5_1
                                    try clear hfz5_2
                                    try clear hfz5_3
                                    try clear hfz60_0
                                    try clear hfz60_1
                                    try clear hfz60_2
                                    try clear hfz60_3
                                    try clear hfz7_0
                                    try clear hfz7_1
                                    try clear hfz7_2
                                    try clear hfz7_3
                                    try clear hfz9_0
                                    try clear hfz9_1
                                    try clear hfz9_2
                                    try clear hfz9_3
                                    try clear p2
                                    obtain ⟨kq, x7_56, rfl, HA, HJ56, HO_6, BK145, HB⟩ := hcut
                                    cases kq with
                                    | zero => exact absurd HA.out (by simp [foundryref22_Blocks.j3])
                                    | succ kj56 =>
                                      have H := HA.out
                                      clear HA
                                      simp only [foundryref22_Blocks.j3] at H
                                      obtain ⟨y180, hy180⟩ : ∃ y_ : List Int, y_ = (([102, 98] : List Int)) := ⟨_, rfl⟩
                                      replace H : ((foundryref22_number.f kj56 a0_0 8).bind fun t183 => (if y180.length + t183.length < 140737488355328 then ((some (y180 ++ t183 : List Int)).bind fun y186 => ((foundryref22_number.f kj56 (IntKind.u64.wrap (a0_1)) 2).bind fun t189 => (if y186.length + t189.length < 140737488355328 then ((some (y186 ++ t189 : List Int)).bind fun y192 => ((foundryref22_number.f kj56 (IntKind.u64.wrap ((x6_3.length : Int))) 2).bind fun t195 => (if y192.length + t195.length < 140737488355328 then ((some (y192 ++ t195 : List Int)).bind fun y198 => (if 0 ≤ x5_3 then (if x5_3 ≤ x7_56 then (if x7_56 ≤ (l0_3.length : Int) then (if y198.length + ((l0_3.take (x7_56 : Int).toNat).drop (x5_3 : Int).toNat).length < 140737488355328 then ((foundryref22_filled.f kj56 (y198 ++ ((l0_3.take (x7_56 : Int).toNat).drop (x5_3 : Int).toNat))).bind fun t205 => (if x6_3.length < 5864062014805 then (foundryref22_Blocks.l0 kj56 x7_56 (x6_3 ++ [t205]) a0_0 a0_1 a0_2 l0_3) else (none))) else (none)) else (none)) else (none)) else (none))) else (none)))) else (none)))) else (none))) = some (r1, r2) := by first | (rw [hy180]; with_reducible exact H) | (have H2_ := (Option.bind_some _ _).symm.trans H; rw [hy180]; with_reducible exact H2_) | (have H2_ := (Option.bind_some _ _).symm.trans H; with_reducible exact H2_) | with_reducible exact H | (rw [hy180]; exact H) | exact H
                                      have Ny180 := Aside0.mk hy180
                                      clear hy180
                                      replace H := Option.bind_eq_some_iff.mp H
                                      obtain ⟨t183, A610, H⟩ := H
                                      replace H : (if y180.length + t183.length < 140737488355328 then ((some (y180 ++ t183 : List Int)).bind fun y186 => ((foundryref22_number.f kj56 (IntKind.u64.wrap (a0_1)) 2).bind fun t189 => (if y186.length + t189.length < 140737488355328 then ((some (y186 ++ t189 : List Int)).bind fun y192 => ((foundryref22_number.f kj56 (IntKind.u64.wrap ((x6_3.length : Int))) 2).bind fun t195 => (if y192.length + t195.length < 140737488355328 then ((some (y192 ++ t195 : List Int)).bind fun y198 => (if 0 ≤ x5_3 then (if x5_3 ≤ x7_56 then (if x7_56 ≤ (l0_3.length : Int) then (if y198.length + ((l0_3.take (x7_56 : Int).toNat).drop (x5_3 : Int).toNat).length < 140737488355328 then ((foundryref22_filled.f kj56 (y198 ++ ((l0_3.take (x7_56 : Int).toNat).drop (x5_3 : Int).toNat))).bind fun t205 => (if x6_3.length < 5864062014805 then (foundryref22_Blocks.l0 kj56 x7_56 (x6_3 ++ [t205]) a0_0 a0_1 a0_2 l0_3) else (none))) else (none)) else (none)) else (none)) else (none))) else (none)))) else (none)))) else (none)) = some (r1, r2) := H
                                      have A61 := Aside0.mk A610
                                      clear A610
                                      by_cases c62 : y180.length + t183.length < 140737488355328
                                      · rw [if_pos c62] at H
                                        have LMc62 := Aside0.mk c62
                                        clear c62
                                        obtain ⟨y186, hy186⟩ : ∃ y_ : List Int, y_ = (y180 ++ t183) := ⟨_, rfl⟩
                                        replace H : ((foundryref22_number.f kj56 (IntKind.u64.wrap (a0_1)) 2).bind fun t189 => (if y186.length + t189.length < 140737488355328 then ((some (y186 ++ t189 : List Int)).bind fun y192 => ((foundryref22_number.f kj56 (IntKind.u64.wrap ((x6_3.length : Int))) 2).bind fun t195 => (if y192.length + t195.length < 140737488355328 then ((some (y192 ++ t195 : List Int)).bind fun y198 => (if 0 ≤ x5_3 then (if x5_3 ≤ x7_56 then (if x7_56 ≤ (l0_3.length : Int) then (if y198.length + ((l0_3.take (x7_56 : Int).toNat).drop (x5_3 : Int).toNat).length < 140737488355328 then ((foundryref22_filled.f kj56 (y198 ++ ((l0_3.take (x7_56 : Int).toNat).drop (x5_3 : Int).toNat))).bind fun t205 => (if x6_3.length < 5864062014805 then (foundryref22_Blocks.l0 kj56 x7_56 (x6_3 ++ [t205]) a0_0 a0_1 a0_2 l0_3) else (none))) else (none)) else (none)) else (none)) else (none))) else (none)))) else (none))) = some (r1, r2) := by first | (rw [hy186]; with_reducible exact H) | (have H2_ := (Option.bind_some _ _).symm.trans H; rw [hy186]; with_reducible exact H2_) | (have H2_ := (Option.bind_some _ _).symm.trans H; with_reducible exact H2_) | with_reducible exact H | (rw [hy186]; exact H) | exact H
                                        have Ny186 := Aside0.mk hy186
                                        clear hy186
                                        replace H := Option.bind_eq_some_iff.mp H
                                        obtain ⟨t189, A630, H⟩ := H
                                        replace H : (if y186.length + t189.length < 140737488355328 then ((some (y186 ++ t189 : List Int)).bind fun y192 => ((foundryref22_number.f kj56 (IntKind.u64.wrap ((x6_3.length : Int))) 2).bind fun t195 => (if y192.length + t195.length < 140737488355328 then ((some (y192 ++ t195 : List Int)).bind fun y198 => (if 0 ≤ x5_3 then (if x5_3 ≤ x7_56 then (if x7_56 ≤ (l0_3.length : Int) then (if y198.length + ((l0_3.take (x7_56 : Int).toNat).drop (x5_3 : Int).toNat).length < 140737488355328 then ((foundryref22_filled.f kj56 (y198 ++ ((l0_3.take (x7_56 : Int).toNat).drop (x5_3 : Int).toNat))).bind fun t205 => (if x6_3.length < 5864062014805 then (foundryref22_Blocks.l0 kj56 x7_56 (x6_3 ++ [t205]) a0_0 a0_1 a0_2 l0_3) else (none))) else (none)) else (none)) else (none)) else (none))) else (none)))) else (none)) = some (r1, r2) := H
                                        have A63 := Aside0.mk A630
                                        clear A630
                                        by_cases c64 : y186.length + t189.length < 140737488355328
                                        · rw [if_pos c64] at H
                                          have LMc64 := Aside0.mk c64
                                          clear c64
                                          obtain ⟨y192, hy192⟩ : ∃ y_ : List Int, y_ = (y186 ++ t189) := ⟨_, rfl⟩
                                          replace H : ((foundryref22_number.f kj56 (IntKind.u64.wrap ((x6_3.length : Int))) 2).bind fun t195 => (if y192.length + t195.length < 140737488355328 then ((some (y192 ++ t195 : List Int)).bind fun y198 => (if 0 ≤ x5_3 then (if x5_3 ≤ x7_56 then (if x7_56 ≤ (l0_3.length : Int) then (if y198.length + ((l0_3.take (x7_56 : Int).toNat).drop (x5_3 : Int).toNat).length < 140737488355328 then ((foundryref22_filled.f kj56 (y198 ++ ((l0_3.take (x7_56 : Int).toNat).drop (x5_3 : Int).toNat))).bind fun t205 => (if x6_3.length < 5864062014805 then (foundryref22_Blocks.l0 kj56 x7_56 (x6_3 ++ [t205]) a0_0 a0_1 a0_2 l0_3) else (none))) else (none)) else (none)) else (none)) else (none))) else (none))) = some (r1, r2) := by first | (rw [hy192]; with_reducible exact H) | (have H2_ := (Option.bind_some _ _).symm.trans H; rw [hy192]; with_reducible exact H2_) | (have H2_ := (Option.bind_some _ _).symm.trans H; with_reducible exact H2_) | with_reducible exact H | (rw [hy192]; exact H) | exact H
                                          have Ny192 := Aside0.mk hy192
                                          clear hy192
                                          replace H := Option.bind_eq_some_iff.mp H
                                          obtain ⟨t195, A650, H⟩ := H
                                          replace H : (if y192.length + t195.length < 140737488355328 then ((some (y192 ++ t195 : List Int)).bind fun y198 => (if 0 ≤ x5_3 then (if x5_3 ≤ x7_56 then (if x7_56 ≤ (l0_3.length : Int) then (if y198.length + ((l0_3.take (x7_56 : Int).toNat).drop (x5_3 : Int).toNat).length < 140737488355328 then ((foundryref22_filled.f kj56 (y198 ++ ((l0_3.take (x7_56 : Int).toNat).drop (x5_3 : Int).toNat))).bind fun t205 => (if x6_3.length < 5864062014805 then (foundryref22_Blocks.l0 kj56 x7_56 (x6_3 ++ [t205]) a0_0 a0_1 a0_2 l0_3) else (none))) else (none)) else (none)) else (none)) else (none))) else (none)) = some (r1, r2) := H
                                          have A65 := Aside0.mk A650
                                          clear A650
                                          by_cases c66 : y192.length + t195.length < 140737488355328
                                          · rw [if_pos c66] at H
                                            have LMc66 := Aside0.mk c66
                                            clear c66
                                            obtain ⟨y198, hy198⟩ : ∃ y_ : List Int, y_ = (y192 ++ t195) := ⟨_, rfl⟩
                                            replace H : (if 0 ≤ x5_3 then (if x5_3 ≤ x7_56 then (if x7_56 ≤ (l0_3.length : Int) then (if y198.length + ((l0_3.take (x7_56 : Int).toNat).drop (x5_3 : Int).toNat).length < 140737488355328 then ((foundryref22_filled.f kj56 (y198 ++ ((l0_3.take (x7_56 : Int).toNat).drop (x5_3 : Int).toNat))).bind fun t205 => (if x6_3.length < 5864062014805 then (foundryref22_Blocks.l0 kj56 x7_56 (x6_3 ++ [t205]) a0_0 a0_1 a0_2 l0_3) else (none))) else (none)) else (none)) else (none)) else (none)) = some (r1, r2) := by first | (rw [hy198]; with_reducible exact H) | (have H2_ := (Option.bind_some _ _).symm.trans H; rw [hy198]; with_reducible exact H2_) | (have H2_ := (Option.bind_some _ _).symm.trans H; with_reducible exact H2_) | with_reducible exact H | (rw [hy198]; exact H) | exact H
                                            have Ny198 := Aside0.mk hy198
                                            clear hy198
                                            by_cases c67 : 0 ≤ x5_3
                                            · rw [if_pos c67] at H
                                              have c67b0 := eq_true c67
                                              have c67b1 : decide (0 ≤ x5_3) = true := decide_eq_true c67
                                              clear c67
                                              by_cases c68 : x5_3 ≤ x7_56
                                              · rw [if_pos c68] at H
                                                have c68b0 := eq_true c68
                                                have c68b1 : decide (x5_3 ≤ x7_56) = true := decide_eq_true c68
                                                clear c68
                                                by_cases c69 : x7_56 ≤ (l0_3.length : Int)
                                                · rw [if_pos c69] at H
                                                  have c69b0 := eq_true c69
                                                  have c69b1 : decide (x7_56 ≤ (l0_3.length : Int)) = true := decide_eq_true c69
                                                  clear c69
                                                  by_cases c70 : y198.length + ((l0_3.take (x7_56 : Int).toNat).drop (x5_3 : Int).toNat).length < 140737488355328
                                                  · rw [if_pos c70] at H
                                                    have LMc70 := Aside0.mk c70
                                                    clear c70
                                                    obtain ⟨y202, hy202⟩ : ∃ y_ : List Int, y_ = (y198 ++ ((l0_3.take (x7_56 : Int).toNat).drop (x5_3 : Int).toNat)) := ⟨_, rfl⟩
                                                    replace H : ((foundryref22_filled.f kj56 y202).bind fun t205 => (if x6_3.length < 5864062014805 then (foundryref22_Blocks.l0 kj56 x7_56 (x6_3 ++ [t205]) a0_0 a0_1 a0_2 l0_3) else (none))) = some (r1, r2) := by first | (rw [hy202]; with_reducible exact H) | (have H2_ := (Option.bind_some _ _).symm.trans H; rw [hy202]; with_reducible exact H2_) | (have H2_ := (Option.bind_some _ _).symm.trans H; with_reducible exact H2_) | with_reducible exact H | (rw [hy202]; exact H) | exact H
                                                    have Ny202 := Aside0.mk hy202
                                                    clear hy202
                                                    replace H := Option.bind_eq_some_iff.mp H
                                                    obtain ⟨t205, A710, H⟩ := H
                                                    replace H : (if x6_3.length < 5864062014805 then (foundryref22_Blocks.l0 kj56 x7_56 (x6_3 ++ [t205]) a0_0 a0_1 a0_2 l0_3) else (none)) = some (r1, r2) := H
                                                    have A71 := Aside0.mk A710
                                                    clear A710
                                                    by_cases c72 : x6_3.length < 5864062014805
                                                    · rw [if_pos c72] at H
                                                      have LMc72 := Aside0.mk c72
                                                      clear c72
                                                      obtain ⟨y208, hy208⟩ : ∃ y_ : List (List Int), y_ = (x6_3 ++ [t205]) := ⟨_, rfl⟩
                                                      replace H : (foundryref22_Blocks.l0 kj56 x7_56 y208 a0_0 a0_1 a0_2 l0_3) = some (r1, r2) := by first | (rw [hy208]; with_reducible exact H) | (have H2_ := (Option.bind_some _ _).symm.trans H; rw [hy208]; with_reducible exact H2_) | (have H2_ := (Option.bind_some _ _).symm.trans H; with_reducible exact H2_) | with_reducible exact H | (rw [hy208]; exact H) | exact H
                                                      have Ny208 := Aside0.mk hy208
                                                      clear hy208
                                                      have H' := Aside0.mk H
                                                      clear H
                                                      go_wp2_with (first | ((with_reducible refine gate_dst (N := 93) rfl ?_); refine Kd.R_lit (Kd.int .u8) _ 5 ?hg (N := 93) ?hd (xs := ([102, 98] : List Int)) (inner := [.int .u8 102, .int .u8 98]) (ok := fun _ => True) (okp := fun _ => True) ?hr ?hp (fun _ hk => hk) trivial (Below.refl _ _) (Nat.le_refl _) (by simp) ?_; (case hd => rfl); (case hg => rfl); (case hr => first | (go_simp; done) | (go_simp; rfl)); (case hp => exact (Reps.one (show Kd.M (Kd.int .u8) _ _ _ 102 [.int .u8 102] from rfl) (Reps.one (show Kd.M (Kd.int .u8) _ _ _ 98 [.int .u8 98] from rfl) (Reps.none _ _)))); intro v181 w73 ho74 hb hg_ hnew_; clear hg_ hnew_; (first | rw [← Ny180.out] at ho74 | (simp only [Int.reduceToNat] at ho74; rw [← Ny180.out] at ho74)); have n0_ := Aside0.mk (Kd.N_elder' (by (with_reducible repeat (first | apply Kd.N_alloc | apply Kd.N_drewN | apply Kd.N_drew)); exact HO_6.out) (Kd.R_base ho74) hb); have n1_ := Aside0.mk (Kd.R_lower (Kd.R_newM (M := fun k_ => (w.heap.size ≤ k_)) ho74 (below_size (by repeat (first | (with_reducible first | exact HB.out | apply below_alloc | apply pw_below_drewN | apply below_drew1 | refine below_set ?_ GE145.out) | exact HB.out))) (fun k_ h_ => h_)) (below_size (by repeat (first | (with_reducible first | exact HB.out | apply below_alloc | apply pw_below_drewN | apply below_drew1 | refine below_set ?_ GE145.out) | exact HB.out)))); have n2_ := Aside0.mk (blk_below (g := gb145) (o := .cells #[.int .u64 a0_0, .int .i64 a0_1, .int .i64 a0_2, .slice A0_3 l0_3.length c0_3] 28 (0, 0)) (by (with_reducible repeat (first | refine blk_drewN ?_ _ | refine blk_drew ?_ | refine blk_alloc ?_ _)); exact BK145.out) hb); have n3_ := Aside0.mk (below_step (by repeat (first | (with_reducible first | exact HB.out | apply below_alloc | apply pw_below_drewN | apply below_drew1 | refine below_set ?_ GE145.out) | exact HB.out)) hb); clear HO_6; clear BK145; clear HB; have HO_6 := n0_; have HO182 := n1_; have BK145 := n2_; have HB := n3_; clear n0_ n1_ n2_ n3_; clear hb ho74; have hcz75_0 : w73.cell? ⟨gb145, 0, none⟩ = some (.int .u64 a0_0) := (blk_cell BK145.out 0).trans rfl; have hcz75_1 : w73.cell? ⟨gb145, 1, none⟩ = some (.int .i64 a0_1) := (blk_cell BK145.out 1).trans rfl; have hcz75_2 : w73.cell? ⟨gb145, 2, none⟩ = some (.int .i64 a0_2) := (blk_cell BK145.out 2).trans rfl; have hcz75_3 : w73.cell? ⟨gb145, 3, none⟩ = some (.slice A0_3 l0_3.length c0_3) := (blk_cell BK145.out 3).trans rfl; have hfz75_0 := blk_frozen BK145.out 0; have hfz75_1 := blk_frozen BK145.out 1; have hfz75_2 := blk_frozen BK145.out 2; have hfz75_3 := blk_frozen BK145.out 3) | ((with_reducible refine gate_callee (f := 68) rfl ?_); refine goesL_ (some 97) rfl rfl Try.func68 (by kernel_rfl) rfl #[.int .u64 a0_0, .int .i64 8] rfl (by (try simp only [List.map_toArray, List.map_cons, List.map_nil]); first | done | rfl | (simp only [List.length_drop, List.length_take]; rfl)) ?_; (with_reducible refine (foundryref22_number.calls kj56 a0_0 8 t183 _ A61.out).mono ?_); rintro e w76 ⟨v184, rfl, ho0, hb⟩; refine ⟨_, rfl, ?_⟩; have n0_ := Aside0.mk (Kd.N_elder' (by (with_reducible repeat (first | apply Kd.N_alloc | apply Kd.N_drewN | apply Kd.N_drew)); exact HO_6.out) (Kd.R_base ho0) hb); have n1_ := Aside0.mk (Kd.R_elder' (by (with_reducible repeat (first | apply Kd.R_alloc | apply Kd.R_drewN | apply Kd.R_drew)); exact HO182.out) (Kd.R_base ho0) hb); have n2_ := Aside0.mk (Kd.R_lower (Kd.R_new' (Kd.R_newM (M := fun k_ => (w.heap.size ≤ k_)) ho0 (below_size (by repeat (first | (with_reducible first | exact HB.out | apply below_alloc | apply pw_below_drewN | apply below_drew1 | refine below_set ?_ GE145.out) | exact HB.out))) (fun k_ h_ => h_)) (Kd.R_lt (by (with_reducible repeat (first | apply Kd.R_alloc | apply Kd.R_drewN | apply Kd.R_drew)); exact HO182.out))) (below_size (by repeat (first | (with_reducible first | exact HB.out | apply below_alloc | apply pw_below_drewN | apply below_drew1 | refine below_set ?_ GE145.out) | exact HB.out)))); have n3_ := Aside0.mk (blk_below (g := gb145) (o := .cells #[.int .u64 a0_0, .int .i64 a0_1, .int .i64 a0_2, .slice A0_3 l0_3.length c0_3] 28 (0, 0)) (by (with_reducible repeat (first | refine blk_drewN ?_ _ | refine blk_drew ?_ | refine blk_alloc ?_ _)); exact BK145.out) hb); have n4_ := Aside0.mk (below_step (by repeat (first | (with_reducible first | exact HB.out | apply below_alloc | apply pw_below_drewN | apply below_drew1 | refine below_set ?_ GE145.out) | exact HB.out)) hb); clear HO_6; clear HO182; clear BK145; clear HB; have HO_6 := n0_; have HO182 := n1_; have HO185 := n2_; have BK145 := n3_; have HB := n4_; clear n0_ n1_ n2_ n3_ n4_; (try clear hb); (try clear hb2); (try clear hk); (try clear hi); (try clear ho0); obtain ⟨Ao78, co78, eo78⟩ := Kd.R_slice HO185.out; subst eo78) | ((with_reducible refine gate_builtin (b := .append) (xs := #[.tmp 94, .tmp 97]) rfl ?_); at_builtin; refine Kd.R_append_rows (Kd.int .u8) (w0 := w) w.heap.size rfl (.tmp 94) (.tmp 97) 22 5 (.int .u8 0) 1 rfl Try.underlying22 info5 rfl (by decide) (by omega) v181 y180 t183 _ _ _ (fun k_ => (w.heap.size ≤ k_) ∧ some k_ ≠ (.slice Ao78 t183.length co78 : Value).ownBlock) (fun _ => False) rfl rfl ?aO ?aR (fun _ _ h => h) (fun _ h => h.elim) ?aF ?aB ?aS ?aL ?_; (case aR => repeat (first | exact (Kd.R_reads' HO185.out).2.2 | (with_reducible refine Kd.C_alloc ?_ _) | (with_reducible refine Kd.C_drewN ?_ _) | (with_reducible refine Kd.C_drew ?_))); (case aB => exact (by repeat (first | (with_reducible first | exact HB.out | apply below_alloc | apply pw_below_drewN | apply below_drew1 | refine below_set ?_ GE145.out) | exact HB.out))); (case aF => exact (fun k_ hk => ⟨(Nat.le_trans (below_size (by repeat (first | (with_reducible first | exact HB.out | apply below_alloc | apply pw_below_drewN | apply below_drew1 | refine below_set ?_ GE145.out) | exact HB.out))) hk), Kd.fresh' (Kd.R_lt (by (with_reducible repeat (first | apply Kd.R_alloc | apply Kd.R_drewN | apply Kd.R_drew)); exact HO185.out)) k_ hk⟩)); (case aO => exact (by (with_reducible repeat (first | apply Kd.R_alloc | apply Kd.R_drewN | apply Kd.R_drew)); exact Kd.R_mono HO182.out (fun _ hk => ⟨hk.1.1, hk.2⟩))); (case aS => exact (below_size (by repeat (first | (with_reducible first | exact HB.out | apply below_alloc | apply pw_below_drewN | apply below_drew1 | refine below_set ?_ GE145.out) | exact HB.out)))); (case aL => have := LMc62.out; omega); intro v187 w77 ho hb hg hat; rw [← Ny186.out] at ho; have n0_ := Aside0.mk (Kd.N_afterv (ok := (fun k_ => (w.heap.size ≤ k_) ∧ some k_ ≠ (.slice Ao78 t183.length co78 : Value).ownBlock ∧ k_ ≠ gb145)) (by (with_reducible repeat (first | apply Kd.N_alloc | apply Kd.N_drewN | apply Kd.N_drew)); exact Kd.N_mono HO_6.out (fun _ hk => ⟨⟨hk.1.1.1, ⟨hk.2, hk.1.1.2⟩⟩, hk.1.2⟩)) hg hat); have n1_ := Aside0.mk (blk_grown (g := gb145) (o := .cells #[.int .u64 a0_0, .int .i64 a0_1, .int .i64 a0_2, .slice A0_3 l0_3.length c0_3] 28 (0, 0)) (by (with_reducible repeat (first | refine blk_drewN ?_ _ | refine blk_drew ?_ | refine blk_alloc ?_ _)); exact BK145.out) hg (Kd.R_ne HO182.out BK145.out (by decide))); have n2_ := Aside0.mk (Kd.R_after (ok := (fun k_ => (w.heap.size ≤ k_))) (by (with_reducible repeat (first | apply Kd.R_alloc | apply Kd.R_drewN | apply Kd.R_drew)); exact Kd.R_mono HO185.out (fun _ hk => ⟨hk.1.1, hk.2⟩)) hg hat); have n3_ := Aside0.mk (hb); have n4_ := Aside0.mk (ho); clear HO_6; clear BK145; clear HO185; clear HB; clear HO182; have HO_6 := n0_; have BK145 := n1_; have HO185 := n2_; have HB := n3_; have HO188 := n4_; clear n0_ n1_ n2_ n3_ n4_; clear ho hb hg hat; have hcz79_0 : w77.cell? ⟨gb145, 0, none⟩ = some (.int .u64 a0_0) := (blk_cell BK145.out 0).trans rfl; have hcz79_1 : w77.cell? ⟨gb145, 1, none⟩ = some (.int .i64 a0_1) := (blk_cell BK145.out 1).trans rfl; have hcz79_2 : w77.cell? ⟨gb145, 2, none⟩ = some (.int .i64 a0_2) := (blk_cell BK145.out 2).trans rfl; have hcz79_3 : w77.cell? ⟨gb145, 3, none⟩ = some (.slice A0_3 l0_3.length c0_3) := (blk_cell BK145.out 3).trans rfl; have hfz79_0 := blk_frozen BK145.out 0; have hfz79_1 := blk_frozen BK145.out 1; have hfz79_2 := blk_frozen BK145.out 2; have hfz79_3 := blk_frozen BK145.out 3) | ((with_reducible refine gate_callee (f := 68) rfl ?_); refine goesL_ (some 103) rfl rfl Try.func68 (by kernel_rfl) rfl #[.int .u64 (IntKind.u64.wrap (a0_1)), .int .i64 2] rfl (by (try simp only [List.map_toArray, List.map_cons, List.map_nil]); first | done | rfl | (simp only [List.length_drop, List.length_take]; rfl)) ?_; (with_reducible refine (foundryref22_number.calls kj56 (IntKind.u64.wrap (a0_1)) 2 t189 _ A63.out).mono ?_); rintro e w80 ⟨v190, rfl, ho0, hb⟩; refine ⟨_, rfl, ?_⟩; have n0_ := Aside0.mk (Kd.N_elder' (by (with_reducible repeat (first | apply Kd.N_alloc | apply Kd.N_drewN | apply Kd.N_drew)); exact HO_6.out) (Kd.R_base ho0) hb); have n1_ := Aside0.mk (Kd.R_elder' (by (with_reducible repeat (first | apply Kd.R_alloc | apply Kd.R_drewN | apply Kd.R_drew)); exact HO185.out) (Kd.R_base ho0) hb); have n2_ := Aside0.mk (Kd.R_elder' (by (with_reducible repeat (first | apply Kd.R_alloc | apply Kd.R_drewN | apply Kd.R_drew)); exact HO188.out) (Kd.R_base ho0) hb); have n3_ := Aside0.mk (Kd.R_lower (Kd.R_new' (Kd.R_new' (Kd.R_newM (M := fun k_ => (w.heap.size ≤ k_)) ho0 (below_size (by repeat (first | (with_reducible first | exact HB.out | apply below_alloc | apply pw_below_drewN | apply below_drew1 | refine below_set ?_ GE145.out) | exact HB.out))) (fun k_ h_ => h_)) (Kd.R_lt (by (with_reducible repeat (first | apply Kd.R_alloc | apply Kd.R_drewN | apply Kd.R_drew)); exact HO185.out))) (Kd.R_lt (by (with_reducible repeat (first | apply Kd.R_alloc | apply Kd.R_drewN | apply Kd.R_drew)); exact HO188.out))) (below_size (by repeat (first | (with_reducible first | exact HB.out | apply below_alloc | apply pw_below_drewN | apply below_drew1 | refine below_set ?_ GE145.out) | exact HB.out)))); have n4_ := Aside0.mk (blk_below (g := gb145) (o := .cells #[.int .u64 a0_0, .int .i64 a0_1, .int .i64 a0_2, .slice A0_3 l0_3.length c0_3] 28 (0, 0)) (by (with_reducible repeat (first | refine blk_drewN ?_ _ | refine blk_drew ?_ | refine blk_alloc ?_ _)); exact BK145.out) hb); have n5_ := Aside0.mk (below_step (by repeat (first | (with_reducible first | exact HB.out | apply below_alloc | apply pw_below_drewN | apply below_drew1 | refine below_set ?_ GE145.out) | exact HB.out)) hb); clear HO_6; clear HO185; clear HO188; clear BK145; clear HB; have HO_6 := n0_; have HO185 := n1_; have HO188 := n2_; have HO191 := n3_; have BK145 := n4_; have HB := n5_; clear n0_ n1_ n2_ n3_ n4_ n5_; (try clear hb); (try clear hb2); (try clear hk); (try clear hi); (try clear ho0); obtain ⟨Ao82, co82, eo82⟩ := Kd.R_slice HO191.out; subst eo82) | ((with_reducible refine gate_builtin (b := .append) (xs := #[.tmp 99, .tmp 103]) rfl ?_); at_builtin; refine Kd.R_append_rows (Kd.int .u8) (w0 := w) w.heap.size rfl (.tmp 99) (.tmp 103) 22 5 (.int .u8 0) 1 rfl Try.underlying22 info5 rfl (by decide) (by omega) v187 y186 t189 _ _ _ (fun k_ => (w.heap.size ≤ k_) ∧ some k_ ≠ (.slice Ao78 t183.length co78 : Value).ownBlock ∧ some k_ ≠ (.slice Ao82 t189.length co82 : Value).ownBlock) (fun _ => False) rfl rfl ?aO ?aR (fun _ _ h => h) (fun _ h => h.elim) ?aF ?aB ?aS ?aL ?_; (case aR => repeat (first | exact (Kd.R_reads' HO191.out).2.2 | (with_reducible refine Kd.C_alloc ?_ _) | (with_reducible refine Kd.C_drewN ?_ _) | (with_reducible refine Kd.C_drew ?_))); (case aB => exact (by repeat (first | (with_reducible first | exact HB.out | apply below_alloc | apply pw_below_drewN | apply below_drew1 | refine below_set ?_ GE145.out) | exact HB.out))); (case aF => exact (fun k_ hk => ⟨(Nat.le_trans (below_size (by repeat (first | (with_reducible first | exact HB.out | apply below_alloc | apply pw_below_drewN | apply below_drew1 | refine below_set ?_ GE145.out) | exact HB.out))) hk), Kd.fresh' (Kd.R_lt (by (with_reducible repeat (first | apply Kd.R_alloc | apply Kd.R_drewN | apply Kd.R_drew)); exact HO185.out)) k_ hk, Kd.fresh' (Kd.R_lt (by (with_reducible repeat (first | apply Kd.R_alloc | apply Kd.R_drewN | apply Kd.R_drew)); exact HO191.out)) k_ hk⟩)); (case aO => exact (by (with_reducible repeat (first | apply Kd.R_alloc | apply Kd.R_drewN | apply Kd.R_drew)); exact Kd.R_mono HO188.out (fun _ hk => ⟨hk.1.1, ⟨hk.1.2, hk.2⟩⟩))); (case aS => exact (below_size (by repeat (first | (with_reducible first | exact HB.out | apply below_alloc | apply pw_below_drewN | apply below_drew1 | refine below_set ?_ GE145.out) | exact HB.out)))); (case aL => have := LMc64.out; omega); intro v193 w81 ho hb hg hat; rw [← Ny192.out] at ho; have n0_ := Aside0.mk (Kd.N_afterv (ok := (fun k_ => (w.heap.size ≤ k_) ∧ some k_ ≠ (.slice Ao78 t183.length co78 : Value).ownBlock ∧ some k_ ≠ (.slice Ao82 t189.length co82 : Value).ownBlock ∧ k_ ≠ gb145)) (by (with_reducible repeat (first | apply Kd.N_alloc | apply Kd.N_drewN | apply Kd.N_drew)); exact Kd.N_mono HO_6.out (fun _ hk => ⟨⟨hk.1.1.1, ⟨hk.1.1.2.1, ⟨hk.2, hk.1.1.2.2⟩⟩⟩, hk.1.2⟩)) hg hat); have n1_ := Aside0.mk (blk_grown (g := gb145) (o := .cells #[.int .u64 a0_0, .int .i64 a0_1, .int .i64 a0_2, .slice A0_3 l0_3.length c0_3] 28 (0, 0)) (by (with_reducible repeat (first | refine blk_drewN ?_ _ | refine blk_drew ?_ | refine blk_alloc ?_ _)); exact BK145.out) hg (Kd.R_ne HO188.out BK145.out (by decide))); have n2_ := Aside0.mk (Kd.R_after (ok := (fun k_ => (w.heap.size ≤ k_) ∧ some k_ ≠ (.slice Ao82 t189.length co82 : Value).ownBlock)) (by (with_reducible repeat (first | apply Kd.R_alloc | apply Kd.R_drewN | apply Kd.R_drew)); exact Kd.R_mono HO185.out (fun _ hk => ⟨⟨hk.1.1, hk.2⟩, hk.1.2⟩)) hg hat); have n3_ := Aside0.mk (Kd.R_after (ok := (fun k_ => (w.heap.size ≤ k_) ∧ some k_ ≠ (.slice Ao78 t183.length co78 : Value).ownBlock)) (by (with_reducible repeat (first | apply Kd.R_alloc | apply Kd.R_drewN | apply Kd.R_drew)); exact Kd.R_mono HO191.out (fun _ hk => ⟨⟨hk.1.1.1, hk.1.2⟩, hk.2⟩)) hg hat); have n4_ := Aside0.mk (hb); have n5_ := Aside0.mk (ho); clear HO_6; clear BK145; clear HO185; clear HO191; clear HB; clear HO188; have HO_6 := n0_; have BK145 := n1_; have HO185 := n2_; have HO191 := n3_; have HB := n4_; have HO194 := n5_; clear n0_ n1_ n2_ n3_ n4_ n5_; clear ho hb hg hat; obtain ⟨Ao83, co83, eo83⟩ := Kd.N_slice HO_6.out; subst eo83) | ((with_reducible refine gate_callee (f := 68) rfl ?_); refine goesL_ (some 109) rfl rfl Try.func68 (by kernel_rfl) rfl #[.int .u64 (IntKind.u64.wrap ((x6_3.length : Int))), .int .i64 2] rfl (by (try simp only [List.map_toArray, List.map_cons, List.map_nil]); first | done | rfl | (simp only [List.length_drop, List.length_take]; rfl)) ?_; (with_reducible refine (foundryref22_number.calls kj56 (IntKind.u64.wrap ((x6_3.length : Int))) 2 t195 _ A65.out).mono ?_); rintro e w84 ⟨v196, rfl, ho0, hb⟩; refine ⟨_, rfl, ?_⟩; have n0_ := Aside0.mk (Kd.N_elder' (by (with_reducible repeat (first | apply Kd.N_alloc | apply Kd.N_drewN | apply Kd.N_drew)); exact HO_6.out) (Kd.R_base ho0) hb); have n1_ := Aside0.mk (Kd.R_elder' (by (with_reducible repeat (first | apply Kd.R_alloc | apply Kd.R_drewN | apply Kd.R_drew)); exact HO185.out) (Kd.R_base ho0) hb); have n2_ := Aside0.mk (Kd.R_elder' (by (with_reducible repeat (first | apply Kd.R_alloc | apply Kd.R_drewN | apply Kd.R_drew)); exact HO191.out) (Kd.R_base ho0) hb); have n3_ := Aside0.mk (Kd.R_elder' (by (with_reducible repeat (first | apply Kd.R_alloc | apply Kd.R_drewN | apply Kd.R_drew)); exact HO194.out) (Kd.R_base ho0) hb); have n4_ := Aside0.mk (Kd.R_lower (Kd.R_new' (Kd.R_new' (Kd.R_new' (Kd.R_newM (M := fun k_ => (w.heap.size ≤ k_)) ho0 (below_size (by repeat (first | (with_reducible first | exact HB.out | apply below_alloc | apply pw_below_drewN | apply below_drew1 | refine below_set ?_ GE145.out) | exact HB.out))) (fun k_ h_ => h_)) (Kd.R_lt (by (with_reducible repeat (first | apply Kd.R_alloc | apply Kd.R_drewN | apply Kd.R_drew)); exact HO185.out))) (Kd.R_lt (by (with_reducible repeat (first | apply Kd.R_alloc | apply Kd.R_drewN | apply Kd.R_drew)); exact HO191.out))) (Kd.R_lt (by (with_reducible repeat (first | apply Kd.R_alloc | apply Kd.R_drewN | apply Kd.R_drew)); exact HO194.out))) (below_size (by repeat (first | (with_reducible first | exact HB.out | apply below_alloc | apply pw_below_drewN | apply below_drew1 | refine below_set ?_ GE145.out) | exact HB.out)))); have n5_ := Aside0.mk (blk_below (g := gb145) (o := .cells #[.int .u64 a0_0, .int .i64 a0_1, .int .i64 a0_2, .slice A0_3 l0_3.length c0_3] 28 (0, 0)) (by (with_reducible repeat (first | refine blk_drewN ?_ _ | refine blk_drew ?_ | refine blk_alloc ?_ _)); exact BK145.out) hb); have n6_ := Aside0.mk (below_step (by repeat (first | (with_reducible first | exact HB.out | apply below_alloc | apply pw_below_drewN | apply below_drew1 | refine below_set ?_ GE145.out) | exact HB.out)) hb); clear HO_6; clear HO185; clear HO191; clear HO194; clear BK145; clear HB; have HO_6 := n0_; have HO185 := n1_; have HO191 := n2_; have HO194 := n3_; have HO197 := n4_; have BK145 := n5_; have HB := n6_; clear n0_ n1_ n2_ n3_ n4_ n5_ n6_; (try clear hb); (try clear hb2); (try clear hk); (try clear hi); (try clear ho0); obtain ⟨Ao86, co86, eo86⟩ := Kd.R_slice HO197.out; subst eo86) | ((with_reducible refine gate_builtin (b := .append) (xs := #[.tmp 105, .tmp 109]) rfl ?_); at_builtin; refine Kd.R_append_rows (Kd.int .u8) (w0 := w) w.heap.size rfl (.tmp 105) (.tmp 109) 22 5 (.int .u8 0) 1 rfl Try.underlying22 info5 rfl (by decide) (by omega) v193 y192 t195 _ _ _ (fun k_ => (w.heap.size ≤ k_) ∧ some k_ ≠ (.slice Ao78 t183.length co78 : Value).ownBlock ∧ some k_ ≠ (.slice Ao82 t189.length co82 : Value).ownBlock ∧ some k_ ≠ (.slice Ao86 t195.length co86 : Value).ownBlock) (fun _ => False) rfl rfl ?aO ?aR (fun _ _ h => h) (fun _ h => h.elim) ?aF ?aB ?aS ?aL ?_; (case aR => repeat (first | exact (Kd.R_reads' HO197.out).2.2 | (with_reducible refine Kd.C_alloc ?_ _) | (with_reducible refine Kd.C_drewN ?_ _) | (with_reducible refine Kd.C_drew ?_))); (case aB => exact (by repeat (first | (with_reducible first | exact HB.out | apply below_alloc | apply pw_below_drewN | apply below_drew1 | refine below_set ?_ GE145.out) | exact HB.out))); (case aF => exact (fun k_ hk => ⟨(Nat.le_trans (below_size (by repeat (first | (with_reducible first | exact HB.out | apply below_alloc | apply pw_below_drewN | apply below_drew1 | refine below_set ?_ GE145.out) | exact HB.out))) hk), Kd.fresh' (Kd.R_lt (by (with_reducible repeat (first | apply Kd.R_alloc | apply Kd.R_drewN | apply Kd.R_drew)); exact HO185.out)) k_ hk, Kd.fresh' (Kd.R_lt (by (with_reducible repeat (first | apply Kd.R_alloc | apply Kd.R_drewN | apply Kd.R_drew)); exact HO191.out)) k_ hk, Kd.fresh' (Kd.R_lt (by (with_reducible repeat (first | apply Kd.R_alloc | apply Kd.R_drewN | apply Kd.R_drew)); exact HO197.out)) k_ hk⟩)); (case aO => exact (by (with_reducible repeat (first | apply Kd.R_alloc | apply Kd.R_drewN | apply Kd.R_drew)); exact Kd.R_mono HO194.out (fun _ hk => ⟨hk.1.1, ⟨hk.1.2.1, ⟨hk.1.2.2, hk.2⟩⟩⟩))); (case aS => exact (below_size (by repeat (first | (with_reducible first | exact HB.out | apply below_alloc | apply pw_below_drewN | apply below_drew1 | refine below_set ?_ GE145.out) | exact HB.out)))); (case aL => have := LMc66.out; omega); intro v199 w85 ho hb hg hat; rw [← Ny198.out] at ho; have n0_ := Aside0.mk (Kd.N_afterv (ok := (fun k_ => (w.heap.size ≤ k_) ∧ some k_ ≠ (.slice Ao78 t183.length co78 : Value).ownBlock ∧ some k_ ≠ (.slice Ao82 t189.length co82 : Value).ownBlock ∧ some k_ ≠ (.slice Ao86 t195.length co86 : Value).ownBlock ∧ k_ ≠ gb145)) (by (with_reducible repeat (first | apply Kd.N_alloc | apply Kd.N_drewN | apply Kd.N_drew)); exact Kd.N_mono HO_6.out (fun _ hk => ⟨⟨hk.1.1.1, ⟨hk.1.1.2.1, ⟨hk.1.1.2.2.1, ⟨hk.2, hk.1.1.2.2.2⟩⟩⟩⟩, hk.1.2⟩)) hg hat); have n1_ := Aside0.mk (blk_grown (g := gb145) (o := .cells #[.int .u64 a0_0, .int .i64 a0_1, .int .i64 a0_2, .slice A0_3 l0_3.length c0_3] 28 (0, 0)) (by (with_reducible repeat (first | refine blk_drewN ?_ _ | refine blk_drew ?_ | refine blk_alloc ?_ _)); exact BK145.out) hg (Kd.R_ne HO194.out BK145.out (by decide))); have n2_ := Aside0.mk (Kd.R_after (ok := (fun k_ => (w.heap.size ≤ k_) ∧ some k_ ≠ (.slice Ao82 t189.length co82 : Value).ownBlock ∧ some k_ ≠ (.slice Ao86 t195.length co86 : Value).ownBlock)) (by (with_reducible repeat (first | apply Kd.R_alloc | apply Kd.R_drewN | apply Kd.R_drew)); exact Kd.R_mono HO185.out (fun _ hk => ⟨⟨hk.1.1.1, ⟨hk.1.1.2, hk.2⟩⟩, hk.1.2⟩)) hg hat); have n3_ := Aside0.mk (Kd.R_after (ok := (fun k_ => (w.heap.size ≤ k_) ∧ some k_ ≠ (.slice Ao78 t183.length co78 : Value).ownBlock ∧ some k_ ≠ (.slice Ao86 t195.length co86 : Value).ownBlock)) (by (with_reducible repeat (first | apply Kd.R_alloc | apply Kd.R_drewN | apply Kd.R_drew)); exact Kd.R_mono HO191.out (fun _ hk => ⟨⟨hk.1.1.1, ⟨hk.1.1.2, hk.2⟩⟩, hk.1.2⟩)) hg hat); have n4_ := Aside0.mk (Kd.R_after (ok := (fun k_ => (w.heap.size ≤ k_) ∧ some k_ ≠ (.slice Ao78 t183.length co78 : Value).ownBlock ∧ some k_ ≠ (.slice Ao82 t189.length co82 : Value).ownBlock)) (by (with_reducible repeat (first | apply Kd.R_alloc | apply Kd.R_drewN | apply Kd.R_drew)); exact Kd.R_mono HO197.out (fun _ hk => ⟨⟨hk.1.1.1.1, ⟨hk.1.1.2, hk.1.2⟩⟩, hk.2⟩)) hg hat); have n5_ := Aside0.mk (hb); have n6_ := Aside0.mk (ho); clear HO_6; clear BK145; clear HO185; clear HO191; clear HO197; clear HB; clear HO194; have HO_6 := n0_; have BK145 := n1_; have HO185 := n2_; have HO191 := n3_; have HO197 := n4_; have HB := n5_; have HO200 := n6_; clear n0_ n1_ n2_ n3_ n4_ n5_ n6_; clear ho hb hg hat; have hcz87_0 : w85.cell? ⟨gb145, 0, none⟩ = some (.int .u64 a0_0) := (blk_cell BK145.out 0).trans rfl; have hcz87_1 : w85.cell? ⟨gb145, 1, none⟩ = some (.int .i64 a0_1) := (blk_cell BK145.out 1).trans rfl; have hcz87_2 : w85.cell? ⟨gb145, 2, none⟩ = some (.int .i64 a0_2) := (blk_cell BK145.out 2).trans rfl; have hcz87_3 : w85.cell? ⟨gb145, 3, none⟩ = some (.slice A0_3 l0_3.length c0_3) := (blk_cell BK145.out 3).trans rfl; have hfz87_0 := blk_frozen BK145.out 0; have hfz87_1 := blk_frozen BK145.out 1; have hfz87_2 := blk_frozen BK145.out 2; have hfz87_3 := blk_frozen BK145.out 3; obtain ⟨i088, hi088, _, hsz88, _⟩ := info_parts info5; obtain ⟨A88, hcut88, hA88, hC88⟩ := print_mid_of (P := Try.prog) (Value.int .u8) 0 22 5 .i64 .i64 Try.underlying22 hi088 hsz88 A0_3 c0_3 l0_3 x5_3 x7_56 (of_decide_eq_true (by first | (with_reducible assumption) | assumption)) (by first | omega | exact of_decide_eq_true (by first | (with_reducible assumption) | assumption)) (of_decide_eq_true (by first | (with_reducible assumption) | assumption)) HC0_3.out; have HR201 := Aside0.mk (Kd.C_of_reads (h1 := fun _ => rfl) (hA88 _ (Kd.reads_of_C HR0_3.out))); have HC201 := Aside0.mk hC88; clear hA88 hC88 hi088 hsz88) | ((with_reducible refine gate_builtin (b := .append) (xs := #[.tmp 111, .tmp 116]) rfl ?_); at_builtin; refine Kd.R_append_rows (Kd.int .u8) (w0 := w) w.heap.size rfl (.tmp 111) (.tmp 116) 22 5 (.int .u8 0) 1 rfl Try.underlying22 info5 rfl (by decide) (by omega) v199 y198 ((l0_3.take (x7_56 : Int).toNat).drop (x5_3 : Int).toNat) _ _ _ (fun k_ => (w.heap.size ≤ k_) ∧ some k_ ≠ (.slice Ao78 t183.length co78 : Value).ownBlock ∧ some k_ ≠ (.slice Ao82 t189.length co82 : Value).ownBlock ∧ some k_ ≠ (.slice Ao86 t195.length co86 : Value).ownBlock) (fun _ => False) rfl rfl ?aO ?aR (fun _ _ h => h) (fun _ h => h.elim) ?aF ?aB ?aS ?aL ?_; (case aR => first | (have h0_ := (Kd.C_below HR201.out HB.out); have h1_ := h0_; rw [show ((l0_3.take (x7_56 : Int).toNat).drop (x5_3 : Int).toNat).length = (x7_56.toNat - x5_3.toNat) from (by rw [List.length_drop, List.length_take]; have h_ : (x7_56 : Int) ≤ (l0_3.length : Int) := of_decide_eq_true (by first | (with_reducible assumption) | assumption); omega)] at h1_; exact h1_) | (repeat (first | exact (Kd.C_below HR201.out HB.out) | (with_reducible refine Kd.C_alloc ?_ _) | (with_reducible refine Kd.C_drewN ?_ _) | (with_reducible refine Kd.C_drew ?_))) | (repeat (first | exact (Kd.C_below HR201.out HB.out) | (with_reducible refine Kd.C_alloc ?_ _) | (with_reducible refine Kd.C_drewN ?_ _) | (with_reducible refine Kd.C_drew ?_)))); (case aB => exact (by repeat (first | (with_reducible first | exact HB.out | apply below_alloc | apply pw_below_drewN | apply below_drew1 | refine below_set ?_ GE145.out) | exact HB.out))); (case aF => exact (fun k_ hk => ⟨(Nat.le_trans (below_size (by repeat (first | (with_reducible first | exact HB.out | apply below_alloc | apply pw_below_drewN | apply below_drew1 | refine below_set ?_ GE145.out) | exact HB.out))) hk), Kd.fresh' (Kd.R_lt (by (with_reducible repeat (first | apply Kd.R_alloc | apply Kd.R_drewN | apply Kd.R_drew)); exact HO185.out)) k_ hk, Kd.fresh' (Kd.R_lt (by (with_reducible repeat (first | apply Kd.R_alloc | apply Kd.R_drewN | apply Kd.R_drew)); exact HO191.out)) k_ hk, Kd.fresh' (Kd.R_lt (by (with_reducible repeat (first | apply Kd.R_alloc | apply Kd.R_drewN | apply Kd.R_drew)); exact HO197.out)) k_ hk⟩)); (case aO => exact (by (with_reducible repeat (first | apply Kd.R_alloc | apply Kd.R_drewN | apply Kd.R_drew)); exact HO200.out)); (case aS => exact (below_size (by repeat (first | (with_reducible first | exact HB.out | apply below_alloc | apply pw_below_drewN | apply below_drew1 | refine below_set ?_ GE145.out) | exact HB.out)))); (case aL => have := LMc70.out; have hlx_ := (show ((l0_3.take (x7_56 : Int).toNat).drop (x5_3 : Int).toNat).length = (x7_56.toNat - x5_3.toNat) from (by rw [List.length_drop, List.length_take]; have h_ : (x7_56 : Int) ≤ (l0_3.length : Int) := of_decide_eq_true (by first | (with_reducible assumption) | assumption); omega)); omega); intro v203 w89 ho hb hg hat; rw [← Ny202.out] at ho; have n0_ := Aside0.mk (Kd.N_afterv (ok := (fun k_ => (w.heap.size ≤ k_) ∧ some k_ ≠ (.slice Ao78 t183.length co78 : Value).ownBlock ∧ some k_ ≠ (.slice Ao82 t189.length co82 : Value).ownBlock ∧ some k_ ≠ (.slice Ao86 t195.length co86 : Value).ownBlock ∧ k_ ≠ gb145)) (by (with_reducible repeat (first | apply Kd.N_alloc | apply Kd.N_drewN | apply Kd.N_drew)); exact HO_6.out) hg hat); have n1_ := Aside0.mk (blk_grown (g := gb145) (o := .cells #[.int .u64 a0_0, .int .i64 a0_1, .int .i64 a0_2, .slice A0_3 l0_3.length c0_3] 28 (0, 0)) (by (with_reducible repeat (first | refine blk_drewN ?_ _ | refine blk_drew ?_ | refine blk_alloc ?_ _)); exact BK145.out) hg (Kd.R_ne HO200.out BK145.out (by decide))); have n2_ := Aside0.mk (Kd.R_after (ok := (fun k_ => (w.heap.size ≤ k_) ∧ some k_ ≠ (.slice Ao82 t189.length co82 : Value).ownBlock ∧ some k_ ≠ (.slice Ao86 t195.length co86 : Value).ownBlock)) (by (with_reducible repeat (first | apply Kd.R_alloc | apply Kd.R_drewN | apply Kd.R_drew)); exact HO185.out) hg hat); have n3_ := Aside0.mk (Kd.R_after (ok := (fun k_ => (w.heap.size ≤ k_) ∧ some k_ ≠ (.slice Ao78 t183.length co78 : Value).ownBlock ∧ some k_ ≠ (.slice Ao86 t195.length co86 : Value).ownBlock)) (by (with_reducible repeat (first | apply Kd.R_alloc | apply Kd.R_drewN | apply Kd.R_drew)); exact HO191.out) hg hat); have n4_ := Aside0.mk (Kd.R_after (ok := (fun k_ => (w.heap.size ≤ k_) ∧ some k_ ≠ (.slice Ao78 t183.length co78 : Value).ownBlock ∧ some k_ ≠ (.slice Ao82 t189.length co82 : Value).ownBlock)) (by (with_reducible repeat (first | apply Kd.R_alloc | apply Kd.R_drewN | apply Kd.R_drew)); exact HO197.out) hg hat); have n5_ := Aside0.mk (hb); have n6_ := Aside0.mk (ho); clear HO_6; clear BK145; clear HO185; clear HO191; clear HO197; clear HB; clear HO200; have HO_6 := n0_; have BK145 := n1_; have HO185 := n2_; have HO191 := n3_; have HO197 := n4_; have HB := n5_; have HO204 := n6_; clear n0_ n1_ n2_ n3_ n4_ n5_ n6_; clear ho hb hg hat; obtain ⟨Ao90, co90, eo90⟩ := Kd.R_slice HO204.out; subst eo90) | ((with_reducible refine gate_callee (f := 69) rfl ?_); refine goesL_ (some 120) rfl rfl Try.func69 (by kernel_rfl) rfl #[.slice Ao90 y202.length co90] rfl (by (try simp only [List.map_toArray, List.map_cons, List.map_nil]); first | done | rfl | (simp only [List.length_drop, List.length_take]; rfl)) ?_; (with_reducible refine (foundryref22_filled.calls kj56 (fun k_ => some k_ = (.slice Ao90 y202.length co90 : Value).ownBlock) (.slice Ao90 y202.length co90) y202 t205 w _ ?side1 ?side2 A71.out).mono ?_); (case side1 => repeat (first | (with_reducible first | exact HB.out | apply below_alloc | apply pw_below_drewN | apply below_drew1 | refine below_set ?_ GE145.out) | exact HB.out)); (case side2 => exact Kd.R_tight rfl HO204.out); rintro e w91 ⟨v206, rfl, ho0, hb, hkp⟩; refine ⟨_, rfl, ?_⟩; have n0_ := Aside0.mk (Kd.N_mono (ok' := fun k_ => (w.heap.size ≤ k_) ∧ some k_ ≠ (.slice Ao78 t183.length co78 : Value).ownBlock ∧ some k_ ≠ (.slice Ao82 t189.length co82 : Value).ownBlock ∧ some k_ ≠ (.slice Ao86 t195.length co86 : Value).ownBlock ∧ k_ ≠ gb145 ∧ some k_ ≠ (v206 : Value).ownBlock) (Kd.N_keptB (HO_6.out) hkp (fun k_ hk_ hs_ => (hk_.2) hs_)) (fun k_ hk_ => ⟨hk_.1.1.1, hk_.1.1.2.1, hk_.1.1.2.2.1, hk_.1.1.2.2.2.1, hk_.1.1.2.2.2.2, fun e_ => Or.elim (ho0.1 k_ e_.symm) (fun hs_ => hk_.2.1 hs_) (fun hn_ => Nat.not_le.2 hk_.2.2 hn_)⟩)); have n1_ := Aside0.mk (blk_kept (by (with_reducible repeat (first | refine blk_drewN ?_ _ | refine blk_drew ?_ | refine blk_alloc ?_ _)); exact BK145.out) hkp (fun hs_ => (fun e_ => (Kd.R_ne HO204.out BK145.out (by decide)) e_) hs_)); have n2_ := Aside0.mk (Kd.R_mono (ok' := fun k_ => (w.heap.size ≤ k_) ∧ some k_ ≠ (.slice Ao82 t189.length co82 : Value).ownBlock ∧ some k_ ≠ (.slice Ao86 t195.length co86 : Value).ownBlock ∧ some k_ ≠ (v206 : Value).ownBlock) (Kd.R_keptB (HO185.out) hkp (fun k_ hk_ hs_ => (hk_.2) hs_)) (fun k_ hk_ => ⟨hk_.1.1.1, hk_.1.1.2.1, hk_.1.1.2.2, fun e_ => Or.elim (ho0.1 k_ e_.symm) (fun hs_ => hk_.2.1 hs_) (fun hn_ => Nat.not_le.2 hk_.2.2 hn_)⟩)); have n3_ := Aside0.mk (Kd.R_mono (ok' := fun k_ => (w.heap.size ≤ k_) ∧ some k_ ≠ (.slice Ao78 t183.length co78 : Value).ownBlock ∧ some k_ ≠ (.slice Ao86 t195.length co86 : Value).ownBlock ∧ some k_ ≠ (v206 : Value).ownBlock) (Kd.R_keptB (HO191.out) hkp (fun k_ hk_ hs_ => (hk_.2) hs_)) (fun k_ hk_ => ⟨hk_.1.1.1, hk_.1.1.2.1, hk_.1.1.2.2, fun e_ => Or.elim (ho0.1 k_ e_.symm) (fun hs_ => hk_.2.1 hs_) (fun hn_ => Nat.not_le.2 hk_.2.2 hn_)⟩)); have n4_ := Aside0.mk (Kd.R_mono (ok' := fun k_ => (w.heap.size ≤ k_) ∧ some k_ ≠ (.slice Ao78 t183.length co78 : Value).ownBlock ∧ some k_ ≠ (.slice Ao82 t189.length co82 : Value).ownBlock ∧ some k_ ≠ (v206 : Value).ownBlock) (Kd.R_keptB (HO197.out) hkp (fun k_ hk_ hs_ => (hk_.2) hs_)) (fun k_ hk_ => ⟨hk_.1.1.1, hk_.1.1.2.1, hk_.1.1.2.2, fun e_ => Or.elim (ho0.1 k_ e_.symm) (fun hs_ => hk_.2.1 hs_) (fun hn_ => Nat.not_le.2 hk_.2.2 hn_)⟩)); have n5_ := Aside0.mk (Kd.R_mono (ok' := fun k_ => (w.heap.size ≤ k_) ∧ some k_ ≠ (.slice Ao78 t183.length co78 : Value).ownBlock ∧ some k_ ≠ (.slice Ao82 t189.length co82 : Value).ownBlock ∧ some k_ ≠ (.slice Ao86 t195.length co86 : Value).ownBlock) ho0 (fun k_ hk_ => ⟨Or.elim hk_ (fun hs_ => (HO204.out.1 k_ (hs_).symm).1) (fun hn_ => (Nat.le_trans (below_size (by repeat (first | (with_reducible first | exact HB.out | apply below_alloc | apply pw_below_drewN | apply below_drew1 | refine below_set ?_ GE145.out) | exact HB.out))) hn_)), Or.elim hk_ (fun hs_ => fun e_ => (((HO185.out).1 k_ e_.symm).2) hs_) (fun hn_ => (Kd.fresh' (Kd.R_lt (by (with_reducible repeat (first | apply Kd.R_alloc | apply Kd.R_drewN | apply Kd.R_drew)); exact HO185.out)) k_ hn_)), Or.elim hk_ (fun hs_ => fun e_ => (((HO191.out).1 k_ e_.symm).2) hs_) (fun hn_ => (Kd.fresh' (Kd.R_lt (by (with_reducible repeat (first | apply Kd.R_alloc | apply Kd.R_drewN | apply Kd.R_drew)); exact HO191.out)) k_ hn_)), Or.elim hk_ (fun hs_ => fun e_ => (((HO197.out).1 k_ e_.symm).2) hs_) (fun hn_ => (Kd.fresh' (Kd.R_lt (by (with_reducible repeat (first | apply Kd.R_alloc | apply Kd.R_drewN | apply Kd.R_drew)); exact HO197.out)) k_ hn_))⟩)); have n6_ := Aside0.mk (hb); clear HO_6; clear BK145; clear HO185; clear HO191; clear HO197; clear HB; clear HO204; have HO_6 := n0_; have BK145 := n1_; have HO185 := n2_; have HO191 := n3_; have HO197 := n4_; have HO207 := n5_; have HB := n6_; clear n0_ n1_ n2_ n3_ n4_ n5_ n6_; (try clear hb); (try clear hkp); (try clear ho0); obtain ⟨Ao93, co93, eo93⟩ := Kd.R_slice HO207.out; subst eo93) | ((with_reducible refine gate_builtin (b := .append) (xs := #[.tmp 118, .tmp 121]) rfl ?_); at_builtin; refine Kd.N_append (Kd.slice 5 (Kd.int .u8)) (w0 := w) w.heap.size rfl (.tmp 118) (.tmp 121) 45 22 (.slice none 0 0) 24 rfl Try.underlying45 info22 rfl (by decide) (by omega) (.slice Ao83 x6_3.length co83) x6_3 t205 [.slice Ao93 t205.length co93] (fun k_ => (w.heap.size ≤ k_) ∧ some k_ ≠ (.slice Ao78 t183.length co78 : Value).ownBlock ∧ some k_ ≠ (.slice Ao82 t189.length co82 : Value).ownBlock ∧ some k_ ≠ (.slice Ao86 t195.length co86 : Value).ownBlock ∧ k_ ≠ gb145) (fun k_ => ((fun k_ => (w.heap.size ≤ k_) ∧ some k_ ≠ (.slice Ao78 t183.length co78 : Value).ownBlock ∧ some k_ ≠ (.slice Ao82 t189.length co82 : Value).ownBlock ∧ some k_ ≠ (.slice Ao86 t195.length co86 : Value).ownBlock ∧ k_ ≠ gb145)) k_ ∧ some k_ ≠ (.slice Ao83 x6_3.length co83 : Value).ownBlock) rfl rfl ?aP (fun _ hk => hk) ?aF ?aO ?aB ?aS ?aL ?_; (case aP => exact (Kd.FK_slice_mk (Kd.R_reads' (Kd.R_mono (ok' := (fun k_ => ((fun k_ => (w.heap.size ≤ k_) ∧ some k_ ≠ (.slice Ao78 t183.length co78 : Value).ownBlock ∧ some k_ ≠ (.slice Ao82 t189.length co82 : Value).ownBlock ∧ some k_ ≠ (.slice Ao86 t195.length co86 : Value).ownBlock ∧ k_ ≠ gb145)) k_ ∧ some k_ ≠ (.slice Ao83 x6_3.length co83 : Value).ownBlock)) (Kd.R_types (Kd.R_apart' (HO207.out) (Kd.N_typed HO_6.out) (by decide)) BK145.out (by decide)) (fun k_ hk => ⟨⟨hk.1.1.1, ⟨hk.1.1.2.1, ⟨hk.1.1.2.2.1, ⟨hk.1.1.2.2.2, hk.2⟩⟩⟩⟩, hk.1.2⟩))).2.1 (Kd.R_F (Kd.R_mono (ok' := (fun k_ => ((fun k_ => (w.heap.size ≤ k_) ∧ some k_ ≠ (.slice Ao78 t183.length co78 : Value).ownBlock ∧ some k_ ≠ (.slice Ao82 t189.length co82 : Value).ownBlock ∧ some k_ ≠ (.slice Ao86 t195.length co86 : Value).ownBlock ∧ k_ ≠ gb145)) k_ ∧ some k_ ≠ (.slice Ao83 x6_3.length co83 : Value).ownBlock)) (Kd.R_types (Kd.R_apart' (HO207.out) (Kd.N_typed HO_6.out) (by decide)) BK145.out (by decide)) (fun k_ hk => ⟨⟨hk.1.1.1, ⟨hk.1.1.2.1, ⟨hk.1.1.2.2.1, ⟨hk.1.1.2.2.2, hk.2⟩⟩⟩⟩, hk.1.2⟩))))); (case aB => exact (by repeat (first | (with_reducible first | exact HB.out | apply below_alloc | apply pw_below_drewN | apply below_drew1 | refine below_set ?_ GE145.out) | exact HB.out))); (case aF => exact (fun k_ hk => ⟨(Nat.le_trans (below_size (by repeat (first | (with_reducible first | exact HB.out | apply below_alloc | apply pw_below_drewN | apply below_drew1 | refine below_set ?_ GE145.out) | exact HB.out))) hk), Kd.fresh' (Kd.R_lt (by (with_reducible repeat (first | apply Kd.R_alloc | apply Kd.R_drewN | apply Kd.R_drew)); exact HO185.out)) k_ hk, Kd.fresh' (Kd.R_lt (by (with_reducible repeat (first | apply Kd.R_alloc | apply Kd.R_drewN | apply Kd.R_drew)); exact HO191.out)) k_ hk, Kd.fresh' (Kd.R_lt (by (with_reducible repeat (first | apply Kd.R_alloc | apply Kd.R_drewN | apply Kd.R_drew)); exact HO197.out)) k_ hk, Kd.freshB (g := gb145) (o := .cells #[.int .u64 a0_0, .int .i64 a0_1, .int .i64 a0_2, .slice A0_3 l0_3.length c0_3] 28 (0, 0)) (by (with_reducible repeat (first | refine blk_drewN ?_ _ | refine blk_drew ?_ | refine blk_alloc ?_ _)); exact BK145.out) k_ hk⟩)); (case aO => exact (by (with_reducible repeat (first | apply Kd.N_alloc | apply Kd.N_drewN | apply Kd.N_drew)); exact Kd.N_mono HO_6.out (fun _ hk => ⟨hk.1, ⟨hk.2.1, ⟨hk.2.2.1, ⟨hk.2.2.2.1, hk.2.2.2.2.1⟩⟩⟩⟩))); (case aS => exact (below_size (by repeat (first | (with_reducible first | exact HB.out | apply below_alloc | apply pw_below_drewN | apply below_drew1 | refine below_set ?_ GE145.out) | exact HB.out)))); (case aL => have := LMc72.out; omega); intro v209 w92 ho hb hg hat; rw [← Ny208.out] at ho; have n0_ := Aside0.mk (blk_grown (g := gb145) (o := .cells #[.int .u64 a0_0, .int .i64 a0_1, .int .i64 a0_2, .slice A0_3 l0_3.length c0_3] 28 (0, 0)) (by (with_reducible repeat (first | refine blk_drewN ?_ _ | refine blk_drew ?_ | refine blk_alloc ?_ _)); exact BK145.out) hg (Kd.N_ne HO_6.out BK145.out (by decide))); have n1_ := Aside0.mk (Kd.R_over' (by (with_reducible repeat (first | apply Kd.R_alloc | apply Kd.R_drewN | apply Kd.R_drew)); exact HO185.out) (Kd.N_typed (by (with_reducible repeat (first | apply Kd.N_alloc | apply Kd.N_drewN | apply Kd.N_drew)); exact HO_6.out)) (by decide) hg); have n2_ := Aside0.mk (Kd.R_over' (by (with_reducible repeat (first | apply Kd.R_alloc | apply Kd.R_drewN | apply Kd.R_drew)); exact HO191.out) (Kd.N_typed (by (with_reducible repeat (first | apply Kd.N_alloc | apply Kd.N_drewN | apply Kd.N_drew)); exact HO_6.out)) (by decide) hg); have n3_ := Aside0.mk (Kd.R_over' (by (with_reducible repeat (first | apply Kd.R_alloc | apply Kd.R_drewN | apply Kd.R_drew)); exact HO197.out) (Kd.N_typed (by (with_reducible repeat (first | apply Kd.N_alloc | apply Kd.N_drewN | apply Kd.N_drew)); exact HO_6.out)) (by decide) hg); have n4_ := Aside0.mk (hb); have n5_ := Aside0.mk (ho); clear BK145; clear HO185; clear HO191; clear HO197; clear HB; clear HO_6; clear HO207; have BK145 := n0_; have HO185 := n1_; have HO191 := n2_; have HO197 := n3_; have HB := n4_; have HO210 := n5_; clear n0_ n1_ n2_ n3_ n4_ n5_; clear ho hb hg hat))
                                                      go_roundg kj56
                                                      case measure => have := HJ1.out; have := HJ22.out; have := HK3.out; have := HJ56.out; omega
                                                      case rel => exact ⟨(x7_56), (y208), (by first | rfl | (simp; done) | (simp [*]; done)), H', ⟨by have := HJ1.out; have := HJ22.out; have := HK3.out; have := HJ56.out; omega⟩, ⟨by (with_reducible repeat (first | apply Kd.N_alloc | apply Kd.N_drewN | apply Kd.N_drew)); exact Kd.N_mono HO210.out (fun _ hk => ⟨hk.1, hk.2.2.2.2⟩)⟩, ⟨by (with_reducible repeat (first | refine blk_drewN ?_ _ | refine blk_drew ?_ | refine blk_alloc ?_ _)); exact BK145.out⟩, ⟨by repeat (first | (with_reducible first | exact HB.out | apply below_alloc | apply pw_below_drewN | apply below_drew1 | refine below_set ?_ GE145.out) | exact HB.out)⟩⟩
                                                    · rw [if_neg c72] at H
                                                      exact absurd H (by simp)
                                                  · rw [if_neg c70] at H
                                                    exact absurd H (by simp)
                                                · rw [if_neg c69] at H
                                                  exact absurd H (by simp)
                                              · rw [if_neg c68] at H
                                                exact absurd H (by simp)
                                            · rw [if_neg c67] at H
                                              exact absurd H (by simp)
                                          · rw [if_neg c66] at H
                                            exact absurd H (by simp)
                                        · rw [if_neg c64] at H
                                          exact absurd H (by simp)
                                      · rw [if_neg c62] at H
                                        exact absurd H (by simp)
                                · rw [if_neg c56] at H
                                  have c56b0 : decide (x5_3 < (l0_3.length : Int)) = false := decide_eq_false c56
                                  clear c56
                                  simp only [Option.some.injEq, Prod.mk.injEq] at H
                                  obtain ⟨rfl, rfl⟩ := H
                                  have hcz94_0 : wr.cell? ⟨gb145, 0, none⟩ = some (.int .u64 a0_0) := (blk_cell BK145.out 0).trans rfl
                                  have hcz94_1 : wr.cell? ⟨gb145, 1, none⟩ = some (.int .i64 a0_1) := (blk_cell BK145.out 1).trans rfl
                                  have hcz94_2 : wr.cell? ⟨gb145, 2, none⟩ = some (.int .i64 a0_2) := (blk_cell BK145.out 2).trans rfl
                                  have hcz94_3 : wr.cell? ⟨gb145, 3, none⟩ = some (.slice A0_3 l0_3.length c0_3) := (blk_cell BK145.out 3).trans rfl
                                  have hfz94_0 := blk_frozen BK145.out 0
                                  have hfz94_1 := blk_frozen BK145.out 1
                                  have hfz94_2 := blk_frozen BK145.out 2
                                  have hfz94_3 := blk_frozen BK145.out 3
                                  go_wp2
                                  go_ret2
                                  exact ⟨_, by first | rfl | (simp [errW_none, errW_some] <;> rfl) | (simp [*, errW_none, errW_some] <;> rfl), by (with_reducible repeat (first | apply Kd.N_alloc | apply Kd.N_drewN | apply Kd.N_drew)); exact Kd.N_mono HO_6.out (fun _ hk => hk.1), by repeat (first | (with_reducible first | exact HB.out | apply below_alloc | apply pw_below_drewN | apply below_drew1 | refine below_set ?_ GE145.out) | exact HB.out)⟩
                          · rw [if_neg c46] at H
                            exact absurd H (by simp)
                        · rw [if_neg c45] at H
                          exact absurd H (by simp)
                      · rw [if_neg c44] at H
                        exact absurd H (by simp)
                · rw [if_neg c22] at H
                  exact absurd H (by simp)
              · rw [if_neg c20] at H
                exact absurd H (by simp)
            · rw [if_neg c19] at H
              exact absurd H (by simp)
          · rw [if_neg c17] at H
            exact absurd H (by simp)


end Go.Proofs.Ytekhmkfiepnnkaa.KCarveD

/- The document's Blocks (foundryref22): what it answers, plain, and its contract. -/
set_option linter.unusedVariables false
set_option linter.unusedSimpArgs false
namespace Go.Proofs.Ytekhmkfiepnnkaa
open Go.RowKit Go.Proofs.YtekhmkfiepnnkaaW.PrintWords Go.Proofs.YtekhmkfiepnnkaaW.PrintMore Go.Proofs.Ytekhmkfiepnnkaa.KCarveA Go.Proofs.Ytekhmkfiepnnkaa.KCarveD

theorem wr64_ {x : Int} (h1 : -9223372036854775808 ≤ x) (h2 : x ≤ 9223372036854775807) : wrap64 x = x := by
  unfold wrap64
  omega
theorem number_l (n : Int) (m : Nat) (hm : m ≤ 8) : ∀ (j k : Nat), j ≤ m → j < k → foundryref22_number.l0 k n ((be n m).take (m - j)) (8 * (j : Int) - 8) = some (be n m) := by
  intro j
  induction j with
  | zero =>
    intro k hj hk
    obtain ⟨k, rfl⟩ : ∃ q, k = q + 1 := ⟨k - 1, by omega⟩
    simp only [foundryref22_number.l0]
    rw [if_neg (by omega), List.take_of_length_le (by rw [be_length]; omega)]
  | succ j ih =>
    intro k hj hk
    obtain ⟨k, rfl⟩ : ∃ q, k = q + 1 := ⟨k - 1, by omega⟩
    simp only [foundryref22_number.l0]
    have e1 : 8 * ((j + 1 : Nat) : Int) - 8 = ((8 * j : Nat) : Int) := by omega
    have e2 : IntKind.u64.wrap ((8 * j : Nat) : Int) = ((8 * j : Nat) : Int) := by rw [wrap_u64_mod]; omega
    have e3 : shr .u64 n ((8 * j : Nat) : Int) = n / 2 ^ (8 * j) := by
      unfold shr
      rw [Int.toNat_natCast, Nat.min_eq_left (show 8 * j ≤ IntKind.u64.bits by show 8 * j ≤ 64; omega)]
    have e4 : wrap64 (((8 * j : Nat) : Int) - 8) = 8 * (j : Int) - 8 := by rw [wr64_ (by omega) (by omega)]; omega
    have e5 := be_take (n := n) (m := m) (j := j + 1) (by omega) hj
    rw [show 8 * (j + 1) - 8 = 8 * j from by omega, show m - (j + 1 - 1) = m - j from by omega] at e5
    rw [e1, if_pos (by omega), e2, if_pos (by omega), if_pos (by rw [List.length_take, be_length]; omega), e3, e4, e5]
    exact ih k (by omega) (by omega)
theorem number_f (n : Int) (m : Nat) (hm : m ≤ 8) {k : Nat} (hk : 8 < k) : foundryref22_number.f k n m = some (be n m) := by
  unfold foundryref22_number.f
  have h := number_l n m hm m k (Nat.le_refl _) (by omega)
  rw [Nat.sub_self, List.take_zero] at h
  rw [wr64_ (x := 8 * (m : Int)) (by omega) (by omega), wr64_ (x := 8 * (m : Int) - 8) (by omega) (by omega)]
  exact h
theorem filled_l : ∀ (d k : Nat) (xs : List Int), 64 - xs.length = d → xs.length ≤ 64 → d < k → foundryref22_filled.l0 k xs = some (fill xs) := by
  intro d
  induction d with
  | zero =>
    intro k xs hd hl hk
    obtain ⟨k, rfl⟩ : ∃ q, k = q + 1 := ⟨k - 1, by omega⟩
    simp only [foundryref22_filled.l0]
    rw [if_neg (by omega)]
    unfold fill
    rw [hd]; simp
  | succ d ih =>
    intro k xs hd hl hk
    obtain ⟨k, rfl⟩ : ∃ q, k = q + 1 := ⟨k - 1, by omega⟩
    simp only [foundryref22_filled.l0]
    rw [if_pos (by omega), if_pos (by omega), ih k (xs ++ [0]) (by simp; omega) (by simp; omega) (by omega)]
    unfold fill
    have e : 64 - xs.length = (64 - (xs ++ [0]).length) + 1 := by simp; omega
    rw [e, List.replicate_succ, List.append_assoc]
    rfl
theorem filled_f (xs : List Int) (h : xs.length ≤ 64) {k : Nat} (hk : 64 < k) : foundryref22_filled.f k xs = some (fill xs) := filled_l _ k xs rfl h (by omega)
/-- The blocks handed out. -/
def blkL (r : SR) : List (List Int) := if sealE r = 0 then (blkList r).map (·.2) else []
theorem head_fill (r : SR) : fill ((((([102, 104] ++ be r.gen 8) ++ be r.at_ 2) ++ [r.kind]) ++ be r.bytes.length 4) ++ r.bytes.take 47) = headB r := by
  rw [fill_pad (m := 47) (by simp [be_length]) (by rw [List.length_take]; omega)]
  unfold headB
  simp
theorem body_fill (r : SR) (i : Nat) : fill (((([102, 98] ++ be r.gen 8) ++ be r.at_ 2) ++ be ((i + 1 : Nat) : Int) 2) ++ (r.bytes.drop (47 + 50 * i)).take 50) = bodyB r (i + 1) := by
  rw [fill_pad (m := 50) (by simp [be_length]) (by rw [List.length_take]; omega)]
  unfold bodyB
  simp
/-- The list as far as i bodies. -/
def upB (r : SR) (i : Nat) : List (List Int) := headB r :: (List.range i).map fun j => bodyB r (j + 1)
theorem upB_len (r : SR) (i : Nat) : (upB r i).length = i + 1 := by simp [upB]
theorem upB_succ (r : SR) (i : Nat) : upB r i ++ [bodyB r (i + 1)] = upB r (i + 1) := by unfold upB; rw [List.range_succ, List.map_append]; simp
theorem upB_all (r : SR) : upB r (bodies r) = (blkList r).map (·.2) := by unfold upB blkList; simp
theorem blocks_l {r : SR} (hr : r.right) : ∀ (d i k : Nat), bodies r - i = d → i ≤ bodies r → 2 * d + 100 < k →
    foundryref22_Blocks.l0 k ((min r.bytes.length (47 + 50 * i) : Nat) : Int) (upB r i) r.gen r.at_ r.kind r.bytes = some (upB r (bodies r), 0) := by
  have hL := hr.l
  have hA := hr.a
  have hG := hr.g
  intro d
  induction d with
  | zero =>
    intro i k hd hi hk
    obtain ⟨k, rfl⟩ : ∃ q, k = q + 1 := ⟨k - 1, by omega⟩
    have hib : i = bodies r := by omega
    simp only [foundryref22_Blocks.l0]
    have hb : r.bytes.length ≤ 47 + 50 * i := by rw [hib]; unfold bodies; omega
    rw [if_neg (by omega), hib]
  | succ d ih =>
    intro i k hd hi hk
    obtain ⟨k, rfl⟩ : ∃ q, k = q + 2 := ⟨k - 2, by omega⟩
    have hlt : 47 + 50 * i < r.bytes.length := by
      have h1 : i < bodies r := by omega
      unfold bodies at h1; omega
    have hn : ((min r.bytes.length (47 + 50 * i) : Nat) : Int) = ((47 + 50 * i : Nat) : Int) := by omega
    have hj : foundryref22_Blocks.j3 (k + 1) ((47 + 50 * i : Nat) : Int) (upB r i) ((min r.bytes.length (47 + 50 * (i + 1)) : Nat) : Int) r.gen r.at_ r.kind r.bytes = some (upB r (bodies r), 0) := by
      have n1 := number_f r.gen 8 (by omega) (k := k) (by omega)
      have n2 := number_f r.at_ 2 (by omega) (k := k) (by omega)
      have n3 := number_f ((i + 1 : Nat) : Int) 2 (by omega) (k := k) (by omega)
      have u1 : IntKind.u64.wrap r.at_ = r.at_ := by rw [wrap_u64_mod]; omega
      have u2 : IntKind.u64.wrap (((upB r i).length : Nat) : Int) = ((i + 1 : Nat) : Int) := by rw [upB_len, wrap_u64_mod]; have := bodies_le hr; omega
      have e1 : ((8 : Nat) : Int) = 8 := rfl
      have e2 : ((2 : Nat) : Int) = 2 := rfl
      rw [e1] at n1
      rw [e2] at n2 n3
      have t1 : (r.bytes.take ((min r.bytes.length (47 + 50 * (i + 1)) : Nat) : Int).toNat).drop ((47 + 50 * i : Nat) : Int).toNat = (r.bytes.drop (47 + 50 * i)).take 50 := by
        rw [Int.toNat_natCast, Int.toNat_natCast, List.drop_take]
        rcases Nat.le_total r.bytes.length (47 + 50 * (i + 1)) with q | q
        · rw [Nat.min_eq_left q, List.take_of_length_le (by rw [List.length_drop]; omega), List.take_of_length_le (by rw [List.length_drop]; omega)]
        · rw [Nat.min_eq_right q, show 47 + 50 * (i + 1) - (47 + 50 * i) = 50 from by omega]
      have l0 : (r.bytes.drop (47 + 50 * i)).length ≤ 131072 := by rw [List.length_drop]; omega
      have f1 := filled_f (((([102, 98] ++ be r.gen 8) ++ be r.at_ 2) ++ be ((i + 1 : Nat) : Int) 2) ++ (r.bytes.drop (47 + 50 * i)).take 50) (by simp only [List.length_append, be_length, List.length_cons, List.length_nil, List.length_take]; omega) (k := k) (by omega)
      rw [body_fill] at f1
      simp only [foundryref22_Blocks.j3]
      rw [n1, u1, n2, u2, n3, t1]
      simp only [Option.bind_some]
      rw [if_pos (by simp only [List.length_append, be_length, List.length_cons, List.length_nil]; omega), if_pos (by simp only [List.length_append, be_length, List.length_cons, List.length_nil]; omega), if_pos (by simp only [List.length_append, be_length, List.length_cons, List.length_nil]; omega), if_pos (by omega), if_pos (by omega), if_pos (by omega),
        if_pos (by simp only [List.length_append, be_length, List.length_cons, List.length_nil, List.length_take]; omega), f1]
      simp only [Option.bind_some]
      rw [if_pos (by rw [upB_len]; have := bodies_le hr; omega), upB_succ]
      exact ih (i + 1) k (by omega) (by omega) (by omega)
    simp only [foundryref22_Blocks.l0]
    rw [hn, if_pos (by omega), wr64_ (by omega) (by omega)]
    by_cases hc : ((47 + 50 * i : Nat) : Int) + 50 > (r.bytes.length : Int)
    · rw [if_pos hc]
      have : ((min r.bytes.length (47 + 50 * (i + 1)) : Nat) : Int) = (r.bytes.length : Int) := by omega
      rw [this] at hj
      exact hj
    · rw [if_neg hc]
      have : ((min r.bytes.length (47 + 50 * (i + 1)) : Nat) : Int) = ((47 + 50 * i : Nat) : Int) + 50 := by omega
      rw [this] at hj
      exact hj
theorem blocks_j {r : SR} (hr : r.right) {k : Nat} (hk : 200000 < k) : foundryref22_Blocks.j0 k false r.gen r.at_ r.kind r.bytes = some (upB r (bodies r), 0) := by
  have hL := hr.l
  have hA := hr.a
  have hG := hr.g
  have hK := hr.k
  have hB := bodies_le hr
  obtain ⟨k, rfl⟩ : ∃ q, k = q + 2 := ⟨k - 2, by omega⟩
  have hj : ∀ n : Nat, n = min r.bytes.length 47 → foundryref22_Blocks.j1 (k + 1) (((([102, 104] ++ be r.gen 8) ++ be r.at_ 2) ++ [r.kind]) ++ be r.bytes.length 4) (n : Int) r.gen r.at_ r.kind r.bytes = some (upB r (bodies r), 0) := by
    intro n hn
    simp only [foundryref22_Blocks.j1]
    have t1 : r.bytes.take ((n : Nat) : Int).toNat = r.bytes.take 47 := by
      rw [Int.toNat_natCast, hn]
      rcases Nat.le_total r.bytes.length 47 with q | q
      · rw [Nat.min_eq_left q, List.take_of_length_le (Nat.le_refl _), List.take_of_length_le q]
      · rw [Nat.min_eq_right q]
    have f1 := filled_f ((((([102, 104] ++ be r.gen 8) ++ be r.at_ 2) ++ [r.kind]) ++ be r.bytes.length 4) ++ r.bytes.take 47) (by simp only [List.length_append, be_length, List.length_cons, List.length_nil, List.length_take]; omega) (k := k) (by omega)
    rw [head_fill] at f1
    rw [t1, if_pos (by omega), if_pos (by omega), if_pos (by simp only [List.length_append, be_length, List.length_cons, List.length_nil, List.length_take]; omega), f1]
    simp only [Option.bind_some]
    have := blocks_l hr (bodies r) 0 k (by omega) (by omega) (by omega)
    rw [show ((min r.bytes.length (47 + 50 * 0) : Nat) : Int) = (n : Int) from by rw [hn], show upB r 0 = [headB r] from rfl] at this
    exact this
  have n1 := number_f r.gen 8 (by omega) (k := k + 1) (by omega)
  have n2 := number_f r.at_ 2 (by omega) (k := k + 1) (by omega)
  have n3 := number_f (r.bytes.length : Int) 4 (by omega) (k := k + 1) (by omega)
  have u1 : IntKind.u64.wrap r.at_ = r.at_ := by rw [wrap_u64_mod]; omega
  have u2 : IntKind.u64.wrap (r.bytes.length : Int) = (r.bytes.length : Int) := by rw [wrap_u64_mod]; omega
  have u3 : r.kind % 256 = r.kind := by omega
  have e1 : ((8 : Nat) : Int) = 8 := rfl
  have e2 : ((2 : Nat) : Int) = 2 := rfl
  have e3 : ((4 : Nat) : Int) = 4 := rfl
  rw [e1] at n1
  rw [e2] at n2
  rw [e3] at n3
  simp only [foundryref22_Blocks.j0]
  rw [if_neg (by simp), if_neg (by omega), n1, u1, n2, u2, n3, u3]
  simp only [Option.bind_some]
  rw [if_pos (by simp only [List.length_append, be_length, List.length_cons, List.length_nil]; omega), if_pos (by simp only [List.length_append, be_length, List.length_cons, List.length_nil]; omega), if_pos (by simp only [List.length_append, be_length, List.length_cons, List.length_nil]; omega), if_pos (by simp only [List.length_append, be_length, List.length_cons, List.length_nil]; omega)]
  by_cases hc : (r.bytes.length : Int) < 47
  · rw [if_pos hc]
    exact hj r.bytes.length (by omega)
  · rw [if_neg hc]
    exact hj 47 (by omega)
theorem blocks_f {r : SR} (hg : 0 ≤ r.gen ∧ r.gen < 18446744073709551616) (hb : Bytes r.bytes) {k : Nat} (hk : 200000 < k) : foundryref22_Blocks.f k r.gen r.at_ r.kind r.bytes = some (blkL r, sealE r) := by
  obtain ⟨k, rfl⟩ : ∃ q, k = q + 1 := ⟨k - 1, by omega⟩
  have ht : ¬ sealE r = 0 → r.gen = 0 ∨ r.at_ < 0 ∨ 65535 < r.at_ ∨ r.kind < 0 ∨ 255 < r.kind → some (([] : List (List Int)), (1 : Int)) = some (blkL r, sealE r) := fun h1 h2 => by
    unfold blkL
    rw [if_neg h1]
    unfold sealE
    rw [if_pos h2]
  have hx : r.gen = 0 ∨ r.at_ < 0 ∨ 65535 < r.at_ ∨ r.kind < 0 ∨ 255 < r.kind → ¬ sealE r = 0 := fun h => by unfold sealE; rw [if_pos h]; decide
  have hj1 : foundryref22_Blocks.j0 (k + 1) true r.gen r.at_ r.kind r.bytes = some ([], 1) := by simp only [foundryref22_Blocks.j0]; rw [if_pos trivial]
  unfold foundryref22_Blocks.f
  by_cases c1 : r.gen = 0
  · rw [if_pos c1, hj1]; exact ht (hx (.inl c1)) (.inl c1)
  rw [if_neg c1]
  by_cases c2 : r.at_ < 0
  · rw [if_pos c2, hj1]; exact ht (hx (.inr (.inl c2))) (.inr (.inl c2))
  rw [if_neg c2]
  by_cases c3 : r.at_ > 65535
  · rw [if_pos c3, hj1]; exact ht (hx (by omega)) (by omega)
  rw [if_neg c3]
  by_cases c4 : r.kind < 0
  · rw [if_pos c4, hj1]; exact ht (hx (by omega)) (by omega)
  rw [if_neg c4]
  by_cases c5 : r.kind > 255
  · rw [decide_eq_true c5, hj1]; exact ht (hx (by omega)) (by omega)
  rw [decide_eq_false c5]
  by_cases c6 : (r.bytes.length : Int) > 131072
  · have he : sealE r = 3 := by unfold sealE; rw [if_neg (by omega), if_pos (by omega)]
    simp only [foundryref22_Blocks.j0]
    rw [if_neg (by simp), if_pos c6]
    unfold blkL
    rw [he, if_neg (by decide)]
  · have he : sealE r = 0 := by unfold sealE; rw [if_neg (by omega), if_neg (by omega)]
    rw [blocks_j (right_of he hg hb) (by omega), upB_all]
    unfold blkL
    rw [if_pos he, he]
theorem rblocks_any {w : World} {A : Option Addr} {c : Nat} (r : SR) (hC : KB.C w A r.bytes.length r.bytes) (hc : r.bytes.length ≤ c) (hg : 0 ≤ r.gen ∧ r.gen < 18446744073709551616) (hb : Bytes r.bytes) :
    Calls Try.prog 25 #[recV r A c] w fun e w' => ∃ v, e = .returned (.tuple #[v, .int .i64 (sealE r)]) ∧ Kd.N (Kd.slice 5 KB) 22 w' w.heap.size (fun k => w.heap.size ≤ k) v (blkL r) ∧ Below w.heap.size w w' :=
  foundryref22_Blocks.calls 200001 r.gen r.at_ r.kind A c r.bytes (blkL r) (sealE r) w hC hc (blocks_f hg hb (by omega))
theorem blocksB_any {w : World} {okr : Nat → Prop} {A : Option Addr} {c : Nat} (r : SR) (hF : RB w okr A r.bytes) (hc : r.bytes.length ≤ c) (hg : 0 ≤ r.gen ∧ r.gen < 18446744073709551616) (hb : Bytes r.bytes) :
    Calls Try.prog 24 #[recV r A c] w fun e w' => ∃ v, e = .returned (.tuple #[v, .int .i64 (sealE r)]) ∧ BlkOut w' w.heap.size v (blkL r) ∧ Below w.heap.size w w' := by
  by_cases he : sealE r = 0
  · have h := sealBlocks_ok r hF hc (right_of he hg hb)
    unfold blkL
    rw [if_pos he, he]
    exact h
  · unfold blkL
    rw [if_neg he]
    refine (blocksErr r (RB_len hF) he).mono ?_
    rintro e w' ⟨rfl, hB⟩
    exact ⟨_, rfl, ⟨[], rfl, Kd.R_nil _ _ _ _ _, List.nodup_nil, by simp, by simp⟩, hB⟩
end Go.Proofs.Ytekhmkfiepnnkaa
