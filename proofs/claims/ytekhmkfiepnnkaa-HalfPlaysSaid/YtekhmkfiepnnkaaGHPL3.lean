/- Texts of one seat, laid together. -/
import Derived.Test.YtekhmkfiepnnkaaProg
import Derived.Below
import Derived.Deep.Draws
import Derived.Deep.AppendLies
import Derived.Maps.AppendAt
import Derived.OwnWalk
import Derived.Laws.BytesArg
import Derived.Laws.MakeOwn
import Derived.Laws.OwnMore
import Derived.Deep.OwnRows
import Derived.Tactics
import Derived.Lib.ConvBytes
import Derived.Laws.Slices
import Derived.WalkKit
import Derived.KernelRfl
import Derived.RowKit3
import Derived.Deep.LoopGhost
import Derived.Deep.QuietTactic
import Derived.BigQuiet
import Derived.WideLaws
import Derived.Deep.DeepCutAuto
import Derived.Deep.CutBlock
import Derived.Deep.RegionHeld3
import Derived.Laws.Rows
import Derived.Lib.AppendStr
import Derived.ArgAppend
import Derived.Laws.IdiomCopy
import Derived.OrdersHeld
import Derived.Laws.BitsLemmas
import Derived.RowKit
import Derived.Test.YtekhmkfiepnnkaaWWords
import Derived.Test.YtekhmkfiepnnkaaWLast
import Derived.Test.YtekhmkfiepnnkaaWTab
import Derived.Test.YtekhmkfiepnnkaaWFour
import Derived.Test.YtekhmkfiepnnkaaWQPut
import Derived.Test.YtekhmkfiepnnkaaWApart
import Derived.Test.YtekhmkfiepnnkaaWArr
import Derived.Test.YtekhmkfiepnnkaaWZeros
import Derived.Test.YtekhmkfiepnnkaaWFoot
import Derived.Test.YtekhmkfiepnnkaaWKept
import Derived.Test.YtekhmkfiepnnkaaWShare
import Derived.Test.YtekhmkfiepnnkaaWN
import Derived.Test.YtekhmkfiepnnkaaWFootNe
import Derived.Test.YtekhmkfiepnnkaaWAt
import Derived.Test.YtekhmkfiepnnkaaWEqStruct
import Derived.Test.YtekhmkfiepnnkaaWRepsOne
import Derived.Test.YtekhmkfiepnnkaaWInv
import Derived.Test.YtekhmkfiepnnkaaWInvWords
import Derived.Test.YtekhmkfiepnnkaaWGuard
import Derived.Test.YtekhmkfiepnnkaaWNEv
import Derived.Test.YtekhmkfiepnnkaaWMore
import Derived.Test.YtekhmkfiepnnkaaGHPL2

namespace Go.Proofs.Ytekhmkfiepnnkaa.KCarveD
open Go.RowKit Go.Proofs.YtekhmkfiepnnkaaW.PrintWords Go.Proofs.YtekhmkfiepnnkaaW.PrintLast Go.Proofs.YtekhmkfiepnnkaaW.PrintMore
attribute [local go_sem] max2_int min2_int max_two min_two max_three min_three max_four min_four   -- for this text's walks alone
set_option linter.unusedVariables false
set_option linter.unusedSimpArgs false
open Go.Proofs.Ytekhmkfiepnnkaa.KCarveA
mutual
def foundryref22_Blocks.j0 : Nat → Bool → Int → Int → Int → List Int → Option ((List (List Int)) × Int)
  | 0, _, _, _, _, _ => none
  | k + 1, x31, x146000, x146001, x146002, x146003 => if x31 = true then (some (([] : List (List Int)), 1)) else (if (x146003.length : Int) > 131072 then (some (([] : List (List Int)), 3)) else ((some (([102, 104] : List Int) : List Int)).bind fun y146 => ((foundryref22_number.f k x146000 8).bind fun t149 => (if y146.length + t149.length < 140737488355328 then ((some (y146 ++ t149 : List Int)).bind fun y152 => ((foundryref22_number.f k (IntKind.u64.wrap (x146001)) 2).bind fun t155 => (if y152.length + t155.length < 140737488355328 then ((some (y152 ++ t155 : List Int)).bind fun y158 => (if y158.length < 140737488355328 then ((some (y158 ++ [(x146002) % 256] : List Int)).bind fun y161 => ((foundryref22_number.f k (IntKind.u64.wrap ((x146003.length : Int))) 4).bind fun t164 => (if y161.length + t164.length < 140737488355328 then ((some (y161 ++ t164 : List Int)).bind fun y167 => (if (x146003.length : Int) < 47 then (foundryref22_Blocks.j1 k y167 (x146003.length : Int) x146000 x146001 x146002 x146003) else (foundryref22_Blocks.j1 k y167 47 x146000 x146001 x146002 x146003))) else (none)))) else (none))) else (none)))) else (none)))))
def foundryref22_Blocks.j1 : Nat → List Int → Int → Int → Int → Int → List Int → Option ((List (List Int)) × Int)
  | 0, _, _, _, _, _, _ => none
  | k + 1, x4, x5, x146000, x146001, x146002, x146003 => if 0 ≤ x5 then (if x5 ≤ (x146003.length : Int) then (if x4.length + (x146003.take (x5 : Int).toNat).length < 140737488355328 then ((foundryref22_filled.f k (x4 ++ (x146003.take (x5 : Int).toNat))).bind fun t174 => (foundryref22_Blocks.l0 k x5 (([t174] : List (List Int))) x146000 x146001 x146002 x146003)) else (none)) else (none)) else (none)
def foundryref22_Blocks.l0 : Nat → Int → List (List Int) → Int → Int → Int → List Int → Option ((List (List Int)) × Int)
  | 0, _, _, _, _, _, _ => none
  | k + 1, x5, x6, x146000, x146001, x146002, x146003 => if x5 < (x146003.length : Int) then (if (wrap64 (x5 + 50)) > (x146003.length : Int) then (foundryref22_Blocks.j3 k x5 x6 (x146003.length : Int) x146000 x146001 x146002 x146003) else (foundryref22_Blocks.j3 k x5 x6 (wrap64 (x5 + 50)) x146000 x146001 x146002 x146003)) else (some (x6, 0))
def foundryref22_Blocks.j3 : Nat → Int → List (List Int) → Int → Int → Int → Int → List Int → Option ((List (List Int)) × Int)
  | 0, _, _, _, _, _, _, _ => none
  | k + 1, x5, x6, x7, x146000, x146001, x146002, x146003 => (some (([102, 98] : List Int) : List Int)).bind fun y180 => ((foundryref22_number.f k x146000 8).bind fun t183 => (if y180.length + t183.length < 140737488355328 then ((some (y180 ++ t183 : List Int)).bind fun y186 => ((foundryref22_number.f k (IntKind.u64.wrap (x146001)) 2).bind fun t189 => (if y186.length + t189.length < 140737488355328 then ((some (y186 ++ t189 : List Int)).bind fun y192 => ((foundryref22_number.f k (IntKind.u64.wrap ((x6.length : Int))) 2).bind fun t195 => (if y192.length + t195.length < 140737488355328 then ((some (y192 ++ t195 : List Int)).bind fun y198 => (if 0 ≤ x5 then (if x5 ≤ x7 then (if x7 ≤ (x146003.length : Int) then (if y198.length + ((x146003.take (x7 : Int).toNat).drop (x5 : Int).toNat).length < 140737488355328 then ((foundryref22_filled.f k (y198 ++ ((x146003.take (x7 : Int).toNat).drop (x5 : Int).toNat))).bind fun t205 => (if x6.length < 5864062014805 then (foundryref22_Blocks.l0 k x7 (x6 ++ [t205]) x146000 x146001 x146002 x146003) else (none))) else (none)) else (none)) else (none)) else (none))) else (none)))) else (none)))) else (none)))
end
def foundryref22_Blocks.f (k : Nat) (a0_0 : Int) (a0_1 : Int) (a0_2 : Int) (l0_3 : List Int) : Option ((List (List Int)) × Int) := if a0_0 = 0 then (foundryref22_Blocks.j0 k true a0_0 a0_1 a0_2 l0_3) else (if a0_1 < 0 then (foundryref22_Blocks.j0 k true a0_0 a0_1 a0_2 l0_3) else (if a0_1 > 65535 then (foundryref22_Blocks.j0 k true a0_0 a0_1 a0_2 l0_3) else (if a0_2 < 0 then (foundryref22_Blocks.j0 k true a0_0 a0_1 a0_2 l0_3) else (foundryref22_Blocks.j0 k (decide (a0_2 > 255)) a0_0 a0_1 a0_2 l0_3))))
set_option maxHeartbeats 8000000 in
set_option maxRecDepth 100000 in
theorem foundryref22_Blocks.calls (k : Nat) (a0_0 : Int) (a0_1 : Int) (a0_2 : Int) (A0_3 : Option Addr) (c0_3 : Nat) (l0_3 : List Int) (r1 : List (List Int)) (r2 : Int) (w : World) (hr0_3 : Kd.C (Kd.int .u8) w A0_3 l0_3.length l0_3) (hc0_3 : l0_3.length ≤ c0_3) (h : foundryref22_Blocks.f k a0_0 a0_1 a0_2 l0_3 = some (r1, r2)) :
    Calls Try.prog 25 #[.agg #[.int .u64 a0_0, .int .i64 a0_1, .int .i64 a0_2, .slice A0_3 l0_3.length c0_3]] w fun e w' => ∃ v0_ : Value, e = .returned (.tuple #[v0_, .int .i64 r2]) ∧ Kd.N (Kd.slice 5 (Kd.int .u8)) 22 w' w.heap.size (fun k_ => (w.heap.size ≤ k_)) v0_ r1 ∧ Below w.heap.size w w' := by
  have hu28 := Try.underlying28
  have HR0_3 := Aside0.mk hr0_3
  have HC0_3 := Aside0.mk hc0_3
  clear hr0_3 hc0_3
  have HB := Aside0.mk (Below.refl w.heap.size w)
  have H : (if a0_0 = 0 then (foundryref22_Blocks.j0 k true a0_0 a0_1 a0_2 l0_3) else (if a0_1 < 0 then (foundryref22_Blocks.j0 k true a0_0 a0_1 a0_2 l0_3) else (if a0_1 > 65535 then (foundryref22_Blocks.j0 k true a0_0 a0_1 a0_2 l0_3) else (if a0_2 < 0 then (foundryref22_Blocks.j0 k true a0_0 a0_1 a0_2 l0_3) else (foundryref22_Blocks.j0 k (decide (a0_2 > 255)) a0_0 a0_1 a0_2 l0_3))))) = some (r1, r2) := h
  clear h
  have HC2 := Aside0.mk H
  clear H
  go_enter Try.func25, Try.ntmps25
  go_upto_region 1 with (first | ((with_reducible refine gate_dst (N := 1) rfl ?_); refine box_event ?hg (N := 1) ?hd (cs := #[.int .u64 a0_0, .int .i64 a0_1, .int .i64 a0_2, .slice A0_3 l0_3.length c0_3]) (t := 28) ?hr ?_; (case hd => rfl); (case hg => rfl); (case hr => first | (go_simp; done) | (go_simp; rfl)); intro gb145 hg w3 hbox hb; have n0_ := Aside0.mk (below_step (by repeat (first | (with_reducible first | exact HB.out | apply below_alloc | apply pw_below_drewN | apply below_drew1) | exact HB.out)) hb); have n1_ := Aside0.mk (hbox); have n2_ := Aside0.mk ((by rw [hg]; exact (below_size (by repeat (first | (with_reducible first | exact HB.out | apply below_alloc | apply pw_below_drewN | apply below_drew1) | exact HB.out))) : w.heap.size ≤ gb145)); have n3_ := Aside0.mk ((by rw [hg]; exact (below_size (by repeat (first | (with_reducible first | exact HB.out | apply below_alloc | apply pw_below_drewN | apply below_drew1) | exact HB.out))) : w.heap.size ≤ gb145)); clear HB; have HB := n0_; have BK145 := n1_; have GW145 := n2_; have GE145 := n3_; clear n0_ n1_ n2_ n3_; clear hb hbox hg))
  (try simp only [Act.put, List.setIfInBounds_toArray, List.set_cons_zero, List.set_cons_succ])
  go_cut [31] (fun v31 wc => ∃ (kq : Nat) (x31_1 : Bool), v31 = .bool x31_1 ∧ Aside0 (foundryref22_Blocks.j0 kq x31_1 a0_0 a0_1 a0_2 l0_3 = some (r1, r2)) ∧ Aside0 (kq ≤ k) ∧ Aside0 (wc.heap[gb145]? = some (.cells #[.int .u64 a0_0, .int .i64 a0_1, .int .i64 a0_2, (.slice A0_3 l0_3.length c0_3)] 28 (0, 0))) ∧ Aside0 (Below w.heap.size w wc))
  case first =>
    have H := HC2.out
    clear HC2
    by_cases c4 : a0_0 = 0
    · rw [if_pos c4] at H
      have c4b0 : (a0_0 == 0) = true := beq_iff_eq.mpr c4
      have c4b1 : (a0_0 != 0) = false := bne_eq_false_iff_eq.mpr c4
      clear c4
      (first | rw [c4b0] | (simp only [i64_w, i32_w]; rw [c4b0]) | skip)
      have H' := Aside0.mk H
      clear H
      have hcz5_0 : w3.cell? ⟨gb145, 0, none⟩ = some (.int .u64 a0_0) := (blk_cell BK145.out 0).trans rfl
      have hcz5_1 : w3.cell? ⟨gb145, 1, none⟩ = some (.int .i64 a0_1) := (blk_cell BK145.out 1).trans rfl
      have hcz5_2 : w3.cell? ⟨gb145, 2, none⟩ = some (.int .i64 a0_2) := (blk_cell BK145.out 2).trans rfl
      have hcz5_3 : w3.cell? ⟨gb145, 3, none⟩ = some (.slice A0_3 l0_3.length c0_3) := (blk_cell BK145.out 3).trans rfl
      have hfz5_0 := blk_frozen BK145.out 0
      have hfz5_1 := blk_frozen BK145.out 1
      have hfz5_2 := blk_frozen BK145.out 2
      have hfz5_3 := blk_frozen BK145.out 3
      go_wp2
      go_meet
      case rel => exact ⟨_, (true), (by first | rfl | (simp; done) | (simp [*]; done)), H', ⟨by first | omega | exact Nat.le_refl _⟩, ⟨by (with_reducible repeat (first | refine blk_drewN ?_ _ | refine blk_drew ?_ | refine blk_alloc ?_ _)); exact BK145.out⟩, ⟨by repeat (first | (with_reducible first | exact HB.out | apply below_alloc | apply pw_below_drewN | apply below_drew1 | refine below_set ?_ GE145.out) | exact HB.out)⟩⟩
    · rw [if_neg c4] at H
      have c4b0 : (a0_0 == 0) = false := beq_eq_false_iff_ne.mpr c4
      have c4b1 : (a0_0 != 0) = true := bne_iff_ne.mpr c4
      (first | rw [c4b0] | (simp only [i64_w, i32_w]; rw [c4b0]) | skip)
      by_cases c6 : a0_1 < 0
      · rw [if_pos c6] at H
        have c6b0 : decide (a0_1 < 0) = true := decide_eq_true c6
        clear c6
        have H' := Aside0.mk H
        clear H
        have hcz7_0 : w3.cell? ⟨gb145, 0, none⟩ = some (.int .u64 a0_0) := (blk_cell BK145.out 0).trans rfl
        have hcz7_1 : w3.cell? ⟨gb145, 1, none⟩ = some (.int .i64 a0_1) := (blk_cell BK145.out 1).trans rfl
        have hcz7_2 : w3.cell? ⟨gb145, 2, none⟩ = some (.int .i64 a0_2) := (blk_cell BK145.out 2).trans rfl
        have hcz7_3 : w3.cell? ⟨gb145, 3, none⟩ = some (.slice A0_3 l0_3.length c0_3) := (blk_cell BK145.out 3).trans rfl
        have hfz7_0 := blk_frozen BK145.out 0
        have hfz7_1 := blk_frozen BK145.out 1
        have hfz7_2 := blk_frozen BK145.out 2
        have hfz7_3 := blk_frozen BK145.out 3
        go_wp2
        go_meet
        case rel => exact ⟨_, (true), (by first | rfl | (simp; done) | (simp [*]; done)), H', ⟨by first | omega | exact Nat.le_refl _⟩, ⟨by (with_reducible repeat (first | refine blk_drewN ?_ _ | refine blk_drew ?_ | refine blk_alloc ?_ _)); exact BK145.out⟩, ⟨by repeat (first | (with_reducible first | exact HB.out | apply below_alloc | apply pw_below_drewN | apply below_drew1 | refine below_set ?_ GE145.out) | exact HB.out)⟩⟩
      · rw [if_neg c6] at H
        have c6b0 : decide (a0_1 < 0) = false := decide_eq_false c6
        clear c6
        by_cases c8 : a0_1 > 65535
        · rw [if_pos c8] at H
          have c8b0 : decide (65535 < a0_1) = true := decide_eq_true c8
          clear c8
          have H' := Aside0.mk H
          clear H
          have hcz9_0 : w3.cell? ⟨gb145, 0, none⟩ = some (.int .u64 a0_0) := (blk_cell BK145.out 0).trans rfl
          have hcz9_1 : w3.cell? ⟨gb145, 1, none⟩ = some (.int .i64 a0_1) := (blk_cell BK145.out 1).trans rfl
          have hcz9_2 : w3.cell? ⟨gb145, 2, none⟩ = some (.int .i64 a0_2) := (blk_cell BK145.out 2).trans rfl
          have hcz9_3 : w3.cell? ⟨gb145, 3, none⟩ = some (.slice A0_3 l0_3.length c0_3) := (blk_cell BK145.out 3).trans rfl
          have hfz9_0 := blk_frozen BK145.out 0
          have hfz9_1 := blk_frozen BK145.out 1
          have hfz9_2 := blk_frozen BK145.out 2
          have hfz9_3 := blk_frozen BK145.out 3
          go_wp2
          go_meet
          case rel => exact ⟨_, (true), (by first | rfl | (simp; done) | (simp [*]; done)), H', ⟨by first | omega | exact Nat.le_refl _⟩, ⟨by (with_reducible repeat (first | refine blk_drewN ?_ _ | refine blk_drew ?_ | refine blk_alloc ?_ _)); exact BK145.out⟩, ⟨by repeat (first | (with_reducible first | exact HB.out | apply below_alloc | apply pw_below_drewN | apply below_drew1 | refine below_set ?_ GE145.out) | exact HB.out)⟩⟩
        · rw [if_neg c8] at H
          have c8b0 : decide (65535 < a0_1) = false := decide_eq_false c8
          clear c8
          by_cases c10 : a0_2 < 0
          · rw [if_pos c10] at H
            have c10b0 : decide (a0_2 < 0) = true := decide_eq_true c10
            clear c10
            have H' := Aside0.mk H
            clear H
            have hcz11_0 : w3.cell? ⟨gb145, 0, none⟩ = some (.int .u64 a0_0) := (blk_cell BK145.out 0).trans rfl
            have hcz11_1 : w3.cell? ⟨gb145, 1, none⟩ = some (.int .i64 a0_1) := (blk_cell BK145.out 1).trans rfl
            have hcz11_2 : w3.cell? ⟨gb145, 2, none⟩ = some (.int .i64 a0_2) := (blk_cell BK145.out 2).trans rfl
            have hcz11_3 : w3.cell? ⟨gb145, 3, none⟩ = some (.slice A0_3 l0_3.length c0_3) := (blk_cell BK145.out 3).trans rfl
            have hfz11_0 := blk_frozen BK145.out 0
            have hfz11_1 := blk_frozen BK145.out 1
            have hfz11_2 := blk_frozen BK145.out 2
            have hfz11_3 := blk_frozen BK145.out 3
            go_wp2
            go_meet
            case rel => exact ⟨_, (true), (by first | rfl | (simp; done) | (simp [*]; done)), H', ⟨by first | omega | exact Nat.le_refl _⟩, ⟨by (with_reducible repeat (first | refine blk_drewN ?_ _ | refine blk_drew ?_ | refine blk_alloc ?_ _)); exact BK145.out⟩, ⟨by repeat (first | (with_reducible first | exact HB.out | apply below_alloc | apply pw_below_drewN | apply below_drew1 | refine below_set ?_ GE145.out) | exact HB.out)⟩⟩
          · rw [if_neg c10] at H
            have c10b0 : decide (a0_2 < 0) = false := decide_eq_false c10
            clear c10
            have H' := Aside0.mk H
            clear H
            have hcz12_0 : w3.cell? ⟨gb145, 0, none⟩ = some (.int .u64 a0_0) := (blk_cell BK145.out 0).trans rfl
            have hcz12_1 : w3.cell? ⟨gb145, 1, none⟩ = some (.int .i64 a0_1) := (blk_cell BK145.out 1).trans rfl
            have hcz12_2 : w3.cell? ⟨gb145, 2, none⟩ = some (.int .i64 a0_2) := (blk_cell BK145.out 2).trans rfl
            have hcz12_3 : w3.cell? ⟨gb145, 3, none⟩ = some (.slice A0_3 l0_3.length c0_3) := (blk_cell BK145.out 3).trans rfl
            have hfz12_0 := blk_frozen BK145.out 0
            have hfz12_1 := blk_frozen BK145.out 1
            have hfz12_2 := blk_frozen BK145.out 2
            have hfz12_3 := blk_frozen BK145.out 3
            go_wp2
            go_meet
            case rel => exact ⟨_, (decide (a0_2 > 255)), (by first | rfl | (simp; done) | (simp [*]; done)), H', ⟨by first | omega | exact Nat.le_refl _⟩, ⟨by (with_reducible repeat (first | refine blk_drewN ?_ _ | refine blk_drew ?_ | refine blk_alloc ?_ _)); exact BK145.out⟩, ⟨by repeat (first | (with_reducible first | exact HB.out | apply below_alloc | apply pw_below_drewN | apply below_drew1 | refine below_set ?_ GE145.out) | exact HB.out)⟩⟩
  case rest =>
    clear HC2
    try clear c1
    try clear c2
    try clear p2
    try clear c4
    try clear c4b0
    try clear c4b1
    try clear c6
    try clear c6b0
    try clear c8
    try clear c8b0
    try clear c10
    try clear c10b0
    try clear hcz11_0
    try clear hcz11_1
    try clear hcz11_2
    try clear hcz11_3
    try clear hcz12_0
    try clear hcz12_1
    try clear hcz12_2
    try clear hcz12_3
    try clear hcz5_0
    try clear hcz5_1
    try clear hcz5_2
    try clear hcz5_3
    try clear hcz7_0
    try clear hcz7_1
    try clear hcz7_2
    try clear hcz7_3
    try clear hcz9_0
    try clear hcz9_1
    try clear hcz9_2
    try clear hcz9_3
    try clear hfz11_0
    try clear hfz11_1
    try clear hfz11_2
    try clear hfz11_3
    try clear hfz12_0
    try clear hfz12_1
    try clear hfz12_2
    try clear hfz12_3
    try clear hfz5_0
    try clear hfz5_1
    try clear hfz5_2
    try clear hfz5_3
    try clear hfz7_0
    try clear hfz7_1
    try clear hfz7_2
    try clear hfz7_3
    try clear hfz9_0
    try clear hfz9_1
    try clear hfz9_2
    try clear hfz9_3
    obtain ⟨kq, x31_1, rfl, HA, HJ1, BK145, HB⟩ := hcut
    cases kq with
    | zero => exact absurd HA.out (by simp [foundryref22_Blocks.j0])
    | succ kj1 =>
      have H := HA.out
      clear HA
      simp only [foundryref22_Blocks.j0] at H
      by_cases c13 : x31_1 = true
      · subst c13
        have H1 : (some (([] : List (List Int)), 1)) = some (r1, r2) := by rw [if_pos rfl] at H; exact H
        clear H
        have H := H1
        clear H1
        simp only [Option.some.injEq, Prod.mk.injEq] at H
        obtain ⟨rfl, rfl⟩ := H
        go_wp2
        go_ret2
        exact ⟨_, by first | rfl | (simp [errW_none, errW_some] <;> rfl) | (simp [*, errW_none, errW_some] <;> rfl), by first | exact Kd.S_nil _ _ _ _ _ | exact Kd.N_nil _ _ _ _ _ | exact Kd.V_nil _ _ _ _ _ | exact Kd.Q_nil _ _ _ _ _ | exact Kd.R_nil _ _ _ _ _, by repeat (first | (with_reducible first | exact HB.out | apply below_alloc | apply pw_below_drewN | apply below_drew1 | refine below_set ?_ GE145.out) | exact HB.out)⟩
      · replace c13 := Bool.eq_false_iff.mpr c13
        subst c13
        have H1 : (if (l0_3.length : Int) > 131072 then (some (([] : List (List Int)), 3)) else ((some (([102, 104] : List Int) : List Int)).bind fun y146 => ((foundryref22_number.f kj1 a0_0 8).bind fun t149 => (if y146.length + t149.length < 140737488355328 then ((some (y146 ++ t149 : List Int)).bind fun y152 => ((foundryref22_number.f kj1 (IntKind.u64.wrap (a0_1)) 2).bind fun t155 => (if y152.length + t155.length < 140737488355328 then ((some (y152 ++ t155 : List Int)).bind fun y158 => (if y158.length < 140737488355328 then ((some (y158 ++ [(a0_2) % 256] : List Int)).bind fun y161 => ((foundryref22_number.f kj1 (IntKind.u64.wrap ((l0_3.length : Int))) 4).bind fun t164 => (if y161.length + t164.length < 140737488355328 then ((some (y161 ++ t164 : List Int)).bind fun y167 => (if (l0_3.length : Int) < 47 then (foundryref22_Blocks.j1 kj1 y167 (l0_3.length : Int) a0_0 a0_1 a0_2 l0_3) else (foundryref22_Blocks.j1 kj1 y167 47 a0_0 a0_1 a0_2 l0_3))) else (none)))) else (none))) else (none)))) else (none))))) = some (r1, r2) := by rw [if_neg (show ¬ (false = true) by decide)] at H; exact H
        clear H
        have H := H1
        clear H1
        by_cases c14 : (l0_3.length : Int) > 131072
        · rw [if_pos c14] at H
          have c14b0 : decide (131072 < (l0_3.length : Int)) = true := decide_eq_true c14
          have c14b1 : decide (131072 < l0_3.length) = true := decide_eq_true (by omega)
          clear c14
          simp only [Option.some.injEq, Prod.mk.injEq] at H
          obtain ⟨rfl, rfl⟩ := H
          have hcz15_0 : wc.cell? ⟨gb145, 0, none⟩ = some (.int .u64 a0_0) := (blk_cell BK145.out 0).trans rfl
          have hcz15_1 : wc.cell? ⟨gb145, 1, none⟩ = some (.int .i64 a0_1) := (blk_cell BK145.out 1).trans rfl
          have hcz15_2 : wc.cell? ⟨gb145, 2, none⟩ = some (.int .i64 a0_2) := (blk_cell BK145.out 2).trans rfl
          have hcz15_3 : wc.cell? ⟨gb145, 3, none⟩ = some (.slice A0_3 l0_3.length c0_3) := (blk_cell BK145.out 3).trans rfl
          have hfz15_0 := blk_frozen BK145.out 0
          have hfz15_1 := blk_frozen BK145.out 1
          have hfz15_2 := blk_frozen BK145.out 2
          have hfz15_3 := blk_frozen BK145.out 3
          go_wp2
          go_ret2
          exact ⟨_, by first | rfl | (simp [errW_none, errW_some] <;> rfl) | (simp [*, errW_none, errW_some] <;> rfl), by first | exact Kd.S_nil _ _ _ _ _ | exact Kd.N_nil _ _ _ _ _ | exact Kd.V_nil _ _ _ _ _ | exact Kd.Q_nil _ _ _ _ _ | exact Kd.R_nil _ _ _ _ _, by repeat (first | (with_reducible first | exact HB.out | apply below_alloc | apply pw_below_drewN | apply below_drew1 | refine below_set ?_ GE145.out) | exact HB.out)⟩
        · rw [if_neg c14] at H
          have c14b0 : decide (131072 < (l0_3.length : Int)) = false := decide_eq_false c14
          have c14b1 : decide (131072 < l0_3.length) = false := decide_eq_false (by omega)
          clear c14
          obtain ⟨y146, hy146⟩ : ∃ y_ : List Int, y_ = (([102, 104] : List Int)) := ⟨_, rfl⟩
          replace H : ((foundryref22_number.f kj1 a0_0 8).bind fun t149 => (if y146.length + t149.length < 140737488355328 then ((some (y146 ++ t149 : List Int)).bind fun y152 => ((foundryref22_number.f kj1 (IntKind.u64.wrap (a0_1)) 2).bind fun t155 => (if y152.length + t155.length < 140737488355328 then ((some (y152 ++ t155 : List Int)).bind fun y158 => (if y158.length < 140737488355328 then ((some (y158 ++ [(a0_2) % 256] : List Int)).bind fun y161 => ((foundryref22_number.f kj1 (IntKind.u64.wrap ((l0_3.length : Int))) 4).bind fun t164 => (if y161.length + t164.length < 140737488355328 then ((some (y161 ++ t164 : List Int)).bind fun y167 => (if (l0_3.length : Int) < 47 then (foundryref22_Blocks.j1 kj1 y167 (l0_3.length : Int) a0_0 a0_1 a0_2 l0_3) else (foundryref22_Blocks.j1 kj1 y167 47 a0_0 a0_1 a0_2 l0_3))) else (none)))) else (none))) else (none)))) else (none))) = some (r1, r2) := by first | (rw [hy146]; with_reducible exact H) | (have H2_ := (Option.bind_some _ _).symm.trans H; rw [hy146]; with_reducible exact H2_) | (have H2_ := (Option.bind_some _ _).symm.trans H; with_reducible exact H2_) | with_reducible exact H | (rw [hy146]; exact H) | exact H
          have Ny146 := Aside0.mk hy146
          clear hy146
          replace H := Option.bind_eq_some_iff.mp H
          obtain ⟨t149, A160, H⟩ := H
          replace H : (if y146.length + t149.length < 140737488355328 then ((some (y146 ++ t149 : List Int)).bind fun y152 => ((foundryref22_number.f kj1 (IntKind.u64.wrap (a0_1)) 2).bind fun t155 => (if y152.length + t155.length < 140737488355328 then ((some (y152 ++ t155 : List Int)).bind fun y158 => (if y158.length < 140737488355328 then ((some (y158 ++ [(a0_2) % 256] : List Int)).bind fun y161 => ((foundryref22_number.f kj1 (IntKind.u64.wrap ((l0_3.length : Int))) 4).bind fun t164 => (if y161.length + t164.length < 140737488355328 then ((some (y161 ++ t164 : List Int)).bind fun y167 => (if (l0_3.length : Int) < 47 then (foundryref22_Blocks.j1 kj1 y167 (l0_3.length : Int) a0_0 a0_1 a0_2 l0_3) else (foundryref22_Blocks.j1 kj1 y167 47 a0_0 a0_1 a0_2 l0_3))) else (none)))) else (none))) else (none)))) else (none)) = some (r1, r2) := H
          have A16 := Aside0.mk A160
          clear A160
          by_cases c17 : y146.length + t149.length < 140737488355328
          · rw [if_pos c17] at H
            have LMc17 := Aside0.mk c17
            clear c17
            obtain ⟨y152, hy152⟩ : ∃ y_ : List Int, y_ = (y146 ++ t149) := ⟨_, rfl⟩
            replace H : ((foundryref22_number.f kj1 (IntKind.u64.wrap (a0_1)) 2).bind fun t155 => (if y152.length + t155.length < 140737488355328 then ((some (y152 ++ t155 : List Int)).bind fun y158 => (if y158.length < 140737488355328 then ((some (y158 ++ [(a0_2) % 256] : List Int)).bind fun y161 => ((foundryref22_number.f kj1 (IntKind.u64.wrap ((l0_3.length : Int))) 4).bind fun t164 => (if y161.length + t164.length < 140737488355328 then ((some (y161 ++ t164 : List Int)).bind fun y167 => (if (l0_3.length : Int) < 47 then (foundryref22_Blocks.j1 kj1 y167 (l0_3.length : Int) a0_0 a0_1 a0_2 l0_3) else (foundryref22_Blocks.j1 kj1 y167 47 a0_0 a0_1 a0_2 l0_3))) else (none)))) else (none))) else (none))) = some (r1, r2) := by first | (rw [hy152]; with_reducible exact H) | (have H2_ := (Option.bind_some _ _).symm.trans H; rw [hy152]; with_reducible exact H2_) | (have H2_ := (Option.bind_some _ _).symm.trans H; with_reducible exact H2_) | with_reducible exact H | (rw [hy152]; exact H) | exact H
            have Ny152 := Aside0.mk hy152
            clear hy152
            replace H := Option.bind_eq_some_iff.mp H
            obtain ⟨t155, A180, H⟩ := H
            replace H : (if y152.length + t155.length < 140737488355328 then ((some (y152 ++ t155 : List Int)).bind fun y158 => (if y158.length < 140737488355328 then ((some (y158 ++ [(a0_2) % 256] : List Int)).bind fun y161 => ((foundryref22_number.f kj1 (IntKind.u64.wrap ((l0_3.length : Int))) 4).bind fun t164 => (if y161.length + t164.length < 140737488355328 then ((some (y161 ++ t164 : List Int)).bind fun y167 => (if (l0_3.length : Int) < 47 then (foundryref22_Blocks.j1 kj1 y167 (l0_3.length : Int) a0_0 a0_1 a0_2 l0_3) else (foundryref22_Blocks.j1 kj1 y167 47 a0_0 a0_1 a0_2 l0_3))) else (none)))) else (none))) else (none)) = some (r1, r2) := H
            have A18 := Aside0.mk A180
            clear A180
            by_cases c19 : y152.length + t155.length < 140737488355328
            · rw [if_pos c19] at H
              have LMc19 := Aside0.mk c19
              clear c19
              obtain ⟨y158, hy158⟩ : ∃ y_ : List Int, y_ = (y152 ++ t155) := ⟨_, rfl⟩
              replace H : (if y158.length < 140737488355328 then ((some (y158 ++ [(a0_2) % 256] : List Int)).bind fun y161 => ((foundryref22_number.f kj1 (IntKind.u64.wrap ((l0_3.length : Int))) 4).bind fun t164 => (if y161.length + t164.length < 140737488355328 then ((some (y161 ++ t164 : List Int)).bind fun y167 => (if (l0_3.length : Int) < 47 then (foundryref22_Blocks.j1 kj1 y167 (l0_3.length : Int) a0_0 a0_1 a0_2 l0_3) else (foundryref22_Blocks.j1 kj1 y167 47 a0_0 a0_1 a0_2 l0_3))) else (none)))) else (none)) = some (r1, r2) := by first | (rw [hy158]; with_reducible exact H) | (have H2_ := (Option.bind_some _ _).symm.trans H; rw [hy158]; with_reducible exact H2_) | (have H2_ := (Option.bind_some _ _).symm.trans H; with_reducible exact H2_) | with_reducible exact H | (rw [hy158]; exact H) | exact H
              have Ny158 := Aside0.mk hy158
              clear hy158
              by_cases c20 : y158.length < 140737488355328
              · rw [if_pos c20] at H
                have LMc20 := Aside0.mk c20
                clear c20
                obtain ⟨y161, hy161⟩ : ∃ y_ : List Int, y_ = (y158 ++ [(a0_2) % 256]) := ⟨_, rfl⟩
                replace H : ((foundryref22_number.f kj1 (IntKind.u64.wrap ((l0_3.length : Int))) 4).bind fun t164 => (if y161.length + t164.length < 140737488355328 then ((some (y161 ++ t164 : List Int)).bind fun y167 => (if (l0_3.length : Int) < 47 then (foundryref22_Blocks.j1 kj1 y167 (l0_3.length : Int) a0_0 a0_1 a0_2 l0_3) else (foundryref22_Blocks.j1 kj1 y167 47 a0_0 a0_1 a0_2 l0_3))) else (none))) = some (r1, r2) := by first | (rw [hy161]; with_reducible exact H) | (have H2_ := (Option.bind_some _ _).symm.trans H; rw [hy161]; with_reducible exact H2_) | (have H2_ := (Option.bind_some _ _).symm.trans H; with_reducible exact H2_) | with_reducible exact H | (rw [hy161]; exact H) | exact H
                have Ny161 := Aside0.mk hy161
                clear hy161
                replace H := Option.bind_eq_some_iff.mp H
                obtain ⟨t164, A210, H⟩ := H
                replace H : (if y161.length + t164.length < 140737488355328 then ((some (y161 ++ t164 : List Int)).bind fun y167 => (if (l0_3.length : Int) < 47 then (foundryref22_Blocks.j1 kj1 y167 (l0_3.length : Int) a0_0 a0_1 a0_2 l0_3) else (foundryref22_Blocks.j1 kj1 y167 47 a0_0 a0_1 a0_2 l0_3))) else (none)) = some (r1, r2) := H
                have A21 := Aside0.mk A210
                clear A210
                by_cases c22 : y161.length + t164.length < 140737488355328
                · rw [if_pos c22] at H
                  have LMc22 := Aside0.mk c22
                  clear c22
                  obtain ⟨y167, hy167⟩ : ∃ y_ : List Int, y_ = (y161 ++ t164) := ⟨_, rfl⟩
                  replace H : (if (l0_3.length : Int) < 47 then (foundryref22_Blocks.j1 kj1 y167 (l0_3.length : Int) a0_0 a0_1 a0_2 l0_3) else (foundryref22_Blocks.j1 kj1 y167 47 a0_0 a0_1 a0_2 l0_3)) = some (r1, r2) := by first | (rw [hy167]; with_reducible exact H) | (have H2_ := (Option.bind_some _ _).symm.trans H; rw [hy167]; with_reducible exact H2_) | (have H2_ := (Option.bind_some _ _).symm.trans H; with_reducible exact H2_) | with_reducible exact H | (rw [hy167]; exact H) | exact H
                  have Ny167 := Aside0.mk hy167
                  clear hy167
                  have HC23 := Aside0.mk H
                  clear H
                  have hcz24_0 : wc.cell? ⟨gb145, 0, none⟩ = some (.int .u64 a0_0) := (blk_cell BK145.out 0).trans rfl
                  have hcz24_1 : wc.cell? ⟨gb145, 1, none⟩ = some (.int .i64 a0_1) := (blk_cell BK145.out 1).trans rfl
                  have hcz24_2 : wc.cell? ⟨gb145, 2, none⟩ = some (.int .i64 a0_2) := (blk_cell BK145.out 2).trans rfl
                  have hcz24_3 : wc.cell? ⟨gb145, 3, none⟩ = some (.slice A0_3 l0_3.length c0_3) := (blk_cell BK145.out 3).trans rfl
                  have hfz24_0 := blk_frozen BK145.out 0
                  have hfz24_1 := blk_frozen BK145.out 1
                  have hfz24_2 := blk_frozen BK145.out 2
                  have hfz24_3 := blk_frozen BK145.out 3
                  go_upto_if 65 with (first | ((with_reducible refine gate_dst (N := 36) rfl ?_); refine Kd.R_lit (Kd.int .u8) _ 5 ?hg (N := 36) ?hd (xs := ([102, 104] : List Int)) (inner := [.int .u8 102, .int .u8 104]) (ok := fun _ => True) (okp := fun _ => True) ?hr ?hp (fun _ hk => hk) trivial (Below.refl _ _) (Nat.le_refl _) (by simp) ?_; (case hd => rfl); (case hg => rfl); (case hr => first | (go_simp; done) | (go_simp; rfl)); (case hp => exact (Reps.one (show Kd.M (Kd.int .u8) _ _ _ 102 [.int .u8 102] from rfl) (Reps.one (show Kd.M (Kd.int .u8) _ _ _ 104 [.int .u8 104] from rfl) (Reps.none _ _)))); intro v147 w25 ho26 hb hg_ hnew_; clear hg_ hnew_; (first | rw [← Ny146.out] at ho26 | (simp only [Int.reduceToNat] at ho26; rw [← Ny146.out] at ho26)); have n0_ := Aside0.mk (Kd.R_lower (Kd.R_newM (M := fun k_ => (w.heap.size ≤ k_)) ho26 (below_size (by repeat (first | (with_reducible first | exact HB.out | apply below_alloc | apply pw_below_drewN | apply below_drew1 | refine below_set ?_ GE145.out) | exact HB.out))) (fun k_ h_ => h_)) (below_size (by repeat (first | (with_reducible first | exact HB.out | apply below_alloc | apply pw_below_drewN | apply below_drew1 | refine below_set ?_ GE145.out) | exact HB.out)))); have n1_ := Aside0.mk (blk_below (g := gb145) (o := .cells #[.int .u64 a0_0, .int .i64 a0_1, .int .i64 a0_2, .slice A0_3 l0_3.length c0_3] 28 (0, 0)) (by (with_reducible repeat (first | refine blk_drewN ?_ _ | refine blk_drew ?_ | refine blk_alloc ?_ _)); exact BK145.out) hb); have n2_ := Aside0.mk (below_step (by repeat (first | (with_reducible first | exact HB.out | apply below_alloc | apply pw_below_drewN | apply below_drew1 | refine below_set ?_ GE145.out) | exact HB.out)) hb); clear BK145; clear HB; have HO148 := n0_; have BK145 := n1_; have HB := n2_; clear n0_ n1_ n2_; clear hb ho26; have hcz27_0 : w25.cell? ⟨gb145, 0, none⟩ = some (.int .u64 a0_0) := (blk_cell BK145.out 0).trans rfl; have hcz27_1 : w25.cell? ⟨gb145, 1, none⟩ = some (.int .i64 a0_1) := (blk_cell BK145.out 1).trans rfl; have hcz27_2 : w25.cell? ⟨gb145, 2, none⟩ = some (.int .i64 a0_2) := (blk_cell BK145.out 2).trans rfl; have hcz27_3 : w25.cell? ⟨gb145, 3, none⟩ = some (.slice A0_3 l0_3.length c0_3) := (blk_cell BK145.out 3).trans rfl; have hfz27_0 := blk_frozen BK145.out 0; have hfz27_1 := blk_frozen BK145.out 1; have hfz27_2 := blk_frozen BK145.out 2; have hfz27_3 := blk_frozen BK145.out 3) | ((with_reducible refine gate_callee (f := 68) rfl ?_); refine goesL_ (some 40) rfl rfl Try.func68 (by kernel_rfl) rfl #[.int .u64 a0_0, .int .i64 8] rfl (by (try simp only [List.map_toArray, List.map_cons, List.map_nil]); first | done | rfl | (simp only [List.length_drop, List.length_take]; rfl)) ?_; (with_reducible refine (foundryref22_number.calls kj1 a0_0 8 t149 _ A16.out).mono ?_); rintro e w28 ⟨v150, rfl, ho0, hb⟩; refine ⟨_, rfl, ?_⟩; have n0_ := Aside0.mk (Kd.R_elder' (by (with_reducible repeat (first | apply Kd.R_alloc | apply Kd.R_drewN | apply Kd.R_drew)); exact HO148.out) (Kd.R_base ho0) hb); have n1_ := Aside0.mk (Kd.R_lower (Kd.R_new' (Kd.R_newM (M := fun k_ => (w.heap.size ≤ k_)) ho0 (below_size (by repeat (first | (with_reducible first | exact HB.out | apply below_alloc | apply pw_below_drewN | apply below_drew1 | refine below_set ?_ GE145.out) | exact HB.out))) (fun k_ h_ => h_)) (Kd.R_lt (by (with_reducible repeat (first | apply Kd.R_alloc | apply Kd.R_drewN | apply Kd.R_drew)); exact HO148.out))) (below_size (by repeat (first | (with_reducible first | exact HB.out | apply below_alloc | apply pw_below_drewN | apply below_drew1 | refine below_set ?_ GE145.out) | exact HB.out)))); have n2_ := Aside0.mk (blk_below (g := gb145) (o := .cells #[.int .u64 a0_0, .int .i64 a0_1, .int .i64 a0_2, .slice A0_3 l0_3.length c0_3] 28 (0, 0)) (by (with_reducible repeat (first | refine blk_drewN ?_ _ | refine blk_drew ?_ | refine blk_alloc ?_ _)); exact BK145.out) hb); have n3_ := Aside0.mk (below_step (by repeat (first | (with_reducible first | exact HB.out | apply below_alloc | apply pw_below_drewN | apply below_drew1 | refine below_set ?_ GE145.out) | exact HB.out)) hb); clear HO148; clear BK145; clear HB; have HO148 := n0_; have HO151 := n1_; have BK145 := n2_; have HB := n3_; clear n0_ n1_ n2_ n3_; (try clear hb); (try clear hb2); (try clear hk); (try clear hi); (try clear ho0); obtain ⟨Ao30, co30, eo30⟩ := Kd.R_slice HO151.out; subst eo30) | ((with_reducible refine gate_builtin (b := .append) (xs := #[.tmp 37, .tmp 40]) rfl ?_); at_builtin; refine Kd.R_append_rows (Kd.int .u8) (w0 := w) w.heap.size rfl (.tmp 37) (.tmp 40) 22 5 (.int .u8 0) 1 rfl Try.underlying22 info5 rfl (by decide) (by omega) v147 y146 t149 _ _ _ (fun k_ => (w.heap.size ≤ k_) ∧ some k_ ≠ (.slice Ao30 t149.length co30 : Value).ownBlock) (fun _ => False) rfl rfl ?aO ?aR (fun _ _ h => h) (fun _ h => h.elim) ?aF ?aB ?aS ?aL ?_; (case aR => repeat (first | exact (Kd.R_reads' HO151.out).2.2 | (with_reducible refine Kd.C_alloc ?_ _) | (with_reducible refine Kd.C_drewN ?_ _) | (with_reducible refine Kd.C_drew ?_))); (case aB => exact (by repeat (first | (with_reducible first | exact HB.out | apply below_alloc | apply pw_below_drewN | apply below_drew1 | refine below_set ?_ GE145.out) | exact HB.out))); (case aF => exact (fun k_ hk => ⟨(Nat.le_trans (below_size (by repeat (first | (with_reducible first | exact HB.out | apply below_alloc | apply pw_below_drewN | apply below_drew1 | refine below_set ?_ GE145.out) | exact HB.out))) hk), Kd.fresh' (Kd.R_lt (by (with_reducible repeat (first | apply Kd.R_alloc | apply Kd.R_drewN | apply Kd.R_drew)); exact HO151.out)) k_ hk⟩)); (case aO => exact (by (with_reducible repeat (first | apply Kd.R_alloc | apply Kd.R_drewN | apply Kd.R_drew)); exact Kd.R_mono HO148.out (fun _ hk => ⟨hk.1.1, hk.2⟩))); (case aS => exact (below_size (by repeat (first | (with_reducible first | exact HB.out | apply below_alloc | apply pw_below_drewN | apply below_drew1 | refine below_set ?_ GE145.out) | exact HB.out)))); (case aL => have := LMc17.out; omega); intro v153 w29 ho hb hg hat; rw [← Ny152.out] at ho; have n0_ := Aside0.mk (blk_grown (g := gb145) (o := .cells #[.int .u64 a0_0, .int .i64 a0_1, .int .i64 a0_2, .slice A0_3 l0_3.length c0_3] 28 (0, 0)) (by (with_reducible repeat (first | refine blk_drewN ?_ _ | refine blk_drew ?_ | refine blk_alloc ?_ _)); exact BK145.out) hg (Kd.R_ne HO148.out BK145.out (by decide))); have n1_ := Aside0.mk (Kd.R_after (ok := (fun k_ => (w.heap.size ≤ k_))) (by (with_reducible repeat (first | apply Kd.R_alloc | apply Kd.R_drewN | apply Kd.R_drew)); exact Kd.R_mono HO151.out (fun _ hk => ⟨hk.1.1, hk.2⟩)) hg hat); have n2_ := Aside0.mk (hb); have n3_ := Aside0.mk (ho); clear BK145; clear HO151; clear HB; clear HO148; have BK145 := n0_; have HO151 := n1_; have HB := n2_; have HO154 := n3_; clear n0_ n1_ n2_ n3_; clear ho hb hg hat; have hcz31_0 : w29.cell? ⟨gb145, 0, none⟩ = some (.int .u64 a0_0) := (blk_cell BK145.out 0).trans rfl; have hcz31_1 : w29.cell? ⟨gb145, 1, none⟩ = some (.int .i64 a0_1) := (blk_cell BK145.out 1).trans rfl; have hcz31_2 : w29.cell? ⟨gb145, 2, none⟩ = some (.int .i64 a0_2) := (blk_cell BK145.out 2).trans rfl; have hcz31_3 : w29.cell? ⟨gb145, 3, none⟩ = some (.slice A0_3 l0_3.length c0_3) := (blk_cell BK145.out 3).trans rfl; have hfz31_0 := blk_frozen BK145.out 0; have hfz31_1 := blk_frozen BK145.out 1; have hfz31_2 := blk_frozen BK145.out 2; have hfz31_3 := blk_frozen BK145.out 3) | ((with_reducible refine gate_callee (f := 68) rfl ?_); refine goesL_ (some 46) rfl rfl Try.func68 (by kernel_rfl) rfl #[.int .u64 (IntKind.u64.wrap (a0_1)), .int .i64 2] rfl (by (try simp only [List.map_toArray, List.map_cons, List.map_nil]); first | done | rfl | (simp only [List.length_drop, List.length_take]; rfl)) ?_; (with_reducible refine (foundryref22_number.calls kj1 (IntKind.u64.wrap (a0_1)) 2 t155 _ A18.out).mono ?_); rintro e w32 ⟨v156, rfl, ho0, hb⟩; refine ⟨_, rfl, ?_⟩; have n0_ := Aside0.mk (Kd.R_elder' (by (with_reducible repeat (first | apply Kd.R_alloc | apply Kd.R_drewN | apply Kd.R_drew)); exact HO151.out) (Kd.R_base ho0) hb); have n1_ := Aside0.mk (Kd.R_elder' (by (with_reducible repeat (first | apply Kd.R_alloc | apply Kd.R_drewN | apply Kd.R_drew)); exact HO154.out) (Kd.R_base ho0) hb); have n2_ := Aside0.mk (Kd.R_lower (Kd.R_new' (Kd.R_new' (Kd.R_newM (M := fun k_ => (w.heap.size ≤ k_)) ho0 (below_size (by repeat (first | (with_reducible first | exact HB.out | apply below_alloc | apply pw_below_drewN | apply below_drew1 | refine below_set ?_ GE145.out) | exact HB.out))) (fun k_ h_ => h_)) (Kd.R_lt (by (with_reducible repeat (first | apply Kd.R_alloc | apply Kd.R_drewN | apply Kd.R_drew)); exact HO151.out))) (Kd.R_lt (by (with_reducible repeat (first | apply Kd.R_alloc | apply Kd.R_drewN | apply Kd.R_drew)); exact HO154.out))) (below_size (by repeat (first | (with_reducible first | exact HB.out | apply below_alloc | apply pw_below_drewN | apply below_drew1 | refine below_set ?_ GE145.out) | exact HB.out)))); have n3_ := Aside0.mk (blk_below (g := gb145) (o := .cells #[.int .u64 a0_0, .int .i64 a0_1, .int .i64 a0_2, .slice A0_3 l0_3.length c0_3] 28 (0, 0)) (by (with_reducible repeat (first | refine blk_drewN ?_ _ | refine blk_drew ?_ | refine blk_alloc ?_ _)); exact BK145.out) hb); have n4_ := Aside0.mk (below_step (by repeat (first | (with_reducible first | exact HB.out | apply below_alloc | apply pw_below_drewN | apply below_drew1 | refine below_set ?_ GE145.out) | exact HB.out)) hb); clear HO151; clear HO154; clear BK145; clear HB; have HO151 := n0_; have HO154 := n1_; have HO157 := n2_; have BK145 := n3_; have HB := n4_; clear n0_ n1_ n2_ n3_ n4_; (try clear hb); (try clear hb2); (try clear hk); (try clear hi); (try clear ho0); obtain ⟨Ao34, co34, eo34⟩ := Kd.R_slice HO157.out; subst eo34) | ((with_reducible refine gate_builtin (b := .append) (xs := #[.tmp 42, .tmp 46]) rfl ?_); at_builtin; refine Kd.R_append_rows (Kd.int .u8) (w0 := w) w.heap.size rfl (.tmp 42) (.tmp 46) 22 5 (.int .u8 0) 1 rfl Try.underlying22 info5 rfl (by decide) (by omega) v153 y152 t155 _ _ _ (fun k_ => (w.heap.size ≤ k_) ∧ some k_ ≠ (.slice Ao30 t149.length co30 : Value).ownBlock ∧ some k_ ≠ (.slice Ao34 t155.length co34 : Value).ownBlock) (fun _ => False) rfl rfl ?aO ?aR (fun _ _ h => h) (fun _ h => h.elim) ?aF ?aB ?aS ?aL ?_; (case aR => repeat (first | exact (Kd.R_reads' HO157.out).2.2 | (with_reducible refine Kd.C_alloc ?_ _) | (with_reducible refine Kd.C_drewN ?_ _) | (with_reducible refine Kd.C_drew ?_))); (case aB => exact (by repeat (first | (with_reducible first | exact HB.out | apply below_alloc | apply pw_below_drewN | apply below_drew1 | refine below_set ?_ GE145.out) | exact HB.out))); (case aF => exact (fun k_ hk => ⟨(Nat.le_trans (below_size (by repeat (first | (with_reducible first | exact HB.out | apply below_alloc | apply pw_below_drewN | apply below_drew1 | refine below_set ?_ GE145.out) | exact HB.out))) hk), Kd.fresh' (Kd.R_lt (by (with_reducible repeat (first | apply Kd.R_alloc | apply Kd.R_drewN | apply Kd.R_drew)); exact HO151.out)) k_ hk, Kd.fresh' (Kd.R_lt (by (with_reducible repeat (first | apply Kd.R_alloc | apply Kd.R_drewN | apply Kd.R_drew)); exact HO157.out)) k_ hk⟩)); (case aO => exact (by (with_reducible repeat (first | apply Kd.R_alloc | apply Kd.R_drewN | apply Kd.R_drew)); exact Kd.R_mono HO154.out (fun _ hk => ⟨hk.1.1, ⟨hk.1.2, hk.2⟩⟩))); (case aS => exact (below_size (by repeat (first | (with_reducible first | exact HB.out | apply below_alloc | apply pw_below_drewN | apply below_drew1 | refine below_set ?_ GE145.out) | exact HB.out)))); (case aL => have := LMc19.out; omega); intro v159 w33 ho hb hg hat; rw [← Ny158.out] at ho; have n0_ := Aside0.mk (blk_grown (g := gb145) (o := .cells #[.int .u64 a0_0, .int .i64 a0_1, .int .i64 a0_2, .slice A0_3 l0_3.length c0_3] 28 (0, 0)) (by (with_reducible repeat (first | refine blk_drewN ?_ _ | refine blk_drew ?_ | refine blk_alloc ?_ _)); exact BK145.out) hg (Kd.R_ne HO154.out BK145.out (by decide))); have n1_ := Aside0.mk (Kd.R_after (ok := (fun k_ => (w.heap.size ≤ k_) ∧ some k_ ≠ (.slice Ao34 t155.length co34 : Value).ownBlock)) (by (with_reducible repeat (first | apply Kd.R_alloc | apply Kd.R_drewN | apply Kd.R_drew)); exact Kd.R_mono HO151.out (fun _ hk => ⟨⟨hk.1.1, hk.2⟩, hk.1.2⟩)) hg hat); have n2_ := Aside0.mk (Kd.R_after (ok := (fun k_ => (w.heap.size ≤ k_) ∧ some k_ ≠ (.slice Ao30 t149.length co30 : Value).ownBlock)) (by (with_reducible repeat (first | apply Kd.R_alloc | apply Kd.R_drewN | apply Kd.R_drew)); exact Kd.R_mono HO157.out (fun _ hk => ⟨⟨hk.1.1.1, hk.1.2⟩, hk.2⟩)) hg hat); have n3_ := Aside0.mk (hb); have n4_ := Aside0.mk (ho); clear BK145; clear HO151; clear HO157; clear HB; clear HO154; have BK145 := n0_; have HO151 := n1_; have HO157 := n2_; have HB := n3_; have HO160 := n4_; clear n0_ n1_ n2_ n3_ n4_; clear ho hb hg hat; have hcz35_0 : w33.cell? ⟨gb145, 0, none⟩ = some (.int .u64 a0_0) := (blk_cell BK145.out 0).trans rfl; have hcz35_1 : w33.cell? ⟨gb145, 1, none⟩ = some (.int .i64 a0_1) := (blk_cell BK145.out 1).trans rfl; have hcz35_2 : w33.cell? ⟨gb145, 2, none⟩ = some (.int .i64 a0_2) := (blk_cell BK145.out 2).trans rfl; have hcz35_3 : w33.cell? ⟨gb145, 3, none⟩ = some (.slice A0_3 l0_3.length c0_3) := (blk_cell BK145.out 3).trans rfl; have hfz35_0 := blk_frozen BK145.out 0; have hfz35_1 := blk_frozen BK145.out 1; have hfz35_2 := blk_frozen BK145.out 2; have hfz35_3 := blk_frozen BK145.out 3) | ((with_reducible refine gate_builtin (b := .append) (xs := #[.tmp 48, .tmp 52]) rfl ?_); at_builtin; refine Kd.R_append (Kd.int .u8) (w0 := w) w.heap.size rfl (.tmp 48) (.tmp 52) 22 5 (.int .u8 0) 1 rfl Try.underlying22 info5 rfl (by decide) (by omega) v159 y158 ((a0_2) % 256) [.int .u8 ((a0_2) % 256)] (fun k_ => (w.heap.size ≤ k_) ∧ some k_ ≠ (.slice Ao30 t149.length co30 : Value).ownBlock ∧ some k_ ≠ (.slice Ao34 t155.length co34 : Value).ownBlock) (fun _ => False) rfl rfl ?aP (fun _ hk => hk.elim) ?aF ?aO ?aB ?aS ?aL ?_; (case aP => exact rfl); (case aB => exact (by repeat (first | (with_reducible first | exact HB.out | apply below_alloc | apply pw_below_drewN | apply below_drew1 | refine below_set ?_ GE145.out) | exact HB.out))); (case aF => exact (fun k_ hk => ⟨(Nat.le_trans (below_size (by repeat (first | (with_reducible first | exact HB.out | apply below_alloc | apply pw_below_drewN | apply below_drew1 | refine below_set ?_ GE145.out) | exact HB.out))) hk), Kd.fresh' (Kd.R_lt (by (with_reducible repeat (first | apply Kd.R_alloc | apply Kd.R_drewN | apply Kd.R_drew)); exact HO151.out)) k_ hk, Kd.fresh' (Kd.R_lt (by (with_reducible repeat (first | apply Kd.R_alloc | apply Kd.R_drewN | apply Kd.R_drew)); exact HO157.out)) k_ hk⟩)); (case aO => exact (by (with_reducible repeat (first | apply Kd.R_alloc | apply Kd.R_drewN | apply Kd.R_drew)); exact HO160.out)); (case aS => exact (below_size (by repeat (first | (with_reducible first | exact HB.out | apply below_alloc | apply pw_below_drewN | apply below_drew1 | refine below_set ?_ GE145.out) | exact HB.out)))); (case aL => have := LMc20.out; omega); intro v162 w36 ho hb hg hat; rw [← Ny161.out] at ho; have n0_ := Aside0.mk (blk_grown (g := gb145) (o := .cells #[.int .u64 a0_0, .int .i64 a0_1, .int .i64 a0_2, .slice A0_3 l0_3.length c0_3] 28 (0, 0)) (by (with_reducible repeat (first | refine blk_drewN ?_ _ | refine blk_drew ?_ | refine blk_alloc ?_ _)); exact BK145.out) hg (Kd.R_ne HO160.out BK145.out (by decide))); have n1_ := Aside0.mk (Kd.R_after (ok := (fun k_ => (w.heap.size ≤ k_) ∧ some k_ ≠ (.slice Ao34 t155.length co34 : Value).ownBlock)) (by (with_reducible repeat (first | apply Kd.R_alloc | apply Kd.R_drewN | apply Kd.R_drew)); exact HO151.out) hg hat); have n2_ := Aside0.mk (Kd.R_after (ok := (fun k_ => (w.heap.size ≤ k_) ∧ some k_ ≠ (.slice Ao30 t149.length co30 : Value).ownBlock)) (by (with_reducible repeat (first | apply Kd.R_alloc | apply Kd.R_drewN | apply Kd.R_drew)); exact HO157.out) hg hat); have n3_ := Aside0.mk (hb); have n4_ := Aside0.mk (ho); clear BK145; clear HO151; clear HO157; clear HB; clear HO160; have BK145 := n0_; have HO151 := n1_; have HO157 := n2_; have HB := n3_; have HO163 := n4_; clear n0_ n1_ n2_ n3_ n4_; clear ho hb hg hat; have hcz37_0 : w36.cell? ⟨gb145, 0, none⟩ = some (.int .u64 a0_0) := (blk_cell BK145.out 0).trans rfl; have hcz37_1 : w36.cell? ⟨gb145, 1, none⟩ = some (.int .i64 a0_1) := (blk_cell BK145.out 1).trans rfl; have hcz37_2 : w36.cell? ⟨gb145, 2, none⟩ = some (.int .i64 a0_2) := (blk_cell BK145.out 2).trans rfl; have hcz37_3 : w36.cell? ⟨gb145, 3, none⟩ = some (.slice A0_3 l0_3.length c0_3) := (blk_cell BK145.out 3).trans rfl; have hfz37_0 := blk_frozen BK145.out 0; have hfz37_1 := blk_frozen BK145.out 1; have hfz37_2 := blk_frozen BK145.out 2; have hfz37_3 := blk_frozen BK145.out 3) | ((with_reducible refine gate_callee (f := 68) rfl ?_); refine goesL_ (some 59) rfl rfl Try.func68 (by kernel_rfl) rfl #[.int .u64 (IntKind.u64.wrap ((l0_3.length : Int))), .int .i64 4] rfl (by (try simp only [List.map_toArray, List.map_cons, List.map_nil]); first | done | rfl | (simp only [List.length_drop, List.length_take]; rfl)) ?_; (with_reducible refine (foundryref22_number.calls kj1 (IntKind.u64.wrap ((l0_3.length : Int))) 4 t164 _ A21.out).mono ?_); rintro e w38 ⟨v165, rfl, ho0, hb⟩; refine ⟨_, rfl, ?_⟩; have n0_ := Aside0.mk (Kd.R_elder' (by (with_reducible repeat (first | apply Kd.R_alloc | apply Kd.R_drewN | apply Kd.R_drew)); exact HO151.out) (Kd.R_base ho0) hb); have n1_ := Aside0.mk (Kd.R_elder' (by (with_reducible repeat (first | apply Kd.R_alloc | apply Kd.R_drewN | apply Kd.R_drew)); exact HO157.out) (Kd.R_base ho0) hb); have n2_ := Aside0.mk (Kd.R_elder' (by (with_reducible repeat (first | apply Kd.R_alloc | apply Kd.R_drewN | apply Kd.R_drew)); exact HO163.out) (Kd.R_base ho0) hb); have n3_ := Aside0.mk (Kd.R_lower (Kd.R_new' (Kd.R_new' (Kd.R_new' (Kd.R_newM (M := fun k_ => (w.heap.size ≤ k_)) ho0 (below_size (by repeat (first | (with_reducible first | exact HB.out | apply below_alloc | apply pw_below_drewN | apply below_drew1 | refine below_set ?_ GE145.out) | exact HB.out))) (fun k_ h_ => h_)) (Kd.R_lt (by (with_reducible repeat (first | apply Kd.R_alloc | apply Kd.R_drewN | apply Kd.R_drew)); exact HO151.out))) (Kd.R_lt (by (with_reducible repeat (first | apply Kd.R_alloc | apply Kd.R_drewN | apply Kd.R_drew)); exact HO157.out))) (Kd.R_lt (by (with_reducible repeat (first | apply Kd.R_alloc | apply Kd.R_drewN | apply Kd.R_drew)); exact HO163.out))) (below_size (by repeat (first | (with_reducible first | exact HB.out | apply below_alloc | apply pw_below_drewN | apply below_drew1 | refine below_set ?_ GE145.out) | exact HB.out)))); have n4_ := Aside0.mk (blk_below (g := gb145) (o := .cells #[.int .u64 a0_0, .int .i64 a0_1, .int .i64 a0_2, .slice A0_3 l0_3.length c0_3] 28 (0, 0)) (by (with_reducible repeat (first | refine blk_drewN ?_ _ | refine blk_drew ?_ | refine blk_alloc ?_ _)); exact BK145.out) hb); have n5_ := Aside0.mk (below_step (by repeat (first | (with_reducible first | exact HB.out | apply below_alloc | apply pw_below_drewN | apply below_drew1 | refine below_set ?_ GE145.out) | exact HB.out)) hb); clear HO151; clear HO157; clear HO163; clear BK145; clear HB; have HO151 := n0_; have HO157 := n1_; have HO163 := n2_; have HO166 := n3_; have BK145 := n4_; have HB := n5_; clear n0_ n1_ n2_ n3_ n4_ n5_; (try clear hb); (try clear hb2); (try clear hk); (try clear hi); (try clear ho0); obtain ⟨Ao40, co40, eo40⟩ := Kd.R_slice HO166.out; subst eo40) | ((with_reducible refine gate_builtin (b := .append) (xs := #[.tmp 54, .tmp 59]) rfl ?_); at_builtin; refine Kd.R_append_rows (Kd.int .u8) (w0 := w) w.heap.size rfl (.tmp 54) (.tmp 59) 22 5 (.int .u8 0) 1 rfl Try.underlying22 info5 rfl (by decide) (by omega) v162 y161 t164 _ _ _ (fun k_ => (w.heap.size ≤ k_) ∧ some k_ ≠ (.slice Ao30 t149.length co30 : Value).ownBlock ∧ some k_ ≠ (.slice Ao34 t155.length co34 : Value).ownBlock ∧ some k_ ≠ (.slice Ao40 t164.length co40 : Value).ownBlock) (fun _ => False) rfl rfl ?aO ?aR (fun _ _ h => h) (fun _ h => h.elim) ?aF ?aB ?aS ?aL ?_; (case aR => repeat (first | exact (Kd.R_reads' HO166.out).2.2 | (with_reducible refine Kd.C_alloc ?_ _) | (with_reducible refine Kd.C_drewN ?_ _) | (with_reducible refine Kd.C_drew ?_))); (case aB => exact (by repeat (first | (with_reducible first | exact HB.out | apply below_alloc | apply pw_below_drewN | apply below_drew1 | refine below_set ?_ GE145.out) | exact HB.out))); (case aF => exact (fun k_ hk => ⟨(Nat.le_trans (below_size (by repeat (first | (with_reducible first | exact HB.out | apply below_alloc | apply pw_below_drewN | apply below_drew1 | refine below_set ?_ GE145.out) | exact HB.out))) hk), Kd.fresh' (Kd.R_lt (by (with_reducible repeat (first | apply Kd.R_alloc | apply Kd.R_drewN | apply Kd.R_drew)); exact HO151.out)) k_ hk, Kd.fresh' (Kd.R_lt (by (with_reducible repeat (first | apply Kd.R_alloc | apply Kd.R_drewN | apply Kd.R_drew)); exact HO157.out)) k_ hk, Kd.fresh' (Kd.R_lt (by (with_reducible repeat (first | apply Kd.R_alloc | apply Kd.R_drewN | apply Kd.R_drew)); exact HO166.out)) k_ hk⟩)); (case aO => exact (by (with_reducible repeat (first | apply Kd.R_alloc | apply Kd.R_drewN | apply Kd.R_drew)); exact Kd.R_mono HO163.out (fun _ hk => ⟨hk.1.1, ⟨hk.1.2.1, ⟨hk.1.2.2, hk.2⟩⟩⟩))); (case aS => exact (below_size (by repeat (first | (with_reducible first | exact HB.out | apply below_alloc | apply pw_below_drewN | apply below_drew1 | refine below_set ?_ GE145.out) | exact HB.out)))); (case aL => have := LMc22.out; omega); intro v168 w39 ho hb hg hat; rw [← Ny167.out] at ho; have n0_ := Aside0.mk (blk_grown (g := gb145) (o := .cells #[.int .u64 a0_0, .int .i64 a0_1, .int .i64 a0_2, .slice A0_3 l0_3.length c0_3] 28 (0, 0)) (by (with_reducible repeat (first | refine blk_drewN ?_ _ | refine blk_drew ?_ | refine blk_alloc ?_ _)); exact BK145.out) hg (Kd.R_ne HO163.out BK145.out (by decide))); have n1_ := Aside0.mk (Kd.R_after (ok := (fun k_ => (w.heap.size ≤ k_) ∧ some k_ ≠ (.slice Ao34 t155.length co34 : Value).ownBlock ∧ some k_ ≠ (.slice Ao40 t164.length co40 : Value).ownBlock)) (by (with_reducible repeat (first | apply Kd.R_alloc | apply Kd.R_drewN | apply Kd.R_drew)); exact Kd.R_mono HO151.out (fun _ hk => ⟨⟨hk.1.1.1, ⟨hk.1.1.2, hk.2⟩⟩, hk.1.2⟩)) hg hat); have n2_ := Aside0.mk (Kd.R_after (ok := (fun k_ => (w.heap.size ≤ k_) ∧ some k_ ≠ (.slice Ao30 t149.length co30 : Value).ownBlock ∧ some k_ ≠ (.slice Ao40 t164.length co40 : Value).ownBlock)) (by (with_reducible repeat (first | apply Kd.R_alloc | apply Kd.R_drewN | apply Kd.R_drew)); exact Kd.R_mono HO157.out (fun _ hk => ⟨⟨hk.1.1.1, ⟨hk.1.1.2, hk.2⟩⟩, hk.1.2⟩)) hg hat); have n3_ := Aside0.mk (Kd.R_after (ok := (fun k_ => (w.heap.size ≤ k_) ∧ some k_ ≠ (.slice Ao30 t149.length co30 : Value).ownBlock ∧ some k_ ≠ (.slice Ao34 t155.length co34 : Value).ownBlock)) (by (with_reducible repeat (first | apply Kd.R_alloc | apply Kd.R_drewN | apply Kd.R_drew)); exact Kd.R_mono HO166.out (fun _ hk => ⟨⟨hk.1.1.1.1, ⟨hk.1.1.2, hk.1.2⟩⟩, hk.2⟩)) hg hat); have n4_ := Aside0.mk (hb); have n5_ := Aside0.mk (ho); clear BK145; clear HO151; clear HO157; clear HO166; clear HB; clear HO163; have BK145 := n0_; have HO151 := n1_; have HO157 := n2_; have HO166 := n3_; have HB := n4_; have HO169 := n5_; clear n0_ n1_ n2_ n3_ n4_ n5_; clear ho hb hg hat; have hcz41_0 : w39.cell? ⟨gb145, 0, none⟩ = some (.int .u64 a0_0) := (blk_cell BK145.out 0).trans rfl; have hcz41_1 : w39.cell? ⟨gb145, 1, none⟩ = some (.int .i64 a0_1) := (blk_cell BK145.out 1).trans rfl; have hcz41_2 : w39.cell? ⟨gb145, 2, none⟩ = some (.int .i64 a0_2) := (blk_cell BK145.out 2).trans rfl; have hcz41_3 : w39.cell? ⟨gb145, 3, none⟩ = some (.slice A0_3 l0_3.length c0_3) := (blk_cell BK145.out 3).trans rfl; have hfz41_0 := blk_frozen BK145.out 0; have hfz41_1 := blk_frozen BK145.out 1; have hfz41_2 := blk_frozen BK145.out 2; have hfz41_3 := blk_frozen BK145.out 3))
                  (try simp only [Act.put, List.setIfInBounds_toArray, List.set_cons_zero, List.set_cons_succ])
                  go_cut [5] (fun v5 wc => ∃ (kq : Nat) (x5_22 : Int), v5 = .int .i64 x5_22 ∧ Aside0 (foundryref22_Blocks.j1 kq y167 x5_22 a0_0 a0_1 a0_2 l0_3 = some (r1, r2)) ∧ Aside0 (kq ≤ kj1) ∧ Aside0 (Kd.R (Kd.int .u8) 5 wc w.heap.size (fun k_ => (w.heap.size ≤ k_)) v168 y167) ∧ Aside0 (wc.heap[gb145]? = some (.cells #[.int .u64 a0_0, .int .i64 a0_1, .int .i64 a0_2, (.slice A0_3 l0_3.length c0_3)] 28 (0, 0))) ∧ Aside0 (Below w.heap.size w wc))
                  case first =>
                    have H := HC23.out
                    clear HC23
                    by_cases c42 : (l0_3.length : Int) < 47
                    · rw [if_pos c42] at H
                      have c42b0 : decide ((l0_3.length : Int) < 47) = true := decide_eq_true c42
                      have c42b1 : decide (l0_3.length < 47) = true := decide_eq_true (by omega)
                      clear c42
                      (first | rw [c42b0] | (simp only [i64_w, i32_w]; rw [c42b0]) | skip)
                      have H' := Aside0.mk H
                      clear H
                      have hcz43_0 : w39.cell? ⟨gb145, 0, none⟩ = some (.int .u64 a0_0) := (blk_cell BK145.out 0).trans rfl
                      have hcz43_1 : w39.cell? ⟨gb145, 1, none⟩ = some (.int .i64 a0_1) := (blk_cell BK145.out 1).trans rfl
                      have hcz43_2 : w39.cell? ⟨gb145, 2, none⟩ = some (.int .i64 a0_2) := (blk_cell BK145.out 2).trans rfl
                      have hcz43_3 : w39.cell? ⟨gb145, 3, none⟩ = some (.slice A0_3 l0_3.length c0_3) := (blk_cell BK145.out 3).trans rfl
                      have hfz43_0 := blk_frozen BK145.out 0
                      have hfz43_1 := blk_frozen BK145.out 1
                      have hfz43_2 := blk_frozen BK145.out 2
                      have hfz43_3 := blk_frozen BK145.out 3
                      go_wp2
                      go_meet
                      case rel => exact ⟨_, ((l0_3.length : Int)), (by first | rfl | (simp; done) | (simp [*]; done)), H', ⟨by have := HJ1.out; first | omega | exact Nat.le_refl _⟩, ⟨by (with_reducible repeat (first | apply Kd.R_alloc | apply Kd.R_drewN | apply Kd.R_drew)); exact Kd.R_mono HO169.out (fun _ hk => hk.1)⟩, ⟨by (with_reducible repeat (first | refine blk_drewN ?_ _ | refine blk_drew ?_ | refine blk_alloc ?_ _)); exact BK145.out⟩, ⟨by repeat (first | (with_reducible first | exact HB.out | apply below_alloc | apply pw_below_drewN | apply below_drew1 | refine below_set ?_ GE145.out) | exact HB.out)⟩⟩
                    · rw [if_neg c42] at H
                      have c42b0 : decide ((l0_3.length : Int) < 47) = false := decide_eq_false c42
                      have c42b1 : decide (l0_3.length < 47) = false := decide_eq_false (by omega)
                      clear c42
                      (first | rw [c42b0] | (simp only [i64_w, i32_w]; rw [c42b0]) | skip)
                      have H' := Aside0.mk H
                      clear H
                      go_wp2
                      go_meet
                      case rel => exact ⟨_, (47), (by first | rfl | (simp; done) | (simp [*]; done)), H', ⟨by have := HJ1.out; first | omega | exact Nat.le_refl _⟩, ⟨by (with_reducible repeat (first | apply Kd.R_alloc | apply Kd.R_drewN | apply Kd.R_drew)); exact Kd.R_mono HO169.out (fun _ hk => hk.1)⟩, ⟨by (with_reducible repeat (first | refine blk_drewN ?_ _ | refine blk_drew ?_ | refine blk_alloc ?_ _)); exact BK145.out⟩, ⟨by repeat (first | (with_reducible first | exact HB.out | apply below_alloc | apply pw_below_drewN | apply below_drew1 | refine below_set ?_ GE145.out) | exact HB.out)⟩⟩
                  case rest =>
                    clear HC23
                    try clear c1
                    try clear c2
                    try clear p2
                    try clear c4
                    try clear c4b0
                    try clear c4b1
                    try clear c6
                    try clear c6b0
                    try clear c8
                    try clear c8b0
                    try clear c10
                    try clear c10b0
                    try clear c13
                    try clear c14
                    try clear c14b0
                    try clear c14b1
                    try clear c17
                    try clear c19
                    try clear c20
                    try clear c22
                    try clear c25
                    try clear c42
                    try clear c42b0
                    try clear c42b1
                    try clear hcz11_0
                    try clear hcz11_1
                    try clear hcz11_2
                    try clear hcz11_3
                    try clear hcz12_0
                    try clear hcz12_1
                    try clear hcz12_2
                    try clear hcz12_3
                    try clear hcz15_0
                    try clear hcz15_1
                    try clear hcz15_2
                    try clear hcz15_3
                    try clear hcz24_0
                    try clear hcz24_1
                    try clear hcz24_2
                    try clear hcz24_3
                    try clear hcz27_0
                    try clear hcz27_1
                    try clear hcz27_2
                    try clear hcz27_3
                    try clear hcz31_0
                    try clear hcz31_1
                    try clear hcz31_2
                    try clear hcz31_3
                    try clear hcz35_0
                    try clear hcz35_1
                    try clear hcz35_2
                    try clear hcz35_3
                    try clear hcz37_0
                    try clear hcz37_1
                    try clear hcz37_2
                    try clear hcz37_3
                    try clear hcz41_0
                    try clear hcz41_1
                    try clear hcz41_2
                    try clear hcz41_3
                    try clear hcz43_0
                    try clear hcz43_1
                    try clear hcz43_2
                    try clear hcz43_3
                    try clear hcz5_0
                    try clear hcz5_1
                    try clear hcz5_2
                    try clear hcz5_3
                    try clear hcz7_0
                    try clear hcz7_1
                    try clear hcz7_2
                    try clear hcz7_3
                    try clear hcz9_0
                    try clear hcz9_1
                    try clear hcz9_2
                    try clear hcz9_3
                    try clear hfz11_0
                    try clear hfz11_1
                    try clear hfz11_2
                    try clear hfz11_3
                    try clear hfz12_0
                    try clear hfz12_1
                    try clear hfz12_2
                    try clear hfz12_3
                    try clear hfz15_0
                    try clear hfz15_1
                    try clear hfz15_2
                    try clear hfz15_3
                    try clear hfz24_0
                    try clear hfz24_1
                    try clear hfz24_2
                    try clear hfz24_3
                    try clear hfz27_0
                    try clear hfz27_1
                    try clear hfz27_2
                    try clear hfz27_3
                    try clear hfz31_0
                    try clear hfz31_1
                    try clear hfz31_2
                    try clear hfz31_3
                    try clear hfz35_0
                    try clear hfz35_1
                    try clear hfz35_2
                    try clear hfz35_3
                    try clear hfz37_0
                    try clear hfz37_1
                    try clear hfz37_2
                    try clear hfz37_3
                    try clear hfz41_0
                    try clear hfz41_1
                    try clear hfz41_2
                    try clear hfz41_3
                    try clear hfz43_0
                    try clear hfz43_1
                    try clear hfz43_2
                    try clear hfz43_3
                    try clear hfz5_0
                    try clear hfz5_1
                    try clear hfz5_2
                    try clear hfz5_3
                    try clear hfz7_0
                    try clear hfz7_1
                    try clear hfz7_2
                    try clear hfz7_3
                    try clear hfz9_0
                    try clear hfz9_1
                    try clear hfz9_2
                    try clear hfz9_3
                    try clear p2
                    obtain ⟨kq, x5_22, rfl, HA, HJ22, HO_4, BK145, HB⟩ := hcut
                    cases kq with
                    | zero => exact absurd HA.out (by simp [foundryref22_Blocks.j1])
                    | succ kj22 =>
                      have H := HA.out
                      clear HA
                      simp only [foundryref22_Blocks.j1] at H
                      by_cases c44 : 0 ≤ x5_22
                      · rw [if_pos c44] at H
                        have c44b0 := eq_true c44
                        have c44b1 : decide (0 ≤ x5_22) = true := decide_eq_true c44
                        clear c44
                        by_cases c45 : x5_22 ≤ (l0_3.length : Int)
                        · rw [if_pos c45] at H
                          have c45b0 := eq_true c45
                          have c45b1 : decide (x5_22 ≤ (l0_3.length : Int)) = true := decide_eq_true c45
                          clear c45
                          by_cases c46 : y167.length + (l0_3.take (x5_22 : Int).toNat).length < 140737488355328
                          · rw [if_pos c46] at H
                            have LMc46 := Aside0.mk c46
                            clear c46
                            obtain ⟨y171, hy171⟩ : ∃ y_ : List Int, y_ = (y167 ++ (l0_3.take (x5_22 : Int).toNat)) := ⟨_, rfl⟩
                            replace H : ((foundryref22_filled.f kj22 y171).bind fun t174 => (foundryref22_Blocks.l0 kj22 x5_22 (([t174] : List (List Int))) a0_0 a0_1 a0_2 l0_3)) = some (r1, r2) := by first | (rw [hy171]; with_reducible exact H) | (have H2_ := (Option.bind_some _ _).symm.trans H; rw [hy171]; with_reducible exact H2_) | (have H2_ := (Option.bind_some _ _).symm.trans H; with_reducible exact H2_) | with_reducible exact H | (rw [hy171]; exact H) | exact H
                            have Ny171 := Aside0.mk hy171
                            clear hy171
                            replace H := Option.bind_eq_some_iff.mp H
                            obtain ⟨t174, A470, H⟩ := H
                            replace H : (foundryref22_Blocks.l0 kj22 x5_22 (([t174] : List (List Int))) a0_0 a0_1 a0_2 l0_3) = some (r1, r2) := H
                            have A47 := Aside0.mk A470
                            clear A470
                            obtain ⟨y177, hy177⟩ : ∃ y_ : List (List Int), y_ = (([t174] : List (List Int))) := ⟨_, rfl⟩
                            replace H : (foundryref22_Blocks.l0 kj22 x5_22 y177 a0_0 a0_1 a0_2 l0_3) = some (r1, r2) := by first | (rw [hy177]; with_reducible exact H) | (have H2_ := (Option.bind_some _ _).symm.trans H; rw [hy177]; with_reducible exact H2_) | (have H2_ := (Option.bind_some _ _).symm.trans H; with_reducible exact H2_) | with_reducible exact H | (rw [hy177]; exact H) | exact H
                            have Ny177 := Aside0.mk hy177
                            clear hy177
                            have H' := Aside0.mk H
                            clear H
                            have hcz48_0 : wc.cell? ⟨gb145, 0, none⟩ = some (.int .u64 a0_0) := (blk_cell BK145.out 0).trans rfl
                            have hcz48_1 : wc.cell? ⟨gb145, 1, none⟩ = some (.int .i64 a0_1) := (blk_cell BK145.out 1).trans rfl
                            have hcz48_2 : wc.cell? ⟨gb145, 2, none⟩ = some (.int .i64 a0_2) := (blk_cell BK145.out 2).trans rfl
                            have hcz48_3 : wc.cell? ⟨gb145, 3, none⟩ = some (.slice A0_3 l0_3.length c0_3) := (blk_cell BK145.out 3).trans rfl
                            have hfz48_0 := blk_frozen BK145.out 0
                            have hfz48_1 := blk_frozen BK145.out 1
                            have hfz48_2 := blk_frozen BK145.out 2
                            have hfz48_3 := blk_frozen BK145.out 3
                            obtain ⟨i049, hi049, _, hsz49, _⟩ := info_parts info5
                            obtain ⟨hcut49, hA49, hC49⟩ := print_take_of (P := Try.prog) (Value.int .u8) 0 22 5 .i64 Try.underlying22 hi049 hsz49 A0_3 c0_3 l0_3 x5_22 (of_decide_eq_true (by first | (with_reducible assumption) | assumption)) (of_decide_eq_true (by first | (with_reducible assumption) | assumption)) HC0_3.out
                            have HR170 := Aside0.mk (Kd.C_of_reads (h1 := fun _ => rfl) (hA49 _ (Kd.reads_of_C HR0_3.out)))
                            have HC170 := Aside0.mk hC49
                            clear hA49 hC49 hi049 hsz49
                            go_wp2_with (first | ((with_reducible refine gate_builtin (b := .append) (xs := #[.tmp 69, .tmp 73]) rfl ?_); at_builtin; refine Kd.R_append_rows (Kd.int .u8) (w0 := w) w.heap.size rfl (.tmp 69) (.tmp 73) 22 5 (.int .u8 0) 1 rfl Try.underlying22 info5 rfl (by decide) (by omega) v168 y167 (l0_3.take (x5_22 : Int).toNat) _ _ _ (fun k_ => (w.heap.size ≤ k_)) (fun _ => False) rfl rfl ?aO ?aR (fun _ _ h => h) (fun _ h => h.elim) ?aF ?aB ?aS ?aL ?_; (case aR => first | (have h0_ := (Kd.C_below HR170.out HB.out); have h1_ := h0_; rw [show (l0_3.take (x5_22 : Int).toNat).length = x5_22.toNat from (by rw [List.length_take]; have h_ : (x5_22 : Int) ≤ (l0_3.length : Int) := of_decide_eq_true (by first | (with_reducible assumption) | assumption); omega)] at h1_; exact h1_) | (repeat (first | exact (Kd.C_below HR170.out HB.out) | (with_reducible refine Kd.C_alloc ?_ _) | (with_reducible refine Kd.C_drewN ?_ _) | (with_reducible refine Kd.C_drew ?_))) | (repeat (first | exact (Kd.C_below HR170.out HB.out) | (with_reducible refine Kd.C_alloc ?_ _) | (with_reducible refine Kd.C_drewN ?_ _) | (with_reducible refine Kd.C_drew ?_)))); (case aB => exact (by repeat (first | (with_reducible first | exact HB.out | apply below_alloc | apply pw_below_drewN | apply below_drew1 | refine below_set ?_ GE145.out) | exact HB.out))); (case aF => exact (fun k_ hk => (Nat.le_trans (below_size (by repeat (first | (with_reducible first | exact HB.out | apply below_alloc | apply pw_below_drewN | apply below_drew1 | refine below_set ?_ GE145.out) | exact HB.out))) hk))); (case aO => exact (by (with_reducible repeat (first | apply Kd.R_alloc | apply Kd.R_drewN | apply Kd.R_drew)); exact HO_4.out)); (case aS => exact (below_size (by repeat (first | (with_reducible first | exact HB.out | apply below_alloc | apply pw_below_drewN | apply below_drew1 | refine below_set ?_ GE145.out) | exact HB.out)))); (case aL => have := LMc46.out; have hlx_ := (show (l0_3.take (x5_22 : Int).toNat).length = x5_22.toNat from (by rw [List.length_take]; have h_ : (x5_22 : Int) ≤ (l0_3.length : Int) := of_decide_eq_true (by first | (with_reducible assumption) | assumption); omega)); omega); intro v172 w50 ho hb hg hat; rw [← Ny171.out] at ho; have n0_ := Aside0.mk (blk_grown (g := gb145) (o := .cells #[.int .u64 a0_0, .int .i64 a0_1, .int .i64 a0_2, .slice A0_3 l0_3.length c0_3] 28 (0, 0)) (by (with_reducible repeat (first | refine blk_drewN ?_ _ | refine blk_drew ?_ | refine blk_alloc ?_ _)); exact BK145.out) hg (Kd.R_ne HO_4.out BK145.out (by decide))); have n1_ := Aside0.mk (hb); have n2_ := Aside0.mk (ho); clear BK145; clear HB; clear HO_4; have BK145 := n0_; have HB := n1_; have HO173 := n2_; clear n0_ n1_ n2_; clear ho hb hg hat; obtain ⟨Ao51, co51, eo51⟩ := Kd.R_slice HO173.out; subst eo51) | ((with_reducible refine gate_callee (f := 69) rfl ?_); refine goesL_ (some 76) rfl rfl Try.func69 (by kernel_rfl) rfl #[.slice Ao51 y171.length co51] rfl (by (try simp only [List.map_toArray, List.map_cons, List.map_nil]); first | done | rfl | (simp only [List.length_drop, List.length_take]; rfl)) ?_; (with_reducible refine (foundryref22_filled.calls kj22 (fun k_ => some k_ = (.slice Ao51 y171.length co51 : Value).ownBlock) (.slice Ao51 y171.length co51) y171 t174 w _ ?side1 ?side2 A47.out).mono ?_); (case side1 => repeat (first | (with_reducible first | exact HB.out | apply below_alloc | apply pw_below_drewN | apply below_drew1 | refine below_set ?_ GE145.out) | exact HB.out)); (case side2 => exact Kd.R_tight rfl HO173.out); rintro e w52 ⟨v175, rfl, ho0, hb, hkp⟩; refine ⟨_, rfl, ?_⟩; have n0_ := Aside0.mk (blk_kept (by (with_reducible repeat (first | refine blk_drewN ?_ _ | refine blk_drew ?_ | refine blk_alloc ?_ _)); exact BK145.out) hkp (fun hs_ => (fun e_ => (Kd.R_ne HO173.out BK145.out (by decide)) e_) hs_)); have n1_ := Aside0.mk (Kd.R_mono (ok' := fun k_ => (w.heap.size ≤ k_)) ho0 (fun k_ hk_ => Or.elim hk_ (fun hs_ => (HO173.out.1 k_ (hs_).symm)) (fun hn_ => (Nat.le_trans (below_size (by repeat (first | (with_reducible first | exact HB.out | apply below_alloc | apply pw_below_drewN | apply below_drew1 | refine below_set ?_ GE145.out) | exact HB.out))) hn_)))); have n2_ := Aside0.mk (hb); clear BK145; clear HB; clear HO173; have BK145 := n0_; have HO176 := n1_; have HB := n2_; clear n0_ n1_ n2_; (try clear hb); (try clear hkp); (try clear ho0); obtain ⟨Ao53, co53, eo53⟩ := Kd.R_slice HO176.out; subst eo53) | ((with_reducible refine gate_dst (N := 77) rfl ?_); refine Kd.N_lit (Kd.slice 5 (Kd.int .u8)) _ 22 ?hg (N' := 77) ?hd (xs := ([t174] : List (List Int))) (inner := [.slice Ao53 t174.length co53]) (ok := (fun k_ => (w.heap.size ≤ k_) ∧ k_ ≠ gb145)) (okp := (fun k_ => (w.heap.size ≤ k_) ∧ k_ ≠ gb145)) ?hr ?hp (fun _ hk => hk) ((show ∀ k_, w52.heap.size ≤ k_ → (fun k_ => (w.heap.size ≤ k_) ∧ k_ ≠ gb145) k_ from fun k_ hk => ⟨(Nat.le_trans (below_size (by repeat (first | (with_reducible first | exact HB.out | apply below_alloc | apply pw_below_drewN | apply below_drew1 | refine below_set ?_ GE145.out) | exact HB.out))) hk), Kd.freshB (g := gb145) (o := .cells #[.int .u64 a0_0, .int .i64 a0_1, .int .i64 a0_2, .slice A0_3 l0_3.length c0_3] 28 (0, 0)) (by (with_reducible repeat (first | refine blk_drewN ?_ _ | refine blk_drew ?_ | refine blk_alloc ?_ _)); exact BK145.out) k_ hk⟩) _ (Nat.le_refl _)) (Below.refl _ _) (Nat.le_refl _) (by simp) ?_; (case hd => rfl); (case hg => rfl); (case hr => first | (go_simp; done) | (go_simp; rfl)); (case hp => exact (Reps.one (show Kd.FK (Kd.slice 5 (Kd.int .u8)) _ _ t174 [.slice Ao53 t174.length co53] from (Kd.FK_slice_mk (Kd.R_reads' (Kd.R_mono (ok' := (fun k_ => (w.heap.size ≤ k_) ∧ k_ ≠ gb145)) (Kd.R_types (HO176.out) BK145.out (by decide)) (fun k_ hk => ⟨hk.1, hk.2⟩))).2.1 (Kd.R_F (Kd.R_mono (ok' := (fun k_ => (w.heap.size ≤ k_) ∧ k_ ≠ gb145)) (Kd.R_types (HO176.out) BK145.out (by decide)) (fun k_ hk => ⟨hk.1, hk.2⟩))))) (Reps.none _ _))); intro v178 w54 ho55 hb hg_ hnew_; clear hg_ hnew_; (first | rw [← Ny177.out] at ho55 | (simp only [Int.reduceToNat] at ho55; rw [← Ny177.out] at ho55)); have n0_ := Aside0.mk (Kd.N_lower ho55 (below_size (by repeat (first | (with_reducible first | exact HB.out | apply below_alloc | apply pw_below_drewN | apply below_drew1 | refine below_set ?_ GE145.out) | exact HB.out)))); have n1_ := Aside0.mk (blk_below (g := gb145) (o := .cells #[.int .u64 a0_0, .int .i64 a0_1, .int .i64 a0_2, .slice A0_3 l0_3.length c0_3] 28 (0, 0)) (by (with_reducible repeat (first | refine blk_drewN ?_ _ | refine blk_drew ?_ | refine blk_alloc ?_ _)); exact BK145.out) hb); have n2_ := Aside0.mk (below_step (by repeat (first | (with_reducible first | exact HB.out | apply below_alloc | apply pw_below_drewN | apply below_drew1 | refine below_set ?_ GE145.out) | exact HB.out)) hb); clear BK145; clear HB; clear HO176; have HO179 := n0_; have BK145 := n1_; have HB := n2_; clear n0_ n1_ n2_; clear hb ho55))
                            go_loopg [5, 6] kj22 (fun kq v5 v6 w' => ∃ (x5_3 : Int) (x6_3 : List (List Int)), v5 = .int .i64 x5_3 ∧ Aside0 (foundryref22_Blocks.l0 kq x5_3 x6_3 a0_0 a0_1 a0_2 l0_3 = some (r1, r2)) ∧ Aside0 (kq ≤ kj22) ∧ Aside0 (Kd.N (Kd.slice 5 (Kd.int .u8)) 22 w' w.heap.size (fun k_ => (w.heap.size ≤ k_) ∧ k_ ≠ gb145) v6 x6_3) ∧ Aside0 (w'.heap[gb145]? = some (.cells #[.int .u64 a0_0, .int .i64 a0_1, .int .i64 a0_2, (.slice A0_3 l0_3.length c0_3)] 28 (0, 0))) ∧ Aside0 (Below w.heap.size w w'))
                            case atStart => exact ⟨(x5_22), (y177), (by first | rfl | (simp; done) | (simp [*]; done)), H', ⟨Nat.le_refl _⟩, ⟨by (with_reducible repeat (first | apply Kd.N_alloc | apply Kd.N_drewN | apply Kd.N_drew)); exact HO179.out⟩, ⟨by (with_reducible repeat (first | refine blk_drewN ?_ _ | refine blk_drew ?_ | refine blk_alloc ?_ _)); exact BK145.out⟩, ⟨by repeat (first | (with_reducible first | exact HB.out | apply below_alloc | apply pw_below_drewN | apply below_drew1 | refine below_set ?_ GE145.out) | exact HB.out)⟩⟩
                            case round =>
                              clear H'
                              try clear c1
                              try clear c2
                              try clear p2
                              try clear c4
                              try clear c4b0
                              try clear c4b1
                              try clear c6
                              try clear c6b0
                              try clear c8
                              try clear c8b0
                              try clear c10
                              try clear c10b0
                              try clear c13
                              try clear c14
                              try clear c14b0
                              try clear c14b1
                              try clear c17
                              try clear c19
                              try clear c20
                              try clear c22
                              try clear c25
                              try clear c42
                              try clear c42b0
                              try clear c42b1
                              try clear c44
                              try clear c44b0
                              try clear c44b1
                              try clear c45
                              try clear c45b0
                              try clear c45b1
                              try clear c46
                              try clear hcz11_0
                              try clear hcz11_1
                              try clear hcz11_2
                              try clear hcz11_3
                              try clear hcz12_0
                              try clear hcz12_1
                              try clear hcz12_2
                              try clear hcz12_3
                              try clear hcz15_0
                              try clear hcz15_1
                              try clear hcz15_2
                              try clear hcz15_3
                              try clear hcz24_0
                              try clear hcz24_1
                              try clear hcz24_2
                              try clear hcz24_3
                              try clear hcz27_0
                              try clear hcz27_1
                              try clear hcz27_2
                              try clear hcz27_3
                              try clear hcz31_0
                              try clear hcz31_1
                              try clear hcz31_2
                              try clear hcz31_3
                              try clear hcz35_0
                              try clear hcz35_1
                              try clear hcz35_2
                              try clear hcz35_3
                              try clear hcz37_0
                              try clear hcz37_1
                              try clear hcz37_2
                              try clear hcz37_3
                              try clear hcz41_0
                              try clear hcz41_1
                              try clear hcz41_2
                              try clear hcz41_3
                              try clear hcz43_0
                              try clear hcz43_1
                              try clear hcz43_2
                              try clear hcz43_3
                              try clear hcz48_0
                              try clear hcz48_1
                              try clear hcz48_2
                              try clear hcz48_3
                              try clear hcz5_0
                              try clear hcz5_1
                              try clear hcz5_2
                              try clear hcz5_3
                              try clear hcz7_0
                              try clear hcz7_1
                              try clear hcz7_2
                              try clear hcz7_3
                              try clear hcz9_0
                              try clear hcz9_1
                              try clear hcz9_2
                              try clear hcz9_3
                              try clear hfz11_0
                              try clear hfz11_1
                              try clear hfz11_2
                              try clear hfz11_3
                              try clear hfz12_0
                              try clear hfz12_1
                              try clear hfz12_2
                              try clear hfz12_3
                              try clear hfz15_0
                              try clear hfz15_1
                              try clear hfz15_2
                              try clear hfz15_3
                              try clear hfz24_0
                              try clear hfz24_1
                              try clear hfz24_2
                              try clear hfz24_3
                              try clear hfz27_0
                              try clear hfz27_1
                              try clear hfz27_2
                              try clear hfz27_3
                              try clear hfz31_0
                              try clear hfz31_1
                              try clear hfz31_2
                              try clear hfz31_3
                              try clear hfz35_0
                              try clear hfz35_1
                              try clear hfz35_2
                              try clear hfz35_3
                              try clear hfz37_0
                              try clear hfz37_1
                              try clear hfz37_2
                              try clear hfz37_3
                              try clear hfz41_0
                              try clear hfz41_1
                              try clear hfz41_2
                              try clear hfz41_3
                              try clear hfz43_0
                              try clear hfz43_1
                              try clear hfz43_2
                              try clear hfz43_3
                              try clear hfz48_0
                              try clear hfz48_1
                              try clear hfz48_2
                              try clear hfz48_3
                              try clear hfz5_0
                              try clear hfz5_1
                              try clear hfz5_2
                              try clear hfz5_3
                              try clear hfz7_0
                              try clear hfz7_1
                              try clear hfz7_2
                              try clear hfz7_3
                              try clear hfz9_0
                              try clear hfz9_1
                              try clear hfz9_2
                              try clear hfz9_3
                              try clear p2
                              obtain ⟨x5_3, x6_3, rfl, HA, HK3, HO_6, BK145, HB⟩ := hrel
                              cases gk with
                              | zero => exact absurd HA.out (by simp [foundryref22_Blocks.l0])
                              | succ k3 =>
                                have H := HA.out
                                clear HA
                                simp only [foundryref22_Blocks.l0] at H
                                by_cases c56 : x5_3 < (l0_3.length : Int)
                                · rw [if_pos c56] at H
                                  have c56b0 : decide (x5_3 < (l0_3.length : Int)) = true := decide_eq_true c56
                                  clear c56
                                  have HC57 := Aside0.mk H
                                  clear H
                                  have hcz58_0 : wr.cell? ⟨gb145, 0, none⟩ = some (.int .u64 a0_0) := (blk_cell BK145.out 0).trans rfl
                                  have hcz58_1 : wr.cell? ⟨gb145, 1, none⟩ = some (.int .i64 a0_1) := (blk_cell BK145.out 1).trans rfl
                                  have hcz58_2 : wr.cell? ⟨gb145, 2, none⟩ = some (.int .i64 a0_2) := (blk_cell BK145.out 2).trans rfl
                                  have hcz58_3 : wr.cell? ⟨gb145, 3, none⟩ = some (.slice A0_3 l0_3.length c0_3) := (blk_cell BK145.out 3).trans rfl
                                  have hfz58_0 := blk_frozen BK145.out 0
                                  have hfz58_1 := blk_frozen BK145.out 1
                                  have hfz58_2 := blk_frozen BK145.out 2
                                  have hfz58_3 := blk_frozen BK145.out 3
                                  go_upto_if 89 with (fail)
                                  go_cut [7] (fun v7 wc => ∃ (kq : Nat) (x7_56 : Int), v7 = .int .i64 x7_56 ∧ Aside0 (foundryref22_Blocks.j3 kq x5_3 x6_3 x7_56 a0_0 a0_1 a0_2 l0_3 = some (r1, r2)) ∧ Aside0 (kq ≤ k3) ∧ Aside0 (Kd.N (Kd.slice 5 (Kd.int .u8)) 22 wc w.heap.size (fun k_ => (w.heap.size ≤ k_) ∧ k_ ≠ gb145) u6 x6_3) ∧ Aside0 (wc.heap[gb145]? = some (.cells #[.int .u64 a0_0, .int .i64 a0_1, .int .i64 a0_2, (.slice A0_3 l0_3.length c0_3)] 28 (0, 0))) ∧ Aside0 (Below w.heap.size w wc))
                                  case first =>
                                    have H := HC57.out
                                    clear HC57
                                    by_cases c59 : (wrap64 (x5_3 + 50)) > (l0_3.length : Int)
                                    · rw [if_pos c59] at H
                                      have c59b0 : decide ((l0_3.length : Int) < (wrap64 (x5_3 + 50))) = true := decide_eq_true c59
                                      clear c59
                                      (first | rw [c59b0] | (simp only [i64_w, i32_w]; rw [c59b0]) | skip)
                                      have H' := Aside0.mk H
                                      clear H
                                      have hcz60_0 : wr.cell? ⟨gb145, 0, none⟩ = some (.int .u64 a0_0) := (blk_cell BK145.out 0).trans rfl
                                      have hcz60_1 : wr.cell? ⟨gb145, 1, none⟩ = some (.int .i64 a0_1) := (blk_cell BK145.out 1).trans rfl
                                      have hcz60_2 : wr.cell? ⟨gb145, 2, none⟩ = some (.int .i64 a0_2) := (blk_cell BK145.out 2).trans rfl
                                      have hcz60_3 : wr.cell? ⟨gb145, 3, none⟩ = some (.slice A0_3 l0_3.length c0_3) := (blk_cell BK145.out 3).trans rfl
                                      have hfz60_0 := blk_frozen BK145.out 0
                                      have hfz60_1 := blk_frozen BK145.out 1
                                      have hfz60_2 := blk_frozen BK145.out 2
                                      have hfz60_3 := blk_frozen BK145.out 3
                                      go_wp2
                                      go_meet
                                      case rel => exact ⟨_, ((l0_3.length : Int)), (by first | rfl | (simp; done) | (simp [*]; done)), H', ⟨by have := HJ1.out; have := HJ22.out; have := HK3.out; first | omega | exact Nat.le_refl _⟩, ⟨by (with_reducible repeat (first | apply Kd.N_alloc | apply Kd.N_drewN | apply Kd.N_drew)); exact HO_6.out⟩, ⟨by (with_reducible repeat (first | refine blk_drewN ?_ _ | refine blk_drew ?_ | refine blk_alloc ?_ _)); exact BK145.out⟩, ⟨by repeat (first | (with_reducible first | exact HB.out | apply below_alloc | apply pw_below_drewN | apply below_drew1 | refine below_set ?_ GE145.out) | exact HB.out)⟩⟩
                                    · rw [if_neg c59] at H
                                      have c59b0 : decide ((l0_3.length : Int) < (wrap64 (x5_3 + 50))) = false := decide_eq_false c59
                                      clear c59
                                      (first | rw [c59b0] | (simp only [i64_w, i32_w]; rw [c59b0]) | skip)
                                      have H' := Aside0.mk H
                                      clear H
                                      go_wp2
                                      go_meet
                                      case rel => exact ⟨_, (wrap64 (x5_3 + 50)), (by first | rfl | (simp; done) | (simp [*]; done)), H', ⟨by have := HJ1.out; have := HJ22.out; have := HK3.out; first | omega | exact Nat.le_refl _⟩, ⟨by (with_reducible repeat (first | apply Kd.N_alloc | apply Kd.N_drewN | apply Kd.N_drew)); exact HO_6.out⟩, ⟨by (with_reducible repeat (first | refine blk_drewN ?_ _ | refine blk_drew ?_ | refine blk_alloc ?_ _)); exact BK145.out⟩, ⟨by repeat (first | (with_reducible first | exact HB.out | apply below_alloc | apply pw_below_drewN | apply below_drew1 | refine below_set ?_ GE145.out) | exact HB.out)⟩⟩
                                  case rest =>
                                    clear HC57
                                    try clear c1
                                    try clear c2
                                    try clear p2
                                    try clear c4
                                    try clear c4b0
                                    try clear c4b1
                                    try clear c5
                                    try clear c6
                                    try clear c6b0
                                    try clear p6
                                    try clear c8
                                    try clear c8b0
                                    try clear c10
                                    try clear c10b0
                                    try clear c13
                                    try clear c14
                                    try clear c14b0
                                    try clear c14b1
                                    try clear c17
                                    try clear c19
                                    try clear c20
                                    try clear c22
                                    try clear c25
                                    try clear c42
                                    try clear c42b0
                                    try clear c42b1
                                    try clear c44
                                    try clear c44b0
                                    try clear c44b1
                                    try clear c45
                                    try clear c45b0
                                    try clear c45b1
                                    try clear c46
                                    try clear c56
                                    try clear c56b0
                                    try clear c59
                                    try clear c59b0
                                    try clear hcz11_0
                                    try clear hcz11_1
                                    try clear hcz11_2
                                    try clear hcz11_3
                                    try clear hcz12_0
                                    try clear hcz12_1
                                    try clear hcz12_2
                                    try clear hcz12_3
                                    try clear hcz15_0
                                    try clear hcz15_1
                                    try clear hcz15_2
                                    try clear hcz15_3
                                    try clear hcz24_0
                                    try clear hcz24_1
                                    try clear hcz24_2
                                    try clear hcz24_3
                                    try clear hcz27_0
                                    try clear hcz27_1
                                    try clear hcz27_2
                                    try clear hcz27_3
                                    try clear hcz31_0
                                    try clear hcz31_1
                                    try clear hcz31_2
                                    try clear hcz31_3
                                    try clear hcz35_0
                                    try clear hcz35_1
                                    try clear hcz35_2
                                    try clear hcz35_3
                                    try clear hcz37_0
                                    try clear hcz37_1
                                    try clear hcz37_2
                                    try clear hcz37_3
                                    try clear hcz41_0
                                    try clear hcz41_1
                                    try clear hcz41_2
                                    try clear hcz41_3
                                    try clear hcz43_0
                                    try clear hcz43_1
                                    try clear hcz43_2
                                    try clear hcz43_3
                                    try clear hcz48_0
                                    try clear hcz48_1
                                    try clear hcz48_2
                                    try clear hcz48_3
                                    try clear hcz58_0
                                    try clear hcz58_1
                                    try clear hcz58_2
                                    try clear hcz58_3
                                    try clear hcz5_0
                                    try clear hcz5_1
                                    try clear hcz5_2
                                    try clear hcz5_3
                                    try clear hcz60_0
                                    try clear hcz60_1
                                    try clear hcz60_2
                                    try clear hcz60_3
                                    try clear hcz7_0
                                    try clear hcz7_1
                                    try clear hcz7_2
                                    try clear hcz7_3
                                    try clear hcz9_0
                                    try clear hcz9_1
                                    try clear hcz9_2
                                    try clear hcz9_3
                                    try clear hfz11_0
                                    try clear hfz11_1
                                    try clear hfz11_2
                                    try clear hfz11_3
                                    try clear hfz12_0
                                    try clear hfz12_1
                                    try clear hfz12_2
                                    try clear hfz12_3
                                    try clear hfz15_0
                                    try clear hfz15_1
                                    try clear hfz15_2
                                    try clear hfz15_3
                                    try clear hfz24_0
                                    try clear hfz24_1
                                    try clear hfz24_2
                                    try clear hfz24_3
                                    try clear hfz27_0
                                    try clear hfz27_1
                                    try clear hfz27_2
                                    try clear hfz27_3
                                    try clear hfz31_0
                                    try clear hfz31_1
                                    try clear hfz31_2
                                    try clear hfz31_3
                                    try clear hfz35_0
                                    try clear hfz35_1
                                    try clear hfz35_2
                                    try clear hfz35_3
                                    try clear hfz37_0
                                    try clear hfz37_1
                                    try clear hfz37_2
                                    try clear hfz37_3
                                    try clear hfz41_0
                                    try clear hfz41_1
                                    try clear hfz41_2
                                    try clear hfz41_3
                                    try clear hfz43_0
                                    try clear hfz43_1
                                    try clear hfz43_2
                                    try clear hfz43_3
                                    try clear hfz48_0
                                    try clear hfz48_1
                                    try clear hfz48_2
                                    try clear hfz48_3
                                    try clear hfz58_0
                                    try clear hfz58_1
                                    try clear hfz58_2
                                    try clear hfz58_3
                                    try clear hfz5_0
                                    try clear hfz5_1
                                    try clear hfz5_2
                                    try clear hfz5_3
                                    try clear hfz60_0
                                    try clear hfz60_1
                                    try clear hfz60_2
                                    try clear hfz60_3
                                    try clear hfz7_0
                                    try clear hfz7_1
                                    try clear hfz7_2
                                    try clear hfz7_3
                                    try clear hfz9_0
                                    try clear hfz9_1
                                    try clear hfz9_2
                                    try clear hfz9_3
                                    try clear p2
                                    obtain ⟨kq, x7_56, rfl, HA, HJ56, HO_6, BK145, HB⟩ := hcut
                                    cases kq with
                                    | zero => exact absurd HA.out (by simp [foundryref22_Blocks.j3])
                                    | succ kj56 =>
                                      have H := HA.out
                                      clear HA
                                      simp only [foundryref22_Blocks.j3] at H
                                      obtain ⟨y180, hy180⟩ : ∃ y_ : List Int, y_ = (([102, 98] : List Int)) := ⟨_, rfl⟩
                                      replace H : ((foundryref22_number.f kj56 a0_0 8).bind fun t183 => (if y180.length + t183.length < 140737488355328 then ((some (y180 ++ t183 : List Int)).bind fun y186 => ((foundryref22_number.f kj56 (IntKind.u64.wrap (a0_1)) 2).bind fun t189 => (if y186.length + t189.length < 140737488355328 then ((some (y186 ++ t189 : List Int)).bind fun y192 => ((foundryref22_number.f kj56 (IntKind.u64.wrap ((x6_3.length : Int))) 2).bind fun t195 => (if y192.length + t195.length < 140737488355328 then ((some (y192 ++ t195 : List Int)).bind fun y198 => (if 0 ≤ x5_3 then (if x5_3 ≤ x7_56 then (if x7_56 ≤ (l0_3.length : Int) then (if y198.length + ((l0_3.take (x7_56 : Int).toNat).drop (x5_3 : Int).toNat).length < 140737488355328 then ((foundryref22_filled.f kj56 (y198 ++ ((l0_3.take (x7_56 : Int).toNat).drop (x5_3 : Int).toNat))).bind fun t205 => (if x6_3.length < 5864062014805 then (foundryref22_Blocks.l0 kj56 x7_56 (x6_3 ++ [t205]) a0_0 a0_1 a0_2 l0_3) else (none))) else (none)) else (none)) else (none)) else (none))) else (none)))) else (none)))) else (none))) = some (r1, r2) := by first | (rw [hy180]; with_reducible exact H) | (have H2_ := (Option.bind_some _ _).symm.trans H; rw [hy180]; with_reducible exact H2_) | (have H2_ := (Option.bind_some _ _).symm.trans H; with_reducible exact H2_) | with_reducible exact H | (rw [hy180]; exact H) | exact H
                                      have Ny180 := Aside0.mk hy180
                                      clear hy180
                                      replace H := Option.bind_eq_some_iff.mp H
                                      obtain ⟨t183, A610, H⟩ := H
                                      replace H : (if y180.length + t183.length < 140737488355328 then ((some (y180 ++ t183 : List Int)).bind fun y186 => ((foundryref22_number.f kj56 (IntKind.u64.wrap (a0_1)) 2).bind fun t189 => (if y186.length + t189.length < 140737488355328 then ((some (y186 ++ t189 : List Int)).bind fun y192 => ((foundryref22_number.f kj56 (IntKind.u64.wrap ((x6_3.length : Int))) 2).bind fun t195 => (if y192.length + t195.length < 140737488355328 then ((some (y192 ++ t195 : List Int)).bind fun y198 => (if 0 ≤ x5_3 then (if x5_3 ≤ x7_56 then (if x7_56 ≤ (l0_3.length : Int) then (if y198.length + ((l0_3.take (x7_56 : Int).toNat).drop (x5_3 : Int).toNat).length < 140737488355328 then ((foundryref22_filled.f kj56 (y198 ++ ((l0_3.take (x7_56 : Int).toNat).drop (x5_3 : Int).toNat))).bind fun t205 => (if x6_3.length < 5864062014805 then (foundryref22_Blocks.l0 kj56 x7_56 (x6_3 ++ [t205]) a0_0 a0_1 a0_2 l0_3) else (none))) else (none)) else (none)) else (none)) else (none))) else (none)))) else (none)))) else (none)) = some (r1, r2) := H
                                      have A61 := Aside0.mk A610
                                      clear A610
                                      by_cases c62 : y180.length + t183.length < 140737488355328
                                      · rw [if_pos c62] at H
                                        have LMc62 := Aside0.mk c62
                                        clear c62
                                        obtain ⟨y186, hy186⟩ : ∃ y_ : List Int, y_ = (y180 ++ t183) := ⟨_, rfl⟩
                                        replace H : ((foundryref22_number.f kj56 (IntKind.u64.wrap (a0_1)) 2).bind fun t189 => (if y186.length + t189.length < 140737488355328 then ((some (y186 ++ t189 : List Int)).bind fun y192 => ((foundryref22_number.f kj56 (IntKind.u64.wrap ((x6_3.length : Int))) 2).bind fun t195 => (if y192.length + t195.length < 140737488355328 then ((some (y192 ++ t195 : List Int)).bind fun y198 => (if 0 ≤ x5_3 then (if x5_3 ≤ x7_56 then (if x7_56 ≤ (l0_3.length : Int) then (if y198.length + ((l0_3.take (x7_56 : Int).toNat).drop (x5_3 : Int).toNat).length < 140737488355328 then ((foundryref22_filled.f kj56 (y198 ++ ((l0_3.take (x7_56 : Int).toNat).drop (x5_3 : Int).toNat))).bind fun t205 => (if x6_3.length < 5864062014805 then (foundryref22_Blocks.l0 kj56 x7_56 (x6_3 ++ [t205]) a0_0 a0_1 a0_2 l0_3) else (none))) else (none)) else (none)) else (none)) else (none))) else (none)))) else (none))) = some (r1, r2) := by first | (rw [hy186]; with_reducible exact H) | (have H2_ := (Option.bind_some _ _).symm.trans H; rw [hy186]; with_reducible exact H2_) | (have H2_ := (Option.bind_some _ _).symm.trans H; with_reducible exact H2_) | with_reducible exact H | (rw [hy186]; exact H) | exact H
                                        have Ny186 := Aside0.mk hy186
                                        clear hy186
                                        replace H := Option.bind_eq_some_iff.mp H
                                        obtain ⟨t189, A630, H⟩ := H
                                        replace H : (if y186.length + t189.length < 140737488355328 then ((some (y186 ++ t189 : List Int)).bind fun y192 => ((foundryref22_number.f kj56 (IntKind.u64.wrap ((x6_3.length : Int))) 2).bind fun t195 => (if y192.length + t195.length < 140737488355328 then ((some (y192 ++ t195 : List Int)).bind fun y198 => (if 0 ≤ x5_3 then (if x5_3 ≤ x7_56 then (if x7_56 ≤ (l0_3.length : Int) then (if y198.length + ((l0_3.take (x7_56 : Int).toNat).drop (x5_3 : Int).toNat).length < 140737488355328 then ((foundryref22_filled.f kj56 (y198 ++ ((l0_3.take (x7_56 : Int).toNat).drop (x5_3 : Int).toNat))).bind fun t205 => (if x6_3.length < 5864062014805 then (foundryref22_Blocks.l0 kj56 x7_56 (x6_3 ++ [t205]) a0_0 a0_1 a0_2 l0_3) else (none))) else (none)) else (none)) else (none)) else (none))) else (none)))) else (none)) = some (r1, r2) := H
                                        have A63 := Aside0.mk A630
                                        clear A630
                                        by_cases c64 : y186.length + t189.length < 140737488355328
                                        · rw [if_pos c64] at H
                                          have LMc64 := Aside0.mk c64
                                          clear c64
                                          obtain ⟨y192, hy192⟩ : ∃ y_ : List Int, y_ = (y186 ++ t189) := ⟨_, rfl⟩
                                          replace H : ((foundryref22_number.f kj56 (IntKind.u64.wrap ((x6_3.length : Int))) 2).bind fun t195 => (if y192.length + t195.length < 140737488355328 then ((some (y192 ++ t195 : List Int)).bind fun y198 => (if 0 ≤ x5_3 then (if x5_3 ≤ x7_56 then (if x7_56 ≤ (l0_3.length : Int) then (if y198.length + ((l0_3.take (x7_56 : Int).toNat).drop (x5_3 : Int).toNat).length < 140737488355328 then ((foundryref22_filled.f kj56 (y198 ++ ((l0_3.take (x7_56 : Int).toNat).drop (x5_3 : Int).toNat))).bind fun t205 => (if x6_3.length < 5864062014805 then (foundryref22_Blocks.l0 kj56 x7_56 (x6_3 ++ [t205]) a0_0 a0_1 a0_2 l0_3) else (none))) else (none)) else (none)) else (none)) else (none))) else (none))) = some (r1, r2) := by first | (rw [hy192]; with_reducible exact H) | (have H2_ := (Option.bind_some _ _).symm.trans H; rw [hy192]; with_reducible exact H2_) | (have H2_ := (Option.bind_some _ _).symm.trans H; with_reducible exact H2_) | with_reducible exact H | (rw [hy192]; exact H) | exact H
                                          have Ny192 := Aside0.mk hy192
                                          clear hy192
                                          replace H := Option.bind_eq_some_iff.mp H
                                          obtain ⟨t195, A650, H⟩ := H
                                          replace H : (if y192.length + t195.length < 140737488355328 then ((some (y192 ++ t195 : List Int)).bind fun y198 => (if 0 ≤ x5_3 then (if x5_3 ≤ x7_56 then (if x7_56 ≤ (l0_3.length : Int) then (if y198.length + ((l0_3.take (x7_56 : Int).toNat).drop (x5_3 : Int).toNat).length < 140737488355328 then ((foundryref22_filled.f kj56 (y198 ++ ((l0_3.take (x7_56 : Int).toNat).drop (x5_3 : Int).toNat))).bind fun t205 => (if x6_3.length < 5864062014805 then (foundryref22_Blocks.l0 kj56 x7_56 (x6_3 ++ [t205]) a0_0 a0_1 a0_2 l0_3) else (none))) else (none)) else (none)) else (none)) else (none))) else (none)) = some (r1, r2) := H
                                          have A65 := Aside0.mk A650
                                          clear A650
                                          by_cases c66 : y192.length + t195.length < 140737488355328
                                          · rw [if_pos c66] at H
                                            have LMc66 := Aside0.mk c66
                                            clear c66
                                            obtain ⟨y198, hy198⟩ : ∃ y_ : List Int, y_ = (y192 ++ t195) := ⟨_, rfl⟩
                                            replace H : (if 0 ≤ x5_3 then (if x5_3 ≤ x7_56 then (if x7_56 ≤ (l0_3.length : Int) then (if y198.length + ((l0_3.take (x7_56 : Int).toNat).drop (x5_3 : Int).toNat).length < 140737488355328 then ((foundryref22_filled.f kj56 (y198 ++ ((l0_3.take (x7_56 : Int).toNat).drop (x5_3 : Int).toNat))).bind fun t205 => (if x6_3.length < 5864062014805 then (foundryref22_Blocks.l0 kj56 x7_56 (x6_3 ++ [t205]) a0_0 a0_1 a0_2 l0_3) else (none))) else (none)) else (none)) else (none)) else (none)) = some (r1, r2) := by first | (rw [hy198]; with_reducible exact H) | (have H2_ := (Option.bind_some _ _).symm.trans H; rw [hy198]; with_reducible exact H2_) | (have H2_ := (Option.bind_some _ _).symm.trans H; with_reducible exact H2_) | with_reducible exact H | (rw [hy198]; exact H) | exact H
                                            have Ny198 := Aside0.mk hy198
                                            clear hy198
                                            by_cases c67 : 0 ≤ x5_3
                                            · rw [if_pos c67] at H
                                              have c67b0 := eq_true c67
                                              have c67b1 : decide (0 ≤ x5_3) = true := decide_eq_true c67
                                              clear c67
                                              by_cases c68 : x5_3 ≤ x7_56
                                              · rw [if_pos c68] at H
                                                have c68b0 := eq_true c68
                                                have c68b1 : decide (x5_3 ≤ x7_56) = true := decide_eq_true c68
                                                clear c68
                                                by_cases c69 : x7_56 ≤ (l0_3.length : Int)
                                                · rw [if_pos c69] at H
                                                  have c69b0 := eq_true c69
                                                  have c69b1 : decide (x7_56 ≤ (l0_3.length : Int)) = true := decide_eq_true c69
                                                  clear c69
                                                  by_cases c70 : y198.length + ((l0_3.take (x7_56 : Int).toNat).drop (x5_3 : Int).toNat).length < 140737488355328
                                                  · rw [if_pos c70] at H
                                                    have LMc70 := Aside0.mk c70
                                                    clear c70
                                                    obtain ⟨y202, hy202⟩ : ∃ y_ : List Int, y_ = (y198 ++ ((l0_3.take (x7_56 : Int).toNat).drop (x5_3 : Int).toNat)) := ⟨_, rfl⟩
                                                    replace H : ((foundryref22_filled.f kj56 y202).bind fun t205 => (if x6_3.length < 5864062014805 then (foundryref22_Blocks.l0 kj56 x7_56 (x6_3 ++ [t205]) a0_0 a0_1 a0_2 l0_3) else (none))) = some (r1, r2) := by first | (rw [hy202]; with_reducible exact H) | (have H2_ := (Option.bind_some _ _).symm.trans H; rw [hy202]; with_reducible exact H2_) | (have H2_ := (Option.bind_some _ _).symm.trans H; with_reducible exact H2_) | with_reducible exact H | (rw [hy202]; exact H) | exact H
                                                    have Ny202 := Aside0.mk hy202
                                                    clear hy202
                                                    replace H := Option.bind_eq_some_iff.mp H
                                                    obtain ⟨t205, A710, H⟩ := H
                                                    replace H : (if x6_3.length < 5864062014805 then (foundryref22_Blocks.l0 kj56 x7_56 (x6_3 ++ [t205]) a0_0 a0_1 a0_2 l0_3) else (none)) = some (r1, r2) := H
                                                    have A71 := Aside0.mk A710
                                                    clear A710
                                                    by_cases c72 : x6_3.length < 5864062014805
                                                    · rw [if_pos c72] at H
                                                      have LMc72 := Aside0.mk c72
                                                      clear c72
                                                      obtain ⟨y208, hy208⟩ : ∃ y_ : List (List Int), y_ = (x6_3 ++ [t205]) := ⟨_, rfl⟩
                                                      replace H : (foundryref22_Blocks.l0 kj56 x7_56 y208 a0_0 a0_1 a0_2 l0_3) = some (r1, r2) := by first | (rw [hy208]; with_reducible exact H) | (have H2_ := (Option.bind_some _ _).symm.trans H; rw [hy208]; with_reducible exact H2_) | (have H2_ := (Option.bind_some _ _).symm.trans H; with_reducible exact H2_) | with_reducible exact H | (rw [hy208]; exact H) | exact H
                                                      have Ny208 := Aside0.mk hy208
                                                      clear hy208
                                                      have H' := Aside0.mk H
                                                      clear H
                                                      go_wp2_with (first | ((with_reducible refine gate_dst (N := 93) rfl ?_); refine Kd.R_lit (Kd.int .u8) _ 5 ?hg (N := 93) ?hd (xs := ([102, 98] : List Int)) (inner := [.int .u8 102, .int .u8 98]) (ok := fun _ => True) (okp := fun _ => True) ?hr ?hp (fun _ hk => hk) trivial (Below.refl _ _) (Nat.le_refl _) (by simp) ?_; (case hd => rfl); (case hg => rfl); (case hr => first | (go_simp; done) | (go_simp; rfl)); (case hp => exact (Reps.one (show Kd.M (Kd.int .u8) _ _ _ 102 [.int .u8 102] from rfl) (Reps.one (show Kd.M (Kd.int .u8) _ _ _ 98 [.int .u8 98] from rfl) (Reps.none _ _)))); intro v181 w73 ho74 hb hg_ hnew_; clear hg_ hnew_; (first | rw [← Ny180.out] at ho74 | (simp only [Int.reduceToNat] at ho74; rw [← Ny180.out] at ho74)); have n0_ := Aside0.mk (Kd.N_elder' (by (with_reducible repeat (first | apply Kd.N_alloc | apply Kd.N_drewN | apply Kd.N_drew)); exact HO_6.out) (Kd.R_base ho74) hb); have n1_ := Aside0.mk (Kd.R_lower (Kd.R_newM (M := fun k_ => (w.heap.size ≤ k_)) ho74 (below_size (by repeat (first | (with_reducible first | exact HB.out | apply below_alloc | apply pw_below_drewN | apply below_drew1 | refine below_set ?_ GE145.out) | exact HB.out))) (fun k_ h_ => h_)) (below_size (by repeat (first | (with_reducible first | exact HB.out | apply below_alloc | apply pw_below_drewN | apply below_drew1 | refine below_set ?_ GE145.out) | exact HB.out)))); have n2_ := Aside0.mk (blk_below (g := gb145) (o := .cells #[.int .u64 a0_0, .int .i64 a0_1, .int .i64 a0_2, .slice A0_3 l0_3.length c0_3] 28 (0, 0)) (by (with_reducible repeat (first | refine blk_drewN ?_ _ | refine blk_drew ?_ | refine blk_alloc ?_ _)); exact BK145.out) hb); have n3_ := Aside0.mk (below_step (by repeat (first | (with_reducible first | exact HB.out | apply below_alloc | apply pw_below_drewN | apply below_drew1 | refine below_set ?_ GE145.out) | exact HB.out)) hb); clear HO_6; clear BK145; clear HB; have HO_6 := n0_; have HO182 := n1_; have BK145 := n2_; have HB := n3_; clear n0_ n1_ n2_ n3_; clear hb ho74; have hcz75_0 : w73.cell? ⟨gb145, 0, none⟩ = some (.int .u64 a0_0) := (blk_cell BK145.out 0).trans rfl; have hcz75_1 : w73.cell? ⟨gb145, 1, none⟩ = some (.int .i64 a0_1) := (blk_cell BK145.out 1).trans rfl; have hcz75_2 : w73.cell? ⟨gb145, 2, none⟩ = some (.int .i64 a0_2) := (blk_cell BK145.out 2).trans rfl; have hcz75_3 : w73.cell? ⟨gb145, 3, none⟩ = some (.slice A0_3 l0_3.length c0_3) := (blk_cell BK145.out 3).trans rfl; have hfz75_0 := blk_frozen BK145.out 0; have hfz75_1 := blk_frozen BK145.out 1; have hfz75_2 := blk_frozen BK145.out 2; have hfz75_3 := blk_frozen BK145.out 3) | ((with_reducible refine gate_callee (f := 68) rfl ?_); refine goesL_ (some 97) rfl rfl Try.func68 (by kernel_rfl) rfl #[.int .u64 a0_0, .int .i64 8] rfl (by (try simp only [List.map_toArray, List.map_cons, List.map_nil]); first | done | rfl | (simp only [List.length_drop, List.length_take]; rfl)) ?_; (with_reducible refine (foundryref22_number.calls kj56 a0_0 8 t183 _ A61.out).mono ?_); rintro e w76 ⟨v184, rfl, ho0, hb⟩; refine ⟨_, rfl, ?_⟩; have n0_ := Aside0.mk (Kd.N_elder' (by (with_reducible repeat (first | apply Kd.N_alloc | apply Kd.N_drewN | apply Kd.N_drew)); exact HO_6.out) (Kd.R_base ho0) hb); have n1_ := Aside0.mk (Kd.R_elder' (by (with_reducible repeat (first | apply Kd.R_alloc | apply Kd.R_drewN | apply Kd.R_drew)); exact HO182.out) (Kd.R_base ho0) hb); have n2_ := Aside0.mk (Kd.R_lower (Kd.R_new' (Kd.R_newM (M := fun k_ => (w.heap.size ≤ k_)) ho0 (below_size (by repeat (first | (with_reducible first | exact HB.out | apply below_alloc | apply pw_below_drewN | apply below_drew1 | refine below_set ?_ GE145.out) | exact HB.out))) (fun k_ h_ => h_)) (Kd.R_lt (by (with_reducible repeat (first | apply Kd.R_alloc | apply Kd.R_drewN | apply Kd.R_drew)); exact HO182.out))) (below_size (by repeat (first | (with_reducible first | exact HB.out | apply below_alloc | apply pw_below_drewN | apply below_drew1 | refine below_set ?_ GE145.out) | exact HB.out)))); have n3_ := Aside0.mk (blk_below (g := gb145) (o := .cells #[.int .u64 a0_0, .int .i64 a0_1, .int .i64 a0_2, .slice A0_3 l0_3.length c0_3] 28 (0, 0)) (by (with_reducible repeat (first | refine blk_drewN ?_ _ | refine blk_drew ?_ | refine blk_alloc ?_ _)); exact BK145.out) hb); have n4_ := Aside0.mk (below_step (by repeat (first | (with_reducible first | exact HB.out | apply below_alloc | apply pw_below_drewN | apply below_drew1 | refine below_set ?_ GE145.out) | exact HB.out)) hb); clear HO_6; clear HO182; clear BK145; clear HB; have HO_6 := n0_; have HO182 := n1_; have HO185 := n2_; have BK145 := n3_; have HB := n4_; clear n0_ n1_ n2_ n3_ n4_; (try clear hb); (try clear hb2); (try clear hk); (try clear hi); (try clear ho0); obtain ⟨Ao78, co78, eo78⟩ := Kd.R_slice HO185.out; subst eo78) | ((with_reducible refine gate_builtin (b := .append) (xs := #[.tmp 94, .tmp 97]) rfl ?_); at_builtin; refine Kd.R_append_rows (Kd.int .u8) (w0 := w) w.heap.size rfl (.tmp 94) (.tmp 97) 22 5 (.int .u8 0) 1 rfl Try.underlying22 info5 rfl (by decide) (by omega) v181 y180 t183 _ _ _ (fun k_ => (w.heap.size ≤ k_) ∧ some k_ ≠ (.slice Ao78 t183.length co78 : Value).ownBlock) (fun _ => False) rfl rfl ?aO ?aR (fun _ _ h => h) (fun _ h => h.elim) ?aF ?aB ?aS ?aL ?_; (case aR => repeat (first | exact (Kd.R_reads' HO185.out).2.2 | (with_reducible refine Kd.C_alloc ?_ _) | (with_reducible refine Kd.C_drewN ?_ _) | (with_reducible refine Kd.C_drew ?_))); (case aB => exact (by repeat (first | (with_reducible first | exact HB.out | apply below_alloc | apply pw_below_drewN | apply below_drew1 | refine below_set ?_ GE145.out) | exact HB.out))); (case aF => exact (fun k_ hk => ⟨(Nat.le_trans (below_size (by repeat (first | (with_reducible first | exact HB.out | apply below_alloc | apply pw_below_drewN | apply below_drew1 | refine below_set ?_ GE145.out) | exact HB.out))) hk), Kd.fresh' (Kd.R_lt (by (with_reducible repeat (first | apply Kd.R_alloc | apply Kd.R_drewN | apply Kd.R_drew)); exact HO185.out)) k_ hk⟩)); (case aO => exact (by (with_reducible repeat (first | apply Kd.R_alloc | apply Kd.R_drewN | apply Kd.R_drew)); exact Kd.R_mono HO182.out (fun _ hk => ⟨hk.1.1, hk.2⟩))); (case aS => exact (below_size (by repeat (first | (with_reducible first | exact HB.out | apply below_alloc | apply pw_below_drewN | apply below_drew1 | refine below_set ?_ GE145.out) | exact HB.out)))); (case aL => have := LMc62.out; omega); intro v187 w77 ho hb hg hat; rw [← Ny186.out] at ho; have n0_ := Aside0.mk (Kd.N_afterv (ok := (fun k_ => (w.heap.size ≤ k_) ∧ some k_ ≠ (.slice Ao78 t183.length co78 : Value).ownBlock ∧ k_ ≠ gb145)) (by (with_reducible repeat (first | apply Kd.N_alloc | apply Kd.N_drewN | apply Kd.N_drew)); exact Kd.N_mono HO_6.out (fun _ hk => ⟨⟨hk.1.1.1, ⟨hk.2, hk.1.1.2⟩⟩, hk.1.2⟩)) hg hat); have n1_ := Aside0.mk (blk_grown (g := gb145) (o := .cells #[.int .u64 a0_0, .int .i64 a0_1, .int .i64 a0_2, .slice A0_3 l0_3.length c0_3] 28 (0, 0)) (by (with_reducible repeat (first | refine blk_drewN ?_ _ | refine blk_drew ?_ | refine blk_alloc ?_ _)); exact BK145.out) hg (Kd.R_ne HO182.out BK145.out (by decide))); have n2_ := Aside0.mk (Kd.R_after (ok := (fun k_ => (w.heap.size ≤ k_))) (by (with_reducible repeat (first | apply Kd.R_alloc | apply Kd.R_drewN | apply Kd.R_drew)); exact Kd.R_mono HO185.out (fun _ hk => ⟨hk.1.1, hk.2⟩)) hg hat); have n3_ := Aside0.mk (hb); have n4_ := Aside0.mk (ho); clear HO_6; clear BK145; clear HO185; clear HB; clear HO182; have HO_6 := n0_; have BK145 := n1_; have HO185 := n2_; have HB := n3_; have HO188 := n4_; clear n0_ n1_ n2_ n3_ n4_; clear ho hb hg hat; have hcz79_0 : w77.cell? ⟨gb145, 0, none⟩ = some (.int .u64 a0_0) := (blk_cell BK145.out 0).trans rfl; have hcz79_1 : w77.cell? ⟨gb145, 1, none⟩ = some (.int .i64 a0_1) := (blk_cell BK145.out 1).trans rfl; have hcz79_2 : w77.cell? ⟨gb145, 2, none⟩ = some (.int .i64 a0_2) := (blk_cell BK145.out 2).trans rfl; have hcz79_3 : w77.cell? ⟨gb145, 3, none⟩ = some (.slice A0_3 l0_3.length c0_3) := (blk_cell BK145.out 3).trans rfl; have hfz79_0 := blk_frozen BK145.out 0; have hfz79_1 := blk_frozen BK145.out 1; have hfz79_2 := blk_frozen BK145.out 2; have hfz79_3 := blk_frozen BK145.out 3) | ((with_reducible refine gate_callee (f := 68) rfl ?_); refine goesL_ (some 103) rfl rfl Try.func68 (by kernel_rfl) rfl #[.int .u64 (IntKind.u64.wrap (a0_1)), .int .i64 2] rfl (by (try simp only [List.map_toArray, List.map_cons, List.map_nil]); first | done | rfl | (simp only [List.length_drop, List.length_take]; rfl)) ?_; (with_reducible refine (foundryref22_number.calls kj56 (IntKind.u64.wrap (a0_1)) 2 t189 _ A63.out).mono ?_); rintro e w80 ⟨v190, rfl, ho0, hb⟩; refine ⟨_, rfl, ?_⟩; have n0_ := Aside0.mk (Kd.N_elder' (by (with_reducible repeat (first | apply Kd.N_alloc | apply Kd.N_drewN | apply Kd.N_drew)); exact HO_6.out) (Kd.R_base ho0) hb); have n1_ := Aside0.mk (Kd.R_elder' (by (with_reducible repeat (first | apply Kd.R_alloc | apply Kd.R_drewN | apply Kd.R_drew)); exact HO185.out) (Kd.R_base ho0) hb); have n2_ := Aside0.mk (Kd.R_elder' (by (with_reducible repeat (first | apply Kd.R_alloc | apply Kd.R_drewN | apply Kd.R_drew)); exact HO188.out) (Kd.R_base ho0) hb); have n3_ := Aside0.mk (Kd.R_lower (Kd.R_new' (Kd.R_new' (Kd.R_newM (M := fun k_ => (w.heap.size ≤ k_)) ho0 (below_size (by repeat (first | (with_reducible first | exact HB.out | apply below_alloc | apply pw_below_drewN | apply below_drew1 | refine below_set ?_ GE145.out) | exact HB.out))) (fun k_ h_ => h_)) (Kd.R_lt (by (with_reducible repeat (first | apply Kd.R_alloc | apply Kd.R_drewN | apply Kd.R_drew)); exact HO185.out))) (Kd.R_lt (by (with_reducible repeat (first | apply Kd.R_alloc | apply Kd.R_drewN | apply Kd.R_drew)); exact HO188.out))) (below_size (by repeat (first | (with_reducible first | exact HB.out | apply below_alloc | apply pw_below_drewN | apply below_drew1 | refine below_set ?_ GE145.out) | exact HB.out)))); have n4_ := Aside0.mk (blk_below (g := gb145) (o := .cells #[.int .u64 a0_0, .int .i64 a0_1, .int .i64 a0_2, .slice A0_3 l0_3.length c0_3] 28 (0, 0)) (by (with_reducible repeat (first | refine blk_drewN ?_ _ | refine blk_drew ?_ | refine blk_alloc ?_ _)); exact BK145.out) hb); have n5_ := Aside0.mk (below_step (by repeat (first | (with_reducible first | exact HB.out | apply below_alloc | apply pw_below_drewN | apply below_drew1 | refine below_set ?_ GE145.out) | exact HB.out)) hb); clear HO_6; clear HO185; clear HO188; clear BK145; clear HB; have HO_6 := n0_; have HO185 := n1_; have HO188 := n2_; have HO191 := n3_; have BK145 := n4_; have HB := n5_; clear n0_ n1_ n2_ n3_ n4_ n5_; (try clear hb); (try clear hb2); (try clear hk); (try clear hi); (try clear ho0); obtain ⟨Ao82, co82, eo82⟩ := Kd.R_slice HO191.out; subst eo82) | ((with_reducible refine gate_builtin (b := .append) (xs := #[.tmp 99, .tmp 103]) rfl ?_); at_builtin; refine Kd.R_append_rows (Kd.int .u8) (w0 := w) w.heap.size rfl (.tmp 99) (.tmp 103) 22 5 (.int .u8 0) 1 rfl Try.underlying22 info5 rfl (by decide) (by omega) v187 y186 t189 _ _ _ (fun k_ => (w.heap.size ≤ k_) ∧ some k_ ≠ (.slice Ao78 t183.length co78 : Value).ownBlock ∧ some k_ ≠ (.slice Ao82 t189.length co82 : Value).ownBlock) (fun _ => False) rfl rfl ?aO ?aR (fun _ _ h => h) (fun _ h => h.elim) ?aF ?aB ?aS ?aL ?_; (case aR => repeat (first | exact (Kd.R_reads' HO191.out).2.2 | (with_reducible refine Kd.C_alloc ?_ _) | (with_reducible refine Kd.C_drewN ?_ _) | (with_reducible refine Kd.C_drew ?_))); (case aB => exact (by repeat (first | (with_reducible first | exact HB.out | apply below_alloc | apply pw_below_drewN | apply below_drew1 | refine below_set ?_ GE145.out) | exact HB.out))); (case aF => exact (fun k_ hk => ⟨(Nat.le_trans (below_size (by repeat (first | (with_reducible first | exact HB.out | apply below_alloc | apply pw_below_drewN | apply below_drew1 | refine below_set ?_ GE145.out) | exact HB.out))) hk), Kd.fresh' (Kd.R_lt (by (with_reducible repeat (first | apply Kd.R_alloc | apply Kd.R_drewN | apply Kd.R_drew)); exact HO185.out)) k_ hk, Kd.fresh' (Kd.R_lt (by (with_reducible repeat (first | apply Kd.R_alloc | apply Kd.R_drewN | apply Kd.R_drew)); exact HO191.out)) k_ hk⟩)); (case aO => exact (by (with_reducible repeat (first | apply Kd.R_alloc | apply Kd.R_drewN | apply Kd.R_drew)); exact Kd.R_mono HO188.out (fun _ hk => ⟨hk.1.1, ⟨hk.1.2, hk.2⟩⟩))); (case aS => exact (below_size (by repeat (first | (with_reducible first | exact HB.out | apply below_alloc | apply pw_below_drewN | apply below_drew1 | refine below_set ?_ GE145.out) | exact HB.out)))); (case aL => have := LMc64.out; omega); intro v193 w81 ho hb hg hat; rw [← Ny192.out] at ho; have n0_ := Aside0.mk (Kd.N_afterv (ok := (fun k_ => (w.heap.size ≤ k_) ∧ some k_ ≠ (.slice Ao78 t183.length co78 : Value).ownBlock ∧ some k_ ≠ (.slice Ao82 t189.length co82 : Value).ownBlock ∧ k_ ≠ gb145)) (by (with_reducible repeat (first | apply Kd.N_alloc | apply Kd.N_drewN | apply Kd.N_drew)); exact Kd.N_mono HO_6.out (fun _ hk => ⟨⟨hk.1.1.1, ⟨hk.1.1.2.1, ⟨hk.2, hk.1.1.2.2⟩⟩⟩, hk.1.2⟩)) hg hat); have n1_ := Aside0.mk (blk_grown (g := gb145) (o := .cells #[.int .u64 a0_0, .int .i64 a0_1, .int .i64 a0_2, .slice A0_3 l0_3.length c0_3] 28 (0, 0)) (by (with_reducible repeat (first | refine blk_drewN ?_ _ | refine blk_drew ?_ | refine blk_alloc ?_ _)); exact BK145.out) hg (Kd.R_ne HO188.out BK145.out (by decide))); have n2_ := Aside0.mk (Kd.R_after (ok := (fun k_ => (w.heap.size ≤ k_) ∧ some k_ ≠ (.slice Ao82 t189.length co82 : Value).ownBlock)) (by (with_reducible repeat (first | apply Kd.R_alloc | apply Kd.R_drewN | apply Kd.R_drew)); exact Kd.R_mono HO185.out (fun _ hk => ⟨⟨hk.1.1, hk.2⟩, hk.1.2⟩)) hg hat); have n3_ := Aside0.mk (Kd.R_after (ok := (fun k_ => (w.heap.size ≤ k_) ∧ some k_ ≠ (.slice Ao78 t183.length co78 : Value).ownBlock)) (by (with_reducible repeat (first | apply Kd.R_alloc | apply Kd.R_drewN | apply Kd.R_drew)); exact Kd.R_mono HO191.out (fun _ hk => ⟨⟨hk.1.1.1, hk.1.2⟩, hk.2⟩)) hg hat); have n4_ := Aside0.mk (hb); have n5_ := Aside0.mk (ho); clear HO_6; clear BK145; clear HO185; clear HO191; clear HB; clear HO188; have HO_6 := n0_; have BK145 := n1_; have HO185 := n2_; have HO191 := n3_; have HB := n4_; have HO194 := n5_; clear n0_ n1_ n2_ n3_ n4_ n5_; clear ho hb hg hat; obtain ⟨Ao83, co83, eo83⟩ := Kd.N_slice HO_6.out; subst eo83) | ((with_reducible refine gate_callee (f := 68) rfl ?_); refine goesL_ (some 109) rfl rfl Try.func68 (by kernel_rfl) rfl #[.int .u64 (IntKind.u64.wrap ((x6_3.length : Int))), .int .i64 2] rfl (by (try simp only [List.map_toArray, List.map_cons, List.map_nil]); first | done | rfl | (simp only [List.length_drop, List.length_take]; rfl)) ?_; (with_reducible refine (foundryref22_number.calls kj56 (IntKind.u64.wrap ((x6_3.length : Int))) 2 t195 _ A65.out).mono ?_); rintro e w84 ⟨v196, rfl, ho0, hb⟩; refine ⟨_, rfl, ?_⟩; have n0_ := Aside0.mk (Kd.N_elder' (by (with_reducible repeat (first | apply Kd.N_alloc | apply Kd.N_drewN | apply Kd.N_drew)); exact HO_6.out) (Kd.R_base ho0) hb); have n1_ := Aside0.mk (Kd.R_elder' (by (with_reducible repeat (first | apply Kd.R_alloc | apply Kd.R_drewN | apply Kd.R_drew)); exact HO185.out) (Kd.R_base ho0) hb); have n2_ := Aside0.mk (Kd.R_elder' (by (with_reducible repeat (first | apply Kd.R_alloc | apply Kd.R_drewN | apply Kd.R_drew)); exact HO191.out) (Kd.R_base ho0) hb); have n3_ := Aside0.mk (Kd.R_elder' (by (with_reducible repeat (first | apply Kd.R_alloc | apply Kd.R_drewN | apply Kd.R_drew)); exact HO194.out) (Kd.R_base ho0) hb); have n4_ := Aside0.mk (Kd.R_lower (Kd.R_new' (Kd.R_new' (Kd.R_new' (Kd.R_newM (M := fun k_ => (w.heap.size ≤ k_)) ho0 (below_size (by repeat (first | (with_reducible first | exact HB.out | apply below_alloc | apply pw_below_drewN | apply below_drew1 | refine below_set ?_ GE145.out) | exact HB.out))) (fun k_ h_ => h_)) (Kd.R_lt (by (with_reducible repeat (first | apply Kd.R_alloc | apply Kd.R_drewN | apply Kd.R_drew)); exact HO185.out))) (Kd.R_lt (by (with_reducible repeat (first | apply Kd.R_alloc | apply Kd.R_drewN | apply Kd.R_drew)); exact HO191.out))) (Kd.R_lt (by (with_reducible repeat (first | apply Kd.R_alloc | apply Kd.R_drewN | apply Kd.R_drew)); exact HO194.out))) (below_size (by repeat (first | (with_reducible first | exact HB.out | apply below_alloc | apply pw_below_drewN | apply below_drew1 | refine below_set ?_ GE145.out) | exact HB.out)))); have n5_ := Aside0.mk (blk_below (g := gb145) (o := .cells #[.int .u64 a0_0, .int .i64 a0_1, .int .i64 a0_2, .slice A0_3 l0_3.length c0_3] 28 (0, 0)) (by (with_reducible repeat (first | refine blk_drewN ?_ _ | refine blk_drew ?_ | refine blk_alloc ?_ _)); exact BK145.out) hb); have n6_ := Aside0.mk (below_step (by repeat (first | (with_reducible first | exact HB.out | apply below_alloc | apply pw_below_drewN | apply below_drew1 | refine below_set ?_ GE145.out) | exact HB.out)) hb); clear HO_6; clear HO185; clear HO191; clear HO194; clear BK145; clear HB; have HO_6 := n0_; have HO185 := n1_; have HO191 := n2_; have HO194 := n3_; have HO197 := n4_; have BK145 := n5_; have HB := n6_; clear n0_ n1_ n2_ n3_ n4_ n5_ n6_; (try clear hb); (try clear hb2); (try clear hk); (try clear hi); (try clear ho0); obtain ⟨Ao86, co86, eo86⟩ := Kd.R_slice HO197.out; subst eo86) | ((with_reducible refine gate_builtin (b := .append) (xs := #[.tmp 105, .tmp 109]) rfl ?_); at_builtin; refine Kd.R_append_rows (Kd.int .u8) (w0 := w) w.heap.size rfl (.tmp 105) (.tmp 109) 22 5 (.int .u8 0) 1 rfl Try.underlying22 info5 rfl (by decide) (by omega) v193 y192 t195 _ _ _ (fun k_ => (w.heap.size ≤ k_) ∧ some k_ ≠ (.slice Ao78 t183.length co78 : Value).ownBlock ∧ some k_ ≠ (.slice Ao82 t189.length co82 : Value).ownBlock ∧ some k_ ≠ (.slice Ao86 t195.length co86 : Value).ownBlock) (fun _ => False) rfl rfl ?aO ?aR (fun _ _ h => h) (fun _ h => h.elim) ?aF ?aB ?aS ?aL ?_; (case aR => repeat (first | exact (Kd.R_reads' HO197.out).2.2 | (with_reducible refine Kd.C_alloc ?_ _) | (with_reducible refine Kd.C_drewN ?_ _) | (with_reducible refine Kd.C_drew ?_))); (case aB => exact (by repeat (first | (with_reducible first | exact HB.out | apply below_alloc | apply pw_below_drewN | apply below_drew1 | refine below_set ?_ GE145.out) | exact HB.out))); (case aF => exact (fun k_ hk => ⟨(Nat.le_trans (below_size (by repeat (first | (with_reducible first | exact HB.out | apply below_alloc | apply pw_below_drewN | apply below_drew1 | refine below_set ?_ GE145.out) | exact HB.out))) hk), Kd.fresh' (Kd.R_lt (by (with_reducible repeat (first | apply Kd.R_alloc | apply Kd.R_drewN | apply Kd.R_drew)); exact HO185.out)) k_ hk, Kd.fresh' (Kd.R_lt (by (with_reducible repeat (first | apply Kd.R_alloc | apply Kd.R_drewN | apply Kd.R_drew)); exact HO191.out)) k_ hk, Kd.fresh' (Kd.R_lt (by (with_reducible repeat (first | apply Kd.R_alloc | apply Kd.R_drewN | apply Kd.R_drew)); exact HO197.out)) k_ hk⟩)); (case aO => exact (by (with_reducible repeat (first | apply Kd.R_alloc | apply Kd.R_drewN | apply Kd.R_drew)); exact Kd.R_mono HO194.out (fun _ hk => ⟨hk.1.1, ⟨hk.1.2.1, ⟨hk.1.2.2, hk.2⟩⟩⟩))); (case aS => exact (below_size (by repeat (first | (with_reducible first | exact HB.out | apply below_alloc | apply pw_below_drewN | apply below_drew1 | refine below_set ?_ GE145.out) | exact HB.out)))); (case aL => have := LMc66.out; omega); intro v199 w85 ho hb hg hat; rw [← Ny198.out] at ho; have n0_ := Aside0.mk (Kd.N_afterv (ok := (fun k_ => (w.heap.size ≤ k_) ∧ some k_ ≠ (.slice Ao78 t183.length co78 : Value).ownBlock ∧ some k_ ≠ (.slice Ao82 t189.length co82 : Value).ownBlock ∧ some k_ ≠ (.slice Ao86 t195.length co86 : Value).ownBlock ∧ k_ ≠ gb145)) (by (with_reducible repeat (first | apply Kd.N_alloc | apply Kd.N_drewN | apply Kd.N_drew)); exact Kd.N_mono HO_6.out (fun _ hk => ⟨⟨hk.1.1.1, ⟨hk.1.1.2.1, ⟨hk.1.1.2.2.1, ⟨hk.2, hk.1.1.2.2.2⟩⟩⟩⟩, hk.1.2⟩)) hg hat); have n1_ := Aside0.mk (blk_grown (g := gb145) (o := .cells #[.int .u64 a0_0, .int .i64 a0_1, .int .i64 a0_2, .slice A0_3 l0_3.length c0_3] 28 (0, 0)) (by (with_reducible repeat (first | refine blk_drewN ?_ _ | refine blk_drew ?_ | refine blk_alloc ?_ _)); exact BK145.out) hg (Kd.R_ne HO194.out BK145.out (by decide))); have n2_ := Aside0.mk (Kd.R_after (ok := (fun k_ => (w.heap.size ≤ k_) ∧ some k_ ≠ (.slice Ao82 t189.length co82 : Value).ownBlock ∧ some k_ ≠ (.slice Ao86 t195.length co86 : Value).ownBlock)) (by (with_reducible repeat (first | apply Kd.R_alloc | apply Kd.R_drewN | apply Kd.R_drew)); exact Kd.R_mono HO185.out (fun _ hk => ⟨⟨hk.1.1.1, ⟨hk.1.1.2, hk.2⟩⟩, hk.1.2⟩)) hg hat); have n3_ := Aside0.mk (Kd.R_after (ok := (fun k_ => (w.heap.size ≤ k_) ∧ some k_ ≠ (.slice Ao78 t183.length co78 : Value).ownBlock ∧ some k_ ≠ (.slice Ao86 t195.length co86 : Value).ownBlock)) (by (with_reducible repeat (first | apply Kd.R_alloc | apply Kd.R_drewN | apply Kd.R_drew)); exact Kd.R_mono HO191.out (fun _ hk => ⟨⟨hk.1.1.1, ⟨hk.1.1.2, hk.2⟩⟩, hk.1.2⟩)) hg hat); have n4_ := Aside0.mk (Kd.R_after (ok := (fun k_ => (w.heap.size ≤ k_) ∧ some k_ ≠ (.slice Ao78 t183.length co78 : Value).ownBlock ∧ some k_ ≠ (.slice Ao82 t189.length co82 : Value).ownBlock)) (by (with_reducible repeat (first | apply Kd.R_alloc | apply Kd.R_drewN | apply Kd.R_drew)); exact Kd.R_mono HO197.out (fun _ hk => ⟨⟨hk.1.1.1.1, ⟨hk.1.1.2, hk.1.2⟩⟩, hk.2⟩)) hg hat); have n5_ := Aside0.mk (hb); have n6_ := Aside0.mk (ho); clear HO_6; clear BK145; clear HO185; clear HO191; clear HO197; clear HB; clear HO194; have HO_6 := n0_; have BK145 := n1_; have HO185 := n2_; have HO191 := n3_; have HO197 := n4_; have HB := n5_; have HO200 := n6_; clear n0_ n1_ n2_ n3_ n4_ n5_ n6_; clear ho hb hg hat; have hcz87_0 : w85.cell? ⟨gb145, 0, none⟩ = some (.int .u64 a0_0) := (blk_cell BK145.out 0).trans rfl; have hcz87_1 : w85.cell? ⟨gb145, 1, none⟩ = some (.int .i64 a0_1) := (blk_cell BK145.out 1).trans rfl; have hcz87_2 : w85.cell? ⟨gb145, 2, none⟩ = some (.int .i64 a0_2) := (blk_cell BK145.out 2).trans rfl; have hcz87_3 : w85.cell? ⟨gb145, 3, none⟩ = some (.slice A0_3 l0_3.length c0_3) := (blk_cell BK145.out 3).trans rfl; have hfz87_0 := blk_frozen BK145.out 0; have hfz87_1 := blk_frozen BK145.out 1; have hfz87_2 := blk_frozen BK145.out 2; have hfz87_3 := blk_frozen BK145.out 3; obtain ⟨i088, hi088, _, hsz88, _⟩ := info_parts info5; obtain ⟨A88, hcut88, hA88, hC88⟩ := print_mid_of (P := Try.prog) (Value.int .u8) 0 22 5 .i64 .i64 Try.underlying22 hi088 hsz88 A0_3 c0_3 l0_3 x5_3 x7_56 (of_decide_eq_true (by first | (with_reducible assumption) | assumption)) (by first | omega | exact of_decide_eq_true (by first | (with_reducible assumption) | assumption)) (of_decide_eq_true (by first | (with_reducible assumption) | assumption)) HC0_3.out; have HR201 := Aside0.mk (Kd.C_of_reads (h1 := fun _ => rfl) (hA88 _ (Kd.reads_of_C HR0_3.out))); have HC201 := Aside0.mk hC88; clear hA88 hC88 hi088 hsz88) | ((with_reducible refine gate_builtin (b := .append) (xs := #[.tmp 111, .tmp 116]) rfl ?_); at_builtin; refine Kd.R_append_rows (Kd.int .u8) (w0 := w) w.heap.size rfl (.tmp 111) (.tmp 116) 22 5 (.int .u8 0) 1 rfl Try.underlying22 info5 rfl (by decide) (by omega) v199 y198 ((l0_3.take (x7_56 : Int).toNat).drop (x5_3 : Int).toNat) _ _ _ (fun k_ => (w.heap.size ≤ k_) ∧ some k_ ≠ (.slice Ao78 t183.length co78 : Value).ownBlock ∧ some k_ ≠ (.slice Ao82 t189.length co82 : Value).ownBlock ∧ some k_ ≠ (.slice Ao86 t195.length co86 : Value).ownBlock) (fun _ => False) rfl rfl ?aO ?aR (fun _ _ h => h) (fun _ h => h.elim) ?aF ?aB ?aS ?aL ?_; (case aR => first | (have h0_ := (Kd.C_below HR201.out HB.out); have h1_ := h0_; rw [show ((l0_3.take (x7_56 : Int).toNat).drop (x5_3 : Int).toNat).length = (x7_56.toNat - x5_3.toNat) from (by rw [List.length_drop, List.length_take]; have h_ : (x7_56 : Int) ≤ (l0_3.length : Int) := of_decide_eq_true (by first | (with_reducible assumption) | assumption); omega)] at h1_; exact h1_) | (repeat (first | exact (Kd.C_below HR201.out HB.out) | (with_reducible refine Kd.C_alloc ?_ _) | (with_reducible refine Kd.C_drewN ?_ _) | (with_reducible refine Kd.C_drew ?_))) | (repeat (first | exact (Kd.C_below HR201.out HB.out) | (with_reducible refine Kd.C_alloc ?_ _) | (with_reducible refine Kd.C_drewN ?_ _) | (with_reducible refine Kd.C_drew ?_)))); (case aB => exact (by repeat (first | (with_reducible first | exact HB.out | apply below_alloc | apply pw_below_drewN | apply below_drew1 | refine below_set ?_ GE145.out) | exact HB.out))); (case aF => exact (fun k_ hk => ⟨(Nat.le_trans (below_size (by repeat (first | (with_reducible first | exact HB.out | apply below_alloc | apply pw_below_drewN | apply below_drew1 | refine below_set ?_ GE145.out) | exact HB.out))) hk), Kd.fresh' (Kd.R_lt (by (with_reducible repeat (first | apply Kd.R_alloc | apply Kd.R_drewN | apply Kd.R_drew)); exact HO185.out)) k_ hk, Kd.fresh' (Kd.R_lt (by (with_reducible repeat (first | apply Kd.R_alloc | apply Kd.R_drewN | apply Kd.R_drew)); exact HO191.out)) k_ hk, Kd.fresh' (Kd.R_lt (by (with_reducible repeat (first | apply Kd.R_alloc | apply Kd.R_drewN | apply Kd.R_drew)); exact HO197.out)) k_ hk⟩)); (case aO => exact (by (with_reducible repeat (first | apply Kd.R_alloc | apply Kd.R_drewN | apply Kd.R_drew)); exact HO200.out)); (case aS => exact (below_size (by repeat (first | (with_reducible first | exact HB.out | apply below_alloc | apply pw_below_drewN | apply below_drew1 | refine below_set ?_ GE145.out) | exact HB.out)))); (case aL => have := LMc70.out; have hlx_ := (show ((l0_3.take (x7_56 : Int).toNat).drop (x5_3 : Int).toNat).length = (x7_56.toNat - x5_3.toNat) from (by rw [List.length_drop, List.length_take]; have h_ : (x7_56 : Int) ≤ (l0_3.length : Int) := of_decide_eq_true (by first | (with_reducible assumption) | assumption); omega)); omega); intro v203 w89 ho hb hg hat; rw [← Ny202.out] at ho; have n0_ := Aside0.mk (Kd.N_afterv (ok := (fun k_ => (w.heap.size ≤ k_) ∧ some k_ ≠ (.slice Ao78 t183.length co78 : Value).ownBlock ∧ some k_ ≠ (.slice Ao82 t189.length co82 : Value).ownBlock ∧ some k_ ≠ (.slice Ao86 t195.length co86 : Value).ownBlock ∧ k_ ≠ gb145)) (by (with_reducible repeat (first | apply Kd.N_alloc | apply Kd.N_drewN | apply Kd.N_drew)); exact HO_6.out) hg hat); have n1_ := Aside0.mk (blk_grown (g := gb145) (o := .cells #[.int .u64 a0_0, .int .i64 a0_1, .int .i64 a0_2, .slice A0_3 l0_3.length c0_3] 28 (0, 0)) (by (with_reducible repeat (first | refine blk_drewN ?_ _ | refine blk_drew ?_ | refine blk_alloc ?_ _)); exact BK145.out) hg (Kd.R_ne HO200.out BK145.out (by decide))); have n2_ := Aside0.mk (Kd.R_after (ok := (fun k_ => (w.heap.size ≤ k_) ∧ some k_ ≠ (.slice Ao82 t189.length co82 : Value).ownBlock ∧ some k_ ≠ (.slice Ao86 t195.length co86 : Value).ownBlock)) (by (with_reducible repeat (first | apply Kd.R_alloc | apply Kd.R_drewN | apply Kd.R_drew)); exact HO185.out) hg hat); have n3_ := Aside0.mk (Kd.R_after (ok := (fun k_ => (w.heap.size ≤ k_) ∧ some k_ ≠ (.slice Ao78 t183.length co78 : Value).ownBlock ∧ some k_ ≠ (.slice Ao86 t195.length co86 : Value).ownBlock)) (by (with_reducible repeat (first | apply Kd.R_alloc | apply Kd.R_drewN | apply Kd.R_drew)); exact HO191.out) hg hat); have n4_ := Aside0.mk (Kd.R_after (ok := (fun k_ => (w.heap.size ≤ k_) ∧ some k_ ≠ (.slice Ao78 t183.length co78 : Value).ownBlock ∧ some k_ ≠ (.slice Ao82 t189.length co82 : Value).ownBlock)) (by (with_reducible repeat (first | apply Kd.R_alloc | apply Kd.R_drewN | apply Kd.R_drew)); exact HO197.out) hg hat); have n5_ := Aside0.mk (hb); have n6_ := Aside0.mk (ho); clear HO_6; clear BK145; clear HO185; clear HO191; clear HO197; clear HB; clear HO200; have HO_6 := n0_; have BK145 := n1_; have HO185 := n2_; have HO191 := n3_; have HO197 := n4_; have HB := n5_; have HO204 := n6_; clear n0_ n1_ n2_ n3_ n4_ n5_ n6_; clear ho hb hg hat; obtain ⟨Ao90, co90, eo90⟩ := Kd.R_slice HO204.out; subst eo90) | ((with_reducible refine gate_callee (f := 69) rfl ?_); refine goesL_ (some 120) rfl rfl Try.func69 (by kernel_rfl) rfl #[.slice Ao90 y202.length co90] rfl (by (try simp only [List.map_toArray, List.map_cons, List.map_nil]); first | done | rfl | (simp only [List.length_drop, List.length_take]; rfl)) ?_; (with_reducible refine (foundryref22_filled.calls kj56 (fun k_ => some k_ = (.slice Ao90 y202.length co90 : Value).ownBlock) (.slice Ao90 y202.length co90) y202 t205 w _ ?side1 ?side2 A71.out).mono ?_); (case side1 => repeat (first | (with_reducible first | exact HB.out | apply below_alloc | apply pw_below_drewN | apply below_drew1 | refine below_set ?_ GE145.out) | exact HB.out)); (case side2 => exact Kd.R_tight rfl HO204.out); rintro e w91 ⟨v206, rfl, ho0, hb, hkp⟩; refine ⟨_, rfl, ?_⟩; have n0_ := Aside0.mk (Kd.N_mono (ok' := fun k_ => (w.heap.size ≤ k_) ∧ some k_ ≠ (.slice Ao78 t183.length co78 : Value).ownBlock ∧ some k_ ≠ (.slice Ao82 t189.length co82 : Value).ownBlock ∧ some k_ ≠ (.slice Ao86 t195.length co86 : Value).ownBlock ∧ k_ ≠ gb145 ∧ some k_ ≠ (v206 : Value).ownBlock) (Kd.N_keptB (HO_6.out) hkp (fun k_ hk_ hs_ => (hk_.2) hs_)) (fun k_ hk_ => ⟨hk_.1.1.1, hk_.1.1.2.1, hk_.1.1.2.2.1, hk_.1.1.2.2.2.1, hk_.1.1.2.2.2.2, fun e_ => Or.elim (ho0.1 k_ e_.symm) (fun hs_ => hk_.2.1 hs_) (fun hn_ => Nat.not_le.2 hk_.2.2 hn_)⟩)); have n1_ := Aside0.mk (blk_kept (by (with_reducible repeat (first | refine blk_drewN ?_ _ | refine blk_drew ?_ | refine blk_alloc ?_ _)); exact BK145.out) hkp (fun hs_ => (fun e_ => (Kd.R_ne HO204.out BK145.out (by decide)) e_) hs_)); have n2_ := Aside0.mk (Kd.R_mono (ok' := fun k_ => (w.heap.size ≤ k_) ∧ some k_ ≠ (.slice Ao82 t189.length co82 : Value).ownBlock ∧ some k_ ≠ (.slice Ao86 t195.length co86 : Value).ownBlock ∧ some k_ ≠ (v206 : Value).ownBlock) (Kd.R_keptB (HO185.out) hkp (fun k_ hk_ hs_ => (hk_.2) hs_)) (fun k_ hk_ => ⟨hk_.1.1.1, hk_.1.1.2.1, hk_.1.1.2.2, fun e_ => Or.elim (ho0.1 k_ e_.symm) (fun hs_ => hk_.2.1 hs_) (fun hn_ => Nat.not_le.2 hk_.2.2 hn_)⟩)); have n3_ := Aside0.mk (Kd.R_mono (ok' := fun k_ => (w.heap.size ≤ k_) ∧ some k_ ≠ (.slice Ao78 t183.length co78 : Value).ownBlock ∧ some k_ ≠ (.slice Ao86 t195.length co86 : Value).ownBlock ∧ some k_ ≠ (v206 : Value).ownBlock) (Kd.R_keptB (HO191.out) hkp (fun k_ hk_ hs_ => (hk_.2) hs_)) (fun k_ hk_ => ⟨hk_.1.1.1, hk_.1.1.2.1, hk_.1.1.2.2, fun e_ => Or.elim (ho0.1 k_ e_.symm) (fun hs_ => hk_.2.1 hs_) (fun hn_ => Nat.not_le.2 hk_.2.2 hn_)⟩)); have n4_ := Aside0.mk (Kd.R_mono (ok' := fun k_ => (w.heap.size ≤ k_) ∧ some k_ ≠ (.slice Ao78 t183.length co78 : Value).ownBlock ∧ some k_ ≠ (.slice Ao82 t189.length co82 : Value).ownBlock ∧ some k_ ≠ (v206 : Value).ownBlock) (Kd.R_keptB (HO197.out) hkp (fun k_ hk_ hs_ => (hk_.2) hs_)) (fun k_ hk_ => ⟨hk_.1.1.1, hk_.1.1.2.1, hk_.1.1.2.2, fun e_ => Or.elim (ho0.1 k_ e_.symm) (fun hs_ => hk_.2.1 hs_) (fun hn_ => Nat.not_le.2 hk_.2.2 hn_)⟩)); have n5_ := Aside0.mk (Kd.R_mono (ok' := fun k_ => (w.heap.size ≤ k_) ∧ some k_ ≠ (.slice Ao78 t183.length co78 : Value).ownBlock ∧ some k_ ≠ (.slice Ao82 t189.length co82 : Value).ownBlock ∧ some k_ ≠ (.slice Ao86 t195.length co86 : Value).ownBlock) ho0 (fun k_ hk_ => ⟨Or.elim hk_ (fun hs_ => (HO204.out.1 k_ (hs_).symm).1) (fun hn_ => (Nat.le_trans (below_size (by repeat (first | (with_reducible first | exact HB.out | apply below_alloc | apply pw_below_drewN | apply below_drew1 | refine below_set ?_ GE145.out) | exact HB.out))) hn_)), Or.elim hk_ (fun hs_ => fun e_ => (((HO185.out).1 k_ e_.symm).2) hs_) (fun hn_ => (Kd.fresh' (Kd.R_lt (by (with_reducible repeat (first | apply Kd.R_alloc | apply Kd.R_drewN | apply Kd.R_drew)); exact HO185.out)) k_ hn_)), Or.elim hk_ (fun hs_ => fun e_ => (((HO191.out).1 k_ e_.symm).2) hs_) (fun hn_ => (Kd.fresh' (Kd.R_lt (by (with_reducible repeat (first | apply Kd.R_alloc | apply Kd.R_drewN | apply Kd.R_drew)); exact HO191.out)) k_ hn_)), Or.elim hk_ (fun hs_ => fun e_ => (((HO197.out).1 k_ e_.symm).2) hs_) (fun hn_ => (Kd.fresh' (Kd.R_lt (by (with_reducible repeat (first | apply Kd.R_alloc | apply Kd.R_drewN | apply Kd.R_drew)); exact HO197.out)) k_ hn_))⟩)); have n6_ := Aside0.mk (hb); clear HO_6; clear BK145; clear HO185; clear HO191; clear HO197; clear HB; clear HO204; have HO_6 := n0_; have BK145 := n1_; have HO185 := n2_; have HO191 := n3_; have HO197 := n4_; have HO207 := n5_; have HB := n6_; clear n0_ n1_ n2_ n3_ n4_ n5_ n6_; (try clear hb); (try clear hkp); (try clear ho0); obtain ⟨Ao93, co93, eo93⟩ := Kd.R_slice HO207.out; subst eo93) | ((with_reducible refine gate_builtin (b := .append) (xs := #[.tmp 118, .tmp 121]) rfl ?_); at_builtin; refine Kd.N_append (Kd.slice 5 (Kd.int .u8)) (w0 := w) w.heap.size rfl (.tmp 118) (.tmp 121) 45 22 (.slice none 0 0) 24 rfl Try.underlying45 info22 rfl (by decide) (by omega) (.slice Ao83 x6_3.length co83) x6_3 t205 [.slice Ao93 t205.length co93] (fun k_ => (w.heap.size ≤ k_) ∧ some k_ ≠ (.slice Ao78 t183.length co78 : Value).ownBlock ∧ some k_ ≠ (.slice Ao82 t189.length co82 : Value).ownBlock ∧ some k_ ≠ (.slice Ao86 t195.length co86 : Value).ownBlock ∧ k_ ≠ gb145) (fun k_ => ((fun k_ => (w.heap.size ≤ k_) ∧ some k_ ≠ (.slice Ao78 t183.length co78 : Value).ownBlock ∧ some k_ ≠ (.slice Ao82 t189.length co82 : Value).ownBlock ∧ some k_ ≠ (.slice Ao86 t195.length co86 : Value).ownBlock ∧ k_ ≠ gb145)) k_ ∧ some k_ ≠ (.slice Ao83 x6_3.length co83 : Value).ownBlock) rfl rfl ?aP (fun _ hk => hk) ?aF ?aO ?aB ?aS ?aL ?_; (case aP => exact (Kd.FK_slice_mk (Kd.R_reads' (Kd.R_mono (ok' := (fun k_ => ((fun k_ => (w.heap.size ≤ k_) ∧ some k_ ≠ (.slice Ao78 t183.length co78 : Value).ownBlock ∧ some k_ ≠ (.slice Ao82 t189.length co82 : Value).ownBlock ∧ some k_ ≠ (.slice Ao86 t195.length co86 : Value).ownBlock ∧ k_ ≠ gb145)) k_ ∧ some k_ ≠ (.slice Ao83 x6_3.length co83 : Value).ownBlock)) (Kd.R_types (Kd.R_apart' (HO207.out) (Kd.N_typed HO_6.out) (by decide)) BK145.out (by decide)) (fun k_ hk => ⟨⟨hk.1.1.1, ⟨hk.1.1.2.1, ⟨hk.1.1.2.2.1, ⟨hk.1.1.2.2.2, hk.2⟩⟩⟩⟩, hk.1.2⟩))).2.1 (Kd.R_F (Kd.R_mono (ok' := (fun k_ => ((fun k_ => (w.heap.size ≤ k_) ∧ some k_ ≠ (.slice Ao78 t183.length co78 : Value).ownBlock ∧ some k_ ≠ (.slice Ao82 t189.length co82 : Value).ownBlock ∧ some k_ ≠ (.slice Ao86 t195.length co86 : Value).ownBlock ∧ k_ ≠ gb145)) k_ ∧ some k_ ≠ (.slice Ao83 x6_3.length co83 : Value).ownBlock)) (Kd.R_types (Kd.R_apart' (HO207.out) (Kd.N_typed HO_6.out) (by decide)) BK145.out (by decide)) (fun k_ hk => ⟨⟨hk.1.1.1, ⟨hk.1.1.2.1, ⟨hk.1.1.2.2.1, ⟨hk.1.1.2.2.2, hk.2⟩⟩⟩⟩, hk.1.2⟩))))); (case aB => exact (by repeat (first | (with_reducible first | exact HB.out | apply below_alloc | apply pw_below_drewN | apply below_drew1 | refine below_set ?_ GE145.out) | exact HB.out))); (case aF => exact (fun k_ hk => ⟨(Nat.le_trans (below_size (by repeat (first | (with_reducible first | exact HB.out | apply below_alloc | apply pw_below_drewN | apply below_drew1 | refine below_set ?_ GE145.out) | exact HB.out))) hk), Kd.fresh' (Kd.R_lt (by (with_reducible repeat (first | apply Kd.R_alloc | apply Kd.R_drewN | apply Kd.R_drew)); exact HO185.out)) k_ hk, Kd.fresh' (Kd.R_lt (by (with_reducible repeat (first | apply Kd.R_alloc | apply Kd.R_drewN | apply Kd.R_drew)); exact HO191.out)) k_ hk, Kd.fresh' (Kd.R_lt (by (with_reducible repeat (first | apply Kd.R_alloc | apply Kd.R_drewN | apply Kd.R_drew)); exact HO197.out)) k_ hk, Kd.freshB (g := gb145) (o := .cells #[.int .u64 a0_0, .int .i64 a0_1, .int .i64 a0_2, .slice A0_3 l0_3.length c0_3] 28 (0, 0)) (by (with_reducible repeat (first | refine blk_drewN ?_ _ | refine blk_drew ?_ | refine blk_alloc ?_ _)); exact BK145.out) k_ hk⟩)); (case aO => exact (by (with_reducible repeat (first | apply Kd.N_alloc | apply Kd.N_drewN | apply Kd.N_drew)); exact Kd.N_mono HO_6.out (fun _ hk => ⟨hk.1, ⟨hk.2.1, ⟨hk.2.2.1, ⟨hk.2.2.2.1, hk.2.2.2.2.1⟩⟩⟩⟩))); (case aS => exact (below_size (by repeat (first | (with_reducible first | exact HB.out | apply below_alloc | apply pw_below_drewN | apply below_drew1 | refine below_set ?_ GE145.out) | exact HB.out)))); (case aL => have := LMc72.out; omega); intro v209 w92 ho hb hg hat; rw [← Ny208.out] at ho; have n0_ := Aside0.mk (blk_grown (g := gb145) (o := .cells #[.int .u64 a0_0, .int .i64 a0_1, .int .i64 a0_2, .slice A0_3 l0_3.length c0_3] 28 (0, 0)) (by (with_reducible repeat (first | refine blk_drewN ?_ _ | refine blk_drew ?_ | refine blk_alloc ?_ _)); exact BK145.out) hg (Kd.N_ne HO_6.out BK145.out (by decide))); have n1_ := Aside0.mk (Kd.R_over' (by (with_reducible repeat (first | apply Kd.R_alloc | apply Kd.R_drewN | apply Kd.R_drew)); exact HO185.out) (Kd.N_typed (by (with_reducible repeat (first | apply Kd.N_alloc | apply Kd.N_drewN | apply Kd.N_drew)); exact HO_6.out)) (by decide) hg); have n2_ := Aside0.mk (Kd.R_over' (by (with_reducible repeat (first | apply Kd.R_alloc | apply Kd.R_drewN | apply Kd.R_drew)); exact HO191.out) (Kd.N_typed (by (with_reducible repeat (first | apply Kd.N_alloc | apply Kd.N_drewN | apply Kd.N_drew)); exact HO_6.out)) (by decide) hg); have n3_ := Aside0.mk (Kd.R_over' (by (with_reducible repeat (first | apply Kd.R_alloc | apply Kd.R_drewN | apply Kd.R_drew)); exact HO197.out) (Kd.N_typed (by (with_reducible repeat (first | apply Kd.N_alloc | apply Kd.N_drewN | apply Kd.N_drew)); exact HO_6.out)) (by decide) hg); have n4_ := Aside0.mk (hb); have n5_ := Aside0.mk (ho); clear BK145; clear HO185; clear HO191; clear HO197; clear HB; clear HO_6; clear HO207; have BK145 := n0_; have HO185 := n1_; have HO191 := n2_; have HO197 := n3_; have HB := n4_; have HO210 := n5_; clear n0_ n1_ n2_ n3_ n4_ n5_; clear ho hb hg hat))
                                                      go_roundg kj56
                                                      case measure => have := HJ1.out; have := HJ22.out; have := HK3.out; have := HJ56.out; omega
                                                      case rel => exact ⟨(x7_56), (y208), (by first | rfl | (simp; done) | (simp [*]; done)), H', ⟨by have := HJ1.out; have := HJ22.out; have := HK3.out; have := HJ56.out; omega⟩, ⟨by (with_reducible repeat (first | apply Kd.N_alloc | apply Kd.N_drewN | apply Kd.N_drew)); exact Kd.N_mono HO210.out (fun _ hk => ⟨hk.1, hk.2.2.2.2⟩)⟩, ⟨by (with_reducible repeat (first | refine blk_drewN ?_ _ | refine blk_drew ?_ | refine blk_alloc ?_ _)); exact BK145.out⟩, ⟨by repeat (first | (with_reducible first | exact HB.out | apply below_alloc | apply pw_below_drewN | apply below_drew1 | refine below_set ?_ GE145.out) | exact HB.out)⟩⟩
                                                    · rw [if_neg c72] at H
                                                      exact absurd H (by simp)
                                                  · rw [if_neg c70] at H
                                                    exact absurd H (by simp)
                                                · rw [if_neg c69] at H
                                                  exact absurd H (by simp)
                                              · rw [if_neg c68] at H
                                                exact absurd H (by simp)
                                            · rw [if_neg c67] at H
                                              exact absurd H (by simp)
                                          · rw [if_neg c66] at H
                                            exact absurd H (by simp)
                                        · rw [if_neg c64] at H
                                          exact absurd H (by simp)
                                      · rw [if_neg c62] at H
                                        exact absurd H (by simp)
                                · rw [if_neg c56] at H
                                  have c56b0 : decide (x5_3 < (l0_3.length : Int)) = false := decide_eq_false c56
                                  clear c56
                                  simp only [Option.some.injEq, Prod.mk.injEq] at H
                                  obtain ⟨rfl, rfl⟩ := H
                                  have hcz94_0 : wr.cell? ⟨gb145, 0, none⟩ = some (.int .u64 a0_0) := (blk_cell BK145.out 0).trans rfl
                                  have hcz94_1 : wr.cell? ⟨gb145, 1, none⟩ = some (.int .i64 a0_1) := (blk_cell BK145.out 1).trans rfl
                                  have hcz94_2 : wr.cell? ⟨gb145, 2, none⟩ = some (.int .i64 a0_2) := (blk_cell BK145.out 2).trans rfl
                                  have hcz94_3 : wr.cell? ⟨gb145, 3, none⟩ = some (.slice A0_3 l0_3.length c0_3) := (blk_cell BK145.out 3).trans rfl
                                  have hfz94_0 := blk_frozen BK145.out 0
                                  have hfz94_1 := blk_frozen BK145.out 1
                                  have hfz94_2 := blk_frozen BK145.out 2
                                  have hfz94_3 := blk_frozen BK145.out 3
                                  go_wp2
                                  go_ret2
                                  exact ⟨_, by first | rfl | (simp [errW_none, errW_some] <;> rfl) | (simp [*, errW_none, errW_some] <;> rfl), by (with_reducible repeat (first | apply Kd.N_alloc | apply Kd.N_drewN | apply Kd.N_drew)); exact Kd.N_mono HO_6.out (fun _ hk => hk.1), by repeat (first | (with_reducible first | exact HB.out | apply below_alloc | apply pw_below_drewN | apply below_drew1 | refine below_set ?_ GE145.out) | exact HB.out)⟩
                          · rw [if_neg c46] at H
                            exact absurd H (by simp)
                        · rw [if_neg c45] at H
                          exact absurd H (by simp)
                      · rw [if_neg c44] at H
                        exact absurd H (by simp)
                · rw [if_neg c22] at H
                  exact absurd H (by simp)
              · rw [if_neg c20] at H
                exact absurd H (by simp)
            · rw [if_neg c19] at H
              exact absurd H (by simp)
          · rw [if_neg c17] at H
            exact absurd H (by simp)


end Go.Proofs.Ytekhmkfiepnnkaa.KCarveD

set_option linter.unusedVariables false
set_option linter.unusedSimpArgs false
namespace Go.Proofs.Ytekhmkfiepnnkaa
open Go.RowKit Go.Proofs.YtekhmkfiepnnkaaW.PrintWords Go.Proofs.YtekhmkfiepnnkaaW.PrintMore Go.Proofs.Ytekhmkfiepnnkaa.KCarveA Go.Proofs.Ytekhmkfiepnnkaa.KCarveD

theorem wr64_ {x : Int} (h1 : -9223372036854775808 ≤ x) (h2 : x ≤ 9223372036854775807) : wrap64 x = x := by
  unfold wrap64
  omega
theorem number_l (n : Int) (m : Nat) (hm : m ≤ 8) : ∀ (j k : Nat), j ≤ m → j < k → foundryref22_number.l0 k n ((be n m).take (m - j)) (8 * (j : Int) - 8) = some (be n m) := by
  intro j
  induction j with
  | zero =>
    intro k hj hk
    obtain ⟨k, rfl⟩ : ∃ q, k = q + 1 := ⟨k - 1, by omega⟩
    simp only [foundryref22_number.l0]
    rw [if_neg (by omega), List.take_of_length_le (by rw [be_length]; omega)]
  | succ j ih =>
    intro k hj hk
    obtain ⟨k, rfl⟩ : ∃ q, k = q + 1 := ⟨k - 1, by omega⟩
    simp only [foundryref22_number.l0]
    have e1 : 8 * ((j + 1 : Nat) : Int) - 8 = ((8 * j : Nat) : Int) := by omega
    have e2 : IntKind.u64.wrap ((8 * j : Nat) : Int) = ((8 * j : Nat) : Int) := by rw [wrap_u64_mod]; omega
    have e3 : shr .u64 n ((8 * j : Nat) : Int) = n / 2 ^ (8 * j) := by
      unfold shr
      rw [Int.toNat_natCast, Nat.min_eq_left (show 8 * j ≤ IntKind.u64.bits by show 8 * j ≤ 64; omega)]
    have e4 : wrap64 (((8 * j : Nat) : Int) - 8) = 8 * (j : Int) - 8 := by rw [wr64_ (by omega) (by omega)]; omega
    have e5 := be_take (n := n) (m := m) (j := j + 1) (by omega) hj
    rw [show 8 * (j + 1) - 8 = 8 * j from by omega, show m - (j + 1 - 1) = m - j from by omega] at e5
    rw [e1, if_pos (by omega), e2, if_pos (by omega), if_pos (by rw [List.length_take, be_length]; omega), e3, e4, e5]
    exact ih k (by omega) (by omega)
theorem number_f (n : Int) (m : Nat) (hm : m ≤ 8) {k : Nat} (hk : 8 < k) : foundryref22_number.f k n m = some (be n m) := by
  unfold foundryref22_number.f
  have h := number_l n m hm m k (Nat.le_refl _) (by omega)
  rw [Nat.sub_self, List.take_zero] at h
  rw [wr64_ (x := 8 * (m : Int)) (by omega) (by omega), wr64_ (x := 8 * (m : Int) - 8) (by omega) (by omega)]
  exact h
theorem filled_l : ∀ (d k : Nat) (xs : List Int), 64 - xs.length = d → xs.length ≤ 64 → d < k → foundryref22_filled.l0 k xs = some (fill xs) := by
  intro d
  induction d with
  | zero =>
    intro k xs hd hl hk
    obtain ⟨k, rfl⟩ : ∃ q, k = q + 1 := ⟨k - 1, by omega⟩
    simp only [foundryref22_filled.l0]
    rw [if_neg (by omega)]
    unfold fill
    rw [hd]; simp
  | succ d ih =>
    intro k xs hd hl hk
    obtain ⟨k, rfl⟩ : ∃ q, k = q + 1 := ⟨k - 1, by omega⟩
    simp only [foundryref22_filled.l0]
    rw [if_pos (by omega), if_pos (by omega), ih k (xs ++ [0]) (by simp; omega) (by simp; omega) (by omega)]
    unfold fill
    have e : 64 - xs.length = (64 - (xs ++ [0]).length) + 1 := by simp; omega
    rw [e, List.replicate_succ, List.append_assoc]
    rfl
theorem filled_f (xs : List Int) (h : xs.length ≤ 64) {k : Nat} (hk : 64 < k) : foundryref22_filled.f k xs = some (fill xs) := filled_l _ k xs rfl h (by omega)
/-- The blocks handed out. -/
def blkL (r : SR) : List (List Int) := if sealE r = 0 then (blkList r).map (·.2) else []
theorem head_fill (r : SR) : fill ((((([102, 104] ++ be r.gen 8) ++ be r.at_ 2) ++ [r.kind]) ++ be r.bytes.length 4) ++ r.bytes.take 47) = headB r := by
  rw [fill_pad (m := 47) (by simp [be_length]) (by rw [List.length_take]; omega)]
  unfold headB
  simp
theorem body_fill (r : SR) (i : Nat) : fill (((([102, 98] ++ be r.gen 8) ++ be r.at_ 2) ++ be ((i + 1 : Nat) : Int) 2) ++ (r.bytes.drop (47 + 50 * i)).take 50) = bodyB r (i + 1) := by
  rw [fill_pad (m := 50) (by simp [be_length]) (by rw [List.length_take]; omega)]
  unfold bodyB
  simp
/-- The list as far as i bodies. -/
def upB (r : SR) (i : Nat) : List (List Int) := headB r :: (List.range i).map fun j => bodyB r (j + 1)
theorem upB_len (r : SR) (i : Nat) : (upB r i).length = i + 1 := by simp [upB]
theorem upB_succ (r : SR) (i : Nat) : upB r i ++ [bodyB r (i + 1)] = upB r (i + 1) := by unfold upB; rw [List.range_succ, List.map_append]; simp
theorem upB_all (r : SR) : upB r (bodies r) = (blkList r).map (·.2) := by unfold upB blkList; simp
theorem blocks_l {r : SR} (hr : r.right) : ∀ (d i k : Nat), bodies r - i = d → i ≤ bodies r → 2 * d + 100 < k →
    foundryref22_Blocks.l0 k ((min r.bytes.length (47 + 50 * i) : Nat) : Int) (upB r i) r.gen r.at_ r.kind r.bytes = some (upB r (bodies r), 0) := by
  have hL := hr.l
  have hA := hr.a
  have hG := hr.g
  intro d
  induction d with
  | zero =>
    intro i k hd hi hk
    obtain ⟨k, rfl⟩ : ∃ q, k = q + 1 := ⟨k - 1, by omega⟩
    have hib : i = bodies r := by omega
    simp only [foundryref22_Blocks.l0]
    have hb : r.bytes.length ≤ 47 + 50 * i := by rw [hib]; unfold bodies; omega
    rw [if_neg (by omega), hib]
  | succ d ih =>
    intro i k hd hi hk
    obtain ⟨k, rfl⟩ : ∃ q, k = q + 2 := ⟨k - 2, by omega⟩
    have hlt : 47 + 50 * i < r.bytes.length := by
      have h1 : i < bodies r := by omega
      unfold bodies at h1; omega
    have hn : ((min r.bytes.length (47 + 50 * i) : Nat) : Int) = ((47 + 50 * i : Nat) : Int) := by omega
    have hj : foundryref22_Blocks.j3 (k + 1) ((47 + 50 * i : Nat) : Int) (upB r i) ((min r.bytes.length (47 + 50 * (i + 1)) : Nat) : Int) r.gen r.at_ r.kind r.bytes = some (upB r (bodies r), 0) := by
      have n1 := number_f r.gen 8 (by omega) (k := k) (by omega)
      have n2 := number_f r.at_ 2 (by omega) (k := k) (by omega)
      have n3 := number_f ((i + 1 : Nat) : Int) 2 (by omega) (k := k) (by omega)
      have u1 : IntKind.u64.wrap r.at_ = r.at_ := by rw [wrap_u64_mod]; omega
      have u2 : IntKind.u64.wrap (((upB r i).length : Nat) : Int) = ((i + 1 : Nat) : Int) := by rw [upB_len, wrap_u64_mod]; have := bodies_le hr; omega
      have e1 : ((8 : Nat) : Int) = 8 := rfl
      have e2 : ((2 : Nat) : Int) = 2 := rfl
      rw [e1] at n1
      rw [e2] at n2 n3
      have t1 : (r.bytes.take ((min r.bytes.length (47 + 50 * (i + 1)) : Nat) : Int).toNat).drop ((47 + 50 * i : Nat) : Int).toNat = (r.bytes.drop (47 + 50 * i)).take 50 := by
        rw [Int.toNat_natCast, Int.toNat_natCast, List.drop_take]
        rcases Nat.le_total r.bytes.length (47 + 50 * (i + 1)) with q | q
        · rw [Nat.min_eq_left q, List.take_of_length_le (by rw [List.length_drop]; omega), List.take_of_length_le (by rw [List.length_drop]; omega)]
        · rw [Nat.min_eq_right q, show 47 + 50 * (i + 1) - (47 + 50 * i) = 50 from by omega]
      have l0 : (r.bytes.drop (47 + 50 * i)).length ≤ 131072 := by rw [List.length_drop]; omega
      have f1 := filled_f (((([102, 98] ++ be r.gen 8) ++ be r.at_ 2) ++ be ((i + 1 : Nat) : Int) 2) ++ (r.bytes.drop (47 + 50 * i)).take 50) (by simp only [List.length_append, be_length, List.length_cons, List.length_nil, List.length_take]; omega) (k := k) (by omega)
      rw [body_fill] at f1
      simp only [foundryref22_Blocks.j3]
      rw [n1, u1, n2, u2, n3, t1]
      simp only [Option.bind_some]
      rw [if_pos (by simp only [List.length_append, be_length, List.length_cons, List.length_nil]; omega), if_pos (by simp only [List.length_append, be_length, List.length_cons, List.length_nil]; omega), if_pos (by simp only [List.length_append, be_length, List.length_cons, List.length_nil]; omega), if_pos (by omega), if_pos (by omega), if_pos (by omega),
        if_pos (by simp only [List.length_append, be_length, List.length_cons, List.length_nil, List.length_take]; omega), f1]
      simp only [Option.bind_some]
      rw [if_pos (by rw [upB_len]; have := bodies_le hr; omega), upB_succ]
      exact ih (i + 1) k (by omega) (by omega) (by omega)
    simp only [foundryref22_Blocks.l0]
    rw [hn, if_pos (by omega), wr64_ (by omega) (by omega)]
    by_cases hc : ((47 + 50 * i : Nat) : Int) + 50 > (r.bytes.length : Int)
    · rw [if_pos hc]
      have : ((min r.bytes.length (47 + 50 * (i + 1)) : Nat) : Int) = (r.bytes.length : Int) := by omega
      rw [this] at hj
      exact hj
    · rw [if_neg hc]
      have : ((min r.bytes.length (47 + 50 * (i + 1)) : Nat) : Int) = ((47 + 50 * i : Nat) : Int) + 50 := by omega
      rw [this] at hj
      exact hj
theorem blocks_j {r : SR} (hr : r.right) {k : Nat} (hk : 200000 < k) : foundryref22_Blocks.j0 k false r.gen r.at_ r.kind r.bytes = some (upB r (bodies r), 0) := by
  have hL := hr.l
  have hA := hr.a
  have hG := hr.g
  have hK := hr.k
  have hB := bodies_le hr
  obtain ⟨k, rfl⟩ : ∃ q, k = q + 2 := ⟨k - 2, by omega⟩
  have hj : ∀ n : Nat, n = min r.bytes.length 47 → foundryref22_Blocks.j1 (k + 1) (((([102, 104] ++ be r.gen 8) ++ be r.at_ 2) ++ [r.kind]) ++ be r.bytes.length 4) (n : Int) r.gen r.at_ r.kind r.bytes = some (upB r (bodies r), 0) := by
    intro n hn
    simp only [foundryref22_Blocks.j1]
    have t1 : r.bytes.take ((n : Nat) : Int).toNat = r.bytes.take 47 := by
      rw [Int.toNat_natCast, hn]
      rcases Nat.le_total r.bytes.length 47 with q | q
      · rw [Nat.min_eq_left q, List.take_of_length_le (Nat.le_refl _), List.take_of_length_le q]
      · rw [Nat.min_eq_right q]
    have f1 := filled_f ((((([102, 104] ++ be r.gen 8) ++ be r.at_ 2) ++ [r.kind]) ++ be r.bytes.length 4) ++ r.bytes.take 47) (by simp only [List.length_append, be_length, List.length_cons, List.length_nil, List.length_take]; omega) (k := k) (by omega)
    rw [head_fill] at f1
    rw [t1, if_pos (by omega), if_pos (by omega), if_pos (by simp only [List.length_append, be_length, List.length_cons, List.length_nil, List.length_take]; omega), f1]
    simp only [Option.bind_some]
    have := blocks_l hr (bodies r) 0 k (by omega) (by omega) (by omega)
    rw [show ((min r.bytes.length (47 + 50 * 0) : Nat) : Int) = (n : Int) from by rw [hn], show upB r 0 = [headB r] from rfl] at this
    exact this
  have n1 := number_f r.gen 8 (by omega) (k := k + 1) (by omega)
  have n2 := number_f r.at_ 2 (by omega) (k := k + 1) (by omega)
  have n3 := number_f (r.bytes.length : Int) 4 (by omega) (k := k + 1) (by omega)
  have u1 : IntKind.u64.wrap r.at_ = r.at_ := by rw [wrap_u64_mod]; omega
  have u2 : IntKind.u64.wrap (r.bytes.length : Int) = (r.bytes.length : Int) := by rw [wrap_u64_mod]; omega
  have u3 : r.kind % 256 = r.kind := by omega
  have e1 : ((8 : Nat) : Int) = 8 := rfl
  have e2 : ((2 : Nat) : Int) = 2 := rfl
  have e3 : ((4 : Nat) : Int) = 4 := rfl
  rw [e1] at n1
  rw [e2] at n2
  rw [e3] at n3
  simp only [foundryref22_Blocks.j0]
  rw [if_neg (by simp), if_neg (by omega), n1, u1, n2, u2, n3, u3]
  simp only [Option.bind_some]
  rw [if_pos (by simp only [List.length_append, be_length, List.length_cons, List.length_nil]; omega), if_pos (by simp only [List.length_append, be_length, List.length_cons, List.length_nil]; omega), if_pos (by simp only [List.length_append, be_length, List.length_cons, List.length_nil]; omega), if_pos (by simp only [List.length_append, be_length, List.length_cons, List.length_nil]; omega)]
  by_cases hc : (r.bytes.length : Int) < 47
  · rw [if_pos hc]
    exact hj r.bytes.length (by omega)
  · rw [if_neg hc]
    exact hj 47 (by omega)
theorem blocks_f {r : SR} (hg : 0 ≤ r.gen ∧ r.gen < 18446744073709551616) (hb : Bytes r.bytes) {k : Nat} (hk : 200000 < k) : foundryref22_Blocks.f k r.gen r.at_ r.kind r.bytes = some (blkL r, sealE r) := by
  obtain ⟨k, rfl⟩ : ∃ q, k = q + 1 := ⟨k - 1, by omega⟩
  have ht : ¬ sealE r = 0 → r.gen = 0 ∨ r.at_ < 0 ∨ 65535 < r.at_ ∨ r.kind < 0 ∨ 255 < r.kind → some (([] : List (List Int)), (1 : Int)) = some (blkL r, sealE r) := fun h1 h2 => by
    unfold blkL
    rw [if_neg h1]
    unfold sealE
    rw [if_pos h2]
  have hx : r.gen = 0 ∨ r.at_ < 0 ∨ 65535 < r.at_ ∨ r.kind < 0 ∨ 255 < r.kind → ¬ sealE r = 0 := fun h => by unfold sealE; rw [if_pos h]; decide
  have hj1 : foundryref22_Blocks.j0 (k + 1) true r.gen r.at_ r.kind r.bytes = some ([], 1) := by simp only [foundryref22_Blocks.j0]; rw [if_pos trivial]
  unfold foundryref22_Blocks.f
  by_cases c1 : r.gen = 0
  · rw [if_pos c1, hj1]; exact ht (hx (.inl c1)) (.inl c1)
  rw [if_neg c1]
  by_cases c2 : r.at_ < 0
  · rw [if_pos c2, hj1]; exact ht (hx (.inr (.inl c2))) (.inr (.inl c2))
  rw [if_neg c2]
  by_cases c3 : r.at_ > 65535
  · rw [if_pos c3, hj1]; exact ht (hx (by omega)) (by omega)
  rw [if_neg c3]
  by_cases c4 : r.kind < 0
  · rw [if_pos c4, hj1]; exact ht (hx (by omega)) (by omega)
  rw [if_neg c4]
  by_cases c5 : r.kind > 255
  · rw [decide_eq_true c5, hj1]; exact ht (hx (by omega)) (by omega)
  rw [decide_eq_false c5]
  by_cases c6 : (r.bytes.length : Int) > 131072
  · have he : sealE r = 3 := by unfold sealE; rw [if_neg (by omega), if_pos (by omega)]
    simp only [foundryref22_Blocks.j0]
    rw [if_neg (by simp), if_pos c6]
    unfold blkL
    rw [he, if_neg (by decide)]
  · have he : sealE r = 0 := by unfold sealE; rw [if_neg (by omega), if_neg (by omega)]
    rw [blocks_j (right_of he hg hb) (by omega), upB_all]
    unfold blkL
    rw [if_pos he, he]
theorem rblocks_any {w : World} {A : Option Addr} {c : Nat} (r : SR) (hC : KB.C w A r.bytes.length r.bytes) (hc : r.bytes.length ≤ c) (hg : 0 ≤ r.gen ∧ r.gen < 18446744073709551616) (hb : Bytes r.bytes) :
    Calls Try.prog 25 #[recV r A c] w fun e w' => ∃ v, e = .returned (.tuple #[v, .int .i64 (sealE r)]) ∧ Kd.N (Kd.slice 5 KB) 22 w' w.heap.size (fun k => w.heap.size ≤ k) v (blkL r) ∧ Below w.heap.size w w' :=
  foundryref22_Blocks.calls 200001 r.gen r.at_ r.kind A c r.bytes (blkL r) (sealE r) w hC hc (blocks_f hg hb (by omega))
end Go.Proofs.Ytekhmkfiepnnkaa

set_option linter.unusedVariables false
set_option linter.unusedSimpArgs false
namespace Go.Proofs.Ytekhmkfiepnnkaa
open Go.RowKit Go.Proofs.YtekhmkfiepnnkaaW.PrintWords Go.Proofs.YtekhmkfiepnnkaaW.PrintMore

/-- One of the rows that Blocks hands out. -/
theorem N_row {w : World} {base c n : Nat} {ok : Nat → Prop} {A : Option Addr} {l : List (List Int)} (h : Kd.N (Kd.slice 5 KB) 22 w base ok (.slice A n c) l) {i : Nat} {xs : List Int} (hi : l[i]? = some xs) :
    ∃ g A' c', A = some ⟨g, 0, none⟩ ∧ w.cell? ⟨g, i, none⟩ = some (.slice A' xs.length c') ∧ xs.length ≤ c' ∧ RB w ok A' xs ∧ ok g := by
  have hl := (List.getElem?_eq_some_iff.1 hi).1
  have hn := (Kd.N_reads' h).1
  obtain ⟨g, cap, hv, _⟩ := Kd.N_form h (by omega)
  injection hv with e1 e2 e3
  subst e1
  obtain ⟨cs, hcl, hK, hcc, _⟩ := Kd.N_elem h [] (i : Int) (by omega) (by omega)
  simp only [Int.toNat_natCast] at hK hcc
  have hget : l.getD i [] = xs := by simp [List.getD_eq_getElem?_getD, hi]
  rw [hget] at hK
  obtain ⟨A', c', rfl, hle, hF⟩ := Kd.FK_slice_open hK
  have h2 := hcc 0 _ rfl
  have hsz : (Kd.slice 5 KB).sz = 1 := rfl
  rw [hsz, Nat.mul_one] at h2
  exact ⟨g, A', c', rfl, by simpa using h2, hle, Kd.F_mono hF (fun k hk => hk.1), h.1 g rfl⟩
theorem rwerr_any {w : World} {okd okr : Nat → Prop} {D : DM} {A : Option Addr} {c : Nat} (p : Nat) (base : Int) (r : SR) (_h : RDisk w okd p D) (hF : RB w okr A r.bytes) (hl : r.bytes.length ≤ c)
    (hb : Bytes r.bytes) (hg : 0 ≤ r.gen ∧ r.gen < 18446744073709551616) (he : ¬ sealE r = 0) :
  Calls Try.prog 70 #[.pointer (some ⟨p, 0, none⟩), .int .i64 base, recV r A c] w fun e w' => e = .returned (.int .i64 (sealE r)) ∧ Below w.heap.size w w' := by
  have hb0 := below_alloc (Below.refl w.heap.size w) (.cells #[.int .u64 r.gen, .int .i64 r.at_, .int .i64 r.kind, .slice A r.bytes.length c] 28)
  have hc := rblocks_any r (Kd.C_below (Kd.F_now hF) hb0) hl hg hb
  unfold recV at hc ⊢
  have he2 : (sealE r != 0) = true := by simpa using he
  generalize sealE r = E at hc he2 ⊢
  clear he
  go_enter Try.func70, Try.ntmps70
  go_wp2_with fail
  refine hc.mono ?_
  rintro e w1 ⟨v, rfl, _, b1⟩
  have hB := hb0.trans (b1.mono hb0.size)
  clear hc b1 hb0
  go_wp2
  go_ret
  exact ⟨rfl, hB⟩
theorem puts_one (b0 : Int) (D : DM) (x : Int × List Int) : puts b0 D [x] = (D.writeD (b0 + x.1) x.2, D.writeE (b0 + x.1) x.2) := by
  simp only [puts]
  split
  · rename_i h; rw [h]
  · rfl
theorem bodyL_succ (r : SR) (m : Nat) : bodyL r (m + 1) = bodyL r m ++ [((m : Int) + 1, bodyB r (m + 1))] := by unfold bodyL; rw [List.range_succ, List.map_append]; rfl
theorem bodyL_len (r : SR) (m : Nat) : (bodyL r m).length = m := by simp [bodyL]
/-- Writes so far, the disk and the error. -/
def putK (D : DM) (b0 : Int) (r : SR) (m : Nat) : DM × Int := puts b0 D (bodyL r m)
theorem putK_succ (D : DM) (b0 : Int) (r : SR) (m : Nat) (h : (putK D b0 r m).2 = 0) : putK D b0 r (m + 1) = ((putK D b0 r m).1.writeD (b0 + ((m : Int) + 1)) (bodyB r (m + 1)), (putK D b0 r m).1.writeE (b0 + ((m : Int) + 1)) (bodyB r (m + 1))) := by
  unfold putK at *
  rw [bodyL_succ, puts_append, if_pos h, puts_one]
theorem putK_stop (D : DM) (b0 : Int) (r : SR) {m : Nat} (hm : m ≤ bodies r) (h : ¬ (putK D b0 r m).2 = 0) : puts b0 D (order r) = putK D b0 r m := by
  have e : order r = bodyL r m ++ (order r).drop m := by rw [← order_take r hm, List.take_append_drop]
  rw [e, puts_append]
  unfold putK at *
  rw [if_neg h]
theorem putK_all (D : DM) (b0 : Int) (r : SR) (h : (putK D b0 r (bodies r)).2 = 0) : puts b0 D (order r) = ((putK D b0 r (bodies r)).1.writeD b0 (headB r), (putK D b0 r (bodies r)).1.writeE b0 (headB r)) := by
  have e : order r = bodyL r (bodies r) ++ [(0, headB r)] := rfl
  rw [e, puts_append]
  unfold putK at *
  rw [if_pos h, puts_one, Int.add_zero]
theorem puts_ws (b0 : Int) : ∀ (l : List (Int × List Int)) (D : DM), (puts b0 D l).1.ws.length ≤ D.ws.length + l.length
  | [], D => by simp [puts]
  | x :: l, D => by
    have hw : (D.writeD (b0 + x.1) x.2).ws.length ≤ D.ws.length + 1 := by
      unfold DM.writeD
      split
      · omega
      · split
        · omega
        · split
          · exact Nat.le_succ _
          · simp
    simp only [puts]
    split
    · have := puts_ws b0 l (D.writeD (b0 + x.1) x.2)
      simp only [List.length_cons]; omega
    · simp only [List.length_cons]; omega
theorem upB_get0 (r : SR) (n : Nat) : (upB r n)[0]? = some (headB r) := rfl
theorem upB_get (r : SR) {n i : Nat} (hi : i < n) : (upB r n)[i + 1]? = some (bodyB r (i + 1)) := by simp [upB, hi]
set_option maxRecDepth 100000 in
set_option maxHeartbeats 4000000 in
theorem rwrite22_any {w : World} {okd okr : Nat → Prop} {D : DM} {A : Option Addr} {c : Nat} (p : Nat) (base : Int) (r : SR) (h : RDisk w okd p D) (hF : RB w okr A r.bytes) (hl : r.bytes.length ≤ c)
    (hb : Bytes r.bytes) (hg : 0 ≤ r.gen ∧ r.gen < 18446744073709551616) (hb9 : -9223372036854775808 ≤ base ∧ base ≤ 9223372036854775807) (hm : (D.ws.length + 65537) * 32 ≤ 140737488355328) :
  Calls Try.prog 70 #[.pointer (some ⟨p, 0, none⟩), .int .i64 base, recV r A c] w fun e w' => e = .returned (.int .i64 (D.sealW base r).2) ∧ RDisk w' (orNew okd w) p (D.sealW base r).1 ∧ Chg okd w w' := by
  unfold DM.sealW
  by_cases he : sealE r = 0
  case neg =>
    rw [if_pos he]
    refine (rwerr_any p base r h hF hl hb hg he).mono ?_
    rintro e w' ⟨rfl, hB⟩
    exact ⟨rfl, (h.bound.step (fun k hk hlt => hB.block k hlt)).mono (fun k hk => .inl hk.1), Chg.of_below hB _⟩
  rw [if_neg (by simp [he])]
  have hr := right_of he hg hb
  have hnd := need_bodies hr.l
  have hbl := bodies_le hr
  have hat := hr.a
  have hnn := h.1.hi
  rw [hnd]
  have hb0 := below_alloc (Below.refl w.heap.size w) (.cells #[.int .u64 r.gen, .int .i64 r.at_, .int .i64 r.kind, .slice A r.bytes.length c] 28)
  have hn0 := heap_alloc_new w (.cells #[.int .u64 r.gen, .int .i64 r.at_, .int .i64 r.kind, .slice A r.bytes.length c] 28)
  have hc := rblocks_any r (Kd.C_below (Kd.F_now hF) hb0) hl hg hb
  have hbL : blkL r = upB r (bodies r) := by unfold blkL; rw [if_pos he, upB_all]
  rw [hbL, he] at hc
  have hlen := upB_len r (bodies r)
  have hg0 := upB_get0 r (bodies r)
  have hgk := fun i (hi : i < bodies r) => upB_get r hi
  unfold recV at hc ⊢
  generalize upB r (bodies r) = L at hc hlen hg0 hgk
  have HL := hid (And.intro hlen (And.intro hg0 hgk))
  clear hlen hg0 hgk hbL hnd
  obtain ⟨BN, hBN⟩ : ∃ BN, bodies r = BN := ⟨_, rfl⟩
  have HBN := hid hBN
  have hsw : sealE r = 0 := he
  rw [hBN] at hbl ⊢
  obtain ⟨X, hX⟩ : ∃ X, (if base < 0 ∨ (D.n : Int) < base ∨ (D.n : Int) - base < r.at_ + ((BN : Int) + 1) then (D, (60 : Int)) else puts (base + r.at_) D (order r)) = X := ⟨_, rfl⟩
  rw [hX]
  have HX := hid hX
  clear hX hBN he hsw
  go_enter Try.func70, Try.ntmps70
  go_wp2_with fail
  generalize w.alloc (.cells #[.int .u64 r.gen, .int .i64 r.at_, .int .i64 r.kind, .slice A r.bytes.length c] 28) = w0 at hb0 hn0 hc ⊢
  refine hc.mono ?_
  rintro e w6 ⟨v6, rfl, hN6, b6⟩
  have hwb6 : Below w.heap.size w w6 := hb0.trans (b6.mono hb0.size)
  have hR6 := h.bound.step (w1 := w6) (fun k _ hk => hwb6.block k hk)
  have hn6 := (b6.block _ (blk_lt hn0)).trans hn0
  obtain ⟨A6, c6, rfl⟩ := Kd.N_slice hN6
  have hN6b := Kd.N_bound hN6
  have hws0 : w.heap.size < w0.heap.size := blk_lt hn0
  have hs06 := b6.size
  clear hc hN6 b6 hn0 hb0 h hF
  have k1 : w6.cell? ⟨w.heap.size, 1, none⟩ = some (.int .i64 r.at_) := by have := cell_of_row _ _ 1 _ _ _ hn6; simpa using this
  have hbk := rdblocks_any (w := w6.drew) (hR6.step (fun _ _ _ => rfl))
  have HLL := hid (show L.length = BN + 1 by rw [HL.out.1, HBN.out])
  have hL9 : L.length ≤ 65535 := by have := HLL.out; omega
  have hfin0 : RDisk w6 (orNew okd w) p D ∧ Chg okd w w6 := ⟨hR6.mono (fun k hk => .inl hk.1), Chg.of_below hwb6 _⟩
  have HF0 := hid hfin0
  have HFN := hid (show ∀ (W : World) (D1 : DM), RDisk W (orNew (fun k => okd k ∧ k < w.heap.size) w6) p D1 → Chg (fun k => okd k ∧ k < w.heap.size) w6 W → RDisk W (orNew okd w) p D1 ∧ Chg okd w W from fun W D1 h1 h2 =>
    ⟨h1.mono (fun k hk => hk.elim (fun h => .inl h.1) (fun h => .inr (Nat.le_trans hwb6.size h))), (Chg.of_below hwb6 okd).then_ h2 (fun k hk => .inl hk.1)⟩)
  have HK := hid (And.intro hR6 (And.intro hn6 (And.intro hN6b hwb6)))
  clear hR6 hn6 hN6b hwb6 hfin0
  obtain ⟨nD, hnD⟩ : ∃ nD, D.n = nD := ⟨_, rfl⟩
  rw [hnD] at hbk hnn
  have HD := hid hnD
  clear hnD
  by_cases x1 : base < 0
  · go_wp2_with fail
    refine wp_region_plan [] (.take 0 (.take 1 (.take 2 (.take 3 (.take 4 (.run 5 (.take 6 (.take 7 (.take 8 (.take 9 (.take 10 (.take 11 (.take 12 (.take 13 (.take 14 (.take 15 (.take 16 (.run 17 (.take 18 (.take 19 .done)))))))))))))))))))) (fun w' => w'.cell? ⟨w.heap.size, 1, none⟩ = some (.int .i64 r.at_)) (by kernel_rfl) (by kernel_rfl) (fun c a d v w h => by cases d <;> exact h) k1 ?_
    ((first | (apply plan_take rfl rfl; (case hy => (intro w' hS; have s1 := hS; clear hS; go_simp; try exact rfl))) | refine plan_skip rfl rfl ?_); go_simp); ((first | (apply plan_take rfl rfl; (case hy => (intro w' hS; have s1 := hS; clear hS; go_simp; try exact rfl))) | refine plan_skip rfl rfl ?_); go_simp); ((first | (apply plan_take rfl rfl; (case hy => (intro w' hS; have s1 := hS; clear hS; go_simp; try exact rfl))) | refine plan_skip rfl rfl ?_); go_simp); ((first | (apply plan_take rfl rfl; (case hy => (intro w' hS; have s1 := hS; clear hS; go_simp; try exact rfl))) | refine plan_skip rfl rfl ?_); go_simp); ((first | (apply plan_take rfl rfl; (case hy => (intro w' hS; have s1 := hS; clear hS; go_simp; try exact rfl))) | refine plan_skip rfl rfl ?_); go_simp)
    refine plan_run_off rfl rfl k1 ?_
    go_simp
    ((first | (apply plan_take rfl rfl; (case hy => (intro w' hS; have s1 := hS; clear hS; go_simp; try exact rfl))) | refine plan_skip rfl rfl ?_); go_simp); ((first | (apply plan_take rfl rfl; (case hy => (intro w' hS; have s1 := hS; clear hS; go_simp; try exact rfl))) | refine plan_skip rfl rfl ?_); go_simp); ((first | (apply plan_take rfl rfl; (case hy => (intro w' hS; have s1 := hS; clear hS; go_simp; try exact rfl))) | refine plan_skip rfl rfl ?_); go_simp); ((first | (apply plan_take rfl rfl; (case hy => (intro w' hS; have s1 := hS; clear hS; go_simp; try exact rfl))) | refine plan_skip rfl rfl ?_); go_simp); ((first | (apply plan_take rfl rfl; (case hy => (intro w' hS; have s1 := hS; clear hS; go_simp; try exact rfl))) | refine plan_skip rfl rfl ?_); go_simp); ((first | (apply plan_take rfl rfl; (case hy => (intro w' hS; have s1 := hS; clear hS; go_simp; try exact rfl))) | refine plan_skip rfl rfl ?_); go_simp); ((first | (apply plan_take rfl rfl; (case hy => (intro w' hS; have s1 := hS; clear hS; go_simp; try exact rfl))) | refine plan_skip rfl rfl ?_); go_simp); ((first | (apply plan_take rfl rfl; (case hy => (intro w' hS; have s1 := hS; clear hS; go_simp; try exact rfl))) | refine plan_skip rfl rfl ?_); go_simp); ((first | (apply plan_take rfl rfl; (case hy => (intro w' hS; have s1 := hS; clear hS; go_simp; try exact rfl))) | refine plan_skip rfl rfl ?_); go_simp); ((first | (apply plan_take rfl rfl; (case hy => (intro w' hS; have s1 := hS; clear hS; go_simp; try exact rfl))) | refine plan_skip rfl rfl ?_); go_simp); ((first | (apply plan_take rfl rfl; (case hy => (intro w' hS; have s1 := hS; clear hS; go_simp; try exact rfl))) | refine plan_skip rfl rfl ?_); go_simp)
    refine plan_run_off rfl rfl k1 ?_
    go_simp
    ((first | (apply plan_take rfl rfl; (case hy => (intro w' hS; have s1 := hS; clear hS; go_simp; try exact rfl))) | refine plan_skip rfl rfl ?_); go_simp); ((first | (apply plan_take rfl rfl; (case hy => (intro w' hS; have s1 := hS; clear hS; go_simp; try exact rfl))) | refine plan_skip rfl rfl ?_); go_simp)
    refine plan_done ?_
    go_wp2
    go_ret
    have hx := HX.out
    rw [if_pos (.inl x1)] at hx
    rw [← hx]
    exact ⟨rfl, HF0.out.1.step (fun _ _ _ => rfl), HF0.out.2.drew⟩
  · have x1b : decide (base < 0) = false := decide_eq_false x1
    by_cases x2 : (nD : Int) < base
    · go_wp2_with fail
      refine wp_region_plan [] (.take 0 (.take 1 (.take 2 (.take 3 (.take 4 (.run 5 (.take 6 (.take 7 (.take 8 (.take 9 (.take 10 (.take 11 (.take 12 (.take 13 (.take 14 (.take 15 (.take 16 (.run 17 (.take 18 (.take 19 .done)))))))))))))))))))) (fun w' => w'.cell? ⟨w.heap.size, 1, none⟩ = some (.int .i64 r.at_)) (by kernel_rfl) (by kernel_rfl) (fun c a d v w h => by cases d <;> exact h) k1 ?_
      ((first | (apply plan_take rfl rfl; (case hy => (intro w' hS; have s1 := hS; clear hS; go_simp; try exact rfl))) | refine plan_skip rfl rfl ?_); go_simp); ((first | (apply plan_take rfl rfl; (case hy => (intro w' hS; have s1 := hS; clear hS; go_simp; try exact rfl))) | refine plan_skip rfl rfl ?_); go_simp); ((first | (apply plan_take rfl rfl; (case hy => (intro w' hS; have s1 := hS; clear hS; go_simp; try exact rfl))) | refine plan_skip rfl rfl ?_); go_simp); ((first | (apply plan_take rfl rfl; (case hy => (intro w' hS; have s1 := hS; clear hS; go_simp; try exact rfl))) | refine plan_skip rfl rfl ?_); go_simp); ((first | (apply plan_take rfl rfl; (case hy => (intro w' hS; have s1 := hS; clear hS; go_simp; try exact rfl))) | refine plan_skip rfl rfl ?_); go_simp)
      refine plan_run_on rfl rfl (fun K hK => ?_)
      go_simp
      refine hbk.mono ?_
      rintro e w' ⟨rfl, rfl⟩
      refine hK _ _ _ (fun _ h => h) k1 ?_
      clear hK K
      go_simp
      ((first | (apply plan_take rfl rfl; (case hy => (intro w' hS; have s1 := hS; clear hS; go_simp; try exact rfl))) | refine plan_skip rfl rfl ?_); go_simp); ((first | (apply plan_take rfl rfl; (case hy => (intro w' hS; have s1 := hS; clear hS; go_simp; try exact rfl))) | refine plan_skip rfl rfl ?_); go_simp); ((first | (apply plan_take rfl rfl; (case hy => (intro w' hS; have s1 := hS; clear hS; go_simp; try exact rfl))) | refine plan_skip rfl rfl ?_); go_simp); ((first | (apply plan_take rfl rfl; (case hy => (intro w' hS; have s1 := hS; clear hS; go_simp; try exact rfl))) | refine plan_skip rfl rfl ?_); go_simp); ((first | (apply plan_take rfl rfl; (case hy => (intro w' hS; have s1 := hS; clear hS; go_simp; try exact rfl))) | refine plan_skip rfl rfl ?_); go_simp); ((first | (apply plan_take rfl rfl; (case hy => (intro w' hS; have s1 := hS; clear hS; go_simp; try exact rfl))) | refine plan_skip rfl rfl ?_); go_simp); ((first | (apply plan_take rfl rfl; (case hy => (intro w' hS; have s1 := hS; clear hS; go_simp; try exact rfl))) | refine plan_skip rfl rfl ?_); go_simp); ((first | (apply plan_take rfl rfl; (case hy => (intro w' hS; have s1 := hS; clear hS; go_simp; try exact rfl))) | refine plan_skip rfl rfl ?_); go_simp); ((first | (apply plan_take rfl rfl; (case hy => (intro w' hS; have s1 := hS; clear hS; go_simp; try exact rfl))) | refine plan_skip rfl rfl ?_); go_simp); ((first | (apply plan_take rfl rfl; (case hy => (intro w' hS; have s1 := hS; clear hS; go_simp; try exact rfl))) | refine plan_skip rfl rfl ?_); go_simp); ((first | (apply plan_take rfl rfl; (case hy => (intro w' hS; have s1 := hS; clear hS; go_simp; try exact rfl))) | refine plan_skip rfl rfl ?_); go_simp)
      refine plan_run_off rfl rfl k1 ?_
      go_simp
      ((first | (apply plan_take rfl rfl; (case hy => (intro w' hS; have s1 := hS; clear hS; go_simp; try exact rfl))) | refine plan_skip rfl rfl ?_); go_simp); ((first | (apply plan_take rfl rfl; (case hy => (intro w' hS; have s1 := hS; clear hS; go_simp; try exact rfl))) | refine plan_skip rfl rfl ?_); go_simp)
      refine plan_done ?_
      go_wp2
      go_ret
      have hx := HX.out
      rw [HD.out, if_pos (.inr (.inl x2))] at hx
      rw [← hx]
      exact ⟨rfl, HF0.out.1.step (fun _ _ _ => rfl), HF0.out.2.drew⟩
    · have x2b : decide ((nD : Int) < base) = false := decide_eq_false x2
      obtain ⟨b0, hb0⟩ : ∃ b0, base + r.at_ = b0 := ⟨_, rfl⟩
      have hw1 : IntKind.i64.wrap (base + r.at_) = b0 := by rw [IntKind.wrap_i64]; omega
      have hw2 : IntKind.i64.wrap (b0 + (L.length : Int)) = b0 + (L.length : Int) := by rw [IntKind.wrap_i64]; omega
      have HB0 := hid hb0
      clear hb0
      by_cases x3 : (nD : Int) < b0 + (L.length : Int)
      · go_wp2_with fail
        refine wp_region_plan [] (.take 0 (.take 1 (.take 2 (.take 3 (.take 4 (.run 5 (.take 6 (.take 7 (.take 8 (.take 9 (.take 10 (.take 11 (.take 12 (.take 13 (.take 14 (.take 15 (.take 16 (.run 17 (.take 18 (.take 19 .done)))))))))))))))))))) (fun w' => w'.cell? ⟨w.heap.size, 1, none⟩ = some (.int .i64 r.at_)) (by kernel_rfl) (by kernel_rfl) (fun c a d v w h => by cases d <;> exact h) k1 ?_
        ((first | (apply plan_take rfl rfl; (case hy => (intro w' hS; have s1 := hS; clear hS; go_simp; try exact rfl))) | refine plan_skip rfl rfl ?_); go_simp); ((first | (apply plan_take rfl rfl; (case hy => (intro w' hS; have s1 := hS; clear hS; go_simp; try exact rfl))) | refine plan_skip rfl rfl ?_); go_simp); ((first | (apply plan_take rfl rfl; (case hy => (intro w' hS; have s1 := hS; clear hS; go_simp; try exact rfl))) | refine plan_skip rfl rfl ?_); go_simp); ((first | (apply plan_take rfl rfl; (case hy => (intro w' hS; have s1 := hS; clear hS; go_simp; try exact rfl))) | refine plan_skip rfl rfl ?_); go_simp); ((first | (apply plan_take rfl rfl; (case hy => (intro w' hS; have s1 := hS; clear hS; go_simp; try exact rfl))) | refine plan_skip rfl rfl ?_); go_simp)
        refine plan_run_on rfl rfl (fun K hK => ?_)
        go_simp
        refine hbk.mono ?_
        rintro e w' ⟨rfl, rfl⟩
        refine hK _ _ _ (fun _ h => h) k1 ?_
        clear hK K
        go_simp
        ((first | (apply plan_take rfl rfl; (case hy => (intro w' hS; have s1 := hS; clear hS; go_simp; try exact rfl))) | refine plan_skip rfl rfl ?_); go_simp); ((first | (apply plan_take rfl rfl; (case hy => (intro w' hS; have s1 := hS; clear hS; go_simp; try exact rfl))) | refine plan_skip rfl rfl ?_); go_simp); ((first | (apply plan_take rfl rfl; (case hy => (intro w' hS; have s1 := hS; clear hS; go_simp; try exact rfl))) | refine plan_skip rfl rfl ?_); go_simp); ((first | (apply plan_take rfl rfl; (case hy => (intro w' hS; have s1 := hS; clear hS; go_simp; try exact rfl))) | refine plan_skip rfl rfl ?_); go_simp); ((first | (apply plan_take rfl rfl; (case hy => (intro w' hS; have s1 := hS; clear hS; go_simp; try exact rfl))) | refine plan_skip rfl rfl ?_); go_simp); ((first | (apply plan_take rfl rfl; (case hy => (intro w' hS; have s1 := hS; clear hS; go_simp; try exact rfl))) | refine plan_skip rfl rfl ?_); go_simp); ((first | (apply plan_take rfl rfl; (case hy => (intro w' hS; have s1 := hS; clear hS; go_simp; try exact rfl))) | refine plan_skip rfl rfl ?_); go_simp); ((first | (apply plan_take rfl rfl; (case hy => (intro w' hS; have s1 := hS; clear hS; go_simp; try exact rfl))) | refine plan_skip rfl rfl ?_); go_simp); ((first | (apply plan_take rfl rfl; (case hy => (intro w' hS; have s1 := hS; clear hS; go_simp; try exact rfl))) | refine plan_skip rfl rfl ?_); go_simp); ((first | (apply plan_take rfl rfl; (case hy => (intro w' hS; have s1 := hS; clear hS; go_simp; try exact rfl))) | refine plan_skip rfl rfl ?_); go_simp); ((first | (apply plan_take rfl rfl; (case hy => (intro w' hS; have s1 := hS; clear hS; go_simp; try exact rfl))) | refine plan_skip rfl rfl ?_); go_simp)
        refine plan_run_on rfl rfl (fun K hK => ?_)
        go_simp
        refine hbk.mono ?_
        rintro e w' ⟨rfl, rfl⟩
        refine hK _ _ _ (fun _ h => h) k1 ?_
        clear hK K
        go_simp
        ((first | (apply plan_take rfl rfl; (case hy => (intro w' hS; have s1 := hS; clear hS; go_simp; try exact rfl))) | refine plan_skip rfl rfl ?_); go_simp); ((first | (apply plan_take rfl rfl; (case hy => (intro w' hS; have s1 := hS; clear hS; go_simp; try exact rfl))) | refine plan_skip rfl rfl ?_); go_simp)
        refine plan_done ?_
        go_wp2
        go_ret
        have hx := HX.out
        rw [HD.out, if_pos (by have := HLL.out; have := HB0.out; omega)] at hx
        rw [← hx]
        exact ⟨rfl, HF0.out.1.step (fun _ _ _ => rfl), HF0.out.2.drew⟩
      · have x3b : decide ((nD : Int) < b0 + (L.length : Int)) = false := decide_eq_false x3
        go_wp2_with fail
        refine wp_region_plan [] (.take 0 (.take 1 (.take 2 (.take 3 (.take 4 (.run 5 (.take 6 (.take 7 (.take 8 (.take 9 (.take 10 (.take 11 (.take 12 (.take 13 (.take 14 (.take 15 (.take 16 (.run 17 (.take 18 (.take 19 .done)))))))))))))))))))) (fun w' => w'.cell? ⟨w.heap.size, 1, none⟩ = some (.int .i64 r.at_)) (by kernel_rfl) (by kernel_rfl) (fun c a d v w h => by cases d <;> exact h) k1 ?_
        ((first | (apply plan_take rfl rfl; (case hy => (intro w' hS; have s1 := hS; clear hS; go_simp; try exact rfl))) | refine plan_skip rfl rfl ?_); go_simp); ((first | (apply plan_take rfl rfl; (case hy => (intro w' hS; have s1 := hS; clear hS; go_simp; try exact rfl))) | refine plan_skip rfl rfl ?_); go_simp); ((first | (apply plan_take rfl rfl; (case hy => (intro w' hS; have s1 := hS; clear hS; go_simp; try exact rfl))) | refine plan_skip rfl rfl ?_); go_simp); ((first | (apply plan_take rfl rfl; (case hy => (intro w' hS; have s1 := hS; clear hS; go_simp; try exact rfl))) | refine plan_skip rfl rfl ?_); go_simp); ((first | (apply plan_take rfl rfl; (case hy => (intro w' hS; have s1 := hS; clear hS; go_simp; try exact rfl))) | refine plan_skip rfl rfl ?_); go_simp)
        refine plan_run_on rfl rfl (fun K hK => ?_)
        go_simp
        refine hbk.mono ?_
        rintro e w' ⟨rfl, rfl⟩
        refine hK _ _ _ (fun _ h => h) k1 ?_
        clear hK K
        go_simp
        ((first | (apply plan_take rfl rfl; (case hy => (intro w' hS; have s1 := hS; clear hS; go_simp; try exact rfl))) | refine plan_skip rfl rfl ?_); go_simp); ((first | (apply plan_take rfl rfl; (case hy => (intro w' hS; have s1 := hS; clear hS; go_simp; try exact rfl))) | refine plan_skip rfl rfl ?_); go_simp); ((first | (apply plan_take rfl rfl; (case hy => (intro w' hS; have s1 := hS; clear hS; go_simp; try exact rfl))) | refine plan_skip rfl rfl ?_); go_simp); ((first | (apply plan_take rfl rfl; (case hy => (intro w' hS; have s1 := hS; clear hS; go_simp; try exact rfl))) | refine plan_skip rfl rfl ?_); go_simp); ((first | (apply plan_take rfl rfl; (case hy => (intro w' hS; have s1 := hS; clear hS; go_simp; try exact rfl))) | refine plan_skip rfl rfl ?_); go_simp); ((first | (apply plan_take rfl rfl; (case hy => (intro w' hS; have s1 := hS; clear hS; go_simp; try exact rfl))) | refine plan_skip rfl rfl ?_); go_simp); ((first | (apply plan_take rfl rfl; (case hy => (intro w' hS; have s1 := hS; clear hS; go_simp; try exact rfl))) | refine plan_skip rfl rfl ?_); go_simp); ((first | (apply plan_take rfl rfl; (case hy => (intro w' hS; have s1 := hS; clear hS; go_simp; try exact rfl))) | refine plan_skip rfl rfl ?_); go_simp); ((first | (apply plan_take rfl rfl; (case hy => (intro w' hS; have s1 := hS; clear hS; go_simp; try exact rfl))) | refine plan_skip rfl rfl ?_); go_simp); ((first | (apply plan_take rfl rfl; (case hy => (intro w' hS; have s1 := hS; clear hS; go_simp; try exact rfl))) | refine plan_skip rfl rfl ?_); go_simp); ((first | (apply plan_take rfl rfl; (case hy => (intro w' hS; have s1 := hS; clear hS; go_simp; try exact rfl))) | refine plan_skip rfl rfl ?_); go_simp)
        refine plan_run_on rfl rfl (fun K hK => ?_)
        go_simp
        refine hbk.mono ?_
        rintro e w' ⟨rfl, rfl⟩
        refine hK _ _ _ (fun _ h => h) k1 ?_
        clear hK K
        go_simp
        ((first | (apply plan_take rfl rfl; (case hy => (intro w' hS; have s1 := hS; clear hS; go_simp; try exact rfl))) | refine plan_skip rfl rfl ?_); go_simp); ((first | (apply plan_take rfl rfl; (case hy => (intro w' hS; have s1 := hS; clear hS; go_simp; try exact rfl))) | refine plan_skip rfl rfl ?_); go_simp)
        refine plan_done ?_
        have hx := HX.out
        rw [HD.out, if_neg (by have := HLL.out; have := HB0.out; omega), HB0.out] at hx
        have HX2 := hid hx
        clear hx HX
        have hb0r : 0 ≤ b0 ∧ b0 + (L.length : Int) ≤ nD := by have := HB0.out; omega
        clear hbk k1 hw2 x3
        go_wp2_with fail
        go_loopw [9] (fun i wr => ∃ j : Nat, j ≤ BN ∧ i = .int .i64 ((j : Int) + 1) ∧ (putK D b0 r j).2 = 0 ∧ RDisk wr (orNew (fun k => okd k ∧ k < w.heap.size) w6) p (putK D b0 r j).1 ∧ Chg (fun k => okd k ∧ k < w.heap.size) w6 wr) (fun i _ => BN + 1 - (intOf i).toNat)
        case atStart => exact ⟨0, Nat.zero_le _, rfl, rfl, (HK.out.1.mono (fun k hk => .inl hk)).step (fun _ _ _ => rfl), (Chg.refl _ _).drew⟩
        case round =>
          obtain ⟨j, hj, rfl, hp0, hRj, hch⟩ := hrel
          obtain ⟨hR6, hn6, hN6b, hwb6⟩ := HK.out
          have hNr := Kd.N_step hN6b (w1 := wr) (fun k hk hlt => hch.block k hlt (fun hs => by have h1 := hs.2; have h2 := hk.1; omega))
          have hnr := hch.old hn6 (fun hs => by have := hs.2; omega)
          have k1 : wr.cell? ⟨w.heap.size, 1, none⟩ = some (.int .i64 r.at_) := by have := cell_of_row _ _ 1 _ _ _ hnr; simpa using this
          have hws : (putK D b0 r j).1.ws.length ≤ D.ws.length + j := by have := puts_ws b0 (bodyL r j) D; rwa [bodyL_len] at this
          have hps := putK_succ D b0 r j hp0
          have hall := putK_all D b0 r
          have hst := putK_stop D b0 r (m := j + 1)
          rw [HBN.out] at hall hst
          by_cases hlt : j < BN
          · have hltI : (j : Int) + 1 < (L.length : Int) := by have := HLL.out; omega
            obtain ⟨g, A7, c7, rfl, hd1, hd2, hd3, hd4⟩ := N_row hNr (HL.out.2.2 j (by rw [HBN.out]; exact hlt))
            have b64 := bodyB_length r (j + 1)
            have hRj2 : RDisk wr.drew (orNew (fun k => okd k ∧ k < w.heap.size) w6) p (putK D b0 r j).1 := hRj.step (fun _ _ _ => rfl)
            have hwc := rwrite_any (c := c7) (b0 + ((j : Int) + 1)) hRj2 (RB_drew hd3) (fun k k1 k2 => k2.elim (fun h3 => by have h1 := k1.1; have h2 := h3.2; omega) (fun h3 => by have h1 := k1.2; omega)) (bodyB_bytes hr _) (by omega)
            rw [b64] at hwc hd1
            have hw3 : IntKind.i64.wrap (b0 + ((j : Int) + 1)) = b0 + ((j : Int) + 1) := by rw [IntKind.wrap_i64]; omega
            generalize bodyB r (j + 1) = xs at hwc hps b64 hd3
            generalize putK D b0 r j = Dj at hwc hps hp0 hRj hRj2 hws
            generalize Dj.1.writeE (b0 + ((j : Int) + 1)) xs = E at hwc hps
            generalize Dj.1.writeD (b0 + ((j : Int) + 1)) xs = D' at hwc hps
            have HQ := hid (And.intro hps (And.intro hst hch))
            clear hps hst hall hch hRj hRj2 hNr hnr hN6b hR6 hn6 hwb6 hd2 hd3 b64 hws hp0
            go_wp2_with fail
            refine wp_region_plan [] (.take 0 (.take 1 (.take 2 (.take 3 (.take 4 (.take 5 (.take 6 (.take 7 (.take 8 (.take 9 (.take 10 (.run 11 (.take 12 .done))))))))))))) (fun w' => w'.cell? ⟨w.heap.size, 1, none⟩ = some (.int .i64 r.at_) ∧ w'.cell? ⟨g, j + 1, none⟩ = some (.slice A7 64 c7)) (by kernel_rfl) (by kernel_rfl) (fun c a d v w h => by cases d <;> exact h) ⟨k1, hd1⟩ ?_
            iterate 11 (apply plan_take rfl rfl; (case hy => (intro w' hS; obtain ⟨s1, s2⟩ := hS; go_simp; try exact rfl)); go_simp)
            refine plan_run_on rfl rfl (fun K hK => ?_)
            go_simp
            refine hwc.mono ?_
            rintro e w8 ⟨rfl, h8, c8⟩
            refine hK _ _ _ (fun _ h => h) ⟨c8.cell_ (w := wr.drew) k1 (fun hs => hs.elim (fun h3 => by have h4 : w.heap.size < w.heap.size := h3.2; omega) (fun h3 => by have h4 : w6.heap.size ≤ w.heap.size := h3; omega)), c8.cell_ (w := wr.drew) hd1 (fun hs => hs.elim (fun h3 => by have h4 : g < w.heap.size := h3.2; have h5 := hd4.1; omega) (fun h3 => by have h4 : w6.heap.size ≤ g := h3; have h5 := hd4.2; omega))⟩ ?_
            clear hK K
            go_simp
            apply plan_take rfl rfl
            case hy => (intro w' hS; clear hS; go_simp; try exact rfl)
            go_simp
            refine plan_done ?_
            obtain ⟨hps, hst, hch⟩ := HQ.out
            have h8' := h8.mono (orNew_again hch.drew.size)
            have c8' := chg_again hch.drew c8
            clear hch h8 c8 hwc hw3 k1 hd1 hd4 HQ
            by_cases hE : E = 0
            · subst hE
              have HR := hid (And.intro hps (And.intro h8' c8'))
              clear hps h8' c8' hst
              go_wp2
              go_roundw
              case rel => exact ⟨j + 1, by omega, by go_num, by rw [HR.out.1], by rw [HR.out.1]; exact HR.out.2.1, HR.out.2.2⟩
              case measure => simp [intOf]; omega
            · have hEb : (E != 0) = true := by simpa using hE
              have hx : X = (D', E) := by rw [← HX2.out, hst (by omega) (by rw [hps]; exact hE), hps]
              have HR := hid (HFN.out w8 D' h8' c8')
              have HXX := hid hx
              clear hst hps h8' c8' hx hE
              go_wp2
              go_ret
              rw [HXX.out]
              exact ⟨rfl, HR.out⟩
          · have hltI : ¬ (j : Int) + 1 < (L.length : Int) := by have := HLL.out; omega
            have hL0 : 0 < L.length := by have := HLL.out; omega
            obtain rfl : j = BN := by omega
            obtain ⟨g, A7, c7, rfl, hd1, hd2, hd3, hd4⟩ := N_row hNr HL.out.2.1
            have b64 := headB_length r
            have hRj2 : RDisk wr.drew (orNew (fun k => okd k ∧ k < w.heap.size) w6) p (putK D b0 r j).1 := hRj.step (fun _ _ _ => rfl)
            have hwc := rwrite_any (c := c7) b0 hRj2 (RB_drew hd3) (fun k k1 k2 => k2.elim (fun h3 => by have h1 := k1.1; have h2 := h3.2; omega) (fun h3 => by have h1 := k1.2; omega)) (headB_bytes hr) (by omega)
            rw [b64] at hwc hd1
            replace hall := hall hp0
            generalize headB r = xs at hwc hall b64 hd3
            generalize putK D b0 r j = Dj at hwc hall hp0 hRj hRj2 hws
            generalize Dj.1.writeE b0 xs = E at hwc hall
            generalize Dj.1.writeD b0 xs = D' at hwc hall
            have HQ := hid (And.intro hall hch)
            clear hps hst hall hch hRj hRj2 hNr hnr hN6b hR6 hn6 hwb6 hd2 hd3 b64 hws hp0
            go_wp2_with fail
            refine wp_region_plan [] (.take 0 (.take 1 (.take 2 (.take 3 (.take 4 (.take 5 (.take 6 (.take 7 (.run 8 (.take 9 .done)))))))))) (fun w' => w'.cell? ⟨w.heap.size, 1, none⟩ = some (.int .i64 r.at_) ∧ w'.cell? ⟨g, 0, none⟩ = some (.slice A7 64 c7)) (by kernel_rfl) (by kernel_rfl) (fun c a d v w h => by cases d <;> exact h) ⟨k1, hd1⟩ ?_
            iterate 8 (apply plan_take rfl rfl; (case hy => (intro w' hS; obtain ⟨s1, s2⟩ := hS; go_simp; try exact rfl)); go_simp)
            refine plan_run_on rfl rfl (fun K hK => ?_)
            go_simp
            refine hwc.mono ?_
            rintro e w8 ⟨rfl, h8, c8⟩
            refine hK _ _ _ (fun _ h => h) ⟨c8.cell_ (w := wr.drew) k1 (fun hs => hs.elim (fun h3 => by have h4 : w.heap.size < w.heap.size := h3.2; omega) (fun h3 => by have h4 : w6.heap.size ≤ w.heap.size := h3; omega)), c8.cell_ (w := wr.drew) hd1 (fun hs => hs.elim (fun h3 => by have h4 : g < w.heap.size := h3.2; have h5 := hd4.1; omega) (fun h3 => by have h4 : w6.heap.size ≤ g := h3; have h5 := hd4.2; omega))⟩ ?_
            clear hK K
            go_simp
            apply plan_take rfl rfl
            case hy => (intro w' hS; clear hS; go_simp; try exact rfl)
            go_simp
            refine plan_done ?_
            obtain ⟨hall, hch⟩ := HQ.out
            have hx : X = (D', E) := by rw [← HX2.out, hall]
            have HR := hid (HFN.out w8 D' (h8.mono (orNew_again hch.drew.size)) (chg_again hch.drew c8))
            have HXX := hid hx
            clear hch h8 c8 hwc k1 hd1 hd4 HQ hall hx
            go_wp2
            go_ret
            rw [HXX.out]
            exact ⟨rfl, HR.out⟩
end Go.Proofs.Ytekhmkfiepnnkaa

set_option linter.unusedVariables false
set_option linter.unusedSimpArgs false
namespace Go.Proofs.Ytekhmkfiepnnkaa
open Go.RowKit Go.Proofs.YtekhmkfiepnnkaaW.PrintWords Go.Proofs.YtekhmkfiepnnkaaW.PrintMore
attribute [local go_sem] min_two

theorem rhead_zero {w : World} : (w.alloc (.cells #[.int .u64 0, .int .i64 0, .int .i64 0, .slice none 0 0] 28)).heap[w.heap.size]? = some (.cells #[.int .u64 0, .int .i64 0, .int .i64 0, .slice none 0 0] 28 (0, 0)) := heap_alloc_new w _
set_option maxRecDepth 100000 in
set_option maxHeartbeats 1000000 in
theorem rread_errD {w : World} {ok : Nat → Prop} {p : Nat} {D : DM} (h : RDisk w ok p D) (base end_ gen at_ : Int) (he : ¬ readE D base end_ at_ = 0) :
  Calls Try.prog 71 #[.pointer (some ⟨p, 0, none⟩), .int .i64 base, .int .i64 end_, .int .u64 gen, .int .i64 at_] w (ReadPost none (readE D base end_ at_) w) := by
  have hB0 : Below w.heap.size w (w.alloc (.cells #[.int .u64 0, .int .i64 0, .int .i64 0, .slice none 0 0] 28)) := below_alloc (Below.refl _ _) _
  have h0 := h.step (w1 := w.alloc (.cells #[.int .u64 0, .int .i64 0, .int .i64 0, .slice none 0 0] 28)) (fun k _ hk => hB0.block k hk)
  have hR := asked_any h0 base end_
  have HB0 := hid hB0
  clear hB0
  by_cases h4 : at_ < 0
  · have hE : readE D base end_ at_ = 1 := by unfold readE; simp [h4]
    rw [hE]
    go_enter Try.func71, Try.ntmps71
    go_wp2
    (refine bodyPost_ret (results_ctt rfl _ _ w.heap.size 28 _ _ _ rfl (heap_alloc_new w _) Try.underlying28 rfl (by kernel_rfl)) rfl ?_; exact readpost_none rfl HB0.out)
  have hE : readE D base end_ at_ = regE D base end_ := by unfold readE; rw [if_neg h4]
  rw [hE] at he ⊢
  generalize regE D base end_ = E at he hR ⊢
  have he2 : (E != 0) = true := by simpa using he
  clear hE
  go_enter Try.func71, Try.ntmps71
  go_wp2_with fail
  refine hR.mono ?_
  rintro e w' ⟨rfl, rfl⟩
  go_wp2
  (refine bodyPost_ret (results_ctt rfl _ _ w.heap.size 28 _ _ _ rfl (heap_alloc_new w _) Try.underlying28 rfl (by kernel_rfl)) rfl ?_; exact readpost_none rfl HB0.out)
set_option maxRecDepth 100000 in
set_option maxHeartbeats 1000000 in
theorem rread_outD {w : World} {ok : Nat → Prop} {p : Nat} {D : DM} (h : RDisk w ok p D) (base end_ gen at_ : Int) (he : readE D base end_ at_ = 0) (ho : end_ - base ≤ at_) :
  Calls Try.prog 71 #[.pointer (some ⟨p, 0, none⟩), .int .i64 base, .int .i64 end_, .int .u64 gen, .int .i64 at_] w (ReadPost none 0 w) := by
  have hB0 : Below w.heap.size w (w.alloc (.cells #[.int .u64 0, .int .i64 0, .int .i64 0, .slice none 0 0] 28)) := below_alloc (Below.refl _ _) _
  have h0 := h.step (w1 := w.alloc (.cells #[.int .u64 0, .int .i64 0, .int .i64 0, .slice none 0 0] 28)) (fun k _ hk => hB0.block k hk)
  have hR := asked_any h0 base end_
  have HB0 := hid hB0
  obtain ⟨r1, r2, r3, r4, r5⟩ := readE_ok he
  rw [show regE D base end_ = 0 from by unfold readE at he; rwa [if_neg (by omega)] at he] at hR
  have hn := h.1.hi
  clear hB0 he
  have n4 : ¬ at_ < 0 := by omega
  have hw : IntKind.i64.wrap (end_ - base) = end_ - base := by rw [IntKind.wrap_i64]; omega
  go_enter Try.func71, Try.ntmps71
  go_wp2_with fail
  refine hR.mono ?_
  rintro e w' ⟨rfl, rfl⟩
  go_wp2
  (refine bodyPost_ret (results_ctt rfl _ _ w.heap.size 28 _ _ _ rfl (heap_alloc_new w _) Try.underlying28 rfl (by kernel_rfl)) rfl ?_; exact readpost_none rfl HB0.out)
/-- A record's block holds them. -/
structure RdInR (w wr : World) (rb : Nat) (g a kd : Int) (A : Option Addr) (c : Nat) (xs : List Int) : Prop where
  z : wr.heap[w.heap.size]? = some (.cells #[.int .u64 0, .int .i64 0, .int .i64 0, .slice none 0 0] 28 (0, 0))
  r : wr.heap[rb]? = some (.cells #[.int .u64 g, .int .i64 a, .int .i64 kd, .slice A xs.length c] 28 (0, 0))
  row : KB.R 5 wr w.heap.size (fun q => w.heap.size ≤ q) (.slice A xs.length c) xs
  le : xs.length ≤ c
  bel : Below w.heap.size w wr
theorem RdInR.below {w wr w' : World} {rb : Nat} {g a kd : Int} {A : Option Addr} {c : Nat} {xs : List Int} (h : RdInR w wr rb g a kd A c xs) (hb : Below wr.heap.size wr w') : RdInR w w' rb g a kd A c xs :=
  ⟨(hb.block _ (blk_lt h.z)).trans h.z, (hb.block _ (blk_lt h.r)).trans h.r, Kd.R_below h.row hb, h.le, h.bel.trans (hb.mono h.bel.size)⟩
theorem RdInR.end_ {w wr : World} {rb : Nat} {g a kd : Int} {A : Option Addr} {c : Nat} {xs : List Int} (h : RdInR w wr rb g a kd A c xs) (hrb : w.heap.size < rb) {v : Value} (hv : v = .tuple #[.agg #[.int .u64 g, .int .i64 a, .int .i64 kd, .slice A xs.length c], .bool true, .int .i64 0]) :
    ReadPost (some ⟨g, a, kd, xs⟩) 0 w (.returned v) (W4s wr w.heap.size (.int .u64 g) (.int .i64 a) (.int .i64 kd) (.slice A xs.length c)) := by
  refine ⟨A, c, by rw [hv]; rfl, ?_, h.le, below4 h.bel (Nat.le_refl _) _ _ _ _⟩
  refine Kd.R_mono (Kd.R_step (Kd.R_types h.row h.z (by decide)) (fun k hk _ => ?_)) (fun k hk => hk.1)
  unfold W4s
  rw [Below.heap_setCell _ _ _ _ hk.2, Below.heap_setCell _ _ _ _ hk.2, Below.heap_setCell _ _ _ _ hk.2, Below.heap_setCell _ _ _ _ hk.2]
set_option maxRecDepth 100000 in
set_option maxHeartbeats 4000000 in
theorem rread_inD {w : World} {ok : Nat → Prop} {p : Nat} {D : DM} (h : RDisk w ok p D) (b a e : Nat) (gen : Int) (hg : D.gone = false) (he : e ≤ D.n) (hae : b + a < e) :
  Calls Try.prog 71 #[.pointer (some ⟨p, 0, none⟩), .int .i64 (b : Nat), .int .i64 (e : Nat), .int .u64 gen, .int .i64 (a : Nat)] w (ReadPost (readV D b e gen a) 0 w) := by
  have hn := h.1.hi
  have hRE : regE D (b : Int) (e : Int) = 0 := by unfold regE; rw [if_neg (by omega), if_neg (by simp [hg])]
  have hE : readE D b e a = 0 := by unfold readE; rw [if_neg (by omega), hRE]
  have hV := readV_in gen hE hae
  have hB0 : Below w.heap.size w (w.alloc (.cells #[.int .u64 0, .int .i64 0, .int .i64 0, .slice none 0 0] 28)) := below_alloc (Below.refl _ _) _
  have h0 := h.step (w1 := w.alloc (.cells #[.int .u64 0, .int .i64 0, .int .i64 0, .slice none 0 0] 28)) (fun k _ hk => hB0.block k hk)
  have hR := asked_any h0 (b : Int) (e : Int)
  rw [hRE] at hR
  have hX := blk_length h.1 (i := b + a) (by omega)
  have hXb := blk_bytes h.1 (b + a)
  have hrd := rread_ok (b + a) h0 (ready_in hg (by omega)) (by omega)
  rw [show ((b + a : Nat) : Int) = (b : Int) + (a : Int) from by omega] at hrd
  obtain ⟨hN1, hN2, hN3⟩ := headN_in _ hXb
  have hBL := bytesK_len h.1 hN3
  obtain ⟨n, hNn⟩ := Int.eq_ofNat_of_zero_le hN1
  rw [hNn] at hN2
  have hNt : (headN (D.blk (b + a))).toNat = n := by rw [hNn]; simp
  rw [hNt] at hV hN3 hBL
  rw [hNn] at hV
  have n1 : ¬ (b : Int) < 0 := by omega
  have n2 : ¬ (e : Int) < (b : Int) := by omega
  have n3 : ¬ (D.n : Int) < (e : Int) := by omega
  have n4 : ¬ (a : Int) < 0 := by omega
  have n5 : ¬ (e : Int) - (b : Int) ≤ (a : Int) := by omega
  have hw1 : IntKind.i64.wrap ((e : Int) - (b : Int)) = (e : Int) - (b : Int) := by rw [IntKind.wrap_i64]; omega
  have hw2 : IntKind.i64.wrap ((b : Int) + (a : Int)) = (b : Int) + (a : Int) := by rw [IntKind.wrap_i64]; omega
  have hn131 : n ≤ 131072 := by omega
  have HX := hid hX
  have HBL := hid hBL
  have HB0 := hid hB0
  have hRb : (headR (D.blk (b + a))).bytes = bytesK D (b + a) n 0 := rfl
  have HV := hid hV
  have HNn := hid hNn
  clear hE hRE hX hBL hB0 hV hNt hNn hN1
  generalize hVV : readV D b e gen a = VV at HV ⊢
  clear hVV
  go_enter Try.func71, Try.ntmps71
  go_wp2_with fail
  refine hR.mono ?_
  rintro e0 w' ⟨rfl, rfl⟩
  clear hR
  go_wp2_with fail
  refine hrd.mono ?_
  rintro e0 w1 ⟨A0, c0, rfl, hR0, hb1⟩
  have hz1 := (hb1.block _ (blk_lt rhead_zero)).trans rhead_zero
  have hBw1 : Below w.heap.size w w1 := below_step HB0.out hb1
  have hRB := (R_RB hR0).2
  have hc0 : 64 ≤ c0 := (Kd.R_reads' hR0).2.1
  clear hrd hR0 hb1 h0
  have hh := fhead_any (c := c0) hRB hXb (by rw [HX.out]; omega)
  rw [HX.out] at hh
  go_wp2_with fail
  refine hh.mono ?_
  rintro e0 w2 ⟨A, c, rfl, hR2, hle, hB2⟩
  clear hh hRB
  rw [HNn.out]
  unfold recV
  obtain ⟨R, hRR⟩ : ∃ R, headR (D.blk (b + a)) = R := ⟨_, rfl⟩
  rw [hRR] at hR2 hle hN3 ⊢
  have HV2 := HV.out
  rw [hRR] at HV2
  have HV3 := hid HV2
  have HRb : Hid (R.bytes = bytesK D (b + a) n 0) := hid (by rw [← hRb, hRR])
  clear HV2 HV hRR hRb HX
  obtain ⟨rg, ra, rk, rb⟩ := R
  dsimp only at hR2 hle hN3 HV3 HRb ⊢
  have HN3 := hid hN3
  clear hN3
  obtain ⟨ib, hib⟩ : ∃ ib, decide (headOK (D.blk (b + a))) = ib := ⟨_, rfl⟩
  rw [hib]
  have HIB := hid hib
  clear hib
  have hz2 := (hB2.block _ (blk_lt hz1)).trans hz1
  have hBw2 : Below w.heap.size w w2 := hBw1.trans (hB2.mono hBw1.size)
  have hRd0 : RdInR w (w2.alloc (.cells #[.int .u64 rg, .int .i64 ra, .int .i64 rk, .slice A rb.length c] 28)) w2.heap.size rg ra rk A c rb :=
    ⟨(Below.heap_alloc w2 _ _ (blk_lt hz2)).trans hz2, heap_alloc_new w2 _, Kd.R_alloc (Kd.R_lower (Kd.R_mono hR2 (fun k hk => by have := hBw1.size; omega)) hBw1.size) _, hle, below_alloc hBw2 _⟩
  have hrbn : w.heap.size < w2.heap.size := blk_lt hz2
  go_upto_region 10 with (fail)
  clear hB2 hBw2 hz2 hz1 hR2
  generalize w2.alloc (.cells #[.int .u64 rg, .int .i64 ra, .int .i64 rk, .slice A rb.length c] 28) = w3 at hRd0 ⊢
  generalize w2.heap.size = rx at hRd0 hrbn ⊢
  have hz := hRd0.z
  have hbel := hRd0.bel
  have z0 := cell_of_row _ _ 0 _ _ _ hz
  have z1 := cell_of_row _ _ 1 _ _ _ hz
  have z2 := cell_of_row _ _ 2 _ _ _ hz
  have z3 := cell_of_row _ _ 3 _ _ _ hz
  have f0 := frozen_of_row _ _ 0 _ _ hz
  have f1 := frozen_of_row _ _ 1 _ _ hz
  have f2 := frozen_of_row _ _ 2 _ _ hz
  have f3 := frozen_of_row _ _ 3 _ _ hz
  have q0 := cell_of_row _ _ 0 _ _ _ hRd0.r
  have q1 := cell_of_row _ _ 1 _ _ _ hRd0.r
  have q2 := cell_of_row _ _ 2 _ _ _ hRd0.r
  have q3 := cell_of_row _ _ 3 _ _ _ hRd0.r
  simp at z0 z1 z2 z3 q0 q1 q2 q3
  cases ib with
  | false =>
    have hno : VV = none := by rw [HV3.out, if_neg]; rintro ⟨hh, _⟩; have := HIB.out; rw [decide_eq_true hh] at this; cases this
    clear HV3 hRd0
    subst hno
    go_wp2
    (refine bodyPost_ret (results_ctt rfl _ _ w.heap.size 28 _ _ _ rfl (set4 hz (.int .u64 0) (.int .i64 0) (.int .i64 0) (.slice none 0 0)) Try.underlying28 rfl (by kernel_rfl)) rfl ?_; exact readpost_none rfl (below4 hbel (Nat.le_refl _) _ _ _ _))
  | true =>
    have hOK : headOK (D.blk (b + a)) := of_decide_eq_true HIB.out
    clear HIB
    by_cases t1 : rg = gen
    case neg =>
      have hno : VV = none := by rw [HV3.out, if_neg]; rintro ⟨_, hh, _⟩; exact t1 hh
      have t1a : (rg == gen) = false := by simpa using t1
      have t1b : (rg != gen) = true := by simpa using t1
      clear HV3 hRd0 hOK
      subst hno
      go_wp2
      (refine bodyPost_ret (results_ctt rfl _ _ w.heap.size 28 _ _ _ rfl (set4 hz (.int .u64 0) (.int .i64 0) (.int .i64 0) (.slice none 0 0)) Try.underlying28 rfl (by kernel_rfl)) rfl ?_; exact readpost_none rfl (below4 hbel (Nat.le_refl _) _ _ _ _))
    subst t1
    by_cases t2 : ra = (a : Int)
    case neg =>
      have hno : VV = none := by rw [HV3.out, if_neg]; rintro ⟨_, _, hh, _⟩; exact t2 hh
      have t2a : (ra == (a : Int)) = false := by simpa using t2
      have t2b : (ra != (a : Int)) = true := by simpa using t2
      clear HV3 hRd0 hOK
      subst hno
      go_wp2
      (refine bodyPost_ret (results_ctt rfl _ _ w.heap.size 28 _ _ _ rfl (set4 hz (.int .u64 0) (.int .i64 0) (.int .i64 0) (.slice none 0 0)) Try.underlying28 rfl (by kernel_rfl)) rfl ?_; exact readpost_none rfl (below4 hbel (Nat.le_refl _) _ _ _ _))
    subst t2
    have hbn9 : bodiesN n ≤ 131072 := by unfold bodiesN; omega
    have hw3 : IntKind.i64.wrap ((a : Int) + ((bodiesN n : Int) + 1)) = (a : Int) + ((bodiesN n : Int) + 1) := by rw [IntKind.wrap_i64]; omega
    have hnd := fun W => fneed_any (w := W) (n : Int) (by omega)
    rw [need_bodiesN hn131] at hnd HV3
    by_cases t3 : (e : Int) - (b : Int) < (a : Int) + ((bodiesN n : Int) + 1)
    · have hno : VV = none := by rw [HV3.out, if_neg]; rintro ⟨_, _, _, hh, _⟩; omega
      clear HV3 hRd0 hOK
      subst hno
      go_wp2_with (go_at_call 27; refine (hnd _).mono ?_; rintro e0 w' ⟨rfl, rfl⟩)
      (refine bodyPost_ret (results_ctt rfl _ _ w.heap.size 28 _ _ _ rfl (set4 hz (.int .u64 0) (.int .i64 0) (.int .i64 0) (.slice none 0 0)) Try.underlying28 rfl (by kernel_rfl)) rfl ?_; exact readpost_none rfl (below4 hbel (Nat.le_refl _) _ _ _ _))
    have hbn : b + a + (bodiesN n + 1) ≤ e := by omega
    have hRd1 : RdInR w w3 rx rg a rk A c (bytesK D (b + a) n 0) := by rw [← HRb.out]; exact hRd0
    have HV : Hid (VV = if (List.range (bodiesN n)).all (goodK D (b + a) n rg a) = true then some ⟨rg, a, rk, bytesK D (b + a) n (bodiesN n)⟩ else none) := hid (by
      rw [HV3.out]
      by_cases hq : (List.range (bodiesN n)).all (goodK D (b + a) n rg a) = true
      · rw [if_pos hq, if_pos ⟨hOK, rfl, rfl, by omega, hq⟩]
      · rw [if_neg hq, if_neg (fun hh => hq hh.2.2.2.2)])
    clear HV3 hRd0 HRb HN3 hOK z0 z1 z2 z3 f0 f1 f2 f3 q3 hz hbel hle
    go_wp2_with (go_at_call 27; refine (hnd _).mono ?_; rintro e0 w' ⟨rfl, rfl⟩)
    have HND := hid hnd
    clear q0 q1 q2 hnd
    have hbN : bodiesN n ≤ 4096 := by omega
    go_loopw [19] (fun kk wr => ∃ (k : Nat) (A1 : Option Addr) (c1 : Nat), k ≤ bodiesN n ∧ kk = .int .i64 ((k : Int) + 1) ∧ RdInR w wr rx rg a rk A1 c1 (bytesK D (b + a) n k) ∧ GoodTo D (b + a) n rg a k) (fun kk _ => bodiesN n + 1 - (intOf kk).toNat)
    case atStart => exact ⟨0, A, c, Nat.zero_le _, rfl, hRd1, fun i hi => absurd hi (by omega)⟩
    case round =>
      obtain ⟨k, A1, c1, hk, rfl, hI, hgood⟩ := hrel
      clear hRd1
      have hxl := HBL.out k (by omega)
      obtain ⟨xs, hxs⟩ : ∃ xs, bytesK D (b + a) n k = xs := ⟨_, rfl⟩
      rw [hxs] at hI hxl
      have HXS := hid hxs
      clear hxs
      have q3 := cell_of_row _ _ 3 _ _ _ hI.r
      simp at q3
      by_cases hlt : k < bodiesN n
      · have h47 := bodiesN_lt.1 hlt
        have hlen : xs.length < n := by omega
        have HXL := hid hxl
        clear hxl
        have hPD := h.step (w1 := wr) (fun j _ hj => hI.bel.block j hj)
        have hrd := rread_ok (b + a + (k + 1)) hPD (ready_in hg (by omega)) (by omega)
        rw [show ((b + a + (k + 1) : Nat) : Int) = (b : Int) + (a : Int) + ((k : Int) + 1) from by omega] at hrd
        have hltI : (k : Int) + 1 < (bodiesN n : Int) + 1 := by omega
        have hX := blk_length h.1 (i := b + a + (k + 1)) (by omega)
        have hXb2 := blk_bytes h.1 (b + a + (k + 1))
        have HX := hid hX
        clear hX
        have hw4 : IntKind.i64.wrap ((b : Int) + (a : Int) + ((k : Int) + 1)) = (b : Int) + (a : Int) + ((k : Int) + 1) := by rw [IntKind.wrap_i64]; omega
        go_wp2_with fail
        refine (HND.out _).mono ?_
        rintro e0 w' ⟨rfl, rfl⟩
        go_wp2_with fail
        refine hrd.mono ?_
        rintro e0 w4 ⟨A4, c4, rfl, hR4, hb4⟩
        have hRB := (R_RB hR4).2
        have hc4 : 64 ≤ c4 := (Kd.R_reads' hR4).2.1
        obtain ⟨ad4, rfl⟩ := RB_some hRB (by rw [HX.out]; omega)
        obtain ⟨g4, rfl⟩ := Kd.R_head hR4
        have hI4 := hI.below hb4
        clear hrd hPD hI hR4 hb4
        have hbd := fbody_any (c := c4) hRB hXb2 (by rw [HX.out]; omega)
        rw [HX.out] at hbd
        obtain ⟨V, hVe⟩ : ∃ V, bodyV (D.blk (b + a + (k + 1))) = V := ⟨_, rfl⟩
        have hgk : goodK D (b + a) n rg a k = (decide (V = (rg, (a : Int), ((k + 1 : Nat) : Int), true)) && blank ((D.blk (b + a + (k + 1))).drop (14 + hasK n k))) := by unfold goodK; rw [hVe]
        rw [hVe] at hbd
        clear hVe
        obtain ⟨vg, va, vk, vi⟩ := V
        unfold bodyT at hbd
        dsimp only at hbd
        have hm50 := hasK_le n k
        have hmx : hasK n k = min (n - xs.length) 50 := by unfold hasK; rw [show xs.length = 47 + 50 * k from by have := HXL.out; omega]
        have HBAD : Hid (goodK D (b + a) n rg a k = false → VV = none) := hid (fun hf => by rw [HV.out, all_range hlt hf]; rfl)
        have hpartl := part_len (b := D.blk (b + a + (k + 1))) (i := 14) (n := hasK n k) (by rw [HX.out]; omega)
        have hnext : xs ++ ((D.blk (b + a + (k + 1))).drop 14).take (hasK n k) = bytesK D (b + a) n (k + 1) := by rw [← HXS.out]; rfl
        have HNX := hid hnext
        have HPL := hid hpartl
        have HMX := hid hmx
        clear hnext hpartl hmx
        generalize hasK n k = m at hgk hm50 HNX HPL HMX
        have HGK := hid hgk
        clear hgk
        go_wp2_with fail
        refine hbd.mono ?_
        rintro e0 w5 ⟨rfl, hB5⟩
        clear hbd
        have hI5 := hI4.below hB5
        have hRB5 := RB_below hRB hB5
        clear hI4 q3
        have hz := hI5.z
        have hbel := hI5.bel
        have z0 := cell_of_row _ _ 0 _ _ _ hz
        have z1 := cell_of_row _ _ 1 _ _ _ hz
        have z2 := cell_of_row _ _ 2 _ _ _ hz
        have z3 := cell_of_row _ _ 3 _ _ _ hz
        have f0 := frozen_of_row _ _ 0 _ _ hz
        have f1 := frozen_of_row _ _ 1 _ _ hz
        have f2 := frozen_of_row _ _ 2 _ _ hz
        have f3 := frozen_of_row _ _ 3 _ _ hz
        have q3 := cell_of_row _ _ 3 _ _ _ hI5.r
        have qf3 := frozen_of_row _ _ 3 _ _ hI5.r
        simp at z0 z1 z2 z3 q3
        have hsub : IntKind.i64.wrap ((n : Int) - (xs.length : Int)) = (n : Int) - (xs.length : Int) := by rw [IntKind.wrap_i64]; omega
        have HCT := hid (And.intro HBAD.out (And.intro HGK.out (And.intro HV.out (And.intro hI5 (And.intro hRB (And.intro hRB5 (And.intro hB5 hgood)))))))
        go_upto_if 114 with (fail)
        clear HBAD HGK HV hI5 hRB hRB5 hB5 hgood
        go_cut [24] (fun v24 wc => .int .i64 (m : Int) = v24 ∧ w5 = wc)
        case first =>
          by_cases h50 : (50 : Int) < (n : Int) - (xs.length : Int)
          · have hm5 : (m : Int) = 50 := by have := HMX.out; omega
            go_wp2
            go_meet
            case rel => exact ⟨by rw [hm5], rfl⟩
          · have hm5 : (m : Int) = (n : Int) - (xs.length : Int) := by have := HMX.out; omega
            go_wp2
            go_meet
            case rel => exact ⟨by rw [hm5], rfl⟩
        case rest =>
          obtain ⟨rfl, rfl⟩ := hcut
          obtain ⟨HBAD', HGK', HV', hI5, hRB, hRB5, hB5, hgood⟩ := HCT.out
          have HBAD := hid HBAD'
          have HGK := hid HGK'
          have HV := hid HV'
          clear HBAD' HGK' HV' HCT hsub
          cases vi with
          | false =>
            have hno : VV = none := HBAD.out (by rw [HGK.out, decide_eq_false (by simp)]; rfl)
            clear HBAD HGK HV hI5
            subst hno
            go_wp2
            (refine bodyPost_ret (results_ctt rfl _ _ w.heap.size 28 _ _ _ rfl (set4 hz (.int .u64 0) (.int .i64 0) (.int .i64 0) (.slice none 0 0)) Try.underlying28 rfl (by kernel_rfl)) rfl ?_; exact readpost_none rfl (below4 hbel (Nat.le_refl _) _ _ _ _))
          | true =>
            by_cases t1 : vg = rg
            case neg =>
              have hno : VV = none := HBAD.out (by rw [HGK.out, decide_eq_false (by simp [t1])]; rfl)
              have t1a : (vg == rg) = false := by simpa using t1
              have t1b : (vg != rg) = true := by simpa using t1
              clear HBAD HGK HV hI5
              subst hno
              go_wp2
              (refine bodyPost_ret (results_ctt rfl _ _ w.heap.size 28 _ _ _ rfl (set4 hz (.int .u64 0) (.int .i64 0) (.int .i64 0) (.slice none 0 0)) Try.underlying28 rfl (by kernel_rfl)) rfl ?_; exact readpost_none rfl (below4 hbel (Nat.le_refl _) _ _ _ _))
            subst t1
            by_cases t2 : va = (a : Int)
            case neg =>
              have hno : VV = none := HBAD.out (by rw [HGK.out, decide_eq_false (by simp [t2])]; rfl)
              have t2a : (va == (a : Int)) = false := by simpa using t2
              have t2b : (va != (a : Int)) = true := by simpa using t2
              clear HBAD HGK HV hI5
              subst hno
              go_wp2
              (refine bodyPost_ret (results_ctt rfl _ _ w.heap.size 28 _ _ _ rfl (set4 hz (.int .u64 0) (.int .i64 0) (.int .i64 0) (.slice none 0 0)) Try.underlying28 rfl (by kernel_rfl)) rfl ?_; exact readpost_none rfl (below4 hbel (Nat.le_refl _) _ _ _ _))
            subst t2
            by_cases t3 : vk = (k : Int) + 1
            case neg =>
              have hno : VV = none := HBAD.out (by rw [HGK.out, decide_eq_false (by simp; omega)]; rfl)
              have t3a : (vk == (k : Int) + 1) = false := by simpa using t3
              have t3b : (vk != (k : Int) + 1) = true := by simpa using t3
              clear HBAD HGK HV hI5
              subst hno
              go_wp2
              (refine bodyPost_ret (results_ctt rfl _ _ w.heap.size 28 _ _ _ rfl (set4 hz (.int .u64 0) (.int .i64 0) (.int .i64 0) (.slice none 0 0)) Try.underlying28 rfl (by kernel_rfl)) rfl ?_; exact readpost_none rfl (below4 hbel (Nat.le_refl _) _ _ _ _))
            subst t3
            have hbl := clean_tail (a := ⟨g4, 0, none⟩) (m := 14 + m) hRB hB5 HX.out (by omega) hc4
            have htn : (14 + (m : Int)).toNat = 14 + m := by omega
            have him : (14 : Int) + (m : Int) ≤ 64 := by omega
            have h14 : (14 : Int) ≤ 14 + (m : Int) := by omega
            have h014 : (0 : Int) ≤ 14 + (m : Int) := by omega
            have hwm : IntKind.i64.wrap (14 + (m : Int)) = 14 + (m : Int) := by rw [IntKind.wrap_i64]; omega
            obtain ⟨bl, hblE⟩ : ∃ bl, blank ((D.blk (b + a + (k + 1))).drop (14 + m)) = bl := ⟨_, rfl⟩
            rw [hblE] at hbl
            have HBK := hid hblE
            clear hblE
            have BL : ∀ (V : Value), V = .slice (behind (some ⟨g4, 0, none⟩) (14 + m) c4) (64 - (14 + m)) (c4 - (14 + m)) → Calls Try.prog 62 #[V] w5 fun e w' => e = .returned (.bool bl) ∧ w' = w5 := fun V e => by rw [e]; exact hbl
            clear hbl
            by_cases hcm : c4 = 14 + m
            · obtain rfl : m = 50 := by omega
              obtain rfl : c4 = 64 := by omega
              clear hwm h14 h014 him htn hcm
              go_wp2_with fail
              refine (BL _ ?_).mono ?_
              · unfold behind
                rw [if_pos rfl]
              rintro e0 w6 ⟨rfl, rfl⟩
              clear BL
              cases bl with
              | false =>
                have hno : VV = none := HBAD.out (by rw [HGK.out, HBK.out]; simp)
                clear HBAD HGK HV hI5
                subst hno
                go_wp2
                (refine bodyPost_ret (results_ctt rfl _ _ w.heap.size 28 _ _ _ rfl (set4 hz (.int .u64 0) (.int .i64 0) (.int .i64 0) (.slice none 0 0)) Try.underlying28 rfl (by kernel_rfl)) rfl ?_; exact readpost_none rfl (below4 hbel (Nat.le_refl _) _ _ _ _))
              | true =>
                have hRow := hI5.row
                have hpart := part (i := 14) (n := 50) hRB5 (by rw [HX.out]; omega)
                have hRm : ReadsInt w6.drew .u8 (some (Addr.add ⟨g4, 0, none⟩ 14)) 50 (((D.blk (b + a + (k + 1))).drop 14).take 50) := by
                  have := RB_int (RB_drew hpart)
                  rwa [HPL.out] at this
                have hgood1 : GoodTo D (b + a) n vg a (k + 1) := fun i hi => by
                  rcases Nat.lt_or_ge i k with h1 | h1
                  · exact hgood i h1
                  · obtain rfl : i = k := by omega
                    rw [HGK.out, HBK.out]
                    simp
                have HG1 := hid hgood1
                clear hgood1 hgood HGK HBAD HBK
                have hne : some rx ≠ (Value.slice A1 xs.length c1).ownBlock := Kd.R_ne hRow hI5.r (by decide)
                have hnz : some w.heap.size ≠ (Value.slice A1 xs.length c1).ownBlock := Kd.R_ne hRow hI5.z (by decide)
                go_wp2_with fail
                refine wp_region_plan [7, 8] (.take 0 (.take 1 (.take 2 (.take 3 (.take 4 (.take 5 (.run 6 (.tail 7 (.tail 8 .done))))))))) (fun W' => W'.cell? ⟨rx, 3, none⟩ = some (.slice A1 xs.length c1)) (by kernel_rfl) (by kernel_rfl) (fun c a d v w h => by cases d <;> exact h) q3 ?_
                iterate 6 (apply plan_take rfl rfl; (case hy => (intro w' hS; go_simp; try exact rfl)); go_simp)
                refine plan_run_on rfl rfl (fun K hK => ?_)
                refine step_append_row (w0 := w) w.heap.size (.tmp 142) (.tmp 146) 22 5 .u8 1 rfl Try.underlying22 info_u8 (by decide) _ xs (((D.blk (b + a + (k + 1))).drop 14).take 50) (some (Addr.add ⟨g4, 0, none⟩ 14)) 50 50 rfl rfl (R_own1 (Kd.R_drew hRow)) hRm hI5.bel.drew hI5.bel.drew.size (by omega) ?_
                intro v1 w7 ho hB6 hg6 hat
                have hR6 : KB.R 5 w7 w.heap.size (fun q => w.heap.size ≤ q) v1 (xs ++ ((D.blk (b + a + (k + 1))).drop 14).take 50) := Rown ho (fun q hq => own_base ho q hq)
                rw [HNX.out] at hR6
                obtain ⟨A6, c6, rfl, hle6, _⟩ := Kd.R_reads hR6
                have hr6 := (hg6.block rx (blk_lt hI5.r) (fun e => hne e)).trans hI5.r
                have hz6 := (hg6.block w.heap.size (blk_lt hI5.z) (fun e => hnz e)).trans hI5.z
                clear ho hg6 hat hRm hpart hne hnz hRow hRB5 hRB
                have p3 := cell_of_row _ _ 3 _ _ _ hr6
                have pf3 := frozen_of_row _ _ 3 _ _ hr6
                simp at p3
                refine hK _ _ _ (fun _ h => h) p3 ?_
                clear hK K
                go_simp
                refine plan_tail_on rfl rfl (fun K hK => ?_)
                go_simp
                refine hK _ _ ?_
                clear hK K
                refine plan_tail_on rfl rfl (fun K hK => ?_)
                go_simp
                refine hK _ _ (plan_done ?_)
                clear hK K
                have hI7 : RdInR w (w7.setCell ⟨rx, 3, none⟩ (.slice A6 (bytesK D (b + a) n (k + 1)).length c6)) rx vg a rk A6 c6 (bytesK D (b + a) n (k + 1)) :=
                  ⟨(Below.heap_setCell w7 ⟨rx, 3, none⟩ _ w.heap.size (by show w.heap.size ≠ rx; omega)).trans hz6, heap_setCell_same w7 rx 3 _ _ _ hr6, Kd.R_set hR6 hr6 (by decide) 3 _, hle6, hB6.setCell (p := ⟨rx, 3, none⟩) (by show w.heap.size ≤ rx; omega) _⟩
                have HI7 := hid hI7
                clear hI7 hR6 hr6 hz6 hle6 p3 pf3 q3 qf3 z0 z1 z2 z3 f0 f1 f2 f3 hz hbel hI5
                go_wp2
                go_roundw
                case rel => exact ⟨k + 1, A6, c6, by omega, by go_num, HI7.out, HG1.out⟩
                case measure => simp [intOf]; omega
            · go_wp2_with fail
              refine (BL _ ?_).mono ?_
              · unfold behind
                rw [if_neg hcm]
                simp [Addr.add]
              rintro e0 w6 ⟨rfl, rfl⟩
              clear BL
              cases bl with
              | false =>
                have hno : VV = none := HBAD.out (by rw [HGK.out, HBK.out]; simp)
                clear HBAD HGK HV hI5
                subst hno
                go_wp2
                (refine bodyPost_ret (results_ctt rfl _ _ w.heap.size 28 _ _ _ rfl (set4 hz (.int .u64 0) (.int .i64 0) (.int .i64 0) (.slice none 0 0)) Try.underlying28 rfl (by kernel_rfl)) rfl ?_; exact readpost_none rfl (below4 hbel (Nat.le_refl _) _ _ _ _))
              | true =>
                have hRow := hI5.row
                have hpart := part (i := 14) (n := m) hRB5 (by rw [HX.out]; omega)
                have hRm : ReadsInt w6.drew .u8 (some (Addr.add ⟨g4, 0, none⟩ 14)) m (((D.blk (b + a + (k + 1))).drop 14).take m) := by
                  have := RB_int (RB_drew hpart)
                  rwa [HPL.out] at this
                have hgood1 : GoodTo D (b + a) n vg a (k + 1) := fun i hi => by
                  rcases Nat.lt_or_ge i k with h1 | h1
                  · exact hgood i h1
                  · obtain rfl : i = k := by omega
                    rw [HGK.out, HBK.out]
                    simp
                have HG1 := hid hgood1
                clear hgood1 hgood HGK HBAD HBK
                have hne : some rx ≠ (Value.slice A1 xs.length c1).ownBlock := Kd.R_ne hRow hI5.r (by decide)
                have hnz : some w.heap.size ≠ (Value.slice A1 xs.length c1).ownBlock := Kd.R_ne hRow hI5.z (by decide)
                go_wp2_with fail
                refine wp_region_plan [7, 8] (.take 0 (.take 1 (.take 2 (.take 3 (.take 4 (.take 5 (.run 6 (.tail 7 (.tail 8 .done))))))))) (fun W' => W'.cell? ⟨rx, 3, none⟩ = some (.slice A1 xs.length c1)) (by kernel_rfl) (by kernel_rfl) (fun c a d v w h => by cases d <;> exact h) q3 ?_
                have hwm2 : IntKind.i64.wrap (14 + (m : Int)) = 14 + (m : Int) := by rw [IntKind.wrap_i64]; omega
                have h142 : (14 : Int) ≤ 14 + (m : Int) := by omega
                have h0142 : (0 : Int) ≤ 14 + (m : Int) := by omega
                have htn2 : (14 + (m : Int)).toNat = 14 + m := by omega
                have hcap : (14 : Int) + (m : Int) ≤ (c4 : Int) := by omega
                have hc14 : ¬ c4 = 14 := by omega
                iterate 6 (apply plan_take rfl rfl; (case hy => (intro w' hS; go_simp; try exact rfl)); go_simp)
                refine plan_run_on rfl rfl (fun K hK => ?_)
                refine step_append_row (w0 := w) w.heap.size (.tmp 142) (.tmp 146) 22 5 .u8 1 rfl Try.underlying22 info_u8 (by decide) _ xs (((D.blk (b + a + (k + 1))).drop 14).take m) (some (Addr.add ⟨g4, 0, none⟩ 14)) m (c4 - 14) rfl rfl (R_own1 (Kd.R_drew hRow)) hRm hI5.bel.drew hI5.bel.drew.size (by omega) ?_
                intro v1 w7 ho hB6 hg6 hat
                have hR6 : KB.R 5 w7 w.heap.size (fun q => w.heap.size ≤ q) v1 (xs ++ ((D.blk (b + a + (k + 1))).drop 14).take m) := Rown ho (fun q hq => own_base ho q hq)
                rw [HNX.out] at hR6
                obtain ⟨A6, c6, rfl, hle6, _⟩ := Kd.R_reads hR6
                have hr6 := (hg6.block rx (blk_lt hI5.r) (fun e => hne e)).trans hI5.r
                have hz6 := (hg6.block w.heap.size (blk_lt hI5.z) (fun e => hnz e)).trans hI5.z
                clear ho hg6 hat hRm hpart hne hnz hRow hRB5 hRB
                have p3 := cell_of_row _ _ 3 _ _ _ hr6
                have pf3 := frozen_of_row _ _ 3 _ _ hr6
                simp at p3
                refine hK _ _ _ (fun _ h => h) p3 ?_
                clear hK K
                go_simp
                refine plan_tail_on rfl rfl (fun K hK => ?_)
                go_simp
                refine hK _ _ ?_
                clear hK K
                refine plan_tail_on rfl rfl (fun K hK => ?_)
                go_simp
                refine hK _ _ (plan_done ?_)
                clear hK K
                have hI7 : RdInR w (w7.setCell ⟨rx, 3, none⟩ (.slice A6 (bytesK D (b + a) n (k + 1)).length c6)) rx vg a rk A6 c6 (bytesK D (b + a) n (k + 1)) :=
                  ⟨(Below.heap_setCell w7 ⟨rx, 3, none⟩ _ w.heap.size (by show w.heap.size ≠ rx; omega)).trans hz6, heap_setCell_same w7 rx 3 _ _ _ hr6, Kd.R_set hR6 hr6 (by decide) 3 _, hle6, hB6.setCell (p := ⟨rx, 3, none⟩) (by show w.heap.size ≤ rx; omega) _⟩
                have HI7 := hid hI7
                clear hI7 hR6 hr6 hz6 hle6 p3 pf3 q3 qf3 z0 z1 z2 z3 f0 f1 f2 f3 hz hbel hI5
                go_wp2
                go_roundw
                case rel => exact ⟨k + 1, A6, c6, by omega, by go_num, HI7.out, HG1.out⟩
                case measure => simp [intOf]; omega
      · obtain rfl : k = bodiesN n := by omega
        have hge : n ≤ xs.length := by have := bodiesN_lt (n := n) (k := bodiesN n); omega
        have hge2 : ¬ xs.length < n := by omega
        have HXL := hid hxl
        have hyes : VV = some ⟨rg, a, rk, xs⟩ := by
          rw [HV.out, if_pos (all_range_true (fun i hi => hgood i hi)), HXS.out]
        have hz := hI.z
        have z0 := cell_of_row _ _ 0 _ _ _ hz
        have z1 := cell_of_row _ _ 1 _ _ _ hz
        have z2 := cell_of_row _ _ 2 _ _ _ hz
        have z3 := cell_of_row _ _ 3 _ _ _ hz
        have f0 := frozen_of_row _ _ 0 _ _ hz
        have f1 := frozen_of_row _ _ 1 _ _ hz
        have f2 := frozen_of_row _ _ 2 _ _ hz
        have f3 := frozen_of_row _ _ 3 _ _ hz
        have q0 := cell_of_row _ _ 0 _ _ _ hI.r
        have q1 := cell_of_row _ _ 1 _ _ _ hI.r
        have q2 := cell_of_row _ _ 2 _ _ _ hI.r
        simp at z0 z1 z2 z3 q0 q1 q2
        have HI := hid hI
        clear hxl HV hgood hI
        subst hyes
        have hltI : ¬ (bodiesN n : Int) + 1 < (bodiesN n : Int) + 1 := by omega
        go_wp2_with fail
        refine (HND.out _).mono ?_
        rintro e0 w' ⟨rfl, rfl⟩
        go_wp2
        refine bodyPost_ret (results_ctt rfl _ _ w.heap.size 28 _ _ _ rfl (set4 hz (.int .u64 rg) (.int .i64 a) (.int .i64 rk) (.slice A1 xs.length c1)) Try.underlying28 rfl (by kernel_rfl)) rfl ?_
        exact HI.out.end_ hrbn rfl
end Go.Proofs.Ytekhmkfiepnnkaa

set_option linter.unusedVariables false
set_option linter.unusedSimpArgs false
namespace Go.Proofs.Ytekhmkfiepnnkaa
open Go.RowKit Go.Proofs.YtekhmkfiepnnkaaW.PrintWords Go.Proofs.YtekhmkfiepnnkaaW.PrintMore

theorem rsread_any {w : World} {ok : Nat → Prop} {p : Nat} {D : DM} (h : RDisk w ok p D) (base end_ gen at_ : Int) :
  Calls Try.prog 71 #[.pointer (some ⟨p, 0, none⟩), .int .i64 base, .int .i64 end_, .int .u64 gen, .int .i64 at_] w (ReadPost (readV D base end_ gen at_) (readE D base end_ at_) w) := by
  by_cases he : readE D base end_ at_ = 0
  · by_cases ho : end_ - base ≤ at_
    · rw [show readV D base end_ gen at_ = none from by unfold readV; rw [if_neg (fun hh => by have := hh.2.1; omega)], he]
      exact rread_outD h base end_ gen at_ he ho
    · obtain ⟨h1, h2, h3, h4, h5⟩ := readE_ok he
      rw [he]
      obtain ⟨b, rfl⟩ := Int.eq_ofNat_of_zero_le h1
      obtain ⟨a, rfl⟩ := Int.eq_ofNat_of_zero_le h5
      obtain ⟨e, rfl⟩ := Int.eq_ofNat_of_zero_le (Int.le_trans h1 h2)
      exact rread_inD h b a e gen h4 (by omega) (by omega)
  · rw [readV_E he]
    exact rread_errD h base end_ gen at_ he
/-- Both disks, made since B, alike. -/
def Both (B : Nat) (w : World) (p q : Nat) (D : DM) : Prop :=
  ∃ okd okt : Nat → Prop, PDisk w okd p D ∧ RDisk w okt q D ∧ apart okd okt ∧ (∀ k, okd k → B ≤ k ∧ k < w.heap.size) ∧ (∀ k, okt k → B ≤ k ∧ k < w.heap.size)
structure OP22 where
  kind : Int
  base : Int
  end_ : Int
  at_ : Int
  gen : Int
  r : SR
abbrev opArr (o : OP22) (A : Option Addr) (c : Nat) : Array Value := #[.int .i64 o.kind, .int .i64 o.base, .int .i64 o.end_, .int .i64 o.at_, .int .u64 o.gen, .int .u64 o.r.gen, .int .i64 o.r.at_, .int .i64 o.r.kind, .slice A o.r.bytes.length c]
/-- The copy of the Op, in its own block. -/
structure Bx (w : World) (b : Nat) (o : OP22) (A : Option Addr) (c : Nat) : Prop where
  blk : w.heap[b]? = some (.cells (opArr o A c) 65 (0, 0))
namespace Bx
variable {w w1 : World} {b : Nat} {o : OP22} {A : Option Addr} {c : Nat}
end Bx
theorem sealW_ws (D : DM) (base : Int) {r : SR} (hg : 0 ≤ r.gen ∧ r.gen < 18446744073709551616) (hb : Bytes r.bytes) : (D.sealW base r).1.ws.length ≤ D.ws.length + 65536 := by
  unfold DM.sealW
  by_cases he : sealE r = 0
  · rw [if_neg (by simp [he])]
    split
    · show D.ws.length ≤ _; omega
    · have h1 := puts_ws (base + r.at_) (order r) D
      rw [order_len] at h1
      have h2 := bodies_le (right_of he hg hb)
      omega
  · rw [if_pos he]
    show D.ws.length ≤ _; omega
end Go.Proofs.Ytekhmkfiepnnkaa
