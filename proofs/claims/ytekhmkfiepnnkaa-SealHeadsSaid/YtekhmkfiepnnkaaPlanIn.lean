/- A region in a round of a range over a function (at the wide fence), by a walk of the plain calculus: no operation of it is a defer statement. -/
import Derived.Test.YtekhmkfiepnnkaaPlan
import Derived.RangeFuncNested
import Derived.RangeFuncBound
import Derived.RangeFuncCalls
import Derived.RangeFuncLeaves
import Derived.Shelf.Abstract
import Derived.Shelf.RegionOpen
import Derived.WalkKit
import Derived.OwnWalkIn
import Derived.TacticsInMore
import Derived.LoopNIn
import Derived.LoopIn
set_option linter.unusedVariables false
set_option linter.unusedSimpArgs false
namespace Go.Proofs.Ytekhmkfiepnnkaa
section
variable {P : Program} {Q : Exit → Act → World → Prop} {l n : Nat}

/-- No defer statement among them. -/
def noDefer (ops : Array Oper) : Bool := ops.all fun o => match o.op with | .defer _ => false | _ => true
theorem noDefer_spec {ops : Array Oper} (h : noDefer ops = true) {i : Nat} {o : Oper} (ho : ops[i]? = some o) : ∀ c, o.op ≠ .defer c := by
  intro c hc
  obtain ⟨hi, he⟩ := Array.getElem?_eq_some_iff.1 ho
  have := Array.all_eq_true.1 h i hi
  rw [he, hc] at this
  cases this
theorem rows_in {F : Fence} {row : String} {args : Array Value} {w : World} {R : Value → World → Prop} (hF : F = Fence.wide.inRound l) (h : Rows P row args w R) : RowsIn F n P row args w R := by
  subst hF
  intro c cs _
  obtain ⟨v, w', hr, hs⟩ := h c cs
  refine ⟨v, w', hr, ?_⟩
  rw [fenced_inRound]
  exact stepsIn_wide.2 hs
theorem operIn_of_wp {o : Oper} {a : Act} {w : World} {K : Act → World → Prop} (hd : ∀ c, o.op ≠ .defer c) (h : o.wp P a w K Q) : o.wpIn (Fence.wide.inRound l) n P a w K Q := by
  refine ⟨fun f _ => trivial, ?_⟩
  unfold Oper.wp at h
  have e : o.semAt (Fence.wide.inRound l).round a.eval = execOp a.eval o := Oper.semAt_some l _ _ hd
  rw [e]
  generalize (execOp a.eval o).run P w = r at h
  cases r with
  | ok x w' =>
    cases x <;> simp only [Oper.upon, Oper.uponIn] at h ⊢ <;> first
      | exact h
      | exact ⟨fun h0 => by simp [Fence.wide, Fence.inRound] at h0, CallsIn.inRound l (callsIn_wide.2 h)⟩
      | exact ⟨fun h0 => by simp [Fence.wide, Fence.inRound] at h0, rows_in rfl h⟩
      | exact h.elim
  | halt x w' => cases x <;> simp only [Oper.upon, Oper.uponIn] at h ⊢ <;> exact h
theorem opsIn_of_wp {ops : Array Oper} (hd : noDefer ops = true) (hL : ¬ LetsOut Q) : ∀ (is : List Nat) (a : Act) (w : World), wpOps P ops Q is a w → wpOpsIn (Fence.wide.inRound l) n P ops Q is a w
  | [], _, _, h => h
  | i :: rest, a, w, h => by
    unfold wpOps at h
    unfold wpOpsIn
    cases ho : ops[i]? with
    | none => rw [ho] at h; exact opsIn_of_wp hd hL rest a w h
    | some o =>
      rw [ho] at h
      dsimp only at h ⊢
      by_cases hw : Region.wanted o (yielded ops a.tmps) = true
      · rw [if_pos hw] at h ⊢
        have h1 : o.wp P a w (wpOps P ops Q rest) Q := h.resolve_right (fun h => hL h.2)
        exact operIn_of_wp (noDefer_spec hd ho) (Oper.wp_mono (fun a w h => opsIn_of_wp hd hL rest a w h) h1)
      · rw [if_neg hw] at h ⊢
        exact ⟨fun _ _ => trivial, opsIn_of_wp hd hL rest _ w h⟩
theorem regionIn_of_any {id : Nat} {ops : Array Oper} {a : Act} {w : World} (hm : P.follows .mixedOrders = true) (hd : noDefer ops = true) (hL : ¬ LetsOut Q) (h : wpAny P .any ops Q ops.size (Array.replicate ops.size false) a w.drew) :
    (Code.region id ops true).wpIn (Fence.wide.inRound l) n P Q a w :=
  wpIn_region_draw fun t => by
    simp only [Region.schedule, hm, Bool.true_or, if_true]
    exact opsIn_of_wp hd hL _ _ _ (wpAny_sound ops.size t _ a _ h)
/-- A plan, in a round. -/
theorem wpIn_region_plan {id : Nat} {ops : Array Oper} {a : Act} {w : World} (T : List Nat) (p : Plan) (S : World → Prop) (hm : P.follows .mixedOrders = true) (hd : noDefer ops = true) (hB : planB ops T p = true)
    (hL : ¬ LetsOut Q) (hQ : ∀ c a d v w, Q (.panic c) (Act.put a d v) w → Q (.panic c) a w) (hS : S w.drew)
    (h : wpPlan P ops Q p S a w.drew) : (Code.region id ops true).wpIn (Fence.wide.inRound l) n P Q a w := by
  simp only [planB, Bool.and_eq_true, beq_iff_eq] at hB
  have h2 := wpAnyG_of_plan hB.1 hQ p S _ a _ hB.2.2 hS h
  rw [hB.2.1] at h2
  exact regionIn_of_any hm hd hL (wpAny_of_G _ _ _ _ h2)
end
end Go.Proofs.Ytekhmkfiepnnkaa
