/- PROVED: SealOthers answers true at every input, and leaves what it was given as it was; no condition. -/
import Derived.Deep.DeepCutAuto
import Derived.Test.YtekhmkfiepnnkaaRows
import Derived.WalkKit
import Derived.ProofKit
import Derived.OpenShut
import Derived.ShutString
import Derived.ChangeOld
import Derived.Below
import Derived.SizedLaws
import Derived.Test.YtekhmkfiepnnkaaGSA
import Derived.Test.YtekhmkfiepnnkaaGSC
import Derived.Test.YtekhmkfiepnnkaaGSB

/- A plan with three ways. -/
set_option linter.unusedVariables false
set_option linter.unusedSimpArgs false
namespace Go.Proofs.Ytekhmkfiepnnkaa
namespace T3
section
variable {P : Program} {ops : Array Oper} {Q : Exit → Act → World → Prop} {md : Region.Mode}

/-- A plan: 'take i': it only reads; 'run i': the one operation that may come up; 'both i p j q': either may; 'tail i': the one that may, of the tail. -/
inductive Plan where
  | done
  | take (i : Nat) (p : Plan)
  | run (i : Nat) (p : Plan)
  | both (i : Nat) (p : Plan) (j : Nat) (q : Plan)
  | three (i : Nat) (p : Plan) (j : Nat) (q : Plan) (k : Nat) (r : Plan)
  | tail (i : Nat) (p : Plan)
def Plan.size : Plan → Nat
  | .done => 0
  | .take _ p => p.size + 1
  | .run _ p => p.size + 1
  | .both _ p _ _ => p.size + 1
  | .three _ p _ _ _ _ => p.size + 1
  | .tail _ p => p.size + 1
def fresh_ (T : List Nat) (l : Array Bool) : Bool := T.all fun t => !l.getD t false
theorem fresh_spec {T : List Nat} {l : Array Bool} (h : fresh_ T l = true) : ¬ begun_ T l := fun ⟨t, ht, hl⟩ => by
  have := List.all_eq_true.1 h t ht
  rw [hl] at this
  cases this
def Plan.ok (md : Region.Mode) (ops : Array Oper) (T : List Nat) : Plan → Array Bool → Bool
  | .done, l => Region.ready md ops l == []
  | .take i p, l => Region.free md ops l i && ((Region.ready md ops l).contains i && (fresh_ T l && ((T.all fun t => waits_ md ops t i) && p.ok md ops T (l.setIfInBounds i true))))
  | .run i p, l => (Region.ready md ops l == [i]) && p.ok md ops T (l.setIfInBounds i true)
  | .both i p j q, l => (Region.ready md ops l == [i, j]) && (p.size == q.size && (p.ok md ops T (l.setIfInBounds i true) && q.ok md ops T (l.setIfInBounds j true)))
  | .three i p j q k r, l => (Region.ready md ops l == [i, j, k]) && (p.size == q.size && (p.size == r.size && (p.ok md ops T (l.setIfInBounds i true) && (q.ok md ops T (l.setIfInBounds j true) && r.ok md ops T (l.setIfInBounds k true)))))
  | .tail i p, l => (Region.ready md ops l == [i]) && (T.contains i && (decide (i < l.size) && p.ok md ops T (l.setIfInBounds i true)))

def wpRun (P : Program) (ops : Array Oper) (Q : Exit → Act → World → Prop) (i : Nat) (S : World → Prop) (N : (World → Prop) → Act → World → Prop) (a : Act) (w : World) : Prop :=
  ∃ o, ops[i]? = some o ∧ ∀ K : Act → World → Prop, (∀ (S' : World → Prop) a' w', (∀ x, S' x → S x) → S' w' → N S' a' w' → K a' w') →
    if Region.wanted o (yielded ops a.tmps) = true then o.wp P a w K Q else K (a.put o.dst undef) w
def wpEnd (P : Program) (ops : Array Oper) (Q : Exit → Act → World → Prop) (i : Nat) (N : Act → World → Prop) (a : Act) (w : World) : Prop :=
  ∃ o, ops[i]? = some o ∧ ∀ K : Act → World → Prop, (∀ a' w', N a' w' → K a' w') →
    if Region.wanted o (yielded ops a.tmps) = true then o.wp P a w K Q else K (a.put o.dst undef) w
def wpPlan (P : Program) (ops : Array Oper) (Q : Exit → Act → World → Prop) : Plan → (World → Prop) → Act → World → Prop
  | .done, _, a, w => Q .normal a w
  | .take i p, S, a, w => ∃ o v, ops[i]? = some o ∧ YieldsIf P ops S o v a ∧ wpPlan P ops Q p S (a.put o.dst v) w
  | .run i p, S, a, w => wpRun P ops Q i S (wpPlan P ops Q p) a w
  | .both i p j q, S, a, w => wpRun P ops Q i S (wpPlan P ops Q p) a w ∧ wpRun P ops Q j S (wpPlan P ops Q q) a w
  | .three i p j q k r, S, a, w => wpRun P ops Q i S (wpPlan P ops Q p) a w ∧ wpRun P ops Q j S (wpPlan P ops Q q) a w ∧ wpRun P ops Q k S (wpPlan P ops Q r) a w
  | .tail i p, _, a, w => wpEnd P ops Q i (wpPlan P ops Q p (fun _ => True)) a w

theorem plan_done {S : World → Prop} {a : Act} {w : World} (h : Q .normal a w) : wpPlan P ops Q .done S a w := h
theorem plan_take {i : Nat} {p : Plan} {S : World → Prop} {a : Act} {w : World} {o : Oper} {v : Value} (ho : ops[i]? = some o) (hw : Region.wanted o (yielded ops a.tmps) = true)
    (hy : ∀ w, S w → (execOp a.eval o).run P w = .ok (.value v) w) (h : wpPlan P ops Q p S (a.put o.dst v) w) : wpPlan P ops Q (.take i p) S a w := ⟨o, v, ho, .inl ⟨hw, hy⟩, h⟩
theorem plan_skip {i : Nat} {p : Plan} {S : World → Prop} {a : Act} {w : World} {o : Oper} (ho : ops[i]? = some o) (hw : Region.wanted o (yielded ops a.tmps) = false)
    (h : wpPlan P ops Q p S (a.put o.dst undef) w) : wpPlan P ops Q (.take i p) S a w := ⟨o, undef, ho, .inr ⟨hw, rfl⟩, h⟩
theorem plan_run {i : Nat} {p : Plan} {S : World → Prop} {a : Act} {w : World} {o : Oper} (ho : ops[i]? = some o)
    (h : ∀ K : Act → World → Prop, (∀ (S' : World → Prop) a' w', (∀ x, S' x → S x) → S' w' → wpPlan P ops Q p S' a' w' → K a' w') →
      if Region.wanted o (yielded ops a.tmps) = true then o.wp P a w K Q else K (a.put o.dst undef) w) : wpPlan P ops Q (.run i p) S a w := ⟨o, ho, h⟩
theorem plan_both {i j : Nat} {p q : Plan} {S : World → Prop} {a : Act} {w : World} (h : wpPlan P ops Q (.run i p) S a w) (k : wpPlan P ops Q (.run j q) S a w) : wpPlan P ops Q (.both i p j q) S a w := ⟨h, k⟩
theorem plan_three {i j k : Nat} {p q r : Plan} {S : World → Prop} {a : Act} {w : World} (h : wpPlan P ops Q (.run i p) S a w) (h2 : wpPlan P ops Q (.run j q) S a w) (h3 : wpPlan P ops Q (.run k r) S a w) : wpPlan P ops Q (.three i p j q k r) S a w := ⟨h, h2, h3⟩
theorem plan_tail {i : Nat} {p : Plan} {S : World → Prop} {a : Act} {w : World} {o : Oper} (ho : ops[i]? = some o)
    (h : ∀ K : Act → World → Prop, (∀ a' w', wpPlan P ops Q p (fun _ => True) a' w' → K a' w') →
      if Region.wanted o (yielded ops a.tmps) = true then o.wp P a w K Q else K (a.put o.dst undef) w) : wpPlan P ops Q (.tail i p) S a w := ⟨o, ho, h⟩

theorem plan_run_on {i : Nat} {p : Plan} {S : World → Prop} {a : Act} {w : World} {o : Oper} (ho : ops[i]? = some o) (hw : Region.wanted o (yielded ops a.tmps) = true)
    (h : ∀ K : Act → World → Prop, (∀ (S' : World → Prop) a' w', (∀ x, S' x → S x) → S' w' → wpPlan P ops Q p S' a' w' → K a' w') → o.wp P a w K Q) : wpPlan P ops Q (.run i p) S a w :=
  plan_run ho (fun K hK => by rw [if_pos hw]; exact h K hK)
theorem plan_run_off {i : Nat} {p : Plan} {S : World → Prop} {a : Act} {w : World} {o : Oper} (ho : ops[i]? = some o) (hw : Region.wanted o (yielded ops a.tmps) = false) (hS : S w)
    (h : wpPlan P ops Q p S (a.put o.dst undef) w) : wpPlan P ops Q (.run i p) S a w :=
  plan_run ho (fun K hK => by rw [if_neg (by rw [hw]; simp)]; exact hK S _ _ (fun _ h => h) hS h)
theorem plan_tail_on {i : Nat} {p : Plan} {S : World → Prop} {a : Act} {w : World} {o : Oper} (ho : ops[i]? = some o) (hw : Region.wanted o (yielded ops a.tmps) = true)
    (h : ∀ K : Act → World → Prop, (∀ a' w', wpPlan P ops Q p (fun _ => True) a' w' → K a' w') → o.wp P a w K Q) : wpPlan P ops Q (.tail i p) S a w :=
  plan_tail ho (fun K hK => by rw [if_pos hw]; exact h K hK)
theorem plan_tail_off {i : Nat} {p : Plan} {S : World → Prop} {a : Act} {w : World} {o : Oper} (ho : ops[i]? = some o) (hw : Region.wanted o (yielded ops a.tmps) = false)
    (h : wpPlan P ops Q p (fun _ => True) (a.put o.dst undef) w) : wpPlan P ops Q (.tail i p) S a w :=
  plan_tail ho (fun K hK => by rw [if_neg (by rw [hw]; simp)]; exact hK _ _ h)

theorem wpOp_of_run {i : Nat} {o : Oper} {K : Act → World → Prop} {a : Act} {w : World} (ho : ops[i]? = some o)
    (h : if Region.wanted o (yielded ops a.tmps) = true then o.wp P a w K Q else K (a.put o.dst undef) w) : wpOp P ops Q i K a w := by
  unfold wpOp
  simp only [ho]
  split
  · rename_i hw; rw [if_pos hw] at h; exact .inl h
  · rename_i hw; rw [if_neg hw] at h; exact h

theorem wpAnyG_of_plan {T : List Nat} (hs : Region.noSelect ops = true) (hQ : ∀ c a d v w, Q (.panic c) (Act.put a d v) w → Q (.panic c) a w) :
    ∀ (p : Plan) (S : World → Prop) (listed : Array Bool) (a : Act) (w : World), p.ok md ops T listed = true → S w → wpPlan P ops Q p S a w → wpAnyG P md ops Q T S p.size listed a w
  | .done, S, listed, a, w, hk, hS, h => by
    simp only [Plan.ok, beq_iff_eq] at hk
    exact ⟨hk, h⟩
  | .take i p, S, listed, a, w, hk, hS, h => by
    simp only [Plan.ok, Bool.and_eq_true] at hk
    obtain ⟨o, v, ho, hy, h⟩ := h
    exact wpAnyG_first ho (Region.noSelect_spec hs) (fun c a w h => hQ c a _ _ w h) (fun t ht => List.all_eq_true.1 hk.2.2.2.1 t ht) _ listed a w (fresh_spec hk.2.2.1) (Region.free_spec ho hk.1) (by simpa using hk.2.1) hy hS
      (wpAnyG_of_plan hs hQ p S _ _ w hk.2.2.2.2 hS h)
  | .run i p, S, listed, a, w, hk, hS, h => by
    simp only [Plan.ok, Bool.and_eq_true, beq_iff_eq] at hk
    refine ⟨fun h0 => (by rw [hk.1] at h0; cases h0), fun j hj => ?_⟩
    rw [hk.1] at hj
    obtain rfl : j = i := by simpa using hj
    obtain ⟨o, ho, h⟩ := h
    exact wpOp_of_run ho (h _ (fun S' a' w' hS' hw' hN => ⟨.inr (hS' _ hw'), wpAnyG_weaken hS' _ _ _ _ (wpAnyG_of_plan hs hQ p S' _ a' w' hk.2 hw' hN)⟩))
  | .both i p j q, S, listed, a, w, hk, hS, h => by
    simp only [Plan.ok, Bool.and_eq_true, beq_iff_eq] at hk
    refine ⟨fun h0 => (by rw [hk.1] at h0; cases h0), fun k hk' => ?_⟩
    rw [hk.1] at hk'
    have hk2 : k = i ∨ k = j := by simpa using hk'
    rcases hk2 with rfl | rfl
    · obtain ⟨o, ho, h⟩ := h.1
      exact wpOp_of_run ho (h _ (fun S' a' w' hS' hw' hN => ⟨.inr (hS' _ hw'), wpAnyG_weaken hS' _ _ _ _ (wpAnyG_of_plan hs hQ p S' _ a' w' hk.2.2.1 hw' hN)⟩))
    · obtain ⟨o, ho, h⟩ := h.2
      refine wpOp_of_run ho (h _ (fun S' a' w' hS' hw' hN => ⟨.inr (hS' _ hw'), wpAnyG_weaken hS' _ _ _ _ ?_⟩))
      show wpAnyG P md ops Q T S' p.size _ _ _
      rw [hk.2.1]
      exact wpAnyG_of_plan hs hQ q S' _ a' w' hk.2.2.2 hw' hN
  | .three i p j q l r, S, listed, a, w, hk, hS, h => by
    simp only [Plan.ok, Bool.and_eq_true, beq_iff_eq] at hk
    refine ⟨fun h0 => (by rw [hk.1] at h0; cases h0), fun k hk' => ?_⟩
    rw [hk.1] at hk'
    have hk2 : k = i ∨ k = j ∨ k = l := by simpa using hk'
    rcases hk2 with rfl | rfl | rfl
    · obtain ⟨o, ho, h⟩ := h.1
      exact wpOp_of_run ho (h _ (fun S' a' w' hS' hw' hN => ⟨.inr (hS' _ hw'), wpAnyG_weaken hS' _ _ _ _ (wpAnyG_of_plan hs hQ p S' _ a' w' hk.2.2.2.1 hw' hN)⟩))
    · obtain ⟨o, ho, h⟩ := h.2.1
      refine wpOp_of_run ho (h _ (fun S' a' w' hS' hw' hN => ⟨.inr (hS' _ hw'), wpAnyG_weaken hS' _ _ _ _ ?_⟩))
      show wpAnyG P md ops Q T S' p.size _ _ _
      rw [hk.2.1]
      exact wpAnyG_of_plan hs hQ q S' _ a' w' hk.2.2.2.2.1 hw' hN
    · obtain ⟨o, ho, h⟩ := h.2.2
      refine wpOp_of_run ho (h _ (fun S' a' w' hS' hw' hN => ⟨.inr (hS' _ hw'), wpAnyG_weaken hS' _ _ _ _ ?_⟩))
      show wpAnyG P md ops Q T S' p.size _ _ _
      rw [hk.2.2.1]
      exact wpAnyG_of_plan hs hQ r S' _ a' w' hk.2.2.2.2.2 hw' hN
  | .tail i p, S, listed, a, w, hk, hS, h => by
    simp only [Plan.ok, Bool.and_eq_true, beq_iff_eq, decide_eq_true_eq] at hk
    refine ⟨fun h0 => (by rw [hk.1] at h0; cases h0), fun j hj => ?_⟩
    rw [hk.1] at hj
    obtain rfl : j = i := by simpa using hj
    obtain ⟨o, ho, h⟩ := h
    have hb : begun_ T (listed.setIfInBounds j true) := ⟨j, by simpa using hk.2.1, by simp [hk.2.2.1]⟩
    exact wpOp_of_run ho (h _ (fun a' w' hN => ⟨.inl hb, wpAnyG_tail _ _ _ _ hb (wpAnyG_of_plan hs hQ p (fun _ => True) _ a' w' hk.2.2.2 trivial hN)⟩))

def planB (ops : Array Oper) (T : List Nat) (p : Plan) : Bool := Region.noSelect ops && (p.size == ops.size && p.ok .any ops T (Array.replicate ops.size false))
theorem wp_region_plan {id : Nat} {a : Act} {w : World} (T : List Nat) (p : Plan) (S : World → Prop) (hm : P.follows .mixedOrders = true) (hB : planB ops T p = true)
    (hQ : ∀ c a d v w, Q (.panic c) (Act.put a d v) w → Q (.panic c) a w) (hS : S w.drew)
    (h : wpPlan P ops Q p S a w.drew) : (Code.region id ops true).wp P Q a w := by
  simp only [planB, Bool.and_eq_true, beq_iff_eq] at hB
  have h2 := wpAnyG_of_plan hB.1 hQ p S _ a _ hB.2.2 hS h
  rw [hB.2.1] at h2
  exact wp_region_any hm (wpAny_of_G _ _ _ _ h2)
end
end T3
end Go.Proofs.Ytekhmkfiepnnkaa

/- Package foundrylaw22: SealOthers, walked. Printed by wip/tools/gen_others.py. -/
set_option linter.unusedVariables false
set_option linter.unusedSimpArgs false
namespace Go.Proofs.Ytekhmkfiepnnkaa
open Go.RowKit Go.Proofs.YtekhmkfiepnnkaaW.PrintWords Go.Proofs.YtekhmkfiepnnkaaW.PrintMore

/-- What mine hands back, later. -/
def MineF (w2 W : World) (A : Option Addr) (c : Nat) (r : SR) : Prop := KB.R 5 W w2.heap.size (fun k => w2.heap.size ≤ k) (.slice A r.bytes.length c) r.bytes ∧ r.bytes.length ≤ c
theorem MineF.step {w2 W W' : World} {A : Option Addr} {c : Nat} {r : SR} (h : MineF w2 W A c r) (hb : Below W.heap.size W W') : MineF w2 W' A c r := ⟨Kd.R_below h.1 hb, h.2⟩
/-- A record's variable, just made. -/
def ZF (w2 W : World) (b : Nat) : Prop := W.heap[b]? = some (.cells #[.int .u64 0, .int .i64 0, .int .i64 0, .slice none 0 0] 25 (0, 0)) ∧ w2.heap.size ≤ b
theorem ZF.step {w2 W W' : World} {b : Nat} (h : ZF w2 W b) (hb : Below W.heap.size W W') : ZF w2 W' b := ⟨(hb.block _ (blk_lt h.1)).trans h.1, h.2⟩
theorem R_W4s {w : World} {base b n c : Nat} {ok : Nat → Prop} {A : Option Addr} {xs : List Int} {a0 a1 a2 a3 : Value} (h : KB.R 5 w base ok (.slice A n c) xs) (hb : w.heap[b]? = some (.cells #[a0, a1, a2, a3] 25 (0, 0))) (v0 v1 v2 v3 : Value) :
    KB.R 5 (W4s w b v0 v1 v2 v3) base ok (.slice A n c) xs := by
  have h1 := heap_setCell_same w b 0 _ _ v0 hb
  have h2 := heap_setCell_same _ b 1 _ _ v1 h1
  have h3 := heap_setCell_same _ b 2 _ _ v2 h2
  exact Kd.R_set (Kd.R_set (Kd.R_set (Kd.R_set h hb (by decide) 0 v0) h1 (by decide) 1 v1) h2 (by decide) 2 v2) h3 (by decide) 3 v3
theorem W4s_ne (w : World) {b k : Nat} (h : k ≠ b) (v0 v1 v2 v3 : Value) : (W4s w b v0 v1 v2 v3).heap[k]? = w.heap[k]? := by
  unfold W4s
  rw [Below.heap_setCell _ _ _ _ h, Below.heap_setCell _ _ _ _ h, Below.heap_setCell _ _ _ _ h, Below.heap_setCell _ _ _ _ h]
/-- Two records of one's own. -/
structure Two (w2 W : World) (b6 b7 : Nat) (A6 A7 : Option Addr) (c6 c7 : Nat) (r s : SR) : Prop where
  ne : b6 ≠ b7
  r6 : W.heap[b6]? = some (.cells #[.int .u64 r.gen, .int .i64 r.at_, .int .i64 r.kind, .slice A6 r.bytes.length c6] 25 (0, 0))
  r7 : W.heap[b7]? = some (.cells #[.int .u64 s.gen, .int .i64 s.at_, .int .i64 s.kind, .slice A7 s.bytes.length c7] 25 (0, 0))
  g6 : w2.heap.size ≤ b6
  g7 : w2.heap.size ≤ b7
  m6 : MineF w2 W A6 c6 r
  m7 : MineF w2 W A7 c7 s
  bel : Below w2.heap.size w2 W
theorem cut_leaf {w2 W : World} {b6 b7 : Nat} {A6 A7 : Option Addr} {c6 c7 : Nat} {r s : SR} {goal : Prop} (M6 : MineF w2 W A6 c6 r) (M7 : MineF w2 W A7 c7 s) (Z6 : ZF w2 W b6) (Z7 : ZF w2 W b7) (hne : b6 ≠ b7) (HB : Below w2.heap.size w2 W)
    (h : (∀ j v, ([Value.int .u64 0, .int .i64 0, .int .i64 0, .slice none 0 0] : List Value)[j]? = some v → W.cell? ⟨b6, j, none⟩ = some v) → (∀ j v, ([Value.int .u64 0, .int .i64 0, .int .i64 0, .slice none 0 0] : List Value)[j]? = some v → W.cell? ⟨b7, j, none⟩ = some v) →
      (∀ j, W.frozen? ⟨b6, j, none⟩ = false) → (∀ j, W.frozen? ⟨b7, j, none⟩ = false) →
      Below w2.heap.size w2 (W4s W b6 (.int .u64 r.gen) (.int .i64 r.at_) (.int .i64 r.kind) (.slice A6 r.bytes.length c6)) →
      Below w2.heap.size w2 (W4s (W4s W b6 (.int .u64 r.gen) (.int .i64 r.at_) (.int .i64 r.kind) (.slice A6 r.bytes.length c6)) b7 (.int .u64 s.gen) (.int .i64 s.at_) (.int .i64 s.kind) (.slice A7 s.bytes.length c7)) →
      Two w2 (W4s (W4s W b6 (.int .u64 r.gen) (.int .i64 r.at_) (.int .i64 r.kind) (.slice A6 r.bytes.length c6)) b7 (.int .u64 s.gen) (.int .i64 s.at_) (.int .i64 s.kind) (.slice A7 s.bytes.length c7)) b6 b7 A6 A7 c6 c7 r s → goal) : goal := by
  have z7 : (W4s W b6 (.int .u64 r.gen) (.int .i64 r.at_) (.int .i64 r.kind) (.slice A6 r.bytes.length c6)).heap[b7]? = some (.cells #[.int .u64 0, .int .i64 0, .int .i64 0, .slice none 0 0] 25 (0, 0)) := (W4s_ne W (fun e => hne e.symm) _ _ _ _).trans Z7.1
  have hb1 := below4 HB Z6.2 (.int .u64 r.gen) (.int .i64 r.at_) (.int .i64 r.kind) (.slice A6 r.bytes.length c6)
  have hb2 := below4 hb1 Z7.2 (.int .u64 s.gen) (.int .i64 s.at_) (.int .i64 s.kind) (.slice A7 s.bytes.length c7)
  refine h (fun j v hj => ?_) (fun j v hj => ?_) (fun j => frozen_of_row _ _ _ _ _ Z6.1) (fun j => frozen_of_row _ _ _ _ _ Z7.1) hb1 hb2
    ⟨hne, (W4s_ne _ hne _ _ _ _).trans (set4 Z6.1 _ _ _ _), set4 z7 _ _ _ _, Z6.2, Z7.2, ⟨R_W4s (R_W4s M6.1 Z6.1 _ _ _ _) z7 _ _ _ _, M6.2⟩, ⟨R_W4s (R_W4s M7.1 Z6.1 _ _ _ _) z7 _ _ _ _, M7.2⟩, hb2⟩
  · rw [cell_of_row _ _ j _ _ _ Z6.1]; simpa using hj
  · rw [cell_of_row _ _ j _ _ _ Z7.1]; simpa using hj
theorem others_plain {D : DM} (ho : On64 D) {r s : SR} (hr : r.right) (hs : s.right) (fr : r.at_ + ((bodies r : Int) + 1) ≤ 62) (fs : s.at_ + ((bodies s : Int) + 1) ≤ 62) :
    (D.sealW 2 r).2 = 0 ∧ ((D.sealW 2 r).1.sealW 2 s).2 = 0 ∧ (D.sealW 2 r).1.ws.length ≤ D.ws.length + 64 ∧
    readV ((D.sealW 2 r).1.sealW 2 s).1 2 64 s.gen s.at_ = some s ∧ readE ((D.sealW 2 r).1.sealW 2 s).1 2 64 s.at_ = 0 ∧ readE ((D.sealW 2 r).1.sealW 2 s).1 2 64 r.at_ = 0 ∧
    ((r.at_ + ((bodies r : Int) + 1) ≤ s.at_ ∨ s.at_ + ((bodies s : Int) + 1) ≤ r.at_) → readV ((D.sealW 2 r).1.sealW 2 s).1 2 64 r.gen r.at_ = some r) := by
  have a1 := hr.a
  have a2 := hs.a
  rcases sealW_cases ho hr 2 with ⟨hx, _⟩ | ⟨x1, br, e1, e2, e3, e4, S1⟩
  · omega
  have o1 := S1.on ho
  rcases sealW_cases o1 hs 2 with ⟨hx, _⟩ | ⟨x2, bs, f1, f2, f3, f4, S2⟩
  · omega
  obtain rfl : x1 = 2 := by omega
  obtain rfl : x2 = 2 := by omega
  have o2 := S2.on o1
  obtain ⟨g1, g2⟩ := S2.reads hs (base := 2) (end_ := 64) f2 (by rw [o1.n]; omega) f3
  have hE : readE ((D.sealW 2 r).1.sealW 2 s).1 2 64 r.at_ = 0 := by
    unfold readE regE
    rw [if_neg (by omega), if_neg (by rw [o2.n]; omega), if_neg (by rw [o2.gone]; simp)]
  refine ⟨e4, f4, by rw [S1.wsLen]; omega, g1, g2, hE, fun hap => ?_⟩
  refine reads_there (base := 2) (end_ := 64) (b := br) hr e2 hE e3 ?_ ?_
  · rw [S2.blk]; unfold sealedB
    rw [if_neg (by omega), if_neg (by omega), S1.blk]; unfold sealedB
    rw [if_pos ⟨rfl, rfl⟩]
  · intro k hk
    rw [S2.blk]; unfold sealedB
    rw [if_neg (by omega), if_neg (by omega), S1.blk]; unfold sealedB
    rw [if_neg (by omega), if_pos (by omega)]
    congr 1
    omega
theorem readV_own {D : DM} {base end_ gen at_ : Int} {y : SR} (h : readV D base end_ gen at_ = some y) : y.gen = gen ∧ y.at_ = at_ := by
  unfold readV at h
  split at h
  · injection h with h; rw [← h]; exact ⟨rfl, rfl⟩
  · cases h
theorem same_some {w : World} {A A' : Option Addr} {c c' : Nat} (r s : SR) (h : KB.C w A r.bytes.length r.bytes) (hc : r.bytes.length ≤ c) (h' : KB.C w A' s.bytes.length s.bytes) (hc' : s.bytes.length ≤ c') :
    ∃ t, Calls Try.prog 30 #[recV r A c, recV s A' c'] w fun e w' => e = .returned (.bool t) ∧ Below w.heap.size w w' := by
  have hex : ∃ t, KCarveC.foundrylaw22_same.f r.gen r.at_ r.kind r.bytes s.gen s.at_ s.kind s.bytes = some t := by
    unfold KCarveC.foundrylaw22_same.f KCarveA.foundrylaw22_sameBytes.f
    split
    · split
      · split
        · exact ⟨_, rfl⟩
        · exact ⟨_, rfl⟩
      · exact ⟨_, rfl⟩
    · exact ⟨_, rfl⟩
  obtain ⟨t, ht⟩ := hex
  exact ⟨t, KCarveC.foundrylaw22_same.calls r.gen r.at_ r.kind A c r.bytes s.gen s.at_ s.kind A' c' s.bytes t w h hc h' hc' ht⟩
/-- Blocks of any record. -/
theorem blocks_gen {w : World} {okr : Nat → Prop} {A : Option Addr} {c : Nat} (r : SR) (hF : RB w okr A r.bytes) (hl : r.bytes.length ≤ c) (hr : r.ok) :
    Calls Try.prog 24 #[recV r A c] w fun e w' => ∃ A' n c', e = .returned (.tuple #[.slice A' n c', .int .i64 (sealE r)]) ∧ (sealE r = 0 → n = bodies r + 1) ∧ Below w.heap.size w w' := by
  by_cases he : sealE r = 0
  · refine (sealBlocks_ok r hF hl (right_of he hr.g hr.b)).mono ?_
    rintro e w' ⟨v, rfl, hO, hB⟩
    obtain ⟨A', c', rfl⟩ := hO.slice
    exact ⟨A', _, c', by rw [he], fun _ => blkList_len r, hB⟩
  · refine (blocksErr r (RB_len hF) he).mono ?_
    rintro e w' ⟨rfl, hB⟩
    exact ⟨none, 0, 0, rfl, fun h => absurd h he, hB⟩
set_option maxRecDepth 100000 in
set_option maxHeartbeats 8000000 in
theorem sealOthers_any {w : World} {A A1 : Option Addr} {c c1 : Nat} (r s : SR) (hC : KB.C w A r.bytes.length r.bytes) (hle : r.bytes.length ≤ c) (hrok : r.ok) (hC1 : KB.C w A1 s.bytes.length s.bytes) (hle1 : s.bytes.length ≤ c1) (hsok : s.ok) :
  Calls Try.prog 7 #[recV r A c, recV s A1 c1] w fun e w' => e = .returned (.bool true) ∧ Below w.heap.size w w' := by
  have hFr := RB_of_C hC
  have hFs := RB_of_C hC1
  have hb0 := below_alloc (below_alloc (Below.refl w.heap.size w) (.cells #[.int .u64 r.gen, .int .i64 r.at_, .int .i64 r.kind, .slice A r.bytes.length c] 28)) (.cells #[.int .u64 s.gen, .int .i64 s.at_, .int .i64 s.kind, .slice A1 s.bytes.length c1] 28)
  have hn0' := heap_alloc_new w (.cells #[.int .u64 r.gen, .int .i64 r.at_, .int .i64 r.kind, .slice A r.bytes.length c] 28)
  have hp0 := heap_alloc_new (w.alloc (.cells #[.int .u64 r.gen, .int .i64 r.at_, .int .i64 r.kind, .slice A r.bytes.length c] 28)) (.cells #[.int .u64 s.gen, .int .i64 s.at_, .int .i64 s.kind, .slice A1 s.bytes.length c1] 28)
  have hn0 := (Below.heap_alloc (w.alloc (.cells #[.int .u64 r.gen, .int .i64 r.at_, .int .i64 r.kind, .slice A r.bytes.length c] 28)) (.cells #[.int .u64 s.gen, .int .i64 s.at_, .int .i64 s.kind, .slice A1 s.bytes.length c1] 28) _ (blk_lt hn0')).trans hn0'
  rw [World.size_alloc] at hp0
  clear hn0'
  unfold recV
  go_enter Try.func7, Try.ntmps7
  go_wp2_with fail
  generalize (w.alloc (.cells #[.int .u64 r.gen, .int .i64 r.at_, .int .i64 r.kind, .slice A r.bytes.length c] 28)).alloc (.cells #[.int .u64 s.gen, .int .i64 s.at_, .int .i64 s.kind, .slice A1 s.bytes.length c1] 28) = w0 at hb0 hn0 hp0 ⊢
  refine live_any.mono ?_
  rintro e w1 ⟨rfl, b1⟩
  have hb1 : Below w.heap.size w w1 := hb0.trans (b1.mono hb0.size)
  have hn1 := (b1.block _ (blk_lt hn0)).trans hn0
  have hp1 := (b1.block _ (blk_lt hp0)).trans hp0
  have hl0 := laid_any (w := w1) (c := 0) (RB_nil w1 (fun _ => False) 0) (fun x hx => absurd hx (by simp)) (Nat.le_refl _) (by simp) (fun k hk => hk.elim)
  go_wp2_with fail
  refine hl0.mono ?_
  rintro e w2 ⟨p, rfl, h2, b2⟩
  obtain ⟨hon, hws⟩ := laidK_on (b := []) (fun x hx => absurd hx (by simp)) (laidN []) (Nat.le_refl _)
  have hws64 : laidN [] = 0 := rfl
  generalize laidK [] (laidN []) = D at h2 hon hws
  rw [hws64] at hws
  have HWS := hid hws
  have hb2 : Below w.heap.size w w2 := hb1.trans (b2.mono hb1.size)
  have hn2 := (b2.block _ (blk_lt hn1)).trans hn1
  have hp2 := (b2.block _ (blk_lt hp1)).trans hp1
  have hFr2 := RB_below hFr hb2
  have hFs2 := RB_below hFs hb2
  have hs1 : w.heap.size < w1.heap.size := blk_lt hn1
  have hs12 : w1.heap.size ≤ w2.heap.size := b2.size
  clear b1 b2 hl0 hn1 hn0 hp1 hp0 hb0 hFr hFs hws hb1 hC hC1
  have q0 := cell_of_row _ _ 0 _ _ _ hn2
  have q1 := cell_of_row _ _ 1 _ _ _ hn2
  have q2 := cell_of_row _ _ 2 _ _ _ hn2
  have q3 := cell_of_row _ _ 3 _ _ _ hn2
  have y0 := cell_of_row _ _ 0 _ _ _ hp2
  have y1 := cell_of_row _ _ 1 _ _ _ hp2
  have y2 := cell_of_row _ _ 2 _ _ _ hp2
  have y3 := cell_of_row _ _ 3 _ _ _ hp2
  simp at q0 q1 q2 q3 y0 y1 y2 y3
  have mr : ∀ W, Below w2.heap.size w2 W → Calls Try.prog 21 #[.agg #[.int .u64 r.gen, .int .i64 r.at_, .int .i64 r.kind, .slice A r.bytes.length c]] W fun e w' => ∃ A' c', e = .returned (.agg #[.int .u64 r.gen, .int .i64 r.at_, .int .i64 r.kind, .slice A' r.bytes.length c']) ∧ MineF w2 w' A' c' r ∧ Below W.heap.size W w' := fun W hW => by
    refine (mine_any r (Kd.F_now (RB_below hFr2 hW)) hle (by have := hrok.l; omega)).mono ?_
    rintro e w' ⟨A', c', he, hR, hl, hB⟩
    exact ⟨A', c', he, ⟨Kd.R_lower (Kd.R_mono hR (fun k hk => Nat.le_trans hW.size hk)) hW.size, hl⟩, hB⟩
  have ms : ∀ W, Below w2.heap.size w2 W → Calls Try.prog 21 #[.agg #[.int .u64 s.gen, .int .i64 s.at_, .int .i64 s.kind, .slice A1 s.bytes.length c1]] W fun e w' => ∃ A' c', e = .returned (.agg #[.int .u64 s.gen, .int .i64 s.at_, .int .i64 s.kind, .slice A' s.bytes.length c']) ∧ MineF w2 w' A' c' s ∧ Below W.heap.size W w' := fun W hW => by
    refine (mine_any s (Kd.F_now (RB_below hFs2 hW)) hle1 (by have := hsok.l; omega)).mono ?_
    rintro e w' ⟨A', c', he, hR, hl, hB⟩
    exact ⟨A', c', he, ⟨Kd.R_lower (Kd.R_mono hR (fun k hk => Nat.le_trans hW.size hk)) hW.size, hl⟩, hB⟩
  have HMR := hid mr
  have HMS := hid ms
  clear mr ms hFr2 hFs2 hn2 hp2
  go_upto_region 4 with (fail)
  go_cut [6, 7] (fun v6 v7 wc => ∃ b6 b7 A6 c6 A7 c7, v6 = .pointer (some ⟨b6, 0, none⟩) ∧ v7 = .pointer (some ⟨b7, 0, none⟩) ∧ Two w2 wc b6 b7 A6 A7 c6 c7 r s)
  case first =>
    have mr := HMR.out
    have ms := HMS.out
    refine T3.wp_region_plan [] (.take 0 (.take 2 (.three 1 (.three 3 (.both 4 (.run 5 (.run 6 (.run 7 .done))) 5 (.run 4 (.run 6 (.run 7 .done)))) 4 (.both 3 (.run 5 (.run 6 (.run 7 .done))) 5 (.run 3 (.run 6 (.run 7 .done)))) 5 (.both 3 (.run 4 (.run 6 (.run 7 .done))) 4 (.run 3 (.run 6 (.run 7 .done))))) 4 (.both 1 (.both 3 (.run 5 (.run 6 (.run 7 .done))) 5 (.run 3 (.run 6 (.run 7 .done)))) 5 (.run 1 (.run 3 (.run 6 (.run 7 .done))))) 5 (.both 1 (.both 3 (.run 4 (.run 6 (.run 7 .done))) 4 (.run 3 (.run 6 (.run 7 .done)))) 4 (.run 1 (.run 3 (.run 6 (.run 7 .done)))))))) (fun w' => Below w2.heap.size w2 w') (by kernel_rfl) (by kernel_rfl) (fun c a d v w h => by cases d <;> exact h) (below_drew (Below.refl _ _)) ?_
    have HB : Below w2.heap.size w2 w2.drew := below_drew (Below.refl _ _)
    generalize w2.drew = u0w at HB ⊢
    apply T3.plan_take rfl rfl
    case hy => (intro w' hS; have e0 := pw_cell_below hS q0; have e1 := pw_cell_below hS q1; have e2 := pw_cell_below hS q2; have e3 := pw_cell_below hS q3; clear hS; go_simp; try exact rfl)
    go_simp
    apply T3.plan_take rfl rfl
    case hy => (intro w' hS; have e0 := pw_cell_below hS y0; have e1 := pw_cell_below hS y1; have e2 := pw_cell_below hS y2; have e3 := pw_cell_below hS y3; clear hS; go_simp; try exact rfl)
    go_simp
    clear q0 q1 q2 q3 y0 y1 y2 y3
    refine T3.plan_three ?_ ?_ ?_
    ·
      refine T3.plan_run_on rfl rfl (fun K hK => ?_)
      go_simp
      refine (mr _ HB).mono ?_
      rintro e u1w ⟨A6, c6, rfl, M6n, hb⟩
      have HBn := below_step HB hb
      refine hK _ _ _ (fun _ h => h) HBn ?_
      clear hK K hb HB 
      have M6 := M6n
      have HB := HBn
      clear HBn M6n
      go_simp
      refine T3.plan_three ?_ ?_ ?_
      ·
        refine T3.plan_run_on rfl rfl (fun K hK => ?_)
        go_simp
        refine (ms _ HB).mono ?_
        rintro e u2w ⟨A7, c7, rfl, M7n, hb⟩
        have M6n := M6.step hb
        have HBn := below_step HB hb
        refine hK _ _ _ (fun _ h => h) HBn ?_
        clear hK K hb HB M6
        have M6 := M6n
        have M7 := M7n
        have HB := HBn
        clear HBn M6n M7n
        go_simp
        refine T3.plan_both ?_ ?_
        ·
          refine T3.plan_run_on rfl rfl (fun K hK => ?_)
          go_simp
          have hb := below_alloc (Below.refl u2w.heap.size u2w) (.cells #[.int .u64 0, .int .i64 0, .int .i64 0, .slice none 0 0] 25)
          have Z6n : ZF w2 (u2w.alloc (.cells #[.int .u64 0, .int .i64 0, .int .i64 0, .slice none 0 0] 25)) u2w.heap.size := ⟨heap_alloc_new _ _, HB.size⟩
          have M6n := M6.step hb
          have M7n := M7.step hb
          have HBn := below_step HB hb
          refine hK _ _ _ (fun _ h => h) HBn ?_
          clear hK K hb HB M6 M7
          generalize u2w.alloc (.cells #[.int .u64 0, .int .i64 0, .int .i64 0, .slice none 0 0] 25) = u3w at M6n M7n Z6n HBn ⊢
          generalize u2w.heap.size = b6 at Z6n  ⊢
          have M6 := M6n
          have M7 := M7n
          have Z6 := Z6n
          have HB := HBn
          clear HBn M6n M7n Z6n
          go_simp
          refine T3.plan_run_on rfl rfl (fun K hK => ?_)
          go_simp
          have hb := below_alloc (Below.refl u3w.heap.size u3w) (.cells #[.int .u64 0, .int .i64 0, .int .i64 0, .slice none 0 0] 25)
          have Z7n : ZF w2 (u3w.alloc (.cells #[.int .u64 0, .int .i64 0, .int .i64 0, .slice none 0 0] 25)) u3w.heap.size := ⟨heap_alloc_new _ _, HB.size⟩
          have M6n := M6.step hb
          have M7n := M7.step hb
          have Z6n := Z6.step hb
          have hbb : b6 < u3w.heap.size := blk_lt Z6.1
          have HBn := below_step HB hb
          refine hK _ _ _ (fun _ h => h) HBn ?_
          clear hK K hb HB M6 M7 Z6
          generalize u3w.alloc (.cells #[.int .u64 0, .int .i64 0, .int .i64 0, .slice none 0 0] 25) = u4w at M6n M7n Z6n Z7n HBn ⊢
          generalize u3w.heap.size = b7 at Z7n hbb ⊢
          have M6 := M6n
          have M7 := M7n
          have Z6 := Z6n
          have Z7 := Z7n
          have HB := HBn
          clear HBn M6n M7n Z6n Z7n
          go_simp
          have hne : b6 ≠ b7 := by omega
          have hne2 : b7 ≠ b6 := by omega
          refine cut_leaf M6 M7 Z6 Z7 hne HB ?_
          intro hz6 hz7 f6 f7 HB1 HB2 hS
          have a0 := hz6 0 _ rfl
          have a1 := hz6 1 _ rfl
          have a2 := hz6 2 _ rfl
          have a3 := hz6 3 _ rfl
          have d0 := hz7 0 _ rfl
          have d1 := hz7 1 _ rfl
          have d2 := hz7 2 _ rfl
          have d3 := hz7 3 _ rfl
          have g0 := f6 0
          have g1 := f6 1
          have g2 := f6 2
          have g3 := f6 3
          have x0 := f7 0
          have x1 := f7 1
          have x2 := f7 2
          have x3 := f7 3
          clear hz6 hz7 f6 f7 M6 M7 Z6 Z7
          refine T3.plan_run_on rfl rfl (fun K hK => ?_)
          go_simp
          refine hK _ _ _ (fun _ h => h) HB1 ?_
          clear hK K
          go_simp
          refine T3.plan_run_on rfl rfl (fun K hK => ?_)
          go_simp
          refine hK _ _ _ (fun _ h => h) HB2 ?_
          clear hK K
          refine T3.plan_done ?_
          go_wp2_with fail
          go_meet
          case rel => exact ⟨b6, b7, A6, c6, A7, c7, rfl, rfl, hS⟩
        ·
          refine T3.plan_run_on rfl rfl (fun K hK => ?_)
          go_simp
          have hb := below_alloc (Below.refl u2w.heap.size u2w) (.cells #[.int .u64 0, .int .i64 0, .int .i64 0, .slice none 0 0] 25)
          have Z7n : ZF w2 (u2w.alloc (.cells #[.int .u64 0, .int .i64 0, .int .i64 0, .slice none 0 0] 25)) u2w.heap.size := ⟨heap_alloc_new _ _, HB.size⟩
          have M6n := M6.step hb
          have M7n := M7.step hb
          have HBn := below_step HB hb
          refine hK _ _ _ (fun _ h => h) HBn ?_
          clear hK K hb HB M6 M7
          generalize u2w.alloc (.cells #[.int .u64 0, .int .i64 0, .int .i64 0, .slice none 0 0] 25) = u3w at M6n M7n Z7n HBn ⊢
          generalize u2w.heap.size = b7 at Z7n  ⊢
          have M6 := M6n
          have M7 := M7n
          have Z7 := Z7n
          have HB := HBn
          clear HBn M6n M7n Z7n
          go_simp
          refine T3.plan_run_on rfl rfl (fun K hK => ?_)
          go_simp
          have hb := below_alloc (Below.refl u3w.heap.size u3w) (.cells #[.int .u64 0, .int .i64 0, .int .i64 0, .slice none 0 0] 25)
          have Z6n : ZF w2 (u3w.alloc (.cells #[.int .u64 0, .int .i64 0, .int .i64 0, .slice none 0 0] 25)) u3w.heap.size := ⟨heap_alloc_new _ _, HB.size⟩
          have M6n := M6.step hb
          have M7n := M7.step hb
          have Z7n := Z7.step hb
          have hbb : b7 < u3w.heap.size := blk_lt Z7.1
          have HBn := below_step HB hb
          refine hK _ _ _ (fun _ h => h) HBn ?_
          clear hK K hb HB M6 M7 Z7
          generalize u3w.alloc (.cells #[.int .u64 0, .int .i64 0, .int .i64 0, .slice none 0 0] 25) = u4w at M6n M7n Z7n Z6n HBn ⊢
          generalize u3w.heap.size = b6 at Z6n hbb ⊢
          have M6 := M6n
          have M7 := M7n
          have Z7 := Z7n
          have Z6 := Z6n
          have HB := HBn
          clear HBn M6n M7n Z7n Z6n
          go_simp
          have hne : b6 ≠ b7 := by omega
          have hne2 : b7 ≠ b6 := by omega
          refine cut_leaf M6 M7 Z6 Z7 hne HB ?_
          intro hz6 hz7 f6 f7 HB1 HB2 hS
          have a0 := hz6 0 _ rfl
          have a1 := hz6 1 _ rfl
          have a2 := hz6 2 _ rfl
          have a3 := hz6 3 _ rfl
          have d0 := hz7 0 _ rfl
          have d1 := hz7 1 _ rfl
          have d2 := hz7 2 _ rfl
          have d3 := hz7 3 _ rfl
          have g0 := f6 0
          have g1 := f6 1
          have g2 := f6 2
          have g3 := f6 3
          have x0 := f7 0
          have x1 := f7 1
          have x2 := f7 2
          have x3 := f7 3
          clear hz6 hz7 f6 f7 M6 M7 Z6 Z7
          refine T3.plan_run_on rfl rfl (fun K hK => ?_)
          go_simp
          refine hK _ _ _ (fun _ h => h) HB1 ?_
          clear hK K
          go_simp
          refine T3.plan_run_on rfl rfl (fun K hK => ?_)
          go_simp
          refine hK _ _ _ (fun _ h => h) HB2 ?_
          clear hK K
          refine T3.plan_done ?_
          go_wp2_with fail
          go_meet
          case rel => exact ⟨b6, b7, A6, c6, A7, c7, rfl, rfl, hS⟩
      ·
        refine T3.plan_run_on rfl rfl (fun K hK => ?_)
        go_simp
        have hb := below_alloc (Below.refl u1w.heap.size u1w) (.cells #[.int .u64 0, .int .i64 0, .int .i64 0, .slice none 0 0] 25)
        have Z6n : ZF w2 (u1w.alloc (.cells #[.int .u64 0, .int .i64 0, .int .i64 0, .slice none 0 0] 25)) u1w.heap.size := ⟨heap_alloc_new _ _, HB.size⟩
        have M6n := M6.step hb
        have HBn := below_step HB hb
        refine hK _ _ _ (fun _ h => h) HBn ?_
        clear hK K hb HB M6
        generalize u1w.alloc (.cells #[.int .u64 0, .int .i64 0, .int .i64 0, .slice none 0 0] 25) = u2w at M6n Z6n HBn ⊢
        generalize u1w.heap.size = b6 at Z6n  ⊢
        have M6 := M6n
        have Z6 := Z6n
        have HB := HBn
        clear HBn M6n Z6n
        go_simp
        refine T3.plan_both ?_ ?_
        ·
          refine T3.plan_run_on rfl rfl (fun K hK => ?_)
          go_simp
          refine (ms _ HB).mono ?_
          rintro e u3w ⟨A7, c7, rfl, M7n, hb⟩
          have M6n := M6.step hb
          have Z6n := Z6.step hb
          have HBn := below_step HB hb
          refine hK _ _ _ (fun _ h => h) HBn ?_
          clear hK K hb HB M6 Z6
          have M6 := M6n
          have Z6 := Z6n
          have M7 := M7n
          have HB := HBn
          clear HBn M6n Z6n M7n
          go_simp
          refine T3.plan_run_on rfl rfl (fun K hK => ?_)
          go_simp
          have hb := below_alloc (Below.refl u3w.heap.size u3w) (.cells #[.int .u64 0, .int .i64 0, .int .i64 0, .slice none 0 0] 25)
          have Z7n : ZF w2 (u3w.alloc (.cells #[.int .u64 0, .int .i64 0, .int .i64 0, .slice none 0 0] 25)) u3w.heap.size := ⟨heap_alloc_new _ _, HB.size⟩
          have M6n := M6.step hb
          have Z6n := Z6.step hb
          have M7n := M7.step hb
          have hbb : b6 < u3w.heap.size := blk_lt Z6.1
          have HBn := below_step HB hb
          refine hK _ _ _ (fun _ h => h) HBn ?_
          clear hK K hb HB M6 Z6 M7
          generalize u3w.alloc (.cells #[.int .u64 0, .int .i64 0, .int .i64 0, .slice none 0 0] 25) = u4w at M6n Z6n M7n Z7n HBn ⊢
          generalize u3w.heap.size = b7 at Z7n hbb ⊢
          have M6 := M6n
          have Z6 := Z6n
          have M7 := M7n
          have Z7 := Z7n
          have HB := HBn
          clear HBn M6n Z6n M7n Z7n
          go_simp
          have hne : b6 ≠ b7 := by omega
          have hne2 : b7 ≠ b6 := by omega
          refine cut_leaf M6 M7 Z6 Z7 hne HB ?_
          intro hz6 hz7 f6 f7 HB1 HB2 hS
          have a0 := hz6 0 _ rfl
          have a1 := hz6 1 _ rfl
          have a2 := hz6 2 _ rfl
          have a3 := hz6 3 _ rfl
          have d0 := hz7 0 _ rfl
          have d1 := hz7 1 _ rfl
          have d2 := hz7 2 _ rfl
          have d3 := hz7 3 _ rfl
          have g0 := f6 0
          have g1 := f6 1
          have g2 := f6 2
          have g3 := f6 3
          have x0 := f7 0
          have x1 := f7 1
          have x2 := f7 2
          have x3 := f7 3
          clear hz6 hz7 f6 f7 M6 M7 Z6 Z7
          refine T3.plan_run_on rfl rfl (fun K hK => ?_)
          go_simp
          refine hK _ _ _ (fun _ h => h) HB1 ?_
          clear hK K
          go_simp
          refine T3.plan_run_on rfl rfl (fun K hK => ?_)
          go_simp
          refine hK _ _ _ (fun _ h => h) HB2 ?_
          clear hK K
          refine T3.plan_done ?_
          go_wp2_with fail
          go_meet
          case rel => exact ⟨b6, b7, A6, c6, A7, c7, rfl, rfl, hS⟩
        ·
          refine T3.plan_run_on rfl rfl (fun K hK => ?_)
          go_simp
          have hb := below_alloc (Below.refl u2w.heap.size u2w) (.cells #[.int .u64 0, .int .i64 0, .int .i64 0, .slice none 0 0] 25)
          have Z7n : ZF w2 (u2w.alloc (.cells #[.int .u64 0, .int .i64 0, .int .i64 0, .slice none 0 0] 25)) u2w.heap.size := ⟨heap_alloc_new _ _, HB.size⟩
          have M6n := M6.step hb
          have Z6n := Z6.step hb
          have hbb : b6 < u2w.heap.size := blk_lt Z6.1
          have HBn := below_step HB hb
          refine hK _ _ _ (fun _ h => h) HBn ?_
          clear hK K hb HB M6 Z6
          generalize u2w.alloc (.cells #[.int .u64 0, .int .i64 0, .int .i64 0, .slice none 0 0] 25) = u3w at M6n Z6n Z7n HBn ⊢
          generalize u2w.heap.size = b7 at Z7n hbb ⊢
          have M6 := M6n
          have Z6 := Z6n
          have Z7 := Z7n
          have HB := HBn
          clear HBn M6n Z6n Z7n
          go_simp
          refine T3.plan_run_on rfl rfl (fun K hK => ?_)
          go_simp
          refine (ms _ HB).mono ?_
          rintro e u4w ⟨A7, c7, rfl, M7n, hb⟩
          have M6n := M6.step hb
          have Z6n := Z6.step hb
          have Z7n := Z7.step hb
          have HBn := below_step HB hb
          refine hK _ _ _ (fun _ h => h) HBn ?_
          clear hK K hb HB M6 Z6 Z7
          have M6 := M6n
          have Z6 := Z6n
          have Z7 := Z7n
          have M7 := M7n
          have HB := HBn
          clear HBn M6n Z6n Z7n M7n
          go_simp
          have hne : b6 ≠ b7 := by omega
          have hne2 : b7 ≠ b6 := by omega
          refine cut_leaf M6 M7 Z6 Z7 hne HB ?_
          intro hz6 hz7 f6 f7 HB1 HB2 hS
          have a0 := hz6 0 _ rfl
          have a1 := hz6 1 _ rfl
          have a2 := hz6 2 _ rfl
          have a3 := hz6 3 _ rfl
          have d0 := hz7 0 _ rfl
          have d1 := hz7 1 _ rfl
          have d2 := hz7 2 _ rfl
          have d3 := hz7 3 _ rfl
          have g0 := f6 0
          have g1 := f6 1
          have g2 := f6 2
          have g3 := f6 3
          have x0 := f7 0
          have x1 := f7 1
          have x2 := f7 2
          have x3 := f7 3
          clear hz6 hz7 f6 f7 M6 M7 Z6 Z7
          refine T3.plan_run_on rfl rfl (fun K hK => ?_)
          go_simp
          refine hK _ _ _ (fun _ h => h) HB1 ?_
          clear hK K
          go_simp
          refine T3.plan_run_on rfl rfl (fun K hK => ?_)
          go_simp
          refine hK _ _ _ (fun _ h => h) HB2 ?_
          clear hK K
          refine T3.plan_done ?_
          go_wp2_with fail
          go_meet
          case rel => exact ⟨b6, b7, A6, c6, A7, c7, rfl, rfl, hS⟩
      ·
        refine T3.plan_run_on rfl rfl (fun K hK => ?_)
        go_simp
        have hb := below_alloc (Below.refl u1w.heap.size u1w) (.cells #[.int .u64 0, .int .i64 0, .int .i64 0, .slice none 0 0] 25)
        have Z7n : ZF w2 (u1w.alloc (.cells #[.int .u64 0, .int .i64 0, .int .i64 0, .slice none 0 0] 25)) u1w.heap.size := ⟨heap_alloc_new _ _, HB.size⟩
        have M6n := M6.step hb
        have HBn := below_step HB hb
        refine hK _ _ _ (fun _ h => h) HBn ?_
        clear hK K hb HB M6
        generalize u1w.alloc (.cells #[.int .u64 0, .int .i64 0, .int .i64 0, .slice none 0 0] 25) = u2w at M6n Z7n HBn ⊢
        generalize u1w.heap.size = b7 at Z7n  ⊢
        have M6 := M6n
        have Z7 := Z7n
        have HB := HBn
        clear HBn M6n Z7n
        go_simp
        refine T3.plan_both ?_ ?_
        ·
          refine T3.plan_run_on rfl rfl (fun K hK => ?_)
          go_simp
          refine (ms _ HB).mono ?_
          rintro e u3w ⟨A7, c7, rfl, M7n, hb⟩
          have M6n := M6.step hb
          have Z7n := Z7.step hb
          have HBn := below_step HB hb
          refine hK _ _ _ (fun _ h => h) HBn ?_
          clear hK K hb HB M6 Z7
          have M6 := M6n
          have Z7 := Z7n
          have M7 := M7n
          have HB := HBn
          clear HBn M6n Z7n M7n
          go_simp
          refine T3.plan_run_on rfl rfl (fun K hK => ?_)
          go_simp
          have hb := below_alloc (Below.refl u3w.heap.size u3w) (.cells #[.int .u64 0, .int .i64 0, .int .i64 0, .slice none 0 0] 25)
          have Z6n : ZF w2 (u3w.alloc (.cells #[.int .u64 0, .int .i64 0, .int .i64 0, .slice none 0 0] 25)) u3w.heap.size := ⟨heap_alloc_new _ _, HB.size⟩
          have M6n := M6.step hb
          have Z7n := Z7.step hb
          have M7n := M7.step hb
          have hbb : b7 < u3w.heap.size := blk_lt Z7.1
          have HBn := below_step HB hb
          refine hK _ _ _ (fun _ h => h) HBn ?_
          clear hK K hb HB M6 Z7 M7
          generalize u3w.alloc (.cells #[.int .u64 0, .int .i64 0, .int .i64 0, .slice none 0 0] 25) = u4w at M6n Z7n M7n Z6n HBn ⊢
          generalize u3w.heap.size = b6 at Z6n hbb ⊢
          have M6 := M6n
          have Z7 := Z7n
          have M7 := M7n
          have Z6 := Z6n
          have HB := HBn
          clear HBn M6n Z7n M7n Z6n
          go_simp
          have hne : b6 ≠ b7 := by omega
          have hne2 : b7 ≠ b6 := by omega
          refine cut_leaf M6 M7 Z6 Z7 hne HB ?_
          intro hz6 hz7 f6 f7 HB1 HB2 hS
          have a0 := hz6 0 _ rfl
          have a1 := hz6 1 _ rfl
          have a2 := hz6 2 _ rfl
          have a3 := hz6 3 _ rfl
          have d0 := hz7 0 _ rfl
          have d1 := hz7 1 _ rfl
          have d2 := hz7 2 _ rfl
          have d3 := hz7 3 _ rfl
          have g0 := f6 0
          have g1 := f6 1
          have g2 := f6 2
          have g3 := f6 3
          have x0 := f7 0
          have x1 := f7 1
          have x2 := f7 2
          have x3 := f7 3
          clear hz6 hz7 f6 f7 M6 M7 Z6 Z7
          refine T3.plan_run_on rfl rfl (fun K hK => ?_)
          go_simp
          refine hK _ _ _ (fun _ h => h) HB1 ?_
          clear hK K
          go_simp
          refine T3.plan_run_on rfl rfl (fun K hK => ?_)
          go_simp
          refine hK _ _ _ (fun _ h => h) HB2 ?_
          clear hK K
          refine T3.plan_done ?_
          go_wp2_with fail
          go_meet
          case rel => exact ⟨b6, b7, A6, c6, A7, c7, rfl, rfl, hS⟩
        ·
          refine T3.plan_run_on rfl rfl (fun K hK => ?_)
          go_simp
          have hb := below_alloc (Below.refl u2w.heap.size u2w) (.cells #[.int .u64 0, .int .i64 0, .int .i64 0, .slice none 0 0] 25)
          have Z6n : ZF w2 (u2w.alloc (.cells #[.int .u64 0, .int .i64 0, .int .i64 0, .slice none 0 0] 25)) u2w.heap.size := ⟨heap_alloc_new _ _, HB.size⟩
          have M6n := M6.step hb
          have Z7n := Z7.step hb
          have hbb : b7 < u2w.heap.size := blk_lt Z7.1
          have HBn := below_step HB hb
          refine hK _ _ _ (fun _ h => h) HBn ?_
          clear hK K hb HB M6 Z7
          generalize u2w.alloc (.cells #[.int .u64 0, .int .i64 0, .int .i64 0, .slice none 0 0] 25) = u3w at M6n Z7n Z6n HBn ⊢
          generalize u2w.heap.size = b6 at Z6n hbb ⊢
          have M6 := M6n
          have Z7 := Z7n
          have Z6 := Z6n
          have HB := HBn
          clear HBn M6n Z7n Z6n
          go_simp
          refine T3.plan_run_on rfl rfl (fun K hK => ?_)
          go_simp
          refine (ms _ HB).mono ?_
          rintro e u4w ⟨A7, c7, rfl, M7n, hb⟩
          have M6n := M6.step hb
          have Z7n := Z7.step hb
          have Z6n := Z6.step hb
          have HBn := below_step HB hb
          refine hK _ _ _ (fun _ h => h) HBn ?_
          clear hK K hb HB M6 Z7 Z6
          have M6 := M6n
          have Z7 := Z7n
          have Z6 := Z6n
          have M7 := M7n
          have HB := HBn
          clear HBn M6n Z7n Z6n M7n
          go_simp
          have hne : b6 ≠ b7 := by omega
          have hne2 : b7 ≠ b6 := by omega
          refine cut_leaf M6 M7 Z6 Z7 hne HB ?_
          intro hz6 hz7 f6 f7 HB1 HB2 hS
          have a0 := hz6 0 _ rfl
          have a1 := hz6 1 _ rfl
          have a2 := hz6 2 _ rfl
          have a3 := hz6 3 _ rfl
          have d0 := hz7 0 _ rfl
          have d1 := hz7 1 _ rfl
          have d2 := hz7 2 _ rfl
          have d3 := hz7 3 _ rfl
          have g0 := f6 0
          have g1 := f6 1
          have g2 := f6 2
          have g3 := f6 3
          have x0 := f7 0
          have x1 := f7 1
          have x2 := f7 2
          have x3 := f7 3
          clear hz6 hz7 f6 f7 M6 M7 Z6 Z7
          refine T3.plan_run_on rfl rfl (fun K hK => ?_)
          go_simp
          refine hK _ _ _ (fun _ h => h) HB1 ?_
          clear hK K
          go_simp
          refine T3.plan_run_on rfl rfl (fun K hK => ?_)
          go_simp
          refine hK _ _ _ (fun _ h => h) HB2 ?_
          clear hK K
          refine T3.plan_done ?_
          go_wp2_with fail
          go_meet
          case rel => exact ⟨b6, b7, A6, c6, A7, c7, rfl, rfl, hS⟩
    ·
      refine T3.plan_run_on rfl rfl (fun K hK => ?_)
      go_simp
      have hb := below_alloc (Below.refl u0w.heap.size u0w) (.cells #[.int .u64 0, .int .i64 0, .int .i64 0, .slice none 0 0] 25)
      have Z6n : ZF w2 (u0w.alloc (.cells #[.int .u64 0, .int .i64 0, .int .i64 0, .slice none 0 0] 25)) u0w.heap.size := ⟨heap_alloc_new _ _, HB.size⟩
      have HBn := below_step HB hb
      refine hK _ _ _ (fun _ h => h) HBn ?_
      clear hK K hb HB 
      generalize u0w.alloc (.cells #[.int .u64 0, .int .i64 0, .int .i64 0, .slice none 0 0] 25) = u1w at Z6n HBn ⊢
      generalize u0w.heap.size = b6 at Z6n  ⊢
      have Z6 := Z6n
      have HB := HBn
      clear HBn Z6n
      go_simp
      refine T3.plan_both ?_ ?_
      ·
        refine T3.plan_run_on rfl rfl (fun K hK => ?_)
        go_simp
        refine (mr _ HB).mono ?_
        rintro e u2w ⟨A6, c6, rfl, M6n, hb⟩
        have Z6n := Z6.step hb
        have HBn := below_step HB hb
        refine hK _ _ _ (fun _ h => h) HBn ?_
        clear hK K hb HB Z6
        have Z6 := Z6n
        have M6 := M6n
        have HB := HBn
        clear HBn Z6n M6n
        go_simp
        refine T3.plan_both ?_ ?_
        ·
          refine T3.plan_run_on rfl rfl (fun K hK => ?_)
          go_simp
          refine (ms _ HB).mono ?_
          rintro e u3w ⟨A7, c7, rfl, M7n, hb⟩
          have Z6n := Z6.step hb
          have M6n := M6.step hb
          have HBn := below_step HB hb
          refine hK _ _ _ (fun _ h => h) HBn ?_
          clear hK K hb HB Z6 M6
          have Z6 := Z6n
          have M6 := M6n
          have M7 := M7n
          have HB := HBn
          clear HBn Z6n M6n M7n
          go_simp
          refine T3.plan_run_on rfl rfl (fun K hK => ?_)
          go_simp
          have hb := below_alloc (Below.refl u3w.heap.size u3w) (.cells #[.int .u64 0, .int .i64 0, .int .i64 0, .slice none 0 0] 25)
          have Z7n : ZF w2 (u3w.alloc (.cells #[.int .u64 0, .int .i64 0, .int .i64 0, .slice none 0 0] 25)) u3w.heap.size := ⟨heap_alloc_new _ _, HB.size⟩
          have Z6n := Z6.step hb
          have M6n := M6.step hb
          have M7n := M7.step hb
          have hbb : b6 < u3w.heap.size := blk_lt Z6.1
          have HBn := below_step HB hb
          refine hK _ _ _ (fun _ h => h) HBn ?_
          clear hK K hb HB Z6 M6 M7
          generalize u3w.alloc (.cells #[.int .u64 0, .int .i64 0, .int .i64 0, .slice none 0 0] 25) = u4w at Z6n M6n M7n Z7n HBn ⊢
          generalize u3w.heap.size = b7 at Z7n hbb ⊢
          have Z6 := Z6n
          have M6 := M6n
          have M7 := M7n
          have Z7 := Z7n
          have HB := HBn
          clear HBn Z6n M6n M7n Z7n
          go_simp
          have hne : b6 ≠ b7 := by omega
          have hne2 : b7 ≠ b6 := by omega
          refine cut_leaf M6 M7 Z6 Z7 hne HB ?_
          intro hz6 hz7 f6 f7 HB1 HB2 hS
          have a0 := hz6 0 _ rfl
          have a1 := hz6 1 _ rfl
          have a2 := hz6 2 _ rfl
          have a3 := hz6 3 _ rfl
          have d0 := hz7 0 _ rfl
          have d1 := hz7 1 _ rfl
          have d2 := hz7 2 _ rfl
          have d3 := hz7 3 _ rfl
          have g0 := f6 0
          have g1 := f6 1
          have g2 := f6 2
          have g3 := f6 3
          have x0 := f7 0
          have x1 := f7 1
          have x2 := f7 2
          have x3 := f7 3
          clear hz6 hz7 f6 f7 M6 M7 Z6 Z7
          refine T3.plan_run_on rfl rfl (fun K hK => ?_)
          go_simp
          refine hK _ _ _ (fun _ h => h) HB1 ?_
          clear hK K
          go_simp
          refine T3.plan_run_on rfl rfl (fun K hK => ?_)
          go_simp
          refine hK _ _ _ (fun _ h => h) HB2 ?_
          clear hK K
          refine T3.plan_done ?_
          go_wp2_with fail
          go_meet
          case rel => exact ⟨b6, b7, A6, c6, A7, c7, rfl, rfl, hS⟩
        ·
          refine T3.plan_run_on rfl rfl (fun K hK => ?_)
          go_simp
          have hb := below_alloc (Below.refl u2w.heap.size u2w) (.cells #[.int .u64 0, .int .i64 0, .int .i64 0, .slice none 0 0] 25)
          have Z7n : ZF w2 (u2w.alloc (.cells #[.int .u64 0, .int .i64 0, .int .i64 0, .slice none 0 0] 25)) u2w.heap.size := ⟨heap_alloc_new _ _, HB.size⟩
          have Z6n := Z6.step hb
          have M6n := M6.step hb
          have hbb : b6 < u2w.heap.size := blk_lt Z6.1
          have HBn := below_step HB hb
          refine hK _ _ _ (fun _ h => h) HBn ?_
          clear hK K hb HB Z6 M6
          generalize u2w.alloc (.cells #[.int .u64 0, .int .i64 0, .int .i64 0, .slice none 0 0] 25) = u3w at Z6n M6n Z7n HBn ⊢
          generalize u2w.heap.size = b7 at Z7n hbb ⊢
          have Z6 := Z6n
          have M6 := M6n
          have Z7 := Z7n
          have HB := HBn
          clear HBn Z6n M6n Z7n
          go_simp
          refine T3.plan_run_on rfl rfl (fun K hK => ?_)
          go_simp
          refine (ms _ HB).mono ?_
          rintro e u4w ⟨A7, c7, rfl, M7n, hb⟩
          have Z6n := Z6.step hb
          have M6n := M6.step hb
          have Z7n := Z7.step hb
          have HBn := below_step HB hb
          refine hK _ _ _ (fun _ h => h) HBn ?_
          clear hK K hb HB Z6 M6 Z7
          have Z6 := Z6n
          have M6 := M6n
          have Z7 := Z7n
          have M7 := M7n
          have HB := HBn
          clear HBn Z6n M6n Z7n M7n
          go_simp
          have hne : b6 ≠ b7 := by omega
          have hne2 : b7 ≠ b6 := by omega
          refine cut_leaf M6 M7 Z6 Z7 hne HB ?_
          intro hz6 hz7 f6 f7 HB1 HB2 hS
          have a0 := hz6 0 _ rfl
          have a1 := hz6 1 _ rfl
          have a2 := hz6 2 _ rfl
          have a3 := hz6 3 _ rfl
          have d0 := hz7 0 _ rfl
          have d1 := hz7 1 _ rfl
          have d2 := hz7 2 _ rfl
          have d3 := hz7 3 _ rfl
          have g0 := f6 0
          have g1 := f6 1
          have g2 := f6 2
          have g3 := f6 3
          have x0 := f7 0
          have x1 := f7 1
          have x2 := f7 2
          have x3 := f7 3
          clear hz6 hz7 f6 f7 M6 M7 Z6 Z7
          refine T3.plan_run_on rfl rfl (fun K hK => ?_)
          go_simp
          refine hK _ _ _ (fun _ h => h) HB1 ?_
          clear hK K
          go_simp
          refine T3.plan_run_on rfl rfl (fun K hK => ?_)
          go_simp
          refine hK _ _ _ (fun _ h => h) HB2 ?_
          clear hK K
          refine T3.plan_done ?_
          go_wp2_with fail
          go_meet
          case rel => exact ⟨b6, b7, A6, c6, A7, c7, rfl, rfl, hS⟩
      ·
        refine T3.plan_run_on rfl rfl (fun K hK => ?_)
        go_simp
        have hb := below_alloc (Below.refl u1w.heap.size u1w) (.cells #[.int .u64 0, .int .i64 0, .int .i64 0, .slice none 0 0] 25)
        have Z7n : ZF w2 (u1w.alloc (.cells #[.int .u64 0, .int .i64 0, .int .i64 0, .slice none 0 0] 25)) u1w.heap.size := ⟨heap_alloc_new _ _, HB.size⟩
        have Z6n := Z6.step hb
        have hbb : b6 < u1w.heap.size := blk_lt Z6.1
        have HBn := below_step HB hb
        refine hK _ _ _ (fun _ h => h) HBn ?_
        clear hK K hb HB Z6
        generalize u1w.alloc (.cells #[.int .u64 0, .int .i64 0, .int .i64 0, .slice none 0 0] 25) = u2w at Z6n Z7n HBn ⊢
        generalize u1w.heap.size = b7 at Z7n hbb ⊢
        have Z6 := Z6n
        have Z7 := Z7n
        have HB := HBn
        clear HBn Z6n Z7n
        go_simp
        refine T3.plan_run_on rfl rfl (fun K hK => ?_)
        go_simp
        refine (mr _ HB).mono ?_
        rintro e u3w ⟨A6, c6, rfl, M6n, hb⟩
        have Z6n := Z6.step hb
        have Z7n := Z7.step hb
        have HBn := below_step HB hb
        refine hK _ _ _ (fun _ h => h) HBn ?_
        clear hK K hb HB Z6 Z7
        have Z6 := Z6n
        have Z7 := Z7n
        have M6 := M6n
        have HB := HBn
        clear HBn Z6n Z7n M6n
        go_simp
        refine T3.plan_run_on rfl rfl (fun K hK => ?_)
        go_simp
        refine (ms _ HB).mono ?_
        rintro e u4w ⟨A7, c7, rfl, M7n, hb⟩
        have Z6n := Z6.step hb
        have Z7n := Z7.step hb
        have M6n := M6.step hb
        have HBn := below_step HB hb
        refine hK _ _ _ (fun _ h => h) HBn ?_
        clear hK K hb HB Z6 Z7 M6
        have Z6 := Z6n
        have Z7 := Z7n
        have M6 := M6n
        have M7 := M7n
        have HB := HBn
        clear HBn Z6n Z7n M6n M7n
        go_simp
        have hne : b6 ≠ b7 := by omega
        have hne2 : b7 ≠ b6 := by omega
        refine cut_leaf M6 M7 Z6 Z7 hne HB ?_
        intro hz6 hz7 f6 f7 HB1 HB2 hS
        have a0 := hz6 0 _ rfl
        have a1 := hz6 1 _ rfl
        have a2 := hz6 2 _ rfl
        have a3 := hz6 3 _ rfl
        have d0 := hz7 0 _ rfl
        have d1 := hz7 1 _ rfl
        have d2 := hz7 2 _ rfl
        have d3 := hz7 3 _ rfl
        have g0 := f6 0
        have g1 := f6 1
        have g2 := f6 2
        have g3 := f6 3
        have x0 := f7 0
        have x1 := f7 1
        have x2 := f7 2
        have x3 := f7 3
        clear hz6 hz7 f6 f7 M6 M7 Z6 Z7
        refine T3.plan_run_on rfl rfl (fun K hK => ?_)
        go_simp
        refine hK _ _ _ (fun _ h => h) HB1 ?_
        clear hK K
        go_simp
        refine T3.plan_run_on rfl rfl (fun K hK => ?_)
        go_simp
        refine hK _ _ _ (fun _ h => h) HB2 ?_
        clear hK K
        refine T3.plan_done ?_
        go_wp2_with fail
        go_meet
        case rel => exact ⟨b6, b7, A6, c6, A7, c7, rfl, rfl, hS⟩
    ·
      refine T3.plan_run_on rfl rfl (fun K hK => ?_)
      go_simp
      have hb := below_alloc (Below.refl u0w.heap.size u0w) (.cells #[.int .u64 0, .int .i64 0, .int .i64 0, .slice none 0 0] 25)
      have Z7n : ZF w2 (u0w.alloc (.cells #[.int .u64 0, .int .i64 0, .int .i64 0, .slice none 0 0] 25)) u0w.heap.size := ⟨heap_alloc_new _ _, HB.size⟩
      have HBn := below_step HB hb
      refine hK _ _ _ (fun _ h => h) HBn ?_
      clear hK K hb HB 
      generalize u0w.alloc (.cells #[.int .u64 0, .int .i64 0, .int .i64 0, .slice none 0 0] 25) = u1w at Z7n HBn ⊢
      generalize u0w.heap.size = b7 at Z7n  ⊢
      have Z7 := Z7n
      have HB := HBn
      clear HBn Z7n
      go_simp
      refine T3.plan_both ?_ ?_
      ·
        refine T3.plan_run_on rfl rfl (fun K hK => ?_)
        go_simp
        refine (mr _ HB).mono ?_
        rintro e u2w ⟨A6, c6, rfl, M6n, hb⟩
        have Z7n := Z7.step hb
        have HBn := below_step HB hb
        refine hK _ _ _ (fun _ h => h) HBn ?_
        clear hK K hb HB Z7
        have Z7 := Z7n
        have M6 := M6n
        have HB := HBn
        clear HBn Z7n M6n
        go_simp
        refine T3.plan_both ?_ ?_
        ·
          refine T3.plan_run_on rfl rfl (fun K hK => ?_)
          go_simp
          refine (ms _ HB).mono ?_
          rintro e u3w ⟨A7, c7, rfl, M7n, hb⟩
          have Z7n := Z7.step hb
          have M6n := M6.step hb
          have HBn := below_step HB hb
          refine hK _ _ _ (fun _ h => h) HBn ?_
          clear hK K hb HB Z7 M6
          have Z7 := Z7n
          have M6 := M6n
          have M7 := M7n
          have HB := HBn
          clear HBn Z7n M6n M7n
          go_simp
          refine T3.plan_run_on rfl rfl (fun K hK => ?_)
          go_simp
          have hb := below_alloc (Below.refl u3w.heap.size u3w) (.cells #[.int .u64 0, .int .i64 0, .int .i64 0, .slice none 0 0] 25)
          have Z6n : ZF w2 (u3w.alloc (.cells #[.int .u64 0, .int .i64 0, .int .i64 0, .slice none 0 0] 25)) u3w.heap.size := ⟨heap_alloc_new _ _, HB.size⟩
          have Z7n := Z7.step hb
          have M6n := M6.step hb
          have M7n := M7.step hb
          have hbb : b7 < u3w.heap.size := blk_lt Z7.1
          have HBn := below_step HB hb
          refine hK _ _ _ (fun _ h => h) HBn ?_
          clear hK K hb HB Z7 M6 M7
          generalize u3w.alloc (.cells #[.int .u64 0, .int .i64 0, .int .i64 0, .slice none 0 0] 25) = u4w at Z7n M6n M7n Z6n HBn ⊢
          generalize u3w.heap.size = b6 at Z6n hbb ⊢
          have Z7 := Z7n
          have M6 := M6n
          have M7 := M7n
          have Z6 := Z6n
          have HB := HBn
          clear HBn Z7n M6n M7n Z6n
          go_simp
          have hne : b6 ≠ b7 := by omega
          have hne2 : b7 ≠ b6 := by omega
          refine cut_leaf M6 M7 Z6 Z7 hne HB ?_
          intro hz6 hz7 f6 f7 HB1 HB2 hS
          have a0 := hz6 0 _ rfl
          have a1 := hz6 1 _ rfl
          have a2 := hz6 2 _ rfl
          have a3 := hz6 3 _ rfl
          have d0 := hz7 0 _ rfl
          have d1 := hz7 1 _ rfl
          have d2 := hz7 2 _ rfl
          have d3 := hz7 3 _ rfl
          have g0 := f6 0
          have g1 := f6 1
          have g2 := f6 2
          have g3 := f6 3
          have x0 := f7 0
          have x1 := f7 1
          have x2 := f7 2
          have x3 := f7 3
          clear hz6 hz7 f6 f7 M6 M7 Z6 Z7
          refine T3.plan_run_on rfl rfl (fun K hK => ?_)
          go_simp
          refine hK _ _ _ (fun _ h => h) HB1 ?_
          clear hK K
          go_simp
          refine T3.plan_run_on rfl rfl (fun K hK => ?_)
          go_simp
          refine hK _ _ _ (fun _ h => h) HB2 ?_
          clear hK K
          refine T3.plan_done ?_
          go_wp2_with fail
          go_meet
          case rel => exact ⟨b6, b7, A6, c6, A7, c7, rfl, rfl, hS⟩
        ·
          refine T3.plan_run_on rfl rfl (fun K hK => ?_)
          go_simp
          have hb := below_alloc (Below.refl u2w.heap.size u2w) (.cells #[.int .u64 0, .int .i64 0, .int .i64 0, .slice none 0 0] 25)
          have Z6n : ZF w2 (u2w.alloc (.cells #[.int .u64 0, .int .i64 0, .int .i64 0, .slice none 0 0] 25)) u2w.heap.size := ⟨heap_alloc_new _ _, HB.size⟩
          have Z7n := Z7.step hb
          have M6n := M6.step hb
          have hbb : b7 < u2w.heap.size := blk_lt Z7.1
          have HBn := below_step HB hb
          refine hK _ _ _ (fun _ h => h) HBn ?_
          clear hK K hb HB Z7 M6
          generalize u2w.alloc (.cells #[.int .u64 0, .int .i64 0, .int .i64 0, .slice none 0 0] 25) = u3w at Z7n M6n Z6n HBn ⊢
          generalize u2w.heap.size = b6 at Z6n hbb ⊢
          have Z7 := Z7n
          have M6 := M6n
          have Z6 := Z6n
          have HB := HBn
          clear HBn Z7n M6n Z6n
          go_simp
          refine T3.plan_run_on rfl rfl (fun K hK => ?_)
          go_simp
          refine (ms _ HB).mono ?_
          rintro e u4w ⟨A7, c7, rfl, M7n, hb⟩
          have Z7n := Z7.step hb
          have M6n := M6.step hb
          have Z6n := Z6.step hb
          have HBn := below_step HB hb
          refine hK _ _ _ (fun _ h => h) HBn ?_
          clear hK K hb HB Z7 M6 Z6
          have Z7 := Z7n
          have M6 := M6n
          have Z6 := Z6n
          have M7 := M7n
          have HB := HBn
          clear HBn Z7n M6n Z6n M7n
          go_simp
          have hne : b6 ≠ b7 := by omega
          have hne2 : b7 ≠ b6 := by omega
          refine cut_leaf M6 M7 Z6 Z7 hne HB ?_
          intro hz6 hz7 f6 f7 HB1 HB2 hS
          have a0 := hz6 0 _ rfl
          have a1 := hz6 1 _ rfl
          have a2 := hz6 2 _ rfl
          have a3 := hz6 3 _ rfl
          have d0 := hz7 0 _ rfl
          have d1 := hz7 1 _ rfl
          have d2 := hz7 2 _ rfl
          have d3 := hz7 3 _ rfl
          have g0 := f6 0
          have g1 := f6 1
          have g2 := f6 2
          have g3 := f6 3
          have x0 := f7 0
          have x1 := f7 1
          have x2 := f7 2
          have x3 := f7 3
          clear hz6 hz7 f6 f7 M6 M7 Z6 Z7
          refine T3.plan_run_on rfl rfl (fun K hK => ?_)
          go_simp
          refine hK _ _ _ (fun _ h => h) HB1 ?_
          clear hK K
          go_simp
          refine T3.plan_run_on rfl rfl (fun K hK => ?_)
          go_simp
          refine hK _ _ _ (fun _ h => h) HB2 ?_
          clear hK K
          refine T3.plan_done ?_
          go_wp2_with fail
          go_meet
          case rel => exact ⟨b6, b7, A6, c6, A7, c7, rfl, rfl, hS⟩
      ·
        refine T3.plan_run_on rfl rfl (fun K hK => ?_)
        go_simp
        have hb := below_alloc (Below.refl u1w.heap.size u1w) (.cells #[.int .u64 0, .int .i64 0, .int .i64 0, .slice none 0 0] 25)
        have Z6n : ZF w2 (u1w.alloc (.cells #[.int .u64 0, .int .i64 0, .int .i64 0, .slice none 0 0] 25)) u1w.heap.size := ⟨heap_alloc_new _ _, HB.size⟩
        have Z7n := Z7.step hb
        have hbb : b7 < u1w.heap.size := blk_lt Z7.1
        have HBn := below_step HB hb
        refine hK _ _ _ (fun _ h => h) HBn ?_
        clear hK K hb HB Z7
        generalize u1w.alloc (.cells #[.int .u64 0, .int .i64 0, .int .i64 0, .slice none 0 0] 25) = u2w at Z7n Z6n HBn ⊢
        generalize u1w.heap.size = b6 at Z6n hbb ⊢
        have Z7 := Z7n
        have Z6 := Z6n
        have HB := HBn
        clear HBn Z7n Z6n
        go_simp
        refine T3.plan_run_on rfl rfl (fun K hK => ?_)
        go_simp
        refine (mr _ HB).mono ?_
        rintro e u3w ⟨A6, c6, rfl, M6n, hb⟩
        have Z7n := Z7.step hb
        have Z6n := Z6.step hb
        have HBn := below_step HB hb
        refine hK _ _ _ (fun _ h => h) HBn ?_
        clear hK K hb HB Z7 Z6
        have Z7 := Z7n
        have Z6 := Z6n
        have M6 := M6n
        have HB := HBn
        clear HBn Z7n Z6n M6n
        go_simp
        refine T3.plan_run_on rfl rfl (fun K hK => ?_)
        go_simp
        refine (ms _ HB).mono ?_
        rintro e u4w ⟨A7, c7, rfl, M7n, hb⟩
        have Z7n := Z7.step hb
        have Z6n := Z6.step hb
        have M6n := M6.step hb
        have HBn := below_step HB hb
        refine hK _ _ _ (fun _ h => h) HBn ?_
        clear hK K hb HB Z7 Z6 M6
        have Z7 := Z7n
        have Z6 := Z6n
        have M6 := M6n
        have M7 := M7n
        have HB := HBn
        clear HBn Z7n Z6n M6n M7n
        go_simp
        have hne : b6 ≠ b7 := by omega
        have hne2 : b7 ≠ b6 := by omega
        refine cut_leaf M6 M7 Z6 Z7 hne HB ?_
        intro hz6 hz7 f6 f7 HB1 HB2 hS
        have a0 := hz6 0 _ rfl
        have a1 := hz6 1 _ rfl
        have a2 := hz6 2 _ rfl
        have a3 := hz6 3 _ rfl
        have d0 := hz7 0 _ rfl
        have d1 := hz7 1 _ rfl
        have d2 := hz7 2 _ rfl
        have d3 := hz7 3 _ rfl
        have g0 := f6 0
        have g1 := f6 1
        have g2 := f6 2
        have g3 := f6 3
        have x0 := f7 0
        have x1 := f7 1
        have x2 := f7 2
        have x3 := f7 3
        clear hz6 hz7 f6 f7 M6 M7 Z6 Z7
        refine T3.plan_run_on rfl rfl (fun K hK => ?_)
        go_simp
        refine hK _ _ _ (fun _ h => h) HB1 ?_
        clear hK K
        go_simp
        refine T3.plan_run_on rfl rfl (fun K hK => ?_)
        go_simp
        refine hK _ _ _ (fun _ h => h) HB2 ?_
        clear hK K
        refine T3.plan_done ?_
        go_wp2_with fail
        go_meet
        case rel => exact ⟨b6, b7, A6, c6, A7, c7, rfl, rfl, hS⟩
  case rest =>
    obtain ⟨b6, b7, A6, c6, A7, c7, rfl, rfl, hT⟩ := hcut
    clear HMR HMS q0 q1 q2 q3 y0 y1 y2 y3
    have hbw := hb2.trans (hT.bel.mono hb2.size)
    have hD := h2.bound.step (w1 := wc) (fun k hk _ => hT.bel.block k hk.2)
    have hF6 := Kd.R_F (ok := fun k => w2.heap.size ≤ k) hT.m6.1
    have hF7 := Kd.R_F (ok := fun k => w2.heap.size ≤ k) hT.m7.1
    have hl6 := hT.m6.2
    have hl7 := hT.m7.2
    have n6 := hT.r6
    have n7 := hT.r7
    have g6 := hT.g6
    have g7 := hT.g7
    have hsz2 := hT.bel.size
    clear h2 hT
    have m0 := cell_of_row _ _ 0 _ _ _ n6
    have m1 := cell_of_row _ _ 1 _ _ _ n6
    have m2 := cell_of_row _ _ 2 _ _ _ n6
    have m3 := cell_of_row _ _ 3 _ _ _ n6
    simp at m0 m1 m2 m3
    have hbg := blocks_gen r hF6 hl6 hrok
    unfold recV at hbg
    go_wp2_with fail
    refine hbg.mono ?_
    rintro e w3 ⟨A8, l8, c8, rfl, hl8, b3⟩
    have hD3 := hD.step (w1 := w3) (fun k _ hk => b3.block k hk)
    have hF63 := RB_below hF6 b3
    have hF73 := RB_below hF7 b3
    have n63 := (b3.block _ (blk_lt n6)).trans n6
    have n73 := (b3.block _ (blk_lt n7)).trans n7
    have hb3 := hbw.trans (b3.mono hbw.size)
    have hs3 := b3.size
    clear hbg hD hF6 hF7 n6 n7 hbw b3 m0 m1 m2 m3
    have m0 := cell_of_row _ _ 0 _ _ _ n73
    have m1 := cell_of_row _ _ 1 _ _ _ n73
    have m2 := cell_of_row _ _ 2 _ _ _ n73
    have m3 := cell_of_row _ _ 3 _ _ _ n73
    simp at m0 m1 m2 m3
    have hbg := blocks_gen s hF73 hl7 hsok
    unfold recV at hbg
    go_wp2_with fail
    refine hbg.mono ?_
    rintro e w4 ⟨A10, l10, c10, rfl, hl10, b4⟩
    have hD4 := hD3.step (w1 := w4) (fun k _ hk => b4.block k hk)
    have hF64 := RB_below hF63 b4
    have hF74 := RB_below hF73 b4
    have n64 := (b4.block _ (blk_lt n63)).trans n63
    have n74 := (b4.block _ (blk_lt n73)).trans n73
    have hb4 := hb3.trans (b4.mono hb3.size)
    have hs4 := b4.size
    clear hbg hD3 hF63 hF73 n63 n73 hb3 b4 m0 m1 m2 m3
    by_cases er : sealE r = 0
    case neg =>
      have erb : (sealE r != 0) = true := by simpa using er
      clear hl8 hl10
      generalize sealE r = E at erb
      go_wp2
      go_ret
      exact ⟨rfl, hb4⟩
    by_cases es : sealE s = 0
    case neg =>
      have esb : (sealE s != 0) = true := by simpa using es
      rw [er]
      clear hl8 hl10 er
      generalize sealE s = E at esb
      go_wp2
      go_ret
      exact ⟨rfl, hb4⟩
    obtain rfl := hl8 er
    obtain rfl := hl10 es
    have hr := right_of er hrok.g hrok.b
    have hs := right_of es hsok.g hsok.b
    rw [er, es]
    clear hl8 hl10 er es
    have hba := hr.a
    have hbb := hs.a
    have hbl1 := bodies_le hr
    have hbl2 := bodies_le hs
    have k1 := cell_of_row _ _ 1 _ _ _ n64
    have k2 := cell_of_row _ _ 1 _ _ _ n74
    simp at k1 k2
    have hwa : IntKind.i64.wrap (r.at_ + ((bodies r : Int) + 1)) = r.at_ + ((bodies r : Int) + 1) := by rw [IntKind.wrap_i64]; omega
    have hwb : IntKind.i64.wrap (s.at_ + ((bodies s : Int) + 1)) = s.at_ + ((bodies s : Int) + 1) := by rw [IntKind.wrap_i64]; omega
    by_cases fr : 62 < r.at_ + ((bodies r : Int) + 1)
    · go_wp2
      go_ret
      exact ⟨rfl, hb4⟩
    by_cases fs : 62 < s.at_ + ((bodies s : Int) + 1)
    · go_wp2
      go_ret
      exact ⟨rfl, hb4⟩
    obtain ⟨p1, p2, p3, p4, p5, p6, p7⟩ := others_plain hon hr hs (by omega) (by omega)
    have m0 := cell_of_row _ _ 0 _ _ _ n64
    have m2 := cell_of_row _ _ 2 _ _ _ n64
    have m3 := cell_of_row _ _ 3 _ _ _ n64
    simp at m0 m2 m3
    have hgr := hrok.g
    have hgs := hsok.g
    have hsw := swrite_any p 2 r hD4 hF64 (fun k k1 k2 => by omega) hl6 hrok.b hgr (by omega) (by rw [HWS.out]; omega)
    rw [p1] at hsw
    unfold recV at hsw
    clear p1
    generalize (D.sealW 2 r).1 = D1 at hsw p2 p3 p4 p5 p6 p7
    have HAP := hid p7
    have HP := hid (And.intro p2 (And.intro p4 (And.intro p5 p6)))
    clear p2 p4 p5 p6 p7
    go_wp2_with fail
    refine hsw.mono ?_
    rintro e w5 ⟨rfl, hD5, c5⟩
    have hF5b := Kd.F_step (Kd.F_bound hF74) (W1 := w5) (fun k hk _ => c5.block k hk.2 (fun hh => by have := hk.1; omega))
    have hF65b := Kd.F_step (Kd.F_bound hF64) (W1 := w5) (fun k hk _ => c5.block k hk.2 (fun hh => by have := hk.1; omega))
    have n65 := (c5.block b6 (blk_lt n64) (fun hh => by omega)).trans n64
    have n75 := (c5.block b7 (blk_lt n74) (fun hh => by omega)).trans n74
    have hb5 := hb4.trans (c5.below_ (B := w.heap.size) hb4.size (fun k hk => by omega))
    have l6 := blk_lt n64
    have l7 := blk_lt n74
    have hs5 := c5.size
    clear hsw hD4 hF64 hF74 n64 n74 hb4 c5 m0 m2 m3 k1 k2
    have m0 := cell_of_row _ _ 0 _ _ _ n75
    have m1 := cell_of_row _ _ 1 _ _ _ n75
    have m2 := cell_of_row _ _ 2 _ _ _ n75
    have m3 := cell_of_row _ _ 3 _ _ _ n75
    simp at m0 m1 m2 m3
    have hsw := swrite_any p 2 s hD5 hF5b (fun k k1 k2 => by have := k1.1; rcases k2 with k2 | k2 <;> omega) hl7 hsok.b hgs (by omega) (by have := HWS.out; omega)
    rw [HP.out.1] at hsw
    unfold recV at hsw
    obtain ⟨hx2, hx4, hx5, hx6⟩ := HP.out
    generalize (D1.sealW 2 s).1 = D2 at hsw HAP hx4 hx5 hx6
    clear hx2 HP
    have HX := hid (And.intro hx4 (And.intro hx5 hx6))
    clear hx4 hx5 hx6
    go_wp2_with fail
    refine hsw.mono ?_
    rintro e w6 ⟨rfl, hD6, c6'⟩
    have hF76 := Kd.F_step hF5b (W1 := w6) (fun k hk hlt => c6'.block k hlt (fun hh => by have := hk.1; have := hk.2; rcases hh with hh | hh <;> omega))
    have hF66 := Kd.F_step hF65b (W1 := w6) (fun k hk hlt => c6'.block k hlt (fun hh => by have := hk.1; have := hk.2; rcases hh with hh | hh <;> omega))
    have n66 := (c6'.block b6 (blk_lt n65) (fun hh => by rcases hh with hh | hh <;> omega)).trans n65
    have n76 := (c6'.block b7 (blk_lt n75) (fun hh => by rcases hh with hh | hh <;> omega)).trans n75
    have hb6 := hb5.trans (c6'.below_ (B := w.heap.size) hb5.size (fun k hk => by rcases hk with hh | hh <;> omega))
    clear hsw hD5 hF5b hF65b n65 n75 hb5 c6' m0 m1 m2 m3
    have m0 := cell_of_row _ _ 0 _ _ _ n76
    have m1 := cell_of_row _ _ 1 _ _ _ n76
    simp at m0 m1
    have hrd := sread_any hD6 2 64 s.gen s.at_
    rw [HX.out.1, HX.out.2.1] at hrd
    go_wp2_with fail
    refine hrd.mono ?_
    rintro e w7 ⟨A12, c12, rfl, hR7, hle7, b7'⟩
    simp only [Option.getD_some, Option.isSome_some] at hR7 hle7 ⊢
    unfold recV
    clear hrd m0 m1
    have b8 := below_alloc b7' (.cells #[.int .u64 s.gen, .int .i64 s.at_, .int .i64 s.kind, .slice A12 s.bytes.length c12] 25)
    have n12 := heap_alloc_new w7 (.cells #[.int .u64 s.gen, .int .i64 s.at_, .int .i64 s.kind, .slice A12 s.bytes.length c12] 25)
    have hF12 : RB (w7.alloc (.cells #[.int .u64 s.gen, .int .i64 s.at_, .int .i64 s.kind, .slice A12 s.bytes.length c12] 25)) (fun k => w6.heap.size ≤ k) A12 s.bytes := Kd.R_F (Kd.R_alloc hR7 _)
    go_upto_region 12 with (fail)
    generalize w7.alloc (.cells #[.int .u64 s.gen, .int .i64 s.at_, .int .i64 s.kind, .slice A12 s.bytes.length c12] 25) = w8 at b8 n12 hF12 ⊢
    generalize w7.heap.size = i12 at n12 ⊢
    have hD8 := hD6.step (w1 := w8) (fun k _ hk => b8.block k hk)
    have hF78 := RB_below hF76 b8
    have hF68 := RB_below hF66 b8
    have n68 := (b8.block _ (blk_lt n66)).trans n66
    have n78 := (b8.block _ (blk_lt n76)).trans n76
    have hb8 := hb6.trans (b8.mono hb6.size)
    clear hD6 hF76 hF66 n66 n76 hb6 b8 b7' hR7
    have m0 := cell_of_row _ _ 0 _ _ _ n78
    have m1 := cell_of_row _ _ 1 _ _ _ n78
    have m2 := cell_of_row _ _ 2 _ _ _ n78
    have m3 := cell_of_row _ _ 3 _ _ _ n78
    have x0 := cell_of_row _ _ 0 _ _ _ n12
    have x1 := cell_of_row _ _ 1 _ _ _ n12
    have x2 := cell_of_row _ _ 2 _ _ _ n12
    have x3 := cell_of_row _ _ 3 _ _ _ n12
    simp at m0 m1 m2 m3 x0 x1 x2 x3
    have hsm := same_true s (Kd.F_now hF12) hle7 (Kd.F_now hF78) hl7
    unfold recV at hsm
    go_wp2_with fail
    refine hsm.mono ?_
    rintro e w9 ⟨rfl, b9⟩
    have hD9 := hD8.step (w1 := w9) (fun k _ hk => b9.block k hk)
    have hF79 := RB_below hF78 b9
    have hF69 := RB_below hF68 b9
    have n69 := (b9.block _ (blk_lt n68)).trans n68
    have n79 := (b9.block _ (blk_lt n78)).trans n78
    have hb9 := hb8.trans (b9.mono hb8.size)
    clear hsm hD8 hF78 hF68 n68 n78 hb8 b9 m0 m1 m2 m3 x0 x1 x2 x3 n12 hF12
    have m1 := cell_of_row _ _ 1 _ _ _ n79
    have k0 := cell_of_row _ _ 0 _ _ _ n69
    have k1 := cell_of_row _ _ 1 _ _ _ n69
    simp at m1 k0 k1
    obtain ⟨V, hV⟩ : ∃ V, readV D2 2 64 r.gen r.at_ = V := ⟨_, rfl⟩
    have hrd := sread_any hD9 2 64 r.gen r.at_
    rw [HX.out.2.2, hV] at hrd
    have HV := hid hV
    obtain ⟨ap, hap⟩ : ∃ ap : Bool, ap = decide (r.at_ + ((bodies r : Int) + 1) ≤ s.at_ ∨ s.at_ + ((bodies s : Int) + 1) ≤ r.at_) := ⟨_, rfl⟩
    have HAPE := hid hap
    clear hV hap
    go_upto_region 14 with (fail)
    go_cut [15] (fun v15 wc => v15 = .bool ap ∧ wc = w9)
    case first =>
      by_cases x1 : r.at_ + ((bodies r : Int) + 1) ≤ s.at_
      · have e1 : ap = true := by rw [HAPE.out]; simp [x1]
        subst e1
        go_wp2
        go_meet
        case rel => exact ⟨rfl, rfl⟩
      · by_cases x2 : s.at_ + ((bodies s : Int) + 1) ≤ r.at_
        · have e1 : ap = true := by rw [HAPE.out]; simp [x2]
          subst e1
          go_wp2
          go_meet
          case rel => exact ⟨rfl, rfl⟩
        · have e1 : ap = false := by rw [HAPE.out]; simp [x1, x2]
          subst e1
          go_wp2
          go_meet
          case rel => exact ⟨rfl, rfl⟩
    case rest =>
      obtain ⟨rfl, hwc⟩ := hcut
      have hwc2 := hwc.symm
      clear hwc
      subst hwc2
      go_wp2_with fail
      refine hrd.mono ?_
      rintro e w10 ⟨A16, c16, rfl, hR10, hle10, b10⟩
      clear hrd m1 k0 k1
      unfold recV
      obtain ⟨Y, hY⟩ : ∃ Y, V.getD noR = Y := ⟨_, rfl⟩
      rw [hY] at hR10 hle10 ⊢
      have HY := hid hY
      clear hY
      have b11 := below_alloc b10 (.cells #[.int .u64 Y.gen, .int .i64 Y.at_, .int .i64 Y.kind, .slice A16 Y.bytes.length c16] 25)
      have n16 := heap_alloc_new w10 (.cells #[.int .u64 Y.gen, .int .i64 Y.at_, .int .i64 Y.kind, .slice A16 Y.bytes.length c16] 25)
      have hF16 : RB (w10.alloc (.cells #[.int .u64 Y.gen, .int .i64 Y.at_, .int .i64 Y.kind, .slice A16 Y.bytes.length c16] 25)) (fun k => w9.heap.size ≤ k) A16 Y.bytes := Kd.R_F (Kd.R_alloc hR10 _)
      go_upto_region 16 with (fail)
      generalize w10.alloc (.cells #[.int .u64 Y.gen, .int .i64 Y.at_, .int .i64 Y.kind, .slice A16 Y.bytes.length c16] 25) = w11 at b11 n16 hF16 ⊢
      generalize w10.heap.size = i16 at n16 ⊢
      have hF7b := RB_below hF79 b11
      have hF6b := RB_below hF69 b11
      have n6b := (b11.block _ (blk_lt n69)).trans n69
      have n7b := (b11.block _ (blk_lt n79)).trans n79
      have hb11 := hb9.trans (b11.mono hb9.size)
      clear hD9 hF79 hF69 n69 n79 hb9 b11 b10 hR10
      have y0 := cell_of_row _ _ 0 _ _ _ n16
      have y1 := cell_of_row _ _ 1 _ _ _ n16
      have y2 := cell_of_row _ _ 2 _ _ _ n16
      have y3 := cell_of_row _ _ 3 _ _ _ n16
      simp at y0 y1 y2 y3
      cases ap with
      | true =>
        have hVr : V = some r := by rw [← HV.out]; exact HAP.out (of_decide_eq_true HAPE.out.symm)
        have hYr : Y = r := by rw [← HY.out, hVr]; rfl
        subst hVr hYr
        have m0 := cell_of_row _ _ 0 _ _ _ n6b
        have m1 := cell_of_row _ _ 1 _ _ _ n6b
        have m2 := cell_of_row _ _ 2 _ _ _ n6b
        have m3 := cell_of_row _ _ 3 _ _ _ n6b
        simp at m0 m1 m2 m3
        have hsm := same_true Y (Kd.F_now hF16) hle10 (Kd.F_now hF6b) hl6
        unfold recV at hsm
        simp only [Option.isSome_some]
        go_wp2_with fail
        refine hsm.mono ?_
        rintro e w12 ⟨rfl, b12⟩
        have hb12 := hb11.trans (b12.mono hb11.size)
        clear hsm b12 m0 m1 m2 m3 y0 y1 y2 y3
        go_wp2
        go_ret
        exact ⟨rfl, hb12⟩
      | false =>
        cases V with
        | none =>
          simp only [Option.isSome_none]
          clear y0 y1 y2 y3
          go_wp2
          go_ret
          exact ⟨rfl, hb11⟩
        | some y =>
          obtain rfl : y = Y := HY.out
          obtain ⟨o1, o2⟩ := readV_own HV.out
          have m0 := cell_of_row _ _ 0 _ _ _ n7b
          have m1 := cell_of_row _ _ 1 _ _ _ n7b
          have m2 := cell_of_row _ _ 2 _ _ _ n7b
          have m3 := cell_of_row _ _ 3 _ _ _ n7b
          simp at m0 m1 m2 m3
          obtain ⟨t, hsm⟩ := same_some y s (Kd.F_now hF16) hle10 (Kd.F_now hF7b) hl7
          unfold recV at hsm
          simp only [Option.isSome_some]
          have HO := hid (And.intro o1 o2)
          clear o1 o2
          go_wp2_with fail
          refine hsm.mono ?_
          rintro e w12 ⟨rfl, b12⟩
          have hb12 := hb11.trans (b12.mono hb11.size)
          cases t with
          | true =>
            clear hsm b12 m0 m1 m2 m3 y0 y1 y2 y3
            go_wp2
            go_ret
            exact ⟨rfl, hb12⟩
          | false =>
            have n6c := (b12.block _ (blk_lt n6b)).trans n6b
            have n16c := (b12.block _ (blk_lt n16)).trans n16
            rw [HO.out.1, HO.out.2] at n16c
            clear hsm b12 m0 m1 m2 m3 y0 y1 y2 y3
            have m0 := cell_of_row _ _ 0 _ _ _ n6c
            have m1 := cell_of_row _ _ 1 _ _ _ n6c
            have y0 := cell_of_row _ _ 0 _ _ _ n16c
            have y1 := cell_of_row _ _ 1 _ _ _ n16c
            simp at m0 m1 y0 y1
            go_wp2
            go_ret
            exact ⟨rfl, hb12⟩
end Go.Proofs.Ytekhmkfiepnnkaa

/- Package foundrylaw22: SealOthers' call. -/
set_option linter.unusedVariables false
set_option linter.unusedSimpArgs false
namespace Go.Proofs.Ytekhmkfiepnnkaa
open Go.RowKit Go.Proofs.YtekhmkfiepnnkaaW.PrintWords
theorem KRec_agg {w : World} {r : SR} {cs : Array Value} (h : KRec.K w r cs.toList) : ∃ A c, Value.agg cs = recV r A c ∧ r.bytes.length ≤ c ∧ KB.C w A r.bytes.length r.bytes := by
  obtain ⟨A, c, he, hl, hC⟩ := KRec_open h
  refine ⟨A, c, ?_, hl, hC⟩
  have : cs = (r.cells A c).toArray := by rw [← he]
  rw [this]; rfl
theorem sealOthers_row {w : World} {cs cs1 : Array Value} {r s : SR} (k : KRec.K w r cs.toList) (hr : r.ok) (k1 : KRec.K w s cs1.toList) (hs : s.ok) :
    Calls Try.prog 7 #[.agg cs, .agg cs1] w fun e w' => e = .returned (.bool true) ∧ Below w.heap.size w w' := by
  obtain ⟨A, c, e, hl, hC⟩ := KRec_agg k
  obtain ⟨A1, c1, e1, hl1, hC1⟩ := KRec_agg k1
  rw [e, e1]
  exact sealOthers_any r s hC hl hr hC1 hl1 hs
end Go.Proofs.Ytekhmkfiepnnkaa

set_option linter.unusedVariables false
set_option linter.unusedSimpArgs false
namespace Go.Proofs.Ytekhmkfiepnnkaa
open Go.ChangeShapes Go.WideShapes Go.ChangeAt Go.RowKit Go.Proofs.YtekhmkfiepnnkaaW.PrintWords
open Go.ChangeMaps (open_string shut_string)
set_option linter.unusedVariables false
theorem sealOthers_own : ownKnob Try.prog.godebug = none := by kernel_rfl
theorem sealOthers_laid : laidOutB Try.prog = true := by kernel_rfl
set_option maxRecDepth 100000 in
theorem sealOthers_lifted (os : Os) (started : os.Started) (H : Type) (enc : TypeId × Value → H) :
    ReturnsInHanded {} Try.checked os 7 .any (Rows.sealOthersSpec.pre6 enc Try.prog Try.f7 Rows.sealOthersRow.domain false) (Rows.sealOthersSpec.post enc Try.prog Try.f7 false true false false) := by
  refine returnsInHanded_of_change_sized (C := Try.checked) sealOthers_own started (by kernel_rfl) Try.func7
    (ChangeSpec.witness6 (enc := enc) (C := Try.checked) false ⟨#[], #[.agg #[.int .u64 0, .int .i64 0, .int .i64 0, .slice none 0 0], .agg #[.int .u64 0, .int .i64 0, .int .i64 0, .slice none 0 0]], []⟩ 8 (by kernel_rfl) (by kernel_rfl) (by kernel_rfl) (by kernel_rfl)) ?_
  intro W base args ds gs before hval0 hW hcnd hsz0 _
  have hsz : (DataW.weightsEach Try.prog (Try.f7.params.toList ++ Rows.sealOthersSpec.plain.varTypes Try.prog) (ds ++ gs)).all (· ≤ reachBytes) = true := hsz0
  have hval : ∀ (j : Nat) t v, Try.f7.params[j]? = some t → args[j]? = some v → Value.okWide Try.prog W .any base t v := hval0
  have hW' := hW
  obtain ⟨p, q, hA0, hV, rfl, hfz, hnd⟩ := hW
  have hA : DataW.TrodAll enc Try.prog W 0 (fun _ => true) true Try.f7.params.toList args.toList ds p := hA0
  rw [Try.params7] at hA hval hsz
  obtain ⟨v0, vs0, d0, ds0, p0, q0, hargs, rfl, rfl, h0, r0⟩ := trodAll_cons hA
  obtain ⟨v1, vs1, d1, ds1, p1, q1, rfl, rfl, rfl, h1, r1⟩ := trodAll_cons r0
  obtain ⟨rfl, rfl, rfl⟩ := trodAll_nil r1
  obtain rfl : args = #[v0, v1] := by cases args; simp_all
  obtain ⟨rfl, rfl⟩ := trodVars_none hV
  have lt0 : ∀ x ∈ p0, x.block < W.heap.size := by obtain ⟨m, hm⟩ := h0; exact DataW.trod_lt m _ _ _ hm
  obtain ⟨cs0, rfl, _⟩ := okWide_struct Try.underlying28 (hval 0 28 v0 rfl rfl)
  obtain ⟨x0, k0, g0⟩ := opens_rec.arg hsz (j := 0) (t := 28) rfl rfl h0
  have lt1 : ∀ x ∈ p1, x.block < W.heap.size := by obtain ⟨m, hm⟩ := h1; exact DataW.trod_lt m _ _ _ hm
  obtain ⟨cs1, rfl, _⟩ := okWide_struct Try.underlying28 (hval 1 28 v1 rfl rfl)
  obtain ⟨x1, k1, g1⟩ := opens_rec.arg hsz (j := 1) (t := 28) rfl rfl h1
  clear hA0 hval0 hsz0 hsz
  refine (sealOthers_row k0 g0 k1 g1).mono fun e W' ⟨he, bel⟩ => ?_
  subst he
  exact ⟨_, rfl, _, _, _, [], _, [], hW', trodAll_mk1 (shut_bool Try.underlying4 _), (trodAll_cons_mk (Below.trod sealOthers_laid (by kernel_rfl) (of_decide_eq_true (by kernel_rfl)) h0 bel lt0) (trodAll_cons_mk (Below.trod sealOthers_laid (by kernel_rfl) (of_decide_eq_true (by kernel_rfl)) h1 bel lt1) trodAll_mk0)), rfl, bel.frame _, fun h => by cases h⟩
theorem sealOthers_over : Rows.sealOthersRow.holds Try.pinned (OpenSpec.ofChange Rows.sealOthersSpec) :=
  OpenClaim.holds_of_wide 7 Try.f7 rfl rfl rfl rfl rfl rfl rfl ⟨rfl, rfl, rfl, rfl, rfl⟩ rfl rfl rfl rfl rfl (by kernel_rfl) Try.func7 (by kernel_rfl)
    (of_decide_eq_true (by kernel_rfl)) (by unfold Func.isWrapper; first | (rw [if_pos (by decide +kernel)]; kernel_rfl) | (rw [if_neg (by decide +kernel)]; exact ⟨rfl, rfl⟩))
    (fun os started H enc _ => sealOthers_lifted os started H enc)
/-- The row, for the claim. -/
theorem sealOthers_holds : Rows.SealOthersSaid := sealOthers_over
#print axioms sealOthers_holds
end Go.Proofs.Ytekhmkfiepnnkaa
