/- A statement whose order Go leaves open, by a plan: what only reads is taken as soon as it may come up, under a condition S on the world that may grow behind each operation that writes, makes memory or calls; the last operations (the tail), which wait for all that was taken, may break S. -/
import Derived.OrdersHeld
import Derived.Deep.RegionHeld
import Derived.Deep.MidRow
set_option linter.unusedVariables false
set_option linter.unusedSimpArgs false
namespace Go.Proofs.YthfoafjjenegaaaDoor
section
variable {P : Program} {ops : Array Oper} {Q : Exit → Act → World → Prop} {md : Region.Mode}

/-- Is one of the tail listed? -/
def begun_ (T : List Nat) (l : Array Bool) : Prop := ∃ t ∈ T, l.getD t false = true

/-- Whatever order is picked from here on; S holds behind each operation until the tail has begun. -/
def wpAnyG (P : Program) (md : Region.Mode) (ops : Array Oper) (Q : Exit → Act → World → Prop) (T : List Nat) (S : World → Prop) : Nat → Array Bool → Act → World → Prop
  | 0, listed, a, w => Region.ready md ops listed = [] ∧ Q .normal a w
  | fuel + 1, listed, a, w =>
    (Region.ready md ops listed = [] → Q .normal a w) ∧
    ∀ i ∈ Region.ready md ops listed, wpOp P ops Q i (fun a' w' => (begun_ T (listed.setIfInBounds i true) ∨ S w') ∧ wpAnyG P md ops Q T S fuel (listed.setIfInBounds i true) a' w') a w

theorem wpAny_of_G {T : List Nat} {S : World → Prop} : ∀ (fuel : Nat) (listed : Array Bool) (a : Act) (w : World), wpAnyG P md ops Q T S fuel listed a w → wpAny P md ops Q fuel listed a w
  | 0, _, _, _, h => h
  | fuel + 1, _, _, _, h => ⟨h.1, fun i hi => wpOp_mono (fun a' w' h' => wpAny_of_G fuel _ a' w' h'.2) (h.2 i hi)⟩
theorem wpAnyG_weaken {T : List Nat} {S S' : World → Prop} (hS : ∀ w, S' w → S w) : ∀ (fuel : Nat) (listed : Array Bool) (a : Act) (w : World), wpAnyG P md ops Q T S' fuel listed a w → wpAnyG P md ops Q T S fuel listed a w
  | 0, _, _, _, h => h
  | fuel + 1, _, _, _, h => ⟨h.1, fun i hi => wpOp_mono (fun a' w' h' => ⟨h'.1.imp id (hS _), wpAnyG_weaken hS fuel _ a' w' h'.2⟩) (h.2 i hi)⟩
/-- Once the tail has begun S is not asked any more. -/
theorem wpAnyG_tail {T : List Nat} {S S' : World → Prop} : ∀ (fuel : Nat) (listed : Array Bool) (a : Act) (w : World), begun_ T listed → wpAnyG P md ops Q T S' fuel listed a w → wpAnyG P md ops Q T S fuel listed a w
  | 0, _, _, _, _, h => h
  | fuel + 1, listed, _, _, hb, h => ⟨h.1, fun i hi => by
      have hb2 : begun_ T (listed.setIfInBounds i true) := by
        obtain ⟨t, ht, hl⟩ := hb
        exact ⟨t, ht, getD_set_true hl⟩
      exact wpOp_mono (fun a' w' h' => ⟨.inl hb2, wpAnyG_tail fuel _ a' w' hb2 h'.2⟩) (h.2 i hi)⟩
/-- Number t waits for number i. -/
def waits_ (md : Region.Mode) (ops : Array Oper) (t i : Nat) : Bool :=
  match ops[t]? with
  | some o => o.after.any fun e => Region.binds md e && e.on == i
  | none => false
theorem waits_spec {t i : Nat} (h : waits_ md ops t i = true) {listed : Array Bool} (hi : listed.getD i true = false) : t ∉ Region.ready md ops listed := by
  intro hr
  obtain ⟨_, o, ho, hall⟩ := mem_ready.1 hr
  unfold waits_ at h
  rw [ho] at h
  obtain ⟨e, he, hb⟩ := Array.any_eq_true'.1 h
  simp only [Bool.and_eq_true, beq_iff_eq] at hb
  have h1 := hall e he hb.1
  rw [hb.2] at h1
  rcases Nat.lt_or_ge i listed.size with h' | h'
  · simp [h'] at hi h1; rw [hi] at h1; cases h1
  · simp [Array.getElem?_eq_none h'] at h1

theorem wpAnyG_first {T : List Nat} {S : World → Prop} {i : Nat} {oi : Oper} {v : Value} (hi : ops[i]? = some oi) (hsel : ∀ (j : Nat) (o : Oper) cs b, ops[j]? = some o → o.op ≠ .select cs b)
    (hQ : ∀ c a w, Q (.panic c) (a.put oi.dst v) w → Q (.panic c) a w) (hT : ∀ t ∈ T, waits_ md ops t i = true) :
    ∀ (fuel : Nat) (listed : Array Bool) (a : Act) (w : World), ¬ begun_ T listed →
      (∀ j oj, ops[j]? = some oj → j ≠ i → listed.getD j true = false → (∀ e ∈ oj.after, Region.binds md e = true → e.on ≠ i) → oi.apart ops oj = true) →
      i ∈ Region.ready md ops listed → YieldsIf P ops S oi v a → S w →
      wpAnyG P md ops Q T S fuel (listed.setIfInBounds i true) (a.put oi.dst v) w → wpAnyG P md ops Q T S (fuel + 1) listed a w := by
  intro fuel
  induction fuel with
  | zero =>
    intro listed a w _ _ hr hy hS H
    refine ⟨fun h => (by rw [h] at hr; cases hr), fun j hj => ?_⟩
    by_cases hji : j = i
    · subst hji; exact hy.wpOp hi hS ⟨.inr hS, H⟩
    · have := ready_mono hj hji
      rw [H.1] at this
      cases this
  | succ fuel ih =>
    intro listed a w hnb hfree hr hy hS H
    refine ⟨fun h => (by rw [h] at hr; cases hr), fun j hj => ?_⟩
    by_cases hji : j = i
    · subst hji; exact hy.wpOp hi hS ⟨.inr hS, H⟩
    · have h1 := H.2 j (ready_mono hj hji)
      obtain ⟨hjun, oj, hoj, hall⟩ := mem_ready.1 hj
      have hnot : ∀ e ∈ oj.after, Region.binds md e = true → e.on ≠ i := fun e he hb heq => by
        have h1 := hall e he hb
        have h0 := (mem_ready.1 hr).1
        rw [heq] at h1
        rcases Nat.lt_or_ge i listed.size with h' | h'
        · simp [h'] at h0 h1; rw [h0] at h1; cases h1
        · simp [Array.getElem?_eq_none h'] at h1
      have h2 := wpOp_putIf hoj (hfree j oj hoj hji hjun hnot) (fun cs b => hsel i oi cs b hi) (fun cs b => hsel j oj cs b hoj) hQ hy h1
      have hfree' : ∀ k ok, ops[k]? = some ok → k ≠ i → (listed.setIfInBounds j true).getD k true = false →
          (∀ e ∈ ok.after, Region.binds md e = true → e.on ≠ i) → oi.apart ops ok = true := fun k ok hk hki hun hno => by
        refine hfree k ok hk hki ?_ hno
        by_cases hjk : j = k
        · subst hjk; exact hjun
        · rw [getD_set_ne true hjk] at hun; exact hun
      have hjT : j ∉ T := fun ht => waits_spec (hT j ht) (mem_ready.1 hr).1 hj
      have hnb2 : ¬ begun_ T (listed.setIfInBounds j true) := fun ⟨t, ht, hl⟩ => hnb ⟨t, ht, by
        rw [getD_set_ne false (fun e : j = t => hjT (by rw [e]; exact ht))] at hl
        exact hl⟩
      have hnb3 : ¬ begun_ T ((listed.setIfInBounds i true).setIfInBounds j true) := fun ⟨t, ht, hl⟩ => hnb2 ⟨t, ht, by
        have hti : i ≠ t := fun e => by
          subst e
          exact waits_spec (hT i ht) (mem_ready.1 hr).1 hr
        rw [getD_set_ne false (fun e : j = t => hjT (by rw [e]; exact ht)), getD_set_ne false hti] at hl
        rw [getD_set_ne false (fun e : j = t => hjT (by rw [e]; exact ht))]
        exact hl⟩
      refine wpOp_mono (fun a' w' h3 => ?_) h2
      have hS' : S w' := h3.2.1.resolve_left hnb3
      refine ⟨.inr hS', ih (listed.setIfInBounds j true) a' w' hnb2 hfree' (ready_mono hr (Ne.symm hji)) h3.1 hS' ?_⟩
      rw [Array.setIfInBounds_comm _ _ hji]
      exact h3.2.2

/-- A plan: 'take i': it only reads; 'run i': the one operation that may come up; 'both i p j q': either may; 'tail i': the one that may, of the tail. -/
inductive Plan where
  | done
  | take (i : Nat) (p : Plan)
  | run (i : Nat) (p : Plan)
  | both (i : Nat) (p : Plan) (j : Nat) (q : Plan)
  | tail (i : Nat) (p : Plan)
def Plan.size : Plan → Nat
  | .done => 0
  | .take _ p => p.size + 1
  | .run _ p => p.size + 1
  | .both _ p _ _ => p.size + 1
  | .tail _ p => p.size + 1
def fresh_ (T : List Nat) (l : Array Bool) : Bool := T.all fun t => !l.getD t false
theorem fresh_spec {T : List Nat} {l : Array Bool} (h : fresh_ T l = true) : ¬ begun_ T l := fun ⟨t, ht, hl⟩ => by
  have := List.all_eq_true.1 h t ht
  rw [hl] at this
  cases this
def Plan.ok (md : Region.Mode) (ops : Array Oper) (T : List Nat) : Plan → Array Bool → Bool
  | .done, l => Region.ready md ops l == []
  | .take i p, l => Region.free md ops l i && ((Region.ready md ops l).contains i && (fresh_ T l && ((T.all fun t => waits_ md ops t i) && p.ok md ops T (l.setIfInBounds i true))))
  | .run i p, l => (Region.ready md ops l == [i]) && p.ok md ops T (l.setIfInBounds i true)
  | .both i p j q, l => (Region.ready md ops l == [i, j]) && (p.size == q.size && (p.ok md ops T (l.setIfInBounds i true) && q.ok md ops T (l.setIfInBounds j true)))
  | .tail i p, l => (Region.ready md ops l == [i]) && (T.contains i && (decide (i < l.size) && p.ok md ops T (l.setIfInBounds i true)))

def wpRun (P : Program) (ops : Array Oper) (Q : Exit → Act → World → Prop) (i : Nat) (S : World → Prop) (N : (World → Prop) → Act → World → Prop) (a : Act) (w : World) : Prop :=
  ∃ o, ops[i]? = some o ∧ ∀ K : Act → World → Prop, (∀ (S' : World → Prop) a' w', (∀ x, S' x → S x) → S' w' → N S' a' w' → K a' w') →
    if Region.wanted o (yielded ops a.tmps) = true then o.wp P a w K Q else K (a.put o.dst undef) w
def wpEnd (P : Program) (ops : Array Oper) (Q : Exit → Act → World → Prop) (i : Nat) (N : Act → World → Prop) (a : Act) (w : World) : Prop :=
  ∃ o, ops[i]? = some o ∧ ∀ K : Act → World → Prop, (∀ a' w', N a' w' → K a' w') →
    if Region.wanted o (yielded ops a.tmps) = true then o.wp P a w K Q else K (a.put o.dst undef) w
def wpPlan (P : Program) (ops : Array Oper) (Q : Exit → Act → World → Prop) : Plan → (World → Prop) → Act → World → Prop
  | .done, _, a, w => Q .normal a w
  | .take i p, S, a, w => ∃ o v, ops[i]? = some o ∧ YieldsIf P ops S o v a ∧ wpPlan P ops Q p S (a.put o.dst v) w
  | .run i p, S, a, w => wpRun P ops Q i S (wpPlan P ops Q p) a w
  | .both i p j q, S, a, w => wpRun P ops Q i S (wpPlan P ops Q p) a w ∧ wpRun P ops Q j S (wpPlan P ops Q q) a w
  | .tail i p, _, a, w => wpEnd P ops Q i (wpPlan P ops Q p (fun _ => True)) a w

theorem plan_done {S : World → Prop} {a : Act} {w : World} (h : Q .normal a w) : wpPlan P ops Q .done S a w := h
theorem plan_take {i : Nat} {p : Plan} {S : World → Prop} {a : Act} {w : World} {o : Oper} {v : Value} (ho : ops[i]? = some o) (hw : Region.wanted o (yielded ops a.tmps) = true)
    (hy : ∀ w, S w → (execOp a.eval o).run P w = .ok (.value v) w) (h : wpPlan P ops Q p S (a.put o.dst v) w) : wpPlan P ops Q (.take i p) S a w := ⟨o, v, ho, .inl ⟨hw, hy⟩, h⟩
theorem plan_skip {i : Nat} {p : Plan} {S : World → Prop} {a : Act} {w : World} {o : Oper} (ho : ops[i]? = some o) (hw : Region.wanted o (yielded ops a.tmps) = false)
    (h : wpPlan P ops Q p S (a.put o.dst undef) w) : wpPlan P ops Q (.take i p) S a w := ⟨o, undef, ho, .inr ⟨hw, rfl⟩, h⟩
theorem plan_run {i : Nat} {p : Plan} {S : World → Prop} {a : Act} {w : World} {o : Oper} (ho : ops[i]? = some o)
    (h : ∀ K : Act → World → Prop, (∀ (S' : World → Prop) a' w', (∀ x, S' x → S x) → S' w' → wpPlan P ops Q p S' a' w' → K a' w') →
      if Region.wanted o (yielded ops a.tmps) = true then o.wp P a w K Q else K (a.put o.dst undef) w) : wpPlan P ops Q (.run i p) S a w := ⟨o, ho, h⟩
theorem plan_both {i j : Nat} {p q : Plan} {S : World → Prop} {a : Act} {w : World} (h : wpPlan P ops Q (.run i p) S a w) (k : wpPlan P ops Q (.run j q) S a w) : wpPlan P ops Q (.both i p j q) S a w := ⟨h, k⟩
theorem plan_tail {i : Nat} {p : Plan} {S : World → Prop} {a : Act} {w : World} {o : Oper} (ho : ops[i]? = some o)
    (h : ∀ K : Act → World → Prop, (∀ a' w', wpPlan P ops Q p (fun _ => True) a' w' → K a' w') →
      if Region.wanted o (yielded ops a.tmps) = true then o.wp P a w K Q else K (a.put o.dst undef) w) : wpPlan P ops Q (.tail i p) S a w := ⟨o, ho, h⟩

theorem plan_run_on {i : Nat} {p : Plan} {S : World → Prop} {a : Act} {w : World} {o : Oper} (ho : ops[i]? = some o) (hw : Region.wanted o (yielded ops a.tmps) = true)
    (h : ∀ K : Act → World → Prop, (∀ (S' : World → Prop) a' w', (∀ x, S' x → S x) → S' w' → wpPlan P ops Q p S' a' w' → K a' w') → o.wp P a w K Q) : wpPlan P ops Q (.run i p) S a w :=
  plan_run ho (fun K hK => by rw [if_pos hw]; exact h K hK)
theorem plan_run_off {i : Nat} {p : Plan} {S : World → Prop} {a : Act} {w : World} {o : Oper} (ho : ops[i]? = some o) (hw : Region.wanted o (yielded ops a.tmps) = false) (hS : S w)
    (h : wpPlan P ops Q p S (a.put o.dst undef) w) : wpPlan P ops Q (.run i p) S a w :=
  plan_run ho (fun K hK => by rw [if_neg (by rw [hw]; simp)]; exact hK S _ _ (fun _ h => h) hS h)
theorem plan_tail_on {i : Nat} {p : Plan} {S : World → Prop} {a : Act} {w : World} {o : Oper} (ho : ops[i]? = some o) (hw : Region.wanted o (yielded ops a.tmps) = true)
    (h : ∀ K : Act → World → Prop, (∀ a' w', wpPlan P ops Q p (fun _ => True) a' w' → K a' w') → o.wp P a w K Q) : wpPlan P ops Q (.tail i p) S a w :=
  plan_tail ho (fun K hK => by rw [if_pos hw]; exact h K hK)
theorem plan_tail_off {i : Nat} {p : Plan} {S : World → Prop} {a : Act} {w : World} {o : Oper} (ho : ops[i]? = some o) (hw : Region.wanted o (yielded ops a.tmps) = false)
    (h : wpPlan P ops Q p (fun _ => True) (a.put o.dst undef) w) : wpPlan P ops Q (.tail i p) S a w :=
  plan_tail ho (fun K hK => by rw [if_neg (by rw [hw]; simp)]; exact hK _ _ h)

theorem wpOp_of_run {i : Nat} {o : Oper} {K : Act → World → Prop} {a : Act} {w : World} (ho : ops[i]? = some o)
    (h : if Region.wanted o (yielded ops a.tmps) = true then o.wp P a w K Q else K (a.put o.dst undef) w) : wpOp P ops Q i K a w := by
  unfold wpOp
  simp only [ho]
  split
  · rename_i hw; rw [if_pos hw] at h; exact .inl h
  · rename_i hw; rw [if_neg hw] at h; exact h

theorem wpAnyG_of_plan {T : List Nat} (hs : Region.noSelect ops = true) (hQ : ∀ c a d v w, Q (.panic c) (Act.put a d v) w → Q (.panic c) a w) :
    ∀ (p : Plan) (S : World → Prop) (listed : Array Bool) (a : Act) (w : World), p.ok md ops T listed = true → S w → wpPlan P ops Q p S a w → wpAnyG P md ops Q T S p.size listed a w
  | .done, S, listed, a, w, hk, hS, h => by
    simp only [Plan.ok, beq_iff_eq] at hk
    exact ⟨hk, h⟩
  | .take i p, S, listed, a, w, hk, hS, h => by
    simp only [Plan.ok, Bool.and_eq_true] at hk
    obtain ⟨o, v, ho, hy, h⟩ := h
    exact wpAnyG_first ho (Region.noSelect_spec hs) (fun c a w h => hQ c a _ _ w h) (fun t ht => List.all_eq_true.1 hk.2.2.2.1 t ht) _ listed a w (fresh_spec hk.2.2.1) (Region.free_spec ho hk.1) (by simpa using hk.2.1) hy hS
      (wpAnyG_of_plan hs hQ p S _ _ w hk.2.2.2.2 hS h)
  | .run i p, S, listed, a, w, hk, hS, h => by
    simp only [Plan.ok, Bool.and_eq_true, beq_iff_eq] at hk
    refine ⟨fun h0 => (by rw [hk.1] at h0; cases h0), fun j hj => ?_⟩
    rw [hk.1] at hj
    obtain rfl : j = i := by simpa using hj
    obtain ⟨o, ho, h⟩ := h
    exact wpOp_of_run ho (h _ (fun S' a' w' hS' hw' hN => ⟨.inr (hS' _ hw'), wpAnyG_weaken hS' _ _ _ _ (wpAnyG_of_plan hs hQ p S' _ a' w' hk.2 hw' hN)⟩))
  | .both i p j q, S, listed, a, w, hk, hS, h => by
    simp only [Plan.ok, Bool.and_eq_true, beq_iff_eq] at hk
    refine ⟨fun h0 => (by rw [hk.1] at h0; cases h0), fun k hk' => ?_⟩
    rw [hk.1] at hk'
    have hk2 : k = i ∨ k = j := by simpa using hk'
    rcases hk2 with rfl | rfl
    · obtain ⟨o, ho, h⟩ := h.1
      exact wpOp_of_run ho (h _ (fun S' a' w' hS' hw' hN => ⟨.inr (hS' _ hw'), wpAnyG_weaken hS' _ _ _ _ (wpAnyG_of_plan hs hQ p S' _ a' w' hk.2.2.1 hw' hN)⟩))
    · obtain ⟨o, ho, h⟩ := h.2
      refine wpOp_of_run ho (h _ (fun S' a' w' hS' hw' hN => ⟨.inr (hS' _ hw'), wpAnyG_weaken hS' _ _ _ _ ?_⟩))
      show wpAnyG P md ops Q T S' p.size _ _ _
      rw [hk.2.1]
      exact wpAnyG_of_plan hs hQ q S' _ a' w' hk.2.2.2 hw' hN
  | .tail i p, S, listed, a, w, hk, hS, h => by
    simp only [Plan.ok, Bool.and_eq_true, beq_iff_eq, decide_eq_true_eq] at hk
    refine ⟨fun h0 => (by rw [hk.1] at h0; cases h0), fun j hj => ?_⟩
    rw [hk.1] at hj
    obtain rfl : j = i := by simpa using hj
    obtain ⟨o, ho, h⟩ := h
    have hb : begun_ T (listed.setIfInBounds j true) := ⟨j, by simpa using hk.2.1, by simp [hk.2.2.1]⟩
    exact wpOp_of_run ho (h _ (fun a' w' hN => ⟨.inl hb, wpAnyG_tail _ _ _ _ hb (wpAnyG_of_plan hs hQ p (fun _ => True) _ a' w' hk.2.2.2 trivial hN)⟩))

def planB (ops : Array Oper) (T : List Nat) (p : Plan) : Bool := Region.noSelect ops && (p.size == ops.size && p.ok .any ops T (Array.replicate ops.size false))
theorem wp_region_plan {id : Nat} {a : Act} {w : World} (T : List Nat) (p : Plan) (S : World → Prop) (hm : P.follows .mixedOrders = true) (hB : planB ops T p = true)
    (hQ : ∀ c a d v w, Q (.panic c) (Act.put a d v) w → Q (.panic c) a w) (hS : S w.drew)
    (h : wpPlan P ops Q p S a w.drew) : (Code.region id ops true).wp P Q a w := by
  simp only [planB, Bool.and_eq_true, beq_iff_eq] at hB
  have h2 := wpAnyG_of_plan hB.1 hQ p S _ a _ hB.2.2 hS h
  rw [hB.2.1] at h2
  exact wp_region_any hm (wpAny_of_G _ _ _ _ h2)
end
end Go.Proofs.YthfoafjjenegaaaDoor
namespace Go.Proofs.YthfoafjjenegaaaDoor
section
variable {P : Program}
theorem run_loadAt_addr (w : World) (a : Addr) (ty : TypeId) (cs : List Value) (d : TypeDesc) (hc : ∀ j v, cs[j]? = some v → w.cell? (a.add j) = some v)
    (hu : P.underlying ty = some d) (hd : d.isRow = true) (hi : (P.info? ty).map (·.size) = some cs.length) :
    (Instr.loadAt ty (.pointer (some a))).run P w = .ok (.agg cs.toArray) w := by
  have hl : (loadCells a cs.length).run P w = .ok cs.toArray w := run_loadCells_list (P := P) w a cs hc
  cases hq : P.info? ty with
  | none => simp [hq] at hi
  | some i =>
    have hs : i.size = cs.length := by simpa [hq] using hi
    have hagg : (isAgg ty).run P w = .ok true w := by
      unfold isAgg
      rw [Sem.run_bind, run_underlying hu w]
      cases d <;> simp_all
    simp only [Instr.loadAt, Instr.sureAddr, Sem.run_bind, Sem.run_pure, Result.andThen_ok]
    simp [loadVar, Sem.run_bind, hagg, sizeOf, typeInfo, hq, hs, hl]
/-- A whole array (or struct) read as one operation. -/
theorem exec_load_row {o : Oper} {A : Act} {w : World} (ty : TypeId) (x : Operand) (ho : o.op = .load ty x) (a : Addr) (hx : A.eval x = .pointer (some a)) (cs : List Value) (d : TypeDesc)
    (hc : ∀ j v, cs[j]? = some v → w.cell? (a.add j) = some v) (hu : P.underlying ty = some d) (hd : d.isRow = true) (hi : (P.info? ty).map (·.size) = some cs.length) :
    (execOp A.eval o).run P w = .ok (.value (.agg cs.toArray)) w := by
  unfold execOp
  simp only [ho, hx, Sem.run_bind, run_loadAt_addr w a ty cs d hc hu hd hi, Result.andThen_ok, Sem.run_pure]
  try rfl
theorem wp_load_addr {op : Oper} {a : Act} {w : World} {K : Act → World → Prop} {Q : Exit → Act → World → Prop} (ty : TypeId) (x : Operand) (ho : op.op = .load ty x)
    (ad : Addr) (hx : a.eval x = .pointer (some ad)) (cs : List Value) (d : TypeDesc) (hc : ∀ j v, cs[j]? = some v → w.cell? (ad.add j) = some v)
    (hu : P.underlying ty = some d) (hd : d.isRow = true) (hi : (P.info? ty).map (·.size) = some cs.length)
    (h : K (a.put op.dst (.agg cs.toArray)) w) : op.wp P a w K Q := by
  unfold Oper.wp
  rw [exec_load_row ty x ho ad hx cs d hc hu hd hi]
  exact h
theorem wpList_load_addr {ops : Array Oper} {rest : List Oper} {op : Oper} {a : Act} {w : World} {Q : Exit → Act → World → Prop} (hgd : op.guard = none) (ty : TypeId) (x : Operand) (ho : op.op = .load ty x)
    (ad : Addr) (hx : a.eval x = .pointer (some ad)) (cs : List Value) (d : TypeDesc) (hc : ∀ j v, cs[j]? = some v → w.cell? (ad.add j) = some v)
    (hu : P.underlying ty = some d) (hd : d.isRow = true) (hi : (P.info? ty).map (·.size) = some cs.length)
    (h : wpList P ops Q rest (a.put op.dst (.agg cs.toArray)) w) : wpList P ops Q (op :: rest) a w :=
  wpList_plain hgd fun _ hK => wp_load_addr ty x ho ad hx cs d hc hu hd hi (hK _ _ h)
end
end Go.Proofs.YthfoafjjenegaaaDoor
