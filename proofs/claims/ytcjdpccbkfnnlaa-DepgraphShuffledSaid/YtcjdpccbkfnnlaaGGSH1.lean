/- Texts of one seat, laid together. -/
import Derived.Test.YtcjdpccbkfnnlaaWWords
import Derived.Test.YtcjdpccbkfnnlaaWLast
import Derived.Test.YtcjdpccbkfnnlaaWMore
import Derived.Test.YtcjdpccbkfnnlaaWShare
import Derived.Deep.MidRow
import Derived.Laws.CopyOwn
import Derived.OrdersHeld
import Derived.Deep.RegionHeld
import Derived.Shelf.Small.Bits
import Derived.Shelf.Strconv.Itoa0
import Derived.Shelf.Sort.Plain
import Derived.Shelf.Slices.Turned
import Derived.Ground.Names2Prog
import Derived.Shelf.Slices.Clone
import Derived.Shelf.Slices.CompactS
import Derived.Shelf.Slices.Cells
import Derived.Shelf.Slices.In.SortNone
import Derived.Ground.SlgnProg
import Derived.Shelf.SlicesE.Clone
import Derived.Test.YtcjdpccbkfnnlaaProg
import Derived.Lib.SlicesCompact
import Derived.Sort.KeysCollected
import Derived.Sort.OwnSorted
import Derived.WalkKit
import Derived.WalkSpells
import Derived.WalkLawsBesides
import Derived.Below
import Derived.Deep.Draws
import Derived.Deep.AppendLies
import Derived.Maps.AppendAt
import Derived.OwnWalk
import Derived.Laws.BytesArg
import Derived.Laws.MakeOwn
import Derived.Laws.OwnMore
import Derived.Deep.OwnRows
import Derived.Tactics
import Derived.Lib.ConvBytes
import Derived.Laws.Slices
import Derived.KernelRfl
import Derived.RowKit3
import Derived.Deep.LoopGhost
import Derived.Deep.QuietTactic
import Derived.BigQuiet
import Derived.WideLaws
import Derived.Deep.DeepCutAuto
import Derived.Deep.CutBlock
import Derived.Deep.RegionHeld3
import Derived.Laws.Rows
import Derived.Lib.AppendStr
import Derived.ArgAppend
import Derived.Laws.IdiomCopy
import Derived.Laws.BitsLemmas
import Derived.RowKit
import Derived.Test.YtcjdpccbkfnnlaaWTab
import Derived.Test.YtcjdpccbkfnnlaaWFour
import Derived.Test.YtcjdpccbkfnnlaaWQPut
import Derived.Test.YtcjdpccbkfnnlaaWApart
import Derived.Test.YtcjdpccbkfnnlaaWArr
import Derived.Test.YtcjdpccbkfnnlaaWZeros
import Derived.Test.YtcjdpccbkfnnlaaWFoot
import Derived.Test.YtcjdpccbkfnnlaaWKept
import Derived.Test.YtcjdpccbkfnnlaaWN
import Derived.Test.YtcjdpccbkfnnlaaWFootNe
import Derived.Test.YtcjdpccbkfnnlaaWAt
import Derived.Test.YtcjdpccbkfnnlaaWEqStruct
import Derived.Test.YtcjdpccbkfnnlaaWRepsOne
import Derived.Test.YtcjdpccbkfnnlaaWInv
import Derived.Test.YtcjdpccbkfnnlaaWInvWords
import Derived.Test.YtcjdpccbkfnnlaaWGuard
import Derived.Test.YtcjdpccbkfnnlaaWNEv
import Derived.Lib.Strings
import Derived.Sort.Walk0
import Derived.Maps.OwnSet
import Derived.Maps.Ext
import Derived.Maps.Range
import Derived.Shelf.SlIter.Nil
import Derived.Shelf.SortM.Plain
import Derived.Shelf.SortM.SortNone
import Derived.Ground.GgzProg
import Derived.Ground.SlgmProg

set_option linter.unusedVariables false
set_option linter.unusedSimpArgs false
namespace Go.Proofs.Ytcjdpccbkfnnlaa
open Go.RowKit Go.Proofs.YtcjdpccbkfnnlaaW.PrintWords

/-- Between w and w' only blocks of S have been written, and new ones made. -/
structure Chg (S : Nat → Prop) (w w' : World) : Prop where
  os : w'.os = w.os
  tape : w'.tape = w.tape
  output : w'.output = w.output
  size : w.heap.size ≤ w'.heap.size
  block : ∀ k, k < w.heap.size → ¬ S k → w'.heap[k]? = w.heap[k]?

def none_ : Nat → Prop := fun _ => False
theorem hid {p : Prop} (h : p) : Hid p := h

namespace Chg
variable {S S2 : Nat → Prop} {w w1 w2 w' : World}
theorem refl (S : Nat → Prop) (w : World) : Chg S w w := ⟨rfl, rfl, rfl, Nat.le_refl _, fun _ _ _ => rfl⟩
theorem then_ (h : Chg S w w1) (k : Chg S2 w1 w2) (hs : ∀ k, S2 k → S k ∨ w.heap.size ≤ k) : Chg S w w2 :=
  ⟨k.os.trans h.os, k.tape.trans h.tape, k.output.trans h.output, Nat.le_trans h.size k.size, fun i hi hn =>
    (k.block i (Nat.lt_of_lt_of_le hi h.size) (fun h2 => (hs i h2).elim hn (fun h3 => by omega))).trans (h.block i hi hn)⟩
theorem of_below (h : Below w.heap.size w w') (S : Nat → Prop) : Chg S w w' := ⟨h.os, h.tape, h.output, h.size, fun i hi _ => h.block i hi⟩
theorem below_ (h : Chg S w w') {B : Nat} (hB : B ≤ w.heap.size) (hS : ∀ k, S k → B ≤ k) : Below B w w' :=
  ⟨h.os, h.tape, h.output, h.size, fun i hi => h.block i (by omega) (fun hk => by have := hS i hk; omega)⟩
theorem same (h : Chg S w w1) (k : Below w1.heap.size w1 w2) : Chg S w w2 := h.then_ (of_below k none_) (fun _ hk => hk.elim)
theorem grown (h : Chg S w w1) {row : Option Nat} (hg : w1.grownBy w2 row) (hr : ∀ k, row = some k → S k ∨ w.heap.size ≤ k) : Chg S w w2 :=
  h.then_ (S2 := fun k => row = some k) ⟨hg.os, hg.tape, hg.output, hg.size, fun i hi hn => hg.block i hi (fun he => hn he.symm)⟩ hr
end Chg

end Go.Proofs.Ytcjdpccbkfnnlaa
namespace Go.Proofs.Ytcjdpccbkfnnlaa
open Go.RowKit Go.Proofs.YtcjdpccbkfnnlaaW.PrintWords
section
variable {w w1 : World} {base g n cap off : Nat} {e : TypeId} {size : Nat} {xs vs : List Value}
/-! ### A row of a call's own, some of its cells written at once -/
theorem heap_setCells (vs : List Value) : ∀ (off : Nat) (w : World) (cur : Array Value), w.heap[g]? = some (.cells cur e (0, 0)) → off + vs.length ≤ cur.size →
    (w.setCells g off vs).heap[g]? = some (.cells (splice cur.toList off vs).toArray e (0, 0)) := by
  induction vs with
  | nil =>
    intro off w cur h hl
    simp [World.setCells, splice, h]
  | cons v vs ih =>
    intro off w cur h hl
    have h1 : (w.setCell ⟨g, off, none⟩ v).heap[g]? = some (.cells (cur.setIfInBounds off v) e (0, 0)) := heap_setCell_same w g off cur e v h
    have h2 := ih (off + 1) _ _ h1 (by simp at hl ⊢; omega)
    show ((w.setCell ⟨g, off, none⟩ v).setCells g (off + 1) vs).heap[g]? = _
    rw [h2]
    have hoff : off < cur.toList.length := by simp at hl ⊢; omega
    have : splice (cur.setIfInBounds off v).toList (off + 1) vs = splice cur.toList off (v :: vs) := by
      unfold splice
      rw [Array.toList_setIfInBounds]
      rw [List.take_set, List.take_succ_eq_append_getElem hoff, List.drop_set]
      rw [if_pos (by omega)]
      have : (List.take off cur.toList ++ [cur.toList[off]]).set off v = List.take off cur.toList ++ [v] := by
        have hle : (List.take off cur.toList).length = off := by rw [List.length_take]; exact Nat.min_eq_left (Nat.le_of_lt hoff)
        rw [List.set_append_right _ _ (by omega)]
        have : off - (List.take off cur.toList).length = 0 := by omega
        rw [this]; rfl
      rw [this]
      simp [Nat.add_assoc, Nat.add_comm 1]
    rw [this]
end
end Go.Proofs.Ytcjdpccbkfnnlaa

set_option linter.unusedVariables false
set_option linter.unusedSimpArgs false
namespace Go.Proofs.Ytcjdpccbkfnnlaa
section
variable {P : Program} {ops : Array Oper} {Q : Exit → Act → World → Prop} {md : Region.Mode}

/-- Is one of the tail listed? -/
def begun_ (T : List Nat) (l : Array Bool) : Prop := ∃ t ∈ T, l.getD t false = true

/-- Whatever order is picked from here on; S holds behind each operation until the tail has begun. -/
def wpAnyG (P : Program) (md : Region.Mode) (ops : Array Oper) (Q : Exit → Act → World → Prop) (T : List Nat) (S : World → Prop) : Nat → Array Bool → Act → World → Prop
  | 0, listed, a, w => Region.ready md ops listed = [] ∧ Q .normal a w
  | fuel + 1, listed, a, w =>
    (Region.ready md ops listed = [] → Q .normal a w) ∧
    ∀ i ∈ Region.ready md ops listed, wpOp P ops Q i (fun a' w' => (begun_ T (listed.setIfInBounds i true) ∨ S w') ∧ wpAnyG P md ops Q T S fuel (listed.setIfInBounds i true) a' w') a w

theorem wpAny_of_G {T : List Nat} {S : World → Prop} : ∀ (fuel : Nat) (listed : Array Bool) (a : Act) (w : World), wpAnyG P md ops Q T S fuel listed a w → wpAny P md ops Q fuel listed a w
  | 0, _, _, _, h => h
  | fuel + 1, _, _, _, h => ⟨h.1, fun i hi => wpOp_mono (fun a' w' h' => wpAny_of_G fuel _ a' w' h'.2) (h.2 i hi)⟩
theorem wpAnyG_weaken {T : List Nat} {S S' : World → Prop} (hS : ∀ w, S' w → S w) : ∀ (fuel : Nat) (listed : Array Bool) (a : Act) (w : World), wpAnyG P md ops Q T S' fuel listed a w → wpAnyG P md ops Q T S fuel listed a w
  | 0, _, _, _, h => h
  | fuel + 1, _, _, _, h => ⟨h.1, fun i hi => wpOp_mono (fun a' w' h' => ⟨h'.1.imp id (hS _), wpAnyG_weaken hS fuel _ a' w' h'.2⟩) (h.2 i hi)⟩
/-- Once the tail has begun S is not asked any more. -/
theorem wpAnyG_tail {T : List Nat} {S S' : World → Prop} : ∀ (fuel : Nat) (listed : Array Bool) (a : Act) (w : World), begun_ T listed → wpAnyG P md ops Q T S' fuel listed a w → wpAnyG P md ops Q T S fuel listed a w
  | 0, _, _, _, _, h => h
  | fuel + 1, listed, _, _, hb, h => ⟨h.1, fun i hi => by
      have hb2 : begun_ T (listed.setIfInBounds i true) := by
        obtain ⟨t, ht, hl⟩ := hb
        exact ⟨t, ht, getD_set_true hl⟩
      exact wpOp_mono (fun a' w' h' => ⟨.inl hb2, wpAnyG_tail fuel _ a' w' hb2 h'.2⟩) (h.2 i hi)⟩
/-- Number t waits for number i. -/
def waits_ (md : Region.Mode) (ops : Array Oper) (t i : Nat) : Bool :=
  match ops[t]? with
  | some o => o.after.any fun e => Region.binds md e && e.on == i
  | none => false
theorem waits_spec {t i : Nat} (h : waits_ md ops t i = true) {listed : Array Bool} (hi : listed.getD i true = false) : t ∉ Region.ready md ops listed := by
  intro hr
  obtain ⟨_, o, ho, hall⟩ := mem_ready.1 hr
  unfold waits_ at h
  rw [ho] at h
  obtain ⟨e, he, hb⟩ := Array.any_eq_true'.1 h
  simp only [Bool.and_eq_true, beq_iff_eq] at hb
  have h1 := hall e he hb.1
  rw [hb.2] at h1
  rcases Nat.lt_or_ge i listed.size with h' | h'
  · simp [h'] at hi h1; rw [hi] at h1; cases h1
  · simp [Array.getElem?_eq_none h'] at h1

theorem wpAnyG_first {T : List Nat} {S : World → Prop} {i : Nat} {oi : Oper} {v : Value} (hi : ops[i]? = some oi) (hsel : ∀ (j : Nat) (o : Oper) cs b, ops[j]? = some o → o.op ≠ .select cs b)
    (hQ : ∀ c a w, Q (.panic c) (a.put oi.dst v) w → Q (.panic c) a w) (hT : ∀ t ∈ T, waits_ md ops t i = true) :
    ∀ (fuel : Nat) (listed : Array Bool) (a : Act) (w : World), ¬ begun_ T listed →
      (∀ j oj, ops[j]? = some oj → j ≠ i → listed.getD j true = false → (∀ e ∈ oj.after, Region.binds md e = true → e.on ≠ i) → oi.apart ops oj = true) →
      i ∈ Region.ready md ops listed → YieldsIf P ops S oi v a → S w →
      wpAnyG P md ops Q T S fuel (listed.setIfInBounds i true) (a.put oi.dst v) w → wpAnyG P md ops Q T S (fuel + 1) listed a w := by
  intro fuel
  induction fuel with
  | zero =>
    intro listed a w _ _ hr hy hS H
    refine ⟨fun h => (by rw [h] at hr; cases hr), fun j hj => ?_⟩
    by_cases hji : j = i
    · subst hji; exact hy.wpOp hi hS ⟨.inr hS, H⟩
    · have := ready_mono hj hji
      rw [H.1] at this
      cases this
  | succ fuel ih =>
    intro listed a w hnb hfree hr hy hS H
    refine ⟨fun h => (by rw [h] at hr; cases hr), fun j hj => ?_⟩
    by_cases hji : j = i
    · subst hji; exact hy.wpOp hi hS ⟨.inr hS, H⟩
    · have h1 := H.2 j (ready_mono hj hji)
      obtain ⟨hjun, oj, hoj, hall⟩ := mem_ready.1 hj
      have hnot : ∀ e ∈ oj.after, Region.binds md e = true → e.on ≠ i := fun e he hb heq => by
        have h1 := hall e he hb
        have h0 := (mem_ready.1 hr).1
        rw [heq] at h1
        rcases Nat.lt_or_ge i listed.size with h' | h'
        · simp [h'] at h0 h1; rw [h0] at h1; cases h1
        · simp [Array.getElem?_eq_none h'] at h1
      have h2 := wpOp_putIf hoj (hfree j oj hoj hji hjun hnot) (fun cs b => hsel i oi cs b hi) (fun cs b => hsel j oj cs b hoj) hQ hy h1
      have hfree' : ∀ k ok, ops[k]? = some ok → k ≠ i → (listed.setIfInBounds j true).getD k true = false →
          (∀ e ∈ ok.after, Region.binds md e = true → e.on ≠ i) → oi.apart ops ok = true := fun k ok hk hki hun hno => by
        refine hfree k ok hk hki ?_ hno
        by_cases hjk : j = k
        · subst hjk; exact hjun
        · rw [getD_set_ne true hjk] at hun; exact hun
      have hjT : j ∉ T := fun ht => waits_spec (hT j ht) (mem_ready.1 hr).1 hj
      have hnb2 : ¬ begun_ T (listed.setIfInBounds j true) := fun ⟨t, ht, hl⟩ => hnb ⟨t, ht, by
        rw [getD_set_ne false (fun e : j = t => hjT (by rw [e]; exact ht))] at hl
        exact hl⟩
      have hnb3 : ¬ begun_ T ((listed.setIfInBounds i true).setIfInBounds j true) := fun ⟨t, ht, hl⟩ => hnb2 ⟨t, ht, by
        have hti : i ≠ t := fun e => by
          subst e
          exact waits_spec (hT i ht) (mem_ready.1 hr).1 hr
        rw [getD_set_ne false (fun e : j = t => hjT (by rw [e]; exact ht)), getD_set_ne false hti] at hl
        rw [getD_set_ne false (fun e : j = t => hjT (by rw [e]; exact ht))]
        exact hl⟩
      refine wpOp_mono (fun a' w' h3 => ?_) h2
      have hS' : S w' := h3.2.1.resolve_left hnb3
      refine ⟨.inr hS', ih (listed.setIfInBounds j true) a' w' hnb2 hfree' (ready_mono hr (Ne.symm hji)) h3.1 hS' ?_⟩
      rw [Array.setIfInBounds_comm _ _ hji]
      exact h3.2.2

/-- A plan: 'take i': it only reads; 'run i': the one operation that may come up; 'both i p j q': either may; 'tail i': the one that may, of the tail. -/
inductive Plan where
  | done
  | take (i : Nat) (p : Plan)
  | run (i : Nat) (p : Plan)
  | both (i : Nat) (p : Plan) (j : Nat) (q : Plan)
  | tail (i : Nat) (p : Plan)
def Plan.size : Plan → Nat
  | .done => 0
  | .take _ p => p.size + 1
  | .run _ p => p.size + 1
  | .both _ p _ _ => p.size + 1
  | .tail _ p => p.size + 1
def fresh_ (T : List Nat) (l : Array Bool) : Bool := T.all fun t => !l.getD t false
theorem fresh_spec {T : List Nat} {l : Array Bool} (h : fresh_ T l = true) : ¬ begun_ T l := fun ⟨t, ht, hl⟩ => by
  have := List.all_eq_true.1 h t ht
  rw [hl] at this
  cases this
def Plan.ok (md : Region.Mode) (ops : Array Oper) (T : List Nat) : Plan → Array Bool → Bool
  | .done, l => Region.ready md ops l == []
  | .take i p, l => Region.free md ops l i && ((Region.ready md ops l).contains i && (fresh_ T l && ((T.all fun t => waits_ md ops t i) && p.ok md ops T (l.setIfInBounds i true))))
  | .run i p, l => (Region.ready md ops l == [i]) && p.ok md ops T (l.setIfInBounds i true)
  | .both i p j q, l => (Region.ready md ops l == [i, j]) && (p.size == q.size && (p.ok md ops T (l.setIfInBounds i true) && q.ok md ops T (l.setIfInBounds j true)))
  | .tail i p, l => (Region.ready md ops l == [i]) && (T.contains i && (decide (i < l.size) && p.ok md ops T (l.setIfInBounds i true)))

def wpRun (P : Program) (ops : Array Oper) (Q : Exit → Act → World → Prop) (i : Nat) (S : World → Prop) (N : (World → Prop) → Act → World → Prop) (a : Act) (w : World) : Prop :=
  ∃ o, ops[i]? = some o ∧ ∀ K : Act → World → Prop, (∀ (S' : World → Prop) a' w', (∀ x, S' x → S x) → S' w' → N S' a' w' → K a' w') →
    if Region.wanted o (yielded ops a.tmps) = true then o.wp P a w K Q else K (a.put o.dst undef) w
def wpEnd (P : Program) (ops : Array Oper) (Q : Exit → Act → World → Prop) (i : Nat) (N : Act → World → Prop) (a : Act) (w : World) : Prop :=
  ∃ o, ops[i]? = some o ∧ ∀ K : Act → World → Prop, (∀ a' w', N a' w' → K a' w') →
    if Region.wanted o (yielded ops a.tmps) = true then o.wp P a w K Q else K (a.put o.dst undef) w
def wpPlan (P : Program) (ops : Array Oper) (Q : Exit → Act → World → Prop) : Plan → (World → Prop) → Act → World → Prop
  | .done, _, a, w => Q .normal a w
  | .take i p, S, a, w => ∃ o v, ops[i]? = some o ∧ YieldsIf P ops S o v a ∧ wpPlan P ops Q p S (a.put o.dst v) w
  | .run i p, S, a, w => wpRun P ops Q i S (wpPlan P ops Q p) a w
  | .both i p j q, S, a, w => wpRun P ops Q i S (wpPlan P ops Q p) a w ∧ wpRun P ops Q j S (wpPlan P ops Q q) a w
  | .tail i p, _, a, w => wpEnd P ops Q i (wpPlan P ops Q p (fun _ => True)) a w

theorem plan_done {S : World → Prop} {a : Act} {w : World} (h : Q .normal a w) : wpPlan P ops Q .done S a w := h
theorem plan_take {i : Nat} {p : Plan} {S : World → Prop} {a : Act} {w : World} {o : Oper} {v : Value} (ho : ops[i]? = some o) (hw : Region.wanted o (yielded ops a.tmps) = true)
    (hy : ∀ w, S w → (execOp a.eval o).run P w = .ok (.value v) w) (h : wpPlan P ops Q p S (a.put o.dst v) w) : wpPlan P ops Q (.take i p) S a w := ⟨o, v, ho, .inl ⟨hw, hy⟩, h⟩
theorem plan_run {i : Nat} {p : Plan} {S : World → Prop} {a : Act} {w : World} {o : Oper} (ho : ops[i]? = some o)
    (h : ∀ K : Act → World → Prop, (∀ (S' : World → Prop) a' w', (∀ x, S' x → S x) → S' w' → wpPlan P ops Q p S' a' w' → K a' w') →
      if Region.wanted o (yielded ops a.tmps) = true then o.wp P a w K Q else K (a.put o.dst undef) w) : wpPlan P ops Q (.run i p) S a w := ⟨o, ho, h⟩
theorem plan_tail {i : Nat} {p : Plan} {S : World → Prop} {a : Act} {w : World} {o : Oper} (ho : ops[i]? = some o)
    (h : ∀ K : Act → World → Prop, (∀ a' w', wpPlan P ops Q p (fun _ => True) a' w' → K a' w') →
      if Region.wanted o (yielded ops a.tmps) = true then o.wp P a w K Q else K (a.put o.dst undef) w) : wpPlan P ops Q (.tail i p) S a w := ⟨o, ho, h⟩

theorem plan_run_on {i : Nat} {p : Plan} {S : World → Prop} {a : Act} {w : World} {o : Oper} (ho : ops[i]? = some o) (hw : Region.wanted o (yielded ops a.tmps) = true)
    (h : ∀ K : Act → World → Prop, (∀ (S' : World → Prop) a' w', (∀ x, S' x → S x) → S' w' → wpPlan P ops Q p S' a' w' → K a' w') → o.wp P a w K Q) : wpPlan P ops Q (.run i p) S a w :=
  plan_run ho (fun K hK => by rw [if_pos hw]; exact h K hK)
theorem plan_tail_on {i : Nat} {p : Plan} {S : World → Prop} {a : Act} {w : World} {o : Oper} (ho : ops[i]? = some o) (hw : Region.wanted o (yielded ops a.tmps) = true)
    (h : ∀ K : Act → World → Prop, (∀ a' w', wpPlan P ops Q p (fun _ => True) a' w' → K a' w') → o.wp P a w K Q) : wpPlan P ops Q (.tail i p) S a w :=
  plan_tail ho (fun K hK => by rw [if_pos hw]; exact h K hK)
theorem wpOp_of_run {i : Nat} {o : Oper} {K : Act → World → Prop} {a : Act} {w : World} (ho : ops[i]? = some o)
    (h : if Region.wanted o (yielded ops a.tmps) = true then o.wp P a w K Q else K (a.put o.dst undef) w) : wpOp P ops Q i K a w := by
  unfold wpOp
  simp only [ho]
  split
  · rename_i hw; rw [if_pos hw] at h; exact .inl h
  · rename_i hw; rw [if_neg hw] at h; exact h

theorem wpAnyG_of_plan {T : List Nat} (hs : Region.noSelect ops = true) (hQ : ∀ c a d v w, Q (.panic c) (Act.put a d v) w → Q (.panic c) a w) :
    ∀ (p : Plan) (S : World → Prop) (listed : Array Bool) (a : Act) (w : World), p.ok md ops T listed = true → S w → wpPlan P ops Q p S a w → wpAnyG P md ops Q T S p.size listed a w
  | .done, S, listed, a, w, hk, hS, h => by
    simp only [Plan.ok, beq_iff_eq] at hk
    exact ⟨hk, h⟩
  | .take i p, S, listed, a, w, hk, hS, h => by
    simp only [Plan.ok, Bool.and_eq_true] at hk
    obtain ⟨o, v, ho, hy, h⟩ := h
    exact wpAnyG_first ho (Region.noSelect_spec hs) (fun c a w h => hQ c a _ _ w h) (fun t ht => List.all_eq_true.1 hk.2.2.2.1 t ht) _ listed a w (fresh_spec hk.2.2.1) (Region.free_spec ho hk.1) (by simpa using hk.2.1) hy hS
      (wpAnyG_of_plan hs hQ p S _ _ w hk.2.2.2.2 hS h)
  | .run i p, S, listed, a, w, hk, hS, h => by
    simp only [Plan.ok, Bool.and_eq_true, beq_iff_eq] at hk
    refine ⟨fun h0 => (by rw [hk.1] at h0; cases h0), fun j hj => ?_⟩
    rw [hk.1] at hj
    obtain rfl : j = i := by simpa using hj
    obtain ⟨o, ho, h⟩ := h
    exact wpOp_of_run ho (h _ (fun S' a' w' hS' hw' hN => ⟨.inr (hS' _ hw'), wpAnyG_weaken hS' _ _ _ _ (wpAnyG_of_plan hs hQ p S' _ a' w' hk.2 hw' hN)⟩))
  | .both i p j q, S, listed, a, w, hk, hS, h => by
    simp only [Plan.ok, Bool.and_eq_true, beq_iff_eq] at hk
    refine ⟨fun h0 => (by rw [hk.1] at h0; cases h0), fun k hk' => ?_⟩
    rw [hk.1] at hk'
    have hk2 : k = i ∨ k = j := by simpa using hk'
    rcases hk2 with rfl | rfl
    · obtain ⟨o, ho, h⟩ := h.1
      exact wpOp_of_run ho (h _ (fun S' a' w' hS' hw' hN => ⟨.inr (hS' _ hw'), wpAnyG_weaken hS' _ _ _ _ (wpAnyG_of_plan hs hQ p S' _ a' w' hk.2.2.1 hw' hN)⟩))
    · obtain ⟨o, ho, h⟩ := h.2
      refine wpOp_of_run ho (h _ (fun S' a' w' hS' hw' hN => ⟨.inr (hS' _ hw'), wpAnyG_weaken hS' _ _ _ _ ?_⟩))
      show wpAnyG P md ops Q T S' p.size _ _ _
      rw [hk.2.1]
      exact wpAnyG_of_plan hs hQ q S' _ a' w' hk.2.2.2 hw' hN
  | .tail i p, S, listed, a, w, hk, hS, h => by
    simp only [Plan.ok, Bool.and_eq_true, beq_iff_eq, decide_eq_true_eq] at hk
    refine ⟨fun h0 => (by rw [hk.1] at h0; cases h0), fun j hj => ?_⟩
    rw [hk.1] at hj
    obtain rfl : j = i := by simpa using hj
    obtain ⟨o, ho, h⟩ := h
    have hb : begun_ T (listed.setIfInBounds j true) := ⟨j, by simpa using hk.2.1, by simp [hk.2.2.1]⟩
    exact wpOp_of_run ho (h _ (fun a' w' hN => ⟨.inl hb, wpAnyG_tail _ _ _ _ hb (wpAnyG_of_plan hs hQ p (fun _ => True) _ a' w' hk.2.2.2 trivial hN)⟩))

def planB (ops : Array Oper) (T : List Nat) (p : Plan) : Bool := Region.noSelect ops && (p.size == ops.size && p.ok .any ops T (Array.replicate ops.size false))
theorem wp_region_plan {id : Nat} {a : Act} {w : World} (T : List Nat) (p : Plan) (S : World → Prop) (hm : P.follows .mixedOrders = true) (hB : planB ops T p = true)
    (hQ : ∀ c a d v w, Q (.panic c) (Act.put a d v) w → Q (.panic c) a w) (hS : S w.drew)
    (h : wpPlan P ops Q p S a w.drew) : (Code.region id ops true).wp P Q a w := by
  simp only [planB, Bool.and_eq_true, beq_iff_eq] at hB
  have h2 := wpAnyG_of_plan hB.1 hQ p S _ a _ hB.2.2 hS h
  rw [hB.2.1] at h2
  exact wp_region_any hm (wpAny_of_G _ _ _ _ h2)
end
end Go.Proofs.Ytcjdpccbkfnnlaa
namespace Go.Proofs.Ytcjdpccbkfnnlaa
section
variable {P : Program}
theorem run_loadAt_addr (w : World) (a : Addr) (ty : TypeId) (cs : List Value) (d : TypeDesc) (hc : ∀ j v, cs[j]? = some v → w.cell? (a.add j) = some v)
    (hu : P.underlying ty = some d) (hd : d.isRow = true) (hi : (P.info? ty).map (·.size) = some cs.length) :
    (Instr.loadAt ty (.pointer (some a))).run P w = .ok (.agg cs.toArray) w := by
  have hl : (loadCells a cs.length).run P w = .ok cs.toArray w := run_loadCells_list (P := P) w a cs hc
  cases hq : P.info? ty with
  | none => simp [hq] at hi
  | some i =>
    have hs : i.size = cs.length := by simpa [hq] using hi
    have hagg : (isAgg ty).run P w = .ok true w := by
      unfold isAgg
      rw [Sem.run_bind, run_underlying hu w]
      cases d <;> simp_all
    simp only [Instr.loadAt, Instr.sureAddr, Sem.run_bind, Sem.run_pure, Result.andThen_ok]
    simp [loadVar, Sem.run_bind, hagg, sizeOf, typeInfo, hq, hs, hl]
/-- A whole array (or struct) read as one operation. -/
theorem exec_load_row {o : Oper} {A : Act} {w : World} (ty : TypeId) (x : Operand) (ho : o.op = .load ty x) (a : Addr) (hx : A.eval x = .pointer (some a)) (cs : List Value) (d : TypeDesc)
    (hc : ∀ j v, cs[j]? = some v → w.cell? (a.add j) = some v) (hu : P.underlying ty = some d) (hd : d.isRow = true) (hi : (P.info? ty).map (·.size) = some cs.length) :
    (execOp A.eval o).run P w = .ok (.value (.agg cs.toArray)) w := by
  unfold execOp
  simp only [ho, hx, Sem.run_bind, run_loadAt_addr w a ty cs d hc hu hd hi, Result.andThen_ok, Sem.run_pure]
  try rfl
theorem wp_load_addr {op : Oper} {a : Act} {w : World} {K : Act → World → Prop} {Q : Exit → Act → World → Prop} (ty : TypeId) (x : Operand) (ho : op.op = .load ty x)
    (ad : Addr) (hx : a.eval x = .pointer (some ad)) (cs : List Value) (d : TypeDesc) (hc : ∀ j v, cs[j]? = some v → w.cell? (ad.add j) = some v)
    (hu : P.underlying ty = some d) (hd : d.isRow = true) (hi : (P.info? ty).map (·.size) = some cs.length)
    (h : K (a.put op.dst (.agg cs.toArray)) w) : op.wp P a w K Q := by
  unfold Oper.wp
  rw [exec_load_row ty x ho ad hx cs d hc hu hd hi]
  exact h
theorem wpList_load_addr {ops : Array Oper} {rest : List Oper} {op : Oper} {a : Act} {w : World} {Q : Exit → Act → World → Prop} (hgd : op.guard = none) (ty : TypeId) (x : Operand) (ho : op.op = .load ty x)
    (ad : Addr) (hx : a.eval x = .pointer (some ad)) (cs : List Value) (d : TypeDesc) (hc : ∀ j v, cs[j]? = some v → w.cell? (ad.add j) = some v)
    (hu : P.underlying ty = some d) (hd : d.isRow = true) (hi : (P.info? ty).map (·.size) = some cs.length)
    (h : wpList P ops Q rest (a.put op.dst (.agg cs.toArray)) w) : wpList P ops Q (op :: rest) a w :=
  wpList_plain hgd fun _ hK => wp_load_addr ty x ho ad hx cs d hc hu hd hi (hK _ _ h)
end
end Go.Proofs.Ytcjdpccbkfnnlaa

namespace Go.Proofs
open Go.Shelf
def Try.lays190_ren : Go.Shelf.Ren := ⟨fun | 190 => 41 | 125 => 51 | 258 => 50 | 128 => 61 | 129 => 62 | 302 => 52 | 303 => 53 | 304 => 54 | 305 => 55 | 306 => 56 | 307 => 57 | 308 => 58 | 309 => 59 | 310 => 60 | 333 => 63 | 329 => 64 | 330 => 65 | 334 => 66 | 335 => 67 | 336 => 68 | 344 => 69 | n => n, fun | 31 => 30 | 9 => 9 | 3 => 3 | 46 => 76 | 0 => 0 | 51 => 86 | 53 => 88 | 4 => 4 | 183 => 79 | 182 => 78 | 131 => 72 | 5 => 5 | 218 => 89 | 222 => 93 | 228 => 95 | 229 => 96 | n => n, fun | n => n⟩
theorem Try.lays190 : Go.Proofs.Lays.n190 Try.prog Try.lays190_ren := {
  mixed := by kernel_rfl
  f125 := Try.func51.trans (congrArg some (by kernel_rfl))
  f128 := Try.func61.trans (congrArg some (by kernel_rfl))
  f129 := Try.func62.trans (congrArg some (by kernel_rfl))
  f190 := Try.func41.trans (congrArg some (by kernel_rfl))
  f258 := Try.func50.trans (congrArg some (by kernel_rfl))
  f302 := Try.func52.trans (congrArg some (by kernel_rfl))
  f303 := Try.func53.trans (congrArg some (by kernel_rfl))
  f304 := Try.func54.trans (congrArg some (by kernel_rfl))
  f305 := Try.func55.trans (congrArg some (by kernel_rfl))
  f306 := Try.func56.trans (congrArg some (by kernel_rfl))
  f307 := Try.func57.trans (congrArg some (by kernel_rfl))
  f308 := Try.func58.trans (congrArg some (by kernel_rfl))
  f309 := Try.func59.trans (congrArg some (by kernel_rfl))
  f310 := Try.func60.trans (congrArg some (by kernel_rfl))
  f329 := Try.func64.trans (congrArg some (by kernel_rfl))
  f330 := Try.func65.trans (congrArg some (by kernel_rfl))
  f333 := Try.func63.trans (congrArg some (by kernel_rfl))
  f334 := Try.func66.trans (congrArg some (by kernel_rfl))
  f335 := Try.func67.trans (congrArg some (by kernel_rfl))
  f336 := Try.func68.trans (congrArg some (by kernel_rfl))
  f344 := Try.func69.trans (congrArg some (by kernel_rfl))
  t0 := Try.underlying0
  a0 := Try.isAgg0
  z0 := Try.sizeOf0
  v0 := Try.zeroValue0
  t3 := Try.underlying3
  a3 := Try.isAgg3
  z3 := Try.sizeOf3
  v3 := Try.zeroValue3
  t4 := Try.underlying4
  a4 := Try.isAgg4
  z4 := Try.sizeOf4
  v4 := Try.zeroValue4
  t5 := Try.underlying5
  a5 := Try.isAgg5
  z5 := Try.sizeOf5
  v5 := Try.zeroValue5
  t9 := Try.underlying9
  a9 := Try.isAgg9
  z9 := Try.sizeOf9
  v9 := Try.zeroValue9
  t31 := Try.underlying30
  a31 := Try.isAgg30
  z31 := Try.sizeOf30
  v31 := Try.zeroValue30
  t46 := Try.underlying76
  a46 := Try.isAgg76
  z46 := Try.sizeOf76
  v46 := Try.zeroValue76
  t51 := Try.underlying86
  a51 := Try.isAgg86
  z51 := Try.sizeOf86
  v51 := Try.zeroValue86
  t53 := Try.underlying88
  a53 := Try.isAgg88
  z53 := Try.sizeOf88
  v53 := Try.zeroValue88
  t131 := Try.underlying72
  a131 := Try.isAgg72
  z131 := Try.sizeOf72
  v131 := Try.zeroValue72
  t182 := Try.underlying78
  a182 := Try.isAgg78
  z182 := Try.sizeOf78
  v182 := Try.zeroValue78
  t183 := Try.underlying79
  a183 := Try.isAgg79
  z183 := Try.sizeOf79
  v183 := Try.zeroValue79
  t218 := Try.underlying89
  a218 := Try.isAgg89
  z218 := Try.sizeOf89
  v218 := Try.zeroValue89
  t222 := Try.underlying93
  a222 := Try.isAgg93
  z222 := Try.sizeOf93
  v222 := Try.zeroValue93
  t228 := Try.underlying95
  a228 := Try.isAgg95
  z228 := Try.sizeOf95
  v228 := Try.zeroValue95
  t229 := Try.underlying96
  a229 := Try.isAgg96
  z229 := Try.sizeOf96
  v229 := Try.zeroValue96 }
open Go.Sort Go.RowKit in
theorem Try.slices_Sort_string (blk off cap : Nat) (ss : List (List UInt8)) (w : World) (hH : Holds encStr w blk off ss.toArray) (hblk : blk < w.heap.size) (hsz : ss.length < 4611686018427387904) :
    Calls Try.prog 41 #[.slice (some ⟨blk, off, none⟩) ss.length cap] w fun e w' =>
      e = .returned (.tuple #[]) ∧ ∃ n os, w' = grow (putRow encStr (Sort.ahead w n) blk off (ss.mergeSort fun x y => decide (x ≤ y)).toArray) os := Any.slices_Sort_string Try.lays190 blk off cap ss w hH hblk hsz
def Try.lays110_ren : Go.Shelf.Ren := ⟨fun | 110 => 30 | 109 => 43 | n => n, fun | 31 => 30 | 9 => 9 | 4 => 4 | 3 => 3 | 0 => 0 | n => n, fun | n => n⟩
theorem Try.lays110 : Go.Proofs.Lays.n110 Try.prog Try.lays110_ren := {
  mixed := by kernel_rfl
  f109 := Try.func43.trans (congrArg some (by kernel_rfl))
  f110 := Try.func30.trans (congrArg some (by kernel_rfl))
  t0 := Try.underlying0
  a0 := Try.isAgg0
  z0 := Try.sizeOf0
  v0 := Try.zeroValue0
  t3 := Try.underlying3
  a3 := Try.isAgg3
  z3 := Try.sizeOf3
  v3 := Try.zeroValue3
  t4 := Try.underlying4
  a4 := Try.isAgg4
  z4 := Try.sizeOf4
  v4 := Try.zeroValue4
  t9 := Try.underlying9
  a9 := Try.isAgg9
  z9 := Try.sizeOf9
  v9 := Try.zeroValue9
  t31 := Try.underlying30
  a31 := Try.isAgg30
  z31 := Try.sizeOf30
  v31 := Try.zeroValue30 }
open Go.Lib in
theorem Try.slices_Contains_string (b off n c : Nat) (zs : List ByteArray) (x : ByteArray) (w : World) (hz : n ≤ zs.length) (hbig : n ≤ 9223372036854775807) (hc : ∀ j, j < zs.length → w.cell? ⟨b, off + j, none⟩ = some (.string (zs.getD j ByteArray.empty))) :
    Calls Try.prog 30 #[.slice (some ⟨b, off, none⟩) n c, .string x] w fun e w' => e = .returned (.bool (Lib.containsS (zs.take n) x)) ∧ w' = w := Any.slices_Contains_string Try.lays110 b off n c zs x w hz hbig hc
open Go.Lib in
theorem Try.slices_Contains_string_empty (a : Option Addr) (c : Nat) (x : ByteArray) (w : World) :
    Calls Try.prog 30 #[.slice a 0 c, .string x] w fun e w' => e = .returned (.bool false) ∧ w' = w := Any.slices_Contains_string_empty Try.lays110 a c x w
def Try.lays194_ren : Go.Shelf.Ren := ⟨fun | 194 => 48 | n => n, fun | 31 => 30 | 9 => 9 | 3 => 3 | 4 => 4 | 0 => 0 | n => n, fun | n => n⟩
theorem Try.lays194 : Go.Proofs.Lays.n194 Try.prog Try.lays194_ren := {
  mixed := by kernel_rfl
  f194 := Try.func48.trans (congrArg some (by kernel_rfl))
  t0 := Try.underlying0
  a0 := Try.isAgg0
  z0 := Try.sizeOf0
  v0 := Try.zeroValue0
  t3 := Try.underlying3
  a3 := Try.isAgg3
  z3 := Try.sizeOf3
  v3 := Try.zeroValue3
  t4 := Try.underlying4
  a4 := Try.isAgg4
  z4 := Try.sizeOf4
  v4 := Try.zeroValue4
  t9 := Try.underlying9
  a9 := Try.isAgg9
  z9 := Try.sizeOf9
  v9 := Try.zeroValue9
  t31 := Try.underlying30
  a31 := Try.isAgg30
  z31 := Try.sizeOf30
  v31 := Try.zeroValue30 }
open Go.RowKit Go.Lib Go.Sort in
theorem Try.slices_Compact_string (blk off cap : Nat) (zs : List (List UInt8)) (w : World) (hH : Holds encStr w blk off zs.toArray) (hsz : zs.length ≤ 9223372036854775807) (hcap : zs.length ≤ cap) :
    Calls Try.prog 48 #[.slice (some ⟨blk, off, none⟩) zs.length cap] w fun e w' => e = .returned (.slice (some ⟨blk, off, none⟩) (Lib.compact zs).length cap) ∧ ∃ q, w' = putRow encStr (Sort.ahead w q) blk off (Lib.compact zs ++ List.replicate (zs.length - (Lib.compact zs).length) []).toArray := Any.slices_Compact_string Try.lays194 blk off cap zs w hH hsz hcap
open Go.RowKit Go.Lib Go.Sort in
theorem Try.slices_Compact_string_empty (a : Option Addr) (cap : Nat) (w : World) :
    Calls Try.prog 48 #[.slice a 0 cap] w fun e w' => e = .returned (.slice a 0 cap) ∧ w' = w := Any.slices_Compact_string_empty Try.lays194 a cap w
open Go.RowKit Go.Sort in
theorem Try.slices_Sort_string_none (p : Option Addr) (cap : Nat) (w : World) :
    Calls Try.prog 41 #[.slice p 0 cap] w fun e w' => e = .returned (.tuple #[]) ∧ w' = w := Any.slices_Sort_string_none Try.lays190 p cap w
end Go.Proofs

set_option linter.unusedVariables false
set_option linter.unusedSimpArgs false
namespace Go.Proofs.Ytcjdpccbkfnnlaa

abbrev BL := List UInt8
/-- The set of a list: what slices.Sort and slices.Compact make of it. -/
def setB (l : List BL) : List BL := Lib.compact (l.mergeSort fun x y => decide (x ≤ y))
theorem le_tr : ∀ a b c : BL, leB a b = true → leB b c = true → leB a c = true := fun a b c h1 h2 => by simp only [leB, decide_eq_true_eq] at *; exact List.le_trans h1 h2
theorem le_to : ∀ a b : BL, (leB a b || leB b a) = true := fun a b => by simp only [leB, Bool.or_eq_true, decide_eq_true_eq]; exact List.le_total a b
theorem BL.lt_irrefl (a : BL) : ¬ a < a := List.lt_irrefl a
theorem BL.lt_trans {a b c : BL} (h : a < b) (k : b < c) : a < c := List.lt_trans h k
theorem BL.lt_asymm {a b : BL} (h : a < b) : ¬ b < a := fun k => BL.lt_irrefl a (BL.lt_trans h k)
theorem BL.eq_of {a b : BL} (h : ¬ a < b) (k : ¬ b < a) : a = b := List.le_antisymm k h
theorem BL.lt_of_le_ne {a b : BL} (h : a ≤ b) (hn : a ≠ b) : a < b := by
  rcases Classical.em (a < b) with k | k
  · exact k
  · exact absurd (BL.eq_of k h) hn
theorem BL.lt_of_le_lt {a b c : BL} (h : a ≤ b) (k : b < c) : a < c := by
  rcases Classical.em (a = b) with e | e
  · subst e; exact k
  · exact BL.lt_trans (BL.lt_of_le_ne h e) k
theorem keeps_iff (zs : List BL) (j : Nat) : Lib.keeps zs.toArray j = true ↔ j = 0 ∨ zs.toArray[j]! ≠ zs.toArray[j - 1]! := by unfold Lib.keeps; exact decide_eq_true_iff
theorem compact_mem {zs : List BL} {x : BL} : x ∈ Lib.compact zs ↔ x ∈ zs := by
  unfold Lib.compact Lib.compactUpTo
  simp only [List.mem_map, List.mem_filter, List.mem_range]
  constructor
  · rintro ⟨j, ⟨hj, _⟩, rfl⟩
    have : zs.toArray[j]! = zs[j] := by simp [hj]
    rw [this]
    exact List.getElem_mem hj
  · intro hx
    obtain ⟨i, hi, rfl⟩ := List.mem_iff_getElem.1 hx
    clear hx
    induction i with
    | zero => exact ⟨0, ⟨hi, (keeps_iff _ _).2 (.inl rfl)⟩, by simp [hi]⟩
    | succ i ih =>
      by_cases hk : Lib.keeps zs.toArray (i + 1) = true
      · exact ⟨i + 1, ⟨hi, hk⟩, by simp [hi]⟩
      · obtain ⟨j, h1, h2⟩ := ih (by omega)
        refine ⟨j, h1, h2.trans ?_⟩
        have h3 := mt (keeps_iff zs (i + 1)).2 hk
        simp only [not_or] at h3
        have h4 : zs.toArray[i + 1]! = zs.toArray[i]! := Classical.byContradiction h3.2
        have h5 : i < zs.length := by omega
        simp [hi, h5] at h4
        exact h4.symm
theorem compact_sorted {zs : List BL} (h : zs.Pairwise (fun a b => leB a b = true)) : (Lib.compact zs).Pairwise (· < ·) := by
  unfold Lib.compact Lib.compactUpTo
  rw [List.pairwise_map]
  have h1 : (List.range zs.length).Pairwise (fun i j => i < j ∧ i < zs.length ∧ j < zs.length) := by
    rw [List.pairwise_iff_getElem]
    intro i j hi hj hij
    simp at hi hj ⊢
    exact ⟨hij, hi, hj⟩
  have h2 := h1.filter (Lib.keeps zs.toArray)
  rw [List.pairwise_iff_getElem] at h2 ⊢
  intro i j hi hj hij
  obtain ⟨g1, g2, g3⟩ := h2 i j hi hj hij
  have hk : Lib.keeps zs.toArray ((List.range zs.length).filter (Lib.keeps zs.toArray))[j] = true := (List.mem_filter.1 (List.getElem_mem hj)).2
  generalize ((List.range zs.length).filter (Lib.keeps zs.toArray))[j] = b at *
  generalize ((List.range zs.length).filter (Lib.keeps zs.toArray))[i] = a at *
  rcases (keeps_iff _ _).1 hk with h0 | h0
  · omega
  · have g4 : b - 1 < zs.length := by omega
    have ea : zs.toArray[a]! = zs[a] := by simp [g2]
    have eb : zs.toArray[b]! = zs[b] := by simp [g3]
    have ec : zs.toArray[b - 1]! = zs[b - 1] := by simp [g4]
    rw [eb, ec] at h0
    rw [ea, eb]
    rw [List.pairwise_iff_getElem] at h
    have h5 : zs[a] ≤ zs[b - 1] := by
      rcases Nat.lt_or_ge a (b - 1) with q | q
      · simpa using h a (b - 1) g2 g4 q
      · have : a = b - 1 := by omega
        subst this
        exact BL.lt_irrefl _
    have h6 : zs[b - 1] ≤ zs[b] := by simpa using h (b - 1) b g4 g3 (by omega)
    exact BL.lt_of_le_lt h5 (BL.lt_of_le_ne h6 (fun e => h0 e.symm))
theorem setB_sorted (l : List BL) : (setB l).Pairwise (· < ·) := compact_sorted (List.pairwise_mergeSort le_tr le_to l)
theorem mem_setB {l : List BL} {x : BL} : x ∈ setB l ↔ x ∈ l := by
  unfold setB
  rw [compact_mem]
  exact (List.mergeSort_perm l _).mem_iff
theorem sorted_eq : ∀ {a b : List BL}, a.Pairwise (· < ·) → b.Pairwise (· < ·) → (∀ x, x ∈ a ↔ x ∈ b) → a = b
  | [], [], _, _, _ => rfl
  | [], y :: b, _, _, h => absurd ((h y).2 List.mem_cons_self) (by simp)
  | x :: a, [], _, _, h => absurd ((h x).1 List.mem_cons_self) (by simp)
  | x :: a, y :: b, ha, hb, h => by
    rw [List.pairwise_cons] at ha hb
    have hxy : x = y := by
      have h1 := (h x).1 List.mem_cons_self
      have h2 := (h y).2 List.mem_cons_self
      rcases List.mem_cons.1 h1 with e | h1
      · exact e
      · rcases List.mem_cons.1 h2 with e | h2
        · exact e.symm
        · exact absurd (ha.1 y h2) (BL.lt_asymm (hb.1 x h1))
    subst hxy
    rw [sorted_eq ha.2 hb.2 (fun z => ?_)]
    constructor
    · intro hz
      rcases List.mem_cons.1 ((h z).1 (List.mem_cons_of_mem _ hz)) with e | e
      · subst e; exact absurd (ha.1 _ hz) (BL.lt_irrefl _)
      · exact e
    · intro hz
      rcases List.mem_cons.1 ((h z).2 (List.mem_cons_of_mem _ hz)) with e | e
      · subst e; exact absurd (hb.1 _ hz) (BL.lt_irrefl _)
      · exact e
theorem setB_len (l : List BL) : (setB l).length ≤ l.length := by
  unfold setB Lib.compact Lib.compactUpTo
  rw [List.length_map]
  refine Nat.le_trans (List.length_filter_le _ _) ?_
  simp
/-! The same over texts. -/
def bl (s : ByteArray) : BL := s.data.toList
def tx (l : BL) : ByteArray := ⟨l.toArray⟩
theorem bl_tx (l : BL) : bl (tx l) = l := by simp [bl, tx]
theorem tx_bl (s : ByteArray) : tx (bl s) = s := by cases s; simp [bl, tx]
theorem bl_inj {a b : ByteArray} (h : bl a = bl b) : a = b := by rw [← tx_bl a, ← tx_bl b, h]
def setS (l : List ByteArray) : List ByteArray := (setB (l.map bl)).map tx
open Classical in
/-- Is it on the list? -/
noncomputable def has (l : List ByteArray) (x : ByteArray) : Bool := decide (x ∈ l)
theorem has_iff {l : List ByteArray} {x : ByteArray} : has l x = true ↔ x ∈ l := by unfold has; simp
theorem has_true {l : List ByteArray} {x : ByteArray} (h : x ∈ l) : has l x = true := has_iff.2 h
theorem has_false {l : List ByteArray} {x : ByteArray} (h : x ∉ l) : has l x = false := by
  cases e : has l x with
  | true => exact absurd (has_iff.1 e) h
  | false => rfl
/-- In order, each once. -/
def Sorted (l : List ByteArray) : Prop := (l.map bl).Pairwise (· < ·)
theorem setS_bl (l : List ByteArray) : (setS l).map bl = setB (l.map bl) := by
  unfold setS
  rw [List.map_map]
  exact (List.map_congr_left (fun x _ => bl_tx x)).trans (List.map_id _)
theorem setS_sorted (l : List ByteArray) : Sorted (setS l) := by unfold Sorted; rw [setS_bl]; exact setB_sorted _
theorem mem_map_bl {l : List ByteArray} {s : ByteArray} : bl s ∈ l.map bl ↔ s ∈ l := by
  rw [List.mem_map]
  exact ⟨fun ⟨a, h1, h2⟩ => bl_inj h2 ▸ h1, fun h => ⟨s, h, rfl⟩⟩
theorem mem_setS {l : List ByteArray} {s : ByteArray} : s ∈ setS l ↔ s ∈ l := by
  rw [← mem_map_bl, setS_bl, mem_setB, mem_map_bl]
theorem map_bl_inj : ∀ {a b : List ByteArray}, a.map bl = b.map bl → a = b
  | [], [], _ => rfl
  | [], _ :: _, h => by simp at h
  | _ :: _, [], h => by simp at h
  | x :: a, y :: b, h => by
    simp only [List.map_cons, List.cons.injEq] at h
    rw [bl_inj h.1, map_bl_inj h.2]
theorem Sorted.eq {a b : List ByteArray} (ha : Sorted a) (hb : Sorted b) (h : ∀ x, x ∈ a ↔ x ∈ b) : a = b := by
  refine map_bl_inj (sorted_eq ha hb (fun x => ?_))
  rw [← bl_tx x, mem_map_bl, mem_map_bl]
  exact h _
theorem setS_eq {l : List ByteArray} {b : List ByteArray} (hb : Sorted b) (h : ∀ x, x ∈ b ↔ x ∈ l) : setS l = b := (setS_sorted l).eq hb (fun x => by rw [mem_setS, h])
theorem setS_len (l : List ByteArray) : (setS l).length ≤ l.length := by
  have := setB_len (l.map bl)
  unfold setS
  rw [List.length_map]
  simpa using this
theorem Sorted.filter {l : List ByteArray} (h : Sorted l) (p : ByteArray → Bool) : Sorted (l.filter p) := by
  unfold Sorted at *
  rw [List.pairwise_map] at *
  exact h.filter p
theorem Sorted.set {l : List ByteArray} (h : Sorted l) : setS l = l := setS_eq h (fun _ => Iff.rfl)
end Go.Proofs.Ytcjdpccbkfnnlaa

set_option linter.unusedVariables false
set_option linter.unusedSimpArgs false
namespace Go.Proofs.Ytcjdpccbkfnnlaa
open Go.RowKit Go.Sort Go.Proofs.YtcjdpccbkfnnlaaW.PrintWords

abbrev KS : Kd ByteArray := Kd.string
theorem info_str : (Try.prog.info? 9).map (fun i => (i.zero, i.size, i.bytes)) = some (some (.string ⟨#[]⟩), 1, 16) := by kernel_rfl
theorem KS_none {w : World} {xs : List ByteArray} (h : KS.C w none xs.length xs) : xs = [] := by
  obtain ⟨_, _, h3⟩ := h
  cases xs with
  | nil => rfl
  | cons x xs =>
    obtain ⟨ad, e, _⟩ := h3 (by simp)
    cases e
/-- A text of a row that is read. -/
theorem KS_at {w : World} {ad : Addr} {n : Nat} {l : List ByteArray} (h : KS.C w (some ad) n l) {i : Nat} (hi : i < l.length) : w.cell? (ad.add i) = some (.string l[i]) := by
  have hn : l.length = n := h.1
  obtain ⟨ad', cs, hA, hcs, hK, hcell⟩ := Kd.C_get h ByteArray.empty (i : Int) (by omega) (by omega)
  injection hA with hA
  subst hA
  simp only [Int.toNat_natCast] at hK hcell
  have hget : l.getD i ByteArray.empty = l[i] := by simp [List.getD_eq_getElem?_getD, hi]
  rw [hget] at hK
  have h3 : cs = [.string l[i]] := hK
  subst h3
  have := hcell 0 _ rfl
  have hsz : Kd.string.sz = 1 := rfl
  rw [hsz, Nat.mul_one] at this
  simpa using this
set_option maxRecDepth 100000 in
theorem clone_some {w : World} {a : Addr} {c : Nat} {l : List ByteArray} (h : KS.C w (some a) l.length l) (hl : l.length * 16 ≤ 140737488355328) :
  Calls Try.prog 31 #[.slice (some a) l.length c] w fun e w' => ∃ v, e = .returned v ∧ KS.R 9 w' w.heap.size (fun _ => True) v l ∧ Below w.heap.size w w' := by
  have hq := fun w => Lib.run_eql_slice_nil (P := Try.prog) w 30 9 (some a) l.length c 0 0 Try.underlying30
  go_enter Try.func31, Try.ntmps31
  go_wp2_with (at_builtin; refine Kd.R_append_rows KS (w0 := w) w.heap.size rfl (.tmp 5) (.tmp 6) 30 9 (.string ⟨#[]⟩) 16 rfl Try.underlying30 info_str rfl (by decide) (by decide) _ [] l (some a) l.length c (fun _ => True) (fun _ => False) rfl rfl ?HO ?HR (fun _ _ h => h) (fun _ h => h.elim) (fun _ _ => trivial) ?HB ?hb ?hl ?_)
  case HO => exact Kd.R_of_own (World.ownsRow_made (base := w.heap.size) w #[] 0 (Nat.le_refl _) (Nat.zero_le _) rfl) (fun _ _ => trivial)
  case HR => exact Kd.C_below h (below_alloc (Below.refl _ _) _)
  case HB => exact below_alloc (Below.refl _ _) _
  case hb => simp
  case hl => simp; omega
  intro v1 w1 hR hb hg hat
  go_wp2
  go_ret
  exact ⟨v1, rfl, by simpa using hR, hb⟩
set_option maxRecDepth 100000 in
theorem clone_none {w : World} {n c : Nat} :
  Calls Try.prog 31 #[.slice none n c] w fun e w' => e = .returned (.slice none 0 0) ∧ w = w' := by
  have hq := fun w => Lib.run_eql_slice_nil (P := Try.prog) w 30 9 none n c 0 0 Try.underlying30
  go_enter Try.func31, Try.ntmps31
  go_wp2
  go_ret
  exact ⟨rfl, rfl⟩
theorem KS_own {w : World} {base : Nat} {v : Value} {l : List ByteArray} (h : KS.R 9 w base (fun _ => True) v l) : ∃ A' c', v = .slice A' l.length c' ∧ KS.R 9 w base (fun k => base ≤ k) v l := by
  obtain ⟨A', c', he⟩ := Kd.R_slice h
  exact ⟨A', c', he, Kd.R_mono (Kd.R_bound h) (fun k hk => hk.2.1)⟩
theorem clone_any {w : World} {A : Option Addr} {c : Nat} {l : List ByteArray} (h : KS.C w A l.length l) (hl : l.length * 16 ≤ 140737488355328) :
  Calls Try.prog 31 #[.slice A l.length c] w fun e w' => ∃ A' c', e = .returned (.slice A' l.length c') ∧ KS.R 9 w' w.heap.size (fun k => w.heap.size ≤ k) (.slice A' l.length c') l ∧ Below w.heap.size w w' := by
  cases A with
  | none =>
    obtain rfl := KS_none h
    refine clone_none.mono ?_
    rintro e w' ⟨rfl, rfl⟩
    exact ⟨none, 0, rfl, Kd.R_nil _ _ _ _ _, Below.refl _ _⟩
  | some a =>
    refine (clone_some h hl).mono ?_
    rintro e w' ⟨v, rfl, hR, hb⟩
    obtain ⟨A', c', rfl, hR'⟩ := KS_own hR
    exact ⟨A', c', rfl, hR', hb⟩
theorem encs_tx (l : List BL) : encs Value.string (l.map tx) = l.map encStr := by unfold encs; rw [List.map_map]; rfl
theorem map_enc (l : List ByteArray) : l.map Value.string = (l.map bl).map encStr := by
  rw [List.map_map]
  refine List.map_congr_left (fun x _ => ?_)
  show Value.string x = Value.string (tx (bl x))
  rw [tx_bl]
set_option maxRecDepth 100000 in
theorem set_any {w : World} {A : Option Addr} {c : Nat} {l : List ByteArray} (h : KS.C w A l.length l) (hl : l.length * 16 ≤ 140737488355328) :
  Calls Try.prog 39 #[.slice A l.length c] w fun e w' => ∃ A' c', e = .returned (.slice A' (setS l).length c') ∧ KS.R 9 w' w.heap.size (fun k => w.heap.size ≤ k) (.slice A' (setS l).length c') (setS l) ∧ Below w.heap.size w w' := by
  have hcl := clone_any (c := c) h hl
  go_enter Try.func39, Try.ntmps39
  go_wp2_with fail
  refine hcl.mono ?_
  rintro e w1 ⟨A1, c1, rfl, hR1, b1⟩
  clear hcl
  rcases Nat.eq_zero_or_pos l.length with h0 | h0
  · have hl0 : l = [] := List.eq_nil_of_length_eq_zero h0
    subst hl0
    have hs0 : setS [] = [] := setS_eq (by unfold Sorted; simp) (fun _ => Iff.rfl)
    have HS0 := hid hs0
    clear hs0
    simp only [List.length_nil] at hR1 ⊢
    go_wp2_with fail
    refine (Try.slices_Sort_string_none _ _ _).mono ?_
    rintro e w2 ⟨rfl, rfl⟩
    go_wp2_with fail
    refine (Try.slices_Compact_string_empty _ _ _).mono ?_
    rintro e w2 ⟨rfl, rfl⟩
    go_wp2
    go_ret
    exact ⟨A1, c1, by rw [HS0.out]; rfl, by rw [HS0.out]; exact hR1, b1⟩
  · have hown := Kd.own_of_R hR1
    rcases hown.2 with ⟨_, hz⟩ | ⟨g, cap, cur, hv, hbase, hb, e1, e2, e3, e4⟩
    · omega
    · injection hv with hv1 hv2 hv3
      subst hv1 hv3
      have hH : Holds encStr w1 g 0 (l.map bl).toArray := holds_of_block hb (by
        rw [List.length_map]
        have : encs Value.string l = (l.map bl).map encStr := map_enc l
        rw [← this]
        simpa using e4)
      have hst := Try.slices_Sort_string g 0 c1 (l.map bl) w1 hH (blk_lt hb) (by rw [List.length_map]; omega)
      rw [List.length_map] at hst
      have hml : ((l.map bl).mergeSort fun x y => decide (x ≤ y)).length = l.length := by simp
      have hset : setS l = (Lib.compact ((l.map bl).mergeSort fun x y => decide (x ≤ y))).map tx := rfl
      have hsl : (Lib.compact ((l.map bl).mergeSort fun x y => decide (x ≤ y))).length = (setS l).length := by rw [hset, List.length_map]
      have hle := setS_len l
      generalize ((l.map bl).mergeSort fun x y => decide (x ≤ y)) = ms at hst hml hset hsl
      have HS := hid (And.intro hset (And.intro hsl hml))
      clear hset hsl hH
      go_wp2_with fail
      refine hst.mono ?_
      rintro e w2 ⟨rfl, n, os, hw2⟩
      obtain ⟨hset, hsl, hml⟩ := HS.out
      have hg2 : w1.grownBy w2 (some g) := by rw [hw2]; exact grownBy_sorted _
      have ho2 : w2.ownsRow w.heap.size 9 1 (.slice (some ⟨g, 0, none⟩) l.length c1) l.length (ms.map encStr) := by
        rw [hw2]
        have := ownsRow_sorted (n := n) (os := os) (ss := l.map bl) (ts := ms) (by rw [hml, List.length_map]) hbase hb (by rw [List.length_map]; exact e1) e2 (by simpa using e3)
        rw [List.length_map] at this
        exact this
      rcases ho2.2 with ⟨h1, _⟩ | ⟨g', cap', cur2, hv', hbase2, hb2, f1, f2, f3, f4⟩
      · cases h1
      · injection hv' with hv1 hv2 hv3
        injection hv1 with hv1
        injection hv1 with hv1
        subst hv1 hv3
        have hH2 : Holds encStr w2 g 0 ms.toArray := holds_of_block hb2 (by rw [hml]; simpa using f4)
        have hcm := Try.slices_Compact_string g 0 c1 ms w2 hH2 (by rw [hml]; omega) (by rw [hml]; exact f1)
        rw [hml, hsl] at hcm
        clear hst hw2 hH2 HS
        have HS := hid (And.intro hset (And.intro hsl hml))
        clear hset hsl hml
        go_wp2_with fail
        refine hcm.mono ?_
        rintro e w3 ⟨rfl, q, hw3⟩
        obtain ⟨hset, hsl, hml⟩ := HS.out
        have hlen : (Lib.compact ms ++ List.replicate (l.length - (setS l).length) ([] : BL)).length = l.length := by rw [List.length_append, hsl, List.length_replicate]; omega
        have hw3' : w3 = grow (putRow encStr (Sort.ahead w2 q) g 0 (Lib.compact ms ++ List.replicate (l.length - (setS l).length) []).toArray) #[] := by rw [grow_empty]; exact hw3
        have hg3 : w2.grownBy w3 (some g) := by rw [hw3']; exact grownBy_sorted _
        have ho3 : w3.ownsRow w.heap.size 9 1 (.slice (some ⟨g, 0, none⟩) l.length c1) l.length ((Lib.compact ms ++ List.replicate (l.length - (setS l).length) []).map encStr) := by
          rw [hw3']
          have := ownsRow_sorted (n := q) (os := #[]) (ss := l.map bl) (ts := Lib.compact ms ++ List.replicate (l.length - (setS l).length) []) (by rw [hlen, List.length_map]) hbase hb2 (by rw [List.length_map]; exact f1) f2 (by simpa using f3)
          rw [List.length_map] at this
          exact this
        have hR3 : KS.R 9 w3 w.heap.size (fun k => w.heap.size ≤ k) (.slice (some ⟨g, 0, none⟩) l.length c1) ((Lib.compact ms ++ List.replicate (l.length - (setS l).length) []).map tx) :=
          Kd.R_of_own (by rw [encs_tx, List.length_map, hlen]; exact ho3) (fun k hk => by
            have : g = k := by simpa [Value.ownBlock] using hk
            omega)
        have hR4 := Kd.R_take (m := (setS l).length) hR3 (by rw [List.length_map, hlen]; exact hle)
        have htk : ((Lib.compact ms ++ List.replicate (l.length - (setS l).length) ([] : BL)).map tx).take (setS l).length = setS l := by
          rw [hset, ← List.map_take, List.length_map, List.take_left]
        rw [htk] at hR4
        have hB3 : Below w.heap.size w w3 := (b1.grown hg2 b1.size (fun k hk => by cases hk; exact hbase)).grown hg3 (Nat.le_trans b1.size hg2.size) (fun k hk => by cases hk; exact hbase)
        have HF := hid (And.intro hR4 hB3)
        clear hR4 hB3 hR3 ho3 hg3 hw3 hw3' hcm hlen htk hb2 ho2 f1 f2 f3 f4 hg2 hb e1 e2 e3 e4 hown hR1 b1 hset hsl hml HS hle
        go_wp2
        go_ret
        exact ⟨_, _, rfl, HF.out⟩
end Go.Proofs.Ytcjdpccbkfnnlaa

namespace Go.Proofs.Ytcjdpccbkfnnlaa.KCarveGA
open Go.RowKit Go.Proofs.YtcjdpccbkfnnlaaW.PrintWords Go.Proofs.YtcjdpccbkfnnlaaW.PrintLast Go.Proofs.YtcjdpccbkfnnlaaW.PrintMore
attribute [local go_sem] max2_int min2_int max_two min_two max_three min_three max_four min_four   -- for this text's walks alone
set_option linter.unusedVariables false
set_option linter.unusedSimpArgs false




theorem info9 : (Try.prog.info? 9).map (fun i => (i.zero, i.size, i.bytes)) = some (some (.string ⟨#[]⟩), 1, 16) := by kernel_rfl
theorem info47 : (Try.prog.info? 47).map (fun i => (i.zero, i.size, i.bytes)) = some (some (.agg #[(.string ⟨#[]⟩), (.slice none 0 0)]), 2, 40) := by kernel_rfl
/-! #### struct type 45 -/
structure S45 where
  f0 : ByteArray
  f1 : (List ByteArray)
def z45 : S45 := ⟨(⟨#[]⟩ : ByteArray), ([] : List ByteArray)⟩
def k45 : Kd S45 := Kd.iso (Kd.pair Kd.string (Kd.slice 9 Kd.string)) (fun x : S45 => (x.f0, x.f1))
theorem k45_open {w : World} {x : S45} {cs : List Value} (h : k45.K w x cs) : ∃ A1 c1, cs = [.string x.f0, .slice A1 x.f1.length c1] ∧ x.f1.length ≤ c1 ∧ Kd.string.C w A1 x.f1.length x.f1 := by
  obtain ⟨_, _, rfl, rfl, ⟨A1, c1, rfl, l1, g1⟩⟩ := h
  exact ⟨A1, c1, rfl, l1, g1⟩
def rd_T45 (xs : List S45) (i : Int) : S45 := xs.getD i.toNat z45
theorem at_T45 {w : World} {A : Option Addr} {n : Nat} {xs : List S45} (h : Kd.C k45 w A n xs) (i : Int) (h0 : 0 ≤ i) (h1 : i < n) : ∃ ad A1 c1, A = some ad ∧ w.cell? (ad.add (i.toNat * 2)) = some (.string (rd_T45 xs i).f0) ∧ w.cell? ⟨(ad.add (i.toNat * 2)).block, (ad.add (i.toNat * 2)).off + 1, none⟩ = some (.slice A1 (rd_T45 xs i).f1.length c1) ∧ (rd_T45 xs i).f1.length ≤ c1 ∧ Kd.string.C w A1 (rd_T45 xs i).f1.length (rd_T45 xs i).f1 := by
  obtain ⟨ad, c, e, _, hK, hc0⟩ := Kd.C_get h z45 i h0 h1
  have hc : ∀ j u, c[j]? = some u → w.cell? (ad.add (i.toNat * 2 + j)) = some u := hc0
  obtain ⟨A1, c1, rfl, l1, g1⟩ := k45_open hK
  exact ⟨ad, A1, c1, e, hc 0 _ rfl, by rw [← add_field _ _ 1 (by omega)]; exact hc 1 _ rfl, l1, g1⟩

/-! #### struct type 47 -/
structure S47 where
  f0 : ByteArray
  f1 : (List ByteArray)
def z47 : S47 := ⟨(⟨#[]⟩ : ByteArray), ([] : List ByteArray)⟩
def k47 : Kd S47 := Kd.iso (Kd.pair Kd.string (Kd.slice 9 Kd.string)) (fun x : S47 => (x.f0, x.f1))
theorem k47_open {w : World} {x : S47} {cs : List Value} (h : k47.K w x cs) : ∃ A1 c1, cs = [.string x.f0, .slice A1 x.f1.length c1] ∧ x.f1.length ≤ c1 ∧ Kd.string.C w A1 x.f1.length x.f1 := by
  obtain ⟨_, _, rfl, rfl, ⟨A1, c1, rfl, l1, g1⟩⟩ := h
  exact ⟨A1, c1, rfl, l1, g1⟩
theorem k47_openM {w : World} {base : Nat} {ok : Nat → Prop} {x : S47} {cs : List Value} (h : k47.M w base ok x cs) : ∃ v1, cs = [.string x.f0, v1] ∧ Kd.string.R 9 w base ok v1 x.f1 := by
  obtain ⟨_, _, rfl, rfl, ⟨v1, rfl, g1⟩⟩ := h
  exact ⟨v1, rfl, g1⟩
theorem k47_mk (w : World) (x : S47) {A1 : Option Addr} {c1 : Nat} (l1 : x.f1.length ≤ c1) (g1 : Kd.string.C w A1 x.f1.length x.f1) : k47.K w x [.string x.f0, .slice A1 x.f1.length c1] := ⟨[.string x.f0], [.slice A1 x.f1.length c1], rfl, rfl, ⟨A1, c1, rfl, l1, g1⟩⟩
theorem k47_mkM (w : World) (base : Nat) (ok : Nat → Prop) (x : S47) {v1 : Value} (g1 : Kd.string.R 9 w base ok v1 x.f1) : k47.M w base ok x [.string x.f0, v1] := ⟨[.string x.f0], [v1], rfl, rfl, ⟨v1, rfl, g1⟩⟩
def rd_T47 (xs : List S47) (i : Int) : S47 := xs.getD i.toNat z47
theorem at_T47 {w : World} {A : Option Addr} {n : Nat} {xs : List S47} (h : Kd.C k47 w A n xs) (i : Int) (h0 : 0 ≤ i) (h1 : i < n) : ∃ ad A1 c1, A = some ad ∧ w.cell? (ad.add (i.toNat * 2)) = some (.string (rd_T47 xs i).f0) ∧ w.cell? ⟨(ad.add (i.toNat * 2)).block, (ad.add (i.toNat * 2)).off + 1, none⟩ = some (.slice A1 (rd_T47 xs i).f1.length c1) ∧ (rd_T47 xs i).f1.length ≤ c1 ∧ Kd.string.C w A1 (rd_T47 xs i).f1.length (rd_T47 xs i).f1 := by
  obtain ⟨ad, c, e, _, hK, hc0⟩ := Kd.C_get h z47 i h0 h1
  have hc : ∀ j u, c[j]? = some u → w.cell? (ad.add (i.toNat * 2 + j)) = some u := hc0
  obtain ⟨A1, c1, rfl, l1, g1⟩ := k47_open hK
  exact ⟨ad, A1, c1, e, hc 0 _ rfl, by rw [← add_field _ _ 1 (by omega)]; exact hc 1 _ rfl, l1, g1⟩


def names_letter.f (a0 : Int) : Option (Bool) := if a0 ≥ 97 then (if a0 ≤ 122 then (some true) else (if a0 ≥ 65 then (if a0 ≤ 90 then (some true) else (some (a0 == 95))) else (some (a0 == 95)))) else (if a0 ≥ 65 then (if a0 ≤ 90 then (some true) else (some (a0 == 95))) else (some (a0 == 95)))
set_option maxHeartbeats 8000000 in
set_option maxRecDepth 100000 in
theorem names_letter.calls (a0 : Int) (r : Bool) (w : World) (h : names_letter.f a0 = some r) :
    Calls Try.prog 37 #[.int .u8 a0] w fun e w' => e = .returned (.bool r) ∧ Drawn0 w w' := by
  have H : (if a0 ≥ 97 then (if a0 ≤ 122 then (some true) else (if a0 ≥ 65 then (if a0 ≤ 90 then (some true) else (some (a0 == 95))) else (some (a0 == 95)))) else (if a0 ≥ 65 then (if a0 ≤ 90 then (some true) else (some (a0 == 95))) else (some (a0 == 95)))) = some r := h
  clear h
  by_cases c2 : a0 ≥ 97
  · rw [if_pos c2] at H
    have c2b0 : decide (97 ≤ a0) = true := decide_eq_true c2
    clear c2
    by_cases c3 : a0 ≤ 122
    · rw [if_pos c3] at H
      have c3b0 : decide (a0 ≤ 122) = true := decide_eq_true c3
      clear c3
      obtain rfl := Option.some.inj H
      go_enter Try.func37, Try.ntmps37
      go_wp2
      go_ret
      exact ⟨by first | rfl | (simp; done) | (simp [*]; done), by repeat (first | exact Drawn0.refl _ | apply Drawn0.step)⟩
    · rw [if_neg c3] at H
      have c3b0 : decide (a0 ≤ 122) = false := decide_eq_false c3
      clear c3
      by_cases c4 : a0 ≥ 65
      · rw [if_pos c4] at H
        have c4b0 : decide (65 ≤ a0) = true := decide_eq_true c4
        clear c4
        by_cases c5 : a0 ≤ 90
        · rw [if_pos c5] at H
          have c5b0 : decide (a0 ≤ 90) = true := decide_eq_true c5
          clear c5
          obtain rfl := Option.some.inj H
          go_enter Try.func37, Try.ntmps37
          go_wp2
          go_ret
          exact ⟨by first | rfl | (simp; done) | (simp [*]; done), by repeat (first | exact Drawn0.refl _ | apply Drawn0.step)⟩
        · rw [if_neg c5] at H
          have c5b0 : decide (a0 ≤ 90) = false := decide_eq_false c5
          clear c5
          obtain rfl := Option.some.inj H
          go_enter Try.func37, Try.ntmps37
          go_wp2
          go_ret
          exact ⟨by first | rfl | (simp; done) | (simp [*]; done), by repeat (first | exact Drawn0.refl _ | apply Drawn0.step)⟩
      · rw [if_neg c4] at H
        have c4b0 : decide (65 ≤ a0) = false := decide_eq_false c4
        clear c4
        obtain rfl := Option.some.inj H
        go_enter Try.func37, Try.ntmps37
        go_wp2
        go_ret
        exact ⟨by first | rfl | (simp; done) | (simp [*]; done), by repeat (first | exact Drawn0.refl _ | apply Drawn0.step)⟩
  · rw [if_neg c2] at H
    have c2b0 : decide (97 ≤ a0) = false := decide_eq_false c2
    clear c2
    by_cases c6 : a0 ≥ 65
    · rw [if_pos c6] at H
      have c6b0 : decide (65 ≤ a0) = true := decide_eq_true c6
      clear c6
      by_cases c7 : a0 ≤ 90
      · rw [if_pos c7] at H
        have c7b0 : decide (a0 ≤ 90) = true := decide_eq_true c7
        clear c7
        obtain rfl := Option.some.inj H
        go_enter Try.func37, Try.ntmps37
        go_wp2
        go_ret
        exact ⟨by first | rfl | (simp; done) | (simp [*]; done), by repeat (first | exact Drawn0.refl _ | apply Drawn0.step)⟩
      · rw [if_neg c7] at H
        have c7b0 : decide (a0 ≤ 90) = false := decide_eq_false c7
        clear c7
        obtain rfl := Option.some.inj H
        go_enter Try.func37, Try.ntmps37
        go_wp2
        go_ret
        exact ⟨by first | rfl | (simp; done) | (simp [*]; done), by repeat (first | exact Drawn0.refl _ | apply Drawn0.step)⟩
    · rw [if_neg c6] at H
      have c6b0 : decide (65 ≤ a0) = false := decide_eq_false c6
      clear c6
      obtain rfl := Option.some.inj H
      go_enter Try.func37, Try.ntmps37
      go_wp2
      go_ret
      exact ⟨by first | rfl | (simp; done) | (simp [*]; done), by repeat (first | exact Drawn0.refl _ | apply Drawn0.step)⟩

def names_Reserved.f (a0 : ByteArray) : Option (Bool) := if a0.toList = ([98, 111, 111, 108] : List UInt8) then (some true) else (if a0.toList = ([99, 97, 116, 99, 104] : List UInt8) then (some true) else (if a0.toList = ([99, 111, 110, 115, 116] : List UInt8) then (some true) else (if a0.toList = ([101, 108, 115, 101] : List UInt8) then (some true) else (if a0.toList = ([101, 120, 112, 111, 114, 116] : List UInt8) then (some true) else (if a0.toList = ([102, 97, 105, 108] : List UInt8) then (some true) else (if a0.toList = ([102, 97, 108, 115, 101] : List UInt8) then (some true) else (if a0.toList = ([102, 108, 111, 97, 116] : List UInt8) then (some true) else (if a0.toList = ([102, 110] : List UInt8) then (some true) else (if a0.toList = ([105, 102] : List UInt8) then (some true) else (if a0.toList = ([105, 109, 112, 111, 114, 116] : List UInt8) then (some true) else (if a0.toList = ([105, 110, 102] : List UInt8) then (some true) else (if a0.toList = ([105, 110, 112, 117, 116] : List UInt8) then (some true) else (if a0.toList = ([105, 110, 116] : List UInt8) then (some true) else (if a0.toList = ([108, 101, 116] : List UInt8) then (some true) else (if a0.toList = ([109, 111, 100, 117, 108, 101] : List UInt8) then (some true) else (if a0.toList = ([110, 97, 110] : List UInt8) then (some true) else (if a0.toList = ([114, 101, 116, 117, 114, 110] : List UInt8) then (some true) else (if a0.toList = ([115, 104, 111, 119] : List UInt8) then (some true) else (if a0.toList = ([116, 114, 117, 101] : List UInt8) then (some true) else (if a0.toList = ([116, 114, 121] : List UInt8) then (some true) else (if a0.toList = ([118, 97, 114] : List UInt8) then (some true) else (if a0.toList = ([119, 104, 105, 108, 101] : List UInt8) then (some true) else (some false)))))))))))))))))))))))
set_option maxHeartbeats 8000000 in
set_option maxRecDepth 100000 in
theorem names_Reserved.calls (a0 : ByteArray) (r : Bool) (w : World) (h : names_Reserved.f a0 = some r) :
    Calls Try.prog 38 #[.string a0] w fun e w' => e = .returned (.bool r) ∧ Drawn0 w w' := by
  have H : (if a0.toList = ([98, 111, 111, 108] : List UInt8) then (some true) else (if a0.toList = ([99, 97, 116, 99, 104] : List UInt8) then (some true) else (if a0.toList = ([99, 111, 110, 115, 116] : List UInt8) then (some true) else (if a0.toList = ([101, 108, 115, 101] : List UInt8) then (some true) else (if a0.toList = ([101, 120, 112, 111, 114, 116] : List UInt8) then (some true) else (if a0.toList = ([102, 97, 105, 108] : List UInt8) then (some true) else (if a0.toList = ([102, 97, 108, 115, 101] : List UInt8) then (some true) else (if a0.toList = ([102, 108, 111, 97, 116] : List UInt8) then (some true) else (if a0.toList = ([102, 110] : List UInt8) then (some true) else (if a0.toList = ([105, 102] : List UInt8) then (some true) else (if a0.toList = ([105, 109, 112, 111, 114, 116] : List UInt8) then (some true) else (if a0.toList = ([105, 110, 102] : List UInt8) then (some true) else (if a0.toList = ([105, 110, 112, 117, 116] : List UInt8) then (some true) else (if a0.toList = ([105, 110, 116] : List UInt8) then (some true) else (if a0.toList = ([108, 101, 116] : List UInt8) then (some true) else (if a0.toList = ([109, 111, 100, 117, 108, 101] : List UInt8) then (some true) else (if a0.toList = ([110, 97, 110] : List UInt8) then (some true) else (if a0.toList = ([114, 101, 116, 117, 114, 110] : List UInt8) then (some true) else (if a0.toList = ([115, 104, 111, 119] : List UInt8) then (some true) else (if a0.toList = ([116, 114, 117, 101] : List UInt8) then (some true) else (if a0.toList = ([116, 114, 121] : List UInt8) then (some true) else (if a0.toList = ([118, 97, 114] : List UInt8) then (some true) else (if a0.toList = ([119, 104, 105, 108, 101] : List UInt8) then (some true) else (some false)))))))))))))))))))))))) = some r := h
  clear h
  by_cases c2 : a0.toList = ([98, 111, 111, 108] : List UInt8)
  · rw [if_pos c2] at H
    have c2b0 : (a0.toList == ([98, 111, 111, 108] : List UInt8)) = true := beq_iff_eq.mpr c2
    have c2b1 : (a0.toList != ([98, 111, 111, 108] : List UInt8)) = false := bne_eq_false_iff_eq.mpr c2
    clear c2
    obtain rfl := Option.some.inj H
    go_enter Try.func38, Try.ntmps38
    go_wp2
    go_ret
    exact ⟨by first | rfl | (simp; done) | (simp [*]; done), by repeat (first | exact Drawn0.refl _ | apply Drawn0.step)⟩
  · rw [if_neg c2] at H
    have c2b0 : (a0.toList == ([98, 111, 111, 108] : List UInt8)) = false := beq_eq_false_iff_ne.mpr c2
    have c2b1 : (a0.toList != ([98, 111, 111, 108] : List UInt8)) = true := bne_iff_ne.mpr c2
    by_cases c3 : a0.toList = ([99, 97, 116, 99, 104] : List UInt8)
    · rw [if_pos c3] at H
      have c3b0 : (a0.toList == ([99, 97, 116, 99, 104] : List UInt8)) = true := beq_iff_eq.mpr c3
      have c3b1 : (a0.toList != ([99, 97, 116, 99, 104] : List UInt8)) = false := bne_eq_false_iff_eq.mpr c3
      clear c3
      obtain rfl := Option.some.inj H
      go_enter Try.func38, Try.ntmps38
      go_wp2
      go_ret
      exact ⟨by first | rfl | (simp; done) | (simp [*]; done), by repeat (first | exact Drawn0.refl _ | apply Drawn0.step)⟩
    · rw [if_neg c3] at H
      have c3b0 : (a0.toList == ([99, 97, 116, 99, 104] : List UInt8)) = false := beq_eq_false_iff_ne.mpr c3
      have c3b1 : (a0.toList != ([99, 97, 116, 99, 104] : List UInt8)) = true := bne_iff_ne.mpr c3
      by_cases c4 : a0.toList = ([99, 111, 110, 115, 116] : List UInt8)
      · rw [if_pos c4] at H
        have c4b0 : (a0.toList == ([99, 111, 110, 115, 116] : List UInt8)) = true := beq_iff_eq.mpr c4
        have c4b1 : (a0.toList != ([99, 111, 110, 115, 116] : List UInt8)) = false := bne_eq_false_iff_eq.mpr c4
        clear c4
        obtain rfl := Option.some.inj H
        go_enter Try.func38, Try.ntmps38
        go_wp2
        go_ret
        exact ⟨by first | rfl | (simp; done) | (simp [*]; done), by repeat (first | exact Drawn0.refl _ | apply Drawn0.step)⟩
      · rw [if_neg c4] at H
        have c4b0 : (a0.toList == ([99, 111, 110, 115, 116] : List UInt8)) = false := beq_eq_false_iff_ne.mpr c4
        have c4b1 : (a0.toList != ([99, 111, 110, 115, 116] : List UInt8)) = true := bne_iff_ne.mpr c4
        by_cases c5 : a0.toList = ([101, 108, 115, 101] : List UInt8)
        · rw [if_pos c5] at H
          have c5b0 : (a0.toList == ([101, 108, 115, 101] : List UInt8)) = true := beq_iff_eq.mpr c5
          have c5b1 : (a0.toList != ([101, 108, 115, 101] : List UInt8)) = false := bne_eq_false_iff_eq.mpr c5
          clear c5
          obtain rfl := Option.some.inj H
          go_enter Try.func38, Try.ntmps38
          go_wp2
          go_ret
          exact ⟨by first | rfl | (simp; done) | (simp [*]; done), by repeat (first | exact Drawn0.refl _ | apply Drawn0.step)⟩
        · rw [if_neg c5] at H
          have c5b0 : (a0.toList == ([101, 108, 115, 101] : List UInt8)) = false := beq_eq_false_iff_ne.mpr c5
          have c5b1 : (a0.toList != ([101, 108, 115, 101] : List UInt8)) = true := bne_iff_ne.mpr c5
          by_cases c6 : a0.toList = ([101, 120, 112, 111, 114, 116] : List UInt8)
          · rw [if_pos c6] at H
            have c6b0 : (a0.toList == ([101, 120, 112, 111, 114, 116] : List UInt8)) = true := beq_iff_eq.mpr c6
            have c6b1 : (a0.toList != ([101, 120, 112, 111, 114, 116] : List UInt8)) = false := bne_eq_false_iff_eq.mpr c6
            clear c6
            obtain rfl := Option.some.inj H
            go_enter Try.func38, Try.ntmps38
            go_wp2
            go_ret
            exact ⟨by first | rfl | (simp; done) | (simp [*]; done), by repeat (first | exact Drawn0.refl _ | apply Drawn0.step)⟩
          · rw [if_neg c6] at H
            have c6b0 : (a0.toList == ([101, 120, 112, 111, 114, 116] : List UInt8)) = false := beq_eq_false_iff_ne.mpr c6
            have c6b1 : (a0.toList != ([101, 120, 112, 111, 114, 116] : List UInt8)) = true := bne_iff_ne.mpr c6
            by_cases c7 : a0.toList = ([102, 97, 105, 108] : List UInt8)
            · rw [if_pos c7] at H
              have c7b0 : (a0.toList == ([102, 97, 105, 108] : List UInt8)) = true := beq_iff_eq.mpr c7
              have c7b1 : (a0.toList != ([102, 97, 105, 108] : List UInt8)) = false := bne_eq_false_iff_eq.mpr c7
              clear c7
              obtain rfl := Option.some.inj H
              go_enter Try.func38, Try.ntmps38
              go_wp2
              go_ret
              exact ⟨by first | rfl | (simp; done) | (simp [*]; done), by repeat (first | exact Drawn0.refl _ | apply Drawn0.step)⟩
            · rw [if_neg c7] at H
              have c7b0 : (a0.toList == ([102, 97, 105, 108] : List UInt8)) = false := beq_eq_false_iff_ne.mpr c7
              have c7b1 : (a0.toList != ([102, 97, 105, 108] : List UInt8)) = true := bne_iff_ne.mpr c7
              by_cases c8 : a0.toList = ([102, 97, 108, 115, 101] : List UInt8)
              · rw [if_pos c8] at H
                have c8b0 : (a0.toList == ([102, 97, 108, 115, 101] : List UInt8)) = true := beq_iff_eq.mpr c8
                have c8b1 : (a0.toList != ([102, 97, 108, 115, 101] : List UInt8)) = false := bne_eq_false_iff_eq.mpr c8
                clear c8
                obtain rfl := Option.some.inj H
                go_enter Try.func38, Try.ntmps38
                go_wp2
                go_ret
                exact ⟨by first | rfl | (simp; done) | (simp [*]; done), by repeat (first | exact Drawn0.refl _ | apply Drawn0.step)⟩
              · rw [if_neg c8] at H
                have c8b0 : (a0.toList == ([102, 97, 108, 115, 101] : List UInt8)) = false := beq_eq_false_iff_ne.mpr c8
                have c8b1 : (a0.toList != ([102, 97, 108, 115, 101] : List UInt8)) = true := bne_iff_ne.mpr c8
                by_cases c9 : a0.toList = ([102, 108, 111, 97, 116] : List UInt8)
                · rw [if_pos c9] at H
                  have c9b0 : (a0.toList == ([102, 108, 111, 97, 116] : List UInt8)) = true := beq_iff_eq.mpr c9
                  have c9b1 : (a0.toList != ([102, 108, 111, 97, 116] : List UInt8)) = false := bne_eq_false_iff_eq.mpr c9
                  clear c9
                  obtain rfl := Option.some.inj H
                  go_enter Try.func38, Try.ntmps38
                  go_wp2
                  go_ret
                  exact ⟨by first | rfl | (simp; done) | (simp [*]; done), by repeat (first | exact Drawn0.refl _ | apply Drawn0.step)⟩
                · rw [if_neg c9] at H
                  have c9b0 : (a0.toList == ([102, 108, 111, 97, 116] : List UInt8)) = false := beq_eq_false_iff_ne.mpr c9
                  have c9b1 : (a0.toList != ([102, 108, 111, 97, 116] : List UInt8)) = true := bne_iff_ne.mpr c9
                  by_cases c10 : a0.toList = ([102, 110] : List UInt8)
                  · rw [if_pos c10] at H
                    have c10b0 : (a0.toList == ([102, 110] : List UInt8)) = true := beq_iff_eq.mpr c10
                    have c10b1 : (a0.toList != ([102, 110] : List UInt8)) = false := bne_eq_false_iff_eq.mpr c10
                    clear c10
                    obtain rfl := Option.some.inj H
                    go_enter Try.func38, Try.ntmps38
                    go_wp2
                    go_ret
                    exact ⟨by first | rfl | (simp; done) | (simp [*]; done), by repeat (first | exact Drawn0.refl _ | apply Drawn0.step)⟩
                  · rw [if_neg c10] at H
                    have c10b0 : (a0.toList == ([102, 110] : List UInt8)) = false := beq_eq_false_iff_ne.mpr c10
                    have c10b1 : (a0.toList != ([102, 110] : List UInt8)) = true := bne_iff_ne.mpr c10
                    by_cases c11 : a0.toList = ([105, 102] : List UInt8)
                    · rw [if_pos c11] at H
                      have c11b0 : (a0.toList == ([105, 102] : List UInt8)) = true := beq_iff_eq.mpr c11
                      have c11b1 : (a0.toList != ([105, 102] : List UInt8)) = false := bne_eq_false_iff_eq.mpr c11
                      clear c11
                      obtain rfl := Option.some.inj H
                      go_enter Try.func38, Try.ntmps38
                      go_wp2
                      go_ret
                      exact ⟨by first | rfl | (simp; done) | (simp [*]; done), by repeat (first | exact Drawn0.refl _ | apply Drawn0.step)⟩
                    · rw [if_neg c11] at H
                      have c11b0 : (a0.toList == ([105, 102] : List UInt8)) = false := beq_eq_false_iff_ne.mpr c11
                      have c11b1 : (a0.toList != ([105, 102] : List UInt8)) = true := bne_iff_ne.mpr c11
                      by_cases c12 : a0.toList = ([105, 109, 112, 111, 114, 116] : List UInt8)
                      · rw [if_pos c12] at H
                        have c12b0 : (a0.toList == ([105, 109, 112, 111, 114, 116] : List UInt8)) = true := beq_iff_eq.mpr c12
                        have c12b1 : (a0.toList != ([105, 109, 112, 111, 114, 116] : List UInt8)) = false := bne_eq_false_iff_eq.mpr c12
                        clear c12
                        obtain rfl := Option.some.inj H
                        go_enter Try.func38, Try.ntmps38
                        go_wp2
                        go_ret
                        exact ⟨by first | rfl | (simp; done) | (simp [*]; done), by repeat (first | exact Drawn0.refl _ | apply Drawn0.step)⟩
                      · rw [if_neg c12] at H
                        have c12b0 : (a0.toList == ([105, 109, 112, 111, 114, 116] : List UInt8)) = false := beq_eq_false_iff_ne.mpr c12
                        have c12b1 : (a0.toList != ([105, 109, 112, 111, 114, 116] : List UInt8)) = true := bne_iff_ne.mpr c12
                        by_cases c13 : a0.toList = ([105, 110, 102] : List UInt8)
                        · rw [if_pos c13] at H
                          have c13b0 : (a0.toList == ([105, 110, 102] : List UInt8)) = true := beq_iff_eq.mpr c13
                          have c13b1 : (a0.toList != ([105, 110, 102] : List UInt8)) = false := bne_eq_false_iff_eq.mpr c13
                          clear c13
                          obtain rfl := Option.some.inj H
                          go_enter Try.func38, Try.ntmps38
                          go_wp2
                          go_ret
                          exact ⟨by first | rfl | (simp; done) | (simp [*]; done), by repeat (first | exact Drawn0.refl _ | apply Drawn0.step)⟩
                        · rw [if_neg c13] at H
                          have c13b0 : (a0.toList == ([105, 110, 102] : List UInt8)) = false := beq_eq_false_iff_ne.mpr c13
                          have c13b1 : (a0.toList != ([105, 110, 102] : List UInt8)) = true := bne_iff_ne.mpr c13
                          by_cases c14 : a0.toList = ([105, 110, 112, 117, 116] : List UInt8)
                          · rw [if_pos c14] at H
                            have c14b0 : (a0.toList == ([105, 110, 112, 117, 116] : List UInt8)) = true := beq_iff_eq.mpr c14
                            have c14b1 : (a0.toList != ([105, 110, 112, 117, 116] : List UInt8)) = false := bne_eq_false_iff_eq.mpr c14
                            clear c14
                            obtain rfl := Option.some.inj H
                            go_enter Try.func38, Try.ntmps38
                            go_wp2
                            go_ret
                            exact ⟨by first | rfl | (simp; done) | (simp [*]; done), by repeat (first | exact Drawn0.refl _ | apply Drawn0.step)⟩
                          · rw [if_neg c14] at H
                            have c14b0 : (a0.toList == ([105, 110, 112, 117, 116] : List UInt8)) = false := beq_eq_false_iff_ne.mpr c14
                            have c14b1 : (a0.toList != ([105, 110, 112, 117, 116] : List UInt8)) = true := bne_iff_ne.mpr c14
                            by_cases c15 : a0.toList = ([105, 110, 116] : List UInt8)
                            · rw [if_pos c15] at H
                              have c15b0 : (a0.toList == ([105, 110, 116] : List UInt8)) = true := beq_iff_eq.mpr c15
                              have c15b1 : (a0.toList != ([105, 110, 116] : List UInt8)) = false := bne_eq_false_iff_eq.mpr c15
                              clear c15
                              obtain rfl := Option.some.inj H
                              go_enter Try.func38, Try.ntmps38
                              go_wp2
                              go_ret
                              exact ⟨by first | rfl | (simp; done) | (simp [*]; done), by repeat (first | exact Drawn0.refl _ | apply Drawn0.step)⟩
                            · rw [if_neg c15] at H
                              have c15b0 : (a0.toList == ([105, 110, 116] : List UInt8)) = false := beq_eq_false_iff_ne.mpr c15
                              have c15b1 : (a0.toList != ([105, 110, 116] : List UInt8)) = true := bne_iff_ne.mpr c15
                              by_cases c16 : a0.toList = ([108, 101, 116] : List UInt8)
                              · rw [if_pos c16] at H
                                have c16b0 : (a0.toList == ([108, 101, 116] : List UInt8)) = true := beq_iff_eq.mpr c16
                                have c16b1 : (a0.toList != ([108, 101, 116] : List UInt8)) = false := bne_eq_false_iff_eq.mpr c16
                                clear c16
                                obtain rfl := Option.some.inj H
                                go_enter Try.func38, Try.ntmps38
                                go_wp2
                                go_ret
                                exact ⟨by first | rfl | (simp; done) | (simp [*]; done), by repeat (first | exact Drawn0.refl _ | apply Drawn0.step)⟩
                              · rw [if_neg c16] at H
                                have c16b0 : (a0.toList == ([108, 101, 116] : List UInt8)) = false := beq_eq_false_iff_ne.mpr c16
                                have c16b1 : (a0.toList != ([108, 101, 116] : List UInt8)) = true := bne_iff_ne.mpr c16
                                by_cases c17 : a0.toList = ([109, 111, 100, 117, 108, 101] : List UInt8)
                                · rw [if_pos c17] at H
                                  have c17b0 : (a0.toList == ([109, 111, 100, 117, 108, 101] : List UInt8)) = true := beq_iff_eq.mpr c17
                                  have c17b1 : (a0.toList != ([109, 111, 100, 117, 108, 101] : List UInt8)) = false := bne_eq_false_iff_eq.mpr c17
                                  clear c17
                                  obtain rfl := Option.some.inj H
                                  go_enter Try.func38, Try.ntmps38
                                  go_wp2
                                  go_ret
                                  exact ⟨by first | rfl | (simp; done) | (simp [*]; done), by repeat (first | exact Drawn0.refl _ | apply Drawn0.step)⟩
                                · rw [if_neg c17] at H
                                  have c17b0 : (a0.toList == ([109, 111, 100, 117, 108, 101] : List UInt8)) = false := beq_eq_false_iff_ne.mpr c17
                                  have c17b1 : (a0.toList != ([109, 111, 100, 117, 108, 101] : List UInt8)) = true := bne_iff_ne.mpr c17
                                  by_cases c18 : a0.toList = ([110, 97, 110] : List UInt8)
                                  · rw [if_pos c18] at H
                                    have c18b0 : (a0.toList == ([110, 97, 110] : List UInt8)) = true := beq_iff_eq.mpr c18
                                    have c18b1 : (a0.toList != ([110, 97, 110] : List UInt8)) = false := bne_eq_false_iff_eq.mpr c18
                                    clear c18
                                    obtain rfl := Option.some.inj H
                                    go_enter Try.func38, Try.ntmps38
                                    go_wp2
                                    go_ret
                                    exact ⟨by first | rfl | (simp; done) | (simp [*]; done), by repeat (first | exact Drawn0.refl _ | apply Drawn0.step)⟩
                                  · rw [if_neg c18] at H
                                    have c18b0 : (a0.toList == ([110, 97, 110] : List UInt8)) = false := beq_eq_false_iff_ne.mpr c18
                                    have c18b1 : (a0.toList != ([110, 97, 110] : List UInt8)) = true := bne_iff_ne.mpr c18
                                    by_cases c19 : a0.toList = ([114, 101, 116, 117, 114, 110] : List UInt8)
                                    · rw [if_pos c19] at H
                                      have c19b0 : (a0.toList == ([114, 101, 116, 117, 114, 110] : List UInt8)) = true := beq_iff_eq.mpr c19
                                      have c19b1 : (a0.toList != ([114, 101, 116, 117, 114, 110] : List UInt8)) = false := bne_eq_false_iff_eq.mpr c19
                                      clear c19
                                      obtain rfl := Option.some.inj H
                                      go_enter Try.func38, Try.ntmps38
                                      go_wp2
                                      go_ret
                                      exact ⟨by first | rfl | (simp; done) | (simp [*]; done), by repeat (first | exact Drawn0.refl _ | apply Drawn0.step)⟩
                                    · rw [if_neg c19] at H
                                      have c19b0 : (a0.toList == ([114, 101, 116, 117, 114, 110] : List UInt8)) = false := beq_eq_false_iff_ne.mpr c19
                                      have c19b1 : (a0.toList != ([114, 101, 116, 117, 114, 110] : List UInt8)) = true := bne_iff_ne.mpr c19
                                      by_cases c20 : a0.toList = ([115, 104, 111, 119] : List UInt8)
                                      · rw [if_pos c20] at H
                                        have c20b0 : (a0.toList == ([115, 104, 111, 119] : List UInt8)) = true := beq_iff_eq.mpr c20
                                        have c20b1 : (a0.toList != ([115, 104, 111, 119] : List UInt8)) = false := bne_eq_false_iff_eq.mpr c20
                                        clear c20
                                        obtain rfl := Option.some.inj H
                                        go_enter Try.func38, Try.ntmps38
                                        go_wp2
                                        go_ret
                                        exact ⟨by first | rfl | (simp; done) | (simp [*]; done), by repeat (first | exact Drawn0.refl _ | apply Drawn0.step)⟩
                                      · rw [if_neg c20] at H
                                        have c20b0 : (a0.toList == ([115, 104, 111, 119] : List UInt8)) = false := beq_eq_false_iff_ne.mpr c20
                                        have c20b1 : (a0.toList != ([115, 104, 111, 119] : List UInt8)) = true := bne_iff_ne.mpr c20
                                        by_cases c21 : a0.toList = ([116, 114, 117, 101] : List UInt8)
                                        · rw [if_pos c21] at H
                                          have c21b0 : (a0.toList == ([116, 114, 117, 101] : List UInt8)) = true := beq_iff_eq.mpr c21
                                          have c21b1 : (a0.toList != ([116, 114, 117, 101] : List UInt8)) = false := bne_eq_false_iff_eq.mpr c21
                                          clear c21
                                          obtain rfl := Option.some.inj H
                                          go_enter Try.func38, Try.ntmps38
                                          go_wp2
                                          go_ret
                                          exact ⟨by first | rfl | (simp; done) | (simp [*]; done), by repeat (first | exact Drawn0.refl _ | apply Drawn0.step)⟩
                                        · rw [if_neg c21] at H
                                          have c21b0 : (a0.toList == ([116, 114, 117, 101] : List UInt8)) = false := beq_eq_false_iff_ne.mpr c21
                                          have c21b1 : (a0.toList != ([116, 114, 117, 101] : List UInt8)) = true := bne_iff_ne.mpr c21
                                          by_cases c22 : a0.toList = ([116, 114, 121] : List UInt8)
                                          · rw [if_pos c22] at H
                                            have c22b0 : (a0.toList == ([116, 114, 121] : List UInt8)) = true := beq_iff_eq.mpr c22
                                            have c22b1 : (a0.toList != ([116, 114, 121] : List UInt8)) = false := bne_eq_false_iff_eq.mpr c22
                                            clear c22
                                            obtain rfl := Option.some.inj H
                                            go_enter Try.func38, Try.ntmps38
                                            go_wp2
                                            go_ret
                                            exact ⟨by first | rfl | (simp; done) | (simp [*]; done), by repeat (first | exact Drawn0.refl _ | apply Drawn0.step)⟩
                                          · rw [if_neg c22] at H
                                            have c22b0 : (a0.toList == ([116, 114, 121] : List UInt8)) = false := beq_eq_false_iff_ne.mpr c22
                                            have c22b1 : (a0.toList != ([116, 114, 121] : List UInt8)) = true := bne_iff_ne.mpr c22
                                            by_cases c23 : a0.toList = ([118, 97, 114] : List UInt8)
                                            · rw [if_pos c23] at H
                                              have c23b0 : (a0.toList == ([118, 97, 114] : List UInt8)) = true := beq_iff_eq.mpr c23
                                              have c23b1 : (a0.toList != ([118, 97, 114] : List UInt8)) = false := bne_eq_false_iff_eq.mpr c23
                                              clear c23
                                              obtain rfl := Option.some.inj H
                                              go_enter Try.func38, Try.ntmps38
                                              go_wp2
                                              go_ret
                                              exact ⟨by first | rfl | (simp; done) | (simp [*]; done), by repeat (first | exact Drawn0.refl _ | apply Drawn0.step)⟩
                                            · rw [if_neg c23] at H
                                              have c23b0 : (a0.toList == ([118, 97, 114] : List UInt8)) = false := beq_eq_false_iff_ne.mpr c23
                                              have c23b1 : (a0.toList != ([118, 97, 114] : List UInt8)) = true := bne_iff_ne.mpr c23
                                              by_cases c24 : a0.toList = ([119, 104, 105, 108, 101] : List UInt8)
                                              · rw [if_pos c24] at H
                                                have c24b0 : (a0.toList == ([119, 104, 105, 108, 101] : List UInt8)) = true := beq_iff_eq.mpr c24
                                                have c24b1 : (a0.toList != ([119, 104, 105, 108, 101] : List UInt8)) = false := bne_eq_false_iff_eq.mpr c24
                                                clear c24
                                                obtain rfl := Option.some.inj H
                                                go_enter Try.func38, Try.ntmps38
                                                go_wp2
                                                go_ret
                                                exact ⟨by first | rfl | (simp; done) | (simp [*]; done), by repeat (first | exact Drawn0.refl _ | apply Drawn0.step)⟩
                                              · rw [if_neg c24] at H
                                                have c24b0 : (a0.toList == ([119, 104, 105, 108, 101] : List UInt8)) = false := beq_eq_false_iff_ne.mpr c24
                                                have c24b1 : (a0.toList != ([119, 104, 105, 108, 101] : List UInt8)) = true := bne_iff_ne.mpr c24
                                                obtain rfl := Option.some.inj H
                                                go_enter Try.func38, Try.ntmps38
                                                go_wp2
                                                go_ret
                                                exact ⟨by first | rfl | (simp; done) | (simp [*]; done), by repeat (first | exact Drawn0.refl _ | apply Drawn0.step)⟩

mutual
def names_Right.j0 : Nat → ByteArray → Bool → Option (Int)
  | 0, _, _ => none
  | k + 1, x0, x11 => if x11 = true then (some 12) else (names_Right.l0 k x0 (x0.size : Int) 0)
def names_Right.l0 : Nat → ByteArray → Int → Int → Option (Int)
  | 0, _, _, _ => none
  | k + 1, x0, x13, x14 => if x14 < x13 then (if 0 ≤ x14 then (if x14 < (x0.size : Int) then ((names_letter.f (bt x0 x14)).bind fun t102 => (if t102 = true then (names_Right.l0 k x0 x13 (wrap64 (x14 + 1))) else (if (bt x0 x14) < 48 then (some 12) else (if (bt x0 x14) > 57 then (some 12) else (names_Right.l0 k x0 x13 (wrap64 (x14 + 1))))))) else (none)) else (none)) else (if (x0.size : Int) > 32 then (some 3) else ((names_Reserved.f x0).bind fun t103 => (if t103 = true then (some 12) else (some 0))))
end
def names_Right.f (k : Nat) (a0 : ByteArray) : Option (Int) := if a0.toList = ([] : List UInt8) then (names_Right.j0 k a0 true) else (if 0 < (a0.size : Int) then ((names_letter.f (bt a0 0)).bind fun t101 => (names_Right.j0 k a0 (!t101))) else (none))
set_option maxHeartbeats 8000000 in
set_option maxRecDepth 100000 in
theorem names_Right.calls (k : Nat) (a0 : ByteArray) (r : Int) (w : World) (h : names_Right.f k a0 = some r) :
    Calls Try.prog 25 #[.string a0] w fun e w' => e = .returned (.int .i64 r) ∧ Drawn0 w w' := by
  have H : (if a0.toList = ([] : List UInt8) then (names_Right.j0 k a0 true) else (if 0 < (a0.size : Int) then ((names_letter.f (bt a0 0)).bind fun t101 => (names_Right.j0 k a0 (!t101))) else (none))) = some r := h
  clear h
  have HC2 := Aside0.mk H
  clear H
  go_enter Try.func25, Try.ntmps25
  go_upto_region 1 with (fail)
  go_cut [11] (fun v11 wc => ∃ (kq : Nat) (x11_1 : Bool), v11 = .bool x11_1 ∧ Aside0 (names_Right.j0 kq a0 x11_1 = some r) ∧ Aside0 (kq ≤ k) ∧ Drawn0 w wc)
  case first =>
    have H := HC2.out
    clear HC2
    by_cases c3 : a0.toList = ([] : List UInt8)
    · rw [if_pos c3] at H
      have c3b0 : (a0.toList == ([] : List UInt8)) = true := beq_iff_eq.mpr c3
      have c3b1 : (a0.toList != ([] : List UInt8)) = false := bne_eq_false_iff_eq.mpr c3
      clear c3
      (first | rw [c3b0] | (simp only [i64_w, i32_w]; rw [c3b0]) | skip)
      have H' := Aside0.mk H
      clear H
      go_wp2
      go_meet
      case rel => exact ⟨_, (true), (by first | rfl | (simp; done) | (simp [*]; done)), H', ⟨by first | omega | exact Nat.le_refl _⟩, by repeat (first | exact Drawn0.refl _ | apply Drawn0.step)⟩
    · rw [if_neg c3] at H
      have c3b0 : (a0.toList == ([] : List UInt8)) = false := beq_eq_false_iff_ne.mpr c3
      have c3b1 : (a0.toList != ([] : List UInt8)) = true := bne_iff_ne.mpr c3
      (first | rw [c3b0] | (simp only [i64_w, i32_w]; rw [c3b0]) | skip)
      by_cases c4 : 0 < (a0.size : Int)
      · rw [if_pos c4] at H
        have c4b0 : decide (0 < (a0.size : Int)) = true := decide_eq_true c4
        have c4b1 : decide (0 < a0.size) = true := decide_eq_true (by omega)
        clear c4
        replace H := Option.bind_eq_some_iff.mp H
        obtain ⟨t101, A60, H⟩ := H
        replace H : (names_Right.j0 k a0 (!t101)) = some r := H
        have A6 := Aside0.mk A60
        clear A60
        have H' := Aside0.mk H
        clear H
        have p5 : 0 ≤ (0 : Int) := (by omega)
        have q5 : 0 < a0.size := (by have : (0 : Int) < (a0.size : Int) := of_decide_eq_true (by first | (with_reducible assumption) | assumption); omega)
        have hx5 : ∀ h : 0 < a0.size, ((a0[0]'h).toNat : Int) = bt a0 0 := bt_at a0 0
        clear p5
        have qi5 : (0 < (a0.size : Int)) = True := eq_true (of_decide_eq_true (by first | (with_reducible assumption) | assumption))
        replace q5 := eq_true q5
        go_wp2_with (first | (go_at_call 37; (with_reducible refine (names_letter.calls (bt a0 0) t101 _ A6.out).mono ?_); rintro e w' ⟨rfl, ⟨nd, rfl⟩⟩))
        go_meet
        case rel => exact ⟨_, (!t101), (by first | rfl | (simp; done) | (simp [*]; done)), H', ⟨by first | omega | exact Nat.le_refl _⟩, by repeat (first | exact Drawn0.refl _ | apply Drawn0.step)⟩
      · rw [if_neg c4] at H
        exact absurd H (by simp)
  case rest =>
    clear HC2
    try clear c2
    try clear p2
    try clear c3
    try clear c3b0
    try clear c3b1
    try clear c4
    try clear c4b0
    try clear c4b1
    try clear p5
    try clear q5
    try clear hx5
    try clear qi5
    try clear p5
    try clear q5
    obtain ⟨kq, x11_1, rfl, HA, HJ1, ⟨mc1, rfl⟩⟩ := hcut
    cases kq with
    | zero => exact absurd HA.out (by simp [names_Right.j0])
    | succ kj1 =>
      have H := HA.out
      clear HA
      simp only [names_Right.j0] at H
      by_cases c7 : x11_1 = true
      · subst c7
        have H1 : (some 12) = some r := by rw [if_pos rfl] at H; exact H
        clear H
        have H := H1
        clear H1
        obtain rfl := Option.some.inj H
        go_wp2
        go_ret
        exact ⟨by first | rfl | (simp; done) | (simp [*]; done), by repeat (first | exact Drawn0.refl _ | apply Drawn0.step)⟩
      · replace c7 := Bool.eq_false_iff.mpr c7
        subst c7
        have H1 : (names_Right.l0 kj1 a0 (a0.size : Int) 0) = some r := by rw [if_neg (show ¬ (false = true) by decide)] at H; exact H
        clear H
        have H := H1
        clear H1
        have H' := Aside0.mk H
        clear H
        go_wp2
        go_loopg [14] kj1 (fun kq v14 w' => ∃ (x14_2 : Int), v14 = .int .i64 x14_2 ∧ Aside0 (names_Right.l0 kq a0 (a0.size : Int) x14_2 = some r) ∧ Aside0 (kq ≤ kj1) ∧ Drawn0 w w')
        case atStart => exact ⟨(0), (by first | rfl | (simp; done) | (simp [*]; done)), H', ⟨Nat.le_refl _⟩, by repeat (first | exact Drawn0.refl _ | apply Drawn0.step)⟩
        case round =>
          clear H'
          try clear c1
          try clear c2
          try clear p2
          try clear c3
          try clear c3b0
          try clear c3b1
          try clear c4
          try clear c4b0
          try clear c4b1
          try clear p5
          try clear q5
          try clear hx5
          try clear qi5
          try clear c7
          try clear p2
          try clear p5
          try clear q5
          obtain ⟨x14_2, rfl, HA, HK2, ⟨m2, rfl⟩⟩ := hrel
          cases gk with
          | zero => exact absurd HA.out (by simp [names_Right.l0])
          | succ k2 =>
            have H := HA.out
            clear HA
            simp only [names_Right.l0] at H
            by_cases c8 : x14_2 < (a0.size : Int)
            · rw [if_pos c8] at H
              have c8b0 : decide (x14_2 < (a0.size : Int)) = true := decide_eq_true c8
              clear c8
              by_cases c9 : 0 ≤ x14_2
              · rw [if_pos c9] at H
                have c9b0 : decide (0 ≤ x14_2) = true := decide_eq_true c9
                clear c9
                by_cases c10 : x14_2 < (a0.size : Int)
                · rw [if_pos c10] at H
                  have c10b0 : decide (x14_2 < (a0.size : Int)) = true := decide_eq_true c10
                  clear c10
                  replace H := Option.bind_eq_some_iff.mp H
                  obtain ⟨t102, A120, H⟩ := H
                  replace H : (if t102 = true then (names_Right.l0 k2 a0 (a0.size : Int) (wrap64 (x14_2 + 1))) else (if (bt a0 x14_2) < 48 then (some 12) else (if (bt a0 x14_2) > 57 then (some 12) else (names_Right.l0 k2 a0 (a0.size : Int) (wrap64 (x14_2 + 1)))))) = some r := H
                  have A12 := Aside0.mk A120
                  clear A120
                  by_cases c13 : t102 = true
                  · subst c13
                    have H1 : (names_Right.l0 k2 a0 (a0.size : Int) (wrap64 (x14_2 + 1))) = some r := by rw [if_pos rfl] at H; exact H
                    clear H
                    have H := H1
                    clear H1
                    have H' := Aside0.mk H
                    clear H
                    have p11 : 0 ≤ (x14_2 : Int) := of_decide_eq_true (by first | (with_reducible assumption) | assumption)
                    have q11 : x14_2 < (a0.size : Int) := of_decide_eq_true (by first | (with_reducible assumption) | assumption)
                    have hx11 := bt_at a0 x14_2
                    replace p11 := eq_true p11
                    replace q11 := eq_true q11
                    go_wp2_with (first | ((with_reducible refine gate_callee (f := 37) rfl ?_); refine goesL_ (some 20) rfl rfl Try.func37 (by kernel_rfl) rfl #[.int .u8 (bt a0 x14_2)] rfl (by (try simp only [List.map_toArray, List.map_cons, List.map_nil]); first | done | rfl | (simp only [List.length_drop, List.length_take]; rfl)) ?_; (with_reducible refine (names_letter.calls (bt a0 x14_2) true _ A12.out).mono ?_); rintro e w' ⟨rfl, ⟨nd, rfl⟩⟩; refine ⟨_, rfl, ?_⟩))
                    go_roundg k2
                    case measure => have := HJ1.out; have := HK2.out; omega
                    case rel => exact ⟨(wrap64 (x14_2 + 1)), (by first | rfl | (simp; done) | (simp [*]; done)), H', ⟨by have := HJ1.out; have := HK2.out; omega⟩, by repeat (first | exact Drawn0.refl _ | apply Drawn0.step)⟩
                  · replace c13 := Bool.eq_false_iff.mpr c13
                    subst c13
                    have H1 : (if (bt a0 x14_2) < 48 then (some 12) else (if (bt a0 x14_2) > 57 then (some 12) else (names_Right.l0 k2 a0 (a0.size : Int) (wrap64 (x14_2 + 1))))) = some r := by rw [if_neg (show ¬ (false = true) by decide)] at H; exact H
                    clear H
                    have H := H1
                    clear H1
                    by_cases c15 : (bt a0 x14_2) < 48
                    · rw [if_pos c15] at H
                      have c15b0 : decide ((bt a0 x14_2) < 48) = true := decide_eq_true c15
                      clear c15
                      obtain rfl := Option.some.inj H
                      have p11 : 0 ≤ (x14_2 : Int) := of_decide_eq_true (by first | (with_reducible assumption) | assumption)
                      have q11 : x14_2 < (a0.size : Int) := of_decide_eq_true (by first | (with_reducible assumption) | assumption)
                      have hx11 := bt_at a0 x14_2
                      replace p11 := eq_true p11
                      replace q11 := eq_true q11
                      go_wp2_with (first | ((with_reducible refine gate_callee (f := 37) rfl ?_); refine goesL_ (some 20) rfl rfl Try.func37 (by kernel_rfl) rfl #[.int .u8 (bt a0 x14_2)] rfl (by (try simp only [List.map_toArray, List.map_cons, List.map_nil]); first | done | rfl | (simp only [List.length_drop, List.length_take]; rfl)) ?_; (with_reducible refine (names_letter.calls (bt a0 x14_2) false _ A12.out).mono ?_); rintro e w' ⟨rfl, ⟨nd, rfl⟩⟩; refine ⟨_, rfl, ?_⟩; have p14 : 0 ≤ (x14_2 : Int) := of_decide_eq_true (by first | (with_reducible assumption) | assumption); have q14 : x14_2 < (a0.size : Int) := of_decide_eq_true (by first | (with_reducible assumption) | assumption); have hx14 := bt_at a0 x14_2; replace p14 := eq_true p14; replace q14 := eq_true q14))
                      go_ret
                      exact ⟨by first | rfl | (simp; done) | (simp [*]; done), by repeat (first | exact Drawn0.refl _ | apply Drawn0.step)⟩
                    · rw [if_neg c15] at H
                      have c15b0 : decide ((bt a0 x14_2) < 48) = false := decide_eq_false c15
                      clear c15
                      by_cases c17 : (bt a0 x14_2) > 57
                      · rw [if_pos c17] at H
                        have c17b0 : decide (57 < (bt a0 x14_2)) = true := decide_eq_true c17
                        clear c17
                        obtain rfl := Option.some.inj H
                        have p11 : 0 ≤ (x14_2 : Int) := of_decide_eq_true (by first | (with_reducible assumption) | assumption)
                        have q11 : x14_2 < (a0.size : Int) := of_decide_eq_true (by first | (with_reducible assumption) | assumption)
                        have hx11 := bt_at a0 x14_2
                        replace p11 := eq_true p11
                        replace q11 := eq_true q11
                        go_wp2_with (first | ((with_reducible refine gate_callee (f := 37) rfl ?_); refine goesL_ (some 20) rfl rfl Try.func37 (by kernel_rfl) rfl #[.int .u8 (bt a0 x14_2)] rfl (by (try simp only [List.map_toArray, List.map_cons, List.map_nil]); first | done | rfl | (simp only [List.length_drop, List.length_take]; rfl)) ?_; (with_reducible refine (names_letter.calls (bt a0 x14_2) false _ A12.out).mono ?_); rintro e w' ⟨rfl, ⟨nd, rfl⟩⟩; refine ⟨_, rfl, ?_⟩; have p14 : 0 ≤ (x14_2 : Int) := of_decide_eq_true (by first | (with_reducible assumption) | assumption); have q14 : x14_2 < (a0.size : Int) := of_decide_eq_true (by first | (with_reducible assumption) | assumption); have hx14 := bt_at a0 x14_2; replace p14 := eq_true p14; replace q14 := eq_true q14; have p16 : 0 ≤ (x14_2 : Int) := of_decide_eq_true (by first | (with_reducible assumption) | assumption); have q16 : x14_2 < (a0.size : Int) := of_decide_eq_true (by first | (with_reducible assumption) | assumption); have hx16 := bt_at a0 x14_2; replace p16 := eq_true p16; replace q16 := eq_true q16))
                        go_ret
                        exact ⟨by first | rfl | (simp; done) | (simp [*]; done), by repeat (first | exact Drawn0.refl _ | apply Drawn0.step)⟩
                      · rw [if_neg c17] at H
                        have c17b0 : decide (57 < (bt a0 x14_2)) = false := decide_eq_false c17
                        clear c17
                        have H' := Aside0.mk H
                        clear H
                        have p11 : 0 ≤ (x14_2 : Int) := of_decide_eq_true (by first | (with_reducible assumption) | assumption)
                        have q11 : x14_2 < (a0.size : Int) := of_decide_eq_true (by first | (with_reducible assumption) | assumption)
                        have hx11 := bt_at a0 x14_2
                        replace p11 := eq_true p11
                        replace q11 := eq_true q11
                        go_wp2_with (first | ((with_reducible refine gate_callee (f := 37) rfl ?_); refine goesL_ (some 20) rfl rfl Try.func37 (by kernel_rfl) rfl #[.int .u8 (bt a0 x14_2)] rfl (by (try simp only [List.map_toArray, List.map_cons, List.map_nil]); first | done | rfl | (simp only [List.length_drop, List.length_take]; rfl)) ?_; (with_reducible refine (names_letter.calls (bt a0 x14_2) false _ A12.out).mono ?_); rintro e w' ⟨rfl, ⟨nd, rfl⟩⟩; refine ⟨_, rfl, ?_⟩; have p14 : 0 ≤ (x14_2 : Int) := of_decide_eq_true (by first | (with_reducible assumption) | assumption); have q14 : x14_2 < (a0.size : Int) := of_decide_eq_true (by first | (with_reducible assumption) | assumption); have hx14 := bt_at a0 x14_2; replace p14 := eq_true p14; replace q14 := eq_true q14; have p16 : 0 ≤ (x14_2 : Int) := of_decide_eq_true (by first | (with_reducible assumption) | assumption); have q16 : x14_2 < (a0.size : Int) := of_decide_eq_true (by first | (with_reducible assumption) | assumption); have hx16 := bt_at a0 x14_2; replace p16 := eq_true p16; replace q16 := eq_true q16))
                        go_roundg k2
                        case measure => have := HJ1.out; have := HK2.out; omega
                        case rel => exact ⟨(wrap64 (x14_2 + 1)), (by first | rfl | (simp; done) | (simp [*]; done)), H', ⟨by have := HJ1.out; have := HK2.out; omega⟩, by repeat (first | exact Drawn0.refl _ | apply Drawn0.step)⟩
                · rw [if_neg c10] at H
                  exact absurd H (by simp)
              · rw [if_neg c9] at H
                exact absurd H (by simp)
            · rw [if_neg c8] at H
              have c8b0 : decide (x14_2 < (a0.size : Int)) = false := decide_eq_false c8
              clear c8
              by_cases c18 : (a0.size : Int) > 32
              · rw [if_pos c18] at H
                have c18b0 : decide (32 < (a0.size : Int)) = true := decide_eq_true c18
                have c18b1 : decide (32 < a0.size) = true := decide_eq_true (by omega)
                clear c18
                obtain rfl := Option.some.inj H
                go_wp2
                go_ret
                exact ⟨by first | rfl | (simp; done) | (simp [*]; done), by repeat (first | exact Drawn0.refl _ | apply Drawn0.step)⟩
              · rw [if_neg c18] at H
                have c18b0 : decide (32 < (a0.size : Int)) = false := decide_eq_false c18
                have c18b1 : decide (32 < a0.size) = false := decide_eq_false (by omega)
                clear c18
                replace H := Option.bind_eq_some_iff.mp H
                obtain ⟨t103, A190, H⟩ := H
                replace H : (if t103 = true then (some 12) else (some 0)) = some r := H
                have A19 := Aside0.mk A190
                clear A190
                by_cases c20 : t103 = true
                · subst c20
                  have H1 : (some 12) = some r := by rw [if_pos rfl] at H; exact H
                  clear H
                  have H := H1
                  clear H1
                  obtain rfl := Option.some.inj H
                  go_wp2_with (first | ((with_reducible refine gate_callee (f := 38) rfl ?_); refine goesL_ (some 41) rfl rfl Try.func38 (by kernel_rfl) rfl #[.string a0] rfl (by (try simp only [List.map_toArray, List.map_cons, List.map_nil]); first | done | rfl | (simp only [List.length_drop, List.length_take]; rfl)) ?_; (with_reducible refine (names_Reserved.calls a0 true _ A19.out).mono ?_); rintro e w' ⟨rfl, ⟨nd, rfl⟩⟩; refine ⟨_, rfl, ?_⟩))
                  go_ret
                  exact ⟨by first | rfl | (simp; done) | (simp [*]; done), by repeat (first | exact Drawn0.refl _ | apply Drawn0.step)⟩
                · replace c20 := Bool.eq_false_iff.mpr c20
                  subst c20
                  have H1 : (some 0) = some r := by rw [if_neg (show ¬ (false = true) by decide)] at H; exact H
                  clear H
                  have H := H1
                  clear H1
                  obtain rfl := Option.some.inj H
                  go_wp2_with (first | ((with_reducible refine gate_callee (f := 38) rfl ?_); refine goesL_ (some 41) rfl rfl Try.func38 (by kernel_rfl) rfl #[.string a0] rfl (by (try simp only [List.map_toArray, List.map_cons, List.map_nil]); first | done | rfl | (simp only [List.length_drop, List.length_take]; rfl)) ?_; (with_reducible refine (names_Reserved.calls a0 false _ A19.out).mono ?_); rintro e w' ⟨rfl, ⟨nd, rfl⟩⟩; refine ⟨_, rfl, ?_⟩))
                  go_ret
                  exact ⟨by first | rfl | (simp; done) | (simp [*]; done), by repeat (first | exact Drawn0.refl _ | apply Drawn0.step)⟩

def foundrylaw03_Texts.l0 : Nat → List ByteArray → List ByteArray → Int → Option (Bool)
  | 0, _, _, _ => none
  | k + 1, x0, x1, x5 => if x5 < (x0.length : Int) then (if 0 ≤ x5 then (if x5 < (x1.length : Int) then (if (rdOf ByteArray.empty x0 x5).toList = (rdOf ByteArray.empty x1 x5).toList then (foundrylaw03_Texts.l0 k x0 x1 (wrap64 (x5 + 1))) else (some false)) else (none)) else (none)) else (some true)
def foundrylaw03_Texts.f (k : Nat) (l0 : List ByteArray) (l1 : List ByteArray) : Option (Bool) := if (l0.length : Int) = (l1.length : Int) then (foundrylaw03_Texts.l0 k l0 l1 0) else (some false)
set_option maxHeartbeats 8000000 in
set_option maxRecDepth 100000 in
theorem foundrylaw03_Texts.calls (k : Nat) (A0 : Option Addr) (c0 : Nat) (l0 : List ByteArray) (A1 : Option Addr) (c1 : Nat) (l1 : List ByteArray) (r : Bool) (w : World) (hr0 : Kd.C Kd.string w A0 l0.length l0) (hc0 : l0.length ≤ c0) (hr1 : Kd.C Kd.string w A1 l1.length l1) (hc1 : l1.length ≤ c1) (h : foundrylaw03_Texts.f k l0 l1 = some r) :
    Calls Try.prog 21 #[.slice A0 l0.length c0, .slice A1 l1.length c1] w fun e w' => e = .returned (.bool r) ∧ Drawn0 w w' := by
  have HR0 := Aside0.mk hr0
  have HC0 := Aside0.mk hc0
  clear hr0 hc0
  have HR1 := Aside0.mk hr1
  have HC1 := Aside0.mk hc1
  clear hr1 hc1
  have H : (if (l0.length : Int) = (l1.length : Int) then (foundrylaw03_Texts.l0 k l0 l1 0) else (some false)) = some r := h
  clear h
  by_cases c3 : (l0.length : Int) = (l1.length : Int)
  · rw [if_pos c3] at H
    have c3b0 : ((l0.length : Int) == (l1.length : Int)) = true := beq_iff_eq.mpr c3
    have c3b1 : ((l0.length : Int) != (l1.length : Int)) = false := bne_eq_false_iff_eq.mpr c3
    have c3b2 : (l0.length == l1.length) = true := by first | simpa using c3 | (simp at c3 ⊢; omega)
    clear c3
    have H' := Aside0.mk H
    clear H
    go_enter Try.func21, Try.ntmps21
    go_wp2
    repeat (go_quiet (fail); try go_wp2)
    go_loopg [5] k (fun kq v5 w' => ∃ (x5_1 : Int), v5 = .int .i64 x5_1 ∧ Aside0 (foundrylaw03_Texts.l0 kq l0 l1 x5_1 = some r) ∧ Aside0 (kq ≤ k) ∧ Drawn0 w w')
    case atStart => exact ⟨(0), (by first | rfl | (simp; done) | (simp [*]; done)), H', ⟨Nat.le_refl _⟩, by repeat (first | exact Drawn0.refl _ | apply Drawn0.step)⟩
    case round =>
      clear H'
      try clear c1
      try clear c2
      try clear p2
      try clear c3
      try clear c3b0
      try clear c3b1
      try clear c3b2
      obtain ⟨x5_1, rfl, HA, HK1, ⟨m1, rfl⟩⟩ := hrel
      cases gk with
      | zero => exact absurd HA.out (by simp [foundrylaw03_Texts.l0])
      | succ k1 =>
        have H := HA.out
        clear HA
        simp only [foundrylaw03_Texts.l0] at H
        by_cases c4 : x5_1 < (l0.length : Int)
        · rw [if_pos c4] at H
          have c4b0 : decide (x5_1 < (l0.length : Int)) = true := decide_eq_true c4
          clear c4
          by_cases c5 : 0 ≤ x5_1
          · rw [if_pos c5] at H
            have c5b0 : decide (0 ≤ x5_1) = true := decide_eq_true c5
            clear c5
            by_cases c6 : x5_1 < (l1.length : Int)
            · rw [if_pos c6] at H
              have c6b0 : decide (x5_1 < (l1.length : Int)) = true := decide_eq_true c6
              clear c6
              by_cases c7 : (rdOf ByteArray.empty l0 x5_1).toList = (rdOf ByteArray.empty l1 x5_1).toList
              · rw [if_pos c7] at H
                have c7b0 : ((rdOf ByteArray.empty l0 x5_1).toList == (rdOf ByteArray.empty l1 x5_1).toList) = true := beq_iff_eq.mpr c7
                have c7b1 : ((rdOf ByteArray.empty l0 x5_1).toList != (rdOf ByteArray.empty l1 x5_1).toList) = false := bne_eq_false_iff_eq.mpr c7
                clear c7
                have H' := Aside0.mk H
                clear H
                have p251 : 0 ≤ (x5_1 : Int) := of_decide_eq_true (by first | (with_reducible assumption) | assumption)
                have q251 : x5_1 < (l0.length : Int) := of_decide_eq_true (by first | (with_reducible assumption) | assumption)
                obtain ⟨ad251, e251, hx251_0⟩ := Kd.at_string HR0.out x5_1 p251 q251
                cases e251
                replace p251 := eq_true p251
                replace q251 := eq_true q251
                have p252 : 0 ≤ (x5_1 : Int) := of_decide_eq_true (by first | (with_reducible assumption) | assumption)
                have q252 : x5_1 < (l1.length : Int) := of_decide_eq_true (by first | (with_reducible assumption) | assumption)
                obtain ⟨ad252, e252, hx252_0⟩ := Kd.at_string HR1.out x5_1 p252 q252
                cases e252
                replace p252 := eq_true p252
                replace q252 := eq_true q252
                go_wp2
                repeat (go_quiet (fail); try go_wp2)
                go_roundg k1
                case measure => have := HK1.out; omega
                case rel => exact ⟨(wrap64 (x5_1 + 1)), (by first | rfl | (simp; done) | (simp [*]; done)), H', ⟨by have := HK1.out; omega⟩, by repeat (first | exact Drawn0.refl _ | apply Drawn0.step)⟩
              · rw [if_neg c7] at H
                have c7b0 : ((rdOf ByteArray.empty l0 x5_1).toList == (rdOf ByteArray.empty l1 x5_1).toList) = false := beq_eq_false_iff_ne.mpr c7
                have c7b1 : ((rdOf ByteArray.empty l0 x5_1).toList != (rdOf ByteArray.empty l1 x5_1).toList) = true := bne_iff_ne.mpr c7
                obtain rfl := Option.some.inj H
                have p251 : 0 ≤ (x5_1 : Int) := of_decide_eq_true (by first | (with_reducible assumption) | assumption)
                have q251 : x5_1 < (l0.length : Int) := of_decide_eq_true (by first | (with_reducible assumption) | assumption)
                obtain ⟨ad251, e251, hx251_0⟩ := Kd.at_string HR0.out x5_1 p251 q251
                cases e251
                replace p251 := eq_true p251
                replace q251 := eq_true q251
                have p252 : 0 ≤ (x5_1 : Int) := of_decide_eq_true (by first | (with_reducible assumption) | assumption)
                have q252 : x5_1 < (l1.length : Int) := of_decide_eq_true (by first | (with_reducible assumption) | assumption)
                obtain ⟨ad252, e252, hx252_0⟩ := Kd.at_string HR1.out x5_1 p252 q252
                cases e252
                replace p252 := eq_true p252
                replace q252 := eq_true q252
                go_wp2
                repeat (go_quiet (fail); try go_wp2)
                go_ret
                exact ⟨by first | rfl | (simp; done) | (simp [*]; done), by repeat (first | exact Drawn0.refl _ | apply Drawn0.step)⟩
            · rw [if_neg c6] at H
              exact absurd H (by simp)
          · rw [if_neg c5] at H
            exact absurd H (by simp)
        · rw [if_neg c4] at H
          have c4b0 : decide (x5_1 < (l0.length : Int)) = false := decide_eq_false c4
          clear c4
          obtain rfl := Option.some.inj H
          go_wp2
          repeat (go_quiet (fail); try go_wp2)
          go_ret
          exact ⟨by first | rfl | (simp; done) | (simp [*]; done), by repeat (first | exact Drawn0.refl _ | apply Drawn0.step)⟩
  · rw [if_neg c3] at H
    have c3b0 : ((l0.length : Int) == (l1.length : Int)) = false := beq_eq_false_iff_ne.mpr c3
    have c3b1 : ((l0.length : Int) != (l1.length : Int)) = true := bne_iff_ne.mpr c3
    have c3b2 : (l0.length == l1.length) = false := by first | simpa using c3 | (simp at c3 ⊢; omega)
    obtain rfl := Option.some.inj H
    go_enter Try.func21, Try.ntmps21
    go_wp2
    repeat (go_quiet (fail); try go_wp2)
    go_ret
    exact ⟨by first | rfl | (simp; done) | (simp [*]; done), by repeat (first | exact Drawn0.refl _ | apply Drawn0.step)⟩

def foundrylaw11_own.l0 : Nat → List (S45) → List (S47) → Int → Option ((List (S47)))
  | 0, _, _, _ => none
  | k + 1, x0, x3, x4 => if x4 < (x0.length : Int) then (if 0 ≤ x4 then ((some (([] : List ByteArray) : List ByteArray)).bind fun y239 => (if y239.length + ((rd_T45 x0 x4).f1).length < 8796093022208 then (if x3.length < 3518437208883 then (foundrylaw11_own.l0 k x0 (x3 ++ [(⟨(rd_T45 x0 x4).f0, (y239 ++ ((rd_T45 x0 x4).f1))⟩ : S47)]) (wrap64 (x4 + 1))) else (none)) else (none))) else (none)) else (some x3)
def foundrylaw11_own.f (k : Nat) (l0 : List (S45)) : Option ((List (S47))) := foundrylaw11_own.l0 k l0 ([] : List (S47)) 0
def foundrylaw11_own.T5 : Bool × List (List Nat × List Nat) := (true, [([], []), ([], []), ([], []), ([1, 2], [1, 2]), ([3], [3]), ([4], [4]), ([], []), ([], []), ([], []), ([7, 8], [7, 8]), ([9], [9]), ([10], [10]), ([6, 11], [6, 11]), ([5, 12], [5, 12]), ([13], [13]), ([0, 14, 12], [0, 14]), ([15, 15, 0, 1, 2, 3, 4, 5, 6, 7, 8, 9, 10, 11, 12, 13, 14, 15], [0, 15])])
def foundrylaw11_own.B5 : List Nat := [0, 0, 0, 6, 14, 30, 0, 0, 0, 384, 896, 1920, 4032, 8190, 16382, 32767, 65535]
theorem foundrylaw11_own.tab5 : rtab .any (opsOf Try.f9 5) = foundrylaw11_own.T5 := by kernel_rfl
theorem foundrylaw11_own.bits5 : waitsOk foundrylaw11_own.T5.2 foundrylaw11_own.B5 = true := by kernel_rfl
set_option maxHeartbeats 8000000 in
set_option maxRecDepth 100000 in
theorem foundrylaw11_own.calls (k : Nat) (A0 : Option Addr) (c0 : Nat) (l0 : List (S45)) (r : List (S47)) (w : World) (hr0 : Kd.C k45 w A0 l0.length l0) (hc0 : l0.length ≤ c0) (h : foundrylaw11_own.f k l0 = some r) :
    Calls Try.prog 9 #[.slice A0 l0.length c0] w fun e w' => ∃ v0_ : Value, e = .returned (v0_) ∧ Kd.S k47 47 w' w.heap.size (fun _ => True) v0_ r ∧ Below w.heap.size w w' := by
  have hu47 := Try.underlying47
  have HR0 := Aside0.mk hr0
  have HC0 := Aside0.mk hc0
  clear hr0 hc0
  have HB := Aside0.mk (Below.refl w.heap.size w)
  have H : (foundrylaw11_own.l0 k l0 ([] : List (S47)) 0) = some r := h
  clear h
  have H' := Aside0.mk H
  clear H
  go_enter Try.func9, Try.ntmps9
  go_wp2
  go_loopg [3, 4] k (fun kq v3 v4 w' => ∃ (x3_1 : List (S47)) (x4_1 : Int), v4 = .int .i64 x4_1 ∧ Aside0 (foundrylaw11_own.l0 kq l0 x3_1 x4_1 = some r) ∧ Aside0 (kq ≤ k) ∧ Aside0 (Kd.S k47 47 w' w.heap.size (fun _ => True) v3 x3_1) ∧ Aside0 (Below w.heap.size w w'))
  case atStart => exact ⟨(([] : List (S47))), (0), (by first | rfl | (simp; done) | (simp [*]; done)), H', ⟨Nat.le_refl _⟩, ⟨by first | exact Kd.S_nil _ _ _ _ _ | exact Kd.N_nil _ _ _ _ _ | exact Kd.V_nil _ _ _ _ _ | exact Kd.Q_nil _ _ _ _ _ | exact Kd.R_nil _ _ _ _ _⟩, ⟨by repeat (first | (with_reducible first | exact HB.out | apply below_alloc | apply pw_below_drewN | apply below_drew1) | exact HB.out)⟩⟩
  case round =>
    clear H'
    obtain ⟨x3_1, x4_1, rfl, HA, HK1, HO_3, HB⟩ := hrel
    cases gk with
    | zero => exact absurd HA.out (by simp [foundrylaw11_own.l0])
    | succ k1 =>
      have H := HA.out
      clear HA
      simp only [foundrylaw11_own.l0] at H
      by_cases c2 : x4_1 < (l0.length : Int)
      · rw [if_pos c2] at H
        have c2b0 : decide (x4_1 < (l0.length : Int)) = true := decide_eq_true c2
        clear c2
        by_cases c3 : 0 ≤ x4_1
        · rw [if_pos c3] at H
          have c3b0 : decide (0 ≤ x4_1) = true := decide_eq_true c3
          clear c3
          obtain ⟨y239, hy239⟩ : ∃ y_ : List ByteArray, y_ = (([] : List ByteArray)) := ⟨_, rfl⟩
          replace H : (if y239.length + ((rd_T45 l0 x4_1).f1).length < 8796093022208 then (if x3_1.length < 3518437208883 then (foundrylaw11_own.l0 k1 l0 (x3_1 ++ [(⟨(rd_T45 l0 x4_1).f0, (y239 ++ ((rd_T45 l0 x4_1).f1))⟩ : S47)]) (wrap64 (x4_1 + 1))) else (none)) else (none)) = some r := by first | (rw [hy239]; with_reducible exact H) | (have H2_ := (Option.bind_some _ _).symm.trans H; rw [hy239]; with_reducible exact H2_) | (have H2_ := (Option.bind_some _ _).symm.trans H; with_reducible exact H2_) | with_reducible exact H | (rw [hy239]; exact H) | exact H
          have Ny239 := Aside0.mk hy239
          clear hy239
          by_cases c4 : y239.length + ((rd_T45 l0 x4_1).f1).length < 8796093022208
          · rw [if_pos c4] at H
            have LMc4 := Aside0.mk c4
            clear c4
            obtain ⟨y243, hy243⟩ : ∃ y_ : List ByteArray, y_ = (y239 ++ ((rd_T45 l0 x4_1).f1)) := ⟨_, rfl⟩
            replace H : (if x3_1.length < 3518437208883 then (foundrylaw11_own.l0 k1 l0 (x3_1 ++ [(⟨(rd_T45 l0 x4_1).f0, y243⟩ : S47)]) (wrap64 (x4_1 + 1))) else (none)) = some r := by first | (rw [hy243]; with_reducible exact H) | (have H2_ := (Option.bind_some _ _).symm.trans H; rw [hy243]; with_reducible exact H2_) | (have H2_ := (Option.bind_some _ _).symm.trans H; with_reducible exact H2_) | with_reducible exact H | (rw [hy243]; exact H) | exact H
            have Ny243 := Aside0.mk hy243
            clear hy243
            by_cases c5 : x3_1.length < 3518437208883
            · rw [if_pos c5] at H
              have LMc5 := Aside0.mk c5
              clear c5
              obtain ⟨y246, hy246⟩ : ∃ y_ : List (S47), y_ = (x3_1 ++ [(⟨(rd_T45 l0 x4_1).f0, y243⟩ : S47)]) := ⟨_, rfl⟩
              replace H : (foundrylaw11_own.l0 k1 l0 y246 (wrap64 (x4_1 + 1))) = some r := by first | (rw [hy246]; with_reducible exact H) | (have H2_ := (Option.bind_some _ _).symm.trans H; rw [hy246]; with_reducible exact H2_) | (have H2_ := (Option.bind_some _ _).symm.trans H; with_reducible exact H2_) | with_reducible exact H | (rw [hy246]; exact H) | exact H
              have Ny246 := Aside0.mk hy246
              clear hy246
              have H' := Aside0.mk H
              clear H
              try go_wp2
              have n0_ := Aside0.mk (Kd.S_drew HO_3.out)
              have n1_ := Aside0.mk (below_drew1 HB.out)
              clear HO_3
              clear HB
              have HO_3 := n0_
              have HB := n1_
              clear n0_ n1_
              have p238 : 0 ≤ (x4_1 : Int) := of_decide_eq_true (by first | (with_reducible assumption) | assumption)
              have q238 : x4_1 < (l0.length : Int) := of_decide_eq_true (by first | (with_reducible assumption) | assumption)
              obtain ⟨ad238, A238_1, c238_1, e238, hx238_0, hx238_1, hl238_1, hi238_1⟩ := at_T45 HR0.out x4_1 p238 q238
              have hw238_1 := hx238_1
              have hw238_0 := hx238_0
              cases e238
              replace hx238_0 := (HB.out.cell (World.block_lt_of_cell? w _ hx238_0)).trans hx238_0
              replace hx238_1 := (HB.out.cell (World.block_lt_of_cell? w _ hx238_1)).trans hx238_1
              have HR238_1 := Aside0.mk hi238_1
              have HC238_1 := Aside0.mk hl238_1
              clear hi238_1 hl238_1
              replace p238 := eq_true p238
              replace q238 := eq_true q238
              have p242 : 0 ≤ (x4_1 : Int) := of_decide_eq_true (by first | (with_reducible assumption) | assumption)
              have q242 : x4_1 < (l0.length : Int) := of_decide_eq_true (by first | (with_reducible assumption) | assumption)
              obtain ⟨ad242, A242_1, c242_1, e242, hx242_0, hx242_1, hl242_1, hi242_1⟩ := at_T45 HR0.out x4_1 p242 q242
              have hw242_1 := hx242_1
              have hw242_0 := hx242_0
              obtain rfl : ad238 = ad242 := (by injection e242)
              replace hx242_0 := (HB.out.cell (World.block_lt_of_cell? w _ hx242_0)).trans hx242_0
              replace hx242_1 := (HB.out.cell (World.block_lt_of_cell? w _ hx242_1)).trans hx242_1
              have HR242_1 := Aside0.mk hi242_1
              have HC242_1 := Aside0.mk hl242_1
              clear hi242_1 hl242_1
              replace p242 := eq_true p242
              replace q242 := eq_true q242
              have ea_ := Option.some.inj (hx238_1.symm.trans hx242_1)
              injection ea_ with ea_ en_ ec_
              subst ea_
              subst ec_
              clear en_
              refine start_ (n := 17) (S := fun w' => w'.cell? (ad238.add ((x4_1).toNat * 2)) = some (.string ((rd_T45 l0 x4_1).f0)) ∧ w'.cell? ⟨(ad238.add ((x4_1).toNat * 2)).block, (ad238.add ((x4_1).toNat * 2)).off + 1, none⟩ = some (.slice A238_1 ((rd_T45 l0 x4_1).f1).length c238_1) ∧ w'.cell? (ad238.add ((x4_1).toNat * 2)) = some (.string ((rd_T45 l0 x4_1).f0)) ∧ w'.cell? ⟨(ad238.add ((x4_1).toNat * 2)).block, (ad238.add ((x4_1).toNat * 2)).off + 1, none⟩ = some (.slice A238_1 ((rd_T45 l0 x4_1).f1).length c238_1)) (ds := []) #[false, false, false, false, false, false, false, false, false, false, false, false, false, false, false, false, false] (by kernel_rfl) rfl rfl ⟨((HB.out.cell (World.block_lt_of_cell? w _ hw238_0)).trans hw238_0), ((HB.out.cell (World.block_lt_of_cell? w _ hw238_1)).trans hw238_1), ((HB.out.cell (World.block_lt_of_cell? w _ hw242_0)).trans hw242_0), ((HB.out.cell (World.block_lt_of_cell? w _ hw242_1)).trans hw242_1)⟩ (fun hHeld => ?_); refine with_tabW foundrylaw11_own.tab5 foundrylaw11_own.bits5 (fun HT_ HW_ => ?_)
              generalize wr.drew = w6 at HO_3 HB HR238_1 HR242_1 hx238_0 hx238_1 hx242_0 hx242_1 hHeld ⊢
              refine pure_ (i := 0) (N := some 11) (v := ?_) (a' := ?_) #[true, false, false, false, false, false, false, false, false, false, false, false, false, false, false, false, false] rfl rfl (any_of HT_.out (by kernel_rfl)) (fun _ _ _ h => h) (Or.inl ⟨by rfl, ?_⟩) ?_ ?_
              rotate_left
              · intro w'
                go_simp
                with_reducible rfl
              rotate_left
              · simp only [Act.put, List.setIfInBounds_toArray, List.set_cons_zero, List.set_cons_succ, i64_w, i32_w]
                rfl
              refine pure_ (i := 1) (N := some 12) (v := ?_) (a' := ?_) #[true, true, false, false, false, false, false, false, false, false, false, false, false, false, false, false, false] rfl rfl (any_of HT_.out (by kernel_rfl)) (fun _ _ _ h => h) (Or.inl ⟨by rfl, ?_⟩) ?_ ?_
              rotate_left
              · intro w'
                go_simp
                with_reducible rfl
              rotate_left
              · simp only [Act.put, List.setIfInBounds_toArray, List.set_cons_zero, List.set_cons_succ, i64_w, i32_w]
                rfl
              refine pure_ (i := 2) (N := some 13) (v := ?_) (a' := ?_) #[true, true, true, false, false, false, false, false, false, false, false, false, false, false, false, false, false] rfl rfl (any_of HT_.out (by kernel_rfl)) (fun _ _ _ h => h) (Or.inl ⟨by rfl, ?_⟩) ?_ ?_
              rotate_left
              · intro w'
                go_simp
                with_reducible rfl
              rotate_left
              · simp only [Act.put, List.setIfInBounds_toArray, List.set_cons_zero, List.set_cons_succ, i64_w, i32_w]
                rfl
              refine pure_ (i := 3) (N := some 14) (v := ?_) (a' := ?_) #[true, true, true, true, false, false, false, false, false, false, false, false, false, false, false, false, false] rfl rfl (any_of HT_.out (by kernel_rfl)) (fun _ _ _ h => h) (Or.inl ⟨by rfl, ?_⟩) ?_ ?_
              rotate_left
              · intro w'
                go_simp
                with_reducible rfl
              rotate_left
              · simp only [Act.put, List.setIfInBounds_toArray, List.set_cons_zero, List.set_cons_succ, i64_w, i32_w]
                rfl
              refine pure_ (i := 4) (N := some 15) (v := ?_) (a' := ?_) #[true, true, true, true, true, false, false, false, false, false, false, false, false, false, false, false, false] rfl rfl (any_of HT_.out (by kernel_rfl)) (fun _ _ _ h => h) (Or.inl ⟨by rfl, ?_⟩) ?_ ?_
              rotate_left
              · intro w'
                go_simp
                with_reducible rfl
              rotate_left
              · simp only [Act.put, List.setIfInBounds_toArray, List.set_cons_zero, List.set_cons_succ, i64_w, i32_w]
                rfl
              refine pure_ (i := 7) (N := some 18) (v := ?_) (a' := ?_) #[true, true, true, true, true, false, false, true, false, false, false, false, false, false, false, false, false] rfl rfl (any_of HT_.out (by kernel_rfl)) (fun _ _ _ h => h) (Or.inl ⟨by rfl, ?_⟩) ?_ ?_
              rotate_left
              · intro w'
                go_simp
                with_reducible rfl
              rotate_left
              · simp only [Act.put, List.setIfInBounds_toArray, List.set_cons_zero, List.set_cons_succ, i64_w, i32_w]
                rfl
              refine pure_ (i := 8) (N := some 19) (v := ?_) (a' := ?_) #[true, true, true, true, true, false, false, true, true, false, false, false, false, false, false, false, false] rfl rfl (any_of HT_.out (by kernel_rfl)) (fun _ _ _ h => h) (Or.inl ⟨by rfl, ?_⟩) ?_ ?_
              rotate_left
              · intro w'
                go_simp
                with_reducible rfl
              rotate_left
              · simp only [Act.put, List.setIfInBounds_toArray, List.set_cons_zero, List.set_cons_succ, i64_w, i32_w]
                rfl
              refine pure_ (i := 9) (N := some 20) (v := ?_) (a' := ?_) #[true, true, true, true, true, false, false, true, true, true, false, false, false, false, false, false, false] rfl rfl (any_of HT_.out (by kernel_rfl)) (fun _ _ _ h => h) (Or.inl ⟨by rfl, ?_⟩) ?_ ?_
              rotate_left
              · intro w'
                go_simp
                with_reducible rfl
              rotate_left
              · simp only [Act.put, List.setIfInBounds_toArray, List.set_cons_zero, List.set_cons_succ, i64_w, i32_w]
                rfl
              refine pure_ (i := 10) (N := some 21) (v := ?_) (a' := ?_) #[true, true, true, true, true, false, false, true, true, true, true, false, false, false, false, false, false] rfl rfl (any_of HT_.out (by kernel_rfl)) (fun _ _ _ h => h) (Or.inl ⟨by rfl, ?_⟩) ?_ ?_
              rotate_left
              · intro w'
                go_simp
                with_reducible rfl
              rotate_left
              · simp only [Act.put, List.setIfInBounds_toArray, List.set_cons_zero, List.set_cons_succ, i64_w, i32_w]
                rfl
              refine take_ (i := 5) (N := some 16) (v := ?_) (a' := ?_) #[true, true, true, true, true, true, false, true, true, true, true, false, false, false, false, false, false] rfl rfl (take_ofW HT_.out HW_.out (by kernel_rfl)) (fun _ _ _ h => h) (Or.inl ⟨by rfl, ?_⟩) hHeld ?_ ?_
              rotate_left
              · rintro w' ⟨s0, s1, s2, s3⟩
                go_simp
                with_reducible rfl
              rotate_left
              · simp only [Act.put, List.setIfInBounds_toArray, List.set_cons_zero, List.set_cons_succ, i64_w, i32_w]
                rfl
              refine take_ (i := 11) (N := some 22) (v := ?_) (a' := ?_) #[true, true, true, true, true, true, false, true, true, true, true, true, false, false, false, false, false] rfl rfl (take_ofW HT_.out HW_.out (by kernel_rfl)) (fun _ _ _ h => h) (Or.inl ⟨by rfl, ?_⟩) hHeld ?_ ?_
              rotate_left
              · rintro w' ⟨s0, s1, s2, s3⟩
                go_simp
                with_reducible rfl
              rotate_left
              · simp only [Act.put, List.setIfInBounds_toArray, List.set_cons_zero, List.set_cons_succ, i64_w, i32_w]
                rfl
              refine one_ (i := 6) (N := some 17) #[true, true, true, true, true, true, true, true, true, true, true, true, false, false, false, false, false] rfl rfl (one_of HT_.out (by kernel_rfl)) (by decide) (fun K hK => ?_)
              refine Kd.R_lit_step Kd.string _ 9 ?hg (N := 17) ?hd (xs := ([] : List ByteArray)) (inner := []) (ok := fun _ => True) (okp := fun _ => True) ?hr ?hp (fun _ hk => hk) trivial (Below.refl _ _) (Nat.le_refl _) (by simp) ?_; (case hd => rfl); (case hg => rfl); (case hr => first | (go_simp; done) | (go_simp; rfl)); (case hp => exact (Reps.none _ _))
              intro v240 w7 ho8 hb hg_ hnew_
              clear hg_ hnew_
              (first | rw [← Ny239.out] at ho8 | (simp only [Int.reduceToNat] at ho8; rw [← Ny239.out] at ho8))
              have n0_ := Aside0.mk (Kd.S_elder' (by (with_reducible repeat (first | apply Kd.S_alloc | apply Kd.S_drewN | apply Kd.S_drew)); exact HO_3.out) (Kd.R_base ho8) hb)
              have n1_ := Aside0.mk (Kd.R_lower ho8 (below_size (by repeat (first | (with_reducible first | exact HB.out | apply below_alloc | apply pw_below_drewN | apply below_drew1) | exact HB.out))))
              have n2_ := Aside0.mk (below_step (by repeat (first | (with_reducible first | exact HB.out | apply below_alloc | apply pw_below_drewN | apply below_drew1) | exact HB.out)) hb)
              clear HO_3
              clear HB
              have HO_3 := n0_
              have HO241 := n1_
              have HB := n2_
              clear n0_ n1_ n2_
              clear hb ho8
              refine hK.out _ _ ⟨((HB.out.cell (World.block_lt_of_cell? w _ hw238_0)).trans hw238_0), ((HB.out.cell (World.block_lt_of_cell? w _ hw238_1)).trans hw238_1), ((HB.out.cell (World.block_lt_of_cell? w _ hw242_0)).trans hw242_0), ((HB.out.cell (World.block_lt_of_cell? w _ hw242_1)).trans hw242_1)⟩ (fun hHeld => ?_)
              clear hK K
              refine norm_ (a' := ?_) ?_ ?_
              rotate_left
              · show Act.put _ (some 17) _ = _
                simp only [Act.put, List.setIfInBounds_toArray, List.set_cons_zero, List.set_cons_succ, i64_w, i32_w]
                rfl
              refine one_ (i := 12) (N := some 23) #[true, true, true, true, true, true, true, true, true, true, true, true, true, false, false, false, false] rfl rfl (one_of HT_.out (by kernel_rfl)) (by decide) (fun K hK => ?_)
              refine Kd.R_append_rows_step Kd.string (w0 := w) w.heap.size (by rfl) (.tmp 17) (.tmp 22) 30 9 (.string ⟨#[]⟩) 16 rfl Try.underlying30 info9 rfl (by decide) (by omega) v240 y239 ((rd_T45 l0 x4_1).f1) _ _ _ (fun _ => True) (fun _ => False) rfl rfl ?aO ?aR (fun _ _ h => h) (fun _ h => h.elim) ?aF ?aB ?aS ?aL ?_
              (case aR => repeat (first | exact (Kd.C_below HR242_1.out HB.out) | (with_reducible refine Kd.C_alloc ?_ _) | (with_reducible refine Kd.C_drewN ?_ _) | (with_reducible refine Kd.C_drew ?_)))
              (case aB => exact (by repeat (first | (with_reducible first | exact HB.out | apply below_alloc | apply pw_below_drewN | apply below_drew1) | exact HB.out)))
              (case aF => exact (fun _ _ => trivial))
              (case aO => exact (by (with_reducible repeat (first | apply Kd.R_alloc | apply Kd.R_drewN | apply Kd.R_drew)); exact HO241.out))
              (case aS => exact (below_size (by repeat (first | (with_reducible first | exact HB.out | apply below_alloc | apply pw_below_drewN | apply below_drew1) | exact HB.out))))
              (case aL => have := LMc4.out; omega)
              intro v244 w9 ho hb hg hat
              rw [← Ny243.out] at ho
              have n0_ := Aside0.mk (Kd.S_after (ok := (fun _ => True)) (by (with_reducible repeat (first | apply Kd.S_alloc | apply Kd.S_drewN | apply Kd.S_drew)); exact HO_3.out) hg hat)
              have n1_ := Aside0.mk (hb)
              have n2_ := Aside0.mk (ho)
              clear HO_3
              clear HB
              clear HO241
              have HO_3 := n0_
              have HB := n1_
              have HO245 := n2_
              clear n0_ n1_ n2_
              clear ho hb hg hat
              obtain ⟨Ao10, co10, eo10⟩ := Kd.R_slice HO245.out
              (first | subst eo10 | (injection eo10 with f1_ f2_ f3_; have f4_ := f1_.symm; have f5_ := f3_.symm; clear f1_ f2_ f3_; subst f4_; subst f5_))
              refine hK.out _ _ ⟨((HB.out.cell (World.block_lt_of_cell? w _ hw238_0)).trans hw238_0), ((HB.out.cell (World.block_lt_of_cell? w _ hw238_1)).trans hw238_1), ((HB.out.cell (World.block_lt_of_cell? w _ hw242_0)).trans hw242_0), ((HB.out.cell (World.block_lt_of_cell? w _ hw242_1)).trans hw242_1)⟩ (fun hHeld => ?_)
              clear hK K
              refine norm_ (a' := ?_) ?_ ?_
              rotate_left
              · show Act.put _ (some 23) _ = _
                simp only [Act.put, List.setIfInBounds_toArray, List.set_cons_zero, List.set_cons_succ, i64_w, i32_w]
                rfl
              refine pure_ (i := 13) (N := some 24) (v := ?_) (a' := ?_) #[true, true, true, true, true, true, true, true, true, true, true, true, true, true, false, false, false] rfl rfl (any_of HT_.out (by kernel_rfl)) (fun _ _ _ h => h) (Or.inl ⟨by rfl, ?_⟩) ?_ ?_
              rotate_left
              · intro w'
                go_simp
                with_reducible rfl
              rotate_left
              · simp only [Act.put, List.setIfInBounds_toArray, List.set_cons_zero, List.set_cons_succ, i64_w, i32_w]
                rfl
              refine one_ (i := 14) (N := some 25) #[true, true, true, true, true, true, true, true, true, true, true, true, true, true, true, false, false] rfl rfl (one_of HT_.out (by kernel_rfl)) (by decide) (fun K hK => ?_)
              refine value_ (w1 := ?_) (v := ?_) (by rfl) rfl ?_ ?_
              rotate_left 2
              · go_simp
                constructor
                · rfl
                · rfl
              refine hK.out _ _ ⟨(World.cell?_alloc_lt _ _ _ (World.block_lt_of_cell? _ _ (((HB.out.cell (World.block_lt_of_cell? w _ hw238_0)).trans hw238_0)))).trans (((HB.out.cell (World.block_lt_of_cell? w _ hw238_0)).trans hw238_0)), (World.cell?_alloc_lt _ _ _ (World.block_lt_of_cell? _ _ (((HB.out.cell (World.block_lt_of_cell? w _ hw238_1)).trans hw238_1)))).trans (((HB.out.cell (World.block_lt_of_cell? w _ hw238_1)).trans hw238_1)), (World.cell?_alloc_lt _ _ _ (World.block_lt_of_cell? _ _ (((HB.out.cell (World.block_lt_of_cell? w _ hw242_0)).trans hw242_0)))).trans (((HB.out.cell (World.block_lt_of_cell? w _ hw242_0)).trans hw242_0)), (World.cell?_alloc_lt _ _ _ (World.block_lt_of_cell? _ _ (((HB.out.cell (World.block_lt_of_cell? w _ hw242_1)).trans hw242_1)))).trans (((HB.out.cell (World.block_lt_of_cell? w _ hw242_1)).trans hw242_1))⟩ (fun hHeld => ?_)
              clear hK K
              refine norm_ (a' := ?_) ?_ ?_
              rotate_left
              · show Act.put _ (some 25) _ = _
                simp only [Act.put, List.setIfInBounds_toArray, List.set_cons_zero, List.set_cons_succ, i64_w, i32_w]
                rfl
              refine one_ (i := 15) (N := some 26) #[true, true, true, true, true, true, true, true, true, true, true, true, true, true, true, true, false] rfl rfl (one_of HT_.out (by kernel_rfl)) (by decide) (fun K hK => ?_)
              refine Kd.S_append_step k47 (w0 := w) w.heap.size (by rfl) (.tmp 11) (.tmp 25) 27 47 (.agg #[(.string ⟨#[]⟩), (.slice none 0 0)]) 40 rfl Try.underlying27 info47 rfl (by decide) (by omega) u3 x3_1 (⟨(rd_T45 l0 x4_1).f0, y243⟩ : S47) [.string ((rd_T45 l0 x4_1).f0), .slice Ao10 y243.length co10] (fun _ => True) (fun k_ => some k_ = (.slice Ao10 y243.length co10 : Value).ownBlock) rfl rfl ?aP (fun k_ hk_ => ((Kd.R_mono (ok' := fun k_ => ((fun _ => True)) k_ ∧ some k_ ≠ (u3 : Value).ownBlock) (Kd.R_apart' (HO245.out) (Kd.S_typed HO_3.out) (by decide)) (fun k_ hk => ⟨trivial, hk.2⟩))).1 k_ hk_.symm) ?aF ?aO ?aB ?aS ?aL ?_
              (case aP => exact k47_mkM _ _ _ (⟨(rd_T45 l0 x4_1).f0, y243⟩ : S47) (Kd.R_mono (Kd.R_tight rfl (Kd.R_mono (ok' := fun k_ => ((fun _ => True)) k_ ∧ some k_ ≠ (u3 : Value).ownBlock) (Kd.R_apart' (HO245.out) (Kd.S_typed HO_3.out) (by decide)) (fun k_ hk => ⟨trivial, hk.2⟩))) (fun _ h_ => h_)))
              (case aB => exact (by repeat (first | (with_reducible first | exact HB.out | apply below_alloc | apply pw_below_drewN | apply below_drew1) | exact HB.out)))
              (case aF => exact (fun _ _ => trivial))
              (case aO => exact (by (with_reducible repeat (first | apply Kd.S_alloc | apply Kd.S_drewN | apply Kd.S_drew)); exact Kd.S_mono HO_3.out (fun k_ hk => ⟨trivial, fun e_ => hk.2 e_⟩)))
              (case aS => exact (below_size (by repeat (first | (with_reducible first | exact HB.out | apply below_alloc | apply pw_below_drewN | apply below_drew1) | exact HB.out))))
              (case aL => have := LMc5.out; omega)
              intro v247 w11 ho hb hg hat
              rw [← Ny246.out] at ho
              have n0_ := Aside0.mk (hb)
              have n1_ := Aside0.mk (ho)
              clear HB
              clear HO_3
              clear HO245
              have HB := n0_
              have HO248 := n1_
              clear n0_ n1_
              clear ho hb hg hat
              refine hK.out _ _ ⟨((HB.out.cell (World.block_lt_of_cell? w _ hw238_0)).trans hw238_0), ((HB.out.cell (World.block_lt_of_cell? w _ hw238_1)).trans hw238_1), ((HB.out.cell (World.block_lt_of_cell? w _ hw242_0)).trans hw242_0), ((HB.out.cell (World.block_lt_of_cell? w _ hw242_1)).trans hw242_1)⟩ (fun hHeld => ?_)
              clear hK K
              refine norm_ (a' := ?_) ?_ ?_
              rotate_left
              · show Act.put _ (some 26) _ = _
                simp only [Act.put, List.setIfInBounds_toArray, List.set_cons_zero, List.set_cons_succ, i64_w, i32_w]
                rfl
              refine pure_ (i := 16) (N := some 3) (v := ?_) (a' := ?_) #[true, true, true, true, true, true, true, true, true, true, true, true, true, true, true, true, true] rfl rfl (any_of HT_.out (by kernel_rfl)) (fun _ _ _ h => h) (Or.inl ⟨by rfl, ?_⟩) ?_ ?_
              rotate_left
              · intro w'
                go_simp
                with_reducible rfl
              rotate_left
              · simp only [Act.put, List.setIfInBounds_toArray, List.set_cons_zero, List.set_cons_succ, i64_w, i32_w]
                rfl
              refine done_ (done_of HT_.out (by kernel_rfl)) ?_
              try go_wp2
              go_roundg k1
              case measure => have := HK1.out; omega
              case rel => exact ⟨(y246), (wrap64 (x4_1 + 1)), (by first | rfl | (simp; done) | (simp [*]; done)), H', ⟨by have := HK1.out; omega⟩, ⟨by (with_reducible repeat (first | apply Kd.S_alloc | apply Kd.S_drewN | apply Kd.S_drew)); exact HO248.out⟩, ⟨by repeat (first | (with_reducible first | exact HB.out | apply below_alloc | apply pw_below_drewN | apply below_drew1) | exact HB.out)⟩⟩
            · rw [if_neg c5] at H
              exact absurd H (by simp)
          · rw [if_neg c4] at H
            exact absurd H (by simp)
        · rw [if_neg c3] at H
          exact absurd H (by simp)
      · rw [if_neg c2] at H
        have c2b0 : decide (x4_1 < (l0.length : Int)) = false := decide_eq_false c2
        clear c2
        obtain rfl := Option.some.inj H
        go_wp2
        go_ret
        exact ⟨_, by first | rfl | (simp [errW_none, errW_some] <;> rfl) | (simp [*, errW_none, errW_some] <;> rfl), by (with_reducible repeat (first | apply Kd.S_alloc | apply Kd.S_drewN | apply Kd.S_drew)); exact HO_3.out, by repeat (first | (with_reducible first | exact HB.out | apply below_alloc | apply pw_below_drewN | apply below_drew1) | exact HB.out)⟩

end Go.Proofs.Ytcjdpccbkfnnlaa.KCarveGA

set_option linter.unusedVariables false
set_option linter.unusedSimpArgs false
namespace Go.Proofs.Ytcjdpccbkfnnlaa
open Go.RowKit Go.Proofs.YtcjdpccbkfnnlaaW.PrintWords Go.Proofs.Ytcjdpccbkfnnlaa.KCarveGA
open Classical

theorem wr_ok {i : Int} {n : Nat} (h0 : 0 ≤ i) (h : i < (n : Int)) (hn : n ≤ 9223372036854775807) : wrap64 (i + 1) = i + 1 := by
  unfold wrap64
  omega
def letB (c : Int) : Bool := decide ((97 ≤ c ∧ c ≤ 122) ∨ (65 ≤ c ∧ c ≤ 90) ∨ c = 95)
def digB (c : Int) : Bool := decide (48 ≤ c ∧ c ≤ 57)
def wordB (c : Int) : Bool := letB c || digB c
theorem letter_f (c : Int) : names_letter.f c = some (letB c) := by
  unfold names_letter.f letB
  by_cases h1 : c ≥ 97 <;> by_cases h2 : c ≤ 122 <;> by_cases h3 : c ≥ 65 <;> by_cases h4 : c ≤ 90 <;> by_cases h5 : c = 95 <;> simp [h1, h2, h3, h4, h5] <;> omega
/-- The reserved words. -/
def words : List BL := [[98, 111, 111, 108], [99, 97, 116, 99, 104], [99, 111, 110, 115, 116], [101, 108, 115, 101], [101, 120, 112, 111, 114, 116], [102, 97, 105, 108], [102, 97, 108, 115, 101], [102, 108, 111, 97, 116], [102, 110], [105, 102], [105, 109, 112, 111, 114, 116], [105, 110, 102], [105, 110, 112, 117, 116], [105, 110, 116], [108, 101, 116], [109, 111, 100, 117, 108, 101], [110, 97, 110], [114, 101, 116, 117, 114, 110], [115, 104, 111, 119], [116, 114, 117, 101], [116, 114, 121], [118, 97, 114], [119, 104, 105, 108, 101]]
def resB (s : ByteArray) : Bool := decide (bl s ∈ words)
theorem toL (s : ByteArray) : s.toList = bl s := Lib.toList_data s
theorem reserved_f (s : ByteArray) : names_Reserved.f s = some (resB s) := by
  unfold names_Reserved.f resB
  rw [toL]
  generalize bl s = l
  have e : ∀ (x : BL) (ws : List BL), (if l = x then some true else some (decide (l ∈ ws))) = some (decide (l ∈ x :: ws)) := by
    intro x ws
    by_cases h : l = x
    · rw [if_pos h]; simp [h]
    · rw [if_neg h]; simp [h]
  have e0 : (some false : Option Bool) = some (decide (l ∈ ([] : List BL))) := by simp
  rw [e0]
  unfold words
  simp only [e]
/-- May this text be a name? -/
noncomputable def rightE (s : ByteArray) : Int :=
  if s.size = 0 ∨ letB (bt s 0) = false then 12 else if ∃ j : Nat, j < s.size ∧ wordB (bt s j) = false then 12 else if 32 < s.size then 3 else if resB s = true then 12 else 0
theorem right_l (s : ByteArray) (hn : s.size ≤ 9223372036854775807) : ∀ (d i k : Nat), s.size - i = d → i ≤ s.size → d < k → (∀ j, j < i → wordB (bt s j) = true) →
    names_Right.l0 k s s.size i = some (if ∃ j : Nat, j < s.size ∧ wordB (bt s j) = false then 12 else if 32 < s.size then 3 else if resB s = true then 12 else 0) := by
  intro d
  induction d with
  | zero =>
    intro i k hd hi hk hw
    obtain ⟨k, rfl⟩ : ∃ m, k = m + 1 := ⟨k - 1, by omega⟩
    simp only [names_Right.l0]
    rw [if_neg (by omega), if_neg (show ¬ ∃ j : Nat, j < s.size ∧ wordB (bt s j) = false from fun ⟨j, h1, h2⟩ => by rw [hw j (by omega)] at h2; cases h2)]
    by_cases h : 32 < s.size
    · rw [if_pos (by omega), if_pos h]
    · rw [if_neg (by omega), if_neg h, reserved_f]
      cases resB s <;> rfl
  | succ d ih =>
    intro i k hd hi hk hw
    obtain ⟨k, rfl⟩ : ∃ m, k = m + 1 := ⟨k - 1, by omega⟩
    simp only [names_Right.l0]
    rw [if_pos (by omega), if_pos (by omega), if_pos (by omega), letter_f]
    simp only [Option.bind_some]
    have hwr : wrap64 ((i : Int) + 1) = ((i + 1 : Nat) : Int) := wr_ok (n := s.size) (by omega) (by omega) hn
    have hgo : wordB (bt s i) = true → names_Right.l0 k s s.size (wrap64 ((i : Int) + 1)) = some (if ∃ j : Nat, j < s.size ∧ wordB (bt s j) = false then 12 else if 32 < s.size then 3 else if resB s = true then 12 else 0) := fun h => by
      rw [hwr]
      exact ih (i + 1) k (by omega) (by omega) (by omega) (fun j hj => by
        rcases Nat.lt_or_ge j i with q | q
        · exact hw j q
        · have : j = i := by omega
          subst this; exact h)
    have hbad : wordB (bt s i) = false → (some (12 : Int)) = some (if ∃ j : Nat, j < s.size ∧ wordB (bt s j) = false then 12 else if 32 < s.size then 3 else if resB s = true then 12 else 0) := fun h => by
      rw [if_pos ⟨i, by omega, h⟩]
    by_cases hl : letB (bt s i) = true
    · rw [if_pos hl]; exact hgo (by unfold wordB; rw [hl]; rfl)
    · rw [if_neg hl]
      have hl2 : letB (bt s i) = false := by simpa using hl
      by_cases h1 : bt s i < 48
      · rw [if_pos h1]; exact hbad (by unfold wordB digB; rw [hl2]; simp; omega)
      · rw [if_neg h1]
        by_cases h2 : bt s i > 57
        · rw [if_pos h2]; exact hbad (by unfold wordB digB; rw [hl2]; simp; omega)
        · rw [if_neg h2]; exact hgo (by unfold wordB digB; rw [hl2]; simp; omega)
theorem bl_nil (s : ByteArray) : bl s = [] ↔ s.size = 0 := by
  cases s with
  | mk d => simp [bl, ByteArray.size]
theorem right_f (s : ByteArray) (hn : s.size ≤ 9223372036854775807) {k : Nat} (hk : s.size + 1 < k) : names_Right.f k s = some (rightE s) := by
  obtain ⟨k, rfl⟩ : ∃ m, k = m + 1 := ⟨k - 1, by omega⟩
  unfold names_Right.f rightE
  rw [toL]
  by_cases h0 : s.size = 0
  · rw [if_pos ((bl_nil s).2 h0), if_pos (.inl h0)]
    rfl
  · rw [if_neg (fun h => h0 ((bl_nil s).1 h)), if_pos (by omega), letter_f]
    simp only [Option.bind_some, names_Right.j0]
    by_cases hl : letB (bt s 0) = true
    · rw [hl, if_neg (by simp), if_neg (by simp [h0])]
      exact right_l s hn s.size 0 k (by omega) (by omega) (by omega) (fun j hj => by omega)
    · have hl2 : letB (bt s 0) = false := by simpa using hl
      rw [hl2, if_pos (by simp), if_pos (.inr rfl)]
end Go.Proofs.Ytcjdpccbkfnnlaa

set_option linter.unusedVariables false
set_option linter.unusedSimpArgs false
namespace Go.Proofs.Ytcjdpccbkfnnlaa
open Go.RowKit Go.Sort Go.Proofs.YtcjdpccbkfnnlaaW.PrintWords Go.Proofs.Ytcjdpccbkfnnlaa.KCarveGA

theorem Set_any {w : World} {A : Option Addr} {c : Nat} {l : List ByteArray} (h : KS.C w A l.length l) (hl : l.length * 16 ≤ 140737488355328) :
  Calls Try.prog 27 #[.slice A l.length c] w fun e w' => ∃ A' c', e = .returned (.slice A' (setS l).length c') ∧ KS.R 9 w' w.heap.size (fun k => w.heap.size ≤ k) (.slice A' (setS l).length c') (setS l) ∧ Below w.heap.size w w' := by
  have hs := set_any (c := c) h hl
  go_enter Try.func27, Try.ntmps27
  go_wp2_with fail
  refine hs.mono ?_
  rintro e w1 ⟨A', c', rfl, hR, hb⟩
  go_wp2
  go_ret
  exact ⟨A', c', rfl, hR, hb⟩
set_option maxRecDepth 100000 in
theorem Union_any {w : World} {A A2 : Option Addr} {c c2 : Nat} {l l2 : List ByteArray} (h : KS.C w A l.length l) (h2 : KS.C w A2 l2.length l2) (hl : (l.length + l2.length) * 16 ≤ 140737488355328) :
  Calls Try.prog 33 #[.slice A l.length c, .slice A2 l2.length c2] w fun e w' => ∃ A' c', e = .returned (.slice A' (setS (l ++ l2)).length c') ∧ KS.R 9 w' w.heap.size (fun k => w.heap.size ≤ k) (.slice A' (setS (l ++ l2)).length c') (setS (l ++ l2)) ∧ Below w.heap.size w w' := by
  have hcl := clone_any (c := c) h (by omega)
  go_enter Try.func33, Try.ntmps33
  go_wp2_with fail
  refine hcl.mono ?_
  rintro e w1 ⟨A1, c1, rfl, hR1, b1⟩
  clear hcl
  go_wp2_with (at_builtin; refine Kd.R_append_rows KS (w0 := w) w.heap.size rfl (.tmp 6) (.tmp 7) 30 9 (.string ⟨#[]⟩) 16 rfl Try.underlying30 info_str rfl (by decide) (by decide) _ l l2 A2 l2.length c2 (fun k => w.heap.size ≤ k) (fun _ => False) rfl rfl hR1 ?HR (fun _ _ h => h) (fun _ h => h.elim) ?hf ?HB ?hb ?hl ?_)
  case HR => exact Kd.C_below h2 b1
  case hf => exact fun k hk => Nat.le_trans b1.size hk
  case HB => exact b1
  case hb => exact b1.size
  case hl => exact hl
  intro v2 w2 hR2 hb2 hg2 hat2
  obtain ⟨A2', c2', rfl⟩ := Kd.R_slice hR2
  have hst := set_any (c := c2') (Kd.R_reads' hR2).2.2 (by rw [List.length_append]; exact hl)
  generalize hll : l ++ l2 = ll at hst ⊢
  clear hR1 hR2 hg2 hat2
  go_wp2_with fail
  refine hst.mono ?_
  rintro e w3 ⟨A', c', rfl, hR, hb⟩
  have hs2 := hb2.size
  subst hll
  go_wp2
  go_ret
  exact ⟨A', c', rfl, Kd.R_mono (Kd.R_lower hR hs2) (fun k hk => by omega), hb2.trans (hb.mono hs2)⟩
theorem spot_none {w : World} {a : Addr} {v : Value} (h : w.cell? a = some v) : a = ⟨a.block, a.off, none⟩ := by
  cases a with
  | mk b o s =>
    cases s with
    | none => rfl
    | some s =>
      simp only [World.cell?] at h
      split at h <;> simp at h
theorem contains_any {w : World} {A : Option Addr} {c : Nat} {l : List ByteArray} (h : KS.C w A l.length l) (x : ByteArray) :
  Calls Try.prog 30 #[.slice A l.length c, .string x] w fun e w' => e = .returned (.bool (has l x)) ∧ w = w' := by
  rcases Nat.eq_zero_or_pos l.length with h0 | h0
  · obtain rfl := List.eq_nil_of_length_eq_zero h0
    refine (Try.slices_Contains_string_empty A c x w).mono ?_
    rintro e w' ⟨rfl, rfl⟩
    exact ⟨by rw [has_false (by simp)], rfl⟩
  · cases A with
    | none =>
      obtain rfl := KS_none h
      simp at h0
    | some ad =>
      have hsp := spot_none (KS_at h (i := 0) h0)
      have hae : ad = ⟨ad.block, ad.off, none⟩ := by simpa [Addr.add] using hsp
      rw [hae]
      refine (Try.slices_Contains_string ad.block ad.off l.length c l x w (Nat.le_refl _) h.2.1 (fun j hj => ?_)).mono ?_
      · have := KS_at h hj
        rw [hae] at this
        have e : (⟨ad.block, ad.off, none⟩ : Addr).add j = ⟨ad.block, ad.off + j, none⟩ := by unfold Addr.add; by_cases hj0 : j = 0 <;> simp [hj0]
        rw [e] at this
        simpa [List.getD_eq_getElem?_getD, hj] using this
      · rintro e w' ⟨rfl, rfl⟩
        refine ⟨?_, rfl⟩
        rw [List.take_length]
        congr 2
        rw [Bool.eq_iff_iff, Lib.containsS_iff, has_iff]
set_option maxRecDepth 100000 in
set_option maxHeartbeats 4000000 in
theorem chosen_any {w : World} {A : Option Addr} {c f B : Nat} {l : List ByteArray} {p : ByteArray → Bool} (ef : ∀ args w, (callFunc f args).run Try.prog w = .ok (.enter f args) w) (h : KS.C w A l.length l) (hl : l.length * 16 ≤ 140737488355328)
    (hf : ∀ W, Below w.heap.size w W → ∀ x, Calls Try.prog f #[.string x, .pointer (some ⟨B, 0, none⟩)] W fun e w' => e = .returned (.bool (p x)) ∧ W = w') :
  Calls Try.prog 44 #[.slice A l.length c, .func (.func f) #[] #[.pointer (some ⟨B, 0, none⟩)]] w fun e w' => ∃ A' c', e = .returned (.slice A' ((setS l).filter p).length c') ∧ KS.R 9 w' w.heap.size (fun k => w.heap.size ≤ k) (.slice A' ((setS l).filter p).length c') ((setS l).filter p) ∧ Below w.heap.size w w' := by
  have hst := set_any (c := c) h hl
  have hle := setS_len l
  have HF := hid hf
  clear hf
  generalize setS l = s at hst hle
  go_enter Try.func44, Try.ntmps44
  go_wp2_with fail
  refine hst.mono ?_
  rintro e w1 ⟨A1, c1, rfl, hR1, b1⟩
  clear hst
  have s1 := b1.size
  have HR1 := hid hR1
  clear hR1
  go_wp2_with fail
  go_loopw [5, 11] (fun v i wr => ∃ k : Nat, k ≤ s.length ∧ i = .int .i64 k ∧ (∃ A' c', v = .slice A' ((s.take k).filter p).length c') ∧ KS.R 9 wr w.heap.size (fun q => w1.heap.size ≤ q) v ((s.take k).filter p) ∧ Below w1.heap.size w1 wr) (fun _ i _ => s.length - (intOf i).toNat)
  case atStart => exact ⟨0, Nat.zero_le _, rfl, ⟨none, 0, rfl⟩, Kd.R_nil _ _ _ _ _, Below.refl _ _⟩
  case round =>
    obtain ⟨k, hk, rfl, ⟨A', c', rfl⟩, hR, hB⟩ := hrel
    have hs9 : s.length ≤ 8796093022208 := by omega
    by_cases hlt : k < s.length
    · have hltI : (k : Int) < (s.length : Int) := by omega
      cases A1 with
      | none =>
        have := KS_none (Kd.R_reads' HR1.out).2.2
        subst this
        simp at hlt
      | some ad =>
      have hcell := pw_cell_below hB (KS_at (Kd.R_reads' HR1.out).2.2 hlt)
      have htk : s.take (k + 1) = s.take k ++ [s[k]] := List.take_succ_eq_append_getElem hlt
      have hbw : Below w.heap.size w wr := b1.trans (hB.mono s1)
      have hfx := HF.out wr hbw s[k]
      have hlen : ((s.take k).filter p).length ≤ k := Nat.le_trans (List.length_filter_le _ _) (List.length_take_le _ _)
      generalize s[k] = x at hcell htk hfx
      have hsw : w1.heap.size ≤ wr.heap.size := hB.size
      cases hp : p x with
      | true =>
        have hnx : (s.take (k + 1)).filter p = (s.take k).filter p ++ [x] := by rw [htk, List.filter_append]; simp [hp]
        rw [hp] at hfx
        have HN := hid hnx
        clear hnx htk
        go_wp2_with (first | (refine hfx.mono ?_; rintro e w2 ⟨rfl, rfl⟩; clear hfx) | (at_builtin; refine Kd.R_append KS (w0 := w1) (W := wr) w.heap.size rfl (.tmp 18) (.tmp 20) 30 9 (.string ⟨#[]⟩) 16 rfl Try.underlying30 info_str rfl (by decide) (by decide) _ _ x [.string x] (fun q => w1.heap.size ≤ q) (fun _ => False) rfl rfl rfl (fun _ h => h.elim) (fun q hq => Nat.le_trans hsw hq) hR ?HB ?hb ?hl ?_))
        case HB => exact hB.mono s1
        case hb => exact hbw.size
        case hl => omega
        intro v2 w2 hR2 _ hg2 _
        have hB2 : Below w1.heap.size w1 w2 := hB.grown hg2 hsw (fun q hq => hR.1 q hq)
        have hsl := Kd.R_slice hR2
        rw [← HN.out] at hR2 hsl
        clear hR hB hg2
        go_wp2
        go_roundw
        case rel => exact ⟨k + 1, by omega, by go_num, hsl, hR2, hB2⟩
        case measure => simp [intOf]; omega
      | false =>
        have hnx : (s.take (k + 1)).filter p = (s.take k).filter p := by rw [htk, List.filter_append]; simp [hp]
        rw [hp] at hfx
        have HN := hid hnx
        clear hnx htk
        go_wp2_with (refine hfx.mono ?_; rintro e w2 ⟨rfl, rfl⟩; clear hfx)
        go_roundw
        case rel => exact ⟨k + 1, by omega, by go_num, ⟨A', c', by rw [HN.out]⟩, by rw [HN.out]; exact hR, hB⟩
        case measure => simp [intOf]; omega
    · have hltI : ¬ (k : Int) < (s.length : Int) := by omega
      obtain rfl : s.length = k := by omega
      have htk : s.take s.length = s := List.take_length
      rw [htk] at hR ⊢
      clear htk
      go_wp2
      go_ret
      exact ⟨A', c', rfl, Kd.R_mono hR (fun q hq => by omega), b1.trans (hB.mono s1)⟩

set_option maxRecDepth 100000 in
theorem Minus_clos {w : World} {A : Option Addr} {c B : Nat} {l : List ByteArray} (h : KS.C w A l.length l) (hB : w.heap[B]? = some (.cells #[.slice A l.length c] 30 (0, 0))) (x : ByteArray) :
  Calls Try.prog 46 #[.string x, .pointer (some ⟨B, 0, none⟩)] w fun e w' => e = .returned (.bool (!has l x)) ∧ w = w' := by
  have hc := contains_any (c := c) h x
  have m0 := cell_of_row _ _ 0 _ _ _ hB
  simp at m0
  go_enter Try.func46, Try.ntmps46
  go_wp2_with fail
  refine hc.mono ?_
  rintro e w1 ⟨rfl, rfl⟩
  go_wp2
  go_ret
  exact ⟨rfl, rfl⟩
set_option maxRecDepth 100000 in
set_option maxHeartbeats 4000000 in
theorem Minus_any {w : World} {A A2 : Option Addr} {c c2 : Nat} {l l2 : List ByteArray} (h : KS.C w A l.length l) (h2 : KS.C w A2 l2.length l2) (hl : l.length * 16 ≤ 140737488355328) :
  Calls Try.prog 34 #[.slice A l.length c, .slice A2 l2.length c2] w fun e w' => ∃ A' c', e = .returned (.slice A' ((setS l).filter (fun x => !has l2 x)).length c') ∧ KS.R 9 w' w.heap.size (fun k => w.heap.size ≤ k) (.slice A' ((setS l).filter (fun x => !has l2 x)).length c') ((setS l).filter (fun x => !has l2 x)) ∧ Below w.heap.size w w' := by
  have hb0 := below_alloc (Below.refl w.heap.size w) (.cells #[.slice A2 l2.length c2] 30)
  have hx0 := heap_alloc_new w (.cells #[.slice A2 l2.length c2] 30)
  have hch := chosen_any (w := w.alloc (.cells #[.slice A2 l2.length c2] 30)) (c := c) (f := 46) (B := w.heap.size) (p := fun x => !has l2 x) (enters_of Try.func46 (by kernel_rfl) rfl) (Kd.C_alloc h _) hl (fun W hW x => Minus_clos (Kd.C_below (Kd.C_alloc h2 _) hW) ((hW.block _ (blk_lt hx0)).trans hx0) x)
  generalize hp : (fun x : ByteArray => !has l2 x) = p at hch ⊢
  clear hx0
  go_enter Try.func34, Try.ntmps34
  go_wp2_with fail
  refine hch.mono ?_
  rintro e w1 ⟨A', c', rfl, hR, hb⟩
  go_wp2
  go_ret
  exact ⟨A', c', rfl, Kd.R_mono (Kd.R_lower hR (by rw [World.size_alloc]; omega)) (fun k hk => by rw [World.size_alloc] at hk; omega), hb0.trans (hb.mono (by rw [World.size_alloc]; omega))⟩

set_option maxRecDepth 100000 in
theorem Both_clos {w : World} {A : Option Addr} {c B : Nat} {l : List ByteArray} (h : KS.C w A l.length l) (hB : w.heap[B]? = some (.cells #[.slice A l.length c] 30 (0, 0))) (x : ByteArray) :
  Calls Try.prog 45 #[.string x, .pointer (some ⟨B, 0, none⟩)] w fun e w' => e = .returned (.bool (has l x)) ∧ w = w' := by
  have hc := contains_any (c := c) h x
  have m0 := cell_of_row _ _ 0 _ _ _ hB
  simp at m0
  go_enter Try.func45, Try.ntmps45
  go_wp2_with fail
  refine hc.mono ?_
  rintro e w1 ⟨rfl, rfl⟩
  go_wp2
  go_ret
  exact ⟨rfl, rfl⟩
set_option maxRecDepth 100000 in
set_option maxHeartbeats 4000000 in
theorem Both_any {w : World} {A A2 : Option Addr} {c c2 : Nat} {l l2 : List ByteArray} (h : KS.C w A l.length l) (h2 : KS.C w A2 l2.length l2) (hl : l.length * 16 ≤ 140737488355328) :
  Calls Try.prog 32 #[.slice A l.length c, .slice A2 l2.length c2] w fun e w' => ∃ A' c', e = .returned (.slice A' ((setS l).filter (fun x => has l2 x)).length c') ∧ KS.R 9 w' w.heap.size (fun k => w.heap.size ≤ k) (.slice A' ((setS l).filter (fun x => has l2 x)).length c') ((setS l).filter (fun x => has l2 x)) ∧ Below w.heap.size w w' := by
  have hb0 := below_alloc (Below.refl w.heap.size w) (.cells #[.slice A2 l2.length c2] 30)
  have hx0 := heap_alloc_new w (.cells #[.slice A2 l2.length c2] 30)
  have hch := chosen_any (w := w.alloc (.cells #[.slice A2 l2.length c2] 30)) (c := c) (f := 45) (B := w.heap.size) (p := fun x => has l2 x) (enters_of Try.func45 (by kernel_rfl) rfl) (Kd.C_alloc h _) hl (fun W hW x => Both_clos (Kd.C_below (Kd.C_alloc h2 _) hW) ((hW.block _ (blk_lt hx0)).trans hx0) x)
  generalize hp : (fun x : ByteArray => has l2 x) = p at hch ⊢
  clear hx0
  go_enter Try.func32, Try.ntmps32
  go_wp2_with fail
  refine hch.mono ?_
  rintro e w1 ⟨A', c', rfl, hR, hb⟩
  go_wp2
  go_ret
  exact ⟨A', c', rfl, Kd.R_mono (Kd.R_lower hR (by rw [World.size_alloc]; omega)) (fun k hk => by rw [World.size_alloc] at hk; omega), hb0.trans (hb.mono (by rw [World.size_alloc]; omega))⟩
theorem getD_rd (l : List ByteArray) {i : Nat} (h : i < l.length) : rdOf ByteArray.empty l (i : Int) = l[i] := by
  unfold rdOf
  simp [List.getD_eq_getElem?_getD, h]
theorem texts_l (a b : List ByteArray) (hl : a.length = b.length) (hn : a.length ≤ 9223372036854775807) : ∀ (d i k : Nat), a.length - i = d → i ≤ a.length → d < k → (a.take i = b.take i) →
    foundrylaw03_Texts.l0 k a b i = some (decide (a = b)) := by
  intro d
  induction d with
  | zero =>
    intro i k hd hi hk hw
    obtain ⟨k, rfl⟩ : ∃ m, k = m + 1 := ⟨k - 1, by omega⟩
    simp only [foundrylaw03_Texts.l0]
    rw [List.take_of_length_le (by omega), List.take_of_length_le (by omega)] at hw
    rw [if_neg (by omega), decide_eq_true hw]
  | succ d ih =>
    intro i k hd hi hk hw
    obtain ⟨k, rfl⟩ : ∃ m, k = m + 1 := ⟨k - 1, by omega⟩
    simp only [foundrylaw03_Texts.l0]
    have h1 : i < a.length := by omega
    have h2 : i < b.length := by omega
    rw [if_pos (by omega), if_pos (by omega), if_pos (by omega), getD_rd a h1, getD_rd b h2, toL, toL]
    by_cases he : a[i] = b[i]
    · rw [if_pos (by rw [he]), wr_ok (n := a.length) (by omega) (by omega) hn]
      refine ih (i + 1) k (by omega) (by omega) (by omega) ?_
      rw [List.take_succ_eq_append_getElem h1, List.take_succ_eq_append_getElem h2, hw, he]
    · rw [if_neg (fun h => he (bl_inj h)), decide_eq_false (fun h => he (by subst h; rfl))]
theorem texts_f (a b : List ByteArray) (hn : a.length ≤ 9223372036854775807) {k : Nat} (hk : a.length < k) : foundrylaw03_Texts.f k a b = some (decide (a = b)) := by
  unfold foundrylaw03_Texts.f
  by_cases hl : a.length = b.length
  · rw [if_pos (by omega)]
    exact texts_l a b hl hn a.length 0 k (by omega) (by omega) hk rfl
  · rw [if_neg (by omega), decide_eq_false (fun h => hl (by rw [h]))]
theorem right_any {w : World} (s : ByteArray) (hs : s.size ≤ 9223372036854775807) : Calls Try.prog 25 #[.string s] w fun e w' => e = .returned (.int .i64 (rightE s)) ∧ Below w.heap.size w w' :=
  (names_Right.calls (s.size + 2) s (rightE s) w (right_f s hs (by omega))).mono fun _ _ ⟨h1, h2⟩ => ⟨h1, h2.below⟩
theorem texts_any {w : World} {A1 A2 : Option Addr} {c1 c2 : Nat} {a b : List ByteArray} (h1 : KS.C w A1 a.length a) (k1 : a.length ≤ c1) (h2 : KS.C w A2 b.length b) (k2 : b.length ≤ c2) :
    Calls Try.prog 21 #[.slice A1 a.length c1, .slice A2 b.length c2] w fun e w' => ∃ t : Bool, e = .returned (.bool t) ∧ (t = true ↔ a = b) ∧ Below w.heap.size w w' :=
  (foundrylaw03_Texts.calls (a.length + 1) A1 c1 a A2 c2 b _ w h1 k1 h2 k2 (texts_f a b h1.2.1 (by omega))).mono fun _ _ ⟨h1, h2⟩ => ⟨_, h1, by simp, h2.below⟩
theorem texts_same {w : World} {A1 A2 : Option Addr} {c1 c2 : Nat} {a b : List ByteArray} (h1 : KS.C w A1 a.length a) (k1 : a.length ≤ c1) (h2 : KS.C w A2 b.length b) (k2 : b.length ≤ c2) (he : a = b) :
    Calls Try.prog 21 #[.slice A1 a.length c1, .slice A2 b.length c2] w fun e w' => e = .returned (.bool true) ∧ Below w.heap.size w w' :=
  (texts_any h1 k1 h2 k2).mono fun _ _ ⟨t, h1, h2, h3⟩ => ⟨by rw [h1, h2.2 he], h3⟩
end Go.Proofs.Ytcjdpccbkfnnlaa

set_option linter.unusedVariables false
set_option linter.unusedSimpArgs false
namespace Go.Proofs.Ytcjdpccbkfnnlaa

theorem Sorted.nodup {l : List ByteArray} (h : Sorted l) : l.Nodup := by
  unfold Sorted at h
  rw [List.pairwise_map] at h
  refine List.Pairwise.imp ?_ h
  intro a b hlt e
  subst e
  exact BL.lt_irrefl _ hlt
theorem Sorted.len_le {a b : List ByteArray} (h : Sorted a) (hs : ∀ x ∈ a, x ∈ b) : a.length ≤ b.length := h.nodup.length_le_of_subset hs
theorem Sorted.eq_of_len {a b : List ByteArray} (ha : Sorted a) (hb : Sorted b) (hs : ∀ x ∈ a, x ∈ b) (hl : b.length ≤ a.length) : a = b := by
  refine ha.eq hb (fun x => ⟨hs x, fun hx => ?_⟩)
  apply Classical.byContradiction
  intro hn
  have h1 : (x :: a).Nodup := List.nodup_cons.2 ⟨hn, ha.nodup⟩
  have h2 := h1.length_le_of_subset (l₂ := b) (fun y hy => by
    rcases List.mem_cons.1 hy with rfl | hy
    · exact hx
    · exact hs y hy)
  simp at h2
  omega
theorem Sorted.nil : Sorted [] := by unfold Sorted; simp
/-- A graph: its nodes in order, what each imports as a set. -/
abbrev PG := List (ByteArray × List ByteArray)
def gNames (G : PG) : List ByteArray := G.map (·.1)
def gImp (G : PG) (s : ByteArray) : List ByteArray := match G.find? (fun p => decide (p.1 = s)) with | some p => p.2 | none => []
noncomputable def gUsers (G : PG) (s : ByteArray) : List ByteArray := (gNames G).filter (fun m => has (gImp G m) s)
structure GOK (G : PG) : Prop where
  names : Sorted (gNames G)
  imps : ∀ p ∈ G, Sorted p.2
  few : G.length ≤ 32
  short : ∀ p ∈ G, p.2.length ≤ 16
theorem gImp_mem {G : PG} (s : ByteArray) : gImp G s = [] ∨ ∃ p ∈ G, p.1 = s ∧ gImp G s = p.2 := by
  unfold gImp
  cases h : G.find? (fun p => decide (p.1 = s)) with
  | none => exact .inl rfl
  | some p => exact .inr ⟨p, List.mem_of_find?_eq_some h, by simpa using List.find?_some h, rfl⟩
theorem gImp_node {G : PG} {s x : ByteArray} (h : x ∈ gImp G s) : s ∈ gNames G := by
  rcases gImp_mem (G := G) s with h0 | ⟨p, hp, rfl, _⟩
  · rw [h0] at h; cases h
  · exact List.mem_map.2 ⟨p, hp, rfl⟩
theorem gImp_none {G : PG} {s : ByteArray} (h : s ∉ gNames G) : gImp G s = [] := by
  rcases gImp_mem (G := G) s with h0 | ⟨p, hp, rfl, _⟩
  · exact h0
  · exact absurd (List.mem_map.2 ⟨p, hp, rfl⟩) h
theorem GOK.imp_sorted {G : PG} (h : GOK G) (s : ByteArray) : Sorted (gImp G s) := by
  rcases gImp_mem (G := G) s with h0 | ⟨p, hp, _, h1⟩
  · rw [h0]; exact Sorted.nil
  · rw [h1]; exact h.imps p hp
theorem GOK.imp_short {G : PG} (h : GOK G) (s : ByteArray) : (gImp G s).length ≤ 16 := by
  rcases gImp_mem (G := G) s with h0 | ⟨p, hp, _, h1⟩
  · rw [h0]; simp
  · rw [h1]; exact h.short p hp
theorem GOK.names_len {G : PG} (h : GOK G) : (gNames G).length ≤ 32 := by unfold gNames; rw [List.length_map]; exact h.few
theorem find_name : ∀ {G : PG} {p : ByteArray × List ByteArray}, (gNames G).Nodup → p ∈ G → G.find? (fun q => decide (q.1 = p.1)) = some p
  | [], p, _, hp => by cases hp
  | q :: G, p, hn, hp => by
    have hn' := List.nodup_cons.1 (show (q.1 :: gNames G).Nodup from hn)
    rw [List.find?_cons]
    by_cases he : q.1 = p.1
    · rcases List.mem_cons.1 hp with rfl | hp
      · simp
      · exact absurd (he ▸ List.mem_map.2 ⟨p, hp, rfl⟩) hn'.1
    · rcases List.mem_cons.1 hp with rfl | hp
      · exact absurd rfl he
      · simp only [he, decide_false]
        exact find_name hn'.2 hp
theorem gUsers_mem {G : PG} {s x : ByteArray} : x ∈ gUsers G s ↔ s ∈ gImp G x := by
  unfold gUsers
  rw [List.mem_filter, has_iff]
  exact ⟨fun h => h.2, fun h => ⟨gImp_node h, h⟩⟩
theorem GOK.users_sorted {G : PG} (h : GOK G) (s : ByteArray) : Sorted (gUsers G s) := h.names.filter _
theorem gUsers_len (G : PG) (s : ByteArray) : (gUsers G s).length ≤ G.length := by
  unfold gUsers
  have := List.length_filter_le (fun m => has (gImp G m) s) (gNames G)
  unfold gNames at this ⊢
  simpa using this
/-- A way of so many steps, one at the least. -/
inductive GWay (G : PG) : Nat → ByteArray → ByteArray → Prop
  | one {a b : ByteArray} : b ∈ gImp G a → GWay G 1 a b
  | cons {k : Nat} {a b c : ByteArray} : b ∈ gImp G a → GWay G k b c → GWay G (k + 1) a c
def GReach (G : PG) (a b : ByteArray) : Prop := ∃ k, GWay G k a b
namespace GWay
variable {G : PG} {a b c : ByteArray} {j k : Nat}
theorem pos (h : GWay G k a b) : 1 ≤ k := by cases h <;> omega
theorem trans (h : GWay G j a b) (g : GWay G k b c) : GWay G (j + k) a c := by
  induction h with
  | one h1 => rw [Nat.add_comm]; exact .cons h1 g
  | cons h1 _ ih => rw [Nat.add_right_comm]; exact .cons h1 (ih g)
theorem node (h : GWay G k a b) : a ∈ gNames G := by
  cases h with
  | one h1 => exact gImp_node h1
  | cons h1 _ => exact gImp_node h1
theorem first (h : GWay G (k + 1) a c) : (k = 0 ∧ c ∈ gImp G a) ∨ ∃ b, b ∈ gImp G a ∧ GWay G k b c := by
  cases h with
  | one h1 => exact .inl ⟨rfl, h1⟩
  | cons h1 h2 => exact .inr ⟨_, h1, h2⟩
/-- A way may be cut anywhere. -/
theorem cut : ∀ (i : Nat) {k : Nat} {a c : ByteArray}, GWay G (i + k) a c → 1 ≤ i → 1 ≤ k → ∃ b, GWay G i a b ∧ GWay G k b c
  | 0, _, _, _, _, h1, _ => by omega
  | 1, k, a, c, h, _, hk => by
    rw [Nat.add_comm] at h
    rcases first h with ⟨h0, _⟩ | ⟨b, h1, h2⟩
    · omega
    · exact ⟨b, .one h1, h2⟩
  | i + 2, k, a, c, h, _, hk => by
    rw [show i + 2 + k = (i + 1 + k) + 1 from by omega] at h
    rcases first h with ⟨h0, _⟩ | ⟨b, h1, h2⟩
    · omega
    · obtain ⟨m, h3, h4⟩ := cut (i + 1) h2 (by omega) hk
      exact ⟨m, .cons h1 h3, h4⟩
end GWay
theorem GReach.step {G : PG} {a b : ByteArray} (h : b ∈ gImp G a) : GReach G a b := ⟨1, .one h⟩
theorem GReach.trans {G : PG} {a b c : ByteArray} (h : GReach G a b) (k : GReach G b c) : GReach G a c := by
  obtain ⟨i, h⟩ := h; obtain ⟨j, k⟩ := k; exact ⟨_, h.trans k⟩
theorem GReach.node {G : PG} {a b : ByteArray} (h : GReach G a b) : a ∈ gNames G := by obtain ⟨_, h⟩ := h; exact h.node
/-- What holds a node's imports, and with each its imports, holds all that is reached. -/
theorem GReach.closed {G : PG} {P : ByteArray → Prop} {a b : ByteArray} (h : GReach G a b) (h1 : ∀ y ∈ gImp G a, P y) (h2 : ∀ z, P z → ∀ y ∈ gImp G z, P y) : P b := by
  obtain ⟨k, h⟩ := h
  induction h with
  | one h0 => exact h1 _ h0
  | cons h0 _ ih => exact ih (h2 _ (h1 _ h0))
/-- What holds the end, and with each its users, holds the beginning. -/
theorem GReach.back {G : PG} {P : ByteArray → Prop} {a b : ByteArray} (h : GReach G a b) (h1 : P b) (h2 : ∀ z y, P y → y ∈ gImp G z → P z) : P a := by
  obtain ⟨k, h⟩ := h
  induction h with
  | one h0 => exact h2 _ _ h1 h0
  | cons h0 _ ih => exact h2 _ _ (ih h1) h0
/-- All that is imported. -/
def gAll (G : PG) : List ByteArray := setS (G.map (·.2)).flatten
theorem gImp_all {G : PG} {s x : ByteArray} (h : x ∈ gImp G s) : x ∈ gAll G := by
  rcases gImp_mem (G := G) s with h0 | ⟨p, hp, _, h1⟩
  · rw [h0] at h; cases h
  · rw [h1] at h
    exact mem_setS.2 (List.mem_flatten.2 ⟨p.2, List.mem_map.2 ⟨p, hp, rfl⟩, h⟩)
theorem GReach.all {G : PG} {a b : ByteArray} (h : GReach G a b) : b ∈ gAll G := h.closed (P := fun y => y ∈ gAll G) (fun _ h => gImp_all h) (fun _ _ _ h => gImp_all h)
theorem flat_len {α β : Type} (l : List α) (f : α → List β) (m : Nat) (h : ∀ x ∈ l, (f x).length ≤ m) : ((l.map f).flatten).length ≤ l.length * m := by
  induction l with
  | nil => simp
  | cons x l ih =>
    have h1 := h x (.head _)
    have h2 := ih (fun y hy => h y (.tail _ hy))
    simp only [List.map_cons, List.flatten_cons, List.length_append, List.length_cons]
    rw [Nat.add_mul, Nat.one_mul]
    omega
theorem GOK.all_len {G : PG} (h : GOK G) : (gAll G).length ≤ 512 := by
  have h1 := setS_len (G.map (·.2)).flatten
  have h2 := flat_len G (·.2) 16 h.short
  have h3 := h.few
  unfold gAll
  omega
/-- Under, in its rounds. -/
structure UInv (G : PG) (n : ByteArray) (out next : List ByteArray) : Prop where
  so : Sorted out
  sn : Sorted next
  rch : ∀ z, z ∈ out ∨ z ∈ next → GReach G n z
  cl : ∀ z ∈ out, ∀ y ∈ gImp G z, y ∈ out ∨ y ∈ next
  st : ∀ y ∈ gImp G n, y ∈ out ∨ y ∈ next
  ap : ∀ z ∈ next, z ∉ out
theorem UInv.start {G : PG} (h : GOK G) (n : ByteArray) : UInv G n [] (gImp G n) :=
  ⟨Sorted.nil, h.imp_sorted n, fun z hz => hz.elim (fun h => by cases h) GReach.step, fun z hz => (by cases hz), fun y hy => Or.inr hy, fun z _ h => (by cases h)⟩
theorem UInv.step {G : PG} {n : ByteArray} {out next : List ByteArray} (h : UInv G n out next) :
    UInv G n (setS (out ++ next)) ((setS (next.map (gImp G)).flatten).filter (fun x => !has (setS (out ++ next)) x)) := by
  have hm : ∀ {z}, z ∈ setS (out ++ next) ↔ z ∈ out ∨ z ∈ next := fun {z} => by rw [mem_setS, List.mem_append]
  have hf : ∀ {z}, z ∈ (next.map (gImp G)).flatten ↔ ∃ y ∈ next, z ∈ gImp G y := fun {z} => by
    simp only [List.mem_flatten, List.mem_map]
    exact ⟨fun ⟨l, ⟨y, hy, e⟩, hz⟩ => ⟨y, hy, e ▸ hz⟩, fun ⟨y, hy, hz⟩ => ⟨_, ⟨y, hy, rfl⟩, hz⟩⟩
  have hn : ∀ {z}, z ∈ (setS (next.map (gImp G)).flatten).filter (fun x => !has (setS (out ++ next)) x) ↔ (∃ y ∈ next, z ∈ gImp G y) ∧ ¬ (z ∈ out ∨ z ∈ next) := fun {z} => by
    rw [List.mem_filter, mem_setS, hf]
    refine and_congr Iff.rfl ?_
    rw [← hm]
    cases hh : has (setS (out ++ next)) z with
    | true => simp [has_iff.1 hh]
    | false =>
      have : z ∉ setS (out ++ next) := fun h => by rw [has_true h] at hh; cases hh
      simp [this]
  refine ⟨setS_sorted _, (setS_sorted _).filter _, ?_, ?_, ?_, ?_⟩
  · rintro z (hz | hz)
    · exact h.rch z (hm.1 hz)
    · obtain ⟨⟨y, hy, hzy⟩, _⟩ := hn.1 hz
      exact (h.rch y (.inr hy)).trans (.step hzy)
  · intro z hz y hy
    rw [hm, hn]
    by_cases hin : y ∈ out ∨ y ∈ next
    · exact .inl hin
    · rcases hm.1 hz with hz | hz
      · exact absurd (h.cl z hz y hy) hin
      · exact .inr ⟨⟨z, hz, hy⟩, hin⟩
  · intro y hy
    exact .inl (hm.2 (h.st y hy))
  · intro z hz h2
    exact (hn.1 hz).2 (hm.1 h2)
theorem UInv.grows {G : PG} {n : ByteArray} {out next : List ByteArray} (h : UInv G n out next) (hn : next ≠ []) : out.length < (setS (out ++ next)).length := by
  obtain ⟨x, hx⟩ := List.exists_mem_of_ne_nil _ hn
  have h1 : (x :: out).Nodup := List.nodup_cons.2 ⟨h.ap x hx, h.so.nodup⟩
  have := h1.length_le_of_subset (l₂ := setS (out ++ next)) (fun y hy => by
    rw [mem_setS, List.mem_append]
    rcases List.mem_cons.1 hy with rfl | hy
    · exact .inr hx
    · exact .inl hy)
  simp at this
  omega
theorem UInv.small {G : PG} {n : ByteArray} {out next : List ByteArray} (h : UInv G n out next) : out.length ≤ (gAll G).length ∧ next.length ≤ (gAll G).length :=
  ⟨h.so.len_le (fun x hx => (h.rch x (.inl hx)).all), h.sn.len_le (fun x hx => (h.rch x (.inr hx)).all)⟩
/-- What stands under a node. -/
def UnderS (G : PG) (n : ByteArray) (u : List ByteArray) : Prop := Sorted u ∧ ∀ z, z ∈ u ↔ GReach G n z
theorem UInv.done {G : PG} {n : ByteArray} {out : List ByteArray} (h : UInv G n out []) : UnderS G n out :=
  ⟨h.so, fun z => ⟨fun hz => h.rch z (.inl hz), fun hz => hz.closed (P := fun y => y ∈ out) (fun y hy => (h.st y hy).elim id (fun h => by cases h)) (fun z hz y hy => (h.cl z hz y hy).elim id (fun h => by cases h))⟩⟩
/-- Over, in its rounds. -/
structure OInv (G : PG) (l all : List ByteArray) : Prop where
  so : Sorted all
  st : ∀ z ∈ l, z ∈ all
  rch : ∀ z ∈ all, ∃ y ∈ l, z = y ∨ GReach G z y
noncomputable def overStep (G : PG) (all : List ByteArray) : List ByteArray := setS (all ++ (all.map (gUsers G)).flatten)
theorem mem_overStep {G : PG} {all : List ByteArray} {z : ByteArray} : z ∈ overStep G all ↔ z ∈ all ∨ ∃ y ∈ all, y ∈ gImp G z := by
  unfold overStep
  rw [mem_setS, List.mem_append]
  simp only [List.mem_flatten, List.mem_map]
  refine or_congr Iff.rfl ⟨fun ⟨l, ⟨y, hy, e⟩, hz⟩ => ⟨y, hy, gUsers_mem.1 (e ▸ hz)⟩, fun ⟨y, hy, hz⟩ => ⟨_, ⟨y, hy, rfl⟩, gUsers_mem.2 hz⟩⟩
theorem OInv.start (G : PG) (l : List ByteArray) : OInv G l (setS l) := ⟨setS_sorted l, fun z hz => mem_setS.2 hz, fun z hz => ⟨z, mem_setS.1 hz, .inl rfl⟩⟩
theorem OInv.step {G : PG} {l all : List ByteArray} (h : OInv G l all) : OInv G l (overStep G all) := by
  refine ⟨setS_sorted _, fun z hz => mem_overStep.2 (.inl (h.st z hz)), fun z hz => ?_⟩
  rcases mem_overStep.1 hz with hz | ⟨y, hy, hzy⟩
  · exact h.rch z hz
  · obtain ⟨x, hx, hxy⟩ := h.rch y hy
    refine ⟨x, hx, .inr ?_⟩
    rcases hxy with rfl | hxy
    · exact .step hzy
    · exact (GReach.step hzy).trans hxy
theorem OInv.le {G : PG} {l all : List ByteArray} (h : OInv G l all) : all.length ≤ (overStep G all).length := h.so.len_le (fun x hx => mem_overStep.2 (.inl hx))
theorem OInv.small {G : PG} {l all : List ByteArray} (h : OInv G l all) : all.length ≤ l.length + G.length := by
  have := h.so.len_le (b := l ++ gNames G) (fun x hx => by
    rw [List.mem_append]
    obtain ⟨y, hy, hxy⟩ := h.rch x hx
    rcases hxy with rfl | hxy
    · exact .inl hy
    · exact .inr hxy.node)
  simpa [gNames] using this
/-- What stands over some names. -/
def OverS (G : PG) (l u : List ByteArray) : Prop := Sorted u ∧ ∀ z, z ∈ u ↔ z ∈ gNames G ∧ ∃ y ∈ l, z = y ∨ GReach G z y
theorem OInv.done {G : PG} {l all : List ByteArray} (h : OInv G l all) (hl : (overStep G all).length = all.length) : OverS G l ((setS all).filter (fun x => has (gNames G) x)) := by
  have he : all = overStep G all := h.so.eq_of_len (setS_sorted _) (fun x hx => mem_overStep.2 (.inl hx)) (by omega)
  have hcl : ∀ z y, y ∈ all → y ∈ gImp G z → z ∈ all := fun z y hy hz => by rw [he]; exact mem_overStep.2 (.inr ⟨y, hy, hz⟩)
  refine ⟨(setS_sorted _).filter _, fun z => ?_⟩
  rw [List.mem_filter, mem_setS, has_iff]
  constructor
  · rintro ⟨hz, hn⟩
    exact ⟨hn, h.rch z hz⟩
  · rintro ⟨hn, y, hy, hzy⟩
    refine ⟨?_, hn⟩
    rcases hzy with rfl | hzy
    · exact h.st _ hy
    · exact hzy.back (P := fun x => x ∈ all) (h.st _ hy) hcl
end Go.Proofs.Ytcjdpccbkfnnlaa

set_option linter.unusedVariables false
set_option linter.unusedSimpArgs false
namespace Go.Proofs.Ytcjdpccbkfnnlaa

/-- A table of numbers under names. -/
abbrev Tab := List (ByteArray × Nat)
def lk (L : Tab) (s : ByteArray) : Option Nat := match L.find? (fun p => decide (p.1 = s)) with | some p => some p.2 | none => none
theorem lk_snoc (L : Tab) (n : ByteArray) (d : Nat) (s : ByteArray) (h : lk L n = none) : lk (L ++ [(n, d)]) s = if n = s then some d else lk L s := by
  unfold lk at *
  rw [List.find?_append]
  by_cases e : n = s
  · subst e
    cases h0 : L.find? (fun p => decide (p.1 = n)) with
    | some p => rw [h0] at h; cases h
    | none => simp
  · cases h0 : L.find? (fun p => decide (p.1 = s)) with
    | some p => simp [e]
    | none => simp [e]
theorem lk_mem {L : Tab} {s : ByteArray} {j : Nat} (h : lk L s = some j) : (s, j) ∈ L := by
  unfold lk at h
  cases h0 : L.find? (fun p => decide (p.1 = s)) with
  | none => rw [h0] at h; cases h
  | some p =>
    rw [h0] at h
    have h1 := List.mem_of_find?_eq_some h0
    have h2 : p.1 = s := by simpa using List.find?_some h0
    cases h
    rw [← h2]
    exact h1
theorem lk_none {L : Tab} {s : ByteArray} (h : lk L s = none) : s ∉ L.map (·.1) := by
  intro hm
  obtain ⟨p, hp, he⟩ := List.mem_map.1 hm
  unfold lk at h
  cases h0 : L.find? (fun p => decide (p.1 = s)) with
  | none => exact absurd (List.find?_eq_none.1 h0 p hp) (by simp [he])
  | some q => rw [h0] at h; cases h
theorem lk_some {L : Tab} {s : ByteArray} (h : s ∈ L.map (·.1)) : ∃ j, lk L s = some j := by
  cases h0 : lk L s with
  | none => exact absurd h (lk_none h0)
  | some j => exact ⟨j, rfl⟩
/-- One of a round's nodes. -/
noncomputable def bfsStep (G : PG) (d : Nat) (st : Tab × List ByteArray) (n : ByteArray) : Tab × List ByteArray := match lk st.1 n with | some _ => st | none => (st.1 ++ [(n, d)], st.2 ++ gUsers G n)
noncomputable def bfsRound (G : PG) (d : Nat) (L : Tab) (l : List ByteArray) : Tab × List ByteArray := l.foldl (bfsStep G d) (L, [])
theorem bfsRound_snoc (G : PG) (d : Nat) (L : Tab) (l : List ByteArray) (n : ByteArray) : bfsRound G d L (l ++ [n]) = bfsStep G d (bfsRound G d L l) n := by simp [bfsRound, List.foldl_append]
structure BR (G : PG) (d : Nat) (L : Tab) (l : List ByteArray) (L' : Tab) (more : List ByteArray) : Prop where
  tab : ∀ n j, lk L' n = some j ↔ (lk L n = some j ∨ (lk L n = none ∧ n ∈ l ∧ j = d))
  mem : ∀ z, z ∈ more ↔ ∃ n ∈ l, lk L n = none ∧ n ∈ gImp G z
  nd : (L.map (·.1)).Nodup → (L'.map (·.1)).Nodup
  len : L.length ≤ L'.length
  grows : more = [] ∨ L.length + 1 ≤ L'.length
  small : more.length ≤ (L'.length - L.length) * G.length
theorem bfsRound_BR (G : PG) (d : Nat) (L : Tab) (l : List ByteArray) : BR G d L l (bfsRound G d L l).1 (bfsRound G d L l).2 := by
  suffices h : ∀ m : List ByteArray, BR G d L m.reverse (bfsRound G d L m.reverse).1 (bfsRound G d L m.reverse).2 by
    have := h l.reverse
    rwa [List.reverse_reverse] at this
  intro m
  induction m with
  | nil => exact ⟨fun n j => by simp [bfsRound], fun z => by simp [bfsRound], id, Nat.le_refl _, .inl rfl, by simp [bfsRound]⟩
  | cons n m ih =>
    rw [List.reverse_cons, bfsRound_snoc]
    generalize m.reverse = q at ih
    generalize hst : bfsRound G d L q = st at ih
    unfold bfsStep
    cases hl : lk st.1 n with
    | some i =>
      refine ⟨fun x j => ?_, fun z => ?_, ih.nd, ih.len, ih.grows, ih.small⟩
      · rw [ih.tab x j]
        refine or_congr Iff.rfl (and_congr_right fun h0 => and_congr_left fun _ => ?_)
        simp only [List.mem_append, List.mem_singleton]
        refine ⟨.inl, fun h => h.elim id (fun e => ?_)⟩
        subst e
        rcases (ih.tab x i).1 hl with h1 | ⟨_, h1, _⟩
        · rw [h1] at h0; cases h0
        · exact h1
      · rw [ih.mem z]
        refine ⟨fun ⟨x, h1, h2⟩ => ⟨x, List.mem_append.2 (.inl h1), h2⟩, fun ⟨x, h1, h2, h3⟩ => ?_⟩
        rcases List.mem_append.1 h1 with h1 | h1
        · exact ⟨x, h1, h2, h3⟩
        · have e : x = n := by simpa using h1
          subst e
          rcases (ih.tab x i).1 hl with h4 | ⟨_, h4, _⟩
          · rw [h4] at h2; cases h2
          · exact ⟨x, h4, h2, h3⟩
    | none =>
      have hL : lk L n = none := by
        cases h0 : lk L n with
        | none => rfl
        | some j => have := (ih.tab n j).2 (.inl h0); rw [hl] at this; cases this
      have hnl : n ∉ q := fun h => by have := (ih.tab n d).2 (.inr ⟨hL, h, rfl⟩); rw [hl] at this; cases this
      refine ⟨fun x j => ?_, fun z => ?_, fun hn => ?_, ?_, ?_, ?_⟩
      · show lk (st.1 ++ [(n, d)]) x = some j ↔ _
        rw [lk_snoc _ _ _ _ hl]
        by_cases e : n = x
        · subst e
          rw [if_pos rfl, hL]
          simp
          exact eq_comm
        · rw [if_neg e, ih.tab x j]
          have e' : ¬ x = n := fun h => e h.symm
          simp [e']
      · show z ∈ st.2 ++ gUsers G n ↔ _
        rw [List.mem_append, ih.mem z, gUsers_mem]
        constructor
        · rintro (⟨x, h1, h2, h3⟩ | h)
          · exact ⟨x, List.mem_append.2 (.inl h1), h2, h3⟩
          · exact ⟨n, by simp, hL, h⟩
        · rintro ⟨x, h1, h2, h3⟩
          rcases List.mem_append.1 h1 with h1 | h1
          · exact .inl ⟨x, h1, h2, h3⟩
          · have e : x = n := by simpa using h1
            subst e
            exact .inr h3
      · show ((st.1 ++ [(n, d)]).map (·.1)).Nodup
        rw [List.map_append]
        have h1 := ih.nd hn
        have h2 := lk_none hl
        rw [List.nodup_append]
        refine ⟨h1, by simp, fun a ha b hb => ?_⟩
        have : b = n := by simpa using hb
        rintro rfl
        subst this
        exact h2 ha
      · show L.length ≤ (st.1 ++ [(n, d)]).length
        have := ih.len
        simp
        omega
      · right
        show L.length + 1 ≤ (st.1 ++ [(n, d)]).length
        have := ih.len
        simp
        omega
      · show (st.2 ++ gUsers G n).length ≤ ((st.1 ++ [(n, d)]).length - L.length) * G.length
        have h1 := ih.small
        have h2 := gUsers_len G n
        have h3 := ih.len
        simp only [List.length_append, List.length_cons, List.length_nil]
        rw [show st.1.length + (0 + 1) - L.length = (st.1.length - L.length) + 1 from by omega, Nat.add_mul, Nat.one_mul]
        omega
/-- How far it is from each node dest one, in the rounds of the search. -/
structure DInv (G : PG) (dest : ByteArray) (d : Nat) (L : Tab) (next : List ByteArray) : Prop where
  d1 : 1 ≤ d
  way : ∀ n j, lk L n = some j → j < d ∧ GWay G j n dest
  least : ∀ n j, GWay G j n dest → j < d → ∃ i, i ≤ j ∧ lk L n = some i
  nx : ∀ n ∈ next, GWay G d n dest
  all : ∀ n, GWay G d n dest → (∃ i, lk L n = some i) ∨ n ∈ next
  nd : (L.map (·.1)).Nodup
  cnt : next = [] ∨ d ≤ L.length + 1
theorem DInv.start (G : PG) (dest : ByteArray) : DInv G dest 1 [] (gUsers G dest) :=
  ⟨Nat.le_refl _, fun n j h => (by cases h), fun n j h hj => (by have := h.pos; omega), fun n hn => .one (gUsers_mem.1 hn),
    fun n h => .inr (gUsers_mem.2 (by
      rcases GWay.first (k := 0) h with ⟨_, h⟩ | ⟨b, _, h⟩
      · exact h
      · have := h.pos; omega)), List.nodup_nil, .inr (by simp)⟩
theorem DInv.small {G : PG} {dest : ByteArray} {d : Nat} {L : Tab} {next : List ByteArray} (h : DInv G dest d L next) : L.length ≤ G.length := by
  have := h.nd.length_le_of_subset (l₂ := gNames G) (fun x hx => by
    obtain ⟨j, hj⟩ := lk_some hx
    exact (h.way x j hj).2.node)
  simpa [gNames] using this
theorem DInv.step {G : PG} {dest : ByteArray} {d : Nat} {L L' : Tab} {next more : List ByteArray} (h : DInv G dest d L next) (r : BR G d L next L' more) : DInv G dest (d + 1) L' more := by
  have hd1 := h.d1
  refine ⟨by omega, ?_, ?_, ?_, ?_, r.nd h.nd, ?_⟩
  · intro n j hj
    rcases (r.tab n j).1 hj with h1 | ⟨_, h1, rfl⟩
    · have := h.way n j h1
      exact ⟨by omega, this.2⟩
    · exact ⟨by omega, h.nx n h1⟩
  · intro n j hw hj
    by_cases hlt : j < d
    · obtain ⟨i, hi, h1⟩ := h.least n j hw hlt
      exact ⟨i, hi, (r.tab n i).2 (.inl h1)⟩
    · obtain rfl : j = d := by omega
      rcases h.all n hw with ⟨i, h1⟩ | h1
      · have := (h.way n i h1).1
        exact ⟨i, by omega, (r.tab n i).2 (.inl h1)⟩
      · cases h0 : lk L n with
        | none => exact ⟨j, Nat.le_refl _, (r.tab n j).2 (.inr ⟨h0, h1, rfl⟩)⟩
        | some i =>
          have := (h.way n i h0).1
          exact ⟨i, by omega, (r.tab n i).2 (.inl h0)⟩
  · intro z hz
    obtain ⟨n, hn, _, hzn⟩ := (r.mem z).1 hz
    exact .cons hzn (h.nx n hn)
  · intro z hz
    rcases hz.first with ⟨h0, _⟩ | ⟨m, h1, h2⟩
    · omega
    · rcases h.all m h2 with ⟨i, h3⟩ | h3
      · left
        have h4 := h.way m i h3
        by_cases hid : i + 1 < d
        · obtain ⟨x, _, hx⟩ := h.least z (i + 1) (.cons h1 h4.2) hid
          exact ⟨x, (r.tab z x).2 (.inl hx)⟩
        · have he : i + 1 = d := by omega
          have hw : GWay G d z dest := he ▸ .cons h1 h4.2
          rcases h.all z hw with ⟨x, hx⟩ | hx
          · exact ⟨x, (r.tab z x).2 (.inl hx)⟩
          · cases h0 : lk L z with
            | none => exact ⟨d, (r.tab z d).2 (.inr ⟨h0, hx, rfl⟩)⟩
            | some x => exact ⟨x, (r.tab z x).2 (.inl h0)⟩
      · cases h0 : lk L m with
        | none => exact .inr ((r.mem z).2 ⟨m, h3, h0, h1⟩)
        | some i =>
          left
          have h4 := h.way m i h0
          by_cases hid : i + 1 < d
          · obtain ⟨x, _, hx⟩ := h.least z (i + 1) (.cons h1 h4.2) hid
            exact ⟨x, (r.tab z x).2 (.inl hx)⟩
          · have he : i + 1 = d := by omega
            have hw : GWay G d z dest := he ▸ .cons h1 h4.2
            rcases h.all z hw with ⟨x, hx⟩ | hx
            · exact ⟨x, (r.tab z x).2 (.inl hx)⟩
            · cases h5 : lk L z with
              | none => exact ⟨d, (r.tab z d).2 (.inr ⟨h5, hx, rfl⟩)⟩
              | some x => exact ⟨x, (r.tab z x).2 (.inl h5)⟩
  · rcases r.grows with h1 | h1
    · exact .inl h1
    · rcases h.cnt with h2 | h2
      · left
        apply List.eq_nil_iff_forall_not_mem.2
        intro z hz
        obtain ⟨n, hn, _⟩ := (r.mem z).1 hz
        rw [h2] at hn
        cases hn
      · exact .inr (by omega)
theorem BR.few {G : PG} {d : Nat} {L L' : Tab} {l more : List ByteArray} (r : BR G d L l L' more) (hn : (L.map (·.1)).Nodup) (h1 : ∀ n j, lk L n = some j → n ∈ gNames G) (h2 : ∀ n ∈ l, n ∈ gNames G) : L'.length ≤ G.length := by
  have := (r.nd hn).length_le_of_subset (l₂ := gNames G) (fun x hx => by
    obtain ⟨j, hj⟩ := lk_some hx
    rcases (r.tab x j).1 hj with h | ⟨_, h, _⟩
    · exact h1 x j h
    · exact h2 x h)
  simpa [gNames] using this
/-- How many steps it is at the least. -/
def IsDist (G : PG) (dest : ByteArray) (f : ByteArray → Option Nat) : Prop := ∀ n j, f n = some j ↔ (GWay G j n dest ∧ ∀ i, GWay G i n dest → j ≤ i)
theorem IsDist.eq {G : PG} {dest : ByteArray} {f g : ByteArray → Option Nat} (h : IsDist G dest f) (k : IsDist G dest g) : f = g := by
  funext n
  cases hf : f n with
  | some j => exact ((k n j).2 ((h n j).1 hf)).symm
  | none =>
    cases hg : g n with
    | none => rfl
    | some j => rw [(h n j).2 ((k n j).1 hg)] at hf; cases hf
theorem DInv.done {G : PG} {dest : ByteArray} {d : Nat} {L : Tab} (h : DInv G dest d L []) : IsDist G dest (lk L) := by
  have hall : ∀ j n, GWay G j n dest → ∃ i, i ≤ j ∧ lk L n = some i := by
    intro j
    induction j using Nat.strongRecOn with
    | ind j ih =>
      intro n hw
      by_cases hlt : j < d
      · exact h.least n j hw hlt
      · have hd1 := h.d1
        by_cases he : j = d
        · subst he
          rcases h.all n hw with ⟨i, hi⟩ | hi
          · exact ⟨i, by have := (h.way n i hi).1; omega, hi⟩
          · cases hi
        · obtain ⟨m, h1, h2⟩ := GWay.cut (j - d) (k := d) (show GWay G (j - d + d) n dest by rw [show j - d + d = j from by omega]; exact hw) (by omega) (by omega)
          rcases h.all m h2 with ⟨i, hi⟩ | hi
          · have h3 := h.way m i hi
            obtain ⟨x, hx, h4⟩ := ih (j - d + i) (by omega) n (h1.trans h3.2)
            exact ⟨x, by omega, h4⟩
          · cases hi
  intro n j
  constructor
  · intro hj
    refine ⟨(h.way n j hj).2, fun i hi => ?_⟩
    obtain ⟨x, hx, h1⟩ := hall i n hi
    rw [hj] at h1
    cases h1
    exact hx
  · rintro ⟨hw, hl⟩
    obtain ⟨i, hi, h1⟩ := hall j n hw
    have h2 := hl i (h.way n i h1).2
    rw [h1, show i = j from by omega]
/-- The way back. -/
def backStep (G : PG) (f : ByteArray → Option Nat) (first : ByteArray) (left : Nat) (at_ : ByteArray) : Option ByteArray := (gImp G at_).find? (fun i => decide (f i = some left) && decide (i ≠ first))
def backL (G : PG) (f : ByteArray → Option Nat) (first : ByteArray) : Nat → ByteArray → List ByteArray
  | 0, _ => []
  | k + 1, a => match backStep G f first (k + 1) a with
    | some i => i :: backL G f first k i
    | none => backL G f first k a
/-- The ring that is told. -/
def RingS (G : PG) (r : List ByteArray) : Prop :=
  ((∀ n ∈ gNames G, ¬ GReach G n n) ∧ r = []) ∨ ∃ (first : ByteArray) (f : ByteArray → Option Nat) (d i : Nat), (gNames G)[i]? = some first ∧ (∀ (j : Nat) (x : ByteArray), j < i → (gNames G)[j]? = some x → ¬ GReach G x x) ∧ GReach G first first ∧ IsDist G first f ∧ f first = some d ∧ r = first :: backL G f first (d - 1) first
theorem RingS.eq {G : PG} {r s : List ByteArray} (h : RingS G r) (k : RingS G s) : r = s := by
  rcases h with ⟨h1, rfl⟩ | ⟨a, f, d, i, hi, hlt, ha, hf, hd, rfl⟩ <;> rcases k with ⟨h2, rfl⟩ | ⟨b, g, e, j, hj, klt, hb, hg, he, rfl⟩
  · rfl
  · exact absurd hb (h1 b (List.mem_of_getElem? hj))
  · exact absurd ha (h2 a (List.mem_of_getElem? hi))
  · have hij : i = j := by
      rcases Nat.lt_trichotomy i j with h | h | h
      · exact absurd ha (klt i a h hi)
      · exact h
      · exact absurd hb (hlt j b h hj)
    subst hij
    rw [hi] at hj
    cases hj
    rw [hf.eq hg] at hd ⊢
    rw [hd] at he
    cases he
    rfl
end Go.Proofs.Ytcjdpccbkfnnlaa

set_option linter.unusedVariables false
set_option linter.unusedSimpArgs false
namespace Go.Proofs.Ytcjdpccbkfnnlaa

/-- May it stand next? -/
def Elig (G : PG) (out : List ByteArray) (n : ByteArray) : Prop := n ∉ out ∧ ∀ y ∈ gImp G n, y ∈ out
theorem minus_none {l out : List ByteArray} : ((setS l).filter (fun x => !has out x)).length = 0 ↔ ∀ y ∈ l, y ∈ out := by
  rw [List.length_eq_zero_iff, List.filter_eq_nil_iff]
  constructor
  · intro h y hy
    have := h y (mem_setS.2 hy)
    cases hh : has out y with
    | true => exact has_iff.1 hh
    | false => simp [hh] at this
  · intro h y hy
    simp [has_true (h y (mem_setS.1 hy))]
structure PickS (G : PG) (out : List ByteArray) (n : ByteArray) (i : Nat) : Prop where
  at_ : (gNames G)[i]? = some n
  ok : Elig G out n
  least : ∀ (j : Nat) (x : ByteArray), j < i → (gNames G)[j]? = some x → ¬ Elig G out x
theorem PickS.eq {G : PG} {out : List ByteArray} {n m : ByteArray} {i j : Nat} (h : PickS G out n i) (k : PickS G out m j) : n = m := by
  have : i = j := by
    rcases Nat.lt_trichotomy i j with hl | hl | hl
    · exact absurd h.ok (k.least i n hl h.at_)
    · exact hl
    · exact absurd k.ok (h.least j m hl k.at_)
  subst this
  have := h.at_.symm.trans k.at_
  cases this
  rfl
/-- An order's beginning. -/
inductive OrdTo (G : PG) : List ByteArray → Prop
  | nil : OrdTo G []
  | snoc {out : List ByteArray} {n : ByteArray} {i : Nat} : OrdTo G out → PickS G out n i → OrdTo G (out ++ [n])
theorem OrdTo.inv {G : PG} {l : List ByteArray} (h : OrdTo G l) : l = [] ∨ ∃ out n i, l = out ++ [n] ∧ OrdTo G out ∧ PickS G out n i := by
  cases h with
  | nil => exact .inl rfl
  | snoc h p => exact .inr ⟨_, _, _, rfl, h, p⟩
theorem OrdTo.eq {G : PG} {a : List ByteArray} (h : OrdTo G a) : ∀ {b : List ByteArray}, OrdTo G b → a.length = b.length → a = b := by
  induction h with
  | nil =>
    intro b _ hl
    simp at hl
    exact (List.eq_nil_of_length_eq_zero hl.symm).symm
  | snoc h p ih =>
    intro b hb hl
    rcases hb.inv with rfl | ⟨out, n, i, rfl, hb, q⟩
    · simp at hl
    · have e := ih hb (by simpa using hl)
      subst e
      rw [p.eq q]
theorem OrdTo.front {G : PG} : ∀ {a b : List ByteArray}, OrdTo G (a ++ b) → OrdTo G a := by
  intro a b
  suffices h : ∀ (m : Nat) (b : List ByteArray), b.length = m → OrdTo G (a ++ b) → OrdTo G a from h _ b rfl
  intro m
  induction m with
  | zero =>
    intro b hb h
    rw [List.eq_nil_of_length_eq_zero hb, List.append_nil] at h
    exact h
  | succ m ih =>
    intro b hb h
    obtain ⟨c, x, rfl⟩ : ∃ c x, b = c ++ [x] := by
      rcases List.eq_nil_or_concat b with rfl | ⟨c, x, rfl⟩
      · simp at hb
      · exact ⟨c, x, by simp⟩
    rw [← List.append_assoc] at h
    rcases h.inv with h | ⟨out, n, i, e, h, _⟩
    · simp at h
    · have e2 := List.append_inj_left' e rfl
      rw [← e2] at h
      exact ih c (by simpa using hb) h
structure OrdOK (G : PG) (out : List ByteArray) : Prop where
  nd : out.Nodup
  sub : ∀ x ∈ out, x ∈ gNames G
  early : ∀ i (h : i < out.length), ∀ y ∈ gImp G out[i], y ∈ out.take i
theorem OrdTo.ok {G : PG} {out : List ByteArray} (h : OrdTo G out) : OrdOK G out := by
  induction h with
  | nil => exact ⟨List.nodup_nil, fun x h => (by cases h), fun i h => (by simp at h)⟩
  | @snoc out n k _ p ih =>
    refine ⟨?_, ?_, ?_⟩
    · rw [List.nodup_append]
      refine ⟨ih.nd, by simp, fun a ha b hb => ?_⟩
      have : b = n := by simpa using hb
      rintro rfl
      subst this
      exact p.ok.1 ha
    · intro x hx
      rcases List.mem_append.1 hx with hx | hx
      · exact ih.sub x hx
      · have : x = n := by simpa using hx
        subst this
        exact List.mem_of_getElem? p.at_
    · intro i hi y hy
      by_cases hlt : i < out.length
      · rw [List.getElem_append_left hlt] at hy
        rw [List.take_append_of_le_length (by omega)]
        exact ih.early i hlt y hy
      · have : i = out.length := by simp at hi; omega
        subst this
        simp at hy
        simp
        exact p.ok.2 y hy
theorem OrdOK.le {G : PG} {out : List ByteArray} (h : OrdOK G out) : out.length ≤ (gNames G).length := h.nd.length_le_of_subset h.sub
/-- What Order tells, where nothing is missing: the order, or none. -/
def OrdS (G : PG) : Option (List ByteArray) → Prop
  | some o => OrdTo G o ∧ o.length = (gNames G).length
  | none => ∃ out, OrdTo G out ∧ out.length < (gNames G).length ∧ ∀ n ∈ gNames G, ¬ Elig G out n
theorem OrdTo.beyond {G : PG} {o out : List ByteArray} (h : OrdTo G o) (k : OrdTo G out) (hl : out.length < o.length) : ∃ n ∈ gNames G, Elig G out n := by
  have h1 : OrdTo G (o.take (out.length + 1)) := OrdTo.front (b := o.drop (out.length + 1)) (by rw [List.take_append_drop]; exact h)
  rcases h1.inv with h2 | ⟨a, n, i, e, ha, p⟩
  · have h0 : (o.take (out.length + 1)).length = 0 := by rw [h2]; rfl
    rw [List.length_take] at h0
    omega
  · have hla : a.length = out.length := by
      have := congrArg List.length e
      rw [List.length_take, List.length_append] at this
      simp at this
      omega
    have := ha.eq k hla
    subst this
    exact ⟨n, List.mem_of_getElem? p.at_, p.ok⟩
theorem OrdS.eq {G : PG} {a b : Option (List ByteArray)} (h : OrdS G a) (k : OrdS G b) : a = b := by
  cases a with
  | none =>
    cases b with
    | none => rfl
    | some o =>
      obtain ⟨out, h1, h2, h3⟩ := h
      obtain ⟨n, hn, he⟩ := k.1.beyond h1 (by have := k.2; omega)
      exact absurd he (h3 n hn)
  | some o =>
    cases b with
    | none =>
      obtain ⟨out, h1, h2, h3⟩ := k
      obtain ⟨n, hn, he⟩ := h.1.beyond h1 (by have := h.2; omega)
      exact absurd he (h3 n hn)
    | some p => rw [h.1.eq k.1 (by rw [h.2, k.2])]
/-- The greatest of some, one more; 0 of none. -/
def mx (f : ByteArray → Nat) (l : List ByteArray) : Nat := l.foldl (fun k i => max k (f i + 1)) 0
theorem mx_snoc (f : ByteArray → Nat) (l : List ByteArray) (x : ByteArray) : mx f (l ++ [x]) = max (mx f l) (f x + 1) := by simp [mx, List.foldl_append]
theorem mx_le {f : ByteArray → Nat} {l : List ByteArray} {m : Nat} : mx f l ≤ m ↔ ∀ i ∈ l, f i + 1 ≤ m := by
  suffices h : ∀ q : List ByteArray, mx f q.reverse ≤ m ↔ ∀ i ∈ q.reverse, f i + 1 ≤ m by
    have := h l.reverse
    rwa [List.reverse_reverse] at this
  intro q
  induction q with
  | nil => simp [mx]
  | cons x q ih =>
    rw [List.reverse_cons, mx_snoc, Nat.max_le, ih]
    constructor
    · rintro ⟨h1, h2⟩ i hi
      rcases List.mem_append.1 hi with hi | hi
      · exact h1 i hi
      · have : i = x := by simpa using hi
        subst this
        exact h2
    · intro h
      exact ⟨fun i hi => h i (List.mem_append.2 (.inl hi)), h x (by simp)⟩
theorem mx_congr {f g : ByteArray → Nat} {l q : List ByteArray} (h : ∀ x, x ∈ l ↔ x ∈ q) (hf : ∀ x ∈ l, f x = g x) : mx f l = mx g q := by
  apply Nat.le_antisymm
  · rw [mx_le]
    intro i hi
    rw [hf i hi]
    exact (mx_le (m := mx g q)).1 (Nat.le_refl _) i ((h i).1 hi)
  · rw [mx_le]
    intro i hi
    rw [← hf i ((h i).2 hi)]
    exact (mx_le (m := mx f l)).1 (Nat.le_refl _) i ((h i).2 hi)
def lvOf (L : Tab) (s : ByteArray) : Nat := (lk L s).getD 0
/-- A node is put on its level. -/
def lvStep (G : PG) (st : Tab × List (List ByteArray)) (n : ByteArray) : Tab × List (List ByteArray) :=
  let k := mx (lvOf st.1) (gImp G n)
  let out := if k = st.2.length then st.2 ++ [[]] else st.2
  (st.1 ++ [(n, k)], out.set k (setS ((out[k]?).getD [] ++ [n])))
def lvRun (G : PG) (o : List ByteArray) : Tab × List (List ByteArray) := o.foldl (lvStep G) ([], [])
theorem lvRun_snoc (G : PG) (o : List ByteArray) (n : ByteArray) : lvRun G (o ++ [n]) = lvStep G (lvRun G o) n := by simp [lvRun, List.foldl_append]
structure LvOK (G : PG) (o : List ByteArray) (L : Tab) (out : List (List ByteArray)) : Prop where
  keys : L.map (·.1) = o
  lv : ∀ n ∈ o, lvOf L n = mx (lvOf L) (gImp G n)
  lt : ∀ n ∈ o, lvOf L n < out.length
  mem : ∀ i (h : i < out.length), ∀ x, x ∈ out[i] ↔ x ∈ o ∧ lvOf L x = i
  so : ∀ x ∈ out, Sorted x
  sum : (out.map List.length).sum = o.length
theorem lvOf_snoc {L : Tab} {n : ByteArray} {d : Nat} {s : ByteArray} (h : n ∉ L.map (·.1)) : lvOf (L ++ [(n, d)]) s = if n = s then d else lvOf L s := by
  have h0 : lk L n = none := by
    cases e : lk L n with
    | none => rfl
    | some j => exact absurd (List.mem_map.2 ⟨_, lk_mem e, rfl⟩) h
  unfold lvOf
  rw [lk_snoc _ _ _ _ h0]
  split <;> rfl
theorem sum_set : ∀ (l : List Nat) (k : Nat) (h : k < l.length) (v : Nat), (l.set k v).sum + l[k] = l.sum + v
  | x :: l, 0, _, v => by simp; omega
  | x :: l, k + 1, h, v => by
    have := sum_set l k (by simpa using h) v
    simp at this ⊢
    omega
theorem setS_len_new {l : List ByteArray} {n : ByteArray} (hs : Sorted l) (hn : n ∉ l) : (setS (l ++ [n])).length = l.length + 1 := by
  apply Nat.le_antisymm
  · have := setS_len (l ++ [n])
    simpa using this
  · have h1 : (n :: l).Nodup := List.nodup_cons.2 ⟨hn, hs.nodup⟩
    have := h1.length_le_of_subset (l₂ := setS (l ++ [n])) (fun y hy => by
      rw [mem_setS, List.mem_append]
      rcases List.mem_cons.1 hy with rfl | hy
      · exact .inr (by simp)
      · exact .inl hy)
    simpa using this
theorem lvRun_ok {G : PG} {o : List ByteArray} (h : OrdTo G o) : LvOK G o (lvRun G o).1 (lvRun G o).2 := by
  induction h with
  | nil => exact ⟨rfl, fun n h => (by cases h), fun n h => (by cases h), fun i h => (by simp [lvRun] at h), fun x h => (by simp [lvRun] at h), rfl⟩
  | @snoc out n i h p ih =>
    have hok := h.ok
    rw [lvRun_snoc]
    generalize lvRun G out = st at ih
    obtain ⟨L, lev⟩ := st
    dsimp only at ih
    have hnk : n ∉ L.map (·.1) := by rw [ih.keys]; exact p.ok.1
    have himp : ∀ y ∈ gImp G n, y ∈ out := p.ok.2
    have hk : mx (lvOf L) (gImp G n) ≤ lev.length := mx_le.2 (fun y hy => ih.lt y (himp y hy))
    unfold lvStep
    dsimp only
    generalize hkk : mx (lvOf L) (gImp G n) = k at hk
    have hlv : ∀ s, lvOf (L ++ [(n, k)]) s = if n = s then k else lvOf L s := fun s => lvOf_snoc hnk
    have hold : ∀ s ∈ out, lvOf (L ++ [(n, k)]) s = lvOf L s := fun s hs => by rw [hlv, if_neg (fun e : n = s => p.ok.1 (by rw [e]; exact hs))]
    have himps : ∀ s ∈ out, ∀ y ∈ gImp G s, y ∈ out := fun s hs y hy => by
      obtain ⟨j, hj, e⟩ := List.mem_iff_getElem.1 hs
      exact List.mem_of_mem_take (hok.early j hj y (e ▸ hy))
    generalize hlev : (if k = lev.length then lev ++ [[]] else lev) = lev'
    have hl' : lev'.length = if k = lev.length then lev.length + 1 else lev.length := by rw [← hlev]; split <;> simp
    have hkl : k < lev'.length := by rw [hl']; split <;> omega
    have hle : lev.length ≤ lev'.length := by rw [hl']; split <;> omega
    have hso' : ∀ x ∈ lev', Sorted x := fun x hx => by
      rw [← hlev] at hx
      split at hx
      · rcases List.mem_append.1 hx with hx | hx
        · exact ih.so x hx
        · have : x = [] := by simpa using hx
          subst this
          exact Sorted.nil
      · exact ih.so x hx
    have hmem' : ∀ i (h : i < lev'.length), ∀ x, x ∈ lev'[i] ↔ x ∈ out ∧ lvOf L x = i := fun i hi x => by
      by_cases hlt : i < lev.length
      · have e : lev'[i] = lev[i] := by
          subst hlev
          split
          · rw [List.getElem_append_left hlt]
          · rfl
        rw [e, ih.mem i hlt x]
      · have hke : k = lev.length := by
          apply Classical.byContradiction
          intro hne
          rw [hl', if_neg hne] at hi
          omega
        have e : lev'[i]? = some [] := by
          rw [← hlev, if_pos hke]
          have : i = lev.length := by rw [hl', if_pos hke] at hi; omega
          subst this
          simp
        rw [List.getElem?_eq_some_iff] at e
        obtain ⟨_, e⟩ := e
        rw [e]
        refine ⟨fun h => (by cases h), fun ⟨h1, h2⟩ => ?_⟩
        have := ih.lt x h1
        omega
    have hsum' : (lev'.map List.length).sum = out.length := by
      rw [← ih.sum, ← hlev]
      split <;> simp
    have hgk : (lev'[k]?).getD [] = lev'[k] := by simp [hkl]
    rw [hgk]
    refine ⟨?_, ?_, ?_, ?_, ?_, ?_⟩
    · simp [ih.keys]
    · intro s hs
      rcases List.mem_append.1 hs with hs | hs
      · rw [hold s hs, ih.lv s hs]
        exact mx_congr (fun _ => Iff.rfl) (fun y hy => (hold y (himps s hs y hy)).symm)
      · have : s = n := by simpa using hs
        subst this
        rw [hlv, if_pos rfl, ← hkk]
        exact mx_congr (fun _ => Iff.rfl) (fun y hy => by rw [hkk]; exact (hold y (himp y hy)).symm)
    · intro s hs
      rw [List.length_set]
      rcases List.mem_append.1 hs with hs | hs
      · rw [hold s hs]
        have := ih.lt s hs
        omega
      · have : s = n := by simpa using hs
        subst this
        rw [hlv, if_pos rfl]
        exact hkl
    · intro j hj x
      rw [List.length_set] at hj
      rw [List.getElem_set, hlv]
      by_cases hxn : n = x
      · subst hxn
        rw [if_pos rfl]
        split
        · rename_i e
          rw [mem_setS]
          simp [e]
        · rename_i e
          rw [hmem' j hj n]
          refine ⟨fun h => absurd h.1 p.ok.1, fun h => absurd h.2 e⟩
      · rw [if_neg hxn]
        have hxn' : ¬ x = n := fun e => hxn e.symm
        split
        · rename_i e
          rw [mem_setS, List.mem_append, hmem' k hkl x, e]
          simp [hxn']
        · rename_i e
          rw [hmem' j hj x]
          simp [hxn']
    · intro x hx
      rcases List.mem_or_eq_of_mem_set hx with hx | rfl
      · exact hso' x hx
      · exact setS_sorted _
    · have hnl : n ∉ lev'[k] := fun h => p.ok.1 ((hmem' k hkl n).1 h).1
      have h1 := sum_set (lev'.map List.length) k (by simpa using hkl) (setS (lev'[k] ++ [n])).length
      rw [List.map_set, List.length_append, ← hsum']
      rw [setS_len_new (hso' _ (List.getElem_mem hkl)) hnl] at h1 ⊢
      simp only [List.getElem_map] at h1
      simp
      omega
theorem lvStep_len (G : PG) (st : Tab × List (List ByteArray)) (n : ByteArray) : (lvStep G st n).2.length ≤ st.2.length + 1 := by
  unfold lvStep
  dsimp only
  rw [List.length_set]
  split <;> simp
theorem lvRun_len (G : PG) (o : List ByteArray) : ∀ k, (lvRun G (o.take k)).2.length ≤ k
  | 0 => by simp [lvRun]
  | k + 1 => by
    by_cases h : k < o.length
    · rw [List.take_succ_eq_append_getElem h, lvRun_snoc]
      exact Nat.le_trans (lvStep_len _ _ _) (Nat.succ_le_succ (lvRun_len G o k))
    · rw [List.take_of_length_le (by omega)]
      have := lvRun_len G o k
      rw [List.take_of_length_le (by omega)] at this
      omega
/-- Is something missing? -/
def Missing (G : PG) : Prop := ∃ n y, y ∈ gImp G n ∧ y ∉ gNames G
end Go.Proofs.Ytcjdpccbkfnnlaa

set_option linter.unusedVariables false
set_option linter.unusedSimpArgs false
namespace Go.Proofs.Ytcjdpccbkfnnlaa
open Go.Maps Go.ChangeMaps Go.RowKit Go.WideMaps

def heldV (v : Value) : Option (DataW Value × List MemPlace) := some (.held v, [])
def kb (s : ByteArray) : Lit := .string (bl s)
theorem kb_inj {a b : ByteArray} (h : kb a = kb b) : a = b := by unfold kb at h; injection h with h; exact bl_inj h
section
variable {P : Program} {t k e : TypeId} {w w1 : World} {b n : Nat} {f : ByteArray → Option Value}
theorem keyOf_kb (hk : P.underlying k = some .string) {s : ByteArray} (hs : s.size ≤ maxLen) : keyOf P k (.string s) = some (kb s) := keyOf_string_mk hk hs
/-- Block b of w is a map of at most n entries, told by f. -/
def MapV (P : Program) (k : TypeId) (w : World) (b n : Nat) (f : ByteArray → Option Value) : Prop :=
  ∃ D : DataW Value, w.ownsMap P k heldV b n D ∧ (∀ s, Maps.has D (kb s) = (f s).isSome) ∧ ∀ s v, f s = some v → ∀ z, D.atKey (kb s) z = .held v
theorem MapV.made (P : Program) (k : TypeId) (w : World) : MapV P k (w.alloc (.map #[] 0)) w.heap.size 0 (fun _ => none) :=
  ⟨.map [], World.ownsMap_made w P k heldV, fun s => rfl, fun s v h => by cases h⟩
theorem MapV.lt (h : MapV P k w b n f) : b < w.heap.size := by obtain ⟨D, h, _⟩ := h; exact h.lt
theorem MapV.block (h : MapV P k w b n f) (hb : w1.heap[b]? = w.heap[b]?) : MapV P k w1 b n f := by
  obtain ⟨D, ⟨es, clock, h, h3⟩, h1, h2⟩ := h
  exact ⟨D, ⟨es, clock, hb.trans h, h3⟩, h1, h2⟩
theorem MapV.below (h : MapV P k w b n f) (hb : Below w.heap.size w w1) : MapV P k w1 b n f := h.block (hb.block b h.lt)
theorem MapV.congr {g : ByteArray → Option Value} (h : MapV P k w b n f) (hg : ∀ s, f s = g s) : MapV P k w b n g := by
  obtain ⟨D, h, h1, h2⟩ := h
  exact ⟨D, h, fun s => by rw [h1, hg], fun s v hv => h2 s v (by rw [hg]; exact hv)⟩
theorem heldV_inj {v : Value} {d : DataW Value} {ps : List MemPlace} (h : heldV v = some (d, ps)) : d = .held v := by unfold heldV at h; simp at h; exact h.1.symm
theorem MapV.look (h : MapV P k w b n f) (hk : P.underlying k = some .string) (ht : P.underlying t = some (.map k e)) {z : Value} (hz : (zeroValue e).run P w = .ok z w) {s : ByteArray} (hs : s.size ≤ maxLen) :
    (Instr.lookup t (.map (some b)) (.string s) false).run P w = .ok ((f s).getD z) w := by
  obtain ⟨D, h, h1, h2⟩ := h
  obtain ⟨v, ps, hr, hv⟩ := h.lookup (string_keyed hk) ht hz (R := heldV) (zd := .held z) (zp := []) rfl (keyOf_kb hk hs)
  rw [hr]
  have hv2 := heldV_inj hv
  congr 1
  cases hf : f s with
  | some u =>
    rw [h2 s u hf] at hv2
    injection hv2 with hv2
    exact hv2.symm
  | none =>
    rw [Maps.atKey_of_not_has (by rw [h1, hf]; rfl)] at hv2
    injection hv2 with hv2
    exact hv2.symm
theorem MapV.look_ok (h : MapV P k w b n f) (hk : P.underlying k = some .string) (ht : P.underlying t = some (.map k e)) {z : Value} (hz : (zeroValue e).run P w = .ok z w) {s : ByteArray} (hs : s.size ≤ maxLen) :
    (Instr.lookup t (.map (some b)) (.string s) true).run P w = .ok (.tuple #[(f s).getD z, .bool (f s).isSome]) w := by
  obtain ⟨D, h, h1, h2⟩ := h
  obtain ⟨v, ps, hr, hv⟩ := h.look_ok (string_keyed hk) ht hz (R := heldV) (zd := .held z) (zp := []) rfl (keyOf_kb hk hs)
  rw [hr, h1 s]
  have hv2 := heldV_inj hv
  have : v = (f s).getD z := by
    cases hf : f s with
    | some u =>
      rw [h2 s u hf] at hv2
      injection hv2 with hv2
      exact hv2.symm
    | none =>
      rw [Maps.atKey_of_not_has (by rw [h1, hf]; rfl)] at hv2
      injection hv2 with hv2
      exact hv2.symm
  rw [this]
theorem isKey_kb (s : ByteArray) : WideAt.IsKeyLit (kb s) := trivial
theorem MapV.put (h : MapV P k w b n f) (hk : P.underlying k = some .string) (ht : P.underlying t = some (.map k e)) (hn : n < maxLen) {s : ByteArray} (hs : s.size ≤ maxLen) (v : Value) :
    ∃ w', (Instr.mapUpdate t (.map (some b)) (.string s) v).run P w = .ok () w' ∧ MapV P k w' b (n + 1) (fun x => if x = s then some v else f x) ∧ w.grownBy w' (some b) := by
  obtain ⟨D, h, h1, h2⟩ := h
  obtain ⟨w', hr, h', hg⟩ := h.update (string_keyed hk) ht hn (keyOf_kb hk hs) (d := .held v) (ps := []) (val := v) rfl
  refine ⟨w', hr, ⟨_, h', fun x => ?_, fun x u hx z => ?_⟩, hg⟩
  · by_cases e0 : x = s
    · subst e0
      rw [Maps.has_put_same h.isMap (isKey_kb x)]
      simp
    · rw [Maps.has_put_other (fun h => e0 (kb_inj h)), h1]
      simp [e0]
  · by_cases e0 : x = s
    · subst e0
      simp at hx
      subst hx
      exact Maps.atKey_put_same h.isMap (isKey_kb x) _ _
    · simp [e0] at hx
      rw [Maps.atKey_put_other (fun h => e0 (kb_inj h))]
      exact h2 x u hx z
/-- 'm[k] = v' at the operation: the guard is 'at_mapUpdate'. -/
theorem wpList_put (w : World) {ops : Array Oper} {rest : List Oper} {o : Oper} {a : Act} {Q : Exit → Act → World → Prop} (hg : o.guard = none) (m x v : Operand) (t e : TypeId) (hop : o.op = Op.mapUpdate t m x v) (hk : P.underlying k = some .string) (ht : P.underlying t = some (.map k e))
    (hm : a.eval m = .map (some b)) (hown : MapV P k w b n f) (hn : n < maxLen) (s : ByteArray) (val : Value) (hs : s.size ≤ maxLen) (hx : a.eval x = .string s) (hv : a.eval v = val)
    (hK : ∀ w', MapV P k w' b (n + 1) (fun y => if y = s then some val else f y) → w.grownBy w' (some b) → wpList P ops Q rest (a.put o.dst undef) w') : wpList P ops Q (o :: rest) a w := by
  refine wpList_plain hg fun K' hK' => ?_
  obtain ⟨w', hrun, r1, r2⟩ := hown.put hk ht hn hs val
  unfold Oper.wp
  simp [execOp, hop, hm, hx, hv, hrun, Result.andThen]
  exact hK' _ _ (hK w' r1 r2)
/-- What a map's keys are, whoever hands them out. -/
theorem MapV.keys {D : DataW Value} (h : w.ownsMap P k heldV b n D) (hk : P.underlying k = some .string) (h1 : ∀ s, Maps.has D (kb s) = (f s).isSome) {ss : List BL} (hp : ss.Perm (strKeys D)) {l : List ByteArray} (hl : Sorted l) (hm : ∀ s, s ∈ l ↔ (f s).isSome = true) :
    ss.mergeSort (fun x y => decide (x ≤ y)) = l.map bl := by
  obtain ⟨es, rfl, hpw, _⟩ := h.entries (string_keyed hk)
  obtain ⟨es', he', hko⟩ := h.keysOf
  injection he' with he'
  subst he'
  have hnd : (l.map bl).Nodup := by
    unfold Sorted at hl
    refine List.Pairwise.imp ?_ hl
    intro a b hab e
    subst e
    exact BL.lt_irrefl _ hab
  have hpm : (l.map bl).Perm (strKeys (.map es)) := perm_strKeys hpw (fun p hp' => by
    obtain ⟨v, hv⟩ := hko p hp'
    obtain ⟨x, _, hx, _⟩ := Maps.keyOf_str hk hv
    exact ⟨x, hx⟩) hnd (fun x => by
    rw [← bl_tx x, mem_map_bl, hm, ← h1]
    rfl)
  have e1 := mergeSort_of_perm (hp.trans hpm.symm)
  have e2 : (l.map bl).mergeSort leB = l.map bl := List.mergeSort_of_pairwise (by
    unfold Sorted at hl
    refine List.Pairwise.imp ?_ hl
    intro a b hab
    simp only [leB, decide_eq_true_eq]
    exact BL.lt_asymm hab)
  exact e1.trans e2
/-- How many keys a map has. -/
theorem MapV.size {D : DataW Value} (h : w.ownsMap P k heldV b n D) (hk : P.underlying k = some .string) (h1 : ∀ s, Maps.has D (kb s) = (f s).isSome) {l : List ByteArray} (hl : Sorted l) (hm : ∀ s, s ∈ l ↔ (f s).isSome = true) : Maps.size D = l.length := by
  have hk2 := MapV.keys (f := f) h hk h1 (List.Perm.refl _) hl hm
  have := congrArg List.length hk2
  rw [List.length_mergeSort, List.length_map] at this
  obtain ⟨es, rfl, _⟩ := h.entries (string_keyed hk)
  rw [← this]
  simp [strKeys, Maps.size]
end
end Go.Proofs.Ytcjdpccbkfnnlaa

set_option linter.unusedVariables false
set_option linter.unusedSimpArgs false
namespace Go.Proofs.Ytcjdpccbkfnnlaa
open Go.RowKit Go.Sort Go.Proofs.YtcjdpccbkfnnlaaW.PrintWords

/-- A graph in memory: p the struct's block. -/
structure GMem (w : World) (p : Nat) (G : PG) : Prop where
  ok : GOK G
  small : ∀ q ∈ G, q.1.size ≤ 32 ∧ ∀ x ∈ q.2, x.size ≤ 32
  mem : ∃ b n f, w.heap[p]? = some (.cells #[.map (some b)] 57 (0, 0)) ∧ MapV Try.prog 9 w b n f ∧ n ≤ 32 ∧ (∀ s, s ∈ gNames G ↔ (f s).isSome = true) ∧ ∀ s v, f s = some v → ∃ A c, v = .slice A (gImp G s).length c ∧ (gImp G s).length ≤ c ∧ KS.C w A (gImp G s).length (gImp G s)
theorem GMem.below {w w' : World} {p : Nat} {G : PG} (h : GMem w p G) (hb : Below w.heap.size w w') : GMem w' p G := by
  obtain ⟨ok, small, b, n, f, h1, h2, h3, h4, h5⟩ := h
  exact ⟨ok, small, b, n, f, (hb.block p (blk_lt h1)).trans h1, h2.below hb, h3, h4, fun s v hv => by
    obtain ⟨A, c, e1, e2, e3⟩ := h5 s v hv
    exact ⟨A, c, e1, e2, Kd.C_below e3 hb⟩⟩
theorem GMem.name_small {w : World} {p : Nat} {G : PG} (h : GMem w p G) {s : ByteArray} (hs : s ∈ gNames G) : s.size ≤ 32 := by
  obtain ⟨q, hq, rfl⟩ := List.mem_map.1 hs
  exact (h.small q hq).1
theorem GMem.imp_small {w : World} {p : Nat} {G : PG} (h : GMem w p G) {s x : ByteArray} (hx : x ∈ gImp G s) : x.size ≤ 32 := by
  rcases gImp_mem (G := G) s with h0 | ⟨q, hq, _, h1⟩
  · rw [h0] at hx; cases hx
  · rw [h1] at hx
    exact (h.small q hq).2 x hx
theorem KS_C_nil (w : World) : KS.C w none ([] : List ByteArray).length [] := (Kd.R_reads' (Kd.R_nil KS 9 w 0 (fun _ => True))).2.2
theorem zero_strs (w : World) : (zeroValue 30).run Try.prog w = .ok (.slice none 0 0) w := by kernel_rfl
theorem zero_int (w : World) : (zeroValue 3).run Try.prog w = .ok (.int .i64 0) w := by kernel_rfl
/-- What the walk asks of a graph: its cell, what a look-up finds. -/
theorem GMem.cell {w : World} {p : Nat} {G : PG} (h : GMem w p G) {s : ByteArray} (hs : s.size ≤ 9223372036854775807) : ∃ b A c, w.cell? ⟨p, 0, none⟩ = some (.map (some b)) ∧
    (Instr.lookup 55 (.map (some b)) (.string s) false).run Try.prog w = .ok (.slice A (gImp G s).length c) w ∧
    (Instr.lookup 55 (.map (some b)) (.string s) true).run Try.prog w = .ok (.tuple #[.slice A (gImp G s).length c, .bool (has (gNames G) s)]) w ∧ (gImp G s).length ≤ c ∧ KS.C w A (gImp G s).length (gImp G s) := by
  obtain ⟨b, n, f, h1, h2, h3, h4, h5⟩ := h.mem
  have k1 := h2.look (t := 55) (e := 30) (z := .slice none 0 0) Try.underlying9 Try.underlying55 (zero_strs w) hs
  have k2 := h2.look_ok (t := 55) (e := 30) (z := .slice none 0 0) Try.underlying9 Try.underlying55 (zero_strs w) hs
  have hc : w.cell? ⟨p, 0, none⟩ = some (.map (some b)) := by have := cell_of_row _ _ 0 _ _ _ h1; simpa using this
  have hh : has (gNames G) s = (f s).isSome := by
    cases hf : (f s).isSome with
    | true => exact has_true ((h4 s).2 hf)
    | false => exact has_false (fun h => by rw [(h4 s).1 h] at hf; cases hf)
  rw [hh]
  cases hf : f s with
  | some v =>
    obtain ⟨A, c, e1, e2, e3⟩ := h5 s v hf
    rw [hf, Option.getD_some, e1] at k1 k2
    exact ⟨b, A, c, hc, k1, k2, e2, e3⟩
  | none =>
    have hn : s ∉ gNames G := fun h => by have := (h4 s).1 h; rw [hf] at this; cases this
    have h0 := gImp_none hn
    rw [hf, Option.getD_none] at k1 k2
    rw [h0]
    exact ⟨b, none, 0, hc, k1, k2, Nat.le_refl _, KS_C_nil w⟩
/-- A graph's value: none, or a pointer to one. -/
def GP (w : World) (v : Value) (G : PG) : Prop := (v = .pointer none ∧ G = []) ∨ ∃ p, v = .pointer (some ⟨p, 0, none⟩) ∧ GMem w p G
theorem GP.below {w w' : World} {v : Value} {G : PG} (h : GP w v G) (hb : Below w.heap.size w w') : GP w' v G := by
  rcases h with h | ⟨p, rfl, h⟩
  · exact .inl h
  · exact .inr ⟨p, rfl, h.below hb⟩
theorem GOK.nil : GOK [] := ⟨Sorted.nil, fun _ h => (by cases h), by simp, fun _ h => (by cases h)⟩
theorem GP.ok {w : World} {v : Value} {G : PG} (h : GP w v G) : GOK G := by
  rcases h with ⟨_, rfl⟩ | ⟨p, _, h⟩
  · exact GOK.nil
  · exact h.ok
theorem GP.name_small {w : World} {v : Value} {G : PG} (h : GP w v G) {s : ByteArray} (hs : s ∈ gNames G) : s.size ≤ 32 := by
  rcases h with ⟨_, rfl⟩ | ⟨p, _, h⟩
  · cases hs
  · exact h.name_small hs
theorem GP.imp_small {w : World} {v : Value} {G : PG} (h : GP w v G) {s x : ByteArray} (hx : x ∈ gImp G s) : x.size ≤ 32 := by
  rcases h with ⟨_, rfl⟩ | ⟨p, _, h⟩
  · cases hx
  · exact h.imp_small hx
/-- A new list of texts. -/
def NewL (w w' : World) (e : Ending) (l : List ByteArray) : Prop := ∃ A c, e = .returned (.slice A l.length c) ∧ KS.R 9 w' w.heap.size (fun k => w.heap.size ≤ k) (.slice A l.length c) l ∧ Below w.heap.size w w'
theorem has_any {w : World} {v : Value} {G : PG} (h : GP w v G) {s : ByteArray} (hs : s.size ≤ 9223372036854775807) : Calls Try.prog 26 #[v, .string s] w fun e w' => e = .returned (.bool (has (gNames G) s)) ∧ w = w' := by
  rcases h with ⟨rfl, rfl⟩ | ⟨p, rfl, h⟩
  · have hh : has (gNames []) s = false := has_false (fun h => by cases h)
    rw [hh]
    go_enter Try.func26, Try.ntmps26
    go_wp2
    go_ret
    exact ⟨rfl, rfl⟩
  · obtain ⟨b, A, c, h1, _, h2, _, _⟩ := h.cell hs
    go_enter Try.func26, Try.ntmps26
    go_wp2
    go_ret
    exact ⟨rfl, rfl⟩
theorem imports_any {w : World} {v : Value} {G : PG} (h : GP w v G) {s : ByteArray} (hs : s.size ≤ 9223372036854775807) : Calls Try.prog 16 #[v, .string s] w fun e w' => NewL w w' e (gImp G s) := by
  rcases h with ⟨rfl, rfl⟩ | ⟨p, rfl, h⟩
  · go_enter Try.func16, Try.ntmps16
    go_wp2
    go_ret
    exact ⟨none, 0, rfl, Kd.R_nil _ _ _ _ _, Below.refl _ _⟩
  · obtain ⟨b, A, c, h1, h2, _, h3, h4⟩ := h.cell hs
    have hc := clone_any (c := c) h4 (by have := h.ok.imp_short s; omega)
    go_enter Try.func16, Try.ntmps16
    go_wp2_with fail
    refine hc.mono ?_
    rintro e w1 ⟨A', c', rfl, hR, hb⟩
    go_wp2
    go_ret
    exact ⟨A', c', rfl, hR, hb⟩
end Go.Proofs.Ytcjdpccbkfnnlaa

namespace Go.Proofs
open Go.Shelf
def Try.keys29_ren : Go.Shelf.Ren := ⟨fun | 7 => 29 | 10 => 42 | n => n, fun | 23 => 55 | 26 => 9 | 3 => 30 | 28 => 61 | 0 => 0 | 27 => 60 | 33 => 58 | 4 => 4 | n => n, fun | n => n⟩
theorem Try.keys29 : Go.Proofs.SlLaysZ.n7 Try.prog Try.keys29_ren := {
  mixed := by kernel_rfl
  f7 := ⟨Try.f29.name, by decide, Try.func29.trans (congrArg some (by kernel_rfl))⟩
  f10 := ⟨Try.f42.name, by decide, Try.func42.trans (congrArg some (by kernel_rfl))⟩
  t0 := Try.underlying0
  a0 := Try.isAgg0
  z0 := Try.sizeOf0
  v0 := Try.zeroValue0
  t4 := Try.underlying4
  a4 := Try.isAgg4
  z4 := Try.sizeOf4
  v4 := Try.zeroValue4
  t23 := Try.underlying55
  a23 := Try.isAgg55
  z23 := Try.sizeOf55
  v23 := Try.zeroValue55
  t26 := Try.underlying9
  a26 := Try.isAgg9
  z26 := Try.sizeOf9
  v26 := Try.zeroValue9
  t27 := Try.underlying60
  a27 := Try.isAgg60
  z27 := Try.sizeOf60
  v27 := Try.zeroValue60
  t28 := Try.underlying61
  a28 := Try.isAgg61
  z28 := Try.sizeOf61
  v28 := Try.zeroValue61
  t33 := Try.underlying58
  a33 := Try.isAgg58
  z33 := Try.sizeOf58
  v33 := Try.zeroValue58 }
def Try.sorted28_ren : Go.Shelf.Ren := ⟨fun | 6 => 28 | 8 => 40 | 9 => 41 | 11 => 49 | 13 => 51 | 12 => 50 | 23 => 61 | 24 => 62 | 14 => 52 | 15 => 53 | 16 => 54 | 17 => 55 | 18 => 56 | 19 => 57 | 20 => 58 | 21 => 59 | 22 => 60 | 25 => 63 | 26 => 64 | 27 => 65 | 28 => 66 | 29 => 67 | 30 => 68 | 31 => 69 | n => n, fun | 26 => 9 | 28 => 61 | 24 => 30 | 0 => 0 | 3 => 3 | 37 => 76 | 48 => 86 | 50 => 88 | 4 => 4 | 40 => 79 | 39 => 78 | 45 => 72 | 5 => 5 | 9 => 9 | 51 => 89 | 55 => 93 | 57 => 95 | 58 => 96 | 33 => 58 | n => n, fun | n => n⟩
theorem Try.sorted28 : Go.Proofs.SlLaysZ.n6 Try.prog Try.sorted28_ren := {
  mixed := by kernel_rfl
  f6 := ⟨Try.f28.name, by decide, Try.func28.trans (congrArg some (by kernel_rfl))⟩
  f8 := ⟨Try.f40.name, by decide, Try.func40.trans (congrArg some (by kernel_rfl))⟩
  f11 := ⟨Try.f49.name, by decide, Try.func49.trans (congrArg some (by kernel_rfl))⟩
  t0 := Try.underlying0
  a0 := Try.isAgg0
  z0 := Try.sizeOf0
  v0 := Try.zeroValue0
  t24 := Try.underlying30
  a24 := Try.isAgg30
  z24 := Try.sizeOf30
  v24 := Try.zeroValue30
  t26 := Try.underlying9
  a26 := Try.isAgg9
  z26 := Try.sizeOf9
  v26 := Try.zeroValue9
  t28 := Try.underlying61
  a28 := Try.isAgg61
  z28 := Try.sizeOf61
  v28 := Try.zeroValue61
  i26 := by kernel_rfl }
def Try.sort41_ren : Go.Shelf.Ren := ⟨fun | 6 => 41 | 8 => 51 | 9 => 50 | 19 => 61 | 20 => 62 | 21 => 52 | 22 => 53 | 23 => 54 | 24 => 55 | 25 => 56 | 26 => 57 | 27 => 58 | 28 => 59 | 29 => 60 | 36 => 63 | 31 => 64 | 32 => 65 | 37 => 66 | 38 => 67 | 39 => 68 | 41 => 69 | n => n, fun | 27 => 30 | 29 => 9 | 3 => 3 | 32 => 76 | 26 => 30 | 0 => 0 | 44 => 86 | 46 => 88 | 4 => 4 | 36 => 79 | 35 => 78 | 41 => 72 | 5 => 5 | 9 => 9 | 53 => 89 | 57 => 93 | 63 => 95 | 64 => 96 | n => n, fun | n => n⟩
theorem Try.sort41 : Go.Proofs.SlLaysM.n6 Try.prog Try.sort41_ren := {
  mixed := by kernel_rfl
  f6 := ⟨Try.f41.name, by decide, Try.func41.trans (congrArg some (by kernel_rfl))⟩
  f8 := Try.func51.trans (congrArg some (by kernel_rfl))
  f9 := ⟨Try.f50.name, by decide, Try.func50.trans (congrArg some (by kernel_rfl))⟩
  f19 := Try.func61.trans (congrArg some (by kernel_rfl))
  f20 := Try.func62.trans (congrArg some (by kernel_rfl))
  f21 := ⟨Try.f52.name, by decide, Try.func52.trans (congrArg some (by kernel_rfl))⟩
  f22 := ⟨Try.f53.name, by decide, Try.func53.trans (congrArg some (by kernel_rfl))⟩
  f23 := ⟨Try.f54.name, by decide, Try.func54.trans (congrArg some (by kernel_rfl))⟩
  f24 := ⟨Try.f55.name, by decide, Try.func55.trans (congrArg some (by kernel_rfl))⟩
  f25 := ⟨Try.f56.name, by decide, Try.func56.trans (congrArg some (by kernel_rfl))⟩
  f26 := ⟨Try.f57.name, by decide, Try.func57.trans (congrArg some (by kernel_rfl))⟩
  f27 := ⟨Try.f58.name, by decide, Try.func58.trans (congrArg some (by kernel_rfl))⟩
  f28 := ⟨Try.f59.name, by decide, Try.func59.trans (congrArg some (by kernel_rfl))⟩
  f29 := ⟨Try.f60.name, by decide, Try.func60.trans (congrArg some (by kernel_rfl))⟩
  f31 := Try.func64.trans (congrArg some (by kernel_rfl))
  f32 := Try.func65.trans (congrArg some (by kernel_rfl))
  f36 := ⟨Try.f63.name, by decide, Try.func63.trans (congrArg some (by kernel_rfl))⟩
  f37 := ⟨Try.f66.name, by decide, Try.func66.trans (congrArg some (by kernel_rfl))⟩
  f38 := ⟨Try.f67.name, by decide, Try.func67.trans (congrArg some (by kernel_rfl))⟩
  f39 := ⟨Try.f68.name, by decide, Try.func68.trans (congrArg some (by kernel_rfl))⟩
  f41 := ⟨Try.f69.name, by decide, Try.func69.trans (congrArg some (by kernel_rfl))⟩
  t0 := Try.underlying0
  a0 := Try.isAgg0
  z0 := Try.sizeOf0
  v0 := Try.zeroValue0
  t3 := Try.underlying3
  a3 := Try.isAgg3
  z3 := Try.sizeOf3
  v3 := Try.zeroValue3
  t4 := Try.underlying4
  a4 := Try.isAgg4
  z4 := Try.sizeOf4
  v4 := Try.zeroValue4
  t5 := Try.underlying5
  a5 := Try.isAgg5
  z5 := Try.sizeOf5
  v5 := Try.zeroValue5
  t9 := Try.underlying9
  a9 := Try.isAgg9
  z9 := Try.sizeOf9
  v9 := Try.zeroValue9
  t26 := Try.underlying30
  a26 := Try.isAgg30
  z26 := Try.sizeOf30
  v26 := Try.zeroValue30
  t27 := Try.underlying30
  a27 := Try.isAgg30
  z27 := Try.sizeOf30
  v27 := Try.zeroValue30
  t29 := Try.underlying9
  a29 := Try.isAgg9
  z29 := Try.sizeOf9
  v29 := Try.zeroValue9
  t32 := Try.underlying76
  a32 := Try.isAgg76
  z32 := Try.sizeOf76
  v32 := Try.zeroValue76
  t35 := Try.underlying78
  a35 := Try.isAgg78
  z35 := Try.sizeOf78
  v35 := Try.zeroValue78
  t36 := Try.underlying79
  a36 := Try.isAgg79
  z36 := Try.sizeOf79
  v36 := Try.zeroValue79
  t41 := Try.underlying72
  a41 := Try.isAgg72
  z41 := Try.sizeOf72
  v41 := Try.zeroValue72
  t44 := Try.underlying86
  a44 := Try.isAgg86
  z44 := Try.sizeOf86
  v44 := Try.zeroValue86
  t46 := Try.underlying88
  a46 := Try.isAgg88
  z46 := Try.sizeOf88
  v46 := Try.zeroValue88
  t53 := Try.underlying89
  a53 := Try.isAgg89
  z53 := Try.sizeOf89
  v53 := Try.zeroValue89
  t57 := Try.underlying93
  a57 := Try.isAgg93
  z57 := Try.sizeOf93
  v57 := Try.zeroValue93
  t63 := Try.underlying95
  a63 := Try.isAgg95
  z63 := Try.sizeOf95
  v63 := Try.zeroValue95
  t64 := Try.underlying96
  a64 := Try.isAgg96
  z64 := Try.sizeOf96
  v64 := Try.zeroValue96 }
open Go.RowKit Go.Maps Go.Sort in
theorem Try.sorts28 (m : Nat) : AnyZ.SortsIn Try.prog Try.sorted28_ren Fence.wide m :=
  ⟨fun blk off cap ss W hH hblk hsz => callsIn_wide.2 (AnyM.slices_Sort_string Try.sort41 blk off cap ss W hH hblk hsz),
   fun p cap W => callsIn_wide.2 (AnyM.slices_Sort_string_none Try.sort41 p cap W)⟩
open Go.RowKit Go.Maps Go.Sort in
theorem Try.maps_Keys_29 (mb : Option Nat) (W : World) : CallsIn Fence.wide 5 Try.prog 29 #[.map mb] W fun e w' => e = .returned (.func (.func 42) #[] #[.pointer (some ⟨W.heap.size, 0, none⟩)]) ∧ w' = W.alloc (.cells #[.map mb] 55) :=
  AnyZ.keys_in Try.keys29 Fence.wide 5 trivial rfl mb W
set_option maxHeartbeats 1000000 in
open Go.RowKit Go.Maps Go.Sort in
theorem Try.slices_Sorted_keys_28_29 {H : Type} (b nn : Nat) (D0 : DataW H) (R : Value → Option (DataW H × List MemPlace)) (w : World) (hown : w.ownsMap Try.prog 9 R b nn D0) (hmax : Maps.size D0 ≤ maxLen) (hbytes : Maps.size D0 * 16 ≤ 140737488355328) :
    CallsIn Fence.wide 5 Try.prog 28 #[.func (.func 42) #[] #[.pointer (some ⟨w.heap.size, 0, none⟩)]] (w.alloc (.cells #[.map (some b)] 55)) fun e w' => ∃ (v : Value) (ss : List (List UInt8)), e = .returned v ∧ ss.Perm (strKeys D0) ∧
      w'.ownsRow (w.alloc (.cells #[.map (some b)] 55)).heap.size 9 1 v ss.length ((ss.mergeSort (fun x y => decide (x ≤ y))).map encStr) ∧ (v = .slice none 0 0 ↔ ss = []) ∧ Below (w.alloc (.cells #[.map (some b)] 55)).heap.size (w.alloc (.cells #[.map (some b)] 55)) w' := by
  have hbl := hown.lt
  have hseq : SeqGives Fence.wide 2 Try.prog 42 #[.pointer (some ⟨w.heap.size, 0, none⟩)] encStr (fun ss => ss.Perm (strKeys D0)) (Maps.size D0) (w.alloc (.cells #[.map (some b)] 55)) :=
    AnyZ.keys_gives (ρ := Try.keys29_ren) { Try.keys29 with } Fence.wide _ trivial rfl (by omega) w.heap.size b nn D0 _ (by simp) (by simp) (by
      obtain ⟨es, clock, hb, Ft, hs, hD⟩ := hown
      exact ⟨es, clock, (Below.heap_alloc _ _ b hbl).trans hb, Ft, hs, hD⟩)
  exact AnyZ.sorted_in Try.sorted28 Fence.wide 5 trivial trivial trivial trivial rfl (by omega) (Try.sorts28 _) (enters_of Try.func41 (by kernel_rfl) rfl) 42 #[.pointer (some ⟨w.heap.size, 0, none⟩)] trivial (enters_of Try.func42 (by kernel_rfl) rfl) _ _ hmax hbytes _ hseq
end Go.Proofs

set_option linter.unusedVariables false
set_option linter.unusedSimpArgs false
namespace Go.Proofs.Ytcjdpccbkfnnlaa
open Go.RowKit Go.Sort Go.Proofs.YtcjdpccbkfnnlaaW.PrintWords

set_option maxRecDepth 100000 in
set_option maxHeartbeats 1000000 in
theorem names_any {w : World} {v : Value} {G : PG} (h : GP w v G) : Calls Try.prog 11 #[v] w fun e w' => NewL w w' e (gNames G) := by
  rcases h with ⟨rfl, rfl⟩ | ⟨p, rfl, h⟩
  · go_enter Try.func11, Try.ntmps11
    go_wp2
    go_ret
    exact ⟨none, 0, rfl, Kd.R_nil _ _ _ _ _, Below.refl _ _⟩
  · obtain ⟨b, n, f, h1, ⟨D, hown, hh, _⟩, h3, h4, h5⟩ := h.mem
    have hc : w.cell? ⟨p, 0, none⟩ = some (.map (some b)) := by have := cell_of_row _ _ 0 _ _ _ h1; simpa using this
    have hsz := MapV.size hown Try.underlying9 hh h.ok.names h4
    have hlen := h.ok.names_len
    have hk := (callsIn_wide (n := 5)).1 (Try.maps_Keys_29 (some b) w)
    have hs := (callsIn_wide (n := 5)).1 (Try.slices_Sorted_keys_28_29 b n D heldV w hown (by rw [hsz]; unfold maxLen; omega) (by rw [hsz]; omega))
    have ba := below_alloc (Below.refl w.heap.size w) (.cells #[.map (some b)] 55)
    have sa : (w.alloc (.cells #[.map (some b)] 55)).heap.size = w.heap.size + 1 := World.size_alloc _ _
    go_enter Try.func11, Try.ntmps11
    go_wp2_with fail
    refine hk.mono ?_
    rintro e w1 ⟨rfl, rfl⟩
    clear hk
    go_wp2_with fail
    refine hs.mono ?_
    rintro e w2 ⟨u, ss, rfl, hp, hrow, _, hb⟩
    have hkeys := MapV.keys hown Try.underlying9 hh hp h.ok.names h4
    have hl : ss.length = (gNames G).length := by
      have := congrArg List.length hkeys
      rwa [List.length_mergeSort, List.length_map] at this
    rw [hkeys, ← map_enc, hl] at hrow
    have hR : KS.R 9 w2 (w.alloc (.cells #[.map (some b)] 55)).heap.size (fun _ => True) u (gNames G) := Kd.R_of_own hrow (fun _ _ => trivial)
    obtain ⟨A', c', rfl, hR'⟩ := KS_own hR
    clear hs hrow
    go_wp2
    go_ret
    exact ⟨A', c', rfl, Kd.R_mono (Kd.R_lower hR' (by omega)) (fun k hk => by omega), ba.trans (hb.mono (by omega))⟩
set_option maxRecDepth 100000 in
set_option maxHeartbeats 4000000 in
theorem users_any {w : World} {v : Value} {G : PG} (h : GP w v G) (s : ByteArray) : Calls Try.prog 13 #[v, .string s] w fun e w' => NewL w w' e (gUsers G s) := by
  have hnm := names_any h
  have hnl := h.ok.names_len
  have HG := hid h
  have hul : gUsers G s = ((gNames G).take (gNames G).length).filter (fun m => has (gImp G m) s) := by rw [List.take_length]; rfl
  have HU := hid hul
  clear hul h
  go_enter Try.func13, Try.ntmps13
  go_wp2_with fail
  refine hnm.mono ?_
  rintro e w1 ⟨A1, c1, rfl, hR1, b1⟩
  clear hnm
  have s1 := b1.size
  have HR1 := hid hR1
  clear hR1
  generalize hnn : gNames G = nn at hnl HR1 HU ⊢
  go_wp2_with fail
  go_loopw [5, 11] (fun u i wr => ∃ k : Nat, k ≤ nn.length ∧ i = .int .i64 k ∧ (∃ A' c', u = .slice A' ((nn.take k).filter (fun m => has (gImp G m) s)).length c') ∧ KS.R 9 wr w.heap.size (fun q => w1.heap.size ≤ q) u ((nn.take k).filter (fun m => has (gImp G m) s)) ∧ Below w1.heap.size w1 wr) (fun _ i _ => nn.length - (intOf i).toNat)
  case atStart => exact ⟨0, Nat.zero_le _, rfl, ⟨none, 0, rfl⟩, Kd.R_nil _ _ _ _ _, Below.refl _ _⟩
  case round =>
    obtain ⟨k, hk, rfl, ⟨A', c', rfl⟩, hR, hB⟩ := hrel
    by_cases hlt : k < nn.length
    · have hltI : (k : Int) < (nn.length : Int) := by omega
      cases A1 with
      | none =>
        have := KS_none (Kd.R_reads' HR1.out).2.2
        subst this
        simp at hlt
      | some ad =>
      have hcell := pw_cell_below hB (KS_at (Kd.R_reads' HR1.out).2.2 hlt)
      have htk : nn.take (k + 1) = nn.take k ++ [nn[k]] := List.take_succ_eq_append_getElem hlt
      have hbw : Below w.heap.size w wr := b1.trans (hB.mono s1)
      have hgr := HG.out.below hbw
      have hsm : (nn[k]).size ≤ 32 := hgr.name_small (by rw [hnn]; exact List.getElem_mem hlt)
      have hlen : ((nn.take k).filter (fun m => has (gImp G m) s)).length ≤ k := Nat.le_trans (List.length_filter_le _ _) (List.length_take_le _ _)
      generalize nn[k] = x at hcell htk hsm
      have hsw : w1.heap.size ≤ wr.heap.size := hB.size
      rcases hgr with ⟨rfl, rfl⟩ | ⟨p, rfl, hgm⟩
      · subst hnn
        simp [gNames] at hlt
      obtain ⟨b, A, c, m1, m2, _, m3, m4⟩ := hgm.cell (s := x) (by omega)
      have hct := contains_any (c := c) m4 s
      cases hp : has (gImp G x) s with
      | true =>
        have hnx : (nn.take (k + 1)).filter (fun m => has (gImp G m) s) = (nn.take k).filter (fun m => has (gImp G m) s) ++ [x] := by rw [htk, List.filter_append]; simp [hp]
        rw [hp] at hct
        have HN := hid hnx
        clear hnx htk m4
        go_wp2_with (first | (refine hct.mono ?_; rintro e w2 ⟨rfl, rfl⟩; clear hct) | (at_builtin; refine Kd.R_append KS (w0 := w1) (W := wr) w.heap.size rfl (.tmp 23) (.tmp 25) 30 9 (.string ⟨#[]⟩) 16 rfl Try.underlying30 info_str rfl (by decide) (by decide) _ _ x [.string x] (fun q => w1.heap.size ≤ q) (fun _ => False) rfl rfl rfl (fun _ h => h.elim) (fun q hq => Nat.le_trans hsw hq) hR ?HB ?hb ?hl ?_))
        case HB => exact hB.mono s1
        case hb => exact hbw.size
        case hl => omega
        intro v2 w2 hR2 _ hg2 _
        have hB2 : Below w1.heap.size w1 w2 := hB.grown hg2 hsw (fun q hq => hR.1 q hq)
        have hsl := Kd.R_slice hR2
        rw [← HN.out] at hR2 hsl
        clear hR hB hg2
        go_wp2
        go_roundw
        case rel => exact ⟨k + 1, by omega, by go_num, hsl, hR2, hB2⟩
        case measure => simp [intOf]; omega
      | false =>
        have hnx : (nn.take (k + 1)).filter (fun m => has (gImp G m) s) = (nn.take k).filter (fun m => has (gImp G m) s) := by rw [htk, List.filter_append]; simp [hp]
        rw [hp] at hct
        have HN := hid hnx
        clear hnx htk m4
        go_wp2_with (refine hct.mono ?_; rintro e w2 ⟨rfl, rfl⟩; clear hct)
        go_roundw
        case rel => exact ⟨k + 1, by omega, by go_num, ⟨A', c', by rw [HN.out]⟩, by rw [HN.out]; exact hR, hB⟩
        case measure => simp [intOf]; omega
    · have hltI : ¬ (k : Int) < (nn.length : Int) := by omega
      obtain rfl : nn.length = k := by omega
      rw [← HU.out] at hR ⊢
      go_wp2
      go_ret
      exact ⟨A', c', rfl, Kd.R_mono hR (fun q hq => by omega), b1.trans (hB.mono s1)⟩
end Go.Proofs.Ytcjdpccbkfnnlaa
