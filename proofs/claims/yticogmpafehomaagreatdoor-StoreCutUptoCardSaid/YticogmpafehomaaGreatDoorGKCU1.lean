/- Texts of one seat, laid together. -/
import Derived.Test.YticogmpafehomaaGreatDoorWWords
import Derived.Test.YticogmpafehomaaGreatDoorWLast
import Derived.Test.YticogmpafehomaaGreatDoorWMore
import Derived.Test.YticogmpafehomaaGreatDoorWShare
import Derived.Deep.MidRow
import Derived.Laws.CopyOwn
import Derived.Test.YticogmpafehomaaGreatDoorRows
import Derived.ProofKit
import Derived.SizedLaws
import Derived.RowKitTokens
import Derived.LaidLaws
import Derived.LaidHandle
import Derived.Deep.DeepHandedRow
import Derived.Deep.DeepWitnessRowRef
import Derived.Test.YticogmpafehomaaGreatDoorProg
import Derived.WalkKit
import Derived.Deep.Slices
import Derived.Lib.SlicesCompact
import Derived.Sort.KeysCollected
import Derived.OrdersHeld
import Derived.Deep.RegionHeld
import Derived.WalkSpells
import Derived.WalkLawsBesides
import Derived.WalkSmall
import Derived.Laws.Bits64b
import Derived.RangeFuncNested
import Derived.RangeFuncBound
import Derived.RangeFuncCalls
import Derived.RangeFuncLeaves
import Derived.Shelf.Abstract
import Derived.Shelf.RegionOpen
import Derived.OwnWalkIn
import Derived.TacticsInMore
import Derived.LoopNIn
import Derived.LoopIn
import Derived.Lib.BufferWrite
import Derived.Deep.WholeRow
import Derived.Laws.Rows
import Derived.Laws.Tables

set_option linter.unusedVariables false
set_option linter.unusedSimpArgs false
namespace Go.Proofs.YticogmpafehomaaGreatDoor
open Go.RowKit Go.Proofs.YticogmpafehomaaGreatDoorW.PrintWords

/-- Between w and w' only blocks of S have been written, and new ones made. -/
structure Chg (S : Nat → Prop) (w w' : World) : Prop where
  os : w'.os = w.os
  tape : w'.tape = w.tape
  output : w'.output = w.output
  size : w.heap.size ≤ w'.heap.size
  block : ∀ k, k < w.heap.size → ¬ S k → w'.heap[k]? = w.heap[k]?

def none_ : Nat → Prop := fun _ => False
theorem hid {p : Prop} (h : p) : Hid p := h

namespace Chg
variable {S S2 : Nat → Prop} {w w1 w2 w' : World}
theorem refl (S : Nat → Prop) (w : World) : Chg S w w := ⟨rfl, rfl, rfl, Nat.le_refl _, fun _ _ _ => rfl⟩
theorem then_ (h : Chg S w w1) (k : Chg S2 w1 w2) (hs : ∀ k, S2 k → S k ∨ w.heap.size ≤ k) : Chg S w w2 :=
  ⟨k.os.trans h.os, k.tape.trans h.tape, k.output.trans h.output, Nat.le_trans h.size k.size, fun i hi hn =>
    (k.block i (Nat.lt_of_lt_of_le hi h.size) (fun h2 => (hs i h2).elim hn (fun h3 => by omega))).trans (h.block i hi hn)⟩
theorem mono (h : Chg S w w') (hs : ∀ k, S k → S2 k) : Chg S2 w w' := ⟨h.os, h.tape, h.output, h.size, fun i hi hn => h.block i hi (fun hk => hn (hs i hk))⟩
theorem of_below (h : Below w.heap.size w w') (S : Nat → Prop) : Chg S w w' := ⟨h.os, h.tape, h.output, h.size, fun i hi _ => h.block i hi⟩
theorem below_ (h : Chg S w w') {B : Nat} (hB : B ≤ w.heap.size) (hS : ∀ k, S k → B ≤ k) : Below B w w' :=
  ⟨h.os, h.tape, h.output, h.size, fun i hi => h.block i (by omega) (fun hk => by have := hS i hk; omega)⟩
theorem same (h : Chg S w w1) (k : Below w1.heap.size w1 w2) : Chg S w w2 := h.then_ (of_below k none_) (fun _ hk => hk.elim)
theorem drew (h : Chg S w w1) : Chg S w w1.drew := ⟨h.os, h.tape, h.output, h.size, h.block⟩
theorem grown (h : Chg S w w1) {row : Option Nat} (hg : w1.grownBy w2 row) (hr : ∀ k, row = some k → S k ∨ w.heap.size ≤ k) : Chg S w w2 :=
  h.then_ (S2 := fun k => row = some k) ⟨hg.os, hg.tape, hg.output, hg.size, fun i hi hn => hg.block i hi (fun he => hn he.symm)⟩ hr
theorem setCell (h : Chg S w w1) {p : Addr} (hp : S p.block ∨ w.heap.size ≤ p.block) (u : Value) : Chg S w (w1.setCell p u) :=
  h.then_ (S2 := fun k => k = p.block) ⟨rfl, rfl, rfl, by simp [World.setCell], fun i _ hn => Below.heap_setCell w1 p u i hn⟩ (fun k hk => by rw [hk]; exact hp)
theorem cell_ (h : Chg S w w') {a : Addr} {v : Value} (hc : w.cell? a = some v) (hn : ¬ S a.block) : w'.cell? a = some v := by
  have := h.block a.block (World.block_lt_of_cell? w a hc) hn
  simpa [World.cell?, this] using hc
theorem stays (h : Chg S w w') {ok : Nat → Prop} (hne : ∀ k, ok k → ¬ S k) : ∀ k, ok k → k < w.heap.size → w'.heap[k]? = w.heap[k]? := fun k hk hlt => h.block k hlt (hne k hk)
/-- A step in place: row g of w1 has new cells. -/
theorem setRow (h : Chg S w w1) {g : Nat} (hp : S g ∨ w.heap.size ≤ g) (cs : Array Value) : Chg S w (w1.setRow g cs) :=
  h.then_ (S2 := fun k => k = g) ⟨rfl, rfl, rfl, by simp [World.setRow], fun i _ hn => by simp only [World.setRow, Array.getElem?_modify]; rw [if_neg (fun e => hn e.symm)]⟩ (fun k hk => by rw [hk]; exact hp)
end Chg

/-- ok, or new since w. -/
def orNew (ok : Nat → Prop) (w : World) : Nat → Prop := fun k => ok k ∨ w.heap.size ≤ k
/-- Two footprints have no block in common. -/
def apart (a b : Nat → Prop) : Prop := ∀ k, a k → ¬ b k
/-- A list of bytes as memory has it. -/
abbrev KB : Kd Int := Kd.int .u8
/-- A slice of bytes that is read; what it leads to lies in ok. -/
abbrev RB (w : World) (ok : Nat → Prop) (A : Option Addr) (xs : List Int) : Prop := Kd.F KB w ok A xs.length xs
def Bytes (xs : List Int) : Prop := ∀ x ∈ xs, 0 ≤ x ∧ x < 256
theorem Bytes.nil : Bytes [] := fun x hx => by simp at hx
theorem Bytes.append {a b : List Int} (h : Bytes a) (k : Bytes b) : Bytes (a ++ b) := fun x hx => (List.mem_append.1 hx).elim (h x) (k x)
theorem Bytes.take {a : List Int} (h : Bytes a) (n : Nat) : Bytes (a.take n) := fun x hx => h x (List.mem_of_mem_take hx)
theorem Bytes.drop {a : List Int} (h : Bytes a) (n : Nat) : Bytes (a.drop n) := fun x hx => h x (List.mem_of_mem_drop hx)
theorem Bytes.zeros (n : Nat) : Bytes (List.replicate n 0) := fun x hx => by rw [List.eq_of_mem_replicate hx]; omega
theorem Bytes.rd_ {a : List Int} (h : Bytes a) (i : Int) : 0 ≤ rd a i ∧ rd a i < 256 := by
  unfold rd
  rw [List.getD_eq_getElem?_getD]
  rcases Nat.lt_or_ge i.toNat a.length with hl | hl
  · rw [List.getElem?_eq_getElem hl]; exact h _ (List.getElem_mem hl)
  · rw [List.getElem?_eq_none hl]; simp

end Go.Proofs.YticogmpafehomaaGreatDoor
namespace Go.Proofs.YticogmpafehomaaGreatDoor
open Go.RowKit Go.Proofs.YticogmpafehomaaGreatDoorW.PrintWords
section
variable {w w1 : World} {base g n cap off : Nat} {e : TypeId} {size : Nat} {xs vs : List Value}
/-! ### A row of a call's own, some of its cells written at once -/
theorem heap_setCells (vs : List Value) : ∀ (off : Nat) (w : World) (cur : Array Value), w.heap[g]? = some (.cells cur e (0, 0)) → off + vs.length ≤ cur.size →
    (w.setCells g off vs).heap[g]? = some (.cells (splice cur.toList off vs).toArray e (0, 0)) := by
  induction vs with
  | nil =>
    intro off w cur h hl
    simp [World.setCells, splice, h]
  | cons v vs ih =>
    intro off w cur h hl
    have h1 : (w.setCell ⟨g, off, none⟩ v).heap[g]? = some (.cells (cur.setIfInBounds off v) e (0, 0)) := heap_setCell_same w g off cur e v h
    have h2 := ih (off + 1) _ _ h1 (by simp at hl ⊢; omega)
    show ((w.setCell ⟨g, off, none⟩ v).setCells g (off + 1) vs).heap[g]? = _
    rw [h2]
    have hoff : off < cur.toList.length := by simp at hl ⊢; omega
    have : splice (cur.setIfInBounds off v).toList (off + 1) vs = splice cur.toList off (v :: vs) := by
      unfold splice
      rw [Array.toList_setIfInBounds]
      rw [List.take_set, List.take_succ_eq_append_getElem hoff, List.drop_set]
      rw [if_pos (by omega)]
      have : (List.take off cur.toList ++ [cur.toList[off]]).set off v = List.take off cur.toList ++ [v] := by
        have hle : (List.take off cur.toList).length = off := by rw [List.length_take]; exact Nat.min_eq_left (Nat.le_of_lt hoff)
        rw [List.set_append_right _ _ (by omega)]
        have : off - (List.take off cur.toList).length = 0 := by omega
        rw [this]; rfl
      rw [this]
      simp [Nat.add_assoc, Nat.add_comm 1]
    rw [this]
theorem heap_setCells_ne (vs : List Value) (k : Nat) (hk : k ≠ g) : ∀ (off : Nat) (w : World), (w.setCells g off vs).heap[k]? = w.heap[k]? := by
  induction vs with
  | nil => intro off w; rfl
  | cons v vs ih => intro off w; show ((w.setCell ⟨g, off, none⟩ v).setCells g (off + 1) vs).heap[k]? = _; rw [ih]; exact Below.heap_setCell w ⟨g, off, none⟩ v k hk
theorem size_setCells (vs : List Value) : ∀ (off : Nat) (w : World), (w.setCells g off vs).heap.size = w.heap.size := by
  induction vs with
  | nil => intro off w; rfl
  | cons v vs ih => intro off w; show ((w.setCell ⟨g, off, none⟩ v).setCells g (off + 1) vs).heap.size = _; rw [ih]; simp [World.setCell]
theorem rest_setCells (vs : List Value) : ∀ (off : Nat) (w : World), (w.setCells g off vs).os = w.os ∧ (w.setCells g off vs).tape = w.tape ∧ (w.setCells g off vs).output = w.output := by
  induction vs with
  | nil => intro off w; exact ⟨rfl, rfl, rfl⟩
  | cons v vs ih => intro off w; exact ih (off + 1) (w.setCell ⟨g, off, none⟩ v)
theorem Chg.setCells {S : Nat → Prop} {w w1 : World} (h : Chg S w w1) {g : Nat} (hp : S g ∨ w.heap.size ≤ g) (off : Nat) (vs : List Value) : Chg S w (w1.setCells g off vs) :=
  h.then_ (S2 := fun k => k = g) ⟨(rest_setCells vs off w1).1, (rest_setCells vs off w1).2.1, (rest_setCells vs off w1).2.2, by rw [size_setCells]; exact Nat.le_refl _, fun i _ hn => heap_setCells_ne vs i hn off w1⟩ (fun k hk => by rw [hk]; exact hp)
theorem take_splice {α : Type} (L vs : List α) (off m : Nat) (h : off + vs.length ≤ m) (hm : m ≤ L.length) : (splice L off vs).take m = splice (L.take m) off vs := by
  unfold splice
  rw [List.take_take, Nat.min_eq_left (by omega), List.take_append, List.take_append]
  have h1 : (L.take off).length = off := by simp; omega
  rw [h1, List.take_of_length_le (l := L.take off) (by omega), List.take_of_length_le (l := vs) (by omega), List.drop_take]
  congr 3
  omega
theorem map_splice {α β : Type} (f : α → β) (L vs : List α) (off : Nat) : (splice L off vs).map f = splice (L.map f) off (vs.map f) := by
  simp [splice, List.map_take, List.map_drop]
/-- Cells of a row of one's own, written at once. -/
theorem own_setCells (h : w.ownsRow base e size (.slice (some ⟨g, 0, none⟩) n cap) n xs) (hl : off + vs.length ≤ n * size) :
    (w.setCells g off vs).ownsRow base e size (.slice (some ⟨g, 0, none⟩) n cap) n (splice xs off vs) := by
  obtain ⟨h1, h2⟩ := h
  refine ⟨by rw [length_splice _ _ _ (by omega)]; exact h1, ?_⟩
  rcases h2 with ⟨h2, _⟩ | ⟨g', cap', cur, he, hb, hh, hn, hm, hs, ht⟩
  · cases h2
  · obtain ⟨rfl, rfl⟩ : g = g' ∧ cap = cap' := by injection he with e1 e2 e3; injection e1 with e1; injection e1 with e1; exact ⟨e1, e3⟩
    have hle : n * size ≤ cur.size := by rw [hs]; exact Nat.mul_le_mul_right _ hn
    have hc := heap_setCells vs off w cur hh (by omega)
    refine .inr ⟨g, cap, _, rfl, hb, hc, hn, hm, ?_, ?_⟩
    · simp [length_splice cur.toList off vs (by simp; omega), hs]
    · rw [List.toList_toArray, take_splice _ _ _ _ hl (by simpa using hle), ht]
theorem own_there (h : w.ownsRow base e size (.slice (some ⟨g, 0, none⟩) n cap) n xs) (m : Nat) (hl : off + m ≤ n * size) : w.there g off m := by
  rcases h.2 with ⟨h2, _⟩ | ⟨g', cap', cur, he, hb, hh, hn, hm, hs, ht⟩
  · cases h2
  · obtain ⟨rfl, rfl⟩ : g = g' ∧ cap = cap' := by injection he with e1 e2 e3; injection e1 with e1; injection e1 with e1; exact ⟨e1, e3⟩
    have hle : n * size ≤ cur.size := by rw [hs]; exact Nat.mul_le_mul_right _ hn
    intro j hj
    constructor
    · rw [cell_of_row w g _ cur e (0, 0) hh]
      have : off + j < cur.size := by omega
      simp [this]
    · exact frozen_of_row w g _ cur e hh
theorem own_rangeAt (h : w.ownsRow base e size (.slice (some ⟨g, 0, none⟩) n cap) n xs) (off m : Nat) : w.rangeAt g off ((xs.drop off).take m) := by
  intro j v hj
  rw [List.getElem?_take] at hj
  split at hj
  · rw [List.getElem?_drop] at hj
    have := h.cells (g := g) rfl (off + j) v hj
    rwa [add_plain] at this
  · cases hj
end
end Go.Proofs.YticogmpafehomaaGreatDoor

set_option linter.unusedVariables false
set_option linter.unusedSimpArgs false
namespace Go.Proofs.YticogmpafehomaaGreatDoor
open Go.RowKit Go.Proofs.YticogmpafehomaaGreatDoorW.PrintWords

theorem names_own : ownKnob Tryz.prog.godebug = none := by kernel_rfl
theorem names_laidOut : laidOutB Tryz.prog = true := by kernel_rfl
abbrev LAID : List (String × DataW Unit) := [("errors.errorType", Rows.laid_errors_errorType)]
theorem et_name : Tryz.prog.globalNamed "errors.errorType" = some 0 := by kernel_rfl
theorem rt_name : (Tryz.prog.cutTypes.find? (·.1 == "internal/reflectlite.rtype")).map (·.2) = some 232 := by kernel_rfl
theorem et_one : ((List.range 313).filter fun t => Tryz.prog.rowNamed t [101, 114, 114, 111, 114]) = [99] := by kernel_rfl
theorem ts_size : Tryz.prog.types.size = 313 := by kernel_rfl
/-- errors.errorType, as the list has it. -/
structure NOK (W : World) : Prop where
  et : W.cell? ⟨0, 0, none⟩ = some (.iface 232 (.agg #[.pointer (some ⟨1, 99, none⟩)]))
theorem NOK_of {W : World} (h : laidMetH Tryz.prog LAID W) (hsh : W.ShapedOpen Tryz.prog) : NOK W := by
  have h' : laidMet Tryz.prog [] W ∧ handlesMet Tryz.prog LAID W := h
  obtain ⟨name, u, ty, e1, e2, e3, e4, e5⟩ := h'.2 _ (List.mem_singleton.2 rfl)
  have en : name = [101, 114, 114, 111, 114] := (Option.some.inj e1).symm
  subst en
  obtain rfl := Option.some.inj (rt_name.symm.trans e2)
  have hm : ty ∈ (List.range 313).filter fun t => Tryz.prog.rowNamed t [101, 114, 114, 111, 114] := List.mem_filter.2 ⟨List.mem_range.2 (by rw [← ts_size]; exact e3), e4⟩
  rw [et_one] at hm
  obtain rfl := List.mem_singleton.1 hm
  have hh : typeHandle Tryz.prog 99 = .pointer (some ⟨1, 99, none⟩) := by kernel_rfl
  rw [hh] at e5
  exact ⟨by simpa using World.var?_cell et_name e5 0⟩
/-- A world that meets the list. -/
noncomputable def laidWorld (os : Os) : World :=
  let w0 := World.holding Tryz.prog os ⟨#[], #[], []⟩
  { w0 with heap := w0.heap.modify 0 fun
      | .cells _ t frozen => .cells #[.iface 232 (.agg #[.pointer (some ⟨1, 99, none⟩)])] t frozen
      | o => o }
theorem laid_met (os : Os) (args : Array Value) : laidMetH Tryz.prog LAID ((laidWorld os).forCall (fun _ _ => 0) ⟨#[], args, []⟩).memory :=
  laidMetH_of_parts (laidMet_nil _ _) (by kernel_rfl)
end Go.Proofs.YticogmpafehomaaGreatDoor

set_option linter.unusedVariables false
set_option linter.unusedSimpArgs false
namespace Go.Proofs.YticogmpafehomaaGreatDoor
open Go.RowKit Go.Proofs.YticogmpafehomaaGreatDoorW.PrintWords

/-- A value of type t, where it is read, is of kind K and obeys G. -/
structure Opens (P : Program) (t : TypeId) {α : Type} (K : Kd α) (G : α → Prop) : Prop where
  go : ∀ {H : Type} {enc : TypeId × Value → H} {W : World} {base : Nat} {spare : Nat → Bool} {held : Bool} {fuel : Nat} {cs : List Value} {d : DataW H} {ps : List MemPlace},
    DataW.trod enc P W base spare held fuel t cs = some (d, ps) → (∀ n ∈ d.weights P t, n ≤ reachBytes) → ∃ x, K.K W x cs ∧ G x
/-- The same of a struct's fields, from the offset off on. -/
structure OpensF (P : Program) (fs : List Field) (off : Nat) {α : Type} (K : Kd α) (G : α → Prop) : Prop where
  go : ∀ {H : Type} {enc : TypeId × Value → H} {W : World} {base : Nat} {spare : Nat → Bool} {held : Bool} {fuel : Nat} {cs : List Value} {xs : List (DataW H × List MemPlace)},
    cs.length = off + K.sz → xs.length = fs.length → (∀ (i : Nat) (f : Field), fs[i]? = some f → DataW.trod enc P W base spare held fuel f.type ((cs.drop f.offset).take (P.cellsOf f.type)) = xs[i]?) →
    (∀ n ∈ DataW.weightsEach P (fs.map (·.type)) (xs.map (·.1)), n ≤ reachBytes) → ∃ x, K.K W x (cs.drop off) ∧ G x

section
variable {P : Program} {t e : TypeId}

theorem opens_int {k : IntKind} (ht : P.underlying t = some (.int k)) : Opens P t (Kd.int k) (fun n => (Lit.int k n).wf = true) := by
  constructor
  intro H enc W base spare held fuel cs d ps h _
  obtain ⟨n, rfl, _, hw⟩ := DataW.trod_int ht h
  exact ⟨n, rfl, hw⟩
theorem opens_string (ht : P.underlying t = some .string) : Opens P t Kd.string (fun s => s.size ≤ 140737488351232) := by
  constructor
  intro H enc W base spare held fuel cs d ps h hw
  obtain ⟨s, rfl, hx, _⟩ := DataW.trod_string ht h
  obtain ⟨rfl, _⟩ := Prod.mk.inj hx
  refine ⟨s, rfl, ?_⟩
  have := hw s.data.toList.length (by simp [DataW.weights])
  rw [Array.length_toList] at this
  exact this
theorem weightsAll_mem {H : Type} {ds : List (DataW H)} {d : DataW H} (hd : d ∈ ds) {n : Nat} (hn : n ∈ d.weights P e) : n ∈ DataW.weightsAll P e ds := by
  induction ds with
  | nil => simp at hd
  | cons a r ih =>
    simp only [DataW.weightsAll, List.mem_append]
    rcases List.mem_cons.1 hd with rfl | hd
    · exact .inl hn
    · exact .inr (ih hd)
theorem opens_slice {α : Type} {K : Kd α} {G : α → Prop} {B : Nat} (ht : P.underlying t = some (.slice e)) (hc : P.cellsOf e = K.sz) (hB : P.bytesOf e = B) (hO : Opens P e K G) :
    Opens P t (Kd.slice e K) (fun xs => (∀ x ∈ xs, G x) ∧ xs.length * B ≤ 140737488351232) := by
  constructor
  intro H enc W base spare held fuel cs d ps h hw
  rcases Go.Deep.open_slice ht h with ⟨rfl, hx⟩ | ⟨a, len, cap, m, n, D, Pl, rfl, _, hl, hm, hmm, hx, hel⟩
  · exact ⟨[], ⟨none, 0, rfl, Nat.le_refl _, rfl, by simp, fun h => absurd h (by simp)⟩, by simp, by simp⟩
  · obtain ⟨rfl, _⟩ := Prod.mk.inj hx
    have hlm : len ≤ m := by rw [hmm]; split <;> omega
    have one : ∀ i, i < len → ∃ x, (∃ cs', W.cells? base (a.add (i * P.cellsOf e)) (P.cellsOf e) = some cs' ∧ K.K W x cs') ∧ G x := fun i hi => by
      obtain ⟨cs', h1, h2⟩ := hel i (by omega)
      obtain ⟨x, hk, hg⟩ := hO.go h2 (fun n hn => hw n (by
        simp only [DataW.weights, ht]
        exact List.mem_cons_of_mem _ (List.mem_append_left _ (weightsAll_mem (List.mem_map.2 ⟨i, List.mem_range.2 hi, rfl⟩) hn))))
      exact ⟨x, ⟨cs', h1, hk⟩, hg⟩
    rcases Nat.eq_zero_or_pos len with h0 | h0
    · subst h0
      exact ⟨[], ⟨some a, cap, rfl, Nat.zero_le _, rfl, by simp, fun h => absurd h (by simp)⟩, by simp, by simp⟩
    · obtain ⟨x0, _⟩ := one 0 h0
      haveI : Inhabited α := ⟨x0⟩
      obtain ⟨X, hX⟩ := Go.Deep.choose_lt (α := α) (p := fun i x => (∃ cs', W.cells? base (a.add (i * P.cellsOf e)) (P.cellsOf e) = some cs' ∧ K.K W x cs') ∧ G x) one
      have hlen : ((List.range len).map X).length = len := by simp
      refine ⟨(List.range len).map X, ⟨some a, cap, by rw [hlen], by rw [hlen]; exact hl, hlen.symm ▸ rfl, ?_, ?_⟩, ?_, ?_⟩
      · rw [hlen]; exact Nat.le_trans hl (Nat.le_trans hm (by decide))
      · intro _
        refine ⟨a, rfl, fun j p hj => ?_⟩
        have hjl : j < len := by
          have := (List.getElem?_eq_some_iff.1 hj).1
          simpa using this
        have hp : X j = p := by simpa [hjl] using hj
        obtain ⟨⟨cs', h1, hk⟩, _⟩ := hX j hjl
        rw [← hp]
        refine ⟨cs', K.K_len hk, hk, fun i u hu => ?_⟩
        obtain ⟨_, hlen', hcell⟩ := World.cells?_some h1
        have := hcell i (by have := (List.getElem?_eq_some_iff.1 hu).1; omega)
        rw [Go.Deep.add_add, hc] at this
        rw [this, hu]
      · intro x hx
        obtain ⟨i, hi, rfl⟩ := List.mem_map.1 hx
        exact (hX i (List.mem_range.1 hi)).2
      · have := hw ((((List.range len).map D).length + ((List.range (m - len)).map fun j => D (len + j)).length) * P.bytesOf e) (by simp [DataW.weights, ht])
        rw [hB] at this
        simp only [List.length_map, List.length_range] at this ⊢
        exact Nat.le_trans (Nat.mul_le_mul_right _ (by omega)) this
theorem opensF_one {α : Type} {K : Kd α} {G : α → Prop} {f : Field} {off : Nat} (ho : f.offset = off) (hc : P.cellsOf f.type = K.sz) (hO : Opens P f.type K G) : OpensF P [f] off K G := by
  constructor
  intro H enc W base spare held fuel cs xs hcs hxs hf hw
  match xs, hxs with
  | [(d, ps)], _ =>
    have h := hf 0 f rfl
    have e0 : ((cs.drop f.offset).take (P.cellsOf f.type)) = cs.drop off := by
      rw [ho, hc]; exact List.take_of_length_le (by rw [List.length_drop]; omega)
    rw [e0] at h
    exact hO.go h (fun n hn => hw n (by simpa [DataW.weightsEach] using hn))
theorem opensF_cons {α β : Type} {K : Kd α} {L : Kd β} {G : α → Prop} {G' : β → Prop} {f : Field} {fs : List Field} {off : Nat} (ho : f.offset = off) (hc : P.cellsOf f.type = K.sz) (hO : Opens P f.type K G)
    (hF : OpensF P fs (off + K.sz) L G') : OpensF P (f :: fs) off (Kd.pair K L) (fun x => G x.1 ∧ G' x.2) := by
  constructor
  intro H enc W base spare held fuel cs xs hcs hxs hf hw
  match xs, hxs with
  | (d, ps) :: xs, hxs =>
    have hcs' : cs.length = off + (K.sz + L.sz) := hcs
    have h := hf 0 f rfl
    rw [ho, hc] at h
    obtain ⟨x, hk, hg⟩ := hO.go h (fun n hn => hw n (by simp only [List.map_cons, DataW.weightsEach, List.mem_append]; exact .inl hn))
    obtain ⟨y, hl, hg'⟩ := hF.go (cs := cs) (xs := xs) (by omega) (by simpa using hxs) (fun i g hi => by simpa using hf (i + 1) g (by simpa using hi)) (fun n hn => hw n (by simp only [List.map_cons, DataW.weightsEach, List.mem_append]; exact .inr hn))
    refine ⟨(x, y), ⟨(cs.drop off).take K.sz, cs.drop (off + K.sz), ?_, hk, hl⟩, hg, hg'⟩
    rw [← List.drop_drop, List.take_append_drop]
theorem opens_struct {α : Type} {K : Kd α} {G : α → Prop} {fs : Array Field} (ht : P.underlying t = some (.struct fs)) (hc : P.cellsOf t = K.sz) (hF : OpensF P fs.toList 0 K G) : Opens P t K G := by
  constructor
  intro H enc W base spare held fuel cs d ps h hw
  obtain ⟨xs, n, rfl, hx, hcs, hxs, hf⟩ := DataW.trod_struct ht h
  obtain ⟨rfl, _⟩ := Prod.mk.inj hx
  have := hF.go (enc := enc) (W := W) (base := base) (spare := spare) (held := held) (fuel := n) (cs := cs) (xs := xs) (by omega) (by simpa using hxs) (fun i f hi => hf i f (by simpa using hi))
    (fun n hn => hw n (by simpa [DataW.weights, ht] using hn))
  simpa using this
theorem opens_iso {α β : Type} {K : Kd α} {G : α → Prop} (f : β → α) (g : α → β) (hfg : ∀ x, f (g x) = x) (h : Opens P t K G) : Opens P t (Kd.iso K f) (fun x => G (f x)) := by
  constructor
  intro H enc W base spare held fuel cs d ps hd hw
  obtain ⟨x, hk, hx⟩ := h.go hd hw
  refine ⟨g x, ?_, by show G (f (g x)); rw [hfg]; exact hx⟩
  show K.K W (f (g x)) cs
  rw [hfg]; exact hk
theorem Opens.mono {α : Type} {K : Kd α} {G G' : α → Prop} (h : Opens P t K G) (hG : ∀ x, G x → G' x) : Opens P t K G' := ⟨fun hd hw => by
  obtain ⟨x, hk, hx⟩ := h.go hd hw
  exact ⟨x, hk, hG x hx⟩⟩
end
end Go.Proofs.YticogmpafehomaaGreatDoor

set_option linter.unusedVariables false
set_option linter.unusedSimpArgs false
namespace Go.Proofs.YticogmpafehomaaGreatDoor
open Go.RowKit Go.Proofs.YticogmpafehomaaGreatDoorW.PrintWords

theorem bulk_pos {H : Type} (d : DataW H) : 1 ≤ Rows.uptoBulk d := by
  cases d with
  | lit l => cases l <;> simp [Rows.uptoBulk]
  | nil => simp [Rows.uptoBulk]
  | ptr d => simp [Rows.uptoBulk]
  | slice elems spare => simp [Rows.uptoBulk]
  | agg parts => simp [Rows.uptoBulk]
  | iface t d => simp [Rows.uptoBulk]
  | map entries => simp [Rows.uptoBulk]
  | held h => simp [Rows.uptoBulk]
theorem bulk_mem {H : Type} {ds : List (DataW H)} {j : Nat} {d : DataW H} (hd : ds[j]? = some d) : Rows.uptoBulk d ≤ Rows.uptoBulkAll ds := by
  induction ds generalizing j with
  | nil => cases hd
  | cons a r ih =>
    simp only [Rows.uptoBulkAll]
    cases j with
    | zero => simp at hd; subst hd; omega
    | succ j => have := ih (j := j) (by simpa using hd); omega
structure OpensM (P : Program) (t : TypeId) {α : Type} (K : Kd α) (G : α → Prop) (m : α → Nat) : Prop where
  go : ∀ {H : Type} {enc : TypeId × Value → H} {W : World} {base : Nat} {spare : Nat → Bool} {held : Bool} {fuel : Nat} {cs : List Value} {d : DataW H} {ps : List MemPlace},
    DataW.trod enc P W base spare held fuel t cs = some (d, ps) → (∀ n ∈ d.weights P t, n ≤ reachBytes) → ∃ x, K.K W x cs ∧ G x ∧ m x ≤ Rows.uptoBulk d
section
variable {P : Program} {t e : TypeId}
/-- Any opener; the measure 1. -/
theorem Opens.one {α : Type} {K : Kd α} {G : α → Prop} (h : Opens P t K G) : OpensM P t K G (fun _ => 1) := ⟨fun hd hw => by
  obtain ⟨x, hk, hg⟩ := h.go hd hw
  exact ⟨x, hk, hg, bulk_pos _⟩⟩
theorem bulkAll_map {H : Type} {α : Type} (m : α → Nat) (D : Nat → DataW H) (X : Nat → α) : ∀ (l : List Nat), (∀ i ∈ l, m (X i) ≤ Rows.uptoBulk (D i)) → ((l.map X).map m).sum ≤ Rows.uptoBulkAll (l.map D) := by
  intro l
  induction l with
  | nil => intro _; simp [Rows.uptoBulkAll]
  | cons a r ih =>
    intro h
    have h1 := h a (by simp)
    have h2 := ih (fun i hi => h i (by simp [hi]))
    simp only [List.map_cons, List.sum_cons, Rows.uptoBulkAll]
    omega
theorem opensM_slice {α : Type} {K : Kd α} {G : α → Prop} {m : α → Nat} {B : Nat} (ht : P.underlying t = some (.slice e)) (hc : P.cellsOf e = K.sz) (hB : P.bytesOf e = B) (hO : OpensM P e K G m) :
    OpensM P t (Kd.slice e K) (fun xs => (∀ x ∈ xs, G x) ∧ xs.length * B ≤ 140737488351232) (fun xs => (xs.map m).sum + 1) := by
  constructor
  intro H enc W base spare held fuel cs d ps h hw
  rcases Go.Deep.open_slice ht h with ⟨rfl, hx⟩ | ⟨a, len, cap, mm, n, D, Pl, rfl, _, hl, hm, hmm, hx, hel⟩
  · exact ⟨[], ⟨none, 0, rfl, Nat.le_refl _, rfl, by simp, fun h => absurd h (by simp)⟩, ⟨by simp, by simp⟩, by simpa using bulk_pos d⟩
  · obtain ⟨rfl, _⟩ := Prod.mk.inj hx
    have hlm : len ≤ mm := by rw [hmm]; split <;> omega
    have one : ∀ i, i < len → ∃ x, (∃ cs', W.cells? base (a.add (i * P.cellsOf e)) (P.cellsOf e) = some cs' ∧ K.K W x cs') ∧ G x ∧ m x ≤ Rows.uptoBulk (D i) := fun i hi => by
      obtain ⟨cs', h1, h2⟩ := hel i (by omega)
      obtain ⟨x, hk, hg⟩ := hO.go h2 (fun n hn => hw n (by
        simp only [DataW.weights, ht]
        exact List.mem_cons_of_mem _ (List.mem_append_left _ (weightsAll_mem (List.mem_map.2 ⟨i, List.mem_range.2 hi, rfl⟩) hn))))
      exact ⟨x, ⟨cs', h1, hk⟩, hg⟩
    rcases Nat.eq_zero_or_pos len with h0 | h0
    · subst h0
      exact ⟨[], ⟨some a, cap, rfl, Nat.zero_le _, rfl, by simp, fun h => absurd h (by simp)⟩, ⟨by simp, by simp⟩, by simpa using bulk_pos _⟩
    · obtain ⟨x0, _⟩ := one 0 h0
      haveI : Inhabited α := ⟨x0⟩
      obtain ⟨X, hX⟩ := Go.Deep.choose_lt (α := α) (p := fun i x => (∃ cs', W.cells? base (a.add (i * P.cellsOf e)) (P.cellsOf e) = some cs' ∧ K.K W x cs') ∧ G x ∧ m x ≤ Rows.uptoBulk (D i)) one
      have hlen : ((List.range len).map X).length = len := by simp
      refine ⟨(List.range len).map X, ⟨some a, cap, by rw [hlen], by rw [hlen]; exact hl, hlen.symm ▸ rfl, ?_, ?_⟩, ⟨?_, ?_⟩, ?_⟩
      · rw [hlen]; exact Nat.le_trans hl (Nat.le_trans hm (by decide))
      · intro _
        refine ⟨a, rfl, fun j p hj => ?_⟩
        have hjl : j < len := by
          have := (List.getElem?_eq_some_iff.1 hj).1
          simpa using this
        have hp : X j = p := by simpa [hjl] using hj
        obtain ⟨⟨cs', h1, hk⟩, _⟩ := hX j hjl
        rw [← hp]
        refine ⟨cs', K.K_len hk, hk, fun i u hu => ?_⟩
        obtain ⟨_, hlen', hcell⟩ := World.cells?_some h1
        have := hcell i (by have := (List.getElem?_eq_some_iff.1 hu).1; omega)
        rw [Go.Deep.add_add, hc] at this
        rw [this, hu]
      · intro x hx
        obtain ⟨i, hi, rfl⟩ := List.mem_map.1 hx
        exact (hX i (List.mem_range.1 hi)).2.1
      · have := hw ((((List.range len).map D).length + ((List.range (mm - len)).map fun j => D (len + j)).length) * P.bytesOf e) (by simp [DataW.weights, ht])
        rw [hB] at this
        simp only [List.length_map, List.length_range] at this ⊢
        exact Nat.le_trans (Nat.mul_le_mul_right _ (by omega)) this
      · have := bulkAll_map m D X (List.range len) (fun i hi => (hX i (List.mem_range.1 hi)).2.2)
        simp only [Rows.uptoBulk]
        omega
/-- Down from a row's weights and its bulk, a slice. -/
theorem opensM_slice_arg {α : Type} {K : Kd α} {G : List α → Prop} {m : List α → Nat} (hO : OpensM P t (Kd.slice e K) G m) {H : Type} {enc : TypeId × Value → H} {W : World} {base : Nat} {spare : Nat → Bool} {held : Bool} {a : Option Addr} {len cap : Nat} {d : DataW H} {ps : List MemPlace} {ts : List TypeId} {ds : List (DataW H)} {j : Nat}
    (hsz : (DataW.weightsEach P ts ds).all (· ≤ reachBytes) = true) (hk : Rows.uptoBulkAll ds ≤ 1048576) (ht : ts[j]? = some t) (hd : ds[j]? = some d) (h : DataW.Trod enc P W base spare held t (.slice a len cap) d ps) : ∃ xs, len = xs.length ∧ len ≤ cap ∧ K.C W a xs.length xs ∧ G xs ∧ m xs ≤ 1048576 := by
  obtain ⟨fuel, hf⟩ := h
  obtain ⟨xs, ⟨A, c, hcs, hl, hC⟩, hg, hm⟩ := hO.go hf (fun n hn => by
    have := List.all_eq_true.1 hsz _ (DataW.weights_mem_each ht hd n hn)
    simpa using this)
  simp [Value.cells] at hcs
  obtain ⟨rfl, rfl, rfl⟩ := hcs
  exact ⟨xs, rfl, hl, hC, hg, Nat.le_trans hm (Nat.le_trans (bulk_mem hd) hk)⟩
end
end Go.Proofs.YticogmpafehomaaGreatDoor

set_option linter.unusedVariables false
set_option linter.unusedSimpArgs false
namespace Go.Proofs.YticogmpafehomaaGreatDoor

abbrev BL := List UInt8
/-- The set of a list: what slices.Sort and slices.Compact make of it. -/
def setB (l : List BL) : List BL := Lib.compact (l.mergeSort fun x y => decide (x ≤ y))
theorem le_tr : ∀ a b c : BL, leB a b = true → leB b c = true → leB a c = true := fun a b c h1 h2 => by simp only [leB, decide_eq_true_eq] at *; exact List.le_trans h1 h2
theorem le_to : ∀ a b : BL, (leB a b || leB b a) = true := fun a b => by simp only [leB, Bool.or_eq_true, decide_eq_true_eq]; exact List.le_total a b
theorem BL.lt_irrefl (a : BL) : ¬ a < a := List.lt_irrefl a
theorem BL.lt_trans {a b c : BL} (h : a < b) (k : b < c) : a < c := List.lt_trans h k
theorem BL.lt_asymm {a b : BL} (h : a < b) : ¬ b < a := fun k => BL.lt_irrefl a (BL.lt_trans h k)
theorem BL.eq_of {a b : BL} (h : ¬ a < b) (k : ¬ b < a) : a = b := List.le_antisymm k h
theorem BL.lt_of_le_ne {a b : BL} (h : a ≤ b) (hn : a ≠ b) : a < b := by
  rcases Classical.em (a < b) with k | k
  · exact k
  · exact absurd (BL.eq_of k h) hn
theorem BL.lt_of_le_lt {a b c : BL} (h : a ≤ b) (k : b < c) : a < c := by
  rcases Classical.em (a = b) with e | e
  · subst e; exact k
  · exact BL.lt_trans (BL.lt_of_le_ne h e) k
theorem keeps_iff (zs : List BL) (j : Nat) : Lib.keeps zs.toArray j = true ↔ j = 0 ∨ zs.toArray[j]! ≠ zs.toArray[j - 1]! := by unfold Lib.keeps; exact decide_eq_true_iff
theorem compact_mem {zs : List BL} {x : BL} : x ∈ Lib.compact zs ↔ x ∈ zs := by
  unfold Lib.compact Lib.compactUpTo
  simp only [List.mem_map, List.mem_filter, List.mem_range]
  constructor
  · rintro ⟨j, ⟨hj, _⟩, rfl⟩
    have : zs.toArray[j]! = zs[j] := by simp [hj]
    rw [this]
    exact List.getElem_mem hj
  · intro hx
    obtain ⟨i, hi, rfl⟩ := List.mem_iff_getElem.1 hx
    clear hx
    induction i with
    | zero => exact ⟨0, ⟨hi, (keeps_iff _ _).2 (.inl rfl)⟩, by simp [hi]⟩
    | succ i ih =>
      by_cases hk : Lib.keeps zs.toArray (i + 1) = true
      · exact ⟨i + 1, ⟨hi, hk⟩, by simp [hi]⟩
      · obtain ⟨j, h1, h2⟩ := ih (by omega)
        refine ⟨j, h1, h2.trans ?_⟩
        have h3 := mt (keeps_iff zs (i + 1)).2 hk
        simp only [not_or] at h3
        have h4 : zs.toArray[i + 1]! = zs.toArray[i]! := Classical.byContradiction h3.2
        have h5 : i < zs.length := by omega
        simp [hi, h5] at h4
        exact h4.symm
theorem compact_sorted {zs : List BL} (h : zs.Pairwise (fun a b => leB a b = true)) : (Lib.compact zs).Pairwise (· < ·) := by
  unfold Lib.compact Lib.compactUpTo
  rw [List.pairwise_map]
  have h1 : (List.range zs.length).Pairwise (fun i j => i < j ∧ i < zs.length ∧ j < zs.length) := by
    rw [List.pairwise_iff_getElem]
    intro i j hi hj hij
    simp at hi hj ⊢
    exact ⟨hij, hi, hj⟩
  have h2 := h1.filter (Lib.keeps zs.toArray)
  rw [List.pairwise_iff_getElem] at h2 ⊢
  intro i j hi hj hij
  obtain ⟨g1, g2, g3⟩ := h2 i j hi hj hij
  have hk : Lib.keeps zs.toArray ((List.range zs.length).filter (Lib.keeps zs.toArray))[j] = true := (List.mem_filter.1 (List.getElem_mem hj)).2
  generalize ((List.range zs.length).filter (Lib.keeps zs.toArray))[j] = b at *
  generalize ((List.range zs.length).filter (Lib.keeps zs.toArray))[i] = a at *
  rcases (keeps_iff _ _).1 hk with h0 | h0
  · omega
  · have g4 : b - 1 < zs.length := by omega
    have ea : zs.toArray[a]! = zs[a] := by simp [g2]
    have eb : zs.toArray[b]! = zs[b] := by simp [g3]
    have ec : zs.toArray[b - 1]! = zs[b - 1] := by simp [g4]
    rw [eb, ec] at h0
    rw [ea, eb]
    rw [List.pairwise_iff_getElem] at h
    have h5 : zs[a] ≤ zs[b - 1] := by
      rcases Nat.lt_or_ge a (b - 1) with q | q
      · simpa using h a (b - 1) g2 g4 q
      · have : a = b - 1 := by omega
        subst this
        exact BL.lt_irrefl _
    have h6 : zs[b - 1] ≤ zs[b] := by simpa using h (b - 1) b g4 g3 (by omega)
    exact BL.lt_of_le_lt h5 (BL.lt_of_le_ne h6 (fun e => h0 e.symm))
theorem setB_sorted (l : List BL) : (setB l).Pairwise (· < ·) := compact_sorted (List.pairwise_mergeSort le_tr le_to l)
theorem mem_setB {l : List BL} {x : BL} : x ∈ setB l ↔ x ∈ l := by
  unfold setB
  rw [compact_mem]
  exact (List.mergeSort_perm l _).mem_iff
theorem sorted_eq : ∀ {a b : List BL}, a.Pairwise (· < ·) → b.Pairwise (· < ·) → (∀ x, x ∈ a ↔ x ∈ b) → a = b
  | [], [], _, _, _ => rfl
  | [], y :: b, _, _, h => absurd ((h y).2 List.mem_cons_self) (by simp)
  | x :: a, [], _, _, h => absurd ((h x).1 List.mem_cons_self) (by simp)
  | x :: a, y :: b, ha, hb, h => by
    rw [List.pairwise_cons] at ha hb
    have hxy : x = y := by
      have h1 := (h x).1 List.mem_cons_self
      have h2 := (h y).2 List.mem_cons_self
      rcases List.mem_cons.1 h1 with e | h1
      · exact e
      · rcases List.mem_cons.1 h2 with e | h2
        · exact e.symm
        · exact absurd (ha.1 y h2) (BL.lt_asymm (hb.1 x h1))
    subst hxy
    rw [sorted_eq ha.2 hb.2 (fun z => ?_)]
    constructor
    · intro hz
      rcases List.mem_cons.1 ((h z).1 (List.mem_cons_of_mem _ hz)) with e | e
      · subst e; exact absurd (ha.1 _ hz) (BL.lt_irrefl _)
      · exact e
    · intro hz
      rcases List.mem_cons.1 ((h z).2 (List.mem_cons_of_mem _ hz)) with e | e
      · subst e; exact absurd (hb.1 _ hz) (BL.lt_irrefl _)
      · exact e
theorem setB_len (l : List BL) : (setB l).length ≤ l.length := by
  unfold setB Lib.compact Lib.compactUpTo
  rw [List.length_map]
  refine Nat.le_trans (List.length_filter_le _ _) ?_
  simp
/-! The same over texts. -/
def bl (s : ByteArray) : BL := s.data.toList
def tx (l : BL) : ByteArray := ⟨l.toArray⟩
theorem bl_tx (l : BL) : bl (tx l) = l := by simp [bl, tx]
theorem tx_bl (s : ByteArray) : tx (bl s) = s := by cases s; simp [bl, tx]
theorem bl_inj {a b : ByteArray} (h : bl a = bl b) : a = b := by rw [← tx_bl a, ← tx_bl b, h]
def setS (l : List ByteArray) : List ByteArray := (setB (l.map bl)).map tx
open Classical in
/-- Is it on the list? -/
noncomputable def has (l : List ByteArray) (x : ByteArray) : Bool := decide (x ∈ l)
/-- In order, each once. -/
def Sorted (l : List ByteArray) : Prop := (l.map bl).Pairwise (· < ·)
theorem setS_bl (l : List ByteArray) : (setS l).map bl = setB (l.map bl) := by
  unfold setS
  rw [List.map_map]
  exact (List.map_congr_left (fun x _ => bl_tx x)).trans (List.map_id _)
theorem setS_sorted (l : List ByteArray) : Sorted (setS l) := by unfold Sorted; rw [setS_bl]; exact setB_sorted _
theorem mem_map_bl {l : List ByteArray} {s : ByteArray} : bl s ∈ l.map bl ↔ s ∈ l := by
  rw [List.mem_map]
  exact ⟨fun ⟨a, h1, h2⟩ => bl_inj h2 ▸ h1, fun h => ⟨s, h, rfl⟩⟩
theorem mem_setS {l : List ByteArray} {s : ByteArray} : s ∈ setS l ↔ s ∈ l := by
  rw [← mem_map_bl, setS_bl, mem_setB, mem_map_bl]
theorem map_bl_inj : ∀ {a b : List ByteArray}, a.map bl = b.map bl → a = b
  | [], [], _ => rfl
  | [], _ :: _, h => by simp at h
  | _ :: _, [], h => by simp at h
  | x :: a, y :: b, h => by
    simp only [List.map_cons, List.cons.injEq] at h
    rw [bl_inj h.1, map_bl_inj h.2]
theorem Sorted.eq {a b : List ByteArray} (ha : Sorted a) (hb : Sorted b) (h : ∀ x, x ∈ a ↔ x ∈ b) : a = b := by
  refine map_bl_inj (sorted_eq ha hb (fun x => ?_))
  rw [← bl_tx x, mem_map_bl, mem_map_bl]
  exact h _
theorem setS_eq {l : List ByteArray} {b : List ByteArray} (hb : Sorted b) (h : ∀ x, x ∈ b ↔ x ∈ l) : setS l = b := (setS_sorted l).eq hb (fun x => by rw [mem_setS, h])
theorem setS_len (l : List ByteArray) : (setS l).length ≤ l.length := by
  have := setB_len (l.map bl)
  unfold setS
  rw [List.length_map]
  simpa using this
end Go.Proofs.YticogmpafehomaaGreatDoor

set_option linter.unusedVariables false
set_option linter.unusedSimpArgs false
namespace Go.Proofs.YticogmpafehomaaGreatDoor

/-- Entries: keys, bytes. -/
abbrev Ent := List (ByteArray × List Int)
def keysE (E : Ent) : List ByteArray := E.map (·.1)
def look : Ent → ByteArray → Option (List Int)
  | [], _ => none
  | (a, v) :: l, k => if a = k then some v else look l k
def putE (k : ByteArray) (v : List Int) : Ent → Ent
  | [] => [(k, v)]
  | (a, u) :: l => if bl k < bl a then (k, v) :: (a, u) :: l else if a = k then (k, v) :: l else (a, u) :: putE k v l
def delE (k : ByteArray) (E : Ent) : Ent := E.filter fun x => decide (x.1 ≠ k)
def SortedE (E : Ent) : Prop := Sorted (keysE E)
theorem sortedE_cons {x : ByteArray × List Int} {l : Ent} : SortedE (x :: l) ↔ (∀ y ∈ l, bl x.1 < bl y.1) ∧ SortedE l := by
  unfold SortedE Sorted keysE
  rw [List.map_cons, List.map_cons, List.pairwise_cons]
  constructor
  · rintro ⟨h1, h2⟩
    exact ⟨fun y hy => h1 _ (List.mem_map_of_mem (List.mem_map_of_mem hy)), h2⟩
  · rintro ⟨h1, h2⟩
    refine ⟨fun b hb => ?_, h2⟩
    obtain ⟨c, hc, rfl⟩ := List.mem_map.1 hb
    obtain ⟨y, hy, rfl⟩ := List.mem_map.1 hc
    exact h1 y hy
theorem look_putE (k x : ByteArray) (v : List Int) : ∀ E : Ent, look (putE k v E) x = if x = k then some v else look E x
  | [] => by
    simp only [putE, look]
    by_cases h : k = x
    · rw [if_pos h, if_pos h.symm]
    · rw [if_neg h, if_neg (fun e => h e.symm)]
  | (a, u) :: l => by
    simp only [putE]
    split
    · simp only [look]
      by_cases h : k = x
      · rw [if_pos h, if_pos h.symm]
      · rw [if_neg h, if_neg (show ¬ x = k from fun e => h e.symm)]
    · split
      · rename_i _ h1
        subst h1
        simp only [look]
        by_cases h : a = x
        · rw [if_pos h, if_pos h.symm]
        · rw [if_neg h, if_neg (fun e => h e.symm), if_neg h]
      · rename_i _ h1
        simp only [look]
        rw [look_putE k x v l]
        by_cases h : a = x
        · subst h; rw [if_pos rfl, if_neg h1, if_pos rfl]
        · rw [if_neg h, if_neg h]
theorem look_delE (k x : ByteArray) : ∀ E : Ent, look (delE k E) x = if x = k then none else look E x
  | [] => by simp [delE, look]
  | (a, u) :: l => by
    have ih := look_delE k x l
    unfold delE at ih ⊢
    rw [List.filter_cons]
    by_cases h : a = k
    · subst h
      rw [if_neg (by simp), ih]
      simp only [look]
      by_cases h2 : x = a
      · rw [if_pos h2, if_pos h2]
      · rw [if_neg h2, if_neg h2, if_neg (fun e => h2 e.symm)]
    · rw [if_pos (by simpa using h)]
      simp only [look]
      rw [ih]
      by_cases h2 : a = x
      · subst h2; rw [if_pos rfl, if_neg h, if_pos rfl]
      · rw [if_neg h2, if_neg h2]
theorem mem_putE {k : ByteArray} {v : List Int} {y : ByteArray × List Int} : ∀ {E : Ent}, y ∈ putE k v E → y = (k, v) ∨ y ∈ E
  | [], h => by simp [putE] at h; exact .inl h
  | (a, u) :: l, h => by
    simp only [putE] at h
    split at h
    · exact List.mem_cons.1 h
    · split at h
      · rcases List.mem_cons.1 h with e | e
        · exact .inl e
        · exact .inr (List.mem_cons_of_mem _ e)
      · rcases List.mem_cons.1 h with e | e
        · exact .inr (e ▸ List.mem_cons_self)
        · rcases mem_putE e with e | e
          · exact .inl e
          · exact .inr (List.mem_cons_of_mem _ e)
theorem SortedE.put (k : ByteArray) (v : List Int) : ∀ {E : Ent}, SortedE E → SortedE (putE k v E)
  | [], _ => by rw [putE, sortedE_cons]; exact ⟨fun y hy => by simp at hy, by unfold SortedE Sorted keysE; simp⟩
  | (a, u) :: l, h => by
    have h2 := sortedE_cons.1 h
    simp only [putE]
    split
    · rename_i hlt
      refine sortedE_cons.2 ⟨fun y hy => ?_, h⟩
      rcases List.mem_cons.1 hy with e | e
      · subst e; exact hlt
      · exact BL.lt_trans hlt (h2.1 y e)
    · split
      · rename_i _ he
        subst he
        exact sortedE_cons.2 ⟨h2.1, h2.2⟩
      · rename_i hn he
        refine sortedE_cons.2 ⟨fun y hy => ?_, SortedE.put k v h2.2⟩
        rcases mem_putE hy with e | e
        · subst e; exact BL.lt_of_le_ne hn (fun e => he (bl_inj e))
        · exact h2.1 y e
theorem SortedE.del (k : ByteArray) {E : Ent} (h : SortedE E) : SortedE (delE k E) := by
  unfold SortedE Sorted keysE delE at *
  rw [List.map_map] at *
  rw [List.pairwise_map] at *
  exact h.filter _
theorem look_none {E : Ent} {k : ByteArray} : look E k = none ↔ k ∉ keysE E := by
  induction E with
  | nil => simp [look, keysE]
  | cons x l ih =>
    obtain ⟨a, u⟩ := x
    simp only [look, keysE, List.map_cons, List.mem_cons, not_or]
    by_cases h : a = k
    · rw [if_pos h]; simp [h]
    · rw [if_neg h, ih]
      exact ⟨fun h2 => ⟨fun e => h e.symm, h2⟩, fun h2 => h2.2⟩
theorem mem_keysE {E : Ent} {k : ByteArray} : k ∈ keysE E ↔ (look E k).isSome = true := by
  cases h : look E k with
  | none => simp [look_none.1 h]
  | some v =>
    simp only [Option.isSome_some, iff_true]
    exact Classical.not_not.1 (fun hn => by rw [look_none.2 hn] at h; cases h)
theorem look_mem {E : Ent} {k : ByteArray} {v : List Int} (h : look E k = some v) : (k, v) ∈ E := by
  induction E with
  | nil => cases h
  | cons x l ih =>
    obtain ⟨a, u⟩ := x
    simp only [look] at h
    split at h
    · rename_i he
      injection h with h
      subst h he
      exact List.mem_cons_self
    · exact List.mem_cons_of_mem _ (ih h)
theorem mem_look {E : Ent} (hs : SortedE E) {k : ByteArray} {v : List Int} (h : (k, v) ∈ E) : look E k = some v := by
  induction E with
  | nil => cases h
  | cons x l ih =>
    obtain ⟨a, u⟩ := x
    have h2 := sortedE_cons.1 hs
    simp only [look]
    rcases List.mem_cons.1 h with e | e
    · injection e with e1 e2; subst e1 e2; rw [if_pos rfl]
    · rw [if_neg (fun e2 => by have := h2.1 _ e; dsimp only at this; rw [e2] at this; exact BL.lt_irrefl _ this), ih h2.2 e]
theorem SortedE.ext {E F : Ent} (hE : SortedE E) (hF : SortedE F) (h : ∀ k, look E k = look F k) : E = F := by
  exact go E F hE hF (Sorted.eq hE hF (fun x => by rw [mem_keysE, mem_keysE, h])) h
where
  go : ∀ (E F : Ent), SortedE E → SortedE F → keysE E = keysE F → (∀ k, look E k = look F k) → E = F
    | [], [], _, _, _, _ => rfl
    | [], _ :: _, _, _, hk, _ => by simp [keysE] at hk
    | _ :: _, [], _, _, hk, _ => by simp [keysE] at hk
    | (a, u) :: l, (b, v) :: m, hE, hF, hk, h => by
      simp only [keysE, List.map_cons, List.cons.injEq] at hk
      obtain ⟨h1, h2⟩ := hk
      subst h1
      have h0 := h a
      simp only [look, if_true] at h0
      injection h0 with h0
      subst h0
      have e1 := sortedE_cons.1 hE
      have e2 := sortedE_cons.1 hF
      rw [go l m e1.2 e2.2 h2 (fun k => ?_)]
      by_cases hk : a = k
      · subst hk
        rw [look_none.2, look_none.2]
        · intro hm
          obtain ⟨y, hy, he⟩ := List.mem_map.1 hm
          exact BL.lt_irrefl _ (he ▸ e2.1 y hy)
        · intro hm
          obtain ⟨y, hy, he⟩ := List.mem_map.1 hm
          exact BL.lt_irrefl _ (he ▸ e1.1 y hy)
      · have := h k
        simp only [look, if_neg hk] at this
        exact this
theorem putE_len (k : ByteArray) (v : List Int) : ∀ E : Ent, (putE k v E).length ≤ E.length + 1
  | [] => by simp [putE]
  | (a, u) :: l => by
    have := putE_len k v l
    simp only [putE]
    split
    · simp
    · split
      · simp
      · simp only [List.length_cons]; omega
theorem delE_len (k : ByteArray) (E : Ent) : (delE k E).length ≤ E.length := List.length_filter_le _ _
theorem mem_delE {k : ByteArray} {y : ByteArray × List Int} {E : Ent} (h : y ∈ delE k E) : y ∈ E := (List.mem_filter.1 h).1
/-- An entry that is there already. -/
theorem putE_same {k : ByteArray} {v : List Int} {E : Ent} (hs : SortedE E) (h : look E k = some v) : putE k v E = E :=
  (hs.put k v).ext hs (fun x => by
    rw [look_putE]
    by_cases e : x = k
    · rw [if_pos e, e, h]
    · rw [if_neg e])
theorem delE_same {k : ByteArray} {E : Ent} (h : look E k = none) : delE k E = E := by
  unfold delE
  rw [List.filter_eq_self]
  intro x hx
  simp only [ne_eq, decide_not, Bool.not_eq_eq_eq_not, Bool.not_true, decide_eq_false_iff_not]
  intro e
  exact look_none.1 h (e ▸ List.mem_map_of_mem hx)
end Go.Proofs.YticogmpafehomaaGreatDoor

set_option linter.unusedVariables false
set_option linter.unusedSimpArgs false
namespace Go.Proofs.YticogmpafehomaaGreatDoor
section
variable {P : Program} {ops : Array Oper} {Q : Exit → Act → World → Prop} {md : Region.Mode}

/-- Is one of the tail listed? -/
def begun_ (T : List Nat) (l : Array Bool) : Prop := ∃ t ∈ T, l.getD t false = true

/-- Whatever order is picked from here on; S holds behind each operation until the tail has begun. -/
def wpAnyG (P : Program) (md : Region.Mode) (ops : Array Oper) (Q : Exit → Act → World → Prop) (T : List Nat) (S : World → Prop) : Nat → Array Bool → Act → World → Prop
  | 0, listed, a, w => Region.ready md ops listed = [] ∧ Q .normal a w
  | fuel + 1, listed, a, w =>
    (Region.ready md ops listed = [] → Q .normal a w) ∧
    ∀ i ∈ Region.ready md ops listed, wpOp P ops Q i (fun a' w' => (begun_ T (listed.setIfInBounds i true) ∨ S w') ∧ wpAnyG P md ops Q T S fuel (listed.setIfInBounds i true) a' w') a w

theorem wpAny_of_G {T : List Nat} {S : World → Prop} : ∀ (fuel : Nat) (listed : Array Bool) (a : Act) (w : World), wpAnyG P md ops Q T S fuel listed a w → wpAny P md ops Q fuel listed a w
  | 0, _, _, _, h => h
  | fuel + 1, _, _, _, h => ⟨h.1, fun i hi => wpOp_mono (fun a' w' h' => wpAny_of_G fuel _ a' w' h'.2) (h.2 i hi)⟩
theorem wpAnyG_weaken {T : List Nat} {S S' : World → Prop} (hS : ∀ w, S' w → S w) : ∀ (fuel : Nat) (listed : Array Bool) (a : Act) (w : World), wpAnyG P md ops Q T S' fuel listed a w → wpAnyG P md ops Q T S fuel listed a w
  | 0, _, _, _, h => h
  | fuel + 1, _, _, _, h => ⟨h.1, fun i hi => wpOp_mono (fun a' w' h' => ⟨h'.1.imp id (hS _), wpAnyG_weaken hS fuel _ a' w' h'.2⟩) (h.2 i hi)⟩
/-- Once the tail has begun S is not asked any more. -/
theorem wpAnyG_tail {T : List Nat} {S S' : World → Prop} : ∀ (fuel : Nat) (listed : Array Bool) (a : Act) (w : World), begun_ T listed → wpAnyG P md ops Q T S' fuel listed a w → wpAnyG P md ops Q T S fuel listed a w
  | 0, _, _, _, _, h => h
  | fuel + 1, listed, _, _, hb, h => ⟨h.1, fun i hi => by
      have hb2 : begun_ T (listed.setIfInBounds i true) := by
        obtain ⟨t, ht, hl⟩ := hb
        exact ⟨t, ht, getD_set_true hl⟩
      exact wpOp_mono (fun a' w' h' => ⟨.inl hb2, wpAnyG_tail fuel _ a' w' hb2 h'.2⟩) (h.2 i hi)⟩
/-- Number t waits for number i. -/
def waits_ (md : Region.Mode) (ops : Array Oper) (t i : Nat) : Bool :=
  match ops[t]? with
  | some o => o.after.any fun e => Region.binds md e && e.on == i
  | none => false
theorem waits_spec {t i : Nat} (h : waits_ md ops t i = true) {listed : Array Bool} (hi : listed.getD i true = false) : t ∉ Region.ready md ops listed := by
  intro hr
  obtain ⟨_, o, ho, hall⟩ := mem_ready.1 hr
  unfold waits_ at h
  rw [ho] at h
  obtain ⟨e, he, hb⟩ := Array.any_eq_true'.1 h
  simp only [Bool.and_eq_true, beq_iff_eq] at hb
  have h1 := hall e he hb.1
  rw [hb.2] at h1
  rcases Nat.lt_or_ge i listed.size with h' | h'
  · simp [h'] at hi h1; rw [hi] at h1; cases h1
  · simp [Array.getElem?_eq_none h'] at h1

theorem wpAnyG_first {T : List Nat} {S : World → Prop} {i : Nat} {oi : Oper} {v : Value} (hi : ops[i]? = some oi) (hsel : ∀ (j : Nat) (o : Oper) cs b, ops[j]? = some o → o.op ≠ .select cs b)
    (hQ : ∀ c a w, Q (.panic c) (a.put oi.dst v) w → Q (.panic c) a w) (hT : ∀ t ∈ T, waits_ md ops t i = true) :
    ∀ (fuel : Nat) (listed : Array Bool) (a : Act) (w : World), ¬ begun_ T listed →
      (∀ j oj, ops[j]? = some oj → j ≠ i → listed.getD j true = false → (∀ e ∈ oj.after, Region.binds md e = true → e.on ≠ i) → oi.apart ops oj = true) →
      i ∈ Region.ready md ops listed → YieldsIf P ops S oi v a → S w →
      wpAnyG P md ops Q T S fuel (listed.setIfInBounds i true) (a.put oi.dst v) w → wpAnyG P md ops Q T S (fuel + 1) listed a w := by
  intro fuel
  induction fuel with
  | zero =>
    intro listed a w _ _ hr hy hS H
    refine ⟨fun h => (by rw [h] at hr; cases hr), fun j hj => ?_⟩
    by_cases hji : j = i
    · subst hji; exact hy.wpOp hi hS ⟨.inr hS, H⟩
    · have := ready_mono hj hji
      rw [H.1] at this
      cases this
  | succ fuel ih =>
    intro listed a w hnb hfree hr hy hS H
    refine ⟨fun h => (by rw [h] at hr; cases hr), fun j hj => ?_⟩
    by_cases hji : j = i
    · subst hji; exact hy.wpOp hi hS ⟨.inr hS, H⟩
    · have h1 := H.2 j (ready_mono hj hji)
      obtain ⟨hjun, oj, hoj, hall⟩ := mem_ready.1 hj
      have hnot : ∀ e ∈ oj.after, Region.binds md e = true → e.on ≠ i := fun e he hb heq => by
        have h1 := hall e he hb
        have h0 := (mem_ready.1 hr).1
        rw [heq] at h1
        rcases Nat.lt_or_ge i listed.size with h' | h'
        · simp [h'] at h0 h1; rw [h0] at h1; cases h1
        · simp [Array.getElem?_eq_none h'] at h1
      have h2 := wpOp_putIf hoj (hfree j oj hoj hji hjun hnot) (fun cs b => hsel i oi cs b hi) (fun cs b => hsel j oj cs b hoj) hQ hy h1
      have hfree' : ∀ k ok, ops[k]? = some ok → k ≠ i → (listed.setIfInBounds j true).getD k true = false →
          (∀ e ∈ ok.after, Region.binds md e = true → e.on ≠ i) → oi.apart ops ok = true := fun k ok hk hki hun hno => by
        refine hfree k ok hk hki ?_ hno
        by_cases hjk : j = k
        · subst hjk; exact hjun
        · rw [getD_set_ne true hjk] at hun; exact hun
      have hjT : j ∉ T := fun ht => waits_spec (hT j ht) (mem_ready.1 hr).1 hj
      have hnb2 : ¬ begun_ T (listed.setIfInBounds j true) := fun ⟨t, ht, hl⟩ => hnb ⟨t, ht, by
        rw [getD_set_ne false (fun e : j = t => hjT (by rw [e]; exact ht))] at hl
        exact hl⟩
      have hnb3 : ¬ begun_ T ((listed.setIfInBounds i true).setIfInBounds j true) := fun ⟨t, ht, hl⟩ => hnb2 ⟨t, ht, by
        have hti : i ≠ t := fun e => by
          subst e
          exact waits_spec (hT i ht) (mem_ready.1 hr).1 hr
        rw [getD_set_ne false (fun e : j = t => hjT (by rw [e]; exact ht)), getD_set_ne false hti] at hl
        rw [getD_set_ne false (fun e : j = t => hjT (by rw [e]; exact ht))]
        exact hl⟩
      refine wpOp_mono (fun a' w' h3 => ?_) h2
      have hS' : S w' := h3.2.1.resolve_left hnb3
      refine ⟨.inr hS', ih (listed.setIfInBounds j true) a' w' hnb2 hfree' (ready_mono hr (Ne.symm hji)) h3.1 hS' ?_⟩
      rw [Array.setIfInBounds_comm _ _ hji]
      exact h3.2.2

/-- A plan: 'take i': it only reads; 'run i': the one operation that may come up; 'both i p j q': either may; 'tail i': the one that may, of the tail. -/
inductive Plan where
  | done
  | take (i : Nat) (p : Plan)
  | run (i : Nat) (p : Plan)
  | both (i : Nat) (p : Plan) (j : Nat) (q : Plan)
  | tail (i : Nat) (p : Plan)
def Plan.size : Plan → Nat
  | .done => 0
  | .take _ p => p.size + 1
  | .run _ p => p.size + 1
  | .both _ p _ _ => p.size + 1
  | .tail _ p => p.size + 1
def fresh_ (T : List Nat) (l : Array Bool) : Bool := T.all fun t => !l.getD t false
theorem fresh_spec {T : List Nat} {l : Array Bool} (h : fresh_ T l = true) : ¬ begun_ T l := fun ⟨t, ht, hl⟩ => by
  have := List.all_eq_true.1 h t ht
  rw [hl] at this
  cases this
def Plan.ok (md : Region.Mode) (ops : Array Oper) (T : List Nat) : Plan → Array Bool → Bool
  | .done, l => Region.ready md ops l == []
  | .take i p, l => Region.free md ops l i && ((Region.ready md ops l).contains i && (fresh_ T l && ((T.all fun t => waits_ md ops t i) && p.ok md ops T (l.setIfInBounds i true))))
  | .run i p, l => (Region.ready md ops l == [i]) && p.ok md ops T (l.setIfInBounds i true)
  | .both i p j q, l => (Region.ready md ops l == [i, j]) && (p.size == q.size && (p.ok md ops T (l.setIfInBounds i true) && q.ok md ops T (l.setIfInBounds j true)))
  | .tail i p, l => (Region.ready md ops l == [i]) && (T.contains i && (decide (i < l.size) && p.ok md ops T (l.setIfInBounds i true)))

def wpRun (P : Program) (ops : Array Oper) (Q : Exit → Act → World → Prop) (i : Nat) (S : World → Prop) (N : (World → Prop) → Act → World → Prop) (a : Act) (w : World) : Prop :=
  ∃ o, ops[i]? = some o ∧ ∀ K : Act → World → Prop, (∀ (S' : World → Prop) a' w', (∀ x, S' x → S x) → S' w' → N S' a' w' → K a' w') →
    if Region.wanted o (yielded ops a.tmps) = true then o.wp P a w K Q else K (a.put o.dst undef) w
def wpEnd (P : Program) (ops : Array Oper) (Q : Exit → Act → World → Prop) (i : Nat) (N : Act → World → Prop) (a : Act) (w : World) : Prop :=
  ∃ o, ops[i]? = some o ∧ ∀ K : Act → World → Prop, (∀ a' w', N a' w' → K a' w') →
    if Region.wanted o (yielded ops a.tmps) = true then o.wp P a w K Q else K (a.put o.dst undef) w
def wpPlan (P : Program) (ops : Array Oper) (Q : Exit → Act → World → Prop) : Plan → (World → Prop) → Act → World → Prop
  | .done, _, a, w => Q .normal a w
  | .take i p, S, a, w => ∃ o v, ops[i]? = some o ∧ YieldsIf P ops S o v a ∧ wpPlan P ops Q p S (a.put o.dst v) w
  | .run i p, S, a, w => wpRun P ops Q i S (wpPlan P ops Q p) a w
  | .both i p j q, S, a, w => wpRun P ops Q i S (wpPlan P ops Q p) a w ∧ wpRun P ops Q j S (wpPlan P ops Q q) a w
  | .tail i p, _, a, w => wpEnd P ops Q i (wpPlan P ops Q p (fun _ => True)) a w

theorem plan_done {S : World → Prop} {a : Act} {w : World} (h : Q .normal a w) : wpPlan P ops Q .done S a w := h
theorem plan_take {i : Nat} {p : Plan} {S : World → Prop} {a : Act} {w : World} {o : Oper} {v : Value} (ho : ops[i]? = some o) (hw : Region.wanted o (yielded ops a.tmps) = true)
    (hy : ∀ w, S w → (execOp a.eval o).run P w = .ok (.value v) w) (h : wpPlan P ops Q p S (a.put o.dst v) w) : wpPlan P ops Q (.take i p) S a w := ⟨o, v, ho, .inl ⟨hw, hy⟩, h⟩
theorem plan_skip {i : Nat} {p : Plan} {S : World → Prop} {a : Act} {w : World} {o : Oper} (ho : ops[i]? = some o) (hw : Region.wanted o (yielded ops a.tmps) = false)
    (h : wpPlan P ops Q p S (a.put o.dst undef) w) : wpPlan P ops Q (.take i p) S a w := ⟨o, undef, ho, .inr ⟨hw, rfl⟩, h⟩
theorem plan_run {i : Nat} {p : Plan} {S : World → Prop} {a : Act} {w : World} {o : Oper} (ho : ops[i]? = some o)
    (h : ∀ K : Act → World → Prop, (∀ (S' : World → Prop) a' w', (∀ x, S' x → S x) → S' w' → wpPlan P ops Q p S' a' w' → K a' w') →
      if Region.wanted o (yielded ops a.tmps) = true then o.wp P a w K Q else K (a.put o.dst undef) w) : wpPlan P ops Q (.run i p) S a w := ⟨o, ho, h⟩
theorem plan_both {i j : Nat} {p q : Plan} {S : World → Prop} {a : Act} {w : World} (h : wpPlan P ops Q (.run i p) S a w) (k : wpPlan P ops Q (.run j q) S a w) : wpPlan P ops Q (.both i p j q) S a w := ⟨h, k⟩
theorem plan_tail {i : Nat} {p : Plan} {S : World → Prop} {a : Act} {w : World} {o : Oper} (ho : ops[i]? = some o)
    (h : ∀ K : Act → World → Prop, (∀ a' w', wpPlan P ops Q p (fun _ => True) a' w' → K a' w') →
      if Region.wanted o (yielded ops a.tmps) = true then o.wp P a w K Q else K (a.put o.dst undef) w) : wpPlan P ops Q (.tail i p) S a w := ⟨o, ho, h⟩

theorem plan_run_on {i : Nat} {p : Plan} {S : World → Prop} {a : Act} {w : World} {o : Oper} (ho : ops[i]? = some o) (hw : Region.wanted o (yielded ops a.tmps) = true)
    (h : ∀ K : Act → World → Prop, (∀ (S' : World → Prop) a' w', (∀ x, S' x → S x) → S' w' → wpPlan P ops Q p S' a' w' → K a' w') → o.wp P a w K Q) : wpPlan P ops Q (.run i p) S a w :=
  plan_run ho (fun K hK => by rw [if_pos hw]; exact h K hK)
theorem plan_run_off {i : Nat} {p : Plan} {S : World → Prop} {a : Act} {w : World} {o : Oper} (ho : ops[i]? = some o) (hw : Region.wanted o (yielded ops a.tmps) = false) (hS : S w)
    (h : wpPlan P ops Q p S (a.put o.dst undef) w) : wpPlan P ops Q (.run i p) S a w :=
  plan_run ho (fun K hK => by rw [if_neg (by rw [hw]; simp)]; exact hK S _ _ (fun _ h => h) hS h)
theorem plan_tail_on {i : Nat} {p : Plan} {S : World → Prop} {a : Act} {w : World} {o : Oper} (ho : ops[i]? = some o) (hw : Region.wanted o (yielded ops a.tmps) = true)
    (h : ∀ K : Act → World → Prop, (∀ a' w', wpPlan P ops Q p (fun _ => True) a' w' → K a' w') → o.wp P a w K Q) : wpPlan P ops Q (.tail i p) S a w :=
  plan_tail ho (fun K hK => by rw [if_pos hw]; exact h K hK)
theorem wpOp_of_run {i : Nat} {o : Oper} {K : Act → World → Prop} {a : Act} {w : World} (ho : ops[i]? = some o)
    (h : if Region.wanted o (yielded ops a.tmps) = true then o.wp P a w K Q else K (a.put o.dst undef) w) : wpOp P ops Q i K a w := by
  unfold wpOp
  simp only [ho]
  split
  · rename_i hw; rw [if_pos hw] at h; exact .inl h
  · rename_i hw; rw [if_neg hw] at h; exact h

theorem wpAnyG_of_plan {T : List Nat} (hs : Region.noSelect ops = true) (hQ : ∀ c a d v w, Q (.panic c) (Act.put a d v) w → Q (.panic c) a w) :
    ∀ (p : Plan) (S : World → Prop) (listed : Array Bool) (a : Act) (w : World), p.ok md ops T listed = true → S w → wpPlan P ops Q p S a w → wpAnyG P md ops Q T S p.size listed a w
  | .done, S, listed, a, w, hk, hS, h => by
    simp only [Plan.ok, beq_iff_eq] at hk
    exact ⟨hk, h⟩
  | .take i p, S, listed, a, w, hk, hS, h => by
    simp only [Plan.ok, Bool.and_eq_true] at hk
    obtain ⟨o, v, ho, hy, h⟩ := h
    exact wpAnyG_first ho (Region.noSelect_spec hs) (fun c a w h => hQ c a _ _ w h) (fun t ht => List.all_eq_true.1 hk.2.2.2.1 t ht) _ listed a w (fresh_spec hk.2.2.1) (Region.free_spec ho hk.1) (by simpa using hk.2.1) hy hS
      (wpAnyG_of_plan hs hQ p S _ _ w hk.2.2.2.2 hS h)
  | .run i p, S, listed, a, w, hk, hS, h => by
    simp only [Plan.ok, Bool.and_eq_true, beq_iff_eq] at hk
    refine ⟨fun h0 => (by rw [hk.1] at h0; cases h0), fun j hj => ?_⟩
    rw [hk.1] at hj
    obtain rfl : j = i := by simpa using hj
    obtain ⟨o, ho, h⟩ := h
    exact wpOp_of_run ho (h _ (fun S' a' w' hS' hw' hN => ⟨.inr (hS' _ hw'), wpAnyG_weaken hS' _ _ _ _ (wpAnyG_of_plan hs hQ p S' _ a' w' hk.2 hw' hN)⟩))
  | .both i p j q, S, listed, a, w, hk, hS, h => by
    simp only [Plan.ok, Bool.and_eq_true, beq_iff_eq] at hk
    refine ⟨fun h0 => (by rw [hk.1] at h0; cases h0), fun k hk' => ?_⟩
    rw [hk.1] at hk'
    have hk2 : k = i ∨ k = j := by simpa using hk'
    rcases hk2 with rfl | rfl
    · obtain ⟨o, ho, h⟩ := h.1
      exact wpOp_of_run ho (h _ (fun S' a' w' hS' hw' hN => ⟨.inr (hS' _ hw'), wpAnyG_weaken hS' _ _ _ _ (wpAnyG_of_plan hs hQ p S' _ a' w' hk.2.2.1 hw' hN)⟩))
    · obtain ⟨o, ho, h⟩ := h.2
      refine wpOp_of_run ho (h _ (fun S' a' w' hS' hw' hN => ⟨.inr (hS' _ hw'), wpAnyG_weaken hS' _ _ _ _ ?_⟩))
      show wpAnyG P md ops Q T S' p.size _ _ _
      rw [hk.2.1]
      exact wpAnyG_of_plan hs hQ q S' _ a' w' hk.2.2.2 hw' hN
  | .tail i p, S, listed, a, w, hk, hS, h => by
    simp only [Plan.ok, Bool.and_eq_true, beq_iff_eq, decide_eq_true_eq] at hk
    refine ⟨fun h0 => (by rw [hk.1] at h0; cases h0), fun j hj => ?_⟩
    rw [hk.1] at hj
    obtain rfl : j = i := by simpa using hj
    obtain ⟨o, ho, h⟩ := h
    have hb : begun_ T (listed.setIfInBounds j true) := ⟨j, by simpa using hk.2.1, by simp [hk.2.2.1]⟩
    exact wpOp_of_run ho (h _ (fun a' w' hN => ⟨.inl hb, wpAnyG_tail _ _ _ _ hb (wpAnyG_of_plan hs hQ p (fun _ => True) _ a' w' hk.2.2.2 trivial hN)⟩))

def planB (ops : Array Oper) (T : List Nat) (p : Plan) : Bool := Region.noSelect ops && (p.size == ops.size && p.ok .any ops T (Array.replicate ops.size false))
theorem wp_region_plan {id : Nat} {a : Act} {w : World} (T : List Nat) (p : Plan) (S : World → Prop) (hm : P.follows .mixedOrders = true) (hB : planB ops T p = true)
    (hQ : ∀ c a d v w, Q (.panic c) (Act.put a d v) w → Q (.panic c) a w) (hS : S w.drew)
    (h : wpPlan P ops Q p S a w.drew) : (Code.region id ops true).wp P Q a w := by
  simp only [planB, Bool.and_eq_true, beq_iff_eq] at hB
  have h2 := wpAnyG_of_plan hB.1 hQ p S _ a _ hB.2.2 hS h
  rw [hB.2.1] at h2
  exact wp_region_any hm (wpAny_of_G _ _ _ _ h2)
end
end Go.Proofs.YticogmpafehomaaGreatDoor
namespace Go.Proofs.YticogmpafehomaaGreatDoor
section
variable {P : Program}
theorem run_loadAt_addr (w : World) (a : Addr) (ty : TypeId) (cs : List Value) (d : TypeDesc) (hc : ∀ j v, cs[j]? = some v → w.cell? (a.add j) = some v)
    (hu : P.underlying ty = some d) (hd : d.isRow = true) (hi : (P.info? ty).map (·.size) = some cs.length) :
    (Instr.loadAt ty (.pointer (some a))).run P w = .ok (.agg cs.toArray) w := by
  have hl : (loadCells a cs.length).run P w = .ok cs.toArray w := run_loadCells_list (P := P) w a cs hc
  cases hq : P.info? ty with
  | none => simp [hq] at hi
  | some i =>
    have hs : i.size = cs.length := by simpa [hq] using hi
    have hagg : (isAgg ty).run P w = .ok true w := by
      unfold isAgg
      rw [Sem.run_bind, run_underlying hu w]
      cases d <;> simp_all
    simp only [Instr.loadAt, Instr.sureAddr, Sem.run_bind, Sem.run_pure, Result.andThen_ok]
    simp [loadVar, Sem.run_bind, hagg, sizeOf, typeInfo, hq, hs, hl]
/-- A whole array (or struct) read as one operation. -/
theorem exec_load_row {o : Oper} {A : Act} {w : World} (ty : TypeId) (x : Operand) (ho : o.op = .load ty x) (a : Addr) (hx : A.eval x = .pointer (some a)) (cs : List Value) (d : TypeDesc)
    (hc : ∀ j v, cs[j]? = some v → w.cell? (a.add j) = some v) (hu : P.underlying ty = some d) (hd : d.isRow = true) (hi : (P.info? ty).map (·.size) = some cs.length) :
    (execOp A.eval o).run P w = .ok (.value (.agg cs.toArray)) w := by
  unfold execOp
  simp only [ho, hx, Sem.run_bind, run_loadAt_addr w a ty cs d hc hu hd hi, Result.andThen_ok, Sem.run_pure]
  try rfl
theorem wp_load_addr {op : Oper} {a : Act} {w : World} {K : Act → World → Prop} {Q : Exit → Act → World → Prop} (ty : TypeId) (x : Operand) (ho : op.op = .load ty x)
    (ad : Addr) (hx : a.eval x = .pointer (some ad)) (cs : List Value) (d : TypeDesc) (hc : ∀ j v, cs[j]? = some v → w.cell? (ad.add j) = some v)
    (hu : P.underlying ty = some d) (hd : d.isRow = true) (hi : (P.info? ty).map (·.size) = some cs.length)
    (h : K (a.put op.dst (.agg cs.toArray)) w) : op.wp P a w K Q := by
  unfold Oper.wp
  rw [exec_load_row ty x ho ad hx cs d hc hu hd hi]
  exact h
theorem wpList_load_addr {ops : Array Oper} {rest : List Oper} {op : Oper} {a : Act} {w : World} {Q : Exit → Act → World → Prop} (hgd : op.guard = none) (ty : TypeId) (x : Operand) (ho : op.op = .load ty x)
    (ad : Addr) (hx : a.eval x = .pointer (some ad)) (cs : List Value) (d : TypeDesc) (hc : ∀ j v, cs[j]? = some v → w.cell? (ad.add j) = some v)
    (hu : P.underlying ty = some d) (hd : d.isRow = true) (hi : (P.info? ty).map (·.size) = some cs.length)
    (h : wpList P ops Q rest (a.put op.dst (.agg cs.toArray)) w) : wpList P ops Q (op :: rest) a w :=
  wpList_plain hgd fun _ hK => wp_load_addr ty x ho ad hx cs d hc hu hd hi (hK _ _ h)
end
end Go.Proofs.YticogmpafehomaaGreatDoor

set_option linter.unusedVariables false
set_option linter.unusedSimpArgs false
namespace Go.Proofs.YticogmpafehomaaGreatDoor
open Go.RowKit Go.Proofs.YticogmpafehomaaGreatDoorW.PrintWords
theorem info_u8 : (Tryz.prog.info? 5).map (fun i => (i.zero, i.size, i.bytes)) = some (some (.int .u8 0), 1, 1) := by kernel_rfl
theorem C_int {w : World} {A : Option Addr} {xs : List Int} (h : KB.C w A xs.length xs) : ReadsInt w .u8 A xs.length xs := Kd.reads_of_C h
theorem RB_int {w : World} {ok : Nat → Prop} {A : Option Addr} {xs : List Int} (h : RB w ok A xs) : ReadsInt w .u8 A xs.length xs := Kd.reads_of_C (Kd.F_now h)
theorem RB_step {w w1 : World} {ok S : Nat → Prop} {A : Option Addr} {xs : List Int} (h : RB w ok A xs) (hc : Chg S w w1) (hne : apart ok S) : RB w1 ok A xs := Kd.F_step h (hc.stays hne)
theorem RB_below {w w1 : World} {ok : Nat → Prop} {A : Option Addr} {xs : List Int} (h : RB w ok A xs) (hc : Below w.heap.size w w1) : RB w1 ok A xs := Kd.F_below h hc
theorem C_none {α : Type} {d : Kd α} {w : World} {xs : List α} (h : d.C w none xs.length xs) : xs = [] := by
  obtain ⟨_, _, h3⟩ := h
  cases xs with
  | nil => rfl
  | cons x xs =>
    obtain ⟨ad, e, _⟩ := h3 (by simp)
    cases e
theorem RB_none {w : World} {ok : Nat → Prop} {xs : List Int} (h : RB w ok none xs) : xs = [] := C_none (Kd.F_now h)
theorem RB_len {w : World} {ok : Nat → Prop} {A : Option Addr} {xs : List Int} (h : RB w ok A xs) : xs.length ≤ 9223372036854775807 := (Kd.F_now h).2.1
theorem Rown {e : Nat} {w : World} {base : Nat} {ok : Nat → Prop} {v : Value} {k : IntKind} {xs : List Int} (ho : w.ownsRow base e 1 v xs.length (nums k xs)) (hok : ∀ i, v.ownBlock = some i → ok i) : (Kd.int k).R e w base ok v xs := Kd.R_of_own ho hok
theorem R_own1 {e : Nat} {w : World} {base : Nat} {ok : Nat → Prop} {v : Value} {k : IntKind} {xs : List Int} (h : (Kd.int k).R e w base ok v xs) : w.ownsRow base e 1 v xs.length (nums k xs) := Kd.own_of_R h
/-- A row of one's own is read. -/
theorem R_RB {e : Nat} {w : World} {base : Nat} {ok : Nat → Prop} {A : Option Addr} {n c : Nat} {xs : List Int} (h : KB.R e w base ok (.slice A n c) xs) : n = xs.length ∧ RB w ok A xs := by
  obtain ⟨A', c', he, _, _⟩ := Kd.R_reads h
  injection he with h1 h2 h3
  subst h2
  exact ⟨rfl, Kd.R_F h⟩
theorem cells_of_C {w : World} {k : IntKind} {a : Addr} {n : Nat} {xs : List Int} (h : (Kd.int k).C w (some a) n xs) : ∀ j v, (nums k xs)[j]? = some v → w.cell? (a.add j) = some v := by
  have h2 := Kd.reads_of_C (enc := Value.int k) (d := (0 : Int)) (h1 := fun _ => rfl) h
  intro j v hj
  have hl : j < xs.length := by
    rcases Nat.lt_or_ge j xs.length with h | h
    · exact h
    · rw [List.getElem?_eq_none (by rw [nums_length]; exact h)] at hj
      cases hj
  obtain ⟨ad, he, hc⟩ := h2.2.2 (by have := h2.1; omega)
  injection he with he
  subst he
  rw [hc j (by have := h2.1; omega)]
  simp [nums, List.getElem?_eq_getElem hl] at hj
  subst hj
  simp [List.getD_eq_getElem?_getD, List.getElem?_eq_getElem hl]
theorem reads_row {w : World} {g : Nat} {cur : Array Value} {t : TypeId} {k : IntKind} {xs : List Int} {o : Nat} (hg : w.heap[g]? = some (.cells cur t (0, 0))) (hl : xs.length ≤ 9223372036854775807)
    (hc : ∀ j, j < xs.length → cur[o + j]? = some (.int k (xs.getD j 0))) : ReadsInt w k (some ⟨g, o, none⟩) xs.length xs :=
  ⟨rfl, hl, fun _ => ⟨_, rfl, fun j hj => by rw [Addr.add_mid, cell_of_row w g _ cur t (0, 0) hg]; exact hc j hj⟩⟩
theorem RB_blk {w : World} {g : Nat} {cur : Array Value} {t : TypeId} {xs : List Int} {o : Nat} (hg : w.heap[g]? = some (.cells cur t (0, 0))) (hl : xs.length ≤ 9223372036854775807)
    (hc : ∀ j, j < xs.length → cur[o + j]? = some (.int .u8 (xs.getD j 0))) : RB w (fun k => k = g) (some ⟨g, o, none⟩) xs :=
  fun W' hW => Kd.C_of_reads (reads_row ((hW g rfl (Array.getElem?_eq_some_iff.1 hg).1).trans hg) hl hc)
theorem RB_new (w : World) (t : TypeId) (xs : List Int) (hl : xs.length ≤ 9223372036854775807) : RB (w.alloc (.cells (nums .u8 xs).toArray t)) (fun k => k = w.heap.size) (some ⟨w.heap.size, 0, none⟩) xs :=
  RB_blk (heap_alloc_new w _) hl (fun j hj => by simp [nums, List.getD_eq_getElem?_getD, hj])
theorem nums_one (k : IntKind) (xs : List Int) : (nums k xs).toArray.all (·.oneCell') = true :=
  all_oneCell_toArray (fun v hv => by simp only [nums, List.mem_map] at hv; obtain ⟨q, _, rfl⟩ := hv; rfl)
set_option maxRecDepth 100000 in
theorem clone_some {w : World} {a : Addr} {c : Nat} {xs : List Int} (h : KB.C w (some a) xs.length xs) (hl : xs.length ≤ 140737488351232) :
  Calls Tryz.prog 57 #[.slice (some a) xs.length c] w fun e w' => ∃ v, e = .returned v ∧ KB.R 5 w' w.heap.size (fun _ => True) v xs ∧ Below w.heap.size w w' := by
  have hq := fun w => Lib.run_eql_slice_nil (P := Tryz.prog) w 25 5 (some a) xs.length c 0 0 Tryz.underlying25
  go_enter Tryz.func57, Tryz.ntmps57
  go_wp2_with (at_builtin; refine print_append_row (w0 := w) w.heap.size rfl (.tmp 5) (.tmp 6) 25 5 .u8 1 rfl Tryz.underlying25 info_u8 (by decide) _ [] xs (some a) xs.length c rfl rfl ?HO ?HR ?HB ?hb ?hl ?_)
  case HO => exact World.ownsRow_made (base := w.heap.size) w #[] 0 (Nat.le_refl _) (Nat.zero_le _) rfl
  case HR => exact (C_int h).below (below_alloc (Below.refl _ _) _)
  case HB => exact below_alloc (Below.refl _ _) _
  case hb => simp
  case hl => simp; omega
  intro v1 w1 ho hb hg hat
  go_wp2
  go_ret
  exact ⟨v1, rfl, Rown (by simpa using ho) (fun _ _ => trivial), hb⟩
set_option maxRecDepth 100000 in
theorem clone_none {w : World} {n c : Nat} :
  Calls Tryz.prog 57 #[.slice none n c] w fun e w' => e = .returned (.slice none 0 0) ∧ w = w' := by
  have hq := fun w => Lib.run_eql_slice_nil (P := Tryz.prog) w 25 5 none n c 0 0 Tryz.underlying25
  go_enter Tryz.func57, Tryz.ntmps57
  go_wp2
  go_ret
  exact ⟨rfl, rfl⟩
theorem clone_any {w : World} {A : Option Addr} {c : Nat} {xs : List Int} (h : KB.C w A xs.length xs) (hl : xs.length ≤ 140737488351232) :
  Calls Tryz.prog 57 #[.slice A xs.length c] w fun e w' => ∃ A' c', e = .returned (.slice A' xs.length c') ∧ KB.R 5 w' w.heap.size (fun k => w.heap.size ≤ k) (.slice A' xs.length c') xs ∧ Below w.heap.size w w' := by
  have key : ∀ {v w'}, KB.R 5 w' w.heap.size (fun _ => True) v xs → ∃ A' c', v = .slice A' xs.length c' ∧ KB.R 5 w' w.heap.size (fun k => w.heap.size ≤ k) v xs := by
    intro v w' hR
    obtain ⟨A', c', he⟩ := Kd.R_slice hR
    exact ⟨A', c', he, Kd.R_mono (Kd.R_bound hR) (fun k hk => hk.2.1)⟩
  cases A with
  | none =>
    obtain rfl := C_none h
    refine clone_none.mono ?_
    rintro e w' ⟨rfl, rfl⟩
    exact ⟨none, 0, rfl, Kd.R_nil _ _ _ _ _, Below.refl _ _⟩
  | some a =>
    refine (clone_some h hl).mono ?_
    rintro e w' ⟨v, rfl, hR, hb⟩
    obtain ⟨A', c', rfl, hR'⟩ := key hR
    exact ⟨A', c', rfl, hR', hb⟩
end Go.Proofs.YticogmpafehomaaGreatDoor
namespace Go.Proofs.YticogmpafehomaaGreatDoor
open Go.RowKit Go.Proofs.YticogmpafehomaaGreatDoorW.PrintWords
theorem conv_str {w : World} {A : Option Addr} {n c : Nat} {xs : List Int} (h : KB.C w A n xs) : (convert 25 9 (.slice A n c)).run Tryz.prog w = .ok (.string (strOfNums xs)) w :=
  Kd.C_string Tryz.underlying25 Tryz.underlying5 Tryz.underlying9 h
end Go.Proofs.YticogmpafehomaaGreatDoor

set_option linter.unusedVariables false
set_option linter.unusedSimpArgs false
namespace Go.Proofs.YticogmpafehomaaGreatDoor
open Go.RowKit Go.Proofs.YticogmpafehomaaGreatDoorW.PrintWords

/-! ### A part of a row that is read -/
theorem RB_take {w : World} {ok : Nat → Prop} {A : Option Addr} {xs : List Int} (h : RB w ok A xs) {n : Nat} (hn : n ≤ xs.length) : RB w ok A (xs.take n) := by
  intro W' hW
  have hl : (xs.take n).length = n := by rw [List.length_take]; omega
  have h2 : ReadsInt W' .u8 A xs.length xs := C_int (h W' hW)
  refine Kd.C_of_reads (enc := Value.int .u8) (d := (0 : Int)) (h1 := fun _ => rfl) ⟨rfl, ?_, ?_⟩
  · rw [hl]; exact Nat.le_trans hn h2.2.1
  · intro hp
    rw [hl] at hp
    obtain ⟨ad, he, hc⟩ := h2.2.2 (by omega)
    refine ⟨ad, he, fun j hj => ?_⟩
    rw [hl] at hj
    rw [hc j (by omega)]
    simp [List.getD_eq_getElem?_getD, List.getElem?_take, hj]
/-- Where a row goes on behind n of its cells (a capacity of c). -/
def behind (A : Option Addr) (n c : Nat) : Option Addr := if c = n then A else A.map (·.add n)
theorem RB_drop {w : World} {ok : Nat → Prop} {A : Option Addr} {xs : List Int} {c : Nat} (h : RB w ok A xs) {n : Nat} (hn : n ≤ xs.length) (hc : xs.length ≤ c) : RB w ok (behind A n c) (xs.drop n) := by
  intro W' hW
  have hl : (xs.drop n).length = xs.length - n := by rw [List.length_drop]
  have h2 : ReadsInt W' .u8 A xs.length xs := C_int (h W' hW)
  refine Kd.C_of_reads (enc := Value.int .u8) (d := (0 : Int)) (h1 := fun _ => rfl) ⟨rfl, ?_, ?_⟩
  · rw [hl]; exact Nat.le_trans (Nat.sub_le _ _) h2.2.1
  · intro hp
    rw [hl] at hp
    obtain ⟨ad, rfl, hcl⟩ := h2.2.2 (by omega)
    refine ⟨ad.add n, by unfold behind; rw [if_neg (by omega)]; rfl, fun j hj => ?_⟩
    rw [hl] at hj
    rw [Addr.add_add, hcl (n + j) (by omega)]
    simp [List.getD_eq_getElem?_getD, List.getElem?_drop]

/-! ### A number of bytes, the highest first -/
def val (b : List Int) : Int := b.foldl (fun n x => n * 256 + x) 0
theorem val_snoc (b : List Int) (x : Int) : val (b ++ [x]) = val b * 256 + x := by simp [val]
theorem val_lt {b : List Int} (h : Bytes b) : 0 ≤ val b ∧ val b < 256 ^ b.length := by
  suffices ∀ (n : Nat), n ≤ b.length → 0 ≤ val (b.take n) ∧ val (b.take n) < 256 ^ n by
    have := this b.length (Nat.le_refl _); rwa [List.take_length] at this
  intro n
  induction n with
  | zero => intro _; simp [val]
  | succ n ih =>
    intro hn
    have h1 := ih (by omega)
    have hx := h b[n] (List.getElem_mem (by omega))
    rw [← List.take_append_getElem (by omega : n < b.length), val_snoc, Int.pow_succ]
    omega
theorem val_le8 {b : List Int} (h : Bytes b) (hl : b.length ≤ 8) : val b < 18446744073709551616 := by
  have h1 := (val_lt h).2
  have h2 : (256 : Nat) ^ b.length ≤ 256 ^ 8 := Nat.pow_le_pow_right (by decide) hl
  have h3 : (256 : Nat) ^ 8 = 18446744073709551616 := by decide
  rw [h3] at h2
  have h4 : (256 : Int) ^ b.length = ((256 ^ b.length : Nat) : Int) := by rw [Int.natCast_pow]; rfl
  omega
theorem wrap_u64_mod (m : Int) : IntKind.u64.wrap m = m % 18446744073709551616 := by simp [IntKind.wrap, IntKind.bits, IntKind.signed]
set_option maxRecDepth 100000 in
theorem or_byte {n x : Int} (h0 : 0 ≤ n) (h1 : n * 256 + x < 18446744073709551616) (hx0 : 0 ≤ x) (hx : x < 256) : bits .or .u64 (n * 256) x = n * 256 + x :=
  bits_join .u64 64 (by decide) (fun m h0 h1 => by
    have : IntKind.u64.wrap m = m % 18446744073709551616 := wrap_u64_mod m
    rw [this]; exact Int.emod_eq_of_lt h0 (by have : (2 : Int) ^ 64 = 18446744073709551616 := by decide
                                              omega)) 8 (n * 256) x (by omega) (by omega) (by omega) hx0 (by omega) (by omega)

end Go.Proofs.YticogmpafehomaaGreatDoor

set_option linter.unusedVariables false
set_option linter.unusedSimpArgs false
namespace Go.Proofs.YticogmpafehomaaGreatDoor
open Go.RowKit Go.Proofs.YticogmpafehomaaGreatDoorW.PrintWords

def be (n : Int) (m : Nat) : List Int := (List.range m).map fun t => n / 2 ^ (8 * (m - 1 - t)) % 256
theorem be_length (n : Int) (m : Nat) : (be n m).length = m := by simp [be]
theorem be_take {n : Int} {m j : Nat} (h0 : 0 < j) (hj : j ≤ m) : (be n m).take (m - j) ++ [n / 2 ^ (8 * j - 8) % 256] = (be n m).take (m - (j - 1)) := by
  have hl : m - j < (be n m).length := by rw [be_length]; omega
  have e1 : m - (j - 1) = (m - j) + 1 := by omega
  have e2 : (be n m)[m - j] = n / 2 ^ (8 * j - 8) % 256 := by
    simp only [be, List.getElem_map, List.getElem_range]
    congr 3
    omega
  rw [e1, List.take_succ_eq_append_getElem hl, e2]
theorem be_bytes (n : Int) (m : Nat) : Bytes (be n m) := fun x hx => by
  simp only [be, List.mem_map] at hx
  obtain ⟨t, _, rfl⟩ := hx
  omega
theorem orNew_again {ok : Nat → Prop} {w w1 : World} (h : w.heap.size ≤ w1.heap.size) : ∀ k, orNew (orNew ok w) w1 k → orNew ok w k := by
  rintro k (h1 | h1)
  · exact h1
  · exact .inr (Nat.le_trans h h1)
theorem chg_again {ok : Nat → Prop} {w w1 w2 : World} (h : Chg ok w w1) (k : Chg (orNew ok w) w1 w2) : Chg ok w w2 := h.then_ k (fun _ h => h)
theorem be_succ (n : Int) (m : Nat) : be n (m + 1) = be (n / 256) m ++ [n % 256] := by
  unfold be
  rw [List.range_succ, List.map_append, List.map_singleton]
  congr 1
  · apply List.map_congr_left
    intro t ht
    have htm := List.mem_range.1 ht
    have e : 8 * (m + 1 - 1 - t) = 8 + 8 * (m - 1 - t) := by omega
    rw [e, Int.pow_add, ← Int.ediv_ediv_of_nonneg (by decide)]
    rfl
  · have e : 8 * (m + 1 - 1 - m) = 0 := by omega
    rw [e]
    simp
theorem val_be (m : Nat) : ∀ n : Int, 0 ≤ n → val (be n m) = n % 256 ^ m := by
  induction m with
  | zero => intro n _; simp [be, val, Int.emod_one]
  | succ m ih =>
    intro n hn
    rw [be_succ, val_snoc, ih (n / 256) (by omega)]
    have hp : (0 : Int) < 256 ^ m := Int.pow_pos (by decide)
    have h1 := Int.emod_emod_of_dvd n (Int.dvd_mul_left (256 : Int) ((256 : Int) ^ m))
    have e : n % (256 ^ m * 256) = (n / 256) % 256 ^ m * 256 + n % 256 := by
      have a1 := Int.mul_ediv_add_emod n 256
      have a2 := Int.mul_ediv_add_emod (n / 256) (256 ^ m)
      have hb := Int.emod_nonneg n (show (256 : Int) ≠ 0 by decide)
      have hb2 := Int.emod_lt_of_pos n (show (0 : Int) < 256 by decide)
      have hc := Int.emod_nonneg (n / 256) (Int.ne_of_gt hp)
      have hc2 := Int.emod_lt_of_pos (n / 256) hp
      generalize n % 256 = r at *
      generalize hq : n / 256 = q at *
      generalize q % 256 ^ m = s at *
      generalize q / 256 ^ m = t at *
      generalize (256 : Int) ^ m = X at *
      have hn2 : n = (s * 256 + r) + (X * 256) * t := by rw [← a1, ← a2]; grind
      rw [hn2, Int.add_mul_emod_self_left]
      apply Int.emod_eq_of_lt
      · omega
      · omega
    rw [Int.pow_succ, e]
end Go.Proofs.YticogmpafehomaaGreatDoor

set_option linter.unusedVariables false
set_option linter.unusedSimpArgs false
namespace Go.Proofs.YticogmpafehomaaGreatDoor
open Go.RowKit Go.Proofs.YticogmpafehomaaGreatDoorW.PrintWords Go.Proofs.YticogmpafehomaaGreatDoorW.PrintMore

/-- How many blocks a record of so many bytes has. -/
def need (n : Int) : Int := if n < 0 ∨ 131072 < n then 0 else if n ≤ 47 then 1 else 1 + (n + 2) / 50
set_option maxRecDepth 100000 in
theorem value_any {w : World} {A : Option Addr} {c : Nat} {b : List Int} (h : KB.C w A b.length b) (hb : Bytes b) (hl : b.length ≤ 8) :
  Calls Tryz.prog 157 #[.slice A b.length c] w fun e w' => e = .returned (.int .u64 (val b)) ∧ w' = w := by
  go_enter Tryz.func157, Tryz.ntmps157
  go_wp2_with fail
  go_loopw [3, 8] (fun v i wr => wr = w ∧ ∃ k : Nat, k ≤ b.length ∧ i = .int .i64 k ∧ v = .int .u64 (val (b.take k))) (fun _ i _ => b.length - (intOf i).toNat)
  case atStart => exact ⟨rfl, 0, Nat.zero_le _, rfl, by simp [val]⟩
  case round =>
    obtain ⟨rfl, k, hk, rfl, rfl⟩ := hrel
    by_cases hlt : k < b.length
    · obtain ⟨ad, rfl, hcell⟩ := (C_int h).at_ (k : Int) (by omega) (by omega)
      simp only [Int.toNat_natCast] at hcell
      have hlw : (k : Int) < (b.length : Int) := by omega
      have hrd : rd b k = b[k] := by simp [rd, List.getD_eq_getElem?_getD, hlt]
      rw [hrd] at hcell
      have hx := hb b[k] (List.getElem_mem hlt)
      have hv0 := val_lt (hb.take k)
      have hv := val_le8 (hb.take (k + 1)) (by rw [List.length_take]; omega)
      rw [← List.take_append_getElem hlt, val_snoc] at hv
      have hor := or_byte hv0.1 hv hx.1 hx.2
      have hw1 : IntKind.u64.wrap (val (b.take k) * 256) = val (b.take k) * 256 := by rw [wrap_u64_mod]; exact Int.emod_eq_of_lt (by omega) (by omega)
      go_wp2
      go_roundw
      case rel => exact ⟨trivial, k + 1, by omega, by go_num, by rw [← List.take_append_getElem hlt, val_snoc]⟩
      case measure => simp [intOf]; omega
    · obtain rfl : k = b.length := by omega
      rw [List.take_length]
      go_wp2
      go_ret
      exact ⟨rfl, rfl⟩
/-- Are all bytes 0? -/
def blank (b : List Int) : Bool := b.all (· == 0)
theorem blank_take {b : List Int} {k : Nat} (h : k < b.length) (h0 : blank (b.take k) = true) : blank (b.take (k + 1)) = (b[k] == 0) := by
  unfold blank at *
  rw [← List.take_append_getElem h, List.all_append, h0]
  simp
theorem blank_stop {b : List Int} {k : Nat} (h : k < b.length) (h0 : (b[k] == 0) = false) : blank b = false := by
  unfold blank
  rw [Bool.eq_false_iff]
  intro ha
  have := List.all_eq_true.1 ha b[k] (List.getElem_mem h)
  rw [h0] at this
  cases this

set_option maxRecDepth 100000 in
theorem blank_any {w : World} {A : Option Addr} {c : Nat} {b : List Int} (h : KB.C w A b.length b) :
  Calls Tryz.prog 158 #[.slice A b.length c] w fun e w' => e = .returned (.bool (blank b)) ∧ w' = w := by
  have hlm : b.length ≤ 9223372036854775807 := h.2.1
  go_enter Tryz.func158, Tryz.ntmps158
  go_wp2_with fail
  go_loopw [7] (fun i wr => wr = w ∧ ∃ k : Nat, k ≤ b.length ∧ i = .int .i64 k ∧ blank (b.take k) = true) (fun i _ => b.length - (intOf i).toNat)
  case atStart => exact ⟨rfl, 0, Nat.zero_le _, rfl, by simp [blank]⟩
  case round =>
    obtain ⟨rfl, k, hk, rfl, hbl⟩ := hrel
    by_cases hlt : k < b.length
    · obtain ⟨ad, rfl, hcell⟩ := (C_int h).at_ (k : Int) (by omega) (by omega)
      simp only [Int.toNat_natCast] at hcell
      have hlw : (k : Int) < (b.length : Int) := by omega
      have hrd : rd b k = b[k] := by simp [rd, List.getD_eq_getElem?_getD, hlt]
      rw [hrd] at hcell
      have hnext := blank_take hlt hbl
      have hstop := fun h0 => blank_stop (b := b) hlt h0
      generalize b[k] = x at hcell hnext hstop
      by_cases hx : x = 0
      · subst hx
        have hn2 : blank (b.take (k + 1)) = true := by rw [hnext]; rfl
        clear hnext hstop hbl
        go_wp2
        go_roundw
        case rel => exact ⟨trivial, k + 1, by omega, by go_num, hn2⟩
        case measure => simp [intOf]; omega
      · have hb0 : blank b = false := hstop (by simp [hx])
        have HB := hid hb0
        clear hnext hstop hb0 hbl
        go_wp2
        go_ret
        exact ⟨by rw [HB.out]; rfl, rfl⟩
    · obtain rfl : k = b.length := by omega
      rw [List.take_length] at hbl
      have HB := hid hbl
      clear hbl
      go_wp2
      go_ret
      exact ⟨by rw [HB.out]; rfl, rfl⟩

theorem need_any {w : World} (n : Int) (hn : -9223372036854775808 ≤ n ∧ n ≤ 9223372036854775807) :
  Calls Tryz.prog 52 #[.int .i64 n] w fun e w' => e = .returned (.int .i64 (need n)) ∧ w = w' := by
  unfold need
  by_cases h1 : n < 0
  · rw [if_pos (.inl h1)]
    go_enter Tryz.func52, Tryz.ntmps52
    go_wp2
    go_ret
    exact ⟨rfl, rfl⟩
  by_cases h2 : 131072 < n
  · rw [if_pos (.inr h2)]
    go_enter Tryz.func52, Tryz.ntmps52
    go_wp2
    go_ret
    exact ⟨rfl, rfl⟩
  rw [if_neg (by omega)]
  by_cases h3 : n ≤ 47
  · rw [if_pos h3]
    go_enter Tryz.func52, Tryz.ntmps52
    go_wp2
    go_ret
    exact ⟨rfl, rfl⟩
  rw [if_neg h3]
  obtain ⟨m, rfl⟩ : ∃ m : Int, n = m + 47 := ⟨n - 47, by omega⟩
  have hw1 : IntKind.i64.wrap (m + 47 - 47) = m := by rw [IntKind.wrap_i64]; omega
  have e0 : m + 47 - 47 = m := by omega
  have e1 : (m + 47 + 2) / 50 = (m + 49) / 50 := by congr 1; omega
  rw [e1]
  have hd : (m + 49).tdiv 50 = (m + 49) / 50 := Int.tdiv_eq_ediv_of_nonneg (by omega)
  have hdb : 0 ≤ (m + 49) / 50 ∧ (m + 49) / 50 ≤ 131072 := by omega
  have hw2 : IntKind.i64.wrap (m + 50) = m + 50 := by rw [IntKind.wrap_i64]; omega
  have hw3 : IntKind.i64.wrap (m + 50 - 1) = m + 49 := by rw [IntKind.wrap_i64]; omega
  have hw4 : IntKind.i64.wrap (m + 49) = m + 49 := by rw [IntKind.wrap_i64]; omega
  go_enter Tryz.func52, Tryz.ntmps52
  go_wp2

  go_ret
  exact ⟨rfl, rfl⟩

end Go.Proofs.YticogmpafehomaaGreatDoor

set_option linter.unusedVariables false
set_option linter.unusedSimpArgs false
namespace Go.Proofs.YticogmpafehomaaGreatDoor
open Go.RowKit Go.Proofs.YticogmpafehomaaGreatDoorW.PrintWords Go.Proofs.YticogmpafehomaaGreatDoorW.PrintMore

/-- A block of memory holds these bytes. -/
def BU (w : World) (g : Nat) (T : TypeId) (ys : List Int) : Prop := w.heap[g]? = some (.cells (nums .u8 ys).toArray T (0, 0))
theorem BU.cell {w : World} {g T : Nat} {ys : List Int} (h : BU w g T ys) {k : Nat} (hk : k < ys.length) : w.cell? ⟨g, k, none⟩ = some (.int .u8 ys[k]) := by
  have := cell_of_row w g k _ _ _ h
  rw [this]
  simp [nums, hk]
theorem BU.free {w : World} {g T : Nat} {ys : List Int} (h : BU w g T ys) (k : Nat) : w.frozen? ⟨g, k, none⟩ = false := frozen_of_row w g k _ _ h
theorem BU.set {w : World} {g T : Nat} {ys : List Int} (h : BU w g T ys) (k : Nat) (x : Int) : BU (w.setCell ⟨g, k, none⟩ (.int .u8 x)) g T (ys.set k x) := by
  have := heap_setCell_same w g k _ _ (.int .u8 x) h
  unfold BU
  rw [this]
  simp [nums, List.map_set]
theorem BU.step {w w1 : World} {g T : Nat} {ys : List Int} (h : BU w g T ys) (hm : w1.heap[g]? = w.heap[g]?) : BU w1 g T ys := hm.trans h
theorem BU.lt {w : World} {g T : Nat} {ys : List Int} (h : BU w g T ys) : g < w.heap.size := blk_lt h
theorem splice_cons {L vs : List Int} {off : Nat} (v : Int) (h : off + 1 + vs.length ≤ L.length) : (splice L (off + 1) vs).set off v = splice L off (v :: vs) := by
  unfold splice
  have h1 : (L.take (off + 1)).length = off + 1 := by rw [List.length_take]; omega
  rw [List.set_append_left _ _ (by omega), List.take_succ_eq_append_getElem (by omega), List.set_append_right _ _ (by rw [List.length_take]; omega)]
  have h2 : off - (L.take off).length = 0 := by rw [List.length_take]; omega
  rw [h2]
  simp [Nat.add_assoc, Nat.add_comm 1]
theorem be_drop_cons {n : Int} {m j : Nat} (h0 : 0 < j) (hj : j ≤ m) : (be n m).drop (j - 1) = (n / 2 ^ (8 * (m - j)) % 256) :: (be n m).drop j := by
  have hl : j - 1 < (be n m).length := by rw [be_length]; omega
  rw [List.drop_eq_getElem_cons hl, show j - 1 + 1 = j from by omega]
  congr 1
  simp only [be, List.getElem_map, List.getElem_range]
  congr 3
  omega
set_option maxRecDepth 100000 in
theorem put_any {w : World} {g off m c : Nat} {T : TypeId} {ys : List Int} {n : Int} (hn : 0 ≤ n ∧ n < 18446744073709551616) (hB : BU w g T ys) (hl : off + m ≤ ys.length) (hm8 : m ≤ 8) :
  Calls Tryz.prog 190 #[.slice (some ⟨g, off, none⟩) m c, .int .u64 n] w fun e w' => e = .returned (.tuple #[]) ∧ BU w' g T (splice ys off (be n m)) ∧ Chg (fun k => k = g) w w' := by
  go_enter Tryz.func190, Tryz.ntmps190
  go_wp2_with fail
  go_loopw [1, 4] (fun v i wr => ∃ j : Nat, j ≤ m ∧ i = .int .i64 ((j : Int) - 1) ∧ v = .int .u64 (n / 2 ^ (8 * (m - j))) ∧ BU wr g T (splice ys (off + j) ((be n m).drop j)) ∧ Chg (fun k => k = g) w wr) (fun _ i _ => ((intOf i) + 1).toNat)
  case atStart => exact ⟨m, Nat.le_refl _, rfl, by simp, by rw [List.drop_of_length_le (by rw [be_length]; omega)]; simpa [splice] using hB, Chg.refl _ _⟩
  case round =>
    obtain ⟨j, hj, rfl, rfl, hb, hc⟩ := hrel
    by_cases h0 : j = 0
    · subst h0
      rw [List.drop_zero, Nat.add_zero] at hb
      go_wp2
      go_end0
      exact ⟨rfl, hb, hc⟩
    · obtain ⟨i, rfl⟩ : ∃ i, j = i + 1 := ⟨j - 1, by omega⟩
      have hN : 0 ≤ n / 2 ^ (8 * (m - (i + 1))) ∧ n / 2 ^ (8 * (m - (i + 1))) < 18446744073709551616 := by
        have hp : (0 : Int) < 2 ^ (8 * (m - (i + 1))) := Int.pow_pos (by decide)
        exact ⟨Int.ediv_nonneg hn.1 (Int.le_of_lt hp), Int.lt_of_le_of_lt (Int.ediv_le_self _ hn.1) hn.2⟩
      have hnext : n / 2 ^ (8 * (m - (i + 1))) / 256 = n / 2 ^ (8 * (m - i)) := by
        have e : 8 * (m - i) = 8 * (m - (i + 1)) + 8 := by omega
        rw [e, Int.pow_add, ← Int.ediv_ediv_of_nonneg (Int.pow_nonneg (by decide))]
        rfl
      have hd := be_drop_cons (n := n) (m := m) (j := i + 1) (by omega) hj
      rw [Nat.add_sub_cancel] at hd
      have hls : (splice ys (off + (i + 1)) ((be n m).drop (i + 1))).length = ys.length := length_splice _ _ _ (by rw [List.length_drop, be_length]; omega)
      obtain ⟨z, hc1⟩ : ∃ z, wr.cell? ⟨g, off + i, none⟩ = some (.int .u8 z) := ⟨_, hb.cell (k := off + i) (by rw [hls]; omega)⟩
      have hf1 := hb.free (off + i)
      have hb2 := hb.set (off + i) (n / 2 ^ (8 * (m - (i + 1))) % 256)
      rw [← Nat.add_assoc, splice_cons _ (by rw [List.length_drop, be_length]; omega), ← hd] at hb2
      have hc2 : Chg (fun k => k = g) w (wr.setCell ⟨g, off + i, none⟩ (.int .u8 (n / 2 ^ (8 * (m - (i + 1))) % 256))) := hc.setCell (p := ⟨g, off + i, none⟩) (.inl rfl) _
      have HF := hid (And.intro hb2 hc2)
      clear hb hb2 hc hc2 hls hd
      generalize hNN : n / 2 ^ (8 * (m - (i + 1))) = N at hN hnext HF
      have hwr := IntKind.wrap_u8 N
      have hlt : (i : Int) < (m : Int) := by omega
      have hi0 : ((i + 1 : Nat) : Int) - 1 = i := by omega
      have hge : ¬ ((i : Int) < 0) := by omega
      rw [hi0]
      go_wp2
      go_roundw
      case rel => exact ⟨i, by omega, rfl, rfl, HF.out⟩
      case measure => simp [intOf]
end Go.Proofs.YticogmpafehomaaGreatDoor

set_option linter.unusedVariables false
set_option linter.unusedSimpArgs false
namespace Go.Proofs.YticogmpafehomaaGreatDoor
section
variable {P : Program} {Q : Exit → Act → World → Prop} {l n : Nat}

/-- No defer statement among them. -/
def noDefer (ops : Array Oper) : Bool := ops.all fun o => match o.op with | .defer _ => false | _ => true
theorem noDefer_spec {ops : Array Oper} (h : noDefer ops = true) {i : Nat} {o : Oper} (ho : ops[i]? = some o) : ∀ c, o.op ≠ .defer c := by
  intro c hc
  obtain ⟨hi, he⟩ := Array.getElem?_eq_some_iff.1 ho
  have := Array.all_eq_true.1 h i hi
  rw [he, hc] at this
  cases this
theorem rows_in {F : Fence} {row : String} {args : Array Value} {w : World} {R : Value → World → Prop} (hF : F = Fence.wide.inRound l) (h : Rows P row args w R) : RowsIn F n P row args w R := by
  subst hF
  intro c cs _
  obtain ⟨v, w', hr, hs⟩ := h c cs
  refine ⟨v, w', hr, ?_⟩
  rw [fenced_inRound]
  exact stepsIn_wide.2 hs
theorem operIn_of_wp {o : Oper} {a : Act} {w : World} {K : Act → World → Prop} (hd : ∀ c, o.op ≠ .defer c) (h : o.wp P a w K Q) : o.wpIn (Fence.wide.inRound l) n P a w K Q := by
  refine ⟨fun f _ => trivial, ?_⟩
  unfold Oper.wp at h
  have e : o.semAt (Fence.wide.inRound l).round a.eval = execOp a.eval o := Oper.semAt_some l _ _ hd
  rw [e]
  generalize (execOp a.eval o).run P w = r at h
  cases r with
  | ok x w' =>
    cases x <;> simp only [Oper.upon, Oper.uponIn] at h ⊢ <;> first
      | exact h
      | exact ⟨fun h0 => by simp [Fence.wide, Fence.inRound] at h0, CallsIn.inRound l (callsIn_wide.2 h)⟩
      | exact ⟨fun h0 => by simp [Fence.wide, Fence.inRound] at h0, rows_in rfl h⟩
      | exact h.elim
  | halt x w' => cases x <;> simp only [Oper.upon, Oper.uponIn] at h ⊢ <;> exact h
theorem opsIn_of_wp {ops : Array Oper} (hd : noDefer ops = true) (hL : ¬ LetsOut Q) : ∀ (is : List Nat) (a : Act) (w : World), wpOps P ops Q is a w → wpOpsIn (Fence.wide.inRound l) n P ops Q is a w
  | [], _, _, h => h
  | i :: rest, a, w, h => by
    unfold wpOps at h
    unfold wpOpsIn
    cases ho : ops[i]? with
    | none => rw [ho] at h; exact opsIn_of_wp hd hL rest a w h
    | some o =>
      rw [ho] at h
      dsimp only at h ⊢
      by_cases hw : Region.wanted o (yielded ops a.tmps) = true
      · rw [if_pos hw] at h ⊢
        have h1 : o.wp P a w (wpOps P ops Q rest) Q := h.resolve_right (fun h => hL h.2)
        exact operIn_of_wp (noDefer_spec hd ho) (Oper.wp_mono (fun a w h => opsIn_of_wp hd hL rest a w h) h1)
      · rw [if_neg hw] at h ⊢
        exact ⟨fun _ _ => trivial, opsIn_of_wp hd hL rest _ w h⟩
theorem regionIn_of_any {id : Nat} {ops : Array Oper} {a : Act} {w : World} (hm : P.follows .mixedOrders = true) (hd : noDefer ops = true) (hL : ¬ LetsOut Q) (h : wpAny P .any ops Q ops.size (Array.replicate ops.size false) a w.drew) :
    (Code.region id ops true).wpIn (Fence.wide.inRound l) n P Q a w :=
  wpIn_region_draw fun t => by
    simp only [Region.schedule, hm, Bool.true_or, if_true]
    exact opsIn_of_wp hd hL _ _ _ (wpAny_sound ops.size t _ a _ h)
/-- A plan, in a round. -/
theorem wpIn_region_plan {id : Nat} {ops : Array Oper} {a : Act} {w : World} (T : List Nat) (p : Plan) (S : World → Prop) (hm : P.follows .mixedOrders = true) (hd : noDefer ops = true) (hB : planB ops T p = true)
    (hL : ¬ LetsOut Q) (hQ : ∀ c a d v w, Q (.panic c) (Act.put a d v) w → Q (.panic c) a w) (hS : S w.drew)
    (h : wpPlan P ops Q p S a w.drew) : (Code.region id ops true).wpIn (Fence.wide.inRound l) n P Q a w := by
  simp only [planB, Bool.and_eq_true, beq_iff_eq] at hB
  have h2 := wpAnyG_of_plan hB.1 hQ p S _ a _ hB.2.2 hS h
  rw [hB.2.1] at h2
  exact regionIn_of_any hm hd hL (wpAny_of_G _ _ _ _ h2)
end
end Go.Proofs.YticogmpafehomaaGreatDoor

set_option linter.unusedVariables false
set_option linter.unusedSimpArgs false
namespace Go.Proofs.YticogmpafehomaaGreatDoor
open Go.RowKit Go.Lib Go.Proofs.YticogmpafehomaaGreatDoorW.PrintWords Go.Proofs.YticogmpafehomaaGreatDoorW.PrintMore

theorem heap_setRow {w : World} {g : Nat} {cur cs : Array Value} {t : TypeId} (h : w.heap[g]? = some (.cells cur t (0, 0))) : (w.setRow g cs).heap[g]? = some (.cells cs t (0, 0)) := setRow_heap w g cur cs t (0, 0) h
theorem byteCells_nums (s : ByteArray) : byteCells s.data.toList = nums .u8 (bytesOf s) := by simp [byteCells, nums, bytesOf]
theorem BU.copy_str {P : Program} {w : World} {g : Nat} {T : TypeId} {ys : List Int} (h : BU w g T ys) (dT sT ty elem : TypeId) (o dLen dCap : Nat) (s : ByteArray) (hu : P.underlying dT = some (.slice elem)) (hs : (P.info? elem).map (·.size) = some 1)
    (hle : s.size ≤ dLen) (hfit : o + s.size ≤ ys.length) :
    ∃ w', (Builtin.copy_ #[dT, sT] ty #[.slice (some ⟨g, o, none⟩) dLen dCap, .string s]).run P w = .ok (.int .i64 s.size) w' ∧ BU w' g T (splice ys o (bytesOf s)) ∧ Chg (fun k => k = g) w w' := by
  refine ⟨_, run_copy_row_string w dT sT ty elem g o dLen dCap s _ T hu hs h hle (by simpa [nums] using hfit), ?_, (Chg.refl (fun k => k = g) w).setRow (.inl rfl) _⟩
  unfold BU
  rw [heap_setRow h]
  congr 3
  rw [byteCells_nums, List.toList_toArray]
  simp [splice, nums, bytesOf_length, List.map_take, List.map_drop, List.append_assoc]
theorem BU.copy_row {P : Program} {w : World} {g : Nat} {T : TypeId} {ys xs : List Int} {A : Option Addr} (h : BU w g T ys) (dT sT ty elem : TypeId) (o dLen dCap sCap : Nat) (hC : KB.C w A xs.length xs) (hu : P.underlying dT = some (.slice elem)) (hs : (P.info? elem).map (·.size) = some 1)
    (hfit : o + min xs.length dLen ≤ ys.length) :
    ∃ w', (Builtin.copy_ #[dT, sT] ty #[.slice (some ⟨g, o, none⟩) dLen dCap, .slice A xs.length sCap]).run P w = .ok (.int .i64 (min xs.length dLen : Nat)) w' ∧ BU w' g T (splice ys o (xs.take dLen)) ∧ Chg (fun k => k = g) w w' := by
  cases A with
  | none =>
    have := C_none hC
    subst this
    refine ⟨w, ?_, by simpa [splice] using h, Chg.refl _ _⟩
    have h2 : ((P.info? elem).map (·.size)).isSome = true := by rw [hs]; rfl
    rw [show (([] : List Int).length) = 0 from rfl]
    cases hq : P.info? elem with
    | none => simp [hq] at hs
    | some i => simp [Builtin.copy_, run_underlying hu, Builtin.lenOf, Builtin.firstCells, sizeOf, typeInfo, hq, Result.andThen, goInt, storeCells]
  | some a =>
    have hl : (nums .u8 (xs.take dLen)).length = Nat.min xs.length dLen := by simp [nums, List.length_take, Nat.min_comm]
    have hl2 : (nums .u8 (xs.take dLen)).length = min xs.length dLen := hl
    refine ⟨_, by
      have := run_copy_row (P := P) w dT sT ty elem g o dLen dCap a xs.length sCap _ T (nums .u8 (xs.take dLen)) hu hs h hl (fun j v hj => ?_) (by rw [hl2]; simpa [nums] using hfit) (fun v hv => by simp only [nums, List.mem_map] at hv; obtain ⟨q, _, rfl⟩ := hv; rfl)
      rw [hl2] at this
      exact this
      · refine cells_of_C hC j v ?_
        simp only [nums, List.getElem?_map, List.getElem?_take] at hj ⊢
        split at hj
        · exact hj
        · simp at hj, ?_, (Chg.refl (fun k => k = g) w).setRow (.inl rfl) _⟩
    unfold BU
    rw [heap_setRow h]
    congr 3
    have e : (xs.take dLen).length = min xs.length dLen := by rw [List.length_take, Nat.min_comm]
    rw [List.toList_toArray]
    simp [splice, nums, e, List.map_take, List.map_drop, List.append_assoc]
theorem wpIn_load_addr {P : Program} {F : Fence} {n : Nat} {op : Oper} {a : Act} {w : World} {K : Act → World → Prop} {Q : Exit → Act → World → Prop} (hro : F.fn = fun _ => True) (ty : TypeId) (x : Operand) (ho : op.op = .load ty x)
    (ad : Addr) (hx : a.eval x = .pointer (some ad)) (cs : List Value) (d : TypeDesc) (hc : ∀ j v, cs[j]? = some v → w.cell? (ad.add j) = some v)
    (hu : P.underlying ty = some d) (hd : d.isRow = true) (hi : (P.info? ty).map (·.size) = some cs.length)
    (h : K (a.put op.dst (.agg cs.toArray)) w) : op.wpIn F n P a w K Q := by
  refine ⟨fun f _ => by rw [hro]; trivial, ?_⟩
  have e : op.semAt F.round a.eval = execOp a.eval op := by
    cases hr : F.round with
    | none => rfl
    | some l => exact Oper.semAt_some l _ _ (fun c hc => by rw [ho] at hc; cases hc)
  rw [e, exec_load_row ty x ho ad hx cs d hc hu hd hi]
  exact h
theorem wpListIn_load_addr {P : Program} {F : Fence} {n : Nat} {ops : Array Oper} {rest : List Oper} {op : Oper} {a : Act} {w : World} {Q : Exit → Act → World → Prop} (hro : F.fn = fun _ => True) (hgd : op.guard = none) (ty : TypeId) (x : Operand) (ho : op.op = .load ty x)
    (ad : Addr) (hx : a.eval x = .pointer (some ad)) (cs : List Value) (d : TypeDesc) (hc : ∀ j v, cs[j]? = some v → w.cell? (ad.add j) = some v)
    (hu : P.underlying ty = some d) (hd : d.isRow = true) (hi : (P.info? ty).map (·.size) = some cs.length)
    (h : wpListIn F n P ops Q rest (a.put op.dst (.agg cs.toArray)) w) : wpListIn F n P ops Q (op :: rest) a w :=
  wpListIn_plain hgd fun _ hK => wpIn_load_addr hro ty x ho ad hx cs d hc hu hd hi (hK _ _ h)
/-- A block's cells, as a load reads them. -/
theorem BU.load {w : World} {g : Nat} {T : TypeId} {ys : List Int} (h : BU w g T ys) : ∀ j v, (nums .u8 ys)[j]? = some v → w.cell? ((⟨g, 0, none⟩ : Addr).add j) = some v := by
  intro j v hj
  rw [add_plain]
  rw [cell_of_row w g j _ _ _ h]
  simpa using hj
end Go.Proofs.YticogmpafehomaaGreatDoor

set_option linter.unusedVariables false
set_option linter.unusedSimpArgs false
namespace Go.Proofs.YticogmpafehomaaGreatDoor
open Go.RowKit Go.Shelf Go.Proofs.YticogmpafehomaaGreatDoorW.PrintWords Go.Proofs.YticogmpafehomaaGreatDoorW.PrintMore
attribute [local go_sem] Oper.semAt_some

/-- A record. -/
structure SR where
  gen : Int
  at_ : Int
  kind : Int
  bytes : List Int
/-- One that may be sealed. -/
structure SR.right (r : SR) : Prop where
  g : 0 < r.gen ∧ r.gen < 18446744073709551616
  a : 0 ≤ r.at_ ∧ r.at_ ≤ 65535
  k : 0 ≤ r.kind ∧ r.kind ≤ 255
  b : Bytes r.bytes
  l : r.bytes.length ≤ 131072
def padTo (m : Nat) (xs : List Int) : List Int := xs ++ List.replicate (m - xs.length) 0
theorem padTo_length {m : Nat} {xs : List Int} (h : xs.length ≤ m) : (padTo m xs).length = m := by simp [padTo]; omega
def headB (r : SR) : List Int := [102, 104] ++ (be r.gen 8 ++ (be r.at_ 2 ++ (r.kind :: (be r.bytes.length 4 ++ padTo 47 (r.bytes.take 47)))))
def bodyB (r : SR) (k : Nat) : List Int := [102, 98] ++ (be r.gen 8 ++ (be r.at_ 2 ++ (be k 2 ++ padTo 50 ((r.bytes.drop (47 + 50 * (k - 1))).take 50))))
theorem headB_length (r : SR) : (headB r).length = 64 := by
  simp only [headB, List.length_append, List.length_cons, List.length_nil, be_length, padTo_length (show (r.bytes.take 47).length ≤ 47 by rw [List.length_take]; omega)]
theorem bodyB_length (r : SR) (k : Nat) : (bodyB r k).length = 64 := by
  simp only [bodyB, List.length_append, List.length_cons, List.length_nil, be_length, padTo_length (show ((r.bytes.drop (47 + 50 * (k - 1))).take 50).length ≤ 50 by rw [List.length_take]; omega)]
/-- How many body blocks. -/
def bodies (r : SR) : Nat := (r.bytes.length - 47 + 49) / 50
abbrev YB := { x : Nat × List Int // x.1 ≤ 65535 ∧ x.2.length = 64 ∧ Bytes x.2 }
theorem headB_bytes {r : SR} (h : r.right) : Bytes (headB r) := by
  unfold headB
  refine Bytes.append (fun x hx => by simp at hx; omega) (Bytes.append (be_bytes _ _) (Bytes.append (be_bytes _ _) ?_))
  intro x hx
  rcases List.mem_cons.1 hx with rfl | hx
  · have := h.k; omega
  · exact Bytes.append (be_bytes _ _) (Bytes.append (h.b.take _) (Bytes.zeros _)) x hx
theorem bodyB_bytes {r : SR} (h : r.right) (k : Nat) : Bytes (bodyB r k) := by
  unfold bodyB
  exact Bytes.append (fun x hx => by simp at hx; omega) (Bytes.append (be_bytes _ _) (Bytes.append (be_bytes _ _) (Bytes.append (be_bytes _ _) (Bytes.append ((h.b.drop _).take _) (Bytes.zeros _)))))
theorem bodies_le {r : SR} (h : r.right) : bodies r ≤ 65534 := by unfold bodies; have := h.l; omega
/-- All blocks of a record. -/
def blkList (r : SR) : List (Nat × List Int) := (0, headB r) :: (List.range (bodies r)).map fun i => (i + 1, bodyB r (i + 1))
def encY (x : YB) : Array Value := #[.int .i64 x.1.1, .agg (nums .u8 x.1.2).toArray]
/-- The record's variable, as the iterator has captured it. -/
structure RBox (w : World) (rb : Nat) (r : SR) (okr : Nat → Prop) (A : Option Addr) (c : Nat) : Prop where
  ok : okr rb
  blk : w.heap[rb]? = some (.cells #[.int .u64 r.gen, .int .i64 r.at_, .int .i64 r.kind, .slice A r.bytes.length c] 117 (0, 0))
  row : RB w (fun k => okr k ∧ k ≠ rb) A r.bytes
  cap : r.bytes.length ≤ c
theorem RBox.step {w w1 : World} {rb : Nat} {r : SR} {okr : Nat → Prop} {A : Option Addr} {c : Nat} (h : RBox w rb r okr A c) (hm : ∀ k, okr k → k < w.heap.size → w1.heap[k]? = w.heap[k]?) : RBox w1 rb r okr A c :=
  ⟨h.ok, (hm rb h.ok (blk_lt h.blk)).trans h.blk, Kd.F_step h.row (fun k hk => hm k hk.1), h.cap⟩
/-- What a round keeps. -/
def KpR (okr : Nat → Prop) (W W' : World) : Prop := (∀ k, okr k → k < W.heap.size → W'.heap[k]? = W.heap[k]?) ∧ W.heap.size ≤ W'.heap.size
/-- A block that is filled from its beginning. -/
def fill (p : List Int) : List Int := p ++ List.replicate (64 - p.length) 0
theorem fill_length {p : List Int} (h : p.length ≤ 64) : (fill p).length = 64 := by simp [fill]; omega
theorem fill_splice {p vs : List Int} (h : p.length + vs.length ≤ 64) : splice (fill p) p.length vs = fill (p ++ vs) := by
  unfold splice fill
  rw [List.take_append_of_le_length (Nat.le_refl _), List.take_of_length_le (Nat.le_refl _), List.drop_append, List.drop_of_length_le (by omega), List.drop_replicate]
  simp only [List.nil_append, List.append_assoc, List.length_append]
  have e : 64 - p.length - (p.length + vs.length - p.length) = 64 - (p.length + vs.length) := by omega
  rw [e]
theorem fill_splice' {p vs : List Int} {off : Nat} (ho : p.length = off) (h : p.length + vs.length ≤ 64) : splice (fill p) off vs = fill (p ++ vs) := by
  subst ho; exact fill_splice h
theorem fill_set {p : List Int} (h : p.length < 64) (x : Int) : (fill p).set p.length x = fill (p ++ [x]) := by
  unfold fill
  obtain ⟨m, hm⟩ : ∃ m, 64 - p.length = m + 1 := ⟨63 - p.length, by omega⟩
  rw [hm, List.replicate_succ, List.set_append_right _ _ (Nat.le_refl _)]
  simp only [Nat.sub_self, List.set_cons_zero, List.append_assoc, List.length_append, List.length_cons, List.length_nil, List.singleton_append]
  have : 64 - (p.length + (0 + 1)) = m := by omega
  rw [this]
theorem fill_pad {p vs : List Int} {m : Nat} (h : p.length + m = 64) (hv : vs.length ≤ m) : fill (p ++ vs) = p ++ padTo m vs := by
  unfold fill padTo
  have e : 64 - (p ++ vs).length = m - vs.length := by rw [List.length_append]; omega
  rw [List.append_assoc, e]
theorem grown_of_below {W W' : World} (h : Below W.heap.size W W') : W.grownBy W' none := ⟨h.os, h.tape, h.output, h.size, fun k hk _ => h.block k hk⟩
set_option maxRecDepth 100000 in
set_option maxHeartbeats 4000000 in
theorem blocks_in {w : World} {rb : Nat} {r : SR} {okr : Nat → Prop} {A : Option Addr} {c : Nat} (h : RBox w rb r okr A c) (hr : r.right) (hok : ∀ k, okr k → k < w.heap.size)
    (l : Nat) (J Jx : List YB → World → Prop) (W : World) (hW : Below w.heap.size w W) (hJ : AbidesFrom W.heap.size J) (hJx : AbidesFrom W.heap.size Jx)
    (hY : ∀ pre x W1, J pre W1 → pre.length < (blkList r).length → YieldAt Fence.wide (1 - 1) Tryz.prog l (encY x) W1 fun e W' =>
      (e = .returned (.bool true) ∧ J (pre ++ [x]) W' ∧ KpR okr W1 W') ∨ (e = .returned (.bool false) ∧ Jx (pre ++ [x]) W')) (h0 : J [] W) :
    CallsIn Fence.wide 1 Tryz.prog 189 #[.func (.yield l) #[] #[], .pointer (some ⟨rb, 0, none⟩)] W fun e W' => (∃ v, e = .returned v) ∧
      ((∃ xs : List YB, xs.map (·.1) = blkList r ∧ J xs W') ∨ (∃ pre : List YB, pre.map (·.1) <+: blkList r ∧ Jx pre W')) := by
  have hb := h.step (w1 := W) (fun k hk hlt => hW.block k (hok k hk))
  refine callsIn_of_wp Tryz.func189 rfl trivial ?_ rfl
  simp only [Tryz.ntmps189, List.size_toArray, List.length_cons, List.length_nil, Nat.reduceAdd, Nat.reduceSub, Array.replicate_succ, Array.replicate_zero, List.push_toArray, List.append_toArray, List.nil_append, List.cons_append]
  have g0 : BU (W.alloc (.cells #[.int .u8 0, .int .u8 0, .int .u8 0, .int .u8 0, .int .u8 0, .int .u8 0, .int .u8 0, .int .u8 0, .int .u8 0, .int .u8 0, .int .u8 0, .int .u8 0, .int .u8 0, .int .u8 0, .int .u8 0, .int .u8 0, .int .u8 0, .int .u8 0, .int .u8 0, .int .u8 0, .int .u8 0, .int .u8 0, .int .u8 0, .int .u8 0, .int .u8 0, .int .u8 0, .int .u8 0, .int .u8 0, .int .u8 0, .int .u8 0, .int .u8 0, .int .u8 0, .int .u8 0, .int .u8 0, .int .u8 0, .int .u8 0, .int .u8 0, .int .u8 0, .int .u8 0, .int .u8 0, .int .u8 0, .int .u8 0, .int .u8 0, .int .u8 0, .int .u8 0, .int .u8 0, .int .u8 0, .int .u8 0, .int .u8 0, .int .u8 0, .int .u8 0, .int .u8 0, .int .u8 0, .int .u8 0, .int .u8 0, .int .u8 0, .int .u8 0, .int .u8 0, .int .u8 0, .int .u8 0, .int .u8 0, .int .u8 0, .int .u8 0, .int .u8 0] 246)) W.heap.size 246 (fill []) := heap_alloc_new W _
  have b0 : Below W.heap.size W (W.alloc (.cells #[.int .u8 0, .int .u8 0, .int .u8 0, .int .u8 0, .int .u8 0, .int .u8 0, .int .u8 0, .int .u8 0, .int .u8 0, .int .u8 0, .int .u8 0, .int .u8 0, .int .u8 0, .int .u8 0, .int .u8 0, .int .u8 0, .int .u8 0, .int .u8 0, .int .u8 0, .int .u8 0, .int .u8 0, .int .u8 0, .int .u8 0, .int .u8 0, .int .u8 0, .int .u8 0, .int .u8 0, .int .u8 0, .int .u8 0, .int .u8 0, .int .u8 0, .int .u8 0, .int .u8 0, .int .u8 0, .int .u8 0, .int .u8 0, .int .u8 0, .int .u8 0, .int .u8 0, .int .u8 0, .int .u8 0, .int .u8 0, .int .u8 0, .int .u8 0, .int .u8 0, .int .u8 0, .int .u8 0, .int .u8 0, .int .u8 0, .int .u8 0, .int .u8 0, .int .u8 0, .int .u8 0, .int .u8 0, .int .u8 0, .int .u8 0, .int .u8 0, .int .u8 0, .int .u8 0, .int .u8 0, .int .u8 0, .int .u8 0, .int .u8 0, .int .u8 0] 246)) := below_alloc (Below.refl _ _) _
  obtain ⟨w1, hcp, g1, c1⟩ := g0.copy_str (P := Tryz.prog) 25 9 3 5 0 64 64 ⟨#[102, 104]⟩ Tryz.underlying25 (by kernel_rfl) (by decide) (by decide)
  have e1 : splice (fill []) 0 (bytesOf ⟨#[102, 104]⟩) = fill [102, 104] := by decide
  rw [e1] at g1
  have b1 : Below W.heap.size W w1 := b0.trans (c1.below_ (B := W.heap.size) b0.size (fun k hk => by omega))
  clear g0 b0 c1 e1
  gi_wp2_with fail
  clear hcp
  have hgn : ∀ k, okr k → k ≠ W.heap.size := fun k hk e => by have := hok k hk; have := hW.size; omega
  have hb1 := hb.step (w1 := w1) (fun k hk hlt => b1.block k hlt)
  have hg64 := hr.g
  have ha64 := hr.a
  have hk8 := hr.k
  have hl4 := hr.l
  have k2 : w1.cell? ⟨rb, 0, none⟩ = some (.int .u64 r.gen) := by have := cell_of_row _ rb 0 _ _ _ hb1.blk; simpa using this
  refine wpIn_wide.2 (wp_region_plan [] (.take 0 (.take 1 (.take 2 (.run 3 .done)))) (fun w' => w'.cell? ⟨rb, 0, none⟩ = some (.int .u64 r.gen)) (by kernel_rfl) (by kernel_rfl) (fun c a d v w h => by cases d <;> exact h) k2 ?_)
  iterate 3 (apply plan_take rfl rfl; (case hy => (intro w' hS; have s0 := hS; clear hS; go_simp; try exact rfl)); go_simp)
  refine plan_run_on rfl rfl (fun K hK => ?_)
  go_simp
  refine (put_any (n := r.gen) (off := 2) (m := 8) (c := 62) ⟨by omega, by omega⟩ (g1.step (w1 := w1.drew) rfl) (by rw [fill_length (by simp [be_length])]; omega) (by omega)).mono ?_
  rintro e w2 ⟨rfl, g2, c2⟩
  have q2 := fill_splice' (p := [102, 104]) (vs := be (r.gen) 8) (off := 2) (by simp [be_length]) (by simp [be_length])
  rw [q2] at g2
  have b2 : Below W.heap.size W w2 := (below_drew b1).trans (c2.below_ (B := W.heap.size) b1.size (fun k hk => by omega))
  have hb2 := hb1.step (w1 := w2) (fun k hk hlt => c2.block k hlt (hgn k hk))
  have kk2 : w2.cell? ⟨rb, 0, none⟩ = some (.int .u64 r.gen) := by have := cell_of_row _ rb 0 _ _ _ hb2.blk; simpa using this
  refine hK _ _ _ (fun _ h => h) kk2 ?_
  clear hK K
  refine plan_done ?_
  clear q2 c2 g1 k2 kk2
  gi_wp2_with fail
  have k3 : w2.cell? ⟨rb, 1, none⟩ = some (.int .i64 r.at_) := by have := cell_of_row _ rb 1 _ _ _ hb2.blk; simpa using this
  have ua : IntKind.u64.wrap r.at_ = r.at_ := by rw [wrap_u64_mod]; omega
  refine wpIn_wide.2 (wp_region_plan [] (.take 0 (.take 1 (.take 2 (.take 3 (.run 4 .done))))) (fun w' => w'.cell? ⟨rb, 1, none⟩ = some (.int .i64 r.at_)) (by kernel_rfl) (by kernel_rfl) (fun c a d v w h => by cases d <;> exact h) k3 ?_)
  iterate 4 (apply plan_take rfl rfl; (case hy => (intro w' hS; have s0 := hS; clear hS; go_simp; try exact rfl)); go_simp)
  refine plan_run_on rfl rfl (fun K hK => ?_)
  go_simp
  refine (put_any (n := r.at_) (off := 10) (m := 2) (c := 54) ⟨by omega, by omega⟩ (g2.step (w1 := w2.drew) rfl) (by rw [fill_length (by simp [be_length])]; omega) (by omega)).mono ?_
  rintro e w3 ⟨rfl, g3, c3⟩
  have q3 := fill_splice' (p := [102, 104] ++ be r.gen 8) (vs := be (r.at_) 2) (off := 10) (by simp [be_length]) (by simp [be_length])
  rw [q3] at g3
  have b3 : Below W.heap.size W w3 := (below_drew b2).trans (c3.below_ (B := W.heap.size) b2.size (fun k hk => by omega))
  have hb3 := hb2.step (w1 := w3) (fun k hk hlt => c3.block k hlt (hgn k hk))
  have kk3 : w3.cell? ⟨rb, 1, none⟩ = some (.int .i64 r.at_) := by have := cell_of_row _ rb 1 _ _ _ hb3.blk; simpa using this
  refine hK _ _ _ (fun _ h => h) kk3 ?_
  clear hK K
  refine plan_done ?_
  clear q3 c3 g2 k3 kk3
  have k4 : w3.cell? ⟨rb, 2, none⟩ = some (.int .i64 r.kind) := by have := cell_of_row _ rb 2 _ _ _ hb3.blk; simpa using this
  have uk : IntKind.u8.wrap r.kind = r.kind := by rw [IntKind.wrap_u8]; omega
  obtain ⟨z, kz⟩ : ∃ z, w3.cell? ⟨W.heap.size, 12, none⟩ = some (.int .u8 z) := ⟨_, g3.cell (k := 12) (by rw [fill_length (by simp [be_length])]; omega)⟩
  have kf := g3.free 12
  gi_wp2_with fail
  have g4 : BU (w3.setCell ⟨W.heap.size, 12, none⟩ (.int .u8 r.kind)) W.heap.size 246 (fill ([102, 104] ++ be r.gen 8 ++ be r.at_ 2 ++ [r.kind])) := by
    have := g3.set 12 r.kind
    have q := fill_set (p := [102, 104] ++ be r.gen 8 ++ be r.at_ 2) (by simp [be_length]) r.kind
    rw [show ([102, 104] ++ be r.gen 8 ++ be r.at_ 2 : List Int).length = 12 from by simp [be_length]] at q
    rwa [q] at this
  have c4 : Chg (fun k => k = W.heap.size) w3 (w3.setCell ⟨W.heap.size, 12, none⟩ (.int .u8 r.kind)) := Chg.setCell (S := fun k => k = W.heap.size) (p := ⟨W.heap.size, 12, none⟩) (Chg.refl _ _) (.inl rfl) _
  generalize w3.setCell ⟨W.heap.size, 12, none⟩ (.int .u8 r.kind) = w4 at g4 c4 ⊢
  have b4 : Below W.heap.size W w4 := b3.trans (c4.below_ (B := W.heap.size) b3.size (fun k hk => by omega))
  have hb4 := hb3.step (w1 := w4) (fun k hk hlt => c4.block k hlt (hgn k hk))
  clear c4 g3 k4 kz kf
  have k5 : w4.cell? ⟨rb, 3, none⟩ = some (.slice A r.bytes.length c) := by have := cell_of_row _ rb 3 _ _ _ hb4.blk; simpa using this
  have ul : IntKind.u64.wrap (r.bytes.length : Int) = (r.bytes.length : Int) := by rw [wrap_u64_mod]; omega
  refine wpIn_wide.2 (wp_region_plan [] (.take 0 (.take 1 (.take 2 (.take 3 (.take 4 (.run 5 .done)))))) (fun w' => w'.cell? ⟨rb, 3, none⟩ = some (.slice A r.bytes.length c)) (by kernel_rfl) (by kernel_rfl) (fun c a d v w h => by cases d <;> exact h) k5 ?_)
  iterate 5 (apply plan_take rfl rfl; (case hy => (intro w' hS; have s0 := hS; clear hS; go_simp; try exact rfl)); go_simp)
  refine plan_run_on rfl rfl (fun K hK => ?_)
  go_simp
  refine (put_any (n := (r.bytes.length : Int)) (off := 13) (m := 4) (c := 51) ⟨by omega, by omega⟩ (g4.step (w1 := w4.drew) rfl) (by rw [fill_length (by simp [be_length])]; omega) (by omega)).mono ?_
  rintro e w5 ⟨rfl, g5, c5⟩
  have q5 := fill_splice' (p := [102, 104] ++ be r.gen 8 ++ be r.at_ 2 ++ [r.kind]) (vs := be ((r.bytes.length : Int)) 4) (off := 13) (by simp [be_length]) (by simp [be_length])
  rw [q5] at g5
  have b5 : Below W.heap.size W w5 := (below_drew b4).trans (c5.below_ (B := W.heap.size) b4.size (fun k hk => by omega))
  have hb5 := hb4.step (w1 := w5) (fun k hk hlt => c5.block k hlt (hgn k hk))
  have kk5 : w5.cell? ⟨rb, 3, none⟩ = some (.slice A r.bytes.length c) := by have := cell_of_row _ rb 3 _ _ _ hb5.blk; simpa using this
  refine hK _ _ _ (fun _ h => h) kk5 ?_
  clear hK K
  refine plan_done ?_
  clear q5 c5 g4 k5 kk5
  have k6 : w5.cell? ⟨rb, 3, none⟩ = some (.slice A r.bytes.length c) := by have := cell_of_row _ rb 3 _ _ _ hb5.blk; simpa using this
  obtain ⟨w6, hcp, g6, c6⟩ := (g5.step (w1 := w5.drew) rfl).copy_row (P := Tryz.prog) 25 25 3 5 17 47 47 c (Kd.F_now ((Kd.F_step (W1 := w5.drew) hb5.row (fun _ _ _ => rfl)))) Tryz.underlying25 (by kernel_rfl) (by rw [fill_length (by simp [be_length])]; omega)
  have q6 := fill_splice' (p := [102, 104] ++ be r.gen 8 ++ be r.at_ 2 ++ [r.kind] ++ be r.bytes.length 4) (vs := r.bytes.take 47) (off := 17) (by simp [be_length]) (by simp [be_length]; omega)
  rw [q6] at g6
  gi_wp2_with fail
  refine wpIn_wide.2 (wp_region_plan [] (.take 0 (.take 1 (.take 2 (.run 3 (.take 4 .done))))) (fun w' => w'.cell? ⟨rb, 3, none⟩ = some (.slice A r.bytes.length c)) (by kernel_rfl) (by kernel_rfl) (fun c a d v w h => by cases d <;> exact h) k6 ?_)
  iterate 3 (apply plan_take rfl rfl; (case hy => (intro w' hS; have s0 := hS; clear hS; go_simp; try exact rfl)); go_simp)
  refine plan_run_on rfl rfl (fun K hK => ?_)
  go_simp
  have b6 : Below W.heap.size W w6 := (below_drew b5).trans (c6.below_ (B := W.heap.size) b5.size (fun k hk => by omega))
  have hb6 := hb5.step (w1 := w6) (fun k hk hlt => c6.block k hlt (hgn k hk))
  have kk6 : w6.cell? ⟨rb, 3, none⟩ = some (.slice A r.bytes.length c) := by have := cell_of_row _ rb 3 _ _ _ hb6.blk; simpa using this
  refine hK _ _ _ (fun _ h => h) kk6 ?_
  clear hK K
  apply plan_take rfl rfl
  case hy => (intro w' hS; clear hS; go_simp; try exact rfl)
  go_simp
  refine plan_done ?_
  have hh : fill ([102, 104] ++ be r.gen 8 ++ be r.at_ 2 ++ [r.kind] ++ be r.bytes.length 4 ++ r.bytes.take 47) = headB r := by
    rw [fill_pad (m := 47) (by simp [be_length]) (by rw [List.length_take]; omega)]
    simp [headB]
  rw [hh] at g6
  clear hcp q6 c6 g5 k6 hh
  have hJ6 : J [] w6 := hJ [] W w6 none h0 (grown_of_below b6) (fun _ e => by cases e)
  obtain ⟨fn, tmps, assign, body, hy, hR⟩ := hY [] ⟨(0, headB r), by simp, headB_length r, headB_bytes hr⟩ w6 hJ6 (by simp [blkList])
  dsimp only [encY] at hy
  rw [show (((0 : Nat) : Int)) = 0 from rfl] at hy
  gi_wp2_with (refine wpListIn_load_addr rfl rfl 246 (.tmp 3) rfl ⟨W.heap.size, 0, none⟩ rfl (nums .u8 (headB r)) _ g6.load Tryz.underlying246 rfl (by rw [nums_length, headB_length]; kernel_rfl) ?_)
  gi_wp2_with fail
  refine hR.mono ?_
  rintro e W7 (⟨rfl, hJ7, hk7⟩ | ⟨rfl, hJx7⟩)
  · have hb7 := hb6.step (w1 := W7) (fun k hk hlt => hk7.1 k hk hlt)
    have s7 : W.heap.size ≤ W7.heap.size := Nat.le_trans b6.size hk7.2
    have hmin : min r.bytes.length 47 = min r.bytes.length (47 + 50 * 0) := rfl
    clear hR hy g6 b6 hb6 hb5 hb4 hb3 hb2 hb1 b5 b4 b3 b2 b1 kk6 hk7
    gi_wp2_with fail
    gi_loopw [4, 5] (fun nv kv wr => ∃ (i : Nat) (pre : List YB), i ≤ bodies r ∧ kv = .int .i64 ((i : Int) + 1) ∧ nv = .int .i64 ((min r.bytes.length (47 + 50 * i) : Nat) : Int) ∧ pre.map (·.1) = (blkList r).take (i + 1) ∧ J pre wr ∧ RBox wr rb r okr A c ∧ W.heap.size ≤ wr.heap.size) (fun _ kv _ => (bodies r + 1 : Nat) - (intOf kv).toNat)
    case atStart => exact ⟨0, [⟨(0, headB r), by simp, headB_length r, headB_bytes hr⟩], Nat.zero_le _, rfl, rfl, rfl, hJ7, hb7, s7⟩
    case round =>
      obtain ⟨i, pre, hi, rfl, rfl, hpre, hJr, hbr, sr⟩ := hrel
      by_cases hlt : i < bodies r
      · have hib : i + 1 ≤ 65534 := Nat.le_trans hlt (bodies_le hr)
        obtain ⟨n0, hn0⟩ : ∃ n0, n0 = 47 + 50 * i := ⟨_, rfl⟩
        have hn : min r.bytes.length (47 + 50 * i) = n0 ∧ n0 < r.bytes.length := by unfold bodies at hlt; omega
        rw [hn.1]
        have hn2 := hn.2
        have hlt' : (n0 : Int) < (r.bytes.length : Int) := by omega
        have HN0 := hid hn0
        clear hn0
        have hgn : ∀ k, okr k → k ≠ wr.heap.size := fun k hk e => by have := hok k hk; have := hW.size; omega
        have kl : wr.cell? ⟨rb, 3, none⟩ = some (.slice A r.bytes.length c) := by have := cell_of_row _ rb 3 _ _ _ hbr.blk; simpa using this
        have g0 : BU (wr.alloc (.cells #[.int .u8 0, .int .u8 0, .int .u8 0, .int .u8 0, .int .u8 0, .int .u8 0, .int .u8 0, .int .u8 0, .int .u8 0, .int .u8 0, .int .u8 0, .int .u8 0, .int .u8 0, .int .u8 0, .int .u8 0, .int .u8 0, .int .u8 0, .int .u8 0, .int .u8 0, .int .u8 0, .int .u8 0, .int .u8 0, .int .u8 0, .int .u8 0, .int .u8 0, .int .u8 0, .int .u8 0, .int .u8 0, .int .u8 0, .int .u8 0, .int .u8 0, .int .u8 0, .int .u8 0, .int .u8 0, .int .u8 0, .int .u8 0, .int .u8 0, .int .u8 0, .int .u8 0, .int .u8 0, .int .u8 0, .int .u8 0, .int .u8 0, .int .u8 0, .int .u8 0, .int .u8 0, .int .u8 0, .int .u8 0, .int .u8 0, .int .u8 0, .int .u8 0, .int .u8 0, .int .u8 0, .int .u8 0, .int .u8 0, .int .u8 0, .int .u8 0, .int .u8 0, .int .u8 0, .int .u8 0, .int .u8 0, .int .u8 0, .int .u8 0, .int .u8 0] 246)) wr.heap.size 246 (fill []) := heap_alloc_new wr _
        have b0 : Below wr.heap.size wr (wr.alloc (.cells #[.int .u8 0, .int .u8 0, .int .u8 0, .int .u8 0, .int .u8 0, .int .u8 0, .int .u8 0, .int .u8 0, .int .u8 0, .int .u8 0, .int .u8 0, .int .u8 0, .int .u8 0, .int .u8 0, .int .u8 0, .int .u8 0, .int .u8 0, .int .u8 0, .int .u8 0, .int .u8 0, .int .u8 0, .int .u8 0, .int .u8 0, .int .u8 0, .int .u8 0, .int .u8 0, .int .u8 0, .int .u8 0, .int .u8 0, .int .u8 0, .int .u8 0, .int .u8 0, .int .u8 0, .int .u8 0, .int .u8 0, .int .u8 0, .int .u8 0, .int .u8 0, .int .u8 0, .int .u8 0, .int .u8 0, .int .u8 0, .int .u8 0, .int .u8 0, .int .u8 0, .int .u8 0, .int .u8 0, .int .u8 0, .int .u8 0, .int .u8 0, .int .u8 0, .int .u8 0, .int .u8 0, .int .u8 0, .int .u8 0, .int .u8 0, .int .u8 0, .int .u8 0, .int .u8 0, .int .u8 0, .int .u8 0, .int .u8 0, .int .u8 0, .int .u8 0] 246)) := below_alloc (Below.refl _ _) _
        obtain ⟨w11, hcp, g11, c11⟩ := g0.copy_str (P := Tryz.prog) 25 9 3 5 0 64 64 ⟨#[102, 98]⟩ Tryz.underlying25 (by kernel_rfl) (by decide) (by decide)
        have e1 : splice (fill []) 0 (bytesOf ⟨#[102, 98]⟩) = fill [102, 98] := by decide
        rw [e1] at g11
        have b11 : Below wr.heap.size wr w11 := b0.trans (c11.below_ (B := wr.heap.size) b0.size (fun k hk => by omega))
        have hb11 := hbr.step (w1 := w11) (fun k hk hlt => b11.block k hlt)
        clear g0 b0 c11 e1
        gi_wp2_with fail
        clear hcp
        have k12 : w11.cell? ⟨rb, 0, none⟩ = some (.int .u64 r.gen) := by have := cell_of_row _ rb 0 _ _ _ hb11.blk; simpa using this
        refine wpIn_wide.2 (wp_region_plan [] (.take 0 (.take 1 (.take 2 (.run 3 .done)))) (fun w' => w'.cell? ⟨rb, 0, none⟩ = some (.int .u64 r.gen)) (by kernel_rfl) (by kernel_rfl) (fun c a d v w h => by cases d <;> exact h) k12 ?_)
        iterate 3 (apply plan_take rfl rfl; (case hy => (intro w' hS; have s0 := hS; clear hS; go_simp; try exact rfl)); go_simp)
        refine plan_run_on rfl rfl (fun K hK => ?_)
        go_simp
        refine (put_any (n := r.gen) (off := 2) (m := 8) (c := 62) ⟨by omega, by omega⟩ (g11.step (w1 := w11.drew) rfl) (by rw [fill_length (by simp [be_length])]; omega) (by omega)).mono ?_
        rintro e w12 ⟨rfl, g12, c12⟩
        have q12 := fill_splice' (p := [102, 98]) (vs := be (r.gen) 8) (off := 2) (by simp [be_length]) (by simp [be_length])
        rw [q12] at g12
        have b12 : Below wr.heap.size wr w12 := (below_drew b11).trans (c12.below_ (B := wr.heap.size) b11.size (fun k hk => by omega))
        have hb12 := hb11.step (w1 := w12) (fun k hk hlt => c12.block k hlt (hgn k hk))
        have kk12 : w12.cell? ⟨rb, 0, none⟩ = some (.int .u64 r.gen) := by have := cell_of_row _ rb 0 _ _ _ hb12.blk; simpa using this
        refine hK _ _ _ (fun _ h => h) kk12 ?_
        clear hK K
        refine plan_done ?_
        clear q12 c12 g11 k12 kk12
        gi_wp2_with fail
        have k13 : w12.cell? ⟨rb, 1, none⟩ = some (.int .i64 r.at_) := by have := cell_of_row _ rb 1 _ _ _ hb12.blk; simpa using this
        refine wpIn_wide.2 (wp_region_plan [] (.take 0 (.take 1 (.take 2 (.take 3 (.run 4 .done))))) (fun w' => w'.cell? ⟨rb, 1, none⟩ = some (.int .i64 r.at_)) (by kernel_rfl) (by kernel_rfl) (fun c a d v w h => by cases d <;> exact h) k13 ?_)
        iterate 4 (apply plan_take rfl rfl; (case hy => (intro w' hS; have s0 := hS; clear hS; go_simp; try exact rfl)); go_simp)
        refine plan_run_on rfl rfl (fun K hK => ?_)
        go_simp
        refine (put_any (n := r.at_) (off := 10) (m := 2) (c := 54) ⟨by omega, by omega⟩ (g12.step (w1 := w12.drew) rfl) (by rw [fill_length (by simp [be_length])]; omega) (by omega)).mono ?_
        rintro e w13 ⟨rfl, g13, c13⟩
        have q13 := fill_splice' (p := [102, 98] ++ be r.gen 8) (vs := be (r.at_) 2) (off := 10) (by simp [be_length]) (by simp [be_length])
        rw [q13] at g13
        have b13 : Below wr.heap.size wr w13 := (below_drew b12).trans (c13.below_ (B := wr.heap.size) b12.size (fun k hk => by omega))
        have hb13 := hb12.step (w1 := w13) (fun k hk hlt => c13.block k hlt (hgn k hk))
        have kk13 : w13.cell? ⟨rb, 1, none⟩ = some (.int .i64 r.at_) := by have := cell_of_row _ rb 1 _ _ _ hb13.blk; simpa using this
        refine hK _ _ _ (fun _ h => h) kk13 ?_
        clear hK K
        refine plan_done ?_
        clear q13 c13 g12 k13 kk13
        have uk2 : IntKind.u64.wrap ((i : Int) + 1) = (i : Int) + 1 := by rw [wrap_u64_mod]; omega
        gi_wp2_with fail
        refine ⟨trivial, callsIn_wide.2 ((put_any (n := (i : Int) + 1) (off := 12) (m := 2) (c := 52) ⟨by omega, by omega⟩ g13 (by rw [fill_length (by simp [be_length])]; omega) (by omega)).mono ?_)⟩
        rintro e w14 ⟨rfl, g14, c14⟩
        have q14 := fill_splice' (p := [102, 98] ++ be r.gen 8 ++ be r.at_ 2) (vs := be ((i : Int) + 1) 2) (off := 12) (by simp [be_length]) (by simp [be_length])
        rw [q14] at g14
        have b14 : Below wr.heap.size wr w14 := b13.trans (c14.below_ (B := wr.heap.size) b13.size (fun k hk => by omega))
        have hb14 := hb13.step (w1 := w14) (fun k hk hlt => c14.block k hlt (hgn k hk))
        clear q14 c14 g13
        have k14 : w14.cell? ⟨rb, 3, none⟩ = some (.slice A r.bytes.length c) := by have := cell_of_row _ rb 3 _ _ _ hb14.blk; simpa using this
        have hcap := hbr.cap
        have hne : ¬ c = n0 := by omega
        have hdl : (r.bytes.drop (n0)).length = r.bytes.length - (n0) := by rw [List.length_drop]
        have hlc : n0 ≤ r.bytes.length := by omega
        obtain ⟨w15, hcp, g15, c15⟩ := (g14.step (w1 := w14.drew) rfl).copy_row (P := Tryz.prog) 25 25 3 5 14 50 50 (c - (n0)) (Kd.F_now (RB_drop (Kd.F_step (W1 := w14.drew) hb14.row (fun _ _ _ => rfl)) hlc hcap)) Tryz.underlying25 (by kernel_rfl) (by rw [fill_length (by simp [be_length])]; omega)
        rw [hdl, show behind A (n0) c = A.map (·.add (n0)) from if_neg hne] at hcp
        have q15 := fill_splice' (p := [102, 98] ++ be r.gen 8 ++ be r.at_ 2 ++ be ((i : Int) + 1) 2) (vs := (r.bytes.drop (n0)).take 50) (off := 14) (by simp [be_length]) (by simp [be_length]; omega)
        rw [q15] at g15
        gi_wp2_with fail
        refine wpIn_wide.2 (wp_region_plan [] (.take 0 (.take 1 (.take 2 (.take 3 (.take 4 (.take 5 (.run 6 (.take 7 (.take 8 .done))))))))) (fun w' => w'.cell? ⟨rb, 3, none⟩ = some (.slice A r.bytes.length c)) (by kernel_rfl) (by kernel_rfl) (fun c a d v w h => by cases d <;> exact h) k14 ?_)
        iterate 5 (apply plan_take rfl rfl; (case hy => (intro w' hS; have s0 := hS; clear hS; go_simp; try exact rfl)); go_simp)
        apply plan_take rfl rfl
        case hy => (intro w' hS; have s0 := hS; clear hS; have h1 : (n0 : Int) ≤ (r.bytes.length : Int) := (by omega); go_simp; try exact rfl)
        go_simp
        refine plan_run_on rfl rfl (fun K hK => ?_)
        go_simp
        have b15 : Below wr.heap.size wr w15 := (below_drew b14).trans (c15.below_ (B := wr.heap.size) b14.size (fun k hk => by omega))
        have hb15 := hb14.step (w1 := w15) (fun k hk hlt => c15.block k hlt (hgn k hk))
        have kk15 : w15.cell? ⟨rb, 3, none⟩ = some (.slice A r.bytes.length c) := by have := cell_of_row _ rb 3 _ _ _ hb15.blk; simpa using this
        refine hK _ _ _ (fun _ h => h) kk15 ?_
        clear hK K
        iterate 2 (apply plan_take rfl rfl; (case hy => (intro w' hS; clear hS; go_simp; try exact rfl)); go_simp)
        refine plan_done ?_
        have hh : fill ([102, 98] ++ be r.gen 8 ++ be r.at_ 2 ++ be ((i : Int) + 1) 2 ++ (r.bytes.drop n0).take 50) = bodyB r (i + 1) := by
          rw [fill_pad (m := 50) (by simp [be_length]) (by rw [List.length_take]; omega), HN0.out]
          simp [bodyB]
        rw [hh] at g15
        clear hcp q15 c15 g14 k14 hh
        have hpl : pre.length = i + 1 := by have := congrArg List.length hpre; simp [blkList] at this; omega
        have hJ15 : J pre w15 := hJ pre wr w15 none hJr (grown_of_below b15) (fun _ e => by cases e)
        obtain ⟨fn, tmps, assign, body, hy, hR⟩ := hY pre ⟨(i + 1, bodyB r (i + 1)), by omega, bodyB_length r _, bodyB_bytes hr _⟩ w15 hJ15 (by simp [blkList]; omega)
        dsimp only [encY] at hy
        rw [show (((i + 1 : Nat) : Int)) = (i : Int) + 1 from by omega] at hy
        have hpre2 : (pre ++ [(⟨(i + 1, bodyB r (i + 1)), by omega, bodyB_length r _, bodyB_bytes hr _⟩ : YB)]).map (·.1) = (blkList r).take (i + 2) := by
          rw [List.map_append, hpre, List.take_succ_eq_append_getElem (i := i + 1) (by simp [blkList]; omega)]
          simp [blkList]
        gi_wp2_with (refine wpListIn_load_addr rfl rfl 246 (.tmp 6) rfl ⟨wr.heap.size, 0, none⟩ rfl (nums .u8 (bodyB r (i + 1))) _ g15.load Tryz.underlying246 rfl (by rw [nums_length, bodyB_length]; kernel_rfl) ?_)
        gi_wp2_with fail
        refine hR.mono ?_
        rintro e W8 (⟨rfl, hJ8, hk8⟩ | ⟨rfl, hJx8⟩)
        · have hb8 := hb15.step (w1 := W8) (fun k hk hlt => hk8.1 k hk hlt)
          have s8 : W.heap.size ≤ W8.heap.size := Nat.le_trans sr (Nat.le_trans b15.size hk8.2)
          have hmin3 : (n0 : Int) + ((min (r.bytes.length - n0) 50 : Nat) : Int) = ((min r.bytes.length (47 + 50 * (i + 1)) : Nat) : Int) := by have := HN0.out; omega
          clear hR hy g15 b15 hb15 hb14 hb13 hb12 hb11 b14 b13 b12 b11 kk15 hk8
          gi_wp2_with fail
          go_roundw
          case rel => exact ⟨i + 1, _, hlt, by simp, rfl, hpre2, hJ8, hb8, s8⟩
          case measure => simp only [intOf]; omega
        · gi_wp2_with fail
          refine bodyPost_ret (results_none rfl _ _ _) rfl ?_
          exact ⟨⟨_, rfl⟩, .inr ⟨_, by rw [hpre2]; exact List.take_prefix _ _, hJx8⟩⟩
      · have hib : i = bodies r := by omega
        have hn : min r.bytes.length (47 + 50 * i) = r.bytes.length := by unfold bodies at hib; omega
        rw [hn]
        have kl : wr.cell? ⟨rb, 3, none⟩ = some (.slice A r.bytes.length c) := by have := cell_of_row _ rb 3 _ _ _ hbr.blk; simpa using this
        gi_wp2_with fail
        go_end0
        exact ⟨⟨_, rfl⟩, .inl ⟨pre, by rw [hpre, hib]; exact List.take_of_length_le (by simp [blkList]), hJr⟩⟩
  · gi_wp2
    refine bodyPost_ret (results_none rfl _ _ _) rfl ?_
    exact ⟨⟨_, rfl⟩, .inr ⟨[⟨(0, headB r), by simp, headB_length r, headB_bytes hr⟩], ⟨(List.range (bodies r)).map fun i => (i + 1, bodyB r (i + 1)), rfl⟩, hJx7⟩⟩
end Go.Proofs.YticogmpafehomaaGreatDoor

set_option linter.unusedVariables false
set_option linter.unusedSimpArgs false
namespace Go.Proofs.YticogmpafehomaaGreatDoor
open Go.RowKit Go.Proofs.YticogmpafehomaaGreatDoorW.PrintWords

/-- A disk: its bytes, how many writes are left (below 0: no cut is set), is the power gone, the recorded writes. -/
structure DM where
  b : List Int
  left : Int
  gone : Bool
  ws : List (Int × List Int)
namespace DM
def n (D : DM) : Nat := D.b.length / 64
def ready (D : DM) (i : Int) : Int := if D.gone = true then 61 else if i < 0 ∨ (D.n : Int) ≤ i then 60 else 0
def writeE (D : DM) (i : Int) (xs : List Int) : Int :=
  if D.ready i ≠ 0 then D.ready i else if xs.length ≠ 64 then 1 else if D.left = 0 then 61 else 0
def writeD (D : DM) (i : Int) (xs : List Int) : DM :=
  if D.ready i ≠ 0 then D else if xs.length ≠ 64 then D else if D.left = 0 then { D with gone := true }
  else { b := splice D.b (i.toNat * 64) xs, left := if 0 < D.left then D.left - 1 else D.left, gone := D.gone, ws := D.ws ++ [(i, xs)] }
structure wf (D : DM) : Prop where
  len : D.b.length = 64 * D.n
  lo : 16 ≤ D.n
  hi : D.n ≤ 4096
  l1 : -9223372036854775808 ≤ D.left
  l2 : D.left ≤ 9223372036854775807
  bytes : Bytes D.b
  wsB : ∀ x ∈ D.ws, Bytes x.2 ∧ x.2.length = 64 ∧ 0 ≤ x.1 ∧ x.1 < D.n
end DM

/-- A recorded write's cells. -/
abbrev KW : Kd (Int × List Int) := Kd.pair (Kd.int .i64) (Kd.slice 5 KB)
/-- The disk's blocks: p the struct's, g the bytes', wv the recorded writes. -/
structure PDb (w : World) (ok : Nat → Prop) (p : Nat) (D : DM) (g cap : Nat) (wv : Value) : Prop where
  okp : ok p
  okg : ok g
  blk : w.heap[p]? = some (.cells #[.slice (some ⟨g, 0, none⟩) D.n cap, .int .i64 D.left, .bool D.gone, wv] 95 (0, 0))
  row : w.ownsRow 0 135 64 (.slice (some ⟨g, 0, none⟩) D.n cap) D.n (nums .u8 D.b)
  ws : KW.R 224 w 0 ok wv D.ws
def PDisk (w : World) (ok : Nat → Prop) (p : Nat) (D : DM) : Prop := D.wf ∧ ∃ g cap wv, PDb w ok p D g cap wv
theorem ob_eq {g n c k : Nat} (h : (Value.slice (some ⟨g, 0, none⟩) n c).ownBlock = some k) : g = k := by simpa [Value.ownBlock] using h
theorem blk_type_ne {w : World} {g k : Nat} {c c' : Array Value} {t t' : TypeId} (h : w.heap[g]? = some (.cells c t (0, 0))) (h' : w.heap[k]? = some (.cells c' t' (0, 0))) (hne : t ≠ t') : g ≠ k := by
  rintro rfl
  rw [h] at h'
  injection h' with h'
  injection h' with _ ht
  exact hne ht
namespace PDb
variable {w w1 : World} {ok ok' : Nat → Prop} {p : Nat} {D : DM} {g cap : Nat} {wv : Value}
theorem ne_pg (h : PDb w ok p D g cap wv) : p ≠ g := by
  obtain ⟨c, hc⟩ := own_typed h.row g rfl
  exact blk_type_ne h.blk hc (by decide)
theorem ne_pw (h : PDb w ok p D g cap wv) : some p ≠ wv.ownBlock := fun e => by
  obtain ⟨_, _, ho, _⟩ := h.ws
  obtain ⟨c, hc⟩ := own_typed ho p e.symm
  exact blk_type_ne h.blk hc (by decide) rfl
theorem ne_gw (h : PDb w ok p D g cap wv) : some g ≠ wv.ownBlock := fun e => by
  obtain ⟨_, _, ho, _⟩ := h.ws
  obtain ⟨c, hc⟩ := own_typed ho g e.symm
  obtain ⟨c', hc'⟩ := own_typed h.row g rfl
  exact blk_type_ne hc' hc (by decide) rfl
theorem mono (h : PDb w ok p D g cap wv) (hs : ∀ k, ok k → ok' k) : PDb w ok' p D g cap wv := ⟨hs _ h.okp, hs _ h.okg, h.blk, h.row, Kd.R_mono h.ws hs⟩
theorem bound (h : PDb w ok p D g cap wv) : PDb w (fun k => ok k ∧ k < w.heap.size) p D g cap wv :=
  ⟨⟨h.okp, blk_lt h.blk⟩, ⟨h.okg, own_lt h.row g rfl⟩, h.blk, h.row, Kd.R_mono (Kd.R_bound h.ws) (fun _ hk => ⟨hk.1, hk.2.2.1⟩)⟩
theorem step (h : PDb w ok p D g cap wv) (hm : ∀ k, ok k → k < w.heap.size → w1.heap[k]? = w.heap[k]?) : PDb w1 ok p D g cap wv :=
  ⟨h.okp, h.okg, (hm p h.okp (blk_lt h.blk)).trans h.blk, own_move h.row (fun k hk => (by rw [← ob_eq hk]; exact hm _ h.okg (own_lt h.row _ rfl))), Kd.R_step h.ws hm⟩
theorem below (h : PDb w ok p D g cap wv) (hb : Below w.heap.size w w1) : PDb w1 ok p D g cap wv := h.step (fun k _ hk => hb.block k hk)
theorem cell0 (h : PDb w ok p D g cap wv) : w.cell? ⟨p, 0, none⟩ = some (.slice (some ⟨g, 0, none⟩) D.n cap) := by rw [cell_of_row w p 0 _ _ _ h.blk]; rfl
theorem cell1 (h : PDb w ok p D g cap wv) : w.cell? ⟨p, 1, none⟩ = some (.int .i64 D.left) := by rw [cell_of_row w p 1 _ _ _ h.blk]; rfl
theorem cell2 (h : PDb w ok p D g cap wv) : w.cell? ⟨p, 2, none⟩ = some (.bool D.gone) := by rw [cell_of_row w p 2 _ _ _ h.blk]; rfl
theorem cell3 (h : PDb w ok p D g cap wv) : w.cell? ⟨p, 3, none⟩ = some wv := by rw [cell_of_row w p 3 _ _ _ h.blk]; rfl
theorem free (h : PDb w ok p D g cap wv) (j : Nat) : w.frozen? ⟨p, j, none⟩ = false := frozen_of_row w p j _ _ h.blk
theorem setP (h : PDb w ok p D g cap wv) (j : Nat) (u : Value) : (w.setCell ⟨p, j, none⟩ u).ownsRow 0 135 64 (.slice (some ⟨g, 0, none⟩) D.n cap) D.n (nums .u8 D.b) ∧ KW.R 224 (w.setCell ⟨p, j, none⟩ u) 0 ok wv D.ws :=
  ⟨own_move h.row (fun k hk => (by rw [← ob_eq hk]; exact Below.heap_setCell w _ u _ (fun e => h.ne_pg e.symm))), Kd.R_set h.ws h.blk (by decide) j u⟩
theorem setLeft (h : PDb w ok p D g cap wv) (l : Int) : PDb (w.setCell ⟨p, 1, none⟩ (.int .i64 l)) ok p { D with left := l } g cap wv :=
  ⟨h.okp, h.okg, heap_setCell_same w p 1 _ _ _ h.blk, (h.setP 1 _).1, (h.setP 1 _).2⟩
theorem setGone (h : PDb w ok p D g cap wv) (l : Bool) : PDb (w.setCell ⟨p, 2, none⟩ (.bool l)) ok p { D with gone := l } g cap wv :=
  ⟨h.okp, h.okg, heap_setCell_same w p 2 _ _ _ h.blk, (h.setP 2 _).1, (h.setP 2 _).2⟩
theorem setBytes (h : PDb w ok p D g cap wv) (off : Nat) (xs : List Int) (hl : off + xs.length ≤ D.n * 64) : PDb (w.setCells g off (nums .u8 xs)) ok p { D with b := splice D.b off xs } g cap wv := by
  have hn : (splice D.b off xs).length = D.b.length := by
    have := h.row.1
    rw [nums_length] at this
    exact length_splice _ _ _ (by omega)
  have hn2 : ({ D with b := splice D.b off xs } : DM).n = D.n := by simp only [DM.n, hn]
  refine ⟨h.okp, h.okg, ?_, ?_, ?_⟩
  · rw [heap_setCells_ne _ _ h.ne_pg, hn2]; exact h.blk
  · rw [hn2]
    have h2 := own_setCells (off := off) (vs := nums .u8 xs) h.row (by rw [nums_length]; exact hl)
    have h3 : nums .u8 (splice D.b off xs) = splice (nums .u8 D.b) off (nums .u8 xs) := by simp only [nums]; exact map_splice _ _ _ _
    rw [h3]; exact h2
  · obtain ⟨c, hc⟩ := own_typed h.row g rfl
    refine Kd.R_mono (Kd.R_step (Kd.R_types h.ws hc (by decide)) (w1 := w.setCells g off (nums .u8 xs)) (fun k hk _ => heap_setCells_ne _ _ hk.2 _ _)) (fun _ hk => hk.1)
end PDb
theorem PDisk.mono {w : World} {ok ok' : Nat → Prop} {p : Nat} {D : DM} (h : PDisk w ok p D) (hs : ∀ k, ok k → ok' k) : PDisk w ok' p D := by
  obtain ⟨hw, g, cap, wv, h⟩ := h
  exact ⟨hw, g, cap, wv, h.mono hs⟩
theorem PDisk.bound {w : World} {ok : Nat → Prop} {p : Nat} {D : DM} (h : PDisk w ok p D) : PDisk w (fun k => ok k ∧ k < w.heap.size) p D := by
  obtain ⟨hw, g, cap, wv, h⟩ := h
  exact ⟨hw, g, cap, wv, h.bound⟩
theorem PDisk.step {w w1 : World} {ok : Nat → Prop} {p : Nat} {D : DM} (h : PDisk w ok p D) (hm : ∀ k, ok k → k < w.heap.size → w1.heap[k]? = w.heap[k]?) : PDisk w1 ok p D := by
  obtain ⟨hw, g, cap, wv, h⟩ := h
  exact ⟨hw, g, cap, wv, h.step hm⟩

theorem ready_gone (p : Nat) (A : Option Addr) (n c : Nat) (left i : Int) (wv : Value) (w : World) (hp : w.heap[p]? = some (.cells #[.slice A n c, .int .i64 left, .bool true, wv] 95 (0, 0))) :
  Calls Tryz.prog 109 #[.pointer (some ⟨p, 0, none⟩), .int .i64 i] w fun e w' => e = .returned (.int .i64 61) ∧ w = w' := by
  have h2 := cell_of_row w p 2 _ _ _ hp
  have h0 := cell_of_row w p 0 _ _ _ hp
  simp at h2 h0
  clear hp
  go_enter Tryz.func109, Tryz.ntmps109
  go_wp2
  go_ret
  exact ⟨rfl, rfl⟩
theorem ready_on (p : Nat) (A : Option Addr) (n c : Nat) (left i : Int) (wv : Value) (w : World) (hp : w.heap[p]? = some (.cells #[.slice A n c, .int .i64 left, .bool false, wv] 95 (0, 0))) :
  Calls Tryz.prog 109 #[.pointer (some ⟨p, 0, none⟩), .int .i64 i] w fun e w' => e = .returned (.int .i64 (if i < 0 ∨ (n : Int) ≤ i then 60 else 0)) ∧ w = w' := by
  have h2 := cell_of_row w p 2 _ _ _ hp
  have h0 := cell_of_row w p 0 _ _ _ hp
  simp at h2 h0
  clear hp
  go_enter Tryz.func109, Tryz.ntmps109
  go_wp2
  all_goals (go_ret; exact ⟨rfl, rfl⟩)
theorem ready_any {w : World} {ok : Nat → Prop} {p : Nat} {D : DM} (h : PDisk w ok p D) (i : Int) :
  Calls Tryz.prog 109 #[.pointer (some ⟨p, 0, none⟩), .int .i64 i] w fun e w' => e = .returned (.int .i64 (D.ready i)) ∧ w = w' := by
  obtain ⟨_, g, cap, wv, hb⟩ := h
  have hp := hb.blk
  unfold DM.ready
  cases hg : D.gone
  · rw [hg] at hp
    simpa using ready_on p _ _ _ _ i _ w hp
  · rw [hg] at hp
    simpa using ready_gone p _ _ _ _ i _ w hp

/-! ### Write -/
theorem info_block : (Tryz.prog.info? 135).map (·.size) = some 64 := by kernel_rfl
theorem info_Write : (Tryz.prog.info? 224).map (fun i => (i.zero, i.size, i.bytes)) = some (some (.agg #[.int .i64 0, .slice none 0 0]), 2, 32) := by kernel_rfl
theorem PDb.drew {w : World} {ok : Nat → Prop} {p : Nat} {D : DM} {g cap : Nat} {wv : Value} (h : PDb w ok p D g cap wv) : PDb w.drew ok p D g cap wv := h.below (below_drew (Below.refl _ _))
theorem RB_drew {w : World} {ok : Nat → Prop} {A : Option Addr} {xs : List Int} (h : RB w ok A xs) : RB w.drew ok A xs := Kd.F_drew h
theorem PDb.close {w : World} {ok : Nat → Prop} {p : Nat} {D : DM} {g cap : Nat} {wv u : Value} {l : List (Int × List Int)} (hp : ok p) (hg : ok g)
    (hb : w.heap[p]? = some (.cells #[.slice (some ⟨g, 0, none⟩) D.n cap, .int .i64 D.left, .bool D.gone, wv] 95 (0, 0)))
    (hr : w.ownsRow 0 135 64 (.slice (some ⟨g, 0, none⟩) D.n cap) D.n (nums .u8 D.b)) (hR : KW.R 224 w 0 ok u l) :
    PDb (w.setCell ⟨p, 3, none⟩ u) ok p { D with ws := l } g cap u := by
  have hne : g ≠ p := by
    obtain ⟨c, hc⟩ := own_typed hr g rfl
    exact blk_type_ne hc hb (by decide)
  exact ⟨hp, hg, heap_setCell_same w p 3 _ _ _ hb, own_move hr (fun k hk => (by rw [← ob_eq hk]; exact Below.heap_setCell w _ u _ hne)), Kd.R_set hR hb (by decide) 3 u⟩
theorem splice_mem {α : Type} {L xs : List α} {off : Nat} {x : α} (h : x ∈ splice L off xs) : x ∈ L ∨ x ∈ xs := by
  unfold splice at h
  rcases List.mem_append.1 h with h | h
  · exact .inl (List.mem_of_mem_take h)
  · rcases List.mem_append.1 h with h | h
    · exact .inr h
    · exact .inl (List.mem_of_mem_drop h)
theorem writeD_wf {D : DM} (h : D.wf) {xs : List Int} (hB : Bytes xs) (i : Int) : (D.writeD i xs).wf := by
  unfold DM.writeD
  split
  · exact h
  split
  · exact h
  split
  · exact ⟨h.len, h.lo, h.hi, h.l1, h.l2, h.bytes, h.wsB⟩
  · rename_i hr hx hl
    have hx64 := hx
    have hi : 0 ≤ i ∧ i < D.n := by
      simp only [DM.ready] at hr
      split at hr
      · simp at hr
      · split at hr
        · simp at hr
        · omega
    have h1 := h.len
    have hn : (splice D.b (i.toNat * 64) xs).length = D.b.length := length_splice _ _ _ (by omega)
    have h2 := h.l1
    have h3 := h.l2
    refine ⟨?_, ?_, ?_, ?_, ?_, ?_, ?_⟩
    · show (splice D.b (i.toNat * 64) xs).length = 64 * ((splice D.b (i.toNat * 64) xs).length / 64); rw [hn]; exact h.len
    · show 16 ≤ (splice D.b (i.toNat * 64) xs).length / 64; rw [hn]; exact h.lo
    · show (splice D.b (i.toNat * 64) xs).length / 64 ≤ _; rw [hn]; exact h.hi
    · simp only; split <;> omega
    · simp only; split <;> omega
    · intro x hx
      rcases splice_mem hx with hx | hx
      · exact h.bytes x hx
      · exact hB x hx
    · intro x hx
      rcases List.mem_append.1 hx with hx | hx
      · have h5 := h.wsB x hx
        refine ⟨h5.1, h5.2.1, h5.2.2.1, ?_⟩
        show x.1 < (((splice D.b (i.toNat * 64) xs).length / 64 : Nat) : Int)
        rw [hn]; exact h5.2.2.2
      · rw [List.mem_singleton.1 hx]
        refine ⟨hB, Classical.not_not.1 hx64, hi.1, ?_⟩
        show i < (((splice D.b (i.toNat * 64) xs).length / 64 : Nat) : Int)
        rw [hn]; exact hi.2
/-- What is told of a record made of an int and a fresh slice of bytes. -/
theorem KW_new {w : World} {ok : Nat → Prop} {v : Value} {i : Int} {xs : List Int} (h : KB.R 5 w 0 ok v xs) : KW.M w 0 ok (i, xs) [.int .i64 i, v] := ⟨[.int .i64 i], [v], rfl, rfl, v, rfl, h⟩
end Go.Proofs.YticogmpafehomaaGreatDoor

set_option linter.unusedVariables false
set_option linter.unusedSimpArgs false
namespace Go.Proofs.YticogmpafehomaaGreatDoor
open Go.RowKit Go.Proofs.YticogmpafehomaaGreatDoorW.PrintWords

set_option maxRecDepth 100000 in
set_option maxHeartbeats 1000000 in
theorem write_ok {w : World} {ok okb : Nat → Prop} {p : Nat} {D : DM} {a : Addr} {c : Nat} {xs : List Int} (i : Nat) (h : PDisk w ok p D) (hF : RB w okb (some a) xs) (hne : apart okb ok) (hr : D.ready i = 0) (hi : i < D.n) (hx : xs.length = 64) (hB : Bytes xs) (hl : ¬ D.left = 0)
    (hm : (D.ws.length + 1) * 32 ≤ 140737488355328) :
  Calls Tryz.prog 123 #[.pointer (some ⟨p, 0, none⟩), .int .i64 i, .slice (some a) xs.length c] w fun e w' => e = .returned (.int .i64 0) ∧ PDisk w' (orNew ok w) p (D.writeD i xs) ∧ Chg ok w w' := by
  have hready := ready_any h i
  rw [hr] at hready
  obtain ⟨hwf, g, cap, wv, hb⟩ := h
  have hwD : D.writeD i xs = { b := splice D.b (i * 64) xs, left := if 0 < D.left then D.left - 1 else D.left, gone := D.gone, ws := D.ws ++ [(↑i, xs)] } := by
    unfold DM.writeD
    rw [if_neg (by rw [hr]; simp), if_neg (by rw [hx]; simp), if_neg hl]
    simp
  have HWD := hid hwD
  have hx2 : ((xs.length : Int) == 64) = true := by simp [hx]
  have hx3 : ((xs.length : Int) != 64) = false := by simp [hx]
  have hl3 : (D.left == 0) = false := by simp [hl]
  have HX := hid hx
  have c0 := hb.cell0
  have c1 := hb.cell1
  have z1 := hb.free 1
  have l1 := hwf.l1
  have l2 := hwf.l2
  clear hx hr hl hwD
  obtain ⟨W0, D0, hW⟩ : ∃ W0 D0, (W0, D0) = (if 0 < D.left then (w.setCell ⟨p, 1, none⟩ (.int .i64 (D.left - 1)), { D with left := D.left - 1 }) else (w, D) : World × DM) := ⟨_, _, rfl⟩
  have hall : PDb W0 ok p D0 g cap wv ∧ Chg ok w W0 ∧ Hid (D0.b = D.b ∧ D0.ws = D.ws ∧ D0.n = D.n ∧ D.writeD i xs = { b := splice D0.b (i * 64) xs, left := D0.left, gone := D0.gone, ws := D0.ws ++ [(↑i, xs)] } ∧ -9223372036854775808 ≤ D0.left ∧ D0.left ≤ 9223372036854775807) := by
    by_cases hpos : 0 < D.left
    · rw [if_pos hpos] at hW
      obtain ⟨rfl, rfl⟩ := Prod.mk.inj hW
      exact ⟨hb.setLeft (D.left - 1), (Chg.refl ok w).setCell (.inl hb.okp) _, rfl, rfl, rfl, by rw [HWD.out, if_pos hpos], by show _ ≤ D.left - 1; omega, by show D.left - 1 ≤ _; omega⟩
    · rw [if_neg hpos] at hW
      obtain ⟨rfl, rfl⟩ := Prod.mk.inj hW
      exact ⟨hb, Chg.refl ok _, rfl, rfl, rfl, by rw [HWD.out, if_neg hpos], l1, l2⟩
  obtain ⟨hb0, hc0, HD⟩ := hall
  have hF0 := RB_step hF hc0 hne
  have HW := hid hW
  clear hW
  by_cases hpos : 0 < D.left
  all_goals
    go_enter Tryz.func123, Tryz.ntmps123
    go_wp2_with (go_at_call 109; refine hready.mono ?_; rintro e w' ⟨rfl, rfl⟩)
    have hW := HW.out
    first | rw [if_pos hpos] at hW | rw [if_neg (by omega)] at hW
    have hW2 := congrArg Prod.fst hW
    simp only at hW2
    rw [← hW2]
    clear hW hW2 hready c0 c1 z1
    have c0 := hb0.cell0
    have hn : D0.n = D.n := HD.out.2.2.1
    rw [hn] at c0
    have hrow := hb0.row
    rw [hn] at hrow
    refine wp_region_plan [8, 9] (.take 0 (.take 1 (.take 2 (.take 3 (.take 4 (.take 5 (.take 6 (.take 7 (.tail 8 (.tail 9 .done)))))))))) (fun w' => w'.cell? ⟨p, 0, none⟩ = some (.slice (some ⟨g, 0, none⟩) D.n cap) ∧ Kd.C KB w' (some a) xs.length xs) (by kernel_rfl) (by kernel_rfl) (fun c a d v w h => by cases d <;> exact h) ⟨c0, Kd.F_now hF0⟩ ?_
    iterate 6 (apply plan_take rfl rfl; (case hy => (intro w' hS; obtain ⟨s0, _⟩ := hS; go_simp; try exact rfl)); go_simp)
    apply plan_take rfl rfl
    case hy => (intro w' hS; have hx' := HX.out; go_simp; try exact rfl)
    go_simp
    apply plan_take rfl rfl
    case hy => intro w' hS; exact exec_load_row 135 (.tmp 43) rfl a rfl (nums .u8 xs) _ (cells_of_C hS.2) Tryz.underlying135 rfl (by rw [nums_length, HX.out]; exact info_block)
    go_simp
    refine plan_tail rfl (fun K hK => ?_)
    go_simp
    refine hK _ _ ?_
    clear hK K
    refine plan_tail_on rfl rfl (fun K hK => ?_)
    refine wp_store_mid 135 (.tmp 45) (.tmp 44) rfl g (i * 64) (nums .u8 xs).toArray rfl rfl ?_ ?_ (nums_one _ _) ?_
    · exact own_there hrow _ (by simp [nums_length, HX.out]; omega)
    · simp only [List.size_toArray, nums_length, HX.out]; exact info_block
    go_simp
    refine hK _ _ (plan_done ?_)
    clear hK K c0 hrow
    have hb1 := hb0.drew.setBytes (i * 64) xs (by rw [hn, HX.out]; omega)
    have hc1 : Chg ok w (W0.drew.setCells g (i * 64) (nums .u8 xs)) := hc0.drew.setCells (.inl hb0.okg) _ _
    have hF1 := RB_step hF hc1 hne
    generalize W0.drew.setCells g (i * 64) (nums .u8 xs) = W1 at hb1 hc1 hF1 ⊢
    clear hn
    have c3 := hb1.cell3
    go_wp2_with fail
    refine wp_region_plan [11, 12, 13] (.take 0 (.take 1 (.take 2 (.take 3 (.take 4 (.take 5 (.take 6 (.run 7 (.take 8 (.run 9 (.run 10 (.tail 11 (.tail 12 (.tail 13 .done)))))))))))))) (fun w' => w'.cell? ⟨p, 3, none⟩ = some wv) (by kernel_rfl) (by kernel_rfl) (fun c a d v w h => by cases d <;> exact h) c3 ?_
    iterate 7 (apply plan_take rfl rfl; (case hy => (intro w' hS; go_simp; try exact rfl)); go_simp)
    refine plan_run_on rfl rfl (fun K hK => ?_)
    go_simp
    refine (clone_any (Kd.F_now (RB_drew hF1)) (by rw [HX.out]; omega)).mono ?_
    rintro e w2 ⟨A2, c2, rfl, hR2, hB2⟩
    have hb2 := hb1.drew.below hB2
    have hc2 := hc1.drew.same hB2
    refine hK _ _ _ (fun _ h => h) hb2.cell3 ?_
    clear hK K
    go_simp
    apply plan_take rfl rfl
    case hy => (intro w' hS; go_simp; try exact rfl)
    go_simp
    refine plan_run_on rfl rfl (fun K hK => ?_)
    go_simp
    refine hK _ _ _ (fun _ h => h) (hb2.below (below_alloc (Below.refl _ _) _)).cell3 ?_
    clear hK K
    refine plan_run rfl (fun K hK => ?_)
    have hw2 : w.heap.size ≤ w2.heap.size := hc2.size
    have hR3 : KB.R 5 w2 0 (fun k => W1.heap.size ≤ k) (.slice A2 xs.length c2) xs := Kd.R_lower hR2 (Nat.zero_le _)
    have hlt : ∀ k, wv.ownBlock = some k → k < W1.heap.size := by
      obtain ⟨_, _, ho, _⟩ := hb1.ws
      exact fun k hk => own_lt ho k hk
    have hpw := hb2.ne_pw
    refine Kd.R_append_step KW (w0 := w2) 0 rfl (.tmp 50) (.tmp 55) 93 224 (.agg #[.int .i64 0, .slice none 0 0]) 32 rfl Tryz.underlying93 info_Write rfl (by decide) (by decide) wv D0.ws (↑i, xs) [.int .i64 i, .slice A2 xs.length c2]
      (orNew ok w) (fun k => W1.heap.size ≤ k) rfl rfl (KW_new hR3) (fun k hk => ⟨.inr (Nat.le_trans hc1.size hk), fun e => by have := hlt k e.symm; omega⟩) (fun k hk => .inr (Nat.le_trans hw2 hk)) (Kd.R_mono hb2.ws (fun _ h => .inl h)) (Below.refl _ _) (Nat.zero_le _) (by rw [HD.out.2.1]; exact hm) ?_
    intro v3 w3 hR4 _ hg3 _
    obtain ⟨A3, c4, rfl⟩ := Kd.R_slice hR4
    have hblk3 : w3.heap[p]? = _ := (hg3.block p (blk_lt hb2.blk) hpw).trans hb2.blk
    have hrow3 := own_other hb2.row hg3 (.inr (by have := hb2.ne_gw; simpa [Value.ownBlock] using this))
    have hc3 : Chg ok w w3 := hc2.grown hg3 (fun k hk => .inl (by
      obtain ⟨h0, _⟩ := hb2.ws
      exact h0 k hk))
    refine hK _ _ _ (fun _ h => h) (by rw [cell_of_row w3 p 3 _ _ _ hblk3]; rfl) ?_
    clear hK K
    have z3 := frozen_of_row w3 p 3 _ _ hblk3
    have c5 : w3.cell? ⟨p, 3, none⟩ = some wv := by rw [cell_of_row w3 p 3 _ _ _ hblk3]; rfl
    go_simp
    refine plan_tail rfl (fun K hK => ?_)
    go_simp
    refine hK _ _ ?_
    clear hK K
    refine plan_tail rfl (fun K hK => ?_)
    go_simp
    refine hK _ _ ?_
    clear hK K
    refine plan_tail rfl (fun K hK => ?_)
    go_simp
    refine hK _ _ (plan_done ?_)
    clear hK K
    go_wp2_with fail
    go_ret
    have hnl : D0.ws.length + 1 = (D0.ws ++ [((i : Int), xs)]).length := by simp
    rw [hnl]
    refine ⟨rfl, ⟨writeD_wf hwf hB i, g, cap, .slice A3 (D0.ws ++ [((i : Int), xs)]).length c4, ?_⟩, hc3.setCell (.inl hb0.okp) _⟩
    rw [HD.out.2.2.2.1]
    exact PDb.close (.inl hb0.okp) (.inl hb0.okg) hblk3 hrow3 hR4
end Go.Proofs.YticogmpafehomaaGreatDoor

set_option linter.unusedVariables false
set_option linter.unusedSimpArgs false
namespace Go.Proofs.YticogmpafehomaaGreatDoor
open Go.RowKit Go.Proofs.YticogmpafehomaaGreatDoorW.PrintWords Go.Proofs.YticogmpafehomaaGreatDoorW.PrintMore
attribute [local go_sem] max2_int min2_int max_two min_two

/-! ### Write, whatever the disk says -/
theorem write_err {w : World} {ok : Nat → Prop} {p : Nat} {D : DM} {A : Option Addr} {n c : Nat} (i : Int) (h : PDisk w ok p D) (hr : ¬ D.ready i = 0) :
  Calls Tryz.prog 123 #[.pointer (some ⟨p, 0, none⟩), .int .i64 i, .slice A n c] w fun e w' => e = .returned (.int .i64 (D.ready i)) ∧ w = w' := by
  have hready := ready_any h i
  have hr2 : (D.ready i != 0) = true := by simp [hr]
  clear hr
  go_enter Tryz.func123, Tryz.ntmps123
  go_wp2_with (go_at_call 109; refine hready.mono ?_; rintro e w' ⟨rfl, rfl⟩)
  go_ret
  exact ⟨rfl, rfl⟩
theorem write_len {w : World} {ok : Nat → Prop} {p : Nat} {D : DM} {A : Option Addr} {n c : Nat} (i : Int) (h : PDisk w ok p D) (hr : D.ready i = 0) (hn : ¬ n = 64) :
  Calls Tryz.prog 123 #[.pointer (some ⟨p, 0, none⟩), .int .i64 i, .slice A n c] w fun e w' => e = .returned (.int .i64 1) ∧ w = w' := by
  have hready := ready_any h i
  rw [hr] at hready
  have hx3 : ((n : Int) != 64) = true := by simp; omega
  clear hr
  go_enter Tryz.func123, Tryz.ntmps123
  go_wp2_with (go_at_call 109; refine hready.mono ?_; rintro e w' ⟨rfl, rfl⟩)
  go_ret
  exact ⟨rfl, rfl⟩
theorem write_gone {w : World} {ok : Nat → Prop} {p : Nat} {D : DM} {A : Option Addr} {c : Nat} (i : Int) (h : PDisk w ok p D) (hr : D.ready i = 0) (hl : D.left = 0) :
  Calls Tryz.prog 123 #[.pointer (some ⟨p, 0, none⟩), .int .i64 i, .slice A 64 c] w fun e w' => e = .returned (.int .i64 61) ∧ w' = w.setCell ⟨p, 2, none⟩ (.bool true) := by
  have hready := ready_any h i
  rw [hr] at hready
  obtain ⟨hwf, g, cap, wv, hb⟩ := h
  have c1 := hb.cell1
  have c2 := hb.cell2
  have z2 := hb.free 2
  rw [hl] at c1
  clear hr hl
  go_enter Tryz.func123, Tryz.ntmps123
  go_wp2_with (go_at_call 109; refine hready.mono ?_; rintro e w' ⟨rfl, rfl⟩)
  go_ret
  exact ⟨rfl, rfl⟩
/-- Write: what it answers, and what the disk is behind it. -/
theorem write_any {w : World} {ok okb : Nat → Prop} {p : Nat} {D : DM} {A : Option Addr} {c : Nat} {xs : List Int} (i : Int) (h : PDisk w ok p D) (hF : RB w okb A xs) (hne : apart okb ok) (hB : Bytes xs)
    (hm : (D.ws.length + 1) * 32 ≤ 140737488355328) :
  Calls Tryz.prog 123 #[.pointer (some ⟨p, 0, none⟩), .int .i64 i, .slice A xs.length c] w fun e w' => e = .returned (.int .i64 (D.writeE i xs)) ∧ PDisk w' (orNew ok w) p (D.writeD i xs) ∧ Chg ok w w' := by
  by_cases hr : D.ready i = 0
  · by_cases hx : xs.length = 64
    · by_cases hl : D.left = 0
      · have e1 : D.writeE i xs = 61 := by unfold DM.writeE; rw [if_neg (by rw [hr]; simp), if_neg (by rw [hx]; simp), if_pos hl]
        have e2 : D.writeD i xs = { D with gone := true } := by unfold DM.writeD; rw [if_neg (by rw [hr]; simp), if_neg (by rw [hx]; simp), if_pos hl]
        rw [e1, e2, hx]
        refine (write_gone i h hr hl).mono ?_
        rintro e w' ⟨rfl, rfl⟩
        obtain ⟨hwf, g, cap, wv, hb⟩ := h
        exact ⟨rfl, ⟨⟨hwf.len, hwf.lo, hwf.hi, hwf.l1, hwf.l2, hwf.bytes, hwf.wsB⟩, g, cap, wv, (hb.setGone true).mono (fun _ h => .inl h)⟩, (Chg.refl ok w).setCell (.inl hb.okp) _⟩
      · have hi : 0 ≤ i ∧ i < D.n := by
          simp only [DM.ready] at hr
          split at hr
          · simp at hr
          · split at hr
            · simp at hr
            · omega
        obtain ⟨j, rfl⟩ := Int.eq_ofNat_of_zero_le hi.1
        cases A with
        | none => rw [RB_none hF] at hx; simp at hx
        | some a =>
          have e1 : D.writeE j xs = 0 := by unfold DM.writeE; rw [if_neg (by rw [hr]; simp), if_neg (by rw [hx]; simp), if_neg hl]
          rw [e1]
          exact write_ok j h hF hne hr (by omega) hx hB hl hm
    · have e1 : D.writeE i xs = 1 := by unfold DM.writeE; rw [if_neg (by rw [hr]; simp), if_pos hx]
      have e2 : D.writeD i xs = D := by unfold DM.writeD; rw [if_neg (by rw [hr]; simp), if_pos hx]
      rw [e1, e2]
      refine (write_len i h hr hx).mono ?_
      rintro e w' ⟨rfl, rfl⟩
      exact ⟨rfl, h.mono (fun _ h => .inl h), Chg.refl ok w⟩
  · have e1 : D.writeE i xs = D.ready i := by unfold DM.writeE; rw [if_pos hr]
    have e2 : D.writeD i xs = D := by unfold DM.writeD; rw [if_pos hr]
    rw [e1, e2]
    refine (write_err i h hr).mono ?_
    rintro e w' ⟨rfl, rfl⟩
    exact ⟨rfl, h.mono (fun _ h => .inl h), Chg.refl ok w⟩

/-! ### Cut, On, Dead, Count, Blocks, Forget -/
def DM.cut (D : DM) (n : Int) : DM := { D with left := if n < -1 then -1 else n }
theorem cut_any {w : World} {ok : Nat → Prop} {p : Nat} {D : DM} (n : Int) (h : PDisk w ok p D) (h1 : n ≤ 9223372036854775807) :
  Calls Tryz.prog 35 #[.pointer (some ⟨p, 0, none⟩), .int .i64 n] w fun e w' => e = .returned (.tuple #[]) ∧ PDisk w' ok p (D.cut n) ∧ Chg ok w w' := by
  obtain ⟨hwf, g, cap, wv, hb⟩ := h
  have c1 := hb.cell1
  have z1 := hb.free 1
  have hfin : PDisk (w.setCell ⟨p, 1, none⟩ (.int .i64 (if n < -1 then -1 else n))) ok p (D.cut n) ∧ Chg ok w (w.setCell ⟨p, 1, none⟩ (.int .i64 (if n < -1 then -1 else n))) :=
    ⟨⟨⟨hwf.len, hwf.lo, hwf.hi, by simp only [DM.cut]; split <;> omega, by simp only [DM.cut]; split <;> omega, hwf.bytes, hwf.wsB⟩, g, cap, wv, hb.setLeft _⟩, (Chg.refl ok w).setCell (.inl hb.okp) _⟩
  have HF := hid hfin
  clear hfin
  go_enter Tryz.func35, Tryz.ntmps35
  go_wp2
  all_goals
    go_end0
    have hfin := HF.out
    first | (rw [if_pos (by omega)] at hfin; exact ⟨rfl, hfin⟩) | (rw [if_neg (by omega)] at hfin; exact ⟨rfl, hfin⟩)
theorem on_any {w : World} {ok : Nat → Prop} {p : Nat} {D : DM} (h : PDisk w ok p D) :
  Calls Tryz.prog 36 #[.pointer (some ⟨p, 0, none⟩)] w fun e w' => e = .returned (.tuple #[]) ∧ PDisk w' ok p { D with left := -1, gone := false } ∧ Chg ok w w' := by
  obtain ⟨hwf, g, cap, wv, hb⟩ := h
  have c1 := hb.cell1
  have c2 := hb.cell2
  have z1 := hb.free 1
  have z2 := hb.free 2
  have hfin : PDisk ((w.setCell ⟨p, 2, none⟩ (.bool false)).setCell ⟨p, 1, none⟩ (.int .i64 (-1))) ok p { D with left := -1, gone := false } ∧ Chg ok w ((w.setCell ⟨p, 2, none⟩ (.bool false)).setCell ⟨p, 1, none⟩ (.int .i64 (-1))) :=
    ⟨⟨⟨hwf.len, hwf.lo, hwf.hi, by simp, by simp, hwf.bytes, hwf.wsB⟩, g, cap, wv, (hb.setGone false).setLeft (-1)⟩, ((Chg.refl ok w).setCell (.inl hb.okp) _).setCell (.inl hb.okp) _⟩
  have HF := hid hfin
  clear hfin
  go_enter Tryz.func36, Tryz.ntmps36
  go_wp2
  go_end0
  exact ⟨rfl, HF.out⟩
theorem dead_any {w : World} {ok : Nat → Prop} {p : Nat} {D : DM} (h : PDisk w ok p D) :
  Calls Tryz.prog 110 #[.pointer (some ⟨p, 0, none⟩)] w fun e w' => e = .returned (.bool D.gone) ∧ w = w' := by
  obtain ⟨hwf, g, cap, wv, hb⟩ := h
  have c2 := hb.cell2
  go_enter Tryz.func110, Tryz.ntmps110
  go_wp2
  go_ret
  exact ⟨rfl, rfl⟩
theorem count_any {w : World} {ok : Nat → Prop} {p : Nat} {D : DM} (h : PDisk w ok p D) :
  Calls Tryz.prog 20 #[.pointer (some ⟨p, 0, none⟩)] w fun e w' => e = .returned (.int .i64 D.ws.length) ∧ w = w' := by
  obtain ⟨hwf, g, cap, wv, hb⟩ := h
  obtain ⟨A, c, rfl⟩ := Kd.R_slice hb.ws
  have c3 := hb.cell3
  go_enter Tryz.func20, Tryz.ntmps20
  go_wp2
  go_ret
  exact ⟨rfl, rfl⟩
theorem blocks_any {w : World} {ok : Nat → Prop} {p : Nat} {D : DM} (h : PDisk w ok p D) :
  Calls Tryz.prog 112 #[.pointer (some ⟨p, 0, none⟩)] w fun e w' => e = .returned (.int .i64 D.n) ∧ w = w' := by
  obtain ⟨hwf, g, cap, wv, hb⟩ := h
  have c0 := hb.cell0
  go_enter Tryz.func112, Tryz.ntmps112
  go_wp2
  go_ret
  exact ⟨rfl, rfl⟩
/-! ### New, Read -/
def DM.new (n : Nat) : DM := ⟨List.replicate (64 * n) 0, -1, false, []⟩
theorem new_n (n : Nat) : (DM.new n).n = n := by simp only [DM.new, DM.n, List.length_replicate]; omega
theorem new_wf {n : Nat} (h1 : 16 ≤ n) (h2 : n ≤ 4096) : (DM.new n).wf :=
  ⟨by rw [new_n]; simp [DM.new], by rw [new_n]; exact h1, by rw [new_n]; exact h2, by simp [DM.new], by simp [DM.new], Bytes.zeros _, fun x hx => by simp [DM.new] at hx⟩
theorem madeCells_rep (v : Value) (m n : Nat) (hm : 0 < m) : madeCells (List.replicate m v).toArray n = (List.replicate n v).toArray := by
  apply Array.ext
  · simp [madeCells]
  · intro j h1 h2
    have : j % m < m := Nat.mod_lt _ hm
    simp [madeCells, this]
def ZB (n : Nat) : Array Value := (nums .u8 (List.replicate (64 * n) 0)).toArray
set_option maxRecDepth 100000 in
theorem make_blocks (n : Nat) (h : n ≤ 4096) : ∀ W : World, (Instr.makeSlice 92 (.int .i64 (n : Int)) (.int .i64 (n : Int))).run Tryz.prog W = .ok (.slice (some ⟨W.heap.size, 0, none⟩) n n) (W.alloc (.cells (ZB n) 135)) := by
  intro W
  have hz : ∃ i, Tryz.prog.info? 135 = some i ∧ i.zero = some (.agg (List.replicate 64 (Value.int .u8 0)).toArray) ∧ i.size = 64 ∧ i.bytes = 64 := by
    have h0 : (Tryz.prog.info? 135).map (fun i => (i.zero, i.size, i.bytes)) = some (some (.agg (List.replicate 64 (Value.int .u8 0)).toArray), 64, 64) := by kernel_rfl
    obtain ⟨i, hi, he⟩ := Option.map_eq_some_iff.1 h0
    simp only [Prod.mk.injEq] at he
    exact ⟨i, hi, he.1, he.2.1, he.2.2⟩
  obtain ⟨i, hi, hz, hs, hb⟩ := hz
  have hr := run_make (P := Tryz.prog) W 92 135 i _ Tryz.underlying92 hi hz .i64 .i64 n n (by omega) (Int.le_refl _) (by rw [hb]; omega) (by omega)
  rw [hr]
  simp only [Int.toNat_natCast, hs]
  have : madeCells (Value.agg (List.replicate 64 (Value.int .u8 0)).toArray).cells (n * 64) = ZB n := by
    show madeCells (List.replicate 64 (Value.int .u8 0)).toArray (n * 64) = ZB n
    rw [madeCells_rep _ _ _ (by omega), ZB, nums, List.map_replicate, Nat.mul_comm]
  rw [this]
set_option maxRecDepth 100000 in
theorem new_ok {w : World} (n : Nat) (h1 : 16 ≤ n) (h2 : n ≤ 4096) : Calls Tryz.prog 55 #[.int .i64 n] w fun e w' =>
    e = .returned (.tuple #[.pointer (some ⟨w.heap.size + 1, 0, none⟩), .int .i64 0]) ∧ PDisk w' (fun k => w.heap.size ≤ k) (w.heap.size + 1) (DM.new n) ∧ Below w.heap.size w w' := by
  have hmk := make_blocks n h2
  have hfin : PDisk ((w.alloc (.cells (ZB n) 135)).alloc (.cells #[.slice (some ⟨w.heap.size, 0, none⟩) n n, .int .i64 (-1), .bool false, .slice none 0 0] 95)) (fun k => w.heap.size ≤ k) (w.heap.size + 1) (DM.new n) := by
    refine ⟨new_wf h1 h2, w.heap.size, n, .slice none 0 0, ?_⟩
    refine ⟨by simp, by simp, ?_, ?_, ?_⟩
    · rw [new_n]
      have := heap_alloc2_new w (.cells (ZB n) 135) (.cells #[.slice (some ⟨w.heap.size, 0, none⟩) n n, .int .i64 (-1), .bool false, .slice none 0 0] 95)
      exact this
    · rw [new_n]
      have h3 := World.ownsRow_lit (base := 0) (e := 135) (size := 64) w (ZB n) n (Nat.zero_le _) (by simp [maxLen]; omega) (by simp [ZB, nums]; omega)
      have h4 := own_alloc h3 (.cells #[.slice (some ⟨w.heap.size, 0, none⟩) n n, .int .i64 (-1), .bool false, .slice none 0 0] 95)
      simpa [ZB, DM.new] using h4
    · exact Kd.R_nil _ _ _ _ _
  have HF := hid hfin
  clear hfin
  go_enter Tryz.func55, Tryz.ntmps55
  go_wp2
  go_ret2
  exact ⟨rfl, HF.out, below_alloc (below_alloc (Below.refl _ _) _) _⟩
/-- The bytes of block i. -/
def DM.blk (D : DM) (i : Nat) : List Int := (D.b.drop (i * 64)).take 64
theorem blk_length {D : DM} (h : D.wf) {i : Nat} (hi : i < D.n) : (D.blk i).length = 64 := by
  have := h.len
  simp only [DM.blk, List.length_take, List.length_drop]
  omega
theorem read_err {w : World} {ok : Nat → Prop} {p : Nat} {D : DM} (i : Int) (h : PDisk w ok p D) (hr : ¬ D.ready i = 0) :
  Calls Tryz.prog 65 #[.pointer (some ⟨p, 0, none⟩), .int .i64 i] w fun e w' => e = .returned (.tuple #[.slice none 0 0, .int .i64 (D.ready i)]) ∧ w = w' := by
  have hready := ready_any h i
  have hr2 : (D.ready i != 0) = true := by simp [hr]
  clear hr
  go_enter Tryz.func65, Tryz.ntmps65
  go_wp2_with (go_at_call 109; refine hready.mono ?_; rintro e w' ⟨rfl, rfl⟩)
  go_ret2
  exact ⟨rfl, rfl⟩
theorem storeCells64 {xs : List Int} (hl : xs.length = 64) : ∀ (W : World) (Z : Array Value), Z.size = 64 → (storeCells ⟨W.heap.size, 0, none⟩ (nums .u8 xs)).run Tryz.prog (W.alloc (.cells Z 135)) = .ok () (W.alloc (.cells (nums .u8 xs).toArray 135)) := by
  intro W Z hZ
  have := run_storeCells_new (P := Tryz.prog) W 135 Z (nums .u8 xs).toArray (by simp only [List.size_toArray, nums_length, hl]; exact info_block) (by simp [nums_length, hl, hZ]) (nums_one _ _)
  simpa using this
set_option maxRecDepth 100000 in
theorem read_ok {w : World} {ok : Nat → Prop} {p : Nat} {D : DM} (i : Nat) (h : PDisk w ok p D) (hr : D.ready i = 0) (hi : i < D.n) :
  Calls Tryz.prog 65 #[.pointer (some ⟨p, 0, none⟩), .int .i64 i] w fun e w' => e = .returned (.tuple #[.slice (some ⟨w.heap.size, 0, none⟩) 64 64, .int .i64 0]) ∧ w' = w.alloc (.cells (nums .u8 (D.blk i)).toArray 135) := by
  have hready := ready_any h i
  rw [hr] at hready
  obtain ⟨hwf, g, cap, wv, hb⟩ := h
  have c0 := hb.cell0
  have hl := blk_length hwf hi
  have hcells : ∀ j v, (nums .u8 (D.blk i))[j]? = some v → w.cell? ((⟨g, i * 64, none⟩ : Addr).add j) = some v := by
    intro j v hj
    rw [Addr.add_mid]
    have := own_rangeAt hb.row (i * 64) 64 j v
    apply this
    rw [← hj]
    simp only [DM.blk, nums, List.map_take, List.map_drop]
  clear hr
  have hl2 : (nums .u8 (D.blk i)).length = 64 := by rw [nums_length, hl]
  have hst := storeCells64 hl
  go_enter Tryz.func65, Tryz.ntmps65
  go_wp2_with (first | (go_at_call 109; refine hready.mono ?_; rintro e w' ⟨rfl, rfl⟩) | (refine wpList_load_addr rfl 135 (.tmp 19) rfl ⟨g, i * 64, none⟩ rfl (nums .u8 (D.blk i)) _ hcells Tryz.underlying135 rfl (by rw [nums_length, hl]; exact info_block) ?_))
  go_ret2
  exact ⟨rfl, rfl⟩
end Go.Proofs.YticogmpafehomaaGreatDoor

set_option linter.unusedVariables false
set_option linter.unusedSimpArgs false
namespace Go.Proofs.YticogmpafehomaaGreatDoor
open Go.RowKit Go.Proofs.YticogmpafehomaaGreatDoorW.PrintWords

end Go.Proofs.YticogmpafehomaaGreatDoor

set_option linter.unusedVariables false
set_option linter.unusedSimpArgs false
namespace Go.Proofs.YticogmpafehomaaGreatDoor
open Go.RowKit Go.Shelf Go.Proofs.YticogmpafehomaaGreatDoorW.PrintWords Go.Proofs.YticogmpafehomaaGreatDoorW.PrintMore
attribute [local go_sem] Oper.semAt_some

/-- May a record be? -/
def sealE (r : SR) : Int := if r.gen = 0 ∨ r.at_ < 0 ∨ 65535 < r.at_ ∨ r.kind < 0 ∨ 255 < r.kind then 1 else if 131072 < r.bytes.length then 3 else 0
/-- A record's value. -/
def recV (r : SR) (A : Option Addr) (c : Nat) : Value := .agg #[.int .u64 r.gen, .int .i64 r.at_, .int .i64 r.kind, .slice A r.bytes.length c]
theorem need_bodies {r : SR} (h : r.bytes.length ≤ 131072) : need (r.bytes.length : Int) = (bodies r : Int) + 1 := by
  unfold need bodies
  rw [if_neg (by omega)]
  split <;> omega
set_option maxRecDepth 100000 in
set_option maxHeartbeats 2000000 in
theorem right_any {w : World} {A : Option Addr} {c : Nat} (r : SR) (hl : r.bytes.length ≤ 9223372036854775807) :
  Calls Tryz.prog 176 #[recV r A c] w fun e w' => e = .returned (.int .i64 (sealE r)) ∧ Below w.heap.size w w' := by
  obtain ⟨g, a, k, b⟩ := r
  dsimp only at hl
  unfold sealE recV
  dsimp only
  have hB : Below w.heap.size w (w.alloc (.cells #[.int .u64 g, .int .i64 a, .int .i64 k, .slice A b.length c] 117)) := below_alloc (Below.refl _ _) _
  have HB := hid hB
  clear hB
  by_cases h1 : g = 0
  · rw [if_pos (.inl h1)]
    subst h1
    go_enter Tryz.func176, Tryz.ntmps176
    go_wp2
    go_ret
    exact ⟨rfl, HB.out⟩
  by_cases h2 : a < 0
  · rw [if_pos (.inr (.inl h2))]
    go_enter Tryz.func176, Tryz.ntmps176
    go_wp2
    go_ret
    exact ⟨rfl, HB.out⟩
  by_cases h3 : 65535 < a
  · rw [if_pos (.inr (.inr (.inl h3)))]
    go_enter Tryz.func176, Tryz.ntmps176
    go_wp2
    go_ret
    exact ⟨rfl, HB.out⟩
  by_cases h4 : k < 0
  · rw [if_pos (.inr (.inr (.inr (.inl h4))))]
    go_enter Tryz.func176, Tryz.ntmps176
    go_wp2
    go_ret
    exact ⟨rfl, HB.out⟩
  by_cases h5 : 255 < k
  · rw [if_pos (.inr (.inr (.inr (.inr h5))))]
    go_enter Tryz.func176, Tryz.ntmps176
    go_wp2
    go_ret
    exact ⟨rfl, HB.out⟩
  rw [if_neg (by omega)]
  by_cases h6 : 131072 < b.length
  · rw [if_pos h6]
    have h6' : (131072 : Int) < (b.length : Int) := by omega
    go_enter Tryz.func176, Tryz.ntmps176
    go_wp2
    go_ret
    exact ⟨rfl, HB.out⟩
  rw [if_neg h6]
  have h6' : ¬ (131072 : Int) < (b.length : Int) := by omega
  have hnb : 1 ≤ need (b.length : Int) ∧ need (b.length : Int) ≤ 65536 := by unfold need; rw [if_neg (by omega)]; split <;> omega
  go_enter Tryz.func176, Tryz.ntmps176
  go_wp2_with (go_at_call 52; refine (need_any (b.length : Int) (by omega)).mono ?_; rintro e w' ⟨rfl, rfl⟩)
  go_ret
  exact ⟨rfl, HB.out⟩

/-! ### A disk, between the rounds of a loop over an iterator -/
/-- Cells lie there. -/
def isC (w : World) : Nat → Prop := fun k => ∃ cells q, w.heap[k]? = some (.cells cells q (0, 0))
theorem PDisk.cells {w : World} {ok : Nat → Prop} {p : Nat} {D : DM} (h : PDisk w ok p D) : PDisk w (fun k => ok k ∧ isC w k) p D := by
  obtain ⟨hw, g, cap, wv, h⟩ := h
  refine ⟨hw, g, cap, wv, ⟨⟨h.okp, _, _, h.blk⟩, ⟨h.okg, ?_⟩, h.blk, h.row, Kd.R_mono (Kd.R_bound h.ws) (fun _ hk => ⟨hk.1, ?_⟩)⟩⟩
  · obtain ⟨c, hc⟩ := own_typed h.row g rfl
    exact ⟨_, _, hc⟩
  · obtain ⟨_, _, _, q, _, cs, hc⟩ := hk
    exact ⟨_, _, hc⟩
theorem PDisk.without {w : World} {ok : Nat → Prop} {p : Nat} {D : DM} (h : PDisk w ok p D) {b : Nat} {cs : Array Value} (hb : w.heap[b]? = some (.cells cs 246 (0, 0))) : PDisk w (fun k => ok k ∧ k ≠ b) p D := by
  obtain ⟨hw, g, cap, wv, h⟩ := h
  refine ⟨hw, g, cap, wv, ⟨⟨h.okp, blk_type_ne h.blk hb (by decide)⟩, ⟨h.okg, ?_⟩, h.blk, h.row, Kd.R_types h.ws hb (by decide)⟩⟩
  obtain ⟨c, hc⟩ := own_typed h.row g rfl
  exact blk_type_ne hc hb (by decide)
/-- What is no cells is turned: cells lie as they lay. -/
theorem turn_cells {W W' : World} {row : Option Nat} (hg : W.grownBy W' row) (hr : ∀ r, row = some r → ∃ o : Obj, W.heap[r]? = some o ∧ o.isCells = false) {k : Nat} (hk : isC W k) : W'.heap[k]? = W.heap[k]? := by
  obtain ⟨cs, q, hc⟩ := hk
  refine hg.block k (blk_lt hc) (fun e => ?_)
  obtain ⟨o, ho, hn⟩ := hr k e.symm
  rw [hc] at ho
  cases ho
  cases hn
theorem PDisk.turn {W W' : World} {row : Option Nat} {ok : Nat → Prop} {p : Nat} {D : DM} (h : PDisk W ok p D) (hg : W.grownBy W' row) (hr : ∀ r, row = some r → ∃ o : Obj, W.heap[r]? = some o ∧ o.isCells = false) : PDisk W' ok p D :=
  (h.cells.step (fun k hk _ => turn_cells hg hr hk.2)).mono (fun _ hk => hk.1)
theorem KeepsFrom.of_chg {B : Nat} {W W' : World} {S : Nat → Prop} (h : Chg S W W') (hS : ∀ k, S k → isC W k) : KeepsFrom B W W' :=
  ⟨h.size, fun k o _ hk ho => (h.block k (Array.getElem?_eq_some_iff.1 hk).1 (fun hs => by
    obtain ⟨cs, q, hc⟩ := hS k hs
    rw [hc] at hk
    cases hk
    cases ho)).trans hk⟩

/-! ### What the rounds make of the disk -/
/-- The rounds of a Write, blocks being written from block b0 on: the disk, the head that is kept, the error that ended them. -/
def runs (b0 : Int) : DM → List Int → List (Nat × List Int) → DM × List Int × Int
  | D, h, [] => (D, h, 0)
  | D, h, x :: l => if x.1 = 0 then runs b0 D x.2 l else if D.writeE (b0 + x.1) x.2 = 0 then runs b0 (D.writeD (b0 + x.1) x.2) h l else (D.writeD (b0 + x.1) x.2, h, D.writeE (b0 + x.1) x.2)
theorem runs_append (b0 : Int) : ∀ (l m : List (Nat × List Int)) (D : DM) (h : List Int), runs b0 D h (l ++ m) = if (runs b0 D h l).2.2 = 0 then runs b0 (runs b0 D h l).1 (runs b0 D h l).2.1 m else runs b0 D h l
  | [], m, D, h => by simp [runs]
  | x :: l, m, D, h => by
    rw [List.cons_append]
    simp only [runs]
    split
    · exact runs_append b0 l m D x.2
    · split
      · exact runs_append b0 l m _ h
      · first | rfl | (rename_i h2; rw [if_neg h2])
/-- Blocks that are written in a row. -/
def puts (b0 : Int) : DM → List (Int × List Int) → DM × Int
  | D, [] => (D, 0)
  | D, x :: l => if D.writeE (b0 + x.1) x.2 = 0 then puts b0 (D.writeD (b0 + x.1) x.2) l else (D.writeD (b0 + x.1) x.2, D.writeE (b0 + x.1) x.2)
theorem puts_append (b0 : Int) : ∀ (l m : List (Int × List Int)) (D : DM), puts b0 D (l ++ m) = if (puts b0 D l).2 = 0 then puts b0 (puts b0 D l).1 m else puts b0 D l
  | [], m, D => by simp [puts]
  | x :: l, m, D => by
    rw [List.cons_append]
    simp only [puts]
    split
    · exact puts_append b0 l m _
    · first | rfl | (rename_i h2; rw [if_neg h2])
/-- What a record's Write writes, in its order. -/
def order (r : SR) : List (Int × List Int) := (List.range (bodies r)).map (fun (i : Nat) => ((i : Int) + 1, bodyB r (i + 1))) ++ [(0, headB r)]
theorem runs_tail (b0 : Int) (r : SR) (h : List Int) : ∀ (l : List Nat) (D : DM), runs b0 D h (l.map fun i => (i + 1, bodyB r (i + 1))) = ((puts b0 D (l.map fun (i : Nat) => ((i : Int) + 1, bodyB r (i + 1)))).1, h, (puts b0 D (l.map fun (i : Nat) => ((i : Int) + 1, bodyB r (i + 1)))).2)
  | [], D => rfl
  | i :: l, D => by
    simp only [List.map_cons, runs, puts]
    rw [if_neg (by omega), show (((i + 1 : Nat)) : Int) = (i : Int) + 1 from by omega]
    split
    · exact runs_tail b0 r h l _
    · rfl
theorem runs_blk (b0 : Int) (r : SR) (D : DM) (h : List Int) : runs b0 D h (blkList r) = ((puts b0 D ((List.range (bodies r)).map fun (i : Nat) => ((i : Int) + 1, bodyB r (i + 1)))).1, headB r, (puts b0 D ((List.range (bodies r)).map fun (i : Nat) => ((i : Int) + 1, bodyB r (i + 1)))).2) := by
  unfold blkList
  simp only [runs, if_true]
  exact runs_tail b0 r _ _ _
/-- Write. -/
def DM.sealW (D : DM) (base : Int) (r : SR) : DM × Int :=
  if sealE r ≠ 0 then (D, sealE r) else if base < 0 ∨ (D.n : Int) < base ∨ (D.n : Int) - base < r.at_ + need r.bytes.length then (D, 60) else puts (base + r.at_) D (order r)

/-! ### blocks -/
theorem seq_any {w : World} {A : Option Addr} {c : Nat} (r : SR) :
  Calls Tryz.prog 177 #[recV r A c] w fun e w' => e = .returned (.func (.func 189) #[] #[.pointer (some ⟨w.heap.size, 0, none⟩)]) ∧ w' = w.alloc (.cells #[.int .u64 r.gen, .int .i64 r.at_, .int .i64 r.kind, .slice A r.bytes.length c] 117) := by
  unfold recV
  go_enter Tryz.func177, Tryz.ntmps177
  go_wp2
  go_ret
  exact ⟨rfl, rfl⟩
theorem blocks_stops {w : World} {rb : Nat} {r : SR} {okr : Nat → Prop} {A : Option Addr} {c : Nat} (h : RBox w rb r okr A c) (hr : r.right) (hok : ∀ k, okr k → k < w.heap.size) :
    SeqStopsK Fence.wide 1 Tryz.prog 189 #[.pointer (some ⟨rb, 0, none⟩)] encY (KpR okr) (fun xs => xs.map (·.1) = blkList r) (fun pre => pre.map (·.1) <+: blkList r) (blkList r).length w :=
  fun l J Jx W hW hJ hJx hY h0 => blocks_in h hr hok l J Jx W hW hJ hJx hY h0
end Go.Proofs.YticogmpafehomaaGreatDoor

set_option linter.unusedVariables false
set_option linter.unusedSimpArgs false
namespace Go.Proofs.YticogmpafehomaaGreatDoor
open Go.RowKit Go.Shelf Go.Proofs.YticogmpafehomaaGreatDoorW.PrintWords Go.Proofs.YticogmpafehomaaGreatDoorW.PrintMore
attribute [local go_sem] Oper.semAt_some

/-- The variables of Write, in their boxes. -/
abbrev W4 (w : World) (dp : Option Addr) (base : Int) (r : SR) (A : Option Addr) (c : Nat) (E : Int) : World :=
  (((w.alloc (.cells #[.pointer dp] 42)).alloc (.cells #[.int .i64 base] 3)).alloc (.cells #[.int .u64 r.gen, .int .i64 r.at_, .int .i64 r.kind, .slice A r.bytes.length c] 117)).alloc (.cells #[.int .i64 E] 26)
theorem W4_below (w : World) (dp : Option Addr) (base : Int) (r : SR) (A : Option Addr) (c : Nat) (E : Int) : Below w.heap.size w (W4 w dp base r A c E) :=
  below_alloc (below_alloc (below_alloc (below_alloc (Below.refl _ _) _) _) _) _
theorem errno_ret {fn : Func} {p : Tmp} (h : fn.results = #[.cell p 26]) (tmps : Array Value) (w : World) (b : Nat) (E : Int) (ht : tmps.getD p undef = .pointer (some ⟨b, 0, none⟩)) (hc : w.cell? ⟨b, 0, none⟩ = some (.int .i64 E)) :
    (results fn tmps).run Tryz.prog w = .ok (.int .i64 E) w := by
  have ht' : tmps[p]?.getD undef = .pointer (some ⟨b, 0, none⟩) := by simpa using ht
  simp [results, h, ht', asAddr, go_sem, hc, Tryz.underlying26]
set_option maxRecDepth 100000 in
set_option maxHeartbeats 2000000 in
theorem seal_err {w : World} {A : Option Addr} {c : Nat} (p : Nat) (base : Int) (r : SR) (hl : r.bytes.length ≤ 9223372036854775807) (he : ¬ sealE r = 0) :
  Calls Tryz.prog 146 #[.pointer (some ⟨p, 0, none⟩), .int .i64 base, recV r A c] w fun e w' => e = .returned (.int .i64 (sealE r)) ∧ Below w.heap.size w w' := by
  have hc := right_any (w := W4 w (some ⟨p, 0, none⟩) base r A c 0) (A := A) (c := c) r hl
  generalize sealE r = E at he hc ⊢
  unfold recV at hc ⊢
  go_enter Tryz.func146, Tryz.ntmps146
  go_wp2_with fail
  refine hc.mono ?_
  rintro e w1 ⟨rfl, hB⟩
  have hcell : w1.cell? ⟨w.heap.size + 1 + 1 + 1, 0, none⟩ = some (.int .i64 0) := by rw [hB.cell (by simp)]; go_simp
  have hfree : w1.frozen? ⟨w.heap.size + 1 + 1 + 1, 0, none⟩ = false := by rw [hB.frozen (by simp)]; go_simp
  go_wp2
  refine bodyPost_ret (errno_ret rfl _ _ (w.heap.size + 1 + 1 + 1) E rfl (by go_simp)) rfl ⟨rfl, ?_⟩
  have h2 := (W4_below w (some ⟨p, 0, none⟩) base r A c 0).trans (hB.mono (by simp; omega))
  exact h2.setCell (by simp; omega) _

/-- The variables of Write in a later world. -/
structure In4 (w1 : World) (n : Nat) (dp : Option Addr) (base : Int) (r : SR) (A : Option Addr) (c : Nat) (E : Int) : Prop where
  b0 : w1.heap[n]? = some (.cells #[.pointer dp] 42 (0, 0))
  b1 : w1.heap[n + 1]? = some (.cells #[.int .i64 base] 3 (0, 0))
  b2 : w1.heap[n + 1 + 1]? = some (.cells #[.int .u64 r.gen, .int .i64 r.at_, .int .i64 r.kind, .slice A r.bytes.length c] 117 (0, 0))
  b3 : w1.heap[n + 1 + 1 + 1]? = some (.cells #[.int .i64 E] 26 (0, 0))
theorem W4_in (w : World) (dp : Option Addr) (base : Int) (r : SR) (A : Option Addr) (c : Nat) (E : Int) : In4 (W4 w dp base r A c E) w.heap.size dp base r A c E := by
  have h0 := heap_alloc_new w (.cells #[.pointer dp] 42)
  have h1 := heap_alloc_new (w.alloc (.cells #[.pointer dp] 42)) (.cells #[.int .i64 base] 3)
  have h2 := heap_alloc_new ((w.alloc (.cells #[.pointer dp] 42)).alloc (.cells #[.int .i64 base] 3)) (.cells #[.int .u64 r.gen, .int .i64 r.at_, .int .i64 r.kind, .slice A r.bytes.length c] 117)
  have h3 := heap_alloc_new (((w.alloc (.cells #[.pointer dp] 42)).alloc (.cells #[.int .i64 base] 3)).alloc (.cells #[.int .u64 r.gen, .int .i64 r.at_, .int .i64 r.kind, .slice A r.bytes.length c] 117)) (.cells #[.int .i64 E] 26)
  rw [World.size_alloc] at h1
  rw [World.size_alloc, World.size_alloc] at h2
  rw [World.size_alloc, World.size_alloc, World.size_alloc] at h3
  refine ⟨?_, ?_, ?_, h3⟩
  · rw [Below.heap_alloc _ _ _ (by simp only [World.size_alloc]; omega), Below.heap_alloc _ _ _ (by simp only [World.size_alloc]; omega), Below.heap_alloc _ _ _ (by simp only [World.size_alloc]; omega)]; exact h0
  · rw [Below.heap_alloc _ _ _ (by simp only [World.size_alloc]; omega), Below.heap_alloc _ _ _ (by simp only [World.size_alloc]; omega)]; exact h1
  · rw [Below.heap_alloc _ _ _ (by simp only [World.size_alloc]; omega)]; exact h2
theorem In4.step {w1 w2 : World} {n : Nat} {dp : Option Addr} {base : Int} {r : SR} {A : Option Addr} {c : Nat} {E : Int} (h : In4 w1 n dp base r A c E) (hm : ∀ k, n ≤ k → k ≤ n + 3 → w2.heap[k]? = w1.heap[k]?) : In4 w2 n dp base r A c E :=
  ⟨(hm _ (by omega) (by omega)).trans h.b0, (hm _ (by omega) (by omega)).trans h.b1, (hm _ (by omega) (by omega)).trans h.b2, (hm _ (by omega) (by omega)).trans h.b3⟩
/-- What the walk loads. -/
def In4.S (n : Nat) (dp : Option Addr) (base : Int) (r : SR) (A : Option Addr) (c : Nat) (w' : World) : Prop :=
  w'.cell? ⟨n, 0, none⟩ = some (.pointer dp) ∧ w'.cell? ⟨n + 1, 0, none⟩ = some (.int .i64 base) ∧ w'.cell? ⟨n + 1 + 1, 1, none⟩ = some (.int .i64 r.at_) ∧ w'.cell? ⟨n + 1 + 1, 3, none⟩ = some (.slice A r.bytes.length c)
theorem In4.s {w1 : World} {n : Nat} {dp : Option Addr} {base : Int} {r : SR} {A : Option Addr} {c : Nat} {E : Int} (h : In4 w1 n dp base r A c E) : In4.S n dp base r A c w1 :=
  ⟨by have := cell_of_row _ _ 0 _ _ _ h.b0; simpa using this, by have := cell_of_row _ _ 0 _ _ _ h.b1; simpa using this, by have := cell_of_row _ _ 1 _ _ _ h.b2; simpa using this, by have := cell_of_row _ _ 3 _ _ _ h.b2; simpa using this⟩
theorem In4.s3 {w1 : World} {n : Nat} {dp : Option Addr} {base : Int} {r : SR} {A : Option Addr} {c : Nat} {E : Int} (h : In4 w1 n dp base r A c E) : w1.cell? ⟨n + 1 + 1 + 1, 0, none⟩ = some (.int .i64 E) ∧ w1.frozen? ⟨n + 1 + 1 + 1, 0, none⟩ = false :=
  ⟨by have := cell_of_row _ _ 0 _ _ _ h.b3; simpa using this, frozen_of_row _ _ _ _ _ h.b3⟩
theorem rec_cells {w1 : World} {n : Nat} {dp : Option Addr} {base : Int} {r : SR} {A : Option Addr} {c : Nat} {E : Int} (h : In4 w1 n dp base r A c E) : ∀ j v, ([Value.int .u64 r.gen, .int .i64 r.at_, .int .i64 r.kind, .slice A r.bytes.length c] : List Value)[j]? = some v → w1.cell? ((⟨n + 1 + 1, 0, none⟩ : Addr).add j) = some v := by
  intro j v hj
  rw [add_plain, cell_of_row _ _ j _ _ _ h.b2]
  simpa using hj
/-- The test ahead of the writing. -/
def outB (D : DM) (base : Int) (r : SR) : Bool := decide (base < 0) || decide ((D.n : Int) < base) || decide ((D.n : Int) - base < r.at_ + need r.bytes.length)
set_option maxRecDepth 100000 in
set_option maxHeartbeats 4000000 in
theorem seal_bad {w : World} {ok : Nat → Prop} {D : DM} {A : Option Addr} {c : Nat} (p : Nat) (base : Int) (r : SR) (h : PDisk w ok p D) (hl : r.bytes.length ≤ 131072) (hat : 0 ≤ r.at_ ∧ r.at_ ≤ 65535) (hb9 : -9223372036854775808 ≤ base ∧ base ≤ 9223372036854775807) (he : sealE r = 0) (ho : outB D base r = true) :
  Calls Tryz.prog 146 #[.pointer (some ⟨p, 0, none⟩), .int .i64 base, recV r A c] w fun e w' => e = .returned (.int .i64 60) ∧ Below w.heap.size w w' := by
  have hc := right_any (w := W4 w (some ⟨p, 0, none⟩) base r A c 0) (A := A) (c := c) r (by omega)
  have hnb : 0 ≤ need (r.bytes.length : Int) ∧ need (r.bytes.length : Int) ≤ 65536 := by unfold need; rw [if_neg (by omega)]; split <;> omega
  rw [he] at hc
  have hn := h.1.hi
  have HO := hid ho
  unfold recV at hc ⊢
  go_enter Tryz.func146, Tryz.ntmps146
  go_wp2_with fail
  refine hc.mono ?_
  rintro e w1 ⟨rfl, hB⟩
  have hI : In4 w1 w.heap.size (some ⟨p, 0, none⟩) base r A c 0 := (W4_in w _ base r A c 0).step (fun k h1 h2 => hB.block k (by simp; omega))
  have hD1 : PDisk w1 ok p D := h.step (fun k _ hk => (hB.block k (by simp; omega)).trans ((W4_below w _ base r A c 0).block k hk))
  have s00 := hI.s3.1
  have s01 := hI.s3.2
  go_wp2_with fail
  refine wp_region_plan [] (.take 0 (.take 1 (.take 2 (.take 3 (.take 4 (.run 5 (.take 6 (.take 7 (.take 8 (.take 9 (.take 10 (.take 11 (.take 12 (.take 13 (.take 16 (.take 18 (.run 14 (.take 15 (.run 17 (.take 19 (.take 20 (.take 21 .done)))))))))))))))))))))) (In4.S w.heap.size (some ⟨p, 0, none⟩) base r A c) (by kernel_rfl) (by kernel_rfl) (fun c a d v w h => by cases d <;> exact h) hI.s ?_
  have hS := hI.s
  have hfin := (W4_below w (some ⟨p, 0, none⟩) base r A c 0).trans (hB.mono (by simp; omega))
  clear hB hc hI
  have hSd : In4.S w.heap.size (some ⟨p, 0, none⟩) base r A c w1.drew := hS
  have hDd : PDisk w1.drew ok p D := hD1.step (fun _ _ _ => rfl)
  -- have fin : ∀ x, ((results Tryz.f146 x).run Tryz.prog (w1.setCell ⟨w.heap.size + 1 + 1 + 1, 0, none⟩ (.int .i64 60)) = .ok (.int .i64 60) (w1.setCell ⟨w.heap.size + 1 + 1 + 1, 0, none⟩ (.int .i64 60))) := fun x => by sorry
  by_cases h1 : base < 0
  · iterate 3 (apply plan_take rfl rfl; (case hy => (intro w' hS; obtain ⟨s0, s1, s2, s3⟩ := hS; go_simp; try exact rfl)); go_simp)
    iterate 2 (apply plan_skip rfl rfl; go_simp)
    refine plan_run_off rfl rfl hSd ?_
    go_simp
    (apply plan_skip rfl rfl; go_simp)
    iterate 2 (apply plan_take rfl rfl; (case hy => (intro w' hS; obtain ⟨s0, s1, s2, s3⟩ := hS; go_simp; try exact rfl)); go_simp)
    iterate 7 (apply plan_skip rfl rfl; go_simp)
    refine plan_run_off rfl rfl hSd ?_
    go_simp
    (apply plan_skip rfl rfl; go_simp)
    refine plan_run_off rfl rfl hSd ?_
    go_simp
    iterate 2 (apply plan_skip rfl rfl; go_simp)
    (apply plan_take rfl rfl; (case hy => (intro w' hS; obtain ⟨s0, s1, s2, s3⟩ := hS; go_simp; try exact rfl)); go_simp)
    refine plan_done ?_
    go_wp2
    refine bodyPost_ret (errno_ret rfl _ _ (w.heap.size + 1 + 1 + 1) 60 rfl (by go_simp)) rfl ⟨rfl, ?_⟩
    exact hfin.drew.setCell (by simp; omega) _
  have h1' : 0 ≤ base := by omega
  by_cases h2 : (D.n : Int) < base
  · iterate 5 (apply plan_take rfl rfl; (case hy => (intro w' hS; obtain ⟨s0, s1, s2, s3⟩ := hS; go_simp; try exact rfl)); go_simp)
    refine plan_run_on rfl rfl (fun K hK => ?_)
    go_simp
    refine (blocks_any hDd).mono ?_
    rintro e w2 ⟨rfl, rfl⟩
    refine hK _ _ _ (fun _ h => h) hSd ?_
    clear hK K
    go_simp
    iterate 3 (apply plan_take rfl rfl; (case hy => (intro w' hS; obtain ⟨s0, s1, s2, s3⟩ := hS; go_simp; try exact rfl)); go_simp)
    iterate 7 (apply plan_skip rfl rfl; go_simp)
    refine plan_run_off rfl rfl hSd ?_
    go_simp
    (apply plan_skip rfl rfl; go_simp)
    refine plan_run_off rfl rfl hSd ?_
    go_simp
    iterate 2 (apply plan_skip rfl rfl; go_simp)
    (apply plan_take rfl rfl; (case hy => (intro w' hS; obtain ⟨s0, s1, s2, s3⟩ := hS; go_simp; try exact rfl)); go_simp)
    refine plan_done ?_
    go_wp2
    refine bodyPost_ret (errno_ret rfl _ _ (w.heap.size + 1 + 1 + 1) 60 rfl (by go_simp)) rfl ⟨rfl, ?_⟩
    exact hfin.drew.setCell (by simp; omega) _
  have h3 : (D.n : Int) - base < r.at_ + need (r.bytes.length : Int) := by
    have := HO.out
    unfold outB at this
    simp only [Bool.or_eq_true, decide_eq_true_eq] at this
    omega
  have hw1 : IntKind.i64.wrap (r.at_ + need (r.bytes.length : Int)) = r.at_ + need (r.bytes.length : Int) := by rw [IntKind.wrap_i64]; omega
  have hw2 : IntKind.i64.wrap ((D.n : Int) - base) = (D.n : Int) - base := by rw [IntKind.wrap_i64]; omega
  iterate 5 (apply plan_take rfl rfl; (case hy => (intro w' hS; obtain ⟨s0, s1, s2, s3⟩ := hS; go_simp; try exact rfl)); go_simp)
  refine plan_run_on rfl rfl (fun K hK => ?_)
  go_simp
  refine (blocks_any hDd).mono ?_
  rintro e w2 ⟨rfl, rfl⟩
  refine hK _ _ _ (fun _ h => h) hSd ?_
  clear hK K
  go_simp
  iterate 10 (apply plan_take rfl rfl; (case hy => (intro w' hS; obtain ⟨s0, s1, s2, s3⟩ := hS; go_simp; try exact rfl)); go_simp)
  refine plan_run_on rfl rfl (fun K hK => ?_)
  go_simp
  refine (need_any (r.bytes.length : Int) (by omega)).mono ?_
  rintro e w2 ⟨rfl, rfl⟩
  refine hK _ _ _ (fun _ h => h) hSd ?_
  clear hK K
  go_simp
  (apply plan_take rfl rfl; (case hy => (intro w' hS; obtain ⟨s0, s1, s2, s3⟩ := hS; go_simp; try exact rfl)); go_simp)
  refine plan_run_on rfl rfl (fun K hK => ?_)
  go_simp
  refine (blocks_any hDd).mono ?_
  rintro e w2 ⟨rfl, rfl⟩
  refine hK _ _ _ (fun _ h => h) hSd ?_
  clear hK K
  go_simp
  iterate 3 (apply plan_take rfl rfl; (case hy => (intro w' hS; obtain ⟨s0, s1, s2, s3⟩ := hS; go_simp; try exact rfl)); go_simp)
  refine plan_done ?_
  go_wp2
  refine bodyPost_ret (errno_ret rfl _ _ (w.heap.size + 1 + 1 + 1) 60 rfl (by go_simp)) rfl ⟨rfl, ?_⟩
  exact hfin.drew.setCell (by simp; omega) _
end Go.Proofs.YticogmpafehomaaGreatDoor

set_option linter.unusedVariables false
set_option linter.unusedSimpArgs false
namespace Go.Proofs.YticogmpafehomaaGreatDoor
open Go.RowKit Go.Shelf Go.Proofs.YticogmpafehomaaGreatDoorW.PrintWords Go.Proofs.YticogmpafehomaaGreatDoorW.PrintMore
attribute [local go_sem] Oper.semAt_some

theorem wpIn_nrm {F : Fence} {n : Nat} {P : Program} {c : Code} {Q : Exit → Act → World → Prop} {a : Act} {w : World} (h : c.wpIn F n P (fun e a w => e = .normal ∧ Q e a w) a w) : c.wpIn F n P Q a w := wpIn_mono h (fun _ _ _ h => h.2)
theorem info_sblock : (Tryz.prog.info? 246).map (·.size) = some 64 := by kernel_rfl
theorem storeCells64s {xs : List Int} (hl : xs.length = 64) : ∀ (W : World) (Z : Array Value), Z.size = 64 → (storeCells ⟨W.heap.size, 0, none⟩ (nums .u8 xs)).run Tryz.prog (W.alloc (.cells Z 246)) = .ok () (W.alloc (.cells (nums .u8 xs).toArray 246)) := by
  intro W Z hZ
  have := run_storeCells_new (P := Tryz.prog) W 246 Z (nums .u8 xs).toArray (by simp only [List.size_toArray, nums_length, hl]; exact info_sblock) (by simp [nums_length, hl, hZ]) (nums_one _ _)
  simpa using this
theorem wpListIn_store_round {P : Program} {l n : Nat} {ops : Array Oper} {rest : List Oper} {o : Oper} {a : Act} {w : World} {Q : Exit → Act → World → Prop} (hgd : o.guard = none) (ty : TypeId) (x y : Operand) (ho : o.op = .store ty x y)
    (g : Nat) (cells : Array Value) (hx : a.eval x = .pointer (some ⟨g, 0, none⟩)) (hy : a.eval y = .agg cells)
    (t : TypeId) (old : Array Value) (hg : w.heap[g]? = some (.cells old t (0, 0))) (hi : (P.info? ty).map (·.size) = some cells.size)
    (hold : old.size = cells.size) (h1 : cells.all (·.oneCell') = true)
    (h : wpListIn (Fence.wide.inRound l) n P ops Q rest (a.put o.dst undef) (w.setRow g cells)) : wpListIn (Fence.wide.inRound l) n P ops Q (o :: rest) a w :=
  wpListIn_plain hgd fun _ hK => operIn_of_wp (fun c hc => by rw [ho] at hc; cases hc) (wp_store_row ty x y ho g cells hx hy t old hg hi hold h1 (hK _ _ h))
theorem BU.row {w : World} {g : Nat} {T : TypeId} {ys : List Int} (h : BU w g T ys) (hl : ys.length ≤ 9223372036854775807) : RB w (fun k => k = g) (some ⟨g, 0, none⟩) ys := by
  intro W' hW
  have h2 : BU W' g T ys := h.step (hW g rfl h.lt)
  refine Kd.C_of_reads (enc := Value.int .u8) (d := (0 : Int)) (h1 := fun _ => rfl) ⟨rfl, hl, fun _ => ⟨_, rfl, fun j hj => ?_⟩⟩
  rw [add_plain, h2.cell hj]
  simp [List.getD_eq_getElem?_getD, hj]
theorem runs_ws (b0 : Int) : ∀ (l : List (Nat × List Int)) (D : DM) (h : List Int), (runs b0 D h l).1.ws.length ≤ D.ws.length + l.length
  | [], D, h => by simp [runs]
  | x :: l, D, h => by
    have hw : (D.writeD (b0 + x.1) x.2).ws.length ≤ D.ws.length + 1 := by
      unfold DM.writeD
      split
      · omega
      · split
        · omega
        · split
          · simp
          · simp
    simp only [runs, List.length_cons]
    split
    · have := runs_ws b0 l D x.2; omega
    · split
      · have := runs_ws b0 l (D.writeD (b0 + x.1) x.2) h; omega
      · dsimp only; omega
/-- How it stands between the rounds. -/
structure SI (n hb B : Nat) (okx okd : Nat → Prop) (w : World) (p : Nat) (base : Int) (r : SR) (A : Option Addr) (c : Nat) (q : DM × List Int × Int) (W : World) : Prop where
  in4 : In4 W n (some ⟨p, 0, none⟩) base r A c q.2.2
  hd : BU W hb 246 q.2.1
  l64 : q.2.1.length = 64
  disk : PDisk W okx p q.1
  chg : Chg okd w W
  sz : B ≤ W.heap.size
theorem SI.turn {n hb B : Nat} {okx okd : Nat → Prop} {w : World} {p : Nat} {base : Int} {r : SR} {A : Option Addr} {c : Nat} {q : DM × List Int × Int} {W W' : World} (h : SI n hb B okx okd w p base r A c q W) {row : Option Nat} (hg : W.grownBy W' row)
    (hr : ∀ r, row = some r → w.heap.size ≤ r ∧ ∃ o : Obj, W.heap[r]? = some o ∧ o.isCells = false) : SI n hb B okx okd w p base r A c q W' := by
  have ht : ∀ k, isC W k → W'.heap[k]? = W.heap[k]? := fun k hk => turn_cells hg (fun r e => (hr r e).2) hk
  exact ⟨⟨(ht _ ⟨_, _, h.in4.b0⟩).trans h.in4.b0, (ht _ ⟨_, _, h.in4.b1⟩).trans h.in4.b1, (ht _ ⟨_, _, h.in4.b2⟩).trans h.in4.b2, (ht _ ⟨_, _, h.in4.b3⟩).trans h.in4.b3⟩, h.hd.step (ht _ ⟨_, _, h.hd⟩), h.l64, h.disk.turn hg (fun r e => (hr r e).2),
    h.chg.grown hg (fun k e => .inr (hr k e).1), Nat.le_trans h.sz hg.size⟩
theorem SI.alloc {n hb B : Nat} {okx okd : Nat → Prop} {w : World} {p : Nat} {base : Int} {r : SR} {A : Option Addr} {c : Nat} {q : DM × List Int × Int} {W : World} (h : SI n hb B okx okd w p base r A c q W) (o : Obj) : SI n hb B okx okd w p base r A c q (W.alloc o) :=
  h.turn (World.grownBy_alloc W o none) (fun r e => by cases e)
/-- Between two rounds; behind the last one. -/
def InvS (w : World) (hb B : Nat) (okd : Nat → Prop) (p : Nat) (base : Int) (r : SR) (A : Option Addr) (c : Nat) (D : DM) (pre : List YB) (W : World) : Prop :=
  (runs (base + r.at_) D (fill []) (pre.map (·.1))).2.2 = 0 ∧ SI w.heap.size hb B (fun k => (okd k ∧ k < w.heap.size) ∨ B ≤ k) okd w p base r A c (runs (base + r.at_) D (fill []) (pre.map (·.1))) W
def InvX (w : World) (hb B : Nat) (okd : Nat → Prop) (p : Nat) (base : Int) (r : SR) (A : Option Addr) (c : Nat) (D : DM) (cd : Code) (pre : List YB) (W : World) : Prop :=
  cd = .ret ∧ (runs (base + r.at_) D (fill []) (pre.map (·.1))).2.2 ≠ 0 ∧ SI w.heap.size hb B (fun k => (okd k ∧ k < w.heap.size) ∨ B ≤ k) okd w p base r A c (runs (base + r.at_) D (fill []) (pre.map (·.1))) W
theorem Chg.setRow1 {W : World} {g : Nat} (cs : Array Value) : Chg (fun k => k = g) W (W.setRow g cs) := (Chg.refl (fun k => k = g) W).setRow (.inl rfl) cs
set_option maxRecDepth 100000 in
set_option maxHeartbeats 4000000 in
theorem seal_go {w : World} {okd okr : Nat → Prop} {D : DM} {A : Option Addr} {c : Nat} (p : Nat) (base : Int) (r : SR) (h : PDisk w okd p D) (hF : RB w okr A r.bytes) (hne : apart okr okd) (hl : r.bytes.length ≤ c) (hr : r.right)
    (hb9 : -9223372036854775808 ≤ base ∧ base ≤ 9223372036854775807) (he : sealE r = 0) (ho : outB D base r = false) (hm : (D.ws.length + 65537) * 32 ≤ 140737488355328) :
  Calls Tryz.prog 146 #[.pointer (some ⟨p, 0, none⟩), .int .i64 base, recV r A c] w fun e w' => e = .returned (.int .i64 (puts (base + r.at_) D (order r)).2) ∧ PDisk w' (orNew okd w) p (puts (base + r.at_) D (order r)).1 ∧ Chg okd w w' := by
  obtain ⟨QD, QE, hQQ⟩ : ∃ QD QE, puts (base + r.at_) D (order r) = (QD, QE) := ⟨_, _, rfl⟩
  have HQ := hid hQQ
  rw [hQQ]
  clear hQQ
  dsimp only
  have hlb := hr.l
  have hat := hr.a
  have hc := right_any (w := W4 w (some ⟨p, 0, none⟩) base r A c 0) (A := A) (c := c) r (by omega)
  have hnb : 1 ≤ need (r.bytes.length : Int) ∧ need (r.bytes.length : Int) ≤ 65536 := by unfold need; rw [if_neg (by omega)]; split <;> omega
  rw [he] at hc
  have hn := h.1.hi
  have HO := hid ho
  have h1 : ¬ base < 0 ∧ ¬ (D.n : Int) < base ∧ ¬ (D.n : Int) - base < r.at_ + need (r.bytes.length : Int) := by
    unfold outB at ho
    simp only [Bool.or_eq_false_iff, decide_eq_false_iff_not] at ho
    exact ⟨ho.1.1, ho.1.2, ho.2⟩
  obtain ⟨h1, h2, h3⟩ := h1
  have h1' : 0 ≤ base := by omega
  have hw1 : IntKind.i64.wrap (r.at_ + need (r.bytes.length : Int)) = r.at_ + need (r.bytes.length : Int) := by rw [IntKind.wrap_i64]; omega
  have hw2 : IntKind.i64.wrap ((D.n : Int) - base) = (D.n : Int) - base := by rw [IntKind.wrap_i64]; omega
  unfold recV at hc ⊢
  refine (callsIn_wide (n := 2)).1 (callsIn_of_wp_marks Tryz.func146 rfl trivial ?_ rfl)
  simp only [Tryz.ntmps146, List.size_toArray, List.length_cons, List.length_nil, Nat.reduceAdd, Nat.reduceSub, Array.replicate_succ, Array.replicate_zero, List.push_toArray, List.append_toArray, List.nil_append, List.cons_append]
  gi_wp2_with fail
  refine ⟨trivial, callsIn_wide.2 (hc.mono ?_)⟩
  rintro e w1 ⟨rfl, hB⟩
  have hI : In4 w1 w.heap.size (some ⟨p, 0, none⟩) base r A c 0 := (W4_in w _ base r A c 0).step (fun k h1 h2 => hB.block k (by simp; omega))
  have hD1 : PDisk w1 okd p D := h.step (fun k _ hk => (hB.block k (by simp; omega)).trans ((W4_below w _ base r A c 0).block k hk))
  have s00 := hI.s3.1
  have s01 := hI.s3.2
  gi_wp2_with fail
  refine wpIn_nrm (wpIn_wide.2 (wp_region_plan [] (.take 0 (.take 1 (.take 2 (.take 3 (.take 4 (.run 5 (.take 6 (.take 7 (.take 8 (.take 9 (.take 10 (.take 11 (.take 12 (.take 13 (.take 16 (.take 18 (.run 14 (.take 15 (.run 17 (.take 19 (.take 20 (.take 21 .done)))))))))))))))))))))) (In4.S w.heap.size (some ⟨p, 0, none⟩) base r A c) (by kernel_rfl) (by kernel_rfl) (fun c a d v w h => absurd h.1 (by simp)) hI.s ?_))
  have hS := hI.s
  have hfin := (W4_below w (some ⟨p, 0, none⟩) base r A c 0).trans (hB.mono (by simp; omega))
  have hSd : In4.S w.heap.size (some ⟨p, 0, none⟩) base r A c w1.drew := hS
  have hDd : PDisk w1.drew okd p D := hD1.step (fun _ _ _ => rfl)
  have n1 : ¬ base < 0 := by omega
  have n2 : ¬ (D.n : Int) < base := by omega
  have n3 : ¬ (D.n : Int) - base < r.at_ + need (r.bytes.length : Int) := by omega
  iterate 5 (apply plan_take rfl rfl; (case hy => (intro w' hS; obtain ⟨s0, s1, s2, s3⟩ := hS; go_simp; try exact rfl)); go_simp)
  refine plan_run_on rfl rfl (fun K hK => ?_)
  go_simp
  refine (blocks_any hDd).mono ?_
  rintro e w2 ⟨rfl, rfl⟩
  refine hK _ _ _ (fun _ h => h) hSd ?_
  clear hK K
  go_simp
  iterate 10 (apply plan_take rfl rfl; (case hy => (intro w' hS; obtain ⟨s0, s1, s2, s3⟩ := hS; go_simp; try exact rfl)); go_simp)
  refine plan_run_on rfl rfl (fun K hK => ?_)
  go_simp
  refine (need_any (r.bytes.length : Int) (by omega)).mono ?_
  rintro e w2 ⟨rfl, rfl⟩
  refine hK _ _ _ (fun _ h => h) hSd ?_
  clear hK K
  go_simp
  (apply plan_take rfl rfl; (case hy => (intro w' hS; obtain ⟨s0, s1, s2, s3⟩ := hS; go_simp; try exact rfl)); go_simp)
  refine plan_run_on rfl rfl (fun K hK => ?_)
  go_simp
  refine (blocks_any hDd).mono ?_
  rintro e w2 ⟨rfl, rfl⟩
  refine hK _ _ _ (fun _ h => h) hSd ?_
  clear hK K
  go_simp
  iterate 3 (apply plan_take rfl rfl; (case hy => (intro w' hS; obtain ⟨s0, s1, s2, s3⟩ := hS; go_simp; try exact rfl)); go_simp)
  refine plan_done ⟨rfl, ?_⟩
  have hId : In4 w1.drew w.heap.size (some ⟨p, 0, none⟩) base r A c 0 := hI.step (fun _ _ _ => rfl)
  have hfd := hfin.drew
  clear hB hc hI hD1 hS hfin hSd
  generalize w1.drew = w2 at hId hDd hfd ⊢
  have hIh : In4 (w2.alloc (.cells #[.int .u8 0, .int .u8 0, .int .u8 0, .int .u8 0, .int .u8 0, .int .u8 0, .int .u8 0, .int .u8 0, .int .u8 0, .int .u8 0, .int .u8 0, .int .u8 0, .int .u8 0, .int .u8 0, .int .u8 0, .int .u8 0, .int .u8 0, .int .u8 0, .int .u8 0, .int .u8 0, .int .u8 0, .int .u8 0, .int .u8 0, .int .u8 0, .int .u8 0, .int .u8 0, .int .u8 0, .int .u8 0, .int .u8 0, .int .u8 0, .int .u8 0, .int .u8 0, .int .u8 0, .int .u8 0, .int .u8 0, .int .u8 0, .int .u8 0, .int .u8 0, .int .u8 0, .int .u8 0, .int .u8 0, .int .u8 0, .int .u8 0, .int .u8 0, .int .u8 0, .int .u8 0, .int .u8 0, .int .u8 0, .int .u8 0, .int .u8 0, .int .u8 0, .int .u8 0, .int .u8 0, .int .u8 0, .int .u8 0, .int .u8 0, .int .u8 0, .int .u8 0, .int .u8 0, .int .u8 0, .int .u8 0, .int .u8 0, .int .u8 0, .int .u8 0] 246)) w.heap.size (some ⟨p, 0, none⟩) base r A c 0 := hId.step (fun k _ h2 => Below.heap_alloc _ _ _ (by have := blk_lt hId.b3; omega))
  have g0 : BU (w2.alloc (.cells #[.int .u8 0, .int .u8 0, .int .u8 0, .int .u8 0, .int .u8 0, .int .u8 0, .int .u8 0, .int .u8 0, .int .u8 0, .int .u8 0, .int .u8 0, .int .u8 0, .int .u8 0, .int .u8 0, .int .u8 0, .int .u8 0, .int .u8 0, .int .u8 0, .int .u8 0, .int .u8 0, .int .u8 0, .int .u8 0, .int .u8 0, .int .u8 0, .int .u8 0, .int .u8 0, .int .u8 0, .int .u8 0, .int .u8 0, .int .u8 0, .int .u8 0, .int .u8 0, .int .u8 0, .int .u8 0, .int .u8 0, .int .u8 0, .int .u8 0, .int .u8 0, .int .u8 0, .int .u8 0, .int .u8 0, .int .u8 0, .int .u8 0, .int .u8 0, .int .u8 0, .int .u8 0, .int .u8 0, .int .u8 0, .int .u8 0, .int .u8 0, .int .u8 0, .int .u8 0, .int .u8 0, .int .u8 0, .int .u8 0, .int .u8 0, .int .u8 0, .int .u8 0, .int .u8 0, .int .u8 0, .int .u8 0, .int .u8 0, .int .u8 0, .int .u8 0] 246)) w2.heap.size 246 (fill []) := heap_alloc_new w2 _
  have b0 : Below w2.heap.size w2 (w2.alloc (.cells #[.int .u8 0, .int .u8 0, .int .u8 0, .int .u8 0, .int .u8 0, .int .u8 0, .int .u8 0, .int .u8 0, .int .u8 0, .int .u8 0, .int .u8 0, .int .u8 0, .int .u8 0, .int .u8 0, .int .u8 0, .int .u8 0, .int .u8 0, .int .u8 0, .int .u8 0, .int .u8 0, .int .u8 0, .int .u8 0, .int .u8 0, .int .u8 0, .int .u8 0, .int .u8 0, .int .u8 0, .int .u8 0, .int .u8 0, .int .u8 0, .int .u8 0, .int .u8 0, .int .u8 0, .int .u8 0, .int .u8 0, .int .u8 0, .int .u8 0, .int .u8 0, .int .u8 0, .int .u8 0, .int .u8 0, .int .u8 0, .int .u8 0, .int .u8 0, .int .u8 0, .int .u8 0, .int .u8 0, .int .u8 0, .int .u8 0, .int .u8 0, .int .u8 0, .int .u8 0, .int .u8 0, .int .u8 0, .int .u8 0, .int .u8 0, .int .u8 0, .int .u8 0, .int .u8 0, .int .u8 0, .int .u8 0, .int .u8 0, .int .u8 0, .int .u8 0] 246)) := below_alloc (Below.refl _ _) _
  have hs3 : (w2.alloc (.cells #[.int .u8 0, .int .u8 0, .int .u8 0, .int .u8 0, .int .u8 0, .int .u8 0, .int .u8 0, .int .u8 0, .int .u8 0, .int .u8 0, .int .u8 0, .int .u8 0, .int .u8 0, .int .u8 0, .int .u8 0, .int .u8 0, .int .u8 0, .int .u8 0, .int .u8 0, .int .u8 0, .int .u8 0, .int .u8 0, .int .u8 0, .int .u8 0, .int .u8 0, .int .u8 0, .int .u8 0, .int .u8 0, .int .u8 0, .int .u8 0, .int .u8 0, .int .u8 0, .int .u8 0, .int .u8 0, .int .u8 0, .int .u8 0, .int .u8 0, .int .u8 0, .int .u8 0, .int .u8 0, .int .u8 0, .int .u8 0, .int .u8 0, .int .u8 0, .int .u8 0, .int .u8 0, .int .u8 0, .int .u8 0, .int .u8 0, .int .u8 0, .int .u8 0, .int .u8 0, .int .u8 0, .int .u8 0, .int .u8 0, .int .u8 0, .int .u8 0, .int .u8 0, .int .u8 0, .int .u8 0, .int .u8 0, .int .u8 0, .int .u8 0, .int .u8 0] 246)).heap.size = w2.heap.size + 1 := World.size_alloc _ _
  have hld := rec_cells hIh
  gi_wp2_with (refine wpListIn_load_addr rfl rfl 117 (.tmp 5) rfl ⟨w.heap.size + 1 + 1, 0, none⟩ rfl _ _ hld Tryz.underlying117 rfl (by kernel_rfl) ?_)
  refine ⟨trivial, callsIn_wide.2 ((seq_any r).mono ?_)⟩
  rintro e W0 ⟨rfl, hW0⟩
  generalize w2.alloc (.cells #[.int .u8 0, .int .u8 0, .int .u8 0, .int .u8 0, .int .u8 0, .int .u8 0, .int .u8 0, .int .u8 0, .int .u8 0, .int .u8 0, .int .u8 0, .int .u8 0, .int .u8 0, .int .u8 0, .int .u8 0, .int .u8 0, .int .u8 0, .int .u8 0, .int .u8 0, .int .u8 0, .int .u8 0, .int .u8 0, .int .u8 0, .int .u8 0, .int .u8 0, .int .u8 0, .int .u8 0, .int .u8 0, .int .u8 0, .int .u8 0, .int .u8 0, .int .u8 0, .int .u8 0, .int .u8 0, .int .u8 0, .int .u8 0, .int .u8 0, .int .u8 0, .int .u8 0, .int .u8 0, .int .u8 0, .int .u8 0, .int .u8 0, .int .u8 0, .int .u8 0, .int .u8 0, .int .u8 0, .int .u8 0, .int .u8 0, .int .u8 0, .int .u8 0, .int .u8 0, .int .u8 0, .int .u8 0, .int .u8 0, .int .u8 0, .int .u8 0, .int .u8 0, .int .u8 0, .int .u8 0, .int .u8 0, .int .u8 0, .int .u8 0, .int .u8 0] 246) = w3 at hIh g0 b0 hs3 hW0 ⊢
  have hsz0 : W0.heap.size = w3.heap.size + 1 := by rw [hW0]; exact World.size_alloc _ _
  have hs4 := And.intro (Nat.le_of_eq hs3) (Nat.le_of_eq hs3.symm)
  have hsz4 := And.intro (Nat.le_of_eq hsz0) (Nat.le_of_eq hsz0.symm)
  clear hs3 hsz0
  have hsz2 : w.heap.size + 4 ≤ w2.heap.size := by have := blk_lt hId.b3; omega
  have hb30 : Below w3.heap.size w3 W0 := by rw [hW0]; exact below_alloc (Below.refl _ _) _
  have hI0 : In4 W0 w.heap.size (some ⟨p, 0, none⟩) base r A c 0 := hIh.step (fun k _ h2 => hb30.block k (by omega))
  have hg0 : BU W0 w2.heap.size 246 (fill []) := g0.step (hb30.block _ g0.lt)
  have hbw : Below w.heap.size w W0 := hfd.trans ((b0.mono hfd.size).trans (hb30.mono (by omega)))
  have hD0 : PDisk W0 (fun k => (okd k ∧ k < w.heap.size) ∨ W0.heap.size ≤ k) p D := (h.bound.step (w1 := W0) (fun k hk _ => hbw.block k hk.2)).mono (fun _ hk => .inl hk)
  have hrb : W0.heap[w3.heap.size]? = some (.cells #[.int .u64 r.gen, .int .i64 r.at_, .int .i64 r.kind, .slice A r.bytes.length c] 117 (0, 0)) := by rw [hW0]; exact heap_alloc_new _ _
  have hRB : RBox W0 w3.heap.size r (fun k => (okr k ∧ k < w.heap.size) ∨ k = w3.heap.size) A c := ⟨.inr rfl, hrb, fun W' hW => hF W' (fun k hk hlt => (hW k ⟨.inl ⟨hk, hlt⟩, by omega⟩ (by omega)).trans (hbw.block k hlt)), hl⟩
  have hseq := blocks_stops hRB hr (fun k hk => by rcases hk with hk | hk <;> omega)
  have hC0 : Chg okd w W0 := Chg.of_below hbw okd
  have hne2 : ∀ k, ((okr k ∧ k < w.heap.size) ∨ k = w3.heap.size) → ¬ ((okd k ∧ k < w.heap.size) ∨ W0.heap.size ≤ k) := fun k hk hk2 => by
    rcases hk with hk | hk <;> rcases hk2 with hk2 | hk2
    · exact hne k hk.1 hk2.1
    · omega
    · omega
    · omega
  have hSI0 : SI w.heap.size w2.heap.size W0.heap.size (fun k => (okd k ∧ k < w.heap.size) ∨ W0.heap.size ≤ k) okd w p base r A c (runs (base + r.at_) D (fill []) []) W0 := ⟨hI0, hg0, rfl, hD0, hC0, Nat.le_refl _⟩
  clear hIh g0 b0 hb30 hW0 hId hDd hld hI0 hg0 hD0 hRB hrb hC0 hfd
  gi_wp2_with fail
  refine wpIn_rangeFunc_ownH (α := YB) (n := 2) (w := W0) rfl (by decide) (gf := 189) (lb := #[.pointer (some ⟨w3.heap.size, 0, none⟩)]) rfl trivial (enters_of Tryz.func189 (by kernel_rfl) rfl)
    hseq (fun h k => ⟨fun i hi hlt => (k.1 i hi (Nat.lt_of_lt_of_le hlt h.2)).trans (h.1 i hi hlt), Nat.le_trans h.2 k.2⟩) (fun W l o o' hl _ _ _ => ⟨fun k hk _ => World.putObj_heap_other (fun e => by rcases hk with hk | hk <;> omega), by simp⟩) (Below.refl _ _) (fun _ => rfl)
    (InvS w w2.heap.size W0.heap.size okd p base r A c D) (InvX w w2.heap.size W0.heap.size okd p base r A c D)
    (fun s X Y row hs hg hr => ⟨hs.1, hs.2.turn hg (fun r e => ⟨by have := (hr r e).1; omega, (hr r e).2⟩)⟩)
    (fun cd s X Y row hs hg hr => ⟨hs.1, hs.2.1, hs.2.2.turn hg (fun r e => ⟨by have := (hr r e).1; omega, (hr r e).2⟩)⟩)
    ⟨rfl, hSI0⟩
    (fun x a' W => ∃ Bx, W0.heap.size ≤ Bx ∧ BU W Bx 246 x.1.2 ∧ a' = { tmps := #[.pointer (some ⟨p, 0, none⟩), .int .i64 base, .agg #[.int .u64 r.gen, .int .i64 r.at_, .int .i64 r.kind, .slice A r.bytes.length c], .pointer (some ⟨w.heap.size, 0, none⟩), .pointer (some ⟨w.heap.size + 1, 0, none⟩), .pointer (some ⟨w.heap.size + 1 + 1, 0, none⟩), .pointer (some ⟨w.heap.size + 1 + 1 + 1, 0, none⟩), .int .i64 0, .pointer (some ⟨w2.heap.size, 0, none⟩), .int .i64 (x.1.1 : Int), .pointer (some ⟨Bx, 0, none⟩), undef, .pointer (some ⟨p, 0, none⟩), .bool false, .agg #[.int .u64 r.gen, .int .i64 r.at_, .int .i64 r.kind, .slice A r.bytes.length c], .int .i64 0, .int .i64 0, .bool false, undef, .int .i64 base, .bool false, .bool false, .int .i64 base, .pointer (some ⟨p, 0, none⟩), .int .i64 (D.n : Int), .bool false, .bool false, .bool false, .pointer (some ⟨w.heap.size + 1 + 1, 1, none⟩), .int .i64 r.at_, .pointer (some ⟨w.heap.size + 1 + 1, 3, none⟩), .slice A r.bytes.length c, .int .i64 (r.bytes.length : Int), .int .i64 (need (r.bytes.length : Int)), .int .i64 (r.at_ + need (r.bytes.length : Int)), .pointer (some ⟨p, 0, none⟩), .int .i64 (D.n : Int), .int .i64 base, .int .i64 ((D.n : Int) - base), .bool false, .bool false, .agg #[.int .u64 r.gen, .int .i64 r.at_, .int .i64 r.kind, .slice A r.bytes.length c], .func (.func 189) #[] #[.pointer (some ⟨w3.heap.size, 0, none⟩)], .int .i64 (x.1.1 : Int), .agg (nums .u8 x.1.2).toArray, undef, undef, undef, undef, undef, undef, undef, undef, undef, undef, undef, undef, undef, undef, undef, undef, undef, undef, undef, undef, undef, undef], defers := [] })
    (fun x a' _ X Y row hs hg hr => by obtain ⟨Bx, e1, e2, e3⟩ := hs; exact ⟨Bx, e1, e2.step (turn_cells hg (fun r e => (hr r e).2) ⟨_, _, e2⟩), e3⟩)
    ?assign ?body ?done ?stop
  case assign =>
    rintro l pre x W K ⟨hq, hI⟩ hK
    have hst := storeCells64s x.2.2.1
    have hxl : (nums .u8 x.1.2).length = 64 := by rw [nums_length]; exact x.2.2.1
    dsimp only [encY]
    gi_wp2
    exact hK _ _ ((KeepsOthers.alloc _ _).from _) ⟨fun k _ hlt => Below.heap_alloc _ _ _ hlt, by simp⟩ ⟨hq, hI.alloc _⟩ ⟨W.heap.size, hI.sz, heap_alloc_new _ _, rfl⟩
  case body =>
    rintro l pre ⟨⟨k, ys⟩, hk, hy64, hyB⟩ a' W hl0 ⟨rr, hrr⟩ ⟨hq, hI⟩ ⟨Bx, hBx, hbx, rfl⟩ hlt
    dsimp only at hbx hk hy64 hyB ⊢
    have hqr := runs_append (base + r.at_) (pre.map (·.1)) [(k, ys)] D (fill [])
    rw [if_pos hq] at hqr
    have hws := runs_ws (base + r.at_) (pre.map (·.1)) D (fill [])
    rw [List.length_map] at hws
    have hN : pre.length < 65536 := by have h1 := hlt; have h2 := bodies_le hr; simp [blkList] at h1; omega
    have hpm : (pre ++ [(⟨(k, ys), hk, hy64, hyB⟩ : YB)]).map (·.1) = pre.map (·.1) ++ [(k, ys)] := by simp
    rw [← hpm] at hqr
    clear hpm hlt
    generalize runs (base + r.at_) D (fill []) (pre.map (·.1)) = q at hq hI hqr hws
    obtain ⟨Dq, hd, e0⟩ := q
    dsimp only at hq hI hqr hws
    subst hq
    have hbsz := hI.sz
    have hn3 := blk_lt hI.in4.b3
    have hdh := hI.hd
    have hdl := hI.l64
    dsimp only at hdh hdl
    by_cases h0 : k = 0
    · subst h0
      simp only [runs, if_true] at hqr
      have hch := Chg.setRow1 (W := W) (g := w2.heap.size) (nums .u8 ys).toArray
      have HH : InvS w w2.heap.size W0.heap.size okd p base r A c D (pre ++ [⟨(0, ys), hk, hy64, hyB⟩]) (W.setRow w2.heap.size (nums .u8 ys).toArray) := by
        unfold InvS
        rw [hqr]
        refine ⟨rfl, ⟨hI.in4.step (fun k h1 h2 => hch.block k (by omega) (by omega)), heap_setRow hdh, hy64, ?_, hI.chg.setRow (.inr (by omega)) _, Nat.le_trans hbsz hch.size⟩⟩
        exact hI.disk.step (fun k hk hlt => hch.block k hlt (fun e => by rcases hk with hk | hk <;> omega))
      have HH2 := hid HH
      have hKF : KeepsFrom W0.heap.size W (W.setRow w2.heap.size (nums .u8 ys).toArray) := KeepsFrom.of_chg hch (fun k e => by rw [e]; exact ⟨_, _, hdh⟩)
      have hKP : KpR (fun k => (okr k ∧ k < w.heap.size) ∨ k = w3.heap.size) W (W.setRow w2.heap.size (nums .u8 ys).toArray) := ⟨fun k hk hlt => hch.block k hlt (fun e => by rcases hk with hk | hk <;> omega), hch.size⟩
      have hcl : (#[] : Array Value).size = 0 := rfl
      clear HH hqr
      gi_wp2_with (first | refine wpListIn_load_addr rfl rfl 246 (.tmp 10) rfl ⟨Bx, 0, none⟩ rfl (nums .u8 ys) _ hbx.load Tryz.underlying246 rfl (by rw [nums_length, hy64]; exact info_sblock) ?_ | refine wpListIn_store_round rfl 246 (.tmp 8) (.tmp 47) rfl w2.heap.size (nums .u8 ys).toArray rfl rfl 246 _ hdh (by rw [List.size_toArray, nums_length, hy64]; exact info_sblock) (by rw [List.size_toArray, List.size_toArray, nums_length, nums_length, hdl, hy64]) (nums_one _ _) ?_)
      exact ⟨hKF, hKP, HH2.out⟩
    · simp only [runs, if_neg h0] at hqr
      have h0' : ¬ ((k : Int) = 0) := by omega
      have hwa : IntKind.i64.wrap (base + r.at_) = base + r.at_ := by rw [IntKind.wrap_i64]; omega
      have hwb : IntKind.i64.wrap (base + r.at_ + (k : Int)) = base + r.at_ + (k : Int) := by rw [IntKind.wrap_i64]; omega
      have hDx : PDisk W.drew (fun j => (((okd j ∧ j < w.heap.size) ∨ W0.heap.size ≤ j) ∧ isC W j) ∧ j ≠ Bx) p Dq := (hI.disk.cells.without hbx).step (fun _ _ _ => rfl)
      have hrow : RB W.drew (fun j => j = Bx) (some ⟨Bx, 0, none⟩) ys := (BU.step hbx rfl : BU W.drew Bx 246 ys).row (by omega)
      have hwr := write_any (c := 64) (base + r.at_ + (k : Int)) hDx hrow (fun j hj hj2 => hj2.2 hj) hyB (by omega)
      have hSt : In4.S w.heap.size (some ⟨p, 0, none⟩) base r A c W.drew := hI.in4.s
      rw [hy64] at hwr
      generalize hE : Dq.writeE (base + r.at_ + (k : Int)) ys = E at hqr hwr
      generalize Dq.writeD (base + r.at_ + (k : Int)) ys = Dw at hqr hwr
      clear hE
      have HQR := hid hqr
      clear hqr
      have hkb : ((k : Int) == 0) = false := by simpa using h0
      gi_wp2_with fail
      refine wpIn_region_plan [] (.take 0 (.take 1 (.take 2 (.take 3 (.take 4 (.take 5 (.take 6 (.take 7 (.run 8 (.take 9 .done)))))))))) (In4.S w.heap.size (some ⟨p, 0, none⟩) base r A c) (by kernel_rfl) (by kernel_rfl) (by kernel_rfl) (by rintro ⟨_, _, h⟩; exact h) (fun c a d v w h => h) hSt ?_
      iterate 8 (apply plan_take rfl rfl; (case hy => (intro w' hS; obtain ⟨s0, s1, s2, s3⟩ := hS; go_simp; try exact rfl)); go_simp)
      refine plan_run_on rfl rfl (fun K hK => ?_)
      go_simp
      refine hwr.mono ?_
      rintro e W1 ⟨rfl, hD1, hc1⟩
      have hch : Chg (fun j => (((okd j ∧ j < w.heap.size) ∨ W0.heap.size ≤ j) ∧ isC W j) ∧ j ≠ Bx) W W1 := (Chg.refl _ W).drew.then_ hc1 (fun _ h => .inl h)
      have hn4 : ∀ j, w.heap.size ≤ j → j < W0.heap.size → W1.heap[j]? = W.heap[j]? := fun j h1 h2 => hch.block j (by omega) (fun hj => by rcases hj.1.1 with hk | hk <;> omega)
      have hI4 : In4 W1 w.heap.size (some ⟨p, 0, none⟩) base r A c 0 := hI.in4.step (fun j h1 h2 => hn4 j h1 (by omega))
      refine hK _ _ _ (fun _ h => h) hI4.s ?_
      clear hK K
      go_simp
      (apply plan_take rfl rfl; (case hy => (intro w' hS; obtain ⟨s0, s1, s2, s3⟩ := hS; go_simp; try exact rfl)); go_simp)
      refine plan_done ?_
      have hD2 : PDisk W1 (fun k => (okd k ∧ k < w.heap.size) ∨ W0.heap.size ≤ k) p Dw := hD1.mono (fun j hj => by
        rcases hj with hj | hj
        · exact hj.1.1
        · exact .inr (Nat.le_trans hbsz hj))
      have hKF : KeepsFrom W0.heap.size W W1 := KeepsFrom.of_chg hch (fun j hj => hj.1.2)
      have hcw : Chg okd w W1 := hI.chg.then_ hch (fun j hj => by
        rcases hj.1.1 with hk | hk
        · exact .inl hk.1
        · exact .inr (by omega))
      have hsz1 : W0.heap.size ≤ W1.heap.size := Nat.le_trans hbsz hch.size
      have hhd : BU W1 w2.heap.size 246 hd := hdh.step (hn4 _ (by omega) (by omega))
      by_cases hE : E = 0
      · subst hE
        have hqr := HQR.out
        rw [if_pos rfl] at hqr
        have HH : InvS w w2.heap.size W0.heap.size okd p base r A c D (pre ++ [⟨(k, ys), hk, hy64, hyB⟩]) W1 := by
          unfold InvS
          rw [hqr]
          exact ⟨rfl, ⟨hI4, hhd, hdl, hD2, hcw, hsz1⟩⟩
        have HH2 := hid HH
        have hKP : KpR (fun k => (okr k ∧ k < w.heap.size) ∨ k = w3.heap.size) W W1 := ⟨fun j hj hlt => by
          rcases hj with hj | hj
          · exact hch.block j hlt (fun h2 => by
              rcases h2.1.1 with hk | hk
              · exact hne j hj.1 hk.1
              · omega)
          · exact hn4 j (by omega) (by omega), hch.size⟩
        clear HH hqr
        gi_wp2_with fail
        exact ⟨hKF, hKP, HH2.out⟩
      · have hqr := HQR.out
        rw [if_neg hE] at hqr
        have hst3 := hI4.s3
        have HH : InvX w w2.heap.size W0.heap.size okd p base r A c D .ret (pre ++ [⟨(k, ys), hk, hy64, hyB⟩]) (W1.setCell ⟨w.heap.size + 1 + 1 + 1, 0, none⟩ (.int .i64 E)) := by
          unfold InvX
          rw [hqr]
          have hset : ∀ j, j ≠ w.heap.size + 1 + 1 + 1 → (W1.setCell ⟨w.heap.size + 1 + 1 + 1, 0, none⟩ (.int .i64 E)).heap[j]? = W1.heap[j]? := fun j hj => Below.heap_setCell _ _ _ _ hj
          refine ⟨rfl, hE, ⟨⟨(hset _ (by omega)).trans hI4.b0, (hset _ (by omega)).trans hI4.b1, (hset _ (by omega)).trans hI4.b2, ?_⟩, hhd.step (hset _ (by omega)), hdl, hD2.step (fun j hj _ => hset j (by rcases hj with hk | hk <;> omega)), hcw.setCell (.inr (by simp; omega)) _, by simpa [World.setCell] using hsz1⟩⟩
          exact heap_setCell_same _ _ 0 _ _ _ hI4.b3
        have HH2 := hid HH
        have hKF2 : KeepsFrom W0.heap.size W (W1.setCell ⟨w.heap.size + 1 + 1 + 1, 0, none⟩ (.int .i64 E)) := hKF.trans ((KeepsOthers.setCell _ _ _).from _)
        have HH3 := hid hKF2
        clear HH hqr hKF2
        obtain ⟨t3, f3⟩ := hst3
        have heb : (E != 0) = true := by simpa using hE
        gi_wp2_with fail
        exact ⟨HH3.out, HH2.out⟩
  case done =>
    rintro D1 xs W hD1 hS ⟨hq, hI⟩ hK
    have hws := runs_ws (base + r.at_) (blkList r) D (fill [])
    rw [hS, runs_blk] at hq hI
    rw [runs_blk] at hws
    have hlen : (blkList r).length ≤ 65535 := by have := bodies_le hr; simp [blkList]; omega
    have hord : puts (base + r.at_) D (order r) = puts (base + r.at_) (puts (base + r.at_) D ((List.range (bodies r)).map fun (i : Nat) => ((i : Int) + 1, bodyB r (i + 1)))).1 [(0, headB r)] := by
      unfold order
      rw [puts_append, if_pos hq]
    have hQ := HQ.out
    rw [hord] at hQ
    clear hord hS HQ
    generalize puts (base + r.at_) D ((List.range (bodies r)).map fun (i : Nat) => ((i : Int) + 1, bodyB r (i + 1))) = q at hq hI hws hQ
    obtain ⟨Dq, e0⟩ := q
    dsimp only at hq hI hws hQ
    subst hq
    have hlast : puts (base + r.at_) Dq [(0, headB r)] = (Dq.writeD (base + r.at_) (headB r), Dq.writeE (base + r.at_) (headB r)) := by
      simp only [puts, Int.add_zero]
      split
      · rename_i h; rw [h]
      · rfl
    rw [hlast] at hQ
    clear hlast
    have hbsz := hI.sz
    have hn3 := blk_lt hI.in4.b3
    have hdh := hI.hd
    dsimp only at hdh
    have hwa : IntKind.i64.wrap (base + r.at_) = base + r.at_ := by rw [IntKind.wrap_i64]; omega
    have hDx : PDisk W.drew (fun j => (((okd j ∧ j < w.heap.size) ∨ W0.heap.size ≤ j) ∧ isC W j) ∧ j ≠ w2.heap.size) p Dq := (hI.disk.cells.without hdh).step (fun _ _ _ => rfl)
    have hrow : RB W.drew (fun j => j = w2.heap.size) (some ⟨w2.heap.size, 0, none⟩) (headB r) := (BU.step hdh rfl : BU W.drew w2.heap.size 246 (headB r)).row (by rw [headB_length]; omega)
    have hwr := write_any (c := 64) (base + r.at_) hDx hrow (fun j hj hj2 => hj2.2 hj) (headB_bytes hr) (by omega)
    have hSt : In4.S w.heap.size (some ⟨p, 0, none⟩) base r A c W.drew := hI.in4.s
    rw [headB_length] at hwr
    generalize Dq.writeE (base + r.at_) (headB r) = E at hwr hQ
    generalize Dq.writeD (base + r.at_) (headB r) = Dw at hwr hQ
    clear hws
    injection hQ with e1 e2
    have e1' := e1.symm
    have e2' := e2.symm
    clear e1 e2
    subst e1' e2'
    gi_wp2_with fail
    refine wpIn_nrm (wpIn_wide.2 (wp_region_plan [7] (.take 0 (.take 1 (.take 2 (.take 3 (.take 4 (.take 5 (.run 6 (.tail 7 .done)))))))) (In4.S w.heap.size (some ⟨p, 0, none⟩) base r A c) (by kernel_rfl) (by kernel_rfl) (fun c a d v w h => absurd h.1 (by simp)) hSt ?_))
    iterate 6 (apply plan_take rfl rfl; (case hy => (intro w' hS; obtain ⟨s0, s1, s2, s3⟩ := hS; go_simp; try exact rfl)); go_simp)
    refine plan_run_on rfl rfl (fun K hK => ?_)
    go_simp
    refine hwr.mono ?_
    rintro e W1 ⟨rfl, hD1', hc1⟩
    have hch : Chg (fun j => (((okd j ∧ j < w.heap.size) ∨ W0.heap.size ≤ j) ∧ isC W j) ∧ j ≠ w2.heap.size) W W1 := (Chg.refl _ W).drew.then_ hc1 (fun _ h => .inl h)
    have hn4 : ∀ j, w.heap.size ≤ j → j < W0.heap.size → W1.heap[j]? = W.heap[j]? := fun j h1 h2 => hch.block j (by omega) (fun hj => by rcases hj.1.1 with hk | hk <;> omega)
    have hI4 : In4 W1 w.heap.size (some ⟨p, 0, none⟩) base r A c 0 := hI.in4.step (fun j h1 h2 => hn4 j h1 (by omega))
    refine hK _ _ _ (fun _ h => h) hI4.s ?_
    clear hK K
    go_simp
    obtain ⟨t3, f3⟩ := hI4.s3
    refine plan_tail_on rfl rfl (fun K hK => ?_)
    go_simp
    refine hK _ _ (plan_done ⟨rfl, ?_⟩)
    clear hK K
    have hD2 : PDisk W1 (fun k => (okd k ∧ k < w.heap.size) ∨ W0.heap.size ≤ k) p QD := hD1'.mono (fun j hj => by
      rcases hj with hj | hj
      · exact hj.1.1
      · exact .inr (Nat.le_trans hbsz hj))
    have hcw : Chg okd w W1 := hI.chg.then_ hch (fun j hj => by
      rcases hj.1.1 with hk | hk
      · exact .inl hk.1
      · exact .inr (by omega))
    have hKW : W1.heap[D1]? = some (.deferred (some [])) := (KeepsFrom.of_chg (B := W0.heap.size) hch (fun j hj => hj.1.2)).same D1 _ hD1 hK rfl
    have hK' := (KeepsOthers.setCell W1 ⟨w.heap.size + 1 + 1 + 1, 0, none⟩ (.int .i64 QE)).same D1 _ hKW rfl
    have hcell : (W1.setCell ⟨w.heap.size + 1 + 1 + 1, 0, none⟩ (.int .i64 QE)).cell? ⟨w.heap.size + 1 + 1 + 1, 0, none⟩ = some (.int .i64 QE) := World.cell?_setCell_same' _ _ _ (by rw [t3]; rfl)
    have hcell2 := cell_kept hcell (grownBy_putObj' _ D1 (.deferred none)) (fun r e => by cases e; exact ⟨_, hK', rfl⟩)
    have hD3 : PDisk ((W1.setCell ⟨w.heap.size + 1 + 1 + 1, 0, none⟩ (.int .i64 QE)).putObj D1 (.deferred none)) (orNew okd w) p QD := ((hD2.step (fun j hj _ => Below.heap_setCell _ _ _ _ (by show j ≠ w.heap.size + 1 + 1 + 1; rcases hj with hk | hk <;> omega))).turn (grownBy_putObj' _ D1 (.deferred none)) (fun r e => by cases e; exact ⟨_, hK', rfl⟩)).mono (fun j hj => by
      rcases hj with hk | hk
      · exact .inl hk.1
      · exact .inr (by omega))
    have hC3 : Chg okd w ((W1.setCell ⟨w.heap.size + 1 + 1 + 1, 0, none⟩ (.int .i64 QE)).putObj D1 (.deferred none)) := (hcw.setCell (p := ⟨w.heap.size + 1 + 1 + 1, 0, none⟩) (.inr (by simp; omega)) _).grown (grownBy_putObj' _ D1 (.deferred none)) (fun k e => by cases e; exact .inr (by omega))
    have HF := hid (And.intro hK' (And.intro hcell2 (And.intro hD3 hC3)))
    clear hK' hcell hcell2 hD3 hC3 hKW hD2 hcw hK
    gi_wp2_with fail
    refine ⟨by simp, .inl ⟨_, _, rfl, run_takeDeferred HF.out.1, ?_⟩⟩
    exact ⟨_, errno_ret rfl _ _ (w.heap.size + 1 + 1 + 1) QE rfl HF.out.2.1, rfl, HF.out.2.2.1, HF.out.2.2.2⟩
  case stop =>
    rintro D1 cd pre W hD1 ⟨t, ht⟩ ⟨rfl, hq, hI⟩ hK
    have hap := runs_append (base + r.at_) (pre.map (·.1)) t D (fill [])
    rw [ht, if_neg hq, runs_blk] at hap
    have hord : puts (base + r.at_) D (order r) = puts (base + r.at_) D ((List.range (bodies r)).map fun (i : Nat) => ((i : Int) + 1, bodyB r (i + 1))) := by
      unfold order
      rw [puts_append, if_neg]
      rw [← hap] at hq
      exact hq
    have hQ := HQ.out
    rw [hord] at hQ
    rw [← hap] at hI
    clear hord hap hq ht HQ
    generalize puts (base + r.at_) D ((List.range (bodies r)).map fun (i : Nat) => ((i : Int) + 1, bodyB r (i + 1))) = q at hI hQ
    subst hQ
    dsimp only at hI
    have hcell : W.cell? ⟨w.heap.size + 1 + 1 + 1, 0, none⟩ = some (.int .i64 QE) := hI.in4.s3.1
    have hcell2 := cell_kept hcell (grownBy_putObj' _ D1 (.deferred none)) (fun r e => by cases e; exact ⟨_, hK, rfl⟩)
    have hD3 : PDisk (W.putObj D1 (.deferred none)) (orNew okd w) p QD := (hI.disk.turn (grownBy_putObj' _ D1 (.deferred none)) (fun r e => by cases e; exact ⟨_, hK, rfl⟩)).mono (fun j hj => by
      rcases hj with hk | hk
      · exact .inl hk.1
      · exact .inr (by omega))
    have hC3 : Chg okd w (W.putObj D1 (.deferred none)) := hI.chg.grown (grownBy_putObj' _ D1 (.deferred none)) (fun k e => by cases e; exact .inr (by omega))
    have HF := hid (And.intro hK (And.intro hcell2 (And.intro hD3 hC3)))
    clear hK hcell hcell2 hD3 hC3
    gi_wp2_with fail
    refine ⟨by simp, .inl ⟨_, _, rfl, run_takeDeferred HF.out.1, ?_⟩⟩
    exact ⟨_, errno_ret rfl _ _ (w.heap.size + 1 + 1 + 1) QE rfl HF.out.2.1, rfl, HF.out.2.2.1, HF.out.2.2.2⟩
end Go.Proofs.YticogmpafehomaaGreatDoor

set_option linter.unusedVariables false
set_option linter.unusedSimpArgs false
namespace Go.Proofs.YticogmpafehomaaGreatDoor
open Go.RowKit Go.Proofs.YticogmpafehomaaGreatDoorW.PrintWords Go.Proofs.YticogmpafehomaaGreatDoorW.PrintMore

theorem bytesOf_str {xs : List Int} (h : Bytes xs) : bytesOf (strOfNums xs) = xs := by
  unfold strOfNums bytesOf
  rw [List.map_map]
  conv => rhs; rw [← List.map_id xs]
  refine List.map_congr_left (fun x hx => ?_)
  have := h x hx
  simp only [Function.comp_apply, id]
  rw [UInt8.toNat_ofNat']
  omega
theorem str_iff {xs ys : List Int} (hx : Bytes xs) (hy : Bytes ys) : strOfNums xs = strOfNums ys ↔ xs = ys := ⟨fun h => by rw [← bytesOf_str hx, ← bytesOf_str hy, h], fun h => by rw [h]⟩
theorem str_neq {S : ByteArray} {l : List UInt8} (h : ¬ S = ⟨l.toArray⟩) : (S.toList == l) = false := by
  rw [ByteArray.toList_eq, beq_eq_false_iff_ne]
  intro e
  exact h (by cases S; simp only [ByteArray.mk.injEq]; exact Array.toList_inj.1 (by simpa using e))
/-- A number at a place. -/
def numAt (b : List Int) (i n : Nat) : Int := val ((b.drop i).take n)
theorem numAt_lt {b : List Int} (h : Bytes b) {i n : Nat} (hl : i + n ≤ b.length) : 0 ≤ numAt b i n ∧ numAt b i n < 256 ^ n := by
  have := val_lt ((h.drop i).take n)
  rwa [show ((b.drop i).take n).length = n from by rw [List.length_take, List.length_drop]; omega] at this
theorem part {w : World} {ok : Nat → Prop} {a : Addr} {b : List Int} (h : RB w ok (some a) b) {i n : Nat} (hl : i + n ≤ b.length) : RB w ok (some (a.add i)) ((b.drop i).take n) := by
  intro W' hW
  have h2 : ReadsInt W' .u8 (some a) b.length b := C_int (h W' hW)
  have hlen : ((b.drop i).take n).length = n := by rw [List.length_take, List.length_drop]; omega
  refine Kd.C_of_reads (enc := Value.int .u8) (d := (0 : Int)) (h1 := fun _ => rfl) ⟨rfl, by rw [hlen]; have := h2.2.1; omega, fun hp => ?_⟩
  rw [hlen] at hp ⊢
  obtain ⟨ad, he, hc⟩ := h2.2.2 (by omega)
  cases he
  refine ⟨_, rfl, fun j hj => ?_⟩
  rw [Addr.add_add, hc (i + j) (by omega)]
  simp [List.getD_eq_getElem?_getD, List.getElem?_drop, List.getElem?_take, hj]
theorem part_len {b : List Int} {i n : Nat} (hl : i + n ≤ b.length) : ((b.drop i).take n).length = n := by rw [List.length_take, List.length_drop]; omega
theorem number_part {w : World} {ok : Nat → Prop} {a : Addr} {b : List Int} (h : RB w ok (some a) b) (hb : Bytes b) (i n c : Nat) (hl : i + n ≤ b.length) (hn : n ≤ 8) :
  Calls Tryz.prog 157 #[.slice (some (a.add i)) n c] w fun e w' => e = .returned (.int .u64 (numAt b i n)) ∧ w' = w := by
  have := value_any (c := c) (Kd.F_now (part h hl)) ((hb.drop i).take n) (by rw [part_len hl]; exact hn)
  rwa [part_len hl] at this
/-- What Body tells. -/
def bodyOK (b : List Int) : Prop := b.length = 64 ∧ b.take 2 = [102, 98] ∧ ¬ numAt b 2 8 = 0 ∧ ¬ numAt b 12 2 = 0
instance (b : List Int) : Decidable (bodyOK b) := by unfold bodyOK; infer_instance
def bodyV (b : List Int) : Int × Int × Int × Bool := if bodyOK b then (numAt b 2 8, numAt b 10 2, numAt b 12 2, true) else (0, 0, 0, false)
def bodyT (v : Int × Int × Int × Bool) : Value := .tuple #[.int .u64 v.1, .int .i64 v.2.1, .int .i64 v.2.2.1, .bool v.2.2.2]
theorem body_no {b : List Int} (h : ¬ bodyOK b) : bodyT (bodyV b) = .tuple #[.int .u64 0, .int .i64 0, .int .i64 0, .bool false] := by unfold bodyV; rw [if_neg h]; rfl
set_option maxRecDepth 100000 in
set_option maxHeartbeats 2000000 in
theorem body_any {w : World} {ok : Nat → Prop} {A : Option Addr} {c : Nat} {b : List Int} (h : RB w ok A b) (hb : Bytes b) (hc : b.length ≤ c) :
  Calls Tryz.prog 122 #[.slice A b.length c] w fun e w' => e = .returned (bodyT (bodyV b)) ∧ Below w.heap.size w w' := by
  have hlm := RB_len h
  by_cases h64 : b.length = 64
  · obtain ⟨a, rfl⟩ : ∃ a, A = some a := by
      cases A with
      | none => have := RB_none h; rw [this] at h64; simp at h64
      | some a => exact ⟨a, rfl⟩
    have hp2 : RB w ok (some a) (b.take 2) := RB_take h (by omega)
    have hcv : (convert 25 9 (.slice (some a) 2 c)).run Tryz.prog w = .ok (.string (strOfNums (b.take 2))) w := by
      have := conv_str (c := c) (Kd.F_now hp2)
      rwa [show (b.take 2).length = 2 from by rw [List.length_take]; omega] at this
    have hs := str_iff (hb.take 2) (show Bytes [102, 98] from fun x hx => by simp at hx; omega)
    rw [show strOfNums [102, 98] = ⟨#[102, 98]⟩ from rfl] at hs
    rw [h64] at hc ⊢
    have n2 : ¬ c = 2 := by omega
    have n10 : ¬ c = 10 := by omega
    have n12 : ¬ c = 12 := by omega
    have i2 : (2 : Int) ≤ (c : Int) := by omega
    have i10 : (10 : Int) ≤ (c : Int) := by omega
    have i12 : (12 : Int) ≤ (c : Int) := by omega
    have i14 : (14 : Int) ≤ (c : Int) := by omega
    by_cases ht : b.take 2 = [102, 98]
    · have hS := hs.2 ht
      rw [hS] at hcv
      clear hs hS
      have c1 := number_part h hb 2 8 (c - 2) (by omega) (by omega)
      have c2 := number_part (RB_drew h) hb 10 2 (c - 10) (by omega) (by omega)
      have c3 := number_part (RB_drew h) hb 12 2 (c - 12) (by omega) (by omega)
      have l1 := numAt_lt hb (i := 2) (n := 8) (by omega)
      have l2 := numAt_lt hb (i := 10) (n := 2) (by omega)
      have l3 := numAt_lt hb (i := 12) (n := 2) (by omega)
      rw [show (256 : Int) ^ 8 = 18446744073709551616 from by decide] at l1
      rw [show (256 : Int) ^ 2 = 65536 from by decide] at l2 l3
      have hv : bodyT (bodyV b) = if numAt b 2 8 = 0 ∨ numAt b 12 2 = 0 then .tuple #[.int .u64 0, .int .i64 0, .int .i64 0, .bool false] else .tuple #[.int .u64 (numAt b 2 8), .int .i64 (numAt b 10 2), .int .i64 (numAt b 12 2), .bool true] := by
        by_cases h0 : numAt b 2 8 = 0 ∨ numAt b 12 2 = 0
        · rw [if_pos h0, body_no (fun hh => h0.elim hh.2.2.1 hh.2.2.2)]
        · rw [if_neg h0]
          unfold bodyV
          rw [if_pos ⟨h64, ht, fun e => h0 (.inl e), fun e => h0 (.inr e)⟩]
          rfl
      rw [hv]
      clear hv
      generalize numAt b 2 8 = g at c1 l1 ⊢
      generalize numAt b 10 2 = at_ at c2 l2 ⊢
      generalize numAt b 12 2 = k at c3 l3 ⊢
      have u2 : IntKind.i64.wrap at_ = at_ := by rw [IntKind.wrap_i64]; omega
      have u3 : IntKind.i64.wrap k = k := by rw [IntKind.wrap_i64]; omega
      by_cases hg : g = 0
      · rw [if_pos (.inl hg)]
        subst hg
        go_enter Tryz.func122, Tryz.ntmps122
        go_wp2_with fail
        refine c1.mono ?_
        rintro e w1 ⟨rfl, rfl⟩
        go_wp2_with fail
        refine wp_region_plan [] (.take 0 (.take 1 (.take 4 (.take 5 (.run 2 (.take 3 (.run 6 (.take 7 (.take 8 (.take 9 .done)))))))))) (fun _ => True) (by kernel_rfl) (by kernel_rfl) (fun c a d v w h => by cases d <;> exact h) trivial ?_
        iterate 4 (apply plan_take rfl rfl; (case hy => (intro w' hS; go_simp; try exact rfl)); go_simp)
        refine plan_run_on rfl rfl (fun K hK => ?_)
        go_simp
        refine c2.mono ?_
        rintro e w2 ⟨rfl, rfl⟩
        refine hK _ _ _ (fun _ h => h) trivial ?_
        clear hK K
        go_simp
        (apply plan_take rfl rfl; (case hy => (intro w' hS; go_simp; try exact rfl)); go_simp)
        refine plan_run_on rfl rfl (fun K hK => ?_)
        go_simp
        refine c3.mono ?_
        rintro e w2 ⟨rfl, rfl⟩
        refine hK _ _ _ (fun _ h => h) trivial ?_
        clear hK K
        go_simp
        iterate 3 (apply plan_take rfl rfl; (case hy => (intro w' hS; go_simp; try exact rfl)); go_simp)
        refine plan_done ?_
        go_wp2
        refine bodyPost_ret (results_list rfl (by simp) (.tmp (.tmp (.tmp (.tmp .nil))))) rfl ⟨rfl, (Below.refl _ _).drew⟩
      by_cases hk : k = 0
      · rw [if_pos (.inr hk)]
        subst hk
        have hg2 : (g == 0) = false := by simpa using hg
        go_enter Tryz.func122, Tryz.ntmps122
        go_wp2_with fail
        refine c1.mono ?_
        rintro e w1 ⟨rfl, rfl⟩
        go_wp2_with fail
        refine wp_region_plan [] (.take 0 (.take 1 (.take 4 (.take 5 (.run 2 (.take 3 (.run 6 (.take 7 (.take 8 (.take 9 .done)))))))))) (fun _ => True) (by kernel_rfl) (by kernel_rfl) (fun c a d v w h => by cases d <;> exact h) trivial ?_
        iterate 4 (apply plan_take rfl rfl; (case hy => (intro w' hS; go_simp; try exact rfl)); go_simp)
        refine plan_run_on rfl rfl (fun K hK => ?_)
        go_simp
        refine c2.mono ?_
        rintro e w2 ⟨rfl, rfl⟩
        refine hK _ _ _ (fun _ h => h) trivial ?_
        clear hK K
        go_simp
        (apply plan_take rfl rfl; (case hy => (intro w' hS; go_simp; try exact rfl)); go_simp)
        refine plan_run_on rfl rfl (fun K hK => ?_)
        go_simp
        refine c3.mono ?_
        rintro e w2 ⟨rfl, rfl⟩
        refine hK _ _ _ (fun _ h => h) trivial ?_
        clear hK K
        go_simp
        iterate 3 (apply plan_take rfl rfl; (case hy => (intro w' hS; go_simp; try exact rfl)); go_simp)
        refine plan_done ?_
        go_wp2
        refine bodyPost_ret (results_list rfl (by simp) (.tmp (.tmp (.tmp (.tmp .nil))))) rfl ⟨rfl, (Below.refl _ _).drew⟩
      rw [if_neg (by omega)]
      have hg2 : (g == 0) = false := by simpa using hg
      have hk2 : (k == 0) = false := by simpa using hk
      go_enter Tryz.func122, Tryz.ntmps122
      go_wp2_with fail
      refine c1.mono ?_
      rintro e w1 ⟨rfl, rfl⟩
      go_wp2_with fail
      refine wp_region_plan [] (.take 0 (.take 1 (.take 4 (.take 5 (.run 2 (.take 3 (.run 6 (.take 7 (.take 8 (.take 9 .done)))))))))) (fun _ => True) (by kernel_rfl) (by kernel_rfl) (fun c a d v w h => by cases d <;> exact h) trivial ?_
      iterate 4 (apply plan_take rfl rfl; (case hy => (intro w' hS; go_simp; try exact rfl)); go_simp)
      refine plan_run_on rfl rfl (fun K hK => ?_)
      go_simp
      refine c2.mono ?_
      rintro e w2 ⟨rfl, rfl⟩
      refine hK _ _ _ (fun _ h => h) trivial ?_
      clear hK K
      go_simp
      (apply plan_take rfl rfl; (case hy => (intro w' hS; go_simp; try exact rfl)); go_simp)
      refine plan_run_on rfl rfl (fun K hK => ?_)
      go_simp
      refine c3.mono ?_
      rintro e w2 ⟨rfl, rfl⟩
      refine hK _ _ _ (fun _ h => h) trivial ?_
      clear hK K
      go_simp
      iterate 3 (apply plan_take rfl rfl; (case hy => (intro w' hS; go_simp; try exact rfl)); go_simp)
      refine plan_done ?_
      go_wp2
      refine bodyPost_ret (results_list rfl (by simp) (.tmp (.tmp (.tmp (.tmp .nil))))) rfl ⟨rfl, (Below.refl _ _).drew⟩
    · rw [body_no (fun hh => ht hh.2.1)]
      have hS : ¬ strOfNums (b.take 2) = ⟨#[102, 98]⟩ := fun e => ht (hs.1 e)
      generalize strOfNums (b.take 2) = S at hcv hS
      have hS2 : (S.toList == [102, 98]) = false := str_neq hS
      clear hs
      go_enter Tryz.func122, Tryz.ntmps122
      go_wp2
      refine bodyPost_ret (results_list rfl (by simp) (.tmp (.tmp (.tmp (.tmp .nil))))) rfl ⟨rfl, Below.refl _ _⟩
  · rw [body_no (fun hh => h64 hh.1)]
    have hne : ((b.length : Int) != 64) = true := by simp; omega
    have hne2 : ¬ (b.length : Int) = 64 := by omega
    go_enter Tryz.func122, Tryz.ntmps122
    go_wp2
    refine bodyPost_ret (results_list rfl (by simp) (.tmp (.tmp (.tmp (.tmp .nil))))) rfl ⟨rfl, Below.refl _ _⟩

theorem RB_some {w : World} {ok : Nat → Prop} {A : Option Addr} {b : List Int} (h : RB w ok A b) (h0 : 0 < b.length) : ∃ a, A = some a := by
  cases A with
  | none => rw [RB_none h] at h0; simp at h0
  | some a => exact ⟨a, rfl⟩
end Go.Proofs.YticogmpafehomaaGreatDoor

set_option linter.unusedVariables false
set_option linter.unusedSimpArgs false
namespace Go.Proofs.YticogmpafehomaaGreatDoor
open Go.RowKit Go.Proofs.YticogmpafehomaaGreatDoorW.PrintWords
section
variable {P : Program} {Q : Exit → Act → World → Prop} {a : Act} {o : Oper} {K : Act → World → Prop}
theorem step_append_row {w0 W : World} (base : Nat) (s x : Operand) (t e : TypeId) (k : IntKind) (bytes : Nat)
    (ho : o.op = .call { callee := .builtin .append, args := #[s, x], argTypes := #[t, t] })
    (ht : P.underlying t = some (.slice e)) (hinfo : (P.info? e).map (fun i => (i.zero, i.size, i.bytes)) = some (some (.int k 0), 1, bytes)) (hb0 : 0 < bytes)
    (v : Value) (xs ys : List Int) (A : Option Addr) (m c : Nat) (hs : a.eval s = v) (hx : a.eval x = .slice A m c)
    (HO : W.ownsRow base e 1 v xs.length (nums k xs)) (HR : ReadsInt W k A m ys) (HB : Below base w0 W) (hbase : base ≤ W.heap.size) (hl : (xs.length + m) * bytes ≤ 140737488355328)
    (h : ∀ v1 w1, w1.ownsRow base e 1 v1 (xs ++ ys).length (nums k (xs ++ ys)) → Below base w0 w1 → W.grownBy w1 v.ownBlock → (v1.ownBlock = v.ownBlock ∨ ∃ b, v1.ownBlock = some b ∧ W.heap.size ≤ b) → K (a.put o.dst v1) w1) :
    Oper.wp P o a W K Q := by
  obtain ⟨i0, hi, hzz⟩ := Option.map_eq_some_iff.1 hinfo
  simp only [Prod.mk.injEq] at hzz
  obtain ⟨hz0, hz1, hz2⟩ := hzz
  have hm : ys.length = m := HR.1
  have hlen : xs.length + m ≤ 140737488355328 := Nat.le_trans (Nat.le_mul_of_pos_right _ hb0) hl
  have hrun : ∃ v1 w1, (Builtin.append_ #[t, t] o.type #[v, .slice A m c]).run P W = .ok v1 w1 ∧ w1.ownsRow base e 1 v1 (xs ++ ys).length (nums k (xs ++ ys)) ∧ W.grownBy w1 v.ownBlock ∧ (v1.ownBlock = v.ownBlock ∨ v1.ownBlock = some W.heap.size) := by
    rcases A with _ | ad
    · have h0 : m = 0 := by
        rcases Nat.eq_zero_or_pos m with h0 | h0
        · exact h0
        · obtain ⟨ad, h, _⟩ := HR.2.2 h0
          cases h
      subst h0
      obtain rfl : ys = [] := List.eq_nil_of_length_eq_zero hm
      refine ⟨v, W, ?_, by simpa using HO, World.grownBy.refl W _, .inl rfl⟩
      rcases HO.2 with ⟨rfl, hn⟩ | ⟨g, cap, cur, rfl, _, _, hnc, _⟩
      · simp [Builtin.append_, run_underlying ht, sizeOf, typeInfo, hi, Builtin.lenOf, Builtin.firstCells]
      · simp [Builtin.append_, run_underlying ht, sizeOf, typeInfo, hi, Builtin.lenOf, Builtin.firstCells, hnc, storeCells]
    · have hcells : ∀ j u, (nums k ys)[j]? = some u → W.cell? (ad.add j) = some u := by
        intro j u hu
        have hj : j < ys.length := by
          rcases Nat.lt_or_ge j ys.length with h | h
          · exact h
          · simp [nums, List.getElem?_eq_none h] at hu
        obtain ⟨ad', h', hc⟩ := HR.2.2 (by omega)
        injection h' with h'
        subst h'
        have := hc j (by omega)
        simp [nums, List.getElem?_eq_getElem hj] at hu
        subst hu
        rw [this]
        simp [List.getD_eq_getElem?_getD, List.getElem?_eq_getElem hj]
      obtain ⟨v1, w1, hr, h2, h3, _, h5⟩ := run_append_own_at (P := P) W base t o.type e i0 (.int k 0) 1 bytes ht hi hz0 hz1 hz2 rfl (by omega) v xs.length (nums k xs) HO ad m c (nums k ys) (by simp [nums, hm]) hcells
        (by intro u hu; simp only [nums, List.mem_map] at hu; obtain ⟨q, _, rfl⟩ := hu; rfl) (by simp only [maxLen]; omega) hl hbase
      exact ⟨v1, w1, hr, by simpa [nums, hm] using h2, h3, h5⟩
  obtain ⟨v1, w1, hr, hown, hg, hat⟩ := hrun
  unfold Oper.wp execOp
  simp only [ho, resolve, invoke, builtin, Sem.run_bind, Sem.run_pure, Result.andThen_ok, List.map_toArray, List.map_cons, List.map_nil, hs, hx, hr]
  refine h v1 w1 hown (HB.grown hg hbase (own_base HO)) hg ?_
  rcases hat with hat | hat
  · exact .inl hat
  · exact .inr ⟨_, hat, Nat.le_refl _⟩
end
end Go.Proofs.YticogmpafehomaaGreatDoor
