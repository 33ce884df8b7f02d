/- Words on memory: what a call may have changed ('Chg'), bytes that are read, rows of a call's own. No Go function in sight. -/
import Derived.Test.YthfoafjjenegaaaDoorWWords
import Derived.Test.YthfoafjjenegaaaDoorWLast
import Derived.Test.YthfoafjjenegaaaDoorWMore
import Derived.Test.YthfoafjjenegaaaDoorWShare
import Derived.Deep.MidRow
import Derived.Laws.CopyOwn
set_option linter.unusedVariables false
set_option linter.unusedSimpArgs false
namespace Go.Proofs.YthfoafjjenegaaaDoor
open Go.RowKit Go.Proofs.YthfoafjjenegaaaDoorW.PrintWords

/-- Between w and w' only blocks of S have been written, and new ones made. -/
structure Chg (S : Nat → Prop) (w w' : World) : Prop where
  os : w'.os = w.os
  tape : w'.tape = w.tape
  output : w'.output = w.output
  size : w.heap.size ≤ w'.heap.size
  block : ∀ k, k < w.heap.size → ¬ S k → w'.heap[k]? = w.heap[k]?

def none_ : Nat → Prop := fun _ => False
theorem hid {p : Prop} (h : p) : Hid p := h

namespace Chg
variable {S S2 : Nat → Prop} {w w1 w2 w' : World}
theorem refl (S : Nat → Prop) (w : World) : Chg S w w := ⟨rfl, rfl, rfl, Nat.le_refl _, fun _ _ _ => rfl⟩
theorem then_ (h : Chg S w w1) (k : Chg S2 w1 w2) (hs : ∀ k, S2 k → S k ∨ w.heap.size ≤ k) : Chg S w w2 :=
  ⟨k.os.trans h.os, k.tape.trans h.tape, k.output.trans h.output, Nat.le_trans h.size k.size, fun i hi hn =>
    (k.block i (Nat.lt_of_lt_of_le hi h.size) (fun h2 => (hs i h2).elim hn (fun h3 => by omega))).trans (h.block i hi hn)⟩
theorem mono (h : Chg S w w') (hs : ∀ k, S k → S2 k) : Chg S2 w w' := ⟨h.os, h.tape, h.output, h.size, fun i hi hn => h.block i hi (fun hk => hn (hs i hk))⟩
theorem of_below (h : Below w.heap.size w w') (S : Nat → Prop) : Chg S w w' := ⟨h.os, h.tape, h.output, h.size, fun i hi _ => h.block i hi⟩
theorem below_ (h : Chg S w w') {B : Nat} (hB : B ≤ w.heap.size) (hS : ∀ k, S k → B ≤ k) : Below B w w' :=
  ⟨h.os, h.tape, h.output, h.size, fun i hi => h.block i (by omega) (fun hk => by have := hS i hk; omega)⟩
theorem below0 (h : Chg none_ w w') : Below w.heap.size w w' := h.below_ (Nat.le_refl _) (fun _ hk => hk.elim)
theorem same (h : Chg S w w1) (k : Below w1.heap.size w1 w2) : Chg S w w2 := h.then_ (of_below k none_) (fun _ hk => hk.elim)
theorem alloc (h : Chg S w w1) (o : Obj) : Chg S w (w1.alloc o) := h.same (below_alloc (Below.refl _ _) o)
theorem drew (h : Chg S w w1) : Chg S w w1.drew := ⟨h.os, h.tape, h.output, h.size, h.block⟩
theorem drewN (h : Chg S w w1) (n : Nat) : Chg S w (w1.drewN n) := ⟨h.os, h.tape, h.output, h.size, h.block⟩
theorem grown (h : Chg S w w1) {row : Option Nat} (hg : w1.grownBy w2 row) (hr : ∀ k, row = some k → S k ∨ w.heap.size ≤ k) : Chg S w w2 :=
  h.then_ (S2 := fun k => row = some k) ⟨hg.os, hg.tape, hg.output, hg.size, fun i hi hn => hg.block i hi (fun he => hn he.symm)⟩ hr
theorem setCell (h : Chg S w w1) {p : Addr} (hp : S p.block ∨ w.heap.size ≤ p.block) (u : Value) : Chg S w (w1.setCell p u) :=
  h.then_ (S2 := fun k => k = p.block) ⟨rfl, rfl, rfl, by simp [World.setCell], fun i _ hn => Below.heap_setCell w1 p u i hn⟩ (fun k hk => by rw [hk]; exact hp)
theorem old (h : Chg S w w') {k : Nat} {o : Obj} (hk : w.heap[k]? = some o) (hn : ¬ S k) : w'.heap[k]? = some o := (h.block k (Array.getElem?_eq_some_iff.1 hk).1 hn).trans hk
theorem cell_ (h : Chg S w w') {a : Addr} {v : Value} (hc : w.cell? a = some v) (hn : ¬ S a.block) : w'.cell? a = some v := by
  have := h.block a.block (World.block_lt_of_cell? w a hc) hn
  simpa [World.cell?, this] using hc
theorem stays (h : Chg S w w') {ok : Nat → Prop} (hne : ∀ k, ok k → ¬ S k) : ∀ k, ok k → k < w.heap.size → w'.heap[k]? = w.heap[k]? := fun k hk hlt => h.block k hlt (hne k hk)
/-- A step in place: row g of w1 has new cells. -/
theorem setRow (h : Chg S w w1) {g : Nat} (hp : S g ∨ w.heap.size ≤ g) (cs : Array Value) : Chg S w (w1.setRow g cs) :=
  h.then_ (S2 := fun k => k = g) ⟨rfl, rfl, rfl, by simp [World.setRow], fun i _ hn => by simp only [World.setRow, Array.getElem?_modify]; rw [if_neg (fun e => hn e.symm)]⟩ (fun k hk => by rw [hk]; exact hp)
end Chg

/-- ok, or new since w. -/
def orNew (ok : Nat → Prop) (w : World) : Nat → Prop := fun k => ok k ∨ w.heap.size ≤ k
/-- Two footprints have no block in common. -/
def apart (a b : Nat → Prop) : Prop := ∀ k, a k → ¬ b k
theorem apart.symm {a b : Nat → Prop} (h : apart a b) : apart b a := fun k hb ha => h k ha hb
theorem apart.mono {a b a' b' : Nat → Prop} (h : apart a b) (ha : ∀ k, a' k → a k) (hb : ∀ k, b' k → b k) : apart a' b' := fun k h1 h2 => h k (ha k h1) (hb k h2)
def lt_ (w : World) : Nat → Prop := fun k => k < w.heap.size

/-- A list of bytes as memory has it. -/
abbrev KB : Kd Int := Kd.int .u8
/-- A slice of bytes that is read; what it leads to lies in ok. -/
abbrev RB (w : World) (ok : Nat → Prop) (A : Option Addr) (xs : List Int) : Prop := Kd.F KB w ok A xs.length xs
def Bytes (xs : List Int) : Prop := ∀ x ∈ xs, 0 ≤ x ∧ x < 256
theorem Bytes.nil : Bytes [] := fun x hx => by simp at hx
theorem Bytes.append {a b : List Int} (h : Bytes a) (k : Bytes b) : Bytes (a ++ b) := fun x hx => (List.mem_append.1 hx).elim (h x) (k x)
theorem Bytes.take {a : List Int} (h : Bytes a) (n : Nat) : Bytes (a.take n) := fun x hx => h x (List.mem_of_mem_take hx)
theorem Bytes.drop {a : List Int} (h : Bytes a) (n : Nat) : Bytes (a.drop n) := fun x hx => h x (List.mem_of_mem_drop hx)
theorem Bytes.set {a : List Int} (h : Bytes a) (i : Nat) {v : Int} (hv : 0 ≤ v ∧ v < 256) : Bytes (a.set i v) := fun x hx => (List.mem_or_eq_of_mem_set hx).elim (h x) (fun e => e ▸ hv)
theorem Bytes.zeros (n : Nat) : Bytes (List.replicate n 0) := fun x hx => by rw [List.eq_of_mem_replicate hx]; omega
theorem Bytes.rd_ {a : List Int} (h : Bytes a) (i : Int) : 0 ≤ rd a i ∧ rd a i < 256 := by
  unfold rd
  rw [List.getD_eq_getElem?_getD]
  rcases Nat.lt_or_ge i.toNat a.length with hl | hl
  · rw [List.getElem?_eq_getElem hl]; exact h _ (List.getElem_mem hl)
  · rw [List.getElem?_eq_none hl]; simp

end Go.Proofs.YthfoafjjenegaaaDoor
namespace Go.Proofs.YthfoafjjenegaaaDoor
open Go.RowKit Go.Proofs.YthfoafjjenegaaaDoorW.PrintWords
section
variable {w w1 : World} {base g n cap off : Nat} {e : TypeId} {size : Nat} {xs vs : List Value}
/-! ### A row of a call's own, some of its cells written at once -/
theorem heap_setCells (vs : List Value) : ∀ (off : Nat) (w : World) (cur : Array Value), w.heap[g]? = some (.cells cur e (0, 0)) → off + vs.length ≤ cur.size →
    (w.setCells g off vs).heap[g]? = some (.cells (splice cur.toList off vs).toArray e (0, 0)) := by
  induction vs with
  | nil =>
    intro off w cur h hl
    simp [World.setCells, splice, h]
  | cons v vs ih =>
    intro off w cur h hl
    have h1 : (w.setCell ⟨g, off, none⟩ v).heap[g]? = some (.cells (cur.setIfInBounds off v) e (0, 0)) := heap_setCell_same w g off cur e v h
    have h2 := ih (off + 1) _ _ h1 (by simp at hl ⊢; omega)
    show ((w.setCell ⟨g, off, none⟩ v).setCells g (off + 1) vs).heap[g]? = _
    rw [h2]
    have hoff : off < cur.toList.length := by simp at hl ⊢; omega
    have : splice (cur.setIfInBounds off v).toList (off + 1) vs = splice cur.toList off (v :: vs) := by
      unfold splice
      rw [Array.toList_setIfInBounds]
      rw [List.take_set, List.take_succ_eq_append_getElem hoff, List.drop_set]
      rw [if_pos (by omega)]
      have : (List.take off cur.toList ++ [cur.toList[off]]).set off v = List.take off cur.toList ++ [v] := by
        have hle : (List.take off cur.toList).length = off := by rw [List.length_take]; exact Nat.min_eq_left (Nat.le_of_lt hoff)
        rw [List.set_append_right _ _ (by omega)]
        have : off - (List.take off cur.toList).length = 0 := by omega
        rw [this]; rfl
      rw [this]
      simp [Nat.add_assoc, Nat.add_comm 1]
    rw [this]
theorem heap_setCells_ne (vs : List Value) (k : Nat) (hk : k ≠ g) : ∀ (off : Nat) (w : World), (w.setCells g off vs).heap[k]? = w.heap[k]? := by
  induction vs with
  | nil => intro off w; rfl
  | cons v vs ih => intro off w; show ((w.setCell ⟨g, off, none⟩ v).setCells g (off + 1) vs).heap[k]? = _; rw [ih]; exact Below.heap_setCell w ⟨g, off, none⟩ v k hk
theorem size_setCells (vs : List Value) : ∀ (off : Nat) (w : World), (w.setCells g off vs).heap.size = w.heap.size := by
  induction vs with
  | nil => intro off w; rfl
  | cons v vs ih => intro off w; show ((w.setCell ⟨g, off, none⟩ v).setCells g (off + 1) vs).heap.size = _; rw [ih]; simp [World.setCell]
theorem rest_setCells (vs : List Value) : ∀ (off : Nat) (w : World), (w.setCells g off vs).os = w.os ∧ (w.setCells g off vs).tape = w.tape ∧ (w.setCells g off vs).output = w.output := by
  induction vs with
  | nil => intro off w; exact ⟨rfl, rfl, rfl⟩
  | cons v vs ih => intro off w; exact ih (off + 1) (w.setCell ⟨g, off, none⟩ v)
theorem Chg.setCells {S : Nat → Prop} {w w1 : World} (h : Chg S w w1) {g : Nat} (hp : S g ∨ w.heap.size ≤ g) (off : Nat) (vs : List Value) : Chg S w (w1.setCells g off vs) :=
  h.then_ (S2 := fun k => k = g) ⟨(rest_setCells vs off w1).1, (rest_setCells vs off w1).2.1, (rest_setCells vs off w1).2.2, by rw [size_setCells]; exact Nat.le_refl _, fun i _ hn => heap_setCells_ne vs i hn off w1⟩ (fun k hk => by rw [hk]; exact hp)
theorem length_splice' (L vs : List Value) (off : Nat) (h : off + vs.length ≤ L.length) : (splice L off vs).length = L.length := length_splice L off vs h
theorem take_splice {α : Type} (L vs : List α) (off m : Nat) (h : off + vs.length ≤ m) (hm : m ≤ L.length) : (splice L off vs).take m = splice (L.take m) off vs := by
  unfold splice
  rw [List.take_take, Nat.min_eq_left (by omega), List.take_append, List.take_append]
  have h1 : (L.take off).length = off := by simp; omega
  rw [h1, List.take_of_length_le (l := L.take off) (by omega), List.take_of_length_le (l := vs) (by omega), List.drop_take]
  congr 3
  omega
theorem map_splice {α β : Type} (f : α → β) (L vs : List α) (off : Nat) : (splice L off vs).map f = splice (L.map f) off (vs.map f) := by
  simp [splice, List.map_take, List.map_drop]
/-- Cells of a row of one's own, written at once. -/
theorem own_setCells (h : w.ownsRow base e size (.slice (some ⟨g, 0, none⟩) n cap) n xs) (hl : off + vs.length ≤ n * size) :
    (w.setCells g off vs).ownsRow base e size (.slice (some ⟨g, 0, none⟩) n cap) n (splice xs off vs) := by
  obtain ⟨h1, h2⟩ := h
  refine ⟨by rw [length_splice _ _ _ (by omega)]; exact h1, ?_⟩
  rcases h2 with ⟨h2, _⟩ | ⟨g', cap', cur, he, hb, hh, hn, hm, hs, ht⟩
  · cases h2
  · obtain ⟨rfl, rfl⟩ : g = g' ∧ cap = cap' := by injection he with e1 e2 e3; injection e1 with e1; injection e1 with e1; exact ⟨e1, e3⟩
    have hle : n * size ≤ cur.size := by rw [hs]; exact Nat.mul_le_mul_right _ hn
    have hc := heap_setCells vs off w cur hh (by omega)
    refine .inr ⟨g, cap, _, rfl, hb, hc, hn, hm, ?_, ?_⟩
    · simp [length_splice cur.toList off vs (by simp; omega), hs]
    · rw [List.toList_toArray, take_splice _ _ _ _ hl (by simpa using hle), ht]
theorem own_there (h : w.ownsRow base e size (.slice (some ⟨g, 0, none⟩) n cap) n xs) (m : Nat) (hl : off + m ≤ n * size) : w.there g off m := by
  rcases h.2 with ⟨h2, _⟩ | ⟨g', cap', cur, he, hb, hh, hn, hm, hs, ht⟩
  · cases h2
  · obtain ⟨rfl, rfl⟩ : g = g' ∧ cap = cap' := by injection he with e1 e2 e3; injection e1 with e1; injection e1 with e1; exact ⟨e1, e3⟩
    have hle : n * size ≤ cur.size := by rw [hs]; exact Nat.mul_le_mul_right _ hn
    intro j hj
    constructor
    · rw [cell_of_row w g _ cur e (0, 0) hh]
      have : off + j < cur.size := by omega
      simp [this]
    · exact frozen_of_row w g _ cur e hh
theorem own_rangeAt (h : w.ownsRow base e size (.slice (some ⟨g, 0, none⟩) n cap) n xs) (off m : Nat) : w.rangeAt g off ((xs.drop off).take m) := by
  intro j v hj
  rw [List.getElem?_take] at hj
  split at hj
  · rw [List.getElem?_drop] at hj
    have := h.cells (g := g) rfl (off + j) v hj
    rwa [add_plain] at this
  · cases hj
theorem own_form (h : w.ownsRow base e size (.slice (some ⟨g, 0, none⟩) n cap) n xs) : n ≤ cap ∧ cap ≤ maxLen := by
  rcases h.2 with ⟨h2, _⟩ | ⟨g', cap', cur, he, hb, hh, hn, hm, hs, ht⟩
  · cases h2
  · obtain ⟨rfl, rfl⟩ : g = g' ∧ cap = cap' := by injection he with e1 e2 e3; injection e1 with e1; injection e1 with e1; exact ⟨e1, e3⟩
    exact ⟨hn, hm⟩
end
end Go.Proofs.YthfoafjjenegaaaDoor
