/- What a call's argument reads as, opened kind by kind: numbers, bools, strings, slices and structs of them, with the sizes that the row's weights give. -/
import Derived.Test.YthfoafjjenegaaaDoorProg
import Derived.Test.YthfoafjjenegaaaDoorMem
import Derived.WalkKit
import Derived.Deep.Slices
import Derived.SizedLaws
set_option linter.unusedVariables false
set_option linter.unusedSimpArgs false
namespace Go.Proofs.YthfoafjjenegaaaDoor
open Go.RowKit Go.Proofs.YthfoafjjenegaaaDoorW.PrintWords

/-- A value of type t, where it is read, is of kind K and obeys G. -/
structure Opens (P : Program) (t : TypeId) {α : Type} (K : Kd α) (G : α → Prop) : Prop where
  go : ∀ {H : Type} {enc : TypeId × Value → H} {W : World} {base : Nat} {spare : Nat → Bool} {held : Bool} {fuel : Nat} {cs : List Value} {d : DataW H} {ps : List MemPlace},
    DataW.trod enc P W base spare held fuel t cs = some (d, ps) → (∀ n ∈ d.weights P t, n ≤ reachBytes) → ∃ x, K.K W x cs ∧ G x
/-- The same of a struct's fields, from the offset off on. -/
structure OpensF (P : Program) (fs : List Field) (off : Nat) {α : Type} (K : Kd α) (G : α → Prop) : Prop where
  go : ∀ {H : Type} {enc : TypeId × Value → H} {W : World} {base : Nat} {spare : Nat → Bool} {held : Bool} {fuel : Nat} {cs : List Value} {xs : List (DataW H × List MemPlace)},
    cs.length = off + K.sz → xs.length = fs.length → (∀ (i : Nat) (f : Field), fs[i]? = some f → DataW.trod enc P W base spare held fuel f.type ((cs.drop f.offset).take (P.cellsOf f.type)) = xs[i]?) →
    (∀ n ∈ DataW.weightsEach P (fs.map (·.type)) (xs.map (·.1)), n ≤ reachBytes) → ∃ x, K.K W x (cs.drop off) ∧ G x

section
variable {P : Program} {t e : TypeId}

theorem opens_int {k : IntKind} (ht : P.underlying t = some (.int k)) : Opens P t (Kd.int k) (fun n => (Lit.int k n).wf = true) := by
  constructor
  intro H enc W base spare held fuel cs d ps h _
  obtain ⟨n, rfl, _, hw⟩ := DataW.trod_int ht h
  exact ⟨n, rfl, hw⟩
theorem opens_bool (ht : P.underlying t = some .bool) : Opens P t Kd.bool (fun _ => True) := by
  constructor
  intro H enc W base spare held fuel cs d ps h _
  obtain ⟨n, rfl, _⟩ := DataW.trod_bool ht h
  exact ⟨n, rfl, trivial⟩
theorem opens_string (ht : P.underlying t = some .string) : Opens P t Kd.string (fun s => s.size ≤ 140737488351232) := by
  constructor
  intro H enc W base spare held fuel cs d ps h hw
  obtain ⟨s, rfl, hx, _⟩ := DataW.trod_string ht h
  obtain ⟨rfl, _⟩ := Prod.mk.inj hx
  refine ⟨s, rfl, ?_⟩
  have := hw s.data.toList.length (by simp [DataW.weights])
  rw [Array.length_toList] at this
  exact this
theorem weightsAll_mem {H : Type} {ds : List (DataW H)} {d : DataW H} (hd : d ∈ ds) {n : Nat} (hn : n ∈ d.weights P e) : n ∈ DataW.weightsAll P e ds := by
  induction ds with
  | nil => simp at hd
  | cons a r ih =>
    simp only [DataW.weightsAll, List.mem_append]
    rcases List.mem_cons.1 hd with rfl | hd
    · exact .inl hn
    · exact .inr (ih hd)
theorem opens_slice {α : Type} {K : Kd α} {G : α → Prop} {B : Nat} (ht : P.underlying t = some (.slice e)) (hc : P.cellsOf e = K.sz) (hB : P.bytesOf e = B) (hO : Opens P e K G) :
    Opens P t (Kd.slice e K) (fun xs => (∀ x ∈ xs, G x) ∧ xs.length * B ≤ 140737488351232) := by
  constructor
  intro H enc W base spare held fuel cs d ps h hw
  rcases Go.Deep.open_slice ht h with ⟨rfl, hx⟩ | ⟨a, len, cap, m, n, D, Pl, rfl, _, hl, hm, hmm, hx, hel⟩
  · exact ⟨[], ⟨none, 0, rfl, Nat.le_refl _, rfl, by simp, fun h => absurd h (by simp)⟩, by simp, by simp⟩
  · obtain ⟨rfl, _⟩ := Prod.mk.inj hx
    have hlm : len ≤ m := by rw [hmm]; split <;> omega
    have one : ∀ i, i < len → ∃ x, (∃ cs', W.cells? base (a.add (i * P.cellsOf e)) (P.cellsOf e) = some cs' ∧ K.K W x cs') ∧ G x := fun i hi => by
      obtain ⟨cs', h1, h2⟩ := hel i (by omega)
      obtain ⟨x, hk, hg⟩ := hO.go h2 (fun n hn => hw n (by
        simp only [DataW.weights, ht]
        exact List.mem_cons_of_mem _ (List.mem_append_left _ (weightsAll_mem (List.mem_map.2 ⟨i, List.mem_range.2 hi, rfl⟩) hn))))
      exact ⟨x, ⟨cs', h1, hk⟩, hg⟩
    rcases Nat.eq_zero_or_pos len with h0 | h0
    · subst h0
      exact ⟨[], ⟨some a, cap, rfl, Nat.zero_le _, rfl, by simp, fun h => absurd h (by simp)⟩, by simp, by simp⟩
    · obtain ⟨x0, _⟩ := one 0 h0
      haveI : Inhabited α := ⟨x0⟩
      obtain ⟨X, hX⟩ := Go.Deep.choose_lt (α := α) (p := fun i x => (∃ cs', W.cells? base (a.add (i * P.cellsOf e)) (P.cellsOf e) = some cs' ∧ K.K W x cs') ∧ G x) one
      have hlen : ((List.range len).map X).length = len := by simp
      refine ⟨(List.range len).map X, ⟨some a, cap, by rw [hlen], by rw [hlen]; exact hl, hlen.symm ▸ rfl, ?_, ?_⟩, ?_, ?_⟩
      · rw [hlen]; exact Nat.le_trans hl (Nat.le_trans hm (by decide))
      · intro _
        refine ⟨a, rfl, fun j p hj => ?_⟩
        have hjl : j < len := by
          have := (List.getElem?_eq_some_iff.1 hj).1
          simpa using this
        have hp : X j = p := by simpa [hjl] using hj
        obtain ⟨⟨cs', h1, hk⟩, _⟩ := hX j hjl
        rw [← hp]
        refine ⟨cs', K.K_len hk, hk, fun i u hu => ?_⟩
        obtain ⟨_, hlen', hcell⟩ := World.cells?_some h1
        have := hcell i (by have := (List.getElem?_eq_some_iff.1 hu).1; omega)
        rw [Go.Deep.add_add, hc] at this
        rw [this, hu]
      · intro x hx
        obtain ⟨i, hi, rfl⟩ := List.mem_map.1 hx
        exact (hX i (List.mem_range.1 hi)).2
      · have := hw ((((List.range len).map D).length + ((List.range (m - len)).map fun j => D (len + j)).length) * P.bytesOf e) (by simp [DataW.weights, ht])
        rw [hB] at this
        simp only [List.length_map, List.length_range] at this ⊢
        exact Nat.le_trans (Nat.mul_le_mul_right _ (by omega)) this
theorem opensF_one {α : Type} {K : Kd α} {G : α → Prop} {f : Field} {off : Nat} (ho : f.offset = off) (hc : P.cellsOf f.type = K.sz) (hO : Opens P f.type K G) : OpensF P [f] off K G := by
  constructor
  intro H enc W base spare held fuel cs xs hcs hxs hf hw
  match xs, hxs with
  | [(d, ps)], _ =>
    have h := hf 0 f rfl
    have e0 : ((cs.drop f.offset).take (P.cellsOf f.type)) = cs.drop off := by
      rw [ho, hc]; exact List.take_of_length_le (by rw [List.length_drop]; omega)
    rw [e0] at h
    exact hO.go h (fun n hn => hw n (by simpa [DataW.weightsEach] using hn))
theorem opensF_cons {α β : Type} {K : Kd α} {L : Kd β} {G : α → Prop} {G' : β → Prop} {f : Field} {fs : List Field} {off : Nat} (ho : f.offset = off) (hc : P.cellsOf f.type = K.sz) (hO : Opens P f.type K G)
    (hF : OpensF P fs (off + K.sz) L G') : OpensF P (f :: fs) off (Kd.pair K L) (fun x => G x.1 ∧ G' x.2) := by
  constructor
  intro H enc W base spare held fuel cs xs hcs hxs hf hw
  match xs, hxs with
  | (d, ps) :: xs, hxs =>
    have hcs' : cs.length = off + (K.sz + L.sz) := hcs
    have h := hf 0 f rfl
    rw [ho, hc] at h
    obtain ⟨x, hk, hg⟩ := hO.go h (fun n hn => hw n (by simp only [List.map_cons, DataW.weightsEach, List.mem_append]; exact .inl hn))
    obtain ⟨y, hl, hg'⟩ := hF.go (cs := cs) (xs := xs) (by omega) (by simpa using hxs) (fun i g hi => by simpa using hf (i + 1) g (by simpa using hi)) (fun n hn => hw n (by simp only [List.map_cons, DataW.weightsEach, List.mem_append]; exact .inr hn))
    refine ⟨(x, y), ⟨(cs.drop off).take K.sz, cs.drop (off + K.sz), ?_, hk, hl⟩, hg, hg'⟩
    rw [← List.drop_drop, List.take_append_drop]
theorem opens_struct {α : Type} {K : Kd α} {G : α → Prop} {fs : Array Field} (ht : P.underlying t = some (.struct fs)) (hc : P.cellsOf t = K.sz) (hF : OpensF P fs.toList 0 K G) : Opens P t K G := by
  constructor
  intro H enc W base spare held fuel cs d ps h hw
  obtain ⟨xs, n, rfl, hx, hcs, hxs, hf⟩ := DataW.trod_struct ht h
  obtain ⟨rfl, _⟩ := Prod.mk.inj hx
  have := hF.go (enc := enc) (W := W) (base := base) (spare := spare) (held := held) (fuel := n) (cs := cs) (xs := xs) (by omega) (by simpa using hxs) (fun i f hi => hf i f (by simpa using hi))
    (fun n hn => hw n (by simpa [DataW.weights, ht] using hn))
  simpa using this
theorem opens_iso {α β : Type} {K : Kd α} {G : α → Prop} (f : β → α) (g : α → β) (hfg : ∀ x, f (g x) = x) (h : Opens P t K G) : Opens P t (Kd.iso K f) (fun x => G (f x)) := by
  constructor
  intro H enc W base spare held fuel cs d ps hd hw
  obtain ⟨x, hk, hx⟩ := h.go hd hw
  refine ⟨g x, ?_, by show G (f (g x)); rw [hfg]; exact hx⟩
  show K.K W (f (g x)) cs
  rw [hfg]; exact hk
theorem Opens.mono {α : Type} {K : Kd α} {G G' : α → Prop} (h : Opens P t K G) (hG : ∀ x, G x → G' x) : Opens P t K G' := ⟨fun hd hw => by
  obtain ⟨x, hk, hx⟩ := h.go hd hw
  exact ⟨x, hk, hG x hx⟩⟩
/-- Down from a row's weights. -/
theorem Opens.arg {α : Type} {K : Kd α} {G : α → Prop} (hO : Opens P t K G) {H : Type} {enc : TypeId × Value → H} {W : World} {base : Nat} {spare : Nat → Bool} {held : Bool} {v : Value} {d : DataW H} {ps : List MemPlace} {ts : List TypeId} {ds : List (DataW H)} {j : Nat}
    (hsz : (DataW.weightsEach P ts ds).all (· ≤ reachBytes) = true) (ht : ts[j]? = some t) (hd : ds[j]? = some d) (h : DataW.Trod enc P W base spare held t v d ps) : ∃ x, K.K W x v.cells.toList ∧ G x := by
  obtain ⟨fuel, hf⟩ := h
  exact hO.go hf (fun n hn => by
    have := List.all_eq_true.1 hsz _ (DataW.weights_mem_each ht hd n hn)
    simpa using this)
/-- .. of a slice. -/
theorem opens_slice_arg {α : Type} {K : Kd α} {G : List α → Prop} (hO : Opens P t (Kd.slice e K) G) {H : Type} {enc : TypeId × Value → H} {W : World} {base : Nat} {spare : Nat → Bool} {held : Bool} {a : Option Addr} {len cap : Nat} {d : DataW H} {ps : List MemPlace} {ts : List TypeId} {ds : List (DataW H)} {j : Nat}
    (hsz : (DataW.weightsEach P ts ds).all (· ≤ reachBytes) = true) (ht : ts[j]? = some t) (hd : ds[j]? = some d) (h : DataW.Trod enc P W base spare held t (.slice a len cap) d ps) : ∃ xs, len = xs.length ∧ len ≤ cap ∧ K.C W a xs.length xs ∧ G xs := by
  obtain ⟨xs, ⟨A, c, hcs, hl, hC⟩, hg⟩ := hO.arg hsz ht hd h
  simp [Value.cells] at hcs
  obtain ⟨rfl, rfl, rfl⟩ := hcs
  exact ⟨xs, rfl, hl, hC, hg⟩
end
end Go.Proofs.YthfoafjjenegaaaDoor
