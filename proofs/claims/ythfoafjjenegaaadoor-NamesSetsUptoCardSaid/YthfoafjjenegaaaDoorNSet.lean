/- Names: lists of texts as sets: sorted, each once. Plain: no Go, no memory. -/
import Derived.Lib.SlicesCompact
import Derived.Sort.KeysCollected
set_option linter.unusedVariables false
set_option linter.unusedSimpArgs false
namespace Go.Proofs.YthfoafjjenegaaaDoor

abbrev BL := List UInt8
/-- The set of a list: what slices.Sort and slices.Compact make of it. -/
def setB (l : List BL) : List BL := Lib.compact (l.mergeSort fun x y => decide (x ≤ y))
theorem le_tr : ∀ a b c : BL, leB a b = true → leB b c = true → leB a c = true := fun a b c h1 h2 => by simp only [leB, decide_eq_true_eq] at *; exact List.le_trans h1 h2
theorem le_to : ∀ a b : BL, (leB a b || leB b a) = true := fun a b => by simp only [leB, Bool.or_eq_true, decide_eq_true_eq]; exact List.le_total a b
theorem BL.lt_irrefl (a : BL) : ¬ a < a := List.lt_irrefl a
theorem BL.lt_trans {a b c : BL} (h : a < b) (k : b < c) : a < c := List.lt_trans h k
theorem BL.lt_asymm {a b : BL} (h : a < b) : ¬ b < a := fun k => BL.lt_irrefl a (BL.lt_trans h k)
theorem BL.le_iff {a b : BL} : a ≤ b ↔ ¬ b < a := Iff.rfl
theorem BL.eq_of {a b : BL} (h : ¬ a < b) (k : ¬ b < a) : a = b := List.le_antisymm k h
theorem BL.lt_of_le_ne {a b : BL} (h : a ≤ b) (hn : a ≠ b) : a < b := by
  rcases Classical.em (a < b) with k | k
  · exact k
  · exact absurd (BL.eq_of k h) hn
theorem BL.lt_of_le_lt {a b c : BL} (h : a ≤ b) (k : b < c) : a < c := by
  rcases Classical.em (a = b) with e | e
  · subst e; exact k
  · exact BL.lt_trans (BL.lt_of_le_ne h e) k
theorem keeps_iff (zs : List BL) (j : Nat) : Lib.keeps zs.toArray j = true ↔ j = 0 ∨ zs.toArray[j]! ≠ zs.toArray[j - 1]! := by unfold Lib.keeps; exact decide_eq_true_iff
theorem compact_mem {zs : List BL} {x : BL} : x ∈ Lib.compact zs ↔ x ∈ zs := by
  unfold Lib.compact Lib.compactUpTo
  simp only [List.mem_map, List.mem_filter, List.mem_range]
  constructor
  · rintro ⟨j, ⟨hj, _⟩, rfl⟩
    have : zs.toArray[j]! = zs[j] := by simp [hj]
    rw [this]
    exact List.getElem_mem hj
  · intro hx
    obtain ⟨i, hi, rfl⟩ := List.mem_iff_getElem.1 hx
    clear hx
    induction i with
    | zero => exact ⟨0, ⟨hi, (keeps_iff _ _).2 (.inl rfl)⟩, by simp [hi]⟩
    | succ i ih =>
      by_cases hk : Lib.keeps zs.toArray (i + 1) = true
      · exact ⟨i + 1, ⟨hi, hk⟩, by simp [hi]⟩
      · obtain ⟨j, h1, h2⟩ := ih (by omega)
        refine ⟨j, h1, h2.trans ?_⟩
        have h3 := mt (keeps_iff zs (i + 1)).2 hk
        simp only [not_or] at h3
        have h4 : zs.toArray[i + 1]! = zs.toArray[i]! := Classical.byContradiction h3.2
        have h5 : i < zs.length := by omega
        simp [hi, h5] at h4
        exact h4.symm
theorem compact_sorted {zs : List BL} (h : zs.Pairwise (fun a b => leB a b = true)) : (Lib.compact zs).Pairwise (· < ·) := by
  unfold Lib.compact Lib.compactUpTo
  rw [List.pairwise_map]
  have h1 : (List.range zs.length).Pairwise (fun i j => i < j ∧ i < zs.length ∧ j < zs.length) := by
    rw [List.pairwise_iff_getElem]
    intro i j hi hj hij
    simp at hi hj ⊢
    exact ⟨hij, hi, hj⟩
  have h2 := h1.filter (Lib.keeps zs.toArray)
  rw [List.pairwise_iff_getElem] at h2 ⊢
  intro i j hi hj hij
  obtain ⟨g1, g2, g3⟩ := h2 i j hi hj hij
  have hk : Lib.keeps zs.toArray ((List.range zs.length).filter (Lib.keeps zs.toArray))[j] = true := (List.mem_filter.1 (List.getElem_mem hj)).2
  generalize ((List.range zs.length).filter (Lib.keeps zs.toArray))[j] = b at *
  generalize ((List.range zs.length).filter (Lib.keeps zs.toArray))[i] = a at *
  rcases (keeps_iff _ _).1 hk with h0 | h0
  · omega
  · have g4 : b - 1 < zs.length := by omega
    have ea : zs.toArray[a]! = zs[a] := by simp [g2]
    have eb : zs.toArray[b]! = zs[b] := by simp [g3]
    have ec : zs.toArray[b - 1]! = zs[b - 1] := by simp [g4]
    rw [eb, ec] at h0
    rw [ea, eb]
    rw [List.pairwise_iff_getElem] at h
    have h5 : zs[a] ≤ zs[b - 1] := by
      rcases Nat.lt_or_ge a (b - 1) with q | q
      · simpa using h a (b - 1) g2 g4 q
      · have : a = b - 1 := by omega
        subst this
        exact BL.lt_irrefl _
    have h6 : zs[b - 1] ≤ zs[b] := by simpa using h (b - 1) b g4 g3 (by omega)
    exact BL.lt_of_le_lt h5 (BL.lt_of_le_ne h6 (fun e => h0 e.symm))
theorem setB_sorted (l : List BL) : (setB l).Pairwise (· < ·) := compact_sorted (List.pairwise_mergeSort le_tr le_to l)
theorem mem_setB {l : List BL} {x : BL} : x ∈ setB l ↔ x ∈ l := by
  unfold setB
  rw [compact_mem]
  exact (List.mergeSort_perm l _).mem_iff
theorem sorted_eq : ∀ {a b : List BL}, a.Pairwise (· < ·) → b.Pairwise (· < ·) → (∀ x, x ∈ a ↔ x ∈ b) → a = b
  | [], [], _, _, _ => rfl
  | [], y :: b, _, _, h => absurd ((h y).2 List.mem_cons_self) (by simp)
  | x :: a, [], _, _, h => absurd ((h x).1 List.mem_cons_self) (by simp)
  | x :: a, y :: b, ha, hb, h => by
    rw [List.pairwise_cons] at ha hb
    have hxy : x = y := by
      have h1 := (h x).1 List.mem_cons_self
      have h2 := (h y).2 List.mem_cons_self
      rcases List.mem_cons.1 h1 with e | h1
      · exact e
      · rcases List.mem_cons.1 h2 with e | h2
        · exact e.symm
        · exact absurd (ha.1 y h2) (BL.lt_asymm (hb.1 x h1))
    subst hxy
    rw [sorted_eq ha.2 hb.2 (fun z => ?_)]
    constructor
    · intro hz
      rcases List.mem_cons.1 ((h z).1 (List.mem_cons_of_mem _ hz)) with e | e
      · subst e; exact absurd (ha.1 _ hz) (BL.lt_irrefl _)
      · exact e
    · intro hz
      rcases List.mem_cons.1 ((h z).2 (List.mem_cons_of_mem _ hz)) with e | e
      · subst e; exact absurd (hb.1 _ hz) (BL.lt_irrefl _)
      · exact e
theorem setB_len (l : List BL) : (setB l).length ≤ l.length := by
  unfold setB Lib.compact Lib.compactUpTo
  rw [List.length_map]
  refine Nat.le_trans (List.length_filter_le _ _) ?_
  simp
/-! The same over texts. -/
def bl (s : ByteArray) : BL := s.data.toList
def tx (l : BL) : ByteArray := ⟨l.toArray⟩
theorem bl_tx (l : BL) : bl (tx l) = l := by simp [bl, tx]
theorem tx_bl (s : ByteArray) : tx (bl s) = s := by cases s; simp [bl, tx]
theorem bl_inj {a b : ByteArray} (h : bl a = bl b) : a = b := by rw [← tx_bl a, ← tx_bl b, h]
def setS (l : List ByteArray) : List ByteArray := (setB (l.map bl)).map tx
open Classical in
/-- Is it on the list? -/
noncomputable def has (l : List ByteArray) (x : ByteArray) : Bool := decide (x ∈ l)
theorem has_iff {l : List ByteArray} {x : ByteArray} : has l x = true ↔ x ∈ l := by unfold has; simp
theorem has_true {l : List ByteArray} {x : ByteArray} (h : x ∈ l) : has l x = true := has_iff.2 h
theorem has_false {l : List ByteArray} {x : ByteArray} (h : x ∉ l) : has l x = false := by
  cases e : has l x with
  | true => exact absurd (has_iff.1 e) h
  | false => rfl
/-- In order, each once. -/
def Sorted (l : List ByteArray) : Prop := (l.map bl).Pairwise (· < ·)
theorem setS_bl (l : List ByteArray) : (setS l).map bl = setB (l.map bl) := by
  unfold setS
  rw [List.map_map]
  exact (List.map_congr_left (fun x _ => bl_tx x)).trans (List.map_id _)
theorem setS_sorted (l : List ByteArray) : Sorted (setS l) := by unfold Sorted; rw [setS_bl]; exact setB_sorted _
theorem mem_map_bl {l : List ByteArray} {s : ByteArray} : bl s ∈ l.map bl ↔ s ∈ l := by
  rw [List.mem_map]
  exact ⟨fun ⟨a, h1, h2⟩ => bl_inj h2 ▸ h1, fun h => ⟨s, h, rfl⟩⟩
theorem mem_setS {l : List ByteArray} {s : ByteArray} : s ∈ setS l ↔ s ∈ l := by
  rw [← mem_map_bl, setS_bl, mem_setB, mem_map_bl]
theorem map_bl_inj : ∀ {a b : List ByteArray}, a.map bl = b.map bl → a = b
  | [], [], _ => rfl
  | [], _ :: _, h => by simp at h
  | _ :: _, [], h => by simp at h
  | x :: a, y :: b, h => by
    simp only [List.map_cons, List.cons.injEq] at h
    rw [bl_inj h.1, map_bl_inj h.2]
theorem Sorted.eq {a b : List ByteArray} (ha : Sorted a) (hb : Sorted b) (h : ∀ x, x ∈ a ↔ x ∈ b) : a = b := by
  refine map_bl_inj (sorted_eq ha hb (fun x => ?_))
  rw [← bl_tx x, mem_map_bl, mem_map_bl]
  exact h _
theorem setS_eq {l : List ByteArray} {b : List ByteArray} (hb : Sorted b) (h : ∀ x, x ∈ b ↔ x ∈ l) : setS l = b := (setS_sorted l).eq hb (fun x => by rw [mem_setS, h])
theorem setS_len (l : List ByteArray) : (setS l).length ≤ l.length := by
  have := setB_len (l.map bl)
  unfold setS
  rw [List.length_map]
  simpa using this
theorem Sorted.filter {l : List ByteArray} (h : Sorted l) (p : ByteArray → Bool) : Sorted (l.filter p) := by
  unfold Sorted at *
  rw [List.pairwise_map] at *
  exact h.filter p
theorem Sorted.set {l : List ByteArray} (h : Sorted l) : setS l = l := setS_eq h (fun _ => Iff.rfl)
end Go.Proofs.YthfoafjjenegaaaDoor
