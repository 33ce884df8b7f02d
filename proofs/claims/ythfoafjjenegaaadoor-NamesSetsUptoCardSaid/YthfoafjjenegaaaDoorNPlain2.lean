/- Names: Find; the document's Split; Far. Plain. -/
import Derived.Test.YthfoafjjenegaaaDoorNPlain
import Derived.Test.YthfoafjjenegaaaDoorNLive
set_option linter.unusedVariables false
set_option linter.unusedSimpArgs false
namespace Go.Proofs.YthfoafjjenegaaaDoor
open Go.RowKit Go.Proofs.YthfoafjjenegaaaDoorW.PrintWords Go.Proofs.YthfoafjjenegaaaDoor.KCarveNA Go.Proofs.YthfoafjjenegaaaDoor.KCarveNB
open Classical

theorem index_l (l : List ByteArray) (s : ByteArray) (hn : l.length ≤ 9223372036854775807) : ∀ (d i k : Nat), l.length - i = d → i ≤ l.length → d < k → (∀ j (h : j < l.length), j < i → l[j] ≠ s) →
    slices_Index_string_string.l0 k l s l.length i = some (if s ∈ l then ((idxS l s : Nat) : Int) else -1) := by
  intro d
  induction d with
  | zero =>
    intro i k hd hi hk hw
    obtain ⟨k, rfl⟩ : ∃ m, k = m + 1 := ⟨k - 1, by omega⟩
    simp only [slices_Index_string_string.l0]
    have hno : s ∉ l := fun h => by
      obtain ⟨j, hj, e⟩ := List.mem_iff_getElem.1 h
      exact hw j hj (by omega) e
    rw [if_neg (by omega), if_neg hno]
  | succ d ih =>
    intro i k hd hi hk hw
    obtain ⟨k, rfl⟩ : ∃ m, k = m + 1 := ⟨k - 1, by omega⟩
    simp only [slices_Index_string_string.l0]
    have hlt : i < l.length := by omega
    rw [if_pos (by omega), if_pos (by omega), if_pos (by omega), getD_rd l hlt, toL, toL]
    by_cases he : l[i] = s
    · rw [if_pos (by rw [he])]
      have hin : s ∈ l := he ▸ List.getElem_mem hlt
      have hix : idxS l s = i := by
        unfold idxS
        rw [List.findIdx_eq hlt]
        exact ⟨by simp [he], fun j hj => by simpa using hw j (by omega) hj⟩
      rw [if_pos hin, hix]
    · rw [if_neg (fun h => he (bl_inj h.symm)), wr_ok (n := l.length) (by omega) (by omega) hn]
      exact ih (i + 1) k (by omega) (by omega) (by omega) (fun j hj hji => by
        rcases Nat.lt_or_ge j i with q | q
        · exact hw j hj q
        · have : j = i := by omega
          subst this; exact he)
theorem nfind_f (l : List ByteArray) (s : ByteArray) (hn : l.length ≤ 9223372036854775807) {k : Nat} (hk : l.length < k) : names_Find.f k l s = some (if s ∈ l then ((idxS l s : Nat) : Int) else 0, has l s) := by
  unfold names_Find.f slices_Index_string_string.f
  have h := index_l l s hn l.length 0 k (by omega) (by omega) hk (fun j _ hj => by omega)
  rw [show ((0 : Nat) : Int) = 0 from rfl] at h
  rw [h]
  simp only [Option.bind_some]
  by_cases hin : s ∈ l
  · rw [if_pos hin, if_pos hin, has_true hin]
    congr 2 <;> first | (unfold mx; omega) | exact decide_eq_true (by omega)
  · rw [if_neg hin, if_neg hin, has_false hin]
    rfl
/-! Split. -/
theorem occ_iff (l : BL) (i : Nat) : Lib.occAt l [46] i = true ↔ l[i]? = some 46 := by
  unfold Lib.occAt
  rw [← List.head?_drop]
  cases l.drop i with
  | nil => simp
  | cons x r =>
    simp only [List.isPrefixOf, List.head?_cons, Option.some.injEq, Bool.and_true, beq_iff_eq]
    exact eq_comm
theorem bt_46 (s : ByteArray) {i : Nat} (h : i < s.size) : bt s i = 46 ↔ (bl s)[i]? = some 46 := by
  have h1 : i < (bl s).length := by rw [bl_size]; exact h
  rw [bt_get s h1, List.getElem?_eq_getElem h1]
  constructor
  · intro e
    congr 1
    exact UInt8.toNat_inj.1 (by rw [show (46 : UInt8).toNat = 46 from rfl]; omega)
  · intro e
    injection e with e
    rw [e]; rfl
theorem cut_hit (s : ByteArray) {i : Nat} (hi : i < s.size) (h : bt s i = 46) (hno : ∀ j : Nat, j < i → bt s j ≠ 46) : Lib.cut (bl s) [46] = ((bl s).take i, (bl s).drop (i + 1), true) := by
  have hx : Lib.index (bl s) [46] = i := Lib.index_first (by rw [bl_size]; omega) ((occ_iff _ _).2 ((bt_46 s hi).1 h)) (fun j hj => by
    cases e : Lib.occAt (bl s) [46] j with
    | false => rfl
    | true => exact absurd ((bt_46 s (by omega)).2 ((occ_iff _ _).1 e)) (hno j hj))
  unfold Lib.cut
  rw [hx, if_pos (by omega)]
  simp
theorem cut_miss (s : ByteArray) (hno : ∀ j : Nat, j < s.size → bt s j ≠ 46) : (Lib.cut (bl s) [46]).2.2 = false := by
  have hx : Lib.index (bl s) [46] = -1 := Lib.index_none (fun j hj => by
    cases e : Lib.occAt (bl s) [46] j with
    | false => rfl
    | true =>
      have h1 := (occ_iff _ _).1 e
      have h2 : j < s.size := by
        rcases Nat.lt_or_ge j (bl s).length with q | q
        · rw [bl_size] at q; exact q
        · rw [List.getElem?_eq_none q] at h1; cases h1
      exact absurd ((bt_46 s h2).2 h1) (hno j h2))
  unfold Lib.cut
  rw [hx, if_neg (by omega)]
theorem ext_take (s : ByteArray) (i : Nat) (h : i ≤ s.size) : s.extract 0 i = tx ((bl s).take i) := by
  apply bl_inj
  rw [bl_tx]
  cases s with
  | mk d => simp [bl, ByteArray.data_extract]
theorem ext_drop (s : ByteArray) (i : Nat) : s.extract i s.size = tx ((bl s).drop i) := by
  apply bl_inj
  rw [bl_tx]
  cases s with
  | mk d =>
    simp [bl, ByteArray.data_extract, ByteArray.size]
    exact List.take_of_length_le (by simp)
theorem rsplit_j (s : ByteArray) (hn : s.size < 4294967281) {i k : Nat} (hi : i ≤ s.size) (hk : s.size + 27 < k) (hno : ∀ j : Nat, j < i → bt s j ≠ 46) (h : i < s.size → bt s i = 46) :
    foundryref04_Split.j1 k s i = some (splitV s) := by
  obtain ⟨k, rfl⟩ : ∃ m, k = m + 1 := ⟨k - 1, by omega⟩
  simp only [foundryref04_Split.j1]
  unfold splitV
  by_cases he : i = s.size
  · rw [if_pos (by omega), cut_miss s (fun j hj => hno j (by omega)), if_pos rfl]
    rfl
  · have hi2 : i < s.size := by omega
    have hwr : wrap64 ((i : Int) + 1) = ((i + 1 : Nat) : Int) := wr_ok (n := s.size) (by omega) (by omega) (by omega)
    rw [if_neg (by omega), if_pos (by omega), if_pos (by omega), hwr, cut_hit s hi2 (h hi2) hno]
    dsimp only
    rw [if_neg (show ¬ (true = false) by simp)]
    simp only [Int.toNat_natCast]
    rw [ext_take s i (by omega), ext_drop s (i + 1)]
    have s1 : (tx ((bl s).take i)).size ≤ s.size := by rw [tx_size, ← bl_size]; exact (List.length_take_le' _ _)
    have s2 : (tx ((bl s).drop (i + 1))).size ≤ s.size := by rw [tx_size, ← bl_size, List.length_drop]; omega
    rw [rright_f _ (by omega) (by omega)]
    simp only [Option.bind_some]
    by_cases r1 : rightE (tx ((bl s).take i)) = 0
    · rw [if_pos r1, if_pos (show (0 : Int) ≤ ((i + 1 : Nat) : Int) by omega), if_pos (show ((i + 1 : Nat) : Int) ≤ (s.size : Int) by omega), rright_f _ (by omega) (by omega), if_neg (show ¬ ¬ rightE (tx ((bl s).take i)) = 0 from fun h => h r1)]
      simp only [Option.bind_some]
      by_cases r2 : rightE (tx ((bl s).drop (i + 1))) = 0
      · rw [if_pos r2, if_neg (fun h => h r2)]
      · rw [if_neg r2, if_pos r2]
        rfl
    · rw [if_neg r1, if_pos r1]
      rfl
theorem rsplit_l (s : ByteArray) (hn : s.size < 4294967281) : ∀ (d i k : Nat), s.size - i = d → i ≤ s.size → d + s.size + 28 < k → (∀ j : Nat, j < i → bt s j ≠ 46) →
    foundryref04_Split.l0 k s i = some (splitV s) := by
  intro d
  induction d with
  | zero =>
    intro i k hd hi hk hw
    obtain ⟨k, rfl⟩ : ∃ m, k = m + 1 := ⟨k - 1, by omega⟩
    simp only [foundryref04_Split.l0]
    rw [if_neg (by omega)]
    exact rsplit_j s hn hi (by omega) hw (fun h => by omega)
  | succ d ih =>
    intro i k hd hi hk hw
    obtain ⟨k, rfl⟩ : ∃ m, k = m + 1 := ⟨k - 1, by omega⟩
    simp only [foundryref04_Split.l0]
    rw [if_pos (by omega), if_pos (by omega)]
    by_cases h : bt s i = 46
    · rw [if_pos h]
      exact rsplit_j s hn hi (by omega) hw (fun _ => h)
    · rw [if_neg h, wr_ok (n := s.size) (by omega) (by omega) (by omega)]
      exact ih (i + 1) k (by omega) (by omega) (by omega) (fun j hj => by
        rcases Nat.lt_or_ge j i with q | q
        · exact hw j q
        · have : j = i := by omega
          subst this; exact h)
theorem rsplit_f (s : ByteArray) (hn : s.size < 4294967281) {k : Nat} (hk : 2 * s.size + 28 < k) : foundryref04_Split.f k s = some (splitV s) :=
  rsplit_l s hn s.size 0 k (by omega) (by omega) (by omega) (fun j hj => by omega)
/-- The far name. -/
def farV (a b : ByteArray) : ByteArray := (a ++ ⟨#[46]⟩) ++ b
theorem dot_size : (⟨#[46]⟩ : ByteArray).size = 1 := rfl
theorem size_append (a b : ByteArray) : (a ++ b).size = a.size + b.size := by rw [← bl_size, ← bl_size, ← bl_size, bl_append, List.length_append]
theorem far_f (a b : ByteArray) (h : a.size + 1 + b.size ≤ 9223372036854775807) : names_Far.f a b = some (farV a b) ∧ foundryref04_Far.f a b = some (farV a b) := by
  unfold names_Far.f foundryref04_Far.f farV
  have h2 : (a ++ ⟨#[46]⟩).size = a.size + 1 := by rw [size_append, dot_size]
  rw [if_pos (by omega), if_pos (by rw [h2]; omega)]
  exact ⟨rfl, rfl⟩
end Go.Proofs.YthfoafjjenegaaaDoor
