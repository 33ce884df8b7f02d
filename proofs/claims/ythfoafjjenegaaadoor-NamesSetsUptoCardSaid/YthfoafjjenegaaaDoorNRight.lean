/- Names: what the printed functions answer: right names, reserved words, finding, equal lists. Plain. -/
import Derived.Test.YthfoafjjenegaaaDoorCarveNB
import Derived.Test.YthfoafjjenegaaaDoorNSet
import Derived.Lib.Strings
set_option linter.unusedVariables false
set_option linter.unusedSimpArgs false
namespace Go.Proofs.YthfoafjjenegaaaDoor
open Go.RowKit Go.Proofs.YthfoafjjenegaaaDoorW.PrintWords Go.Proofs.YthfoafjjenegaaaDoor.KCarveNA Go.Proofs.YthfoafjjenegaaaDoor.KCarveNB
open Classical

theorem wr_ok {i : Int} {n : Nat} (h0 : 0 ≤ i) (h : i < (n : Int)) (hn : n ≤ 9223372036854775807) : wrap64 (i + 1) = i + 1 := by
  unfold wrap64
  omega
def letB (c : Int) : Bool := decide ((97 ≤ c ∧ c ≤ 122) ∨ (65 ≤ c ∧ c ≤ 90) ∨ c = 95)
def digB (c : Int) : Bool := decide (48 ≤ c ∧ c ≤ 57)
def wordB (c : Int) : Bool := letB c || digB c
theorem letter_f (c : Int) : names_letter.f c = some (letB c) := by
  unfold names_letter.f letB
  by_cases h1 : c ≥ 97 <;> by_cases h2 : c ≤ 122 <;> by_cases h3 : c ≥ 65 <;> by_cases h4 : c ≤ 90 <;> by_cases h5 : c = 95 <;> simp [h1, h2, h3, h4, h5] <;> omega
theorem rletter_f (c : Int) : foundryref04_letter.f c = some (letB c) := letter_f c
theorem rdigit_f (c : Int) : foundryref04_digit.f c = some (digB c) := by
  unfold foundryref04_digit.f digB
  split
  · congr 1; simp only [decide_eq_decide]; omega
  · congr 1; simp only [eq_comm (a := false), decide_eq_false_iff_not]; omega
/-- The reserved words. -/
def words : List BL := [[98, 111, 111, 108], [99, 97, 116, 99, 104], [99, 111, 110, 115, 116], [101, 108, 115, 101], [101, 120, 112, 111, 114, 116], [102, 97, 105, 108], [102, 97, 108, 115, 101], [102, 108, 111, 97, 116], [102, 110], [105, 102], [105, 109, 112, 111, 114, 116], [105, 110, 102], [105, 110, 112, 117, 116], [105, 110, 116], [108, 101, 116], [109, 111, 100, 117, 108, 101], [110, 97, 110], [114, 101, 116, 117, 114, 110], [115, 104, 111, 119], [116, 114, 117, 101], [116, 114, 121], [118, 97, 114], [119, 104, 105, 108, 101]]
def resB (s : ByteArray) : Bool := decide (bl s ∈ words)
theorem toL (s : ByteArray) : s.toList = bl s := Lib.toList_data s
theorem reserved_f (s : ByteArray) : names_Reserved.f s = some (resB s) := by
  unfold names_Reserved.f resB
  rw [toL]
  generalize bl s = l
  have e : ∀ (x : BL) (ws : List BL), (if l = x then some true else some (decide (l ∈ ws))) = some (decide (l ∈ x :: ws)) := by
    intro x ws
    by_cases h : l = x
    · rw [if_pos h]; simp [h]
    · rw [if_neg h]; simp [h]
  have e0 : (some false : Option Bool) = some (decide (l ∈ ([] : List BL))) := by simp
  rw [e0]
  unfold words
  simp only [e]
/-- May this text be a name? -/
noncomputable def rightE (s : ByteArray) : Int :=
  if s.size = 0 ∨ letB (bt s 0) = false then 12 else if ∃ j : Nat, j < s.size ∧ wordB (bt s j) = false then 12 else if 32 < s.size then 3 else if resB s = true then 12 else 0
theorem right_l (s : ByteArray) (hn : s.size ≤ 9223372036854775807) : ∀ (d i k : Nat), s.size - i = d → i ≤ s.size → d < k → (∀ j, j < i → wordB (bt s j) = true) →
    names_Right.l0 k s s.size i = some (if ∃ j : Nat, j < s.size ∧ wordB (bt s j) = false then 12 else if 32 < s.size then 3 else if resB s = true then 12 else 0) := by
  intro d
  induction d with
  | zero =>
    intro i k hd hi hk hw
    obtain ⟨k, rfl⟩ : ∃ m, k = m + 1 := ⟨k - 1, by omega⟩
    simp only [names_Right.l0]
    rw [if_neg (by omega), if_neg (show ¬ ∃ j : Nat, j < s.size ∧ wordB (bt s j) = false from fun ⟨j, h1, h2⟩ => by rw [hw j (by omega)] at h2; cases h2)]
    by_cases h : 32 < s.size
    · rw [if_pos (by omega), if_pos h]
    · rw [if_neg (by omega), if_neg h, reserved_f]
      cases resB s <;> rfl
  | succ d ih =>
    intro i k hd hi hk hw
    obtain ⟨k, rfl⟩ : ∃ m, k = m + 1 := ⟨k - 1, by omega⟩
    simp only [names_Right.l0]
    rw [if_pos (by omega), if_pos (by omega), if_pos (by omega), letter_f]
    simp only [Option.bind_some]
    have hwr : wrap64 ((i : Int) + 1) = ((i + 1 : Nat) : Int) := wr_ok (n := s.size) (by omega) (by omega) hn
    have hgo : wordB (bt s i) = true → names_Right.l0 k s s.size (wrap64 ((i : Int) + 1)) = some (if ∃ j : Nat, j < s.size ∧ wordB (bt s j) = false then 12 else if 32 < s.size then 3 else if resB s = true then 12 else 0) := fun h => by
      rw [hwr]
      exact ih (i + 1) k (by omega) (by omega) (by omega) (fun j hj => by
        rcases Nat.lt_or_ge j i with q | q
        · exact hw j q
        · have : j = i := by omega
          subst this; exact h)
    have hbad : wordB (bt s i) = false → (some (12 : Int)) = some (if ∃ j : Nat, j < s.size ∧ wordB (bt s j) = false then 12 else if 32 < s.size then 3 else if resB s = true then 12 else 0) := fun h => by
      rw [if_pos ⟨i, by omega, h⟩]
    by_cases hl : letB (bt s i) = true
    · rw [if_pos hl]; exact hgo (by unfold wordB; rw [hl]; rfl)
    · rw [if_neg hl]
      have hl2 : letB (bt s i) = false := by simpa using hl
      by_cases h1 : bt s i < 48
      · rw [if_pos h1]; exact hbad (by unfold wordB digB; rw [hl2]; simp; omega)
      · rw [if_neg h1]
        by_cases h2 : bt s i > 57
        · rw [if_pos h2]; exact hbad (by unfold wordB digB; rw [hl2]; simp; omega)
        · rw [if_neg h2]; exact hgo (by unfold wordB digB; rw [hl2]; simp; omega)
theorem bl_nil (s : ByteArray) : bl s = [] ↔ s.size = 0 := by
  cases s with
  | mk d => simp [bl, ByteArray.size]
theorem right_f (s : ByteArray) (hn : s.size ≤ 9223372036854775807) {k : Nat} (hk : s.size + 1 < k) : names_Right.f k s = some (rightE s) := by
  obtain ⟨k, rfl⟩ : ∃ m, k = m + 1 := ⟨k - 1, by omega⟩
  unfold names_Right.f rightE
  rw [toL]
  by_cases h0 : s.size = 0
  · rw [if_pos ((bl_nil s).2 h0), if_pos (.inl h0)]
    rfl
  · rw [if_neg (fun h => h0 ((bl_nil s).1 h)), if_pos (by omega), letter_f]
    simp only [Option.bind_some, names_Right.j0]
    by_cases hl : letB (bt s 0) = true
    · rw [hl, if_neg (by simp), if_neg (by simp [h0])]
      exact right_l s hn s.size 0 k (by omega) (by omega) (by omega) (fun j hj => by omega)
    · have hl2 : letB (bt s 0) = false := by simpa using hl
      rw [hl2, if_pos (by simp), if_pos (.inr rfl)]
/-! Find, of the document. -/
def idxS (l : List ByteArray) (s : ByteArray) : Nat := l.findIdx (fun x => decide (x = s))
theorem getD_rd (l : List ByteArray) {i : Nat} (h : i < l.length) : rdOf ByteArray.empty l (i : Int) = l[i] := by
  unfold rdOf
  simp [List.getD_eq_getElem?_getD, h]
theorem find_l (l : List ByteArray) (s : ByteArray) (hn : l.length ≤ 9223372036854775807) : ∀ (d i k : Nat), l.length - i = d → i ≤ l.length → d < k → (∀ j (h : j < l.length), j < i → l[j] ≠ s) →
    foundryref04_Find.l0 k l s i = some (if s ∈ l then ((idxS l s : Nat) : Int) else 0, has l s) := by
  intro d
  induction d with
  | zero =>
    intro i k hd hi hk hw
    obtain ⟨k, rfl⟩ : ∃ m, k = m + 1 := ⟨k - 1, by omega⟩
    simp only [foundryref04_Find.l0]
    have hno : s ∉ l := fun h => by
      obtain ⟨j, hj, e⟩ := List.mem_iff_getElem.1 h
      exact hw j hj (by omega) e
    rw [if_neg (by omega), if_neg hno, has_false hno]
  | succ d ih =>
    intro i k hd hi hk hw
    obtain ⟨k, rfl⟩ : ∃ m, k = m + 1 := ⟨k - 1, by omega⟩
    simp only [foundryref04_Find.l0]
    have hlt : i < l.length := by omega
    rw [if_pos (by omega), if_pos (by omega), getD_rd l hlt, toL, toL]
    by_cases he : l[i] = s
    · rw [if_pos (by rw [he])]
      have hin : s ∈ l := he ▸ List.getElem_mem hlt
      have hix : idxS l s = i := by
        unfold idxS
        rw [List.findIdx_eq hlt]
        exact ⟨by simp [he], fun j hj => by simpa using hw j (by omega) hj⟩
      rw [if_pos hin, has_true hin, hix]
    · rw [if_neg (fun h => he (bl_inj h)), wr_ok (n := l.length) (by omega) (by omega) hn]
      exact ih (i + 1) k (by omega) (by omega) (by omega) (fun j hj hji => by
        rcases Nat.lt_or_ge j i with q | q
        · exact hw j hj q
        · have : j = i := by omega
          subst this; exact he)
theorem find_f (l : List ByteArray) (s : ByteArray) (hn : l.length ≤ 9223372036854775807) {k : Nat} (hk : l.length < k) : foundryref04_Find.f k l s = some (if s ∈ l then ((idxS l s : Nat) : Int) else 0, has l s) :=
  find_l l s hn l.length 0 k (by omega) (by omega) hk (fun j _ hj => by omega)
def wordsS : List ByteArray := words.map tx
theorem words_f : foundryref04_Words.f = some wordsS := rfl
theorem mem_words (s : ByteArray) : s ∈ wordsS ↔ bl s ∈ words := by
  unfold wordsS
  rw [← mem_map_bl, List.map_map]
  rw [show (bl ∘ tx) = id from funext bl_tx, List.map_id]
theorem rreserved_f (s : ByteArray) {k : Nat} (hk : 23 < k) : foundryref04_Reserved.f k s = some (resB s) := by
  unfold foundryref04_Reserved.f
  rw [words_f]
  simp only [Option.bind_some]
  rw [find_f wordsS s (by decide) hk]
  simp only [Option.bind_some]
  unfold resB
  congr 1
  by_cases h : bl s ∈ words
  · rw [has_true ((mem_words s).2 h), decide_eq_true h]
  · rw [has_false (fun k => h ((mem_words s).1 k)), decide_eq_false h]
theorem rright_l (s : ByteArray) (hn : s.size ≤ 9223372036854775807) : ∀ (d i k : Nat), s.size - i = d → i ≤ s.size → d + 24 < k → (∀ j, j < i → wordB (bt s j) = true) →
    foundryref04_Right.l0 k s i = some (if ∃ j : Nat, j < s.size ∧ wordB (bt s j) = false then 12 else if 32 < s.size then 3 else if resB s = true then 12 else 0) := by
  intro d
  induction d with
  | zero =>
    intro i k hd hi hk hw
    obtain ⟨k, rfl⟩ : ∃ m, k = m + 1 := ⟨k - 1, by omega⟩
    simp only [foundryref04_Right.l0]
    rw [if_neg (by omega), if_neg (show ¬ ∃ j : Nat, j < s.size ∧ wordB (bt s j) = false from fun ⟨j, h1, h2⟩ => by rw [hw j (by omega)] at h2; cases h2)]
    by_cases h : 32 < s.size
    · rw [if_pos (by omega), if_pos h]
    · rw [if_neg (by omega), if_neg h, rreserved_f s (by omega)]
      cases resB s <;> rfl
  | succ d ih =>
    intro i k hd hi hk hw
    obtain ⟨k, rfl⟩ : ∃ m, k = m + 1 := ⟨k - 1, by omega⟩
    simp only [foundryref04_Right.l0]
    rw [if_pos (by omega), if_pos (by omega), rletter_f]
    simp only [Option.bind_some]
    have hwr : wrap64 ((i : Int) + 1) = ((i + 1 : Nat) : Int) := wr_ok (n := s.size) (by omega) (by omega) hn
    have hgo : wordB (bt s i) = true → foundryref04_Right.l0 k s (wrap64 ((i : Int) + 1)) = some (if ∃ j : Nat, j < s.size ∧ wordB (bt s j) = false then 12 else if 32 < s.size then 3 else if resB s = true then 12 else 0) := fun h => by
      rw [hwr]
      exact ih (i + 1) k (by omega) (by omega) (by omega) (fun j hj => by
        rcases Nat.lt_or_ge j i with q | q
        · exact hw j q
        · have : j = i := by omega
          subst this; exact h)
    by_cases hl : letB (bt s i) = true
    · rw [if_pos hl]; exact hgo (by unfold wordB; rw [hl]; rfl)
    · rw [if_neg hl, rdigit_f]
      have hl2 : letB (bt s i) = false := by simpa using hl
      simp only [Option.bind_some]
      by_cases h1 : digB (bt s i) = true
      · rw [if_pos h1]; exact hgo (by unfold wordB; rw [h1]; simp)
      · rw [if_neg h1, if_pos ⟨i, by omega, by unfold wordB; rw [hl2]; simpa using h1⟩]
theorem rright_f (s : ByteArray) (hn : s.size ≤ 9223372036854775807) {k : Nat} (hk : s.size + 26 < k) : foundryref04_Right.f k s = some (rightE s) := by
  obtain ⟨k, rfl⟩ : ∃ m, k = m + 1 := ⟨k - 1, by omega⟩
  unfold foundryref04_Right.f rightE
  by_cases h0 : s.size = 0
  · rw [if_pos (by omega), if_pos (.inl h0)]
    rfl
  · rw [if_neg (by omega), if_pos (by omega), rletter_f]
    simp only [Option.bind_some, foundryref04_Right.j0]
    by_cases hl : letB (bt s 0) = true
    · rw [hl, if_neg (by simp), if_neg (by simp [h0])]
      exact rright_l s hn s.size 0 k (by omega) (by omega) (by omega) (fun j hj => by omega)
    · have hl2 : letB (bt s 0) = false := by simpa using hl
      rw [hl2, if_pos (by simp), if_pos (.inr rfl)]
/-! Texts. -/
theorem texts_l (a b : List ByteArray) (hl : a.length = b.length) (hn : a.length ≤ 9223372036854775807) : ∀ (d i k : Nat), a.length - i = d → i ≤ a.length → d < k → (a.take i = b.take i) →
    foundrylaw04_Texts.l0 k a b i = some (decide (a = b)) := by
  intro d
  induction d with
  | zero =>
    intro i k hd hi hk hw
    obtain ⟨k, rfl⟩ : ∃ m, k = m + 1 := ⟨k - 1, by omega⟩
    simp only [foundrylaw04_Texts.l0]
    rw [List.take_of_length_le (by omega), List.take_of_length_le (by omega)] at hw
    rw [if_neg (by omega), decide_eq_true hw]
  | succ d ih =>
    intro i k hd hi hk hw
    obtain ⟨k, rfl⟩ : ∃ m, k = m + 1 := ⟨k - 1, by omega⟩
    simp only [foundrylaw04_Texts.l0]
    have h1 : i < a.length := by omega
    have h2 : i < b.length := by omega
    rw [if_pos (by omega), if_pos (by omega), if_pos (by omega), getD_rd a h1, getD_rd b h2, toL, toL]
    by_cases he : a[i] = b[i]
    · rw [if_pos (by rw [he]), wr_ok (n := a.length) (by omega) (by omega) hn]
      refine ih (i + 1) k (by omega) (by omega) (by omega) ?_
      rw [List.take_succ_eq_append_getElem h1, List.take_succ_eq_append_getElem h2, hw, he]
    · rw [if_neg (fun h => he (bl_inj h)), decide_eq_false (fun h => he (by subst h; rfl))]
theorem texts_f (a b : List ByteArray) (hn : a.length ≤ 9223372036854775807) {k : Nat} (hk : a.length < k) : foundrylaw04_Texts.f k a b = some (decide (a = b)) := by
  unfold foundrylaw04_Texts.f
  by_cases hl : a.length = b.length
  · rw [if_pos (by omega)]
    exact texts_l a b hl hn a.length 0 k (by omega) (by omega) hk rfl
  · rw [if_neg (by omega), decide_eq_false (fun h => hl (by rw [h]))]
end Go.Proofs.YthfoafjjenegaaaDoor
