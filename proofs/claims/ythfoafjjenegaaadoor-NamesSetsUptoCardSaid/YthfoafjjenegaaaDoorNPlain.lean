/- Names: what the document's functions answer: Cmp, Put, Set, Union, Minus, Both. Plain. -/
import Derived.Test.YthfoafjjenegaaaDoorLaw04O
set_option linter.unusedVariables false
set_option linter.unusedSimpArgs false
namespace Go.Proofs.YthfoafjjenegaaaDoor
open Go.RowKit Go.Proofs.YthfoafjjenegaaaDoorW.PrintWords Go.Proofs.YthfoafjjenegaaaDoor.KCarveNA Go.Proofs.YthfoafjjenegaaaDoor.KCarveNB

theorem bt_get (s : ByteArray) {i : Nat} (h : i < (bl s).length) : bt s i = (((bl s)[i]).toNat : Int) := by
  have h2 : i < s.size := by rwa [bl_size] at h
  unfold bt
  rw [dif_pos (by simpa using h2)]
  rfl
theorem take_drop_lt {A B : BL} {i : Nat} (h : A.take i = B.take i) : (A < B ↔ A.drop i < B.drop i) := by
  have e1 : A = A.take i ++ A.drop i := (List.take_append_drop i A).symm
  have e2 : B = A.take i ++ B.drop i := by rw [h]; exact (List.take_append_drop i B).symm
  constructor
  · intro hl
    rw [e1, e2] at hl
    exact (lt_append _ _ _).1 hl
  · intro hl
    rw [e1, e2]
    exact (lt_append _ _ _).2 hl
theorem rcmp_l (a b : ByteArray) (hn : a.size ≤ 9223372036854775807) : ∀ (d i k : Nat), min a.size b.size - i = d → i ≤ a.size → i ≤ b.size → 2 * d + 1 < k → (bl a).take i = (bl b).take i →
    foundryref04_Cmp.l0 k a b i = some (cmpV a b) := by
  have la := bl_size a
  have lb := bl_size b
  intro d
  induction d with
  | zero =>
    intro i k hd h1 h2 hk ht
    obtain ⟨k, rfl⟩ : ∃ m, k = m + 2 := ⟨k - 2, by omega⟩
    have hj : foundryref04_Cmp.j1 (k + 1) a b i false = some (cmpV a b) := by
      simp only [foundryref04_Cmp.j1]
      rw [if_neg (by simp)]
      by_cases hs : a.size < b.size
      · rw [if_pos (by omega)]
        have : bl a < bl b := by
          rw [take_drop_lt ht, List.drop_of_length_le (by omega), List.drop_eq_getElem_cons (show i < (bl b).length by omega)]
          exact List.nil_lt_cons _ _
        unfold cmpV
        rw [if_pos this]
      · rw [if_neg (by omega)]
        by_cases hs2 : b.size < a.size
        · rw [if_pos (by omega)]
          have : bl b < bl a := by
            rw [take_drop_lt ht.symm, List.drop_of_length_le (by omega), List.drop_eq_getElem_cons (show i < (bl a).length by omega)]
            exact List.nil_lt_cons _ _
          unfold cmpV
          rw [if_neg (BL.lt_asymm this), if_pos this]
        · rw [if_neg (by omega)]
          rw [List.take_of_length_le (by omega), List.take_of_length_le (by omega)] at ht
          rw [cmp_zero.2 (bl_inj ht)]
    simp only [foundryref04_Cmp.l0]
    by_cases hs : (i : Int) < (a.size : Int)
    · rw [if_pos hs, decide_eq_false (by omega)]; exact hj
    · rw [if_neg hs]; exact hj
  | succ d ih =>
    intro i k hd h1 h2 hk ht
    obtain ⟨k, rfl⟩ : ∃ m, k = m + 2 := ⟨k - 2, by omega⟩
    have i1 : i < (bl a).length := by omega
    have i2 : i < (bl b).length := by omega
    simp only [foundryref04_Cmp.l0]
    rw [if_pos (by omega), decide_eq_true (by omega)]
    simp only [foundryref04_Cmp.j1]
    rw [if_pos trivial, if_pos (by omega), if_pos (by omega), if_pos (by omega), bt_get a i1, bt_get b i2]
    have hlt : ∀ x y : UInt8, (x.toNat : Int) < (y.toNat : Int) ↔ x < y := fun x y => by rw [UInt8.lt_iff_toNat_lt]; omega
    by_cases c1 : (((bl a)[i]).toNat : Int) < (((bl b)[i]).toNat : Int)
    · rw [if_pos c1]
      have : bl a < bl b := by
        rw [take_drop_lt ht, List.drop_eq_getElem_cons i1, List.drop_eq_getElem_cons i2, List.cons_lt_cons_iff]
        exact .inl ((hlt _ _).1 c1)
      unfold cmpV
      rw [if_pos this]
    · rw [if_neg c1]
      by_cases c2 : (((bl a)[i]).toNat : Int) > (((bl b)[i]).toNat : Int)
      · rw [if_pos c2]
        have : bl b < bl a := by
          rw [take_drop_lt ht.symm, List.drop_eq_getElem_cons i1, List.drop_eq_getElem_cons i2, List.cons_lt_cons_iff]
          exact .inl ((hlt _ _).1 c2)
        unfold cmpV
        rw [if_neg (BL.lt_asymm this), if_pos this]
      · rw [if_neg c2, wr_ok (n := a.size) (by omega) (by omega) hn]
        have he : (bl a)[i] = (bl b)[i] := UInt8.toNat_inj.1 (by omega)
        exact ih (i + 1) k (by omega) (by omega) (by omega) (by omega) (by rw [List.take_succ_eq_append_getElem i1, List.take_succ_eq_append_getElem i2, ht, he])
theorem rcmp_f (a b : ByteArray) (hn : a.size ≤ 9223372036854775807) {k : Nat} (hk : 2 * a.size + 1 < k) : foundryref04_Cmp.f k a b = some (cmpV a b) :=
  rcmp_l a b hn (min a.size b.size) 0 k (by omega) (by omega) (by omega) (by omega) rfl
theorem cmp_lt {a b : ByteArray} : cmpV a b < 0 ↔ bl a < bl b := by
  unfold cmpV
  constructor
  · intro h
    split at h
    · assumption
    · split at h <;> omega
  · intro h
    rw [if_pos h]; omega
/-- Sorted lists, text by text. -/
theorem Sorted.snoc {l : List ByteArray} {s : ByteArray} (h : Sorted l) (hs : ∀ x ∈ l, bl x < bl s) : Sorted (l ++ [s]) := by
  unfold Sorted at *
  rw [List.map_append, List.pairwise_append]
  refine ⟨h, by simp, fun x hx y hy => ?_⟩
  obtain ⟨x', h1, rfl⟩ := List.mem_map.1 hx
  simp at hy
  subst hy
  exact hs x' h1
theorem Sorted.lt {l : List ByteArray} (h : Sorted l) {i j : Nat} (hi : i < l.length) (hj : j < l.length) (hij : i < j) : bl l[i] < bl l[j] := by
  unfold Sorted at h
  rw [List.pairwise_map, List.pairwise_iff_getElem] at h
  exact h i j hi hj hij
theorem rput_l (l : List ByteArray) (s : ByteArray) (hl : Sorted l) (hn : l.length < 8796093022207) (hs : s.size ≤ 9223372036854775807) : ∀ (d i k : Nat) (out : List ByteArray) (done : Bool), l.length - i = d → i ≤ l.length → d + 2 * s.size + 2 < k →
    out.length ≤ i + (if done = true then 1 else 0) → Sorted out → (∀ x, x ∈ out ↔ x ∈ l.take i ∨ (done = true ∧ x = s)) → (done = false → ∀ x ∈ out, bl x < bl s) → (∀ j (h : j < l.length), i ≤ j → (∀ x ∈ out, bl x < bl l[j]) ∧ (done = true → bl s < bl l[j])) →
    foundryref04_Put.l0 k l s out done i = some (setS (l ++ [s])) := by
  intro d
  induction d with
  | zero =>
    intro i k out done hd hi hk ho hso hm hnd hdn
    obtain ⟨k, rfl⟩ : ∃ m, k = m + 1 := ⟨k - 1, by omega⟩
    simp only [foundryref04_Put.l0]
    rw [if_neg (by omega)]
    rw [List.take_of_length_le (by omega)] at hm
    cases done with
    | true =>
      rw [if_pos rfl]
      congr 1
      exact (setS_eq hso (fun x => by rw [hm]; simp)).symm
    | false =>
      rw [if_neg (by simp), if_pos (by simp at ho; omega)]
      congr 1
      exact (setS_eq (hso.snoc (hnd rfl)) (fun x => by rw [List.mem_append, hm]; simp)).symm
  | succ d ih =>
    intro i k out done hd hi hk ho hso hm hnd hdn
    obtain ⟨k, rfl⟩ : ∃ m, k = m + 1 := ⟨k - 1, by omega⟩
    have hlt : i < l.length := by omega
    have ho2 : out.length ≤ i + 1 := by split at ho <;> omega
    simp only [foundryref04_Put.l0]
    rw [if_pos (by omega), if_pos (by omega), getD_rd l hlt, rcmp_f s l[i] hs (by omega)]
    simp only [Option.bind_some]
    have hwr : wrap64 ((i : Int) + 1) = ((i + 1 : Nat) : Int) := wr_ok (n := l.length) (by omega) (by omega) (by omega)
    have htk : ∀ x, x ∈ l.take (i + 1) ↔ x ∈ l.take i ∨ x = l[i] := fun x => by rw [List.take_succ_eq_append_getElem hlt, List.mem_append]; simp
    have hout := (hdn i hlt (Nat.le_refl _)).1
    have happ : ∀ o2 : List ByteArray, Sorted o2 → (∀ x ∈ o2, bl x < bl l[i]) → ∀ j (h : j < l.length), i + 1 ≤ j → ∀ x ∈ o2 ++ [l[i]], bl x < bl l[j] := fun o2 _ h2 j hj hij x hx => by
      have h3 := hl.lt hlt hj (by omega)
      rcases List.mem_append.1 hx with h | h
      · exact BL.lt_trans (h2 x h) h3
      · simp at h; subst h; exact h3
    -- the ways
    by_cases c0 : cmpV s l[i] = 0
    · have he : s = l[i] := cmp_zero.1 c0
      rw [if_pos c0, if_neg (by omega), if_pos (by omega), hwr]
      refine ih (i + 1) k _ true (by omega) (by omega) (by omega) (by simp; omega) (hso.snoc hout) (fun x => ?_) (by simp) (fun j hj hij => ⟨happ out hso hout j hj hij, fun _ => ?_⟩)
      · rw [List.mem_append, hm, htk]
        simp only [List.mem_singleton]
        constructor
        · rintro ((h | h) | h)
          · exact .inl (.inl h)
          · exact .inr ⟨by trivial, h.2⟩
          · exact .inl (.inr h)
        · rintro ((h | h) | h)
          · exact .inl (.inl h)
          · exact .inr h
          · exact .inr (h.2.trans he)
      · rw [he]; exact hl.lt hlt hj (by omega)
    · rw [if_neg c0]
      by_cases c1 : cmpV s l[i] < 0
      · have hsl := cmp_lt.1 c1
        rw [if_pos c1]
        cases done with
        | true =>
          rw [if_pos rfl, if_pos (by omega), hwr]
          refine ih (i + 1) k _ true (by omega) (by omega) (by omega) (by simp at ho ⊢; omega) (hso.snoc hout) (fun x => ?_) (by simp) (fun j hj hij => ⟨happ out hso hout j hj hij, fun _ => BL.lt_trans hsl (hl.lt hlt hj (by omega))⟩)
          rw [List.mem_append, hm, htk]
          simp only [List.mem_singleton]
          constructor
          · rintro ((h | h) | h)
            · exact .inl (.inl h)
            · exact .inr h
            · exact .inl (.inr h)
          · rintro ((h | h) | h)
            · exact .inl (.inl h)
            · exact .inr h
            · exact .inl (.inr h)
        | false =>
          rw [if_neg (by simp), if_pos (by omega)]
          have hso2 := hso.snoc (hnd rfl)
          have hout2 : ∀ x ∈ out ++ [s], bl x < bl l[i] := fun x hx => by
            rcases List.mem_append.1 hx with h | h
            · exact hout x h
            · simp at h; subst h; exact hsl
          rw [if_pos (by simp at ho ⊢; omega), hwr]
          refine ih (i + 1) k _ true (by omega) (by omega) (by omega) (by simp at ho ⊢; omega) (hso2.snoc hout2) (fun x => ?_) (by simp) (fun j hj hij => ⟨happ (out ++ [s]) hso2 hout2 j hj hij, fun _ => BL.lt_trans hsl (hl.lt hlt hj (by omega))⟩)
          rw [List.mem_append, List.mem_append, hm, htk]
          simp only [List.mem_singleton]
          constructor
          · rintro (((h | h) | h) | h)
            · exact .inl (.inl h)
            · exact absurd h.1 (by simp)
            · exact .inr ⟨by trivial, h⟩
            · exact .inl (.inr h)
          · rintro ((h | h) | h)
            · exact .inl (.inl (.inl h))
            · exact .inr h
            · exact .inl (.inr h.2)
      · rw [if_neg c1, if_pos (by omega), hwr]
        have hls : bl l[i] < bl s := by
          rcases Classical.em (bl l[i] < bl s) with h | h
          · exact h
          · exact absurd (cmp_zero.2 (bl_inj (BL.eq_of (fun h2 => c1 (cmp_lt.2 h2)) h))) c0
        refine ih (i + 1) k _ done (by omega) (by omega) (by omega) (by simp; split at ho <;> simp_all <;> omega) (hso.snoc hout) (fun x => ?_) (fun hd2 x hx => ?_) (fun j hj hij => ⟨happ out hso hout j hj hij, fun hd2 => (hdn j hj (by omega)).2 hd2⟩)
        · rw [List.mem_append, hm, htk]
          simp only [List.mem_singleton]
          constructor
          · rintro ((h | h) | h)
            · exact .inl (.inl h)
            · exact .inr h
            · exact .inl (.inr h)
          · rintro ((h | h) | h)
            · exact .inl (.inl h)
            · exact .inr h
            · exact .inl (.inr h)
        · rcases List.mem_append.1 hx with h | h
          · exact hnd hd2 x h
          · simp at h; subst h; exact hls
theorem rput_f (l : List ByteArray) (s : ByteArray) (hl : Sorted l) (hn : l.length < 8796093022207) (hs : s.size ≤ 9223372036854775807) {k : Nat} (hk : l.length + 2 * s.size + 2 < k) : foundryref04_Put.f k l s = some (setS (l ++ [s])) :=
  rput_l l s hl hn hs l.length 0 k [] false (by omega) (by omega) hk (by simp) (by unfold Sorted; simp) (fun x => by simp) (by simp) (fun j hj _ => ⟨by simp, by simp⟩)
theorem setS_set_append (a b : List ByteArray) : setS (setS a ++ b) = setS (a ++ b) := (setS_sorted _).eq (setS_sorted _) (fun x => by rw [mem_setS, mem_setS, List.mem_append, List.mem_append, mem_setS])
theorem setS_nil : setS [] = [] := setS_eq (by unfold Sorted; simp) (fun _ => Iff.rfl)
theorem rset_l (l : List ByteArray) (M : Nat) (hM : ∀ x ∈ l, x.size ≤ M) (hM2 : M ≤ 9223372036854775807) (hn : l.length < 8796093022207) : ∀ (d i k : Nat), l.length - i = d → i ≤ l.length → d + l.length + 2 * M + 3 < k →
    foundryref04_Set.l0 k l (setS (l.take i)) i = some (setS l) := by
  intro d
  induction d with
  | zero =>
    intro i k hd hi hk
    obtain ⟨k, rfl⟩ : ∃ m, k = m + 1 := ⟨k - 1, by omega⟩
    simp only [foundryref04_Set.l0]
    rw [if_neg (by omega), List.take_of_length_le (by omega)]
  | succ d ih =>
    intro i k hd hi hk
    obtain ⟨k, rfl⟩ : ∃ m, k = m + 1 := ⟨k - 1, by omega⟩
    have hlt : i < l.length := by omega
    have hsz := hM l[i] (List.getElem_mem hlt)
    have hle := setS_len (l.take i)
    have hle2 : (l.take i).length ≤ i := List.length_take_le _ _
    simp only [foundryref04_Set.l0]
    rw [if_pos (by omega), if_pos (by omega), getD_rd l hlt, rput_f _ _ (setS_sorted _) (by omega) (by omega) (by omega)]
    simp only [Option.bind_some]
    rw [setS_set_append, ← List.take_succ_eq_append_getElem hlt, wr_ok (n := l.length) (by omega) (by omega) (by omega)]
    exact ih (i + 1) k (by omega) (by omega) (by omega)
theorem rset_f (l : List ByteArray) (M : Nat) (hM : ∀ x ∈ l, x.size ≤ M) (hM2 : M ≤ 9223372036854775807) (hn : l.length < 8796093022207) {k : Nat} (hk : 2 * l.length + 2 * M + 3 < k) : foundryref04_Set.f k l = some (setS l) := by
  have := rset_l l M hM hM2 hn l.length 0 k (by omega) (by omega) (by omega)
  rw [List.take_zero, setS_nil] at this
  exact this
theorem runion_l (a b : List ByteArray) (M : Nat) (hM : ∀ x ∈ b, x.size ≤ M) (hM2 : M ≤ 9223372036854775807) (hn : a.length + b.length < 8796093022207) : ∀ (d i k : Nat), b.length - i = d → i ≤ b.length → d + a.length + b.length + 2 * M + 3 < k →
    foundryref04_Union.l0 k b (setS (a ++ b.take i)) i = some (setS (a ++ b)) := by
  intro d
  induction d with
  | zero =>
    intro i k hd hi hk
    obtain ⟨k, rfl⟩ : ∃ m, k = m + 1 := ⟨k - 1, by omega⟩
    simp only [foundryref04_Union.l0]
    rw [if_neg (by omega), List.take_of_length_le (by omega)]
  | succ d ih =>
    intro i k hd hi hk
    obtain ⟨k, rfl⟩ : ∃ m, k = m + 1 := ⟨k - 1, by omega⟩
    have hlt : i < b.length := by omega
    have hsz := hM b[i] (List.getElem_mem hlt)
    have hle := setS_len (a ++ b.take i)
    have hle2 : (a ++ b.take i).length ≤ a.length + i := by rw [List.length_append]; have := List.length_take_le i b; omega
    simp only [foundryref04_Union.l0]
    rw [if_pos (by omega), if_pos (by omega), getD_rd b hlt, rput_f _ _ (setS_sorted _) (by omega) (by omega) (by omega)]
    simp only [Option.bind_some]
    rw [setS_set_append, List.append_assoc, ← List.take_succ_eq_append_getElem hlt, wr_ok (n := b.length) (by omega) (by omega) (by omega)]
    exact ih (i + 1) k (by omega) (by omega) (by omega)
theorem runion_f (a b : List ByteArray) (M : Nat) (hA : ∀ x ∈ a, x.size ≤ M) (hM : ∀ x ∈ b, x.size ≤ M) (hM2 : M ≤ 9223372036854775807) (hn : a.length + b.length < 8796093022207) {k : Nat} (hk : 2 * a.length + 2 * b.length + 2 * M + 3 < k) : foundryref04_Union.f k a b = some (setS (a ++ b)) := by
  unfold foundryref04_Union.f
  rw [rset_f a M hA hM2 (by omega) (by omega)]
  simp only [Option.bind_some]
  have := runion_l a b M hM hM2 hn b.length 0 k (by omega) (by omega) (by omega)
  simpa using this
theorem rchosen_l (a b : List ByteArray) (q : Bool) (hb : b.length ≤ 9223372036854775807) (hn : a.length < 8796093022207) : ∀ (d i k : Nat), a.length - i = d → i ≤ a.length → d + b.length + 1 < k →
    foundryref04_chosen.l0 k a b q ((a.take i).filter (fun x => has b x == q)) i = some (a.filter (fun x => has b x == q)) := by
  intro d
  induction d with
  | zero =>
    intro i k hd hi hk
    obtain ⟨k, rfl⟩ : ∃ m, k = m + 1 := ⟨k - 1, by omega⟩
    simp only [foundryref04_chosen.l0]
    rw [if_neg (by omega), List.take_of_length_le (by omega)]
  | succ d ih =>
    intro i k hd hi hk
    obtain ⟨k, rfl⟩ : ∃ m, k = m + 1 := ⟨k - 1, by omega⟩
    have hlt : i < a.length := by omega
    have hle : ((a.take i).filter (fun x => has b x == q)).length ≤ i := Nat.le_trans (List.length_filter_le _ _) (List.length_take_le _ _)
    have hnx := ih (i + 1) k (by omega) (by omega) (by omega)
    rw [List.take_succ_eq_append_getElem hlt, List.filter_append] at hnx
    simp only [foundryref04_chosen.l0]
    rw [if_pos (by omega), if_pos (by omega), getD_rd a hlt, find_f b a[i] hb (by omega)]
    simp only [Option.bind_some]
    rw [wr_ok (n := a.length) (by omega) (by omega) (by omega)]
    by_cases h : (has b a[i] == q) = true
    · rw [if_pos h, if_pos (by omega)]
      simpa [List.filter_cons, h] using hnx
    · rw [if_neg h]
      simpa [List.filter_cons, h] using hnx
theorem rminus_f (a b : List ByteArray) (M : Nat) (hA : ∀ x ∈ a, x.size ≤ M) (hM2 : M ≤ 9223372036854775807) (ha : a.length < 8796093022207) (hb : b.length ≤ 9223372036854775807) {k : Nat} (hk : 2 * a.length + b.length + 2 * M + 3 < k) : foundryref04_Minus.f k a b = some ((setS a).filter (fun x => !has b x)) := by
  have hle := setS_len a
  unfold foundryref04_Minus.f
  rw [rset_f a M hA hM2 ha (by omega)]
  simp only [Option.bind_some]
  have h := rchosen_l (setS a) b false hb (by omega) (setS a).length 0 k (by omega) (by omega) (by omega)
  simp only [List.take_zero, List.filter_nil] at h
  unfold foundryref04_chosen.f
  rw [show ((0 : Nat) : Int) = 0 from rfl] at h
  rw [h]
  simp only [Option.bind_some]
  congr 2
  funext x
  cases has b x <;> rfl
theorem rboth_f (a b : List ByteArray) (M : Nat) (hA : ∀ x ∈ a, x.size ≤ M) (hM2 : M ≤ 9223372036854775807) (ha : a.length < 8796093022207) (hb : b.length ≤ 9223372036854775807) {k : Nat} (hk : 2 * a.length + b.length + 2 * M + 3 < k) : foundryref04_Both.f k a b = some ((setS a).filter (fun x => has b x)) := by
  have hle := setS_len a
  unfold foundryref04_Both.f
  rw [rset_f a M hA hM2 ha (by omega)]
  simp only [Option.bind_some]
  have h := rchosen_l (setS a) b true hb (by omega) (setS a).length 0 k (by omega) (by omega) (by omega)
  simp only [List.take_zero, List.filter_nil] at h
  unfold foundryref04_chosen.f
  rw [show ((0 : Nat) : Int) = 0 from rfl] at h
  rw [h]
  simp only [Option.bind_some]
  congr 2
  funext x
  cases has b x <;> rfl
end Go.Proofs.YthfoafjjenegaaaDoor
