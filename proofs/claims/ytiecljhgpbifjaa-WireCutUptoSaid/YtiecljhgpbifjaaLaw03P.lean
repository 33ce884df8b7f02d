/- What was written is read: the plain law (no program in sight). -/
import Derived.Test.YtiecljhgpbifjaaLaw03W
set_option linter.unusedVariables false
set_option linter.unusedSimpArgs false
namespace Go.Proofs.Ytiecljhgpbifjaa
open Go.RowKit Go.Proofs.YtiecljhgpbifjaaW.PrintWords

/-- f reads just these bytes as v; a part of them ends too early. -/
structure Parses {α : Type} (f : List Int → Out α) (B : List Int) (v : α) : Prop where
  all : ∀ rest, f (B ++ rest) = .ok (v, rest)
  cut : ∀ j, j < B.length → f (B.take j) = .error 40
theorem Parses.bind {α β : Type} {f : List Int → Out α} {g : α → List Int → Out β} {h : List Int → Out β} {B C : List Int} {v : α} {u : β} (hf : Parses f B v) (hg : Parses (g v) C u)
    (h1 : ∀ b v r, f b = .ok (v, r) → h b = g v r) (h2 : ∀ b e, f b = .error e → h b = .error e) : Parses h (B ++ C) u := by
  constructor
  · intro rest
    rw [List.append_assoc, h1 _ _ _ (hf.all (C ++ rest)), hg.all]
  · intro j hj
    rcases Nat.lt_or_ge j B.length with hl | hl
    · rw [List.take_append_of_le_length (by omega)]
      exact h2 _ _ (hf.cut j hl)
    · rw [List.take_append, List.take_of_length_le hl, h1 _ _ _ (hf.all _)]
      rw [List.length_append] at hj
      exact hg.cut _ (by omega)
theorem Parses.same {α : Type} {f : List Int → Out α} {B C : List Int} {v : α} (h : Parses f B v) (hB : B = C) : Parses f C v := hB ▸ h
theorem be_succ (n : Int) (m : Nat) : be n (m + 1) = be (n / 256) m ++ [n % 256] := by
  unfold be
  rw [List.range_succ, List.map_append, List.map_singleton]
  congr 1
  · apply List.map_congr_left
    intro t ht
    have htm := List.mem_range.1 ht
    have e : 8 * (m + 1 - 1 - t) = 8 + 8 * (m - 1 - t) := by omega
    rw [e, Int.pow_add, ← Int.ediv_ediv_of_nonneg (by decide)]
    rfl
  · have e : 8 * (m + 1 - 1 - m) = 0 := by omega
    rw [e]
    simp
theorem val_be (m : Nat) : ∀ n : Int, 0 ≤ n → val (be n m) = n % 256 ^ m := by
  induction m with
  | zero => intro n _; simp [be, val, Int.emod_one]
  | succ m ih =>
    intro n hn
    rw [be_succ, val_snoc, ih (n / 256) (by omega)]
    have hp : (0 : Int) < 256 ^ m := Int.pow_pos (by decide)
    have h1 := Int.emod_emod_of_dvd n (Int.dvd_mul_left (256 : Int) ((256 : Int) ^ m))
    have e : n % (256 ^ m * 256) = (n / 256) % 256 ^ m * 256 + n % 256 := by
      have a1 := Int.mul_ediv_add_emod n 256
      have a2 := Int.mul_ediv_add_emod (n / 256) (256 ^ m)
      have hb := Int.emod_nonneg n (show (256 : Int) ≠ 0 by decide)
      have hb2 := Int.emod_lt_of_pos n (show (0 : Int) < 256 by decide)
      have hc := Int.emod_nonneg (n / 256) (Int.ne_of_gt hp)
      have hc2 := Int.emod_lt_of_pos (n / 256) hp
      generalize n % 256 = r at *
      generalize hq : n / 256 = q at *
      generalize q % 256 ^ m = s at *
      generalize q / 256 ^ m = t at *
      generalize (256 : Int) ^ m = X at *
      have hn2 : n = (s * 256 + r) + (X * 256) * t := by rw [← a1, ← a2]; grind
      rw [hn2, Int.add_mul_emod_self_left]
      apply Int.emod_eq_of_lt
      · omega
      · omega
    rw [Int.pow_succ, e]
theorem p_num (m : Nat) (n : Int) (hn : 0 ≤ n) : Parses (oNum m) (be n m) (n % 256 ^ m) := by
  constructor
  · intro rest
    unfold oNum
    have hl := be_length n m
    rw [if_pos (by rw [List.length_append, hl]; omega), List.take_append_of_le_length (by omega), List.take_of_length_le (by omega), List.drop_append_of_le_length (by omega), List.drop_of_length_le (by omega), val_be m n hn]
    rfl
  · intro j hj
    rw [be_length] at hj
    unfold oNum
    rw [if_neg (by rw [List.length_take, be_length]; omega)]
theorem p_byte (x : Int) : Parses (oNum 1) [x] x := by
  constructor
  · intro rest
    unfold oNum
    rw [if_pos (by simp)]
    simp [val]
  · intro j hj
    unfold oNum
    rw [if_neg (by simp at hj ⊢; omega)]
theorem p_bool (x : Bool) : Parses oBool [if x = true then (1 : Int) else 0] x := by
  constructor
  · intro rest
    unfold oBool
    rw [(p_byte _).all]
    cases x <;> rfl
  · intro j hj
    unfold oBool
    rw [(p_byte _).cut j hj]
theorem p_int (n : Int) : Parses oInt (be (n % 2147483648) 4) (n % 2147483648) := by
  have h0 : 0 ≤ n % 2147483648 := by omega
  have h1 : n % 2147483648 % 256 ^ 4 = n % 2147483648 := Int.emod_eq_of_lt h0 (by omega)
  have h := p_num 4 (n % 2147483648) h0
  rw [h1] at h
  constructor
  · intro rest
    unfold oInt
    rw [h.all]
    dsimp only
    rw [if_neg (by omega)]
  · intro j hj
    unfold oInt
    rw [h.cut j hj]
def Most : Int := 2147483647
theorem p_count (n : Nat) (hn : n ≤ 2147483647) : Parses (oCount Most) (be ((n : Int) % 2147483648) 4) (n : Int) := by
  have h := p_int (n : Int)
  have e : (n : Int) % 2147483648 = n := Int.emod_eq_of_lt (by omega) (by omega)
  constructor
  · intro rest
    unfold oCount
    rw [h.all]
    dsimp only
    rw [e, if_neg (by unfold Most; omega)]
  · intro j hj
    unfold oCount
    rw [h.cut j hj]
theorem p_next (xs : List Int) : Parses (oNext xs.length) xs xs := by
  constructor
  · intro rest
    unfold oNext
    rw [if_pos (by rw [List.length_append]; omega), List.take_append_of_le_length (Nat.le_refl _), List.take_of_length_le (Nat.le_refl _), List.drop_append_of_le_length (Nat.le_refl _), List.drop_of_length_le (Nat.le_refl _)]
    rfl
  · intro j hj
    unfold oNext
    rw [if_neg (by rw [List.length_take]; omega)]
theorem p_raw (xs : List Int) (hl : xs.length ≤ 2147483647) : Parses (oRaw Most) (rawB xs) xs := by
  refine (p_count xs.length hl).bind (g := fun n r => oNext n.toNat r) (C := xs) ?_ ?_ ?_
  · show Parses (oNext (xs.length : Int).toNat) xs xs
    rw [Int.toNat_natCast]
    exact p_next xs
  · intro b v r h
    unfold oRaw
    rw [h]
  · intro b e h
    unfold oRaw
    rw [h]
theorem p_text (s : ByteArray) (hl : s.size ≤ 2147483647) : Parses (oText Most) (rawB (bytesOf s)) s := by
  have h := p_raw (bytesOf s) (by rw [bytesOf_length]; exact hl)
  have e : strOfNums (bytesOf s) = s := by
    rcases s with ⟨⟨l⟩⟩
    simp [strOfNums, bytesOf, List.map_map, Function.comp_def]
  constructor
  · intro rest
    unfold oText
    rw [h.all]
    dsimp only
    rw [e]
  · intro j hj
    unfold oText
    rw [h.cut j hj]
theorem p_times {α β : Type} {f : List Int → Out β} {enc : α → List Int} {v : α → β} (l : List α) (h : ∀ x ∈ l, Parses f (enc x) (v x)) : Parses (oTimes f l.length) (l.flatMap enc) (l.map v) := by
  suffices ∀ k, k ≤ l.length → Parses (oTimes f k) ((l.take k).flatMap enc) ((l.take k).map v) by
    have := this l.length (Nat.le_refl _)
    rwa [List.take_length] at this
  intro k
  induction k with
  | zero => intro _; exact ⟨fun rest => by simp [oTimes], fun j hj => by simp at hj⟩
  | succ k ih =>
    intro hk
    have h1 := ih (by omega)
    have h2 := h l[k] (List.getElem_mem (by omega))
    refine (h1.bind (g := fun l0 r => match f r with | .error e => .error e | .ok (x, r') => .ok (l0 ++ [x], r')) (h := oTimes f (k + 1)) (C := enc l[k]) (u := (l.take (k + 1)).map v) ?_ ?_ ?_).same ?_
    · constructor
      · intro rest
        rw [h2.all]
        dsimp only
        rw [← List.take_append_getElem (show k < l.length by omega), List.map_append]
        rfl
      · intro j hj
        rw [h2.cut j hj]
    · intro b v0 r hb
      rw [oTimes, hb]
      rfl
    · intro b e hb
      rw [oTimes, hb]
    · exact flat_take_succ (by omega) enc
theorem p_ints (l : List Int) (hl : l.length ≤ 2147483647) : Parses (oInts Most) (intsB l) (l.map (· % 2147483648)) := by
  refine (p_count l.length hl).bind (g := fun n r => oTimes oInt n.toNat r) (C := l.flatMap fun n => be (n % 2147483648) 4) ?_ ?_ ?_
  · show Parses (oTimes oInt (l.length : Int).toNat) _ _
    rw [Int.toNat_natCast]
    exact p_times l (fun x _ => p_int x)
  · intro b v r h
    unfold oInts
    rw [h]
  · intro b e h
    unfold oInts
    rw [h]
theorem p_texts (l : List ByteArray) (hl : l.length ≤ 2147483647) (hs : ∀ x ∈ l, x.size ≤ 2147483647) : Parses (oTexts Most Most) (textsB l) l := by
  refine (p_count l.length hl).bind (g := fun n r => oTimes (oText Most) n.toNat r) (C := l.flatMap fun s => rawB (bytesOf s)) ?_ ?_ ?_
  · show Parses (oTimes (oText Most) (l.length : Int).toNat) _ _
    rw [Int.toNat_natCast]
    have := p_times (f := oText Most) (v := fun x => x) l (fun x hx => p_text x (hs x hx))
    rwa [List.map_id'] at this
  · intro b v r h
    unfold oTexts
    rw [h]
  · intro b e h
    unfold oTexts
    rw [h]
end Go.Proofs.Ytiecljhgpbifjaa
