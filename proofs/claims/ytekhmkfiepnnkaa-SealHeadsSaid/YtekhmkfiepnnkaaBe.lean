/- Numbers as bytes, the highest first; and back. -/
import Derived.Test.YtekhmkfiepnnkaaVal
set_option linter.unusedVariables false
set_option linter.unusedSimpArgs false
namespace Go.Proofs.Ytekhmkfiepnnkaa
open Go.RowKit Go.Proofs.YtekhmkfiepnnkaaW.PrintWords

def be (n : Int) (m : Nat) : List Int := (List.range m).map fun t => n / 2 ^ (8 * (m - 1 - t)) % 256
theorem be_length (n : Int) (m : Nat) : (be n m).length = m := by simp [be]
theorem be_take {n : Int} {m j : Nat} (h0 : 0 < j) (hj : j ≤ m) : (be n m).take (m - j) ++ [n / 2 ^ (8 * j - 8) % 256] = (be n m).take (m - (j - 1)) := by
  have hl : m - j < (be n m).length := by rw [be_length]; omega
  have e1 : m - (j - 1) = (m - j) + 1 := by omega
  have e2 : (be n m)[m - j] = n / 2 ^ (8 * j - 8) % 256 := by
    simp only [be, List.getElem_map, List.getElem_range]
    congr 3
    omega
  rw [e1, List.take_succ_eq_append_getElem hl, e2]
theorem be_bytes (n : Int) (m : Nat) : Bytes (be n m) := fun x hx => by
  simp only [be, List.mem_map] at hx
  obtain ⟨t, _, rfl⟩ := hx
  omega
theorem orNew_again {ok : Nat → Prop} {w w1 : World} (h : w.heap.size ≤ w1.heap.size) : ∀ k, orNew (orNew ok w) w1 k → orNew ok w k := by
  rintro k (h1 | h1)
  · exact h1
  · exact .inr (Nat.le_trans h h1)
theorem chg_again {ok : Nat → Prop} {w w1 w2 : World} (h : Chg ok w w1) (k : Chg (orNew ok w) w1 w2) : Chg ok w w2 := h.then_ k (fun _ h => h)
theorem be_succ (n : Int) (m : Nat) : be n (m + 1) = be (n / 256) m ++ [n % 256] := by
  unfold be
  rw [List.range_succ, List.map_append, List.map_singleton]
  congr 1
  · apply List.map_congr_left
    intro t ht
    have htm := List.mem_range.1 ht
    have e : 8 * (m + 1 - 1 - t) = 8 + 8 * (m - 1 - t) := by omega
    rw [e, Int.pow_add, ← Int.ediv_ediv_of_nonneg (by decide)]
    rfl
  · have e : 8 * (m + 1 - 1 - m) = 0 := by omega
    rw [e]
    simp
theorem val_be (m : Nat) : ∀ n : Int, 0 ≤ n → val (be n m) = n % 256 ^ m := by
  induction m with
  | zero => intro n _; simp [be, val, Int.emod_one]
  | succ m ih =>
    intro n hn
    rw [be_succ, val_snoc, ih (n / 256) (by omega)]
    have hp : (0 : Int) < 256 ^ m := Int.pow_pos (by decide)
    have h1 := Int.emod_emod_of_dvd n (Int.dvd_mul_left (256 : Int) ((256 : Int) ^ m))
    have e : n % (256 ^ m * 256) = (n / 256) % 256 ^ m * 256 + n % 256 := by
      have a1 := Int.mul_ediv_add_emod n 256
      have a2 := Int.mul_ediv_add_emod (n / 256) (256 ^ m)
      have hb := Int.emod_nonneg n (show (256 : Int) ≠ 0 by decide)
      have hb2 := Int.emod_lt_of_pos n (show (0 : Int) < 256 by decide)
      have hc := Int.emod_nonneg (n / 256) (Int.ne_of_gt hp)
      have hc2 := Int.emod_lt_of_pos (n / 256) hp
      generalize n % 256 = r at *
      generalize hq : n / 256 = q at *
      generalize q % 256 ^ m = s at *
      generalize q / 256 ^ m = t at *
      generalize (256 : Int) ^ m = X at *
      have hn2 : n = (s * 256 + r) + (X * 256) * t := by rw [← a1, ← a2]; grind
      rw [hn2, Int.add_mul_emod_self_left]
      apply Int.emod_eq_of_lt
      · omega
      · omega
    rw [Int.pow_succ, e]
end Go.Proofs.Ytekhmkfiepnnkaa
