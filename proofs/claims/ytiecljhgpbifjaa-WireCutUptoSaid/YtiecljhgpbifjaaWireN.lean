/- The program's writer: number, Int, Short, Long. -/
import Derived.Test.YtiecljhgpbifjaaWire
import Derived.Laws.Bits64b
set_option linter.unusedVariables false
set_option linter.unusedSimpArgs false
namespace Go.Proofs.Ytiecljhgpbifjaa
open Go.RowKit Go.Proofs.YtiecljhgpbifjaaW.PrintWords

/-- A number in so many bytes, the highest first. -/
def be (n : Int) (m : Nat) : List Int := (List.range m).map fun t => n / 2 ^ (8 * (m - 1 - t)) % 256
theorem be_length (n : Int) (m : Nat) : (be n m).length = m := by simp [be]
theorem be_take {n : Int} {m j : Nat} (h0 : 0 < j) (hj : j ≤ m) : (be n m).take (m - j) ++ [n / 2 ^ (8 * j - 8) % 256] = (be n m).take (m - (j - 1)) := by
  have hl : m - j < (be n m).length := by rw [be_length]; omega
  have e1 : m - (j - 1) = (m - j) + 1 := by omega
  have e2 : (be n m)[m - j] = n / 2 ^ (8 * j - 8) % 256 := by
    simp only [be, List.getElem_map, List.getElem_range]
    congr 3
    omega
  rw [e1, List.take_succ_eq_append_getElem hl, e2]
theorem be_bytes (n : Int) (m : Nat) : Bytes (be n m) := fun x hx => by
  simp only [be, List.mem_map] at hx
  obtain ⟨t, _, rfl⟩ := hx
  omega
theorem orNew_again {ok : Nat → Prop} {w w1 : World} (h : w.heap.size ≤ w1.heap.size) : ∀ k, orNew (orNew ok w) w1 k → orNew ok w k := by
  rintro k (h1 | h1)
  · exact h1
  · exact .inr (Nat.le_trans h h1)
theorem chg_again {ok : Nat → Prop} {w w1 w2 : World} (h : Chg ok w w1) (k : Chg (orNew ok w) w1 w2) : Chg ok w w2 := h.then_ k (fun _ h => h)
set_option maxRecDepth 100000 in
theorem number_any {w : World} {ok : Nat → Prop} {p : Nat} {b : List Int} (n : Int) (m : Nat) (hn : 0 ≤ n ∧ n < 18446744073709551616) (hm : m ≤ 8) (h : PWr w ok p b) (hl : b.length + 8 ≤ 140737488355328) :
  Calls Try.prog 66 #[.pointer (some ⟨p, 0, none⟩), .int .u64 n, .int .i64 m] w fun e w' => e = .returned (.tuple #[]) ∧ PWr w' (orNew ok w) p (b ++ be n m) ∧ Chg ok w w' := by
  go_enter Try.func66, Try.ntmps66
  go_wp2
  go_loopw [6] (fun i wr => ∃ j : Nat, j ≤ m ∧ i = .int .i64 (8 * (j : Int) - 8) ∧ PWr wr (orNew ok w) p (b ++ (be n m).take (m - j)) ∧ Chg ok w wr) (fun i _ => ((intOf i) + 8).toNat)
  case atStart => exact ⟨m, Nat.le_refl _, by congr 1; omega, by rw [Nat.sub_self, List.take_zero, List.append_nil]; exact h.mono (fun _ h => .inl h), Chg.refl _ _⟩
  case round =>
    obtain ⟨j, hj, rfl, hw, hc⟩ := hrel
    by_cases h0 : j = 0
    · subst h0
      rw [Nat.sub_zero, List.take_of_length_le (by rw [be_length]; omega)] at hw
      go_wp2
      go_end0
      exact ⟨rfl, hw, hc⟩
    · go_wp2_with fail
      refine (byte_any _ hw (by rw [List.length_append, List.length_take, be_length]; omega)).mono ?_
      rintro e w1 ⟨rfl, h1, c1⟩
      rw [List.append_assoc, be_take (by omega) hj] at h1
      have h2 := h1.mono (orNew_again hc.size)
      have hc2 := chg_again hc c1
      clear h1
      go_wp2
      go_roundw
      case rel => exact ⟨j - 1, by omega, by congr 1; omega, h2, hc2⟩
      case measure => simp [intOf]; omega
theorem and31 (n : Int) : bits .and .u64 (IntKind.u64.wrap n) 2147483647 = n % 2147483648 := by
  rw [IntKind.wrap_u64]
  obtain ⟨m, hm⟩ := Int.eq_ofNat_of_zero_le (show 0 ≤ n % 18446744073709551616 by omega)
  have hlt : m < 18446744073709551616 := by omega
  have h := bits_and_u64_nat m 2147483647 hlt (by omega)
  have e : m &&& 2147483647 = m % 2147483648 := Nat.and_two_pow_sub_one_eq_mod m 31
  rw [e] at h
  rw [hm]
  refine Eq.trans (by exact h) ?_
  omega
theorem wint_any {w : World} {ok : Nat → Prop} {p : Nat} {b : List Int} (n : Int) (h : PWr w ok p b) (hl : b.length + 8 ≤ 140737488355328) :
  Calls Try.prog 26 #[.pointer (some ⟨p, 0, none⟩), .int .i64 n] w fun e w' => e = .returned (.tuple #[]) ∧ PWr w' (orNew ok w) p (b ++ be (n % 2147483648) 4) ∧ Chg ok w w' := by
  have hn := and31 n
  have hb : 0 ≤ n % 2147483648 ∧ n % 2147483648 < 18446744073709551616 := by omega
  generalize n % 2147483648 = x at hn hb ⊢
  go_enter Try.func26, Try.ntmps26
  go_wp2_with fail
  refine (number_any x 4 hb (by omega) h hl).mono ?_
  rintro e w1 ⟨rfl, h1, c1⟩
  go_wp2
  go_end0
  exact ⟨rfl, h1, c1⟩
theorem wshort_any {w : World} {ok : Nat → Prop} {p : Nat} {b : List Int} (n : Int) (h : PWr w ok p b) (hl : b.length + 8 ≤ 140737488355328) :
  Calls Try.prog 25 #[.pointer (some ⟨p, 0, none⟩), .int .i64 n] w fun e w' => e = .returned (.tuple #[]) ∧ PWr w' (orNew ok w) p (b ++ be (n % 18446744073709551616) 2) ∧ Chg ok w w' := by
  have hn := IntKind.wrap_u64 n
  have hb : 0 ≤ n % 18446744073709551616 ∧ n % 18446744073709551616 < 18446744073709551616 := by omega
  generalize n % 18446744073709551616 = x at hn hb ⊢
  go_enter Try.func25, Try.ntmps25
  go_wp2_with fail
  refine (number_any x 2 hb (by omega) h hl).mono ?_
  rintro e w1 ⟨rfl, h1, c1⟩
  go_wp2
  go_end0
  exact ⟨rfl, h1, c1⟩
theorem wlong_any {w : World} {ok : Nat → Prop} {p : Nat} {b : List Int} (n : Int) (hn : 0 ≤ n ∧ n < 18446744073709551616) (h : PWr w ok p b) (hl : b.length + 8 ≤ 140737488355328) :
  Calls Try.prog 27 #[.pointer (some ⟨p, 0, none⟩), .int .u64 n] w fun e w' => e = .returned (.tuple #[]) ∧ PWr w' (orNew ok w) p (b ++ be n 8) ∧ Chg ok w w' := by
  go_enter Try.func27, Try.ntmps27
  go_wp2_with fail
  refine (number_any n 8 hn (by omega) h hl).mono ?_
  rintro e w1 ⟨rfl, h1, c1⟩
  go_wp2
  go_end0
  exact ⟨rfl, h1, c1⟩
end Go.Proofs.Ytiecljhgpbifjaa
