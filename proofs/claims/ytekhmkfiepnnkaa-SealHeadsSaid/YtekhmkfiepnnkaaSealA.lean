/- Package seal and the document's chapter 22: the small functions. -/
import Derived.Test.YtekhmkfiepnnkaaBe
import Derived.Laws.Bits64b
set_option linter.unusedVariables false
set_option linter.unusedSimpArgs false
namespace Go.Proofs.Ytekhmkfiepnnkaa
open Go.RowKit Go.Proofs.YtekhmkfiepnnkaaW.PrintWords Go.Proofs.YtekhmkfiepnnkaaW.PrintMore

/-- How many blocks a record of so many bytes has. -/
def need (n : Int) : Int := if n < 0 ∨ 131072 < n then 0 else if n ≤ 47 then 1 else 1 + (n + 2) / 50
set_option maxRecDepth 100000 in
theorem value_any {w : World} {A : Option Addr} {c : Nat} {b : List Int} (h : KB.C w A b.length b) (hb : Bytes b) (hl : b.length ≤ 8) :
  Calls Try.prog 59 #[.slice A b.length c] w fun e w' => e = .returned (.int .u64 (val b)) ∧ w' = w := by
  go_enter Try.func59, Try.ntmps59
  go_wp2_with fail
  go_loopw [3, 8] (fun v i wr => wr = w ∧ ∃ k : Nat, k ≤ b.length ∧ i = .int .i64 k ∧ v = .int .u64 (val (b.take k))) (fun _ i _ => b.length - (intOf i).toNat)
  case atStart => exact ⟨rfl, 0, Nat.zero_le _, rfl, by simp [val]⟩
  case round =>
    obtain ⟨rfl, k, hk, rfl, rfl⟩ := hrel
    by_cases hlt : k < b.length
    · obtain ⟨ad, rfl, hcell⟩ := (C_int h).at_ (k : Int) (by omega) (by omega)
      simp only [Int.toNat_natCast] at hcell
      have hlw : (k : Int) < (b.length : Int) := by omega
      have hrd : rd b k = b[k] := by simp [rd, List.getD_eq_getElem?_getD, hlt]
      rw [hrd] at hcell
      have hx := hb b[k] (List.getElem_mem hlt)
      have hv0 := val_lt (hb.take k)
      have hv := val_le8 (hb.take (k + 1)) (by rw [List.length_take]; omega)
      rw [← List.take_append_getElem hlt, val_snoc] at hv
      have hor := or_byte hv0.1 hv hx.1 hx.2
      have hw1 : IntKind.u64.wrap (val (b.take k) * 256) = val (b.take k) * 256 := by rw [wrap_u64_mod]; exact Int.emod_eq_of_lt (by omega) (by omega)
      go_wp2
      go_roundw
      case rel => exact ⟨trivial, k + 1, by omega, by go_num, by rw [← List.take_append_getElem hlt, val_snoc]⟩
      case measure => simp [intOf]; omega
    · obtain rfl : k = b.length := by omega
      rw [List.take_length]
      go_wp2
      go_ret
      exact ⟨rfl, rfl⟩
set_option maxRecDepth 100000 in
theorem fvalue_any {w : World} {A : Option Addr} {c : Nat} {b : List Int} (h : KB.C w A b.length b) (hb : Bytes b) (hl : b.length ≤ 8) :
  Calls Try.prog 61 #[.slice A b.length c] w fun e w' => e = .returned (.int .u64 (val b)) ∧ w' = w := by
  go_enter Try.func61, Try.ntmps61
  go_wp2_with fail
  go_loopw [3, 4] (fun v i wr => wr = w ∧ ∃ k : Nat, k ≤ b.length ∧ i = .int .i64 k ∧ v = .int .u64 (val (b.take k))) (fun _ i _ => b.length - (intOf i).toNat)
  case atStart => exact ⟨rfl, 0, Nat.zero_le _, rfl, by simp [val]⟩
  case round =>
    obtain ⟨rfl, k, hk, rfl, rfl⟩ := hrel
    by_cases hlt : k < b.length
    · obtain ⟨ad, rfl, hcell⟩ := (C_int h).at_ (k : Int) (by omega) (by omega)
      simp only [Int.toNat_natCast] at hcell
      have hlw : (k : Int) < (b.length : Int) := by omega
      have hrd : rd b k = b[k] := by simp [rd, List.getD_eq_getElem?_getD, hlt]
      rw [hrd] at hcell
      have hx := hb b[k] (List.getElem_mem hlt)
      have hv0 := val_lt (hb.take k)
      have hv := val_le8 (hb.take (k + 1)) (by rw [List.length_take]; omega)
      rw [← List.take_append_getElem hlt, val_snoc] at hv
      have hor := or_byte hv0.1 hv hx.1 hx.2
      have hw1 : IntKind.u64.wrap (val (b.take k) * 256) = val (b.take k) * 256 := by rw [wrap_u64_mod]; exact Int.emod_eq_of_lt (by omega) (by omega)
      go_wp2
      go_roundw
      case rel => exact ⟨trivial, k + 1, by omega, by go_num, by rw [← List.take_append_getElem hlt, val_snoc]⟩
      case measure => simp [intOf]; omega
    · obtain rfl : k = b.length := by omega
      rw [List.take_length]
      go_wp2
      go_ret
      exact ⟨rfl, rfl⟩
/-- Are all bytes 0? -/
def blank (b : List Int) : Bool := b.all (· == 0)
theorem blank_take {b : List Int} {k : Nat} (h : k < b.length) (h0 : blank (b.take k) = true) : blank (b.take (k + 1)) = (b[k] == 0) := by
  unfold blank at *
  rw [← List.take_append_getElem h, List.all_append, h0]
  simp
theorem blank_stop {b : List Int} {k : Nat} (h : k < b.length) (h0 : (b[k] == 0) = false) : blank b = false := by
  unfold blank
  rw [Bool.eq_false_iff]
  intro ha
  have := List.all_eq_true.1 ha b[k] (List.getElem_mem h)
  rw [h0] at this
  cases this

set_option maxRecDepth 100000 in
theorem blank_any {w : World} {A : Option Addr} {c : Nat} {b : List Int} (h : KB.C w A b.length b) :
  Calls Try.prog 60 #[.slice A b.length c] w fun e w' => e = .returned (.bool (blank b)) ∧ w' = w := by
  have hlm : b.length ≤ 9223372036854775807 := h.2.1
  go_enter Try.func60, Try.ntmps60
  go_wp2_with fail
  go_loopw [7] (fun i wr => wr = w ∧ ∃ k : Nat, k ≤ b.length ∧ i = .int .i64 k ∧ blank (b.take k) = true) (fun i _ => b.length - (intOf i).toNat)
  case atStart => exact ⟨rfl, 0, Nat.zero_le _, rfl, by simp [blank]⟩
  case round =>
    obtain ⟨rfl, k, hk, rfl, hbl⟩ := hrel
    by_cases hlt : k < b.length
    · obtain ⟨ad, rfl, hcell⟩ := (C_int h).at_ (k : Int) (by omega) (by omega)
      simp only [Int.toNat_natCast] at hcell
      have hlw : (k : Int) < (b.length : Int) := by omega
      have hrd : rd b k = b[k] := by simp [rd, List.getD_eq_getElem?_getD, hlt]
      rw [hrd] at hcell
      have hnext := blank_take hlt hbl
      have hstop := fun h0 => blank_stop (b := b) hlt h0
      generalize b[k] = x at hcell hnext hstop
      by_cases hx : x = 0
      · subst hx
        have hn2 : blank (b.take (k + 1)) = true := by rw [hnext]; rfl
        clear hnext hstop hbl
        go_wp2
        go_roundw
        case rel => exact ⟨trivial, k + 1, by omega, by go_num, hn2⟩
        case measure => simp [intOf]; omega
      · have hb0 : blank b = false := hstop (by simp [hx])
        have HB := hid hb0
        clear hnext hstop hb0 hbl
        go_wp2
        go_ret
        exact ⟨by rw [HB.out]; rfl, rfl⟩
    · obtain rfl : k = b.length := by omega
      rw [List.take_length] at hbl
      have HB := hid hbl
      clear hbl
      go_wp2
      go_ret
      exact ⟨by rw [HB.out]; rfl, rfl⟩

set_option maxRecDepth 100000 in
theorem clean_any {w : World} {A : Option Addr} {c : Nat} {b : List Int} (h : KB.C w A b.length b) :
  Calls Try.prog 62 #[.slice A b.length c] w fun e w' => e = .returned (.bool (blank b)) ∧ w' = w := by
  have hlm : b.length ≤ 9223372036854775807 := h.2.1
  go_enter Try.func62, Try.ntmps62
  go_wp2_with fail
  go_loopw [3] (fun i wr => wr = w ∧ ∃ k : Nat, k ≤ b.length ∧ i = .int .i64 k ∧ blank (b.take k) = true) (fun i _ => b.length - (intOf i).toNat)
  case atStart => exact ⟨rfl, 0, Nat.zero_le _, rfl, by simp [blank]⟩
  case round =>
    obtain ⟨rfl, k, hk, rfl, hbl⟩ := hrel
    by_cases hlt : k < b.length
    · obtain ⟨ad, rfl, hcell⟩ := (C_int h).at_ (k : Int) (by omega) (by omega)
      simp only [Int.toNat_natCast] at hcell
      have hlw : (k : Int) < (b.length : Int) := by omega
      have hrd : rd b k = b[k] := by simp [rd, List.getD_eq_getElem?_getD, hlt]
      rw [hrd] at hcell
      have hnext := blank_take hlt hbl
      have hstop := fun h0 => blank_stop (b := b) hlt h0
      generalize b[k] = x at hcell hnext hstop
      by_cases hx : x = 0
      · subst hx
        have hn2 : blank (b.take (k + 1)) = true := by rw [hnext]; rfl
        clear hnext hstop hbl
        go_wp2
        go_roundw
        case rel => exact ⟨trivial, k + 1, by omega, by go_num, hn2⟩
        case measure => simp [intOf]; omega
      · have hb0 : blank b = false := hstop (by simp [hx])
        have HB := hid hb0
        clear hnext hstop hb0 hbl
        go_wp2
        go_ret
        exact ⟨by rw [HB.out]; rfl, rfl⟩
    · obtain rfl : k = b.length := by omega
      rw [List.take_length] at hbl
      have HB := hid hbl
      clear hbl
      go_wp2
      go_ret
      exact ⟨by rw [HB.out]; rfl, rfl⟩

theorem need_any {w : World} (n : Int) (hn : -9223372036854775808 ≤ n ∧ n ≤ 9223372036854775807) :
  Calls Try.prog 26 #[.int .i64 n] w fun e w' => e = .returned (.int .i64 (need n)) ∧ w = w' := by
  unfold need
  by_cases h1 : n < 0
  · rw [if_pos (.inl h1)]
    go_enter Try.func26, Try.ntmps26
    go_wp2
    go_ret
    exact ⟨rfl, rfl⟩
  by_cases h2 : 131072 < n
  · rw [if_pos (.inr h2)]
    go_enter Try.func26, Try.ntmps26
    go_wp2
    go_ret
    exact ⟨rfl, rfl⟩
  rw [if_neg (by omega)]
  by_cases h3 : n ≤ 47
  · rw [if_pos h3]
    go_enter Try.func26, Try.ntmps26
    go_wp2
    go_ret
    exact ⟨rfl, rfl⟩
  rw [if_neg h3]
  obtain ⟨m, rfl⟩ : ∃ m : Int, n = m + 47 := ⟨n - 47, by omega⟩
  have hw1 : IntKind.i64.wrap (m + 47 - 47) = m := by rw [IntKind.wrap_i64]; omega
  have e0 : m + 47 - 47 = m := by omega
  have e1 : (m + 47 + 2) / 50 = (m + 49) / 50 := by congr 1; omega
  rw [e1]
  have hd : (m + 49).tdiv 50 = (m + 49) / 50 := Int.tdiv_eq_ediv_of_nonneg (by omega)
  have hdb : 0 ≤ (m + 49) / 50 ∧ (m + 49) / 50 ≤ 131072 := by omega
  have hw2 : IntKind.i64.wrap (m + 50) = m + 50 := by rw [IntKind.wrap_i64]; omega
  have hw3 : IntKind.i64.wrap (m + 50 - 1) = m + 49 := by rw [IntKind.wrap_i64]; omega
  have hw4 : IntKind.i64.wrap (m + 49) = m + 49 := by rw [IntKind.wrap_i64]; omega
  go_enter Try.func26, Try.ntmps26
  go_wp2

  go_ret
  exact ⟨rfl, rfl⟩

theorem fneed_any {w : World} (n : Int) (hn : -9223372036854775808 ≤ n ∧ n ≤ 9223372036854775807) :
  Calls Try.prog 27 #[.int .i64 n] w fun e w' => e = .returned (.int .i64 (need n)) ∧ w = w' := by
  unfold need
  by_cases h1 : n < 0
  · rw [if_pos (.inl h1)]
    go_enter Try.func27, Try.ntmps27
    go_wp2
    go_ret
    exact ⟨rfl, rfl⟩
  by_cases h2 : 131072 < n
  · rw [if_pos (.inr h2)]
    go_enter Try.func27, Try.ntmps27
    go_wp2
    go_ret
    exact ⟨rfl, rfl⟩
  rw [if_neg (by omega)]
  by_cases h3 : n ≤ 47
  · rw [if_pos h3]
    go_enter Try.func27, Try.ntmps27
    go_wp2
    go_ret
    exact ⟨rfl, rfl⟩
  rw [if_neg h3]
  obtain ⟨m, rfl⟩ : ∃ m : Int, n = m + 47 := ⟨n - 47, by omega⟩
  have hw1 : IntKind.i64.wrap (m + 47 - 47) = m := by rw [IntKind.wrap_i64]; omega
  have e0 : m + 47 - 47 = m := by omega
  have e1 : (m + 47 + 2) / 50 = (m + 49) / 50 := by congr 1; omega
  rw [e1]
  have hd : (m + 49).tdiv 50 = (m + 49) / 50 := Int.tdiv_eq_ediv_of_nonneg (by omega)
  have hdb : 0 ≤ (m + 49) / 50 ∧ (m + 49) / 50 ≤ 131072 := by omega
  have hw2 : IntKind.i64.wrap (m + 50) = m + 50 := by rw [IntKind.wrap_i64]; omega
  have hw3 : IntKind.i64.wrap (m + 50 - 1) = m + 49 := by rw [IntKind.wrap_i64]; omega
  have hw4 : IntKind.i64.wrap (m + 49) = m + 49 := by rw [IntKind.wrap_i64]; omega
  go_enter Try.func27, Try.ntmps27
  go_wp2

  go_ret
  exact ⟨rfl, rfl⟩
end Go.Proofs.Ytekhmkfiepnnkaa
