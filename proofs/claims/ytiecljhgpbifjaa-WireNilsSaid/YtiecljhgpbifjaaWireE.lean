/- A nil writer: nothing is written. -/
import Derived.Test.YtiecljhgpbifjaaLaw03a
set_option linter.unusedVariables false
set_option linter.unusedSimpArgs false
namespace Go.Proofs.Ytiecljhgpbifjaa
open Go.RowKit Go.Proofs.YtiecljhgpbifjaaW.PrintWords

theorem wbyte_nil {w : World} (x : Int) : Calls Try.prog 23 #[.pointer none, .int .u8 x] w fun e w' => e = .returned (.tuple #[]) ∧ w = w' := by
  go_enter Try.func23, Try.ntmps23
  go_wp2
  go_end0
  exact ⟨rfl, rfl⟩
set_option maxRecDepth 100000 in
theorem wnumber_nil {w : World} (n : Int) (m : Nat) (hm : m ≤ 8) (hn : 0 ≤ n ∧ n < 18446744073709551616) : Calls Try.prog 66 #[.pointer none, .int .u64 n, .int .i64 m] w fun e w' => e = .returned (.tuple #[]) ∧ w = w' := by
  go_enter Try.func66, Try.ntmps66
  go_wp2
  go_loopw [6] (fun i wr => (∃ j : Nat, j ≤ m ∧ i = .int .i64 (8 * (j : Int) - 8)) ∧ w = wr) (fun i _ => ((intOf i) + 8).toNat)
  case atStart => exact ⟨⟨m, Nat.le_refl _, by congr 1; omega⟩, rfl⟩
  case round =>
    obtain ⟨⟨j, hj, rfl⟩, rfl⟩ := hrel
    by_cases h0 : j = 0
    · subst h0
      go_wp2
      go_end0
      exact ⟨rfl, rfl⟩
    · go_wp2_with fail
      refine (wbyte_nil _).mono ?_
      rintro e w1 ⟨rfl, rfl⟩
      go_wp2
      go_roundw
      case rel => exact ⟨⟨j - 1, by omega, by congr 1; omega⟩, trivial⟩
      case measure => simp [intOf]; omega
theorem wint_nil {w : World} (n : Int) : Calls Try.prog 26 #[.pointer none, .int .i64 n] w fun e w' => e = .returned (.tuple #[]) ∧ w = w' := by
  have hn := and31 n
  have hb : 0 ≤ n % 2147483648 ∧ n % 2147483648 < 18446744073709551616 := by omega
  generalize n % 2147483648 = x at hn hb
  go_enter Try.func26, Try.ntmps26
  go_wp2_with fail
  refine (wnumber_nil x 4 (by omega) hb).mono ?_
  rintro e w1 ⟨rfl, rfl⟩
  go_wp2
  go_end0
  exact ⟨rfl, rfl⟩
theorem wshort_nil {w : World} (n : Int) : Calls Try.prog 25 #[.pointer none, .int .i64 n] w fun e w' => e = .returned (.tuple #[]) ∧ w = w' := by
  have hn := IntKind.wrap_u64 n
  have hb : 0 ≤ n % 18446744073709551616 ∧ n % 18446744073709551616 < 18446744073709551616 := by omega
  generalize n % 18446744073709551616 = x at hn hb
  go_enter Try.func25, Try.ntmps25
  go_wp2_with fail
  refine (wnumber_nil x 2 (by omega) hb).mono ?_
  rintro e w1 ⟨rfl, rfl⟩
  go_wp2
  go_end0
  exact ⟨rfl, rfl⟩
theorem wlong_nil {w : World} (n : Int) (hb : 0 ≤ n ∧ n < 18446744073709551616) : Calls Try.prog 27 #[.pointer none, .int .u64 n] w fun e w' => e = .returned (.tuple #[]) ∧ w = w' := by
  go_enter Try.func27, Try.ntmps27
  go_wp2_with fail
  refine (wnumber_nil n 8 (by omega) hb).mono ?_
  rintro e w1 ⟨rfl, rfl⟩
  go_wp2
  go_end0
  exact ⟨rfl, rfl⟩
theorem wraw_nil {w : World} (A : Option Addr) (n c : Nat) : Calls Try.prog 29 #[.pointer none, .slice A n c] w fun e w' => e = .returned (.tuple #[]) ∧ w = w' := by
  go_enter Try.func29, Try.ntmps29
  go_wp2_with fail
  refine (wint_nil _).mono ?_
  rintro e w1 ⟨rfl, rfl⟩
  go_wp2
  go_end0
  exact ⟨rfl, rfl⟩
theorem wtext_nil {w : World} (s : ByteArray) : Calls Try.prog 28 #[.pointer none, .string s] w fun e w' => e = .returned (.tuple #[]) ∧ Below w.heap.size w w' := by
  have hcv := fun W => print_bytes (P := Try.prog) 9 24 5 Try.underlying9 Try.underlying24 Try.underlying5 s W
  have hB1 := bytes_below (Below.refl w.heap.size w) (Nat.le_refl _) 5 s
  go_enter Try.func28, Try.ntmps28
  go_wp2_with fail
  refine (wraw_nil _ _ _).mono ?_
  rintro e w1 ⟨rfl, rfl⟩
  have HB := hid hB1
  clear hB1 hcv
  go_wp2
  go_end0
  exact ⟨rfl, HB.out⟩

set_option maxRecDepth 100000 in
theorem wints_nil {w : World} {l : List Int} {A : Option Addr} {c : Nat} (hC : (Kd.int .i64).C w A l.length l) : Calls Try.prog 30 #[.pointer none, .slice A l.length c] w fun e w' => e = .returned (.tuple #[]) ∧ Below w.heap.size w w' := by
  have hlm : l.length ≤ 9223372036854775807 := hC.2.1
  go_enter Try.func30, Try.ntmps30
  go_wp2_with fail
  refine (wint_nil _).mono ?_
  rintro e w1 ⟨rfl, rfl⟩
  go_wp2_with fail
  go_loopw [5, 12] (fun _ i wr => ∃ k : Nat, k ≤ l.length ∧ i = .int .i64 k ∧ Below w.heap.size w wr) (fun _ i _ => l.length - (intOf i).toNat)
  case atStart => exact ⟨0, Nat.zero_le _, rfl, Below.refl _ _⟩
  case round =>
    obtain ⟨k, hk, rfl, hb⟩ := hrel
    by_cases hlt : k < l.length
    · obtain ⟨ad, rfl, hcell⟩ := (Kd.reads_of_C (enc := Value.int .i64) (d := (0 : Int)) (h1 := fun _ => rfl) (Kd.C_below hC hb)).at_ (k : Int) (by omega) (by omega)
      simp only [Int.toNat_natCast] at hcell
      have hlw : (k : Int) < (l.length : Int) := by omega
      go_wp2_with fail
      refine (wint_nil _).mono ?_
      rintro e w2 ⟨rfl, h2⟩
      have hb2 : Below w.heap.size w w2 := by first | exact (hb.trans (h2.mono hb.size)) | (subst h2; exact hb)
      clear h2 hcell
      go_wp2
      go_roundw
      case rel => exact ⟨k + 1, by omega, by go_num, hb2⟩
      case measure => simp [intOf]; omega
    · obtain rfl : k = l.length := by omega
      go_wp2
      go_end0
      exact ⟨rfl, hb⟩

set_option maxRecDepth 100000 in
theorem wtexts_nil {w : World} {l : List ByteArray} {A : Option Addr} {c : Nat} (hC : Kd.string.C w A l.length l) : Calls Try.prog 31 #[.pointer none, .slice A l.length c] w fun e w' => e = .returned (.tuple #[]) ∧ Below w.heap.size w w' := by
  have hlm : l.length ≤ 9223372036854775807 := hC.2.1
  go_enter Try.func31, Try.ntmps31
  go_wp2_with fail
  refine (wint_nil _).mono ?_
  rintro e w1 ⟨rfl, rfl⟩
  go_wp2_with fail
  go_loopw [5, 12] (fun _ i wr => ∃ k : Nat, k ≤ l.length ∧ i = .int .i64 k ∧ Below w.heap.size w wr) (fun _ i _ => l.length - (intOf i).toNat)
  case atStart => exact ⟨0, Nat.zero_le _, rfl, Below.refl _ _⟩
  case round =>
    obtain ⟨k, hk, rfl, hb⟩ := hrel
    by_cases hlt : k < l.length
    · obtain ⟨ad, rfl, hcell⟩ := (Kd.reads_of_C (enc := Value.string) (d := ByteArray.empty) (h1 := fun _ => rfl) (Kd.C_below hC hb)).at_ (k : Int) (by omega) (by omega)
      simp only [Int.toNat_natCast] at hcell
      have hlw : (k : Int) < (l.length : Int) := by omega
      go_wp2_with fail
      refine (wtext_nil _).mono ?_
      rintro e w2 ⟨rfl, h2⟩
      have hb2 : Below w.heap.size w w2 := by first | exact (hb.trans (h2.mono hb.size)) | (subst h2; exact hb)
      clear h2 hcell
      go_wp2
      go_roundw
      case rel => exact ⟨k + 1, by omega, by go_num, hb2⟩
      case measure => simp [intOf]; omega
    · obtain rfl : k = l.length := by omega
      go_wp2
      go_end0
      exact ⟨rfl, hb⟩

set_option maxRecDepth 100000 in
set_option maxHeartbeats 4000000 in
theorem wnil1 {w : World} {A A2 : Option Addr} {c c2 : Nat} (o : OQ) (ho : o.ok) (hC1 : (Kd.int .i64).C w A o.l.length o.l) (hC2 : Kd.string.C w A2 o.t.length o.t) (hkind : o.kind = 1) :
  Calls Try.prog 8 #[.pointer none, oqAgg o A c A2 c2] w fun e w' => e = .returned (.tuple #[]) ∧ Below w.heap.size w w' := by
  have k1 : (o.kind == 1) = true := by rw [hkind]; decide
  have hB1 := below_alloc (Below.refl w.heap.size w) (oqObj o A c A2 c2)
  have hD1 := Kd.C_below hC1 hB1
  have hD2 := Kd.C_below hC2 hB1
  unfold oqObj at hB1 hD1 hD2
  clear hkind hC1 hC2
  go_enter Try.func8, Try.ntmps8
  go_wp2_with fail
  refine (wbyte_nil _).mono ?_
  rintro e w2 ⟨rfl, h2⟩
  have hb2 : Below w.heap.size w w2 := by first | (subst h2; exact hB1) | exact (hB1.trans (h2.mono (by simp)))
  clear h2 hB1 hD1 hD2
  go_wp2
  go_end0
  exact ⟨rfl, hb2⟩

set_option maxRecDepth 100000 in
set_option maxHeartbeats 4000000 in
theorem wnil2 {w : World} {A A2 : Option Addr} {c c2 : Nat} (o : OQ) (ho : o.ok) (hC1 : (Kd.int .i64).C w A o.l.length o.l) (hC2 : Kd.string.C w A2 o.t.length o.t) (hkind : o.kind = 2) :
  Calls Try.prog 8 #[.pointer none, oqAgg o A c A2 c2] w fun e w' => e = .returned (.tuple #[]) ∧ Below w.heap.size w w' := by
  have k1 : (o.kind == 1) = false := by rw [hkind]; decide
  have k2 : (o.kind == 2) = true := by rw [hkind]; decide
  have hB1 := below_alloc (Below.refl w.heap.size w) (oqObj o A c A2 c2)
  have hD1 := Kd.C_below hC1 hB1
  have hD2 := Kd.C_below hC2 hB1
  unfold oqObj at hB1 hD1 hD2
  clear hkind hC1 hC2
  have hmod : o.n.tmod 2 = o.n % 2 := Int.tmod_eq_emod_of_nonneg ho.n.1
  go_enter Try.func8, Try.ntmps8
  go_wp2_with fail
  refine (wbool_nil _).mono ?_
  rintro e w2 ⟨rfl, h2⟩
  have hb2 : Below w.heap.size w w2 := by first | (subst h2; exact hB1) | exact (hB1.trans (h2.mono (by simp)))
  clear h2 hB1 hD1 hD2
  go_wp2
  go_end0
  exact ⟨rfl, hb2⟩

set_option maxRecDepth 100000 in
set_option maxHeartbeats 4000000 in
theorem wnil3 {w : World} {A A2 : Option Addr} {c c2 : Nat} (o : OQ) (ho : o.ok) (hC1 : (Kd.int .i64).C w A o.l.length o.l) (hC2 : Kd.string.C w A2 o.t.length o.t) (hkind : o.kind = 3) :
  Calls Try.prog 8 #[.pointer none, oqAgg o A c A2 c2] w fun e w' => e = .returned (.tuple #[]) ∧ Below w.heap.size w w' := by
  have k1 : (o.kind == 1) = false := by rw [hkind]; decide
  have k2 : (o.kind == 2) = false := by rw [hkind]; decide
  have k3 : (o.kind == 3) = true := by rw [hkind]; decide
  have hB1 := below_alloc (Below.refl w.heap.size w) (oqObj o A c A2 c2)
  have hD1 := Kd.C_below hC1 hB1
  have hD2 := Kd.C_below hC2 hB1
  unfold oqObj at hB1 hD1 hD2
  clear hkind hC1 hC2
  go_enter Try.func8, Try.ntmps8
  go_wp2_with fail
  refine (wshort_nil _).mono ?_
  rintro e w2 ⟨rfl, h2⟩
  have hb2 : Below w.heap.size w w2 := by first | (subst h2; exact hB1) | exact (hB1.trans (h2.mono (by simp)))
  clear h2 hB1 hD1 hD2
  go_wp2
  go_end0
  exact ⟨rfl, hb2⟩

set_option maxRecDepth 100000 in
set_option maxHeartbeats 4000000 in
theorem wnil4 {w : World} {A A2 : Option Addr} {c c2 : Nat} (o : OQ) (ho : o.ok) (hC1 : (Kd.int .i64).C w A o.l.length o.l) (hC2 : Kd.string.C w A2 o.t.length o.t) (hkind : o.kind = 4) :
  Calls Try.prog 8 #[.pointer none, oqAgg o A c A2 c2] w fun e w' => e = .returned (.tuple #[]) ∧ Below w.heap.size w w' := by
  have k1 : (o.kind == 1) = false := by rw [hkind]; decide
  have k2 : (o.kind == 2) = false := by rw [hkind]; decide
  have k3 : (o.kind == 3) = false := by rw [hkind]; decide
  have k4 : (o.kind == 4) = true := by rw [hkind]; decide
  have hB1 := below_alloc (Below.refl w.heap.size w) (oqObj o A c A2 c2)
  have hD1 := Kd.C_below hC1 hB1
  have hD2 := Kd.C_below hC2 hB1
  unfold oqObj at hB1 hD1 hD2
  clear hkind hC1 hC2
  go_enter Try.func8, Try.ntmps8
  go_wp2_with fail
  refine (wint_nil _).mono ?_
  rintro e w2 ⟨rfl, h2⟩
  have hb2 : Below w.heap.size w w2 := by first | (subst h2; exact hB1) | exact (hB1.trans (h2.mono (by simp)))
  clear h2 hB1 hD1 hD2
  go_wp2
  go_end0
  exact ⟨rfl, hb2⟩

set_option maxRecDepth 100000 in
set_option maxHeartbeats 4000000 in
theorem wnil5 {w : World} {A A2 : Option Addr} {c c2 : Nat} (o : OQ) (ho : o.ok) (hC1 : (Kd.int .i64).C w A o.l.length o.l) (hC2 : Kd.string.C w A2 o.t.length o.t) (hkind : o.kind = 5) :
  Calls Try.prog 8 #[.pointer none, oqAgg o A c A2 c2] w fun e w' => e = .returned (.tuple #[]) ∧ Below w.heap.size w w' := by
  have k1 : (o.kind == 1) = false := by rw [hkind]; decide
  have k2 : (o.kind == 2) = false := by rw [hkind]; decide
  have k3 : (o.kind == 3) = false := by rw [hkind]; decide
  have k4 : (o.kind == 4) = false := by rw [hkind]; decide
  have k5 : (o.kind == 5) = true := by rw [hkind]; decide
  have hB1 := below_alloc (Below.refl w.heap.size w) (oqObj o A c A2 c2)
  have hD1 := Kd.C_below hC1 hB1
  have hD2 := Kd.C_below hC2 hB1
  unfold oqObj at hB1 hD1 hD2
  clear hkind hC1 hC2
  go_enter Try.func8, Try.ntmps8
  go_wp2_with fail
  refine (wlong_nil _ ho.n).mono ?_
  rintro e w2 ⟨rfl, h2⟩
  have hb2 : Below w.heap.size w w2 := by first | (subst h2; exact hB1) | exact (hB1.trans (h2.mono (by simp)))
  clear h2 hB1 hD1 hD2
  go_wp2
  go_end0
  exact ⟨rfl, hb2⟩

set_option maxRecDepth 100000 in
set_option maxHeartbeats 4000000 in
theorem wnil6 {w : World} {A A2 : Option Addr} {c c2 : Nat} (o : OQ) (ho : o.ok) (hC1 : (Kd.int .i64).C w A o.l.length o.l) (hC2 : Kd.string.C w A2 o.t.length o.t) (hkind : o.kind = 6) :
  Calls Try.prog 8 #[.pointer none, oqAgg o A c A2 c2] w fun e w' => e = .returned (.tuple #[]) ∧ Below w.heap.size w w' := by
  have k1 : (o.kind == 1) = false := by rw [hkind]; decide
  have k2 : (o.kind == 2) = false := by rw [hkind]; decide
  have k3 : (o.kind == 3) = false := by rw [hkind]; decide
  have k4 : (o.kind == 4) = false := by rw [hkind]; decide
  have k5 : (o.kind == 5) = false := by rw [hkind]; decide
  have k6 : (o.kind == 6) = true := by rw [hkind]; decide
  have hB1 := below_alloc (Below.refl w.heap.size w) (oqObj o A c A2 c2)
  have hD1 := Kd.C_below hC1 hB1
  have hD2 := Kd.C_below hC2 hB1
  unfold oqObj at hB1 hD1 hD2
  clear hkind hC1 hC2
  go_enter Try.func8, Try.ntmps8
  go_wp2_with fail
  refine (wtext_nil _).mono ?_
  rintro e w2 ⟨rfl, h2⟩
  have hb2 : Below w.heap.size w w2 := by first | (subst h2; exact hB1) | exact (hB1.trans (h2.mono (by simp)))
  clear h2 hB1 hD1 hD2
  go_wp2
  go_end0
  exact ⟨rfl, hb2⟩

set_option maxRecDepth 100000 in
set_option maxHeartbeats 4000000 in
theorem wnil7 {w : World} {A A2 : Option Addr} {c c2 : Nat} (o : OQ) (ho : o.ok) (hC1 : (Kd.int .i64).C w A o.l.length o.l) (hC2 : Kd.string.C w A2 o.t.length o.t) (hkind : o.kind = 7) :
  Calls Try.prog 8 #[.pointer none, oqAgg o A c A2 c2] w fun e w' => e = .returned (.tuple #[]) ∧ Below w.heap.size w w' := by
  have k1 : (o.kind == 1) = false := by rw [hkind]; decide
  have k2 : (o.kind == 2) = false := by rw [hkind]; decide
  have k3 : (o.kind == 3) = false := by rw [hkind]; decide
  have k4 : (o.kind == 4) = false := by rw [hkind]; decide
  have k5 : (o.kind == 5) = false := by rw [hkind]; decide
  have k6 : (o.kind == 6) = false := by rw [hkind]; decide
  have k7 : (o.kind == 7) = true := by rw [hkind]; decide
  have hB1 := below_alloc (Below.refl w.heap.size w) (oqObj o A c A2 c2)
  have hD1 := Kd.C_below hC1 hB1
  have hD2 := Kd.C_below hC2 hB1
  unfold oqObj at hB1 hD1 hD2
  clear hkind hC1 hC2
  have hcv := fun W => print_bytes (P := Try.prog) 9 24 5 Try.underlying9 Try.underlying24 Try.underlying5 o.s W
  have hBx := bytes_below (Below.refl (w.alloc (.cells #[.int .i64 o.kind, .int .u64 o.n, .string o.s, .slice A o.l.length c, .slice A2 o.t.length c2, .int .i64 o.most, .int .i64 o.long] 32)).heap.size (w.alloc (.cells #[.int .i64 o.kind, .int .u64 o.n, .string o.s, .slice A o.l.length c, .slice A2 o.t.length c2, .int .i64 o.most, .int .i64 o.long] 32))) (Nat.le_refl _) 5 o.s
  have hBy : Below w.heap.size w (Lib.bytesWorld (w.alloc (.cells #[.int .i64 o.kind, .int .u64 o.n, .string o.s, .slice A o.l.length c, .slice A2 o.t.length c2, .int .i64 o.most, .int .i64 o.long] 32)) 5 o.s) := hB1.trans (hBx.mono (by simp))
  go_enter Try.func8, Try.ntmps8
  go_wp2_with fail
  refine (wraw_nil _ _ _).mono ?_
  rintro e w2 ⟨rfl, h2⟩
  have hb2 : Below w.heap.size w w2 := by first | (subst h2; exact hBy) | exact (hB1.trans (h2.mono (by simp)))
  clear h2 hB1 hD1 hD2 hcv hBx hBy
  go_wp2
  go_end0
  exact ⟨rfl, hb2⟩

set_option maxRecDepth 100000 in
set_option maxHeartbeats 4000000 in
theorem wnil8 {w : World} {A A2 : Option Addr} {c c2 : Nat} (o : OQ) (ho : o.ok) (hC1 : (Kd.int .i64).C w A o.l.length o.l) (hC2 : Kd.string.C w A2 o.t.length o.t) (hkind : o.kind = 8) :
  Calls Try.prog 8 #[.pointer none, oqAgg o A c A2 c2] w fun e w' => e = .returned (.tuple #[]) ∧ Below w.heap.size w w' := by
  have k1 : (o.kind == 1) = false := by rw [hkind]; decide
  have k2 : (o.kind == 2) = false := by rw [hkind]; decide
  have k3 : (o.kind == 3) = false := by rw [hkind]; decide
  have k4 : (o.kind == 4) = false := by rw [hkind]; decide
  have k5 : (o.kind == 5) = false := by rw [hkind]; decide
  have k6 : (o.kind == 6) = false := by rw [hkind]; decide
  have k7 : (o.kind == 7) = false := by rw [hkind]; decide
  have k8 : (o.kind == 8) = true := by rw [hkind]; decide
  have hB1 := below_alloc (Below.refl w.heap.size w) (oqObj o A c A2 c2)
  have hD1 := Kd.C_below hC1 hB1
  have hD2 := Kd.C_below hC2 hB1
  unfold oqObj at hB1 hD1 hD2
  clear hkind hC1 hC2
  go_enter Try.func8, Try.ntmps8
  go_wp2_with fail
  refine (wints_nil hD1).mono ?_
  rintro e w2 ⟨rfl, h2⟩
  have hb2 : Below w.heap.size w w2 := by first | (subst h2; exact hB1) | exact (hB1.trans (h2.mono (by simp)))
  clear h2 hB1 hD1 hD2
  go_wp2
  go_end0
  exact ⟨rfl, hb2⟩

set_option maxRecDepth 100000 in
set_option maxHeartbeats 4000000 in
theorem wnil9 {w : World} {A A2 : Option Addr} {c c2 : Nat} (o : OQ) (ho : o.ok) (hC1 : (Kd.int .i64).C w A o.l.length o.l) (hC2 : Kd.string.C w A2 o.t.length o.t) (hkind : o.kind = 9) :
  Calls Try.prog 8 #[.pointer none, oqAgg o A c A2 c2] w fun e w' => e = .returned (.tuple #[]) ∧ Below w.heap.size w w' := by
  have k1 : (o.kind == 1) = false := by rw [hkind]; decide
  have k2 : (o.kind == 2) = false := by rw [hkind]; decide
  have k3 : (o.kind == 3) = false := by rw [hkind]; decide
  have k4 : (o.kind == 4) = false := by rw [hkind]; decide
  have k5 : (o.kind == 5) = false := by rw [hkind]; decide
  have k6 : (o.kind == 6) = false := by rw [hkind]; decide
  have k7 : (o.kind == 7) = false := by rw [hkind]; decide
  have k8 : (o.kind == 8) = false := by rw [hkind]; decide
  have k9 : (o.kind == 9) = true := by rw [hkind]; decide
  have hB1 := below_alloc (Below.refl w.heap.size w) (oqObj o A c A2 c2)
  have hD1 := Kd.C_below hC1 hB1
  have hD2 := Kd.C_below hC2 hB1
  unfold oqObj at hB1 hD1 hD2
  clear hkind hC1 hC2
  go_enter Try.func8, Try.ntmps8
  go_wp2_with fail
  refine (wtexts_nil hD2).mono ?_
  rintro e w2 ⟨rfl, h2⟩
  have hb2 : Below w.heap.size w w2 := by first | (subst h2; exact hB1) | exact (hB1.trans (h2.mono (by simp)))
  clear h2 hB1 hD1 hD2
  go_wp2
  go_end0
  exact ⟨rfl, hb2⟩

set_option maxRecDepth 100000 in
set_option maxHeartbeats 4000000 in
theorem wnil10 {w : World} {A A2 : Option Addr} {c c2 : Nat} (o : OQ) (ho : o.ok) (hC1 : (Kd.int .i64).C w A o.l.length o.l) (hC2 : Kd.string.C w A2 o.t.length o.t) (hkind : ¬ (1 ≤ o.kind ∧ o.kind ≤ 9)) :
  Calls Try.prog 8 #[.pointer none, oqAgg o A c A2 c2] w fun e w' => e = .returned (.tuple #[]) ∧ Below w.heap.size w w' := by
  have k1 : (o.kind == 1) = false := by simp; omega
  have k2 : (o.kind == 2) = false := by simp; omega
  have k3 : (o.kind == 3) = false := by simp; omega
  have k4 : (o.kind == 4) = false := by simp; omega
  have k5 : (o.kind == 5) = false := by simp; omega
  have k6 : (o.kind == 6) = false := by simp; omega
  have k7 : (o.kind == 7) = false := by simp; omega
  have k8 : (o.kind == 8) = false := by simp; omega
  have k9 : (o.kind == 9) = false := by simp; omega
  have hB1 := below_alloc (Below.refl w.heap.size w) (oqObj o A c A2 c2)
  have hD1 := Kd.C_below hC1 hB1
  have hD2 := Kd.C_below hC2 hB1
  unfold oqObj at hB1 hD1 hD2
  clear hkind hC1 hC2
  go_enter Try.func8, Try.ntmps8
  go_wp2
  go_end0
  exact ⟨rfl, hB1⟩

theorem write_nil {w : World} {A A2 : Option Addr} {c c2 : Nat} (o : OQ) (ho : o.ok) (hC1 : (Kd.int .i64).C w A o.l.length o.l) (hC2 : Kd.string.C w A2 o.t.length o.t) :
  Calls Try.prog 8 #[.pointer none, oqAgg o A c A2 c2] w fun e w' => e = .returned (.tuple #[]) ∧ Below w.heap.size w w' := by
  by_cases k1 : o.kind = 1
  · exact wnil1 o ho hC1 hC2 k1
  by_cases k2 : o.kind = 2
  · exact wnil2 o ho hC1 hC2 k2
  by_cases k3 : o.kind = 3
  · exact wnil3 o ho hC1 hC2 k3
  by_cases k4 : o.kind = 4
  · exact wnil4 o ho hC1 hC2 k4
  by_cases k5 : o.kind = 5
  · exact wnil5 o ho hC1 hC2 k5
  by_cases k6 : o.kind = 6
  · exact wnil6 o ho hC1 hC2 k6
  by_cases k7 : o.kind = 7
  · exact wnil7 o ho hC1 hC2 k7
  by_cases k8 : o.kind = 8
  · exact wnil8 o ho hC1 hC2 k8
  by_cases k9 : o.kind = 9
  · exact wnil9 o ho hC1 hC2 k9
  exact wnil10 o ho hC1 hC2 (by omega)
end Go.Proofs.Ytiecljhgpbifjaa
