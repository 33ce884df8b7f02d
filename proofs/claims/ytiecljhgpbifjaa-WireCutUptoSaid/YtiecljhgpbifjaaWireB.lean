/- Package foundrylaw03: bytes of an Op. -/
import Derived.Test.YtiecljhgpbifjaaWireF
set_option linter.unusedVariables false
set_option linter.unusedSimpArgs false
namespace Go.Proofs.Ytiecljhgpbifjaa
open Go.RowKit Go.Proofs.YtiecljhgpbifjaaW.PrintWords

theorem QB_low {w : World} {b b' : Nat} {A : Option Addr} {c : Nat} {xs : List Int} (h : QB w b A c xs) (hb : b' ≤ b) : QB w b' A c xs := q_lower h hb
set_option maxRecDepth 100000 in
set_option maxHeartbeats 1000000 in
theorem bytes2 {w : World} {A A2 : Option Addr} {c c2 : Nat} (o : OQ) (ho : o.ok) (hkind : o.kind = 2) :
  Calls Try.prog 9 #[oqAgg o A c A2 c2] w fun e w' => ∃ A c, e = .returned (.slice A ([if o.n % 2 = 1 then (1 : Int) else 0]).length c) ∧ QB w' w.heap.size A c ([if o.n % 2 = 1 then (1 : Int) else 0]) ∧ Below w.heap.size w w' := by
  have k1 : (o.kind == 1) = false := by rw [hkind]; decide
  have k2 : (o.kind == 2) = true := by rw [hkind]; decide
  have hB1 := below_alloc (Below.refl w.heap.size w) (oqObj o A c A2 c2)
  have hs1 : (w.alloc (oqObj o A c A2 c2)).heap.size = w.heap.size + 1 := by simp
  clear hkind
  have hmod : o.n.tmod 2 = o.n % 2 := Int.tmod_eq_emod_of_nonneg ho.n.1
  have hwb := rbool_any (w := w.alloc (oqObj o A c A2 c2)) (o.n % 2 == 1)
  have hbe : (if (o.n % 2 == 1) = true then (1 : Int) else 0) = if o.n % 2 = 1 then 1 else 0 := by simp
  rw [hbe] at hwb
  generalize (if o.n % 2 = 1 then (1 : Int) else 0) = y at hwb ⊢
  go_enter Try.func9, Try.ntmps9
  go_wp2_with fail
  refine (hwb).mono ?_
  rintro e w2 ⟨A3, c3, rfl, hQ, hB⟩
  have hQ' : QB w2 w.heap.size A3 c3 _ := QB_low hQ (by rw [hs1]; omega)
  have hBn := hB1.trans (hB.mono (by rw [hs1]; omega))
  go_wp2
  go_ret
  exact ⟨A3, c3, rfl, hQ', hBn⟩
set_option maxRecDepth 100000 in
set_option maxHeartbeats 1000000 in
theorem bytes3 {w : World} {A A2 : Option Addr} {c c2 : Nat} (o : OQ) (ho : o.ok) (hkind : o.kind = 3) :
  Calls Try.prog 9 #[oqAgg o A c A2 c2] w fun e w' => ∃ A c, e = .returned (.slice A (be o.n 2).length c) ∧ QB w' w.heap.size A c (be o.n 2) ∧ Below w.heap.size w w' := by
  have k1 : (o.kind == 1) = false := by rw [hkind]; decide
  have k2 : (o.kind == 2) = false := by rw [hkind]; decide
  have k3 : (o.kind == 3) = true := by rw [hkind]; decide
  have hB1 := below_alloc (Below.refl w.heap.size w) (oqObj o A c A2 c2)
  have hs1 : (w.alloc (oqObj o A c A2 c2)).heap.size = w.heap.size + 1 := by simp
  clear hkind
  have hwb := rshort_any (w := w.alloc (oqObj o A c A2 c2)) (wrap64 o.n)
  have hbe : wrap64 o.n % 18446744073709551616 = o.n := by have := ho.n; unfold wrap64; omega
  rw [hbe] at hwb
  go_enter Try.func9, Try.ntmps9
  go_wp2_with fail
  refine (hwb).mono ?_
  rintro e w2 ⟨A3, c3, rfl, hQ, hB⟩
  have hQ' : QB w2 w.heap.size A3 c3 _ := QB_low hQ (by rw [hs1]; omega)
  have hBn := hB1.trans (hB.mono (by rw [hs1]; omega))
  go_wp2
  go_ret
  rw [be_length]
  exact ⟨A3, c3, rfl, hQ', hBn⟩
set_option maxRecDepth 100000 in
set_option maxHeartbeats 1000000 in
theorem bytes4 {w : World} {A A2 : Option Addr} {c c2 : Nat} (o : OQ) (ho : o.ok) (hkind : o.kind = 4) :
  Calls Try.prog 9 #[oqAgg o A c A2 c2] w fun e w' => ∃ A c, e = .returned (.slice A (be (o.n % 2147483648) 4).length c) ∧ QB w' w.heap.size A c (be (o.n % 2147483648) 4) ∧ Below w.heap.size w w' := by
  have k1 : (o.kind == 1) = false := by rw [hkind]; decide
  have k2 : (o.kind == 2) = false := by rw [hkind]; decide
  have k3 : (o.kind == 3) = false := by rw [hkind]; decide
  have k4 : (o.kind == 4) = true := by rw [hkind]; decide
  have hB1 := below_alloc (Below.refl w.heap.size w) (oqObj o A c A2 c2)
  have hs1 : (w.alloc (oqObj o A c A2 c2)).heap.size = w.heap.size + 1 := by simp
  clear hkind
  have hwb := rint_any (w := w.alloc (oqObj o A c A2 c2)) (wrap64 o.n)
  have hbe : wrap64 o.n % 2147483648 = o.n % 2147483648 := by have := ho.n; unfold wrap64; omega
  rw [hbe] at hwb
  go_enter Try.func9, Try.ntmps9
  go_wp2_with fail
  refine (hwb).mono ?_
  rintro e w2 ⟨A3, c3, rfl, hQ, hB⟩
  have hQ' : QB w2 w.heap.size A3 c3 _ := QB_low hQ (by rw [hs1]; omega)
  have hBn := hB1.trans (hB.mono (by rw [hs1]; omega))
  go_wp2
  go_ret
  rw [be_length]
  exact ⟨A3, c3, rfl, hQ', hBn⟩
set_option maxRecDepth 100000 in
set_option maxHeartbeats 1000000 in
theorem bytes6 {w : World} {A A2 : Option Addr} {c c2 : Nat} (o : OQ) (ho : o.ok) (hkind : o.kind = 6) :
  Calls Try.prog 9 #[oqAgg o A c A2 c2] w fun e w' => ∃ A c, e = .returned (.slice A (rawB (bytesOf o.s)).length c) ∧ QB w' w.heap.size A c (rawB (bytesOf o.s)) ∧ Below w.heap.size w w' := by
  have k1 : (o.kind == 1) = false := by rw [hkind]; decide
  have k2 : (o.kind == 2) = false := by rw [hkind]; decide
  have k3 : (o.kind == 3) = false := by rw [hkind]; decide
  have k4 : (o.kind == 4) = false := by rw [hkind]; decide
  have k5 : (o.kind == 5) = false := by rw [hkind]; decide
  have k6 : (o.kind == 6) = true := by rw [hkind]; decide
  have hB1 := below_alloc (Below.refl w.heap.size w) (oqObj o A c A2 c2)
  have hs1 : (w.alloc (oqObj o A c A2 c2)).heap.size = w.heap.size + 1 := by simp
  clear hkind
  go_enter Try.func9, Try.ntmps9
  go_wp2_with fail
  refine (rtext_any o.s (by have := ho.s; omega)).mono ?_
  rintro e w2 ⟨A3, c3, rfl, hQ, hB⟩
  have hQ' : QB w2 w.heap.size A3 c3 _ := QB_low hQ (by rw [hs1]; omega)
  have hBn := hB1.trans (hB.mono (by rw [hs1]; omega))
  go_wp2
  go_ret
  exact ⟨A3, c3, rfl, hQ', hBn⟩
set_option maxRecDepth 100000 in
set_option maxHeartbeats 1000000 in
theorem bytes8 {w : World} {A A2 : Option Addr} {c c2 : Nat} (o : OQ) (ho : o.ok) (hkind : o.kind = 8) (hC : (Kd.int .i64).C w A o.l.length o.l) (hl : (intsB o.l).length + 16 ≤ 140737488355328) :
  Calls Try.prog 9 #[oqAgg o A c A2 c2] w fun e w' => ∃ A c, e = .returned (.slice A (intsB o.l).length c) ∧ QB w' w.heap.size A c (intsB o.l) ∧ Below w.heap.size w w' := by
  have k1 : (o.kind == 1) = false := by rw [hkind]; decide
  have k2 : (o.kind == 2) = false := by rw [hkind]; decide
  have k3 : (o.kind == 3) = false := by rw [hkind]; decide
  have k4 : (o.kind == 4) = false := by rw [hkind]; decide
  have k5 : (o.kind == 5) = false := by rw [hkind]; decide
  have k6 : (o.kind == 6) = false := by rw [hkind]; decide
  have k7 : (o.kind == 7) = false := by rw [hkind]; decide
  have k8 : (o.kind == 8) = true := by rw [hkind]; decide
  have hB1 := below_alloc (Below.refl w.heap.size w) (oqObj o A c A2 c2)
  have hs1 : (w.alloc (oqObj o A c A2 c2)).heap.size = w.heap.size + 1 := by simp
  clear hkind
  go_enter Try.func9, Try.ntmps9
  go_wp2_with fail
  refine (rints_any (Kd.C_below hC hB1) hl (by have := ho.l; omega)).mono ?_
  rintro e w2 ⟨A3, c3, rfl, hQ, hB⟩
  have hQ' : QB w2 w.heap.size A3 c3 _ := QB_low hQ (by rw [hs1]; omega)
  have hBn := hB1.trans (hB.mono (by rw [hs1]; omega))
  go_wp2
  go_ret
  exact ⟨A3, c3, rfl, hQ', hBn⟩
set_option maxRecDepth 100000 in
set_option maxHeartbeats 1000000 in
theorem bytes9 {w : World} {A A2 : Option Addr} {c c2 : Nat} (o : OQ) (ho : o.ok) (hkind : o.kind = 9) (hC : Kd.string.C w A2 o.t.length o.t) (hl : (textsB o.t).length + 16 ≤ 140737488355328) :
  Calls Try.prog 9 #[oqAgg o A c A2 c2] w fun e w' => ∃ A c, e = .returned (.slice A (textsB o.t).length c) ∧ QB w' w.heap.size A c (textsB o.t) ∧ Below w.heap.size w w' := by
  have k1 : (o.kind == 1) = false := by rw [hkind]; decide
  have k2 : (o.kind == 2) = false := by rw [hkind]; decide
  have k3 : (o.kind == 3) = false := by rw [hkind]; decide
  have k4 : (o.kind == 4) = false := by rw [hkind]; decide
  have k5 : (o.kind == 5) = false := by rw [hkind]; decide
  have k6 : (o.kind == 6) = false := by rw [hkind]; decide
  have k7 : (o.kind == 7) = false := by rw [hkind]; decide
  have k8 : (o.kind == 8) = false := by rw [hkind]; decide
  have k9 : (o.kind == 9) = true := by rw [hkind]; decide
  have hB1 := below_alloc (Below.refl w.heap.size w) (oqObj o A c A2 c2)
  have hs1 : (w.alloc (oqObj o A c A2 c2)).heap.size = w.heap.size + 1 := by simp
  clear hkind
  go_enter Try.func9, Try.ntmps9
  go_wp2_with fail
  refine (rtexts_any (Kd.C_below hC hB1) hl (by have := ho.t; omega)).mono ?_
  rintro e w2 ⟨A3, c3, rfl, hQ, hB⟩
  have hQ' : QB w2 w.heap.size A3 c3 _ := QB_low hQ (by rw [hs1]; omega)
  have hBn := hB1.trans (hB.mono (by rw [hs1]; omega))
  go_wp2
  go_ret
  exact ⟨A3, c3, rfl, hQ', hBn⟩
set_option maxRecDepth 100000 in
set_option maxHeartbeats 1000000 in
theorem bytes1 {w : World} {A A2 : Option Addr} {c c2 : Nat} (o : OQ) (ho : o.ok) (hkind : o.kind = 1) :
  Calls Try.prog 9 #[oqAgg o A c A2 c2] w fun e w' => ∃ A c, e = .returned (.slice A ([o.n % 256]).length c) ∧ QB w' w.heap.size A c ([o.n % 256]) ∧ Below w.heap.size w w' := by
  have k1 : (o.kind == 1) = true := by rw [hkind]; decide
  have hB1 := below_alloc (Below.refl w.heap.size w) (oqObj o A c A2 c2)
  have hs1 : (w.alloc (oqObj o A c A2 c2)).heap.size = w.heap.size + 1 := by simp
  clear hkind
  have hQ : QB ((w.alloc (oqObj o A c A2 c2)).alloc (.cells #[.int .u8 (o.n % 256)] 5)) w.heap.size (some ⟨w.heap.size + 1, 0, none⟩) 1 [o.n % 256] := by
    have h := World.ownsRow_lit (base := w.heap.size) (e := 5) (size := 1) (w.alloc (oqObj o A c A2 c2)) #[.int .u8 (o.n % 256)] 1 (by simp) (by simp [maxLen]) rfl
    rw [hs1] at h
    exact q_of_own h
  have hB2 := below_alloc hB1 (.cells #[.int .u8 (o.n % 256)] 5)
  have HQ := hid hQ
  clear hQ
  go_enter Try.func9, Try.ntmps9
  go_wp2
  go_ret
  exact ⟨_, _, rfl, HQ.out, hB2⟩
set_option maxRecDepth 100000 in
set_option maxHeartbeats 1000000 in
theorem bytes5 {w : World} {A A2 : Option Addr} {c c2 : Nat} (o : OQ) (ho : o.ok) (hkind : o.kind = 5) :
  Calls Try.prog 9 #[oqAgg o A c A2 c2] w fun e w' => ∃ A c, e = .returned (.slice A (be o.n 8).length c) ∧ QB w' w.heap.size A c (be o.n 8) ∧ Below w.heap.size w w' := by
  have k1 : (o.kind == 1) = false := by rw [hkind]; decide
  have k2 : (o.kind == 2) = false := by rw [hkind]; decide
  have k3 : (o.kind == 3) = false := by rw [hkind]; decide
  have k4 : (o.kind == 4) = false := by rw [hkind]; decide
  have k5 : (o.kind == 5) = true := by rw [hkind]; decide
  have hB1 := below_alloc (Below.refl w.heap.size w) (oqObj o A c A2 c2)
  have hs1 : (w.alloc (oqObj o A c A2 c2)).heap.size = w.heap.size + 1 := by simp
  clear hkind
  go_enter Try.func9, Try.ntmps9
  go_wp2_with fail
  refine (rlong_any o.n ho.n).mono ?_
  rintro e w2 ⟨A3, c3, rfl, hR, hB⟩
  have hQ' : QB w2 w.heap.size A3 c3 (be o.n 8) := QB_low (QB.of_R (by rw [be_length]; exact hR)) (by rw [hs1]; omega)
  have hBn := hB1.trans (hB.mono (by rw [hs1]; omega))
  go_wp2
  go_ret
  rw [be_length]
  exact ⟨A3, c3, rfl, hQ', hBn⟩
set_option maxRecDepth 100000 in
set_option maxHeartbeats 1000000 in
theorem bytes7 {w : World} {A A2 : Option Addr} {c c2 : Nat} (o : OQ) (ho : o.ok) (hkind : o.kind = 7) :
  Calls Try.prog 9 #[oqAgg o A c A2 c2] w fun e w' => ∃ A c, e = .returned (.slice A (rawB (bytesOf o.s)).length c) ∧ QB w' w.heap.size A c (rawB (bytesOf o.s)) ∧ Below w.heap.size w w' := by
  have k1 : (o.kind == 1) = false := by rw [hkind]; decide
  have k2 : (o.kind == 2) = false := by rw [hkind]; decide
  have k3 : (o.kind == 3) = false := by rw [hkind]; decide
  have k4 : (o.kind == 4) = false := by rw [hkind]; decide
  have k5 : (o.kind == 5) = false := by rw [hkind]; decide
  have k6 : (o.kind == 6) = false := by rw [hkind]; decide
  have k7 : (o.kind == 7) = true := by rw [hkind]; decide
  have hB1 := below_alloc (Below.refl w.heap.size w) (oqObj o A c A2 c2)
  have hs1 : (w.alloc (oqObj o A c A2 c2)).heap.size = w.heap.size + 1 := by simp
  clear hkind
  have hcv := fun W => print_bytes (P := Try.prog) 9 24 5 Try.underlying9 Try.underlying24 Try.underlying5 o.s W
  have hBx := bytes_below (Below.refl (w.alloc (oqObj o A c A2 c2)).heap.size (w.alloc (oqObj o A c A2 c2))) (Nat.le_refl _) 5 o.s
  have hF := Kd.F_now (RB_reads (bytes_reads (w.alloc (oqObj o A c A2 c2)) 5 o.s (by have := ho.s; omega)))
  have hr := rraw_any (c := grownCap (w.alloc (oqObj o A c A2 c2)) o.s.size 0 5) hF (by rw [bytesOf_length]; have := ho.s; omega)
  rw [bytesOf_length] at hr
  have hsz : w.heap.size ≤ (Lib.bytesWorld (w.alloc (oqObj o A c A2 c2)) 5 o.s).heap.size := by have := hBx.size; simp at this; omega
  have hBy := hB1.trans (hBx.mono (by rw [hs1]; omega))
  clear hF hBx
  unfold oqObj at hr hsz hB1 hBy
  rw [World.size_alloc] at hr
  go_enter Try.func9, Try.ntmps9
  go_wp2_with fail
  refine hr.mono ?_
  rintro e w2 ⟨A3, c3, rfl, hQ, hB⟩
  have hQ' := QB_low hQ hsz
  have hBn := hBy.trans (hB.mono hsz)
  clear hcv hr
  go_wp2
  go_ret
  exact ⟨A3, c3, rfl, hQ', hBn⟩
set_option maxRecDepth 100000 in
set_option maxHeartbeats 1000000 in
theorem bytes0 {w : World} {A A2 : Option Addr} {c c2 : Nat} (o : OQ) (hk : (o.kind == 1) = false ∧ (o.kind == 2) = false ∧ (o.kind == 3) = false ∧ (o.kind == 4) = false ∧ (o.kind == 5) = false ∧ (o.kind == 6) = false ∧ (o.kind == 7) = false ∧ (o.kind == 8) = false ∧ (o.kind == 9) = false) :
  Calls Try.prog 9 #[oqAgg o A c A2 c2] w fun e w' => ∃ A c, e = .returned (.slice A 0 c) ∧ QB w' w.heap.size A c [] ∧ Below w.heap.size w w' := by
  obtain ⟨k1, k2, k3, k4, k5, k6, k7, k8, k9⟩ := hk
  have hB1 := below_alloc (Below.refl w.heap.size w) (oqObj o A c A2 c2)
  go_enter Try.func9, Try.ntmps9
  go_wp2
  go_ret
  exact ⟨none, 0, rfl, ⟨rfl, .inl ⟨rfl, none, rfl, fun a h => by cases h⟩⟩, hB1⟩
theorem bytes_any {w : World} {A A2 : Option Addr} {c c2 : Nat} (o : OQ) (ho : o.ok) (hC1 : (Kd.int .i64).C w A o.l.length o.l) (hC2 : Kd.string.C w A2 o.t.length o.t) (hl : o.B.length + 16 ≤ 140737488355328) :
  Calls Try.prog 9 #[oqAgg o A c A2 c2] w fun e w' => ∃ A c, e = .returned (.slice A o.B.length c) ∧ QB w' w.heap.size A c o.B ∧ Below w.heap.size w w' := by
  unfold OQ.B at hl ⊢
  by_cases k1 : o.kind = 1
  · rw [if_pos k1] at hl ⊢; exact bytes1 o ho k1
  by_cases k2 : o.kind = 2
  · rw [if_neg k1] at hl ⊢; rw [if_pos k2] at hl ⊢; exact bytes2 o ho k2
  by_cases k3 : o.kind = 3
  · rw [if_neg k1] at hl ⊢; rw [if_neg k2] at hl ⊢; rw [if_pos k3] at hl ⊢; exact bytes3 o ho k3
  by_cases k4 : o.kind = 4
  · rw [if_neg k1] at hl ⊢; rw [if_neg k2] at hl ⊢; rw [if_neg k3] at hl ⊢; rw [if_pos k4] at hl ⊢; exact bytes4 o ho k4
  by_cases k5 : o.kind = 5
  · rw [if_neg k1] at hl ⊢; rw [if_neg k2] at hl ⊢; rw [if_neg k3] at hl ⊢; rw [if_neg k4] at hl ⊢; rw [if_pos k5] at hl ⊢; exact bytes5 o ho k5
  by_cases k6 : o.kind = 6
  · rw [if_neg k1] at hl ⊢; rw [if_neg k2] at hl ⊢; rw [if_neg k3] at hl ⊢; rw [if_neg k4] at hl ⊢; rw [if_neg k5] at hl ⊢; rw [if_pos k6] at hl ⊢; exact bytes6 o ho k6
  by_cases k7 : o.kind = 7
  · rw [if_neg k1] at hl ⊢; rw [if_neg k2] at hl ⊢; rw [if_neg k3] at hl ⊢; rw [if_neg k4] at hl ⊢; rw [if_neg k5] at hl ⊢; rw [if_neg k6] at hl ⊢; rw [if_pos k7] at hl ⊢; exact bytes7 o ho k7
  by_cases k8 : o.kind = 8
  · rw [if_neg k1] at hl ⊢; rw [if_neg k2] at hl ⊢; rw [if_neg k3] at hl ⊢; rw [if_neg k4] at hl ⊢; rw [if_neg k5] at hl ⊢; rw [if_neg k6] at hl ⊢; rw [if_neg k7] at hl ⊢; rw [if_pos k8] at hl ⊢; exact bytes8 o ho k8 hC1 hl
  by_cases k9 : o.kind = 9
  · rw [if_neg k1] at hl ⊢; rw [if_neg k2] at hl ⊢; rw [if_neg k3] at hl ⊢; rw [if_neg k4] at hl ⊢; rw [if_neg k5] at hl ⊢; rw [if_neg k6] at hl ⊢; rw [if_neg k7] at hl ⊢; rw [if_neg k8] at hl ⊢; rw [if_pos k9] at hl ⊢; exact bytes9 o ho k9 hC2 hl
  · rw [if_neg k1] at hl ⊢; rw [if_neg k2] at hl ⊢; rw [if_neg k3] at hl ⊢; rw [if_neg k4] at hl ⊢; rw [if_neg k5] at hl ⊢; rw [if_neg k6] at hl ⊢; rw [if_neg k7] at hl ⊢; rw [if_neg k8] at hl ⊢; rw [if_neg k9] at hl ⊢; 
    exact bytes0 o ⟨by simpa using k1, by simpa using k2, by simpa using k3, by simpa using k4, by simpa using k5, by simpa using k6, by simpa using k7, by simpa using k8, by simpa using k9⟩
end Go.Proofs.Ytiecljhgpbifjaa
