/- foundrylaw03.alive: it answers true. -/
import Derived.Test.YtiecljhgpbifjaaWireK
set_option linter.unusedVariables false
set_option linter.unusedSimpArgs false
namespace Go.Proofs.Ytiecljhgpbifjaa
open Go.RowKit Go.Proofs.YtiecljhgpbifjaaW.PrintWords

/-- A new writer. -/
theorem new_writer (w : World) : PWr (w.alloc (.cells #[.slice none 0 0] 26)) (fun k => w.heap.size ≤ k) w.heap.size [] :=
  ⟨.slice none 0 0, ⟨Nat.le_refl _, heap_alloc_new w _, Kd.R_nil _ _ _ _ _⟩⟩
set_option maxRecDepth 100000 in
theorem alive_any (w : World) : Calls Try.prog 12 #[] w fun e w' => e = .returned (.bool true) ∧ Below w.heap.size w w' := by
  have h0 := new_writer w
  have c0 : Below w.heap.size w (w.alloc (.cells #[.slice none 0 0] 26)) := below_alloc (Below.refl _ _) _
  go_enter Try.func12, Try.ntmps12
  go_wp2_with fail
  refine (byte_any 1 h0 (by simp)).mono ?_
  rintro e w1 ⟨rfl, h1, c1⟩
  have b1 : Below w.heap.size w w1 := c0.trans (c1.below_ (by simp) (fun _ h => h))
  have h1 := h1.mono (ok' := fun k => w.heap.size ≤ k) (fun k hk => hk.elim id (fun h => by simp at h; omega))
  clear c1 h0 c0
  go_wp2_with fail
  refine (wshort_any 258 h1 (by simp)).mono ?_
  rintro e w2 ⟨rfl, h2, c2⟩
  have b2 : Below w.heap.size w w2 := b1.trans (c2.below_ b1.size (fun _ h => h))
  have h2 := h2.mono (ok' := fun k => w.heap.size ≤ k) (fun k hk => hk.elim id (fun h => Nat.le_trans b1.size h))
  clear c2 h1 b1
  go_wp2_with fail
  refine (wtext_any ⟨#[97, 98]⟩ h2.bound (fun _ h => h.2) (by simp [be_length]; decide)).mono ?_
  rintro e w3 ⟨rfl, h3, c3⟩
  have b3 : Below w.heap.size w w3 := b2.trans (c3.below_ b2.size (fun _ h => h.1))
  have h3 := h3.mono (ok' := fun k => w.heap.size ≤ k) (fun k hk => hk.elim (fun h => h.1) (fun h => Nat.le_trans b2.size h))
  have hx : [] ++ [(1 : Int)] ++ be (258 % 18446744073709551616) 2 ++ rawB (bytesOf ⟨#[97, 98]⟩) = [1, 1, 2, 0, 0, 0, 2, 97, 98] := by decide
  rw [hx] at h3
  clear c3 h2 b2 hx
  have r0 := reads_new w3 5 .u8 [2] (by simp)
  have r1 := read_any (A := some ⟨w3.heap.size, 0, none⟩) (c := 1) (xs := [2]) (Kd.C_of_reads r0) (by intro x hx; simp at hx; omega) (by simp)
  have hr := h3.step (w1 := w3.alloc (.cells #[.int .u8 2] 5)) (fun k _ hk => Below.heap_alloc _ _ _ hk)
  have b4 : Below w.heap.size w (w3.alloc (.cells #[.int .u8 2] 5)) := b3.alloc b3.size _
  clear h3 r0
  go_wp2_with fail
  refine r1.mono ?_
  rintro e w5 ⟨p, rfl, hP, hB⟩
  have b5 : Below w.heap.size w w5 := b4.trans (hB.mono b4.size)
  have hw5 := hr.bound.step (w1 := w5) (fun k _ hk => hB.block k hk)
  have hpge : (w3.alloc (.cells #[.int .u8 2] 5)).heap.size ≤ p := by obtain ⟨_, h, _⟩ := hP; exact h.okp.1
  have hbool := mBool_any hP (fun k hk => hk.2)
  clear hr hB r1
  go_wp2_with fail
  refine hbool.mono ?_
  rintro e w6 ⟨u, rfl, rfl, hP2, hC⟩
  have e1 : St.out (⟨[2], 0⟩ : St) (oBool [2]) false = false := by decide
  have e2 : St.took (⟨[2], 0⟩ : St) (oBool [2]) = ⟨[], 42⟩ := rfl
  rw [e2] at hP2
  simp only [e1]
  have hw6 := hw5.step (w1 := w6) (fun k hk hlt => hC.block k hlt (fun e => by have := hk.2; omega))
  have b6 : Below w.heap.size w w6 := b5.trans (hC.below_ b5.size (fun k hk => by rw [hk]; exact Nat.le_trans b4.size hpge))
  have herr := errs_any hP2
  have hbs := wbytes_any hw6 (by simp)
  have hln := wlen_any hw6
  simp only [List.length_cons, List.length_nil, Nat.zero_add, Nat.reduceAdd] at hbs hln
  clear hw5 hP b5 b4 hC hbool hpge e2 hP2
  go_wp2_with fail
  refine herr.mono ?_
  rintro e w7 ⟨rfl, rfl⟩
  go_wp2_with fail
  refine hbs.mono ?_
  rintro e w8 ⟨A8, c8, rfl, hR8, hB8⟩
  have hln8 := wlen_any (hw6.step (w1 := w8) (fun k _ hk => hB8.block k hk))
  simp only [List.length_cons, List.length_nil, Nat.zero_add, Nat.reduceAdd] at hln8
  obtain ⟨A9, c9, he9, _, hK9⟩ := Kd.R_reads hR8
  injection he9 with q1 q2 q3
  subst q1
  subst q3
  have hcv := conv_str (n := 9) (c := c8) hK9
  have hs : strOfNums [1, 1, 2, 0, 0, 0, 2, 97, 98] = ⟨#[1, 1, 2, 0, 0, 0, 2, 97, 98]⟩ := rfl
  rw [hs] at hcv
  have hB := hid (b6.trans (hB8.mono b6.size))
  clear hR8 hK9 hB8 b6
  go_wp2_with fail
  refine hln8.mono ?_
  rintro e w9 ⟨rfl, rfl⟩
  go_wp2
  go_ret
  exact ⟨rfl, hB.out⟩
end Go.Proofs.Ytiecljhgpbifjaa
