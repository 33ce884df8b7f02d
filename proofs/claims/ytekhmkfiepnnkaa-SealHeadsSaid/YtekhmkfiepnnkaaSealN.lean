/- Package foundrylaw22: live. -/
import Derived.Test.YtekhmkfiepnnkaaSealM
set_option linter.unusedVariables false
set_option linter.unusedSimpArgs false
namespace Go.Proofs.Ytekhmkfiepnnkaa
open Go.RowKit Go.Proofs.YtekhmkfiepnnkaaW.PrintWords Go.Proofs.YtekhmkfiepnnkaaW.PrintMore

theorem make_bytes (m : Nat) (hn : m ≤ 281474976710656) : ∀ W : World, (Instr.makeSlice 22 (.int .i64 (m : Int)) (.int .i64 (m : Int))).run Try.prog W = .ok (.slice (some ⟨W.heap.size, 0, none⟩) m m) (W.alloc (.cells (madeCells #[.int .u8 0] m) 5)) :=
  print_make 22 5 .u8 1 Try.underlying22 info_u8 (by decide) m (by omega)
set_option maxRecDepth 100000 in
set_option maxHeartbeats 1000000 in
theorem live_any {w : World} : Calls Try.prog 19 #[] w fun e w' => e = .returned (.bool true) ∧ Below w.heap.size w w' := by
  have hmk : ∀ W : World, (Instr.makeSlice 22 (.int .i64 60) (.int .i64 60)).run Try.prog W = .ok (.slice (some ⟨W.heap.size, 0, none⟩) 60 60) (W.alloc (.cells (madeCells #[.int .u8 0] 60) 5)) := make_bytes 60 (by omega)
  have hm0 : (madeCells #[Value.int .u8 0] 60)[59]? = some (.int .u8 0) := by kernel_rfl
  obtain ⟨f1, f2, f3, f4, f5, f6, f7⟩ := live_facts
  obtain ⟨g1, g2, g3⟩ := live_need
  have n1 := fun W => need_any (w := W) 47 (by omega)
  have n2 := fun W => need_any (w := W) 48 (by omega)
  have n3 := fun W => need_any (w := W) (-1) (by omega)
  rw [g1] at n1
  rw [g2] at n2
  rw [g3] at n3
  clear g1 g2 g3
  go_enter Try.func19, Try.ntmps19
  go_wp2_with fail
  refine (new_ok 16 (by omega) (by omega)).mono ?_
  rintro e w1 ⟨rfl, h1, b1⟩
  go_wp2_with fail
  refine (n1 _).mono ?_
  rintro e w2 ⟨rfl, rfl⟩
  go_wp2_with fail
  refine (n2 _).mono ?_
  rintro e w2 ⟨rfl, rfl⟩
  go_wp2_with fail
  refine (n3 _).mono ?_
  rintro e w2 ⟨rfl, rfl⟩
  go_wp2_with fail
  have hB60 : (madeCells #[Value.int .u8 0] 60).setIfInBounds 59 (.int .u8 7) = (nums .u8 B60).toArray := by kernel_rfl
  rw [hB60]
  have hb3 := below_alloc (Below.refl w1.heap.size w1) (.cells (nums .u8 B60).toArray 5)
  have hF3 := RB_new w1 5 B60 (by decide)
  have h3 := h1.bound.step (w1 := w1.alloc (.cells (nums .u8 B60).toArray 5)) (fun k _ hlt => hb3.block k hlt)
  have hne : apart (fun k => k = w1.heap.size) (fun k => w.heap.size ≤ k ∧ k < w1.heap.size) := fun k hk h => by omega
  have hs1 := b1.size
  have hs3 : (w1.alloc (.cells (nums .u8 B60).toArray 5)).heap.size = w1.heap.size + 1 := World.size_alloc _ _
  have b3 : Below w.heap.size w (w1.alloc (.cells (nums .u8 B60).toArray 5)) := b1.trans (hb3.mono hs1)
  have hsw := swrite_any (c := 60) (w.heap.size + 1) 2 lr h3 hF3 hne (by decide) B60_bytes (by decide) (by omega) (by simp [DM.new])
  rw [f1] at hsw
  have hsw2 : Calls Try.prog 22 #[.pointer (some ⟨w.heap.size + 1, 0, none⟩), .int .i64 2, .agg #[.int .u64 5, .int .i64 0, .int .i64 0, .slice (some ⟨w1.heap.size, 0, none⟩) 60 60]] (w1.alloc (.cells (nums .u8 B60).toArray 5))
    fun e w' => e = .returned (.int .i64 0) ∧ PDisk w' (orNew (fun k => w.heap.size ≤ k ∧ k < w1.heap.size) (w1.alloc (.cells (nums .u8 B60).toArray 5))) (w.heap.size + 1) lD ∧ Chg (fun k => w.heap.size ≤ k ∧ k < w1.heap.size) (w1.alloc (.cells (nums .u8 B60).toArray 5)) w' := hsw
  clear hsw hmk hm0 hb3 h3 h1 n1 n2 n3 f1
  generalize w1.alloc (.cells (nums .u8 B60).toArray 5) = w3 at hsw2 hs3 hF3 b3 ⊢
  refine hsw2.mono ?_
  rintro e w4 ⟨rfl, h4, c4⟩
  have hF4 := RB_step hF3 c4 hne
  have b4 : Below w.heap.size w w4 := b3.trans (c4.below_ (B := w.heap.size) b3.size (fun k hk => hk.1))
  clear hsw2 hF3 c4
  have hr1 := sread_any h4 2 16 5 0
  rw [f3] at hr1
  go_wp2_with fail
  refine hr1.mono ?_
  rintro e w5 ⟨A5, c5, rfl, hR5, hle5, b5⟩
  clear hr1
  obtain ⟨r5, hr5, hrb⟩ := Option.map_eq_some_iff.1 f2
  simp only [hr5, Option.getD_some, Option.isSome_some] at hR5 hle5 ⊢
  rw [hrb] at hR5 hle5
  unfold recV
  rw [hrb]
  have hl60 : B60.length = 60 := by decide
  have hl60b : B60.length ≤ 60 := by decide
  have h5 := h4.step (w1 := w5) (fun k _ hk => b5.block k hk)
  have hF5 := RB_below hF4 b5
  have hR5' := Kd.R_alloc hR5 (.cells #[.int .u64 r5.gen, .int .i64 r5.at_, .int .i64 r5.kind, .slice A5 B60.length c5] 25)
  have b5' := below_alloc b5 (.cells #[.int .u64 r5.gen, .int .i64 r5.at_, .int .i64 r5.kind, .slice A5 B60.length c5] 25)
  have hFb := RB_below hF5 (below_alloc (Below.refl w5.heap.size w5) (.cells #[.int .u64 r5.gen, .int .i64 r5.at_, .int .i64 r5.kind, .slice A5 B60.length c5] 25))
  have hh5 := h5.step (w1 := w5.alloc (.cells #[.int .u64 r5.gen, .int .i64 r5.at_, .int .i64 r5.kind, .slice A5 B60.length c5] 25)) (fun k _ hk => (below_alloc (Below.refl w5.heap.size w5) _).block k hk)
  have hc5 : (w5.alloc (.cells #[.int .u64 r5.gen, .int .i64 r5.at_, .int .i64 r5.kind, .slice A5 B60.length c5] 25)).cell? ⟨w5.heap.size, 3, none⟩ = some (.slice A5 B60.length c5) := by rw [cell_of_row _ _ 3 _ _ _ (heap_alloc_new w5 _)]; rfl
  clear hl60 h5 hF4 hF5 hR5 hr5 hrb b5 f2
  have hsz5 : w5.heap.size < (w5.alloc (.cells #[.int .u64 r5.gen, .int .i64 r5.at_, .int .i64 r5.kind, .slice A5 B60.length c5] 25)).heap.size := by simp
  go_wp2_with fail
  generalize w5.alloc (.cells #[.int .u64 r5.gen, .int .i64 r5.at_, .int .i64 r5.kind, .slice A5 B60.length c5] 25) = w6 at hR5' b5' hFb hh5 hc5 hsz5 ⊢
  have hr2 := sread_any hh5 2 3 5 0
  rw [f5, show readV lD 2 3 5 0 = none from by rw [← Option.not_isSome_iff_eq_none, f4]; simp] at hr2
  refine hr2.mono ?_
  rintro e w7 ⟨A7, c7, rfl, hR7, hle7, b7⟩
  clear hr2 hR7 hle7
  simp only [Option.getD_none, Option.isSome_none]
  unfold recV noR
  dsimp only
  have b8 := below_alloc b7 (.cells #[.int .u64 0, .int .i64 0, .int .i64 0, .slice A7 0 c7] 25)
  have h8 := hh5.step (w1 := w7.alloc (.cells #[.int .u64 0, .int .i64 0, .int .i64 0, .slice A7 0 c7] 25)) (fun k _ hk => b8.block k hk)
  have hg := sgen_any h8 2 16
  rw [f6, f7] at hg
  go_wp2_with fail
  generalize w7.alloc (.cells #[.int .u64 0, .int .i64 0, .int .i64 0, .slice A7 0 c7] 25) = w8 at b8 h8 hg ⊢
  refine hg.mono ?_
  rintro e w9 ⟨rfl, b9⟩
  have b69 : Below w6.heap.size w6 w9 := b8.trans (b9.mono b8.size)
  have c9 : w9.cell? ⟨w5.heap.size, 3, none⟩ = some (.slice A5 B60.length c5) := (b69.cell hsz5).trans hc5
  have hsb := sameBytes_any (Kd.C_below (Kd.R_reads' hR5').2.2 b69) B60_bytes hle5 (Kd.C_below (Kd.F_now hFb) b69) B60_bytes hl60b
  rw [show decide (B60 = B60) = true from by simp] at hsb
  have hfin : Below w.heap.size w w9 := b4.trans ((b5'.trans (b69.mono b5'.size)).mono b4.size)
  have HF := hid hfin
  have hl60 : (B60.length : Nat) = 60 := by decide
  clear hfin b69 b9 b8 h8 hg b7 hc5 hR5' hFb hle5 b5' b4 hB60 hh5 h4 b3 hs3 f3 f4 f5 f6 f7
  rw [hl60] at c9 hsb
  clear hl60 hl60b
  go_wp2_with fail
  refine hsb.mono ?_
  rintro e w10 ⟨rfl, b10⟩
  have hfin : Below w.heap.size w w10 := HF.out.trans (b10.mono HF.out.size)
  clear c9 hsb
  go_wp2
  go_ret
  exact ⟨rfl, hfin⟩
end Go.Proofs.Ytekhmkfiepnnkaa
