/- Package foundrylaw22: SealHeads. -/
import Derived.Test.YtekhmkfiepnnkaaSealN
import Derived.Test.YtekhmkfiepnnkaaSealI
set_option linter.unusedVariables false
set_option linter.unusedSimpArgs false
namespace Go.Proofs.Ytekhmkfiepnnkaa
open Go.RowKit Go.Proofs.YtekhmkfiepnnkaaW.PrintWords Go.Proofs.YtekhmkfiepnnkaaW.PrintMore

theorem RB_of_C {w : World} {A : Option Addr} {b : List Int} (h : KB.C w A b.length b) : RB w (lt_ w) A b := fun W' hW => by
  have h2 := C_int h
  refine Kd.C_of_reads (enc := Value.int .u8) (d := (0 : Int)) (h1 := fun _ => rfl) ⟨rfl, h2.2.1, fun hp => ?_⟩
  obtain ⟨ad, he, hc⟩ := h2.2.2 hp
  refine ⟨ad, he, fun j hj => ?_⟩
  have h3 := hc j hj
  have hb := World.block_lt_of_cell? w _ h3
  have := hW _ hb hb
  rw [← h3]
  simp only [World.cell?, this]
set_option maxRecDepth 100000 in
set_option maxHeartbeats 1000000 in
theorem sealHeads_any {w : World} {A : Option Addr} {c : Nat} {b : List Int} (hC : KB.C w A b.length b) (hB : Bytes b) (hc : b.length ≤ c) (hl : b.length ≤ 140737488351232) :
  Calls Try.prog 3 #[.slice A b.length c] w fun e w' => e = .returned (.bool true) ∧ Below w.heap.size w w' := by
  have hF := RB_of_C hC
  go_enter Try.func3, Try.ntmps3
  go_wp2_with (at_builtin; refine print_append_row (w0 := w) w.heap.size rfl (.tmp 18) (.tmp 19) 22 5 .u8 1 rfl Try.underlying22 info_u8 (by decide) _ [] b A b.length c rfl rfl ?HO ?HR ?HB ?hb ?hl ?_)
  case HO => exact World.ownsRow_made (base := w.heap.size) w #[] 0 (Nat.le_refl _) (Nat.zero_le _) rfl
  case HR => exact (C_int hC).below (below_alloc (Below.refl _ _) _)
  case HB => exact below_alloc (Below.refl _ _) _
  case hb => simp
  case hl => simp; omega
  intro v1 w1 ho hb1 hg hat
  have hR1 : KB.R 5 w1 w.heap.size (fun k => w.heap.size ≤ k) v1 b := Rown (by simpa using ho) (fun q hq => own_base ho q hq)
  obtain ⟨A1, c1, rfl, hle1, _⟩ := Kd.R_reads hR1
  have hF1 := (R_RB (ok := fun k => w.heap.size ≤ k) hR1).2
  clear ho hg hat hR1
  go_wp2_with fail
  refine (head_any hF1 hB hle1).mono ?_
  rintro e w2 ⟨A2, c2, rfl, hR2, hle2, hb2⟩
  have bw1 : Below w.heap.size w w1 := hb1
  have hFa : RB w2 (lt_ w) A b := RB_below (RB_below hF hb1) hb2
  have bw2 : Below w.heap.size w w2 := bw1.trans (hb2.mono bw1.size)
  unfold recV
  have HR2 := hid (Kd.R_F (ok := fun k => w1.heap.size ≤ k) hR2)
  have hbnd := headR_gen hB
  obtain ⟨R, hRR⟩ : ∃ R, headR b = R := ⟨_, rfl⟩
  have fh := fun (W : World) (h : RB W (lt_ w) A b) => fhead_any h hB hc
  unfold HeadPost recV at fh
  have bd := fun (W : World) (ok : Nat → Prop) (A1 : Option Addr) (c1 : Nat) (h : RB W ok A1 b) (h1 : b.length ≤ c1) => body_any h hB h1
  have fbd := fun (W : World) (h : RB W (lt_ w) A b) => fbody_any h hB hc
  unfold bodyT at bd fbd
  rw [hRR] at fh hle2 HR2 ⊢
  generalize headN b = N at fh ⊢
  generalize decide (headOK b) = ib at fh ⊢
  generalize bodyV b = V at bd fbd ⊢
  obtain ⟨vg, va, vk, vi⟩ := V
  dsimp only at bd fbd
  clear hRR hF1 hb1 hb2 bw1 hR2
  have hb3 := below_alloc (Below.refl w2.heap.size w2) (.cells #[.int .u64 R.gen, .int .i64 R.at_, .int .i64 R.kind, .slice A2 R.bytes.length c2] 25)
  have hFa3 := RB_below hFa hb3
  go_wp2_with fail
  refine (fh _ hFa3).mono ?_
  rintro e w4 ⟨A4, c4, rfl, hR4, hle4, hb4⟩
  have r3 := (hb4.block w2.heap.size (by simp)).trans (heap_alloc_new w2 (.cells #[.int .u64 R.gen, .int .i64 R.at_, .int .i64 R.kind, .slice A2 R.bytes.length c2] 25))
  have HR4 := HR2.out
  have hRB4 := RB_below (RB_below HR4 hb3) hb4
  have hb24 : Below w2.heap.size w2 w4 := hb3.trans (hb4.mono hb3.size)
  have bw4 : Below w.heap.size w w4 := bw2.trans (hb24.mono bw2.size)
  have hFa4 := RB_below hFa hb24
  have hRF4 := Kd.R_F (ok := fun k => (w2.alloc (.cells #[.int .u64 R.gen, .int .i64 R.at_, .int .i64 R.kind, .slice A2 R.bytes.length c2] 25)).heap.size ≤ k) hR4
  have h24 : w2.heap.size < w4.heap.size := blk_lt r3
  clear hR4 hb24 hb4 hb3 HR4 HR2 hFa hFa3 bw2 fh
  have hb5 := below_alloc (Below.refl w4.heap.size w4) (.cells #[.int .u64 R.gen, .int .i64 R.at_, .int .i64 R.kind, .slice A4 R.bytes.length c4] 28)
  have r5 := (hb5.block w2.heap.size h24).trans r3
  have q5 := heap_alloc_new w4 (.cells #[.int .u64 R.gen, .int .i64 R.at_, .int .i64 R.kind, .slice A4 R.bytes.length c4] 28)
  have hRB5 := RB_below hRB4 hb5
  have hRF5 := RB_below hRF4 hb5
  have hFa5 := RB_below hFa4 hb5
  have bw5 : Below w.heap.size w (w4.alloc (.cells #[.int .u64 R.gen, .int .i64 R.at_, .int .i64 R.kind, .slice A4 R.bytes.length c4] 28)) := bw4.trans (hb5.mono bw4.size)
  go_upto_region 3 with (fail)
  clear hb5 bw4 hFa4 hRF4 hRB4 r3
  generalize w4.alloc (.cells #[.int .u64 R.gen, .int .i64 R.at_, .int .i64 R.kind, .slice A4 R.bytes.length c4] 28) = w5 at r5 q5 hRB5 hRF5 hFa5 bw5 ⊢
  generalize w2.heap.size = n3 at h24 r5 ⊢
  generalize w4.heap.size = n6 at h24 q5 ⊢
  go_wp2_with (at_builtin; refine print_append_row (w0 := w5) w5.heap.size rfl (.tmp 32) (.tmp 33) 22 5 .u8 1 rfl Try.underlying22 info_u8 (by decide) _ [] b A b.length c rfl rfl ?HO ?HR ?HB ?hb ?hl ?_)
  case HO => exact World.ownsRow_made (base := w5.heap.size) w5 #[] 0 (Nat.le_refl _) (Nat.zero_le _) rfl
  case HR => exact (RB_int hFa5).below (below_alloc (Below.refl _ _) _)
  case HB => exact below_alloc (Below.refl _ _) _
  case hb => simp
  case hl => simp; omega
  intro v6 w6 ho hb6 hg hat
  have hR6 : KB.R 5 w6 w5.heap.size (fun k => w5.heap.size ≤ k) v6 b := Rown (by simpa using ho) (fun q hq => own_base ho q hq)
  obtain ⟨A6, c6, rfl, hle6, _⟩ := Kd.R_reads hR6
  have hF6 := (R_RB (ok := fun k => w5.heap.size ≤ k) hR6).2
  clear ho hg hat hR6
  go_wp2_with fail
  refine (bd _ _ _ _ hF6 hle6).mono ?_
  rintro e w7 ⟨rfl, hb7⟩
  have b57 : Below w5.heap.size w5 w7 := hb6.trans (hb7.mono hb6.size)
  have hFa7 := RB_below hFa5 b57
  clear hb6 hb7 hF6 bd
  go_wp2_with fail
  refine (fbd _ hFa7).mono ?_
  rintro e w8 ⟨rfl, hb8⟩
  have b58 : Below w5.heap.size w5 w8 := b57.trans (hb8.mono b57.size)
  have r8 := (b58.block _ (blk_lt r5)).trans r5
  have q8 := (b58.block _ (blk_lt q5)).trans q5
  have hRB8 := RB_below hRB5 b58
  have hRF8 := RB_below hRF5 b58
  have bw8 : Below w.heap.size w w8 := bw5.trans (b58.mono bw5.size)
  have r80 := cell_of_row _ _ 0 _ _ _ r8
  have r81 := cell_of_row _ _ 1 _ _ _ r8
  have r82 := cell_of_row _ _ 2 _ _ _ r8
  have r83 := cell_of_row _ _ 3 _ _ _ r8
  have q80 := cell_of_row _ _ 0 _ _ _ q8
  have q81 := cell_of_row _ _ 1 _ _ _ q8
  have q82 := cell_of_row _ _ 2 _ _ _ q8
  have q83 := cell_of_row _ _ 3 _ _ _ q8
  simp at r80 r81 r82 r83 q80 q81 q82 q83
  have hsr := sameRecord_true R (Kd.F_now hRB8) hle2 (Kd.F_now hRF8) hle4
  unfold recV at hsr
  clear fbd b57 hFa7 hb8 b58 r8 q8 hRB8 hRF8 bw5 hFa5 hRF5 hRB5 r5 q5 h24
  go_wp2_with fail
  refine hsr.mono ?_
  rintro e w9 ⟨rfl, hb9⟩
  have bw9 : Below w.heap.size w w9 := bw8.trans (hb9.mono bw8.size)
  clear hsr r80 r81 r82 r83 q80 q81 q82 q83 hb9 bw8
  go_wp2_with fail
  refine live_any.mono ?_
  rintro e w10 ⟨rfl, hb10⟩
  have bw10 : Below w.heap.size w w10 := bw9.trans (hb10.mono bw9.size)
  clear hb10
  go_wp2
  go_ret
  exact ⟨rfl, bw10⟩
end Go.Proofs.Ytekhmkfiepnnkaa
