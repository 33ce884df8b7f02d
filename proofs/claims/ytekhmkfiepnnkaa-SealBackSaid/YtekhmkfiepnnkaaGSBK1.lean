/- PROVED: SealBack answers true at every input, and leaves what it was given as it was; no condition. -/
import Derived.Test.YtekhmkfiepnnkaaRows
import Derived.WalkKit
import Derived.ProofKit
import Derived.OpenShut
import Derived.ShutString
import Derived.ChangeOld
import Derived.Below
import Derived.SizedLaws
import Derived.Test.YtekhmkfiepnnkaaGSC
import Derived.Test.YtekhmkfiepnnkaaGSB

/- Package foundrylaw22: SealBack, walked. -/
set_option linter.unusedVariables false
set_option linter.unusedSimpArgs false
namespace Go.Proofs.Ytekhmkfiepnnkaa
open Go.RowKit Go.Proofs.YtekhmkfiepnnkaaW.PrintWords Go.Proofs.YtekhmkfiepnnkaaW.PrintMore

set_option maxRecDepth 100000 in
set_option maxHeartbeats 4000000 in
theorem sealBack_any {w : World} {A A1 : Option Addr} {c c1 : Nat} (r : SR) {b : List Int} (base : Int) (hC : KB.C w A r.bytes.length r.bytes) (hle : r.bytes.length ≤ c) (hrok : r.ok) (hCb : KB.C w A1 b.length b) (hcb : b.length ≤ c1) (hb : Bytes b) (hlb : b.length ≤ 140737488351232)
    (hb9 : -9223372036854775808 ≤ base ∧ base ≤ 9223372036854775807) :
  Calls Try.prog 6 #[recV r A c, .slice A1 b.length c1, .int .i64 base] w fun e w' => e = .returned (.bool true) ∧ Below w.heap.size w w' := by
  have hFr := RB_of_C hC
  have hFb := RB_of_C hCb
  have hb0 := below_alloc (Below.refl w.heap.size w) (.cells #[.int .u64 r.gen, .int .i64 r.at_, .int .i64 r.kind, .slice A r.bytes.length c] 28)
  have hn0 := heap_alloc_new w (.cells #[.int .u64 r.gen, .int .i64 r.at_, .int .i64 r.kind, .slice A r.bytes.length c] 28)
  unfold recV
  go_enter Try.func6, Try.ntmps6
  go_wp2_with fail
  generalize w.alloc (.cells #[.int .u64 r.gen, .int .i64 r.at_, .int .i64 r.kind, .slice A r.bytes.length c] 28) = w0 at hb0 hn0 ⊢
  refine live_any.mono ?_
  rintro e w1 ⟨rfl, b1⟩
  have hb1 : Below w.heap.size w w1 := hb0.trans (b1.mono hb0.size)
  have hn1 := (b1.block _ (blk_lt hn0)).trans hn0
  have hFb1 := RB_below hFb hb1
  have hl0 := laid_any (w := w1) hFb1 hb hcb hlb (fun k hk => Nat.lt_of_lt_of_le hk hb1.size)
  go_wp2_with fail
  refine hl0.mono ?_
  rintro e w2 ⟨p, rfl, h2, b2⟩
  obtain ⟨hon, hws⟩ := laidK_on hb (laidN b) (Nat.le_refl _)
  have hws64 : laidN b ≤ 64 := by unfold laidN; omega
  generalize laidK b (laidN b) = D at h2 hon hws
  have HWS := hid hws
  have hb2 : Below w.heap.size w w2 := hb1.trans (b2.mono hb1.size)
  have hn2 := (b2.block _ (blk_lt hn1)).trans hn1
  have hFr2 := RB_below hFr hb2
  have hs1 : w.heap.size < w1.heap.size := blk_lt hn1
  clear b1 b2 hl0 hFb1 hn1 hn0 hb0 hFb hws
  have m0 := cell_of_row _ _ 0 _ _ _ hn2
  have m1 := cell_of_row _ _ 1 _ _ _ hn2
  have m2 := cell_of_row _ _ 2 _ _ _ hn2
  have m3 := cell_of_row _ _ 3 _ _ _ hn2
  simp at m0 m1 m2 m3
  have hm := mine_any r (Kd.F_now hFr2) hle (by have := hrok.l; omega)
  unfold recV at hm
  go_wp2_with fail
  refine hm.mono ?_
  rintro e w3 ⟨A3, c3, rfl, hR3, hle3, b3⟩
  have h3 := h2.bound.step (w1 := w3) (fun k _ hk => b3.block k hk)
  have hn3 := (b3.block _ (blk_lt hn2)).trans hn2
  have hb3 : Below w.heap.size w w3 := hb2.trans (b3.mono hb2.size)
  have b34 := below_alloc (Below.refl w3.heap.size w3) (.cells #[.int .u64 r.gen, .int .i64 r.at_, .int .i64 r.kind, .slice A3 r.bytes.length c3] 25)
  have hn4 := heap_alloc_new w3 (.cells #[.int .u64 r.gen, .int .i64 r.at_, .int .i64 r.kind, .slice A3 r.bytes.length c3] 25)
  have h4 := h3.step (w1 := w3.alloc (.cells #[.int .u64 r.gen, .int .i64 r.at_, .int .i64 r.kind, .slice A3 r.bytes.length c3] 25)) (fun k hk _ => b34.block k (by have := b3.size; omega))
  have hF4 : RB (w3.alloc (.cells #[.int .u64 r.gen, .int .i64 r.at_, .int .i64 r.kind, .slice A3 r.bytes.length c3] 25)) (fun k => w2.heap.size ≤ k) A3 r.bytes := RB_below (Kd.R_F hR3) b34
  have hn04 := (b34.block _ (blk_lt hn3)).trans hn3
  have hb4 : Below w.heap.size w (w3.alloc (.cells #[.int .u64 r.gen, .int .i64 r.at_, .int .i64 r.kind, .slice A3 r.bytes.length c3] 25)) := hb3.trans (b34.mono hb3.size)
  have hs23 := b3.size
  clear hm m0 m1 m2 m3 hR3 h3 b34 b3 hn3 hn2 h2 hb3 hb2 hFr2 hb1 hFr hC hCb
  have hg := hrok.g
  by_cases he : sealE r = 0
  · have hr := right_of he hg hrok.b
    have hbl := bodies_le hr
    have hnd := need_bodies hr.l
    have hbe := sealBlocks_ok (w := w3.alloc (.cells #[.int .u64 r.gen, .int .i64 r.at_, .int .i64 r.kind, .slice A3 r.bytes.length c3] 25)) (A := A3) (c := c3) r hF4 hle3 hr
    unfold recV at hbe
    go_wp2_with fail
    generalize w3.alloc (.cells #[.int .u64 r.gen, .int .i64 r.at_, .int .i64 r.kind, .slice A3 r.bytes.length c3] 25) = w4 at hn4 h4 hF4 hn04 hb4 hbe ⊢
    refine hbe.mono ?_
    rintro e w5 ⟨v5, rfl, hO5, b5⟩
    have hlen := blkList_len r
    obtain ⟨g0, c5, g, hv5, hce5, hbu5, hge5, hge0⟩ := hO5.get (blkList_0 r)
    rw [hlen] at hv5
    have h5 := h4.step (w1 := w5) (fun k _ hk => b5.block k hk)
    have hF5 := RB_below hF4 b5
    have hn5 := (b5.block _ (blk_lt hn4)).trans hn4
    have hn05 := (b5.block _ (blk_lt hn04)).trans hn04
    have hb5 : Below w.heap.size w w5 := hb4.trans (b5.mono hb4.size)
    have hnn := need_any (w := w5) (r.bytes.length : Int) (by have := hr.l; omega)
    rw [hnd] at hnn
    have hsw := swrite_any p base r h5 hF5 (fun k k1 k2 => by omega) hle3 hrok.b hg hb9 (by rw [HWS.out]; omega)
    unfold recV at hsw
    have hcs := sealW_cases hon hr base
    have m0 := cell_of_row _ _ 0 _ _ _ hn5
    have m1 := cell_of_row _ _ 1 _ _ _ hn5
    have m2 := cell_of_row _ _ 2 _ _ _ hn5
    have m3 := cell_of_row _ _ 3 _ _ _ hn5
    have k1 := cell_of_row _ _ 1 _ _ _ hn05
    simp at m0 m1 m2 m3 k1
    have h34 : w3.heap.size < w4.heap.size := blk_lt hn4
    have hlt0 : g0 < w5.heap.size := World.block_lt_of_cell? _ _ hce5
    clear hbe hlen hO5 b5 hn4 h4 hF4 hn04 he hnd
    rw [hv5]
    clear hv5
    go_wp2_with (go_at_call 26; refine hnn.mono ?_; rintro e w6 ⟨rfl, rfl⟩)
    obtain ⟨Q, hQ⟩ : ∃ Q, D.sealW base r = Q := ⟨_, rfl⟩
    rw [hQ] at hsw hcs
    clear hQ
    obtain ⟨D', E⟩ := Q
    dsimp only at hsw hcs
    refine hsw.mono ?_
    rintro e w6 ⟨rfl, h6, c6⟩
    have hb6 : Below w.heap.size w w6 := hb5.trans (c6.below_ (B := w.heap.size) hb5.size (fun k hk => by omega))
    have hn6 := (c6.block w3.heap.size (blk_lt hn5) (fun hk => by omega)).trans hn5
    have hn06 := (c6.block w.heap.size (blk_lt hn05) (fun hk => by omega)).trans hn05
    have hk6 : ∀ k, w3.heap.size ≤ k → k < w5.heap.size → w6.heap[k]? = w5.heap[k]? := fun k h1 h2 => c6.block k h2 (fun hk => by omega)
    have hF6 := RB_step hF5 c6 (fun k k1 k2 => by omega)
    have hbu6 := hbu5.step (hk6 g (by omega) hbu5.lt)
    have hce6 : w6.cell? ⟨g0, 0, none⟩ = some (.slice (some ⟨g, 0, none⟩) 64 64) := by
      have hq := hk6 g0 (by omega) hlt0
      rw [← hce5]
      simp only [World.cell?, hq]
    have m0 := cell_of_row _ _ 0 _ _ _ hn6
    have m1 := cell_of_row _ _ 1 _ _ _ hn6
    have m2 := cell_of_row _ _ 2 _ _ _ hn6
    have m3 := cell_of_row _ _ 3 _ _ _ hn6
    have k1 := cell_of_row _ _ 1 _ _ _ hn06
    simp at m0 m1 m2 m3 k1
    have hat := hr.a
    have h36 := blk_lt hn6
    clear hsw hn5 hn05 hF5 hbu5 hce5 c6 hk6 hnn
    rcases hcs with ⟨hx, hq⟩ | ⟨bs, b0, rfl, hbb, hfit, hE, hS⟩
    · injection hq with hq1 hq2
      subst hq2
      clear hq1 h6
      by_cases x1 : base < 0
      · go_wp2
        go_ret
        exact ⟨rfl, hb6⟩
      · by_cases x2 : 64 < base
        · go_wp2
          go_ret
          exact ⟨rfl, hb6⟩
        · have x3 : (64 : Int) < base + r.at_ + ((bodies r : Int) + 1) := by omega
          have hw1 : IntKind.i64.wrap (base + r.at_) = base + r.at_ := by rw [IntKind.wrap_i64]; omega
          have hw2 : IntKind.i64.wrap (base + r.at_ + ((bodies r : Int) + 1)) = base + r.at_ + ((bodies r : Int) + 1) := by rw [IntKind.wrap_i64]; omega
          clear hx
          go_wp2
          go_ret
          exact ⟨rfl, hb6⟩
    · subst hE
      obtain ⟨hV, hRE⟩ := hS.reads hr (end_ := 64) hbb (by rw [hon.n]; omega) hfit
      have hrd := sread_any h6 bs 64 r.gen r.at_
      rw [show ((64 : Nat) : Int) = 64 from rfl] at hV hRE
      rw [hV, hRE] at hrd
      clear hV hRE
      have hhd := fun (W : World) (hW : Below w6.heap.size w6 W) => head_any (c := 64) (RB_below (BU.row hbu6 (by rw [headB_length]; omega)) hW) (headB_bytes hr) (by rw [headB_length]; omega)
      rw [headB_length] at hhd
      unfold HeadPost recV at hhd
      rw [head_R hr, head_N hr, decide_eq_true (head_OK hr)] at hhd
      dsimp only at hhd
      generalize r.bytes.take 47 = T at hhd
      clear hS hfit hbb
      go_wp2_with fail
      refine hrd.mono ?_
      rintro e w7 ⟨A7, c7, rfl, hR7, hle7, b7⟩
      clear hrd h6
      simp only [Option.getD_some, Option.isSome_some] at hR7 hle7 ⊢
      unfold recV
      have b78 := below_alloc b7 (.cells #[.int .u64 r.gen, .int .i64 r.at_, .int .i64 r.kind, .slice A7 r.bytes.length c7] 25)
      have hn8 := heap_alloc_new w7 (.cells #[.int .u64 r.gen, .int .i64 r.at_, .int .i64 r.kind, .slice A7 r.bytes.length c7] 25)
      have hF8 : RB (w7.alloc (.cells #[.int .u64 r.gen, .int .i64 r.at_, .int .i64 r.kind, .slice A7 r.bytes.length c7] 25)) (fun k => w6.heap.size ≤ k) A7 r.bytes := Kd.R_F (Kd.R_alloc hR7 _)
      have hh8 := hhd _ b78
      have hce8 := (b78.cell (World.block_lt_of_cell? _ _ hce6)).trans hce6
      clear hhd hR7 b7
      go_wp2_with fail
      generalize w7.alloc (.cells #[.int .u64 r.gen, .int .i64 r.at_, .int .i64 r.kind, .slice A7 r.bytes.length c7] 25) = w8 at b78 hn8 hF8 hh8 hce8 ⊢
      refine hh8.mono ?_
      rintro e w9 ⟨A9, c9, rfl, hR9, hle9, b9⟩
      have b910 := below_alloc b9 (.cells #[.int .u64 r.gen, .int .i64 r.at_, .int .i64 r.kind, .slice A9 T.length c9] 25)
      have hn10 := heap_alloc_new w9 (.cells #[.int .u64 r.gen, .int .i64 r.at_, .int .i64 r.kind, .slice A9 T.length c9] 25)
      have b610 := b78.trans (b910.mono b78.size)
      have hn6' := (b610.block _ h36).trans hn6
      have hn8' := (b910.block _ (blk_lt hn8)).trans hn8
      have hF6' := RB_below hF6 b610
      have hF8' := RB_below hF8 b910
      have hb10 := hb6.trans (b610.mono hb6.size)
      go_upto_region 17 with (fail)
      clear hh8 hce8 hR9 b9 b910 b610 b78 hF8 hn8 hF6 hn6 hce6 hbu6 hn06 hb6 m0 m1 m2 m3 k1
      generalize w9.alloc (.cells #[.int .u64 r.gen, .int .i64 r.at_, .int .i64 r.kind, .slice A9 T.length c9] 25) = w10 at hn10 hn6' hn8' hF6' hF8' hb10 ⊢
      have m0 := cell_of_row _ _ 0 _ _ _ hn6'
      have m1 := cell_of_row _ _ 1 _ _ _ hn6'
      have m2 := cell_of_row _ _ 2 _ _ _ hn6'
      have m3 := cell_of_row _ _ 3 _ _ _ hn6'
      have s0 := cell_of_row _ _ 0 _ _ _ hn8'
      have s1 := cell_of_row _ _ 1 _ _ _ hn8'
      have s2 := cell_of_row _ _ 2 _ _ _ hn8'
      have s3 := cell_of_row _ _ 3 _ _ _ hn8'
      simp at m0 m1 m2 m3 s0 s1 s2 s3
      have hsm := same_true r (Kd.F_now hF8') hle7 (Kd.F_now hF6') hle3
      unfold recV at hsm
      go_wp2_with fail
      refine hsm.mono ?_
      rintro e w11 ⟨rfl, b11⟩
      have hn6' := (b11.block _ (blk_lt hn6')).trans hn6'
      have hn10' := (b11.block _ (blk_lt hn10)).trans hn10
      have hb11 := hb10.trans (b11.mono hb10.size)
      clear hsm m0 m1 m2 m3 s0 s1 s2 s3 hF6' hF8' hn8' hb10 b11 hn10
      have m0 := cell_of_row _ _ 0 _ _ _ hn6'
      have m1 := cell_of_row _ _ 1 _ _ _ hn6'
      have m2 := cell_of_row _ _ 2 _ _ _ hn6'
      have m3 := cell_of_row _ _ 3 _ _ _ hn6'
      have s0 := cell_of_row _ _ 0 _ _ _ hn10'
      have s1 := cell_of_row _ _ 1 _ _ _ hn10'
      have s2 := cell_of_row _ _ 2 _ _ _ hn10'
      simp at m0 m1 m2 m3 s0 s1 s2
      go_wp2
      go_ret
      exact ⟨rfl, hb11⟩
  · have hbe := blocksErr (w := w3.alloc (.cells #[.int .u64 r.gen, .int .i64 r.at_, .int .i64 r.kind, .slice A3 r.bytes.length c3] 25)) (A := A3) (c := c3) r (RB_len hF4) he
    unfold recV at hbe
    go_wp2_with fail
    generalize w3.alloc (.cells #[.int .u64 r.gen, .int .i64 r.at_, .int .i64 r.kind, .slice A3 r.bytes.length c3] 25) = w4 at hn4 h4 hF4 hn04 hb4 hbe ⊢
    refine hbe.mono ?_
    rintro e w5 ⟨rfl, b5⟩
    have h5 := h4.step (w1 := w5) (fun k _ hk => b5.block k hk)
    have hF5 := RB_below hF4 b5
    have hn5 := (b5.block _ (blk_lt hn4)).trans hn4
    have hb5 : Below w.heap.size w w5 := hb4.trans (b5.mono hb4.size)
    have hsw := swrite_any p base r h5 hF5 (fun k k1 k2 => by omega) hle3 hrok.b hg hb9 (by rw [HWS.out]; omega)
    rw [sealW_err base he] at hsw
    unfold recV at hsw
    have m0 := cell_of_row _ _ 0 _ _ _ hn5
    have m1 := cell_of_row _ _ 1 _ _ _ hn5
    have m2 := cell_of_row _ _ 2 _ _ _ hn5
    have m3 := cell_of_row _ _ 3 _ _ _ hn5
    simp at m0 m1 m2 m3
    dsimp only at hsw
    have heb : (sealE r != 0) = true := by simpa using he
    generalize sealE r = E at hsw heb ⊢
    clear hbe b5 hn5 hn4 h4 hF4 hn04 h5 hF5 he
    go_wp2_with fail
    refine hsw.mono ?_
    rintro e w6 ⟨rfl, _, c6⟩
    have hb6 : Below w.heap.size w w6 := hb5.trans (c6.below_ (B := w.heap.size) hb5.size (fun k hk => by omega))
    clear hsw c6 m0 m1 m2 m3
    go_wp2
    go_ret
    exact ⟨rfl, hb6⟩
end Go.Proofs.Ytekhmkfiepnnkaa
namespace Go.Proofs.Ytekhmkfiepnnkaa
open Go.RowKit Go.Proofs.YtekhmkfiepnnkaaW.PrintWords
theorem KRec_agg {w : World} {r : SR} {cs : Array Value} (h : KRec.K w r cs.toList) : ∃ A c, Value.agg cs = recV r A c ∧ r.bytes.length ≤ c ∧ KB.C w A r.bytes.length r.bytes := by
  obtain ⟨A, c, he, hl, hC⟩ := KRec_open h
  refine ⟨A, c, ?_, hl, hC⟩
  have : cs = (r.cells A c).toArray := by rw [← he]
  rw [this]; rfl
theorem sealBack_row {w : World} {cs : Array Value} {r : SR} (k : KRec.K w r cs.toList) (hr : r.ok) {A1 : Option Addr} {c1 : Nat} {b : List Int} (hCb : KB.C w A1 b.length b) (hcb : b.length ≤ c1) (hG : Bytes b ∧ b.length ≤ 140737488351232) (n : Int) (hn : (Lit.int .i64 n).wf = true) :
    Calls Try.prog 6 #[.agg cs, .slice A1 b.length c1, .int .i64 n] w fun e w' => e = .returned (.bool true) ∧ Below w.heap.size w w' := by
  obtain ⟨A, c, e, hl, hC⟩ := KRec_agg k
  rw [e]
  have := bounds_i64 hn
  exact sealBack_any r n hC hl hr hCb hcb hG.1 hG.2 (by omega)
end Go.Proofs.Ytekhmkfiepnnkaa

set_option linter.unusedVariables false
set_option linter.unusedSimpArgs false
namespace Go.Proofs.Ytekhmkfiepnnkaa
open Go.ChangeShapes Go.WideShapes Go.ChangeAt Go.RowKit Go.Proofs.YtekhmkfiepnnkaaW.PrintWords
open Go.ChangeMaps (open_string shut_string)
set_option linter.unusedVariables false
theorem sealBack_own : ownKnob Try.prog.godebug = none := by kernel_rfl
theorem sealBack_laid : laidOutB Try.prog = true := by kernel_rfl
set_option maxRecDepth 100000 in
theorem sealBack_lifted (os : Os) (started : os.Started) (H : Type) (enc : TypeId × Value → H) :
    ReturnsInHanded {} Try.checked os 6 .any (Rows.sealBackSpec.pre6 enc Try.prog Try.f6 Rows.sealBackRow.domain false) (Rows.sealBackSpec.post enc Try.prog Try.f6 false true false false) := by
  refine returnsInHanded_of_change_sized (C := Try.checked) sealBack_own started (by kernel_rfl) Try.func6
    (ChangeSpec.witness6 (enc := enc) (C := Try.checked) false ⟨#[], #[.agg #[.int .u64 0, .int .i64 0, .int .i64 0, .slice none 0 0], .slice none 0 0, .int .i64 0], []⟩ 8 (by kernel_rfl) (by kernel_rfl) (by kernel_rfl) (by kernel_rfl)) ?_
  intro W base args ds gs before hval0 hW hcnd hsz0 _
  have hsz : (DataW.weightsEach Try.prog (Try.f6.params.toList ++ Rows.sealBackSpec.plain.varTypes Try.prog) (ds ++ gs)).all (· ≤ reachBytes) = true := hsz0
  have hval : ∀ (j : Nat) t v, Try.f6.params[j]? = some t → args[j]? = some v → Value.okWide Try.prog W .any base t v := hval0
  have hW' := hW
  obtain ⟨p, q, hA0, hV, rfl, hfz, hnd⟩ := hW
  have hA : DataW.TrodAll enc Try.prog W 0 (fun _ => true) true Try.f6.params.toList args.toList ds p := hA0
  rw [Try.params6] at hA hval hsz
  obtain ⟨v0, vs0, d0, ds0, p0, q0, hargs, rfl, rfl, h0, r0⟩ := trodAll_cons hA
  obtain ⟨v1, vs1, d1, ds1, p1, q1, rfl, rfl, rfl, h1, r1⟩ := trodAll_cons r0
  obtain ⟨v2, vs2, d2, ds2, p2, q2, rfl, rfl, rfl, h2, r2⟩ := trodAll_cons r1
  obtain ⟨rfl, rfl, rfl⟩ := trodAll_nil r2
  obtain rfl : args = #[v0, v1, v2] := by cases args; simp_all
  obtain ⟨rfl, rfl⟩ := trodVars_none hV
  have lt0 : ∀ x ∈ p0, x.block < W.heap.size := by obtain ⟨m, hm⟩ := h0; exact DataW.trod_lt m _ _ _ hm
  obtain ⟨cs0, rfl, _⟩ := okWide_struct Try.underlying28 (hval 0 28 v0 rfl rfl)
  obtain ⟨x0, k0, g0⟩ := opens_rec.arg hsz (j := 0) (t := 28) rfl rfl h0
  have lt1 : ∀ x ∈ p1, x.block < W.heap.size := by obtain ⟨m, hm⟩ := h1; exact DataW.trod_lt m _ _ _ hm
  obtain ⟨A1, len1, c1, rfl⟩ := okWide_slice Try.underlying22 (hval 1 22 v1 rfl rfl)
  obtain ⟨l1, rfl, hl1, k1, g1⟩ := opens_slice_arg opens_bytes hsz (j := 1) (t := 22) rfl rfl h1
  obtain ⟨n2, rfl, rfl, rfl, g2⟩ := open_int Try.underlying3 (hval 2 3 v2 rfl rfl) h2
  clear hA0 hval0 hsz0 hsz
  refine (sealBack_row k0 g0 k1 hl1 g1 n2 g2).mono fun e W' ⟨he, bel⟩ => ?_
  subst he
  exact ⟨_, rfl, _, _, _, [], _, [], hW', trodAll_mk1 (shut_bool Try.underlying4 _), (trodAll_cons_mk (Below.trod sealBack_laid (by kernel_rfl) (of_decide_eq_true (by kernel_rfl)) h0 bel lt0) (trodAll_cons_mk (Below.trod sealBack_laid (by kernel_rfl) (of_decide_eq_true (by kernel_rfl)) h1 bel lt1) (trodAll_cons_mk (shut_int Try.underlying3 g2) trodAll_mk0))), rfl, bel.frame _, fun h => by cases h⟩
theorem sealBack_over : Rows.sealBackRow.holds Try.pinned (OpenSpec.ofChange Rows.sealBackSpec) :=
  OpenClaim.holds_of_wide 6 Try.f6 rfl rfl rfl rfl rfl rfl rfl ⟨rfl, rfl, rfl, rfl, rfl⟩ rfl rfl rfl rfl rfl (by kernel_rfl) Try.func6 (by kernel_rfl)
    (of_decide_eq_true (by kernel_rfl)) (by unfold Func.isWrapper; first | (rw [if_pos (by decide +kernel)]; kernel_rfl) | (rw [if_neg (by decide +kernel)]; exact ⟨rfl, rfl⟩))
    (fun os started H enc _ => sealBack_lifted os started H enc)
/-- The row, for the claim. -/
theorem sealBack_holds : Rows.SealBackSaid := sealBack_over
#print axioms sealBack_holds
end Go.Proofs.Ytekhmkfiepnnkaa
