/- PROVED: SealCut answers true at every input, and leaves what it was given as it was; no condition. -/
import Derived.Deep.DeepCutAuto
import Derived.Test.YtekhmkfiepnnkaaRows
import Derived.WalkKit
import Derived.ProofKit
import Derived.OpenShut
import Derived.ShutString
import Derived.ChangeOld
import Derived.Below
import Derived.SizedLaws
import Derived.Test.YtekhmkfiepnnkaaGSC
import Derived.Test.YtekhmkfiepnnkaaGSB

/- Package foundrylaw22: SealCut, the plain law. -/
set_option linter.unusedVariables false
set_option linter.unusedSimpArgs false
namespace Go.Proofs.Ytekhmkfiepnnkaa
open Go.RowKit Go.Proofs.YtekhmkfiepnnkaaW.PrintWords Go.Proofs.YtekhmkfiepnnkaaW.PrintMore

theorem readV_head {D : DM} {b a e : Nat} {gen : Int} (hE : readE D b e a = 0) (hae : b + a < e) (h : (readV D b e gen a).isSome = true) :
    headOK (D.blk (b + a)) ∧ (headR (D.blk (b + a))).gen = gen ∧ (headR (D.blk (b + a))).at_ = a := by
  rw [readV_in gen hE hae] at h
  split at h
  · rename_i hh; exact ⟨hh.1, hh.2.1, hh.2.2.1⟩
  · cases h
/-- The disk that is forgetful, and cut. -/
def cutD (D : DM) (n : Nat) : DM := DM.cut { D with ws := [] } n
def onD (D : DM) : DM := { D with left := -1, gone := false }
theorem blk_b {D D' : DM} (h : D'.b = D.b) (j : Nat) : D'.blk j = D.blk j := by unfold DM.blk; rw [h]
structure Cut (D D3 : DM) (b n : Nat) (r : SR) : Prop where
  err : (D3.gone = true ↔ n < bodies r + 1)
  n64 : D3.n = 64
  wf : D3.wf
  ws : D3.ws = ((order r).take n).map (fun x => ((b : Int) + x.1, x.2))
  blk : ∀ j, D3.blk j = sealedB r b n D.blk j
theorem cut_step {D : DM} (ho : On64 D) {r : SR} (hr : r.right) {a n : Nat} (ha : r.at_ = (a : Int)) (hfit : 2 + a + bodies r < 64) (hn : n ≤ bodies r + 1) :
    ((cutD D n).sealW 2 r).2 = (if n < bodies r + 1 then 61 else 0) ∧ Cut D ((cutD D n).sealW 2 r).1 (2 + a) n r := by
  have hw := ho.wf
  have hl : (cutD D n).left = n := by unfold cutD DM.cut; dsimp only; rw [if_neg (by omega)]
  have hn64 : (cutD D n).n = 64 := ho.n
  have hwf : (cutD D n).wf := ⟨hw.len, hw.lo, hw.hi, by rw [hl]; omega, by have := bodies_le hr; rw [hl]; omega, hw.bytes, fun x hx => by simp [cutD, DM.cut] at hx⟩
  have hg : (cutD D n).gone = false := ho.gone
  have hd : done_ (cutD D n).left (bodies r + 1) = n := by unfold done_; rw [hl, if_neg (by omega)]; omega
  obtain ⟨e1, e2⟩ := sealW_right (D := cutD D n) (base := 2) (b := 2 + a) hwf hg hr (by omega) (by omega) (by rw [hn64]; omega) (by rw [hn64]; omega)
  rw [hd] at e1 e2
  refine ⟨e1, by rw [e2.gone]; simp, e2.n.trans hn64, e2.wf, ?_, fun j => ?_⟩
  · rw [e2.ws]; show [] ++ _ = _; rfl
  · rw [e2.blk]; rfl
theorem Cut.wsLen {D D3 : DM} {b n : Nat} {r : SR} (h : Cut D D3 b n r) (hn : n ≤ bodies r + 1) : D3.ws.length = n := by rw [h.ws, List.length_map, List.length_take, order_len]; omega
theorem Cut.at_ {D D3 : DM} {b n : Nat} {r : SR} (h : Cut D D3 b n r) (hn : n ≤ bodies r) {i : Nat} (hi : i < n) : D3.ws[i]? = some ((b : Int) + ((i : Int) + 1), bodyB r (i + 1)) := by
  rw [h.ws, order_take r hn]
  simp [bodyL, hi]
theorem Cut.last {D D3 : DM} {b : Nat} {r : SR} (h : Cut D D3 b (bodies r + 1) r) : D3.ws[bodies r]? = some ((b : Int) + 0, headB r) := by
  rw [h.ws, ← order_len, List.take_length, List.getElem?_map]
  have : (order r)[bodies r]? = some ((0 : Int), headB r) := by
    unfold order
    rw [List.getElem?_append_right (by simp)]
    simp
  rw [this]; rfl
theorem cut_E {D D3 : DM} {b n : Nat} {r : SR} (h : Cut D D3 b n r) (hr : r.right) : readE (onD D3) 2 64 r.at_ = 0 := by
  have h2 := hr.a
  have h3 : (onD D3).n = 64 := h.n64
  unfold readE regE
  rw [if_neg (by omega), if_neg (by omega), if_neg (by simp [onD])]
/-- All is done: the record is there. -/
theorem cut_full {D D3 : DM} {a : Nat} {r : SR} (h : Cut D D3 (2 + a) (bodies r + 1) r) (hr : r.right) (ha : r.at_ = (a : Int)) (hfit : 2 + a + bodies r < 64) : readV (onD D3) 2 64 r.gen r.at_ = some r := by
  have hE := cut_E h hr
  refine reads_there (base := 2) (end_ := 64) (b := 2 + a) hr (by omega) hE hfit ?_ ?_
  · rw [blk_b (show (onD D3).b = D3.b from rfl), h.blk]; unfold sealedB; rw [if_pos ⟨rfl, rfl⟩]
  · intro k hk
    rw [blk_b (show (onD D3).b = D3.b from rfl), h.blk]; unfold sealedB
    rw [if_neg (by omega), if_pos (by omega)]
    congr 1
    omega
/-- Not all is done: if a record is there, its head was there. -/
theorem cut_part {D D3 : DM} {a n : Nat} {r : SR} (h : Cut D D3 (2 + a) n r) (hr : r.right) (ha : r.at_ = (a : Int)) (hfit : 2 + a + bodies r < 64) (hn : n < bodies r + 1) (hs : (readV (onD D3) 2 64 r.gen r.at_).isSome = true) :
    headOK (D.blk (2 + a)) ∧ (headR (D.blk (2 + a))).gen = r.gen ∧ (headR (D.blk (2 + a))).at_ = r.at_ := by
  have hE := cut_E h hr
  rw [ha] at hE hs ⊢
  have := readV_head (b := 2) (e := 64) hE (by omega) hs
  have hb : (onD D3).blk (2 + a) = D.blk (2 + a) := by
    rw [blk_b (show (onD D3).b = D3.b from rfl), h.blk]; unfold sealedB
    rw [if_neg (by omega), if_neg (by omega)]
  rwa [hb] at this
/-- An element of the recorded writes. -/
theorem ws_elem {W : World} {base n c : Nat} {ok : Nat → Prop} {A : Option Addr} {l : List (Int × List Int)} (h : KW.R 77 W base ok (.slice A n c) l) {i : Nat} {x : Int} {ys : List Int} (hi : l[i]? = some (x, ys)) :
    ∃ g A1 c1, A = some ⟨g, 0, none⟩ ∧ W.cell? ⟨g, i * 2, none⟩ = some (.int .i64 x) ∧ W.cell? ⟨g, i * 2 + 1, none⟩ = some (.slice A1 ys.length c1) ∧ ys.length ≤ c1 ∧ KB.C W A1 ys.length ys := by
  obtain ⟨hil, hget0⟩ := List.getElem?_eq_some_iff.1 hi
  obtain ⟨ad, rfl⟩ : ∃ ad, A = some ad := by
    cases A with
    | none => have := C_none (Kd.R_reads' h).2.2; rw [this] at hil; simp at hil
    | some a => exact ⟨a, rfl⟩
  obtain ⟨g, rfl⟩ := Kd.R_head h
  obtain ⟨A', c', he, _, hC⟩ := Kd.R_reads h
  injection he with he1 he2 he3
  subst he1
  obtain ⟨ad, cs, hA, hcs, hK, hcell⟩ := Kd.C_get hC (0, []) (i : Int) (by omega) (by omega)
  injection hA with hA
  subst hA
  simp only [Int.toNat_natCast] at hK hcell
  have hget : l.getD i (0, []) = (x, ys) := by simp [List.getD_eq_getElem?_getD, hi]
  rw [hget] at hK
  obtain ⟨c0, c1, rfl, h0, A1, cap1, h1, hle, hC1⟩ := hK
  obtain rfl : c0 = [.int .i64 x] := h0
  subst h1
  refine ⟨g, A1, cap1, rfl, ?_, ?_, hle, hC1⟩
  · have := hcell 0 _ rfl
    rwa [add_plain] at this
  · have := hcell 1 _ rfl
    rwa [add_plain] at this
end Go.Proofs.Ytekhmkfiepnnkaa

/- Package foundrylaw22: SealCut, walked. -/
set_option linter.unusedVariables false
set_option linter.unusedSimpArgs false
namespace Go.Proofs.Ytekhmkfiepnnkaa
open Go.RowKit Go.Proofs.YtekhmkfiepnnkaaW.PrintWords Go.Proofs.YtekhmkfiepnnkaaW.PrintMore

set_option maxRecDepth 100000 in
set_option maxHeartbeats 4000000 in
theorem sealCut_any {w : World} {A A1 : Option Addr} {c c1 : Nat} (r : SR) {b : List Int} (n : Int) (hC : KB.C w A r.bytes.length r.bytes) (hle : r.bytes.length ≤ c) (hrok : r.ok) (hCb : KB.C w A1 b.length b) (hcb : b.length ≤ c1) (hb : Bytes b) (hlb : b.length ≤ 140737488351232)
    (hb9 : -9223372036854775808 ≤ n ∧ n ≤ 9223372036854775807) :
  Calls Try.prog 9 #[recV r A c, .slice A1 b.length c1, .int .i64 n] w fun e w' => e = .returned (.bool true) ∧ Below w.heap.size w w' := by
  have hFr := RB_of_C hC
  have hFb := RB_of_C hCb
  have hb0 := below_alloc (Below.refl w.heap.size w) (.cells #[.int .u64 r.gen, .int .i64 r.at_, .int .i64 r.kind, .slice A r.bytes.length c] 28)
  have hn0 := heap_alloc_new w (.cells #[.int .u64 r.gen, .int .i64 r.at_, .int .i64 r.kind, .slice A r.bytes.length c] 28)
  unfold recV
  go_enter Try.func9, Try.ntmps9
  go_wp2_with fail
  generalize w.alloc (.cells #[.int .u64 r.gen, .int .i64 r.at_, .int .i64 r.kind, .slice A r.bytes.length c] 28) = w0 at hb0 hn0 ⊢
  refine live_any.mono ?_
  rintro e w1 ⟨rfl, b1⟩
  have hb1 : Below w.heap.size w w1 := hb0.trans (b1.mono hb0.size)
  have hn1 := (b1.block _ (blk_lt hn0)).trans hn0
  have hFb1 := RB_below hFb hb1
  have hl0 := laid_any (w := w1) hFb1 hb hcb hlb (fun k hk => Nat.lt_of_lt_of_le hk hb1.size)
  go_wp2_with fail
  refine hl0.mono ?_
  rintro e w2 ⟨p, rfl, h2, b2⟩
  obtain ⟨hon, hws⟩ := laidK_on hb (laidN b) (Nat.le_refl _)
  have hws64 : laidN b ≤ 64 := by unfold laidN; omega
  generalize laidK b (laidN b) = D at h2 hon hws
  have HWS := hid hws
  have hb2 : Below w.heap.size w w2 := hb1.trans (b2.mono hb1.size)
  have hn2 := (b2.block _ (blk_lt hn1)).trans hn1
  have hFr2 := RB_below hFr hb2
  have hs1 : w.heap.size < w1.heap.size := blk_lt hn1
  have hs12 : w1.heap.size ≤ w2.heap.size := b2.size
  clear b1 b2 hl0 hFb1 hn1 hn0 hb0 hFb hws
  have m0 := cell_of_row _ _ 0 _ _ _ hn2
  have m1 := cell_of_row _ _ 1 _ _ _ hn2
  have m2 := cell_of_row _ _ 2 _ _ _ hn2
  have m3 := cell_of_row _ _ 3 _ _ _ hn2
  simp at m0 m1 m2 m3
  have hm := mine_any r (Kd.F_now hFr2) hle (by have := hrok.l; omega)
  unfold recV at hm
  go_wp2_with fail
  refine hm.mono ?_
  rintro e w3 ⟨A3, c3, rfl, hR3, hle3, b3⟩
  have h3 := h2.bound.step (w1 := w3) (fun k _ hk => b3.block k hk)
  have hn3 := (b3.block _ (blk_lt hn2)).trans hn2
  have hb3 : Below w.heap.size w w3 := hb2.trans (b3.mono hb2.size)
  have b34 := below_alloc (Below.refl w3.heap.size w3) (.cells #[.int .u64 r.gen, .int .i64 r.at_, .int .i64 r.kind, .slice A3 r.bytes.length c3] 25)
  have hn4 := heap_alloc_new w3 (.cells #[.int .u64 r.gen, .int .i64 r.at_, .int .i64 r.kind, .slice A3 r.bytes.length c3] 25)
  have h4 := h3.step (w1 := w3.alloc (.cells #[.int .u64 r.gen, .int .i64 r.at_, .int .i64 r.kind, .slice A3 r.bytes.length c3] 25)) (fun k hk _ => b34.block k (by have := b3.size; omega))
  have hF4 : RB (w3.alloc (.cells #[.int .u64 r.gen, .int .i64 r.at_, .int .i64 r.kind, .slice A3 r.bytes.length c3] 25)) (fun k => w2.heap.size ≤ k) A3 r.bytes := RB_below (Kd.R_F hR3) b34
  have hn04 := (b34.block _ (blk_lt hn3)).trans hn3
  have hb4 : Below w.heap.size w (w3.alloc (.cells #[.int .u64 r.gen, .int .i64 r.at_, .int .i64 r.kind, .slice A3 r.bytes.length c3] 25)) := hb3.trans (b34.mono hb3.size)
  have hs23 := b3.size
  clear hm m0 m1 m2 m3 hR3 h3 b34 b3 hn3 hn2 h2 hb3 hb2 hFr2 hb1 hFr hC hCb
  have hg := hrok.g
  by_cases he : sealE r = 0
  · have hr := right_of he hg hrok.b
    have hbl := bodies_le hr
    have hat := hr.a
    have hbe := sealBlocks_ok (w := w3.alloc (.cells #[.int .u64 r.gen, .int .i64 r.at_, .int .i64 r.kind, .slice A3 r.bytes.length c3] 25)) (A := A3) (c := c3) r hF4 hle3 hr
    unfold recV at hbe
    go_wp2_with fail
    generalize w3.alloc (.cells #[.int .u64 r.gen, .int .i64 r.at_, .int .i64 r.kind, .slice A3 r.bytes.length c3] 25) = w4 at hn4 h4 hF4 hn04 hb4 hbe ⊢
    refine hbe.mono ?_
    rintro e w5 ⟨v5, rfl, hO5, b5⟩
    have hlen := blkList_len r
    obtain ⟨g0, c5, g, hv5, _, _, _, hge0⟩ := hO5.get (blkList_0 r)
    rw [hlen] at hv5
    have h5 := h4.step (w1 := w5) (fun k _ hk => b5.block k hk)
    have hF5 := RB_below hF4 b5
    have hn5 := (b5.block _ (blk_lt hn4)).trans hn4
    have hb5 : Below w.heap.size w w5 := hb4.trans (b5.mono hb4.size)
    have h34 : w3.heap.size < w4.heap.size := blk_lt hn4
    have m1 := cell_of_row _ _ 1 _ _ _ hn5
    simp at m1
    clear hbe hlen b5 hn4 h4 hF4 hn04 he
    rw [hv5] at hO5 ⊢
    clear hv5
    have hwa : IntKind.i64.wrap (r.at_ + ((bodies r : Int) + 1)) = r.at_ + ((bodies r : Int) + 1) := by rw [IntKind.wrap_i64]; omega
    by_cases hfit : 62 < r.at_ + ((bodies r : Int) + 1)
    · go_wp2
      go_ret
      exact ⟨rfl, hb5⟩
    obtain ⟨a, ha⟩ := Int.eq_ofNat_of_zero_le hat.1
    have ha2 := And.intro (Int.le_of_eq ha) (Int.le_of_eq ha.symm)
    have HA := hid ha
    clear ha
    obtain ⟨n1, hn1⟩ : ∃ n1 : Nat, (if n < 0 then -(n + 1) else n) = (n1 : Int) := ⟨(if n < 0 then -(n + 1) else n).toNat, by split <;> omega⟩
    go_upto_if 50 with (fail)
    go_cut [2] (fun v2 wc => v2 = .int .i64 (n1 : Int) ∧ wc = w5)
    case first =>
      by_cases hneg : n < 0
      · rw [if_pos hneg] at hn1
        have hw1 : IntKind.i64.wrap (n + 1) = n + 1 := by rw [IntKind.wrap_i64]; omega
        have HN := hid hn1
        clear hn1
        go_wp2
        go_meet
        case rel => exact ⟨by rw [← HN.out], rfl⟩
      · rw [if_neg hneg] at hn1
        have HN := hid hn1
        clear hn1
        go_wp2
        go_meet
        case rel => exact ⟨by rw [HN.out], rfl⟩
    case rest =>
      obtain ⟨rfl, hwc⟩ := hcut
      have hwc2 := hwc.symm
      clear hwc
      subst hwc2
      obtain ⟨m, hm⟩ : ∃ m, n1 % (bodies r + 1 + 1) = m := ⟨_, rfl⟩
      have hml : m ≤ bodies r + 1 := by have := Nat.mod_lt n1 (show 0 < bodies r + 1 + 1 by omega); omega
      have hm1 : (n1 : Int) % ((bodies r : Int) + 1 + 1) = (m : Int) := by rw [← hm]; simp [Int.natCast_emod]
      have hm2 : Int.tmod (n1 : Int) ((bodies r : Int) + 1 + 1) = (m : Int) := by rw [Int.tmod_eq_emod_of_nonneg (by omega)]; exact hm1
      clear hm hn1
      have hrd := fun i hi => read_okI (2 + a) i h5 hi (ready_in hon.gone (by rw [hon.n]; omega)) (by rw [hon.n]; omega)
      have hX := blk_length hon.wf (i := 2 + a) (by rw [hon.n]; omega)
      have hXb := blk_bytes hon.wf (2 + a)
      have HX := hid hX
      clear hX
      go_wp2_with fail
      refine (hrd _ (by omega)).mono ?_
      rintro e w6 ⟨rfl, hw6⟩
      have b56 : Below w5.heap.size w5 w6 := by rw [hw6]; exact below_alloc (Below.refl _ _) _
      have hRB : RB w6 (fun q => q = w5.heap.size) (some ⟨w5.heap.size, 0, none⟩) (D.blk (2 + a)) := by rw [hw6]; exact RB_new _ _ _ (by rw [HX.out]; omega)
      clear hw6 hrd
      have hh := head_any (c := 64) hRB hXb (by rw [HX.out]; omega)
      rw [HX.out] at hh
      unfold HeadPost recV at hh
      obtain ⟨th, hth⟩ : ∃ th, th = (decide (headOK (D.blk (2 + a))) && (headR (D.blk (2 + a))).gen == r.gen && (headR (D.blk (2 + a))).at_ == r.at_) := ⟨_, rfl⟩
      have HTH : Hid (headOK (D.blk (2 + a)) ∧ (headR (D.blk (2 + a))).gen = r.gen ∧ (headR (D.blk (2 + a))).at_ = r.at_ → th = true) := hid (fun hq => by rw [hth]; simp [hq.1, hq.2.1, hq.2.2])
      generalize headN (D.blk (2 + a)) = N at hh
      generalize decide (headOK (D.blk (2 + a))) = ib at hh hth
      obtain ⟨R, hRR⟩ : ∃ R, headR (D.blk (2 + a)) = R := ⟨_, rfl⟩
      rw [hRR] at hh hth
      clear hRR
      obtain ⟨rg, ra, rk, rb⟩ := R
      dsimp only at hh hth
      go_wp2_with fail
      refine hh.mono ?_
      rintro e w7 ⟨A7, c7, rfl, _, _, b7⟩
      clear hh hRB
      have b78 := below_alloc (Below.refl w7.heap.size w7) (.cells #[.int .u64 rg, .int .i64 ra, .int .i64 rk, .slice A7 rb.length c7] 25)
      have hn8 := heap_alloc_new w7 (.cells #[.int .u64 rg, .int .i64 ra, .int .i64 rk, .slice A7 rb.length c7] 25)
      have b58 : Below w5.heap.size w5 (w7.alloc (.cells #[.int .u64 rg, .int .i64 ra, .int .i64 rk, .slice A7 rb.length c7] 25)) := (b56.trans (b7.mono b56.size)).trans (b78.mono (Nat.le_trans b56.size b7.size))
      have hn5' := (b58.block _ (blk_lt hn5)).trans hn5
      go_upto_region 13 with (fail)
      generalize w7.alloc (.cells #[.int .u64 rg, .int .i64 ra, .int .i64 rk, .slice A7 rb.length c7] 25) = w8 at hn8 b58 hn5' ⊢
      clear b78 b7 b56 m1
      have m0 := cell_of_row _ _ 0 _ _ _ hn5'
      have m1 := cell_of_row _ _ 1 _ _ _ hn5'
      have m2 := cell_of_row _ _ 2 _ _ _ hn5'
      have m3 := cell_of_row _ _ 3 _ _ _ hn5'
      have q0 := cell_of_row _ _ 0 _ _ _ hn8
      have q1 := cell_of_row _ _ 1 _ _ _ hn8
      simp at m0 m1 m2 m3 q0 q1
      go_cut [16] (fun v16 wc => v16 = .bool th ∧ wc = w8)
      case first =>
        have HT := hid hth
        clear hth
        cases ib with
        | false =>
          go_wp2
          go_meet
          case rel => exact ⟨by rw [HT.out]; rfl, rfl⟩
        | true =>
          by_cases e1 : rg = r.gen
          · have e1b : (rg == r.gen) = true := by simpa using e1
            by_cases e2 : ra = r.at_
            · have e2b : (ra == r.at_) = true := by simpa using e2
              have HE := hid (And.intro e1b e2b)
              clear e1b e2b
              go_wp2
              go_meet
              case rel => exact ⟨by rw [HT.out, HE.out.1, HE.out.2]; rfl, rfl⟩
            · have e2b : (ra == r.at_) = false := by simpa using e2
              have HE := hid (And.intro e1b e2b)
              clear e1b
              go_wp2
              go_meet
              case rel => exact ⟨by rw [HT.out, HE.out.1, HE.out.2]; rfl, rfl⟩
          · have e1b : (rg == r.gen) = false := by simpa using e1
            have HE := hid e1b
            go_wp2
            go_meet
            case rel => exact ⟨by rw [HT.out, HE.out]; rfl, rfl⟩
      case rest =>
        obtain ⟨rfl, hwc⟩ := hcut
        have hwc2 := hwc.symm
        clear hwc
        subst hwc2
        clear hth q0 q1 hn8 m2 hm1 hm2
        have h8 := h5.step (w1 := w8) (fun k hk hlt => b58.block k hlt)
        have hF8 := RB_below hF5 b58
        have hO8 := hO5.step (fun k _ hk => b58.block k hk)
        have hb8 := hb5.trans (b58.mono hb5.size)
        have h38 : w3.heap.size < w8.heap.size := blk_lt hn5'
        have h12 : w1.heap.size ≤ w2.heap.size ∧ w2.heap.size ≤ w3.heap.size := by omega
        clear b58 h5 hF5 hO5 hn5 hb5
        go_wp2_with fail
        refine (forget_any h8).mono ?_
        rintro e w9 ⟨rfl, h9, c9⟩
        have hn9 := (c9.block w3.heap.size h38 (fun hk => by omega)).trans hn5'
        have hF9 := RB_step hF8 c9 (fun k k1 k2 => by omega)
        have hb9' := hb8.trans (c9.below_ (B := w.heap.size) hb8.size (fun k hk => by omega))
        have hO9 := hO8.step (fun k hk hlt => c9.block k hlt (fun hk2 => by omega))
        have s9 := c9.size
        clear h8 hF8 hO8 hn5' c9 hb8 m0 m1 m3
        go_wp2_with fail
        refine (cut_any (m : Int) h9 (by omega)).mono ?_
        rintro e w10 ⟨rfl, h10, c10⟩
        have hn10 := (c10.block w3.heap.size (by omega) (fun hk => by omega)).trans hn9
        have hF10 := RB_step hF9 c10 (fun k k1 k2 => by omega)
        have hb10 := hb9'.trans (c10.below_ (B := w.heap.size) hb9'.size (fun k hk => by omega))
        have hO10 := hO9.step (fun k hk hlt => c10.block k hlt (fun hk2 => by omega))
        have s10 := c10.size
        clear h9 hF9 hO9 hn9 c10 hb9'
        have m0 := cell_of_row _ _ 0 _ _ _ hn10
        have m1 := cell_of_row _ _ 1 _ _ _ hn10
        have m2 := cell_of_row _ _ 2 _ _ _ hn10
        have m3 := cell_of_row _ _ 3 _ _ _ hn10
        simp at m0 m1 m2 m3
        have h10c : PDisk w10 (fun k => w1.heap.size ≤ k ∧ k < w2.heap.size) p (cutD D m) := h10
        have hsw := swrite_any p 2 r h10c hF10 (fun k k1 k2 => by omega) hle3 hrok.b hg (by omega) (by show (0 + 65537) * 32 ≤ _; omega)
        obtain ⟨hce, hcu⟩ := cut_step (n := m) hon hr HA.out (by omega) hml
        rw [hce] at hsw
        clear hce h10 h10c
        unfold recV at hsw
        obtain ⟨D3, hD3⟩ : ∃ D3, ((cutD D m).sealW 2 r).1 = D3 := ⟨_, rfl⟩
        rw [hD3] at hsw hcu
        clear hD3
        have HCU := hid hcu
        have hwl := hcu.wsLen hml
        obtain ⟨E, hE⟩ : ∃ E : Int, (if m < bodies r + 1 then (61 : Int) else 0) = E := ⟨_, rfl⟩
        rw [hE] at hsw
        have HE := hid hE
        clear hcu hE
        go_wp2_with fail
        refine hsw.mono ?_
        rintro e w11 ⟨rfl, h11, c11⟩
        have h11b := h11.bound
        have hk11 : ∀ k, w2.heap.size ≤ k → k < w10.heap.size → w11.heap[k]? = w10.heap[k]? := fun k k1 k2 => c11.block k k2 (fun hk => by omega)
        have hb11 := hb10.trans (c11.below_ (B := w.heap.size) hb10.size (fun k hk => by omega))
        have s11 := c11.size
        have hF10b := Kd.F_bound hF10
        clear hsw c11 hb10 m0 m1 m2 m3 h11 hF10
        have hwr := writes_any h11b (by rw [hwl]; omega)
        rw [hwl] at hwr
        have HWL := hid hwl
        clear hwl
        go_wp2_with fail
        refine hwr.mono ?_
        rintro e w12 ⟨A12, c12, rfl, hR12, b12⟩
        have h12' := h11b.step (w1 := w12) (fun k _ hk => b12.block k hk)
        have hb12 := hb11.trans (b12.mono hb11.size)
        have s12 := b12.size
        clear hwr h11b hb11
        go_wp2_with fail
        refine (on_any h12').mono ?_
        rintro e w13 ⟨rfl, h13, c13⟩
        have hk13 : ∀ k, w2.heap.size ≤ k → k < w10.heap.size → w13.heap[k]? = w10.heap[k]? := fun k k1 k2 => by
          rw [c13.block k (by omega) (fun hk => by rcases hk.1 with hk | hk <;> omega), b12.block k (by omega), hk11 k k1 k2]
        have hb13 := hb12.trans (c13.below_ (B := w.heap.size) hb12.size (fun k hk => by rcases hk.1 with hk | hk <;> omega))
        have hR13 : KW.R 77 w13 w11.heap.size (fun q => w11.heap.size ≤ q) (.slice A12 m c12) D3.ws := Kd.R_step hR12 (fun k hk hlt => c13.block k hlt (fun hk2 => by omega))
        have hn13 := (hk13 w3.heap.size (by omega) (by omega)).trans hn10
        have hF13 : RB w13 (fun k => w2.heap.size ≤ k ∧ k < w10.heap.size) A3 r.bytes := Kd.F_step hF10b (fun k hk _ => hk13 k hk.1 hk.2)
        have hO13 := hO10.step (W1 := w13) (fun k k1 k2 => hk13 k (by omega) k2)
        have h13c : PDisk w13 (fun k => orNew (fun k => w1.heap.size ≤ k ∧ k < w2.heap.size) w10 k ∧ k < w11.heap.size) p (onD D3) := h13
        clear h12' hR12 b12 hb12 c13 hk13 hk11 hF10b hn10 hO10 h13
        have hrd2 := sread_any h13c 2 64 r.gen r.at_
        have hRE := cut_E HCU.out hr
        rw [hRE] at hrd2
        clear hRE h13c
        have m0 := cell_of_row _ _ 0 _ _ _ hn13
        have m1 := cell_of_row _ _ 1 _ _ _ hn13
        simp at m0 m1
        obtain ⟨V, hV⟩ : ∃ V, readV (onD D3) 2 64 r.gen r.at_ = V := ⟨_, rfl⟩
        rw [hV] at hrd2
        have HV := hid hV
        clear hV
        go_wp2_with fail
        refine hrd2.mono ?_
        rintro e w14 ⟨A14, c14, rfl, hR14, hle14, b14⟩
        unfold recV
        obtain ⟨RR, hRR⟩ : ∃ RR, V.getD noR = RR := ⟨_, rfl⟩
        rw [hRR] at hR14 hle14 ⊢
        have HRR := hid hRR
        clear hRR hrd2 m0 m1
        have b15 := below_alloc b14 (.cells #[.int .u64 RR.gen, .int .i64 RR.at_, .int .i64 RR.kind, .slice A14 RR.bytes.length c14] 25)
        have hn15 := heap_alloc_new w14 (.cells #[.int .u64 RR.gen, .int .i64 RR.at_, .int .i64 RR.kind, .slice A14 RR.bytes.length c14] 25)
        have hF15 : RB (w14.alloc (.cells #[.int .u64 RR.gen, .int .i64 RR.at_, .int .i64 RR.kind, .slice A14 RR.bytes.length c14] 25)) (fun k => w13.heap.size ≤ k) A14 RR.bytes := Kd.R_F (Kd.R_alloc hR14 _)
        go_upto_region 20 with (fail)
        generalize w14.alloc (.cells #[.int .u64 RR.gen, .int .i64 RR.at_, .int .i64 RR.kind, .slice A14 RR.bytes.length c14] 25) = w15 at b15 hn15 hF15 ⊢
        generalize w14.heap.size = n15 at hn15 ⊢
        have hb15 := hb13.trans (b15.mono hb13.size)
        have hR15 := Kd.R_below hR13 b15
        have hm15 := (b15.block _ (blk_lt hn13)).trans hn13
        have hFm15 := RB_below hF13 b15
        have hO15 := hO13.step (W1 := w15) (fun k _ hk => b15.block k hk)
        clear hR13 hn13 hF13 hO13 b15 b14 hR14 hb13
        have m0 := cell_of_row _ _ 0 _ _ _ hm15
        have m1 := cell_of_row _ _ 1 _ _ _ hm15
        have m2 := cell_of_row _ _ 2 _ _ _ hm15
        have m3 := cell_of_row _ _ 3 _ _ _ hm15
        simp at m0 m1 m2 m3
        by_cases hmf : m = bodies r + 1
        · subst hmf
          have hE0 : E = 0 := by rw [← HE.out, if_neg (by omega)]
          have hVr : V = some r := by rw [← HV.out, HA.out]; have := cut_full HCU.out hr HA.out (by omega); rwa [HA.out] at this
          have hRr : RR = r := by rw [← HRR.out, hVr]; rfl
          subst hE0 hVr hRr
          have hlast : D3.ws[bodies RR]? = some (2 + RR.at_, headB RR) := by rw [HCU.out.last, HA.out]; simp
          obtain ⟨gW, AW, cW, rfl, kw0, kw1, kwle, kwC⟩ := ws_elem hR15 hlast
          rw [headB_length] at kw1
          have hwx1 : IntKind.i64.wrap (bodies RR : Int) = (bodies RR : Int) := by rw [IntKind.wrap_i64]; omega
          have hbb : (bodies RR : Int) < (bodies RR : Int) + 1 := by omega
          have hwx2 : IntKind.i64.wrap (2 + RR.at_) = 2 + RR.at_ := by rw [IntKind.wrap_i64]; omega
          obtain ⟨g0', c5', gH, hv5, kh, hbuH, _, _⟩ := hO15.get (blkList_0 RR)
          rw [blkList_len] at hv5
          injection hv5 with e1 e2 e3
          injection e1 with e1
          injection e1 with e1
          subst e1 e3
          clear e2
          have q0 := cell_of_row _ _ 0 _ _ _ hn15
          have q1 := cell_of_row _ _ 1 _ _ _ hn15
          have q2 := cell_of_row _ _ 2 _ _ _ hn15
          have q3 := cell_of_row _ _ 3 _ _ _ hn15
          simp at q0 q1 q2 q3
          simp only [Option.isSome_some]
          go_wp2_with fail
          refine wp_region_plan [] (.take 0 (.take 1 (.take 2 (.take 3 (.run 4 (.take 5 (.take 6 (.take 7 (.take 8 (.take 9 (.take 10 (.take 11 (.take 12 (.take 13 (.take 14 (.take 15 (.take 16 (.take 17 (.take 18 (.take 19 (.take 20 (.take 21 (.take 22 (.take 23 (.take 24 (.take 25 (.take 26 (.take 27 (.run 28 (.take 29 (.take 30 .done))))))))))))))))))))))))))))))) (fun w' => Below w15.heap.size w15 w') (by kernel_rfl) (by kernel_rfl) (fun c a d v w h => by cases d <;> exact h) (below_drew (Below.refl _ _)) ?_
          iterate 2 (apply plan_take rfl rfl; (case hy => (intro w' hS; clear hS; go_simp; try exact rfl)); go_simp)
          apply plan_take rfl rfl
          case hy => (intro w' hS; have e0 := pw_cell_below hS q0; have e1 := pw_cell_below hS q1; have e2 := pw_cell_below hS q2; have e3 := pw_cell_below hS q3; clear hS; go_simp; try exact rfl)
          go_simp
          apply plan_take rfl rfl
          case hy => (intro w' hS; have e0 := pw_cell_below hS m0; have e1 := pw_cell_below hS m1; have e2 := pw_cell_below hS m2; have e3 := pw_cell_below hS m3; clear hS; go_simp; try exact rfl)
          go_simp
          have hsm := same_true (w := w15.drew) RR (Kd.F_now (RB_drew hF15)) hle14 (Kd.F_now (RB_drew hFm15)) hle3
          unfold recV at hsm
          refine plan_run_on rfl rfl (fun K hK => ?_)
          go_simp
          refine hsm.mono ?_
          rintro e w16 ⟨rfl, b16⟩
          have b16' : Below w15.heap.size w15 w16 := below_step (below_drew (Below.refl _ _)) b16
          refine hK _ _ _ (fun _ h => h) b16' ?_
          clear hK K hsm b16
          go_simp
          iterate 23 (apply plan_take rfl rfl; (case hy => (intro w' hS; have e0 := pw_cell_below hS m1; have e1 := pw_cell_below hS kw0; have e2 := pw_cell_below hS kw1; have e3 := pw_cell_below hS kh; clear hS; go_simp; try exact rfl)); go_simp)
          have hsb := sameBytes_any (w := w16) (c := cW) (c' := 64) (Kd.C_below kwC b16') (headB_bytes hr) kwle (Kd.F_now (RB_below (BU.row hbuH (by rw [headB_length]; omega)) b16')) (headB_bytes hr) (by rw [headB_length]; omega)
          rw [decide_eq_true rfl, headB_length] at hsb
          refine plan_run_on rfl rfl (fun K hK => ?_)
          go_simp
          refine hsb.mono ?_
          rintro e w17 ⟨rfl, b17⟩
          have b17' : Below w15.heap.size w15 w17 := below_step b16' b17
          refine hK _ _ _ (fun _ h => h) b17' ?_
          clear hK K hsb b17
          go_simp
          iterate 2 (apply plan_take rfl rfl; (case hy => (intro w' hS; clear hS; go_simp; try exact rfl)); go_simp)
          refine plan_done ?_
          have hb17 := hb15.trans (b17'.mono hb15.size)
          go_wp2
          go_ret
          exact ⟨rfl, hb17⟩
        · have hmb : m ≤ bodies r := by omega
          have hE0 : E = 61 := by rw [← HE.out, if_pos (by omega)]
          have hthV : V.isSome = true → th = true := fun hs => HTH.out (by
            rw [← HV.out] at hs
            exact cut_part HCU.out hr HA.out (by omega) (by omega) hs)
          have HTV := hid hthV
          have hmI : ¬ (m : Int) = (bodies r : Int) + 1 := by omega
          have hmI2 : ((m : Int) == (bodies r : Int) + 1) = false := by simpa using hmI
          have hws2 : ∀ k, k < m → D3.ws[k]? = some (2 + r.at_ + 1 + (k : Int), bodyB r (k + 1)) := fun k hk => by
            rw [HCU.out.at_ hmb hk, HA.out]
            congr 2
            omega
          have HWS2 := hid hws2
          subst hE0
          clear hthV hws2 hmf
          generalize V.isSome = vs at HTV ⊢
          go_wp2_with fail
          go_loopw [21] (fun i wr => ∃ k : Nat, k ≤ m ∧ i = .int .i64 k ∧ Below w15.heap.size w15 wr) (fun i _ => m - (intOf i).toNat)
          case atStart => exact ⟨0, Nat.zero_le _, rfl, Below.refl _ _⟩
          case round =>
            obtain ⟨k, hk, rfl, hBl⟩ := hrel
            by_cases hlt : k < m
            · obtain ⟨gW, AW, cW, rfl, kw0, kw1, kwle, kwC⟩ := ws_elem (Kd.R_below hR15 hBl) (HWS2.out k hlt)
              have hO := hO15.step (W1 := wr) (fun q _ hq => hBl.block q hq)
              obtain ⟨g0', c5', gH, hv5, kh, hbuH, _, _⟩ := hO.get (i := 1 + k) (xs := bodyB r (k + 1)) (by rw [Nat.add_comm 1 k]; exact blkList_succ r (by omega))
              rw [blkList_len] at hv5
              injection hv5 with e1 e2 e3
              injection e1 with e1
              injection e1 with e1
              subst e1 e3
              clear e2
              have k1 := pw_cell_below hBl m1
              have hwy1 : IntKind.i64.wrap (2 + r.at_) = 2 + r.at_ := by rw [IntKind.wrap_i64]; omega
              have hwy2 : IntKind.i64.wrap (2 + r.at_ + 1) = 2 + r.at_ + 1 := by rw [IntKind.wrap_i64]; omega
              have hwy3 : IntKind.i64.wrap (2 + r.at_ + 1 + (k : Int)) = 2 + r.at_ + 1 + (k : Int) := by rw [IntKind.wrap_i64]; omega
              have hwy4 : IntKind.i64.wrap (1 + (k : Int)) = 1 + (k : Int) := by rw [IntKind.wrap_i64]; omega
              have hy0 : (0 : Int) ≤ 1 + (k : Int) := by omega
              have hyt : (1 + (k : Int)).toNat = 1 + k := by omega
              have hyl : 1 + (k : Int) < (bodies r : Int) + 1 := by omega
              have hkl : (k : Int) < (m : Int) := by omega
              rw [bodyB_length] at kw1
              go_wp2_with fail
              refine wp_region_plan [] (.take 0 (.take 1 (.take 2 (.take 3 (.take 4 (.take 5 (.take 6 (.take 7 (.take 8 (.take 9 (.take 10 (.take 11 (.take 12 (.take 13 (.take 14 (.take 15 (.take 16 (.take 17 (.take 18 (.take 19 (.take 20 (.take 21 (.take 22 (.run 23 (.take 24 (.take 25 .done)))))))))))))))))))))))))) (fun w' => Below wr.heap.size wr w') (by kernel_rfl) (by kernel_rfl) (fun c a d v w h => by cases d <;> exact h) (below_drew (Below.refl _ _)) ?_
              iterate 23 (apply plan_take rfl rfl; (case hy => (intro w' hS; have e0 := pw_cell_below hS k1; have e1 := pw_cell_below hS kw0; have e2 := pw_cell_below hS kw1; have e3 := pw_cell_below hS kh; clear hS; go_simp; try exact rfl)); go_simp)
              have hsb := sameBytes_any (w := wr.drew) (c := cW) (c' := 64) (Kd.C_below kwC (below_drew (Below.refl _ _))) (bodyB_bytes hr (k + 1)) kwle (Kd.F_now (RB_drew (BU.row hbuH (by rw [bodyB_length]; omega)))) (bodyB_bytes hr (k + 1)) (by rw [bodyB_length]; omega)
              rw [decide_eq_true rfl, bodyB_length] at hsb
              refine plan_run_on rfl rfl (fun K hK => ?_)
              go_simp
              refine hsb.mono ?_
              rintro e w17 ⟨rfl, b17⟩
              have b17' : Below wr.heap.size wr w17 := below_step (below_drew (Below.refl _ _)) b17
              refine hK _ _ _ (fun _ h => h) b17' ?_
              clear hK K hsb b17
              go_simp
              iterate 2 (apply plan_take rfl rfl; (case hy => (intro w' hS; clear hS; go_simp; try exact rfl)); go_simp)
              refine plan_done ?_
              have hB17 := hBl.trans (b17'.mono hBl.size)
              clear k1 kw0 kw1 kh hO hyl hyt
              go_wp2
              go_roundw
              case rel => exact ⟨k + 1, by omega, by go_num, hB17⟩
              case measure => simp [intOf]; omega
            · obtain rfl : k = m := by omega
              have hbf := hb15.trans (hBl.mono hb15.size)
              cases th with
              | true =>
                go_wp2
                go_ret
                exact ⟨rfl, hbf⟩
              | false =>
                cases vs with
                | true => have := HTV.out rfl; cases this
                | false =>
                  go_wp2
                  go_ret
                  exact ⟨rfl, hbf⟩
  · have hbe := blocksErr (w := w3.alloc (.cells #[.int .u64 r.gen, .int .i64 r.at_, .int .i64 r.kind, .slice A3 r.bytes.length c3] 25)) (A := A3) (c := c3) r (RB_len hF4) he
    unfold recV at hbe
    have heb : (sealE r != 0) = true := by simpa using he
    generalize sealE r = E at hbe heb
    go_wp2_with fail
    refine hbe.mono ?_
    rintro e w5 ⟨rfl, b5⟩
    have hb5 : Below w.heap.size w w5 := hb4.trans (b5.mono hb4.size)
    clear hbe b5
    go_wp2
    go_ret
    exact ⟨rfl, hb5⟩
end Go.Proofs.Ytekhmkfiepnnkaa

/- Package foundrylaw22: SealCut's call. -/
set_option linter.unusedVariables false
set_option linter.unusedSimpArgs false
namespace Go.Proofs.Ytekhmkfiepnnkaa
open Go.RowKit Go.Proofs.YtekhmkfiepnnkaaW.PrintWords
theorem KRec_agg {w : World} {r : SR} {cs : Array Value} (h : KRec.K w r cs.toList) : ∃ A c, Value.agg cs = recV r A c ∧ r.bytes.length ≤ c ∧ KB.C w A r.bytes.length r.bytes := by
  obtain ⟨A, c, he, hl, hC⟩ := KRec_open h
  refine ⟨A, c, ?_, hl, hC⟩
  have : cs = (r.cells A c).toArray := by rw [← he]
  rw [this]; rfl
theorem sealCut_row {w : World} {cs : Array Value} {r : SR} (k : KRec.K w r cs.toList) (hr : r.ok) {A1 : Option Addr} {c1 : Nat} {b : List Int} (hCb : KB.C w A1 b.length b) (hcb : b.length ≤ c1) (hG : Bytes b ∧ b.length ≤ 140737488351232) (n : Int) (hn : (Lit.int .i64 n).wf = true) :
    Calls Try.prog 9 #[.agg cs, .slice A1 b.length c1, .int .i64 n] w fun e w' => e = .returned (.bool true) ∧ Below w.heap.size w w' := by
  obtain ⟨A, c, e, hl, hC⟩ := KRec_agg k
  rw [e]
  have := bounds_i64 hn
  exact sealCut_any r n hC hl hr hCb hcb hG.1 hG.2 (by omega)
end Go.Proofs.Ytekhmkfiepnnkaa

set_option linter.unusedVariables false
set_option linter.unusedSimpArgs false
namespace Go.Proofs.Ytekhmkfiepnnkaa
open Go.ChangeShapes Go.WideShapes Go.ChangeAt Go.RowKit Go.Proofs.YtekhmkfiepnnkaaW.PrintWords
open Go.ChangeMaps (open_string shut_string)
set_option linter.unusedVariables false
theorem sealCut_own : ownKnob Try.prog.godebug = none := by kernel_rfl
theorem sealCut_laid : laidOutB Try.prog = true := by kernel_rfl
set_option maxRecDepth 100000 in
theorem sealCut_lifted (os : Os) (started : os.Started) (H : Type) (enc : TypeId × Value → H) :
    ReturnsInHanded {} Try.checked os 9 .any (Rows.sealCutSpec.pre6 enc Try.prog Try.f9 Rows.sealCutRow.domain false) (Rows.sealCutSpec.post enc Try.prog Try.f9 false true false false) := by
  refine returnsInHanded_of_change_sized (C := Try.checked) sealCut_own started (by kernel_rfl) Try.func9
    (ChangeSpec.witness6 (enc := enc) (C := Try.checked) false ⟨#[], #[.agg #[.int .u64 0, .int .i64 0, .int .i64 0, .slice none 0 0], .slice none 0 0, .int .i64 0], []⟩ 8 (by kernel_rfl) (by kernel_rfl) (by kernel_rfl) (by kernel_rfl)) ?_
  intro W base args ds gs before hval0 hW hcnd hsz0 _
  have hsz : (DataW.weightsEach Try.prog (Try.f9.params.toList ++ Rows.sealCutSpec.plain.varTypes Try.prog) (ds ++ gs)).all (· ≤ reachBytes) = true := hsz0
  have hval : ∀ (j : Nat) t v, Try.f9.params[j]? = some t → args[j]? = some v → Value.okWide Try.prog W .any base t v := hval0
  have hW' := hW
  obtain ⟨p, q, hA0, hV, rfl, hfz, hnd⟩ := hW
  have hA : DataW.TrodAll enc Try.prog W 0 (fun _ => true) true Try.f9.params.toList args.toList ds p := hA0
  rw [Try.params9] at hA hval hsz
  obtain ⟨v0, vs0, d0, ds0, p0, q0, hargs, rfl, rfl, h0, r0⟩ := trodAll_cons hA
  obtain ⟨v1, vs1, d1, ds1, p1, q1, rfl, rfl, rfl, h1, r1⟩ := trodAll_cons r0
  obtain ⟨v2, vs2, d2, ds2, p2, q2, rfl, rfl, rfl, h2, r2⟩ := trodAll_cons r1
  obtain ⟨rfl, rfl, rfl⟩ := trodAll_nil r2
  obtain rfl : args = #[v0, v1, v2] := by cases args; simp_all
  obtain ⟨rfl, rfl⟩ := trodVars_none hV
  have lt0 : ∀ x ∈ p0, x.block < W.heap.size := by obtain ⟨m, hm⟩ := h0; exact DataW.trod_lt m _ _ _ hm
  obtain ⟨cs0, rfl, _⟩ := okWide_struct Try.underlying28 (hval 0 28 v0 rfl rfl)
  obtain ⟨x0, k0, g0⟩ := opens_rec.arg hsz (j := 0) (t := 28) rfl rfl h0
  have lt1 : ∀ x ∈ p1, x.block < W.heap.size := by obtain ⟨m, hm⟩ := h1; exact DataW.trod_lt m _ _ _ hm
  obtain ⟨A1, len1, c1, rfl⟩ := okWide_slice Try.underlying22 (hval 1 22 v1 rfl rfl)
  obtain ⟨l1, rfl, hl1, k1, g1⟩ := opens_slice_arg opens_bytes hsz (j := 1) (t := 22) rfl rfl h1
  obtain ⟨n2, rfl, rfl, rfl, g2⟩ := open_int Try.underlying3 (hval 2 3 v2 rfl rfl) h2
  clear hA0 hval0 hsz0 hsz
  refine (sealCut_row k0 g0 k1 hl1 g1 n2 g2).mono fun e W' ⟨he, bel⟩ => ?_
  subst he
  exact ⟨_, rfl, _, _, _, [], _, [], hW', trodAll_mk1 (shut_bool Try.underlying4 _), (trodAll_cons_mk (Below.trod sealCut_laid (by kernel_rfl) (of_decide_eq_true (by kernel_rfl)) h0 bel lt0) (trodAll_cons_mk (Below.trod sealCut_laid (by kernel_rfl) (of_decide_eq_true (by kernel_rfl)) h1 bel lt1) (trodAll_cons_mk (shut_int Try.underlying3 g2) trodAll_mk0))), rfl, bel.frame _, fun h => by cases h⟩
theorem sealCut_over : Rows.sealCutRow.holds Try.pinned (OpenSpec.ofChange Rows.sealCutSpec) :=
  OpenClaim.holds_of_wide 9 Try.f9 rfl rfl rfl rfl rfl rfl rfl ⟨rfl, rfl, rfl, rfl, rfl⟩ rfl rfl rfl rfl rfl (by kernel_rfl) Try.func9 (by kernel_rfl)
    (of_decide_eq_true (by kernel_rfl)) (by unfold Func.isWrapper; first | (rw [if_pos (by decide +kernel)]; kernel_rfl) | (rw [if_neg (by decide +kernel)]; exact ⟨rfl, rfl⟩))
    (fun os started H enc _ => sealCut_lifted os started H enc)
/-- The row, for the claim. -/
theorem sealCut_holds : Rows.SealCutSaid := sealCut_over
#print axioms sealCut_holds
end Go.Proofs.Ytekhmkfiepnnkaa
