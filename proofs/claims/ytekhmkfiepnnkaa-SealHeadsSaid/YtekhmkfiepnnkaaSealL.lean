/- seal.Read: the reading. -/
import Derived.Test.YtekhmkfiepnnkaaSealK
set_option linter.unusedVariables false
set_option linter.unusedSimpArgs false
namespace Go.Proofs.Ytekhmkfiepnnkaa
open Go.RowKit Go.Proofs.YtekhmkfiepnnkaaW.PrintWords Go.Proofs.YtekhmkfiepnnkaaW.PrintMore
attribute [local go_sem] min_two

theorem read_okI {w : World} {ok : Nat → Prop} {p : Nat} {D : DM} (j : Nat) (i : Int) (h : PDisk w ok p D) (hij : i = (j : Int)) (hr : D.ready j = 0) (hi : j < D.n) :
  Calls Try.prog 35 #[.pointer (some ⟨p, 0, none⟩), .int .i64 i] w fun e w' => e = .returned (.tuple #[.slice (some ⟨w.heap.size, 0, none⟩) 64 64, .int .i64 0]) ∧ w' = w.alloc (.cells (nums .u8 (D.blk j)).toArray 125) := by
  subst hij
  exact read_ok j h hr hi
theorem headN_in (b : List Int) (h : Bytes b) : 0 ≤ headN b ∧ headN b ≤ 131072 ∧ (headR b).bytes.length = min (headN b).toNat 47 := by
  unfold headN headR
  split
  · rename_i hh
    have h0 := numAt_lt h (i := 13) (n := 4) (by have := hh.1; omega)
    refine ⟨h0.1, hh.2.2.2.1, ?_⟩
    dsimp only
    rw [part_len (by have := hh.1; unfold headM; omega)]
    rfl
  · simp
theorem hasK_le (n k : Nat) : hasK n k ≤ 50 := Nat.min_le_right _ _
theorem blk_part_len {D : DM} (h : D.wf) {i m : Nat} (hi : i < D.n) (hm : m ≤ 50) : (((D.blk i).drop 14).take m).length = m := part_len (by rw [blk_length h hi]; omega)
theorem bytesK_len {D : DM} (h : D.wf) {b0 n : Nat} (hn : (headR (D.blk b0)).bytes.length = min n 47) : ∀ k, b0 + k < D.n → (bytesK D b0 n k).length = min n (47 + 50 * k)
  | 0, _ => hn
  | k + 1, hk => by
    simp only [bytesK, List.length_append]
    rw [bytesK_len h hn k (by omega), blk_part_len h hk (hasK_le n k)]
    unfold hasK
    omega
theorem bodiesN_lt {n k : Nat} : k < bodiesN n ↔ 47 + 50 * k < n := by unfold bodiesN; omega
theorem need_bodiesN {n : Nat} (h : n ≤ 131072) : need (n : Int) = (bodiesN n : Int) + 1 := by
  unfold need bodiesN
  rw [if_neg (by omega)]
  split <;> omega
theorem readV_in {D : DM} {b a e : Nat} (gen : Int) (hE : readE D b e a = 0) (hae : b + a < e) : readV D b e gen a =
    if headOK (D.blk (b + a)) ∧ (headR (D.blk (b + a))).gen = gen ∧ (headR (D.blk (b + a))).at_ = a ∧ need (headN (D.blk (b + a))) ≤ (e : Int) - b - a ∧
      ((List.range (bodiesN (headN (D.blk (b + a))).toNat)).all (goodK D (b + a) (headN (D.blk (b + a))).toNat gen a)) = true then
      some ⟨gen, a, (headR (D.blk (b + a))).kind, bytesK D (b + a) (headN (D.blk (b + a))).toNat (bodiesN (headN (D.blk (b + a))).toNat)⟩ else none := by
  unfold readV
  rw [show ((b : Int) + (a : Int)).toNat = b + a from by omega]
  have h1 : (a : Int) < (e : Int) - (b : Int) := by omega
  simp only [hE, h1, true_and]
/-- A record's block holds them. -/
structure RdIn (w wr : World) (rb : Nat) (g a kd : Int) (A : Option Addr) (c : Nat) (xs : List Int) : Prop where
  z : wr.heap[w.heap.size]? = some (.cells #[.int .u64 0, .int .i64 0, .int .i64 0, .slice none 0 0] 25 (0, 0))
  r : wr.heap[rb]? = some (.cells #[.int .u64 g, .int .i64 a, .int .i64 kd, .slice A xs.length c] 25 (0, 0))
  row : KB.R 5 wr w.heap.size (fun q => w.heap.size ≤ q) (.slice A xs.length c) xs
  le : xs.length ≤ c
  bel : Below w.heap.size w wr
theorem RdIn.below {w wr w' : World} {rb : Nat} {g a kd : Int} {A : Option Addr} {c : Nat} {xs : List Int} (h : RdIn w wr rb g a kd A c xs) (hb : Below wr.heap.size wr w') : RdIn w w' rb g a kd A c xs :=
  ⟨(hb.block _ (blk_lt h.z)).trans h.z, (hb.block _ (blk_lt h.r)).trans h.r, Kd.R_below h.row hb, h.le, h.bel.trans (hb.mono h.bel.size)⟩
theorem RdIn.end_ {w wr : World} {rb : Nat} {g a kd : Int} {A : Option Addr} {c : Nat} {xs : List Int} (h : RdIn w wr rb g a kd A c xs) (hrb : w.heap.size < rb) {v : Value} (hv : v = .tuple #[.agg #[.int .u64 g, .int .i64 a, .int .i64 kd, .slice A xs.length c], .bool true, .int .i64 0]) :
    ReadPost (some ⟨g, a, kd, xs⟩) 0 w (.returned v) (W4s wr w.heap.size (.int .u64 g) (.int .i64 a) (.int .i64 kd) (.slice A xs.length c)) := by
  refine ⟨A, c, by rw [hv]; rfl, ?_, h.le, below4 h.bel (Nat.le_refl _) _ _ _ _⟩
  refine Kd.R_mono (Kd.R_step (Kd.R_types h.row h.z (by decide)) (fun k hk _ => ?_)) (fun k hk => hk.1)
  unfold W4s
  rw [Below.heap_setCell _ _ _ _ hk.2, Below.heap_setCell _ _ _ _ hk.2, Below.heap_setCell _ _ _ _ hk.2, Below.heap_setCell _ _ _ _ hk.2]
theorem all_range {n : Nat} {f : Nat → Bool} {k : Nat} (hk : k < n) (hf : f k = false) : (List.range n).all f = false := by
  rw [List.all_eq_false]
  exact ⟨k, List.mem_range.2 hk, by rw [hf]; simp⟩
theorem all_range_true {n : Nat} {f : Nat → Bool} (hf : ∀ k, k < n → f k = true) : (List.range n).all f = true := List.all_eq_true.2 (fun k hk => hf k (List.mem_range.1 hk))
def GoodTo (D : DM) (b0 n : Nat) (gen at_ : Int) (k : Nat) : Prop := ∀ i, i < k → goodK D b0 n gen at_ i = true
set_option maxRecDepth 100000 in
set_option maxHeartbeats 4000000 in
theorem read_inD {w : World} {ok : Nat → Prop} {p : Nat} {D : DM} (h : PDisk w ok p D) (b a e : Nat) (gen : Int) (hg : D.gone = false) (he : e ≤ D.n) (hae : b + a < e) :
  Calls Try.prog 29 #[.pointer (some ⟨p, 0, none⟩), .int .i64 (b : Nat), .int .i64 (e : Nat), .int .u64 gen, .int .i64 (a : Nat)] w (ReadPost (readV D b e gen a) 0 w) := by
  have hn := h.1.hi
  have hRE : regE D (b : Int) (e : Int) = 0 := by unfold regE; rw [if_neg (by omega), if_neg (by simp [hg])]
  have hE : readE D b e a = 0 := by unfold readE; rw [if_neg (by omega), hRE]
  have hV := readV_in gen hE hae
  have hB0 : Below w.heap.size w (w.alloc (.cells #[.int .u64 0, .int .i64 0, .int .i64 0, .slice none 0 0] 25)) := below_alloc (Below.refl _ _) _
  have h0 := h.step (w1 := w.alloc (.cells #[.int .u64 0, .int .i64 0, .int .i64 0, .slice none 0 0] 25)) (fun k _ hk => hB0.block k hk)
  have hB := blocks_any h0
  have hR := region_any h0 (b : Int) (e : Int)
  rw [hRE] at hR
  have hX := blk_length h.1 (i := b + a) (by omega)
  have hXb := blk_bytes h.1 (b + a)
  have hrd := fun i hi => read_okI (b + a) i h0 hi (ready_in hg (by omega)) (by omega)
  obtain ⟨hN1, hN2, hN3⟩ := headN_in _ hXb
  have hBL := bytesK_len h.1 hN3
  obtain ⟨n, hNn⟩ := Int.eq_ofNat_of_zero_le hN1
  rw [hNn] at hN2
  have hNt : (headN (D.blk (b + a))).toNat = n := by rw [hNn]; simp
  rw [hNt] at hV hN3 hBL
  rw [hNn] at hV
  have n1 : ¬ (b : Int) < 0 := by omega
  have n2 : ¬ (e : Int) < (b : Int) := by omega
  have n3 : ¬ (D.n : Int) < (e : Int) := by omega
  have n4 : ¬ (a : Int) < 0 := by omega
  have n5 : ¬ (e : Int) - (b : Int) ≤ (a : Int) := by omega
  have hw1 : IntKind.i64.wrap ((e : Int) - (b : Int)) = (e : Int) - (b : Int) := by rw [IntKind.wrap_i64]; omega
  have hw2 : IntKind.i64.wrap ((b : Int) + (a : Int)) = (b : Int) + (a : Int) := by rw [IntKind.wrap_i64]; omega
  have hn131 : n ≤ 131072 := by omega
  have HX := hid hX
  have HBL := hid hBL
  have HB0 := hid hB0
  have hRb : (headR (D.blk (b + a))).bytes = bytesK D (b + a) n 0 := rfl
  have HV := hid hV
  have HNn := hid hNn
  clear hE hRE hX hBL hB0 hV hNt hNn hN1
  generalize hVV : readV D b e gen a = VV at HV ⊢
  clear hVV
  go_enter Try.func29, Try.ntmps29
  go_wp2_with (first | (go_at_call 65; refine hB.mono ?_; rintro e w' ⟨rfl, rfl⟩) | (go_at_call 67; refine hR.mono ?_; rintro e w' ⟨rfl, rfl⟩))
  refine (hrd _ (by omega)).mono ?_
  rintro e0 w1 ⟨rfl, hw1e⟩
  have hz1 : w1.heap[w.heap.size]? = some (.cells #[.int .u64 0, .int .i64 0, .int .i64 0, .slice none 0 0] 25 (0, 0)) := by rw [hw1e, Below.heap_alloc _ _ _ (by simp)]; exact headR_zero
  have hBw1 : Below w.heap.size w w1 := by rw [hw1e]; exact HB0.out.alloc HB0.out.size _
  have hRB : RB w1 (fun k => k = w.heap.size + 1) (some ⟨w.heap.size + 1, 0, none⟩) (D.blk (b + a)) := by
    rw [hw1e]
    have := RB_new (w.alloc (.cells #[.int .u64 0, .int .i64 0, .int .i64 0, .slice none 0 0] 25)) 125 (D.blk (b + a)) (by rw [HX.out]; omega)
    rw [World.size_alloc] at this
    exact this
  clear hrd hw1e hB hR h0
  have hh := head_any (c := 64) hRB hXb (by rw [HX.out]; omega)
  rw [HX.out] at hh
  go_wp2_with fail
  refine hh.mono ?_
  rintro e0 w2 ⟨A, c, rfl, hR2, hle, hB2⟩
  clear hh hRB
  rw [HNn.out]
  unfold recV
  obtain ⟨R, hRR⟩ : ∃ R, headR (D.blk (b + a)) = R := ⟨_, rfl⟩
  rw [hRR] at hR2 hle hN3 ⊢
  have HV2 := HV.out
  rw [hRR] at HV2
  have HV3 := hid HV2
  have HRb : Hid (R.bytes = bytesK D (b + a) n 0) := hid (by rw [← hRb, hRR])
  clear HV2 HV hRR hRb HX
  obtain ⟨rg, ra, rk, rb⟩ := R
  dsimp only at hR2 hle hN3 HV3 HRb ⊢
  have HN3 := hid hN3
  clear hN3
  obtain ⟨ib, hib⟩ : ∃ ib, decide (headOK (D.blk (b + a))) = ib := ⟨_, rfl⟩
  rw [hib]
  have HIB := hid hib
  clear hib
  have hz2 := (hB2.block _ (blk_lt hz1)).trans hz1
  have hBw2 : Below w.heap.size w w2 := hBw1.trans (hB2.mono hBw1.size)
  have hRd0 : RdIn w (w2.alloc (.cells #[.int .u64 rg, .int .i64 ra, .int .i64 rk, .slice A rb.length c] 25)) w2.heap.size rg ra rk A c rb :=
    ⟨(Below.heap_alloc w2 _ _ (blk_lt hz2)).trans hz2, heap_alloc_new w2 _, Kd.R_alloc (Kd.R_lower (Kd.R_mono hR2 (fun k hk => by have := hBw1.size; omega)) hBw1.size) _, hle, below_alloc hBw2 _⟩
  have hrbn : w.heap.size < w2.heap.size := blk_lt hz2
  go_upto_region 12 with (fail)
  clear hB2 hBw2 hz2 hz1 hR2
  generalize w2.alloc (.cells #[.int .u64 rg, .int .i64 ra, .int .i64 rk, .slice A rb.length c] 25) = w3 at hRd0 ⊢
  generalize w2.heap.size = rx at hRd0 hrbn ⊢
  have hz := hRd0.z
  have hbel := hRd0.bel
  have z0 := cell_of_row _ _ 0 _ _ _ hz
  have z1 := cell_of_row _ _ 1 _ _ _ hz
  have z2 := cell_of_row _ _ 2 _ _ _ hz
  have z3 := cell_of_row _ _ 3 _ _ _ hz
  have f0 := frozen_of_row _ _ 0 _ _ hz
  have f1 := frozen_of_row _ _ 1 _ _ hz
  have f2 := frozen_of_row _ _ 2 _ _ hz
  have f3 := frozen_of_row _ _ 3 _ _ hz
  have q0 := cell_of_row _ _ 0 _ _ _ hRd0.r
  have q1 := cell_of_row _ _ 1 _ _ _ hRd0.r
  have q2 := cell_of_row _ _ 2 _ _ _ hRd0.r
  have q3 := cell_of_row _ _ 3 _ _ _ hRd0.r
  simp at z0 z1 z2 z3 q0 q1 q2 q3
  cases ib with
  | false =>
    have hno : VV = none := by rw [HV3.out, if_neg]; rintro ⟨hh, _⟩; have := HIB.out; rw [decide_eq_true hh] at this; cases this
    clear HV3 hRd0
    subst hno
    go_wp2
    (refine bodyPost_ret (results_ctt rfl _ _ w.heap.size 25 _ _ _ rfl (set4 hz (.int .u64 0) (.int .i64 0) (.int .i64 0) (.slice none 0 0)) Try.underlying25 rfl (by kernel_rfl)) rfl ?_; exact readpost_none rfl (below4 hbel (Nat.le_refl _) _ _ _ _))
  | true =>
    have hOK : headOK (D.blk (b + a)) := of_decide_eq_true HIB.out
    clear HIB
    by_cases t1 : rg = gen
    case neg =>
      have hno : VV = none := by rw [HV3.out, if_neg]; rintro ⟨_, hh, _⟩; exact t1 hh
      have t1a : (rg == gen) = false := by simpa using t1
      have t1b : (rg != gen) = true := by simpa using t1
      clear HV3 hRd0 hOK
      subst hno
      go_wp2
      (refine bodyPost_ret (results_ctt rfl _ _ w.heap.size 25 _ _ _ rfl (set4 hz (.int .u64 0) (.int .i64 0) (.int .i64 0) (.slice none 0 0)) Try.underlying25 rfl (by kernel_rfl)) rfl ?_; exact readpost_none rfl (below4 hbel (Nat.le_refl _) _ _ _ _))
    subst t1
    by_cases t2 : ra = (a : Int)
    case neg =>
      have hno : VV = none := by rw [HV3.out, if_neg]; rintro ⟨_, _, hh, _⟩; exact t2 hh
      have t2a : (ra == (a : Int)) = false := by simpa using t2
      have t2b : (ra != (a : Int)) = true := by simpa using t2
      clear HV3 hRd0 hOK
      subst hno
      go_wp2
      (refine bodyPost_ret (results_ctt rfl _ _ w.heap.size 25 _ _ _ rfl (set4 hz (.int .u64 0) (.int .i64 0) (.int .i64 0) (.slice none 0 0)) Try.underlying25 rfl (by kernel_rfl)) rfl ?_; exact readpost_none rfl (below4 hbel (Nat.le_refl _) _ _ _ _))
    subst t2
    have hw3 : IntKind.i64.wrap ((e : Int) - (b : Int) - (a : Int)) = (e : Int) - (b : Int) - (a : Int) := by rw [IntKind.wrap_i64]; omega
    have hnd := fun W => need_any (w := W) (n : Int) (by omega)
    rw [need_bodiesN hn131] at hnd HV3
    by_cases t3 : (e : Int) - (b : Int) - (a : Int) < (bodiesN n : Int) + 1
    · have hno : VV = none := by rw [HV3.out, if_neg]; rintro ⟨_, _, _, hh, _⟩; omega
      clear HV3 hRd0 hOK
      subst hno
      go_wp2_with (go_at_call 26; refine (hnd _).mono ?_; rintro e0 w' ⟨rfl, rfl⟩)
      (refine bodyPost_ret (results_ctt rfl _ _ w.heap.size 25 _ _ _ rfl (set4 hz (.int .u64 0) (.int .i64 0) (.int .i64 0) (.slice none 0 0)) Try.underlying25 rfl (by kernel_rfl)) rfl ?_; exact readpost_none rfl (below4 hbel (Nat.le_refl _) _ _ _ _))
    have hbn : b + a + (bodiesN n + 1) ≤ e := by omega
    have hRd1 : RdIn w w3 rx rg a rk A c (bytesK D (b + a) n 0) := by rw [← HRb.out]; exact hRd0
    have HV : Hid (VV = if (List.range (bodiesN n)).all (goodK D (b + a) n rg a) = true then some ⟨rg, a, rk, bytesK D (b + a) n (bodiesN n)⟩ else none) := hid (by
      rw [HV3.out]
      by_cases hq : (List.range (bodiesN n)).all (goodK D (b + a) n rg a) = true
      · rw [if_pos hq, if_pos ⟨hOK, rfl, rfl, by omega, hq⟩]
      · rw [if_neg hq, if_neg (fun hh => hq hh.2.2.2.2)])
    clear HV3 hRd0 HRb HN3 hOK z0 z1 z2 z3 f0 f1 f2 f3 q3 hz hbel hle
    go_wp2_with (go_at_call 26; refine (hnd _).mono ?_; rintro e0 w' ⟨rfl, rfl⟩)
    clear q0 q1 q2 hnd
    have hbN : bodiesN n ≤ 4096 := by omega
    go_loopw [19] (fun kk wr => ∃ (k : Nat) (A1 : Option Addr) (c1 : Nat), k ≤ bodiesN n ∧ kk = .int .i64 ((k : Int) + 1) ∧ RdIn w wr rx rg a rk A1 c1 (bytesK D (b + a) n k) ∧ GoodTo D (b + a) n rg a k) (fun kk _ => bodiesN n + 1 - (intOf kk).toNat)
    case atStart => exact ⟨0, A, c, Nat.zero_le _, rfl, hRd1, fun i hi => absurd hi (by omega)⟩
    case round =>
      obtain ⟨k, A1, c1, hk, rfl, hI, hgood⟩ := hrel
      clear hRd1
      have hxl := HBL.out k (by omega)
      obtain ⟨xs, hxs⟩ : ∃ xs, bytesK D (b + a) n k = xs := ⟨_, rfl⟩
      rw [hxs] at hI hxl
      have HXS := hid hxs
      clear hxs
      have q3 := cell_of_row _ _ 3 _ _ _ hI.r
      simp at q3
      by_cases hlt : k < bodiesN n
      · have h47 := bodiesN_lt.1 hlt
        have hlen : xs.length < n := by omega
        have HXL := hid hxl
        clear hxl
        have hPD := h.step (w1 := wr) (fun j _ hj => hI.bel.block j hj)
        have hrd := fun i hi => read_okI (b + a + (k + 1)) i hPD hi (ready_in hg (by omega)) (by omega)
        have hX := blk_length h.1 (i := b + a + (k + 1)) (by omega)
        have hXb2 := blk_bytes h.1 (b + a + (k + 1))
        have HX := hid hX
        clear hX
        have hw4 : IntKind.i64.wrap ((b : Int) + (a : Int) + ((k : Int) + 1)) = (b : Int) + (a : Int) + ((k : Int) + 1) := by rw [IntKind.wrap_i64]; omega
        go_wp2_with fail
        refine (hrd _ (by omega)).mono ?_
        rintro e0 w4 ⟨rfl, hw4e⟩
        have hRB : RB w4 (fun q => q = wr.heap.size) (some ⟨wr.heap.size, 0, none⟩) (D.blk (b + a + (k + 1))) := by rw [hw4e]; exact RB_new _ _ _ (by rw [HX.out]; omega)
        have hI4 := hI.below (w' := w4) (by rw [hw4e]; exact below_alloc (Below.refl _ _) _)
        clear hw4e hrd hPD hI
        have hbd := body_any (c := 64) hRB hXb2 (by rw [HX.out]; omega)
        rw [HX.out] at hbd
        obtain ⟨V, hVe⟩ : ∃ V, bodyV (D.blk (b + a + (k + 1))) = V := ⟨_, rfl⟩
        have hgk : goodK D (b + a) n rg a k = (decide (V = (rg, (a : Int), ((k + 1 : Nat) : Int), true)) && blank ((D.blk (b + a + (k + 1))).drop (14 + hasK n k))) := by unfold goodK; rw [hVe]
        rw [hVe] at hbd
        clear hVe
        obtain ⟨vg, va, vk, vi⟩ := V
        unfold bodyT at hbd
        dsimp only at hbd
        have hm50 := hasK_le n k
        have hmx : hasK n k = min (n - xs.length) 50 := by unfold hasK; rw [show xs.length = 47 + 50 * k from by have := HXL.out; omega]
        have HBAD : Hid (goodK D (b + a) n rg a k = false → VV = none) := hid (fun hf => by rw [HV.out, all_range hlt hf]; rfl)
        have hpartl := part_len (b := D.blk (b + a + (k + 1))) (i := 14) (n := hasK n k) (by rw [HX.out]; omega)
        have hnext : xs ++ ((D.blk (b + a + (k + 1))).drop 14).take (hasK n k) = bytesK D (b + a) n (k + 1) := by rw [← HXS.out]; rfl
        have HNX := hid hnext
        have HPL := hid hpartl
        have HMX := hid hmx
        clear hnext hpartl hmx
        generalize hasK n k = m at hgk hm50 HNX HPL HMX
        have HGK := hid hgk
        clear hgk
        go_wp2_with fail
        refine hbd.mono ?_
        rintro e0 w5 ⟨rfl, hB5⟩
        clear hbd
        have hI5 := hI4.below hB5
        have hRB5 := RB_below hRB hB5
        clear hI4 q3
        have hz := hI5.z
        have hbel := hI5.bel
        have z0 := cell_of_row _ _ 0 _ _ _ hz
        have z1 := cell_of_row _ _ 1 _ _ _ hz
        have z2 := cell_of_row _ _ 2 _ _ _ hz
        have z3 := cell_of_row _ _ 3 _ _ _ hz
        have f0 := frozen_of_row _ _ 0 _ _ hz
        have f1 := frozen_of_row _ _ 1 _ _ hz
        have f2 := frozen_of_row _ _ 2 _ _ hz
        have f3 := frozen_of_row _ _ 3 _ _ hz
        have q3 := cell_of_row _ _ 3 _ _ _ hI5.r
        have qf3 := frozen_of_row _ _ 3 _ _ hI5.r
        simp at z0 z1 z2 z3 q3
        have hmin : Builtin.min2 (.int .i64 ((n : Int) - (xs.length : Int))) (.int .i64 50) = pure (.int .i64 (m : Int)) := by
          have hmm := HMX.out
          rw [min2_int]
          congr 2
          split <;> omega
        cases vi with
        | false =>
          have hno : VV = none := HBAD.out (by rw [HGK.out, decide_eq_false (by simp)]; rfl)
          clear HBAD HGK HV hI5
          subst hno
          go_wp2
          (refine bodyPost_ret (results_ctt rfl _ _ w.heap.size 25 _ _ _ rfl (set4 hz (.int .u64 0) (.int .i64 0) (.int .i64 0) (.slice none 0 0)) Try.underlying25 rfl (by kernel_rfl)) rfl ?_; exact readpost_none rfl (below4 hbel (Nat.le_refl _) _ _ _ _))
        | true =>
          by_cases t1 : vg = rg
          case neg =>
            have hno : VV = none := HBAD.out (by rw [HGK.out, decide_eq_false (by simp [t1])]; rfl)
            have t1a : (vg == rg) = false := by simpa using t1
            have t1b : (vg != rg) = true := by simpa using t1
            clear HBAD HGK HV hI5
            subst hno
            go_wp2
            (refine bodyPost_ret (results_ctt rfl _ _ w.heap.size 25 _ _ _ rfl (set4 hz (.int .u64 0) (.int .i64 0) (.int .i64 0) (.slice none 0 0)) Try.underlying25 rfl (by kernel_rfl)) rfl ?_; exact readpost_none rfl (below4 hbel (Nat.le_refl _) _ _ _ _))
          subst t1
          by_cases t2 : va = (a : Int)
          case neg =>
            have hno : VV = none := HBAD.out (by rw [HGK.out, decide_eq_false (by simp [t2])]; rfl)
            have t2a : (va == (a : Int)) = false := by simpa using t2
            have t2b : (va != (a : Int)) = true := by simpa using t2
            clear HBAD HGK HV hI5
            subst hno
            go_wp2
            (refine bodyPost_ret (results_ctt rfl _ _ w.heap.size 25 _ _ _ rfl (set4 hz (.int .u64 0) (.int .i64 0) (.int .i64 0) (.slice none 0 0)) Try.underlying25 rfl (by kernel_rfl)) rfl ?_; exact readpost_none rfl (below4 hbel (Nat.le_refl _) _ _ _ _))
          subst t2
          by_cases t3 : vk = (k : Int) + 1
          case neg =>
            have hno : VV = none := HBAD.out (by rw [HGK.out, decide_eq_false (by simp; omega)]; rfl)
            have t3a : (vk == (k : Int) + 1) = false := by simpa using t3
            have t3b : (vk != (k : Int) + 1) = true := by simpa using t3
            clear HBAD HGK HV hI5
            subst hno
            go_wp2
            (refine bodyPost_ret (results_ctt rfl _ _ w.heap.size 25 _ _ _ rfl (set4 hz (.int .u64 0) (.int .i64 0) (.int .i64 0) (.slice none 0 0)) Try.underlying25 rfl (by kernel_rfl)) rfl ?_; exact readpost_none rfl (below4 hbel (Nat.le_refl _) _ _ _ _))
          subst t3
          have hbl := blank_tail (a := ⟨wr.heap.size, 0, none⟩) (m := 14 + m) hRB hB5 HX.out (by omega) (Nat.le_refl 64)
          have htn : (14 + (m : Int)).toNat = 14 + m := by omega
          have him : (14 : Int) + (m : Int) ≤ 64 := by omega
          have h14 : (14 : Int) ≤ 14 + (m : Int) := by omega
          have h014 : (0 : Int) ≤ 14 + (m : Int) := by omega
          have hwm : IntKind.i64.wrap (14 + (m : Int)) = 14 + (m : Int) := by rw [IntKind.wrap_i64]; omega
          obtain ⟨bl, hblE⟩ : ∃ bl, blank ((D.blk (b + a + (k + 1))).drop (14 + m)) = bl := ⟨_, rfl⟩
          rw [hblE] at hbl
          have HBK := hid hblE
          clear hblE
          have BL : ∀ (V : Value), V = .slice (behind (some ⟨wr.heap.size, 0, none⟩) (14 + m) 64) (64 - (14 + m)) (64 - (14 + m)) → Calls Try.prog 60 #[V] w5 fun e w' => e = .returned (.bool bl) ∧ w' = w5 := fun V e => by rw [e]; exact hbl
          clear hbl
          by_cases hcm : 64 = 14 + m
          · obtain rfl : m = 50 := by omega
            clear hwm h14 h014 him htn hcm
            go_wp2_with fail
            refine (BL _ ?_).mono ?_
            · unfold behind
              rw [if_pos rfl]
            rintro e0 w6 ⟨rfl, rfl⟩
            clear BL
            cases bl with
            | false =>
              have hno : VV = none := HBAD.out (by rw [HGK.out, HBK.out]; simp)
              clear HBAD HGK HV hI5
              subst hno
              go_wp2
              (refine bodyPost_ret (results_ctt rfl _ _ w.heap.size 25 _ _ _ rfl (set4 hz (.int .u64 0) (.int .i64 0) (.int .i64 0) (.slice none 0 0)) Try.underlying25 rfl (by kernel_rfl)) rfl ?_; exact readpost_none rfl (below4 hbel (Nat.le_refl _) _ _ _ _))
            | true =>
              have hRow := hI5.row
              have hpart := part (i := 14) (n := 50) hRB5 (by rw [HX.out]; omega)
              have hRm : ReadsInt w6.drew .u8 (some (Addr.add ⟨wr.heap.size, 0, none⟩ 14)) 50 (((D.blk (b + a + (k + 1))).drop 14).take 50) := by
                have := RB_int (RB_drew hpart)
                rwa [HPL.out] at this
              have hgood1 : GoodTo D (b + a) n vg a (k + 1) := fun i hi => by
                rcases Nat.lt_or_ge i k with h1 | h1
                · exact hgood i h1
                · obtain rfl : i = k := by omega
                  rw [HGK.out, HBK.out]
                  simp
              have HG1 := hid hgood1
              clear hgood1 hgood HGK HBAD HBK
              have hne : some rx ≠ (Value.slice A1 xs.length c1).ownBlock := Kd.R_ne hRow hI5.r (by decide)
              have hnz : some w.heap.size ≠ (Value.slice A1 xs.length c1).ownBlock := Kd.R_ne hRow hI5.z (by decide)
              go_wp2_with fail
              refine wp_region_plan [7, 8] (.take 0 (.take 1 (.take 2 (.take 3 (.take 4 (.take 5 (.run 6 (.tail 7 (.tail 8 .done))))))))) (fun W' => W'.cell? ⟨rx, 3, none⟩ = some (.slice A1 xs.length c1)) (by kernel_rfl) (by kernel_rfl) (fun c a d v w h => by cases d <;> exact h) q3 ?_
              iterate 6 (apply plan_take rfl rfl; (case hy => (intro w' hS; go_simp; try exact rfl)); go_simp)
              refine plan_run_on rfl rfl (fun K hK => ?_)
              refine step_append_row (w0 := w) w.heap.size (.tmp 158) (.tmp 162) 22 5 .u8 1 rfl Try.underlying22 info_u8 (by decide) _ xs (((D.blk (b + a + (k + 1))).drop 14).take 50) (some (Addr.add ⟨wr.heap.size, 0, none⟩ 14)) 50 50 rfl rfl (R_own1 (Kd.R_drew hRow)) hRm hI5.bel.drew hI5.bel.drew.size (by omega) ?_
              intro v1 w7 ho hB6 hg6 hat
              have hR6 : KB.R 5 w7 w.heap.size (fun q => w.heap.size ≤ q) v1 (xs ++ ((D.blk (b + a + (k + 1))).drop 14).take 50) := Rown ho (fun q hq => own_base ho q hq)
              rw [HNX.out] at hR6
              obtain ⟨A6, c6, rfl, hle6, _⟩ := Kd.R_reads hR6
              have hr6 := (hg6.block rx (blk_lt hI5.r) (fun e => hne e)).trans hI5.r
              have hz6 := (hg6.block w.heap.size (blk_lt hI5.z) (fun e => hnz e)).trans hI5.z
              clear ho hg6 hat hRm hpart hne hnz hRow hRB5 hRB
              have p3 := cell_of_row _ _ 3 _ _ _ hr6
              have pf3 := frozen_of_row _ _ 3 _ _ hr6
              simp at p3
              refine hK _ _ _ (fun _ h => h) p3 ?_
              clear hK K
              go_simp
              refine plan_tail_on rfl rfl (fun K hK => ?_)
              go_simp
              refine hK _ _ ?_
              clear hK K
              refine plan_tail_on rfl rfl (fun K hK => ?_)
              go_simp
              refine hK _ _ (plan_done ?_)
              clear hK K
              have hI7 : RdIn w (w7.setCell ⟨rx, 3, none⟩ (.slice A6 (bytesK D (b + a) n (k + 1)).length c6)) rx vg a rk A6 c6 (bytesK D (b + a) n (k + 1)) :=
                ⟨(Below.heap_setCell w7 ⟨rx, 3, none⟩ _ w.heap.size (by show w.heap.size ≠ rx; omega)).trans hz6, heap_setCell_same w7 rx 3 _ _ _ hr6, Kd.R_set hR6 hr6 (by decide) 3 _, hle6, hB6.setCell (p := ⟨rx, 3, none⟩) (by show w.heap.size ≤ rx; omega) _⟩
              have HI7 := hid hI7
              clear hI7 hR6 hr6 hz6 hle6 p3 pf3 q3 qf3 z0 z1 z2 z3 f0 f1 f2 f3 hz hbel hI5 hmin
              go_wp2
              go_roundw
              case rel => exact ⟨k + 1, A6, c6, by omega, by go_num, HI7.out, HG1.out⟩
              case measure => simp [intOf]; omega
          · go_wp2_with fail
            refine (BL _ ?_).mono ?_
            · unfold behind
              rw [if_neg hcm]
              simp [Addr.add]
            rintro e0 w6 ⟨rfl, rfl⟩
            clear BL
            cases bl with
            | false =>
              have hno : VV = none := HBAD.out (by rw [HGK.out, HBK.out]; simp)
              clear HBAD HGK HV hI5
              subst hno
              go_wp2
              (refine bodyPost_ret (results_ctt rfl _ _ w.heap.size 25 _ _ _ rfl (set4 hz (.int .u64 0) (.int .i64 0) (.int .i64 0) (.slice none 0 0)) Try.underlying25 rfl (by kernel_rfl)) rfl ?_; exact readpost_none rfl (below4 hbel (Nat.le_refl _) _ _ _ _))
            | true =>
              have hRow := hI5.row
              have hpart := part (i := 14) (n := m) hRB5 (by rw [HX.out]; omega)
              have hRm : ReadsInt w6.drew .u8 (some (Addr.add ⟨wr.heap.size, 0, none⟩ 14)) m (((D.blk (b + a + (k + 1))).drop 14).take m) := by
                have := RB_int (RB_drew hpart)
                rwa [HPL.out] at this
              have hgood1 : GoodTo D (b + a) n vg a (k + 1) := fun i hi => by
                rcases Nat.lt_or_ge i k with h1 | h1
                · exact hgood i h1
                · obtain rfl : i = k := by omega
                  rw [HGK.out, HBK.out]
                  simp
              have HG1 := hid hgood1
              clear hgood1 hgood HGK HBAD HBK
              have hne : some rx ≠ (Value.slice A1 xs.length c1).ownBlock := Kd.R_ne hRow hI5.r (by decide)
              have hnz : some w.heap.size ≠ (Value.slice A1 xs.length c1).ownBlock := Kd.R_ne hRow hI5.z (by decide)
              go_wp2_with fail
              refine wp_region_plan [7, 8] (.take 0 (.take 1 (.take 2 (.take 3 (.take 4 (.take 5 (.run 6 (.tail 7 (.tail 8 .done))))))))) (fun W' => W'.cell? ⟨rx, 3, none⟩ = some (.slice A1 xs.length c1)) (by kernel_rfl) (by kernel_rfl) (fun c a d v w h => by cases d <;> exact h) q3 ?_
              have hwm2 : IntKind.i64.wrap (14 + (m : Int)) = 14 + (m : Int) := by rw [IntKind.wrap_i64]; omega
              have h142 : (14 : Int) ≤ 14 + (m : Int) := by omega
              have h0142 : (0 : Int) ≤ 14 + (m : Int) := by omega
              have htn2 : (14 + (m : Int)).toNat = 14 + m := by omega
              iterate 6 (apply plan_take rfl rfl; (case hy => (intro w' hS; go_simp; try exact rfl)); go_simp)
              refine plan_run_on rfl rfl (fun K hK => ?_)
              refine step_append_row (w0 := w) w.heap.size (.tmp 158) (.tmp 162) 22 5 .u8 1 rfl Try.underlying22 info_u8 (by decide) _ xs (((D.blk (b + a + (k + 1))).drop 14).take m) (some (Addr.add ⟨wr.heap.size, 0, none⟩ 14)) m 50 rfl rfl (R_own1 (Kd.R_drew hRow)) hRm hI5.bel.drew hI5.bel.drew.size (by omega) ?_
              intro v1 w7 ho hB6 hg6 hat
              have hR6 : KB.R 5 w7 w.heap.size (fun q => w.heap.size ≤ q) v1 (xs ++ ((D.blk (b + a + (k + 1))).drop 14).take m) := Rown ho (fun q hq => own_base ho q hq)
              rw [HNX.out] at hR6
              obtain ⟨A6, c6, rfl, hle6, _⟩ := Kd.R_reads hR6
              have hr6 := (hg6.block rx (blk_lt hI5.r) (fun e => hne e)).trans hI5.r
              have hz6 := (hg6.block w.heap.size (blk_lt hI5.z) (fun e => hnz e)).trans hI5.z
              clear ho hg6 hat hRm hpart hne hnz hRow hRB5 hRB
              have p3 := cell_of_row _ _ 3 _ _ _ hr6
              have pf3 := frozen_of_row _ _ 3 _ _ hr6
              simp at p3
              refine hK _ _ _ (fun _ h => h) p3 ?_
              clear hK K
              go_simp
              refine plan_tail_on rfl rfl (fun K hK => ?_)
              go_simp
              refine hK _ _ ?_
              clear hK K
              refine plan_tail_on rfl rfl (fun K hK => ?_)
              go_simp
              refine hK _ _ (plan_done ?_)
              clear hK K
              have hI7 : RdIn w (w7.setCell ⟨rx, 3, none⟩ (.slice A6 (bytesK D (b + a) n (k + 1)).length c6)) rx vg a rk A6 c6 (bytesK D (b + a) n (k + 1)) :=
                ⟨(Below.heap_setCell w7 ⟨rx, 3, none⟩ _ w.heap.size (by show w.heap.size ≠ rx; omega)).trans hz6, heap_setCell_same w7 rx 3 _ _ _ hr6, Kd.R_set hR6 hr6 (by decide) 3 _, hle6, hB6.setCell (p := ⟨rx, 3, none⟩) (by show w.heap.size ≤ rx; omega) _⟩
              have HI7 := hid hI7
              clear hI7 hR6 hr6 hz6 hle6 p3 pf3 q3 qf3 z0 z1 z2 z3 f0 f1 f2 f3 hz hbel hI5 hmin
              go_wp2
              go_roundw
              case rel => exact ⟨k + 1, A6, c6, by omega, by go_num, HI7.out, HG1.out⟩
              case measure => simp [intOf]; omega
      · obtain rfl : k = bodiesN n := by omega
        have hge : n ≤ xs.length := by have := bodiesN_lt (n := n) (k := bodiesN n); omega
        have hge2 : ¬ xs.length < n := by omega
        have HXL := hid hxl
        have hyes : VV = some ⟨rg, a, rk, xs⟩ := by
          rw [HV.out, if_pos (all_range_true (fun i hi => hgood i hi)), HXS.out]
        have hz := hI.z
        have z0 := cell_of_row _ _ 0 _ _ _ hz
        have z1 := cell_of_row _ _ 1 _ _ _ hz
        have z2 := cell_of_row _ _ 2 _ _ _ hz
        have z3 := cell_of_row _ _ 3 _ _ _ hz
        have f0 := frozen_of_row _ _ 0 _ _ hz
        have f1 := frozen_of_row _ _ 1 _ _ hz
        have f2 := frozen_of_row _ _ 2 _ _ hz
        have f3 := frozen_of_row _ _ 3 _ _ hz
        have q0 := cell_of_row _ _ 0 _ _ _ hI.r
        have q1 := cell_of_row _ _ 1 _ _ _ hI.r
        have q2 := cell_of_row _ _ 2 _ _ _ hI.r
        simp at z0 z1 z2 z3 q0 q1 q2
        have HI := hid hI
        clear hxl HV hgood hI
        subst hyes
        go_wp2
        refine bodyPost_ret (results_ctt rfl _ _ w.heap.size 25 _ _ _ rfl (set4 hz (.int .u64 rg) (.int .i64 a) (.int .i64 rk) (.slice A1 xs.length c1)) Try.underlying25 rfl (by kernel_rfl)) rfl ?_
        exact HI.out.end_ hrbn rfl
end Go.Proofs.Ytekhmkfiepnnkaa
