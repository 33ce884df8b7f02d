/- seal.region, seal.Gen. -/
import Derived.Test.YtekhmkfiepnnkaaSealH
import Derived.Test.YtekhmkfiepnnkaaDiskC
set_option linter.unusedVariables false
set_option linter.unusedSimpArgs false
namespace Go.Proofs.Ytekhmkfiepnnkaa
open Go.RowKit Go.Proofs.YtekhmkfiepnnkaaW.PrintWords Go.Proofs.YtekhmkfiepnnkaaW.PrintMore
attribute [local go_sem] max_three max2_int

/-- May a stretch be read? -/
def regE (D : DM) (base end_ : Int) : Int := if base < 0 ∨ end_ < base ∨ (D.n : Int) < end_ then 1 else if D.gone = true then 61 else 0
theorem region_nil {w : World} (base end_ : Int) : Calls Try.prog 67 #[.pointer none, .int .i64 base, .int .i64 end_] w fun e w' => e = .returned (.int .i64 2) ∧ w = w' := by
  go_enter Try.func67, Try.ntmps67
  go_wp2
  go_ret
  exact ⟨rfl, rfl⟩
theorem region_any {w : World} {ok : Nat → Prop} {p : Nat} {D : DM} (h : PDisk w ok p D) (base end_ : Int) :
  Calls Try.prog 67 #[.pointer (some ⟨p, 0, none⟩), .int .i64 base, .int .i64 end_] w fun e w' => e = .returned (.int .i64 (regE D base end_)) ∧ w = w' := by
  have hB := blocks_any h
  have hD := dead_any h
  unfold regE
  by_cases h1 : base < 0
  · rw [if_pos (.inl h1)]
    go_enter Try.func67, Try.ntmps67
    go_wp2
    go_ret
    exact ⟨rfl, rfl⟩
  by_cases h2 : end_ < base
  · rw [if_pos (.inr (.inl h2))]
    go_enter Try.func67, Try.ntmps67
    go_wp2
    go_ret
    exact ⟨rfl, rfl⟩
  by_cases h3 : (D.n : Int) < end_
  · rw [if_pos (.inr (.inr h3))]
    go_enter Try.func67, Try.ntmps67
    go_wp2_with (go_at_call 65; refine hB.mono ?_; rintro e w' ⟨rfl, rfl⟩)
    go_ret
    exact ⟨rfl, rfl⟩
  rw [if_neg (by omega)]
  cases hg : D.gone
  all_goals
    rw [hg] at hD
    clear hg
    go_enter Try.func67, Try.ntmps67
    go_wp2_with (first | (go_at_call 65; refine hB.mono ?_; rintro e w' ⟨rfl, rfl⟩) | (go_at_call 76; refine hD.mono ?_; rintro e w' ⟨rfl, rfl⟩))
    go_ret
    exact ⟨rfl, rfl⟩

/-- The greatest generation in k blocks from b0 on. -/
def genK (D : DM) (b0 : Nat) : Nat → Int
  | 0 => 0
  | k + 1 => max (max (genK D b0 k) (headR (D.blk (b0 + k))).gen) (bodyV (D.blk (b0 + k))).1
def genM (D : DM) (base end_ : Int) : Int := if regE D base end_ = 0 then genK D base.toNat (end_ - base).toNat else 0
theorem headR_gen {b : List Int} (h : Bytes b) : 0 ≤ (headR b).gen ∧ (headR b).gen < 18446744073709551616 := by
  unfold headR
  split
  · rename_i hh
    have := numAt_lt h (i := 2) (n := 8) (by have := hh.1; omega)
    rwa [show (256 : Int) ^ 8 = 18446744073709551616 from by decide] at this
  · simp
theorem bodyV_gen {b : List Int} (h : Bytes b) : 0 ≤ (bodyV b).1 ∧ (bodyV b).1 < 18446744073709551616 := by
  unfold bodyV
  split
  · rename_i hh
    have := numAt_lt h (i := 2) (n := 8) (by have := hh.1; omega)
    rwa [show (256 : Int) ^ 8 = 18446744073709551616 from by decide] at this
  · simp
theorem blk_bytes {D : DM} (h : D.wf) (i : Nat) : Bytes (D.blk i) := (h.bytes.drop _).take _
theorem genK_lt {D : DM} (h : D.wf) (b0 : Nat) : ∀ k, 0 ≤ genK D b0 k ∧ genK D b0 k < 18446744073709551616
  | 0 => by simp [genK]
  | k + 1 => by
    have h1 := genK_lt h b0 k
    have h2 := headR_gen (blk_bytes h (b0 + k))
    have h3 := bodyV_gen (blk_bytes h (b0 + k))
    simp only [genK]
    omega
theorem regE_ok {D : DM} {base end_ : Int} (h : regE D base end_ = 0) : 0 ≤ base ∧ base ≤ end_ ∧ end_ ≤ D.n ∧ D.gone = false := by
  unfold regE at h
  split at h
  · simp at h
  · split at h
    · simp at h
    · rename_i h1 h2; exact ⟨by omega, by omega, by omega, by simpa using h2⟩
theorem ready_in {D : DM} {i : Nat} (hg : D.gone = false) (hi : i < D.n) : D.ready i = 0 := by
  unfold DM.ready
  rw [if_neg (by simp [hg]), if_neg (by omega)]
theorem gen_err {w : World} {ok : Nat → Prop} {p : Nat} {D : DM} (h : PDisk w ok p D) (base end_ : Int) (he : ¬ regE D base end_ = 0) :
  Calls Try.prog 23 #[.pointer (some ⟨p, 0, none⟩), .int .i64 base, .int .i64 end_] w fun e w' => e = .returned (.tuple #[.int .u64 0, .int .i64 (regE D base end_)]) ∧ w = w' := by
  have hr := region_any h base end_
  generalize regE D base end_ = E at he hr ⊢
  have he2 : (E != 0) = true := by simpa using he
  go_enter Try.func23, Try.ntmps23
  go_wp2_with (go_at_call 67; refine hr.mono ?_; rintro e w' ⟨rfl, rfl⟩)
  go_ret2
  exact ⟨rfl, rfl⟩
theorem gen_nil {w : World} (base end_ : Int) :
  Calls Try.prog 23 #[.pointer none, .int .i64 base, .int .i64 end_] w fun e w' => e = .returned (.tuple #[.int .u64 0, .int .i64 2]) ∧ w = w' := by
  go_enter Try.func23, Try.ntmps23
  go_wp2_with (go_at_call 67; refine (region_nil _ _).mono ?_; rintro e w' ⟨rfl, rfl⟩)
  go_ret2
  exact ⟨rfl, rfl⟩
set_option maxRecDepth 100000 in
set_option maxHeartbeats 2000000 in
theorem gen_ok {w : World} {ok : Nat → Prop} {p : Nat} {D : DM} (h : PDisk w ok p D) (b m : Nat) (hg : D.gone = false) (hm : b + m ≤ D.n) :
  Calls Try.prog 23 #[.pointer (some ⟨p, 0, none⟩), .int .i64 (b : Nat), .int .i64 (b + m : Nat)] w fun e w' => e = .returned (.tuple #[.int .u64 (genK D b m), .int .i64 0]) ∧ Below w.heap.size w w' := by
  have hr := region_any h (b : Int) ((b + m : Nat) : Int)
  rw [show regE D (b : Int) ((b + m : Nat) : Int) = 0 from by unfold regE; rw [if_neg (by omega), if_neg (by simp [hg])]] at hr
  have hn := h.1.hi
  obtain ⟨n, hnn⟩ : ∃ n, b + m = n := ⟨_, rfl⟩
  rw [hnn] at hr ⊢
  have hn9 : n ≤ 4096 := by omega
  have HN := hid hnn
  go_enter Try.func23, Try.ntmps23
  go_wp2_with (go_at_call 67; refine hr.mono ?_; rintro e w' ⟨rfl, rfl⟩)
  go_loopw [9, 10] (fun v i wr => ∃ j : Nat, b ≤ j ∧ j ≤ n ∧ i = .int .i64 j ∧ v = .int .u64 (genK D b (j - b)) ∧ Below w.heap.size w wr) (fun _ i _ => n - (intOf i).toNat)
  case atStart => exact ⟨b, Nat.le_refl _, by omega, rfl, by rw [Nat.sub_self]; rfl, Below.refl _ _⟩
  case round =>
    obtain ⟨j, hbj, hj, rfl, rfl, hB⟩ := hrel
    by_cases hlt : j < n
    · have hPD := h.step (w1 := wr) (fun k _ hk => hB.block k hk)
      have hrd := read_ok j hPD (ready_in hg (by omega)) (by omega)
      have hl := blk_length h.1 (i := j) (by omega)
      have hbb := blk_bytes h.1 j
      have hk0 := genK_lt h.1 b (j - b)
      have hk1 := headR_gen hbb
      have hk2 := bodyV_gen hbb
      have hnext : genK D b (j + 1 - b) = max (max (genK D b (j - b)) (headR (D.blk j)).gen) (bodyV (D.blk j)).1 := by
        rw [show j + 1 - b = (j - b) + 1 from by omega]
        simp only [genK]
        rw [show b + (j - b) = j from by omega]
      have HX := hid hnext
      clear hnext hnn
      have hlw : (j : Int) < (n : Int) := by omega
      have HL := hid hl
      clear hl
      go_wp2_with fail
      refine hrd.mono ?_
      rintro e w1 ⟨rfl, hw1⟩
      have hRB : RB w1 (fun k => k = wr.heap.size) (some ⟨wr.heap.size, 0, none⟩) (D.blk j) := by rw [hw1]; exact RB_new _ _ _ (by rw [HL.out]; omega)
      have hB1 : Below w.heap.size w w1 := by rw [hw1]; exact below_alloc hB _
      clear hw1 hrd hPD
      have hh := head_any (c := 64) hRB hbb (by rw [HL.out]; omega)
      rw [HL.out] at hh
      go_wp2_with fail
      refine hh.mono ?_
      rintro e w2 ⟨A, c, rfl, hRB2, hle, hB2⟩
      clear hh
      have hbd : ∀ W, Below w1.heap.size w1 W → Calls Try.prog 16 #[.slice (some ⟨wr.heap.size, 0, none⟩) 64 64] W fun e w' => e = .returned (.tuple #[.int .u64 (bodyV (D.blk j)).1, .int .i64 (bodyV (D.blk j)).2.1, .int .i64 (bodyV (D.blk j)).2.2.1, .bool (bodyV (D.blk j)).2.2.2]) ∧ Below W.heap.size W w' := fun W hW => by
        have := body_any (c := 64) (RB_below hRB hW) hbb (by rw [HL.out]; omega)
        rw [HL.out] at this
        exact this
      unfold recV
      generalize headR (D.blk j) = R at hk1 HX hRB2 hle ⊢
      generalize headN (D.blk j) = N
      generalize decide (headOK (D.blk j)) = ib
      generalize bodyV (D.blk j) = V at hbd hk2 HX
      obtain ⟨rg, ra, rk, rb⟩ := R
      obtain ⟨vg, va, vk, vi⟩ := V
      dsimp only at hk1 hk2 hbd HX hle ⊢
      have hB2' : Below w1.heap.size w1 (w2.alloc (.cells #[.int .u64 rg, .int .i64 ra, .int .i64 rk, .slice A rb.length c] 25)) := below_alloc hB2 _
      go_wp2_with fail
      refine (hbd _ hB2').mono ?_
      rintro e w3 ⟨rfl, hB3⟩
      have hc3 : w3.cell? ⟨w2.heap.size, 0, none⟩ = some (.int .u64 rg) := by rw [hB3.cell (by simp)]; go_simp
      have hBn : Below w.heap.size w w3 := hB1.trans ((hB2'.trans (hB3.mono hB2'.size)).mono hB1.size)
      clear hbd hB2' hB3 hB2 hB1 hRB hRB2 hr
      go_wp2
      go_roundw
      case rel => exact ⟨j + 1, by omega, by omega, by go_num, by rw [HX.out]; congr 1; split <;> split <;> omega, hBn⟩
      case measure => simp [intOf]; omega
    · obtain rfl : j = n := by omega
      have hjb : j - b = m := by have := HN.out; omega
      rw [hjb]
      go_wp2
      go_ret2
      exact ⟨rfl, hB⟩
end Go.Proofs.Ytekhmkfiepnnkaa
