/- seal.put: a number into bytes of a row of one's own. -/
import Derived.Test.YtekhmkfiepnnkaaSealA
set_option linter.unusedVariables false
set_option linter.unusedSimpArgs false
namespace Go.Proofs.Ytekhmkfiepnnkaa
open Go.RowKit Go.Proofs.YtekhmkfiepnnkaaW.PrintWords Go.Proofs.YtekhmkfiepnnkaaW.PrintMore

/-- A block of memory holds these bytes. -/
def BU (w : World) (g : Nat) (T : TypeId) (ys : List Int) : Prop := w.heap[g]? = some (.cells (nums .u8 ys).toArray T (0, 0))
theorem BU.cell {w : World} {g T : Nat} {ys : List Int} (h : BU w g T ys) {k : Nat} (hk : k < ys.length) : w.cell? ⟨g, k, none⟩ = some (.int .u8 ys[k]) := by
  have := cell_of_row w g k _ _ _ h
  rw [this]
  simp [nums, hk]
theorem BU.free {w : World} {g T : Nat} {ys : List Int} (h : BU w g T ys) (k : Nat) : w.frozen? ⟨g, k, none⟩ = false := frozen_of_row w g k _ _ h
theorem BU.set {w : World} {g T : Nat} {ys : List Int} (h : BU w g T ys) (k : Nat) (x : Int) : BU (w.setCell ⟨g, k, none⟩ (.int .u8 x)) g T (ys.set k x) := by
  have := heap_setCell_same w g k _ _ (.int .u8 x) h
  unfold BU
  rw [this]
  simp [nums, List.map_set]
theorem BU.step {w w1 : World} {g T : Nat} {ys : List Int} (h : BU w g T ys) (hm : w1.heap[g]? = w.heap[g]?) : BU w1 g T ys := hm.trans h
theorem BU.lt {w : World} {g T : Nat} {ys : List Int} (h : BU w g T ys) : g < w.heap.size := blk_lt h
theorem splice_cons {L vs : List Int} {off : Nat} (v : Int) (h : off + 1 + vs.length ≤ L.length) : (splice L (off + 1) vs).set off v = splice L off (v :: vs) := by
  unfold splice
  have h1 : (L.take (off + 1)).length = off + 1 := by rw [List.length_take]; omega
  rw [List.set_append_left _ _ (by omega), List.take_succ_eq_append_getElem (by omega), List.set_append_right _ _ (by rw [List.length_take]; omega)]
  have h2 : off - (L.take off).length = 0 := by rw [List.length_take]; omega
  rw [h2]
  simp [Nat.add_assoc, Nat.add_comm 1]
theorem be_drop_cons {n : Int} {m j : Nat} (h0 : 0 < j) (hj : j ≤ m) : (be n m).drop (j - 1) = (n / 2 ^ (8 * (m - j)) % 256) :: (be n m).drop j := by
  have hl : j - 1 < (be n m).length := by rw [be_length]; omega
  rw [List.drop_eq_getElem_cons hl, show j - 1 + 1 = j from by omega]
  congr 1
  simp only [be, List.getElem_map, List.getElem_range]
  congr 3
  omega
set_option maxRecDepth 100000 in
theorem put_any {w : World} {g off m c : Nat} {T : TypeId} {ys : List Int} {n : Int} (hn : 0 ≤ n ∧ n < 18446744073709551616) (hB : BU w g T ys) (hl : off + m ≤ ys.length) (hm8 : m ≤ 8) :
  Calls Try.prog 83 #[.slice (some ⟨g, off, none⟩) m c, .int .u64 n] w fun e w' => e = .returned (.tuple #[]) ∧ BU w' g T (splice ys off (be n m)) ∧ Chg (fun k => k = g) w w' := by
  go_enter Try.func83, Try.ntmps83
  go_wp2_with fail
  go_loopw [1, 4] (fun v i wr => ∃ j : Nat, j ≤ m ∧ i = .int .i64 ((j : Int) - 1) ∧ v = .int .u64 (n / 2 ^ (8 * (m - j))) ∧ BU wr g T (splice ys (off + j) ((be n m).drop j)) ∧ Chg (fun k => k = g) w wr) (fun _ i _ => ((intOf i) + 1).toNat)
  case atStart => exact ⟨m, Nat.le_refl _, rfl, by simp, by rw [List.drop_of_length_le (by rw [be_length]; omega)]; simpa [splice] using hB, Chg.refl _ _⟩
  case round =>
    obtain ⟨j, hj, rfl, rfl, hb, hc⟩ := hrel
    by_cases h0 : j = 0
    · subst h0
      rw [List.drop_zero, Nat.add_zero] at hb
      go_wp2
      go_end0
      exact ⟨rfl, hb, hc⟩
    · obtain ⟨i, rfl⟩ : ∃ i, j = i + 1 := ⟨j - 1, by omega⟩
      have hN : 0 ≤ n / 2 ^ (8 * (m - (i + 1))) ∧ n / 2 ^ (8 * (m - (i + 1))) < 18446744073709551616 := by
        have hp : (0 : Int) < 2 ^ (8 * (m - (i + 1))) := Int.pow_pos (by decide)
        exact ⟨Int.ediv_nonneg hn.1 (Int.le_of_lt hp), Int.lt_of_le_of_lt (Int.ediv_le_self _ hn.1) hn.2⟩
      have hnext : n / 2 ^ (8 * (m - (i + 1))) / 256 = n / 2 ^ (8 * (m - i)) := by
        have e : 8 * (m - i) = 8 * (m - (i + 1)) + 8 := by omega
        rw [e, Int.pow_add, ← Int.ediv_ediv_of_nonneg (Int.pow_nonneg (by decide))]
        rfl
      have hd := be_drop_cons (n := n) (m := m) (j := i + 1) (by omega) hj
      rw [Nat.add_sub_cancel] at hd
      have hls : (splice ys (off + (i + 1)) ((be n m).drop (i + 1))).length = ys.length := length_splice _ _ _ (by rw [List.length_drop, be_length]; omega)
      obtain ⟨z, hc1⟩ : ∃ z, wr.cell? ⟨g, off + i, none⟩ = some (.int .u8 z) := ⟨_, hb.cell (k := off + i) (by rw [hls]; omega)⟩
      have hf1 := hb.free (off + i)
      have hb2 := hb.set (off + i) (n / 2 ^ (8 * (m - (i + 1))) % 256)
      rw [← Nat.add_assoc, splice_cons _ (by rw [List.length_drop, be_length]; omega), ← hd] at hb2
      have hc2 : Chg (fun k => k = g) w (wr.setCell ⟨g, off + i, none⟩ (.int .u8 (n / 2 ^ (8 * (m - (i + 1))) % 256))) := hc.setCell (p := ⟨g, off + i, none⟩) (.inl rfl) _
      have HF := hid (And.intro hb2 hc2)
      clear hb hb2 hc hc2 hls hd
      generalize hNN : n / 2 ^ (8 * (m - (i + 1))) = N at hN hnext HF
      have hwr := IntKind.wrap_u8 N
      have hlt : (i : Int) < (m : Int) := by omega
      have hi0 : ((i + 1 : Nat) : Int) - 1 = i := by omega
      have hge : ¬ ((i : Int) < 0) := by omega
      rw [hi0]
      go_wp2
      go_roundw
      case rel => exact ⟨i, by omega, rfl, rfl, HF.out⟩
      case measure => simp [intOf]
end Go.Proofs.Ytekhmkfiepnnkaa
