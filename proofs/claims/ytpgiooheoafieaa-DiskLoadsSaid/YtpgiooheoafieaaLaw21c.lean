/- Package foundrylaw21: laid of anything, alive. -/
import Derived.Test.YtpgiooheoafieaaLaw21b
set_option linter.unusedVariables false
set_option linter.unusedSimpArgs false
namespace Go.Proofs.Ytpgiooheoafieaa
open Go.RowKit Go.Proofs.YtpgiooheoafieaaW.PrintWords

set_option maxRecDepth 100000 in
theorem laid_nil {w : World} {c : Nat} (n : Int) :
  Calls Try.prog 23 #[.slice none 0 c, .int .i64 n] w fun e w' => ∃ c', e = .returned (.slice (some ⟨w.heap.size, 0, none⟩) 1024 c') ∧ KB.R 5 w' w.heap.size (fun q => w.heap.size ≤ q) (.slice (some ⟨w.heap.size, 0, none⟩) 1024 c') (List.replicate 1024 0) ∧ Below w.heap.size w w' := by
  have hmk : ∀ W : World, (Instr.makeSlice 29 (.int .i64 1024) (.int .i64 1024)).run Try.prog W = .ok (.slice (some ⟨W.heap.size, 0, none⟩) 1024 1024) (W.alloc (.cells (madeCells #[.int .u8 0] 1024) 5)) := make_bytes 1024 (by omega)
  have hR : KB.R 5 (w.alloc (.cells (madeCells #[.int .u8 0] 1024) 5)) w.heap.size (fun q => w.heap.size ≤ q) (.slice (some ⟨w.heap.size, 0, none⟩) 1024 1024) (List.replicate 1024 0) := by
    have h := own_made w w.heap.size 5 .u8 1024 (Nat.le_refl _) (by omega)
    have hl : (List.replicate 1024 (0 : Int)).length = 1024 := List.length_replicate
    exact Rown (by rw [hl]; exact h) (fun q hq => by rw [← ob_eq hq]; omega)
  go_enter Try.func23, Try.ntmps23
  go_wp2
  go_loopw [6] (fun i wr => i = .int .i64 0 ∧ wr = w.alloc (.cells (madeCells #[.int .u8 0] 1024) 5)) (fun i _ => 0)
  case atStart => exact ⟨rfl, rfl⟩
  case round =>
    obtain ⟨rfl, rfl⟩ := hrel
    go_wp2
    go_ret
    exact ⟨_, rfl, hR, below_alloc (Below.refl _ _) _⟩
theorem laid_any {w : World} {base : Nat} {ok : Nat → Prop} {A : Option Addr} {c : Nat} {l : List (Int × List Int)} (n : Int) (h : KW.R 92 w base ok (.slice A l.length c) l) (hl : l.length ≤ 140737488351232) (hf : Fit 16 l) (hn : n ≤ 9223372036854775807) :
  Calls Try.prog 23 #[.slice A l.length c, .int .i64 n] w fun e w' => ∃ A' c', e = .returned (.slice A' 1024 c') ∧ KB.R 5 w' w.heap.size (fun q => w.heap.size ≤ q) (.slice A' 1024 c') (lay (List.replicate 1024 0) (l.take n.toNat)) ∧ Below w.heap.size w w' := by
  have hA : (A = none ∧ l = []) ∨ ∃ g, A = some ⟨g, 0, none⟩ := by
    obtain ⟨_, _, ho, _⟩ := h
    rcases ho.2 with ⟨e, h0⟩ | ⟨g, _, _, e, _⟩
    · injection e with e1 e2 e3
      exact .inl ⟨e1, List.eq_nil_of_length_eq_zero h0⟩
    · injection e with e1
      exact .inr ⟨g, e1⟩
  rcases hA with ⟨rfl, rfl⟩ | ⟨g, rfl⟩
  · refine (laid_nil n).mono ?_
    rintro e w' ⟨c', rfl, hR, hb⟩
    exact ⟨_, c', rfl, by rw [List.take_nil]; exact hR, hb⟩
  · refine (laid_some n h hl hf hn).mono ?_
    rintro e w' ⟨c', rfl, hR, hb⟩
    exact ⟨_, c', rfl, hR, hb⟩

/-! ### alive: a closed run -/
def B7 : List Int := 7 :: List.replicate 63 0
def al1 : DM := (DM.new 16).cut 1
def al2 : DM := al1.writeD 3 B7
def al3 : DM := al2.writeD 4 B7
def al4 : DM := { al3 with left := -1, gone := false }
theorem al_facts : al1.writeE 3 B7 = 0 ∧ al2.writeE 4 B7 = 61 ∧ al3.gone = true ∧ al4.ready 3 = 0 ∧ al4.blk 3 = B7 ∧ al4.ws.length = 1 ∧ al1.ws.length = 0 ∧ al2.ws.length = 1 ∧ al4.n = 16 := by decide +kernel
theorem B7_bytes : Bytes B7 := by unfold Bytes; decide
set_option maxRecDepth 100000 in
set_option maxHeartbeats 1000000 in
theorem alive21 {w : World} : Calls Try.prog 18 #[] w fun e w' => e = .returned (.bool true) ∧ Below w.heap.size w w' := by
  have hmk : ∀ W : World, (Instr.makeSlice 29 (.int .i64 64) (.int .i64 64)).run Try.prog W = .ok (.slice (some ⟨W.heap.size, 0, none⟩) 64 64) (W.alloc (.cells (madeCells #[.int .u8 0] 64) 5)) := make_bytes 64 (by omega)
  have hm0 : (madeCells #[Value.int .u8 0] 64)[0]? = some (.int .u8 0) := by kernel_rfl
  obtain ⟨f1, f2, f3, f4, f5, f6, f7, f8, f9⟩ := al_facts
  go_enter Try.func18, Try.ntmps18
  go_wp2_with fail
  refine (new_ok 16 (by omega) (by omega)).mono ?_
  rintro e w1 ⟨rfl, h1, b1⟩
  go_wp2_with fail
  refine (cut_any 1 h1 (by omega)).mono ?_
  rintro e w2 ⟨rfl, h2, c2⟩
  go_wp2_with fail
  have hB7 : (madeCells #[Value.int .u8 0] 64).setIfInBounds 0 (.int .u8 7) = (nums .u8 B7).toArray := by kernel_rfl
  rw [hB7]
  have s2 : w.heap.size ≤ w2.heap.size := Nat.le_trans b1.size c2.size
  have hb3 := below_alloc (Below.refl w2.heap.size w2) (.cells (nums .u8 B7).toArray 5)
  have hF3 := RB_new w2 5 B7 (by decide)
  have h3 := h2.bound.step (w1 := w2.alloc (.cells (nums .u8 B7).toArray 5)) (fun k _ hlt => hb3.block k hlt)
  have hne : apart (fun k => k = w2.heap.size) (fun k => w.heap.size ≤ k ∧ k < w2.heap.size) := fun k hk h => by omega
  refine (write_any 3 h3 hF3 hne B7_bytes (by decide)).mono ?_
  have hs3 : (w2.alloc (.cells (nums .u8 B7).toArray 5)).heap.size = w2.heap.size + 1 := by simp
  generalize w2.alloc (.cells (nums .u8 B7).toArray 5) = w3 at hb3 hF3 h3 hs3 ⊢
  rintro e w4 ⟨rfl, h4, c4⟩
  have e4 : DM.writeE ((DM.new 16).cut 1) 3 B7 = 0 := f1
  rw [e4]
  have hF4 := RB_step hF3 c4 hne
  have s4 := c4.size
  go_wp2_with fail
  have hne4 : apart (fun k => k = w2.heap.size) (orNew (fun k => w.heap.size ≤ k ∧ k < w2.heap.size) w3) := fun k hk h => by rcases h with h | h <;> omega
  refine (write_any 4 h4 hF4 hne4 B7_bytes (by decide)).mono ?_
  rintro e w5 ⟨rfl, h5, c5⟩
  have e5 : DM.writeE (DM.writeD ((DM.new 16).cut 1) 3 B7) 4 B7 = 61 := f2
  rw [e5]
  have s5 := c5.size
  go_wp2_with fail
  refine (dead_any h5).mono ?_
  rintro e w6 ⟨rfl, rfl⟩
  have e6 : (DM.writeD (DM.writeD ((DM.new 16).cut 1) 3 B7) 4 B7).gone = true := f3
  rw [e6]
  go_wp2_with fail
  refine (on_any h5).mono ?_
  rintro e w7 ⟨rfl, h7, c7⟩
  have s7 := c7.size
  go_wp2_with fail
  refine (read_ok 3 h7 f4 (by have := f9; show 3 < al4.n; omega)).mono ?_
  rintro e w8 ⟨rfl, rfl⟩
  have e8 : DM.blk { DM.writeD (DM.writeD ((DM.new 16).cut 1) 3 B7) 4 B7 with left := -1, gone := false } 3 = B7 := f5
  rw [e8]
  have hb8 := below_alloc (Below.refl w7.heap.size w7) (.cells (nums .u8 B7).toArray 126)
  have h8 := h7.bound.step (w1 := w7.alloc (.cells (nums .u8 B7).toArray 126)) (fun k _ hlt => hb8.block k hlt)
  have hcell : (w7.alloc (.cells (nums .u8 B7).toArray 126)).cell? ⟨w7.heap.size, 0, none⟩ = some (.int .u8 7) := by
    rw [cell_of_row _ _ 0 _ _ _ (heap_alloc_new w7 _)]; rfl
  generalize w7.alloc (.cells (nums .u8 B7).toArray 126) = w9 at hb8 h8 hcell ⊢
  go_wp2_with fail
  refine (count_any h8).mono ?_
  rintro e w10 ⟨rfl, rfl⟩
  have e10 : (DM.writeD (DM.writeD ((DM.new 16).cut 1) 3 B7) 4 B7).ws.length = 1 := f6
  simp only [e10]
  have t2 : Chg none_ w w2 := (Chg.of_below b1 none_).then_ c2 (fun k hk => .inr hk)
  have t4 := (t2.same hb3).then_ c4 (fun k hk => .inr hk.1)
  have t5 := t4.then_ c5 (fun k hk => .inr (by rcases hk with hk | hk <;> omega))
  have t7 := t5.then_ c7 (fun k hk => .inr (by rcases hk with (hk | hk) | hk <;> omega))
  have t9 := (t7.same hb8).below0
  clear hmk hm0 f1 f2 f3 f4 f5 f6 f7 f8 f9 e4 e5 e6 e8
  go_wp2
  go_ret
  exact ⟨rfl, t9⟩
end Go.Proofs.Ytpgiooheoafieaa
