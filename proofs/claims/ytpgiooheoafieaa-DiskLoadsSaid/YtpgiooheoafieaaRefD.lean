/- The document's disk (package foundryref21): what its memory says of a disk 'D', and what its small methods do to it. -/
import Derived.Test.YtpgiooheoafieaaDiskC
import Derived.Test.YtpgiooheoafieaaLaw21a
set_option linter.unusedVariables false
set_option linter.unusedSimpArgs false
namespace Go.Proofs.Ytpgiooheoafieaa
open Go.RowKit Go.Proofs.YtpgiooheoafieaaW.PrintWords

/-- The document's disk: p the struct's block, g the bytes', wv the recorded writes. -/
structure RDb (w : World) (ok : Nat → Prop) (p : Nat) (D : DM) (g cap : Nat) (wv : Value) : Prop where
  okp : ok p
  okg : ok g
  blk : w.heap[p]? = some (.cells #[.slice (some ⟨g, 0, none⟩) D.b.length cap, .bool D.gone, .int .i64 D.left, wv] 87 (0, 0))
  row : w.ownsRow 0 5 1 (.slice (some ⟨g, 0, none⟩) D.b.length cap) D.b.length (nums .u8 D.b)
  ws : KW.R 131 w 0 (fun k => ok k ∧ k ≠ g) wv D.ws
def RDisk (w : World) (ok : Nat → Prop) (p : Nat) (D : DM) : Prop := D.wf ∧ ∃ g cap wv, RDb w ok p D g cap wv
namespace RDb
variable {w w1 : World} {ok ok' : Nat → Prop} {p : Nat} {D : DM} {g cap : Nat} {wv : Value}
theorem ne_pg (h : RDb w ok p D g cap wv) : p ≠ g := by
  obtain ⟨c, hc⟩ := own_typed h.row g rfl
  exact blk_type_ne h.blk hc (by decide)
theorem ne_pw (h : RDb w ok p D g cap wv) : some p ≠ wv.ownBlock := fun e => by
  obtain ⟨_, _, ho, _⟩ := h.ws
  obtain ⟨c, hc⟩ := own_typed ho p e.symm
  exact blk_type_ne h.blk hc (by decide) rfl
theorem ne_gw (h : RDb w ok p D g cap wv) : some g ≠ wv.ownBlock := fun e => by
  obtain ⟨_, _, ho, _⟩ := h.ws
  obtain ⟨c, hc⟩ := own_typed ho g e.symm
  obtain ⟨c', hc'⟩ := own_typed h.row g rfl
  exact blk_type_ne hc' hc (by decide) rfl
theorem mono (h : RDb w ok p D g cap wv) (hs : ∀ k, ok k → ok' k) : RDb w ok' p D g cap wv := ⟨hs _ h.okp, hs _ h.okg, h.blk, h.row, Kd.R_mono h.ws (fun k hk => ⟨hs k hk.1, hk.2⟩)⟩
theorem bound (h : RDb w ok p D g cap wv) : RDb w (fun k => ok k ∧ k < w.heap.size) p D g cap wv :=
  ⟨⟨h.okp, blk_lt h.blk⟩, ⟨h.okg, own_lt h.row g rfl⟩, h.blk, h.row, Kd.R_mono (Kd.R_bound h.ws) (fun _ hk => ⟨⟨hk.1.1, hk.2.2.1⟩, hk.1.2⟩)⟩
theorem step (h : RDb w ok p D g cap wv) (hm : ∀ k, ok k → k < w.heap.size → w1.heap[k]? = w.heap[k]?) : RDb w1 ok p D g cap wv :=
  ⟨h.okp, h.okg, (hm p h.okp (blk_lt h.blk)).trans h.blk, own_move h.row (fun k hk => (by rw [← ob_eq hk]; exact hm _ h.okg (own_lt h.row _ rfl))), Kd.R_step h.ws (fun k hk => hm k hk.1)⟩
theorem below (h : RDb w ok p D g cap wv) (hb : Below w.heap.size w w1) : RDb w1 ok p D g cap wv := h.step (fun k _ hk => hb.block k hk)
theorem drew (h : RDb w ok p D g cap wv) : RDb w.drew ok p D g cap wv := h.step (fun _ _ _ => rfl)
theorem cell0 (h : RDb w ok p D g cap wv) : w.cell? ⟨p, 0, none⟩ = some (.slice (some ⟨g, 0, none⟩) D.b.length cap) := by rw [cell_of_row w p 0 _ _ _ h.blk]; rfl
theorem cell1 (h : RDb w ok p D g cap wv) : w.cell? ⟨p, 1, none⟩ = some (.bool D.gone) := by rw [cell_of_row w p 1 _ _ _ h.blk]; rfl
theorem cell2 (h : RDb w ok p D g cap wv) : w.cell? ⟨p, 2, none⟩ = some (.int .i64 D.left) := by rw [cell_of_row w p 2 _ _ _ h.blk]; rfl
theorem cell3 (h : RDb w ok p D g cap wv) : w.cell? ⟨p, 3, none⟩ = some wv := by rw [cell_of_row w p 3 _ _ _ h.blk]; rfl
theorem free (h : RDb w ok p D g cap wv) (j : Nat) : w.frozen? ⟨p, j, none⟩ = false := frozen_of_row w p j _ _ h.blk
theorem setP (h : RDb w ok p D g cap wv) (j : Nat) (u : Value) : (w.setCell ⟨p, j, none⟩ u).ownsRow 0 5 1 (.slice (some ⟨g, 0, none⟩) D.b.length cap) D.b.length (nums .u8 D.b) ∧ KW.R 131 (w.setCell ⟨p, j, none⟩ u) 0 (fun k => ok k ∧ k ≠ g) wv D.ws :=
  ⟨own_move h.row (fun k hk => (by rw [← ob_eq hk]; exact Below.heap_setCell w _ u _ (fun e => h.ne_pg e.symm))), Kd.R_set h.ws h.blk (by decide) j u⟩
theorem setLeft (h : RDb w ok p D g cap wv) (l : Int) : RDb (w.setCell ⟨p, 2, none⟩ (.int .i64 l)) ok p { D with left := l } g cap wv :=
  ⟨h.okp, h.okg, heap_setCell_same w p 2 _ _ _ h.blk, (h.setP 2 _).1, (h.setP 2 _).2⟩
theorem setGone (h : RDb w ok p D g cap wv) (l : Bool) : RDb (w.setCell ⟨p, 1, none⟩ (.bool l)) ok p { D with gone := l } g cap wv :=
  ⟨h.okp, h.okg, heap_setCell_same w p 1 _ _ _ h.blk, (h.setP 1 _).1, (h.setP 1 _).2⟩
theorem close {u : Value} {l : List (Int × List Int)} (hp : ok p) (hg : ok g)
    (hb : w.heap[p]? = some (.cells #[.slice (some ⟨g, 0, none⟩) D.b.length cap, .bool D.gone, .int .i64 D.left, wv] 87 (0, 0)))
    (hr : w.ownsRow 0 5 1 (.slice (some ⟨g, 0, none⟩) D.b.length cap) D.b.length (nums .u8 D.b)) (hR : KW.R 131 w 0 (fun k => ok k ∧ k ≠ g) u l) :
    RDb (w.setCell ⟨p, 3, none⟩ u) ok p { D with ws := l } g cap u := by
  have hne : g ≠ p := by
    obtain ⟨c, hc⟩ := own_typed hr g rfl
    exact blk_type_ne hc hb (by decide)
  exact ⟨hp, hg, heap_setCell_same w p 3 _ _ _ hb, own_move hr (fun k hk => (by rw [← ob_eq hk]; exact Below.heap_setCell w _ u _ hne)), Kd.R_set hR hb (by decide) 3 u⟩
/-- A byte is stored. -/
theorem setByte (h : RDb w ok p D g cap wv) (j : Nat) (x : Int) : RDb (w.setCell ⟨g, j, none⟩ (.int .u8 x)) ok p { D with b := D.b.set j x } g cap wv := by
  have hn : (D.b.set j x).length = D.b.length := List.length_set
  refine ⟨h.okp, h.okg, ?_, ?_, Kd.R_far h.ws (fun k hk => hk.2) _⟩
  · show (w.setCell ⟨g, j, none⟩ (.int .u8 x)).heap[p]? = some (.cells #[.slice (some ⟨g, 0, none⟩) (D.b.set j x).length cap, .bool D.gone, .int .i64 D.left, wv] 87 (0, 0))
    rw [hn]
    exact (Below.heap_setCell w _ _ _ h.ne_pg).trans h.blk
  · show (w.setCell ⟨g, j, none⟩ (.int .u8 x)).ownsRow 0 5 1 (.slice (some ⟨g, 0, none⟩) (D.b.set j x).length cap) (D.b.set j x).length (nums .u8 (D.b.set j x))
    rw [hn]
    have := (own_store h.row (j : Int) x).1
    simpa using this
end RDb
theorem RDisk.mono {w : World} {ok ok' : Nat → Prop} {p : Nat} {D : DM} (h : RDisk w ok p D) (hs : ∀ k, ok k → ok' k) : RDisk w ok' p D := by
  obtain ⟨hw, g, cap, wv, h⟩ := h
  exact ⟨hw, g, cap, wv, h.mono hs⟩
theorem RDisk.bound {w : World} {ok : Nat → Prop} {p : Nat} {D : DM} (h : RDisk w ok p D) : RDisk w (fun k => ok k ∧ k < w.heap.size) p D := by
  obtain ⟨hw, g, cap, wv, h⟩ := h
  exact ⟨hw, g, cap, wv, h.bound⟩
theorem RDisk.step {w w1 : World} {ok : Nat → Prop} {p : Nat} {D : DM} (h : RDisk w ok p D) (hm : ∀ k, ok k → k < w.heap.size → w1.heap[k]? = w.heap[k]?) : RDisk w1 ok p D := by
  obtain ⟨hw, g, cap, wv, h⟩ := h
  exact ⟨hw, g, cap, wv, h.step hm⟩

theorem rblocks_any {w : World} {ok : Nat → Prop} {p : Nat} {D : DM} (h : RDisk w ok p D) :
  Calls Try.prog 80 #[.pointer (some ⟨p, 0, none⟩)] w fun e w' => e = .returned (.int .i64 D.n) ∧ w = w' := by
  obtain ⟨hwf, g, cap, wv, hb⟩ := h
  have c0 := hb.cell0
  have hq : ((D.b.length : Int)).tdiv 64 = (D.n : Int) := by unfold DM.n; rw [Int.tdiv_eq_ediv_of_nonneg (by omega)]; omega
  have HQ := hid hq
  have h1 := hwf.len
  have h2 := hwf.hi
  clear hq
  go_enter Try.func80, Try.ntmps80
  go_wp2
  go_ret
  exact ⟨rfl, rfl⟩
end Go.Proofs.Ytpgiooheoafieaa
