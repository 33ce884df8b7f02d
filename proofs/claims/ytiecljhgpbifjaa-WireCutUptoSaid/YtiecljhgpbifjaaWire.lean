/- The program's writer (package wire): what its memory says of the bytes that were written; Byte, Bool, Len, Bytes. -/
import Derived.Test.YtiecljhgpbifjaaBytes
import Derived.Test.YtiecljhgpbifjaaRowStep
set_option linter.unusedVariables false
set_option linter.unusedSimpArgs false
namespace Go.Proofs.Ytiecljhgpbifjaa
open Go.RowKit Go.Proofs.YtiecljhgpbifjaaW.PrintWords

/-- A writer: p its block, bv its row. -/
structure PWb (w : World) (ok : Nat → Prop) (p : Nat) (b : List Int) (bv : Value) : Prop where
  okp : ok p
  blk : w.heap[p]? = some (.cells #[bv] 26 (0, 0))
  row : KB.R 5 w 0 (fun k => ok k ∧ k ≠ p) bv b
def PWr (w : World) (ok : Nat → Prop) (p : Nat) (b : List Int) : Prop := ∃ bv, PWb w ok p b bv
namespace PWb
variable {w w1 : World} {ok ok' : Nat → Prop} {p : Nat} {b : List Int} {bv : Value}
theorem mono (h : PWb w ok p b bv) (hs : ∀ k, ok k → ok' k) : PWb w ok' p b bv := ⟨hs _ h.okp, h.blk, Kd.R_mono h.row (fun k hk => ⟨hs k hk.1, hk.2⟩)⟩
theorem bound (h : PWb w ok p b bv) : PWb w (fun k => ok k ∧ k < w.heap.size) p b bv :=
  ⟨⟨h.okp, blk_lt h.blk⟩, h.blk, Kd.R_mono (Kd.R_bound h.row) (fun _ hk => ⟨⟨hk.1.1, hk.2.2.1⟩, hk.1.2⟩)⟩
theorem step (h : PWb w ok p b bv) (hm : ∀ k, ok k → k < w.heap.size → w1.heap[k]? = w.heap[k]?) : PWb w1 ok p b bv :=
  ⟨h.okp, (hm p h.okp (blk_lt h.blk)).trans h.blk, Kd.R_step h.row (fun k hk => hm k hk.1)⟩
theorem below (h : PWb w ok p b bv) (hb : Below w.heap.size w w1) : PWb w1 ok p b bv := h.step (fun k _ hk => hb.block k hk)
theorem cell0 (h : PWb w ok p b bv) : w.cell? ⟨p, 0, none⟩ = some bv := by rw [cell_of_row w p 0 _ _ _ h.blk]; rfl
theorem free (h : PWb w ok p b bv) (j : Nat) : w.frozen? ⟨p, j, none⟩ = false := frozen_of_row w p j _ _ h.blk
theorem close {u : Value} {c : List Int} (hp : ok p) (hb : w.heap[p]? = some (.cells #[bv] 26 (0, 0))) (hR : KB.R 5 w 0 (fun k => ok k ∧ k ≠ p) u c) : PWb (w.setCell ⟨p, 0, none⟩ u) ok p c u :=
  ⟨hp, heap_setCell_same w p 0 _ _ _ hb, Kd.R_far hR (fun k hk => hk.2) u⟩
end PWb
theorem PWr.mono {w : World} {ok ok' : Nat → Prop} {p : Nat} {b : List Int} (h : PWr w ok p b) (hs : ∀ k, ok k → ok' k) : PWr w ok' p b := by
  obtain ⟨bv, h⟩ := h
  exact ⟨bv, h.mono hs⟩
theorem PWr.bound {w : World} {ok : Nat → Prop} {p : Nat} {b : List Int} (h : PWr w ok p b) : PWr w (fun k => ok k ∧ k < w.heap.size) p b := by
  obtain ⟨bv, h⟩ := h
  exact ⟨bv, h.bound⟩
theorem PWr.step {w w1 : World} {ok : Nat → Prop} {p : Nat} {b : List Int} (h : PWr w ok p b) (hm : ∀ k, ok k → k < w.heap.size → w1.heap[k]? = w.heap[k]?) : PWr w1 ok p b := by
  obtain ⟨bv, h⟩ := h
  exact ⟨bv, h.step hm⟩
/-- The writer's new row is stored. -/
theorem PWb.stored {w w1 : World} {ok : Nat → Prop} {p : Nat} {b c : List Int} {bv v1 : Value} (h : PWb w ok p b bv) (ho : w1.ownsRow 0 5 1 v1 c.length (nums .u8 c)) (hg : w.grownBy w1 bv.ownBlock) (hat : v1.ownBlock = bv.ownBlock ∨ ∃ k, v1.ownBlock = some k ∧ w.heap.size ≤ k) :
    PWb (w1.setCell ⟨p, 0, none⟩ v1) (orNew ok w) p c v1 ∧ Chg ok w (w1.setCell ⟨p, 0, none⟩ v1) ∧ w1.cell? ⟨p, 0, none⟩ = some bv ∧ w1.frozen? ⟨p, 0, none⟩ = false := by
  have h0 := h.row.1
  have hpb : some p ≠ bv.ownBlock := fun e => (h0 p e.symm).2 rfl
  have hblk : w1.heap[p]? = some (.cells #[bv] 26 (0, 0)) := (hg.block p (blk_lt h.blk) hpb).trans h.blk
  refine ⟨PWb.close (.inl h.okp) hblk (Rown ho (fun k hk => ?_)), ((Chg.refl ok w).grown hg (fun k hk => .inl (h0 k hk).1)).setCell (.inl h.okp) _, by rw [cell_of_row w1 p 0 _ _ _ hblk]; rfl, frozen_of_row w1 p 0 _ _ hblk⟩
  rcases hat with hat | ⟨j, hj, hs⟩
  · have := h0 k (hat ▸ hk)
    exact ⟨.inl this.1, this.2⟩
  · rw [hj] at hk
    injection hk with hk
    subst hk
    have := blk_lt h.blk
    exact ⟨.inr hs, by omega⟩

theorem byte_nil {w : World} (x : Value) : Calls Try.prog 23 #[.pointer none, x] w fun e w' => e = .returned (.tuple #[]) ∧ w = w' := by
  go_enter Try.func23, Try.ntmps23
  go_wp2
  go_end0
  exact ⟨rfl, rfl⟩
set_option maxRecDepth 100000 in
theorem byte_any {w : World} {ok : Nat → Prop} {p : Nat} {b : List Int} (x : Int) (h : PWr w ok p b) (hl : b.length + 1 ≤ 140737488355328) :
  Calls Try.prog 23 #[.pointer (some ⟨p, 0, none⟩), .int .u8 x] w fun e w' => e = .returned (.tuple #[]) ∧ PWr w' (orNew ok w) p (b ++ [x]) ∧ Chg ok w w' := by
  obtain ⟨bv, h⟩ := h
  have c0 := h.cell0
  go_enter Try.func23, Try.ntmps23
  go_wp2_with (at_builtin; refine print_append_num (w0 := w) 0 rfl (.tmp 10) (.tmp 12) 24 5 .u8 1 rfl Try.underlying24 info_u8 (by decide) _ b x rfl rfl ?HO ?HB ?hb ?hl ?_)
  case HO => exact R_own1 h.row
  case HB => exact Below.refl _ _
  case hb => omega
  case hl => omega
  intro v1 w1 ho hB1 hg hat
  have ho' : w1.ownsRow 0 5 1 v1 (b ++ [x]).length (nums .u8 (b ++ [x])) := by simpa using ho
  obtain ⟨hf, hc, d0, z0⟩ := h.stored ho' hg hat
  obtain ⟨A', c', rfl⟩ := Kd.R_slice hf.row
  clear ho ho' hg hat c0
  generalize (b ++ [x]).length = L at *
  go_wp2
  go_end0
  exact ⟨rfl, ⟨_, hf⟩, hc⟩
theorem wbool_any {w : World} {ok : Nat → Prop} {p : Nat} {b : List Int} (x : Bool) (h : PWr w ok p b) (hl : b.length + 1 ≤ 140737488355328) :
  Calls Try.prog 24 #[.pointer (some ⟨p, 0, none⟩), .bool x] w fun e w' => e = .returned (.tuple #[]) ∧ PWr w' (orNew ok w) p (b ++ [if x = true then 1 else 0]) ∧ Chg ok w w' := by
  cases x with
  | true =>
    go_enter Try.func24, Try.ntmps24
    go_wp2_with fail
    refine (byte_any 1 h hl).mono ?_
    rintro e w1 ⟨rfl, h1, c1⟩
    go_wp2
    go_end0
    exact ⟨rfl, h1, c1⟩
  | false =>
    go_enter Try.func24, Try.ntmps24
    go_wp2_with fail
    refine (byte_any 0 h hl).mono ?_
    rintro e w1 ⟨rfl, h1, c1⟩
    go_wp2
    go_end0
    exact ⟨rfl, h1, c1⟩
theorem wlen_any {w : World} {ok : Nat → Prop} {p : Nat} {b : List Int} (h : PWr w ok p b) :
  Calls Try.prog 10 #[.pointer (some ⟨p, 0, none⟩)] w fun e w' => e = .returned (.int .i64 b.length) ∧ w = w' := by
  obtain ⟨bv, h⟩ := h
  obtain ⟨A', c', rfl⟩ := Kd.R_slice h.row
  have c0 := h.cell0
  go_enter Try.func10, Try.ntmps10
  go_wp2
  go_ret
  exact ⟨rfl, rfl⟩
theorem wbytes_any {w : World} {ok : Nat → Prop} {p : Nat} {b : List Int} (h : PWr w ok p b) (hl : b.length ≤ 140737488351232) :
  Calls Try.prog 11 #[.pointer (some ⟨p, 0, none⟩)] w fun e w' => ∃ A' c', e = .returned (.slice A' b.length c') ∧ KB.R 5 w' w.heap.size (fun k => w.heap.size ≤ k) (.slice A' b.length c') b ∧ Below w.heap.size w w' := by
  obtain ⟨bv, h⟩ := h
  obtain ⟨A, c, rfl, _, hC⟩ := Kd.R_reads h.row
  have c0 := h.cell0
  have hcl := clone_any (c := c) hC hl
  go_enter Try.func11, Try.ntmps11
  go_wp2_with (go_at_call 40; refine hcl.mono ?_; rintro e w1 ⟨A', c', rfl, hR, hB⟩)
  go_ret
  exact ⟨A', c', rfl, hR, hB⟩
theorem wlen_nil {w : World} : Calls Try.prog 10 #[.pointer none] w fun e w' => e = .returned (.int .i64 0) ∧ w = w' := by
  go_enter Try.func10, Try.ntmps10
  go_wp2
  go_ret
  exact ⟨rfl, rfl⟩
theorem wbytes_nil {w : World} : Calls Try.prog 11 #[.pointer none] w fun e w' => e = .returned (.slice none 0 0) ∧ w = w' := by
  go_enter Try.func11, Try.ntmps11
  go_wp2
  go_ret
  exact ⟨rfl, rfl⟩
theorem wbool_nil {w : World} (x : Bool) : Calls Try.prog 24 #[.pointer none, .bool x] w fun e w' => e = .returned (.tuple #[]) ∧ w = w' := by
  cases x <;>
  · go_enter Try.func24, Try.ntmps24
    go_wp2_with fail
    refine (byte_nil _).mono ?_
    rintro e w1 ⟨rfl, rfl⟩
    go_wp2
    go_end0
    exact ⟨rfl, rfl⟩
end Go.Proofs.Ytiecljhgpbifjaa
