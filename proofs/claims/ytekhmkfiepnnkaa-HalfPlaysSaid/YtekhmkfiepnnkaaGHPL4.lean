/- PROVED: HalfPlays answers true at every input, and leaves what it was given as it was; no condition. -/
import Derived.RangeFuncNested
import Derived.Maps.OwnIn
import Derived.Lib.SlBytesConst
import Derived.Test.YtekhmkfiepnnkaaRows
import Derived.WalkKit
import Derived.ProofKit
import Derived.OpenShut
import Derived.ShutString
import Derived.ChangeOld
import Derived.Below
import Derived.SizedLaws
import Derived.Test.YtekhmkfiepnnkaaGHPL2
import Derived.Test.YtekhmkfiepnnkaaGHPL1
import Derived.Test.YtekhmkfiepnnkaaGHPL3

set_option linter.unusedVariables false
set_option linter.unusedSimpArgs false
namespace Go.Proofs.Ytekhmkfiepnnkaa
open Go.RowKit Go.Proofs.YtekhmkfiepnnkaaW.PrintWords Go.Proofs.YtekhmkfiepnnkaaW.PrintMore

/-- A log: its stretch, its generation, its tail, how many records. -/
structure HM where
  base : Int
  size : Int
  gen : Int
  tail : Int
  n : Int
/-- The log's variable; p: the disk's. -/
def HBlk (w : World) (hb p : Nat) (H : HM) : Prop := w.heap[hb]? = some (.cells #[.pointer (some ⟨p, 0, none⟩), .int .i64 H.base, .int .i64 H.size, .int .u64 H.gen, .int .i64 H.tail, .int .i64 H.n] 129 (0, 0))
theorem HBlk.cell0 {w : World} {hb p : Nat} {H : HM} (h : HBlk w hb p H) : w.cell? ⟨hb, 0, none⟩ = some (.pointer (some ⟨p, 0, none⟩)) := by rw [cell_of_row w hb 0 _ _ _ h]; rfl
theorem HBlk.cell1 {w : World} {hb p : Nat} {H : HM} (h : HBlk w hb p H) : w.cell? ⟨hb, 1, none⟩ = some (.int .i64 H.base) := by rw [cell_of_row w hb 1 _ _ _ h]; rfl
theorem HBlk.cell2 {w : World} {hb p : Nat} {H : HM} (h : HBlk w hb p H) : w.cell? ⟨hb, 2, none⟩ = some (.int .i64 H.size) := by rw [cell_of_row w hb 2 _ _ _ h]; rfl
theorem HBlk.cell3 {w : World} {hb p : Nat} {H : HM} (h : HBlk w hb p H) : w.cell? ⟨hb, 3, none⟩ = some (.int .u64 H.gen) := by rw [cell_of_row w hb 3 _ _ _ h]; rfl
theorem HBlk.cell4 {w : World} {hb p : Nat} {H : HM} (h : HBlk w hb p H) : w.cell? ⟨hb, 4, none⟩ = some (.int .i64 H.tail) := by rw [cell_of_row w hb 4 _ _ _ h]; rfl
theorem HBlk.cell5 {w : World} {hb p : Nat} {H : HM} (h : HBlk w hb p H) : w.cell? ⟨hb, 5, none⟩ = some (.int .i64 H.n) := by rw [cell_of_row w hb 5 _ _ _ h]; rfl
theorem HBlk.free {w : World} {hb p : Nat} {H : HM} (h : HBlk w hb p H) (j : Nat) : w.frozen? ⟨hb, j, none⟩ = false := frozen_of_row w hb j _ _ h
theorem HBlk.setTail {w : World} {hb p : Nat} {H : HM} (h : HBlk w hb p H) (t : Int) : HBlk (w.setCell ⟨hb, 4, none⟩ (.int .i64 t)) hb p { H with tail := t } := heap_setCell_same w hb 4 _ _ _ h
theorem HBlk.setN {w : World} {hb p : Nat} {H : HM} (h : HBlk w hb p H) (t : Int) : HBlk (w.setCell ⟨hb, 5, none⟩ (.int .i64 t)) hb p { H with n := t } := heap_setCell_same w hb 5 _ _ _ h
theorem HBlk.step {w w1 : World} {hb p : Nat} {H : HM} (h : HBlk w hb p H) (hm : w1.heap[hb]? = w.heap[hb]?) : HBlk w1 hb p H := hm.trans h
theorem HBlk.lt {w : World} {hb p : Nat} {H : HM} (h : HBlk w hb p H) : hb < w.heap.size := blk_lt h
/-- May a log be? -/
def hnewE (D : DM) (base size gen : Int) : Int := if base < 0 ∨ size < 1 ∨ (D.n : Int) < base ∨ (D.n : Int) - base < size ∨ gen = 0 then 1 else 0
theorem hnew_nil {w : World} (base size gen : Int) : Calls Try.prog 41 #[.pointer none, .int .i64 base, .int .i64 size, .int .u64 gen] w fun e w' => e = .returned (.tuple #[.pointer none, .int .i64 2]) ∧ w = w' := by
  go_enter Try.func41, Try.ntmps41
  go_wp2
  go_ret2
  exact ⟨rfl, rfl⟩
set_option maxHeartbeats 1000000 in
theorem hnew_err {w : World} {ok : Nat → Prop} {p : Nat} {D : DM} (h : PDisk w ok p D) (base size gen : Int) (he : ¬ hnewE D base size gen = 0) :
  Calls Try.prog 41 #[.pointer (some ⟨p, 0, none⟩), .int .i64 base, .int .i64 size, .int .u64 gen] w fun e w' => e = .returned (.tuple #[.pointer none, .int .i64 1]) ∧ w = w' := by
  have hB := blocks_any h
  have hn := h.1.hi
  by_cases h1 : base < 0
  · go_enter Try.func41, Try.ntmps41
    go_wp2
    go_ret2
    exact ⟨rfl, rfl⟩
  by_cases h2 : size < 1
  · go_enter Try.func41, Try.ntmps41
    go_wp2
    go_ret2
    exact ⟨rfl, rfl⟩
  by_cases h3 : (D.n : Int) < base
  · go_enter Try.func41, Try.ntmps41
    go_wp2_with (go_at_call 65; refine hB.mono ?_; rintro e w' ⟨rfl, rfl⟩)
    go_ret2
    exact ⟨rfl, rfl⟩
  have hw : IntKind.i64.wrap ((D.n : Int) - base) = (D.n : Int) - base := by rw [IntKind.wrap_i64]; omega
  by_cases h4 : (D.n : Int) - base < size
  · go_enter Try.func41, Try.ntmps41
    go_wp2_with (go_at_call 65; refine hB.mono ?_; rintro e w' ⟨rfl, rfl⟩)
    go_ret2
    exact ⟨rfl, rfl⟩
  have h5 : gen = 0 := by
    unfold hnewE at he
    by_cases hg : gen = 0
    · exact hg
    · rw [if_neg (by omega)] at he; exact absurd rfl he
  subst h5
  go_enter Try.func41, Try.ntmps41
  go_wp2_with (go_at_call 65; refine hB.mono ?_; rintro e w' ⟨rfl, rfl⟩)
  go_ret2
  exact ⟨rfl, rfl⟩
set_option maxHeartbeats 1000000 in
theorem hnew_ok {w : World} {ok : Nat → Prop} {p : Nat} {D : DM} (h : PDisk w ok p D) (base size gen : Int) (he : hnewE D base size gen = 0) :
  Calls Try.prog 41 #[.pointer (some ⟨p, 0, none⟩), .int .i64 base, .int .i64 size, .int .u64 gen] w fun e w' => e = .returned (.tuple #[.pointer (some ⟨w.heap.size, 0, none⟩), .int .i64 0]) ∧ HBlk w' w.heap.size p ⟨base, size, gen, 0, 0⟩ ∧ Below w.heap.size w w' := by
  have hB := blocks_any h
  have hn := h.1.hi
  have hx : ¬ base < 0 ∧ ¬ size < 1 ∧ ¬ (D.n : Int) < base ∧ ¬ (D.n : Int) - base < size ∧ ¬ gen = 0 := by
    unfold hnewE at he
    split at he
    · cases he
    · rename_i hh; simp only [not_or] at hh; exact hh
  obtain ⟨h1, h2, h3, h4, h5⟩ := hx
  have hw : IntKind.i64.wrap ((D.n : Int) - base) = (D.n : Int) - base := by rw [IntKind.wrap_i64]; omega
  have h5b : (gen == 0) = false := by simpa using h5
  have hfin : HBlk (w.alloc (.cells #[.pointer (some ⟨p, 0, none⟩), .int .i64 base, .int .i64 size, .int .u64 gen, .int .i64 0, .int .i64 0] 129)) w.heap.size p ⟨base, size, gen, 0, 0⟩ := heap_alloc_new w _
  have HF := hid (And.intro hfin (below_alloc (Below.refl w.heap.size w) (.cells #[.pointer (some ⟨p, 0, none⟩), .int .i64 base, .int .i64 size, .int .u64 gen, .int .i64 0, .int .i64 0] 129)))
  clear hfin
  go_enter Try.func41, Try.ntmps41
  go_wp2_with (go_at_call 65; refine hB.mono ?_; rintro e w' ⟨rfl, rfl⟩)
  go_ret2
  exact ⟨rfl, HF.out⟩
theorem used_any {w : World} {hb p : Nat} {H : HM} (h : HBlk w hb p H) : Calls Try.prog 46 #[.pointer (some ⟨hb, 0, none⟩)] w fun e w' => e = .returned (.int .i64 H.tail) ∧ w = w' := by
  have c4 := h.cell4
  go_enter Try.func46, Try.ntmps46
  go_wp2
  go_ret
  exact ⟨rfl, rfl⟩
theorem hcount_any {w : World} {hb p : Nat} {H : HM} (h : HBlk w hb p H) : Calls Try.prog 47 #[.pointer (some ⟨hb, 0, none⟩)] w fun e w' => e = .returned (.int .i64 H.n) ∧ w = w' := by
  have c5 := h.cell5
  go_enter Try.func47, Try.ntmps47
  go_wp2
  go_ret
  exact ⟨rfl, rfl⟩
theorem hgen_any {w : World} {hb p : Nat} {H : HM} (h : HBlk w hb p H) : Calls Try.prog 51 #[.pointer (some ⟨hb, 0, none⟩)] w fun e w' => e = .returned (.int .u64 H.gen) ∧ w = w' := by
  have c3 := h.cell3
  go_enter Try.func51, Try.ntmps51
  go_wp2
  go_ret
  exact ⟨rfl, rfl⟩
theorem room_any {w : World} {hb p : Nat} {H : HM} (h : HBlk w hb p H) (h1 : 0 ≤ H.tail ∧ H.tail ≤ H.size ∧ H.size ≤ 4096) :
    Calls Try.prog 50 #[.pointer (some ⟨hb, 0, none⟩)] w fun e w' => e = .returned (.int .i64 (H.size - H.tail)) ∧ Below w.heap.size w w' := by
  have c2 := h.cell2
  have c4 := h.cell4
  have hw : IntKind.i64.wrap (H.size - H.tail) = H.size - H.tail := by rw [IntKind.wrap_i64]; omega
  go_enter Try.func50, Try.ntmps50
  go_wp2_with fail
  refine wp_region_plan [] (.take 0 (.take 1 (.take 2 (.take 3 (.take 4 (.take 5 (.take 6 (.take 7 (.take 8 (.take 9 .done)))))))))) (fun w' => w'.cell? ⟨hb, 2, none⟩ = some (.int .i64 H.size) ∧ w'.cell? ⟨hb, 4, none⟩ = some (.int .i64 H.tail)) (by kernel_rfl) (by kernel_rfl) (fun c a d v w h => by cases d <;> exact h) ⟨c2, c4⟩ ?_
  iterate 10 (apply plan_take rfl rfl; (case hy => (intro w' hS; obtain ⟨s0, s1⟩ := hS; go_simp; try exact rfl)); go_simp)
  refine plan_done ?_
  go_wp2
  go_ret
  exact ⟨rfl, (Below.refl _ _).drew⟩
/-- Is there room for so many bytes? -/
def fitsB (H : HM) (n : Int) : Bool := decide (0 < need n ∧ need n ≤ H.size - H.tail)
theorem need_bnd (n : Int) : 0 ≤ need n ∧ need n ≤ 65536 := by unfold need; split <;> (try split) <;> omega
theorem fits_any {w : World} {hb p : Nat} {H : HM} (h : HBlk w hb p H) (h1 : 0 ≤ H.tail ∧ H.tail ≤ H.size ∧ H.size ≤ 4096) (n : Int) (hn : -9223372036854775808 ≤ n ∧ n ≤ 9223372036854775807) :
    Calls Try.prog 49 #[.pointer (some ⟨hb, 0, none⟩), .int .i64 n] w fun e w' => e = .returned (.bool (fitsB H n)) ∧ Below w.heap.size w w' := by
  have hnd := need_any (w := w) n hn
  have hr := room_any h h1
  have hb := need_bnd n
  unfold fitsB
  generalize need n = k at hnd hb ⊢
  by_cases h0 : 0 < k
  · rw [show decide (0 < k ∧ k ≤ H.size - H.tail) = decide (k ≤ H.size - H.tail) from by simp [h0]]
    go_enter Try.func49, Try.ntmps49
    go_wp2_with (first | (go_at_call 26; refine hnd.mono ?_; rintro e w' ⟨rfl, rfl⟩) | (go_at_call 50; refine hr.mono ?_; rintro e w1 ⟨rfl, hB⟩))
    go_ret
    exact ⟨rfl, hB⟩
  · rw [show decide (0 < k ∧ k ≤ H.size - H.tail) = false from by simp [h0]]
    go_enter Try.func49, Try.ntmps49
    go_wp2_with (go_at_call 26; refine hnd.mono ?_; rintro e w' ⟨rfl, rfl⟩)
    go_ret
    exact ⟨rfl, Below.refl _ _⟩
theorem records_any {w : World} (hb : Nat) :
    Calls Try.prog 77 #[.pointer (some ⟨hb, 0, none⟩)] w fun e w' => e = .returned (.func (.func 88) #[] #[.pointer (some ⟨w.heap.size, 0, none⟩)]) ∧ w' = w.alloc (.cells #[.pointer (some ⟨hb, 0, none⟩)] 79) := by
  go_enter Try.func77, Try.ntmps77
  go_wp2
  go_ret
  exact ⟨rfl, rfl⟩
end Go.Proofs.Ytekhmkfiepnnkaa

set_option linter.unusedVariables false
set_option linter.unusedSimpArgs false
namespace Go.Proofs.Ytekhmkfiepnnkaa
open Go.RowKit Go.Proofs.YtekhmkfiepnnkaaW.PrintWords Go.Proofs.YtekhmkfiepnnkaaW.PrintMore

theorem bytesK_bytes {D : DM} (h : D.wf) (b0 n : Nat) (h0 : Bytes (headR (D.blk b0)).bytes) : ∀ k, Bytes (bytesK D b0 n k)
  | 0 => h0
  | k + 1 => Bytes.append (bytesK_bytes h b0 n h0 k) (((blk_bytes h _).drop _).take _)
theorem headR_bytes {b : List Int} (h : Bytes b) : Bytes (headR b).bytes ∧ 0 ≤ (headR b).kind ∧ (headR b).kind < 256 := by
  unfold headR
  split
  · exact ⟨(h.drop _).take _, by have := h.rd_ 12; simpa [rd] using this⟩
  · exact ⟨fun x hx => by simp at hx, by simp⟩
/-- What holds of a record that is read. -/
structure Got (r : SR) (base end_ gen at_ : Int) : Prop where
  g : r.gen = gen
  a : r.at_ = at_
  k : 0 ≤ r.kind ∧ r.kind < 256
  b : Bytes r.bytes
  l : r.bytes.length ≤ 131072
  fit : at_ + ((bodies r : Int) + 1) ≤ end_ - base
  a0 : 0 ≤ at_
theorem readV_got {D : DM} (hw : D.wf) {base end_ gen at_ : Int} {r : SR} (h : readV D base end_ gen at_ = some r) : Got r base end_ gen at_ := by
  unfold readV at h
  split at h
  · rename_i hc
    obtain ⟨h1, h2, h3, h4, h5, h6, h7⟩ := hc
    obtain ⟨e1, e2, e3, e4, e5⟩ := readE_ok h1
    injection h with h
    have hb := blk_bytes hw (base + at_).toNat
    obtain ⟨n1, n2, n3⟩ := headN_in _ hb
    have hhb := headR_bytes hb
    obtain ⟨n, hn⟩ := Int.eq_ofNat_of_zero_le n1
    have hnt : (headN (D.blk (base + at_).toNat)).toNat = n := by rw [hn]; simp
    rw [hnt] at h n3
    rw [hn] at h6 n2
    have hnd := need_bodiesN (n := n) (by omega)
    rw [hnd] at h6
    have hlen := bytesK_len hw n3 (bodiesN n) (by omega)
    have hl : r.bytes.length = n := by
      rw [← h]
      show (bytesK D (base + at_).toNat n (bodiesN n)).length = n
      rw [hlen]
      have := bodiesN_lt (n := n) (k := bodiesN n)
      omega
    refine ⟨by rw [← h], by rw [← h], by rw [← h]; exact hhb.2, by rw [← h]; exact bytesK_bytes hw _ _ hhb.1 _, by omega, ?_, e5⟩
    rw [bodies_eq, hl]
    omega
  · cases h
/-- The records from a place on. -/
def recsAt (D : DM) (base size : Nat) (gen : Int) : Nat → Nat → List SR
  | 0, _ => []
  | f + 1, a => if a < size then
      match readV D base ((base + size : Nat) : Int) gen a with
      | none => []
      | some r => r :: recsAt D base size gen f (a + (bodies r + 1))
    else []
/-- All of a stretch. -/
def recsM (D : DM) (base size : Nat) (gen : Int) : List SR := recsAt D base size gen size 0
/-- Where the tail is behind some records. -/
def tailOf (l : List SR) : Nat := (l.map fun r => bodies r + 1).sum
theorem tailOf_snoc (l : List SR) (r : SR) : tailOf (l ++ [r]) = tailOf l + (bodies r + 1) := by simp [tailOf]
theorem recsAt_stop {D : DM} {base size : Nat} {gen : Int} {f a : Nat} (h : ¬ a < size ∨ readV D base ((base + size : Nat) : Int) gen a = none) : recsAt D base size gen f a = [] := by
  cases f with
  | zero => rfl
  | succ f =>
    unfold recsAt
    rcases h with h | h
    · rw [if_neg h]
    · split
      · rw [h]
      · rfl
theorem recsAt_cons {D : DM} {base size : Nat} {gen : Int} {f a : Nat} {r : SR} (h1 : a < size) (h2 : readV D base ((base + size : Nat) : Int) gen a = some r) : recsAt D base size gen (f + 1) a = r :: recsAt D base size gen f (a + (bodies r + 1)) := by
  show (if a < size then _ else _) = _
  rw [if_pos h1, h2]
/-- More rounds tell the same. -/
theorem recsAt_fuel {D : DM} {base size : Nat} {gen : Int} : ∀ (f g a : Nat), size - a ≤ f → size - a ≤ g → recsAt D base size gen f a = recsAt D base size gen g a
  | 0, g, a, h, _ => by rw [recsAt_stop (.inl (by omega)), recsAt_stop (.inl (by omega))]
  | f + 1, 0, a, _, h => by rw [recsAt_stop (.inl (by omega)), recsAt_stop (.inl (by omega))]
  | f + 1, g + 1, a, h1, h2 => by
    by_cases ha : a < size
    · cases hr : readV D base ((base + size : Nat) : Int) gen a with
      | none => rw [recsAt_stop (.inr hr), recsAt_stop (.inr hr)]
      | some r => rw [recsAt_cons ha hr, recsAt_cons ha hr, recsAt_fuel f g _ (by omega) (by omega)]
    · rw [recsAt_stop (.inl ha), recsAt_stop (.inl ha)]
theorem recsM_at {D : DM} {base size : Nat} {gen : Int} (l : List SR) (h : l ++ recsAt D base size gen (size - tailOf l) (tailOf l) = recsM D base size gen) {r : SR} (h1 : tailOf l < size) (h2 : readV D base ((base + size : Nat) : Int) gen (tailOf l) = some r) :
    (l ++ [r]) ++ recsAt D base size gen (size - tailOf (l ++ [r])) (tailOf (l ++ [r])) = recsM D base size gen := by
  rw [← h, tailOf_snoc]
  obtain ⟨f, hf⟩ : ∃ f, size - tailOf l = f + 1 := ⟨size - tailOf l - 1, by omega⟩
  rw [hf, recsAt_cons h1 h2, List.append_assoc]
  congr 1
  show r :: _ = r :: _
  congr 1
  exact recsAt_fuel _ _ _ (by omega) (by omega)
theorem tailOf_len : ∀ (l : List SR), l.length ≤ tailOf l
  | [] => by simp
  | r :: l => by have := tailOf_len l; simp only [tailOf, List.map_cons, List.sum_cons, List.length_cons] at this ⊢; omega
end Go.Proofs.Ytekhmkfiepnnkaa

set_option linter.unusedVariables false
set_option linter.unusedSimpArgs false
namespace Go.Proofs.Ytekhmkfiepnnkaa
open Go.RowKit
section
variable {F : Fence} {n : Nat} {P : Program} {α : Type}
/-- An iterator that goes on to its end. -/
def SeqMem (F : Fence) (n : Nat) (P : Program) (g : Nat) (lb : Array Value) (encs : α → Array Value) (Kp : World → World → Prop) (Mx : α → World → Prop) (S : List α → Prop) (N : Nat) (w : World) : Prop :=
  ∀ (l : Nat) (J : List α → World → Prop) (W : World), Below w.heap.size w W → AbidesFrom W.heap.size J →
    (∀ pre x W1, J pre W1 → Mx x W1 → pre.length < N → YieldAt F (n - 1) P l (encs x) W1 fun e W' => e = .returned (.bool true) ∧ J (pre ++ [x]) W' ∧ Kp W1 W') → J [] W →
    CallsIn F n P g (#[.func (.yield l) #[] #[]] ++ lb) W fun e W' => (∃ v, e = .returned v) ∧ ∃ xs, S xs ∧ J xs W'
/-- What is kept on a loop: its record, and the block for deferred calls ahead of it. -/
def Kept2 (D : Nat) (r : Loop) (W : World) : Prop := W.heap[D + 1]? = some (.loop r) ∧ W.heap[D]? = some (.deferred (some []))
theorem Kept2.keeps {D B : Nat} {r : Loop} {W W' : World} (h : Kept2 D r W) (hB : B ≤ D) (hk : KeepsFrom B W W') : Kept2 D r W' := ⟨hk.same _ _ (by omega) h.1 rfl, hk.same _ _ hB h.2 rfl⟩
theorem Kept2.put {D : Nat} {r : Loop} {W : World} (h : Kept2 D r W) (r' : Loop) : Kept2 D r' (W.putObj (D + 1) (.loop r')) :=
  ⟨World.putObj_heap_same (Array.getElem?_eq_some_iff.1 h.1).1, (World.putObj_heap_other (by omega)).trans h.2⟩
theorem Kept2.walks {D : Nat} {r : Loop} {W W' : World} {row : Option Nat} (h : Kept2 D r W) (hg : W.grownBy W' row) (hr : ∀ q, row = some q → ∃ o : Obj, W.heap[q]? = some o ∧ o.isWalk = true) : Kept2 D r W' :=
  ⟨(grownBy_keeps hg hr h.1 rfl).trans h.1, (grownBy_keeps hg hr h.2 rfl).trans h.2⟩
theorem wpIn_range_mem {g : Operand} {ps : Array Tmp} {assign body : Code} {Q : Exit → Act → World → Prop} {a : Act} {w : World}
    (hro : F.round = none) (h1 : 1 ≤ n) {gf : Nat} {lb : Array Value} (hg : a.eval g = .func (.func gf) #[] lb) (hFg : F.fn gf) (eg : ∀ args w, (callFunc gf args).run P w = .ok (.enter gf args) w)
    {encs : α → Array Value} {Kp : World → World → Prop} {Mx : α → World → Prop} {S : List α → Prop} {N : Nat} {w0 : World} (hseq : SeqMem F (n - 1) P gf lb encs Kp Mx S N w0)
    (hKt : ∀ {A B C : World}, Kp A B → Kp B C → Kp A C) (hKb : ∀ (W : World) (l : Nat) (o o' : Obj), w.heap.size ≤ l → W.heap[l]? = some o → o.isCells = false → o.isWalk = false → Kp W (W.putObj l o'))
    (hb0 : Below w0.heap.size w0 w) (hps : ∀ x, (encs x).size = ps.size) (hM : ∀ x, OwnFrom w.heap.size (fun (_ : Unit) W => Mx x W))
    (I : List α → World → Prop) (hI : OwnFrom w.heap.size I) (h0 : I [] w) (Ax : α → Act → World → Prop) (hAx : ∀ x a', OwnFrom w.heap.size (fun (_ : Unit) W => Ax x a' W))
    (hassign : ∀ (l : Nat) (pre : List α) (x : α) (W : World) (K : Act → World → Prop), I pre W → Mx x W → (∀ a' W', KeepsFrom w.heap.size W W' → Kp W W' → I pre W' → Mx x W' → Ax x a' W' → K a' W') →
      assign.wpIn (F.inRound l) (n - 1 - 1) P (Exit.then K (fun _ _ _ => False)) { tmps := (ps.zip (encs x)).foldl (fun t (p, v) => t.setIfInBounds p v) a.tmps, defers := [] } W)
    (hbody : ∀ (l : Nat) (pre : List α) (x : α) (a' : Act) (W : World), w.heap.size ≤ l → I pre W → Mx x W → Ax x a' W → pre.length < N →
      body.wpIn (F.inRound l) (n - 1 - 1) P (fun e _ W' => e = .normal ∧ KeepsFrom w.heap.size W W' ∧ Kp W W' ∧ I (pre ++ [x]) W') a' W)
    (hdone : ∀ (D : Nat) (xs : List α) (W : World), w.heap.size ≤ D → S xs → I xs W → W.heap[D]? = some (.deferred (some [])) → Q .normal { a with defers := { target := .collected D, args := #[] } :: a.defers } W) :
    (Code.rangeFunc g ps assign body).wpIn F n P Q a w := by
  refine wpIn_rangeFunc (fun fn hfn => ?_)
  rw [hro]
  generalize hD : w.heap.size = D at *
  let rec_ : LoopState → Loop := fun st => { state := st, pending := none, fn, tmps := a.tmps, params := ps, assign, body, defers := D }
  let W1 : World := (w.alloc (.deferred (some []))).alloc (.loop (rec_ .ready))
  have hsz : W1.heap.size = D + 2 := by show ((w.alloc _).alloc _).heap.size = _; rw [World.size_alloc, World.size_alloc, hD]
  have hk1 : Kept2 D (rec_ .ready) W1 := by
    constructor
    · have := World.alloc_heap_new (w.alloc (.deferred (some []))) (.loop (rec_ .ready))
      rwa [World.size_alloc, hD] at this
    · have h2 := World.alloc_heap_new w (.deferred (some []))
      rw [hD] at h2
      exact (Below.heap_alloc _ _ _ (by rw [World.size_alloc, hD]; omega)).trans h2
  have hI1 : I [] W1 := hI.alloc _ (hI.alloc _ h0)
  have hbW : Below w0.heap.size w0 W1 := hb0.trans ((((Below.refl w.heap.size w).alloc (Nat.le_refl _) _).alloc (by rw [World.size_alloc]; omega) _).mono (by have := hb0.size; omega))
  refine ⟨D + 1, [{ target := .collected D, args := #[] }], W1, { target := .fn (.func gf) lb, args := #[.func (.yield (D + 1)) #[] #[]] }, W1, gf, #[.func (.yield (D + 1)) #[] #[]] ++ lb, W1, ?_, ?_, ?_, ?_, fun _ => h1, ?_⟩
  · have := run_enterLoop_outer (P := P) (w := w) fn a.tmps ps assign body
    rw [hD] at this
    exact this
  · simp only [resolve, hg]
    simp [go_sem]
  · intro f' hf'
    simp [Target.leads] at hf'
    subst hf'
    exact hFg
  · simp [invoke, go_sem, eg]
  · refine (hseq (D + 1) (fun pre W => I pre W ∧ Kept2 D (rec_ .ready) W) W1 hbW (fun s A B row hs hgr hr => ⟨hI s A B row hs.1 hgr (fun q e => ?_), hs.2.walks hgr (fun q e => (hr q e).2)⟩) ?_ ⟨hI1, hk1⟩).mono ?_
    · obtain ⟨hq, o, ho, hwk⟩ := hr q e
      exact ⟨by omega, o, ho, Obj.not_cells_of_walk hwk⟩
    · rintro pre x W ⟨hi, hk⟩ hm hlen
      refine ⟨fn, _, assign, body, run_yield (P := P) (args := encs x) hk.1 (hps x), roundIn_of_wpIn hfn (hassign _ pre x W _ hi hm ?_)⟩
      intro a' Wa hkf hkp hia hma hax
      have hka := hk.keeps (Nat.le_refl _) hkf
      have hbz := hka.put (rec_ .busy)
      have e1 : Kp Wa (Wa.putObj (D + 1) (.loop (rec_ .busy))) := hKb _ _ _ _ (by omega) hka.1 rfl rfl
      refine ⟨_, run_beginRound hka.1 rfl, wpIn_mono (hbody _ pre x a' _ (by omega) (hI.putObj _ hia (by omega) hka.1 rfl) ((hM x).putObj (s := ()) _ hma (by omega) hka.1 rfl) ((hAx x a').putObj (s := ()) _ hax (by omega) hka.1 rfl) hlen) ?_⟩
      rintro e a3 W3 ⟨rfl, hkf3, hkp3, hi3⟩
      have hk3 := hbz.keeps (Nat.le_refl _) hkf3
      refine ⟨_, _, run_endRound (P := P) none hk3.1, rfl, ⟨hI.putObj _ hi3 (by omega) hk3.1 rfl, hk3.put (rec_ .ready)⟩, hKt hkp (hKt (hKt e1 hkp3) (hKb _ _ _ _ (by omega) hk3.1 rfl rfl))⟩
    · rintro e W2 ⟨⟨v, rfl⟩, xs, hS, hi, hk⟩
      have hend := run_endLoop (P := P) hk.1 (show LoopState.ready ≠ LoopState.busy by simp)
      refine ⟨none, _, hend, hdone D xs _ (Nat.le_refl _) hS (hI.putObj _ hi (by omega) hk.1 rfl) ((World.putObj_heap_other (by omega)).trans hk.2)⟩
end
end Go.Proofs.Ytekhmkfiepnnkaa

set_option linter.unusedVariables false
set_option linter.unusedSimpArgs false
namespace Go.Proofs.Ytekhmkfiepnnkaa
open Go.RowKit Go.Shelf Go.Proofs.YtekhmkfiepnnkaaW.PrintWords Go.Proofs.YtekhmkfiepnnkaaW.PrintMore
attribute [local go_sem] Oper.semAt_some

/-- A record that is yielded: what it tells, and where its bytes lie. -/
abbrev XR := SR × Option Addr × Nat
def encR (x : XR) : Array Value := #[recV x.1 x.2.1 x.2.2]
def MxR (B : Nat) (x : XR) (W : World) : Prop := KB.R 5 W B (fun k => B ≤ k) (.slice x.2.1 x.1.bytes.length x.2.2) x.1.bytes ∧ x.1.bytes.length ≤ x.2.2 ∧ x.1.bytes.length ≤ 131072
/-- The block of the row that the variable lb holds. -/
def OwnL (lb : Nat) (W : World) (k : Nat) : Prop := ∃ v t, W.heap[lb]? = some (.cells #[v] t (0, 0)) ∧ v.ownBlock = some k
theorem OwnL.back {lb : Nat} {W W' : World} {k : Nat} (h : OwnL lb W' k) (hb : Below W.heap.size W W') (hl : lb < W.heap.size) : OwnL lb W k := by
  obtain ⟨v, t, h1, h2⟩ := h
  exact ⟨v, t, (hb.block lb hl).symm.trans h1, h2⟩
/-- Which blocks are which. -/
structure Fx (lb rb hb B : Nat) (okd : Nat → Prop) : Prop where
  fl : lb < B
  fr : rb < B
  fh : hb < B
  n1 : rb ≠ hb
  n2 : rb ≠ lb
  n3 : hb ≠ lb
  d : ∀ k, okd k → k < B ∧ k ≠ hb ∧ k ≠ lb
/-- What the rounds stand on. -/
structure RI (lb rb hb p B : Nat) (okd : Nat → Prop) (D : DM) (base size gen : Int) (W : World) : Prop where
  box : W.heap[rb]? = some (.cells #[.pointer (some ⟨hb, 0, none⟩)] 79 (0, 0))
  h : ∃ t n, HBlk W hb p ⟨base, size, gen, t, n⟩
  d : PDisk W okd p D
  own : ∀ k, OwnL lb W k → B ≤ k ∧ k < W.heap.size
  sz : B ≤ W.heap.size
/-- What a consumer's round keeps. -/
structure KpH (lb hb p : Nat) (base size gen : Int) (W W' : World) : Prop where
  grow : W.heap.size ≤ W'.heap.size
  same : ∀ k, isC W k → k ≠ hb → k ≠ lb → ¬ OwnL lb W k → W'.heap[k]? = W.heap[k]?
  own : ∀ k, OwnL lb W' k → (OwnL lb W k ∨ W.heap.size ≤ k) ∧ (k < W'.heap.size ∨ OwnL lb W k)
  h : ∀ t n, HBlk W hb p ⟨base, size, gen, t, n⟩ → ∃ t' n', HBlk W' hb p ⟨base, size, gen, t', n'⟩
theorem isC_lt {W : World} {k : Nat} (h : isC W k) : k < W.heap.size := by obtain ⟨_, _, hc⟩ := h; exact blk_lt hc
theorem KpH.trans {lb hb p : Nat} {base size gen : Int} {A B C : World} (h : KpH lb hb p base size gen A B) (k : KpH lb hb p base size gen B C) : KpH lb hb p base size gen A C := by
  refine ⟨Nat.le_trans h.grow k.grow, fun q hq n1 n2 no => ?_, fun q hq => ?_, fun t n hh => ?_⟩
  · have e1 := h.same q hq n1 n2 no
    have hq' : isC B q := by obtain ⟨c, t, hc⟩ := hq; exact ⟨c, t, e1.trans hc⟩
    refine (k.same q hq' n1 n2 (fun ho => ?_)).trans e1
    rcases (h.own q ho).1 with h1 | h1
    · exact no h1
    · have := isC_lt hq; omega
  · obtain ⟨a1, a2⟩ := k.own q hq
    constructor
    · rcases a1 with a1 | a1
      · exact (h.own q a1).1
      · exact .inr (Nat.le_trans h.grow a1)
    · rcases a2 with a2 | a2
      · exact .inl a2
      · rcases (h.own q a2).2 with b | b
        · exact .inl (Nat.lt_of_lt_of_le b k.grow)
        · exact .inr b
  · obtain ⟨t', n', h1⟩ := h.h t n hh
    exact k.h t' n' h1
theorem RI.below {lb rb hb p B : Nat} {okd : Nat → Prop} {D : DM} {base size gen : Int} {W W' : World} (h : RI lb rb hb p B okd D base size gen W) (hF : Fx lb rb hb B okd) (hbl : Below W.heap.size W W') : RI lb rb hb p B okd D base size gen W' := by
  obtain ⟨t, n, hh⟩ := h.h
  have hsz := h.sz
  have hs := hbl.size
  exact ⟨(hbl.block _ (by have := hF.fr; omega)).trans h.box, ⟨t, n, hh.step (hbl.block _ (by have := hF.fh; omega))⟩, h.d.step (fun k _ hk => hbl.block k hk), fun k hk => by
    obtain ⟨a, b⟩ := h.own k (hk.back hbl (by have := hF.fl; omega))
    exact ⟨a, by omega⟩, by omega⟩
theorem RI.keep {lb rb hb p B : Nat} {okd : Nat → Prop} {D : DM} {base size gen : Int} {W W' : World} (h : RI lb rb hb p B okd D base size gen W) (hF : Fx lb rb hb B okd) (hk : KpH lb hb p base size gen W W') : RI lb rb hb p B okd D base size gen W' := by
  obtain ⟨t, n, hh⟩ := h.h
  have hsz := h.sz
  refine ⟨(hk.same rb ⟨_, _, h.box⟩ hF.n1 hF.n2 (fun ho => ?_)).trans h.box, hk.h t n hh, (h.d.cells.step (fun k hc _ => hk.same k hc.2 (hF.d k hc.1).2.1 (hF.d k hc.1).2.2 (fun ho => ?_))).mono (fun _ hc => hc.1), fun k ho => ?_, Nat.le_trans hsz hk.grow⟩
  · have := (h.own rb ho).1; have := hF.fr; omega
  · have := (h.own k ho).1; have := (hF.d k hc.1).1; omega
  · obtain ⟨a1, a2⟩ := hk.own k ho
    refine ⟨?_, ?_⟩
    · rcases a1 with a1 | a1
      · exact (h.own k a1).1
      · omega
    · rcases a2 with a2 | a2
      · exact a2
      · exact Nat.lt_of_lt_of_le (h.own k a2).2 hk.grow
theorem R_W4r {w : World} {base b n c : Nat} {ok : Nat → Prop} {A : Option Addr} {xs : List Int} {a0 a1 a2 a3 : Value} (h : KB.R 5 w base ok (.slice A n c) xs) (hb : w.heap[b]? = some (.cells #[a0, a1, a2, a3] 25 (0, 0))) (v0 v1 v2 v3 : Value) :
    KB.R 5 (W4s w b v0 v1 v2 v3) base ok (.slice A n c) xs := by
  have h1 := heap_setCell_same w b 0 _ _ v0 hb
  have h2 := heap_setCell_same _ b 1 _ _ v1 h1
  have h3 := heap_setCell_same _ b 2 _ _ v2 h2
  exact Kd.R_set (Kd.R_set (Kd.R_set (Kd.R_set h hb (by decide) 0 v0) h1 (by decide) 1 v1) h2 (by decide) 2 v2) h3 (by decide) 3 v3
set_option maxRecDepth 100000 in
set_option maxHeartbeats 8000000 in
theorem records_in {w : World} {lb rb hb p B : Nat} {okd : Nat → Prop} {D : DM} {base size : Nat} {gen : Int} (hF : Fx lb rb hb B okd) (h : RI lb rb hb p B okd D base size gen w) (hn : base + size ≤ D.n) (hg : D.gone = false) :
    SeqMem Fence.wide 1 Try.prog 88 #[.pointer (some ⟨rb, 0, none⟩)] encR (KpH lb hb p base size gen) (MxR B) (fun xs => xs.map (·.1) = recsM D base size gen) size w := by
  intro l J W hW hJ hY h0
  have hRI0 := h.below hF hW
  have hn4 := h.d.1.hi
  refine callsIn_of_wp Try.func88 rfl trivial ?_ rfl
  simp only [Try.ntmps88, List.size_toArray, List.length_cons, List.length_nil, Nat.reduceAdd, Nat.reduceSub, Array.replicate_succ, Array.replicate_zero, List.push_toArray, List.append_toArray, List.nil_append, List.cons_append]
  gi_wp2_with fail
  gi_loopw [3] (fun av wr => ∃ (xs : List XR), av = .int .i64 ((tailOf (xs.map (·.1)) : Nat) : Int) ∧ xs.map (·.1) ++ recsAt D base size gen (size - tailOf (xs.map (·.1))) (tailOf (xs.map (·.1))) = recsM D base size gen ∧ tailOf (xs.map (·.1)) ≤ size ∧ J xs wr ∧ RI lb rb hb p B okd D base size gen wr ∧ W.heap.size ≤ wr.heap.size) (fun av _ => size - (intOf av).toNat)
  case atStart => exact ⟨[], rfl, rfl, Nat.zero_le _, h0, hRI0, Nat.le_refl _⟩
  case round =>
    obtain ⟨xs, rfl, hX, htl, hJr, hRI, hsz⟩ := hrel
    obtain ⟨a, hxa⟩ : ∃ a, tailOf (xs.map (·.1)) = a := ⟨_, rfl⟩
    rw [hxa] at hX htl ⊢
    have HX := hid hX
    have HXA := hid hxa
    clear hX hRI0 hxa
    obtain ⟨t0, n0, hh⟩ := hRI.h
    have kb : wr.cell? ⟨rb, 0, none⟩ = some (.pointer (some ⟨hb, 0, none⟩)) := by have := cell_of_row _ _ 0 _ _ _ hRI.box; simpa using this
    have k0 := hh.cell0
    have k1 := hh.cell1
    have k2 := hh.cell2
    have k3 := hh.cell3
    dsimp only at k0 k1 k2 k3
    by_cases hlt : a < size
    · have hltI : (a : Int) < (size : Int) := by omega
      have hD0 := hRI.d.step (w1 := wr.drew) (fun _ _ _ => rfl)
      obtain ⟨E, hE0⟩ : ∃ E : Int, E = ((base + size : Nat) : Int) := ⟨_, rfl⟩
      obtain ⟨V, hV⟩ : ∃ V, readV D base E gen a = V := ⟨_, rfl⟩
      have hE : readE D base E a = 0 := by
        rw [hE0]
        unfold readE regE
        rw [if_neg (by omega), if_neg (by omega), if_neg (by rw [hg]; simp)]
      have HVE := hid (And.intro hV hE)
      have HV := hid (show readV D base ((base + size : Nat) : Int) gen a = V from hE0 ▸ hV)
      clear hV hE
      have hwE : IntKind.i64.wrap ((base : Int) + (size : Int)) = E := by rw [hE0, IntKind.wrap_i64]; omega
      clear hE0
      gi_wp2_with fail
      refine wpIn_wide.2 (wp_region_plan [] (.take 0 (.take 1 (.take 2 (.take 3 (.take 4 (.take 5 (.take 6 (.take 7 (.take 8 (.take 9 (.take 10 (.take 11 (.take 12 (.take 13 (.take 14 (.take 15 (.take 16 (.take 17 (.take 18 (.take 19 (.take 20 (.take 21 (.both 22 (.take 23 (.take 24 (.take 25 (.take 26 (.run 27 (.run 28 (.take 29 (.take 30 .done)))))))) 27 (.run 22 (.take 23 (.take 24 (.take 25 (.take 26 (.run 28 (.take 29 (.take 30 .done))))))))))))))))))))))))))))))) (fun w' => Below wr.heap.size wr w') (by kernel_rfl) (by kernel_rfl) (fun c a d v w h => by cases d <;> exact h) (below_drew (Below.refl _ _)) ?_)
      iterate 22 (apply plan_take rfl rfl; (case hy => (intro w' hS; have e0 := pw_cell_below hS kb; have e1 := pw_cell_below hS k0; have e2 := pw_cell_below hS k1; have e3 := pw_cell_below hS k2; have e4 := pw_cell_below hS k3; clear hS; go_simp; try exact rfl)); go_simp)
      refine plan_both ?_ ?_
      · refine plan_run_on rfl rfl (fun K hK => ?_)
        go_simp
        have hrd := sread_any hD0 base E gen a
        rw [HVE.out.1, HVE.out.2] at hrd
        refine hrd.mono ?_
        clear hrd
        rintro e w1 ⟨A1, c1, rfl, hR1, hle, hb1⟩
        have hBa : Below wr.heap.size wr w1 := below_step (below_drew (Below.refl _ _)) hb1
        refine hK _ _ _ (fun _ h => h) hBa ?_
        clear hK K
        unfold recV
        go_simp
        iterate 4 (apply plan_take rfl rfl; (case hy => (intro w' hS; clear hS; go_simp; try exact rfl)); go_simp)
        refine plan_run_on rfl rfl (fun K hK => ?_)
        go_simp
        have hBn' := below_step hBa (below_alloc (Below.refl w1.heap.size w1) (.cells #[.int .u64 0, .int .i64 0, .int .i64 0, .slice none 0 0] 25))
        refine hK _ _ _ (fun _ h => h) hBn' ?_
        clear hK K
        go_simp
        refine plan_run_on rfl rfl (fun K hK => ?_)
        go_simp
        have hBn := below_step hBa (below_alloc (Below.refl w1.heap.size w1) (.cells #[.int .u64 (V.getD noR).gen, .int .i64 (V.getD noR).at_, .int .i64 (V.getD noR).kind, .slice A1 (V.getD noR).bytes.length c1] 25))
        refine hK _ _ _ (fun _ h => h) hBn ?_
        clear hK K
        go_simp
        iterate 2 (apply plan_take rfl rfl; (case hy => (intro w' hS; clear hS; go_simp; try exact rfl)); go_simp)
        refine plan_done ?_
        have hbx := heap_alloc_new w1 (.cells #[.int .u64 (V.getD noR).gen, .int .i64 (V.getD noR).at_, .int .i64 (V.getD noR).kind, .slice A1 (V.getD noR).bytes.length c1] 25)
        have hRow : KB.R 5 (w1.alloc (.cells #[.int .u64 (V.getD noR).gen, .int .i64 (V.getD noR).at_, .int .i64 (V.getD noR).kind, .slice A1 (V.getD noR).bytes.length c1] 25)) B (fun k => B ≤ k) (.slice A1 (V.getD noR).bytes.length c1) (V.getD noR).bytes := Kd.R_alloc (Kd.R_lower (Kd.R_mono hR1 (fun k hk => Nat.le_trans hRI.sz hk)) hRI.sz) _
        have hbxs : wr.heap.size ≤ w1.heap.size := hBa.size
        clear hBn' hb1 hR1 hBa
        generalize w1.alloc (.cells #[.int .u64 (V.getD noR).gen, .int .i64 (V.getD noR).at_, .int .i64 (V.getD noR).kind, .slice A1 (V.getD noR).bytes.length c1] 25) = wN at hBn hbx hRow ⊢
        generalize w1.heap.size = bx at hbx hbxs ⊢
        have hRIn := hRI.below hF hBn
        have hJn : J xs wN := hJ xs wr wN none hJr (grown_of_below hBn) (fun _ e => by cases e)
        have hbxC : isC wN bx := ⟨_, _, hbx⟩
        have hown : ¬ OwnL lb wN bx := fun ho => by
          have := (hRI.own bx (ho.back hBn (by have := hF.fl; have := hRI.sz; omega))).2
          omega
        have hbxb : bx ≠ hb ∧ bx ≠ lb := by have := hF.fh; have := hF.fl; have := hRI.sz; exact ⟨by omega, by omega⟩
        cases V with
        | none =>
          clear hbx hRow hbxC hown
          gi_wp2_with fail
          rename_i hk _ _ _ _
          refine ⟨(fun _ h => by cases h), hk _ _ ?_⟩
          clear hk
          gi_wp2_with fail
          refine bodyPost_ret (results_none rfl _ _ _) rfl ?_
          exact ⟨⟨_, rfl⟩, xs, by rw [← HX.out, recsAt_stop (.inr HV.out)]; simp, hJn⟩
        | some r =>
          have hgot := readV_got hRI.d.1 HV.out
          simp only [Option.getD_some, Option.isSome_some] at hbx hRow hle ⊢
          obtain ⟨fn, tmps, assign, body, hy, hR⟩ := hY xs (r, A1, c1) wN hJn ⟨hRow, hle, hgot.l⟩ (by have := tailOf_len (xs.map (·.1)); rw [List.length_map, HXA.out] at this; omega)
          dsimp only [encR, recV] at hy
          have q0 := cell_of_row _ _ 0 _ _ _ hbx
          have q1 := cell_of_row _ _ 1 _ _ _ hbx
          have q2 := cell_of_row _ _ 2 _ _ _ hbx
          have q3 := cell_of_row _ _ 3 _ _ _ hbx
          simp at q0 q1 q2 q3
          gi_wp2_with fail
          refine hR.mono ?_
          rintro e W8 ⟨rfl, hJ8, hk8⟩
          have hbx8 := (hk8.same bx hbxC hbxb.1 hbxb.2 hown).trans hbx
          have q83 := cell_of_row _ _ 3 _ _ _ hbx8
          simp at q83
          have hRI8 := hRIn.keep hF hk8
          have s8 : W.heap.size ≤ W8.heap.size := Nat.le_trans hsz (Nat.le_trans hBn.size hk8.grow)
          have hnd := need_any (w := W8) (r.bytes.length : Int) (by have := hgot.l; omega)
          rw [need_bodies hgot.l] at hnd
          have hfit := hgot.fit
          have hrel := recsM_at (xs.map (·.1)) (by rw [HXA.out]; exact HX.out) (by rw [HXA.out]; exact hlt) (by rw [HXA.out]; exact HV.out)
          have hlr : (xs ++ [((r, A1, c1) : XR)]).map (·.1) = xs.map (·.1) ++ [r] := by simp
          rw [← hlr] at hrel
          have htl : tailOf ((xs ++ [((r, A1, c1) : XR)]).map (·.1)) = a + (bodies r + 1) := by rw [hlr, tailOf_snoc, HXA.out]
          have HREL := hid (And.intro hrel htl)
          have hwS : IntKind.i64.wrap ((a : Int) + ((bodies r : Int) + 1)) = (a : Int) + ((bodies r : Int) + 1) := by rw [IntKind.wrap_i64]; omega
          have hfitN : a + (bodies r + 1) ≤ size := by omega
          clear hR hy hrel htl hlr hbx hRow q0 q1 q2 q3 hbx8 hbxC hown hRIn hgot
          gi_wp2_with fail
          refine ⟨trivial, callsIn_wide.2 (hnd.mono ?_)⟩
          rintro e W9 ⟨rfl, rfl⟩
          gi_wp2_with fail
          go_roundw
          case rel => exact ⟨xs ++ [(r, A1, c1)], by rw [HREL.out.2]; rfl, HREL.out.1, by rw [HREL.out.2]; exact hfitN, hJ8, hRI8, s8⟩
          case measure => simp [intOf]; omega
      · refine plan_run_on rfl rfl (fun K hK => ?_)
        go_simp
        have hBz := below_step (below_drew (Below.refl wr.heap.size wr)) (below_alloc (Below.refl wr.drew.heap.size wr.drew) (.cells #[.int .u64 0, .int .i64 0, .int .i64 0, .slice none 0 0] 25))
        have hz0 := heap_alloc_new wr.drew (.cells #[.int .u64 0, .int .i64 0, .int .i64 0, .slice none 0 0] 25)
        have hDz := hRI.d.step (w1 := wr.drew.alloc (.cells #[.int .u64 0, .int .i64 0, .int .i64 0, .slice none 0 0] 25)) (fun k _ hk => hBz.block k hk)
        refine hK _ _ _ (fun _ h => h) hBz ?_
        clear hK K
        go_simp
        refine plan_run_on rfl rfl (fun K hK => ?_)
        go_simp
        have hrd := sread_any hDz base E gen a
        rw [HVE.out.1, HVE.out.2] at hrd
        refine hrd.mono ?_
        clear hrd
        rintro e w1 ⟨A1, c1, rfl, hR1, hle, hb1⟩
        have hBa : Below wr.heap.size wr w1 := below_step hBz hb1
        have hz1 : w1.heap[wr.heap.size]? = some (.cells #[.int .u64 0, .int .i64 0, .int .i64 0, .slice none 0 0] 25 (0, 0)) := (hb1.block _ (blk_lt hz0)).trans hz0
        refine hK _ _ _ (fun _ h => h) hBa ?_
        clear hK K
        unfold recV
        go_simp
        have z0 := cell_of_row _ _ 0 _ _ _ hz1
        have z1 := cell_of_row _ _ 1 _ _ _ hz1
        have z2 := cell_of_row _ _ 2 _ _ _ hz1
        have z3 := cell_of_row _ _ 3 _ _ _ hz1
        have f0 := frozen_of_row _ _ 0 _ _ hz1
        have f1 := frozen_of_row _ _ 1 _ _ hz1
        have f2 := frozen_of_row _ _ 2 _ _ hz1
        have f3 := frozen_of_row _ _ 3 _ _ hz1
        simp at z0 z1 z2 z3
        iterate 4 (apply plan_take rfl rfl; (case hy => (intro w' hS; clear hS; go_simp; try exact rfl)); go_simp)
        refine plan_run_on rfl rfl (fun K hK => ?_)
        go_simp
        have hBn := below4 hBa (Nat.le_refl _) (.int .u64 (V.getD noR).gen) (.int .i64 (V.getD noR).at_) (.int .i64 (V.getD noR).kind) (.slice A1 (V.getD noR).bytes.length c1)
        refine hK _ _ _ (fun _ h => h) hBn ?_
        clear hK K
        go_simp
        iterate 2 (apply plan_take rfl rfl; (case hy => (intro w' hS; clear hS; go_simp; try exact rfl)); go_simp)
        refine plan_done ?_
        have hbx := set4 hz1 (.int .u64 (V.getD noR).gen) (.int .i64 (V.getD noR).at_) (.int .i64 (V.getD noR).kind) (.slice A1 (V.getD noR).bytes.length c1)
        have hRow : KB.R 5 (W4s w1 wr.heap.size (.int .u64 (V.getD noR).gen) (.int .i64 (V.getD noR).at_) (.int .i64 (V.getD noR).kind) (.slice A1 (V.getD noR).bytes.length c1)) B (fun k => B ≤ k) (.slice A1 (V.getD noR).bytes.length c1) (V.getD noR).bytes :=
          R_W4r (Kd.R_lower (Kd.R_mono hR1 (fun k hk => Nat.le_trans hRI.sz (Nat.le_trans hBz.size hk))) (Nat.le_trans hRI.sz hBz.size)) hz1 _ _ _ _
        have hbxs : wr.heap.size ≤ wr.heap.size := Nat.le_refl _
        clear hb1 hR1 hBa hBz hz0 hDz z0 z1 z2 z3 f0 f1 f2 f3 hz1
        have hW4 : W4s w1 wr.heap.size (.int .u64 (V.getD noR).gen) (.int .i64 (V.getD noR).at_) (.int .i64 (V.getD noR).kind) (.slice A1 (V.getD noR).bytes.length c1) = (((w1.setCell ⟨wr.heap.size, 0, none⟩ (.int .u64 (V.getD noR).gen)).setCell ⟨wr.heap.size, 1, none⟩ (.int .i64 (V.getD noR).at_)).setCell ⟨wr.heap.size, 2, none⟩ (.int .i64 (V.getD noR).kind)).setCell ⟨wr.heap.size, 3, none⟩ (.slice A1 (V.getD noR).bytes.length c1) := rfl
        rw [← hW4]
        clear hW4
        generalize W4s w1 wr.heap.size (.int .u64 (V.getD noR).gen) (.int .i64 (V.getD noR).at_) (.int .i64 (V.getD noR).kind) (.slice A1 (V.getD noR).bytes.length c1) = wN at hBn hbx hRow ⊢
        obtain ⟨bx, hbxe⟩ : ∃ bx, bx = wr.heap.size := ⟨_, rfl⟩
        rw [← hbxe] at hbx ⊢
        have hbxs : wr.heap.size ≤ bx := by omega
        clear hbxe
        have hRIn := hRI.below hF hBn
        have hJn : J xs wN := hJ xs wr wN none hJr (grown_of_below hBn) (fun _ e => by cases e)
        have hbxC : isC wN bx := ⟨_, _, hbx⟩
        have hown : ¬ OwnL lb wN bx := fun ho => by
          have := (hRI.own bx (ho.back hBn (by have := hF.fl; have := hRI.sz; omega))).2
          omega
        have hbxb : bx ≠ hb ∧ bx ≠ lb := by have := hF.fh; have := hF.fl; have := hRI.sz; exact ⟨by omega, by omega⟩
        cases V with
        | none =>
          clear hbx hRow hbxC hown
          gi_wp2_with fail
          rename_i hk _ _ _ _
          refine ⟨(fun _ h => by cases h), hk _ _ ?_⟩
          clear hk
          gi_wp2_with fail
          refine bodyPost_ret (results_none rfl _ _ _) rfl ?_
          exact ⟨⟨_, rfl⟩, xs, by rw [← HX.out, recsAt_stop (.inr HV.out)]; simp, hJn⟩
        | some r =>
          have hgot := readV_got hRI.d.1 HV.out
          simp only [Option.getD_some, Option.isSome_some] at hbx hRow hle ⊢
          obtain ⟨fn, tmps, assign, body, hy, hR⟩ := hY xs (r, A1, c1) wN hJn ⟨hRow, hle, hgot.l⟩ (by have := tailOf_len (xs.map (·.1)); rw [List.length_map, HXA.out] at this; omega)
          dsimp only [encR, recV] at hy
          have q0 := cell_of_row _ _ 0 _ _ _ hbx
          have q1 := cell_of_row _ _ 1 _ _ _ hbx
          have q2 := cell_of_row _ _ 2 _ _ _ hbx
          have q3 := cell_of_row _ _ 3 _ _ _ hbx
          simp at q0 q1 q2 q3
          gi_wp2_with fail
          refine hR.mono ?_
          rintro e W8 ⟨rfl, hJ8, hk8⟩
          have hbx8 := (hk8.same bx hbxC hbxb.1 hbxb.2 hown).trans hbx
          have q83 := cell_of_row _ _ 3 _ _ _ hbx8
          simp at q83
          have hRI8 := hRIn.keep hF hk8
          have s8 : W.heap.size ≤ W8.heap.size := Nat.le_trans hsz (Nat.le_trans hBn.size hk8.grow)
          have hnd := need_any (w := W8) (r.bytes.length : Int) (by have := hgot.l; omega)
          rw [need_bodies hgot.l] at hnd
          have hfit := hgot.fit
          have hrel := recsM_at (xs.map (·.1)) (by rw [HXA.out]; exact HX.out) (by rw [HXA.out]; exact hlt) (by rw [HXA.out]; exact HV.out)
          have hlr : (xs ++ [((r, A1, c1) : XR)]).map (·.1) = xs.map (·.1) ++ [r] := by simp
          rw [← hlr] at hrel
          have htl : tailOf ((xs ++ [((r, A1, c1) : XR)]).map (·.1)) = a + (bodies r + 1) := by rw [hlr, tailOf_snoc, HXA.out]
          have HREL := hid (And.intro hrel htl)
          have hwS : IntKind.i64.wrap ((a : Int) + ((bodies r : Int) + 1)) = (a : Int) + ((bodies r : Int) + 1) := by rw [IntKind.wrap_i64]; omega
          have hfitN : a + (bodies r + 1) ≤ size := by omega
          clear hR hy hrel htl hlr hbx hRow q0 q1 q2 q3 hbx8 hbxC hown hRIn hgot
          gi_wp2_with fail
          refine ⟨trivial, callsIn_wide.2 (hnd.mono ?_)⟩
          rintro e W9 ⟨rfl, rfl⟩
          gi_wp2_with fail
          go_roundw
          case rel => exact ⟨xs ++ [(r, A1, c1)], by rw [HREL.out.2]; rfl, HREL.out.1, by rw [HREL.out.2]; exact hfitN, hJ8, hRI8, s8⟩
          case measure => simp [intOf]; omega
    · have hltI : ¬ (a : Int) < (size : Int) := by omega
      gi_wp2_with fail
      go_end0
      exact ⟨⟨_, rfl⟩, xs, by rw [← HX.out, recsAt_stop (.inl hlt)]; simp, hJr⟩
end Go.Proofs.Ytekhmkfiepnnkaa

set_option linter.unusedVariables false
set_option linter.unusedSimpArgs false
namespace Go.Proofs.Ytekhmkfiepnnkaa
open Go.RowKit Go.Shelf Go.Proofs.YtekhmkfiepnnkaaW.PrintWords Go.Proofs.YtekhmkfiepnnkaaW.PrintMore
attribute [local go_sem] Oper.semAt_some

theorem info_Rec : (Try.prog.info? 25).map (fun i => (i.zero, i.size, i.bytes)) = some (some (.agg #[.int .u64 0, .int .i64 0, .int .i64 0, .slice none 0 0]), 4, 48) := by kernel_rfl
theorem KRec_M {w : World} {base : Nat} {ok : Nat → Prop} {r : SR} {A : Option Addr} {c : Nat} (h : KB.R 5 w base ok (.slice A r.bytes.length c) r.bytes) : KRec.M w base ok r (r.cells A c) :=
  ⟨[.int .u64 r.gen], [.int .i64 r.at_, .int .i64 r.kind, .slice A r.bytes.length c], rfl, rfl, [.int .i64 r.at_], [.int .i64 r.kind, .slice A r.bytes.length c], rfl, rfl, [.int .i64 r.kind], [.slice A r.bytes.length c], rfl, rfl, _, rfl, h⟩
section
variable {F : Fence} {nF : Nat} {P : Program} {ops : Array Oper} {rest : List Oper} {o : Oper} {a : Act} {Q : Exit → Act → World → Prop} {α : Type}
/-- An append to a row, in a walk with a fence. -/
theorem R_append_in (d : Kd α) {W : World} (base : Nat) (hgd : o.guard = none) (s x : Operand) (t e : TypeId) (z : Value) (bytes : Nat)
    (ho : o.op = .call { callee := .builtin .append, args := #[s, x], argTypes := #[t, t] })
    (ht : P.underlying t = some (.slice e)) (hinfo : (P.info? e).map (fun i => (i.zero, i.size, i.bytes)) = some (some z, d.sz, bytes)) (hz : z.cells.size = d.sz) (hs0 : 0 < d.sz) (hb0 : 0 < bytes)
    (v : Value) (xs : List α) (p : α) (cs : List Value) (ok okp : Nat → Prop) (hs : a.eval s = v) (hx : a.eval x = .slice (some ⟨W.heap.size, 0, none⟩) 1 1) (hp : d.M W base okp p cs) (hokp : ∀ k, okp k → ok k ∧ some k ≠ v.ownBlock) (hfresh : ∀ k, W.heap.size ≤ k → ok k)
    (HO : d.R e W base ok v xs) (hbase : base ≤ W.heap.size) (hl : (xs.length + 1) * bytes ≤ 140737488355328)
    (h : ∀ v1 w1, d.R e w1 base ok v1 (xs ++ [p]) → W.grownBy w1 v.ownBlock → (v1.ownBlock = v.ownBlock ∨ ∃ b, v1.ownBlock = some b ∧ W.heap.size ≤ b) → wpListIn F nF P ops Q rest (a.put o.dst v1) w1) :
    wpListIn F nF P ops Q (o :: rest) a (W.alloc (.cells cs.toArray e)) := by
  obtain ⟨h0, inner, hown, hr⟩ := HO
  obtain ⟨i0, hi, hzz⟩ := Option.map_eq_some_iff.1 hinfo
  simp only [Prod.mk.injEq] at hzz
  obtain ⟨hz0, hz1, hz2⟩ := hzz
  have hlen : xs.length + 1 ≤ 140737488355328 := Nat.le_trans (Nat.le_mul_of_pos_right _ hb0) hl
  refine wpListIn_append_own_at (w := W.alloc (.cells cs.toArray e)) hgd s x t ho base e i0 z d.sz bytes ht hi hz0 hz1 hz2 hz hs0 v xs.length inner hs (hown.alloc _) ⟨W.heap.size, 0, none⟩ 1 1 cs hx (by rw [d.K_len (d.K_of_M hp)]; simp)
    (by simpa using World.news_of_block (cs := cs.toArray) (t := e) (fr := (0, 0)) (heap_alloc_new W (.cells cs.toArray e))) (d.K_one (d.K_of_M hp)) (by simp only [maxLen]; omega) hl (by simp; omega) ?_
  intro v1 w1 hown1 hg _ hat
  have hg2 := World.grownBy.trans (World.grownBy_alloc W (.cells cs.toArray e) v.ownBlock) hg
  have hat2 : v1.ownBlock = v.ownBlock ∨ ∃ b, v1.ownBlock = some b ∧ W.heap.size ≤ b := by
    rcases hat with hat | hat
    · exact .inl hat
    · exact .inr ⟨_, hat, by simp⟩
  exact h v1 w1 (Kd.R_appended h0 hr hp hokp hfresh hown1 hg2 hat2) hg2 hat2
end
/-- Block g is not the row's own. -/
def NotL (lb g : Nat) (W : World) : Prop := ∃ v, W.heap[lb]? = some (.cells #[v] 89 (0, 0)) ∧ some g ≠ v.ownBlock
theorem NotL.turn {lb g : Nat} {W W' : World} (h : NotL lb g W) {row : Option Nat} (hg : W.grownBy W' row) (hr : ∀ r, row = some r → ∃ o : Obj, W.heap[r]? = some o ∧ o.isCells = false) : NotL lb g W' := by
  obtain ⟨v, h1, h2⟩ := h
  exact ⟨v, (turn_cells hg hr ⟨_, _, h1⟩).trans h1, h2⟩
/-- What stands after some rounds of Open. -/
structure OI (w : World) (lb hb p xb B : Nat) (base size gen : Int) (l : List SR) (W : World) : Prop where
  row : ∃ v, W.heap[lb]? = some (.cells #[v] 89 (0, 0)) ∧ KRec.R 25 W B (fun k => B ≤ k) v l
  h : HBlk W hb p ⟨base, size, gen, (tailOf l : Int), (l.length : Int)⟩
  x : W.heap[xb]? = some (.cells #[.pointer (some ⟨hb, 0, none⟩)] 79 (0, 0))
  bel : Below w.heap.size w W
  sz : B ≤ W.heap.size
  few : tailOf l ≤ l.length * 3000
theorem OI.turn {w W W' : World} {lb hb p xb B : Nat} {base size gen : Int} {l : List SR} (h : OI w lb hb p xb B base size gen l W) {row : Option Nat} (hg : W.grownBy W' row) (hr : ∀ r, row = some r → w.heap.size ≤ r ∧ ∃ o : Obj, W.heap[r]? = some o ∧ o.isCells = false) : OI w lb hb p xb B base size gen l W' := by
  obtain ⟨⟨v, h1, h2⟩, h3, h4, h5, h6, h7⟩ := h
  have ht : ∀ k, isC W k → W'.heap[k]? = W.heap[k]? := fun k hk => turn_cells hg (fun r e => (hr r e).2) hk
  refine ⟨⟨v, (ht _ ⟨_, _, h1⟩).trans h1, ?_⟩, h3.step (ht _ ⟨_, _, h3⟩), (ht _ ⟨_, _, h4⟩).trans h4, h5.trans ⟨hg.os, hg.tape, hg.output, hg.size, fun k hk => hg.block k (by have := h5.size; omega) (fun e => by have := (hr k e.symm).1; omega)⟩, Nat.le_trans h6 hg.size, h7⟩
  refine Kd.R_mono (Kd.R_step (Kd.R_bound h2) (fun k hk _ => ht k ?_)) (fun k hk => hk.1)
  obtain ⟨_, _, _, q, _, cs, hc⟩ := hk
  exact ⟨_, _, hc⟩
theorem MxR_turn {B : Nat} {x : XR} {W W' : World} (h : MxR B x W) {row : Option Nat} (hg : W.grownBy W' row) (hr : ∀ r, row = some r → ∃ o : Obj, W.heap[r]? = some o ∧ o.isCells = false) : MxR B x W' := by
  refine ⟨?_, h.2⟩
  refine Kd.R_mono (Kd.R_step (Kd.R_bound h.1) (fun k hk _ => turn_cells hg hr ?_)) (fun k hk => hk.1)
  obtain ⟨_, _, _, q, _, cs, hc⟩ := hk
  exact ⟨_, _, hc⟩
theorem OI.fresh {w W : World} {lb hb p xb B : Nat} {base size gen : Int} {l : List SR} (h : OI w lb hb p xb B base size gen l W) (o : Obj) : NotL lb W.heap.size (W.alloc o) := by
  obtain ⟨⟨v, h1, h2⟩, h3, h4, h5, h6, h7⟩ := h
  refine ⟨v, (Below.heap_alloc W o lb (blk_lt h1)).trans h1, fun hm => ?_⟩
  obtain ⟨cs, hc⟩ := Kd.R_typed h2 _ hm.symm
  have := blk_lt hc
  omega
theorem KpH_putObj {lb hb p l : Nat} {base size gen : Int} {W : World} {o o' : Obj} (h1 : lb < l) (h2 : hb < l) (hl : W.heap[l]? = some o) (ho : o.isCells = false) : KpH lb hb p base size gen W (W.putObj l o') := by
  refine ⟨by simp, fun k hk _ _ _ => World.putObj_heap_other (fun e => ?_), fun k hk => ?_, fun t n hh => ⟨t, n, hh.step (World.putObj_heap_other (by omega))⟩⟩
  · obtain ⟨cs, q, hc⟩ := hk
    rw [e] at hc
    rw [hc] at hl
    cases hl
    cases ho
  · obtain ⟨v, t, q1, q2⟩ := hk
    have : OwnL lb W k := ⟨v, t, (World.putObj_heap_other (by omega)).symm.trans q1, q2⟩
    exact ⟨.inl this, .inr this⟩
theorem KpH_alloc {lb hb p : Nat} {base size gen : Int} {W : World} (h1 : lb < W.heap.size) (h2 : hb < W.heap.size) (o : Obj) : KpH lb hb p base size gen W (W.alloc o) := by
  refine ⟨by simp, fun k hk _ _ _ => Below.heap_alloc _ _ _ (isC_lt hk), fun k hk => ?_, fun t n hh => ⟨t, n, hh.step (Below.heap_alloc _ _ _ h2)⟩⟩
  obtain ⟨v, t, q1, q2⟩ := hk
  have : OwnL lb W k := ⟨v, t, (Below.heap_alloc _ _ _ h1).symm.trans q1, q2⟩
  exact ⟨.inl this, .inr this⟩
/-- A plan whose region cannot but run to its end. -/
theorem wpIn_plan_normal {P : Program} {n : Nat} {ops : Array Oper} {Q : Exit → Act → World → Prop} {id : Nat} {a : Act} {w : World} (T : List Nat) (p : Plan) (S : World → Prop) (hm : P.follows .mixedOrders = true) (hB : planB ops T p = true)
    (hS : S w.drew) (h : wpPlan P ops (fun e a w => e = Exit.normal ∧ Q e a w) p S a w.drew) : (Code.region id ops true).wpIn Fence.wide n P Q a w :=
  wpIn_mono (wpIn_wide.2 (wp_region_plan T p S hm hB (fun _ _ _ _ _ h => by cases h.1) hS h)) (fun e a w h => h.2)
end Go.Proofs.Ytekhmkfiepnnkaa

set_option linter.unusedVariables false
set_option linter.unusedSimpArgs false
namespace Go.Proofs.Ytekhmkfiepnnkaa
open Go.RowKit Go.Shelf Go.Proofs.YtekhmkfiepnnkaaW.PrintWords Go.Proofs.YtekhmkfiepnnkaaW.PrintMore
attribute [local go_sem] Oper.semAt_some

/-- What Open hands out. -/
def Opened (w : World) (p : Nat) (D : DM) (base size : Nat) (gen : Int) (e : Ending) (w' : World) : Prop :=
  ∃ hb A c, e = .returned (.tuple #[.pointer (some ⟨hb, 0, none⟩), .slice A (recsM D base size gen).length c, .int .i64 0]) ∧ w.heap.size ≤ hb ∧ HBlk w' hb p ⟨base, size, gen, (tailOf (recsM D base size gen) : Int), ((recsM D base size gen).length : Int)⟩ ∧
    KRec.R 25 w' w.heap.size (fun k => w.heap.size ≤ k) (.slice A (recsM D base size gen).length c) (recsM D base size gen) ∧ Below w.heap.size w w'
set_option maxRecDepth 100000 in
set_option maxHeartbeats 8000000 in
theorem hopen_ok {w : World} {ok : Nat → Prop} {p : Nat} {D : DM} (h : PDisk w ok p D) (base size : Nat) (gen : Int) (he : hnewE D base size gen = 0) (hg : D.gone = false) :
    Calls Try.prog 44 #[.pointer (some ⟨p, 0, none⟩), .int .i64 base, .int .i64 size, .int .u64 gen] w (Opened w p D base size gen) := by
  have hnw := hnew_ok h base size gen he
  have hn4 := h.1.hi
  have hbs : base + size ≤ D.n ∧ 0 < size := by
    unfold hnewE at he
    split at he
    · cases he
    · rename_i hh; omega
  have hd0 : PDisk w (fun k => ok k ∧ k < w.heap.size) p D := h.cells.mono (fun _ hc => ⟨hc.1, isC_lt hc.2⟩)
  refine (callsIn_wide (n := 2)).1 (callsIn_of_wp_marks Try.func44 rfl trivial ?_ rfl)
  simp only [Try.ntmps44, List.size_toArray, List.length_cons, List.length_nil, Nat.reduceAdd, Nat.reduceSub, Array.replicate_succ, Array.replicate_zero, List.push_toArray, List.append_toArray, List.nil_append, List.cons_append]
  gi_wp2_with fail
  refine ⟨trivial, callsIn_wide.2 (hnw.mono ?_)⟩
  rintro e w1 ⟨rfl, hh1, hb1⟩
  have hs1 : w.heap.size < w1.heap.size := hh1.lt
  have hx2 := heap_alloc_new w1 (.cells #[.pointer (some ⟨w.heap.size, 0, none⟩)] 79)
  have hb2 : Below w.heap.size w (w1.alloc (.cells #[.pointer (some ⟨w.heap.size, 0, none⟩)] 79)) := below_step hb1 (below_alloc (Below.refl _ _) _)
  have hh2 : HBlk (w1.alloc (.cells #[.pointer (some ⟨w.heap.size, 0, none⟩)] 79)) w.heap.size p ⟨base, size, gen, 0, 0⟩ := hh1.step (Below.heap_alloc _ _ _ hs1)
  have hs2 : (w1.alloc (.cells #[.pointer (some ⟨w.heap.size, 0, none⟩)] 79)).heap.size = w1.heap.size + 1 := World.size_alloc _ _
  have hdd := dead_any (h.step (w1 := w1.alloc (.cells #[.pointer (some ⟨w.heap.size, 0, none⟩)] 79)) (fun k _ hk => hb2.block k hk))
  rw [hg] at hdd
  generalize hw2 : w1.alloc (.cells #[.pointer (some ⟨w.heap.size, 0, none⟩)] 79) = w2 at hx2 hb2 hh2 hs2 hdd
  have hs2b := And.intro (Nat.le_of_eq hs2) (Nat.le_of_eq hs2.symm)
  have HW2 := hid hw2
  clear hs2 hw2 hnw he hh1 hb1
  gi_wp2_with fail
  rw [HW2.out]
  refine ⟨trivial, callsIn_wide.2 (hdd.mono ?_)⟩
  rintro e w2' ⟨rfl, rfl⟩
  clear hdd HW2
  have hl3 := heap_alloc_new w2 (.cells #[.slice none 0 0] 89)
  have hb23 := below_alloc (Below.refl w2.heap.size w2) (.cells #[.slice none 0 0] 89)
  have hx3 := (hb23.block _ (blk_lt hx2)).trans hx2
  have hh3 := hh2.step (hb23.block _ hh2.lt)
  have hb3 := below_step hb2 hb23
  have hs3 : (w2.alloc (.cells #[.slice none 0 0] 89)).heap.size = w2.heap.size + 1 := World.size_alloc _ _
  have hs3b := And.intro (Nat.le_of_eq hs3) (Nat.le_of_eq hs3.symm)
  have k1 := cell_of_row _ _ 0 _ _ _ hx3
  simp at k1
  clear hb23 hx2 hh2 hb2 hs3
  have HB3 := hid (And.intro hl3 (And.intro hx3 (And.intro hh3 (And.intro hb3 hs3b))))
  clear hl3 hx3 hh3 hb3 hs3b
  gi_wp2_with fail
  refine ⟨trivial, callsIn_wide.2 ((records_any _).mono ?_)⟩
  rintro e w4 ⟨rfl, hw4⟩
  obtain ⟨hl3, hx3, hh3, hb3, hs3b⟩ := HB3.out
  clear HB3 k1
  generalize w2.alloc (.cells #[.slice none 0 0] 89) = w3 at hl3 hx3 hh3 hb3 hs3b hw4 ⊢
  have hr4 := heap_alloc_new w3 (.cells #[.pointer (some ⟨w.heap.size, 0, none⟩)] 79)
  have hb34 := below_alloc (Below.refl w3.heap.size w3) (.cells #[.pointer (some ⟨w.heap.size, 0, none⟩)] 79)
  have hs4 : (w3.alloc (.cells #[.pointer (some ⟨w.heap.size, 0, none⟩)] 79)).heap.size = w3.heap.size + 1 := World.size_alloc _ _
  rw [← hw4] at hr4 hb34 hs4
  have hs4b := And.intro (Nat.le_of_eq hs4) (Nat.le_of_eq hs4.symm)
  have hl4 := (hb34.block _ (blk_lt hl3)).trans hl3
  have hx4 := (hb34.block _ (blk_lt hx3)).trans hx3
  have hh4 := hh3.step (hb34.block _ hh3.lt)
  have hb4 := below_step hb3 hb34
  have hd4 := hd0.step (w1 := w4) (fun k _ hk => hb4.block k hk)
  clear hb34 hl3 hx3 hh3 hb3 hw4 hs4
  have hF : Fx w2.heap.size w3.heap.size w.heap.size w4.heap.size (fun k => ok k ∧ k < w.heap.size) := ⟨by omega, by omega, by omega, by omega, by omega, by omega, fun k hk => ⟨by omega, by omega, by omega⟩⟩
  have hRI : RI w2.heap.size w3.heap.size w.heap.size p w4.heap.size (fun k => ok k ∧ k < w.heap.size) D base size gen w4 := ⟨hr4, ⟨_, _, hh4⟩, hd4, (fun k hk => by
    obtain ⟨v, t, q1, q2⟩ := hk
    rw [hl4] at q1
    cases q1
    cases q2), Nat.le_refl _⟩
  have hseq := records_in hF hRI hbs.1 hg
  have hI0 : OI w w2.heap.size w.heap.size p w1.heap.size w4.heap.size base size gen [] w4 := ⟨⟨_, hl4, Kd.R_nil _ _ _ _ _⟩, hh4, hx4, hb4, Nat.le_refl _, Nat.le_refl _⟩
  have HN := hid (And.intro hs2b (And.intro hs3b hs4b))
  have HF := hid hF
  clear hRI hl4 hx4 hh4 hb4 hd4 hr4 hs2b hs3b hs4b hd0 h hF
  gi_wp2_with fail
  refine wpIn_range_mem (α := XR) (n := 2) (w := w4) rfl (by decide) (gf := 88) (lb := #[.pointer (some ⟨w3.heap.size, 0, none⟩)]) rfl trivial (enters_of Try.func88 (by kernel_rfl) rfl)
    hseq (fun a b => a.trans b) (fun W l o o' hl ho hc _ => KpH_putObj (by have := HN.out; omega) (by have := HN.out; omega) ho hc) (Below.refl _ _) (fun _ => rfl)
    (fun x s X Y row hs hgr hr => MxR_turn hs hgr (fun r e => (hr r e).2))
    (fun xs W => OI w w2.heap.size w.heap.size p w1.heap.size w4.heap.size base size gen (xs.map (fun z : XR => z.1)) W)
    (fun s X Y row hs hgr hr => OI.turn hs hgr (fun r e => ⟨by have := (hr r e).1; have := HN.out; omega, (hr r e).2⟩))
    hI0
    (fun x a' W => ∃ Bx, w4.heap.size ≤ Bx ∧ W.heap[Bx]? = some (.cells #[.int .u64 x.1.gen, .int .i64 x.1.at_, .int .i64 x.1.kind, .slice x.2.1 x.1.bytes.length x.2.2] 25 (0, 0)) ∧ NotL w2.heap.size Bx W ∧ a' = { tmps := #[.pointer (some ⟨p, 0, none⟩), .int .i64 base, .int .i64 size, .int .u64 gen, undef, undef, undef, undef, .pointer none, .slice none 0 0, .int .i64 0, .pointer (some ⟨w1.heap.size, 0, none⟩), .int .i64 0, .pointer (some ⟨w2.heap.size, 0, none⟩), .pointer (some ⟨Bx, 0, none⟩), .tuple #[.pointer (some ⟨w.heap.size, 0, none⟩), .int .i64 0], .pointer (some ⟨p, 0, none⟩), .int .i64 base, .int .i64 size, .int .u64 gen, .tuple #[.pointer (some ⟨w.heap.size, 0, none⟩), .int .i64 0], .pointer (some ⟨w.heap.size, 0, none⟩), .int .i64 0, .int .i64 0, .bool false, undef, .pointer (some ⟨p, 0, none⟩), .bool false, .pointer (some ⟨w.heap.size, 0, none⟩), .func (.func 88) #[] #[.pointer (some ⟨w3.heap.size, 0, none⟩)], .agg #[.int .u64 x.1.gen, .int .i64 x.1.at_, .int .i64 x.1.kind, .slice x.2.1 x.1.bytes.length x.2.2], undef, undef, undef, undef, undef, undef, undef, undef, undef, undef, undef, undef, undef, undef, undef, undef, undef, undef, undef, undef, undef, undef, undef, undef], defers := [] })
    (fun x a' s X Y row hs hgr hr => by obtain ⟨Bx, e1, e2, e3, e4⟩ := hs; exact ⟨Bx, e1, (turn_cells hgr (fun r e => (hr r e).2) ⟨_, _, e2⟩).trans e2, e3.turn hgr (fun r e => (hr r e).2), e4⟩)
    ?assign ?body ?done
  case assign =>
    rintro l pre ⟨r, A1, c1⟩ W K hI hM hK
    dsimp only [encR, recV]
    gi_wp2
    exact hK _ _ ((KeepsOthers.alloc _ _).from _) (KpH_alloc (by have := hI.sz; have := HF.out.fl; omega) (by have := hI.sz; have := HF.out.fh; omega) _) (OI.turn hI (World.grownBy_alloc W _ none) (fun r e => by cases e)) (MxR_turn hM (World.grownBy_alloc W _ none) (fun r e => by cases e)) ⟨W.heap.size, hI.sz, heap_alloc_new _ _, OI.fresh hI _, rfl⟩
  case body =>
    rintro l pre ⟨r, A1, c1⟩ a' W hl0 hI hM ⟨Bx, hBx, hbx, ⟨v, hbo, hne⟩, rfl⟩ hlt
    obtain ⟨hM1, hM2, hM3⟩ := hM
    dsimp only at hbx hM1 hM2 hM3 ⊢
    obtain ⟨⟨v', hbo', hR⟩, hh, hx, hbel, hsz, hfew⟩ := hI
    obtain rfl : v' = v := by rw [hbo'] at hbo; cases hbo; rfl
    have hFx := HF.out
    have hm1 := hFx.fl
    have hm2 := hFx.fh
    have hmx : w1.heap.size < w4.heap.size ∧ w1.heap.size ≠ w2.heap.size ∧ w1.heap.size ≠ w.heap.size ∧ w.heap.size < w2.heap.size := by have := HN.out; omega
    have hbse := Kd.R_base hR
    have hRr : KB.R 5 W w4.heap.size (fun k => w4.heap.size ≤ k ∧ some k ≠ v'.ownBlock) (.slice A1 r.bytes.length c1) r.bytes := by
      refine Kd.R_mono (Kd.R_bound hM1) (fun k hk => ⟨hk.1, ?_⟩)
      obtain ⟨_, _, _, q, hq, cs, hc⟩ := hk
      have hq2 : q ∈ [5] := hq
      obtain rfl := List.mem_singleton.1 hq2
      exact Kd.R_ne hR hc (by decide)
    have hcv : W.cell? ⟨w2.heap.size, 0, none⟩ = some v' := by have := cell_of_row _ _ 0 _ _ _ hbo; simpa using this
    have q0 := cell_of_row _ _ 0 _ _ _ hbx
    have q1 := cell_of_row _ _ 1 _ _ _ hbx
    have q2 := cell_of_row _ _ 2 _ _ _ hbx
    have q3 := cell_of_row _ _ 3 _ _ _ hbx
    simp at q0 q1 q2 q3
    obtain ⟨ls, hls⟩ : ∃ ls, ls = pre.map (fun z : XR => z.1) := ⟨_, rfl⟩
    rw [← hls] at hR hh hfew
    have hlen : ls.length = pre.length := by rw [hls, List.length_map]
    have HLS := hid (And.intro hls hlen)
    have hlsb : ls.length < 4096 := by omega
    clear hls hlen hlt hm1 hm2 hFx hM1
    gi_wp2_with (gi_at_builtin; refine R_append_in KRec w4.heap.size rfl (.tmp 31) (.tmp 33) 89 25 (.agg #[.int .u64 0, .int .i64 0, .int .i64 0, .slice none 0 0]) 48 rfl Try.underlying89 info_Rec rfl (by decide) (by decide) v' ls r (r.cells A1 c1) (fun k => w4.heap.size ≤ k) (fun k => w4.heap.size ≤ k ∧ some k ≠ v'.ownBlock) rfl rfl (KRec_M hRr) (fun k hk => hk) (fun k hk => Nat.le_trans hsz hk) hR hsz (by omega) ?_)
    intro v1 w5 hR5 hg5 hat5
    obtain ⟨A5, c5, rfl⟩ := Kd.R_slice hR5
    obtain ⟨v5, hv5⟩ : ∃ v5, v5 = Value.slice A5 (ls ++ [r]).length c5 := ⟨_, rfl⟩
    rw [← hv5] at hR5 hat5 ⊢
    generalize (ls ++ [r]).length = n5 at hv5
    have hm := HF.out
    have hm1 := hm.fl
    have hm2 := hm.fh
    have hblk : ∀ q, q < W.heap.size → some q ≠ v'.ownBlock → w5.heap[q]? = W.heap[q]? := fun q h1 h2 => hg5.block q h1 (fun e => h2 e)
    have nlt : ∀ q, q < w4.heap.size → some q ≠ v'.ownBlock := fun q hq e => by have := hbse q e.symm; omega
    have hbo5 := (hblk _ (blk_lt hbo) (nlt _ hm1)).trans hbo
    have hh5 := hh.step (hblk _ hh.lt (nlt _ hm2))
    have hx5 := (hblk _ (blk_lt hx) (nlt _ hmx.1)).trans hx
    have hbx5 := (hblk _ (blk_lt hbx) hne).trans hbx
    have hl6 := heap_setCell_same w5 w2.heap.size 0 _ _ v5 hbo5
    have hh6 : HBlk (w5.setCell ⟨w2.heap.size, 0, none⟩ v5) _ _ _ := hh5.step (Below.heap_setCell _ _ _ _ (by show w.heap.size ≠ w2.heap.size; omega))
    have hx6 : (w5.setCell ⟨w2.heap.size, 0, none⟩ v5).heap[w1.heap.size]? = _ := (Below.heap_setCell _ _ _ _ (by show w1.heap.size ≠ w2.heap.size; omega)).trans hx5
    have hbx6 : (w5.setCell ⟨w2.heap.size, 0, none⟩ v5).heap[Bx]? = _ := (Below.heap_setCell _ _ _ _ (by show Bx ≠ w2.heap.size; omega)).trans hbx5
    obtain ⟨T, hT⟩ : ∃ T : Int, ((tailOf (ls ++ [r]) : Nat) : Int) = T := ⟨_, rfl⟩
    obtain ⟨N, hN⟩ : ∃ N : Int, (((ls ++ [r]).length : Nat) : Int) = N := ⟨_, rfl⟩
    have hbod : bodies r + 1 ≤ 3000 := by unfold bodies; omega
    have hwT : IntKind.i64.wrap (((tailOf ls : Nat) : Int) + ((bodies r : Int) + 1)) = T := by
      rw [← hT, tailOf_snoc, IntKind.wrap_i64]; omega
    have hwN : IntKind.i64.wrap ((ls.length : Int) + 1) = N := by
      rw [← hN, List.length_append, List.length_singleton, IntKind.wrap_i64]; omega
    have hfew2 : tailOf (ls ++ [r]) ≤ (ls ++ [r]).length * 3000 := by rw [tailOf_snoc, List.length_append, List.length_singleton]; omega
    have hh7 : HBlk ((w5.setCell ⟨w2.heap.size, 0, none⟩ v5).setCell ⟨w.heap.size, 4, none⟩ (.int .i64 T)) _ _ _ := hh6.setTail T
    have hh8 := hh7.setN N
    have k7x : ((w5.setCell ⟨w2.heap.size, 0, none⟩ v5).setCell ⟨w.heap.size, 4, none⟩ (.int .i64 T)).heap[w1.heap.size]? = _ := (Below.heap_setCell (w5.setCell ⟨w2.heap.size, 0, none⟩ v5) ⟨w.heap.size, 4, none⟩ (.int .i64 T) w1.heap.size (by show w1.heap.size ≠ w.heap.size; omega)).trans hx6
    have hch : Chg (fun q => some q = v'.ownBlock ∨ q = w2.heap.size ∨ q = w.heap.size) W (((w5.setCell ⟨w2.heap.size, 0, none⟩ v5).setCell ⟨w.heap.size, 4, none⟩ (.int .i64 T)).setCell ⟨w.heap.size, 5, none⟩ (.int .i64 N)).drew :=
      ((((((Chg.refl _ W).grown hg5 (fun q e => .inl (.inl e.symm))).setCell (p := ⟨w2.heap.size, 0, none⟩) (.inl (.inr (.inl rfl))) v5)).setCell (p := ⟨w.heap.size, 4, none⟩) (.inl (.inr (.inr rfl))) (.int .i64 T)).setCell (p := ⟨w.heap.size, 5, none⟩) (.inl (.inr (.inr rfl))) (.int .i64 N)).drew
    have hset : ∀ q, q ≠ w2.heap.size → q ≠ w.heap.size → (((w5.setCell ⟨w2.heap.size, 0, none⟩ v5).setCell ⟨w.heap.size, 4, none⟩ (.int .i64 T)).setCell ⟨w.heap.size, 5, none⟩ (.int .i64 N)).drew.heap[q]? = w5.heap[q]? := fun q h1 h2 =>
      (Below.heap_setCell _ ⟨w.heap.size, 5, none⟩ _ q h2).trans ((Below.heap_setCell _ ⟨w.heap.size, 4, none⟩ _ q h2).trans (Below.heap_setCell w5 ⟨w2.heap.size, 0, none⟩ v5 q h1))
    have hl8 : (((w5.setCell ⟨w2.heap.size, 0, none⟩ v5).setCell ⟨w.heap.size, 4, none⟩ (.int .i64 T)).setCell ⟨w.heap.size, 5, none⟩ (.int .i64 N)).drew.heap[w2.heap.size]? = _ :=
      (Below.heap_setCell _ ⟨w.heap.size, 5, none⟩ _ w2.heap.size (by show w2.heap.size ≠ w.heap.size; omega)).trans ((Below.heap_setCell _ ⟨w.heap.size, 4, none⟩ _ w2.heap.size (by show w2.heap.size ≠ w.heap.size; omega)).trans hl6)
    have hR8 := Kd.R_step hR5 (fun q hq _ => hset q (by omega) (by omega))
    have hKP := hid (show KpH w2.heap.size w.heap.size p base size gen W _ from ⟨hch.size, fun k hk n1 n2 no => hch.block k (isC_lt hk) (by
        rintro (e | e | e)
        · exact no ⟨v', _, hbo, e.symm⟩
        · exact n2 e
        · exact n1 e), fun k hk => by
      obtain ⟨u, t, a1, a2⟩ := hk
      rw [hl8] at a1
      cases a1
      refine ⟨?_, ?_⟩
      · rcases hat5 with e | ⟨b, e1, e2⟩
        · exact .inl ⟨v', _, hbo, e ▸ a2⟩
        · rw [e1] at a2; cases a2; exact .inr e2
      · obtain ⟨cs, hcs⟩ := Kd.R_typed hR8 k a2
        exact .inl (blk_lt hcs), fun t n _ => ⟨_, _, hh8⟩⟩)
    have hKF := hid (KeepsFrom.of_chg (B := w4.heap.size) hch (fun q hq => by
      rcases hq with e | rfl | rfl
      · obtain ⟨cs, hcs⟩ := Kd.R_typed hR q e.symm; exact ⟨_, _, hcs⟩
      · exact ⟨_, _, hbo⟩
      · exact ⟨_, _, hh⟩))
    have hHH : Hid (OI w w2.heap.size w.heap.size p w1.heap.size w4.heap.size base size gen ((pre ++ [((r, A1, c1) : XR)]).map (fun z : XR => z.1)) (((w5.setCell ⟨w2.heap.size, 0, none⟩ v5).setCell ⟨w.heap.size, 4, none⟩ (.int .i64 T)).setCell ⟨w.heap.size, 5, none⟩ (.int .i64 N)).drew) := hid (by
      rw [List.map_append, ← HLS.out.1]
      show OI w w2.heap.size w.heap.size p w1.heap.size w4.heap.size base size gen (ls ++ [r]) _
      refine ⟨⟨v5, hl8, hR8⟩, ?_, ?_, ?_, Nat.le_trans hsz hch.size, hfew2⟩
      · rw [hT, hN]; exact hh8
      · exact (hset _ (by omega) (by omega)).trans hx5
      · exact hbel.trans (hch.below_ (B := w.heap.size) hbel.size (fun q hq => by
          rcases hq with e | rfl | rfl
          · have := hbse q e.symm; omega
          · omega
          · omega)))
    have kx := cell_of_row _ _ 0 _ _ _ hx6
    have kx7 := cell_of_row _ _ 0 _ _ _ k7x
    have kt := hh6.cell4
    have kn7 := hh7.cell5
    have kb := cell_of_row _ _ 3 _ _ _ hbx6
    have z0 := frozen_of_row _ _ 0 _ _ hbo5
    have kl5 := cell_of_row _ _ 0 _ _ _ hbo5
    have z4 := hh6.free 4
    have z5 := hh7.free 5
    simp at kx kx7 kb kl5
    dsimp only at kt kn7
    have hnb := need_bodies hM3
    have HNB := hid hnb
    clear hnb hT hN hfew2 hbod hlsb hfew hbse hne hblk nlt hset hR8 hl8 hch hRr hM2 hmx hm hm1 hm2 hat5 hg5 hbel hR hh hx hbo' hcv q0 q1 q2 q3 hh7 hh8 k7x hx5 hh5 hbx5
    rw [hv5] at *
    gi_wp2_with fail
    refine wpIn_region_plan [9, 10, 11] (.take 0 (.take 1 (.take 2 (.take 3 (.take 4 (.take 5 (.take 6 (.run 7 (.take 8 (.tail 9 (.tail 10 (.tail 11 .done)))))))))))) (fun w' => w' = (w5.setCell ⟨w2.heap.size, 0, none⟩ (.slice A5 n5 c5)).drew) (by kernel_rfl) (by kernel_rfl) (by kernel_rfl) (by rintro ⟨_, _, h⟩; have h2 : Exit.outgrown = Exit.normal ∧ _ := h; cases h2.1) (fun c a d v w h => h) rfl ?_
    iterate 7 (apply plan_take rfl rfl; (case hy => (intro w' hS; subst hS; go_simp; try exact rfl)); go_simp)
    refine plan_run_on rfl rfl (fun K hK => ?_)
    go_simp
    refine (need_any _ (by omega)).mono ?_
    rintro e w' ⟨rfl, rfl⟩
    rw [HNB.out]
    refine hK _ _ _ (fun _ h => h) rfl ?_
    clear hK K
    go_simp
    apply plan_take rfl rfl
    case hy => (intro w' hS; subst hS; go_simp; try exact rfl)
    go_simp
    refine plan_tail_on rfl rfl (fun K hK => ?_)
    go_simp
    refine hK _ _ ?_
    clear hK K
    refine plan_tail_on rfl rfl (fun K hK => ?_)
    go_simp
    refine hK _ _ ?_
    clear hK K
    refine plan_tail_on rfl rfl (fun K hK => ?_)
    go_simp
    refine hK _ _ (plan_done ?_)
    clear hK K
    gi_wp2_with fail
    exact ⟨hKF.out, hKP.out, by have hq := hHH.out; rw [List.map_append] at hq; exact hq⟩
  case done =>
    rintro D1 xs W hD1 hS hI hK
    rw [hS] at hI
    obtain ⟨⟨v, hbo, hR⟩, hh, hx, hbel, hsz, hfew⟩ := hI
    obtain ⟨A, c, rfl⟩ := Kd.R_slice hR
    have hN := HN.out
    have hI2 : OI w w2.heap.size w.heap.size p w1.heap.size w4.heap.size base size gen (recsM D base size gen) W.drew := ⟨⟨_, hbo, Kd.R_drew hR⟩, hh, hx, hbel.drew, hsz, hfew⟩
    obtain ⟨⟨v3, hbo3, hR3⟩, hh3, hx3, hbel3, hsz3, _⟩ := hI2.turn (grownBy_putObj' W.drew D1 (.deferred none)) (fun q e => by cases e; exact ⟨by omega, _, hK, rfl⟩)
    have e3 : v3 = .slice A (recsM D base size gen).length c := by
      have q5 : (W.drew.putObj D1 (.deferred none)).heap[w2.heap.size]? = _ := (World.putObj_heap_other (by omega)).trans hbo
      rw [q5] at hbo3
      cases hbo3
      rfl
    subst e3
    have kx := cell_of_row _ _ 0 _ _ _ hx
    have kl := cell_of_row _ _ 0 _ _ _ hbo
    simp at kx kl
    have HF2 := hid (And.intro hK (And.intro hh3 (And.intro (Kd.R_mono (Kd.R_lower hR3 (by omega : w.heap.size ≤ w4.heap.size)) (ok' := fun k => w.heap.size ≤ k) (fun k hk => Nat.le_trans (by omega : w.heap.size ≤ w4.heap.size) hk)) hbel3)))
    clear hK hh3 hR3 hbel3 hbo3 hx3 hsz3 hI2 hN hR hh hx hbo hbel hfew
    obtain ⟨nn, hnn⟩ : ∃ nn, nn = (recsM D base size gen).length := ⟨_, rfl⟩
    rw [← hnn] at kl
    have HNN := hid hnn
    clear hnn
    gi_wp2_with fail
    refine wpIn_plan_normal [] (.take 0 (.take 1 (.take 2 (.take 3 (.take 4 .done))))) (fun w' => w' = W.drew) (by kernel_rfl) (by kernel_rfl) rfl ?_
    iterate 5 (apply plan_take rfl rfl; (case hy => (intro w' hS; subst hS; go_simp; try exact rfl)); go_simp)
    refine plan_done ⟨rfl, ?_⟩
    gi_wp2_with fail
    refine ⟨by simp, .inl ⟨_, _, rfl, run_takeDeferred HF2.out.1, ?_⟩⟩
    refine ⟨_, results_list rfl (by simp) (.tmp (.tmp (.tmp .nil))), w.heap.size, A, c, ?_, Nat.le_refl _, HF2.out.2⟩
    rw [HNN.out]
    rfl
end Go.Proofs.Ytekhmkfiepnnkaa

set_option linter.unusedVariables false
set_option linter.unusedSimpArgs false
namespace Go.Proofs.Ytekhmkfiepnnkaa
open Go.RowKit Go.Shelf Go.Proofs.YtekhmkfiepnnkaaW.PrintWords Go.Proofs.YtekhmkfiepnnkaaW.PrintMore

theorem hopen_err {w : World} {ok : Nat → Prop} {p : Nat} {D : DM} (h : PDisk w ok p D) (base size gen : Int) (he : ¬ hnewE D base size gen = 0) : Calls Try.prog 44 #[.pointer (some ⟨p, 0, none⟩), .int .i64 base, .int .i64 size, .int .u64 gen] w fun e w' => e = .returned (.tuple #[.pointer none, .slice none 0 0, .int .i64 1]) ∧ Below w.heap.size w w' := by
  refine (callsIn_wide (n := 2)).1 (callsIn_of_wp_marks Try.func44 rfl trivial ?_ rfl)
  simp only [Try.ntmps44, List.size_toArray, List.length_cons, List.length_nil, Nat.reduceAdd, Nat.reduceSub, Array.replicate_succ, Array.replicate_zero, List.push_toArray, List.append_toArray, List.nil_append, List.cons_append]
  gi_wp2_with fail
  refine ⟨trivial, callsIn_wide.2 ((hnew_err h base size gen he).mono ?_)⟩
  rintro e w1 ⟨rfl, rfl⟩
  have hb1 := below_alloc (Below.refl w.heap.size w) (.cells #[.pointer none] 79)
  gi_wp2_with fail
  exact ⟨_, results_list rfl (by simp) (.tmp (.tmp (.tmp .nil))), rfl, hb1⟩
theorem hopen_gone {w : World} {ok : Nat → Prop} {p : Nat} {D : DM} (h : PDisk w ok p D) (base size gen : Int) (he : hnewE D base size gen = 0) (hg : D.gone = true) : Calls Try.prog 44 #[.pointer (some ⟨p, 0, none⟩), .int .i64 base, .int .i64 size, .int .u64 gen] w fun e w' => e = .returned (.tuple #[.pointer none, .slice none 0 0, .int .i64 61]) ∧ Below w.heap.size w w' := by
  refine (callsIn_wide (n := 2)).1 (callsIn_of_wp_marks Try.func44 rfl trivial ?_ rfl)
  simp only [Try.ntmps44, List.size_toArray, List.length_cons, List.length_nil, Nat.reduceAdd, Nat.reduceSub, Array.replicate_succ, Array.replicate_zero, List.push_toArray, List.append_toArray, List.nil_append, List.cons_append]
  gi_wp2_with fail
  refine ⟨trivial, callsIn_wide.2 ((hnew_ok h base size gen he).mono ?_)⟩
  rintro e w1 ⟨rfl, hh1, hb1⟩
  have hb2 : Below w.heap.size w (w1.alloc (.cells #[.pointer (some ⟨w.heap.size, 0, none⟩)] 79)) := below_step hb1 (below_alloc (Below.refl _ _) _)
  have hdd := dead_any (h.step (w1 := w1.alloc (.cells #[.pointer (some ⟨w.heap.size, 0, none⟩)] 79)) (fun k _ hk => hb2.block k hk))
  rw [hg] at hdd
  gi_wp2_with fail
  refine ⟨trivial, callsIn_wide.2 (hdd.mono ?_)⟩
  rintro e w2 ⟨rfl, rfl⟩
  gi_wp2_with fail
  exact ⟨_, results_list rfl (by simp) (.tmp (.tmp (.tmp .nil))), rfl, hb2⟩
/-- What Append asks of a record before it writes. -/
def hputC (H : HM) (kind : Int) (n : Nat) : Int := if kind < 0 ∨ 255 < kind then 1 else if 131072 < n then 3 else if fitsB H n = false then 63 else 0
theorem hput_nil {w : World} (kind : Int) (A : Option Addr) (n c : Nat) : Calls Try.prog 42 #[.pointer none, .int .i64 kind, .slice A n c] w fun e w' => e = .returned (.int .i64 2) ∧ w = w' := by
  go_enter Try.func42, Try.ntmps42
  go_wp2
  go_ret
  exact ⟨rfl, rfl⟩
theorem hput_err {w : World} {hb p : Nat} {H : HM} (h : HBlk w hb p H) (h1 : 0 ≤ H.tail ∧ H.tail ≤ H.size ∧ H.size ≤ 4096) (kind : Int) (A : Option Addr) (n c : Nat) (hn : n ≤ 140737488355328) (he : ¬ hputC H kind n = 0) :
    Calls Try.prog 42 #[.pointer (some ⟨hb, 0, none⟩), .int .i64 kind, .slice A n c] w fun e w' => e = .returned (.int .i64 (hputC H kind n)) ∧ Below w.heap.size w w' := by
  have hf := fits_any h h1 (n : Int) (by omega)
  unfold hputC at he ⊢
  by_cases k1 : kind < 0
  · rw [if_pos (.inl k1)]
    go_enter Try.func42, Try.ntmps42
    go_wp2
    go_ret
    exact ⟨rfl, Below.refl _ _⟩
  by_cases k2 : 255 < kind
  · rw [if_pos (.inr k2)]
    go_enter Try.func42, Try.ntmps42
    go_wp2
    go_ret
    exact ⟨rfl, Below.refl _ _⟩
  rw [if_neg (by omega)] at he ⊢
  by_cases k3 : 131072 < n
  · rw [if_pos k3]
    have k3I : (131072 : Int) < (n : Int) := by omega
    go_enter Try.func42, Try.ntmps42
    go_wp2
    go_ret
    exact ⟨rfl, Below.refl _ _⟩
  have k3I : ¬ (131072 : Int) < (n : Int) := by omega
  rw [if_neg k3] at he ⊢
  cases hb2 : fitsB H n with
  | true => rw [hb2] at he; exact absurd rfl he
  | false =>
    rw [hb2] at hf
    rw [if_pos rfl]
    go_enter Try.func42, Try.ntmps42
    go_wp2_with (go_at_call 49; refine hf.mono ?_; rintro e w1 ⟨rfl, hB⟩)
    go_ret
    exact ⟨rfl, hB⟩
/-- What Append leaves: its answer, the disk, the log. -/
def hputR (H : HM) (kind : Int) (bs : List Int) : SR := ⟨H.gen, H.tail, kind, bs⟩
def hputH (D : DM) (H : HM) (kind : Int) (bs : List Int) : HM := if (D.sealW H.base (hputR H kind bs)).2 = 0 then { H with tail := H.tail + need bs.length, n := H.n + 1 } else H
set_option maxRecDepth 100000 in
set_option maxHeartbeats 4000000 in
theorem hput_ok {w : World} {okd okr : Nat → Prop} {hb p : Nat} {D : DM} {H : HM} {A : Option Addr} {c : Nat} {bs : List Int} (h : PDisk w okd p D) (hh : HBlk w hb p H) (hF : RB w okr A bs) (hne : apart okr okd) (hnh : ¬ okd hb) (hl : bs.length ≤ c) (hB : Bytes bs)
    (h1 : 0 ≤ H.tail ∧ H.tail ≤ H.size ∧ H.size ≤ 4096) (hg : 0 ≤ H.gen ∧ H.gen < 18446744073709551616) (hb9 : 0 ≤ H.base ∧ H.base ≤ 4096) (hn9 : 0 ≤ H.n ∧ H.n ≤ 4096) (hm : (D.ws.length + 65537) * 32 ≤ 140737488355328) (kind : Int) (he : hputC H kind bs.length = 0) :
    Calls Try.prog 42 #[.pointer (some ⟨hb, 0, none⟩), .int .i64 kind, .slice A bs.length c] w fun e w' => e = .returned (.int .i64 (D.sealW H.base (hputR H kind bs)).2) ∧ PDisk w' (orNew okd w) p (D.sealW H.base (hputR H kind bs)).1 ∧ HBlk w' hb p (hputH D H kind bs) ∧ Chg (fun k => okd k ∨ k = hb) w w' := by
  obtain ⟨k1, k2, k3⟩ : (0 ≤ kind ∧ kind ≤ 255) ∧ bs.length ≤ 131072 ∧ fitsB H bs.length = true := by
    unfold hputC at he
    split at he
    · cases he
    · split at he
      · cases he
      · split at he
        · cases he
        · rename_i a1 a2 a3
          exact ⟨by omega, by omega, by simpa using a3⟩
  have hf := fits_any hh h1 (bs.length : Int) (by omega)
  rw [k3] at hf
  have kn1 : ¬ kind < 0 := by omega
  have kn2 : ¬ 255 < kind := by omega
  have k3I : ¬ (131072 : Int) < (bs.length : Int) := by omega
  obtain ⟨⟨D2, E⟩, hX⟩ : ∃ X, D.sealW H.base (hputR H kind bs) = X := ⟨_, rfl⟩
  have hHb : H.base + 0 = H.base := by omega
  unfold hputH
  rw [hX]
  dsimp only
  have hlen9 : -9223372036854775808 ≤ (bs.length : Int) ∧ (bs.length : Int) ≤ 9223372036854775807 := by omega
  have hnb := need_bnd (bs.length : Int)
  go_enter Try.func42, Try.ntmps42
  go_wp2_with (go_at_call 49; refine hf.mono ?_; rintro e w1 ⟨rfl, hB1⟩)
  have hh1 := hh.step (hB1.block _ hh.lt)
  have hD1 := h.step (w1 := w1.drew) (fun k _ hk => hB1.block k hk)
  have hF1 : RB w1.drew okr A bs := RB_drew (RB_below hF hB1)
  have hsw := swrite_any p H.base (hputR H kind bs) hD1 hF1 hne hl hB hg (by omega) hm
  rw [hX] at hsw
  unfold recV hputR at hsw
  dsimp only at hsw
  have hlt1 := hh.lt
  clear hF hF1 hX k1 k2 k3 he hf hHb hB hl hm
  refine wp_region_plan [] (.take 0 (.take 1 (.take 2 (.take 3 (.take 4 (.take 5 (.take 6 (.take 7 (.take 8 (.take 9 (.take 10 (.take 11 (.take 12 (.take 13 (.take 14 (.take 15 (.take 16 (.take 17 (.take 18 (.run 19 (.take 20 .done))))))))))))))))))))) (fun w' => HBlk w' hb p H) (by kernel_rfl) (by kernel_rfl) (fun c a d v w h => by cases d <;> exact h) hh1 ?_
  iterate 19 (apply plan_take rfl rfl; (case hy => (intro w' hS; have e0 := hS.cell0; have e1 := hS.cell1; have e3 := hS.cell3; have e4 := hS.cell4; clear hS; go_simp; try exact rfl)); go_simp)
  refine plan_run_on rfl rfl (fun K hK => ?_)
  go_simp
  refine hsw.mono ?_
  rintro e w2 ⟨rfl, hD2, c2⟩
  have hh2 := hh1.step (c2.block _ (Nat.lt_of_lt_of_le hlt1 hB1.size) hnh)
  refine hK _ _ _ (fun _ h => h) hh2 ?_
  clear hK K hsw
  go_simp
  apply plan_take rfl rfl
  case hy => (intro w' hS; clear hS; go_simp; try exact rfl)
  go_simp
  refine plan_done ?_
  have hc2 : Chg (fun k => okd k ∨ k = hb) w w2 := (Chg.of_below hB1 (fun k => okd k ∨ k = hb)).drew.then_ c2 (fun k hk => .inl (.inl hk))
  have hD3 : PDisk w2 (orNew okd w) p D2 := hD2.mono (fun k hk => by
    rcases hk with hk | hk
    · exact .inl hk
    · exact .inr (Nat.le_trans hB1.size hk))
  by_cases hE : E = 0
  · subst hE
    obtain ⟨T, hT⟩ : ∃ T : Int, H.tail + need bs.length = T := ⟨_, rfl⟩
    obtain ⟨N, hN⟩ : ∃ N : Int, H.n + 1 = N := ⟨_, rfl⟩
    have hwT : IntKind.i64.wrap (H.tail + need bs.length) = T := by rw [← hT, IntKind.wrap_i64]; omega
    have hwN : IntKind.i64.wrap (H.n + 1) = N := by rw [← hN, IntKind.wrap_i64]; omega
    have hh7 : HBlk (w2.setCell ⟨hb, 4, none⟩ (.int .i64 T)) _ _ _ := hh2.setTail T
    have hh8 : HBlk ((w2.setCell ⟨hb, 4, none⟩ (.int .i64 T)).setCell ⟨hb, 5, none⟩ (.int .i64 N)).drew _ _ _ := hh7.setN N
    have hpd : ∀ k, isC w2 k → orNew okd w k → ((w2.setCell ⟨hb, 4, none⟩ (.int .i64 T)).setCell ⟨hb, 5, none⟩ (.int .i64 N)).drew.heap[k]? = w2.heap[k]? := fun k _ hk => by
      have hkb : k ≠ hb := by
        rintro rfl
        rcases hk with hk | hk
        · exact hnh hk
        · have := hh.lt; omega
      exact (Below.heap_setCell (w2.setCell ⟨hb, 4, none⟩ (.int .i64 T)) ⟨hb, 5, none⟩ (.int .i64 N) k hkb).trans (Below.heap_setCell w2 ⟨hb, 4, none⟩ (.int .i64 T) k hkb)
    have hD8 := (hD3.cells.step (w1 := ((w2.setCell ⟨hb, 4, none⟩ (.int .i64 T)).setCell ⟨hb, 5, none⟩ (.int .i64 N)).drew) (fun k hc _ => hpd k hc.2 hc.1)).mono (fun _ hc => hc.1)
    have hc8 : Chg (fun k => okd k ∨ k = hb) w ((w2.setCell ⟨hb, 4, none⟩ (.int .i64 T)).setCell ⟨hb, 5, none⟩ (.int .i64 N)).drew := ((hc2.setCell (p := ⟨hb, 4, none⟩) (.inl (.inr rfl)) (.int .i64 T)).setCell (p := ⟨hb, 5, none⟩) (.inl (.inr rfl)) (.int .i64 N)).drew
    have e4 := hh2.cell4
    have e5 := hh7.cell5
    have z4 := hh2.free 4
    have z5 := hh7.free 5
    dsimp only at e5
    have HFI := hid (And.intro hD8 (And.intro hh8 (And.intro hc8 (And.intro hT hN))))
    clear hD8 hh8 hc8 hT hN hD3 hc2 hh7 hpd hD2 c2 hD1 hh1 hh h
    go_wp2_with fail
    refine wp_region_plan [8, 9, 10] (.take 0 (.take 1 (.take 2 (.take 3 (.take 4 (.take 5 (.run 6 (.take 7 (.tail 8 (.tail 9 (.tail 10 .done))))))))))) (fun w' => w' = w2.drew) (by kernel_rfl) (by kernel_rfl) (fun c a d v w h => by cases d <;> exact h) rfl ?_
    iterate 6 (apply plan_take rfl rfl; (case hy => (intro w' hS; subst hS; go_simp; try exact rfl)); go_simp)
    refine plan_run_on rfl rfl (fun K hK => ?_)
    go_simp
    refine (need_any _ hlen9).mono ?_
    rintro e w' ⟨rfl, rfl⟩
    refine hK _ _ _ (fun _ h => h) rfl ?_
    clear hK K
    go_simp
    apply plan_take rfl rfl
    case hy => (intro w' hS; subst hS; go_simp; try exact rfl)
    go_simp
    refine plan_tail_on rfl rfl (fun K hK => ?_)
    go_simp
    refine hK _ _ ?_
    clear hK K
    refine plan_tail_on rfl rfl (fun K hK => ?_)
    go_simp
    refine hK _ _ ?_
    clear hK K
    refine plan_tail_on rfl rfl (fun K hK => ?_)
    go_simp
    refine hK _ _ (plan_done ?_)
    clear hK K
    go_wp2_with fail
    go_ret
    obtain ⟨f1, f2, f3, f4, f5⟩ := HFI.out
    refine ⟨rfl, f1, ?_, f3⟩
    rw [f4, f5]
    exact f2
  · go_wp2_with fail
    go_ret
    exact ⟨rfl, hD3, hh2, hc2⟩
end Go.Proofs.Ytekhmkfiepnnkaa

set_option linter.unusedVariables false
set_option linter.unusedSimpArgs false
namespace Go.Proofs.Ytekhmkfiepnnkaa
open Go.RowKit Go.Shelf Go.Proofs.YtekhmkfiepnnkaaW.PrintWords Go.Proofs.YtekhmkfiepnnkaaW.PrintMore

def RBlk (w : World) (hb p : Nat) (H : HM) : Prop := w.heap[hb]? = some (.cells #[.pointer (some ⟨p, 0, none⟩), .int .i64 H.base, .int .i64 H.size, .int .u64 H.gen, .int .i64 H.tail, .int .i64 H.n] 134 (0, 0))
theorem RBlk.cell0 {w : World} {hb p : Nat} {H : HM} (h : RBlk w hb p H) : w.cell? ⟨hb, 0, none⟩ = some (.pointer (some ⟨p, 0, none⟩)) := by rw [cell_of_row w hb 0 _ _ _ h]; rfl
theorem RBlk.cell1 {w : World} {hb p : Nat} {H : HM} (h : RBlk w hb p H) : w.cell? ⟨hb, 1, none⟩ = some (.int .i64 H.base) := by rw [cell_of_row w hb 1 _ _ _ h]; rfl
theorem RBlk.cell2 {w : World} {hb p : Nat} {H : HM} (h : RBlk w hb p H) : w.cell? ⟨hb, 2, none⟩ = some (.int .i64 H.size) := by rw [cell_of_row w hb 2 _ _ _ h]; rfl
theorem RBlk.cell3 {w : World} {hb p : Nat} {H : HM} (h : RBlk w hb p H) : w.cell? ⟨hb, 3, none⟩ = some (.int .u64 H.gen) := by rw [cell_of_row w hb 3 _ _ _ h]; rfl
theorem RBlk.cell4 {w : World} {hb p : Nat} {H : HM} (h : RBlk w hb p H) : w.cell? ⟨hb, 4, none⟩ = some (.int .i64 H.tail) := by rw [cell_of_row w hb 4 _ _ _ h]; rfl
theorem RBlk.cell5 {w : World} {hb p : Nat} {H : HM} (h : RBlk w hb p H) : w.cell? ⟨hb, 5, none⟩ = some (.int .i64 H.n) := by rw [cell_of_row w hb 5 _ _ _ h]; rfl
theorem RBlk.free {w : World} {hb p : Nat} {H : HM} (h : RBlk w hb p H) (j : Nat) : w.frozen? ⟨hb, j, none⟩ = false := frozen_of_row w hb j _ _ h
theorem RBlk.setTail {w : World} {hb p : Nat} {H : HM} (h : RBlk w hb p H) (t : Int) : RBlk (w.setCell ⟨hb, 4, none⟩ (.int .i64 t)) hb p { H with tail := t } := heap_setCell_same w hb 4 _ _ _ h
theorem RBlk.setN {w : World} {hb p : Nat} {H : HM} (h : RBlk w hb p H) (t : Int) : RBlk (w.setCell ⟨hb, 5, none⟩ (.int .i64 t)) hb p { H with n := t } := heap_setCell_same w hb 5 _ _ _ h
theorem RBlk.step {w w1 : World} {hb p : Nat} {H : HM} (h : RBlk w hb p H) (hm : w1.heap[hb]? = w.heap[hb]?) : RBlk w1 hb p H := hm.trans h
theorem RBlk.lt {w : World} {hb p : Nat} {H : HM} (h : RBlk w hb p H) : hb < w.heap.size := blk_lt h
set_option maxHeartbeats 1000000 in
theorem rhnew_err {w : World} {ok : Nat → Prop} {p : Nat} {D : DM} (h : RDisk w ok p D) (base size gen : Int) (he : ¬ hnewE D base size gen = 0) :
  Calls Try.prog 52 #[.pointer (some ⟨p, 0, none⟩), .int .i64 base, .int .i64 size, .int .u64 gen] w fun e w' => e = .returned (.tuple #[.pointer none, .int .i64 1]) ∧ w = w' := by
  have hB := rdblocks_any h
  have hn := h.1.hi
  by_cases h1 : base < 0
  · go_enter Try.func52, Try.ntmps52
    go_wp2
    go_ret2
    exact ⟨rfl, rfl⟩
  by_cases h2 : size < 1
  · go_enter Try.func52, Try.ntmps52
    go_wp2
    go_ret2
    exact ⟨rfl, rfl⟩
  by_cases h3 : (D.n : Int) < base
  · go_enter Try.func52, Try.ntmps52
    go_wp2_with (go_at_call 78; refine hB.mono ?_; rintro e w' ⟨rfl, rfl⟩)
    go_ret2
    exact ⟨rfl, rfl⟩
  have hw : IntKind.i64.wrap ((D.n : Int) - base) = (D.n : Int) - base := by rw [IntKind.wrap_i64]; omega
  by_cases h4 : (D.n : Int) - base < size
  · go_enter Try.func52, Try.ntmps52
    go_wp2_with (go_at_call 78; refine hB.mono ?_; rintro e w' ⟨rfl, rfl⟩)
    go_ret2
    exact ⟨rfl, rfl⟩
  have h5 : gen = 0 := by
    unfold hnewE at he
    by_cases hg : gen = 0
    · exact hg
    · rw [if_neg (by omega)] at he; exact absurd rfl he
  subst h5
  go_enter Try.func52, Try.ntmps52
  go_wp2_with (go_at_call 78; refine hB.mono ?_; rintro e w' ⟨rfl, rfl⟩)
  go_ret2
  exact ⟨rfl, rfl⟩
set_option maxHeartbeats 1000000 in
theorem rhnew_ok {w : World} {ok : Nat → Prop} {p : Nat} {D : DM} (h : RDisk w ok p D) (base size gen : Int) (he : hnewE D base size gen = 0) :
  Calls Try.prog 52 #[.pointer (some ⟨p, 0, none⟩), .int .i64 base, .int .i64 size, .int .u64 gen] w fun e w' => e = .returned (.tuple #[.pointer (some ⟨w.heap.size, 0, none⟩), .int .i64 0]) ∧ RBlk w' w.heap.size p ⟨base, size, gen, 0, 0⟩ ∧ Below w.heap.size w w' := by
  have hB := rdblocks_any h
  have hn := h.1.hi
  have hx : ¬ base < 0 ∧ ¬ size < 1 ∧ ¬ (D.n : Int) < base ∧ ¬ (D.n : Int) - base < size ∧ ¬ gen = 0 := by
    unfold hnewE at he
    split at he
    · cases he
    · rename_i hh; simp only [not_or] at hh; exact hh
  obtain ⟨h1, h2, h3, h4, h5⟩ := hx
  have hw : IntKind.i64.wrap ((D.n : Int) - base) = (D.n : Int) - base := by rw [IntKind.wrap_i64]; omega
  have h5b : (gen == 0) = false := by simpa using h5
  have hfin : RBlk (w.alloc (.cells #[.pointer (some ⟨p, 0, none⟩), .int .i64 base, .int .i64 size, .int .u64 gen, .int .i64 0, .int .i64 0] 134)) w.heap.size p ⟨base, size, gen, 0, 0⟩ := heap_alloc_new w _
  have HF := hid (And.intro hfin (below_alloc (Below.refl w.heap.size w) (.cells #[.pointer (some ⟨p, 0, none⟩), .int .i64 base, .int .i64 size, .int .u64 gen, .int .i64 0, .int .i64 0] 134)))
  clear hfin
  go_enter Try.func52, Try.ntmps52
  go_wp2_with (go_at_call 78; refine hB.mono ?_; rintro e w' ⟨rfl, rfl⟩)
  go_ret2
  exact ⟨rfl, HF.out⟩
theorem rroom_any {w : World} {hb p : Nat} {H : HM} (h : RBlk w hb p H) (h1 : 0 ≤ H.tail ∧ H.tail ≤ H.size ∧ H.size ≤ 4096) :
    Calls Try.prog 79 #[.pointer (some ⟨hb, 0, none⟩)] w fun e w' => e = .returned (.int .i64 (H.size - H.tail)) ∧ Below w.heap.size w w' := by
  have c2 := h.cell2
  have c4 := h.cell4
  have hw : IntKind.i64.wrap (H.size - H.tail) = H.size - H.tail := by rw [IntKind.wrap_i64]; omega
  go_enter Try.func79, Try.ntmps79
  go_wp2_with fail
  refine wp_region_plan [] (.take 0 (.take 1 (.take 2 (.take 3 (.take 4 (.take 5 (.take 6 (.take 7 (.take 8 (.take 9 .done)))))))))) (fun w' => w'.cell? ⟨hb, 2, none⟩ = some (.int .i64 H.size) ∧ w'.cell? ⟨hb, 4, none⟩ = some (.int .i64 H.tail)) (by kernel_rfl) (by kernel_rfl) (fun c a d v w h => by cases d <;> exact h) ⟨c2, c4⟩ ?_
  iterate 10 (apply plan_take rfl rfl; (case hy => (intro w' hS; obtain ⟨s0, s1⟩ := hS; go_simp; try exact rfl)); go_simp)
  refine plan_done ?_
  go_wp2
  go_ret
  exact ⟨rfl, (Below.refl _ _).drew⟩
theorem need_pos {n : Int} : 0 < need n ↔ 0 ≤ n ∧ n ≤ 131072 := by
  unfold need
  split
  · omega
  · split <;> omega
theorem rfits_any {w : World} {hb p : Nat} {H : HM} (h : RBlk w hb p H) (h1 : 0 ≤ H.tail ∧ H.tail ≤ H.size ∧ H.size ≤ 4096) (n : Int) (hn : -9223372036854775808 ≤ n ∧ n ≤ 9223372036854775807) :
    Calls Try.prog 80 #[.pointer (some ⟨hb, 0, none⟩), .int .i64 n] w fun e w' => e = .returned (.bool (fitsB H n)) ∧ Below w.heap.size w w' := by
  have hnd := fneed_any (w := w) n hn
  have hr := rroom_any h h1
  have hp := need_pos (n := n)
  unfold fitsB
  generalize need n = k at hnd hp ⊢
  by_cases g1 : 0 ≤ n
  · by_cases g2 : n ≤ 131072
    · have h0 : 0 < k := hp.2 ⟨g1, g2⟩
      rw [show decide (0 < k ∧ k ≤ H.size - H.tail) = decide (k ≤ H.size - H.tail) from by simp [h0]]
      clear hp
      go_enter Try.func80, Try.ntmps80
      go_wp2_with fail
      refine hnd.mono ?_
      rintro e w' ⟨rfl, rfl⟩
      go_wp2_with fail
      refine hr.mono ?_
      rintro e w1 ⟨rfl, hB⟩
      go_wp2
      go_ret
      exact ⟨rfl, hB⟩
    · have h0 : ¬ 0 < k := fun h => g2 (hp.1 h).2
      rw [show decide (0 < k ∧ k ≤ H.size - H.tail) = false from by simp [h0]]
      clear hp
      go_enter Try.func80, Try.ntmps80
      go_wp2
      go_ret
      exact ⟨rfl, Below.refl _ _⟩
  · have h0 : ¬ 0 < k := fun h => g1 (hp.1 h).1
    rw [show decide (0 < k ∧ k ≤ H.size - H.tail) = false from by simp [h0]]
    clear hp
    go_enter Try.func80, Try.ntmps80
    go_wp2
    go_ret
    exact ⟨rfl, Below.refl _ _⟩
theorem rhput_nil {w : World} (kind : Int) (A : Option Addr) (n c : Nat) : Calls Try.prog 54 #[.pointer none, .int .i64 kind, .slice A n c] w fun e w' => e = .returned (.int .i64 2) ∧ w = w' := by
  go_enter Try.func54, Try.ntmps54
  go_wp2
  go_ret
  exact ⟨rfl, rfl⟩
theorem rhput_err {w : World} {hb p : Nat} {H : HM} (h : RBlk w hb p H) (h1 : 0 ≤ H.tail ∧ H.tail ≤ H.size ∧ H.size ≤ 4096) (kind : Int) (A : Option Addr) (n c : Nat) (hn : n ≤ 140737488355328) (he : ¬ hputC H kind n = 0) :
    Calls Try.prog 54 #[.pointer (some ⟨hb, 0, none⟩), .int .i64 kind, .slice A n c] w fun e w' => e = .returned (.int .i64 (hputC H kind n)) ∧ Below w.heap.size w w' := by
  have hf := rfits_any h h1 (n : Int) (by omega)
  unfold hputC at he ⊢
  by_cases k1 : kind < 0
  · rw [if_pos (.inl k1)]
    go_enter Try.func54, Try.ntmps54
    go_wp2
    go_ret
    exact ⟨rfl, Below.refl _ _⟩
  by_cases k2 : 255 < kind
  · rw [if_pos (.inr k2)]
    go_enter Try.func54, Try.ntmps54
    go_wp2
    go_ret
    exact ⟨rfl, Below.refl _ _⟩
  rw [if_neg (by omega)] at he ⊢
  by_cases k3 : 131072 < n
  · rw [if_pos k3]
    have k3I : (131072 : Int) < (n : Int) := by omega
    go_enter Try.func54, Try.ntmps54
    go_wp2
    go_ret
    exact ⟨rfl, Below.refl _ _⟩
  have k3I : ¬ (131072 : Int) < (n : Int) := by omega
  rw [if_neg k3] at he ⊢
  cases hb2 : fitsB H n with
  | true => rw [hb2] at he; exact absurd rfl he
  | false =>
    rw [hb2] at hf
    rw [if_pos rfl]
    go_enter Try.func54, Try.ntmps54
    go_wp2_with (go_at_call 80; refine hf.mono ?_; rintro e w1 ⟨rfl, hB⟩)
    go_ret
    exact ⟨rfl, hB⟩
set_option maxRecDepth 100000 in
set_option maxHeartbeats 4000000 in
theorem rhput_ok {w : World} {okd okr : Nat → Prop} {hb p : Nat} {D : DM} {H : HM} {A : Option Addr} {c : Nat} {bs : List Int} (h : RDisk w okd p D) (hh : RBlk w hb p H) (hF : RB w okr A bs) (hnh : ¬ okd hb) (hl : bs.length ≤ c) (hB : Bytes bs)
    (h1 : 0 ≤ H.tail ∧ H.tail ≤ H.size ∧ H.size ≤ 4096) (hg : 0 ≤ H.gen ∧ H.gen < 18446744073709551616) (hb9 : 0 ≤ H.base ∧ H.base ≤ 4096) (hn9 : 0 ≤ H.n ∧ H.n ≤ 4096) (hm : (D.ws.length + 65537) * 32 ≤ 140737488355328) (kind : Int) (he : hputC H kind bs.length = 0) :
    Calls Try.prog 54 #[.pointer (some ⟨hb, 0, none⟩), .int .i64 kind, .slice A bs.length c] w fun e w' => e = .returned (.int .i64 (D.sealW H.base (hputR H kind bs)).2) ∧ RDisk w' (orNew okd w) p (D.sealW H.base (hputR H kind bs)).1 ∧ RBlk w' hb p (hputH D H kind bs) ∧ Chg (fun k => okd k ∨ k = hb) w w' := by
  obtain ⟨k1, k2, k3⟩ : (0 ≤ kind ∧ kind ≤ 255) ∧ bs.length ≤ 131072 ∧ fitsB H bs.length = true := by
    unfold hputC at he
    split at he
    · cases he
    · split at he
      · cases he
      · split at he
        · cases he
        · rename_i a1 a2 a3
          exact ⟨by omega, by omega, by simpa using a3⟩
  have hf := rfits_any hh h1 (bs.length : Int) (by omega)
  rw [k3] at hf
  have kn1 : ¬ kind < 0 := by omega
  have kn2 : ¬ 255 < kind := by omega
  have k3I : ¬ (131072 : Int) < (bs.length : Int) := by omega
  obtain ⟨⟨D2, E⟩, hX⟩ : ∃ X, D.sealW H.base (hputR H kind bs) = X := ⟨_, rfl⟩
  have hHb : H.base + 0 = H.base := by omega
  unfold hputH
  rw [hX]
  dsimp only
  have hlen9 : -9223372036854775808 ≤ (bs.length : Int) ∧ (bs.length : Int) ≤ 9223372036854775807 := by omega
  have hnb := need_bnd (bs.length : Int)
  go_enter Try.func54, Try.ntmps54
  go_wp2_with (go_at_call 80; refine hf.mono ?_; rintro e w1 ⟨rfl, hB1⟩)
  have hh1 := hh.step (hB1.block _ hh.lt)
  have hD1 := h.step (w1 := w1.drew) (fun k _ hk => hB1.block k hk)
  have hF1 : RB w1.drew okr A bs := RB_drew (RB_below hF hB1)
  have hsw := rwrite22_any p H.base (hputR H kind bs) hD1 hF1 hl hB hg (by omega) hm
  rw [hX] at hsw
  unfold recV hputR at hsw
  dsimp only at hsw
  have hlt1 := hh.lt
  clear hF hF1 hX k1 k2 k3 he hf hHb hB hl hm
  refine wp_region_plan [] (.take 0 (.take 1 (.take 2 (.take 3 (.take 4 (.take 5 (.take 6 (.take 7 (.take 8 (.take 9 (.take 10 (.take 11 (.take 12 (.take 13 (.take 14 (.take 15 (.take 16 (.take 17 (.take 18 (.run 19 (.take 20 .done))))))))))))))))))))) (fun w' => RBlk w' hb p H) (by kernel_rfl) (by kernel_rfl) (fun c a d v w h => by cases d <;> exact h) hh1 ?_
  iterate 19 (apply plan_take rfl rfl; (case hy => (intro w' hS; have e0 := hS.cell0; have e1 := hS.cell1; have e3 := hS.cell3; have e4 := hS.cell4; clear hS; go_simp; try exact rfl)); go_simp)
  refine plan_run_on rfl rfl (fun K hK => ?_)
  go_simp
  refine hsw.mono ?_
  rintro e w2 ⟨rfl, hD2, c2⟩
  have hh2 := hh1.step (c2.block _ (Nat.lt_of_lt_of_le hlt1 hB1.size) hnh)
  refine hK _ _ _ (fun _ h => h) hh2 ?_
  clear hK K hsw
  go_simp
  apply plan_take rfl rfl
  case hy => (intro w' hS; clear hS; go_simp; try exact rfl)
  go_simp
  refine plan_done ?_
  have hc2 : Chg (fun k => okd k ∨ k = hb) w w2 := (Chg.of_below hB1 (fun k => okd k ∨ k = hb)).drew.then_ c2 (fun k hk => .inl (.inl hk))
  have hD3 : RDisk w2 (orNew okd w) p D2 := hD2.mono (fun k hk => by
    rcases hk with hk | hk
    · exact .inl hk
    · exact .inr (Nat.le_trans hB1.size hk))
  by_cases hE : E = 0
  · subst hE
    obtain ⟨T, hT⟩ : ∃ T : Int, H.tail + need bs.length = T := ⟨_, rfl⟩
    obtain ⟨N, hN⟩ : ∃ N : Int, H.n + 1 = N := ⟨_, rfl⟩
    have hwT : IntKind.i64.wrap (H.tail + need bs.length) = T := by rw [← hT, IntKind.wrap_i64]; omega
    have hwN : IntKind.i64.wrap (H.n + 1) = N := by rw [← hN, IntKind.wrap_i64]; omega
    have hh7 : RBlk (w2.setCell ⟨hb, 4, none⟩ (.int .i64 T)) _ _ _ := hh2.setTail T
    have hh8 : RBlk ((w2.setCell ⟨hb, 4, none⟩ (.int .i64 T)).setCell ⟨hb, 5, none⟩ (.int .i64 N)).drew _ _ _ := hh7.setN N
    have hpd : ∀ k, orNew okd w k → ((w2.setCell ⟨hb, 4, none⟩ (.int .i64 T)).setCell ⟨hb, 5, none⟩ (.int .i64 N)).drew.heap[k]? = w2.heap[k]? := fun k hk => by
      have hkb : k ≠ hb := by
        rintro rfl
        rcases hk with hk | hk
        · exact hnh hk
        · have := hh.lt; omega
      exact (Below.heap_setCell (w2.setCell ⟨hb, 4, none⟩ (.int .i64 T)) ⟨hb, 5, none⟩ (.int .i64 N) k hkb).trans (Below.heap_setCell w2 ⟨hb, 4, none⟩ (.int .i64 T) k hkb)
    have hD8 := hD3.step (w1 := ((w2.setCell ⟨hb, 4, none⟩ (.int .i64 T)).setCell ⟨hb, 5, none⟩ (.int .i64 N)).drew) (fun k hc _ => hpd k hc)
    have hc8 : Chg (fun k => okd k ∨ k = hb) w ((w2.setCell ⟨hb, 4, none⟩ (.int .i64 T)).setCell ⟨hb, 5, none⟩ (.int .i64 N)).drew := ((hc2.setCell (p := ⟨hb, 4, none⟩) (.inl (.inr rfl)) (.int .i64 T)).setCell (p := ⟨hb, 5, none⟩) (.inl (.inr rfl)) (.int .i64 N)).drew
    have e4 := hh2.cell4
    have e5 := hh7.cell5
    have z4 := hh2.free 4
    have z5 := hh7.free 5
    dsimp only at e5
    have HFI := hid (And.intro hD8 (And.intro hh8 (And.intro hc8 (And.intro hT hN))))
    clear hD8 hh8 hc8 hT hN hD3 hc2 hh7 hpd hD2 c2 hD1 hh1 hh h
    go_wp2_with fail
    refine wp_region_plan [9, 10, 11] (.take 0 (.take 1 (.take 2 (.take 3 (.take 4 (.take 5 (.take 6 (.run 7 (.take 8 (.tail 9 (.tail 10 (.tail 11 .done)))))))))))) (fun w' => w' = w2.drew) (by kernel_rfl) (by kernel_rfl) (fun c a d v w h => by cases d <;> exact h) rfl ?_
    iterate 7 (apply plan_take rfl rfl; (case hy => (intro w' hS; subst hS; go_simp; try exact rfl)); go_simp)
    refine plan_run_on rfl rfl (fun K hK => ?_)
    go_simp
    refine (fneed_any _ hlen9).mono ?_
    rintro e w' ⟨rfl, rfl⟩
    refine hK _ _ _ (fun _ h => h) rfl ?_
    clear hK K
    go_simp
    apply plan_take rfl rfl
    case hy => (intro w' hS; subst hS; go_simp; try exact rfl)
    go_simp
    refine plan_tail_on rfl rfl (fun K hK => ?_)
    go_simp
    refine hK _ _ ?_
    clear hK K
    refine plan_tail_on rfl rfl (fun K hK => ?_)
    go_simp
    refine hK _ _ ?_
    clear hK K
    refine plan_tail_on rfl rfl (fun K hK => ?_)
    go_simp
    refine hK _ _ (plan_done ?_)
    clear hK K
    go_wp2_with fail
    go_ret
    obtain ⟨f1, f2, f3, f4, f5⟩ := HFI.out
    refine ⟨rfl, f1, ?_, f3⟩
    rw [f4, f5]
    exact f2
  · go_wp2_with fail
    go_ret
    exact ⟨rfl, hD3, hh2, hc2⟩
end Go.Proofs.Ytekhmkfiepnnkaa

set_option linter.unusedVariables false
set_option linter.unusedSimpArgs false
namespace Go.Proofs.Ytekhmkfiepnnkaa
open Go.RowKit Go.Shelf Go.Proofs.YtekhmkfiepnnkaaW.PrintWords Go.Proofs.YtekhmkfiepnnkaaW.PrintMore

theorem ropen_err {w : World} {ok : Nat → Prop} {p : Nat} {D : DM} (h : RDisk w ok p D) (base size gen : Int) (he : ¬ hnewE D base size gen = 0) : Calls Try.prog 55 #[.pointer (some ⟨p, 0, none⟩), .int .i64 base, .int .i64 size, .int .u64 gen] w fun e w' => e = .returned (.tuple #[.pointer none, .slice none 0 0, .int .i64 1]) ∧ Below w.heap.size w w' := by
  have hc := rhnew_err h base size gen he
  go_enter Try.func55, Try.ntmps55
  go_wp2_with fail
  refine hc.mono ?_
  rintro e w' ⟨rfl, rfl⟩
  go_wp2
  go_ret3
  exact ⟨rfl, Below.refl _ _⟩
theorem ropen_gone {w : World} {ok : Nat → Prop} {p : Nat} {D : DM} (h : RDisk w ok p D) (base size gen : Int) (he : hnewE D base size gen = 0) (hg : D.gone = true) : Calls Try.prog 55 #[.pointer (some ⟨p, 0, none⟩), .int .i64 base, .int .i64 size, .int .u64 gen] w fun e w' => e = .returned (.tuple #[.pointer none, .slice none 0 0, .int .i64 61]) ∧ Below w.heap.size w w' := by
  have hc := rhnew_ok h base size gen he
  have hcell := fun (W : World) (hW : Below w.heap.size w W) => (h.step (w1 := W) (fun k _ hk => hW.block k hk))
  go_enter Try.func55, Try.ntmps55
  go_wp2_with fail
  refine hc.mono ?_
  rintro e w1 ⟨rfl, hh, b1⟩
  obtain ⟨_, g, cap, wv, hr⟩ := hcell w1 b1
  have c1 := hr.cell1
  rw [hg] at c1
  clear hcell hr hc hh h
  go_wp2
  go_ret3
  exact ⟨rfl, b1⟩
def rowLen : Value → Nat
  | .slice _ n _ => n
  | _ => 0
/-- What Open hands out. -/
def ROpened (w : World) (p : Nat) (D : DM) (base size : Nat) (gen : Int) (e : Ending) (w' : World) : Prop :=
  ∃ hb A c, e = .returned (.tuple #[.pointer (some ⟨hb, 0, none⟩), .slice A (recsM D base size gen).length c, .int .i64 0]) ∧ w.heap.size ≤ hb ∧ RBlk w' hb p ⟨base, size, gen, (tailOf (recsM D base size gen) : Int), ((recsM D base size gen).length : Int)⟩ ∧
  KRec.R 28 w' w.heap.size (fun k => w.heap.size ≤ k) (.slice A (recsM D base size gen).length c) (recsM D base size gen) ∧ Below w.heap.size w w'
/-- Between two rounds of Open. -/
structure ROI (w : World) (p : Nat) (D : DM) (base size : Nat) (gen : Int) (l : List SR) (v : Value) (W : World) : Prop where
  all : l ++ recsAt D base size gen (size - tailOf l) (tailOf l) = recsM D base size gen
  blk : RBlk W w.heap.size p ⟨base, size, gen, (tailOf l : Int), (l.length : Int)⟩
  row : KRec.R 28 W w.heap.size (fun k => w.heap.size < k) v l
  bel : Below w.heap.size w W
  few : tailOf l ≤ size
theorem info_RRec : (Try.prog.info? 28).map (fun i => (i.zero, i.size, i.bytes)) = some (some (.agg #[.int .u64 0, .int .i64 0, .int .i64 0, .slice none 0 0]), 4, 48) := by kernel_rfl
set_option maxRecDepth 100000 in
set_option maxHeartbeats 8000000 in
theorem ropen_ok {w : World} {ok : Nat → Prop} {p : Nat} {D : DM} (h : RDisk w ok p D) (base size : Nat) (gen : Int) (he : hnewE D base size gen = 0) (hg : D.gone = false) :
    Calls Try.prog 55 #[.pointer (some ⟨p, 0, none⟩), .int .i64 base, .int .i64 size, .int .u64 gen] w (ROpened w p D base size gen) := by
  have hn4 := h.1.hi
  have hbs : base + size ≤ D.n ∧ 0 < size := by
    unfold hnewE at he
    split at he
    · cases he
    · omega
  have hc := rhnew_ok h base size gen he
  have hcell := fun (W : World) (hW : Below w.heap.size w W) => (h.step (w1 := W) (fun k _ hk => hW.block k hk))
  have hwf := h.1
  have hw1 : IntKind.i64.wrap ((base : Int) + (size : Int)) = (base : Int) + (size : Int) := by rw [IntKind.wrap_i64]; omega
  clear he
  go_enter Try.func55, Try.ntmps55
  go_wp2_with fail
  refine hc.mono ?_
  rintro e w1 ⟨rfl, hh, b1⟩
  obtain ⟨_, g, cap, wv, hr⟩ := hcell w1 b1
  have c1 := hr.cell1
  rw [hg] at c1
  have h0 : ROI w p D base size gen [] (.slice none 0 0) w1 := ⟨by simp [tailOf, recsM], hh, Kd.R_nil _ _ _ _ _, b1, by simp [tailOf]⟩
  have HCELL := hid hcell
  clear hr hc hh b1 hcell
  go_wp2_with fail
  clear c1
  go_loopw [13] (fun v wr => ∃ l : List SR, ROI w p D base size gen l v wr) (fun v _ => size + 1 - rowLen v)
  case atStart => exact ⟨[], h0⟩
  case round =>
    clear h0
    obtain ⟨l, hI⟩ := hrel
    obtain ⟨A, c, rfl⟩ := Kd.R_slice hI.row
    have hfew := hI.few
    have hll := tailOf_len l
    have e4 := hI.blk.cell4
    have hRd := HCELL.out wr hI.bel
    by_cases hlt : tailOf l < size
    · have hltI : (tailOf l : Int) < (size : Int) := by omega
      have hE : readE D base ((base + size : Nat) : Int) (tailOf l : Int) = 0 := by
        unfold readE regE
        rw [if_neg (by omega), if_neg (by omega), if_neg (by simp [hg])]
      have hrd := rsread_any hRd (base : Int) ((base + size : Nat) : Int) gen (tailOf l : Int)
      rw [hE] at hrd
      cases hV : readV D base ((base + size : Nat) : Int) gen (tailOf l) with
      | none =>
        rw [hV, show ((base + size : Nat) : Int) = (base : Int) + (size : Int) from by omega] at hrd
        unfold ReadPost recV at hrd
        simp only [Option.getD_none, Option.isSome_none] at hrd
        generalize noR = R0 at hrd
        have hrec : recsM D base size gen = l := by have := hI.all; rw [recsAt_stop (.inr hV), List.append_nil] at this; exact this.symm
        have HFN := hid (show ∀ W, Below wr.heap.size wr W → ROpened w p D base size gen (.returned (.tuple #[.pointer (some ⟨w.heap.size, 0, none⟩), .slice A l.length c, .int .i64 0])) W from fun W hW => by
          refine ⟨w.heap.size, A, c, by rw [hrec], Nat.le_refl _, ?_, ?_, below_step hI.bel hW⟩
          · rw [hrec]; exact (hW.block _ (blk_lt hI.blk)).trans hI.blk
          · rw [hrec]; exact Kd.R_below (Kd.R_mono hI.row (fun k hk => Nat.le_of_lt hk)) hW)
        clear hI hRd hV hE hrec
        go_wp2_with fail
        refine hrd.mono ?_
        rintro e w2 ⟨A2, c2, rfl, _, _, b2⟩
        have HF := hid (HFN.out _ (below_alloc b2 (.cells #[.int .u64 R0.gen, .int .i64 R0.at_, .int .i64 R0.kind, .slice A2 R0.bytes.length c2] 28)))
        clear hrd e4 b2 HFN
        go_wp2
        go_ret3
        exact HF.out
      | some r =>
        have hgot := readV_got hwf hV
        rw [hV, show ((base + size : Nat) : Int) = (base : Int) + (size : Int) from by omega] at hrd
        unfold ReadPost recV at hrd
        simp only [Option.getD_some, Option.isSome_some] at hrd
        have hall := recsM_at l hI.all hlt hV
        have hfit := hgot.fit
        have hl1 := hgot.l
        have hnd := need_bodies hl1
        have hnn := fun W => fneed_any (w := W) (r.bytes.length : Int) (by omega)
        rw [hnd] at hnn
        have HNN := hid hnn
        have HI := hid (And.intro hI hall)
        have hsz := hI.bel.size
        clear hRd hV hE hgot hI hall hnn hnd
        go_wp2_with fail
        refine hrd.mono ?_
        rintro e w2 ⟨A2, c2, rfl, hR2, hle2, b2⟩
        have b3 := below_alloc b2 (.cells #[.int .u64 r.gen, .int .i64 r.at_, .int .i64 r.kind, .slice A2 r.bytes.length c2] 28)
        have hn3 := heap_alloc_new w2 (.cells #[.int .u64 r.gen, .int .i64 r.at_, .int .i64 r.kind, .slice A2 r.bytes.length c2] 28)
        have hR3 := Kd.R_alloc hR2 (.cells #[.int .u64 r.gen, .int .i64 r.at_, .int .i64 r.kind, .slice A2 r.bytes.length c2] 28)
        have s2 := b2.size
        go_upto_region 10 with (fail)
        clear hrd e4 b2 hR2
        generalize w2.alloc (.cells #[.int .u64 r.gen, .int .i64 r.at_, .int .i64 r.kind, .slice A2 r.bytes.length c2] 28) = w3 at b3 hn3 hR3 ⊢
        generalize w2.heap.size = rb at hn3 s2 ⊢
        obtain ⟨hI, hall⟩ := HI.out
        have m0 := cell_of_row _ _ 0 _ _ _ hn3
        have m1 := cell_of_row _ _ 1 _ _ _ hn3
        have m2 := cell_of_row _ _ 2 _ _ _ hn3
        have m3 := cell_of_row _ _ 3 _ _ _ hn3
        simp at m0 m1 m2 m3
        have hrow3 := Kd.R_below hI.row b3
        have hblk3 := hI.blk.step (b3.block _ hI.blk.lt)
        have hbel3 := below_step hI.bel b3
        have hown : ∀ k, (Value.slice A l.length c).ownBlock = some k → k < wr.heap.size ∧ w.heap.size < k := fun k hk => by
          obtain ⟨inner, ho⟩ := Kd.R_own hI.row
          exact ⟨own_lt ho k hk, hI.row.1 k hk⟩
        have hs3 := b3.size
        have hl9 : (l.length + 1) * 48 ≤ 140737488355328 := by omega
        clear hI
        go_wp2_with (at_builtin; refine Kd.R_append KRec (w0 := w) w.heap.size rfl (.tmp 59) (.tmp 61) 36 28 (.agg #[.int .u64 0, .int .i64 0, .int .i64 0, .slice none 0 0]) 48 rfl Try.underlying36 info_RRec rfl (by decide) (by decide) (.slice A l.length c) l r (r.cells A2 c2) (fun k => w.heap.size < k) (fun k => wr.heap.size ≤ k) rfl rfl ?hp ?hokp ?hfresh hrow3 hbel3 hbel3.size hl9 ?_)
        case hp => exact KRec_M (Kd.R_lower hR3 hsz)
        case hokp => exact fun k hk => ⟨by have := blk_lt HI.out.1.blk; omega, fun e => by have := (hown k e.symm).1; omega⟩
        case hfresh => exact fun k hk => by have := blk_lt HI.out.1.blk; omega
        intro v1 w4 hR4 hB4 hg4 hat4
        obtain ⟨A', c', rfl⟩ := Kd.R_slice hR4
        have hlen' : (l ++ [r]).length = l.length + 1 := by simp
        have hh4 := hblk3.step (hg4.block _ hblk3.lt (fun e => by have := (hown _ e.symm).2; omega))
        have hn4' := (hg4.block _ (blk_lt hn3) (fun e => by have := (hown _ e.symm).1; omega)).trans hn3
        clear hR3 hn3 hrow3 hblk3 hbel3 hg4 hat4 b3 m0 m1 m2 m3
        obtain ⟨T, hT⟩ : ∃ T : Int, (tailOf l : Int) + ((bodies r : Int) + 1) = T := ⟨_, rfl⟩
        obtain ⟨N, hN⟩ : ∃ N : Int, (l.length : Int) + 1 = N := ⟨_, rfl⟩
        have hwT : IntKind.i64.wrap ((tailOf l : Int) + ((bodies r : Int) + 1)) = T := by rw [← hT, IntKind.wrap_i64]; omega
        have hwN : IntKind.i64.wrap ((l.length : Int) + 1) = N := by rw [← hN, IntKind.wrap_i64]; omega
        have hh7 : RBlk (w4.setCell ⟨w.heap.size, 4, none⟩ (.int .i64 T)) _ _ _ := hh4.setTail T
        have hh8 : RBlk ((w4.setCell ⟨w.heap.size, 4, none⟩ (.int .i64 T)).setCell ⟨w.heap.size, 5, none⟩ (.int .i64 N)).drew _ _ _ := hh7.setN N
        have hB8 : Below w.heap.size w ((w4.setCell ⟨w.heap.size, 4, none⟩ (.int .i64 T)).setCell ⟨w.heap.size, 5, none⟩ (.int .i64 N)).drew := below_drew ((hB4.setCell (p := ⟨w.heap.size, 4, none⟩) (Nat.le_refl _) (.int .i64 T)).setCell (p := ⟨w.heap.size, 5, none⟩) (Nat.le_refl _) (.int .i64 N))
        have hR8 : KRec.R 28 ((w4.setCell ⟨w.heap.size, 4, none⟩ (.int .i64 T)).setCell ⟨w.heap.size, 5, none⟩ (.int .i64 N)).drew w.heap.size (fun k => w.heap.size < k) (.slice A' (l ++ [r]).length c') (l ++ [r]) := Kd.R_drew (Kd.R_step hR4 (fun k hk _ => (Below.heap_setCell (w4.setCell ⟨w.heap.size, 4, none⟩ (.int .i64 T)) ⟨w.heap.size, 5, none⟩ (.int .i64 N) k (by show k ≠ w.heap.size; omega)).trans (Below.heap_setCell w4 ⟨w.heap.size, 4, none⟩ (.int .i64 T) k (by show k ≠ w.heap.size; omega))))
        have hts := tailOf_snoc l r
        have e4 := hh4.cell4
        have e5 := hh7.cell5
        have z4 := hh4.free 4
        have z5 := hh7.free 5
        have m3 := cell_of_row _ _ 3 _ _ _ hn4'
        simp at m3
        dsimp only at e4 e5
        have hROI : ROI w p D base size gen (l ++ [r]) (.slice A' (l ++ [r]).length c') ((w4.setCell ⟨w.heap.size, 4, none⟩ (.int .i64 T)).setCell ⟨w.heap.size, 5, none⟩ (.int .i64 N)).drew := ⟨hall, by
          have e1 : T = ((tailOf (l ++ [r]) : Nat) : Int) := by rw [← hT, hts]; omega
          have e2 : N = (((l ++ [r]).length : Nat) : Int) := by rw [← hN, hlen']; omega
          have := hh8
          rw [e1, e2] at this ⊢
          exact this, hR8, hB8, by rw [hts]; omega⟩
        have HFI := hid hROI
        have hLN : (l ++ [r]).length = l.length + 1 := hlen'
        have HLN := hid hLN
        clear hROI hh8 hB8 hR8 hT hN hh7 hh4 hR4 hB4 hn4' hall hts hlen' hLN HI
        go_wp2_with fail
        refine wp_region_plan [10, 11, 12] (.take 0 (.take 1 (.take 2 (.take 3 (.take 4 (.take 5 (.take 6 (.take 7 (.run 8 (.take 9 (.tail 10 (.tail 11 (.tail 12 .done))))))))))))) (fun w' => w' = w4.drew) (by kernel_rfl) (by kernel_rfl) (fun c a d v w h => by cases d <;> exact h) rfl ?_
        iterate 8 (apply plan_take rfl rfl; (case hy => (intro w' hS; subst hS; go_simp; try exact rfl)); go_simp)
        refine plan_run_on rfl rfl (fun K hK => ?_)
        go_simp
        refine (HNN.out _).mono ?_
        rintro e w' ⟨rfl, rfl⟩
        refine hK _ _ _ (fun _ h => h) rfl ?_
        clear hK K
        go_simp
        apply plan_take rfl rfl
        case hy => (intro w' hS; subst hS; go_simp; try exact rfl)
        go_simp
        refine plan_tail_on rfl rfl (fun K hK => ?_)
        go_simp
        refine hK _ _ ?_
        clear hK K
        refine plan_tail_on rfl rfl (fun K hK => ?_)
        go_simp
        refine hK _ _ ?_
        clear hK K
        refine plan_tail_on rfl rfl (fun K hK => ?_)
        go_simp
        refine hK _ _ (plan_done ?_)
        clear hK K
        go_wp2_with fail
        go_roundw
        case rel => exact ⟨l ++ [r], by have := HFI.out; rw [HLN.out] at this; exact this⟩
        case measure => simp [rowLen]; omega
    · have hltI : ¬ (tailOf l : Int) < (size : Int) := by omega
      have hrec : recsM D base size gen = l := by have := hI.all; rw [recsAt_stop (.inl hlt), List.append_nil] at this; exact this.symm
      have HF := hid (show ROpened w p D base size gen (.returned (.tuple #[.pointer (some ⟨w.heap.size, 0, none⟩), .slice A l.length c, .int .i64 0])) wr from by
        refine ⟨w.heap.size, A, c, by rw [hrec], Nat.le_refl _, ?_, ?_, hI.bel⟩
        · rw [hrec]; exact hI.blk
        · rw [hrec]; exact Kd.R_mono hI.row (fun k hk => Nat.le_of_lt hk))
      clear hI hRd hrec
      go_wp2
      go_ret3
      exact HF.out
end Go.Proofs.Ytekhmkfiepnnkaa

set_option linter.unusedVariables false
set_option linter.unusedSimpArgs false
namespace Go.Proofs.Ytekhmkfiepnnkaa
open Go.RowKit Go.Proofs.YtekhmkfiepnnkaaW.PrintWords Go.Proofs.YtekhmkfiepnnkaaW.PrintMore

/-- Both logs say the same. -/
structure LK (w : World) (hb p tb q : Nat) (H : HM) : Prop where
  a : HBlk w hb p H
  b : RBlk w tb q H
theorem LK.below {w w1 : World} {hb p tb q : Nat} {H : HM} (h : LK w hb p tb q H) (hB : Below w.heap.size w w1) : LK w1 hb p tb q H := ⟨h.a.step (hB.block _ h.a.lt), h.b.step (hB.block _ h.b.lt)⟩
theorem looks_nil {w : World} (n : Int) : Calls Try.prog 53 #[.pointer none, .pointer none, .int .i64 n] w fun e w' => e = .returned (.bool true) ∧ Below w.heap.size w w' := by
  go_enter Try.func53, Try.ntmps53
  go_wp2
  go_ret
  exact ⟨rfl, Below.refl _ _⟩
set_option maxRecDepth 100000 in
set_option maxHeartbeats 4000000 in
theorem looks_any {w : World} {hb p tb q : Nat} {H : HM} (h : LK w hb p tb q H) (h1 : 0 ≤ H.tail ∧ H.tail ≤ H.size ∧ H.size ≤ 4096) (n : Int) (hn : -9223372036854775808 ≤ n ∧ n ≤ 9223372036854775807) :
    Calls Try.prog 53 #[.pointer (some ⟨hb, 0, none⟩), .pointer (some ⟨tb, 0, none⟩), .int .i64 n] w fun e w' => e = .returned (.bool true) ∧ Below w.heap.size w w' := by
  have B0 := below_drew (Below.refl w.heap.size w)
  have hd := h.below B0
  go_enter Try.func53, Try.ntmps53
  go_wp2_with fail
  refine wp_region_plan [] (.take 0 (.take 1 (.take 2 (.take 3 (.take 5 (.take 6 (.take 7 (.take 8 (.run 4 (.take 9 (.take 10 (.take 11 (.take 12 (.take 14 (.run 13 (.run 15 (.take 16 (.take 17 (.take 18 (.take 19 (.take 21 (.take 22 (.take 23 (.take 24 (.run 20 (.take 25 (.take 26 (.take 27 (.take 28 (.take 30 (.take 31 (.take 32 (.take 33 (.run 29 (.take 34 (.take 35 (.take 36 (.take 37 (.take 38 (.take 40 (.take 41 (.run 39 (.run 42 (.take 43 (.take 44 (.take 45 .done)))))))))))))))))))))))))))))))))))))))))))))) (fun w' => LK w' hb p tb q H) (by kernel_rfl) (by kernel_rfl) (fun c a d v w h => by cases d <;> exact h) hd ?_
  generalize w.drew = w1 at B0 hd ⊢
  (apply plan_take rfl rfl; (case hy => (intro w' hS; have e3 := hS.b.cell3; have e4 := hS.b.cell4; have e5 := hS.b.cell5; clear hS; go_simp; try exact rfl)); go_simp)
  (apply plan_take rfl rfl; (case hy => (intro w' hS; have e3 := hS.b.cell3; have e4 := hS.b.cell4; have e5 := hS.b.cell5; clear hS; go_simp; try exact rfl)); go_simp)
  (apply plan_take rfl rfl; (case hy => (intro w' hS; have e3 := hS.b.cell3; have e4 := hS.b.cell4; have e5 := hS.b.cell5; clear hS; go_simp; try exact rfl)); go_simp)
  (apply plan_take rfl rfl; (case hy => (intro w' hS; have e3 := hS.b.cell3; have e4 := hS.b.cell4; have e5 := hS.b.cell5; clear hS; go_simp; try exact rfl)); go_simp)
  (apply plan_take rfl rfl; (case hy => (intro w' hS; have e3 := hS.b.cell3; have e4 := hS.b.cell4; have e5 := hS.b.cell5; clear hS; go_simp; try exact rfl)); go_simp)
  (apply plan_take rfl rfl; (case hy => (intro w' hS; have e3 := hS.b.cell3; have e4 := hS.b.cell4; have e5 := hS.b.cell5; clear hS; go_simp; try exact rfl)); go_simp)
  (apply plan_take rfl rfl; (case hy => (intro w' hS; have e3 := hS.b.cell3; have e4 := hS.b.cell4; have e5 := hS.b.cell5; clear hS; go_simp; try exact rfl)); go_simp)
  (apply plan_take rfl rfl; (case hy => (intro w' hS; have e3 := hS.b.cell3; have e4 := hS.b.cell4; have e5 := hS.b.cell5; clear hS; go_simp; try exact rfl)); go_simp)
  refine plan_run_on rfl rfl (fun K hK => ?_)
  go_simp
  refine (used_any hd.a).mono ?_
  rintro e w' ⟨rfl, rfl⟩
  refine hK _ _ _ (fun _ h => h) hd ?_
  clear hK K
  go_simp
  (apply plan_take rfl rfl; (case hy => (intro w' hS; have e3 := hS.b.cell3; have e4 := hS.b.cell4; have e5 := hS.b.cell5; clear hS; go_simp; try exact rfl)); go_simp)
  (apply plan_take rfl rfl; (case hy => (intro w' hS; have e3 := hS.b.cell3; have e4 := hS.b.cell4; have e5 := hS.b.cell5; clear hS; go_simp; try exact rfl)); go_simp)
  (apply plan_take rfl rfl; (case hy => (intro w' hS; have e3 := hS.b.cell3; have e4 := hS.b.cell4; have e5 := hS.b.cell5; clear hS; go_simp; try exact rfl)); go_simp)
  (apply plan_take rfl rfl; (case hy => (intro w' hS; have e3 := hS.b.cell3; have e4 := hS.b.cell4; have e5 := hS.b.cell5; clear hS; go_simp; try exact rfl)); go_simp)
  (apply plan_take rfl rfl; (case hy => (intro w' hS; have e3 := hS.b.cell3; have e4 := hS.b.cell4; have e5 := hS.b.cell5; clear hS; go_simp; try exact rfl)); go_simp)
  refine plan_run_on rfl rfl (fun K hK => ?_)
  go_simp
  refine (room_any hd.a h1).mono ?_
  rintro e w2 ⟨rfl, b2⟩
  have hd2 := hd.below b2
  have B2 := below_step B0 b2
  refine hK _ _ _ (fun _ h => h) hd2 ?_
  clear hK K
  go_simp
  refine plan_run_on rfl rfl (fun K hK => ?_)
  go_simp
  refine (rroom_any hd2.b h1).mono ?_
  rintro e w3 ⟨rfl, b3⟩
  have hd3 := hd2.below b3
  have B3 := below_step B2 b3
  refine hK _ _ _ (fun _ h => h) hd3 ?_
  clear hK K
  go_simp
  (apply plan_take rfl rfl; (case hy => (intro w' hS; have e3 := hS.b.cell3; have e4 := hS.b.cell4; have e5 := hS.b.cell5; clear hS; go_simp; try exact rfl)); go_simp)
  (apply plan_take rfl rfl; (case hy => (intro w' hS; have e3 := hS.b.cell3; have e4 := hS.b.cell4; have e5 := hS.b.cell5; clear hS; go_simp; try exact rfl)); go_simp)
  (apply plan_take rfl rfl; (case hy => (intro w' hS; have e3 := hS.b.cell3; have e4 := hS.b.cell4; have e5 := hS.b.cell5; clear hS; go_simp; try exact rfl)); go_simp)
  (apply plan_take rfl rfl; (case hy => (intro w' hS; have e3 := hS.b.cell3; have e4 := hS.b.cell4; have e5 := hS.b.cell5; clear hS; go_simp; try exact rfl)); go_simp)
  (apply plan_take rfl rfl; (case hy => (intro w' hS; have e3 := hS.b.cell3; have e4 := hS.b.cell4; have e5 := hS.b.cell5; clear hS; go_simp; try exact rfl)); go_simp)
  (apply plan_take rfl rfl; (case hy => (intro w' hS; have e3 := hS.b.cell3; have e4 := hS.b.cell4; have e5 := hS.b.cell5; clear hS; go_simp; try exact rfl)); go_simp)
  (apply plan_take rfl rfl; (case hy => (intro w' hS; have e3 := hS.b.cell3; have e4 := hS.b.cell4; have e5 := hS.b.cell5; clear hS; go_simp; try exact rfl)); go_simp)
  (apply plan_take rfl rfl; (case hy => (intro w' hS; have e3 := hS.b.cell3; have e4 := hS.b.cell4; have e5 := hS.b.cell5; clear hS; go_simp; try exact rfl)); go_simp)
  refine plan_run_on rfl rfl (fun K hK => ?_)
  go_simp
  refine (hcount_any hd3.a).mono ?_
  rintro e w' ⟨rfl, rfl⟩
  refine hK _ _ _ (fun _ h => h) hd3 ?_
  clear hK K
  go_simp
  (apply plan_take rfl rfl; (case hy => (intro w' hS; have e3 := hS.b.cell3; have e4 := hS.b.cell4; have e5 := hS.b.cell5; clear hS; go_simp; try exact rfl)); go_simp)
  (apply plan_take rfl rfl; (case hy => (intro w' hS; have e3 := hS.b.cell3; have e4 := hS.b.cell4; have e5 := hS.b.cell5; clear hS; go_simp; try exact rfl)); go_simp)
  (apply plan_take rfl rfl; (case hy => (intro w' hS; have e3 := hS.b.cell3; have e4 := hS.b.cell4; have e5 := hS.b.cell5; clear hS; go_simp; try exact rfl)); go_simp)
  (apply plan_take rfl rfl; (case hy => (intro w' hS; have e3 := hS.b.cell3; have e4 := hS.b.cell4; have e5 := hS.b.cell5; clear hS; go_simp; try exact rfl)); go_simp)
  (apply plan_take rfl rfl; (case hy => (intro w' hS; have e3 := hS.b.cell3; have e4 := hS.b.cell4; have e5 := hS.b.cell5; clear hS; go_simp; try exact rfl)); go_simp)
  (apply plan_take rfl rfl; (case hy => (intro w' hS; have e3 := hS.b.cell3; have e4 := hS.b.cell4; have e5 := hS.b.cell5; clear hS; go_simp; try exact rfl)); go_simp)
  (apply plan_take rfl rfl; (case hy => (intro w' hS; have e3 := hS.b.cell3; have e4 := hS.b.cell4; have e5 := hS.b.cell5; clear hS; go_simp; try exact rfl)); go_simp)
  (apply plan_take rfl rfl; (case hy => (intro w' hS; have e3 := hS.b.cell3; have e4 := hS.b.cell4; have e5 := hS.b.cell5; clear hS; go_simp; try exact rfl)); go_simp)
  refine plan_run_on rfl rfl (fun K hK => ?_)
  go_simp
  refine (hgen_any hd3.a).mono ?_
  rintro e w' ⟨rfl, rfl⟩
  refine hK _ _ _ (fun _ h => h) hd3 ?_
  clear hK K
  go_simp
  (apply plan_take rfl rfl; (case hy => (intro w' hS; have e3 := hS.b.cell3; have e4 := hS.b.cell4; have e5 := hS.b.cell5; clear hS; go_simp; try exact rfl)); go_simp)
  (apply plan_take rfl rfl; (case hy => (intro w' hS; have e3 := hS.b.cell3; have e4 := hS.b.cell4; have e5 := hS.b.cell5; clear hS; go_simp; try exact rfl)); go_simp)
  (apply plan_take rfl rfl; (case hy => (intro w' hS; have e3 := hS.b.cell3; have e4 := hS.b.cell4; have e5 := hS.b.cell5; clear hS; go_simp; try exact rfl)); go_simp)
  (apply plan_take rfl rfl; (case hy => (intro w' hS; have e3 := hS.b.cell3; have e4 := hS.b.cell4; have e5 := hS.b.cell5; clear hS; go_simp; try exact rfl)); go_simp)
  (apply plan_take rfl rfl; (case hy => (intro w' hS; have e3 := hS.b.cell3; have e4 := hS.b.cell4; have e5 := hS.b.cell5; clear hS; go_simp; try exact rfl)); go_simp)
  (apply plan_take rfl rfl; (case hy => (intro w' hS; have e3 := hS.b.cell3; have e4 := hS.b.cell4; have e5 := hS.b.cell5; clear hS; go_simp; try exact rfl)); go_simp)
  (apply plan_take rfl rfl; (case hy => (intro w' hS; have e3 := hS.b.cell3; have e4 := hS.b.cell4; have e5 := hS.b.cell5; clear hS; go_simp; try exact rfl)); go_simp)
  refine plan_run_on rfl rfl (fun K hK => ?_)
  go_simp
  refine (fits_any hd3.a h1 n hn).mono ?_
  rintro e w4 ⟨rfl, b4⟩
  have hd4 := hd3.below b4
  have B4 := below_step B3 b4
  refine hK _ _ _ (fun _ h => h) hd4 ?_
  clear hK K
  go_simp
  refine plan_run_on rfl rfl (fun K hK => ?_)
  go_simp
  refine (rfits_any hd4.b h1 n hn).mono ?_
  rintro e w5 ⟨rfl, b5⟩
  have hd5 := hd4.below b5
  have B5 := below_step B4 b5
  refine hK _ _ _ (fun _ h => h) hd5 ?_
  clear hK K
  go_simp
  (apply plan_take rfl rfl; (case hy => (intro w' hS; have e3 := hS.b.cell3; have e4 := hS.b.cell4; have e5 := hS.b.cell5; clear hS; go_simp; try exact rfl)); go_simp)
  (apply plan_take rfl rfl; (case hy => (intro w' hS; have e3 := hS.b.cell3; have e4 := hS.b.cell4; have e5 := hS.b.cell5; clear hS; go_simp; try exact rfl)); go_simp)
  (apply plan_take rfl rfl; (case hy => (intro w' hS; have e3 := hS.b.cell3; have e4 := hS.b.cell4; have e5 := hS.b.cell5; clear hS; go_simp; try exact rfl)); go_simp)
  refine plan_done ?_
  have HF := hid B5
  clear B0 hd b2 hd2 B2 b3 hd3 B3 b4 hd4 B4 b5 hd5 B5
  go_wp2
  go_ret
  exact ⟨rfl, HF.out⟩
/-- A record's cells, in the walk's spelling. -/
theorem rec_cells4 {w : World} {ad : Addr} {l : List SR} (h : KRec.C w (some ad) l.length l) {i : Nat} (hi : i < l.length) :
    ∃ A c, w.cell? (ad.add (i * 4)) = some (.int .u64 l[i].gen) ∧ w.cell? ⟨(ad.add (i * 4)).block, (ad.add (i * 4)).off + 1, none⟩ = some (.int .i64 l[i].at_) ∧ w.cell? ⟨(ad.add (i * 4)).block, (ad.add (i * 4)).off + 2, none⟩ = some (.int .i64 l[i].kind) ∧
      w.cell? ⟨(ad.add (i * 4)).block, (ad.add (i * 4)).off + 3, none⟩ = some (.slice A l[i].bytes.length c) ∧ l[i].bytes.length ≤ c ∧ KB.C w A l[i].bytes.length l[i].bytes := by
  obtain ⟨A, c, hc, hl, hC⟩ := rec_at h hi
  exact ⟨A, c, by have := hc 0 _ rfl; simpa [Addr.add] using this, hc 1 _ rfl, hc 2 _ rfl, hc 3 _ rfl, hl, hC⟩
set_option maxRecDepth 100000 in
set_option maxHeartbeats 8000000 in
theorem records_same {w : World} {A1 A2 : Option Addr} {c1 c2 : Nat} {l : List SR} (h1 : KRec.C w A1 l.length l) (h2 : KRec.C w A2 l.length l) :
    Calls Try.prog 56 #[.slice A1 l.length c1, .slice A2 l.length c2] w fun e w' => e = .returned (.bool true) ∧ Below w.heap.size w w' := by
  have hl9 : l.length ≤ 9223372036854775807 := h1.2.1
  have HC := hid (And.intro h1 h2)
  clear h1 h2
  go_enter Try.func56, Try.ntmps56
  go_wp2_with fail
  go_loopw [5] (fun i wr => ∃ j : Nat, j ≤ l.length ∧ i = .int .i64 (j : Int) ∧ Below w.heap.size w wr) (fun i _ => l.length - (intOf i).toNat)
  case atStart => exact ⟨0, Nat.zero_le _, rfl, Below.refl _ _⟩
  case round =>
    obtain ⟨j, hj, rfl, hB⟩ := hrel
    by_cases hlt : j < l.length
    · have hltI : (j : Int) < (l.length : Int) := by omega
      cases A1 with
      | none =>
        have := C_none HC.out.1
        subst this
        simp at hlt
      | some ad1 =>
      cases A2 with
      | none =>
        have := C_none HC.out.2
        subst this
        simp at hlt
      | some ad2 =>
      obtain ⟨B1, e1, a0, a1, a2, a3, al, aC⟩ := rec_cells4 (Kd.C_below HC.out.1 (below_drew hB)) hlt
      obtain ⟨B2, e2, d0, d1, d2, d3, dl, dC⟩ := rec_cells4 (Kd.C_below HC.out.2 (below_drew hB)) hlt
      generalize l[j] = r at a0 a1 a2 a3 al aC d0 d1 d2 d3 dl dC
      go_wp2_with fail
      refine wp_region_plan [] (.take 0 (.take 1 (.take 2 (.take 3 (.take 4 (.take 5 (.take 6 (.take 7 (.take 8 (.take 9 (.take 10 (.take 11 (.take 12 (.take 13 (.take 14 (.take 15 (.take 16 (.take 17 (.take 18 (.take 19 (.take 20 (.take 21 (.take 22 (.take 23 (.take 24 (.take 25 (.take 26 (.take 27 (.take 28 (.take 29 (.take 30 (.take 31 (.take 32 (.take 33 (.take 34 (.take 35 (.take 36 (.take 37 (.take 38 (.take 39 (.take 40 (.take 41 (.take 42 (.take 43 (.take 44 (.take 45 (.take 46 (.take 47 (.take 48 (.take 49 (.take 50 (.take 51 .done)))))))))))))))))))))))))))))))))))))))))))))))))))) (fun w' => Below wr.drew.heap.size wr.drew w') (by kernel_rfl) (by kernel_rfl) (fun c a d v w h => by cases d <;> exact h) (Below.refl _ _) ?_
      iterate 43 (apply plan_take rfl rfl; (case hy => (intro w' hS; have p0 := pw_cell_below hS a0; have p1 := pw_cell_below hS a1; have p2 := pw_cell_below hS a2; have p3 := pw_cell_below hS a3; have q0 := pw_cell_below hS d0; have q1 := pw_cell_below hS d1; have q2 := pw_cell_below hS d2; have q3 := pw_cell_below hS d3; clear hS; go_simp; try exact rfl)); go_simp)
      apply plan_take rfl rfl
      case hy =>
        intro w' hS
        refine exec_convert 22 9 (.tmp 59) (.slice B1 r.bytes.length e1) (.string (strOfNums r.bytes)) ?_ ?_ (conv_str (Kd.C_below aC hS))
        · exact rfl
        · exact rfl
      go_simp
      iterate 5 (apply plan_take rfl rfl; (case hy => (intro w' hS; have p0 := pw_cell_below hS a0; have p1 := pw_cell_below hS a1; have p2 := pw_cell_below hS a2; have p3 := pw_cell_below hS a3; have q0 := pw_cell_below hS d0; have q1 := pw_cell_below hS d1; have q2 := pw_cell_below hS d2; have q3 := pw_cell_below hS d3; clear hS; go_simp; try exact rfl)); go_simp)
      apply plan_take rfl rfl
      case hy =>
        intro w' hS
        refine exec_convert 22 9 (.tmp 65) (.slice B2 r.bytes.length e2) (.string (strOfNums r.bytes)) ?_ ?_ (conv_str (Kd.C_below dC hS))
        · exact rfl
        · exact rfl
      go_simp
      iterate 2 (apply plan_take rfl rfl; (case hy => (intro w' hS; have p0 := pw_cell_below hS a0; have p1 := pw_cell_below hS a1; have p2 := pw_cell_below hS a2; have p3 := pw_cell_below hS a3; have q0 := pw_cell_below hS d0; have q1 := pw_cell_below hS d1; have q2 := pw_cell_below hS d2; have q3 := pw_cell_below hS d3; clear hS; go_simp; try exact rfl)); go_simp)
      refine plan_done ?_
      have HF := hid (below_drew hB)
      clear a0 a1 a2 a3 al aC d0 d1 d2 d3 dl dC hB
      go_wp2
      go_roundw
      case rel => exact ⟨j + 1, by omega, by go_num, HF.out⟩
      case measure => simp [intOf]; omega
    · have hltI : ¬ (j : Int) < (l.length : Int) := by omega
      go_wp2
      go_ret
      exact ⟨rfl, hB⟩
end Go.Proofs.Ytekhmkfiepnnkaa

set_option linter.unusedVariables false
set_option linter.unusedSimpArgs false
namespace Go.Proofs.Ytekhmkfiepnnkaa
open Go.RowKit Go.Proofs.YtekhmkfiepnnkaaW.PrintWords Go.Proofs.YtekhmkfiepnnkaaW.PrintMore

/-- Record r's blocks lie from block b on. -/
def LaidB (D : DM) (b : Nat) (r : SR) : Prop := D.blk b = headB r ∧ ∀ k, k < bodies r → D.blk (b + (k + 1)) = bodyB r (k + 1)
def LiesB (D : DM) (base : Nat) (gen : Int) : Nat → List SR → Prop
  | _, [] => True
  | a, r :: l => r.right ∧ r.gen = gen ∧ r.at_ = (a : Int) ∧ LaidB D (base + a) r ∧ LiesB D base gen (a + (bodies r + 1)) l
/-- A log: its records, and no head of its generation behind them. -/
structure Log (D : DM) (base size : Nat) (gen : Int) (l : List SR) : Prop where
  lies : LiesB D base gen 0 l
  free : ∀ j, base + tailOf l ≤ j → j < base + size → headOK (D.blk j) → (headR (D.blk j)).gen ≠ gen
  fit : tailOf l ≤ size
  n : base + size ≤ D.n
theorem tailOf_cons (r : SR) (l : List SR) : tailOf (r :: l) = (bodies r + 1) + tailOf l := by simp [tailOf]
theorem LiesB.congr {D D' : DM} {base : Nat} {gen : Int} : ∀ (l : List SR) (a : Nat), (∀ j, j < base + a + tailOf l → D'.blk j = D.blk j) → LiesB D base gen a l → LiesB D' base gen a l
  | [], _, _, _ => trivial
  | r :: l, a, h, hl => by
    obtain ⟨h1, h2, h3, h4, h5⟩ := hl
    rw [tailOf_cons] at h
    refine ⟨h1, h2, h3, ⟨(h _ (by omega)).trans h4.1, fun k hk => (h _ (by omega)).trans (h4.2 k hk)⟩, LiesB.congr l _ (fun j hj => h j (by omega)) h5⟩
theorem LiesB.snoc {D : DM} {base : Nat} {gen : Int} {r : SR} (hr : r.right) (hg : r.gen = gen) : ∀ (l : List SR) (a : Nat), LiesB D base gen a l → r.at_ = ((a + tailOf l : Nat) : Int) → LaidB D (base + (a + tailOf l)) r → LiesB D base gen a (l ++ [r])
  | [], a, _, ha, hb => ⟨hr, hg, ha, hb, trivial⟩
  | s :: l, a, hl, ha, hb => by
    obtain ⟨h1, h2, h3, h4, h5⟩ := hl
    rw [tailOf_cons, show a + (bodies s + 1 + tailOf l) = a + (bodies s + 1) + tailOf l from by omega] at ha hb
    exact ⟨h1, h2, h3, h4, LiesB.snoc hr hg l _ h5 ha hb⟩
theorem readV_free {D : DM} {base end_ : Nat} {gen : Int} {a : Nat} (h : headOK (D.blk (base + a)) → (headR (D.blk (base + a))).gen ≠ gen) : readV D base end_ gen a = none := by
  unfold readV
  rw [if_neg]
  rintro ⟨_, _, h3, h4, _⟩
  rw [show ((base : Int) + (a : Int)).toNat = base + a from by omega] at h3 h4
  exact h h3 h4
theorem recsAt_lies {D : DM} {base size : Nat} {gen : Int} (hg : D.gone = false) (hn : base + size ≤ D.n) : ∀ (l : List SR) (a f : Nat), LiesB D base gen a l → a + tailOf l ≤ size → size - a ≤ f → (¬ a + tailOf l < size ∨ readV D base ((base + size : Nat) : Int) gen ((a + tailOf l : Nat) : Int) = none) → recsAt D base size gen f a = l
  | [], a, f, _, _, _, hs => recsAt_stop (by simpa [tailOf] using hs)
  | r :: l, a, f, hl, ht, hf, hs => by
    obtain ⟨h1, h2, h3, h4, h5⟩ := hl
    rw [tailOf_cons] at ht hs
    obtain ⟨f, rfl⟩ : ∃ g, f = g + 1 := ⟨f - 1, by omega⟩
    have hrd : readV D base ((base + size : Nat) : Int) gen a = some r := by
      have hE : readE D base ((base + size : Nat) : Int) r.at_ = 0 := by
        unfold readE regE
        rw [if_neg (by omega), if_neg (by omega), if_neg (by rw [hg]; simp)]
      have := reads_there h1 (base := base) (end_ := base + size) (b := base + a) (by omega) hE (by omega) h4.1 h4.2
      rw [h2, h3] at this
      exact this
    rw [recsAt_cons (by omega) hrd, recsAt_lies hg hn l _ f h5 (by omega) (by omega) (by rw [show a + (bodies r + 1) + tailOf l = a + (bodies r + 1 + tailOf l) from by omega]; exact hs)]
theorem Log.recs {D : DM} {base size : Nat} {gen : Int} {l : List SR} (h : Log D base size gen l) (hg : D.gone = false) : recsM D base size gen = l := by
  unfold recsM
  refine recsAt_lies hg h.n l 0 size h.lies (by have := h.fit; omega) (by omega) ?_
  by_cases hs : 0 + tailOf l < size
  · refine .inr (readV_free (fun hk => ?_))
    rw [show base + (0 + tailOf l) = base + tailOf l from by omega] at hk ⊢
    exact h.free _ (Nat.le_refl _) (by omega) hk
  · exact .inl hs
/-- What is written at the tail, whole or in part. -/
theorem Log.put {D D' : DM} {base size : Nat} {gen : Int} {l : List SR} (h : Log D base size gen l) {r : SR} (hr : r.right) (hg : r.gen = gen) (ha : r.at_ = (tailOf l : Int)) (hfit : tailOf l + (bodies r + 1) ≤ size) {m : Nat} (hs : Sealed D D' (base + tailOf l) m r) :
    Log D' base size gen (if m = bodies r + 1 then l ++ [r] else l) := by
  have hlow : ∀ j, j < base + tailOf l → D'.blk j = D.blk j := fun j hj => by
    rw [hs.blk]; unfold sealedB; rw [if_neg (by omega), if_neg (by omega)]
  have hl2 : LiesB D' base gen 0 l := LiesB.congr l 0 (fun j hj => hlow j (by omega)) h.lies
  split
  · rename_i hm
    have hb : LaidB D' (base + tailOf l) r := by
      constructor
      · rw [hs.blk]; unfold sealedB; rw [if_pos ⟨hm, rfl⟩]
      · intro k hk
        rw [hs.blk]; unfold sealedB; rw [if_neg (by omega), if_pos (by omega), show base + tailOf l + (k + 1) - (base + tailOf l) = k + 1 from by omega]
    refine ⟨LiesB.snoc hr hg l 0 hl2 (by rw [ha]; simp) (by rw [Nat.zero_add]; exact hb), ?_, by rw [tailOf_snoc]; exact hfit, by rw [hs.n]; exact h.n⟩
    intro j h1 h2
    rw [tailOf_snoc] at h1
    rw [hs.blk]; unfold sealedB; rw [if_neg (by omega), if_neg (by omega)]
    exact h.free j (by omega) h2
  · rename_i hm
    refine ⟨hl2, ?_, h.fit, by rw [hs.n]; exact h.n⟩
    intro j h1 h2
    rw [hs.blk]; unfold sealedB; rw [if_neg (by omega)]
    split
    · intro hk; exact absurd hk (body_headR r _).2
    · exact h.free j h1 h2
end Go.Proofs.Ytekhmkfiepnnkaa

set_option linter.unusedVariables false
set_option linter.unusedSimpArgs false
namespace Go.Proofs.Ytekhmkfiepnnkaa
open Go.RowKit Go.Shelf Go.Proofs.YtekhmkfiepnnkaaW.PrintWords Go.Proofs.YtekhmkfiepnnkaaW.PrintMore

theorem new_head (n j : Nat) : ¬ headOK ((DM.new n).blk j) := by
  intro h
  have h2 := h.2.1
  have hm : (102 : Int) ∈ (DM.new n).blk j := by
    have : (102 : Int) ∈ ((DM.new n).blk j).take 2 := by rw [h2]; simp
    exact List.mem_of_mem_take this
  have h3 : (102 : Int) ∈ (DM.new n).b := by
    unfold DM.blk at hm
    exact List.mem_of_mem_drop (List.mem_of_mem_take hm)
  have h4 := List.eq_of_mem_replicate (show (102 : Int) ∈ List.replicate (64 * n) 0 from h3)
  omega
def aR : SR := ⟨1, 0, 1, [97, 98]⟩
theorem aR_right : aR.right := ⟨by decide, by decide, by decide, by intro x hx; simp [aR] at hx; omega, by decide⟩
theorem alive_facts : ((DM.new 16).sealW 2 aR).2 = 0 ∧ ((DM.new 16).sealW 2 aR).1.gone = false ∧ recsM ((DM.new 16).sealW 2 aR).1 2 7 1 = [aR] ∧ ((DM.new 16).sealW 2 aR).1.n = 16 := by
  obtain ⟨h1, h2⟩ := sealW_right (D := DM.new 16) (new_wf (by omega) (by omega)) rfl aR_right (base := 2) (b := 2) rfl (by omega) (by rw [new_n]; omega) (by rw [new_n]; decide)
  have hd : done_ (DM.new 16).left (bodies aR + 1) = bodies aR + 1 := by unfold done_; rw [if_pos (by show (-1 : Int) < 0; omega)]
  rw [hd] at h1 h2
  have hl : Log (DM.new 16) 2 7 1 [] := ⟨trivial, fun j _ _ hk => absurd hk (new_head 16 j), Nat.zero_le _, by rw [new_n]; omega⟩
  have hp := hl.put aR_right rfl rfl (by decide) h2
  rw [if_pos rfl] at hp
  refine ⟨by rw [h1, if_neg (by omega)], by rw [h2.gone]; simp, ?_⟩
  exact ⟨hp.recs (by rw [h2.gone]; simp), by rw [h2.n, new_n]⟩
/-- The bytes of a constant string, behind their mark. -/
theorem conv_const (W : World) : (convert 22 22 (.slice (some ⟨W.heap.size, 0, none⟩) 2 2)).run Try.prog (W.alloc (.cells #[.int .u8 97, .int .u8 98] 5)) = .ok (.slice (some ⟨W.heap.size, 0, none⟩) 2 2) (W.alloc (.cells #[.int .u8 97, .int .u8 98] 5 (2, 3))) :=
  Lib.run_convert_bytes_const W 22 5 #[.int .u8 97, .int .u8 98] 2 2 Try.underlying22 Try.underlying5
theorem RB_const (w : World) : RB (w.alloc (.cells #[.int .u8 97, .int .u8 98] 5 (2, 3))) (fun k => k = w.heap.size) (some ⟨w.heap.size, 0, none⟩) [97, 98] := by
  intro W' hW
  have hb : W'.heap[w.heap.size]? = some (.cells #[.int .u8 97, .int .u8 98] 5 (2, 3)) := (hW _ rfl (by rw [World.size_alloc]; omega)).trans (World.alloc_heap_new w _)
  refine Kd.C_of_reads (d := 0) ⟨rfl, by decide, fun _ => ⟨_, rfl, fun i hi => ?_⟩⟩
  rw [add_plain]
  have hi2 : i = 0 ∨ i = 1 := by simp at hi; omega
  rcases hi2 with rfl | rfl <;> simp [World.cell?, hb]
set_option maxRecDepth 100000 in
set_option maxHeartbeats 4000000 in
theorem alive_any {w : World} : Calls Try.prog 40 #[] w fun e w' => e = .returned (.bool true) ∧ Below w.heap.size w w' := by
  have hmk : ∀ W : World, (Instr.makeSlice 22 (.int .i64 1000) (.int .i64 1000)).run Try.prog W = .ok (.slice (some ⟨W.heap.size, 0, none⟩) 1000 1000) (W.alloc (.cells (madeCells #[.int .u8 0] 1000) 5)) := make_bytes 1000 (by omega)
  obtain ⟨f1, f2, f3, f4⟩ := alive_facts
  have hE : hnewE (DM.new 16) (2 : Nat) (7 : Nat) 1 = 0 := by unfold hnewE; rw [new_n]; decide
  go_enter Try.func40, Try.ntmps40
  go_wp2_with fail
  refine (new_ok 16 (by omega) (by omega)).mono ?_
  rintro e w1 ⟨rfl, h1, b1⟩
  go_wp2_with fail
  refine (hnew_ok h1.bound 2 7 1 hE).mono ?_
  rintro e w2 ⟨rfl, hh2, b2⟩
  have h2 := h1.bound.step (w1 := w2) (fun k _ hlt => b2.block k hlt)
  have hcv := conv_const w2
  go_wp2_with fail
  have hs1 := b1.size
  have hs2 := hh2.lt
  have hb3 := below_alloc (Below.refl w2.heap.size w2) (.cells #[.int .u8 97, .int .u8 98] 5 (2, 3))
  have hF3 := RB_const w2
  have h3 := h2.step (w1 := w2.alloc (.cells #[.int .u8 97, .int .u8 98] 5 (2, 3))) (fun k hk _ => hb3.block k (by have := hk.2; omega))
  have hh3 := hh2.step (hb3.block _ hh2.lt)
  have hne : apart (fun k => k = w2.heap.size) (fun k => w.heap.size ≤ k ∧ k < w1.heap.size) := fun k hk h => by omega
  have hs3 : (w2.alloc (.cells #[.int .u8 97, .int .u8 98] 5 (2, 3))).heap.size = w2.heap.size + 1 := World.size_alloc _ _
  have b3 : Below w.heap.size w (w2.alloc (.cells #[.int .u8 97, .int .u8 98] 5 (2, 3))) := (b1.trans (b2.mono hs1)).trans (hb3.mono (by omega))
  have hput := hput_ok (c := 2) h3 hh3 hF3 hne (by omega) (by decide) (by intro x hx; simp at hx; omega) (by decide) (by decide) (by decide) (by decide) (by simp [DM.new]) 1 (by decide)
  unfold hputH at hput
  dsimp only at hput
  have hpr : hputR ⟨2, 7, 1, 0, 0⟩ 1 [97, 98] = aR := rfl
  rw [hpr, f1, if_pos rfl] at hput
  have hnd : need (([97, 98] : List Int).length : Int) = 1 := by decide
  rw [hnd] at hput
  clear hcv hh3 h3 hb3 f1
  generalize w2.alloc (.cells #[.int .u8 97, .int .u8 98] 5 (2, 3)) = w3 at hput hs3 hF3 b3 ⊢
  refine hput.mono ?_
  rintro e w4 ⟨rfl, h4, hh4, c4⟩
  have b4 : Below w.heap.size w w4 := b3.trans (c4.below_ (B := w.heap.size) b3.size (fun k hk => by omega))
  have hs4 := c4.size
  clear hput hF3 c4 hne hpr hnd b3
  go_wp2_with fail
  have b45 := below_alloc (Below.refl w4.heap.size w4) (.cells (madeCells #[.int .u8 0] 1000) 5)
  have h5 := h4.bound.step (w1 := w4.alloc (.cells (madeCells #[.int .u8 0] 1000) 5)) (fun k _ hlt => b45.block k hlt)
  have hh5 := hh4.step (b45.block _ hh4.lt)
  have b5 : Below w.heap.size w (w4.alloc (.cells (madeCells #[.int .u8 0] 1000) 5)) := below_step b4 b45
  generalize w4.alloc (.cells (madeCells #[.int .u8 0] 1000) 5) = w5 at b45 h5 hh5 b5 ⊢
  have hpe := hput_err hh5 (by decide) 2 (some ⟨w4.heap.size, 0, none⟩) 1000 1000 (by omega) (by decide)
  rw [show hputC ⟨2, 7, 1, 0 + 1, 0 + 1⟩ 2 1000 = 63 from by decide] at hpe
  refine hpe.mono ?_
  rintro e w6 ⟨rfl, b6⟩
  have h6 := h5.step (w1 := w6) (fun k hk hlt => b6.block k hlt)
  have b6' := below_step b5 b6
  clear hpe h5 hh5 h4 hh4 b45
  have hE2 : hnewE ((DM.new 16).sealW 2 aR).1 (2 : Nat) (7 : Nat) 1 = 0 := by unfold hnewE; rw [f4]; decide
  have hop := hopen_ok h6 2 7 1 hE2 f2
  unfold Opened at hop
  rw [f3] at hop
  go_wp2_with fail
  refine hop.mono ?_
  rintro e w7 ⟨hb7, A7, c7, rfl, hb7', hh7, hR7, b7⟩
  have b7' := below_step b6' b7
  obtain ⟨g7, rfl⟩ : ∃ g, A7 = some ⟨g, 0, none⟩ := by
    obtain ⟨_, inner, hown, _⟩ := hR7
    rcases hown.2 with ⟨h1, _⟩ | ⟨g', cap, cur, h1, _⟩
    · cases h1
    · injection h1 with h1; exact ⟨g', h1⟩
  obtain ⟨A8, c8, hv8, hl8, hC8⟩ := Kd.R_reads hR7
  injection hv8 with e1 e2 e3
  subst e1
  obtain ⟨A9, c9, hcell, hl9, hC9⟩ := rec_at hC8 (i := 0) (by simp)
  have k2 := hcell 2 (.int .i64 1) rfl
  have k3 := hcell 3 (.slice A9 2 c9) rfl
  have hcs : (convert 22 9 (.slice A9 2 c9)).run Try.prog w7 = .ok (.string (strOfNums [97, 98])) w7 := conv_str hC9
  have hst : strOfNums [97, 98] = ⟨#[97, 98]⟩ := by kernel_rfl
  rw [hst] at hcs
  simp [Addr.add] at k2 k3
  have hl1 : ([aR] : List SR).length = 1 := rfl
  rw [hl1]
  clear hcell hl9 hC9 hC8 hR7 hl8 hop h6 hh7
  go_wp2_with fail
  go_ret
  exact ⟨rfl, b7'⟩
end Go.Proofs.Ytekhmkfiepnnkaa

set_option linter.unusedVariables false
set_option linter.unusedSimpArgs false
namespace Go.Proofs.Ytekhmkfiepnnkaa
open Go.RowKit Go.Shelf Go.Proofs.YtekhmkfiepnnkaaW.PrintWords Go.Proofs.YtekhmkfiepnnkaaW.PrintMore

structure Op23 where
  kind : Int
  of_ : Int
  n : Int
  fill : Int
  gen : Int
def Op23.cells (o : Op23) : Array Value := #[.int .i64 o.kind, .int .i64 o.of_, .int .i64 o.n, .int .u8 o.fill, .int .u64 o.gen]
def Op23.len (o : Op23) : Nat := if o.n < 0 ∨ 400000 < o.n then 0 else o.n.toNat
def Op23.at (o : Op23) (i : Nat) : Int := (o.fill + (i : Int)) % 256
def Op23.bytes (o : Op23) : List Int := (List.range o.len).map o.at
def partO (o : Op23) (m k : Nat) : List Int := (List.range k).map o.at ++ List.replicate (m - k) 0
theorem partO_set (o : Op23) {m k : Nat} (h : k < m) : (nums .u8 (partO o m k)).toArray.setIfInBounds k (.int .u8 (o.at k)) = (nums .u8 (partO o m (k + 1))).toArray := by
  unfold nums partO
  rw [List.setIfInBounds_toArray]
  congr 1
  rw [show m - k = (m - (k + 1)) + 1 from by omega, List.replicate_succ, List.range_succ]
  simp only [List.map_append, List.map_cons, List.map_nil, List.append_assoc, List.cons_append, List.nil_append]
  rw [List.set_append_right _ _ (by simp)]
  simp
theorem partO_zero (o : Op23) (m : Nat) : madeCells #[.int .u8 0] m = (nums .u8 (partO o m 0)).toArray := by
  rw [show (#[.int .u8 0] : Array Value) = (List.replicate 1 (.int .u8 0)).toArray from rfl, madeCells_rep _ _ _ (by decide)]
  unfold nums partO
  simp
set_option maxRecDepth 100000 in
set_option maxHeartbeats 4000000 in
theorem bytes23_any {w : World} (o : Op23) : Calls Try.prog 43 #[.agg o.cells] w fun e w' => e = .returned (.slice (some ⟨w.heap.size + 1, 0, none⟩) o.len o.len) ∧ w'.heap[w.heap.size + 1]? = some (.cells (nums .u8 o.bytes).toArray 5 (0, 0)) ∧ Below w.heap.size w w' := by
  have hb1 := heap_alloc_new w (.cells o.cells 84)
  have hB1 := below_alloc (Below.refl w.heap.size w) (.cells o.cells 84)
  unfold Op23.cells at hb1 hB1 ⊢
  have hco : Try.prog.cellsOf 5 = 1 := by kernel_rfl
  have hsz : ∀ W : World, (sizeOf 5).run Try.prog W = .ok 1 W := fun W => by
    obtain ⟨i, hi, _⟩ := Option.map_eq_some_iff.1 info_u8
    rw [run_sizeOf W hi, hco]
  by_cases hn : o.n < 0
  · skip
    have hl : o.len = 0 := by unfold Op23.len; rw [if_pos (.inl hn)]
    have hmk0 : ∀ W : World, (Instr.makeSlice 22 (.int .i64 0) (.int .i64 0)).run Try.prog W = .ok (.slice (some ⟨W.heap.size, 0, none⟩) 0 0) (W.alloc (.cells (madeCells #[.int .u8 0] 0) 5)) := make_bytes 0 (by omega)
    rw [hl]
    go_enter Try.func43, Try.ntmps43
    go_wp2_with fail
    rw [partO_zero o 0]
    have hc0 := heap_alloc_new (w.alloc (.cells #[.int .i64 o.kind, .int .i64 o.of_, .int .i64 o.n, .int .u8 o.fill, .int .u64 o.gen] 84)) (.cells (nums .u8 (partO o 0 0)).toArray 5)
    have hs0 : (w.alloc (.cells #[.int .i64 o.kind, .int .i64 o.of_, .int .i64 o.n, .int .u8 o.fill, .int .u64 o.gen] 84)).heap.size = w.heap.size + 1 := World.size_alloc _ _
    have hx0 := (Below.heap_alloc (w.alloc (.cells #[.int .i64 o.kind, .int .i64 o.of_, .int .i64 o.n, .int .u8 o.fill, .int .u64 o.gen] 84)) (.cells (nums .u8 (partO o 0 0)).toArray 5) _ (blk_lt hb1)).trans hb1
    have hB0 := below_step hB1 (below_alloc (Below.refl (w.alloc (.cells #[.int .i64 o.kind, .int .i64 o.of_, .int .i64 o.n, .int .u8 o.fill, .int .u64 o.gen] 84)).heap.size (w.alloc (.cells #[.int .i64 o.kind, .int .i64 o.of_, .int .i64 o.n, .int .u8 o.fill, .int .u64 o.gen] 84))) (.cells (nums .u8 (partO o 0 0)).toArray 5))
    rw [hs0] at hc0
    generalize (w.alloc (.cells #[.int .i64 o.kind, .int .i64 o.of_, .int .i64 o.n, .int .u8 o.fill, .int .u64 o.gen] 84)).alloc (.cells (nums .u8 (partO o 0 0)).toArray 5) = w2 at hc0 hx0 hB0 ⊢
    clear hs0 hb1 hB1
    go_loopw [5] (fun av wr => ∃ k : Nat, k ≤ 0 ∧ av = .int .i64 k ∧ wr.heap[w.heap.size + 1]? = some (.cells (nums .u8 (partO o 0 k)).toArray 5 (0, 0)) ∧ Below w.heap.size w wr ∧ wr.heap[w.heap.size]? = some (.cells #[.int .i64 o.kind, .int .i64 o.of_, .int .i64 o.n, .int .u8 o.fill, .int .u64 o.gen] 84 (0, 0))) (fun av _ => 0 - (intOf av).toNat)
    case atStart => exact ⟨0, Nat.zero_le _, rfl, hc0, hB0, hx0⟩
    case round =>
      obtain ⟨k, hk, rfl, hc, hB, hx⟩ := hrel
      clear hc0 hB0 hx0
      have kf := cell_of_row _ _ 3 _ _ _ hx
      simp at kf
      by_cases hlt : k < 0
      · omega
      · have hltI : ¬ (k : Int) < 0 := by omega
        obtain rfl : k = 0 := by omega
        have HC := hid (And.intro hc hB)
        clear hc hx hk
        go_wp2
        go_ret
        refine ⟨rfl, ?_, HC.out.2⟩
        rw [HC.out.1]
        unfold Op23.bytes partO
        rw [hl]
        simp

  by_cases hm : 400000 < o.n
  · skip
    have hl : o.len = 0 := by unfold Op23.len; rw [if_pos (.inr hm)]
    have hmk0 : ∀ W : World, (Instr.makeSlice 22 (.int .i64 0) (.int .i64 0)).run Try.prog W = .ok (.slice (some ⟨W.heap.size, 0, none⟩) 0 0) (W.alloc (.cells (madeCells #[.int .u8 0] 0) 5)) := make_bytes 0 (by omega)
    rw [hl]
    go_enter Try.func43, Try.ntmps43
    go_wp2_with fail
    rw [partO_zero o 0]
    have hc0 := heap_alloc_new (w.alloc (.cells #[.int .i64 o.kind, .int .i64 o.of_, .int .i64 o.n, .int .u8 o.fill, .int .u64 o.gen] 84)) (.cells (nums .u8 (partO o 0 0)).toArray 5)
    have hs0 : (w.alloc (.cells #[.int .i64 o.kind, .int .i64 o.of_, .int .i64 o.n, .int .u8 o.fill, .int .u64 o.gen] 84)).heap.size = w.heap.size + 1 := World.size_alloc _ _
    have hx0 := (Below.heap_alloc (w.alloc (.cells #[.int .i64 o.kind, .int .i64 o.of_, .int .i64 o.n, .int .u8 o.fill, .int .u64 o.gen] 84)) (.cells (nums .u8 (partO o 0 0)).toArray 5) _ (blk_lt hb1)).trans hb1
    have hB0 := below_step hB1 (below_alloc (Below.refl (w.alloc (.cells #[.int .i64 o.kind, .int .i64 o.of_, .int .i64 o.n, .int .u8 o.fill, .int .u64 o.gen] 84)).heap.size (w.alloc (.cells #[.int .i64 o.kind, .int .i64 o.of_, .int .i64 o.n, .int .u8 o.fill, .int .u64 o.gen] 84))) (.cells (nums .u8 (partO o 0 0)).toArray 5))
    rw [hs0] at hc0
    generalize (w.alloc (.cells #[.int .i64 o.kind, .int .i64 o.of_, .int .i64 o.n, .int .u8 o.fill, .int .u64 o.gen] 84)).alloc (.cells (nums .u8 (partO o 0 0)).toArray 5) = w2 at hc0 hx0 hB0 ⊢
    clear hs0 hb1 hB1
    go_loopw [5] (fun av wr => ∃ k : Nat, k ≤ 0 ∧ av = .int .i64 k ∧ wr.heap[w.heap.size + 1]? = some (.cells (nums .u8 (partO o 0 k)).toArray 5 (0, 0)) ∧ Below w.heap.size w wr ∧ wr.heap[w.heap.size]? = some (.cells #[.int .i64 o.kind, .int .i64 o.of_, .int .i64 o.n, .int .u8 o.fill, .int .u64 o.gen] 84 (0, 0))) (fun av _ => 0 - (intOf av).toNat)
    case atStart => exact ⟨0, Nat.zero_le _, rfl, hc0, hB0, hx0⟩
    case round =>
      obtain ⟨k, hk, rfl, hc, hB, hx⟩ := hrel
      clear hc0 hB0 hx0
      have kf := cell_of_row _ _ 3 _ _ _ hx
      simp at kf
      by_cases hlt : k < 0
      · omega
      · have hltI : ¬ (k : Int) < 0 := by omega
        obtain rfl : k = 0 := by omega
        have HC := hid (And.intro hc hB)
        clear hc hx hk
        go_wp2
        go_ret
        refine ⟨rfl, ?_, HC.out.2⟩
        rw [HC.out.1]
        unfold Op23.bytes partO
        rw [hl]
        simp

  obtain ⟨m, hnm⟩ := Int.eq_ofNat_of_zero_le (show 0 ≤ o.n by omega)
  have hl : o.len = m := by unfold Op23.len; rw [if_neg (by omega), hnm]; simp
  have hmk := make_bytes m (by omega)
  have hn2 : ¬ ((m : Nat) : Int) < 0 := by omega
  have hm2 : ¬ (400000 : Int) < ((m : Nat) : Int) := by omega
  have HL := hid hl
  rw [hl]
  rw [hnm] at hb1 hB1
  rw [hnm]
  clear hl hn hm hnm
  go_enter Try.func43, Try.ntmps43
  go_wp2_with fail
  rw [partO_zero o m]
  have hc0 := heap_alloc_new (w.alloc (.cells #[.int .i64 o.kind, .int .i64 o.of_, .int .i64 (m : Int), .int .u8 o.fill, .int .u64 o.gen] 84)) (.cells (nums .u8 (partO o m 0)).toArray 5)
  have hs0 : (w.alloc (.cells #[.int .i64 o.kind, .int .i64 o.of_, .int .i64 (m : Int), .int .u8 o.fill, .int .u64 o.gen] 84)).heap.size = w.heap.size + 1 := World.size_alloc _ _
  have hx0 := (Below.heap_alloc (w.alloc (.cells #[.int .i64 o.kind, .int .i64 o.of_, .int .i64 (m : Int), .int .u8 o.fill, .int .u64 o.gen] 84)) (.cells (nums .u8 (partO o m 0)).toArray 5) _ (blk_lt hb1)).trans hb1
  have hB0 := below_step hB1 (below_alloc (Below.refl (w.alloc (.cells #[.int .i64 o.kind, .int .i64 o.of_, .int .i64 (m : Int), .int .u8 o.fill, .int .u64 o.gen] 84)).heap.size (w.alloc (.cells #[.int .i64 o.kind, .int .i64 o.of_, .int .i64 (m : Int), .int .u8 o.fill, .int .u64 o.gen] 84))) (.cells (nums .u8 (partO o m 0)).toArray 5))
  rw [hs0] at hc0
  generalize (w.alloc (.cells #[.int .i64 o.kind, .int .i64 o.of_, .int .i64 (m : Int), .int .u8 o.fill, .int .u64 o.gen] 84)).alloc (.cells (nums .u8 (partO o m 0)).toArray 5) = w2 at hc0 hx0 hB0 ⊢
  clear hs0 hb1 hB1
  go_loopw [5] (fun av wr => ∃ k : Nat, k ≤ m ∧ av = .int .i64 k ∧ wr.heap[w.heap.size + 1]? = some (.cells (nums .u8 (partO o m k)).toArray 5 (0, 0)) ∧ Below w.heap.size w wr ∧ wr.heap[w.heap.size]? = some (.cells #[.int .i64 o.kind, .int .i64 o.of_, .int .i64 (m : Int), .int .u8 o.fill, .int .u64 o.gen] 84 (0, 0))) (fun av _ => m - (intOf av).toNat)
  case atStart => exact ⟨0, Nat.zero_le _, rfl, hc0, hB0, hx0⟩
  case round =>
    obtain ⟨k, hk, rfl, hc, hB, hx⟩ := hrel
    clear hc0 hB0 hx0
    have kf := cell_of_row _ _ 3 _ _ _ hx
    simp at kf
    by_cases hlt : k < m
    · have hltI : (k : Int) < ((m : Nat) : Int) := by omega
      have hg := frozen_of_row wr (w.heap.size + 1) k _ _ hc
      have hkc : wr.cell? ⟨w.heap.size + 1, k, none⟩ = some (.int .u8 ((partO o m k).getD k 0)) := by
        rw [cell_of_row wr (w.heap.size + 1) k _ _ _ hc]
        have hl : k < (partO o m k).length := by simp [partO]; omega
        simp [nums, List.getD_eq_getElem?_getD, hl]
      have hset := heap_setCell_same wr (w.heap.size + 1) k _ _ (.int .u8 (o.at k)) hc
      rw [partO_set o hlt] at hset
      have hx2 := (Below.heap_setCell wr ⟨w.heap.size + 1, k, none⟩ (.int .u8 (o.at k)) w.heap.size (by show w.heap.size ≠ w.heap.size + 1; omega)).trans hx
      have hB2 := hB.setCell (p := ⟨w.heap.size + 1, k, none⟩) (by show w.heap.size ≤ w.heap.size + 1; omega) (.int .u8 (o.at k))
      have HS := hid (And.intro hset (And.intro hB2 hx2))
      clear hset hB2 hx2 hc hx
      generalize (partO o m k).getD k 0 = ov at hkc
      go_wp2
      go_roundw
      case rel => exact ⟨k + 1, by omega, by go_num, HS.out⟩
      case measure => simp [intOf]; omega
    · have hltI : ¬ (k : Int) < ((m : Nat) : Int) := by omega
      obtain rfl : m = k := by omega
      have HC := hid (And.intro hc hB)
      clear hc hx hk
      go_wp2
      go_ret
      refine ⟨rfl, ?_, HC.out.2⟩
      rw [HC.out.1]
      unfold Op23.bytes partO
      rw [HL.out]
      simp
end Go.Proofs.Ytekhmkfiepnnkaa

set_option linter.unusedVariables false
set_option linter.unusedSimpArgs false
namespace Go.Proofs.Ytekhmkfiepnnkaa
open Go.RowKit Go.Proofs.YtekhmkfiepnnkaaW.PrintWords Go.Proofs.YtekhmkfiepnnkaaW.PrintMore

structure HOk (H : HM) : Prop where
  n : 0 ≤ H.n ∧ H.n ≤ H.tail
  t : H.tail ≤ H.size ∧ H.size ≤ 4096
  b : 0 ≤ H.base ∧ H.base ≤ 4096
  g : 0 ≤ H.gen ∧ H.gen < 18446744073709551616
theorem hnew_in {D : DM} (hw : D.wf) {base size gen : Int} (he : hnewE D base size gen = 0) : 0 ≤ base ∧ base ≤ 4096 ∧ 1 ≤ size ∧ size ≤ 4096 ∧ base + size ≤ D.n ∧ ¬ gen = 0 := by
  have := hw.hi
  unfold hnewE at he
  split at he
  · cases he
  · omega
theorem HOk.new {D : DM} (hw : D.wf) {base size gen : Int} (he : hnewE D base size gen = 0) (hg : 0 ≤ gen ∧ gen < 18446744073709551616) : HOk ⟨base, size, gen, 0, 0⟩ := by
  obtain ⟨h1, h2, h3, h4, h5, h6⟩ := hnew_in hw he
  exact ⟨⟨Int.le_refl _, Int.le_refl _⟩, ⟨by show (0 : Int) ≤ size; omega, h4⟩, ⟨h1, h2⟩, hg⟩
theorem HOk.put {H : HM} (h : HOk H) (D : DM) (kind : Int) (bs : List Int) (he : hputC H kind bs.length = 0) : HOk (hputH D H kind bs) := by
  unfold hputH
  split
  · have hf : fitsB H bs.length = true := by
      unfold hputC at he
      split at he
      · cases he
      · split at he
        · cases he
        · split at he
          · cases he
          · rename_i hh; simpa using hh
    unfold fitsB at hf
    have hf2 := of_decide_eq_true hf
    obtain ⟨⟨a1, a2⟩, ⟨a3, a4⟩, a5, a6⟩ := h
    exact ⟨⟨by show 0 ≤ H.n + 1; omega, by show H.n + 1 ≤ H.tail + need bs.length; omega⟩, ⟨by show H.tail + need bs.length ≤ H.size; omega, a4⟩, a5, a6⟩
  · exact h
theorem tail_recsAt {D : DM} (hw : D.wf) (base size : Nat) (gen : Int) : ∀ (f a : Nat), a ≤ size → tailOf (recsAt D base size gen f a) + a ≤ size
  | 0, a, h => by simp [recsAt, tailOf]; omega
  | f + 1, a, h => by
    by_cases ha : a < size
    · cases hV : readV D base ((base + size : Nat) : Int) gen a with
      | none => rw [recsAt_stop (.inr hV)]; simp [tailOf]; omega
      | some r =>
        rw [recsAt_cons ha hV]
        have hfit := (readV_got hw hV).fit
        have h2 := tail_recsAt hw base size gen f (a + (bodies r + 1)) (by omega)
        simp only [tailOf, List.map_cons, List.sum_cons] at h2 ⊢
        omega
    · rw [recsAt_stop (.inl ha)]; simp [tailOf]; omega
theorem HOk.opened {D : DM} (hw : D.wf) {base size : Nat} {gen : Int} (he : hnewE D base size gen = 0) (hg : 0 ≤ gen ∧ gen < 18446744073709551616) :
    HOk ⟨base, size, gen, (tailOf (recsM D base size gen) : Int), ((recsM D base size gen).length : Int)⟩ := by
  obtain ⟨h1, h2, h3, h4, h5, h6⟩ := hnew_in hw he
  have a1 := tail_recsAt hw base size gen size 0 (Nat.zero_le _)
  have a2 := tailOf_len (recsM D base size gen)
  unfold recsM at a2 ⊢
  exact ⟨⟨by show (0 : Int) ≤ (((recsAt D base size gen size 0).length : Nat) : Int); omega, by show (((recsAt D base size gen size 0).length : Nat) : Int) ≤ ((tailOf (recsAt D base size gen size 0) : Nat) : Int); omega⟩, ⟨by show ((tailOf (recsAt D base size gen size 0) : Nat) : Int) ≤ (size : Int); omega, h4⟩, ⟨h1, h2⟩, hg⟩
theorem LK.ne {w : World} {hb p tb q : Nat} {H : HM} (h : LK w hb p tb q H) : hb ≠ tb := blk_type_ne h.a h.b (by decide)
/-- The two logs: neither, or alike, their blocks apart from the disks', all below N. -/
def Logs (w : World) (B N : Nat) (okd okt : Nat → Prop) (p q : Nat) (h t : Value) : Prop :=
  (h = .pointer none ∧ t = .pointer none) ∨ ∃ hb tb H, h = .pointer (some ⟨hb, 0, none⟩) ∧ t = .pointer (some ⟨tb, 0, none⟩) ∧ LK w hb p tb q H ∧ HOk H ∧ (B ≤ hb ∧ hb < N) ∧ (B ≤ tb ∧ tb < N) ∧ ¬ okd hb ∧ ¬ okt hb ∧ ¬ okd tb ∧ ¬ okt tb
theorem Logs.step {w w1 : World} {B N : Nat} {okd okt : Nat → Prop} {p q : Nat} {h t : Value} (hl : Logs w B N okd okt p q h t) (hm : ∀ k, B ≤ k → k < w.heap.size → ¬ okd k → ¬ okt k → w1.heap[k]? = w.heap[k]?) : Logs w1 B N okd okt p q h t := by
  rcases hl with hl | ⟨hb, tb, H, e1, e2, hk, ho, b1, b2, n1, n2, n3, n4⟩
  · exact .inl hl
  · exact .inr ⟨hb, tb, H, e1, e2, ⟨hk.a.step (hm hb b1.1 hk.a.lt n1 n2), hk.b.step (hm tb b2.1 hk.b.lt n3 n4)⟩, ho, b1, b2, n1, n2, n3, n4⟩
theorem Logs.weak {w : World} {B N N' : Nat} {okd okt okd' okt' : Nat → Prop} {p q : Nat} {h t : Value} (hl : Logs w B N okd okt p q h t) (hN : N ≤ N') (h1 : ∀ k, k < N → okd' k → okd k) (h2 : ∀ k, k < N → okt' k → okt k) : Logs w B N' okd' okt' p q h t := by
  rcases hl with hl | ⟨hb, tb, H, e1, e2, hk, ho, b1, b2, n1, n2, n3, n4⟩
  · exact .inl hl
  · exact .inr ⟨hb, tb, H, e1, e2, hk, ho, ⟨b1.1, by omega⟩, ⟨b2.1, by omega⟩, fun h => n1 (h1 _ b1.2 h), fun h => n2 (h2 _ b1.2 h), fun h => n3 (h1 _ b2.2 h), fun h => n4 (h2 _ b2.2 h)⟩
/-- Both disks and both logs, in blocks from B on and below N. -/
def PS (B N : Nat) (w : World) (p q : Nat) (D : DM) (h t : Value) : Prop :=
  N ≤ w.heap.size ∧ ∃ okd okt : Nat → Prop, PDisk w okd p D ∧ RDisk w okt q D ∧ apart okd okt ∧ (∀ k, okd k → B ≤ k ∧ k < N) ∧ (∀ k, okt k → B ≤ k ∧ k < N) ∧ Logs w B N okd okt p q h t
theorem PS.below {B N : Nat} {w w1 : World} {p q : Nat} {D : DM} {h t : Value} (hp : PS B N w p q D h t) (hb : Below w.heap.size w w1) : PS B N w1 p q D h t := by
  obtain ⟨hN, okd, okt, hd, ht, ha, h1, h2, hl⟩ := hp
  exact ⟨Nat.le_trans hN hb.size, okd, okt, hd.step (fun k _ hk => hb.block k hk), ht.step (fun k _ hk => hb.block k hk), ha, h1, h2, hl.step (fun k _ hk _ _ => hb.block k hk)⟩
theorem PS.wide {B N N' : Nat} {w : World} {p q : Nat} {D : DM} {h t : Value} (hp : PS B N w p q D h t) (hN : N ≤ N') (hN' : N' ≤ w.heap.size) : PS B N' w p q D h t := by
  obtain ⟨_, okd, okt, hd, ht, ha, h1, h2, hl⟩ := hp
  exact ⟨hN', okd, okt, hd, ht, ha, fun k hk => ⟨(h1 k hk).1, by have := (h1 k hk).2; omega⟩, fun k hk => ⟨(h2 k hk).1, by have := (h2 k hk).2; omega⟩, hl.weak hN (fun _ _ h => h) (fun _ _ h => h)⟩
theorem PS.chg {B N : Nat} {w w1 : World} {S : Nat → Prop} {p q : Nat} {D : DM} {h t : Value} (hp : PS B N w p q D h t) (hc : Chg S w w1) (hS : ∀ k, S k → N ≤ k) : PS B N w1 p q D h t := by
  obtain ⟨hN, okd, okt, hd, ht, ha, h1, h2, hl⟩ := hp
  refine ⟨Nat.le_trans hN hc.size, okd, okt, hd.step (fun k hk hlt => hc.block k hlt (fun h => by have := hS k h; have := (h1 k hk).2; omega)), ht.step (fun k hk hlt => hc.block k hlt (fun h => by have := hS k h; have := (h2 k hk).2; omega)), ha, h1, h2, ?_⟩
  rcases hl with hl | ⟨hb, tb, H, e1, e2, hk, ho, b1, b2, n1, n2, n3, n4⟩
  · exact .inl hl
  · exact .inr ⟨hb, tb, H, e1, e2, ⟨hk.a.step (hc.block hb hk.a.lt (fun h => by have := hS _ h; omega)), hk.b.step (hc.block tb hk.b.lt (fun h => by have := hS _ h; omega))⟩, ho, b1, b2, n1, n2, n3, n4⟩
/-- Append on both, one behind the other. -/
theorem append_both {B N : Nat} {w : World} {p q : Nat} {D : DM} {h t : Value} {okr : Nat → Prop} {A : Option Addr} {c : Nat} (hp : PS B N w p q D h t) (hBN : B ≤ N) (kind : Int) (bs : List Int) (hF : RB w okr A bs) (hor : ∀ k, okr k → N ≤ k) (hle : bs.length ≤ c) (hb : Bytes bs) (hl : bs.length ≤ 140737488355328) (hm : (D.ws.length + 65537) * 32 ≤ 140737488355328) :
    ∃ E : Int, Calls Try.prog 42 #[h, .int .i64 kind, .slice A bs.length c] w fun e w' => e = .returned (.int .i64 E) ∧ Chg (fun k => B ≤ k ∧ k < N) w w' ∧
      ∀ (w2 : World) (A2 : Option Addr) (c2 : Nat) (okr2 : Nat → Prop), Below w'.heap.size w' w2 → RB w2 okr2 A2 bs → bs.length ≤ c2 →
        Calls Try.prog 54 #[t, .int .i64 kind, .slice A2 bs.length c2] w2 fun e w3 => e = .returned (.int .i64 E) ∧ Chg (fun k => B ≤ k ∧ k < N) w2 w3 ∧ ∃ D', (∀ (S : Nat → Prop) (w4 : World), (∀ k, S k → N ≤ k ∧ k < w.heap.size) → Chg S w3 w4 → PS B w4.heap.size w4 p q D' h t) ∧ D'.ws.length ≤ D.ws.length + 65536 := by
  obtain ⟨hN, okd, okt, hd, ht, ha, h1, h2, hlg⟩ := hp
  rcases hlg with ⟨rfl, rfl⟩ | ⟨hb_, tb, H, rfl, rfl, hk, ho, b1, b2, n1, n2, n3, n4⟩
  · refine ⟨2, (hput_nil kind A bs.length c).mono ?_⟩
    rintro e w' ⟨rfl, rfl⟩
    refine ⟨rfl, Chg.refl _ _, fun w2 A2 c2 okr2 hb2 hF2 hle2 => (rhput_nil kind A2 bs.length c2).mono ?_⟩
    rintro e w3 ⟨rfl, rfl⟩
    have hps : PS B N w p q D (.pointer none) (.pointer none) := ⟨hN, okd, okt, hd, ht, ha, h1, h2, .inl ⟨rfl, rfl⟩⟩
    have h3 := hps.below hb2
    exact ⟨rfl, Chg.refl _ _, D, fun S w4 hS hc => (h3.chg hc (fun k hk => (hS k hk).1)).wide (Nat.le_trans h3.1 hc.size) (Nat.le_refl _), by omega⟩
  · have ht3 : 0 ≤ H.tail ∧ H.tail ≤ H.size ∧ H.size ≤ 4096 := ⟨by have := ho.n; omega, ho.t.1, ho.t.2⟩
    by_cases hc : hputC H kind bs.length = 0
    · have hwl := sealW_ws D H.base (r := hputR H kind bs) ho.g hb
      have ho' := ho.put D kind bs hc
      have hn9 : 0 ≤ H.n ∧ H.n ≤ 4096 := ⟨ho.n.1, by have := ho.n; have := ho.t; omega⟩
      refine ⟨(D.sealW H.base (hputR H kind bs)).2, (hput_ok hd hk.a hF (fun k k1 k2 => by have := hor k k1; have := (h1 k k2).2; omega) n1 hle hb ht3 ho.g ho.b hn9 hm kind hc).mono ?_⟩
      rintro e w' ⟨rfl, hd', hh', c1⟩
      have s1 := c1.size
      refine ⟨rfl, c1.mono (fun k hk => hk.elim (fun h => h1 k h) (fun h => by rw [h]; exact b1)), fun w2 A2 c2 okr2 hb2 hF2 hle2 => ?_⟩
      have s2 := hb2.size
      have ht2 := (ht.step (w1 := w') (fun k hk hlt => c1.block k hlt (fun h => h.elim (fun h => ha k h hk) (fun h => n2 (h ▸ hk))))).step (w1 := w2) (fun k _ hlt => hb2.block k hlt)
      have hr' := hk.b.step (c1.block tb hk.b.lt (fun h => h.elim n3 (fun h => hk.ne h.symm)))
      have hr2 := hr'.step (hb2.block tb hr'.lt)
      have hh2 := hh'.step (hb2.block hb_ hh'.lt)
      have hd2 := hd'.bound.step (w1 := w2) (fun k hk _ => hb2.block k hk.2)
      refine (rhput_ok ht2 hr2 hF2 n4 hle2 hb ht3 ho.g ho.b hn9 hm kind hc).mono ?_
      rintro e w3 ⟨rfl, ht3', hr3, c3⟩
      have s3 := c3.size
      have hh3 := hh2.step (c3.block hb_ hh2.lt (fun h => h.elim n2 (fun h => hk.ne h)))
      have hd3 := hd2.step (w1 := w3) (fun k hk2 hlt => c3.block k hlt (fun h => h.elim (fun h => hk2.1.elim (fun h5 => ha k h5 h) (fun h5 => by have h6 : w.heap.size ≤ k := h5; have := (h2 k h).2; omega)) (fun h => hk2.1.elim (fun h5 => n3 (h ▸ h5)) (fun h5 => by have h6 : w.heap.size ≤ k := h5; have := b2.2; omega))))
      refine ⟨rfl, c3.mono (fun k hk => hk.elim (fun h => h2 k h) (fun h => by rw [h]; exact b2)), _, fun S w4 hS c4 => ?_, hwl⟩
      have s4 := c4.size
      have hd4 := hd3.step (w1 := w4) (fun k hk2 hlt => c4.block k hlt (fun h => by
        have h7 := hS k h
        rcases hk2.1 with k3 | k3
        · have := (h1 k k3).2; omega
        · have h6 : w.heap.size ≤ k := k3; omega))
      have ht4 := ht3'.bound.step (w1 := w4) (fun k hk2 hlt => c4.block k hlt (fun h => by
        have h7 := hS k h
        rcases hk2.1 with k3 | k3
        · have := (h2 k k3).2; omega
        · have h6 : w2.heap.size ≤ k := k3; omega))
      have hh4 := hh3.step (c4.block hb_ hh3.lt (fun h => by have := hS _ h; have := b1.2; omega))
      have hr4 := hr3.step (c4.block tb hr3.lt (fun h => by have := hS _ h; have := b2.2; omega))
      refine ⟨Nat.le_refl _, _, _, hd4, ht4, ?_, ?_, ?_, ?_⟩
      · intro k k1 k2
        rcases k1.1 with k3 | k3 <;> rcases k2.1 with k4 | k4
        · exact ha k k3 k4
        · have h5 := (h1 k k3).2; have h6 : w2.heap.size ≤ k := k4; omega
        · have h5 := (h2 k k4).2; have h6 : w.heap.size ≤ k := k3; omega
        · have h6 : w2.heap.size ≤ k := k4; have h7 := k1.2; omega
      · intro k k1
        rcases k1.1 with k3 | k3
        · exact ⟨(h1 k k3).1, by have := (h1 k k3).2; omega⟩
        · have h6 : w.heap.size ≤ k := k3; have := k1.2; exact ⟨by omega, by omega⟩
      · intro k k1
        have h8 := k1.2
        rcases k1.1 with k3 | k3
        · exact ⟨(h2 k k3).1, by have := (h2 k k3).2; omega⟩
        · have h6 : w2.heap.size ≤ k := k3; exact ⟨by omega, by omega⟩
      · refine .inr ⟨hb_, tb, _, rfl, rfl, ⟨hh4, hr4⟩, ho', ⟨b1.1, by omega⟩, ⟨b2.1, by omega⟩, ?_, ?_, ?_, ?_⟩
        · exact fun h => h.1.elim n1 (fun h5 => by have h6 : w.heap.size ≤ hb_ := h5; have := b1.2; omega)
        · exact fun h => h.1.elim n2 (fun h5 => by have h6 : w2.heap.size ≤ hb_ := h5; have := b1.2; omega)
        · exact fun h => h.1.elim n3 (fun h5 => by have h6 : w.heap.size ≤ tb := h5; have := b2.2; omega)
        · exact fun h => h.1.elim n4 (fun h5 => by have h6 : w2.heap.size ≤ tb := h5; have := b2.2; omega)
    · refine ⟨hputC H kind bs.length, (hput_err hk.a ht3 kind A bs.length c hl hc).mono ?_⟩
      rintro e w' ⟨rfl, b3⟩
      refine ⟨rfl, Chg.of_below b3 _, fun w2 A2 c2 okr2 hb2 hF2 hle2 => ?_⟩
      have b4 := below_step b3 hb2
      have hk2 := hk.below b4
      refine (rhput_err hk2.b ht3 kind A2 bs.length c2 hl hc).mono ?_
      rintro e w3 ⟨rfl, b5⟩
      have b6 := below_step b4 b5
      have hps : PS B N w p q D (.pointer (some ⟨hb_, 0, none⟩)) (.pointer (some ⟨tb, 0, none⟩)) := ⟨hN, okd, okt, hd, ht, ha, h1, h2, .inr ⟨hb_, tb, H, rfl, rfl, hk, ho, b1, b2, n1, n2, n3, n4⟩⟩
      have h3 := hps.below b6
      exact ⟨rfl, Chg.of_below b5 _, D, fun S w4 hS hc => (h3.chg hc (fun k hk => (hS k hk).1)).wide (Nat.le_trans h3.1 hc.size) (Nat.le_refl _), by omega⟩
end Go.Proofs.Ytekhmkfiepnnkaa

set_option linter.unusedVariables false
set_option linter.unusedSimpArgs false
namespace Go.Proofs.Ytekhmkfiepnnkaa
open Go.RowKit Go.Proofs.YtekhmkfiepnnkaaW.PrintWords Go.Proofs.YtekhmkfiepnnkaaW.PrintMore

/-- A step of the program's disk, then one of the document's, nothing of the logs touched. -/
theorem PS.both {B N : Nat} {w w' w2 w3 : World} {p q : Nat} {D1 : DM} {h t : Value} {okd okt : Nat → Prop} (hBN : N ≤ w.heap.size) (ha : apart okd okt) (h1 : ∀ k, okd k → B ≤ k ∧ k < N) (h2 : ∀ k, okt k → B ≤ k ∧ k < N) (hl : Logs w B N okd okt p q h t)
    (hd : PDisk w' okd p D1) (c1 : Chg okd w w') (hb2 : Below w'.heap.size w' w2) (ht : RDisk w3 okt q D1) (c3 : Chg okt w2 w3) : PS B w3.heap.size w3 p q D1 h t := by
  have s1 := c1.size
  have s2 := hb2.size
  have s3 := c3.size
  have hd3 := (hd.bound.step (w1 := w2) (fun k hk _ => hb2.block k hk.2)).step (w1 := w3) (fun k hk hlt => c3.block k hlt (fun h => ha k hk.1 h))
  have hl3 : Logs w3 B N okd okt p q h t := ((hl.step (w1 := w') (fun k _ hlt n1 _ => c1.block k hlt n1)).step (w1 := w2) (fun k _ hlt _ _ => hb2.block k hlt)).step (w1 := w3) (fun k _ hlt _ n2 => c3.block k hlt n2)
  have hps : PS B N w3 p q D1 h t := ⟨by omega, okd, okt, hd3.mono (fun k hk => hk.1), ht, ha, h1, h2, hl3⟩
  exact hps.wide (by omega) (Nat.le_refl _)
theorem cut_both {B N : Nat} {w : World} {p q : Nat} {D : DM} {h t : Value} (hp : PS B N w p q D h t) (n : Int) (hn : n ≤ 9223372036854775807) :
    Calls Try.prog 37 #[.pointer (some ⟨p, 0, none⟩), .int .i64 n] w fun e w' => e = .returned (.tuple #[]) ∧ Chg (fun k => B ≤ k ∧ k < N) w w' ∧
      ∀ w2, Below w'.heap.size w' w2 → Calls Try.prog 57 #[.pointer (some ⟨q, 0, none⟩), .int .i64 n] w2 fun e w3 => e = .returned (.tuple #[]) ∧ Chg (fun k => B ≤ k ∧ k < N) w2 w3 ∧ PS B w3.heap.size w3 p q (D.cut n) h t := by
  obtain ⟨hN, okd, okt, hd, ht, ha, h1, h2, hl⟩ := hp
  refine (cut_any n hd hn).mono ?_
  rintro e w' ⟨rfl, hd', c1⟩
  refine ⟨rfl, c1.mono h1, fun w2 hb2 => ?_⟩
  have ht2 := (ht.step (w1 := w') (fun k hk hlt => c1.block k hlt (fun h => ha k h hk))).step (w1 := w2) (fun k _ hlt => hb2.block k hlt)
  refine (rcut_any n ht2 hn).mono ?_
  rintro e w3 ⟨rfl, ht3, c3⟩
  exact ⟨rfl, c3.mono h2, PS.both hN ha h1 h2 hl hd' c1 hb2 ht3 c3⟩
theorem on_both {B N : Nat} {w : World} {p q : Nat} {D : DM} {h t : Value} (hp : PS B N w p q D h t) :
    Calls Try.prog 39 #[.pointer (some ⟨p, 0, none⟩)] w fun e w' => e = .returned (.tuple #[]) ∧ Chg (fun k => B ≤ k ∧ k < N) w w' ∧
      ∀ w2, Below w'.heap.size w' w2 → Calls Try.prog 58 #[.pointer (some ⟨q, 0, none⟩)] w2 fun e w3 => e = .returned (.tuple #[]) ∧ Chg (fun k => B ≤ k ∧ k < N) w2 w3 ∧ PS B w3.heap.size w3 p q { D with left := -1, gone := false } h t := by
  obtain ⟨hN, okd, okt, hd, ht, ha, h1, h2, hl⟩ := hp
  refine (on_any hd).mono ?_
  rintro e w' ⟨rfl, hd', c1⟩
  refine ⟨rfl, c1.mono h1, fun w2 hb2 => ?_⟩
  have ht2 := (ht.step (w1 := w') (fun k hk hlt => c1.block k hlt (fun h => ha k h hk))).step (w1 := w2) (fun k _ hlt => hb2.block k hlt)
  refine (ron_any ht2).mono ?_
  rintro e w3 ⟨rfl, ht3, c3⟩
  exact ⟨rfl, c3.mono h2, PS.both hN ha h1 h2 hl hd' c1 hb2 ht3 c3⟩
theorem looks_ps {B N : Nat} {w : World} {p q : Nat} {D : DM} {h t : Value} (hp : PS B N w p q D h t) (n : Int) (hn : -9223372036854775808 ≤ n ∧ n ≤ 9223372036854775807) :
    Calls Try.prog 53 #[h, t, .int .i64 n] w fun e w' => e = .returned (.bool true) ∧ Below w.heap.size w w' := by
  obtain ⟨_, _, _, _, _, _, _, _, hl⟩ := hp
  rcases hl with ⟨rfl, rfl⟩ | ⟨hb, tb, H, rfl, rfl, hk, ho, _⟩
  · exact looks_nil n
  · exact looks_any hk ⟨by have := ho.n; omega, ho.t.1, ho.t.2⟩ n hn
/-- New on both: the answer is the same number. -/
theorem new_both {B N : Nat} {w : World} {p q : Nat} {D : DM} {h t : Value} (hp : PS B N w p q D h t) (hBN : B ≤ N) (base size gen : Int) (hg : 0 ≤ gen ∧ gen < 18446744073709551616) :
    ∃ E : Int, Calls Try.prog 41 #[.pointer (some ⟨p, 0, none⟩), .int .i64 base, .int .i64 size, .int .u64 gen] w fun e w' => ∃ h', e = .returned (.tuple #[h', .int .i64 E]) ∧ Below w.heap.size w w' ∧
      ∀ w2, Below w'.heap.size w' w2 → Calls Try.prog 52 #[.pointer (some ⟨q, 0, none⟩), .int .i64 base, .int .i64 size, .int .u64 gen] w2 fun e w3 => ∃ t', e = .returned (.tuple #[t', .int .i64 E]) ∧ Below w2.heap.size w2 w3 ∧ PS B w3.heap.size w3 p q D h' t' := by
  obtain ⟨hN, okd, okt, hd, ht, ha, h1, h2, hl⟩ := hp
  by_cases he : hnewE D base size gen = 0
  · refine ⟨0, (hnew_ok hd base size gen he).mono ?_⟩
    rintro e w' ⟨rfl, hh, b1⟩
    have s1 := b1.size
    refine ⟨_, rfl, b1, fun w2 hb2 => ?_⟩
    have s2 := hb2.size
    have b2 := below_step b1 hb2
    refine (rhnew_ok (ht.step (w1 := w2) (fun k _ hk => b2.block k hk)) base size gen he).mono ?_
    rintro e w3 ⟨rfl, hr, b3⟩
    have s3 := b3.size
    have b4 := below_step b2 b3
    have hh3 := (hh.step (hb2.block _ hh.lt)).step (b3.block _ (Nat.lt_of_lt_of_le hh.lt s2))
    refine ⟨_, rfl, b3, Nat.le_refl _, okd, okt, hd.step (fun k _ hk => b4.block k hk), ht.step (fun k _ hk => b4.block k hk), ha, fun k hk => ⟨(h1 k hk).1, by have := (h1 k hk).2; omega⟩, fun k hk => ⟨(h2 k hk).1, by have := (h2 k hk).2; omega⟩,
      .inr ⟨w.heap.size, w2.heap.size, _, rfl, rfl, ⟨hh3, hr⟩, HOk.new hd.1 he hg, ⟨?_, hh3.lt⟩, ⟨?_, hr.lt⟩, fun h => by have := (h1 _ h).2; omega, fun h => by have := (h2 _ h).2; omega, fun h => by have := (h1 _ h).2; omega, fun h => by have := (h2 _ h).2; omega⟩⟩
    · omega
    · omega
  · refine ⟨1, (hnew_err hd base size gen he).mono ?_⟩
    rintro e w' ⟨rfl, rfl⟩
    refine ⟨_, rfl, Below.refl _ _, fun w2 hb2 => ?_⟩
    refine (rhnew_err (ht.step (w1 := w2) (fun k _ hk => hb2.block k hk)) base size gen he).mono ?_
    rintro e w3 ⟨rfl, rfl⟩
    have s2 := hb2.size
    exact ⟨_, rfl, Below.refl _ _, Nat.le_refl _, okd, okt, hd.step (fun k _ hk => hb2.block k hk), ht.step (fun k _ hk => hb2.block k hk), ha, fun k hk => ⟨(h1 k hk).1, by have := (h1 k hk).2; omega⟩, fun k hk => ⟨(h2 k hk).1, by have := (h2 k hk).2; omega⟩, .inl ⟨rfl, rfl⟩⟩
theorem KRec_C_nil (w : World) : KRec.C w none ([] : List SR).length [] := (Kd.R_reads' (Kd.R_nil KRec 0 w 0 (fun _ => True))).2.2
/-- Open on both: the same records, the same number; both logs or neither. -/
theorem open_both {B N : Nat} {w : World} {p q : Nat} {D : DM} {h t : Value} (hp : PS B N w p q D h t) (hBN : B ≤ N) (base size gen : Int) (hg : 0 ≤ gen ∧ gen < 18446744073709551616) :
    ∃ (E : Int) (l : List SR), Calls Try.prog 44 #[.pointer (some ⟨p, 0, none⟩), .int .i64 base, .int .i64 size, .int .u64 gen] w fun e w' => ∃ h' A c, e = .returned (.tuple #[h', .slice A l.length c, .int .i64 E]) ∧ KRec.C w' A l.length l ∧ Below w.heap.size w w' ∧
      ∀ w2, Below w'.heap.size w' w2 → Calls Try.prog 55 #[.pointer (some ⟨q, 0, none⟩), .int .i64 base, .int .i64 size, .int .u64 gen] w2 fun e w3 => ∃ t' A2 c2, e = .returned (.tuple #[t', .slice A2 l.length c2, .int .i64 E]) ∧ KRec.C w3 A2 l.length l ∧ Below w2.heap.size w2 w3 ∧
        ((∃ hb tb, h' = .pointer (some ⟨hb, 0, none⟩) ∧ t' = .pointer (some ⟨tb, 0, none⟩) ∧ PS B w3.heap.size w3 p q D h' t') ∨ (h' = .pointer none ∧ t' = .pointer none ∧ PS B w3.heap.size w3 p q D h t)) := by
  have hp0 := hp
  obtain ⟨hN, okd, okt, hd, ht, ha, h1, h2, hl⟩ := hp
  by_cases he : hnewE D base size gen = 0
  · obtain ⟨g1, g2, g3, g4, g5, g6⟩ := hnew_in hd.1 he
    obtain ⟨b, rfl⟩ := Int.eq_ofNat_of_zero_le g1
    obtain ⟨s, rfl⟩ := Int.eq_ofNat_of_zero_le (show 0 ≤ size by omega)
    cases hgo : D.gone with
    | true =>
      refine ⟨61, [], (hopen_gone hd b s gen he hgo).mono ?_⟩
      rintro e w' ⟨rfl, b1⟩
      refine ⟨_, none, 0, rfl, KRec_C_nil _, b1, fun w2 hb2 => ?_⟩
      have b2 := below_step b1 hb2
      refine (ropen_gone (ht.step (w1 := w2) (fun k _ hk => b2.block k hk)) b s gen he hgo).mono ?_
      rintro e w3 ⟨rfl, b3⟩
      have h3 := hp0.below (below_step b2 b3)
      exact ⟨_, none, 0, rfl, KRec_C_nil _, b3, .inr ⟨rfl, rfl, h3.wide h3.1 (Nat.le_refl _)⟩⟩
    | false =>
      refine ⟨0, recsM D b s gen, (hopen_ok hd b s gen he hgo).mono ?_⟩
      rintro e w' ⟨hb, A, c, rfl, hlo, hh, hR, b1⟩
      have s1 := b1.size
      refine ⟨_, A, c, rfl, (Kd.R_reads' hR).2.2, b1, fun w2 hb2 => ?_⟩
      have s2 := hb2.size
      have b2 := below_step b1 hb2
      refine (ropen_ok (ht.step (w1 := w2) (fun k _ hk => b2.block k hk)) b s gen he hgo).mono ?_
      rintro e w3 ⟨tb, A2, c2, rfl, hlo2, hr, hR2, b3⟩
      have b4 := below_step b2 b3
      have hh3 := (hh.step (hb2.block _ hh.lt)).step (b3.block _ (Nat.lt_of_lt_of_le hh.lt s2))
      refine ⟨_, A2, c2, rfl, (Kd.R_reads' hR2).2.2, b3, .inl ⟨hb, tb, rfl, rfl, Nat.le_refl _, okd, okt, hd.step (fun k _ hk => b4.block k hk), ht.step (fun k _ hk => b4.block k hk), ha, fun k hk => ⟨(h1 k hk).1, by have := (h1 k hk).2; have := b4.size; omega⟩, fun k hk => ⟨(h2 k hk).1, by have := (h2 k hk).2; have := b4.size; omega⟩,
        .inr ⟨hb, tb, _, rfl, rfl, ⟨hh3, hr⟩, HOk.opened hd.1 he hg, ⟨by omega, hh3.lt⟩, ⟨by omega, hr.lt⟩, fun h => by have := (h1 _ h).2; omega, fun h => by have := (h2 _ h).2; omega, fun h => by have := (h1 _ h).2; omega, fun h => by have := (h2 _ h).2; omega⟩⟩⟩
  · refine ⟨1, [], (hopen_err hd base size gen he).mono ?_⟩
    rintro e w' ⟨rfl, b1⟩
    refine ⟨_, none, 0, rfl, KRec_C_nil _, b1, fun w2 hb2 => ?_⟩
    have b2 := below_step b1 hb2
    refine (ropen_err (ht.step (w1 := w2) (fun k _ hk => b2.block k hk)) base size gen he).mono ?_
    rintro e w3 ⟨rfl, b3⟩
    have h3 := hp0.below (below_step b2 b3)
    exact ⟨_, none, 0, rfl, KRec_C_nil _, b3, .inr ⟨rfl, rfl, h3.wide h3.1 (Nat.le_refl _)⟩⟩
end Go.Proofs.Ytekhmkfiepnnkaa

set_option linter.unusedVariables false
set_option linter.unusedSimpArgs false
namespace Go.Proofs.Ytekhmkfiepnnkaa
open Go.RowKit Go.Shelf Go.Proofs.YtekhmkfiepnnkaaW.PrintWords Go.Proofs.YtekhmkfiepnnkaaW.PrintMore

end Go.Proofs.Ytekhmkfiepnnkaa

set_option linter.unusedVariables false
set_option linter.unusedSimpArgs false
namespace Go.Proofs.Ytekhmkfiepnnkaa
open Go.RowKit Go.Proofs.YtekhmkfiepnnkaaW.PrintWords

structure Op23.ok (o : Op23) : Prop where
  k : -9223372036854775808 ≤ o.kind ∧ o.kind ≤ 9223372036854775807
  of_ : -9223372036854775808 ≤ o.of_ ∧ o.of_ ≤ 9223372036854775807
  n : -9223372036854775808 ≤ o.n ∧ o.n ≤ 9223372036854775807
  f : 0 ≤ o.fill ∧ o.fill < 256
  g : 0 ≤ o.gen ∧ o.gen < 18446744073709551616
abbrev KOp23 : Kd Op23 := Kd.iso (Kd.pair (Kd.int .i64) (Kd.pair (Kd.int .i64) (Kd.pair (Kd.int .i64) (Kd.pair (Kd.int .u8) (Kd.int .u64))))) (fun x : Op23 => (x.kind, x.of_, x.n, x.fill, x.gen))
theorem KOp23_open {w : World} {o : Op23} {cs : List Value} (h : KOp23.K w o cs) : cs = o.cells.toList := by
  obtain ⟨c0, cs1, rfl, h0, c1, cs2, rfl, h1, c2, cs3, rfl, h2, c3, c4, rfl, h3, h4⟩ := h
  obtain rfl : c0 = [.int .i64 o.kind] := h0
  obtain rfl : c1 = [.int .i64 o.of_] := h1
  obtain rfl : c2 = [.int .i64 o.n] := h2
  obtain rfl : c3 = [.int .u8 o.fill] := h3
  obtain rfl : c4 = [.int .u64 o.gen] := h4
  rfl
theorem opens_op23 : Opens Try.prog 84 KOp23 Op23.ok := by
  refine (opens_iso (P := Try.prog) (t := 84) (fun x : Op23 => (x.kind, x.of_, x.n, x.fill, x.gen)) (fun p => ⟨p.1, p.2.1, p.2.2.1, p.2.2.2.1, p.2.2.2.2⟩) (fun _ => rfl)
    (opens_struct Try.underlying84 (by kernel_rfl) (opensF_cons rfl (by kernel_rfl) (opens_int Try.underlying3) (opensF_cons rfl (by kernel_rfl) (opens_int Try.underlying3) (opensF_cons rfl (by kernel_rfl) (opens_int Try.underlying3)
      (opensF_cons rfl (by kernel_rfl) (opens_int Try.underlying5) (opensF_one rfl (by kernel_rfl) (opens_int Try.underlying23)))))))).mono ?_
  rintro o ⟨h0, h1, h2, h3, h4⟩
  have b0 := bounds_i64 h0
  have b1 := bounds_i64 h1
  have b2 := bounds_i64 h2
  have b3 := bounds_u8 h3
  have b4 := bounds_u64 h4
  dsimp only at b3 b4
  exact ⟨b0, b1, b2, by omega, by omega⟩
end Go.Proofs.Ytekhmkfiepnnkaa

set_option linter.unusedVariables false
set_option linter.unusedSimpArgs false
namespace Go.Proofs.Ytekhmkfiepnnkaa
open Go.RowKit Go.Shelf Go.Proofs.YtekhmkfiepnnkaaW.PrintWords Go.Proofs.YtekhmkfiepnnkaaW.PrintMore

end Go.Proofs.Ytekhmkfiepnnkaa

set_option linter.unusedVariables false
set_option linter.unusedSimpArgs false
namespace Go.Proofs.Ytekhmkfiepnnkaa
open Go.RowKit Go.Proofs.YtekhmkfiepnnkaaW.PrintWords Go.Proofs.YtekhmkfiepnnkaaW.PrintMore

end Go.Proofs.Ytekhmkfiepnnkaa

set_option linter.unusedVariables false
set_option linter.unusedSimpArgs false
namespace Go.Proofs.Ytekhmkfiepnnkaa
open Go.RowKit Go.Proofs.YtekhmkfiepnnkaaW.PrintWords Go.Proofs.YtekhmkfiepnnkaaW.PrintMore

end Go.Proofs.Ytekhmkfiepnnkaa

set_option linter.unusedVariables false
set_option linter.unusedSimpArgs false
namespace Go.Proofs.Ytekhmkfiepnnkaa
open Go.RowKit Go.Shelf Go.Proofs.YtekhmkfiepnnkaaW.PrintWords Go.Proofs.YtekhmkfiepnnkaaW.PrintMore

theorem op23_len (o : Op23) : o.bytes.length = o.len := by simp [Op23.bytes]
theorem op23_short (o : Op23) : o.bytes.length ≤ 400000 := by rw [op23_len]; unfold Op23.len; split <;> omega
theorem op23_bytes (o : Op23) : Bytes o.bytes := by
  intro x hx
  unfold Op23.bytes at hx
  simp only [List.mem_map, List.mem_range] at hx
  obtain ⟨i, _, rfl⟩ := hx
  unfold Op23.at
  omega
/-- The cells of the k-th op of a script. -/
def OpC (ad : Addr) (k : Nat) (o : Op23) (W : World) : Prop := ∀ j v, ([.int .i64 o.kind, .int .i64 o.of_, .int .i64 o.n, .int .u8 o.fill, .int .u64 o.gen] : List Value)[j]? = some v → W.cell? ((ad.add (k * 5)).add j) = some v
theorem op23_at {w : World} {ad : Addr} {l : List Op23} (h : KOp23.C w (some ad) l.length l) {i : Nat} (hi : i < l.length) : OpC ad i l[i] w := by
  obtain ⟨ad', cs, hA, hcs, hK, hcell⟩ := Kd.C_get h ⟨0, 0, 0, 0, 0⟩ (i : Int) (by omega) (by omega)
  injection hA with hA
  subst hA
  simp only [Int.toNat_natCast] at hK hcell
  have hget : l.getD i ⟨0, 0, 0, 0, 0⟩ = l[i] := by simp [List.getD_eq_getElem?_getD, hi]
  rw [hget] at hK
  have hcs2 := KOp23_open hK
  intro j v hj
  rw [add_add']
  refine hcell j v ?_
  rw [hcs2]
  exact hj
theorem OpC.below {ad : Addr} {k : Nat} {o : Op23} {W W' : World} (h : OpC ad k o W) (hb : Below W.heap.size W W') : OpC ad k o W' := fun j v hj => pw_cell_below hb (h j v hj)
theorem bytesR {w : World} (o : Op23) : Calls Try.prog 43 #[.agg #[.int .i64 o.kind, .int .i64 o.of_, .int .i64 o.n, .int .u8 o.fill, .int .u64 o.gen]] w fun e w' => ∃ g, e = .returned (.slice (some ⟨g, 0, none⟩) o.bytes.length o.bytes.length) ∧ w.heap.size ≤ g ∧ RB w' (fun k => k = g) (some ⟨g, 0, none⟩) o.bytes ∧ Below w.heap.size w w' := by
  refine (bytes23_any o).mono ?_
  rintro e w' ⟨rfl, hg, hb⟩
  refine ⟨w.heap.size + 1, by rw [op23_len], by omega, RB_blk hg (by have := op23_short o; omega) (fun j hj => by simp [nums, List.getD_eq_getElem?_getD, hj]), hb⟩
end Go.Proofs.Ytekhmkfiepnnkaa

set_option linter.unusedVariables false
set_option linter.unusedSimpArgs false
namespace Go.Proofs.Ytekhmkfiepnnkaa
open Go.RowKit Go.Shelf Go.Proofs.YtekhmkfiepnnkaaW.PrintWords Go.Proofs.YtekhmkfiepnnkaaW.PrintMore

/-- The copy of the Op, in its own block. -/
structure Ox (w : World) (b : Nat) (o : Op23) : Prop where
  blk : w.heap[b]? = some (.cells #[.int .i64 o.kind, .int .i64 o.of_, .int .i64 o.n, .int .u8 o.fill, .int .u64 o.gen] 84 (0, 0))
namespace Ox
variable {w w1 : World} {b : Nat} {o : Op23}
theorem c1 (h : Ox w b o) : w.cell? ⟨b, 1, none⟩ = some (.int .i64 o.of_) := by have := cell_of_row _ _ 1 _ _ _ h.blk; simpa using this
theorem c2 (h : Ox w b o) : w.cell? ⟨b, 2, none⟩ = some (.int .i64 o.n) := by have := cell_of_row _ _ 2 _ _ _ h.blk; simpa using this
theorem c4 (h : Ox w b o) : w.cell? ⟨b, 4, none⟩ = some (.int .u64 o.gen) := by have := cell_of_row _ _ 4 _ _ _ h.blk; simpa using this
theorem row (h : Ox w b o) : ∀ j v, ([.int .i64 o.kind, .int .i64 o.of_, .int .i64 o.n, .int .u8 o.fill, .int .u64 o.gen] : List Value)[j]? = some v → w.cell? ((⟨b, 0, none⟩ : Addr).add j) = some v := by
  intro j v hj
  have e : (⟨b, 0, none⟩ : Addr).add j = ⟨b, j, none⟩ := by unfold Addr.add; by_cases hj0 : j = 0 <;> simp [hj0]
  rw [e, cell_of_row _ _ j _ _ _ h.blk]
  simpa using hj
theorem step (h : Ox w b o) {S : Nat → Prop} (hc : Chg S w w1) (hn : ¬ S b) : Ox w1 b o := ⟨hc.old h.blk hn⟩
theorem below (h : Ox w b o) (hb : Below w.heap.size w w1) : Ox w1 b o := ⟨(hb.block _ (blk_lt h.blk)).trans h.blk⟩
end Ox
theorem bytesG {w : World} (o : Op23) : Calls Try.prog 43 #[.agg #[.int .i64 o.kind, .int .i64 o.of_, .int .i64 o.n, .int .u8 o.fill, .int .u64 o.gen]] w fun e w' => ∃ g, e = .returned (.slice (some ⟨g, 0, none⟩) o.bytes.length o.bytes.length) ∧ w.heap.size ≤ g ∧ g < w'.heap.size ∧ w'.heap[g]? = some (.cells (nums .u8 o.bytes).toArray 5 (0, 0)) ∧ RB w' (fun k => k = g) (some ⟨g, 0, none⟩) o.bytes ∧ Below w.heap.size w w' := by
  refine (bytes23_any o).mono ?_
  rintro e w' ⟨rfl, hg, hb⟩
  exact ⟨w.heap.size + 1, by rw [op23_len], by omega, blk_lt hg, hg, RB_blk hg (by have := op23_short o; omega) (fun j hj => by simp [nums, List.getD_eq_getElem?_getD, hj]), hb⟩
theorem nums_set (ys : List Int) (j : Nat) (x : Int) : (nums .u8 ys).toArray.setIfInBounds j (.int .u8 x) = (nums .u8 (ys.set j x)).toArray := by
  unfold nums
  rw [List.setIfInBounds_toArray, List.map_set]
end Go.Proofs.Ytekhmkfiepnnkaa

set_option linter.unusedVariables false
set_option linter.unusedSimpArgs false
namespace Go.Proofs.Ytekhmkfiepnnkaa
open Go.RowKit Go.Shelf Go.Proofs.YtekhmkfiepnnkaaW.PrintWords Go.Proofs.YtekhmkfiepnnkaaW.PrintMore

set_option maxRecDepth 100000 in
set_option maxHeartbeats 4000000 in
theorem halfPlays_out {w : World} {v : Value} (n base size gen : Int) (h : n < 16 ∨ 4096 < n) :
  Calls Try.prog 13 #[.int .i64 n, .int .i64 base, .int .i64 size, .int .u64 gen, v] w fun e w' => e = .returned (.bool true) ∧ Below w.heap.size w w' := by
  go_enter Try.func13, Try.ntmps13
  go_wp2_with fail
  refine (new_err n h).mono ?_
  rintro e w1 ⟨rfl, rfl⟩
  go_wp2_with fail
  refine (rnew_err n h).mono ?_
  rintro e w1 ⟨rfl, rfl⟩
  go_wp2_with fail
  refine alive_any.mono ?_
  rintro e w1 ⟨rfl, b1⟩
  go_wp2_with fail
  refine (hnew_nil base size gen).mono ?_
  rintro e w2 ⟨rfl, rfl⟩
  go_wp2
  go_ret
  exact ⟨rfl, b1⟩
set_option maxRecDepth 100000 in
set_option maxHeartbeats 4000000 in
theorem halfPlays_in {w : World} {A : Option Addr} {c : Nat} {l : List Op23} (n : Nat) (h1 : 16 ≤ n) (h2 : n ≤ 4096) (base size gen : Int) (hb9 : -9223372036854775808 ≤ base ∧ base ≤ 9223372036854775807) (hs9 : -9223372036854775808 ≤ size ∧ size ≤ 9223372036854775807) (hg : 0 ≤ gen ∧ gen < 18446744073709551616) (hl9 : l.length ≤ 9223372036854775807) (hC : KOp23.C w A l.length l) (hok : ∀ x ∈ l, x.ok) :
  Calls Try.prog 13 #[.int .i64 n, .int .i64 base, .int .i64 size, .int .u64 gen, .slice A l.length c] w fun e w' => e = .returned (.bool true) ∧ Below w.heap.size w w' := by
  have HC := hid (And.intro hC hok)
  clear hC hok
  go_enter Try.func13, Try.ntmps13
  go_wp2_with fail
  refine (new_ok n h1 h2).mono ?_
  rintro e w1 ⟨rfl, hd1, b1⟩
  have s1 := b1.size
  go_wp2_with fail
  refine (rnew_ok n h1 h2).mono ?_
  rintro e w2 ⟨rfl, ht2, b2⟩
  have s2 := b2.size
  have hd2 := hd1.bound.step (w1 := w2) (fun k _ hk => b2.block k hk)
  go_wp2_with fail
  refine alive_any.mono ?_
  rintro e w3 ⟨rfl, b3⟩
  have s3 := b3.size
  have hd3 := hd2.step (w1 := w3) (fun k _ hk => b3.block k hk)
  have ht3 := ht2.bound.step (w1 := w3) (fun k _ hk => b3.block k hk)
  have hps : PS w.heap.size w3.heap.size w3 (w.heap.size + 1) (w1.heap.size + 1) (DM.new n) (.pointer none) (.pointer none) := ⟨Nat.le_refl _, _, _, hd3, ht3, fun k h1 h2 => by omega, fun k hk => by omega, fun k hk => by omega, .inl ⟨rfl, rfl⟩⟩
  have t3 : Below w.heap.size w w3 := b1.trans ((b2.mono s1).trans (b3.mono (by omega)))
  have h00 : (DM.new n).ws.length ≤ 0 := Nat.le_refl 0
  generalize DM.new n = D0 at hps h00
  generalize w.heap.size + 1 = p at hps ⊢
  generalize w1.heap.size + 1 = q at hps ⊢
  clear hd1 hd2 hd3 ht2 ht3 b1 b2 b3
  obtain ⟨E, hnb⟩ := new_both hps (by omega) base size gen hg
  clear hps
  go_wp2_with fail
  refine hnb.mono ?_
  rintro e w4 ⟨h4, rfl, b4, hnx⟩
  have hn2 := hnx w4 (Below.refl _ _)
  clear hnb hnx
  go_wp2_with fail
  refine hn2.mono ?_
  rintro e w5 ⟨t5, rfl, b5, hps5⟩
  have t5 := below_step (below_step t3 b4) b5
  clear hn2
  have hlk := looks_ps hps5 5 (by omega)
  go_wp2_with fail
  refine hlk.mono ?_
  rintro e w6 ⟨rfl, b6⟩
  have hps6 := (hps5.below b6).wide (by have := b6.size; have := hps5.1; omega) (Nat.le_refl _)
  have t6 := below_step t5 b6
  clear hlk hps5 t5 t3 b4 b5 b6
  go_wp2_with fail
  go_loopw [3, 12, 14, 15, 16, 17] (fun gv ev fv hv tv i wr => ∃ (k : Nat) (D : DM) (g2 e2 : Int), k ≤ l.length ∧ k ≤ 100 ∧ i = .int .i64 k ∧ gv = .int .u64 g2 ∧ (0 ≤ g2 ∧ g2 < 18446744073709551616) ∧ ev = .int .i64 e2 ∧ fv = .int .i64 e2 ∧ PS w.heap.size wr.heap.size wr p q D hv tv ∧ D.ws.length ≤ k * 65536 ∧ Below w.heap.size w wr) (fun _ _ _ _ _ i _ => l.length - (intOf i).toNat)
  case atStart => exact ⟨0, D0, gen, E, Nat.zero_le _, by omega, rfl, rfl, hg, rfl, rfl, hps6, by omega, t6⟩
  case round =>
    clear hps6 t6 h00
    obtain ⟨k, D, g2, e2, hk, hk2, rfl, rfl, hg2', rfl, rfl, hps, hlen, hB⟩ := hrel
    by_cases hlt : k < l.length
    · have hltI : (k : Int) < (l.length : Int) := by omega
      by_cases hlt2 : k < 100
      · have hlt2I : (k : Int) < 100 := by omega
        cases A with
        | none =>
          have := C_none HC.out.1
          subst this
          simp at hlt
        | some ad =>
        have hop := (op23_at HC.out.1 hlt).below hB
        have ho := HC.out.2 l[k] (List.getElem_mem hlt)
        generalize l[k] = o at hop ho
        have HP := hid (And.intro hps hlen)
        clear hps hlen
        go_upto_block 2 with (refine wpList_load_addr rfl 84 (.tmp 92) rfl (ad.add (k * 5)) rfl [.int .i64 o.kind, .int .i64 o.of_, .int .i64 o.n, .int .u8 o.fill, .int .u64 o.gen] _ hop Try.underlying84 rfl (by kernel_rfl) ?_)
        have hx := (show Ox (wr.alloc (.cells #[.int .i64 o.kind, .int .i64 o.of_, .int .i64 o.n, .int .u8 o.fill, .int .u64 o.gen] 84)) wr.heap.size o from ⟨heap_alloc_new wr _⟩)
        have ba := below_alloc (Below.refl wr.heap.size wr) (.cells #[.int .i64 o.kind, .int .i64 o.of_, .int .i64 o.n, .int .u8 o.fill, .int .u64 o.gen] 84)
        have hsz : (wr.alloc (.cells #[.int .i64 o.kind, .int .i64 o.of_, .int .i64 o.n, .int .u8 o.fill, .int .u64 o.gen] 84)).heap.size = wr.heap.size + 1 := World.size_alloc _ _
        generalize wr.alloc (.cells #[.int .i64 o.kind, .int .i64 o.of_, .int .i64 o.n, .int .u8 o.fill, .int .u64 o.gen] 84) = wa at hx ba hsz ⊢
        have hBs := hB.size
        have HA := hid (And.intro (HP.out.1.below ba) (And.intro HP.out.2 (below_step hB ba)))
        have hmul : ∀ D' : DM, D'.ws.length ≤ k * 65536 → D'.ws.length ≤ (k + 1) * 65536 := fun D' h => Nat.le_trans h (Nat.mul_le_mul_right _ (Nat.le_succ k))
        have hon := ho.n
        have hog := ho.g
        generalize wr.heap.size = ob at hx HA hsz hBs ⊢
        have HZ := hid (And.intro hsz hBs)
        clear HP hop hB ba HC hltI hlt2I hsz hBs ho
        go_cut [3, 12, 14, 15, 16] (fun gv ev fv hv tv wc => ∃ (D : DM) (g3 e3 : Int), gv = .int .u64 g3 ∧ (0 ≤ g3 ∧ g3 < 18446744073709551616) ∧ ev = .int .i64 e3 ∧ fv = .int .i64 e3 ∧ PS w.heap.size wc.heap.size wc p q D hv tv ∧ D.ws.length ≤ (k + 1) * 65536 ∧ Below w.heap.size w wc ∧ Ox wc ob o)
        case first =>
          obtain ⟨hps, hlen, hB⟩ := HA.out
          obtain ⟨hsz, hBs⟩ := HZ.out
          clear HA HZ
          by_cases h1 : o.kind = 1
          · have k1 : (o.kind == 1) = true := by rw [h1]; decide
            clear h1
            have HI := hid (And.intro hps (And.intro hlen (And.intro hB (And.intro hsz hBs))))
            clear hps hlen hB hsz hBs
            go_wp2_with (refine wpList_load_addr rfl 84 (.tmp 18) rfl ⟨ob, 0, none⟩ rfl [.int .i64 o.kind, .int .i64 o.of_, .int .i64 o.n, .int .u8 o.fill, .int .u64 o.gen] _ hx.row Try.underlying84 rfl (by kernel_rfl) ?_)
            refine (bytesG o).mono ?_
            rintro e w2 ⟨g, rfl, hg1, hg2, hgb, hF2, b2⟩
            obtain ⟨hps, hlen, hB, hsz, hBs⟩ := HI.out
            have b0 : Below w2.heap.size w2 w2.drew := below_drew (Below.refl w2.heap.size w2)
            have hx2 := (hx.below b2).below b0
            have hps2 := (hps.below b2).below b0
            have hF2d := RB_below hF2 b0
            obtain ⟨Ea, hap⟩ := append_both (okr := fun k => k = g) (A := some ⟨g, 0, none⟩) (c := o.bytes.length) hps2 hBs o.of_ o.bytes hF2d (fun k hk => by rw [hk]; omega) (Nat.le_refl _) (op23_bytes o) (by have := op23_short o; omega) (by omega)
            have hB2 : Below w.heap.size w w2.drew := below_drew (below_step hB b2)
            have HI2 := hid (And.intro hps2 (And.intro hF2d (And.intro hlen (And.intro hB2 (And.intro hsz (And.intro hBs (And.intro hg1 hg2)))))))
            clear HI hps hlen hB hsz hBs hps2 hF2d hF2 hB2 hg1 hg2 hx
            go_wp2_with fail
            refine wp_region_plan [] (.take 0 (.take 1 (.take 2 (.take 3 (.take 5 (.take 6 (.take 7 (.take 8 (.run 4 (.run 9 (.run 10 (.take 11 (.take 12 .done))))))))))))) (fun W => Ox W ob o) (by kernel_rfl) (by kernel_rfl) (fun c a d v w h => by cases d <;> exact h) hx2 ?_
            iterate 7 (apply plan_take rfl rfl; (case hy => (intro w' hS; have s1 := hS.c1; clear hS; go_simp; try exact rfl)); go_simp)
            apply plan_take rfl rfl
            case hy => (intro w' hS; exact exec_load_row 84 (.tmp 18) rfl ⟨ob, 0, none⟩ rfl [.int .i64 o.kind, .int .i64 o.of_, .int .i64 o.n, .int .u8 o.fill, .int .u64 o.gen] _ hS.row Try.underlying84 rfl (by kernel_rfl))
            go_simp
            refine plan_run_on rfl rfl (fun K hK => ?_)
            go_simp
            refine hap.mono ?_
            rintro e w3 ⟨rfl, c3, hnx⟩
            obtain ⟨hps2, hF2d, hlen, hB2, hsz, hBs, hg1, hg2⟩ := HI2.out
            have hx3 := hx2.step c3 (fun h => by have := h.2; omega)
            refine hK _ _ _ (fun _ h => h) hx3 ?_
            clear hK K hap
            go_simp
            refine plan_run_on rfl rfl (fun K hK => ?_)
            go_simp
            refine (bytesR o).mono ?_
            rintro e w4 ⟨g4, rfl, hg4, hF4, b4⟩
            have hx4 := hx3.below b4
            refine hK _ _ _ (fun _ h => h) hx4 ?_
            clear hK K
            go_simp
            refine plan_run_on rfl rfl (fun K hK => ?_)
            go_simp
            refine (hnx w4 _ _ _ b4 hF4 (Nat.le_refl _)).mono ?_
            rintro e w5 ⟨rfl, c5, D5, hps5, hl5⟩
            have hx5 := hx4.step c5 (fun h => by have := h.2; omega)
            refine hK _ _ _ (fun _ h => h) hx5 ?_
            clear hK K hnx
            go_simp
            iterate 2 (apply plan_take rfl rfl; (case hy => (intro w' hS; clear hS; go_simp; try exact rfl)); go_simp)
            refine plan_done ?_
            have hgb3 := c3.old (k := g) hgb (fun h => by have := h.2; omega)
            have hgb5 := c5.old (k := g) ((b4.block _ (blk_lt hgb3)).trans hgb3) (fun h => by have := h.2; omega)
            have t3 := hB2.trans (c3.below_ (B := w.heap.size) hB2.size (fun k hk => hk.1))
            have t4 := below_step t3 b4
            have t5 := t4.trans (c5.below_ (B := w.heap.size) t4.size (fun k hk => hk.1))
            have hne : g ≠ ob := by omega
            have hw2 : w2.drew.heap.size = w2.heap.size := rfl
            have HG := hid (And.intro hps5 (And.intro t5 (And.intro hx5 (And.intro hlen (And.intro hl5 (And.intro hne (And.intro hBs (And.intro hg1 (And.intro hg2 hsz)))))))))
            clear hps5 t5 t4 t3 hx5 hlen hl5 hne hBs hg1 hg2 hsz hgb3 hx4 hx3 hx2 hF4 hF2d hps2 hB2 c3 c5 b4 b2 b0 HI2 hgb
            go_wp2_with fail
            go_loopw [20] (fun i wl => ∃ (j : Nat) (ys : List Int), j ≤ o.bytes.length ∧ i = .int .i64 j ∧ ys.length = o.bytes.length ∧ wl.heap[g]? = some (.cells (nums .u8 ys).toArray 5 (0, 0)) ∧ Chg (fun k => k = g) w5 wl) (fun i _ => o.bytes.length - (intOf i).toNat)
            case atStart => exact ⟨0, o.bytes, Nat.zero_le _, rfl, rfl, hgb5, Chg.refl _ _⟩
            case round =>
              clear hgb5
              obtain ⟨j, ys, hj, rfl, hys, hc, hch⟩ := hrel
              have hsh := op23_short o
              by_cases hlt3 : j < o.bytes.length
              · have hltI : (j : Int) < (o.bytes.length : Int) := by omega
                have hg := frozen_of_row _ g j _ _ hc
                have hkc := cell_of_row _ g j _ _ _ hc
                have hjy : j < ys.length := by omega
                rw [show (nums .u8 ys).toArray[j]? = some (.int .u8 (ys.getD j 0)) from by simp [nums, List.getD_eq_getElem?_getD, hjy]] at hkc
                generalize ys.getD j 0 = ov at hkc
                have hset := heap_setCell_same _ g j _ _ (.int .u8 ((ov + 1) % 256)) hc
                rw [nums_set] at hset
                have hch2 := hch.setCell (p := ⟨g, j, none⟩) (.inl rfl) (.int .u8 ((ov + 1) % 256))
                have HS := hid (And.intro hset hch2)
                have hys2 : (ys.set j ((ov + 1) % 256)).length = o.bytes.length := by simpa using hys
                clear hset hch2 hc hch
                go_wp2
                go_roundw
                case rel => exact ⟨j + 1, _, by omega, by go_num, hys2, HS.out⟩
                case measure => simp [intOf]; omega
              · have hltI : ¬ (j : Int) < (o.bytes.length : Int) := by omega
                have HS := hid hch
                clear hc hch
                go_wp2_with fail
                go_meet
                case rel =>
                  obtain ⟨hps5, t5, hx5, hlen, hl5, hne, hBs, hg1, hg2, hsz⟩ := HG.out
                  exact ⟨D5, g2, Ea, rfl, hg2', rfl, rfl, hps5 _ _ (fun k hk => by rw [hk]; exact ⟨by omega, hg2⟩) HS.out, by omega, t5.trans (HS.out.below_ (B := w.heap.size) t5.size (fun k hk => by rw [hk]; omega)), hx5.step HS.out (fun h => hne h.symm)⟩
          by_cases h2 : o.kind = 2
          · skip
            have k1 : (o.kind == 1) = false := by rw [h2]; decide
            have k2 : (o.kind == 2) = true := by rw [h2]; decide
            obtain ⟨E2, lr, hop⟩ := open_both hps hBs base size g2 hg2'
            have HI := hid (And.intro hlen hB)
            clear h2 hlen hB hps hsz hBs
            go_wp2_with fail
            refine hop.mono ?_
            rintro e w2 ⟨h', A2, c2, rfl, hC2, b2, hnx⟩
            have hn2 := hnx w2 (Below.refl _ _)
            clear hop hnx
            go_wp2_with fail
            refine hn2.mono ?_
            rintro e w3 ⟨t', A3, c3, rfl, hC3, b3, hor⟩
            have hrec := records_same (c1 := c2) (c2 := c3) (Kd.C_below hC2 b3) hC3
            clear hn2 hC2 hC3
            go_wp2_with fail
            refine hrec.mono ?_
            rintro e w4 ⟨rfl, b4⟩
            have HB := hid (And.intro b2 (And.intro b3 b4))
            have HX := hid hx
            clear hrec hx b2 b3
            rcases hor with ⟨hb, tb, rfl, rfl, hps3⟩ | ⟨rfl, rfl, hps3⟩
            · have hps4 := (hps3.below b4).wide b4.size (Nat.le_refl _)
              clear hps3 b4
              go_wp2_with fail
              go_meet
              case rel =>
                obtain ⟨hlen, hB⟩ := HI.out
                obtain ⟨b2, b3, b4⟩ := HB.out
                exact ⟨D, g2, E2, rfl, hg2', rfl, rfl, hps4, hmul _ hlen, below_step (below_step (below_step hB b2) b3) b4, ((HX.out.below b2).below b3).below b4⟩
            · have hps4 := (hps3.below b4).wide b4.size (Nat.le_refl _)
              clear hps3 b4
              go_wp2_with fail
              go_meet
              case rel =>
                obtain ⟨hlen, hB⟩ := HI.out
                obtain ⟨b2, b3, b4⟩ := HB.out
                exact ⟨D, g2, E2, rfl, hg2', rfl, rfl, hps4, hmul _ hlen, below_step (below_step (below_step hB b2) b3) b4, ((HX.out.below b2).below b3).below b4⟩
          by_cases h3 : o.kind = 3
          · skip
            have k1 : (o.kind == 1) = false := by rw [h3]; decide
            have k2 : (o.kind == 2) = false := by rw [h3]; decide
            have k3 : (o.kind == 3) = true := by rw [h3]; decide
            have x2 := hx.c2
            have hop := cut_both hps o.n hon.2
            have HI := hid (And.intro hlen (And.intro hB (And.intro hx hBs)))
            clear h3 hlen hB hps hsz hBs
            go_wp2_with fail
            refine hop.mono ?_
            rintro e w2 ⟨rfl, c2, hnx⟩
            have hn2 := hnx w2 (Below.refl _ _)
            have hx2 := hx.step c2 (fun h => by have := h.2; omega)
            have x2b := hx2.c2
            clear hop hnx x2 hx
            go_wp2_with fail
            refine hn2.mono ?_
            rintro e w3 ⟨rfl, c3, hps3⟩
            have hx3 := hx2.step c3 (fun h => by have := h.2; omega)
            have HF := hid (And.intro hps3 (And.intro hx3 (And.intro c2 c3)))
            clear hn2 hps3 hx3 x2b hx2 c2 c3
            go_wp2_with fail
            go_meet
            case rel =>
              obtain ⟨hlen, hB, hx, hBs⟩ := HI.out
              obtain ⟨hps3, hx3, c2, c3⟩ := HF.out
              have t2 := hB.trans (c2.below_ (B := w.heap.size) hB.size (fun k hk => hk.1))
              have hwl : (D.cut o.n).ws.length = D.ws.length := by unfold DM.cut; split <;> rfl
              exact ⟨_, g2, e2, rfl, hg2', rfl, rfl, hps3, by rw [hwl]; exact hmul _ hlen, t2.trans (c3.below_ (B := w.heap.size) t2.size (fun k hk => hk.1)), hx3⟩
          by_cases h4 : o.kind = 4
          · skip
            have k1 : (o.kind == 1) = false := by rw [h4]; decide
            have k2 : (o.kind == 2) = false := by rw [h4]; decide
            have k3 : (o.kind == 3) = false := by rw [h4]; decide
            have k4 : (o.kind == 4) = true := by rw [h4]; decide
            have hop := on_both hps
            have HI := hid (And.intro hlen (And.intro hB (And.intro hx hBs)))
            clear h4 hlen hB hps hsz hBs
            go_wp2_with fail
            refine hop.mono ?_
            rintro e w2 ⟨rfl, c2, hnx⟩
            have hn2 := hnx w2 (Below.refl _ _)
            have hx2 := hx.step c2 (fun h => by have := h.2; omega)
            clear hop hnx hx
            go_wp2_with fail
            refine hn2.mono ?_
            rintro e w3 ⟨rfl, c3, hps3⟩
            have hx3 := hx2.step c3 (fun h => by have := h.2; omega)
            have HF := hid (And.intro hps3 (And.intro hx3 (And.intro c2 c3)))
            clear hn2 hps3 hx3 hx2 c2 c3
            go_wp2_with fail
            go_meet
            case rel =>
              obtain ⟨hlen, hB, hx, hBs⟩ := HI.out
              obtain ⟨hps3, hx3, c2, c3⟩ := HF.out
              have t2 := hB.trans (c2.below_ (B := w.heap.size) hB.size (fun k hk => hk.1))
              exact ⟨_, g2, e2, rfl, hg2', rfl, rfl, hps3, hmul _ hlen, t2.trans (c3.below_ (B := w.heap.size) t2.size (fun k hk => hk.1)), hx3⟩
          by_cases h5 : o.kind = 5
          · skip
            have k1 : (o.kind == 1) = false := by rw [h5]; decide
            have k2 : (o.kind == 2) = false := by rw [h5]; decide
            have k3 : (o.kind == 3) = false := by rw [h5]; decide
            have k4 : (o.kind == 4) = false := by rw [h5]; decide
            have k5 : (o.kind == 5) = true := by rw [h5]; decide
            have x4 := hx.c4
            obtain ⟨E2, hop⟩ := new_both hps hBs base size o.gen hog
            have HI := hid (And.intro hlen (And.intro hB hx))
            clear h5 hlen hB hps hsz hBs hx
            go_wp2_with fail
            refine hop.mono ?_
            rintro e w2 ⟨h', rfl, b2, hnx⟩
            have hn2 := hnx w2 (Below.refl _ _)
            clear hop hnx x4
            go_wp2_with fail
            refine hn2.mono ?_
            rintro e w3 ⟨t', rfl, b3, hps3⟩
            have HF := hid (And.intro hps3 (And.intro b2 b3))
            clear hn2 hps3 b2 b3
            go_wp2_with fail
            go_meet
            case rel =>
              obtain ⟨hlen, hB, hx⟩ := HI.out
              obtain ⟨hps3, b2, b3⟩ := HF.out
              exact ⟨D, o.gen, E2, rfl, hog, rfl, rfl, hps3, hmul _ hlen, below_step (below_step hB b2) b3, (hx.below b2).below b3⟩
          have k1 : (o.kind == 1) = false := by simpa using h1
          have k2 : (o.kind == 2) = false := by simpa using h2
          have k3 : (o.kind == 3) = false := by simpa using h3
          have k4 : (o.kind == 4) = false := by simpa using h4
          have k5 : (o.kind == 5) = false := by simpa using h5
          have HI := hid (And.intro hlen (And.intro hB (And.intro hx hps)))
          clear h1 h2 h3 h4 h5 hlen hB hps hsz hBs hx
          go_wp2_with fail
          go_meet
          case rel =>
            obtain ⟨hlen, hB, hx, hps⟩ := HI.out
            exact ⟨D, g2, e2, rfl, hg2', rfl, rfl, hps.wide hps.1 (Nat.le_refl _), hmul _ hlen, hB, hx⟩
        case rest =>
          clear HA HZ hx
          obtain ⟨D, g3, e3, rfl, hg3, rfl, rfl, hps, hlen, hB, hx⟩ := hcut
          have b0 : Below wc.heap.size wc wc.drew := below_drew (Below.refl wc.heap.size wc)
          have hpsd := hps.below b0
          have hlk := looks_ps hpsd o.n hon
          obtain ⟨_, okd, okt, hd, ht, _, _, _, _⟩ := hpsd
          obtain ⟨hwf, g, cap, wv, hr⟩ := ht
          obtain ⟨Aw, cw, rfl⟩ := Kd.R_slice hr.ws
          have r0 := hr.cell0
          have r3 := hr.cell3
          have x2 := (hx.below b0).c2
          have hRr : KB.R 5 wc.drew 0 (fun _ => True) (.slice (some ⟨g, 0, none⟩) D.b.length cap) D.b := Kd.R_of_own hr.row (fun _ _ => trivial)
          have hCr := (Kd.R_reads' hRr).2.2
          have HI := hid (And.intro hps (And.intro hlen (And.intro hB (And.intro hx hd))))
          clear hps hlen hB hx hr hRr hd
          go_wp2_with fail
          refine wp_region_plan [] (.take 0 (.take 1 (.take 2 (.take 3 (.take 4 (.take 5 (.take 6 (.take 7 (.run 8 (.take 9 (.take 10 (.take 11 (.take 12 (.take 15 (.take 16 (.take 17 (.take 18 (.take 19 (.run 13 (.take 14 (.take 20 (.take 21 (.take 22 (.take 23 (.take 25 (.take 26 (.take 27 (.take 28 (.take 29 (.run 24 (.take 30 (.take 31 .done)))))))))))))))))))))))))))))))) (fun W => Below wc.drew.heap.size wc.drew W) (by kernel_rfl) (by kernel_rfl) (fun c a d v w h => by cases d <;> exact h) (Below.refl _ _) ?_
          iterate 8 (apply plan_take rfl rfl; (case hy => (intro w' hS; have p2 := pw_cell_below hS x2; have q0 := pw_cell_below hS r0; have q3 := pw_cell_below hS r3; clear hS; go_simp; try exact rfl)); go_simp)
          refine plan_run_on rfl rfl (fun K hK => ?_)
          go_simp
          refine hlk.mono ?_
          rintro e w5 ⟨rfl, b5⟩
          refine hK _ _ _ (fun _ h => h) b5 ?_
          clear hK K hlk
          go_simp
          iterate 8 (apply plan_take rfl rfl; (case hy => (intro w' hS; have p2 := pw_cell_below hS x2; have q0 := pw_cell_below hS r0; have q3 := pw_cell_below hS r3; clear hS; go_simp; try exact rfl)); go_simp)
          apply plan_take rfl rfl
          case hy =>
            intro w' hS
            refine exec_convert 22 9 (.tmp 216) (.slice (some ⟨g, 0, none⟩) D.b.length cap) (.string (strOfNums D.b)) ?_ ?_ (conv_str (Kd.C_below hCr hS))
            · exact rfl
            · exact rfl
          go_simp
          refine plan_run_on rfl rfl (fun K hK => ?_)
          go_simp
          refine (image_any (HI.out.2.2.2.2.step (w1 := w5) (fun k _ hk => b5.block k hk))).mono ?_
          rintro e w6 ⟨A6, c6, rfl, hR6, b6⟩
          have hC6 := (Kd.R_reads' hR6).2.2
          have b06 := below_step b5 b6
          refine hK (fun W' => Below wc.drew.heap.size wc.drew W' ∧ Below w6.heap.size w6 W') _ _ (fun _ h => h.1) ⟨b06, Below.refl _ _⟩ ?_
          clear hK K
          go_simp
          apply plan_take rfl rfl
          case hy =>
            intro w' hS
            refine exec_convert 22 9 (.tmp 211) (.slice A6 D.b.length c6) (.string (strOfNums D.b)) ?_ ?_ (conv_str (Kd.C_below hC6 hS.2))
            · exact rfl
            · exact rfl
          go_simp
          iterate 9 (apply plan_take rfl rfl; (case hy => (intro w' hS; have p2 := pw_cell_below hS.1 x2; have q0 := pw_cell_below hS.1 r0; have q3 := pw_cell_below hS.1 r3; clear hS; go_simp; try exact rfl)); go_simp)
          refine plan_run_on rfl rfl (fun K hK => ?_)
          go_simp
          refine (count_any (HI.out.2.2.2.2.step (w1 := w6) (fun k _ hk => b06.block k hk))).mono ?_
          rintro e w7 ⟨rfl, rfl⟩
          refine hK _ _ _ (fun _ h => h) ⟨b06, Below.refl _ _⟩ ?_
          clear hK K
          go_simp
          iterate 2 (apply plan_take rfl rfl; (case hy => (intro w' hS; have p2 := pw_cell_below hS.1 x2; have q0 := pw_cell_below hS.1 r0; have q3 := pw_cell_below hS.1 r3; clear hS; go_simp; try exact rfl)); go_simp)
          refine plan_done ?_
          obtain ⟨hps, hlen, hB, hx, hd⟩ := HI.out
          have b07 := below_step b0 b06
          have HF := hid (And.intro ((hps.below b07).wide b07.size (Nat.le_refl _)) (And.intro hlen (below_step hB b07)))
          clear hps hlen hB hx hd b07 b06 b6 b5 b0 hR6 hC6 r0 r3 x2 hCr HI hwf
          go_wp2
          go_roundw
          case rel => exact ⟨k + 1, D, g3, e3, by omega, by omega, by go_num, rfl, hg3, rfl, rfl, HF.out.1, HF.out.2.1, HF.out.2.2⟩
          case measure => simp [intOf]; omega
      · have hlt2I : ¬ (k : Int) < 100 := by omega
        clear hps
        go_wp2
        go_ret
        exact ⟨rfl, hB⟩
    · have hltI : ¬ (k : Int) < (l.length : Int) := by omega
      clear hps
      go_wp2
      go_ret
      exact ⟨rfl, hB⟩
theorem plays23_row {w : World} {A : Option Addr} {c : Nat} {l : List Op23} (n base size gen : Int) (hb9 : -9223372036854775808 ≤ base ∧ base ≤ 9223372036854775807) (hs9 : -9223372036854775808 ≤ size ∧ size ≤ 9223372036854775807) (hg : 0 ≤ gen ∧ gen < 18446744073709551616) (hC : KOp23.C w A l.length l) (g : (∀ x ∈ l, x.ok) ∧ l.length * 40 ≤ 140737488351232) :
    Calls Try.prog 13 #[.int .i64 n, .int .i64 base, .int .i64 size, .int .u64 gen, .slice A l.length c] w fun e w' => e = .returned (.bool true) ∧ Below w.heap.size w w' := by
  by_cases h : n < 16 ∨ 4096 < n
  · exact halfPlays_out n base size gen h
  · obtain ⟨m, rfl⟩ := Int.eq_ofNat_of_zero_le (show 0 ≤ n by omega)
    exact halfPlays_in m (by omega) (by omega) base size gen hb9 hs9 hg (by have := g.2; omega) hC g.1
end Go.Proofs.Ytekhmkfiepnnkaa

set_option linter.unusedVariables false
set_option linter.unusedSimpArgs false
namespace Go.Proofs.Ytekhmkfiepnnkaa
open Go.RowKit Go.Proofs.YtekhmkfiepnnkaaW.PrintWords

theorem opens_ops23 : Opens Try.prog 78 (Kd.slice 84 KOp23) (fun xs => (∀ x ∈ xs, x.ok) ∧ xs.length * 40 ≤ 140737488351232) :=
  opens_slice Try.underlying78 (by kernel_rfl) (by kernel_rfl) opens_op23
end Go.Proofs.Ytekhmkfiepnnkaa

set_option linter.unusedVariables false
set_option linter.unusedSimpArgs false
namespace Go.Proofs.Ytekhmkfiepnnkaa
open Go.ChangeShapes Go.WideShapes Go.ChangeAt Go.RowKit Go.Proofs.YtekhmkfiepnnkaaW.PrintWords
open Go.ChangeMaps (open_string shut_string)
set_option linter.unusedVariables false
theorem halfPlays_own : ownKnob Try.prog.godebug = none := by kernel_rfl
theorem halfPlays_laid : laidOutB Try.prog = true := by kernel_rfl
set_option maxRecDepth 100000 in
theorem halfPlays_lifted (os : Os) (started : os.Started) (H : Type) (enc : TypeId × Value → H) :
    ReturnsInHanded {} Try.checked os 13 .any (Rows.halfPlaysSpec.pre6 enc Try.prog Try.f13 Rows.halfPlaysRow.domain false) (Rows.halfPlaysSpec.post enc Try.prog Try.f13 false true false false) := by
  refine returnsInHanded_of_change_sized (C := Try.checked) halfPlays_own started (by kernel_rfl) Try.func13
    (ChangeSpec.witness6 (enc := enc) (C := Try.checked) false ⟨#[], #[.int .i64 0, .int .i64 0, .int .i64 0, .int .u64 0, .slice none 0 0], []⟩ 8 (by kernel_rfl) (by kernel_rfl) (by kernel_rfl) (by kernel_rfl)) ?_
  intro W base args ds gs before hval0 hW hcnd hsz0 _
  have hsz : (DataW.weightsEach Try.prog (Try.f13.params.toList ++ Rows.halfPlaysSpec.plain.varTypes Try.prog) (ds ++ gs)).all (· ≤ reachBytes) = true := hsz0
  have hval : ∀ (j : Nat) t v, Try.f13.params[j]? = some t → args[j]? = some v → Value.okWide Try.prog W .any base t v := hval0
  have hW' := hW
  obtain ⟨p, q, hA0, hV, rfl, hfz, hnd⟩ := hW
  have hA : DataW.TrodAll enc Try.prog W 0 (fun _ => true) true Try.f13.params.toList args.toList ds p := hA0
  rw [Try.params13] at hA hval hsz
  obtain ⟨v0, vs0, d0, ds0, p0, q0, hargs, rfl, rfl, h0, r0⟩ := trodAll_cons hA
  obtain ⟨v1, vs1, d1, ds1, p1, q1, rfl, rfl, rfl, h1, r1⟩ := trodAll_cons r0
  obtain ⟨v2, vs2, d2, ds2, p2, q2, rfl, rfl, rfl, h2, r2⟩ := trodAll_cons r1
  obtain ⟨v3, vs3, d3, ds3, p3, q3, rfl, rfl, rfl, h3, r3⟩ := trodAll_cons r2
  obtain ⟨v4, vs4, d4, ds4, p4, q4, rfl, rfl, rfl, h4, r4⟩ := trodAll_cons r3
  obtain ⟨rfl, rfl, rfl⟩ := trodAll_nil r4
  obtain rfl : args = #[v0, v1, v2, v3, v4] := by cases args; simp_all
  obtain ⟨rfl, rfl⟩ := trodVars_none hV
  obtain ⟨n0, rfl, rfl, rfl, g0⟩ := open_int Try.underlying3 (hval 0 3 v0 rfl rfl) h0
  obtain ⟨n1, rfl, rfl, rfl, g1⟩ := open_int Try.underlying3 (hval 1 3 v1 rfl rfl) h1
  obtain ⟨n2, rfl, rfl, rfl, g2⟩ := open_int Try.underlying3 (hval 2 3 v2 rfl rfl) h2
  obtain ⟨n3, rfl, rfl, rfl, g3⟩ := open_int Try.underlying23 (hval 3 23 v3 rfl rfl) h3
  have lt4 : ∀ x ∈ p4, x.block < W.heap.size := by obtain ⟨m, hm⟩ := h4; exact DataW.trod_lt m _ _ _ hm
  obtain ⟨A4, len4, c4, rfl⟩ := okWide_slice Try.underlying78 (hval 4 78 v4 rfl rfl)
  obtain ⟨l4, rfl, hl4, k4, g4⟩ := opens_slice_arg opens_ops23 hsz (j := 4) (t := 78) rfl rfl h4
  clear hA0 hval0 hsz0 hsz
  refine (plays23_row n0 n1 n2 n3 (by have := bounds_i64 g1; omega) (by have := bounds_i64 g2; omega) (by have := bounds_u64 g3; omega) k4 g4).mono fun e W' ⟨he, bel⟩ => ?_
  subst he
  exact ⟨_, rfl, _, _, _, [], _, [], hW', trodAll_mk1 (shut_bool Try.underlying4 _), (trodAll_cons_mk (shut_int Try.underlying3 g0) (trodAll_cons_mk (shut_int Try.underlying3 g1) (trodAll_cons_mk (shut_int Try.underlying3 g2) (trodAll_cons_mk (shut_int Try.underlying23 g3) (trodAll_cons_mk (Below.trod halfPlays_laid (by kernel_rfl) (of_decide_eq_true (by kernel_rfl)) h4 bel lt4) trodAll_mk0))))), rfl, bel.frame _, fun h => by cases h⟩
theorem halfPlays_over : Rows.halfPlaysRow.holds Try.pinned (OpenSpec.ofChange Rows.halfPlaysSpec) :=
  OpenClaim.holds_of_wide 13 Try.f13 rfl rfl rfl rfl rfl rfl rfl ⟨rfl, rfl, rfl, rfl, rfl⟩ rfl rfl rfl rfl rfl (by kernel_rfl) Try.func13 (by kernel_rfl)
    (of_decide_eq_true (by kernel_rfl)) (by unfold Func.isWrapper; first | (rw [if_pos (by decide +kernel)]; kernel_rfl) | (rw [if_neg (by decide +kernel)]; exact ⟨rfl, rfl⟩))
    (fun os started H enc _ => halfPlays_lifted os started H enc)
/-- The row, for the claim. -/
theorem halfPlays_holds : Rows.HalfPlaysSaid := halfPlays_over
#print axioms halfPlays_holds
end Go.Proofs.Ytekhmkfiepnnkaa
