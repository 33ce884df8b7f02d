/- The program's disk (package disk): what its memory says of a disk 'D', and what each method does to it. -/
import Derived.Test.YtekhmkfiepnnkaaBytes
set_option linter.unusedVariables false
set_option linter.unusedSimpArgs false
namespace Go.Proofs.Ytekhmkfiepnnkaa
open Go.RowKit Go.Proofs.YtekhmkfiepnnkaaW.PrintWords

/-- A disk: its bytes, how many writes are left (below 0: no cut is set), is the power gone, the recorded writes. -/
structure DM where
  b : List Int
  left : Int
  gone : Bool
  ws : List (Int × List Int)
namespace DM
def n (D : DM) : Nat := D.b.length / 64
def ready (D : DM) (i : Int) : Int := if D.gone = true then 61 else if i < 0 ∨ (D.n : Int) ≤ i then 60 else 0
def writeE (D : DM) (i : Int) (xs : List Int) : Int :=
  if D.ready i ≠ 0 then D.ready i else if xs.length ≠ 64 then 1 else if D.left = 0 then 61 else 0
def writeD (D : DM) (i : Int) (xs : List Int) : DM :=
  if D.ready i ≠ 0 then D else if xs.length ≠ 64 then D else if D.left = 0 then { D with gone := true }
  else { b := splice D.b (i.toNat * 64) xs, left := if 0 < D.left then D.left - 1 else D.left, gone := D.gone, ws := D.ws ++ [(i, xs)] }
structure wf (D : DM) : Prop where
  len : D.b.length = 64 * D.n
  lo : 16 ≤ D.n
  hi : D.n ≤ 4096
  l1 : -9223372036854775808 ≤ D.left
  l2 : D.left ≤ 9223372036854775807
  bytes : Bytes D.b
  wsB : ∀ x ∈ D.ws, Bytes x.2 ∧ x.2.length = 64 ∧ 0 ≤ x.1 ∧ x.1 < D.n
end DM

/-- A recorded write's cells. -/
abbrev KW : Kd (Int × List Int) := Kd.pair (Kd.int .i64) (Kd.slice 5 KB)
/-- The disk's blocks: p the struct's, g the bytes', wv the recorded writes. -/
structure PDb (w : World) (ok : Nat → Prop) (p : Nat) (D : DM) (g cap : Nat) (wv : Value) : Prop where
  okp : ok p
  okg : ok g
  blk : w.heap[p]? = some (.cells #[.slice (some ⟨g, 0, none⟩) D.n cap, .int .i64 D.left, .bool D.gone, wv] 120 (0, 0))
  row : w.ownsRow 0 125 64 (.slice (some ⟨g, 0, none⟩) D.n cap) D.n (nums .u8 D.b)
  ws : KW.R 77 w 0 ok wv D.ws
def PDisk (w : World) (ok : Nat → Prop) (p : Nat) (D : DM) : Prop := D.wf ∧ ∃ g cap wv, PDb w ok p D g cap wv
theorem ob_eq {g n c k : Nat} (h : (Value.slice (some ⟨g, 0, none⟩) n c).ownBlock = some k) : g = k := by simpa [Value.ownBlock] using h
theorem blk_type_ne {w : World} {g k : Nat} {c c' : Array Value} {t t' : TypeId} (h : w.heap[g]? = some (.cells c t (0, 0))) (h' : w.heap[k]? = some (.cells c' t' (0, 0))) (hne : t ≠ t') : g ≠ k := by
  rintro rfl
  rw [h] at h'
  injection h' with h'
  injection h' with _ ht
  exact hne ht
namespace PDb
variable {w w1 : World} {ok ok' : Nat → Prop} {p : Nat} {D : DM} {g cap : Nat} {wv : Value}
theorem ne_pg (h : PDb w ok p D g cap wv) : p ≠ g := by
  obtain ⟨c, hc⟩ := own_typed h.row g rfl
  exact blk_type_ne h.blk hc (by decide)
theorem ne_pw (h : PDb w ok p D g cap wv) : some p ≠ wv.ownBlock := fun e => by
  obtain ⟨_, _, ho, _⟩ := h.ws
  obtain ⟨c, hc⟩ := own_typed ho p e.symm
  exact blk_type_ne h.blk hc (by decide) rfl
theorem ne_gw (h : PDb w ok p D g cap wv) : some g ≠ wv.ownBlock := fun e => by
  obtain ⟨_, _, ho, _⟩ := h.ws
  obtain ⟨c, hc⟩ := own_typed ho g e.symm
  obtain ⟨c', hc'⟩ := own_typed h.row g rfl
  exact blk_type_ne hc' hc (by decide) rfl
theorem mono (h : PDb w ok p D g cap wv) (hs : ∀ k, ok k → ok' k) : PDb w ok' p D g cap wv := ⟨hs _ h.okp, hs _ h.okg, h.blk, h.row, Kd.R_mono h.ws hs⟩
theorem bound (h : PDb w ok p D g cap wv) : PDb w (fun k => ok k ∧ k < w.heap.size) p D g cap wv :=
  ⟨⟨h.okp, blk_lt h.blk⟩, ⟨h.okg, own_lt h.row g rfl⟩, h.blk, h.row, Kd.R_mono (Kd.R_bound h.ws) (fun _ hk => ⟨hk.1, hk.2.2.1⟩)⟩
theorem step (h : PDb w ok p D g cap wv) (hm : ∀ k, ok k → k < w.heap.size → w1.heap[k]? = w.heap[k]?) : PDb w1 ok p D g cap wv :=
  ⟨h.okp, h.okg, (hm p h.okp (blk_lt h.blk)).trans h.blk, own_move h.row (fun k hk => (by rw [← ob_eq hk]; exact hm _ h.okg (own_lt h.row _ rfl))), Kd.R_step h.ws hm⟩
theorem below (h : PDb w ok p D g cap wv) (hb : Below w.heap.size w w1) : PDb w1 ok p D g cap wv := h.step (fun k _ hk => hb.block k hk)
theorem cell0 (h : PDb w ok p D g cap wv) : w.cell? ⟨p, 0, none⟩ = some (.slice (some ⟨g, 0, none⟩) D.n cap) := by rw [cell_of_row w p 0 _ _ _ h.blk]; rfl
theorem cell1 (h : PDb w ok p D g cap wv) : w.cell? ⟨p, 1, none⟩ = some (.int .i64 D.left) := by rw [cell_of_row w p 1 _ _ _ h.blk]; rfl
theorem cell2 (h : PDb w ok p D g cap wv) : w.cell? ⟨p, 2, none⟩ = some (.bool D.gone) := by rw [cell_of_row w p 2 _ _ _ h.blk]; rfl
theorem cell3 (h : PDb w ok p D g cap wv) : w.cell? ⟨p, 3, none⟩ = some wv := by rw [cell_of_row w p 3 _ _ _ h.blk]; rfl
theorem free (h : PDb w ok p D g cap wv) (j : Nat) : w.frozen? ⟨p, j, none⟩ = false := frozen_of_row w p j _ _ h.blk
theorem setP (h : PDb w ok p D g cap wv) (j : Nat) (u : Value) : (w.setCell ⟨p, j, none⟩ u).ownsRow 0 125 64 (.slice (some ⟨g, 0, none⟩) D.n cap) D.n (nums .u8 D.b) ∧ KW.R 77 (w.setCell ⟨p, j, none⟩ u) 0 ok wv D.ws :=
  ⟨own_move h.row (fun k hk => (by rw [← ob_eq hk]; exact Below.heap_setCell w _ u _ (fun e => h.ne_pg e.symm))), Kd.R_set h.ws h.blk (by decide) j u⟩
theorem setLeft (h : PDb w ok p D g cap wv) (l : Int) : PDb (w.setCell ⟨p, 1, none⟩ (.int .i64 l)) ok p { D with left := l } g cap wv :=
  ⟨h.okp, h.okg, heap_setCell_same w p 1 _ _ _ h.blk, (h.setP 1 _).1, (h.setP 1 _).2⟩
theorem setGone (h : PDb w ok p D g cap wv) (l : Bool) : PDb (w.setCell ⟨p, 2, none⟩ (.bool l)) ok p { D with gone := l } g cap wv :=
  ⟨h.okp, h.okg, heap_setCell_same w p 2 _ _ _ h.blk, (h.setP 2 _).1, (h.setP 2 _).2⟩
theorem setBytes (h : PDb w ok p D g cap wv) (off : Nat) (xs : List Int) (hl : off + xs.length ≤ D.n * 64) : PDb (w.setCells g off (nums .u8 xs)) ok p { D with b := splice D.b off xs } g cap wv := by
  have hn : (splice D.b off xs).length = D.b.length := by
    have := h.row.1
    rw [nums_length] at this
    exact length_splice _ _ _ (by omega)
  have hn2 : ({ D with b := splice D.b off xs } : DM).n = D.n := by simp only [DM.n, hn]
  refine ⟨h.okp, h.okg, ?_, ?_, ?_⟩
  · rw [heap_setCells_ne _ _ h.ne_pg, hn2]; exact h.blk
  · rw [hn2]
    have h2 := own_setCells (off := off) (vs := nums .u8 xs) h.row (by rw [nums_length]; exact hl)
    have h3 : nums .u8 (splice D.b off xs) = splice (nums .u8 D.b) off (nums .u8 xs) := by simp only [nums]; exact map_splice _ _ _ _
    rw [h3]; exact h2
  · obtain ⟨c, hc⟩ := own_typed h.row g rfl
    refine Kd.R_mono (Kd.R_step (Kd.R_types h.ws hc (by decide)) (w1 := w.setCells g off (nums .u8 xs)) (fun k hk _ => heap_setCells_ne _ _ hk.2 _ _)) (fun _ hk => hk.1)
end PDb
theorem PDisk.mono {w : World} {ok ok' : Nat → Prop} {p : Nat} {D : DM} (h : PDisk w ok p D) (hs : ∀ k, ok k → ok' k) : PDisk w ok' p D := by
  obtain ⟨hw, g, cap, wv, h⟩ := h
  exact ⟨hw, g, cap, wv, h.mono hs⟩
theorem PDisk.bound {w : World} {ok : Nat → Prop} {p : Nat} {D : DM} (h : PDisk w ok p D) : PDisk w (fun k => ok k ∧ k < w.heap.size) p D := by
  obtain ⟨hw, g, cap, wv, h⟩ := h
  exact ⟨hw, g, cap, wv, h.bound⟩
theorem PDisk.step {w w1 : World} {ok : Nat → Prop} {p : Nat} {D : DM} (h : PDisk w ok p D) (hm : ∀ k, ok k → k < w.heap.size → w1.heap[k]? = w.heap[k]?) : PDisk w1 ok p D := by
  obtain ⟨hw, g, cap, wv, h⟩ := h
  exact ⟨hw, g, cap, wv, h.step hm⟩

theorem ready_nil (i : Int) (w : World) : Calls Try.prog 74 #[.pointer none, .int .i64 i] w fun e w' => e = .returned (.int .i64 2) ∧ w = w' := by
  go_enter Try.func74, Try.ntmps74
  go_wp2
  go_ret
  exact ⟨rfl, rfl⟩
theorem ready_gone (p : Nat) (A : Option Addr) (n c : Nat) (left i : Int) (wv : Value) (w : World) (hp : w.heap[p]? = some (.cells #[.slice A n c, .int .i64 left, .bool true, wv] 120 (0, 0))) :
  Calls Try.prog 74 #[.pointer (some ⟨p, 0, none⟩), .int .i64 i] w fun e w' => e = .returned (.int .i64 61) ∧ w = w' := by
  have h2 := cell_of_row w p 2 _ _ _ hp
  have h0 := cell_of_row w p 0 _ _ _ hp
  simp at h2 h0
  clear hp
  go_enter Try.func74, Try.ntmps74
  go_wp2
  go_ret
  exact ⟨rfl, rfl⟩
theorem ready_on (p : Nat) (A : Option Addr) (n c : Nat) (left i : Int) (wv : Value) (w : World) (hp : w.heap[p]? = some (.cells #[.slice A n c, .int .i64 left, .bool false, wv] 120 (0, 0))) :
  Calls Try.prog 74 #[.pointer (some ⟨p, 0, none⟩), .int .i64 i] w fun e w' => e = .returned (.int .i64 (if i < 0 ∨ (n : Int) ≤ i then 60 else 0)) ∧ w = w' := by
  have h2 := cell_of_row w p 2 _ _ _ hp
  have h0 := cell_of_row w p 0 _ _ _ hp
  simp at h2 h0
  clear hp
  go_enter Try.func74, Try.ntmps74
  go_wp2
  all_goals (go_ret; exact ⟨rfl, rfl⟩)
theorem ready_any {w : World} {ok : Nat → Prop} {p : Nat} {D : DM} (h : PDisk w ok p D) (i : Int) :
  Calls Try.prog 74 #[.pointer (some ⟨p, 0, none⟩), .int .i64 i] w fun e w' => e = .returned (.int .i64 (D.ready i)) ∧ w = w' := by
  obtain ⟨_, g, cap, wv, hb⟩ := h
  have hp := hb.blk
  unfold DM.ready
  cases hg : D.gone
  · rw [hg] at hp
    simpa using ready_on p _ _ _ _ i _ w hp
  · rw [hg] at hp
    simpa using ready_gone p _ _ _ _ i _ w hp

/-! ### Write -/
theorem info_block : (Try.prog.info? 125).map (·.size) = some 64 := by kernel_rfl
theorem info_Write : (Try.prog.info? 77).map (fun i => (i.zero, i.size, i.bytes)) = some (some (.agg #[.int .i64 0, .slice none 0 0]), 2, 32) := by kernel_rfl
theorem PDb.drew {w : World} {ok : Nat → Prop} {p : Nat} {D : DM} {g cap : Nat} {wv : Value} (h : PDb w ok p D g cap wv) : PDb w.drew ok p D g cap wv := h.below (below_drew (Below.refl _ _))
theorem RB_drew {w : World} {ok : Nat → Prop} {A : Option Addr} {xs : List Int} (h : RB w ok A xs) : RB w.drew ok A xs := Kd.F_drew h
theorem PDb.close {w : World} {ok : Nat → Prop} {p : Nat} {D : DM} {g cap : Nat} {wv u : Value} {l : List (Int × List Int)} (hp : ok p) (hg : ok g)
    (hb : w.heap[p]? = some (.cells #[.slice (some ⟨g, 0, none⟩) D.n cap, .int .i64 D.left, .bool D.gone, wv] 120 (0, 0)))
    (hr : w.ownsRow 0 125 64 (.slice (some ⟨g, 0, none⟩) D.n cap) D.n (nums .u8 D.b)) (hR : KW.R 77 w 0 ok u l) :
    PDb (w.setCell ⟨p, 3, none⟩ u) ok p { D with ws := l } g cap u := by
  have hne : g ≠ p := by
    obtain ⟨c, hc⟩ := own_typed hr g rfl
    exact blk_type_ne hc hb (by decide)
  exact ⟨hp, hg, heap_setCell_same w p 3 _ _ _ hb, own_move hr (fun k hk => (by rw [← ob_eq hk]; exact Below.heap_setCell w _ u _ hne)), Kd.R_set hR hb (by decide) 3 u⟩
theorem splice_mem {α : Type} {L xs : List α} {off : Nat} {x : α} (h : x ∈ splice L off xs) : x ∈ L ∨ x ∈ xs := by
  unfold splice at h
  rcases List.mem_append.1 h with h | h
  · exact .inl (List.mem_of_mem_take h)
  · rcases List.mem_append.1 h with h | h
    · exact .inr h
    · exact .inl (List.mem_of_mem_drop h)
theorem writeD_wf {D : DM} (h : D.wf) {xs : List Int} (hB : Bytes xs) (i : Int) : (D.writeD i xs).wf := by
  unfold DM.writeD
  split
  · exact h
  split
  · exact h
  split
  · exact ⟨h.len, h.lo, h.hi, h.l1, h.l2, h.bytes, h.wsB⟩
  · rename_i hr hx hl
    have hx64 := hx
    have hi : 0 ≤ i ∧ i < D.n := by
      simp only [DM.ready] at hr
      split at hr
      · simp at hr
      · split at hr
        · simp at hr
        · omega
    have h1 := h.len
    have hn : (splice D.b (i.toNat * 64) xs).length = D.b.length := length_splice _ _ _ (by omega)
    have h2 := h.l1
    have h3 := h.l2
    refine ⟨?_, ?_, ?_, ?_, ?_, ?_, ?_⟩
    · show (splice D.b (i.toNat * 64) xs).length = 64 * ((splice D.b (i.toNat * 64) xs).length / 64); rw [hn]; exact h.len
    · show 16 ≤ (splice D.b (i.toNat * 64) xs).length / 64; rw [hn]; exact h.lo
    · show (splice D.b (i.toNat * 64) xs).length / 64 ≤ _; rw [hn]; exact h.hi
    · simp only; split <;> omega
    · simp only; split <;> omega
    · intro x hx
      rcases splice_mem hx with hx | hx
      · exact h.bytes x hx
      · exact hB x hx
    · intro x hx
      rcases List.mem_append.1 hx with hx | hx
      · have h5 := h.wsB x hx
        refine ⟨h5.1, h5.2.1, h5.2.2.1, ?_⟩
        show x.1 < (((splice D.b (i.toNat * 64) xs).length / 64 : Nat) : Int)
        rw [hn]; exact h5.2.2.2
      · rw [List.mem_singleton.1 hx]
        refine ⟨hB, Classical.not_not.1 hx64, hi.1, ?_⟩
        show i < (((splice D.b (i.toNat * 64) xs).length / 64 : Nat) : Int)
        rw [hn]; exact hi.2
/-- What is told of a record made of an int and a fresh slice of bytes. -/
theorem KW_new {w : World} {ok : Nat → Prop} {v : Value} {i : Int} {xs : List Int} (h : KB.R 5 w 0 ok v xs) : KW.M w 0 ok (i, xs) [.int .i64 i, v] := ⟨[.int .i64 i], [v], rfl, rfl, v, rfl, h⟩
end Go.Proofs.Ytekhmkfiepnnkaa
