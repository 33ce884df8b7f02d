/- Texts of one seat, laid together. -/
import Derived.Test.YtekhmkfiepnnkaaProg
import Derived.Below
import Derived.Deep.Draws
import Derived.Deep.AppendLies
import Derived.Maps.AppendAt
import Derived.OwnWalk
import Derived.Laws.BytesArg
import Derived.Laws.MakeOwn
import Derived.Laws.OwnMore
import Derived.Deep.OwnRows
import Derived.Tactics
import Derived.Lib.ConvBytes
import Derived.Laws.Slices
import Derived.WalkKit
import Derived.KernelRfl
import Derived.RowKit3
import Derived.Deep.LoopGhost
import Derived.Deep.QuietTactic
import Derived.BigQuiet
import Derived.WideLaws
import Derived.Deep.DeepCutAuto
import Derived.Deep.CutBlock
import Derived.Deep.RegionHeld3
import Derived.Laws.Rows
import Derived.Lib.AppendStr
import Derived.ArgAppend
import Derived.Laws.IdiomCopy
import Derived.OrdersHeld
import Derived.Laws.BitsLemmas
import Derived.RowKit
import Derived.Test.YtekhmkfiepnnkaaWWords
import Derived.Test.YtekhmkfiepnnkaaWLast
import Derived.Test.YtekhmkfiepnnkaaWTab
import Derived.Test.YtekhmkfiepnnkaaWFour
import Derived.Test.YtekhmkfiepnnkaaWQPut
import Derived.Test.YtekhmkfiepnnkaaWApart
import Derived.Test.YtekhmkfiepnnkaaWArr
import Derived.Test.YtekhmkfiepnnkaaWZeros
import Derived.Test.YtekhmkfiepnnkaaWFoot
import Derived.Test.YtekhmkfiepnnkaaWKept
import Derived.Test.YtekhmkfiepnnkaaWShare
import Derived.Test.YtekhmkfiepnnkaaWN
import Derived.Test.YtekhmkfiepnnkaaWFootNe
import Derived.Test.YtekhmkfiepnnkaaWAt
import Derived.Test.YtekhmkfiepnnkaaWEqStruct
import Derived.Test.YtekhmkfiepnnkaaWRepsOne
import Derived.Test.YtekhmkfiepnnkaaWInv
import Derived.Test.YtekhmkfiepnnkaaWInvWords
import Derived.Test.YtekhmkfiepnnkaaWGuard
import Derived.Test.YtekhmkfiepnnkaaWNEv
import Derived.Test.YtekhmkfiepnnkaaWMore
import Derived.Test.YtekhmkfiepnnkaaGSB

/- seal.Blocks. -/
set_option linter.unusedVariables false
set_option linter.unusedSimpArgs false
namespace Go.Proofs.Ytekhmkfiepnnkaa
open Go.RowKit Go.Shelf Go.Proofs.YtekhmkfiepnnkaaW.PrintWords Go.Proofs.YtekhmkfiepnnkaaW.PrintMore
attribute [local go_sem] Oper.semAt_some

/-- A slice of a whole block. -/
abbrev KA : Kd Nat := Kd.scalar (fun g => Value.slice (some ⟨g, 0, none⟩) 64 64) (fun _ => rfl)
theorem KA_E {t : Nat} (h : t ≠ 22) : ∀ q : Nat, q ∈ 22 :: KA.E → q ≠ t := fun q hq => by
  have hq2 : q ∈ [22] := hq
  rw [List.mem_singleton.1 hq2]
  exact fun e => h e.symm
/-- What Blocks hands out: a row of slices, each of a block of its own. -/
def BlkOut (W : World) (B : Nat) (v : Value) (l : List (List Int)) : Prop :=
  ∃ gs : List Nat, gs.length = l.length ∧ KA.R 22 W B (fun k => B ≤ k) v gs ∧ gs.Nodup ∧ (∀ g ∈ gs, B ≤ g) ∧ ∀ (i : Nat) (xs : List Int), l[i]? = some xs → ∃ g, gs[i]? = some g ∧ BU W g 111 xs
theorem BlkOut.step {W W1 : World} {B : Nat} {v : Value} {l : List (List Int)} (h : BlkOut W B v l) (hm : ∀ k, B ≤ k → k < W.heap.size → W1.heap[k]? = W.heap[k]?) : BlkOut W1 B v l := by
  obtain ⟨gs, h1, h2, h3, h4, h5⟩ := h
  refine ⟨gs, h1, Kd.R_step h2 hm, h3, h4, fun i xs hi => ?_⟩
  obtain ⟨g, hg, hb⟩ := h5 i xs hi
  exact ⟨g, hg, hb.step (hm g (h4 g (List.mem_of_getElem? hg)) hb.lt)⟩
/-- .. of what is cells of other kinds nothing is asked. -/
theorem BlkOut.stepT {W W1 : World} {B ob t : Nat} {cs : Array Value} {v : Value} {l : List (List Int)} (h : BlkOut W B v l) (ho : W.heap[ob]? = some (.cells cs t (0, 0))) (h1 : t ≠ 22) (h2 : t ≠ 111) (hm : ∀ k, B ≤ k → k < W.heap.size → k ≠ ob → W1.heap[k]? = W.heap[k]?) : BlkOut W1 B v l := by
  obtain ⟨gs, a1, a2, a3, a4, a5⟩ := h
  refine ⟨gs, a1, Kd.R_mono (Kd.R_step (Kd.R_types a2 ho (KA_E h1)) (fun k hk hlt => hm k hk.1 hlt hk.2)) (fun k hk => hk.1), a3, a4, fun i xs hi => ?_⟩
  obtain ⟨g, hg, hb⟩ := a5 i xs hi
  exact ⟨g, hg, hb.step (hm g (a4 g (List.mem_of_getElem? hg)) hb.lt (blk_type_ne hb ho (fun e => h2 e.symm)))⟩
theorem BlkOut.lower {W : World} {B B' : Nat} {v : Value} {l : List (List Int)} (h : BlkOut W B v l) (hb : B' ≤ B) : BlkOut W B' v l := by
  obtain ⟨gs, a1, a2, a3, a4, a5⟩ := h
  exact ⟨gs, a1, Kd.R_lower (Kd.R_mono a2 (fun k hk => Nat.le_trans hb hk)) hb, a3, fun g hg => Nat.le_trans hb (a4 g hg), a5⟩
theorem info_bs : (Try.prog.info? 22).map (fun i => (i.zero, i.size, i.bytes)) = some (some (.slice none 0 0), 1, 24) := by kernel_rfl
/-- A block more. -/
theorem BlkOut.snoc {W1 : World} {B g : Nat} {v1 : Value} {l : List (List Int)} {xs : List Int} {gs : List Nat} (h1 : gs.length = l.length) (h3 : gs.Nodup) (h4 : ∀ g ∈ gs, B ≤ g)
    (h5 : ∀ (i : Nat) (xs : List Int), l[i]? = some xs → ∃ g, gs[i]? = some g ∧ BU W1 g 111 xs) (hR : KA.R 22 W1 B (fun k => B ≤ k) v1 (gs ++ [g])) (hg : B ≤ g) (hn : g ∉ gs) (hb : BU W1 g 111 xs) : BlkOut W1 B v1 (l ++ [xs]) := by
  refine ⟨gs ++ [g], by simp [h1], hR, ?_, ?_, ?_⟩
  · rw [List.nodup_append]
    exact ⟨h3, by simp, fun a ha b hb2 => by rw [List.mem_singleton.1 hb2]; exact fun e => hn (e ▸ ha)⟩
  · intro q hq
    rcases List.mem_append.1 hq with hq | hq
    · exact h4 q hq
    · rw [List.mem_singleton.1 hq]; exact hg
  · intro i ys hi
    rcases Nat.lt_or_ge i l.length with hl | hl
    · rw [List.getElem?_append_left hl] at hi
      obtain ⟨q, hq, hqb⟩ := h5 i ys hi
      exact ⟨q, by rw [List.getElem?_append_left (by omega)]; exact hq, hqb⟩
    · rw [List.getElem?_append_right hl] at hi
      have hil : i - l.length = 0 := by
        have := (List.getElem?_eq_some_iff.1 hi).1
        simp at this; omega
      rw [hil] at hi
      simp at hi
      subst hi
      exact ⟨g, by rw [List.getElem?_append_right (by omega), h1, hil]; rfl, hb⟩
theorem blocksErr {w : World} {A : Option Addr} {c : Nat} (r : SR) (hl : r.bytes.length ≤ 9223372036854775807) (he : ¬ sealE r = 0) :
  Calls Try.prog 24 #[recV r A c] w fun e w' => e = .returned (.tuple #[.slice none 0 0, .int .i64 (sealE r)]) ∧ Below w.heap.size w w' := by
  have hc := right_any (w := w.alloc (.cells #[.int .u64 r.gen, .int .i64 r.at_, .int .i64 r.kind, .slice A r.bytes.length c] 25)) (A := A) (c := c) r hl
  have hb := below_alloc (Below.refl w.heap.size w) (.cells #[.int .u64 r.gen, .int .i64 r.at_, .int .i64 r.kind, .slice A r.bytes.length c] 25)
  have HB := hid hb
  generalize sealE r = E at he hc ⊢
  have heb : (E != 0) = true := by simpa using he
  unfold recV at hc ⊢
  clear hb
  go_enter Try.func24, Try.ntmps24
  go_wp2_with fail
  refine hc.mono ?_
  rintro e w1 ⟨rfl, hB⟩
  have hfin : Below w.heap.size w w1 := HB.out.trans (hB.mono HB.out.size)
  clear hc hB
  go_wp2
  go_ret2
  exact ⟨rfl, hfin⟩
/-- Between two rounds. -/
structure BI (w : World) (ob B : Nat) (l : List (List Int)) (W : World) : Prop where
  out : ∃ v, W.heap[ob]? = some (.cells #[v] 45 (0, 0)) ∧ BlkOut W B v l
  bel : Below w.heap.size w W
  sz : B ≤ W.heap.size
theorem BI.turn {w W W' : World} {ob B : Nat} {l : List (List Int)} (h : BI w ob B l W) {row : Option Nat} (hg : W.grownBy W' row) (hr : ∀ r, row = some r → w.heap.size ≤ r ∧ ∃ o : Obj, W.heap[r]? = some o ∧ o.isCells = false) : BI w ob B l W' := by
  obtain ⟨⟨v, h1, gs, a1, a2, a3, a4, a5⟩, h2, h3⟩ := h
  have ht : ∀ k, isC W k → W'.heap[k]? = W.heap[k]? := fun k hk => turn_cells hg (fun r e => (hr r e).2) hk
  refine ⟨⟨v, (ht _ ⟨_, _, h1⟩).trans h1, gs, a1, ?_, a3, a4, fun i xs hi => ?_⟩, h2.trans ⟨hg.os, hg.tape, hg.output, hg.size, fun k hk => hg.block k (by have := h2.size; omega) (fun e => by have := (hr k e.symm).1; omega)⟩, Nat.le_trans h3 hg.size⟩
  · refine Kd.R_mono (Kd.R_step (Kd.R_bound a2) (fun k hk _ => ht k ?_)) (fun k hk => hk.1)
    obtain ⟨_, _, _, q, _, cs, hc⟩ := hk
    exact ⟨_, _, hc⟩
  · obtain ⟨g, hg, hb⟩ := a5 i xs hi
    exact ⟨g, hg, hb.step (ht g ⟨_, _, hb⟩)⟩
end Go.Proofs.Ytekhmkfiepnnkaa

/- seal.Blocks, of a record that may be. -/
set_option linter.unusedVariables false
set_option linter.unusedSimpArgs false
namespace Go.Proofs.Ytekhmkfiepnnkaa
open Go.RowKit Go.Shelf Go.Proofs.YtekhmkfiepnnkaaW.PrintWords Go.Proofs.YtekhmkfiepnnkaaW.PrintMore
attribute [local go_sem] Oper.semAt_some

theorem KA_inj {e : Nat} {W : World} {B B' : Nat} {ok ok' : Nat → Prop} {v : Value} {gs gs' : List Nat} (h : KA.R e W B ok v gs) (h' : KA.R e W B' ok' v gs') : gs = gs' := by
  obtain ⟨A, c, rfl, _, hC⟩ := Kd.R_reads h
  obtain ⟨A', c', he, _, hC'⟩ := Kd.R_reads h'
  injection he with e1 e2 e3
  subst e1
  have hc := Kd.reads_of_C (enc := fun g => Value.slice (some ⟨g, 0, none⟩) 64 64) (d := 0) (h1 := fun _ => rfl) hC
  have hc' := Kd.reads_of_C (enc := fun g => Value.slice (some ⟨g, 0, none⟩) 64 64) (d := 0) (h1 := fun _ => rfl) hC'
  apply List.ext_getElem e2
  intro i h1 h2
  obtain ⟨ad, q1, c1⟩ := hc.2.2 (by omega)
  obtain ⟨ad', q2, c2⟩ := hc'.2.2 (by omega)
  rw [q1] at q2
  injection q2 with q2
  subst q2
  have f1 := c1 i h1
  have f2 := c2 i h2
  rw [f1] at f2
  simp [List.getD_eq_getElem?_getD, h1, h2] at f2
  exact f2
/-- Block g is not listed yet. -/
def NotIn (ob B g : Nat) (W : World) : Prop := ∃ v gs, W.heap[ob]? = some (.cells #[v] 45 (0, 0)) ∧ KA.R 22 W B (fun k => B ≤ k) v gs ∧ g ∉ gs
theorem NotIn.turn {ob B g : Nat} {W W' : World} (h : NotIn ob B g W) {row : Option Nat} (hg : W.grownBy W' row) (hr : ∀ r, row = some r → ∃ o : Obj, W.heap[r]? = some o ∧ o.isCells = false) : NotIn ob B g W' := by
  obtain ⟨v, gs, h1, h2, h3⟩ := h
  refine ⟨v, gs, (turn_cells hg hr ⟨_, _, h1⟩).trans h1, Kd.R_mono (Kd.R_step (Kd.R_bound h2) (fun k hk _ => turn_cells hg hr ?_)) (fun k hk => hk.1), h3⟩
  obtain ⟨_, _, _, q, _, cs, hc⟩ := hk
  exact ⟨_, _, hc⟩
theorem BI.fresh {w W : World} {ob B : Nat} {l : List (List Int)} (h : BI w ob B l W) (o : Obj) : NotIn ob B W.heap.size (W.alloc o) := by
  obtain ⟨⟨v, h1, gs, a1, a2, a3, a4, a5⟩, h2, h3⟩ := h
  refine ⟨v, gs, (Below.heap_alloc W o ob (blk_lt h1)).trans h1, Kd.R_alloc a2 o, fun hm => ?_⟩
  obtain ⟨i, hi, hgi⟩ := List.getElem_of_mem hm
  obtain ⟨g, hg, hb⟩ := a5 i l[i] (by rw [List.getElem?_eq_getElem (by omega)])
  rw [List.getElem?_eq_getElem hi, hgi] at hg
  injection hg with hg
  have := hb.lt
  omega
def InvB (w : World) (ob B : Nat) (pre : List YB) (W : World) : Prop := BI w ob B (pre.map (·.1.2)) W
set_option maxRecDepth 100000 in
set_option maxHeartbeats 4000000 in
theorem sealBlocks_ok {w : World} {okr : Nat → Prop} {A : Option Addr} {c : Nat} (r : SR) (hF : RB w okr A r.bytes) (hl : r.bytes.length ≤ c) (hr : r.right) :
  Calls Try.prog 24 #[recV r A c] w fun e w' => ∃ v, e = .returned (.tuple #[v, .int .i64 0]) ∧ BlkOut w' w.heap.size v ((blkList r).map (·.2)) ∧ Below w.heap.size w w' := by
  have he : sealE r = 0 := by
    have h1 := hr.g; have h2 := hr.a; have h3 := hr.k; have h4 := hr.l
    unfold sealE
    rw [if_neg (by omega), if_neg (by omega)]
  have hlb := hr.l
  obtain ⟨w0, hw0⟩ : ∃ w0, w.alloc (.cells #[.int .u64 r.gen, .int .i64 r.at_, .int .i64 r.kind, .slice A r.bytes.length c] 25) = w0 := ⟨_, rfl⟩
  have hb0 : Below w.heap.size w w0 := by rw [← hw0]; exact below_alloc (Below.refl _ _) _
  have hr0 : w0.heap[w.heap.size]? = some (.cells #[.int .u64 r.gen, .int .i64 r.at_, .int .i64 r.kind, .slice A r.bytes.length c] 25 (0, 0)) := by rw [← hw0]; exact heap_alloc_new _ _
  have hc := right_any (w := w0) (A := A) (c := c) r (by omega)
  rw [he] at hc
  have HW0 := hid hw0
  clear hw0
  clear he
  unfold recV at hc ⊢
  refine (callsIn_wide (n := 2)).1 (callsIn_of_wp_marks Try.func24 rfl trivial ?_ rfl)
  simp only [Try.ntmps24, List.size_toArray, List.length_cons, List.length_nil, Nat.reduceAdd, Nat.reduceSub, Array.replicate_succ, Array.replicate_zero, List.push_toArray, List.append_toArray, List.nil_append, List.cons_append]
  gi_wp2_with fail
  rw [HW0.out]
  refine ⟨trivial, callsIn_wide.2 (hc.mono ?_)⟩
  rintro e w1 ⟨rfl, hB1⟩
  have hr1 := (hB1.block _ (blk_lt hr0)).trans hr0
  have hb1 : Below w.heap.size w w1 := hb0.trans (hB1.mono hb0.size)
  have hs1 := blk_lt hr1
  clear HW0 hc hB1 hr0 hb0
  have ho2 := heap_alloc_new w1 (.cells #[.slice none 0 0] 45)
  have hb2 := below_alloc (Below.refl w1.heap.size w1) (.cells #[.slice none 0 0] 45)
  have hr2 := (hb2.block _ hs1).trans hr1
  have hld : ∀ j v, ([Value.int .u64 r.gen, .int .i64 r.at_, .int .i64 r.kind, .slice A r.bytes.length c] : List Value)[j]? = some v → (w1.alloc (.cells #[.slice none 0 0] 45)).cell? ((⟨w.heap.size, 0, none⟩ : Addr).add j) = some v := by
    intro j v hj
    rw [add_plain, cell_of_row _ _ j _ _ _ hr2]
    simpa using hj
  gi_wp2_with (refine wpListIn_load_addr rfl rfl 25 (.tmp 1) rfl ⟨w.heap.size, 0, none⟩ rfl _ _ hld Try.underlying25 rfl (by kernel_rfl) ?_)
  refine ⟨trivial, callsIn_wide.2 ((seq_any r).mono ?_)⟩
  rintro e W0 ⟨rfl, hW0⟩
  have hbw2 : Below w.heap.size w (w1.alloc (.cells #[.slice none 0 0] 45)) := hb1.trans (hb2.mono hb1.size)
  have hs2 : (w1.alloc (.cells #[.slice none 0 0] 45)).heap.size = w1.heap.size + 1 := World.size_alloc _ _
  generalize w1.alloc (.cells #[.slice none 0 0] 45) = w2 at ho2 hb2 hr2 hld hW0 hbw2 hs2 ⊢
  have hb20 : Below w2.heap.size w2 W0 := by rw [hW0]; exact below_alloc (Below.refl _ _) _
  have hrb : W0.heap[w2.heap.size]? = some (.cells #[.int .u64 r.gen, .int .i64 r.at_, .int .i64 r.kind, .slice A r.bytes.length c] 25 (0, 0)) := by rw [hW0]; exact heap_alloc_new _ _
  have hs0 : W0.heap.size = w2.heap.size + 1 := by rw [hW0]; exact World.size_alloc _ _
  have hbw : Below w.heap.size w W0 := hbw2.trans (hb20.mono hbw2.size)
  have ho := (hb20.block _ (blk_lt ho2)).trans ho2
  have hRB : RBox W0 w2.heap.size r (fun k => (okr k ∧ k < w.heap.size) ∨ k = w2.heap.size) A c := ⟨.inr rfl, hrb, fun W' hW => hF W' (fun k hk hlt => (hW k ⟨.inl ⟨hk, hlt⟩, by omega⟩ (by omega)).trans (hbw.block k hlt)), hl⟩
  have hseq := blocks_stops hRB hr (fun k hk => by rcases hk with hk | hk <;> omega)
  have hn1 := And.intro (Nat.le_of_eq hs2) (Nat.le_of_eq hs2.symm)
  have hn0 := And.intro (Nat.le_of_eq hs0) (Nat.le_of_eq hs0.symm)
  have hI0 : InvB w w1.heap.size W0.heap.size [] W0 := ⟨⟨_, ho, ⟨[], rfl, Kd.R_nil _ _ _ _ _, List.nodup_nil, by simp, by simp⟩⟩, hbw, Nat.le_refl _⟩
  clear hs2 hs0 hW0 hb20 hrb ho hRB hld hb2 ho2 hbw2
  gi_wp2_with fail
  refine wpIn_rangeFunc_ownH (α := YB) (n := 2) (w := W0) rfl (by decide) (gf := 82) (lb := #[.pointer (some ⟨w2.heap.size, 0, none⟩)]) rfl trivial (enters_of Try.func82 (by kernel_rfl) rfl)
    hseq (fun h k => ⟨fun i hi hlt => (k.1 i hi (Nat.lt_of_lt_of_le hlt h.2)).trans (h.1 i hi hlt), Nat.le_trans h.2 k.2⟩) (fun W l o o' hl _ _ _ => ⟨fun k hk _ => World.putObj_heap_other (fun e => by rcases hk with hk | hk <;> omega), by simp⟩) (Below.refl _ _) (fun _ => rfl)
    (InvB w w1.heap.size W0.heap.size) (fun _ _ _ => False)
    (fun s X Y row hs hg hr => BI.turn hs hg (fun r e => ⟨by have := (hr r e).1; omega, (hr r e).2⟩))
    (fun cd s X Y row hs hg hr => hs.elim)
    hI0
    (fun x a' W => ∃ Bx u6 u15 u16, W0.heap.size ≤ Bx ∧ BU W Bx 111 x.1.2 ∧ NotIn w1.heap.size W0.heap.size Bx W ∧ a' = { tmps := #[.agg #[.int .u64 r.gen, .int .i64 r.at_, .int .i64 r.kind, .slice A r.bytes.length c], .pointer (some ⟨w.heap.size, 0, none⟩), .slice none 0 0, .int .i64 0, .int .i64 0, .pointer (some ⟨w1.heap.size, 0, none⟩), u6, .pointer (some ⟨Bx, 0, none⟩), .agg #[.int .u64 r.gen, .int .i64 r.at_, .int .i64 r.kind, .slice A r.bytes.length c], .int .i64 0, .int .i64 0, .bool false, undef, .agg #[.int .u64 r.gen, .int .i64 r.at_, .int .i64 r.kind, .slice A r.bytes.length c], .func (.func 82) #[] #[.pointer (some ⟨w2.heap.size, 0, none⟩)], u15, u16, undef, undef, undef, undef, undef], defers := [] })
    (fun x a' _ X Y row hs hg hr => by obtain ⟨Bx, u6, u15, u16, e1, e2, e3, e4⟩ := hs; exact ⟨Bx, u6, u15, u16, e1, e2.step (turn_cells hg (fun r e => (hr r e).2) ⟨_, _, e2⟩), e3.turn hg (fun r e => (hr r e).2), e4⟩)
    ?assign ?body ?done ?stop
  case assign =>
    rintro l pre x W K hI hK
    have hst := storeCells64s x.2.2.1
    have hxl : (nums .u8 x.1.2).length = 64 := by rw [nums_length]; exact x.2.2.1
    dsimp only [encY]
    gi_wp2
    exact hK _ _ ((KeepsOthers.alloc _ _).from _) ⟨fun k _ hlt => Below.heap_alloc _ _ _ hlt, by simp⟩ (BI.turn hI (World.grownBy_alloc W _ none) (fun r e => by cases e)) ⟨W.heap.size, _, _, _, hI.sz, heap_alloc_new _ _, BI.fresh hI _, rfl⟩
  case body =>
    rintro l pre ⟨⟨k, ys⟩, hk, hy64, hyB⟩ a' W hl0 ⟨rr, hrr⟩ hI ⟨Bx, u6, u15, u16, hBx, hbx, hni, rfl⟩ hlt
    dsimp only at hbx hk hy64 hyB ⊢
    obtain ⟨⟨v, hbo, gs, a1, a2, a3, a4, a5⟩, hbel, hsz⟩ := hI
    have hnin : Bx ∉ gs := by
      obtain ⟨v', gs', n1, n2, n3⟩ := hni
      rw [hbo] at n1
      cases n1
      rw [KA_inj a2 n2]
      exact n3
    have hN : gs.length < 65536 := by have h1 := hlt; have h2 := bodies_le hr; rw [List.length_map] at a1; simp [blkList] at h1; omega
    have hcv : W.drew.cell? ⟨w1.heap.size, 0, none⟩ = some v := by have := cell_of_row _ _ 0 _ _ _ hbo; simpa using this
    have hbse := Kd.R_base a2
    have hob : ∀ q, v.ownBlock = some q → q ≠ w1.heap.size := fun q hq => by have := hbse q hq; omega
    have hown : ∀ q, some q = v.ownBlock → isC W q := fun q hq => by obtain ⟨cs, hcs⟩ := Kd.R_typed a2 q hq.symm; exact ⟨_, _, hcs⟩
    have hgs : ∀ (i : Nat) (xs : List Int), (pre.map (·.1.2))[i]? = some xs → ∃ g, gs[i]? = some g ∧ BU W g 111 xs ∧ some g ≠ v.ownBlock := fun i xs hi => by
      obtain ⟨g, hg, hb⟩ := a5 i xs hi
      exact ⟨g, hg, hb, Kd.R_ne a2 hb (by decide)⟩
    have hnb : some Bx ≠ v.ownBlock := Kd.R_ne a2 hbx (by decide)
    gi_wp2_with fail
    refine wpIn_region_plan [4] (.take 0 (.take 1 (.run 2 (.run 3 (.tail 4 .done))))) (fun w' => w'.cell? ⟨w1.heap.size, 0, none⟩ = some v) (by kernel_rfl) (by kernel_rfl) (by kernel_rfl) (by rintro ⟨_, _, h⟩; exact h) (fun c a d v w h => h) hcv ?_
    iterate 2 (apply plan_take rfl rfl; (case hy => (intro w' hS; go_simp; try exact rfl)); go_simp)
    refine plan_run_on rfl rfl (fun K hK => ?_)
    go_simp
    refine hK _ _ _ (fun _ h => h) (pw_cell_below (below_alloc (Below.refl _ _) _) hcv) ?_
    clear hK K
    refine plan_run rfl (fun K hK => ?_)
    refine Kd.R_append_step KA (w0 := W.drew) (W := W.drew) W0.heap.size rfl (.tmp 17) (.tmp 19) 45 22 (.slice none 0 0) 24 rfl Try.underlying45 info_bs rfl (by decide) (by decide) v gs Bx [.slice (some ⟨Bx, 0, none⟩) 64 64] (fun k => W0.heap.size ≤ k) (fun _ => False) rfl rfl rfl (fun q hq => hq.elim) (fun q hq => Nat.le_trans hsz hq) (Kd.R_drew a2) (Below.refl _ _) hsz (by omega) ?_
    intro v3 w3 hR3 _ hg3 _
    obtain ⟨A3, c3, rfl⟩ := Kd.R_slice hR3
    obtain ⟨v3, hv3⟩ : ∃ v3, v3 = Value.slice A3 (gs ++ [Bx]).length c3 := ⟨_, rfl⟩
    rw [← hv3] at hR3 ⊢
    generalize (gs ++ [Bx]).length = n3 at hv3
    have hblk : ∀ q, q < W.heap.size → some q ≠ v.ownBlock → w3.heap[q]? = W.heap[q]? := fun q h1 h2 => hg3.block q h1 (fun e => h2 e)
    have hbo3 := (hblk _ (blk_lt hbo) (fun e => hob _ e.symm rfl)).trans hbo
    have hcv3 : w3.cell? ⟨w1.heap.size, 0, none⟩ = some v := by have := cell_of_row _ _ 0 _ _ _ hbo3; simpa using this
    have hfz3 := frozen_of_row _ _ 0 _ _ hbo3
    have hch : Chg (fun q => some q = v.ownBlock) W w3 := (Chg.refl _ W).drew.grown hg3 (fun q e => .inl e.symm)
    have hKF : KeepsFrom W0.heap.size W (w3.setCell ⟨w1.heap.size, 0, none⟩ v3) := (KeepsFrom.of_chg hch hown).trans ((KeepsOthers.setCell _ _ _).from _)
    have hset : ∀ q, q ≠ w1.heap.size → (w3.setCell ⟨w1.heap.size, 0, none⟩ v3).heap[q]? = w3.heap[q]? := fun q hq => Below.heap_setCell _ _ _ _ hq
    have hszs : (w3.setCell ⟨w1.heap.size, 0, none⟩ v3).heap.size = w3.heap.size := by simp [World.setCell]
    have hKP : KpR (fun k => (okr k ∧ k < w.heap.size) ∨ k = w2.heap.size) W (w3.setCell ⟨w1.heap.size, 0, none⟩ v3) := ⟨fun q hq hlq => by
      have hq1 : q ≠ w1.heap.size := by rcases hq with hq | hq <;> omega
      rw [hset q hq1]
      exact hblk q hlq (fun e => by have := hbse q e.symm; rcases hq with hq | hq <;> omega), by rw [hszs]; exact hch.size⟩
    have hBI : BI w w1.heap.size W0.heap.size (pre.map (·.1.2) ++ [ys]) (w3.setCell ⟨w1.heap.size, 0, none⟩ v3) := by
      refine ⟨⟨v3, heap_setCell_same _ _ 0 _ _ _ hbo3, BlkOut.snoc a1 a3 a4 (fun i xs hi => ?_) (Kd.R_step hR3 (fun q hq _ => hset q (by omega))) hBx hnin ?_⟩, ?_, by rw [hszs]; exact Nat.le_trans hsz hch.size⟩
      · obtain ⟨g, q1, q2, q3⟩ := hgs i xs hi
        exact ⟨g, q1, q2.step ((hset g (by have := a4 g (List.mem_of_getElem? q1); omega)).trans (hblk g q2.lt q3))⟩
      · exact hbx.step ((hset Bx (by omega)).trans (hblk Bx hbx.lt hnb))
      · exact (hbel.trans (hch.below_ (B := w.heap.size) hbel.size (fun q hq => by have := hbse q hq.symm; omega))).setCell (p := ⟨w1.heap.size, 0, none⟩) (by show w.heap.size ≤ w1.heap.size; omega) _
    have HH : Hid (InvB w w1.heap.size W0.heap.size (pre ++ [⟨(k, ys), hk, hy64, hyB⟩]) (w3.setCell ⟨w1.heap.size, 0, none⟩ v3)) := hid (by unfold InvB; rw [List.map_append]; exact hBI)
    have HKF := hid hKF
    have HKP := hid hKP
    refine hK _ _ _ (fun _ h => h) hcv3 ?_
    rw [hv3] at HKF HKP HH ⊢
    clear hK K hBI hKF hKP hgs a5 a4 hbse hob hown hset hblk
    go_simp
    refine plan_tail_on rfl rfl (fun K hK => ?_)
    go_simp
    refine hK _ _ (plan_done ?_)
    clear hK K
    gi_wp2_with fail
    exact ⟨HKF.out, HKP.out, HH.out⟩
  case done =>
    rintro D1 xs W hD1 hS hI hK
    obtain ⟨⟨v, hbo, hout⟩, hbel, hsz⟩ := hI
    have hmm : xs.map (·.1.2) = (blkList r).map (·.2) := by rw [← hS, List.map_map]; rfl
    rw [hmm] at hout
    have hcv : W.cell? ⟨w1.heap.size, 0, none⟩ = some v := by have := cell_of_row _ _ 0 _ _ _ hbo; simpa using this
    have hgp := grownBy_putObj' W D1 (.deferred none)
    have hrr : ∀ q, some D1 = some q → ∃ o : Obj, W.heap[q]? = some o ∧ o.isCells = false := fun q e => by cases e; exact ⟨_, hK, rfl⟩
    have hout2 : BlkOut (W.putObj D1 (.deferred none)) w.heap.size v ((blkList r).map (·.2)) := by
      obtain ⟨⟨v', q1, q2⟩, q3, q4⟩ := BI.turn (w := w) (⟨⟨v, hbo, hout⟩, hbel, hsz⟩ : BI w w1.heap.size W0.heap.size _ W) hgp (fun q e => ⟨by cases e; omega, hrr q e⟩)
      have q5 := (turn_cells hgp hrr ⟨_, _, hbo⟩).trans hbo
      rw [q5] at q1
      cases q1
      exact q2.lower (by omega)
    have hB2 : Below w.heap.size w (W.putObj D1 (.deferred none)) := hbel.trans ⟨hgp.os, hgp.tape, hgp.output, hgp.size, fun q hq => hgp.block q (by have := hbel.size; omega) (fun e => by cases e; omega)⟩
    have HF := hid (And.intro hK (And.intro hout2 hB2))
    clear hK hout2 hB2 hout hbel hgp hrr
    gi_wp2_with fail
    refine ⟨by simp, .inl ⟨_, _, rfl, run_takeDeferred HF.out.1, ?_⟩⟩
    exact ⟨_, results_list rfl (by simp) (.tmp (.tmp .nil)), v, rfl, HF.out.2.1, HF.out.2.2⟩
  case stop => rintro D1 cd pre W hD1 _ hh; exact hh.elim
end Go.Proofs.Ytekhmkfiepnnkaa

/- foundrylaw22_same, as the kit's printer prints them (print.sh), carved by wip/tools/carve.py. -/
namespace Go.Proofs.Ytekhmkfiepnnkaa.KCarveC
open Go.RowKit Go.Proofs.YtekhmkfiepnnkaaW.PrintWords Go.Proofs.YtekhmkfiepnnkaaW.PrintLast Go.Proofs.YtekhmkfiepnnkaaW.PrintMore
attribute [local go_sem] max2_int min2_int max_two min_two max_three min_three max_four min_four   -- for this text's walks alone
set_option linter.unusedVariables false
set_option linter.unusedSimpArgs false
open Go.Proofs.Ytekhmkfiepnnkaa.KCarveA
def foundrylaw22_same.f (a0_0 : Int) (a0_1 : Int) (a0_2 : Int) (l0_3 : List Int) (a1_0 : Int) (a1_1 : Int) (a1_2 : Int) (l1_3 : List Int) : Option (Bool) := if a0_0 = a1_0 then (if a0_1 = a1_1 then (if a0_2 = a1_2 then ((foundrylaw22_sameBytes.f l0_3 l1_3).bind fun t140 => (some t140)) else (some false)) else (some false)) else (some false)
set_option maxHeartbeats 8000000 in
set_option maxRecDepth 100000 in
theorem foundrylaw22_same.calls (a0_0 : Int) (a0_1 : Int) (a0_2 : Int) (A0_3 : Option Addr) (c0_3 : Nat) (l0_3 : List Int) (a1_0 : Int) (a1_1 : Int) (a1_2 : Int) (A1_3 : Option Addr) (c1_3 : Nat) (l1_3 : List Int) (r : Bool) (w : World) (hr0_3 : Kd.C (Kd.int .u8) w A0_3 l0_3.length l0_3) (hc0_3 : l0_3.length ≤ c0_3) (hr1_3 : Kd.C (Kd.int .u8) w A1_3 l1_3.length l1_3) (hc1_3 : l1_3.length ≤ c1_3) (h : foundrylaw22_same.f a0_0 a0_1 a0_2 l0_3 a1_0 a1_1 a1_2 l1_3 = some r) :
    Calls Try.prog 30 #[.agg #[.int .u64 a0_0, .int .i64 a0_1, .int .i64 a0_2, .slice A0_3 l0_3.length c0_3], .agg #[.int .u64 a1_0, .int .i64 a1_1, .int .i64 a1_2, .slice A1_3 l1_3.length c1_3]] w fun e w' => e = .returned (.bool r) ∧ Below w.heap.size w w' := by
  have hu25 := Try.underlying25
  have HR0_3 := Aside0.mk hr0_3
  have HC0_3 := Aside0.mk hc0_3
  clear hr0_3 hc0_3
  have HR1_3 := Aside0.mk hr1_3
  have HC1_3 := Aside0.mk hc1_3
  clear hr1_3 hc1_3
  have HB := Aside0.mk (Below.refl w.heap.size w)
  have H : (if a0_0 = a1_0 then (if a0_1 = a1_1 then (if a0_2 = a1_2 then ((foundrylaw22_sameBytes.f l0_3 l1_3).bind fun t140 => (some t140)) else (some false)) else (some false)) else (some false)) = some r := h
  clear h
  by_cases c3 : a0_0 = a1_0
  · rw [if_pos c3] at H
    have c3b0 : (a0_0 == a1_0) = true := beq_iff_eq.mpr c3
    have c3b1 : (a0_0 != a1_0) = false := bne_eq_false_iff_eq.mpr c3
    clear c3
    by_cases c4 : a0_1 = a1_1
    · rw [if_pos c4] at H
      have c4b0 : (a0_1 == a1_1) = true := beq_iff_eq.mpr c4
      have c4b1 : (a0_1 != a1_1) = false := bne_eq_false_iff_eq.mpr c4
      clear c4
      by_cases c5 : a0_2 = a1_2
      · rw [if_pos c5] at H
        have c5b0 : (a0_2 == a1_2) = true := beq_iff_eq.mpr c5
        have c5b1 : (a0_2 != a1_2) = false := bne_eq_false_iff_eq.mpr c5
        clear c5
        replace H := Option.bind_eq_some_iff.mp H
        obtain ⟨t140, A60, H⟩ := H
        replace H : (some t140) = some r := H
        have A6 := Aside0.mk A60
        clear A60
        obtain rfl := Option.some.inj H
        go_enter Try.func30, Try.ntmps30
        go_wp2_with (first | ((with_reducible refine gate_dst (N := 2) rfl ?_); refine box_event ?hg (N := 2) ?hd (cs := #[.int .u64 a0_0, .int .i64 a0_1, .int .i64 a0_2, .slice A0_3 l0_3.length c0_3]) (t := 25) ?hr ?_; (case hd => rfl); (case hg => rfl); (case hr => first | (go_simp; done) | (go_simp; rfl)); intro gb138 hg w7 hbox hb; have n0_ := Aside0.mk (below_step (by repeat (first | (with_reducible first | exact HB.out | apply below_alloc | apply pw_below_drewN | apply below_drew1) | exact HB.out)) hb); have n1_ := Aside0.mk (hbox); have n2_ := Aside0.mk ((by rw [hg]; exact (below_size (by repeat (first | (with_reducible first | exact HB.out | apply below_alloc | apply pw_below_drewN | apply below_drew1) | exact HB.out))) : w.heap.size ≤ gb138)); have n3_ := Aside0.mk ((by rw [hg]; exact (below_size (by repeat (first | (with_reducible first | exact HB.out | apply below_alloc | apply pw_below_drewN | apply below_drew1) | exact HB.out))) : w.heap.size ≤ gb138)); clear HB; have HB := n0_; have BK138 := n1_; have GW138 := n2_; have GE138 := n3_; clear n0_ n1_ n2_ n3_; clear hb hbox hg) | ((with_reducible refine gate_dst (N := 3) rfl ?_); refine box_event ?hg (N := 3) ?hd (cs := #[.int .u64 a1_0, .int .i64 a1_1, .int .i64 a1_2, .slice A1_3 l1_3.length c1_3]) (t := 25) ?hr ?_; (case hd => rfl); (case hg => rfl); (case hr => first | (go_simp; done) | (go_simp; rfl)); intro gb139 hg w8 hbox hb; have n0_ := Aside0.mk (blk_below (g := gb138) (o := .cells #[.int .u64 a0_0, .int .i64 a0_1, .int .i64 a0_2, .slice A0_3 l0_3.length c0_3] 25 (0, 0)) (by (with_reducible repeat (first | refine blk_drewN ?_ _ | refine blk_drew ?_ | refine blk_alloc ?_ _)); exact BK138.out) hb); have n1_ := Aside0.mk (below_step (by repeat (first | (with_reducible first | exact HB.out | apply below_alloc | apply pw_below_drewN | apply below_drew1 | refine below_set ?_ GE138.out) | exact HB.out)) hb); have n2_ := Aside0.mk (hbox); have n3_ := Aside0.mk ((by rw [hg]; exact (below_size (by repeat (first | (with_reducible first | exact HB.out | apply below_alloc | apply pw_below_drewN | apply below_drew1 | refine below_set ?_ GE138.out) | exact HB.out))) : w.heap.size ≤ gb139)); have n4_ := Aside0.mk ((by rw [hg]; exact (below_size (by repeat (first | (with_reducible first | exact HB.out | apply below_alloc | apply pw_below_drewN | apply below_drew1 | refine below_set ?_ GE138.out) | exact HB.out))) : w.heap.size ≤ gb139)); have n5_ := Aside0.mk ((by rw [hg]; exact Nat.ne_of_lt (blk_lt (g := gb138) (o := .cells #[.int .u64 a0_0, .int .i64 a0_1, .int .i64 a0_2, .slice A0_3 l0_3.length c0_3] 25 (0, 0)) (by (with_reducible repeat (first | refine blk_drewN ?_ _ | refine blk_drew ?_ | refine blk_alloc ?_ _)); exact BK138.out)) : gb138 ≠ gb139)); have n6_ := Aside0.mk ((by rw [hg]; exact Nat.ne_of_gt (blk_lt (g := gb138) (o := .cells #[.int .u64 a0_0, .int .i64 a0_1, .int .i64 a0_2, .slice A0_3 l0_3.length c0_3] 25 (0, 0)) (by (with_reducible repeat (first | refine blk_drewN ?_ _ | refine blk_drew ?_ | refine blk_alloc ?_ _)); exact BK138.out)) : gb139 ≠ gb138)); clear BK138; clear HB; have BK138 := n0_; have HB := n1_; have BK139 := n2_; have GW139 := n3_; have GE139 := n4_; have NB138_139 := n5_; have NB139_138 := n6_; clear n0_ n1_ n2_ n3_ n4_ n5_ n6_; clear hb hbox hg; have hnb9 := NB138_139.out; have hnc9 := NB139_138.out; have hcz10_0 : w8.cell? ⟨gb138, 0, none⟩ = some (.int .u64 a0_0) := (blk_cell BK138.out 0).trans rfl; have hcz10_1 : w8.cell? ⟨gb138, 1, none⟩ = some (.int .i64 a0_1) := (blk_cell BK138.out 1).trans rfl; have hcz10_2 : w8.cell? ⟨gb138, 2, none⟩ = some (.int .i64 a0_2) := (blk_cell BK138.out 2).trans rfl; have hcz10_3 : w8.cell? ⟨gb138, 3, none⟩ = some (.slice A0_3 l0_3.length c0_3) := (blk_cell BK138.out 3).trans rfl; have hfz10_0 := blk_frozen BK138.out 0; have hfz10_1 := blk_frozen BK138.out 1; have hfz10_2 := blk_frozen BK138.out 2; have hfz10_3 := blk_frozen BK138.out 3; have hcz11_0 : w8.cell? ⟨gb139, 0, none⟩ = some (.int .u64 a1_0) := (blk_cell BK139.out 0).trans rfl; have hcz11_1 : w8.cell? ⟨gb139, 1, none⟩ = some (.int .i64 a1_1) := (blk_cell BK139.out 1).trans rfl; have hcz11_2 : w8.cell? ⟨gb139, 2, none⟩ = some (.int .i64 a1_2) := (blk_cell BK139.out 2).trans rfl; have hcz11_3 : w8.cell? ⟨gb139, 3, none⟩ = some (.slice A1_3 l1_3.length c1_3) := (blk_cell BK139.out 3).trans rfl; have hfz11_0 := blk_frozen BK139.out 0; have hfz11_1 := blk_frozen BK139.out 1; have hfz11_2 := blk_frozen BK139.out 2; have hfz11_3 := blk_frozen BK139.out 3) | (go_at_call 28; (with_reducible refine (foundrylaw22_sameBytes.calls _ _ l0_3 _ _ l1_3 t140 _ ?side1 ?side2 ?side3 ?side4 A6.out).mono ?_); (case side1 => repeat (first | exact (Kd.C_below HR0_3.out HB.out) | (with_reducible refine Kd.C_alloc ?_ _) | (with_reducible refine Kd.C_drewN ?_ _) | (with_reducible refine Kd.C_drew ?_))); (case side2 => exact HC0_3.out); (case side3 => repeat (first | exact (Kd.C_below HR1_3.out HB.out) | (with_reducible refine Kd.C_alloc ?_ _) | (with_reducible refine Kd.C_drewN ?_ _) | (with_reducible refine Kd.C_drew ?_))); (case side4 => exact HC1_3.out); rintro e w' ⟨rfl, ⟨nd, rfl⟩⟩))
        go_ret
        exact ⟨by first | rfl | (simp [errW_none, errW_some] <;> rfl) | (simp [*, errW_none, errW_some] <;> rfl), by repeat (first | (with_reducible first | exact HB.out | apply below_alloc | apply pw_below_drewN | apply below_drew1 | refine below_set ?_ GE138.out | refine below_set ?_ GE139.out) | exact HB.out)⟩
      · rw [if_neg c5] at H
        have c5b0 : (a0_2 == a1_2) = false := beq_eq_false_iff_ne.mpr c5
        have c5b1 : (a0_2 != a1_2) = true := bne_iff_ne.mpr c5
        obtain rfl := Option.some.inj H
        go_enter Try.func30, Try.ntmps30
        go_wp2_with (first | ((with_reducible refine gate_dst (N := 2) rfl ?_); refine box_event ?hg (N := 2) ?hd (cs := #[.int .u64 a0_0, .int .i64 a0_1, .int .i64 a0_2, .slice A0_3 l0_3.length c0_3]) (t := 25) ?hr ?_; (case hd => rfl); (case hg => rfl); (case hr => first | (go_simp; done) | (go_simp; rfl)); intro gb138 hg w12 hbox hb; have n0_ := Aside0.mk (below_step (by repeat (first | (with_reducible first | exact HB.out | apply below_alloc | apply pw_below_drewN | apply below_drew1) | exact HB.out)) hb); have n1_ := Aside0.mk (hbox); have n2_ := Aside0.mk ((by rw [hg]; exact (below_size (by repeat (first | (with_reducible first | exact HB.out | apply below_alloc | apply pw_below_drewN | apply below_drew1) | exact HB.out))) : w.heap.size ≤ gb138)); have n3_ := Aside0.mk ((by rw [hg]; exact (below_size (by repeat (first | (with_reducible first | exact HB.out | apply below_alloc | apply pw_below_drewN | apply below_drew1) | exact HB.out))) : w.heap.size ≤ gb138)); clear HB; have HB := n0_; have BK138 := n1_; have GW138 := n2_; have GE138 := n3_; clear n0_ n1_ n2_ n3_; clear hb hbox hg) | ((with_reducible refine gate_dst (N := 3) rfl ?_); refine box_event ?hg (N := 3) ?hd (cs := #[.int .u64 a1_0, .int .i64 a1_1, .int .i64 a1_2, .slice A1_3 l1_3.length c1_3]) (t := 25) ?hr ?_; (case hd => rfl); (case hg => rfl); (case hr => first | (go_simp; done) | (go_simp; rfl)); intro gb139 hg w13 hbox hb; have n0_ := Aside0.mk (blk_below (g := gb138) (o := .cells #[.int .u64 a0_0, .int .i64 a0_1, .int .i64 a0_2, .slice A0_3 l0_3.length c0_3] 25 (0, 0)) (by (with_reducible repeat (first | refine blk_drewN ?_ _ | refine blk_drew ?_ | refine blk_alloc ?_ _)); exact BK138.out) hb); have n1_ := Aside0.mk (below_step (by repeat (first | (with_reducible first | exact HB.out | apply below_alloc | apply pw_below_drewN | apply below_drew1 | refine below_set ?_ GE138.out) | exact HB.out)) hb); have n2_ := Aside0.mk (hbox); have n3_ := Aside0.mk ((by rw [hg]; exact (below_size (by repeat (first | (with_reducible first | exact HB.out | apply below_alloc | apply pw_below_drewN | apply below_drew1 | refine below_set ?_ GE138.out) | exact HB.out))) : w.heap.size ≤ gb139)); have n4_ := Aside0.mk ((by rw [hg]; exact (below_size (by repeat (first | (with_reducible first | exact HB.out | apply below_alloc | apply pw_below_drewN | apply below_drew1 | refine below_set ?_ GE138.out) | exact HB.out))) : w.heap.size ≤ gb139)); have n5_ := Aside0.mk ((by rw [hg]; exact Nat.ne_of_lt (blk_lt (g := gb138) (o := .cells #[.int .u64 a0_0, .int .i64 a0_1, .int .i64 a0_2, .slice A0_3 l0_3.length c0_3] 25 (0, 0)) (by (with_reducible repeat (first | refine blk_drewN ?_ _ | refine blk_drew ?_ | refine blk_alloc ?_ _)); exact BK138.out)) : gb138 ≠ gb139)); have n6_ := Aside0.mk ((by rw [hg]; exact Nat.ne_of_gt (blk_lt (g := gb138) (o := .cells #[.int .u64 a0_0, .int .i64 a0_1, .int .i64 a0_2, .slice A0_3 l0_3.length c0_3] 25 (0, 0)) (by (with_reducible repeat (first | refine blk_drewN ?_ _ | refine blk_drew ?_ | refine blk_alloc ?_ _)); exact BK138.out)) : gb139 ≠ gb138)); clear BK138; clear HB; have BK138 := n0_; have HB := n1_; have BK139 := n2_; have GW139 := n3_; have GE139 := n4_; have NB138_139 := n5_; have NB139_138 := n6_; clear n0_ n1_ n2_ n3_ n4_ n5_ n6_; clear hb hbox hg; have hnb14 := NB138_139.out; have hnc14 := NB139_138.out; have hcz15_0 : w13.cell? ⟨gb138, 0, none⟩ = some (.int .u64 a0_0) := (blk_cell BK138.out 0).trans rfl; have hcz15_1 : w13.cell? ⟨gb138, 1, none⟩ = some (.int .i64 a0_1) := (blk_cell BK138.out 1).trans rfl; have hcz15_2 : w13.cell? ⟨gb138, 2, none⟩ = some (.int .i64 a0_2) := (blk_cell BK138.out 2).trans rfl; have hcz15_3 : w13.cell? ⟨gb138, 3, none⟩ = some (.slice A0_3 l0_3.length c0_3) := (blk_cell BK138.out 3).trans rfl; have hfz15_0 := blk_frozen BK138.out 0; have hfz15_1 := blk_frozen BK138.out 1; have hfz15_2 := blk_frozen BK138.out 2; have hfz15_3 := blk_frozen BK138.out 3; have hcz16_0 : w13.cell? ⟨gb139, 0, none⟩ = some (.int .u64 a1_0) := (blk_cell BK139.out 0).trans rfl; have hcz16_1 : w13.cell? ⟨gb139, 1, none⟩ = some (.int .i64 a1_1) := (blk_cell BK139.out 1).trans rfl; have hcz16_2 : w13.cell? ⟨gb139, 2, none⟩ = some (.int .i64 a1_2) := (blk_cell BK139.out 2).trans rfl; have hcz16_3 : w13.cell? ⟨gb139, 3, none⟩ = some (.slice A1_3 l1_3.length c1_3) := (blk_cell BK139.out 3).trans rfl; have hfz16_0 := blk_frozen BK139.out 0; have hfz16_1 := blk_frozen BK139.out 1; have hfz16_2 := blk_frozen BK139.out 2; have hfz16_3 := blk_frozen BK139.out 3))
        go_ret
        exact ⟨by first | rfl | (simp [errW_none, errW_some] <;> rfl) | (simp [*, errW_none, errW_some] <;> rfl), by repeat (first | (with_reducible first | exact HB.out | apply below_alloc | apply pw_below_drewN | apply below_drew1 | refine below_set ?_ GE138.out | refine below_set ?_ GE139.out) | exact HB.out)⟩
    · rw [if_neg c4] at H
      have c4b0 : (a0_1 == a1_1) = false := beq_eq_false_iff_ne.mpr c4
      have c4b1 : (a0_1 != a1_1) = true := bne_iff_ne.mpr c4
      obtain rfl := Option.some.inj H
      go_enter Try.func30, Try.ntmps30
      go_wp2_with (first | ((with_reducible refine gate_dst (N := 2) rfl ?_); refine box_event ?hg (N := 2) ?hd (cs := #[.int .u64 a0_0, .int .i64 a0_1, .int .i64 a0_2, .slice A0_3 l0_3.length c0_3]) (t := 25) ?hr ?_; (case hd => rfl); (case hg => rfl); (case hr => first | (go_simp; done) | (go_simp; rfl)); intro gb138 hg w17 hbox hb; have n0_ := Aside0.mk (below_step (by repeat (first | (with_reducible first | exact HB.out | apply below_alloc | apply pw_below_drewN | apply below_drew1) | exact HB.out)) hb); have n1_ := Aside0.mk (hbox); have n2_ := Aside0.mk ((by rw [hg]; exact (below_size (by repeat (first | (with_reducible first | exact HB.out | apply below_alloc | apply pw_below_drewN | apply below_drew1) | exact HB.out))) : w.heap.size ≤ gb138)); have n3_ := Aside0.mk ((by rw [hg]; exact (below_size (by repeat (first | (with_reducible first | exact HB.out | apply below_alloc | apply pw_below_drewN | apply below_drew1) | exact HB.out))) : w.heap.size ≤ gb138)); clear HB; have HB := n0_; have BK138 := n1_; have GW138 := n2_; have GE138 := n3_; clear n0_ n1_ n2_ n3_; clear hb hbox hg) | ((with_reducible refine gate_dst (N := 3) rfl ?_); refine box_event ?hg (N := 3) ?hd (cs := #[.int .u64 a1_0, .int .i64 a1_1, .int .i64 a1_2, .slice A1_3 l1_3.length c1_3]) (t := 25) ?hr ?_; (case hd => rfl); (case hg => rfl); (case hr => first | (go_simp; done) | (go_simp; rfl)); intro gb139 hg w18 hbox hb; have n0_ := Aside0.mk (blk_below (g := gb138) (o := .cells #[.int .u64 a0_0, .int .i64 a0_1, .int .i64 a0_2, .slice A0_3 l0_3.length c0_3] 25 (0, 0)) (by (with_reducible repeat (first | refine blk_drewN ?_ _ | refine blk_drew ?_ | refine blk_alloc ?_ _)); exact BK138.out) hb); have n1_ := Aside0.mk (below_step (by repeat (first | (with_reducible first | exact HB.out | apply below_alloc | apply pw_below_drewN | apply below_drew1 | refine below_set ?_ GE138.out) | exact HB.out)) hb); have n2_ := Aside0.mk (hbox); have n3_ := Aside0.mk ((by rw [hg]; exact (below_size (by repeat (first | (with_reducible first | exact HB.out | apply below_alloc | apply pw_below_drewN | apply below_drew1 | refine below_set ?_ GE138.out) | exact HB.out))) : w.heap.size ≤ gb139)); have n4_ := Aside0.mk ((by rw [hg]; exact (below_size (by repeat (first | (with_reducible first | exact HB.out | apply below_alloc | apply pw_below_drewN | apply below_drew1 | refine below_set ?_ GE138.out) | exact HB.out))) : w.heap.size ≤ gb139)); have n5_ := Aside0.mk ((by rw [hg]; exact Nat.ne_of_lt (blk_lt (g := gb138) (o := .cells #[.int .u64 a0_0, .int .i64 a0_1, .int .i64 a0_2, .slice A0_3 l0_3.length c0_3] 25 (0, 0)) (by (with_reducible repeat (first | refine blk_drewN ?_ _ | refine blk_drew ?_ | refine blk_alloc ?_ _)); exact BK138.out)) : gb138 ≠ gb139)); have n6_ := Aside0.mk ((by rw [hg]; exact Nat.ne_of_gt (blk_lt (g := gb138) (o := .cells #[.int .u64 a0_0, .int .i64 a0_1, .int .i64 a0_2, .slice A0_3 l0_3.length c0_3] 25 (0, 0)) (by (with_reducible repeat (first | refine blk_drewN ?_ _ | refine blk_drew ?_ | refine blk_alloc ?_ _)); exact BK138.out)) : gb139 ≠ gb138)); clear BK138; clear HB; have BK138 := n0_; have HB := n1_; have BK139 := n2_; have GW139 := n3_; have GE139 := n4_; have NB138_139 := n5_; have NB139_138 := n6_; clear n0_ n1_ n2_ n3_ n4_ n5_ n6_; clear hb hbox hg; have hnb19 := NB138_139.out; have hnc19 := NB139_138.out; have hcz20_0 : w18.cell? ⟨gb138, 0, none⟩ = some (.int .u64 a0_0) := (blk_cell BK138.out 0).trans rfl; have hcz20_1 : w18.cell? ⟨gb138, 1, none⟩ = some (.int .i64 a0_1) := (blk_cell BK138.out 1).trans rfl; have hcz20_2 : w18.cell? ⟨gb138, 2, none⟩ = some (.int .i64 a0_2) := (blk_cell BK138.out 2).trans rfl; have hcz20_3 : w18.cell? ⟨gb138, 3, none⟩ = some (.slice A0_3 l0_3.length c0_3) := (blk_cell BK138.out 3).trans rfl; have hfz20_0 := blk_frozen BK138.out 0; have hfz20_1 := blk_frozen BK138.out 1; have hfz20_2 := blk_frozen BK138.out 2; have hfz20_3 := blk_frozen BK138.out 3; have hcz21_0 : w18.cell? ⟨gb139, 0, none⟩ = some (.int .u64 a1_0) := (blk_cell BK139.out 0).trans rfl; have hcz21_1 : w18.cell? ⟨gb139, 1, none⟩ = some (.int .i64 a1_1) := (blk_cell BK139.out 1).trans rfl; have hcz21_2 : w18.cell? ⟨gb139, 2, none⟩ = some (.int .i64 a1_2) := (blk_cell BK139.out 2).trans rfl; have hcz21_3 : w18.cell? ⟨gb139, 3, none⟩ = some (.slice A1_3 l1_3.length c1_3) := (blk_cell BK139.out 3).trans rfl; have hfz21_0 := blk_frozen BK139.out 0; have hfz21_1 := blk_frozen BK139.out 1; have hfz21_2 := blk_frozen BK139.out 2; have hfz21_3 := blk_frozen BK139.out 3))
      go_ret
      exact ⟨by first | rfl | (simp [errW_none, errW_some] <;> rfl) | (simp [*, errW_none, errW_some] <;> rfl), by repeat (first | (with_reducible first | exact HB.out | apply below_alloc | apply pw_below_drewN | apply below_drew1 | refine below_set ?_ GE138.out | refine below_set ?_ GE139.out) | exact HB.out)⟩
  · rw [if_neg c3] at H
    have c3b0 : (a0_0 == a1_0) = false := beq_eq_false_iff_ne.mpr c3
    have c3b1 : (a0_0 != a1_0) = true := bne_iff_ne.mpr c3
    obtain rfl := Option.some.inj H
    go_enter Try.func30, Try.ntmps30
    go_wp2_with (first | ((with_reducible refine gate_dst (N := 2) rfl ?_); refine box_event ?hg (N := 2) ?hd (cs := #[.int .u64 a0_0, .int .i64 a0_1, .int .i64 a0_2, .slice A0_3 l0_3.length c0_3]) (t := 25) ?hr ?_; (case hd => rfl); (case hg => rfl); (case hr => first | (go_simp; done) | (go_simp; rfl)); intro gb138 hg w22 hbox hb; have n0_ := Aside0.mk (below_step (by repeat (first | (with_reducible first | exact HB.out | apply below_alloc | apply pw_below_drewN | apply below_drew1) | exact HB.out)) hb); have n1_ := Aside0.mk (hbox); have n2_ := Aside0.mk ((by rw [hg]; exact (below_size (by repeat (first | (with_reducible first | exact HB.out | apply below_alloc | apply pw_below_drewN | apply below_drew1) | exact HB.out))) : w.heap.size ≤ gb138)); have n3_ := Aside0.mk ((by rw [hg]; exact (below_size (by repeat (first | (with_reducible first | exact HB.out | apply below_alloc | apply pw_below_drewN | apply below_drew1) | exact HB.out))) : w.heap.size ≤ gb138)); clear HB; have HB := n0_; have BK138 := n1_; have GW138 := n2_; have GE138 := n3_; clear n0_ n1_ n2_ n3_; clear hb hbox hg) | ((with_reducible refine gate_dst (N := 3) rfl ?_); refine box_event ?hg (N := 3) ?hd (cs := #[.int .u64 a1_0, .int .i64 a1_1, .int .i64 a1_2, .slice A1_3 l1_3.length c1_3]) (t := 25) ?hr ?_; (case hd => rfl); (case hg => rfl); (case hr => first | (go_simp; done) | (go_simp; rfl)); intro gb139 hg w23 hbox hb; have n0_ := Aside0.mk (blk_below (g := gb138) (o := .cells #[.int .u64 a0_0, .int .i64 a0_1, .int .i64 a0_2, .slice A0_3 l0_3.length c0_3] 25 (0, 0)) (by (with_reducible repeat (first | refine blk_drewN ?_ _ | refine blk_drew ?_ | refine blk_alloc ?_ _)); exact BK138.out) hb); have n1_ := Aside0.mk (below_step (by repeat (first | (with_reducible first | exact HB.out | apply below_alloc | apply pw_below_drewN | apply below_drew1 | refine below_set ?_ GE138.out) | exact HB.out)) hb); have n2_ := Aside0.mk (hbox); have n3_ := Aside0.mk ((by rw [hg]; exact (below_size (by repeat (first | (with_reducible first | exact HB.out | apply below_alloc | apply pw_below_drewN | apply below_drew1 | refine below_set ?_ GE138.out) | exact HB.out))) : w.heap.size ≤ gb139)); have n4_ := Aside0.mk ((by rw [hg]; exact (below_size (by repeat (first | (with_reducible first | exact HB.out | apply below_alloc | apply pw_below_drewN | apply below_drew1 | refine below_set ?_ GE138.out) | exact HB.out))) : w.heap.size ≤ gb139)); have n5_ := Aside0.mk ((by rw [hg]; exact Nat.ne_of_lt (blk_lt (g := gb138) (o := .cells #[.int .u64 a0_0, .int .i64 a0_1, .int .i64 a0_2, .slice A0_3 l0_3.length c0_3] 25 (0, 0)) (by (with_reducible repeat (first | refine blk_drewN ?_ _ | refine blk_drew ?_ | refine blk_alloc ?_ _)); exact BK138.out)) : gb138 ≠ gb139)); have n6_ := Aside0.mk ((by rw [hg]; exact Nat.ne_of_gt (blk_lt (g := gb138) (o := .cells #[.int .u64 a0_0, .int .i64 a0_1, .int .i64 a0_2, .slice A0_3 l0_3.length c0_3] 25 (0, 0)) (by (with_reducible repeat (first | refine blk_drewN ?_ _ | refine blk_drew ?_ | refine blk_alloc ?_ _)); exact BK138.out)) : gb139 ≠ gb138)); clear BK138; clear HB; have BK138 := n0_; have HB := n1_; have BK139 := n2_; have GW139 := n3_; have GE139 := n4_; have NB138_139 := n5_; have NB139_138 := n6_; clear n0_ n1_ n2_ n3_ n4_ n5_ n6_; clear hb hbox hg; have hnb24 := NB138_139.out; have hnc24 := NB139_138.out; have hcz25_0 : w23.cell? ⟨gb138, 0, none⟩ = some (.int .u64 a0_0) := (blk_cell BK138.out 0).trans rfl; have hcz25_1 : w23.cell? ⟨gb138, 1, none⟩ = some (.int .i64 a0_1) := (blk_cell BK138.out 1).trans rfl; have hcz25_2 : w23.cell? ⟨gb138, 2, none⟩ = some (.int .i64 a0_2) := (blk_cell BK138.out 2).trans rfl; have hcz25_3 : w23.cell? ⟨gb138, 3, none⟩ = some (.slice A0_3 l0_3.length c0_3) := (blk_cell BK138.out 3).trans rfl; have hfz25_0 := blk_frozen BK138.out 0; have hfz25_1 := blk_frozen BK138.out 1; have hfz25_2 := blk_frozen BK138.out 2; have hfz25_3 := blk_frozen BK138.out 3; have hcz26_0 : w23.cell? ⟨gb139, 0, none⟩ = some (.int .u64 a1_0) := (blk_cell BK139.out 0).trans rfl; have hcz26_1 : w23.cell? ⟨gb139, 1, none⟩ = some (.int .i64 a1_1) := (blk_cell BK139.out 1).trans rfl; have hcz26_2 : w23.cell? ⟨gb139, 2, none⟩ = some (.int .i64 a1_2) := (blk_cell BK139.out 2).trans rfl; have hcz26_3 : w23.cell? ⟨gb139, 3, none⟩ = some (.slice A1_3 l1_3.length c1_3) := (blk_cell BK139.out 3).trans rfl; have hfz26_0 := blk_frozen BK139.out 0; have hfz26_1 := blk_frozen BK139.out 1; have hfz26_2 := blk_frozen BK139.out 2; have hfz26_3 := blk_frozen BK139.out 3))
    go_ret
    exact ⟨by first | rfl | (simp [errW_none, errW_some] <;> rfl) | (simp [*, errW_none, errW_some] <;> rfl), by repeat (first | (with_reducible first | exact HB.out | apply below_alloc | apply pw_below_drewN | apply below_drew1 | refine below_set ?_ GE138.out | refine below_set ?_ GE139.out) | exact HB.out)⟩

-- NOT PRINTED: function 6 (foundrylaw22_SealBack)


end Go.Proofs.Ytekhmkfiepnnkaa.KCarveC

/- Package foundrylaw22: what SealBack, SealOthers, SealCut lean on. -/
set_option linter.unusedVariables false
set_option linter.unusedSimpArgs false
namespace Go.Proofs.Ytekhmkfiepnnkaa
open Go.RowKit Go.Proofs.YtekhmkfiepnnkaaW.PrintWords Go.Proofs.YtekhmkfiepnnkaaW.PrintMore

theorem RB_of_C {w : World} {A : Option Addr} {b : List Int} (h : KB.C w A b.length b) : RB w (lt_ w) A b := fun W' hW => by
  have h2 := C_int h
  refine Kd.C_of_reads (enc := Value.int .u8) (d := (0 : Int)) (h1 := fun _ => rfl) ⟨rfl, h2.2.1, fun hp => ?_⟩
  obtain ⟨ad, he, hc⟩ := h2.2.2 hp
  refine ⟨ad, he, fun j hj => ?_⟩
  have h3 := hc j hj
  have hb := World.block_lt_of_cell? w _ h3
  have := hW _ hb hb
  rw [← h3]
  simp only [World.cell?, this]
theorem same_true {w : World} {A A' : Option Addr} {c c' : Nat} (r : SR) (h : KB.C w A r.bytes.length r.bytes) (hc : r.bytes.length ≤ c) (h' : KB.C w A' r.bytes.length r.bytes) (hc' : r.bytes.length ≤ c') :
  Calls Try.prog 30 #[recV r A c, recV r A' c'] w fun e w' => e = .returned (.bool true) ∧ Below w.heap.size w w' :=
  KCarveC.foundrylaw22_same.calls r.gen r.at_ r.kind A c r.bytes r.gen r.at_ r.kind A' c' r.bytes true w h hc h' hc' (by
    unfold KCarveC.foundrylaw22_same.f KCarveA.foundrylaw22_sameBytes.f
    simp)
theorem sealW_cases {D : DM} (ho : On64 D) {r : SR} (hr : r.right) (base : Int) :
    ((base < 0 ∨ 64 < base ∨ 64 - base < r.at_ + ((bodies r : Int) + 1)) ∧ D.sealW base r = (D, 60)) ∨
    (∃ bs b : Nat, base = bs ∧ base + r.at_ = (b : Int) ∧ b + bodies r < 64 ∧ (D.sealW base r).2 = 0 ∧ Sealed D (D.sealW base r).1 b (bodies r + 1) r) := by
  have he : sealE r = 0 := by
    have h1 := hr.g; have h2 := hr.a; have h3 := hr.k; have h4 := hr.l
    unfold sealE
    rw [if_neg (by omega), if_neg (by omega)]
  have hnd := need_bodies hr.l
  have hn := ho.n
  have h1 := hr.a
  by_cases hx : base < 0 ∨ (D.n : Int) < base ∨ (D.n : Int) - base < r.at_ + need r.bytes.length
  · refine .inl ⟨by rw [hnd] at hx; omega, ?_⟩
    unfold DM.sealW
    rw [if_neg (by simp [he]), if_pos hx]
  · have hbb : base + r.at_ = (((base + r.at_).toNat : Nat) : Int) := by omega
    obtain ⟨e1, e2⟩ := sealW_right ho.wf ho.gone hr hbb (by omega) (by omega) (by omega)
    have hd : done_ D.left (bodies r + 1) = bodies r + 1 := by unfold done_; rw [if_pos (by rw [ho.left]; omega)]
    rw [hd] at e1 e2
    rw [if_neg (by omega)] at e1
    exact .inr ⟨base.toNat, (base + r.at_).toNat, by omega, hbb, by omega, e1, e2⟩
theorem sealW_err {D : DM} {r : SR} (base : Int) (he : ¬ sealE r = 0) : D.sealW base r = (D, sealE r) := by unfold DM.sealW; rw [if_pos he]
theorem blkList_len (r : SR) : ((blkList r).map (·.2)).length = bodies r + 1 := by simp [blkList]
theorem blkList_0 (r : SR) : ((blkList r).map (·.2))[0]? = some (headB r) := rfl
theorem blkList_succ (r : SR) {i : Nat} (hi : i < bodies r) : ((blkList r).map (·.2))[i + 1]? = some (bodyB r (i + 1)) := by simp [blkList, hi]
/-- One of the blocks that are handed out. -/
theorem BlkOut.get {W : World} {B : Nat} {v : Value} {l : List (List Int)} (h : BlkOut W B v l) {i : Nat} {xs : List Int} (hi : l[i]? = some xs) :
    ∃ g0 c g, v = .slice (some ⟨g0, 0, none⟩) l.length c ∧ W.cell? ⟨g0, i, none⟩ = some (.slice (some ⟨g, 0, none⟩) 64 64) ∧ BU W g 111 xs ∧ B ≤ g ∧ B ≤ g0 := by
  obtain ⟨gs, a1, a2, a3, a4, a5⟩ := h
  obtain ⟨g, hg, hb⟩ := a5 i xs hi
  have hil := (List.getElem?_eq_some_iff.1 hi).1
  obtain ⟨A, c, rfl⟩ := Kd.R_slice a2
  obtain ⟨ad, rfl⟩ : ∃ ad, A = some ad := by
    cases A with
    | none => have := C_none (Kd.R_reads' a2).2.2; rw [this] at a1; simp at a1; omega
    | some a => exact ⟨a, rfl⟩
  obtain ⟨g0, rfl⟩ := Kd.R_head a2
  have hc := (Kd.R_cell 0 a2 (i : Int) (by omega) (by omega)).1
  refine ⟨g0, c, g, by rw [a1], ?_, hb, a4 g (List.mem_of_getElem? hg), Kd.R_base a2 g0 rfl⟩
  have e : rdOf 0 gs (i : Int) = g := by simp [rdOf, List.getD_eq_getElem?_getD, hg]
  rw [e] at hc
  simpa using hc
theorem BlkOut.slice {W : World} {B : Nat} {v : Value} {l : List (List Int)} (h : BlkOut W B v l) : ∃ A c, v = .slice A l.length c := by
  obtain ⟨gs, a1, a2, _⟩ := h
  obtain ⟨A, c, rfl⟩ := Kd.R_slice a2
  exact ⟨A, c, by rw [a1]⟩
end Go.Proofs.Ytekhmkfiepnnkaa
