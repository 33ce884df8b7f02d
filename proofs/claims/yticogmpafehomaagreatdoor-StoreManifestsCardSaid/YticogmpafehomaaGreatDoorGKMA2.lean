/- Texts of one seat, laid together. -/
import Derived.Laws.Tables
import Derived.RangeFuncNested
import Derived.OpenShut
import Derived.Maps.OwnIn
import Derived.Maps.OwnSet
import Derived.Maps.Ext
import Derived.Maps.Range
import Derived.Sort.KeysCollected
import Derived.Shelf.Small.Bits
import Derived.Shelf.Strconv.Itoa0
import Derived.Shelf.Sort.Plain
import Derived.Ground.Names2Prog
import Derived.Shelf.Slices.Clone
import Derived.Shelf.Slices.CompactS
import Derived.Shelf.Slices.Cells
import Derived.Shelf.Slices.In.SortNone
import Derived.Ground.SlgnProg
import Derived.Shelf.SlicesE.Clone
import Derived.Test.YticogmpafehomaaGreatDoorProg
import Derived.Sort.OwnSorted
import Derived.WalkKit
import Derived.WalkSpells
import Derived.WalkLawsBesides
import Derived.Shelf.SlIter.Nil
import Derived.Shelf.SortM.Plain
import Derived.Shelf.SortM.SortNone
import Derived.Ground.GgzProg
import Derived.Ground.SlgmProg
import Derived.Test.YticogmpafehomaaGreatDoorGKMA1

set_option linter.unusedVariables false
set_option linter.unusedSimpArgs false
namespace Go.Proofs.YticogmpafehomaaGreatDoor
open Go.RowKit Go.Shelf Go.Proofs.YticogmpafehomaaGreatDoorW.PrintWords Go.Proofs.YticogmpafehomaaGreatDoorW.PrintMore
attribute [local go_sem] Oper.semAt_some

theorem wpIn_nrm {F : Fence} {n : Nat} {P : Program} {c : Code} {Q : Exit → Act → World → Prop} {a : Act} {w : World} (h : c.wpIn F n P (fun e a w => e = .normal ∧ Q e a w) a w) : c.wpIn F n P Q a w := wpIn_mono h (fun _ _ _ h => h.2)
theorem info_sblock : (Tryz.prog.info? 246).map (·.size) = some 64 := by kernel_rfl
theorem storeCells64s {xs : List Int} (hl : xs.length = 64) : ∀ (W : World) (Z : Array Value), Z.size = 64 → (storeCells ⟨W.heap.size, 0, none⟩ (nums .u8 xs)).run Tryz.prog (W.alloc (.cells Z 246)) = .ok () (W.alloc (.cells (nums .u8 xs).toArray 246)) := by
  intro W Z hZ
  have := run_storeCells_new (P := Tryz.prog) W 246 Z (nums .u8 xs).toArray (by simp only [List.size_toArray, nums_length, hl]; exact info_sblock) (by simp [nums_length, hl, hZ]) (nums_one _ _)
  simpa using this
theorem wpListIn_store_round {P : Program} {l n : Nat} {ops : Array Oper} {rest : List Oper} {o : Oper} {a : Act} {w : World} {Q : Exit → Act → World → Prop} (hgd : o.guard = none) (ty : TypeId) (x y : Operand) (ho : o.op = .store ty x y)
    (g : Nat) (cells : Array Value) (hx : a.eval x = .pointer (some ⟨g, 0, none⟩)) (hy : a.eval y = .agg cells)
    (t : TypeId) (old : Array Value) (hg : w.heap[g]? = some (.cells old t (0, 0))) (hi : (P.info? ty).map (·.size) = some cells.size)
    (hold : old.size = cells.size) (h1 : cells.all (·.oneCell') = true)
    (h : wpListIn (Fence.wide.inRound l) n P ops Q rest (a.put o.dst undef) (w.setRow g cells)) : wpListIn (Fence.wide.inRound l) n P ops Q (o :: rest) a w :=
  wpListIn_plain hgd fun _ hK => operIn_of_wp (fun c hc => by rw [ho] at hc; cases hc) (wp_store_row ty x y ho g cells hx hy t old hg hi hold h1 (hK _ _ h))
theorem BU.row {w : World} {g : Nat} {T : TypeId} {ys : List Int} (h : BU w g T ys) (hl : ys.length ≤ 9223372036854775807) : RB w (fun k => k = g) (some ⟨g, 0, none⟩) ys := by
  intro W' hW
  have h2 : BU W' g T ys := h.step (hW g rfl h.lt)
  refine Kd.C_of_reads (enc := Value.int .u8) (d := (0 : Int)) (h1 := fun _ => rfl) ⟨rfl, hl, fun _ => ⟨_, rfl, fun j hj => ?_⟩⟩
  rw [add_plain, h2.cell hj]
  simp [List.getD_eq_getElem?_getD, hj]
theorem runs_ws (b0 : Int) : ∀ (l : List (Nat × List Int)) (D : DM) (h : List Int), (runs b0 D h l).1.ws.length ≤ D.ws.length + l.length
  | [], D, h => by simp [runs]
  | x :: l, D, h => by
    have hw : (D.writeD (b0 + x.1) x.2).ws.length ≤ D.ws.length + 1 := by
      unfold DM.writeD
      split
      · omega
      · split
        · omega
        · split
          · simp
          · simp
    simp only [runs, List.length_cons]
    split
    · have := runs_ws b0 l D x.2; omega
    · split
      · have := runs_ws b0 l (D.writeD (b0 + x.1) x.2) h; omega
      · dsimp only; omega
/-- How it stands between the rounds. -/
structure SI (n hb B : Nat) (okx okd : Nat → Prop) (w : World) (p : Nat) (base : Int) (r : SR) (A : Option Addr) (c : Nat) (q : DM × List Int × Int) (W : World) : Prop where
  in4 : In4 W n (some ⟨p, 0, none⟩) base r A c q.2.2
  hd : BU W hb 246 q.2.1
  l64 : q.2.1.length = 64
  disk : PDisk W okx p q.1
  chg : Chg okd w W
  sz : B ≤ W.heap.size
theorem SI.turn {n hb B : Nat} {okx okd : Nat → Prop} {w : World} {p : Nat} {base : Int} {r : SR} {A : Option Addr} {c : Nat} {q : DM × List Int × Int} {W W' : World} (h : SI n hb B okx okd w p base r A c q W) {row : Option Nat} (hg : W.grownBy W' row)
    (hr : ∀ r, row = some r → w.heap.size ≤ r ∧ ∃ o : Obj, W.heap[r]? = some o ∧ o.isCells = false) : SI n hb B okx okd w p base r A c q W' := by
  have ht : ∀ k, isC W k → W'.heap[k]? = W.heap[k]? := fun k hk => turn_cells hg (fun r e => (hr r e).2) hk
  exact ⟨⟨(ht _ ⟨_, _, h.in4.b0⟩).trans h.in4.b0, (ht _ ⟨_, _, h.in4.b1⟩).trans h.in4.b1, (ht _ ⟨_, _, h.in4.b2⟩).trans h.in4.b2, (ht _ ⟨_, _, h.in4.b3⟩).trans h.in4.b3⟩, h.hd.step (ht _ ⟨_, _, h.hd⟩), h.l64, h.disk.turn hg (fun r e => (hr r e).2),
    h.chg.grown hg (fun k e => .inr (hr k e).1), Nat.le_trans h.sz hg.size⟩
theorem SI.alloc {n hb B : Nat} {okx okd : Nat → Prop} {w : World} {p : Nat} {base : Int} {r : SR} {A : Option Addr} {c : Nat} {q : DM × List Int × Int} {W : World} (h : SI n hb B okx okd w p base r A c q W) (o : Obj) : SI n hb B okx okd w p base r A c q (W.alloc o) :=
  h.turn (World.grownBy_alloc W o none) (fun r e => by cases e)
/-- Between two rounds; behind the last one. -/
def InvS (w : World) (hb B : Nat) (okd : Nat → Prop) (p : Nat) (base : Int) (r : SR) (A : Option Addr) (c : Nat) (D : DM) (pre : List YB) (W : World) : Prop :=
  (runs (base + r.at_) D (fill []) (pre.map (·.1))).2.2 = 0 ∧ SI w.heap.size hb B (fun k => (okd k ∧ k < w.heap.size) ∨ B ≤ k) okd w p base r A c (runs (base + r.at_) D (fill []) (pre.map (·.1))) W
def InvX (w : World) (hb B : Nat) (okd : Nat → Prop) (p : Nat) (base : Int) (r : SR) (A : Option Addr) (c : Nat) (D : DM) (cd : Code) (pre : List YB) (W : World) : Prop :=
  cd = .ret ∧ (runs (base + r.at_) D (fill []) (pre.map (·.1))).2.2 ≠ 0 ∧ SI w.heap.size hb B (fun k => (okd k ∧ k < w.heap.size) ∨ B ≤ k) okd w p base r A c (runs (base + r.at_) D (fill []) (pre.map (·.1))) W
theorem Chg.setRow1 {W : World} {g : Nat} (cs : Array Value) : Chg (fun k => k = g) W (W.setRow g cs) := (Chg.refl (fun k => k = g) W).setRow (.inl rfl) cs
set_option maxRecDepth 100000 in
set_option maxHeartbeats 4000000 in
theorem seal_go {w : World} {okd okr : Nat → Prop} {D : DM} {A : Option Addr} {c : Nat} (p : Nat) (base : Int) (r : SR) (h : PDisk w okd p D) (hF : RB w okr A r.bytes) (hne : apart okr okd) (hl : r.bytes.length ≤ c) (hr : r.right)
    (hb9 : -9223372036854775808 ≤ base ∧ base ≤ 9223372036854775807) (he : sealE r = 0) (ho : outB D base r = false) (hm : (D.ws.length + 65537) * 32 ≤ 140737488355328) :
  Calls Tryz.prog 146 #[.pointer (some ⟨p, 0, none⟩), .int .i64 base, recV r A c] w fun e w' => e = .returned (.int .i64 (puts (base + r.at_) D (order r)).2) ∧ PDisk w' (orNew okd w) p (puts (base + r.at_) D (order r)).1 ∧ Chg okd w w' := by
  obtain ⟨QD, QE, hQQ⟩ : ∃ QD QE, puts (base + r.at_) D (order r) = (QD, QE) := ⟨_, _, rfl⟩
  have HQ := hid hQQ
  rw [hQQ]
  clear hQQ
  dsimp only
  have hlb := hr.l
  have hat := hr.a
  have hc := right_any (w := W4 w (some ⟨p, 0, none⟩) base r A c 0) (A := A) (c := c) r (by omega)
  have hnb : 1 ≤ need (r.bytes.length : Int) ∧ need (r.bytes.length : Int) ≤ 65536 := by unfold need; rw [if_neg (by omega)]; split <;> omega
  rw [he] at hc
  have hn := h.1.hi
  have HO := hid ho
  have h1 : ¬ base < 0 ∧ ¬ (D.n : Int) < base ∧ ¬ (D.n : Int) - base < r.at_ + need (r.bytes.length : Int) := by
    unfold outB at ho
    simp only [Bool.or_eq_false_iff, decide_eq_false_iff_not] at ho
    exact ⟨ho.1.1, ho.1.2, ho.2⟩
  obtain ⟨h1, h2, h3⟩ := h1
  have h1' : 0 ≤ base := by omega
  have hw1 : IntKind.i64.wrap (r.at_ + need (r.bytes.length : Int)) = r.at_ + need (r.bytes.length : Int) := by rw [IntKind.wrap_i64]; omega
  have hw2 : IntKind.i64.wrap ((D.n : Int) - base) = (D.n : Int) - base := by rw [IntKind.wrap_i64]; omega
  unfold recV at hc ⊢
  refine (callsIn_wide (n := 2)).1 (callsIn_of_wp_marks Tryz.func146 rfl trivial ?_ rfl)
  simp only [Tryz.ntmps146, List.size_toArray, List.length_cons, List.length_nil, Nat.reduceAdd, Nat.reduceSub, Array.replicate_succ, Array.replicate_zero, List.push_toArray, List.append_toArray, List.nil_append, List.cons_append]
  gi_wp2_with fail
  refine ⟨trivial, callsIn_wide.2 (hc.mono ?_)⟩
  rintro e w1 ⟨rfl, hB⟩
  have hI : In4 w1 w.heap.size (some ⟨p, 0, none⟩) base r A c 0 := (W4_in w _ base r A c 0).step (fun k h1 h2 => hB.block k (by simp; omega))
  have hD1 : PDisk w1 okd p D := h.step (fun k _ hk => (hB.block k (by simp; omega)).trans ((W4_below w _ base r A c 0).block k hk))
  have s00 := hI.s3.1
  have s01 := hI.s3.2
  gi_wp2_with fail
  refine wpIn_nrm (wpIn_wide.2 (wp_region_plan [] (.take 0 (.take 1 (.take 2 (.take 3 (.take 4 (.run 5 (.take 6 (.take 7 (.take 8 (.take 9 (.take 10 (.take 11 (.take 12 (.take 13 (.take 16 (.take 18 (.run 14 (.take 15 (.run 17 (.take 19 (.take 20 (.take 21 .done)))))))))))))))))))))) (In4.S w.heap.size (some ⟨p, 0, none⟩) base r A c) (by kernel_rfl) (by kernel_rfl) (fun c a d v w h => absurd h.1 (by simp)) hI.s ?_))
  have hS := hI.s
  have hfin := (W4_below w (some ⟨p, 0, none⟩) base r A c 0).trans (hB.mono (by simp; omega))
  have hSd : In4.S w.heap.size (some ⟨p, 0, none⟩) base r A c w1.drew := hS
  have hDd : PDisk w1.drew okd p D := hD1.step (fun _ _ _ => rfl)
  have n1 : ¬ base < 0 := by omega
  have n2 : ¬ (D.n : Int) < base := by omega
  have n3 : ¬ (D.n : Int) - base < r.at_ + need (r.bytes.length : Int) := by omega
  iterate 5 (apply plan_take rfl rfl; (case hy => (intro w' hS; obtain ⟨s0, s1, s2, s3⟩ := hS; go_simp; try exact rfl)); go_simp)
  refine plan_run_on rfl rfl (fun K hK => ?_)
  go_simp
  refine (blocks_any hDd).mono ?_
  rintro e w2 ⟨rfl, rfl⟩
  refine hK _ _ _ (fun _ h => h) hSd ?_
  clear hK K
  go_simp
  iterate 10 (apply plan_take rfl rfl; (case hy => (intro w' hS; obtain ⟨s0, s1, s2, s3⟩ := hS; go_simp; try exact rfl)); go_simp)
  refine plan_run_on rfl rfl (fun K hK => ?_)
  go_simp
  refine (need_any (r.bytes.length : Int) (by omega)).mono ?_
  rintro e w2 ⟨rfl, rfl⟩
  refine hK _ _ _ (fun _ h => h) hSd ?_
  clear hK K
  go_simp
  (apply plan_take rfl rfl; (case hy => (intro w' hS; obtain ⟨s0, s1, s2, s3⟩ := hS; go_simp; try exact rfl)); go_simp)
  refine plan_run_on rfl rfl (fun K hK => ?_)
  go_simp
  refine (blocks_any hDd).mono ?_
  rintro e w2 ⟨rfl, rfl⟩
  refine hK _ _ _ (fun _ h => h) hSd ?_
  clear hK K
  go_simp
  iterate 3 (apply plan_take rfl rfl; (case hy => (intro w' hS; obtain ⟨s0, s1, s2, s3⟩ := hS; go_simp; try exact rfl)); go_simp)
  refine plan_done ⟨rfl, ?_⟩
  have hId : In4 w1.drew w.heap.size (some ⟨p, 0, none⟩) base r A c 0 := hI.step (fun _ _ _ => rfl)
  have hfd := hfin.drew
  clear hB hc hI hD1 hS hfin hSd
  generalize w1.drew = w2 at hId hDd hfd ⊢
  have hIh : In4 (w2.alloc (.cells #[.int .u8 0, .int .u8 0, .int .u8 0, .int .u8 0, .int .u8 0, .int .u8 0, .int .u8 0, .int .u8 0, .int .u8 0, .int .u8 0, .int .u8 0, .int .u8 0, .int .u8 0, .int .u8 0, .int .u8 0, .int .u8 0, .int .u8 0, .int .u8 0, .int .u8 0, .int .u8 0, .int .u8 0, .int .u8 0, .int .u8 0, .int .u8 0, .int .u8 0, .int .u8 0, .int .u8 0, .int .u8 0, .int .u8 0, .int .u8 0, .int .u8 0, .int .u8 0, .int .u8 0, .int .u8 0, .int .u8 0, .int .u8 0, .int .u8 0, .int .u8 0, .int .u8 0, .int .u8 0, .int .u8 0, .int .u8 0, .int .u8 0, .int .u8 0, .int .u8 0, .int .u8 0, .int .u8 0, .int .u8 0, .int .u8 0, .int .u8 0, .int .u8 0, .int .u8 0, .int .u8 0, .int .u8 0, .int .u8 0, .int .u8 0, .int .u8 0, .int .u8 0, .int .u8 0, .int .u8 0, .int .u8 0, .int .u8 0, .int .u8 0, .int .u8 0] 246)) w.heap.size (some ⟨p, 0, none⟩) base r A c 0 := hId.step (fun k _ h2 => Below.heap_alloc _ _ _ (by have := blk_lt hId.b3; omega))
  have g0 : BU (w2.alloc (.cells #[.int .u8 0, .int .u8 0, .int .u8 0, .int .u8 0, .int .u8 0, .int .u8 0, .int .u8 0, .int .u8 0, .int .u8 0, .int .u8 0, .int .u8 0, .int .u8 0, .int .u8 0, .int .u8 0, .int .u8 0, .int .u8 0, .int .u8 0, .int .u8 0, .int .u8 0, .int .u8 0, .int .u8 0, .int .u8 0, .int .u8 0, .int .u8 0, .int .u8 0, .int .u8 0, .int .u8 0, .int .u8 0, .int .u8 0, .int .u8 0, .int .u8 0, .int .u8 0, .int .u8 0, .int .u8 0, .int .u8 0, .int .u8 0, .int .u8 0, .int .u8 0, .int .u8 0, .int .u8 0, .int .u8 0, .int .u8 0, .int .u8 0, .int .u8 0, .int .u8 0, .int .u8 0, .int .u8 0, .int .u8 0, .int .u8 0, .int .u8 0, .int .u8 0, .int .u8 0, .int .u8 0, .int .u8 0, .int .u8 0, .int .u8 0, .int .u8 0, .int .u8 0, .int .u8 0, .int .u8 0, .int .u8 0, .int .u8 0, .int .u8 0, .int .u8 0] 246)) w2.heap.size 246 (fill []) := heap_alloc_new w2 _
  have b0 : Below w2.heap.size w2 (w2.alloc (.cells #[.int .u8 0, .int .u8 0, .int .u8 0, .int .u8 0, .int .u8 0, .int .u8 0, .int .u8 0, .int .u8 0, .int .u8 0, .int .u8 0, .int .u8 0, .int .u8 0, .int .u8 0, .int .u8 0, .int .u8 0, .int .u8 0, .int .u8 0, .int .u8 0, .int .u8 0, .int .u8 0, .int .u8 0, .int .u8 0, .int .u8 0, .int .u8 0, .int .u8 0, .int .u8 0, .int .u8 0, .int .u8 0, .int .u8 0, .int .u8 0, .int .u8 0, .int .u8 0, .int .u8 0, .int .u8 0, .int .u8 0, .int .u8 0, .int .u8 0, .int .u8 0, .int .u8 0, .int .u8 0, .int .u8 0, .int .u8 0, .int .u8 0, .int .u8 0, .int .u8 0, .int .u8 0, .int .u8 0, .int .u8 0, .int .u8 0, .int .u8 0, .int .u8 0, .int .u8 0, .int .u8 0, .int .u8 0, .int .u8 0, .int .u8 0, .int .u8 0, .int .u8 0, .int .u8 0, .int .u8 0, .int .u8 0, .int .u8 0, .int .u8 0, .int .u8 0] 246)) := below_alloc (Below.refl _ _) _
  have hs3 : (w2.alloc (.cells #[.int .u8 0, .int .u8 0, .int .u8 0, .int .u8 0, .int .u8 0, .int .u8 0, .int .u8 0, .int .u8 0, .int .u8 0, .int .u8 0, .int .u8 0, .int .u8 0, .int .u8 0, .int .u8 0, .int .u8 0, .int .u8 0, .int .u8 0, .int .u8 0, .int .u8 0, .int .u8 0, .int .u8 0, .int .u8 0, .int .u8 0, .int .u8 0, .int .u8 0, .int .u8 0, .int .u8 0, .int .u8 0, .int .u8 0, .int .u8 0, .int .u8 0, .int .u8 0, .int .u8 0, .int .u8 0, .int .u8 0, .int .u8 0, .int .u8 0, .int .u8 0, .int .u8 0, .int .u8 0, .int .u8 0, .int .u8 0, .int .u8 0, .int .u8 0, .int .u8 0, .int .u8 0, .int .u8 0, .int .u8 0, .int .u8 0, .int .u8 0, .int .u8 0, .int .u8 0, .int .u8 0, .int .u8 0, .int .u8 0, .int .u8 0, .int .u8 0, .int .u8 0, .int .u8 0, .int .u8 0, .int .u8 0, .int .u8 0, .int .u8 0, .int .u8 0] 246)).heap.size = w2.heap.size + 1 := World.size_alloc _ _
  have hld := rec_cells hIh
  gi_wp2_with (refine wpListIn_load_addr rfl rfl 117 (.tmp 5) rfl ⟨w.heap.size + 1 + 1, 0, none⟩ rfl _ _ hld Tryz.underlying117 rfl (by kernel_rfl) ?_)
  refine ⟨trivial, callsIn_wide.2 ((seq_any r).mono ?_)⟩
  rintro e W0 ⟨rfl, hW0⟩
  generalize w2.alloc (.cells #[.int .u8 0, .int .u8 0, .int .u8 0, .int .u8 0, .int .u8 0, .int .u8 0, .int .u8 0, .int .u8 0, .int .u8 0, .int .u8 0, .int .u8 0, .int .u8 0, .int .u8 0, .int .u8 0, .int .u8 0, .int .u8 0, .int .u8 0, .int .u8 0, .int .u8 0, .int .u8 0, .int .u8 0, .int .u8 0, .int .u8 0, .int .u8 0, .int .u8 0, .int .u8 0, .int .u8 0, .int .u8 0, .int .u8 0, .int .u8 0, .int .u8 0, .int .u8 0, .int .u8 0, .int .u8 0, .int .u8 0, .int .u8 0, .int .u8 0, .int .u8 0, .int .u8 0, .int .u8 0, .int .u8 0, .int .u8 0, .int .u8 0, .int .u8 0, .int .u8 0, .int .u8 0, .int .u8 0, .int .u8 0, .int .u8 0, .int .u8 0, .int .u8 0, .int .u8 0, .int .u8 0, .int .u8 0, .int .u8 0, .int .u8 0, .int .u8 0, .int .u8 0, .int .u8 0, .int .u8 0, .int .u8 0, .int .u8 0, .int .u8 0, .int .u8 0] 246) = w3 at hIh g0 b0 hs3 hW0 ⊢
  have hsz0 : W0.heap.size = w3.heap.size + 1 := by rw [hW0]; exact World.size_alloc _ _
  have hs4 := And.intro (Nat.le_of_eq hs3) (Nat.le_of_eq hs3.symm)
  have hsz4 := And.intro (Nat.le_of_eq hsz0) (Nat.le_of_eq hsz0.symm)
  clear hs3 hsz0
  have hsz2 : w.heap.size + 4 ≤ w2.heap.size := by have := blk_lt hId.b3; omega
  have hb30 : Below w3.heap.size w3 W0 := by rw [hW0]; exact below_alloc (Below.refl _ _) _
  have hI0 : In4 W0 w.heap.size (some ⟨p, 0, none⟩) base r A c 0 := hIh.step (fun k _ h2 => hb30.block k (by omega))
  have hg0 : BU W0 w2.heap.size 246 (fill []) := g0.step (hb30.block _ g0.lt)
  have hbw : Below w.heap.size w W0 := hfd.trans ((b0.mono hfd.size).trans (hb30.mono (by omega)))
  have hD0 : PDisk W0 (fun k => (okd k ∧ k < w.heap.size) ∨ W0.heap.size ≤ k) p D := (h.bound.step (w1 := W0) (fun k hk _ => hbw.block k hk.2)).mono (fun _ hk => .inl hk)
  have hrb : W0.heap[w3.heap.size]? = some (.cells #[.int .u64 r.gen, .int .i64 r.at_, .int .i64 r.kind, .slice A r.bytes.length c] 117 (0, 0)) := by rw [hW0]; exact heap_alloc_new _ _
  have hRB : RBox W0 w3.heap.size r (fun k => (okr k ∧ k < w.heap.size) ∨ k = w3.heap.size) A c := ⟨.inr rfl, hrb, fun W' hW => hF W' (fun k hk hlt => (hW k ⟨.inl ⟨hk, hlt⟩, by omega⟩ (by omega)).trans (hbw.block k hlt)), hl⟩
  have hseq := blocks_stops hRB hr (fun k hk => by rcases hk with hk | hk <;> omega)
  have hC0 : Chg okd w W0 := Chg.of_below hbw okd
  have hne2 : ∀ k, ((okr k ∧ k < w.heap.size) ∨ k = w3.heap.size) → ¬ ((okd k ∧ k < w.heap.size) ∨ W0.heap.size ≤ k) := fun k hk hk2 => by
    rcases hk with hk | hk <;> rcases hk2 with hk2 | hk2
    · exact hne k hk.1 hk2.1
    · omega
    · omega
    · omega
  have hSI0 : SI w.heap.size w2.heap.size W0.heap.size (fun k => (okd k ∧ k < w.heap.size) ∨ W0.heap.size ≤ k) okd w p base r A c (runs (base + r.at_) D (fill []) []) W0 := ⟨hI0, hg0, rfl, hD0, hC0, Nat.le_refl _⟩
  clear hIh g0 b0 hb30 hW0 hId hDd hld hI0 hg0 hD0 hRB hrb hC0 hfd
  gi_wp2_with fail
  refine wpIn_rangeFunc_ownH (α := YB) (n := 2) (w := W0) rfl (by decide) (gf := 189) (lb := #[.pointer (some ⟨w3.heap.size, 0, none⟩)]) rfl trivial (enters_of Tryz.func189 (by kernel_rfl) rfl)
    hseq (fun h k => ⟨fun i hi hlt => (k.1 i hi (Nat.lt_of_lt_of_le hlt h.2)).trans (h.1 i hi hlt), Nat.le_trans h.2 k.2⟩) (fun W l o o' hl _ _ _ => ⟨fun k hk _ => World.putObj_heap_other (fun e => by rcases hk with hk | hk <;> omega), by simp⟩) (Below.refl _ _) (fun _ => rfl)
    (InvS w w2.heap.size W0.heap.size okd p base r A c D) (InvX w w2.heap.size W0.heap.size okd p base r A c D)
    (fun s X Y row hs hg hr => ⟨hs.1, hs.2.turn hg (fun r e => ⟨by have := (hr r e).1; omega, (hr r e).2⟩)⟩)
    (fun cd s X Y row hs hg hr => ⟨hs.1, hs.2.1, hs.2.2.turn hg (fun r e => ⟨by have := (hr r e).1; omega, (hr r e).2⟩)⟩)
    ⟨rfl, hSI0⟩
    (fun x a' W => ∃ Bx, W0.heap.size ≤ Bx ∧ BU W Bx 246 x.1.2 ∧ a' = { tmps := #[.pointer (some ⟨p, 0, none⟩), .int .i64 base, .agg #[.int .u64 r.gen, .int .i64 r.at_, .int .i64 r.kind, .slice A r.bytes.length c], .pointer (some ⟨w.heap.size, 0, none⟩), .pointer (some ⟨w.heap.size + 1, 0, none⟩), .pointer (some ⟨w.heap.size + 1 + 1, 0, none⟩), .pointer (some ⟨w.heap.size + 1 + 1 + 1, 0, none⟩), .int .i64 0, .pointer (some ⟨w2.heap.size, 0, none⟩), .int .i64 (x.1.1 : Int), .pointer (some ⟨Bx, 0, none⟩), undef, .pointer (some ⟨p, 0, none⟩), .bool false, .agg #[.int .u64 r.gen, .int .i64 r.at_, .int .i64 r.kind, .slice A r.bytes.length c], .int .i64 0, .int .i64 0, .bool false, undef, .int .i64 base, .bool false, .bool false, .int .i64 base, .pointer (some ⟨p, 0, none⟩), .int .i64 (D.n : Int), .bool false, .bool false, .bool false, .pointer (some ⟨w.heap.size + 1 + 1, 1, none⟩), .int .i64 r.at_, .pointer (some ⟨w.heap.size + 1 + 1, 3, none⟩), .slice A r.bytes.length c, .int .i64 (r.bytes.length : Int), .int .i64 (need (r.bytes.length : Int)), .int .i64 (r.at_ + need (r.bytes.length : Int)), .pointer (some ⟨p, 0, none⟩), .int .i64 (D.n : Int), .int .i64 base, .int .i64 ((D.n : Int) - base), .bool false, .bool false, .agg #[.int .u64 r.gen, .int .i64 r.at_, .int .i64 r.kind, .slice A r.bytes.length c], .func (.func 189) #[] #[.pointer (some ⟨w3.heap.size, 0, none⟩)], .int .i64 (x.1.1 : Int), .agg (nums .u8 x.1.2).toArray, undef, undef, undef, undef, undef, undef, undef, undef, undef, undef, undef, undef, undef, undef, undef, undef, undef, undef, undef, undef, undef, undef], defers := [] })
    (fun x a' _ X Y row hs hg hr => by obtain ⟨Bx, e1, e2, e3⟩ := hs; exact ⟨Bx, e1, e2.step (turn_cells hg (fun r e => (hr r e).2) ⟨_, _, e2⟩), e3⟩)
    ?assign ?body ?done ?stop
  case assign =>
    rintro l pre x W K ⟨hq, hI⟩ hK
    have hst := storeCells64s x.2.2.1
    have hxl : (nums .u8 x.1.2).length = 64 := by rw [nums_length]; exact x.2.2.1
    dsimp only [encY]
    gi_wp2
    exact hK _ _ ((KeepsOthers.alloc _ _).from _) ⟨fun k _ hlt => Below.heap_alloc _ _ _ hlt, by simp⟩ ⟨hq, hI.alloc _⟩ ⟨W.heap.size, hI.sz, heap_alloc_new _ _, rfl⟩
  case body =>
    rintro l pre ⟨⟨k, ys⟩, hk, hy64, hyB⟩ a' W hl0 ⟨rr, hrr⟩ ⟨hq, hI⟩ ⟨Bx, hBx, hbx, rfl⟩ hlt
    dsimp only at hbx hk hy64 hyB ⊢
    have hqr := runs_append (base + r.at_) (pre.map (·.1)) [(k, ys)] D (fill [])
    rw [if_pos hq] at hqr
    have hws := runs_ws (base + r.at_) (pre.map (·.1)) D (fill [])
    rw [List.length_map] at hws
    have hN : pre.length < 65536 := by have h1 := hlt; have h2 := bodies_le hr; simp [blkList] at h1; omega
    have hpm : (pre ++ [(⟨(k, ys), hk, hy64, hyB⟩ : YB)]).map (·.1) = pre.map (·.1) ++ [(k, ys)] := by simp
    rw [← hpm] at hqr
    clear hpm hlt
    generalize runs (base + r.at_) D (fill []) (pre.map (·.1)) = q at hq hI hqr hws
    obtain ⟨Dq, hd, e0⟩ := q
    dsimp only at hq hI hqr hws
    subst hq
    have hbsz := hI.sz
    have hn3 := blk_lt hI.in4.b3
    have hdh := hI.hd
    have hdl := hI.l64
    dsimp only at hdh hdl
    by_cases h0 : k = 0
    · subst h0
      simp only [runs, if_true] at hqr
      have hch := Chg.setRow1 (W := W) (g := w2.heap.size) (nums .u8 ys).toArray
      have HH : InvS w w2.heap.size W0.heap.size okd p base r A c D (pre ++ [⟨(0, ys), hk, hy64, hyB⟩]) (W.setRow w2.heap.size (nums .u8 ys).toArray) := by
        unfold InvS
        rw [hqr]
        refine ⟨rfl, ⟨hI.in4.step (fun k h1 h2 => hch.block k (by omega) (by omega)), heap_setRow hdh, hy64, ?_, hI.chg.setRow (.inr (by omega)) _, Nat.le_trans hbsz hch.size⟩⟩
        exact hI.disk.step (fun k hk hlt => hch.block k hlt (fun e => by rcases hk with hk | hk <;> omega))
      have HH2 := hid HH
      have hKF : KeepsFrom W0.heap.size W (W.setRow w2.heap.size (nums .u8 ys).toArray) := KeepsFrom.of_chg hch (fun k e => by rw [e]; exact ⟨_, _, hdh⟩)
      have hKP : KpR (fun k => (okr k ∧ k < w.heap.size) ∨ k = w3.heap.size) W (W.setRow w2.heap.size (nums .u8 ys).toArray) := ⟨fun k hk hlt => hch.block k hlt (fun e => by rcases hk with hk | hk <;> omega), hch.size⟩
      have hcl : (#[] : Array Value).size = 0 := rfl
      clear HH hqr
      gi_wp2_with (first | refine wpListIn_load_addr rfl rfl 246 (.tmp 10) rfl ⟨Bx, 0, none⟩ rfl (nums .u8 ys) _ hbx.load Tryz.underlying246 rfl (by rw [nums_length, hy64]; exact info_sblock) ?_ | refine wpListIn_store_round rfl 246 (.tmp 8) (.tmp 47) rfl w2.heap.size (nums .u8 ys).toArray rfl rfl 246 _ hdh (by rw [List.size_toArray, nums_length, hy64]; exact info_sblock) (by rw [List.size_toArray, List.size_toArray, nums_length, nums_length, hdl, hy64]) (nums_one _ _) ?_)
      exact ⟨hKF, hKP, HH2.out⟩
    · simp only [runs, if_neg h0] at hqr
      have h0' : ¬ ((k : Int) = 0) := by omega
      have hwa : IntKind.i64.wrap (base + r.at_) = base + r.at_ := by rw [IntKind.wrap_i64]; omega
      have hwb : IntKind.i64.wrap (base + r.at_ + (k : Int)) = base + r.at_ + (k : Int) := by rw [IntKind.wrap_i64]; omega
      have hDx : PDisk W.drew (fun j => (((okd j ∧ j < w.heap.size) ∨ W0.heap.size ≤ j) ∧ isC W j) ∧ j ≠ Bx) p Dq := (hI.disk.cells.without hbx).step (fun _ _ _ => rfl)
      have hrow : RB W.drew (fun j => j = Bx) (some ⟨Bx, 0, none⟩) ys := (BU.step hbx rfl : BU W.drew Bx 246 ys).row (by omega)
      have hwr := write_any (c := 64) (base + r.at_ + (k : Int)) hDx hrow (fun j hj hj2 => hj2.2 hj) hyB (by omega)
      have hSt : In4.S w.heap.size (some ⟨p, 0, none⟩) base r A c W.drew := hI.in4.s
      rw [hy64] at hwr
      generalize hE : Dq.writeE (base + r.at_ + (k : Int)) ys = E at hqr hwr
      generalize Dq.writeD (base + r.at_ + (k : Int)) ys = Dw at hqr hwr
      clear hE
      have HQR := hid hqr
      clear hqr
      have hkb : ((k : Int) == 0) = false := by simpa using h0
      gi_wp2_with fail
      refine wpIn_region_plan [] (.take 0 (.take 1 (.take 2 (.take 3 (.take 4 (.take 5 (.take 6 (.take 7 (.run 8 (.take 9 .done)))))))))) (In4.S w.heap.size (some ⟨p, 0, none⟩) base r A c) (by kernel_rfl) (by kernel_rfl) (by kernel_rfl) (by rintro ⟨_, _, h⟩; exact h) (fun c a d v w h => h) hSt ?_
      iterate 8 (apply plan_take rfl rfl; (case hy => (intro w' hS; obtain ⟨s0, s1, s2, s3⟩ := hS; go_simp; try exact rfl)); go_simp)
      refine plan_run_on rfl rfl (fun K hK => ?_)
      go_simp
      refine hwr.mono ?_
      rintro e W1 ⟨rfl, hD1, hc1⟩
      have hch : Chg (fun j => (((okd j ∧ j < w.heap.size) ∨ W0.heap.size ≤ j) ∧ isC W j) ∧ j ≠ Bx) W W1 := (Chg.refl _ W).drew.then_ hc1 (fun _ h => .inl h)
      have hn4 : ∀ j, w.heap.size ≤ j → j < W0.heap.size → W1.heap[j]? = W.heap[j]? := fun j h1 h2 => hch.block j (by omega) (fun hj => by rcases hj.1.1 with hk | hk <;> omega)
      have hI4 : In4 W1 w.heap.size (some ⟨p, 0, none⟩) base r A c 0 := hI.in4.step (fun j h1 h2 => hn4 j h1 (by omega))
      refine hK _ _ _ (fun _ h => h) hI4.s ?_
      clear hK K
      go_simp
      (apply plan_take rfl rfl; (case hy => (intro w' hS; obtain ⟨s0, s1, s2, s3⟩ := hS; go_simp; try exact rfl)); go_simp)
      refine plan_done ?_
      have hD2 : PDisk W1 (fun k => (okd k ∧ k < w.heap.size) ∨ W0.heap.size ≤ k) p Dw := hD1.mono (fun j hj => by
        rcases hj with hj | hj
        · exact hj.1.1
        · exact .inr (Nat.le_trans hbsz hj))
      have hKF : KeepsFrom W0.heap.size W W1 := KeepsFrom.of_chg hch (fun j hj => hj.1.2)
      have hcw : Chg okd w W1 := hI.chg.then_ hch (fun j hj => by
        rcases hj.1.1 with hk | hk
        · exact .inl hk.1
        · exact .inr (by omega))
      have hsz1 : W0.heap.size ≤ W1.heap.size := Nat.le_trans hbsz hch.size
      have hhd : BU W1 w2.heap.size 246 hd := hdh.step (hn4 _ (by omega) (by omega))
      by_cases hE : E = 0
      · subst hE
        have hqr := HQR.out
        rw [if_pos rfl] at hqr
        have HH : InvS w w2.heap.size W0.heap.size okd p base r A c D (pre ++ [⟨(k, ys), hk, hy64, hyB⟩]) W1 := by
          unfold InvS
          rw [hqr]
          exact ⟨rfl, ⟨hI4, hhd, hdl, hD2, hcw, hsz1⟩⟩
        have HH2 := hid HH
        have hKP : KpR (fun k => (okr k ∧ k < w.heap.size) ∨ k = w3.heap.size) W W1 := ⟨fun j hj hlt => by
          rcases hj with hj | hj
          · exact hch.block j hlt (fun h2 => by
              rcases h2.1.1 with hk | hk
              · exact hne j hj.1 hk.1
              · omega)
          · exact hn4 j (by omega) (by omega), hch.size⟩
        clear HH hqr
        gi_wp2_with fail
        exact ⟨hKF, hKP, HH2.out⟩
      · have hqr := HQR.out
        rw [if_neg hE] at hqr
        have hst3 := hI4.s3
        have HH : InvX w w2.heap.size W0.heap.size okd p base r A c D .ret (pre ++ [⟨(k, ys), hk, hy64, hyB⟩]) (W1.setCell ⟨w.heap.size + 1 + 1 + 1, 0, none⟩ (.int .i64 E)) := by
          unfold InvX
          rw [hqr]
          have hset : ∀ j, j ≠ w.heap.size + 1 + 1 + 1 → (W1.setCell ⟨w.heap.size + 1 + 1 + 1, 0, none⟩ (.int .i64 E)).heap[j]? = W1.heap[j]? := fun j hj => Below.heap_setCell _ _ _ _ hj
          refine ⟨rfl, hE, ⟨⟨(hset _ (by omega)).trans hI4.b0, (hset _ (by omega)).trans hI4.b1, (hset _ (by omega)).trans hI4.b2, ?_⟩, hhd.step (hset _ (by omega)), hdl, hD2.step (fun j hj _ => hset j (by rcases hj with hk | hk <;> omega)), hcw.setCell (.inr (by simp; omega)) _, by simpa [World.setCell] using hsz1⟩⟩
          exact heap_setCell_same _ _ 0 _ _ _ hI4.b3
        have HH2 := hid HH
        have hKF2 : KeepsFrom W0.heap.size W (W1.setCell ⟨w.heap.size + 1 + 1 + 1, 0, none⟩ (.int .i64 E)) := hKF.trans ((KeepsOthers.setCell _ _ _).from _)
        have HH3 := hid hKF2
        clear HH hqr hKF2
        obtain ⟨t3, f3⟩ := hst3
        have heb : (E != 0) = true := by simpa using hE
        gi_wp2_with fail
        exact ⟨HH3.out, HH2.out⟩
  case done =>
    rintro D1 xs W hD1 hS ⟨hq, hI⟩ hK
    have hws := runs_ws (base + r.at_) (blkList r) D (fill [])
    rw [hS, runs_blk] at hq hI
    rw [runs_blk] at hws
    have hlen : (blkList r).length ≤ 65535 := by have := bodies_le hr; simp [blkList]; omega
    have hord : puts (base + r.at_) D (order r) = puts (base + r.at_) (puts (base + r.at_) D ((List.range (bodies r)).map fun (i : Nat) => ((i : Int) + 1, bodyB r (i + 1)))).1 [(0, headB r)] := by
      unfold order
      rw [puts_append, if_pos hq]
    have hQ := HQ.out
    rw [hord] at hQ
    clear hord hS HQ
    generalize puts (base + r.at_) D ((List.range (bodies r)).map fun (i : Nat) => ((i : Int) + 1, bodyB r (i + 1))) = q at hq hI hws hQ
    obtain ⟨Dq, e0⟩ := q
    dsimp only at hq hI hws hQ
    subst hq
    have hlast : puts (base + r.at_) Dq [(0, headB r)] = (Dq.writeD (base + r.at_) (headB r), Dq.writeE (base + r.at_) (headB r)) := by
      simp only [puts, Int.add_zero]
      split
      · rename_i h; rw [h]
      · rfl
    rw [hlast] at hQ
    clear hlast
    have hbsz := hI.sz
    have hn3 := blk_lt hI.in4.b3
    have hdh := hI.hd
    dsimp only at hdh
    have hwa : IntKind.i64.wrap (base + r.at_) = base + r.at_ := by rw [IntKind.wrap_i64]; omega
    have hDx : PDisk W.drew (fun j => (((okd j ∧ j < w.heap.size) ∨ W0.heap.size ≤ j) ∧ isC W j) ∧ j ≠ w2.heap.size) p Dq := (hI.disk.cells.without hdh).step (fun _ _ _ => rfl)
    have hrow : RB W.drew (fun j => j = w2.heap.size) (some ⟨w2.heap.size, 0, none⟩) (headB r) := (BU.step hdh rfl : BU W.drew w2.heap.size 246 (headB r)).row (by rw [headB_length]; omega)
    have hwr := write_any (c := 64) (base + r.at_) hDx hrow (fun j hj hj2 => hj2.2 hj) (headB_bytes hr) (by omega)
    have hSt : In4.S w.heap.size (some ⟨p, 0, none⟩) base r A c W.drew := hI.in4.s
    rw [headB_length] at hwr
    generalize Dq.writeE (base + r.at_) (headB r) = E at hwr hQ
    generalize Dq.writeD (base + r.at_) (headB r) = Dw at hwr hQ
    clear hws
    injection hQ with e1 e2
    have e1' := e1.symm
    have e2' := e2.symm
    clear e1 e2
    subst e1' e2'
    gi_wp2_with fail
    refine wpIn_nrm (wpIn_wide.2 (wp_region_plan [7] (.take 0 (.take 1 (.take 2 (.take 3 (.take 4 (.take 5 (.run 6 (.tail 7 .done)))))))) (In4.S w.heap.size (some ⟨p, 0, none⟩) base r A c) (by kernel_rfl) (by kernel_rfl) (fun c a d v w h => absurd h.1 (by simp)) hSt ?_))
    iterate 6 (apply plan_take rfl rfl; (case hy => (intro w' hS; obtain ⟨s0, s1, s2, s3⟩ := hS; go_simp; try exact rfl)); go_simp)
    refine plan_run_on rfl rfl (fun K hK => ?_)
    go_simp
    refine hwr.mono ?_
    rintro e W1 ⟨rfl, hD1', hc1⟩
    have hch : Chg (fun j => (((okd j ∧ j < w.heap.size) ∨ W0.heap.size ≤ j) ∧ isC W j) ∧ j ≠ w2.heap.size) W W1 := (Chg.refl _ W).drew.then_ hc1 (fun _ h => .inl h)
    have hn4 : ∀ j, w.heap.size ≤ j → j < W0.heap.size → W1.heap[j]? = W.heap[j]? := fun j h1 h2 => hch.block j (by omega) (fun hj => by rcases hj.1.1 with hk | hk <;> omega)
    have hI4 : In4 W1 w.heap.size (some ⟨p, 0, none⟩) base r A c 0 := hI.in4.step (fun j h1 h2 => hn4 j h1 (by omega))
    refine hK _ _ _ (fun _ h => h) hI4.s ?_
    clear hK K
    go_simp
    obtain ⟨t3, f3⟩ := hI4.s3
    refine plan_tail_on rfl rfl (fun K hK => ?_)
    go_simp
    refine hK _ _ (plan_done ⟨rfl, ?_⟩)
    clear hK K
    have hD2 : PDisk W1 (fun k => (okd k ∧ k < w.heap.size) ∨ W0.heap.size ≤ k) p QD := hD1'.mono (fun j hj => by
      rcases hj with hj | hj
      · exact hj.1.1
      · exact .inr (Nat.le_trans hbsz hj))
    have hcw : Chg okd w W1 := hI.chg.then_ hch (fun j hj => by
      rcases hj.1.1 with hk | hk
      · exact .inl hk.1
      · exact .inr (by omega))
    have hKW : W1.heap[D1]? = some (.deferred (some [])) := (KeepsFrom.of_chg (B := W0.heap.size) hch (fun j hj => hj.1.2)).same D1 _ hD1 hK rfl
    have hK' := (KeepsOthers.setCell W1 ⟨w.heap.size + 1 + 1 + 1, 0, none⟩ (.int .i64 QE)).same D1 _ hKW rfl
    have hcell : (W1.setCell ⟨w.heap.size + 1 + 1 + 1, 0, none⟩ (.int .i64 QE)).cell? ⟨w.heap.size + 1 + 1 + 1, 0, none⟩ = some (.int .i64 QE) := World.cell?_setCell_same' _ _ _ (by rw [t3]; rfl)
    have hcell2 := cell_kept hcell (grownBy_putObj' _ D1 (.deferred none)) (fun r e => by cases e; exact ⟨_, hK', rfl⟩)
    have hD3 : PDisk ((W1.setCell ⟨w.heap.size + 1 + 1 + 1, 0, none⟩ (.int .i64 QE)).putObj D1 (.deferred none)) (orNew okd w) p QD := ((hD2.step (fun j hj _ => Below.heap_setCell _ _ _ _ (by show j ≠ w.heap.size + 1 + 1 + 1; rcases hj with hk | hk <;> omega))).turn (grownBy_putObj' _ D1 (.deferred none)) (fun r e => by cases e; exact ⟨_, hK', rfl⟩)).mono (fun j hj => by
      rcases hj with hk | hk
      · exact .inl hk.1
      · exact .inr (by omega))
    have hC3 : Chg okd w ((W1.setCell ⟨w.heap.size + 1 + 1 + 1, 0, none⟩ (.int .i64 QE)).putObj D1 (.deferred none)) := (hcw.setCell (p := ⟨w.heap.size + 1 + 1 + 1, 0, none⟩) (.inr (by simp; omega)) _).grown (grownBy_putObj' _ D1 (.deferred none)) (fun k e => by cases e; exact .inr (by omega))
    have HF := hid (And.intro hK' (And.intro hcell2 (And.intro hD3 hC3)))
    clear hK' hcell hcell2 hD3 hC3 hKW hD2 hcw hK
    gi_wp2_with fail
    refine ⟨by simp, .inl ⟨_, _, rfl, run_takeDeferred HF.out.1, ?_⟩⟩
    exact ⟨_, errno_ret rfl _ _ (w.heap.size + 1 + 1 + 1) QE rfl HF.out.2.1, rfl, HF.out.2.2.1, HF.out.2.2.2⟩
  case stop =>
    rintro D1 cd pre W hD1 ⟨t, ht⟩ ⟨rfl, hq, hI⟩ hK
    have hap := runs_append (base + r.at_) (pre.map (·.1)) t D (fill [])
    rw [ht, if_neg hq, runs_blk] at hap
    have hord : puts (base + r.at_) D (order r) = puts (base + r.at_) D ((List.range (bodies r)).map fun (i : Nat) => ((i : Int) + 1, bodyB r (i + 1))) := by
      unfold order
      rw [puts_append, if_neg]
      rw [← hap] at hq
      exact hq
    have hQ := HQ.out
    rw [hord] at hQ
    rw [← hap] at hI
    clear hord hap hq ht HQ
    generalize puts (base + r.at_) D ((List.range (bodies r)).map fun (i : Nat) => ((i : Int) + 1, bodyB r (i + 1))) = q at hI hQ
    subst hQ
    dsimp only at hI
    have hcell : W.cell? ⟨w.heap.size + 1 + 1 + 1, 0, none⟩ = some (.int .i64 QE) := hI.in4.s3.1
    have hcell2 := cell_kept hcell (grownBy_putObj' _ D1 (.deferred none)) (fun r e => by cases e; exact ⟨_, hK, rfl⟩)
    have hD3 : PDisk (W.putObj D1 (.deferred none)) (orNew okd w) p QD := (hI.disk.turn (grownBy_putObj' _ D1 (.deferred none)) (fun r e => by cases e; exact ⟨_, hK, rfl⟩)).mono (fun j hj => by
      rcases hj with hk | hk
      · exact .inl hk.1
      · exact .inr (by omega))
    have hC3 : Chg okd w (W.putObj D1 (.deferred none)) := hI.chg.grown (grownBy_putObj' _ D1 (.deferred none)) (fun k e => by cases e; exact .inr (by omega))
    have HF := hid (And.intro hK (And.intro hcell2 (And.intro hD3 hC3)))
    clear hK hcell hcell2 hD3 hC3
    gi_wp2_with fail
    refine ⟨by simp, .inl ⟨_, _, rfl, run_takeDeferred HF.out.1, ?_⟩⟩
    exact ⟨_, errno_ret rfl _ _ (w.heap.size + 1 + 1 + 1) QE rfl HF.out.2.1, rfl, HF.out.2.2.1, HF.out.2.2.2⟩
end Go.Proofs.YticogmpafehomaaGreatDoor

set_option linter.unusedVariables false
set_option linter.unusedSimpArgs false
namespace Go.Proofs.YticogmpafehomaaGreatDoor
open Go.RowKit Go.Proofs.YticogmpafehomaaGreatDoorW.PrintWords Go.Proofs.YticogmpafehomaaGreatDoorW.PrintMore

theorem bytesOf_str {xs : List Int} (h : Bytes xs) : bytesOf (strOfNums xs) = xs := by
  unfold strOfNums bytesOf
  rw [List.map_map]
  conv => rhs; rw [← List.map_id xs]
  refine List.map_congr_left (fun x hx => ?_)
  have := h x hx
  simp only [Function.comp_apply, id]
  rw [UInt8.toNat_ofNat']
  omega
theorem str_iff {xs ys : List Int} (hx : Bytes xs) (hy : Bytes ys) : strOfNums xs = strOfNums ys ↔ xs = ys := ⟨fun h => by rw [← bytesOf_str hx, ← bytesOf_str hy, h], fun h => by rw [h]⟩
theorem str_neq {S : ByteArray} {l : List UInt8} (h : ¬ S = ⟨l.toArray⟩) : (S.toList == l) = false := by
  rw [ByteArray.toList_eq, beq_eq_false_iff_ne]
  intro e
  exact h (by cases S; simp only [ByteArray.mk.injEq]; exact Array.toList_inj.1 (by simpa using e))
/-- A number at a place. -/
def numAt (b : List Int) (i n : Nat) : Int := val ((b.drop i).take n)
theorem numAt_lt {b : List Int} (h : Bytes b) {i n : Nat} (hl : i + n ≤ b.length) : 0 ≤ numAt b i n ∧ numAt b i n < 256 ^ n := by
  have := val_lt ((h.drop i).take n)
  rwa [show ((b.drop i).take n).length = n from by rw [List.length_take, List.length_drop]; omega] at this
theorem part {w : World} {ok : Nat → Prop} {a : Addr} {b : List Int} (h : RB w ok (some a) b) {i n : Nat} (hl : i + n ≤ b.length) : RB w ok (some (a.add i)) ((b.drop i).take n) := by
  intro W' hW
  have h2 : ReadsInt W' .u8 (some a) b.length b := C_int (h W' hW)
  have hlen : ((b.drop i).take n).length = n := by rw [List.length_take, List.length_drop]; omega
  refine Kd.C_of_reads (enc := Value.int .u8) (d := (0 : Int)) (h1 := fun _ => rfl) ⟨rfl, by rw [hlen]; have := h2.2.1; omega, fun hp => ?_⟩
  rw [hlen] at hp ⊢
  obtain ⟨ad, he, hc⟩ := h2.2.2 (by omega)
  cases he
  refine ⟨_, rfl, fun j hj => ?_⟩
  rw [Addr.add_add, hc (i + j) (by omega)]
  simp [List.getD_eq_getElem?_getD, List.getElem?_drop, List.getElem?_take, hj]
theorem part_len {b : List Int} {i n : Nat} (hl : i + n ≤ b.length) : ((b.drop i).take n).length = n := by rw [List.length_take, List.length_drop]; omega
theorem number_part {w : World} {ok : Nat → Prop} {a : Addr} {b : List Int} (h : RB w ok (some a) b) (hb : Bytes b) (i n c : Nat) (hl : i + n ≤ b.length) (hn : n ≤ 8) :
  Calls Tryz.prog 157 #[.slice (some (a.add i)) n c] w fun e w' => e = .returned (.int .u64 (numAt b i n)) ∧ w' = w := by
  have := value_any (c := c) (Kd.F_now (part h hl)) ((hb.drop i).take n) (by rw [part_len hl]; exact hn)
  rwa [part_len hl] at this
/-- What Body tells. -/
def bodyOK (b : List Int) : Prop := b.length = 64 ∧ b.take 2 = [102, 98] ∧ ¬ numAt b 2 8 = 0 ∧ ¬ numAt b 12 2 = 0
instance (b : List Int) : Decidable (bodyOK b) := by unfold bodyOK; infer_instance
def bodyV (b : List Int) : Int × Int × Int × Bool := if bodyOK b then (numAt b 2 8, numAt b 10 2, numAt b 12 2, true) else (0, 0, 0, false)
def bodyT (v : Int × Int × Int × Bool) : Value := .tuple #[.int .u64 v.1, .int .i64 v.2.1, .int .i64 v.2.2.1, .bool v.2.2.2]
theorem body_no {b : List Int} (h : ¬ bodyOK b) : bodyT (bodyV b) = .tuple #[.int .u64 0, .int .i64 0, .int .i64 0, .bool false] := by unfold bodyV; rw [if_neg h]; rfl
set_option maxRecDepth 100000 in
set_option maxHeartbeats 2000000 in
theorem body_any {w : World} {ok : Nat → Prop} {A : Option Addr} {c : Nat} {b : List Int} (h : RB w ok A b) (hb : Bytes b) (hc : b.length ≤ c) :
  Calls Tryz.prog 122 #[.slice A b.length c] w fun e w' => e = .returned (bodyT (bodyV b)) ∧ Below w.heap.size w w' := by
  have hlm := RB_len h
  by_cases h64 : b.length = 64
  · obtain ⟨a, rfl⟩ : ∃ a, A = some a := by
      cases A with
      | none => have := RB_none h; rw [this] at h64; simp at h64
      | some a => exact ⟨a, rfl⟩
    have hp2 : RB w ok (some a) (b.take 2) := RB_take h (by omega)
    have hcv : (convert 25 9 (.slice (some a) 2 c)).run Tryz.prog w = .ok (.string (strOfNums (b.take 2))) w := by
      have := conv_str (c := c) (Kd.F_now hp2)
      rwa [show (b.take 2).length = 2 from by rw [List.length_take]; omega] at this
    have hs := str_iff (hb.take 2) (show Bytes [102, 98] from fun x hx => by simp at hx; omega)
    rw [show strOfNums [102, 98] = ⟨#[102, 98]⟩ from rfl] at hs
    rw [h64] at hc ⊢
    have n2 : ¬ c = 2 := by omega
    have n10 : ¬ c = 10 := by omega
    have n12 : ¬ c = 12 := by omega
    have i2 : (2 : Int) ≤ (c : Int) := by omega
    have i10 : (10 : Int) ≤ (c : Int) := by omega
    have i12 : (12 : Int) ≤ (c : Int) := by omega
    have i14 : (14 : Int) ≤ (c : Int) := by omega
    by_cases ht : b.take 2 = [102, 98]
    · have hS := hs.2 ht
      rw [hS] at hcv
      clear hs hS
      have c1 := number_part h hb 2 8 (c - 2) (by omega) (by omega)
      have c2 := number_part (RB_drew h) hb 10 2 (c - 10) (by omega) (by omega)
      have c3 := number_part (RB_drew h) hb 12 2 (c - 12) (by omega) (by omega)
      have l1 := numAt_lt hb (i := 2) (n := 8) (by omega)
      have l2 := numAt_lt hb (i := 10) (n := 2) (by omega)
      have l3 := numAt_lt hb (i := 12) (n := 2) (by omega)
      rw [show (256 : Int) ^ 8 = 18446744073709551616 from by decide] at l1
      rw [show (256 : Int) ^ 2 = 65536 from by decide] at l2 l3
      have hv : bodyT (bodyV b) = if numAt b 2 8 = 0 ∨ numAt b 12 2 = 0 then .tuple #[.int .u64 0, .int .i64 0, .int .i64 0, .bool false] else .tuple #[.int .u64 (numAt b 2 8), .int .i64 (numAt b 10 2), .int .i64 (numAt b 12 2), .bool true] := by
        by_cases h0 : numAt b 2 8 = 0 ∨ numAt b 12 2 = 0
        · rw [if_pos h0, body_no (fun hh => h0.elim hh.2.2.1 hh.2.2.2)]
        · rw [if_neg h0]
          unfold bodyV
          rw [if_pos ⟨h64, ht, fun e => h0 (.inl e), fun e => h0 (.inr e)⟩]
          rfl
      rw [hv]
      clear hv
      generalize numAt b 2 8 = g at c1 l1 ⊢
      generalize numAt b 10 2 = at_ at c2 l2 ⊢
      generalize numAt b 12 2 = k at c3 l3 ⊢
      have u2 : IntKind.i64.wrap at_ = at_ := by rw [IntKind.wrap_i64]; omega
      have u3 : IntKind.i64.wrap k = k := by rw [IntKind.wrap_i64]; omega
      by_cases hg : g = 0
      · rw [if_pos (.inl hg)]
        subst hg
        go_enter Tryz.func122, Tryz.ntmps122
        go_wp2_with fail
        refine c1.mono ?_
        rintro e w1 ⟨rfl, rfl⟩
        go_wp2_with fail
        refine wp_region_plan [] (.take 0 (.take 1 (.take 4 (.take 5 (.run 2 (.take 3 (.run 6 (.take 7 (.take 8 (.take 9 .done)))))))))) (fun _ => True) (by kernel_rfl) (by kernel_rfl) (fun c a d v w h => by cases d <;> exact h) trivial ?_
        iterate 4 (apply plan_take rfl rfl; (case hy => (intro w' hS; go_simp; try exact rfl)); go_simp)
        refine plan_run_on rfl rfl (fun K hK => ?_)
        go_simp
        refine c2.mono ?_
        rintro e w2 ⟨rfl, rfl⟩
        refine hK _ _ _ (fun _ h => h) trivial ?_
        clear hK K
        go_simp
        (apply plan_take rfl rfl; (case hy => (intro w' hS; go_simp; try exact rfl)); go_simp)
        refine plan_run_on rfl rfl (fun K hK => ?_)
        go_simp
        refine c3.mono ?_
        rintro e w2 ⟨rfl, rfl⟩
        refine hK _ _ _ (fun _ h => h) trivial ?_
        clear hK K
        go_simp
        iterate 3 (apply plan_take rfl rfl; (case hy => (intro w' hS; go_simp; try exact rfl)); go_simp)
        refine plan_done ?_
        go_wp2
        refine bodyPost_ret (results_list rfl (by simp) (.tmp (.tmp (.tmp (.tmp .nil))))) rfl ⟨rfl, (Below.refl _ _).drew⟩
      by_cases hk : k = 0
      · rw [if_pos (.inr hk)]
        subst hk
        have hg2 : (g == 0) = false := by simpa using hg
        go_enter Tryz.func122, Tryz.ntmps122
        go_wp2_with fail
        refine c1.mono ?_
        rintro e w1 ⟨rfl, rfl⟩
        go_wp2_with fail
        refine wp_region_plan [] (.take 0 (.take 1 (.take 4 (.take 5 (.run 2 (.take 3 (.run 6 (.take 7 (.take 8 (.take 9 .done)))))))))) (fun _ => True) (by kernel_rfl) (by kernel_rfl) (fun c a d v w h => by cases d <;> exact h) trivial ?_
        iterate 4 (apply plan_take rfl rfl; (case hy => (intro w' hS; go_simp; try exact rfl)); go_simp)
        refine plan_run_on rfl rfl (fun K hK => ?_)
        go_simp
        refine c2.mono ?_
        rintro e w2 ⟨rfl, rfl⟩
        refine hK _ _ _ (fun _ h => h) trivial ?_
        clear hK K
        go_simp
        (apply plan_take rfl rfl; (case hy => (intro w' hS; go_simp; try exact rfl)); go_simp)
        refine plan_run_on rfl rfl (fun K hK => ?_)
        go_simp
        refine c3.mono ?_
        rintro e w2 ⟨rfl, rfl⟩
        refine hK _ _ _ (fun _ h => h) trivial ?_
        clear hK K
        go_simp
        iterate 3 (apply plan_take rfl rfl; (case hy => (intro w' hS; go_simp; try exact rfl)); go_simp)
        refine plan_done ?_
        go_wp2
        refine bodyPost_ret (results_list rfl (by simp) (.tmp (.tmp (.tmp (.tmp .nil))))) rfl ⟨rfl, (Below.refl _ _).drew⟩
      rw [if_neg (by omega)]
      have hg2 : (g == 0) = false := by simpa using hg
      have hk2 : (k == 0) = false := by simpa using hk
      go_enter Tryz.func122, Tryz.ntmps122
      go_wp2_with fail
      refine c1.mono ?_
      rintro e w1 ⟨rfl, rfl⟩
      go_wp2_with fail
      refine wp_region_plan [] (.take 0 (.take 1 (.take 4 (.take 5 (.run 2 (.take 3 (.run 6 (.take 7 (.take 8 (.take 9 .done)))))))))) (fun _ => True) (by kernel_rfl) (by kernel_rfl) (fun c a d v w h => by cases d <;> exact h) trivial ?_
      iterate 4 (apply plan_take rfl rfl; (case hy => (intro w' hS; go_simp; try exact rfl)); go_simp)
      refine plan_run_on rfl rfl (fun K hK => ?_)
      go_simp
      refine c2.mono ?_
      rintro e w2 ⟨rfl, rfl⟩
      refine hK _ _ _ (fun _ h => h) trivial ?_
      clear hK K
      go_simp
      (apply plan_take rfl rfl; (case hy => (intro w' hS; go_simp; try exact rfl)); go_simp)
      refine plan_run_on rfl rfl (fun K hK => ?_)
      go_simp
      refine c3.mono ?_
      rintro e w2 ⟨rfl, rfl⟩
      refine hK _ _ _ (fun _ h => h) trivial ?_
      clear hK K
      go_simp
      iterate 3 (apply plan_take rfl rfl; (case hy => (intro w' hS; go_simp; try exact rfl)); go_simp)
      refine plan_done ?_
      go_wp2
      refine bodyPost_ret (results_list rfl (by simp) (.tmp (.tmp (.tmp (.tmp .nil))))) rfl ⟨rfl, (Below.refl _ _).drew⟩
    · rw [body_no (fun hh => ht hh.2.1)]
      have hS : ¬ strOfNums (b.take 2) = ⟨#[102, 98]⟩ := fun e => ht (hs.1 e)
      generalize strOfNums (b.take 2) = S at hcv hS
      have hS2 : (S.toList == [102, 98]) = false := str_neq hS
      clear hs
      go_enter Tryz.func122, Tryz.ntmps122
      go_wp2
      refine bodyPost_ret (results_list rfl (by simp) (.tmp (.tmp (.tmp (.tmp .nil))))) rfl ⟨rfl, Below.refl _ _⟩
  · rw [body_no (fun hh => h64 hh.1)]
    have hne : ((b.length : Int) != 64) = true := by simp; omega
    have hne2 : ¬ (b.length : Int) = 64 := by omega
    go_enter Tryz.func122, Tryz.ntmps122
    go_wp2
    refine bodyPost_ret (results_list rfl (by simp) (.tmp (.tmp (.tmp (.tmp .nil))))) rfl ⟨rfl, Below.refl _ _⟩

theorem RB_some {w : World} {ok : Nat → Prop} {A : Option Addr} {b : List Int} (h : RB w ok A b) (h0 : 0 < b.length) : ∃ a, A = some a := by
  cases A with
  | none => rw [RB_none h] at h0; simp at h0
  | some a => exact ⟨a, rfl⟩
end Go.Proofs.YticogmpafehomaaGreatDoor

set_option linter.unusedVariables false
set_option linter.unusedSimpArgs false
namespace Go.Proofs.YticogmpafehomaaGreatDoor
open Go.RowKit Go.Proofs.YticogmpafehomaaGreatDoorW.PrintWords Go.Proofs.YticogmpafehomaaGreatDoorW.PrintMore
attribute [local go_sem] min_two

theorem wp_region_eq {P : Program} {c : Code} {Q : Exit → Act → World → Prop} {a af : Act} {w Wf : World} (h : c.wp P (fun e a w => e = .normal ∧ a = af ∧ w = Wf) a w) (hQ : Q .normal af Wf) : c.wp P Q a w :=
  Code.wp_mono (fun e a w h => by obtain ⟨rfl, rfl, rfl⟩ := h; exact hQ) h
/-- How many bytes a head has. -/
def headM (b : List Int) : Nat := min (numAt b 13 4).toNat 47
def headOK (b : List Int) : Prop := b.length = 64 ∧ b.take 2 = [102, 104] ∧ ¬ numAt b 2 8 = 0 ∧ numAt b 13 4 ≤ 131072 ∧ blank (b.drop (17 + headM b)) = true
instance (b : List Int) : Decidable (headOK b) := by unfold headOK; infer_instance
def headR (b : List Int) : SR := if headOK b then ⟨numAt b 2 8, numAt b 10 2, b.getD 12 0, (b.drop 17).take (headM b)⟩ else ⟨0, 0, 0, []⟩
def headN (b : List Int) : Int := if headOK b then numAt b 13 4 else 0
theorem head_no {b : List Int} (h : ¬ headOK b) : headR b = ⟨0, 0, 0, []⟩ ∧ headN b = 0 ∧ decide (headOK b) = false := by unfold headR headN; rw [if_neg h, if_neg h]; exact ⟨rfl, rfl, by simpa using h⟩
/-- What Head hands back. -/
def HeadPost (b : List Int) (w : World) (e : Ending) (w' : World) : Prop :=
  ∃ A c, e = .returned (.tuple #[recV (headR b) A c, .int .i64 (headN b), .bool (decide (headOK b))]) ∧ KB.R 5 w' w.heap.size (fun k => w.heap.size ≤ k) (.slice A (headR b).bytes.length c) (headR b).bytes ∧ (headR b).bytes.length ≤ c ∧ Below w.heap.size w w'
theorem RB_nil (w : World) (ok : Nat → Prop) (c : Nat) : RB w ok none [] := fun W' _ => Kd.C_of_reads (enc := Value.int .u8) (d := (0 : Int)) (h1 := fun _ => rfl) ⟨rfl, by simp, fun h => absurd h (by simp)⟩
theorem head_none {b : List Int} {w w' : World} {v : Value} (h : ¬ headOK b) (hv : v = .tuple #[.agg #[.int .u64 0, .int .i64 0, .int .i64 0, .slice none 0 0], .int .i64 0, .bool false]) (hB : Below w.heap.size w w') : HeadPost b w (.returned v) w' := by
  obtain ⟨e1, e2, e3⟩ := head_no h
  refine ⟨none, 0, ?_, ?_, ?_, hB⟩
  · rw [e1, e2, e3, hv]; rfl
  · rw [e1]; exact Kd.R_nil _ _ _ _ _
  · rw [e1]; simp
theorem blank_tail {w W' : World} {ok : Nat → Prop} {a : Addr} {b : List Int} {c m : Nat} (h : RB w ok (some a) b) (hW : Below w.heap.size w W') (h64 : b.length = 64) (hm : m ≤ 64) (hc : 64 ≤ c) :
    Calls Tryz.prog 158 #[.slice (behind (some a) m c) (64 - m) (c - m)] W' fun e w' => e = .returned (.bool (blank (b.drop m))) ∧ w' = W' := by
  have h2 := RB_drop h (n := m) (by omega) (by omega : b.length ≤ c)
  have hl : (b.drop m).length = 64 - m := by rw [List.length_drop, h64]
  have h3 := blank_any (c := c - m) (Kd.F_now (RB_below h2 hW))
  rw [hl] at h3
  exact h3
abbrev W4s (w : World) (n : Nat) (v0 v1 v2 v3 : Value) : World := (((w.setCell ⟨n, 0, none⟩ v0).setCell ⟨n, 1, none⟩ v1).setCell ⟨n, 2, none⟩ v2).setCell ⟨n, 3, none⟩ v3
theorem set4 {w : World} {n T : Nat} {a0 a1 a2 a3 : Value} (h : w.heap[n]? = some (.cells #[a0, a1, a2, a3] T (0, 0))) (v0 v1 v2 v3 : Value) : (W4s w n v0 v1 v2 v3).heap[n]? = some (.cells #[v0, v1, v2, v3] T (0, 0)) := by
  have h1 := heap_setCell_same w n 0 _ _ v0 h
  have h2 := heap_setCell_same _ n 1 _ _ v1 h1
  have h3 := heap_setCell_same _ n 2 _ _ v2 h2
  have h4 := heap_setCell_same _ n 3 _ _ v3 h3
  exact h4
theorem below4 {B : Nat} {w0 w : World} (h : Below B w0 w) {n : Nat} (hn : B ≤ n) (v0 v1 v2 v3 : Value) : Below B w0 (W4s w n v0 v1 v2 v3) := (((h.setCell (p := ⟨n, 0, none⟩) hn v0).setCell (p := ⟨n, 1, none⟩) hn v1).setCell (p := ⟨n, 2, none⟩) hn v2).setCell (p := ⟨n, 3, none⟩) hn v3
set_option maxRecDepth 100000 in
set_option maxHeartbeats 4000000 in
theorem head_any {w : World} {ok : Nat → Prop} {A : Option Addr} {c : Nat} {b : List Int} (h : RB w ok A b) (hb : Bytes b) (hc : b.length ≤ c) :
  Calls Tryz.prog 121 #[.slice A b.length c] w (HeadPost b w) := by
  have hlm := RB_len h
  obtain ⟨w0, hw0⟩ : ∃ w0, w.alloc (.cells #[.int .u64 0, .int .i64 0, .int .i64 0, .slice none 0 0] 117) = w0 := ⟨_, rfl⟩
  have hfin : Below w.heap.size w w0 := by rw [← hw0]; exact below_alloc (Below.refl _ _) _
  by_cases h64 : b.length = 64
  · obtain ⟨a, rfl⟩ := RB_some h (by omega)
    have hp2 : RB w ok (some a) (b.take 2) := RB_take h (by omega)
    have hcv : (convert 25 9 (.slice (some a) 2 c)).run Tryz.prog w0 = .ok (.string (strOfNums (b.take 2))) w0 := by
      have := conv_str (c := c) (Kd.F_now (RB_below hp2 hfin))
      rwa [show (b.take 2).length = 2 from by rw [List.length_take]; omega] at this
    have hs := str_iff (hb.take 2) (show Bytes [102, 104] from fun x hx => by simp at hx; omega)
    rw [show strOfNums [102, 104] = ⟨#[102, 104]⟩ from rfl] at hs
    rw [h64] at hc ⊢
    have i2 : (2 : Int) ≤ (c : Int) := by omega
    by_cases ht : b.take 2 = [102, 104]
    · have hS := hs.2 ht
      rw [hS] at hcv
      clear hs hS
      have n17 : ¬ c = 17 := by omega
      have n13 : ¬ c = 13 := by omega
      have n2 : ¬ c = 2 := by omega
      have n10 : ¬ c = 10 := by omega
      have i10 : (10 : Int) ≤ (c : Int) := by omega
      have i12 : (12 : Int) ≤ (c : Int) := by omega
      have i17 : (17 : Int) ≤ (c : Int) := by omega
      have hR := RB_int h
      obtain ⟨ad, e0, k12⟩ := hR.at_ 12 (by omega) (by omega)
      cases e0
      simp only [rd, show (12 : Int).toNat = 12 from rfl] at k12
      have hx12 : 0 ≤ b.getD 12 0 ∧ b.getD 12 0 < 256 := hb.rd_ 12
      have c0 := number_part (RB_below h hfin) hb 13 4 (c - 13) (by omega) (by omega)
      have c1 : ∀ W', Below w.heap.size w W' → Calls Tryz.prog 157 #[.slice (some (a.add 2)) 8 (c - 2)] W' fun e w' => e = .returned (.int .u64 (numAt b 2 8)) ∧ w' = W' := fun W' hW => number_part (RB_below h hW) hb 2 8 (c - 2) (by omega) (by omega)
      have c2 : ∀ W', Below w.heap.size w W' → Calls Tryz.prog 157 #[.slice (some (a.add 10)) 2 (c - 10)] W' fun e w' => e = .returned (.int .u64 (numAt b 10 2)) ∧ w' = W' := fun W' hW => number_part (RB_below h hW) hb 10 2 (c - 10) (by omega) (by omega)
      have l0 := numAt_lt hb (i := 13) (n := 4) (by omega)
      have l1 := numAt_lt hb (i := 2) (n := 8) (by omega)
      have l2 := numAt_lt hb (i := 10) (n := 2) (by omega)
      rw [show (256 : Int) ^ 4 = 4294967296 from by decide] at l0
      rw [show (256 : Int) ^ 8 = 18446744073709551616 from by decide] at l1
      rw [show (256 : Int) ^ 2 = 65536 from by decide] at l2
      have hmm : min (numAt b 13 4) 47 = ((headM b : Nat) : Int) := by unfold headM; omega
      have hm47 : headM b ≤ 47 := by unfold headM; omega
      have hpart : RB w ok (some (a.add 17)) ((b.drop 17).take (headM b)) := part h (by omega)
      have hplen : ((b.drop 17).take (headM b)).length = headM b := part_len (by omega)
      have hbl : ∀ W', Below w.heap.size w W' → Calls Tryz.prog 158 #[.slice (behind (some a) (17 + headM b) c) (64 - (17 + headM b)) (c - (17 + headM b))] W' fun e w' => e = .returned (.bool (blank (b.drop (17 + headM b)))) ∧ w' = W' := fun W' hW => blank_tail h hW h64 (by omega) hc
      have hOK : headOK b ↔ ¬ numAt b 2 8 = 0 ∧ numAt b 13 4 ≤ 131072 ∧ blank (b.drop (17 + headM b)) = true := ⟨fun hh => hh.2.2, fun hh => ⟨h64, ht, hh⟩⟩
      have hRR : headOK b → HeadPost b w = fun e w' => ∃ A c, e = .returned (.tuple #[.agg #[.int .u64 (numAt b 2 8), .int .i64 (numAt b 10 2), .int .i64 (b.getD 12 0), .slice A (headM b) c], .int .i64 (numAt b 13 4), .bool true]) ∧ KB.R 5 w' w.heap.size (fun k => w.heap.size ≤ k) (.slice A (headM b) c) ((b.drop 17).take (headM b)) ∧ headM b ≤ c ∧ Below w.heap.size w w' := fun hh => by
        unfold HeadPost
        rw [show headR b = ⟨numAt b 2 8, numAt b 10 2, b.getD 12 0, (b.drop 17).take (headM b)⟩ from if_pos hh, show headN b = numAt b 13 4 from if_pos hh, show decide (headOK b) = true from decide_eq_true hh]
        unfold recV
        dsimp only
        rw [hplen]
      have HRR := hid hRR
      have HOK := hid hOK
      have HM := hid hmm
      clear hRR hOK hR hmm
      generalize hmq : headM b = m at HRR HOK HM hm47 hpart hplen hbl
      generalize numAt b 13 4 = nn at c0 l0 HRR HOK HM
      generalize numAt b 2 8 = g at c1 l1 HRR HOK
      generalize numAt b 10 2 = at_ at c2 l2 HRR HOK
      generalize b.getD 12 0 = x12 at k12 hx12 HRR
      generalize blank (b.drop (17 + m)) = bl at hbl HOK
      have u0 : IntKind.i64.wrap nn = nn := by rw [IntKind.wrap_i64]; omega
      have u2 : IntKind.i64.wrap at_ = at_ := by rw [IntKind.wrap_i64]; omega
      have u12 : IntKind.i64.wrap x12 = x12 := by rw [IntKind.wrap_i64]; omega
      go_enter Tryz.func121, Tryz.ntmps121
      go_wp2_with fail
      refine c0.mono ?_
      rintro e w1 ⟨rfl, hw1⟩
      subst hw1
      have hz : w1.heap[w.heap.size]? = some (.cells #[.int .u64 0, .int .i64 0, .int .i64 0, .slice none 0 0] 117 (0, 0)) := by rw [← hw0]; exact heap_alloc_new w _
      clear hw0 hcv c0
      have k12' : w.cell? { block := a.block, off := a.off + 12 } = some (.int .u8 x12) := by simpa [Addr.add] using k12
      have hS0 : Below w.heap.size w w1.drew := hfin.drew
      have hSa : ∀ o, Below w.heap.size w (w1.drew.alloc o) := fun o => hfin.drew.alloc hfin.drew.size o
      go_wp2_with fail
      apply wp_region_eq
      case h =>
        refine wp_region_plan [] (.take 0 (.take 1 (.take 3 (.take 4 (.take 7 (.take 8 (.take 9 (.take 10 (.both 2 (.both 5 (.take 6 (.take 11 (.run 12 (.run 13 .done)))) 12 (.run 5 (.take 6 (.take 11 (.run 13 .done))))) 12 (.run 2 (.run 5 (.take 6 (.take 11 (.run 13 .done)))))))))))))) (fun W' => Below w.heap.size w W') (by kernel_rfl) (by kernel_rfl) (fun c a d v w h => absurd h.1 (by simp)) hS0 ?_
        apply plan_take rfl rfl
        case hy => (intro w' hS; have e0 := pw_cell_below hS k12'; clear hS; go_simp; try exact rfl)
        go_simp
        apply plan_take rfl rfl
        case hy => (intro w' hS; have e0 := pw_cell_below hS k12'; clear hS; go_simp; try exact rfl)
        go_simp
        apply plan_take rfl rfl
        case hy => (intro w' hS; have e0 := pw_cell_below hS k12'; clear hS; go_simp; try exact rfl)
        go_simp
        apply plan_take rfl rfl
        case hy => (intro w' hS; have e0 := pw_cell_below hS k12'; clear hS; go_simp; try exact rfl)
        go_simp
        apply plan_take rfl rfl
        case hy => (intro w' hS; have e0 := pw_cell_below hS k12'; clear hS; go_simp; try exact rfl)
        go_simp
        apply plan_take rfl rfl
        case hy => (intro w' hS; have e0 := pw_cell_below hS k12'; clear hS; go_simp; try exact rfl)
        go_simp
        apply plan_take rfl rfl
        case hy => (intro w' hS; have e0 := pw_cell_below hS k12'; clear hS; go_simp; try exact rfl)
        go_simp
        apply plan_take rfl rfl
        case hy => (intro w' hS; have e0 := pw_cell_below hS k12'; clear hS; go_simp; try exact rfl)
        go_simp
        refine plan_both ?_ ?_
        · refine plan_run_on rfl rfl (fun K hK => ?_)
          go_simp
          refine (c1 _ hS0).mono ?_
          rintro e w2 ⟨rfl, rfl⟩
          refine hK _ _ _ (fun _ h => h) hS0 ?_
          clear hK K
          go_simp
          refine plan_both ?_ ?_
          · refine plan_run_on rfl rfl (fun K hK => ?_)
            go_simp
            refine (c2 _ hS0).mono ?_
            rintro e w2 ⟨rfl, rfl⟩
            refine hK _ _ _ (fun _ h => h) hS0 ?_
            clear hK K
            go_simp
            apply plan_take rfl rfl
            case hy => (intro w' hS; have e0 := pw_cell_below hS k12'; clear hS; go_simp; try exact rfl)
            go_simp
            apply plan_take rfl rfl
            case hy => (intro w' hS; have e0 := pw_cell_below hS k12'; clear hS; go_simp; try exact rfl)
            go_simp
            refine plan_run_on rfl rfl (fun K hK => ?_)
            go_simp
            refine hK _ _ _ (fun _ h => h) (hSa _) ?_
            clear hK K
            go_simp
            refine plan_run_on rfl rfl (fun K hK => ?_)
            go_simp
            refine hK _ _ _ (fun _ h => h) (hSa _) ?_
            clear hK K
            exact plan_done ⟨rfl, rfl, rfl⟩
          · refine plan_run_on rfl rfl (fun K hK => ?_)
            go_simp
            refine hK _ _ _ (fun _ h => h) (hSa _) ?_
            clear hK K
            go_simp
            refine plan_run_on rfl rfl (fun K hK => ?_)
            go_simp
            refine (c2 _ (hSa _)).mono ?_
            rintro e w2 ⟨rfl, rfl⟩
            refine hK _ _ _ (fun _ h => h) (hSa _) ?_
            clear hK K
            go_simp
            apply plan_take rfl rfl
            case hy => (intro w' hS; have e0 := pw_cell_below hS k12'; clear hS; go_simp; try exact rfl)
            go_simp
            apply plan_take rfl rfl
            case hy => (intro w' hS; have e0 := pw_cell_below hS k12'; clear hS; go_simp; try exact rfl)
            go_simp
            refine plan_run_on rfl rfl (fun K hK => ?_)
            go_simp
            refine hK _ _ _ (fun _ h => h) (hSa _) ?_
            clear hK K
            exact plan_done ⟨rfl, rfl, rfl⟩
        · refine plan_run_on rfl rfl (fun K hK => ?_)
          go_simp
          refine hK _ _ _ (fun _ h => h) (hSa _) ?_
          clear hK K
          go_simp
          refine plan_run_on rfl rfl (fun K hK => ?_)
          go_simp
          refine (c1 _ (hSa _)).mono ?_
          rintro e w2 ⟨rfl, rfl⟩
          refine hK _ _ _ (fun _ h => h) (hSa _) ?_
          clear hK K
          go_simp
          refine plan_run_on rfl rfl (fun K hK => ?_)
          go_simp
          refine (c2 _ (hSa _)).mono ?_
          rintro e w2 ⟨rfl, rfl⟩
          refine hK _ _ _ (fun _ h => h) (hSa _) ?_
          clear hK K
          go_simp
          apply plan_take rfl rfl
          case hy => (intro w' hS; have e0 := pw_cell_below hS k12'; clear hS; go_simp; try exact rfl)
          go_simp
          apply plan_take rfl rfl
          case hy => (intro w' hS; have e0 := pw_cell_below hS k12'; clear hS; go_simp; try exact rfl)
          go_simp
          refine plan_run_on rfl rfl (fun K hK => ?_)
          go_simp
          refine hK _ _ _ (fun _ h => h) (hSa _) ?_
          clear hK K
          exact plan_done ⟨rfl, rfl, rfl⟩
      case hQ =>
        have hr2 : ((w1.alloc (.cells #[.int .u64 g, .int .i64 at_, .int .i64 x12, .slice none 0 0] 117)).drew).heap[w1.heap.size]? = some (.cells #[.int .u64 g, .int .i64 at_, .int .i64 x12, .slice none 0 0] 117 (0, 0)) := heap_alloc_new w1 _
        have hz2 : ((w1.alloc (.cells #[.int .u64 g, .int .i64 at_, .int .i64 x12, .slice none 0 0] 117)).drew).heap[w.heap.size]? = some (.cells #[.int .u64 0, .int .i64 0, .int .i64 0, .slice none 0 0] 117 (0, 0)) := (Below.heap_alloc w1 _ w.heap.size (blk_lt hz)).trans hz
        have hB2 : Below w.heap.size w ((w1.alloc (.cells #[.int .u64 g, .int .i64 at_, .int .i64 x12, .slice none 0 0] 117)).drew) := (hfin.alloc hfin.size _).drew
        have hlt2 := blk_lt hz
        clear hS0 hSa hz c1 c2
        generalize (w1.alloc (.cells #[.int .u64 g, .int .i64 at_, .int .i64 x12, .slice none 0 0] 117)).drew = w2 at hr2 hz2 hB2 ⊢
        generalize w1.heap.size = rb at hr2 hlt2 ⊢
        clear hfin k12 k12'
        have q0 := cell_of_row _ _ 0 _ _ _ hr2
        have q3 := cell_of_row _ _ 3 _ _ _ hr2
        have hmin : Builtin.min2 (.int .i64 nn) (.int .i64 47) = pure (.int .i64 (m : Int)) := by
          have hmm := HM.out
          rw [min2_int, ← hmm]
          congr 2
          split <;> omega
        have htn : (17 + (m : Int)).toNat = 17 + m := by omega
        have him : (17 : Int) + (m : Int) ≤ 64 := by omega
        have him2 : (17 : Int) + (m : Int) ≤ (c : Int) := by omega
        have z0 := cell_of_row _ _ 0 _ _ _ hz2
        have z1 := cell_of_row _ _ 1 _ _ _ hz2
        have z2 := cell_of_row _ _ 2 _ _ _ hz2
        have z3 := cell_of_row _ _ 3 _ _ _ hz2
        have f0 := frozen_of_row _ _ 0 _ _ hz2
        have f1 := frozen_of_row _ _ 1 _ _ hz2
        have f2 := frozen_of_row _ _ 2 _ _ hz2
        have f3 := frozen_of_row _ _ 3 _ _ hz2
        by_cases hg : g = 0
        · have hno : ¬ headOK b := fun hh => (HOK.out.1 hh).1 hg
          subst hg
          go_wp2
          refine bodyPost_ret (results_ctt rfl _ _ w.heap.size 117 _ _ _ rfl (set4 hz2 (.int .u64 0) (.int .i64 0) (.int .i64 0) (.slice none 0 0)) Tryz.underlying117 rfl (by kernel_rfl)) rfl ?_
          exact head_none hno rfl (below4 hB2 (Nat.le_refl _) _ _ _ _)
        have hg2 : (g == 0) = false := by simpa using hg
        by_cases hn : 131072 < nn
        · have hno : ¬ headOK b := fun hh => by have := (HOK.out.1 hh).2.1; omega
          go_wp2
          refine bodyPost_ret (results_ctt rfl _ _ w.heap.size 117 _ _ _ rfl (set4 hz2 (.int .u64 0) (.int .i64 0) (.int .i64 0) (.slice none 0 0)) Tryz.underlying117 rfl (by kernel_rfl)) rfl ?_
          exact head_none hno rfl (below4 hB2 (Nat.le_refl _) _ _ _ _)
        have hbl2 := hbl w2 hB2
        have BL : ∀ (V : Value), V = .slice (behind (some a) (17 + m) c) (64 - (17 + m)) (c - (17 + m)) → Calls Tryz.prog 158 #[V] w2 fun e w' => e = .returned (.bool bl) ∧ w' = w2 := fun V e => by rw [e]; exact hbl2
        clear hbl hbl2
        by_cases hcm : c = 17 + m
        have hwm : IntKind.i64.wrap (17 + (m : Int)) = 17 + (m : Int) := by rw [IntKind.wrap_i64]; omega
        have h17 : (17 : Int) ≤ 17 + (m : Int) := by omega
        have h017 : (0 : Int) ≤ 17 + (m : Int) := by omega
        · have hm0 : ¬ m = 0 := by omega
          subst hcm
          go_wp2_with fail
          refine (BL _ ?_).mono ?_
          · unfold behind
            rw [if_pos rfl, Nat.sub_self, show 64 - (17 + m) = 0 from by omega]
          rintro e w3 ⟨rfl, rfl⟩
          clear BL
          have hlt3 : rb < w3.heap.size := blk_lt hr2
          cases bl with
          | false =>
            have hno : ¬ headOK b := fun hh => by have := (HOK.out.1 hh).2.2; cases this
            go_wp2
            refine bodyPost_ret (results_ctt rfl _ _ w.heap.size 117 _ _ _ rfl (set4 hz2 (.int .u64 0) (.int .i64 0) (.int .i64 0) (.slice none 0 0)) Tryz.underlying117 rfl (by kernel_rfl)) rfl ?_
            exact head_none hno rfl (below4 hB2 (Nat.le_refl _) _ _ _ _)
          | true =>
            have hh : headOK b := HOK.out.2 ⟨hg, by omega, rfl⟩
            have HP := hid (HRR.out hh)
            clear HRR HOK
            have hRm : ReadsInt w3.drew .u8 (some (a.add 17)) m ((b.drop 17).take m) := by
              have := RB_int (RB_below hpart hB2.drew)
              rwa [hplen] at this
            go_wp2_with fail
            refine wp_region_plan [7, 8] (.take 0 (.take 1 (.take 2 (.take 3 (.take 4 (.take 5 (.run 6 (.tail 7 (.tail 8 .done))))))))) (fun W' => W'.cell? ⟨rb, 3, none⟩ = some (.slice none 0 0)) (by kernel_rfl) (by kernel_rfl) (fun c a d v w h => by cases d <;> exact h) q3 ?_
            have hwm2 : IntKind.i64.wrap (17 + (m : Int)) = 17 + (m : Int) := by rw [IntKind.wrap_i64]; omega
            have h172 : (17 : Int) ≤ 17 + (m : Int) := by omega
            have h0172 : (0 : Int) ≤ 17 + (m : Int) := by omega
            have htn2 : (17 + (m : Int)).toNat = 17 + m := by omega
            iterate 6 (apply plan_take rfl rfl; (case hy => (intro w' hS; go_simp; try exact rfl)); go_simp)
            refine plan_run_on rfl rfl (fun K hK => ?_)
            refine step_append_row (w0 := w3.drew) w3.heap.size (.tmp 53) (.tmp 57) 25 5 .u8 1 rfl Tryz.underlying25 info_u8 (by decide) _ [] ((b.drop 17).take m) (some (a.add 17)) m m rfl rfl (World.ownsRow_nil _ _ _ _) hRm (Below.refl _ _) (Nat.le_refl _) (by simp; omega) ?_
            intro v1 w4 ho hB4 hg4 hat
            have hR4 : KB.R 5 w4 w3.heap.size (fun q => w3.heap.size ≤ q) v1 ((b.drop 17).take m) := Rown (by simpa using ho) (fun q hq => own_base ho q hq)
            obtain ⟨A4, c4, rfl, hle4, hC4⟩ := Kd.R_reads hR4
            rw [hplen] at hle4 hR4 ⊢
            have HR4 := hid hR4
            clear ho hg4 hat hR4 hC4
            have hr4 : w4.heap[rb]? = some (.cells #[.int .u64 g, .int .i64 at_, .int .i64 x12, .slice none 0 0] 117 (0, 0)) := (hB4.block rb hlt3).trans hr2
            have hz4 : w4.heap[w.heap.size]? = some (.cells #[.int .u64 0, .int .i64 0, .int .i64 0, .slice none 0 0] 117 (0, 0)) := (hB4.block w.heap.size (blk_lt hz2)).trans hz2
            have hBw4 : Below w.heap.size w w4 := hB2.drew.trans (hB4.mono hB2.size)
            have p3 := cell_of_row _ _ 3 _ _ _ hr4
            have pf3 := frozen_of_row _ _ 3 _ _ hr4
            simp at p3
            refine hK _ _ _ (fun _ h => h) p3 ?_
            clear hK K
            go_simp
            refine plan_tail_on rfl rfl (fun K hK => ?_)
            go_simp
            refine hK _ _ ?_
            clear hK K
            refine plan_tail_on rfl rfl (fun K hK => ?_)
            go_simp
            refine hK _ _ (plan_done ?_)
            clear hK K
            have hr5 := heap_setCell_same w4 rb 3 _ _ (.slice A4 m c4) hr4
            have hz5 := (Below.heap_setCell w4 ⟨rb, 3, none⟩ (.slice A4 m c4) w.heap.size (by show w.heap.size ≠ rb; omega)).trans hz4
            have hB5 : Below w.heap.size w (w4.setCell ⟨rb, 3, none⟩ (.slice A4 m c4)) := hBw4.setCell (p := ⟨rb, 3, none⟩) (by show w.heap.size ≤ rb; omega) _
            have hk5 : ∀ k, w3.heap.size ≤ k → (w4.setCell ⟨rb, 3, none⟩ (.slice A4 m c4)).heap[k]? = w4.heap[k]? := fun k hk => Below.heap_setCell w4 ⟨rb, 3, none⟩ (.slice A4 m c4) k (by show k ≠ rb; omega)
            clear q0 q3 z0 z1 z2 z3 f0 f1 f2 f3 p3 pf3 hr4 hz4
            generalize w4.setCell ⟨rb, 3, none⟩ (.slice A4 m c4) = w5 at hr5 hz5 hB5 hk5 ⊢
            have hn2 := blk_lt hz2
            clear hr2 hz2 hRm
            have q0 := cell_of_row _ _ 0 _ _ _ hr5
            have q1 := cell_of_row _ _ 1 _ _ _ hr5
            have q2 := cell_of_row _ _ 2 _ _ _ hr5
            have q3 := cell_of_row _ _ 3 _ _ _ hr5
            have z0 := cell_of_row _ _ 0 _ _ _ hz5
            have z1 := cell_of_row _ _ 1 _ _ _ hz5
            have z2 := cell_of_row _ _ 2 _ _ _ hz5
            have z3 := cell_of_row _ _ 3 _ _ _ hz5
            have f0 := frozen_of_row _ _ 0 _ _ hz5
            have f1 := frozen_of_row _ _ 1 _ _ hz5
            have f2 := frozen_of_row _ _ 2 _ _ hz5
            have f3 := frozen_of_row _ _ 3 _ _ hz5
            simp at q0 q1 q2 q3 z0 z1 z2 z3
            go_wp2
            refine bodyPost_ret (results_ctt rfl _ _ w.heap.size 117 _ _ _ rfl (set4 hz5 (.int .u64 g) (.int .i64 at_) (.int .i64 x12) (.slice A4 m c4)) Tryz.underlying117 rfl (by kernel_rfl)) rfl ?_
            rw [HP.out]
            refine ⟨A4, c4, rfl, ?_, hle4, below4 hB5 (Nat.le_refl _) _ _ _ _⟩
            have hall : ∀ k, w3.heap.size ≤ k → (W4s w5 w.heap.size (.int .u64 g) (.int .i64 at_) (.int .i64 x12) (.slice A4 m c4)).heap[k]? = w4.heap[k]? := fun k hk => by
              have hb := (below4 (Below.refl w.heap.size w5) (Nat.le_refl _) (.int .u64 g) (.int .i64 at_) (.int .i64 x12) (.slice A4 m c4))
              have hne : k ≠ w.heap.size := by omega
              rw [← hk5 k hk]
              unfold W4s
              rw [Below.heap_setCell _ _ _ _ hne, Below.heap_setCell _ _ _ _ hne, Below.heap_setCell _ _ _ _ hne, Below.heap_setCell _ _ _ _ hne]
            exact Kd.R_lower (Kd.R_mono (Kd.R_step HR4.out (fun k hk _ => hall k hk)) (fun k hk => by omega)) (by omega)
        · go_wp2_with fail
          refine (BL _ ?_).mono ?_
          · unfold behind
            rw [if_neg hcm]
            rfl
          rintro e w3 ⟨rfl, rfl⟩
          clear BL
          have hlt3 : rb < w3.heap.size := blk_lt hr2
          cases bl with
          | false =>
            have hno : ¬ headOK b := fun hh => by have := (HOK.out.1 hh).2.2; cases this
            go_wp2
            refine bodyPost_ret (results_ctt rfl _ _ w.heap.size 117 _ _ _ rfl (set4 hz2 (.int .u64 0) (.int .i64 0) (.int .i64 0) (.slice none 0 0)) Tryz.underlying117 rfl (by kernel_rfl)) rfl ?_
            exact head_none hno rfl (below4 hB2 (Nat.le_refl _) _ _ _ _)
          | true =>
            have hh : headOK b := HOK.out.2 ⟨hg, by omega, rfl⟩
            have HP := hid (HRR.out hh)
            clear HRR HOK
            have hRm : ReadsInt w3.drew .u8 (some (a.add 17)) m ((b.drop 17).take m) := by
              have := RB_int (RB_below hpart hB2.drew)
              rwa [hplen] at this
            go_wp2_with fail
            refine wp_region_plan [7, 8] (.take 0 (.take 1 (.take 2 (.take 3 (.take 4 (.take 5 (.run 6 (.tail 7 (.tail 8 .done))))))))) (fun W' => W'.cell? ⟨rb, 3, none⟩ = some (.slice none 0 0)) (by kernel_rfl) (by kernel_rfl) (fun c a d v w h => by cases d <;> exact h) q3 ?_
            have hwm2 : IntKind.i64.wrap (17 + (m : Int)) = 17 + (m : Int) := by rw [IntKind.wrap_i64]; omega
            have h172 : (17 : Int) ≤ 17 + (m : Int) := by omega
            have h0172 : (0 : Int) ≤ 17 + (m : Int) := by omega
            have htn2 : (17 + (m : Int)).toNat = 17 + m := by omega
            iterate 6 (apply plan_take rfl rfl; (case hy => (intro w' hS; go_simp; try exact rfl)); go_simp)
            refine plan_run_on rfl rfl (fun K hK => ?_)
            refine step_append_row (w0 := w3.drew) w3.heap.size (.tmp 53) (.tmp 57) 25 5 .u8 1 rfl Tryz.underlying25 info_u8 (by decide) _ [] ((b.drop 17).take m) (some (a.add 17)) m (c - 17) rfl rfl (World.ownsRow_nil _ _ _ _) hRm (Below.refl _ _) (Nat.le_refl _) (by simp; omega) ?_
            intro v1 w4 ho hB4 hg4 hat
            have hR4 : KB.R 5 w4 w3.heap.size (fun q => w3.heap.size ≤ q) v1 ((b.drop 17).take m) := Rown (by simpa using ho) (fun q hq => own_base ho q hq)
            obtain ⟨A4, c4, rfl, hle4, hC4⟩ := Kd.R_reads hR4
            rw [hplen] at hle4 hR4 ⊢
            have HR4 := hid hR4
            clear ho hg4 hat hR4 hC4
            have hr4 : w4.heap[rb]? = some (.cells #[.int .u64 g, .int .i64 at_, .int .i64 x12, .slice none 0 0] 117 (0, 0)) := (hB4.block rb hlt3).trans hr2
            have hz4 : w4.heap[w.heap.size]? = some (.cells #[.int .u64 0, .int .i64 0, .int .i64 0, .slice none 0 0] 117 (0, 0)) := (hB4.block w.heap.size (blk_lt hz2)).trans hz2
            have hBw4 : Below w.heap.size w w4 := hB2.drew.trans (hB4.mono hB2.size)
            have p3 := cell_of_row _ _ 3 _ _ _ hr4
            have pf3 := frozen_of_row _ _ 3 _ _ hr4
            simp at p3
            refine hK _ _ _ (fun _ h => h) p3 ?_
            clear hK K
            go_simp
            refine plan_tail_on rfl rfl (fun K hK => ?_)
            go_simp
            refine hK _ _ ?_
            clear hK K
            refine plan_tail_on rfl rfl (fun K hK => ?_)
            go_simp
            refine hK _ _ (plan_done ?_)
            clear hK K
            have hr5 := heap_setCell_same w4 rb 3 _ _ (.slice A4 m c4) hr4
            have hz5 := (Below.heap_setCell w4 ⟨rb, 3, none⟩ (.slice A4 m c4) w.heap.size (by show w.heap.size ≠ rb; omega)).trans hz4
            have hB5 : Below w.heap.size w (w4.setCell ⟨rb, 3, none⟩ (.slice A4 m c4)) := hBw4.setCell (p := ⟨rb, 3, none⟩) (by show w.heap.size ≤ rb; omega) _
            have hk5 : ∀ k, w3.heap.size ≤ k → (w4.setCell ⟨rb, 3, none⟩ (.slice A4 m c4)).heap[k]? = w4.heap[k]? := fun k hk => Below.heap_setCell w4 ⟨rb, 3, none⟩ (.slice A4 m c4) k (by show k ≠ rb; omega)
            clear q0 q3 z0 z1 z2 z3 f0 f1 f2 f3 p3 pf3 hr4 hz4
            generalize w4.setCell ⟨rb, 3, none⟩ (.slice A4 m c4) = w5 at hr5 hz5 hB5 hk5 ⊢
            have hn2 := blk_lt hz2
            clear hr2 hz2 hRm
            have q0 := cell_of_row _ _ 0 _ _ _ hr5
            have q1 := cell_of_row _ _ 1 _ _ _ hr5
            have q2 := cell_of_row _ _ 2 _ _ _ hr5
            have q3 := cell_of_row _ _ 3 _ _ _ hr5
            have z0 := cell_of_row _ _ 0 _ _ _ hz5
            have z1 := cell_of_row _ _ 1 _ _ _ hz5
            have z2 := cell_of_row _ _ 2 _ _ _ hz5
            have z3 := cell_of_row _ _ 3 _ _ _ hz5
            have f0 := frozen_of_row _ _ 0 _ _ hz5
            have f1 := frozen_of_row _ _ 1 _ _ hz5
            have f2 := frozen_of_row _ _ 2 _ _ hz5
            have f3 := frozen_of_row _ _ 3 _ _ hz5
            simp at q0 q1 q2 q3 z0 z1 z2 z3
            go_wp2
            refine bodyPost_ret (results_ctt rfl _ _ w.heap.size 117 _ _ _ rfl (set4 hz5 (.int .u64 g) (.int .i64 at_) (.int .i64 x12) (.slice A4 m c4)) Tryz.underlying117 rfl (by kernel_rfl)) rfl ?_
            rw [HP.out]
            refine ⟨A4, c4, rfl, ?_, hle4, below4 hB5 (Nat.le_refl _) _ _ _ _⟩
            have hall : ∀ k, w3.heap.size ≤ k → (W4s w5 w.heap.size (.int .u64 g) (.int .i64 at_) (.int .i64 x12) (.slice A4 m c4)).heap[k]? = w4.heap[k]? := fun k hk => by
              have hb := (below4 (Below.refl w.heap.size w5) (Nat.le_refl _) (.int .u64 g) (.int .i64 at_) (.int .i64 x12) (.slice A4 m c4))
              have hne : k ≠ w.heap.size := by omega
              rw [← hk5 k hk]
              unfold W4s
              rw [Below.heap_setCell _ _ _ _ hne, Below.heap_setCell _ _ _ _ hne, Below.heap_setCell _ _ _ _ hne, Below.heap_setCell _ _ _ _ hne]
            exact Kd.R_lower (Kd.R_mono (Kd.R_step HR4.out (fun k hk _ => hall k hk)) (fun k hk => by omega)) (by omega)
    · have hno : ¬ headOK b := fun hh => ht hh.2.1
      have hS : ¬ strOfNums (b.take 2) = ⟨#[102, 104]⟩ := fun e => ht (hs.1 e)
      generalize strOfNums (b.take 2) = S at hcv hS
      have hS2 : (S.toList == [102, 104]) = false := str_neq hS
      clear hs
      rw [← hw0] at hcv
      clear hw0
      go_enter Tryz.func121, Tryz.ntmps121
      go_wp2
      refine bodyPost_ret (results_ctt rfl _ _ w.heap.size 117 _ _ _ rfl (heap_alloc_new w _) Tryz.underlying117 rfl (by kernel_rfl)) rfl ?_
      exact head_none hno rfl (below_alloc (Below.refl _ _) _)
  · have hno : ¬ headOK b := fun hh => h64 hh.1
    have hne : ((b.length : Int) != 64) = true := by simp; omega
    have hne2 : ¬ (b.length : Int) = 64 := by omega
    clear hw0
    go_enter Tryz.func121, Tryz.ntmps121
    go_wp2
    refine bodyPost_ret (results_ctt rfl _ _ w.heap.size 117 _ _ _ rfl (heap_alloc_new w _) Tryz.underlying117 rfl (by kernel_rfl)) rfl ?_
    exact head_none hno rfl (below_alloc (Below.refl _ _) _)
end Go.Proofs.YticogmpafehomaaGreatDoor

set_option linter.unusedVariables false
set_option linter.unusedSimpArgs false
namespace Go.Proofs.YticogmpafehomaaGreatDoor
open Go.RowKit Go.Proofs.YticogmpafehomaaGreatDoorW.PrintWords Go.Proofs.YticogmpafehomaaGreatDoorW.PrintMore
attribute [local go_sem] max_three max2_int

/-- The greatest generation in k blocks from b0 on. -/
def genK (D : DM) (b0 : Nat) : Nat → Int
  | 0 => 0
  | k + 1 => max (max (genK D b0 k) (headR (D.blk (b0 + k))).gen) (bodyV (D.blk (b0 + k))).1
theorem headR_gen {b : List Int} (h : Bytes b) : 0 ≤ (headR b).gen ∧ (headR b).gen < 18446744073709551616 := by
  unfold headR
  split
  · rename_i hh
    have := numAt_lt h (i := 2) (n := 8) (by have := hh.1; omega)
    rwa [show (256 : Int) ^ 8 = 18446744073709551616 from by decide] at this
  · simp
theorem bodyV_gen {b : List Int} (h : Bytes b) : 0 ≤ (bodyV b).1 ∧ (bodyV b).1 < 18446744073709551616 := by
  unfold bodyV
  split
  · rename_i hh
    have := numAt_lt h (i := 2) (n := 8) (by have := hh.1; omega)
    rwa [show (256 : Int) ^ 8 = 18446744073709551616 from by decide] at this
  · simp
theorem blk_bytes {D : DM} (h : D.wf) (i : Nat) : Bytes (D.blk i) := (h.bytes.drop _).take _
theorem ready_in {D : DM} {i : Nat} (hg : D.gone = false) (hi : i < D.n) : D.ready i = 0 := by
  unfold DM.ready
  rw [if_neg (by simp [hg]), if_neg (by omega)]
end Go.Proofs.YticogmpafehomaaGreatDoor

set_option linter.unusedVariables false
set_option linter.unusedSimpArgs false
namespace Go.Proofs.YticogmpafehomaaGreatDoor
open Go.RowKit Go.Proofs.YticogmpafehomaaGreatDoorW.PrintWords Go.Proofs.YticogmpafehomaaGreatDoorW.PrintMore
attribute [local go_sem] max_three max2_int min_two min2_int

end Go.Proofs.YticogmpafehomaaGreatDoor

set_option linter.unusedVariables false
set_option linter.unusedSimpArgs false
namespace Go.Proofs.YticogmpafehomaaGreatDoor
open Go.RowKit Go.Proofs.YticogmpafehomaaGreatDoorW.PrintWords Go.Proofs.YticogmpafehomaaGreatDoorW.PrintMore
attribute [local go_sem] min_two

end Go.Proofs.YticogmpafehomaaGreatDoor

set_option linter.unusedVariables false
set_option linter.unusedSimpArgs false
namespace Go.Proofs.YticogmpafehomaaGreatDoor
open Go.RowKit Go.Proofs.YticogmpafehomaaGreatDoorW.PrintWords Go.Proofs.YticogmpafehomaaGreatDoorW.PrintMore

theorem right_of {r : SR} (h : sealE r = 0) (hg : 0 ≤ r.gen ∧ r.gen < 18446744073709551616) (hb : Bytes r.bytes) : r.right := by
  unfold sealE at h
  split at h
  · simp at h
  · split at h
    · simp at h
    · exact ⟨by omega, by omega, by omega, hb, by omega⟩
theorem swrite_any {w : World} {okd okr : Nat → Prop} {D : DM} {A : Option Addr} {c : Nat} (p : Nat) (base : Int) (r : SR) (h : PDisk w okd p D) (hF : RB w okr A r.bytes) (hne : apart okr okd) (hl : r.bytes.length ≤ c)
    (hb : Bytes r.bytes) (hg : 0 ≤ r.gen ∧ r.gen < 18446744073709551616) (hb9 : -9223372036854775808 ≤ base ∧ base ≤ 9223372036854775807) (hm : (D.ws.length + 65537) * 32 ≤ 140737488355328) :
  Calls Tryz.prog 146 #[.pointer (some ⟨p, 0, none⟩), .int .i64 base, recV r A c] w fun e w' => e = .returned (.int .i64 (D.sealW base r).2) ∧ PDisk w' (orNew okd w) p (D.sealW base r).1 ∧ Chg okd w w' := by
  unfold DM.sealW
  by_cases he : sealE r = 0
  · rw [if_neg (by simp [he])]
    have hr := right_of he hg hb
    by_cases ho : outB D base r = true
    · have hx : base < 0 ∨ (D.n : Int) < base ∨ (D.n : Int) - base < r.at_ + need r.bytes.length := by
        unfold outB at ho
        simp only [Bool.or_eq_true, decide_eq_true_eq] at ho
        rcases ho with (ho | ho) | ho
        · exact .inl ho
        · exact .inr (.inl ho)
        · exact .inr (.inr ho)
      rw [if_pos hx]
      refine (seal_bad p base r h hr.l hr.a hb9 he ho).mono ?_
      rintro e w' ⟨rfl, hB⟩
      exact ⟨rfl, (h.step (fun k _ hk => hB.block k hk)).mono (fun _ hk => .inl hk), Chg.of_below hB _⟩
    · have hx : ¬ (base < 0 ∨ (D.n : Int) < base ∨ (D.n : Int) - base < r.at_ + need r.bytes.length) := by
        unfold outB at ho
        simp only [Bool.or_eq_true, decide_eq_true_eq] at ho
        rintro (hh | hh | hh)
        · exact ho (.inl (.inl hh))
        · exact ho (.inl (.inr hh))
        · exact ho (.inr hh)
      rw [if_neg hx]
      exact seal_go p base r h hF hne hl hr hb9 he (by simpa using ho) hm
  · rw [if_pos he]
    refine (seal_err p base r (RB_len hF) he).mono ?_
    rintro e w' ⟨rfl, hB⟩
    exact ⟨rfl, (h.step (fun k _ hk => hB.block k hk)).mono (fun _ hk => .inl hk), Chg.of_below hB _⟩
/-! ### live -/
def B60 : List Int := (List.replicate 60 0).set 59 7
end Go.Proofs.YticogmpafehomaaGreatDoor

set_option linter.unusedVariables false
set_option linter.unusedSimpArgs false
namespace Go.Proofs.YticogmpafehomaaGreatDoor
open Go.RowKit Go.Proofs.YticogmpafehomaaGreatDoorW.PrintWords Go.Proofs.YticogmpafehomaaGreatDoorW.PrintMore

/-! ### Blocks that are written -/
theorem splice_get {α : Type} {L vs : List α} {off : Nat} (h : off + vs.length ≤ L.length) (k : Nat) : (splice L off vs)[k]? = if off ≤ k ∧ k < off + vs.length then vs[k - off]? else L[k]? := by
  unfold splice
  have hl : (L.take off).length = off := by rw [List.length_take]; omega
  by_cases h1 : k < off
  · rw [if_neg (by omega), List.getElem?_append_left (by omega), List.getElem?_take, if_pos h1]
  · rw [List.getElem?_append_right (by omega), hl]
    by_cases h2 : k < off + vs.length
    · rw [if_pos ⟨by omega, h2⟩, List.getElem?_append_left (by omega)]
    · rw [if_neg (by omega), List.getElem?_append_right (by omega), List.getElem?_drop]
      congr 1
      omega
end Go.Proofs.YticogmpafehomaaGreatDoor

set_option linter.unusedVariables false
set_option linter.unusedSimpArgs false
namespace Go.Proofs.YticogmpafehomaaGreatDoor
open Go.RowKit Go.Proofs.YticogmpafehomaaGreatDoorW.PrintWords Go.Proofs.YticogmpafehomaaGreatDoorW.PrintMore

/-! ### A head -/
theorem head_drop2 (r : SR) : (headB r).drop 2 = be r.gen 8 ++ (be r.at_ 2 ++ (r.kind :: (be r.bytes.length 4 ++ padTo 47 (r.bytes.take 47)))) := rfl
/-! ### A body -/
theorem body_drop2 (r : SR) (k : Nat) : (bodyB r k).drop 2 = be r.gen 8 ++ (be r.at_ 2 ++ (be k 2 ++ padTo 50 ((r.bytes.drop (47 + 50 * (k - 1))).take 50))) := rfl
end Go.Proofs.YticogmpafehomaaGreatDoor

set_option linter.unusedVariables false
set_option linter.unusedSimpArgs false
namespace Go.Proofs.YticogmpafehomaaGreatDoor
open Go.RowKit Go.Proofs.YticogmpafehomaaGreatDoorW.PrintWords Go.Proofs.YticogmpafehomaaGreatDoorW.PrintMore

theorem order_len (r : SR) : (order r).length = bodies r + 1 := by simp [order]
/-! ### Gen -/
theorem genK_le {D : DM} {b0 : Nat} {M : Int} (h0 : 0 ≤ M) : ∀ k, (∀ i, i < k → (headR (D.blk (b0 + i))).gen ≤ M ∧ (bodyV (D.blk (b0 + i))).1 ≤ M) → genK D b0 k ≤ M
  | 0, _ => h0
  | k + 1, h => by
    have h1 := genK_le h0 k (fun i hi => h i (by omega))
    have h2 := h k (by omega)
    simp only [genK]
    omega
end Go.Proofs.YticogmpafehomaaGreatDoor

set_option linter.unusedVariables false
set_option linter.unusedSimpArgs false
namespace Go.Proofs.YticogmpafehomaaGreatDoor
open Go.RowKit Go.Proofs.YticogmpafehomaaGreatDoorW.PrintWords Go.Proofs.YticogmpafehomaaGreatDoorW.PrintMore

end Go.Proofs.YticogmpafehomaaGreatDoor

set_option linter.unusedVariables false
set_option linter.unusedSimpArgs false
namespace Go.Proofs.YticogmpafehomaaGreatDoor
open Go.RowKit Go.Proofs.YticogmpafehomaaGreatDoorW.PrintWords Go.Proofs.YticogmpafehomaaGreatDoorW.PrintMore

end Go.Proofs.YticogmpafehomaaGreatDoor

set_option linter.unusedVariables false
set_option linter.unusedSimpArgs false
namespace Go.Proofs.YticogmpafehomaaGreatDoor
open Go.RowKit Go.Proofs.YticogmpafehomaaGreatDoorW.PrintWords Go.Proofs.YticogmpafehomaaGreatDoorW.PrintMore

/-- A log: its stretch, its generation, its tail, how many records. -/
structure HM where
  base : Int
  size : Int
  gen : Int
  tail : Int
  n : Int
/-- The log's variable; p: the disk's. -/
def HBlk (w : World) (hb p : Nat) (H : HM) : Prop := w.heap[hb]? = some (.cells #[.pointer (some ⟨p, 0, none⟩), .int .i64 H.base, .int .i64 H.size, .int .u64 H.gen, .int .i64 H.tail, .int .i64 H.n] 173 (0, 0))
theorem HBlk.cell0 {w : World} {hb p : Nat} {H : HM} (h : HBlk w hb p H) : w.cell? ⟨hb, 0, none⟩ = some (.pointer (some ⟨p, 0, none⟩)) := by rw [cell_of_row w hb 0 _ _ _ h]; rfl
theorem HBlk.cell1 {w : World} {hb p : Nat} {H : HM} (h : HBlk w hb p H) : w.cell? ⟨hb, 1, none⟩ = some (.int .i64 H.base) := by rw [cell_of_row w hb 1 _ _ _ h]; rfl
theorem HBlk.cell2 {w : World} {hb p : Nat} {H : HM} (h : HBlk w hb p H) : w.cell? ⟨hb, 2, none⟩ = some (.int .i64 H.size) := by rw [cell_of_row w hb 2 _ _ _ h]; rfl
theorem HBlk.cell3 {w : World} {hb p : Nat} {H : HM} (h : HBlk w hb p H) : w.cell? ⟨hb, 3, none⟩ = some (.int .u64 H.gen) := by rw [cell_of_row w hb 3 _ _ _ h]; rfl
theorem HBlk.cell4 {w : World} {hb p : Nat} {H : HM} (h : HBlk w hb p H) : w.cell? ⟨hb, 4, none⟩ = some (.int .i64 H.tail) := by rw [cell_of_row w hb 4 _ _ _ h]; rfl
theorem HBlk.cell5 {w : World} {hb p : Nat} {H : HM} (h : HBlk w hb p H) : w.cell? ⟨hb, 5, none⟩ = some (.int .i64 H.n) := by rw [cell_of_row w hb 5 _ _ _ h]; rfl
theorem HBlk.free {w : World} {hb p : Nat} {H : HM} (h : HBlk w hb p H) (j : Nat) : w.frozen? ⟨hb, j, none⟩ = false := frozen_of_row w hb j _ _ h
theorem HBlk.setTail {w : World} {hb p : Nat} {H : HM} (h : HBlk w hb p H) (t : Int) : HBlk (w.setCell ⟨hb, 4, none⟩ (.int .i64 t)) hb p { H with tail := t } := heap_setCell_same w hb 4 _ _ _ h
theorem HBlk.setN {w : World} {hb p : Nat} {H : HM} (h : HBlk w hb p H) (t : Int) : HBlk (w.setCell ⟨hb, 5, none⟩ (.int .i64 t)) hb p { H with n := t } := heap_setCell_same w hb 5 _ _ _ h
theorem HBlk.step {w w1 : World} {hb p : Nat} {H : HM} (h : HBlk w hb p H) (hm : w1.heap[hb]? = w.heap[hb]?) : HBlk w1 hb p H := hm.trans h
theorem HBlk.lt {w : World} {hb p : Nat} {H : HM} (h : HBlk w hb p H) : hb < w.heap.size := blk_lt h
/-- May a log be? -/
def hnewE (D : DM) (base size gen : Int) : Int := if base < 0 ∨ size < 1 ∨ (D.n : Int) < base ∨ (D.n : Int) - base < size ∨ gen = 0 then 1 else 0
set_option maxHeartbeats 1000000 in
theorem hnew_ok {w : World} {ok : Nat → Prop} {p : Nat} {D : DM} (h : PDisk w ok p D) (base size gen : Int) (he : hnewE D base size gen = 0) :
  Calls Tryz.prog 77 #[.pointer (some ⟨p, 0, none⟩), .int .i64 base, .int .i64 size, .int .u64 gen] w fun e w' => e = .returned (.tuple #[.pointer (some ⟨w.heap.size, 0, none⟩), .int .i64 0]) ∧ HBlk w' w.heap.size p ⟨base, size, gen, 0, 0⟩ ∧ Below w.heap.size w w' := by
  have hB := blocks_any h
  have hn := h.1.hi
  have hx : ¬ base < 0 ∧ ¬ size < 1 ∧ ¬ (D.n : Int) < base ∧ ¬ (D.n : Int) - base < size ∧ ¬ gen = 0 := by
    unfold hnewE at he
    split at he
    · cases he
    · rename_i hh; simp only [not_or] at hh; exact hh
  obtain ⟨h1, h2, h3, h4, h5⟩ := hx
  have hw : IntKind.i64.wrap ((D.n : Int) - base) = (D.n : Int) - base := by rw [IntKind.wrap_i64]; omega
  have h5b : (gen == 0) = false := by simpa using h5
  have hfin : HBlk (w.alloc (.cells #[.pointer (some ⟨p, 0, none⟩), .int .i64 base, .int .i64 size, .int .u64 gen, .int .i64 0, .int .i64 0] 173)) w.heap.size p ⟨base, size, gen, 0, 0⟩ := heap_alloc_new w _
  have HF := hid (And.intro hfin (below_alloc (Below.refl w.heap.size w) (.cells #[.pointer (some ⟨p, 0, none⟩), .int .i64 base, .int .i64 size, .int .u64 gen, .int .i64 0, .int .i64 0] 173)))
  clear hfin
  go_enter Tryz.func77, Tryz.ntmps77
  go_wp2_with (go_at_call 112; refine hB.mono ?_; rintro e w' ⟨rfl, rfl⟩)
  go_ret2
  exact ⟨rfl, HF.out⟩
theorem used_any {w : World} {hb p : Nat} {H : HM} (h : HBlk w hb p H) : Calls Tryz.prog 79 #[.pointer (some ⟨hb, 0, none⟩)] w fun e w' => e = .returned (.int .i64 H.tail) ∧ w = w' := by
  have c4 := h.cell4
  go_enter Tryz.func79, Tryz.ntmps79
  go_wp2
  go_ret
  exact ⟨rfl, rfl⟩
theorem room_any {w : World} {hb p : Nat} {H : HM} (h : HBlk w hb p H) (h1 : 0 ≤ H.tail ∧ H.tail ≤ H.size ∧ H.size ≤ 4096) :
    Calls Tryz.prog 145 #[.pointer (some ⟨hb, 0, none⟩)] w fun e w' => e = .returned (.int .i64 (H.size - H.tail)) ∧ Below w.heap.size w w' := by
  have c2 := h.cell2
  have c4 := h.cell4
  have hw : IntKind.i64.wrap (H.size - H.tail) = H.size - H.tail := by rw [IntKind.wrap_i64]; omega
  go_enter Tryz.func145, Tryz.ntmps145
  go_wp2_with fail
  refine wp_region_plan [] (.take 0 (.take 1 (.take 2 (.take 3 (.take 4 (.take 5 (.take 6 (.take 7 (.take 8 (.take 9 .done)))))))))) (fun w' => w'.cell? ⟨hb, 2, none⟩ = some (.int .i64 H.size) ∧ w'.cell? ⟨hb, 4, none⟩ = some (.int .i64 H.tail)) (by kernel_rfl) (by kernel_rfl) (fun c a d v w h => by cases d <;> exact h) ⟨c2, c4⟩ ?_
  iterate 10 (apply plan_take rfl rfl; (case hy => (intro w' hS; obtain ⟨s0, s1⟩ := hS; go_simp; try exact rfl)); go_simp)
  refine plan_done ?_
  go_wp2
  go_ret
  exact ⟨rfl, (Below.refl _ _).drew⟩
/-- Is there room for so many bytes? -/
def fitsB (H : HM) (n : Int) : Bool := decide (0 < need n ∧ need n ≤ H.size - H.tail)
theorem need_bnd (n : Int) : 0 ≤ need n ∧ need n ≤ 65536 := by unfold need; split <;> (try split) <;> omega
theorem fits_any {w : World} {hb p : Nat} {H : HM} (h : HBlk w hb p H) (h1 : 0 ≤ H.tail ∧ H.tail ≤ H.size ∧ H.size ≤ 4096) (n : Int) (hn : -9223372036854775808 ≤ n ∧ n ≤ 9223372036854775807) :
    Calls Tryz.prog 103 #[.pointer (some ⟨hb, 0, none⟩), .int .i64 n] w fun e w' => e = .returned (.bool (fitsB H n)) ∧ Below w.heap.size w w' := by
  have hnd := need_any (w := w) n hn
  have hr := room_any h h1
  have hb := need_bnd n
  unfold fitsB
  generalize need n = k at hnd hb ⊢
  by_cases h0 : 0 < k
  · rw [show decide (0 < k ∧ k ≤ H.size - H.tail) = decide (k ≤ H.size - H.tail) from by simp [h0]]
    go_enter Tryz.func103, Tryz.ntmps103
    go_wp2_with (first | (go_at_call 52; refine hnd.mono ?_; rintro e w' ⟨rfl, rfl⟩) | (go_at_call 145; refine hr.mono ?_; rintro e w1 ⟨rfl, hB⟩))
    go_ret
    exact ⟨rfl, hB⟩
  · rw [show decide (0 < k ∧ k ≤ H.size - H.tail) = false from by simp [h0]]
    go_enter Tryz.func103, Tryz.ntmps103
    go_wp2_with (go_at_call 52; refine hnd.mono ?_; rintro e w' ⟨rfl, rfl⟩)
    go_ret
    exact ⟨rfl, Below.refl _ _⟩
end Go.Proofs.YticogmpafehomaaGreatDoor

set_option linter.unusedVariables false
set_option linter.unusedSimpArgs false
namespace Go.Proofs.YticogmpafehomaaGreatDoor
open Go.RowKit
section
variable {F : Fence} {n : Nat} {P : Program} {α : Type}
end
end Go.Proofs.YticogmpafehomaaGreatDoor

set_option linter.unusedVariables false
set_option linter.unusedSimpArgs false
namespace Go.Proofs.YticogmpafehomaaGreatDoor
open Go.RowKit Go.Shelf Go.Proofs.YticogmpafehomaaGreatDoorW.PrintWords Go.Proofs.YticogmpafehomaaGreatDoorW.PrintMore
attribute [local go_sem] Oper.semAt_some

end Go.Proofs.YticogmpafehomaaGreatDoor

set_option linter.unusedVariables false
set_option linter.unusedSimpArgs false
namespace Go.Proofs.YticogmpafehomaaGreatDoor
open Go.RowKit Go.Proofs.YticogmpafehomaaGreatDoorW.PrintWords

theorem opens_bytes : Opens Tryz.prog 25 (Kd.slice 5 KB) (fun xs => Bytes xs ∧ xs.length ≤ 140737488351232) :=
  (opens_slice Tryz.underlying25 (by kernel_rfl) (B := 1) (by kernel_rfl) (opens_int Tryz.underlying5)).mono fun _ h => ⟨fun x hx => by have := bounds_u8 (h.1 x hx); omega, by have := h.2; omega⟩
end Go.Proofs.YticogmpafehomaaGreatDoor

set_option linter.unusedVariables false
set_option linter.unusedSimpArgs false
namespace Go.Proofs.YticogmpafehomaaGreatDoor
open Go.RowKit Go.Proofs.YticogmpafehomaaGreatDoorW.PrintWords

end Go.Proofs.YticogmpafehomaaGreatDoor

set_option linter.unusedVariables false
set_option linter.unusedSimpArgs false
namespace Go.Proofs.YticogmpafehomaaGreatDoor
open Go.RowKit Go.Shelf Go.Proofs.YticogmpafehomaaGreatDoorW.PrintWords Go.Proofs.YticogmpafehomaaGreatDoorW.PrintMore
attribute [local go_sem] Oper.semAt_some

section
variable {F : Fence} {nF : Nat} {P : Program} {ops : Array Oper} {rest : List Oper} {o : Oper} {a : Act} {Q : Exit → Act → World → Prop} {α : Type}
end
end Go.Proofs.YticogmpafehomaaGreatDoor

set_option linter.unusedVariables false
set_option linter.unusedSimpArgs false
namespace Go.Proofs.YticogmpafehomaaGreatDoor
open Go.RowKit Go.Shelf Go.Proofs.YticogmpafehomaaGreatDoorW.PrintWords Go.Proofs.YticogmpafehomaaGreatDoorW.PrintMore
attribute [local go_sem] Oper.semAt_some

end Go.Proofs.YticogmpafehomaaGreatDoor

set_option linter.unusedVariables false
set_option linter.unusedSimpArgs false
namespace Go.Proofs.YticogmpafehomaaGreatDoor
open Go.RowKit Go.Shelf Go.Proofs.YticogmpafehomaaGreatDoorW.PrintWords Go.Proofs.YticogmpafehomaaGreatDoorW.PrintMore

/-- What Append asks of a record before it writes. -/
def hputC (H : HM) (kind : Int) (n : Nat) : Int := if kind < 0 ∨ 255 < kind then 1 else if 131072 < n then 3 else if fitsB H n = false then 63 else 0
theorem hput_err {w : World} {hb p : Nat} {H : HM} (h : HBlk w hb p H) (h1 : 0 ≤ H.tail ∧ H.tail ≤ H.size ∧ H.size ≤ 4096) (kind : Int) (A : Option Addr) (n c : Nat) (hn : n ≤ 140737488355328) (he : ¬ hputC H kind n = 0) :
    Calls Tryz.prog 105 #[.pointer (some ⟨hb, 0, none⟩), .int .i64 kind, .slice A n c] w fun e w' => e = .returned (.int .i64 (hputC H kind n)) ∧ Below w.heap.size w w' := by
  have hf := fits_any h h1 (n : Int) (by omega)
  unfold hputC at he ⊢
  by_cases k1 : kind < 0
  · rw [if_pos (.inl k1)]
    go_enter Tryz.func105, Tryz.ntmps105
    go_wp2
    go_ret
    exact ⟨rfl, Below.refl _ _⟩
  by_cases k2 : 255 < kind
  · rw [if_pos (.inr k2)]
    go_enter Tryz.func105, Tryz.ntmps105
    go_wp2
    go_ret
    exact ⟨rfl, Below.refl _ _⟩
  rw [if_neg (by omega)] at he ⊢
  by_cases k3 : 131072 < n
  · rw [if_pos k3]
    have k3I : (131072 : Int) < (n : Int) := by omega
    go_enter Tryz.func105, Tryz.ntmps105
    go_wp2
    go_ret
    exact ⟨rfl, Below.refl _ _⟩
  have k3I : ¬ (131072 : Int) < (n : Int) := by omega
  rw [if_neg k3] at he ⊢
  cases hb2 : fitsB H n with
  | true => rw [hb2] at he; exact absurd rfl he
  | false =>
    rw [hb2] at hf
    rw [if_pos rfl]
    go_enter Tryz.func105, Tryz.ntmps105
    go_wp2_with (go_at_call 103; refine hf.mono ?_; rintro e w1 ⟨rfl, hB⟩)
    go_ret
    exact ⟨rfl, hB⟩
/-- What Append leaves: its answer, the disk, the log. -/
def hputR (H : HM) (kind : Int) (bs : List Int) : SR := ⟨H.gen, H.tail, kind, bs⟩
def hputH (D : DM) (H : HM) (kind : Int) (bs : List Int) : HM := if (D.sealW H.base (hputR H kind bs)).2 = 0 then { H with tail := H.tail + need bs.length, n := H.n + 1 } else H
set_option maxRecDepth 100000 in
set_option maxHeartbeats 4000000 in
theorem hput_ok {w : World} {okd okr : Nat → Prop} {hb p : Nat} {D : DM} {H : HM} {A : Option Addr} {c : Nat} {bs : List Int} (h : PDisk w okd p D) (hh : HBlk w hb p H) (hF : RB w okr A bs) (hne : apart okr okd) (hnh : ¬ okd hb) (hl : bs.length ≤ c) (hB : Bytes bs)
    (h1 : 0 ≤ H.tail ∧ H.tail ≤ H.size ∧ H.size ≤ 4096) (hg : 0 ≤ H.gen ∧ H.gen < 18446744073709551616) (hb9 : 0 ≤ H.base ∧ H.base ≤ 4096) (hn9 : 0 ≤ H.n ∧ H.n ≤ 4096) (hm : (D.ws.length + 65537) * 32 ≤ 140737488355328) (kind : Int) (he : hputC H kind bs.length = 0) :
    Calls Tryz.prog 105 #[.pointer (some ⟨hb, 0, none⟩), .int .i64 kind, .slice A bs.length c] w fun e w' => e = .returned (.int .i64 (D.sealW H.base (hputR H kind bs)).2) ∧ PDisk w' (orNew okd w) p (D.sealW H.base (hputR H kind bs)).1 ∧ HBlk w' hb p (hputH D H kind bs) ∧ Chg (fun k => okd k ∨ k = hb) w w' := by
  obtain ⟨k1, k2, k3⟩ : (0 ≤ kind ∧ kind ≤ 255) ∧ bs.length ≤ 131072 ∧ fitsB H bs.length = true := by
    unfold hputC at he
    split at he
    · cases he
    · split at he
      · cases he
      · split at he
        · cases he
        · rename_i a1 a2 a3
          exact ⟨by omega, by omega, by simpa using a3⟩
  have hf := fits_any hh h1 (bs.length : Int) (by omega)
  rw [k3] at hf
  have kn1 : ¬ kind < 0 := by omega
  have kn2 : ¬ 255 < kind := by omega
  have k3I : ¬ (131072 : Int) < (bs.length : Int) := by omega
  obtain ⟨⟨D2, E⟩, hX⟩ : ∃ X, D.sealW H.base (hputR H kind bs) = X := ⟨_, rfl⟩
  have hHb : H.base + 0 = H.base := by omega
  unfold hputH
  rw [hX]
  dsimp only
  have hlen9 : -9223372036854775808 ≤ (bs.length : Int) ∧ (bs.length : Int) ≤ 9223372036854775807 := by omega
  have hnb := need_bnd (bs.length : Int)
  go_enter Tryz.func105, Tryz.ntmps105
  go_wp2_with (go_at_call 103; refine hf.mono ?_; rintro e w1 ⟨rfl, hB1⟩)
  have hh1 := hh.step (hB1.block _ hh.lt)
  have hD1 := h.step (w1 := w1.drew) (fun k _ hk => hB1.block k hk)
  have hF1 : RB w1.drew okr A bs := RB_drew (RB_below hF hB1)
  have hsw := swrite_any p H.base (hputR H kind bs) hD1 hF1 hne hl hB hg (by omega) hm
  rw [hX] at hsw
  unfold recV hputR at hsw
  dsimp only at hsw
  have hlt1 := hh.lt
  clear hF hF1 hX k1 k2 k3 he hf hHb hB hl hm
  refine wp_region_plan [] (.take 0 (.take 1 (.take 2 (.take 3 (.take 4 (.take 5 (.take 6 (.take 7 (.take 8 (.take 9 (.take 10 (.take 11 (.take 12 (.take 13 (.take 14 (.take 15 (.take 16 (.take 17 (.take 18 (.run 19 (.take 20 .done))))))))))))))))))))) (fun w' => HBlk w' hb p H) (by kernel_rfl) (by kernel_rfl) (fun c a d v w h => by cases d <;> exact h) hh1 ?_
  iterate 19 (apply plan_take rfl rfl; (case hy => (intro w' hS; have e0 := hS.cell0; have e1 := hS.cell1; have e3 := hS.cell3; have e4 := hS.cell4; clear hS; go_simp; try exact rfl)); go_simp)
  refine plan_run_on rfl rfl (fun K hK => ?_)
  go_simp
  refine hsw.mono ?_
  rintro e w2 ⟨rfl, hD2, c2⟩
  have hh2 := hh1.step (c2.block _ (Nat.lt_of_lt_of_le hlt1 hB1.size) hnh)
  refine hK _ _ _ (fun _ h => h) hh2 ?_
  clear hK K hsw
  go_simp
  apply plan_take rfl rfl
  case hy => (intro w' hS; clear hS; go_simp; try exact rfl)
  go_simp
  refine plan_done ?_
  have hc2 : Chg (fun k => okd k ∨ k = hb) w w2 := (Chg.of_below hB1 (fun k => okd k ∨ k = hb)).drew.then_ c2 (fun k hk => .inl (.inl hk))
  have hD3 : PDisk w2 (orNew okd w) p D2 := hD2.mono (fun k hk => by
    rcases hk with hk | hk
    · exact .inl hk
    · exact .inr (Nat.le_trans hB1.size hk))
  by_cases hE : E = 0
  · subst hE
    obtain ⟨T, hT⟩ : ∃ T : Int, H.tail + need bs.length = T := ⟨_, rfl⟩
    obtain ⟨N, hN⟩ : ∃ N : Int, H.n + 1 = N := ⟨_, rfl⟩
    have hwT : IntKind.i64.wrap (H.tail + need bs.length) = T := by rw [← hT, IntKind.wrap_i64]; omega
    have hwN : IntKind.i64.wrap (H.n + 1) = N := by rw [← hN, IntKind.wrap_i64]; omega
    have hh7 : HBlk (w2.setCell ⟨hb, 4, none⟩ (.int .i64 T)) _ _ _ := hh2.setTail T
    have hh8 : HBlk ((w2.setCell ⟨hb, 4, none⟩ (.int .i64 T)).setCell ⟨hb, 5, none⟩ (.int .i64 N)).drew _ _ _ := hh7.setN N
    have hpd : ∀ k, isC w2 k → orNew okd w k → ((w2.setCell ⟨hb, 4, none⟩ (.int .i64 T)).setCell ⟨hb, 5, none⟩ (.int .i64 N)).drew.heap[k]? = w2.heap[k]? := fun k _ hk => by
      have hkb : k ≠ hb := by
        rintro rfl
        rcases hk with hk | hk
        · exact hnh hk
        · have := hh.lt; omega
      exact (Below.heap_setCell (w2.setCell ⟨hb, 4, none⟩ (.int .i64 T)) ⟨hb, 5, none⟩ (.int .i64 N) k hkb).trans (Below.heap_setCell w2 ⟨hb, 4, none⟩ (.int .i64 T) k hkb)
    have hD8 := (hD3.cells.step (w1 := ((w2.setCell ⟨hb, 4, none⟩ (.int .i64 T)).setCell ⟨hb, 5, none⟩ (.int .i64 N)).drew) (fun k hc _ => hpd k hc.2 hc.1)).mono (fun _ hc => hc.1)
    have hc8 : Chg (fun k => okd k ∨ k = hb) w ((w2.setCell ⟨hb, 4, none⟩ (.int .i64 T)).setCell ⟨hb, 5, none⟩ (.int .i64 N)).drew := ((hc2.setCell (p := ⟨hb, 4, none⟩) (.inl (.inr rfl)) (.int .i64 T)).setCell (p := ⟨hb, 5, none⟩) (.inl (.inr rfl)) (.int .i64 N)).drew
    have e4 := hh2.cell4
    have e5 := hh7.cell5
    have z4 := hh2.free 4
    have z5 := hh7.free 5
    dsimp only at e5
    have HFI := hid (And.intro hD8 (And.intro hh8 (And.intro hc8 (And.intro hT hN))))
    clear hD8 hh8 hc8 hT hN hD3 hc2 hh7 hpd hD2 c2 hD1 hh1 hh h
    go_wp2_with fail
    refine wp_region_plan [8, 9, 10] (.take 0 (.take 1 (.take 2 (.take 3 (.take 4 (.take 5 (.run 6 (.take 7 (.tail 8 (.tail 9 (.tail 10 .done))))))))))) (fun w' => w' = w2.drew) (by kernel_rfl) (by kernel_rfl) (fun c a d v w h => by cases d <;> exact h) rfl ?_
    iterate 6 (apply plan_take rfl rfl; (case hy => (intro w' hS; subst hS; go_simp; try exact rfl)); go_simp)
    refine plan_run_on rfl rfl (fun K hK => ?_)
    go_simp
    refine (need_any _ hlen9).mono ?_
    rintro e w' ⟨rfl, rfl⟩
    refine hK _ _ _ (fun _ h => h) rfl ?_
    clear hK K
    go_simp
    apply plan_take rfl rfl
    case hy => (intro w' hS; subst hS; go_simp; try exact rfl)
    go_simp
    refine plan_tail_on rfl rfl (fun K hK => ?_)
    go_simp
    refine hK _ _ ?_
    clear hK K
    refine plan_tail_on rfl rfl (fun K hK => ?_)
    go_simp
    refine hK _ _ ?_
    clear hK K
    refine plan_tail_on rfl rfl (fun K hK => ?_)
    go_simp
    refine hK _ _ (plan_done ?_)
    clear hK K
    go_wp2_with fail
    go_ret
    obtain ⟨f1, f2, f3, f4, f5⟩ := HFI.out
    refine ⟨rfl, f1, ?_, f3⟩
    rw [f4, f5]
    exact f2
  · go_wp2_with fail
    go_ret
    exact ⟨rfl, hD3, hh2, hc2⟩
end Go.Proofs.YticogmpafehomaaGreatDoor

set_option linter.unusedVariables false
set_option linter.unusedSimpArgs false
namespace Go.Proofs.YticogmpafehomaaGreatDoor
open Go.RowKit Go.Proofs.YticogmpafehomaaGreatDoorW.PrintWords Go.Proofs.YticogmpafehomaaGreatDoorW.PrintMore

def mostN : Int := 9223372036854775807
/-- A manifest: Number, Gen, Half. -/
structure MM where
  N : Int
  G : Int
  K : Int
def MM.ok (m : MM) : Prop := 1 ≤ m.N ∧ m.N ≤ mostN ∧ 1 ≤ m.G ∧ m.G ≤ mostN ∧ 0 ≤ m.K ∧ m.K ≤ 1
instance (m : MM) : Decidable m.ok := by unfold MM.ok; infer_instance
def packB (m : MM) : List Int := [102, 109] ++ (be m.N 8 ++ (be m.G 8 ++ (m.K :: List.replicate 45 0)))
/-- What eighteen bytes behind the first two say. -/
def manB (b : List Int) : MM := ⟨numAt b 2 8, numAt b 10 8, b.getD 18 0⟩
def parseM (b : List Int) (i : Int) : Option MM := if b.length = 64 ∧ (manB b).ok ∧ b = packB (manB b) ∧ i = (manB b).N % 2 then some (manB b) else none
def better (m : MM) : Option MM → MM
  | some x => if m.N < x.N then x else m
  | none => m
/-- The manifest that counts. -/
def pickM (D : DM) : MM := better (better ⟨0, 0, 0⟩ (parseM (D.blk 0) 0)) (parseM (D.blk 1) 1)
def gotM (g x : Int) : Int := if x ≤ mostN then max g x else g
def genAt (D : DM) (g : Int) (i : Nat) : Int := if i < 2 then ((parseM (D.blk i) i).map (fun x => max g x.G)).getD g else gotM (gotM g (headR (D.blk i)).gen) (bodyV (D.blk i)).1
def genTo (D : DM) : Nat → Int
  | 0 => 0
  | i + 1 => genAt D (genTo D i) i
/-- The greatest generation. -/
def stG (D : DM) : Int := genTo D D.n
def sizeM (D : DM) : Nat := (D.n - 2) / 2
def baseM (D : DM) (K : Int) : Nat := 2 + K.toNat * sizeM D
def keyedB (k : ByteArray) : Prop := k.size ≠ 0 ∧ k.size ≤ 40
instance (k : ByteArray) : Decidable (keyedB k) := by unfold keyedB; infer_instance
def needK (k : ByteArray) (n : Int) : Int := if keyedB k ∧ 0 ≤ n ∧ n ≤ 131072 then need (8 + k.size + n) else 0
def blocksE (E : Ent) : Int := (E.map fun x => needK x.1 x.2.length).sum
/-- A record's bytes: of an entry; of a key that goes. -/
def recB (k : ByteArray) (v : List Int) : List Int := rawB (bytesOf k) ++ rawB v
/-- Append. -/
def hputF (D : DM) (H : HM) (kind : Int) (bs : List Int) : Int × DM × HM :=
  if hputC H kind bs.length = 0 then ((D.sealW H.base (hputR H kind bs)).2, (D.sealW H.base (hputR H kind bs)).1, hputH D H kind bs) else (hputC H kind bs.length, D, H)
/-- All entries, one behind the other. -/
def putsF : DM → HM → Ent → Int × DM × HM
  | D, H, [] => (0, D, H)
  | D, H, x :: l => if (hputF D H 1 (recB x.1 x.2)).1 = 0 then putsF (hputF D H 1 (recB x.1 x.2)).2.1 (hputF D H 1 (recB x.1 x.2)).2.2 l else hputF D H 1 (recB x.1 x.2)
/-- A store: its disk, its manifest, its log, its entries; is it dead? -/
structure SM where
  D : DM
  m : MM
  H : HM
  E : Ent
  dead : Bool
def SM.next (S : SM) : MM := ⟨S.m.N + 1, stG S.D + 1, 1 - S.m.K⟩
def log0 (D : DM) (m : MM) : HM := ⟨(baseM D m.K : Int), (sizeM D : Int), m.G, 0, 0⟩
/-- flip. -/
def flipF (D : DM) (m : MM) : Int × DM := (D.writeE (m.N % 2) (packB m), D.writeD (m.N % 2) (packB m))
def compactF (S : SM) (F : Ent) : Int × SM :=
  if (sizeM S.D : Int) < blocksE F then (63, S)
  else if S.D.gone = true then (61, { S with dead := true })
  else if S.m.N = mostN ∨ stG S.D = mostN then (62, S)
  else if (putsF S.D (log0 S.D S.next) F).1 = 0 then
    if (flipF (putsF S.D (log0 S.D S.next) F).2.1 S.next).1 = 0 then (0, ⟨(flipF (putsF S.D (log0 S.D S.next) F).2.1 S.next).2, S.next, (putsF S.D (log0 S.D S.next) F).2.2, F, S.dead⟩)
    else ((flipF (putsF S.D (log0 S.D S.next) F).2.1 S.next).1, { S with D := (flipF (putsF S.D (log0 S.D S.next) F).2.1 S.next).2, dead := true })
  else ((putsF S.D (log0 S.D S.next) F).1, { S with D := (putsF S.D (log0 S.D S.next) F).2.1, dead := true })
def changeF (S : SM) (kind : Int) (bs : List Int) (F : Ent) : Int × SM :=
  if fitsB S.H bs.length = true then
    if (hputF S.D S.H kind bs).1 = 0 then (0, { S with D := (hputF S.D S.H kind bs).2.1, H := (hputF S.D S.H kind bs).2.2, E := F })
    else ((hputF S.D S.H kind bs).1, { S with D := (hputF S.D S.H kind bs).2.1, H := (hputF S.D S.H kind bs).2.2, dead := true })
  else compactF S F
def putF (S : SM) (k : ByteArray) (v : List Int) : Int × SM :=
  if S.dead = true then (62, S)
  else if ¬ keyedB k then (1, S)
  else if (131072 : Int) - 8 - k.size < v.length then (3, S)
  else if look S.E k = some v then (0, S)
  else changeF S 1 (recB k v) (putE k v S.E)
/-- Format: its error; the store. -/
def formatF (D : DM) : Int × DM × Option SM :=
  if D.gone = true then (61, D, none)
  else if (pickM D).N = mostN ∨ stG D = mostN then (62, D, none)
  else if (flipF D ⟨(pickM D).N + 1, stG D + 1, 0⟩).1 = 0 then
    (0, (flipF D ⟨(pickM D).N + 1, stG D + 1, 0⟩).2, some ⟨(flipF D ⟨(pickM D).N + 1, stG D + 1, 0⟩).2, ⟨(pickM D).N + 1, stG D + 1, 0⟩, log0 D ⟨(pickM D).N + 1, stG D + 1, 0⟩, [], false⟩)
  else ((flipF D ⟨(pickM D).N + 1, stG D + 1, 0⟩).1, (flipF D ⟨(pickM D).N + 1, stG D + 1, 0⟩).2, none)
/-- What holds of a store. -/
structure SM.wf (S : SM) : Prop where
  d : S.D.wf
  m : S.m.ok
  base : S.H.base = (baseM S.D S.m.K : Int)
  size : S.H.size = (sizeM S.D : Int)
  gen : S.H.gen = S.m.G
  n0 : 0 ≤ S.H.n
  nt : S.H.n ≤ S.H.tail
  ts : S.H.tail ≤ S.H.size
  len : (S.E.length : Int) ≤ S.H.n
  sorted : SortedE S.E
  ent : ∀ x ∈ S.E, keyedB x.1 ∧ Bytes x.2 ∧ x.2.length ≤ 131072
end Go.Proofs.YticogmpafehomaaGreatDoor

set_option linter.unusedVariables false
set_option linter.unusedSimpArgs false
namespace Go.Proofs.YticogmpafehomaaGreatDoor
open Go.RowKit Go.Proofs.YticogmpafehomaaGreatDoorW.PrintWords Go.Proofs.YticogmpafehomaaGreatDoorW.PrintMore

theorem pack_len (m : MM) : (packB m).length = 64 := by simp [packB, be_length]
theorem pack_bytes {m : MM} (h : m.ok) : Bytes (packB m) := by
  obtain ⟨h1, h2, h3, h4, h5, h6⟩ := h
  unfold packB
  refine Bytes.append (fun x hx => by simp at hx; omega) (Bytes.append (be_bytes _ _) (Bytes.append (be_bytes _ _) ?_))
  intro x hx
  rcases List.mem_cons.1 hx with e | e
  · omega
  · rw [List.eq_of_mem_replicate e]; omega
theorem parse_ok {b : List Int} {i : Int} {m : MM} (h : parseM b i = some m) : m.ok ∧ b = packB m ∧ i = m.N % 2 := by
  unfold parseM at h
  split at h
  · rename_i hc
    injection h with h
    subst h
    exact hc.2
  · cases h
theorem better_none (m : MM) : better m none = m := rfl
theorem better_some (m x : MM) : better m (some x) = if m.N < x.N then x else m := rfl
theorem better_zero {x : MM} (h : x.ok) : better ⟨0, 0, 0⟩ (some x) = x := by
  rw [better_some]
  exact if_pos (show (0 : Int) < x.N by have := h.1; omega)
/-- Which manifest counts. -/
theorem pick_ok (D : DM) : pickM D = ⟨0, 0, 0⟩ ∨ ((pickM D).ok ∧ ((parseM (D.blk 0) 0 = some (pickM D)) ∨ (parseM (D.blk 1) 1 = some (pickM D)))) := by
  unfold pickM
  cases h0 : parseM (D.blk 0) 0 with
  | none =>
    rw [better_none]
    cases h1 : parseM (D.blk 1) 1 with
    | none => exact .inl rfl
    | some y =>
      have hy := (parse_ok h1).1
      rw [better_zero hy]
      exact .inr ⟨hy, .inr rfl⟩
  | some x =>
    have hx := (parse_ok h0).1
    rw [better_zero hx]
    cases h1 : parseM (D.blk 1) 1 with
    | none => exact .inr ⟨hx, .inl rfl⟩
    | some y =>
      have hy := (parse_ok h1).1
      rw [better_some]
      split
      · exact .inr ⟨hy, .inr rfl⟩
      · exact .inr ⟨hx, .inl rfl⟩
theorem pick_N (D : DM) : 0 ≤ (pickM D).N ∧ (pickM D).N ≤ mostN := by
  rcases pick_ok D with h | h
  · rw [h]; simp [mostN]
  · have := h.1.1; have := h.1.2.1; omega
theorem genAt_ge (D : DM) (g : Int) (i : Nat) : g ≤ genAt D g i := by
  unfold genAt gotM
  split
  · cases parseM (D.blk i) i <;> simp [Option.map, Option.getD]; omega
  · split <;> split <;> omega
theorem genAt_le (D : DM) {g : Int} (h : g ≤ mostN) (i : Nat) : genAt D g i ≤ mostN := by
  unfold genAt gotM
  split
  · cases hp : parseM (D.blk i) i with
    | none => exact h
    | some x => have := (parse_ok hp).1.2.2.2.1; simp [Option.map, Option.getD]; omega
  · split <;> split <;> omega
theorem genTo_bnd (D : DM) : ∀ i, 0 ≤ genTo D i ∧ genTo D i ≤ mostN
  | 0 => by simp [genTo, mostN]
  | i + 1 => by
    have h := genTo_bnd D i
    simp only [genTo]
    exact ⟨Int.le_trans h.1 (genAt_ge D _ i), genAt_le D h.2 i⟩
theorem stG_bnd (D : DM) : 0 ≤ stG D ∧ stG D ≤ mostN := genTo_bnd D _
end Go.Proofs.YticogmpafehomaaGreatDoor

set_option linter.unusedVariables false
set_option linter.unusedSimpArgs false
namespace Go.Proofs.YticogmpafehomaaGreatDoor
open Go.RowKit Go.Proofs.YticogmpafehomaaGreatDoorW.PrintWords Go.Proofs.YticogmpafehomaaGreatDoorW.PrintMore

theorem recB_len (k : ByteArray) (v : List Int) : (recB k v).length = 8 + k.size + v.length := by
  unfold recB
  rw [List.length_append, rawB_length, rawB_length, bytesOf_length]
  omega
theorem rawB_bytes {xs : List Int} (h : Bytes xs) : Bytes (rawB xs) := (be_bytes _ _).append h
theorem bytesOf_bytes (k : ByteArray) : Bytes (bytesOf k) := by
  intro x hx
  unfold bytesOf at hx
  obtain ⟨y, _, rfl⟩ := List.mem_map.1 hx
  have := y.toNat_lt
  omega
theorem recB_bytes {k : ByteArray} {v : List Int} (h : Bytes v) : Bytes (recB k v) := (rawB_bytes (bytesOf_bytes k)).append (rawB_bytes h)
/-! ### Sums of needs -/
theorem needK_nn (k : ByteArray) (n : Int) : 0 ≤ needK k n ∧ needK k n ≤ 65536 := by
  unfold needK
  split
  · exact need_bnd _
  · omega
theorem blocksE_nn : ∀ E : Ent, 0 ≤ blocksE E
  | [] => by simp [blocksE]
  | x :: l => by
    have h1 := blocksE_nn l
    have h2 := needK_nn x.1 x.2.length
    simp only [blocksE, List.map_cons, List.sum_cons] at h1 ⊢
    omega
theorem blocksE_cons (x : ByteArray × List Int) (l : Ent) : blocksE (x :: l) = needK x.1 x.2.length + blocksE l := rfl
end Go.Proofs.YticogmpafehomaaGreatDoor

set_option linter.unusedVariables false
set_option linter.unusedSimpArgs false
namespace Go.Proofs.YticogmpafehomaaGreatDoor
open Go.RowKit Go.Proofs.YticogmpafehomaaGreatDoorW.PrintWords Go.Proofs.YticogmpafehomaaGreatDoorW.PrintMore

/-- A new writer. -/
theorem new_writer (w : World) : PWr (w.alloc (.cells #[.slice none 0 0] 108)) (fun k => w.heap.size ≤ k) w.heap.size [] :=
  ⟨.slice none 0 0, ⟨Nat.le_refl _, heap_alloc_new w _, Kd.R_nil _ _ _ _ _⟩⟩
/-- Bytes of a call's own are handed back. -/
def OutB (w w' : World) (e : Ending) (xs : List Int) : Prop := ∃ A c, e = .returned (.slice A xs.length c) ∧ KB.R 5 w' w.heap.size (fun k => w.heap.size ≤ k) (.slice A xs.length c) xs ∧ Below w.heap.size w w'
theorem long_any {w : World} (n : Int) (hn : 0 ≤ n ∧ n < 18446744073709551616) : Calls Tryz.prog 42 #[.int .u64 n] w fun e w' => OutB w w' e (be n 8) := by
  have h0 := new_writer w
  have c0 : Below w.heap.size w (w.alloc (.cells #[.slice none 0 0] 108)) := below_alloc (Below.refl _ _) _
  have hc := wlong_any n hn h0 (by simp)
  rw [List.nil_append] at hc
  clear h0
  go_enter Tryz.func42, Tryz.ntmps42
  go_wp2_with fail
  refine hc.mono ?_
  rintro e w1 ⟨rfl, h1, c1⟩
  have b1 : Below w.heap.size w w1 := c0.trans (c1.below_ (by simp) (fun _ h => h))
  have hb := wbytes_any h1 (by simp [be_length])
  clear h1 c1 hc c0
  go_wp2_with fail
  refine hb.mono ?_
  rintro e w2 ⟨A, c, rfl, hR, hB⟩
  have HF := hid (And.intro (Kd.R_lower (Kd.R_mono hR (fun k hk => Nat.le_trans b1.size hk)) b1.size) (b1.trans (hB.mono b1.size)))
  clear hR hB b1 hb
  go_wp2
  go_ret
  exact ⟨A, c, rfl, HF.out⟩
theorem record_any {w : World} {okb : Nat → Prop} {A : Option Addr} {c : Nat} {v : List Int} (k : ByteArray) (hF : RB w okb A v) (hok : ∀ j, okb j → j < w.heap.size) (hl : k.size + v.length + 64 ≤ 140737488351232) :
    Calls Tryz.prog 60 #[.string k, .slice A v.length c] w fun e w' => OutB w w' e (recB k v) := by
  have h0 := new_writer w
  have c0 : Below w.heap.size w (w.alloc (.cells #[.slice none 0 0] 108)) := below_alloc (Below.refl _ _) _
  have hc := wtext_any k h0.bound (fun _ h => h.2) (by simp; omega)
  rw [List.nil_append] at hc
  clear h0
  go_enter Tryz.func60, Tryz.ntmps60
  go_wp2_with fail
  refine hc.mono ?_
  rintro e w1 ⟨rfl, h1, c1⟩
  have b1 : Below w.heap.size w w1 := c0.trans (c1.below_ (by simp) (fun _ h => h.1))
  have h1 := h1.mono (ok' := fun k => w.heap.size ≤ k) (fun k hk => hk.elim (fun h => h.1) (fun h => by simp at h; omega))
  have hF1 := RB_below hF b1
  have hc2 := wraw_any (c := c) h1 hF1 (fun j hj hj2 => by have := hok j hj; omega) (by rw [rawB_length, bytesOf_length]; omega)
  clear h1 c1 hc c0 hF1
  go_wp2_with fail
  refine hc2.mono ?_
  rintro e w2 ⟨rfl, h2, c2⟩
  have b2 : Below w.heap.size w w2 := b1.trans (c2.below_ b1.size (fun _ h => h))
  have hb := wbytes_any h2 (by have := recB_len k v; unfold recB at this; omega)
  clear h2 c2 hc2 b1
  rw [show rawB (bytesOf k) ++ rawB v = recB k v from rfl] at hb
  go_wp2_with fail
  refine hb.mono ?_
  rintro e w3 ⟨A, c, rfl, hR, hB⟩
  have HF := hid (And.intro (Kd.R_lower (Kd.R_mono hR (fun k hk => Nat.le_trans b2.size hk)) b2.size) (b2.trans (hB.mono b2.size)))
  clear hR hB b2 hb
  go_wp2
  go_ret
  exact ⟨A, c, rfl, HF.out⟩
theorem toL (s : ByteArray) : s.toList = s.data.toList := Go.Lib.toList_data s
theorem not_empty {k : ByteArray} (h : ¬ k.size = 0) : (k.toList == []) = false ∧ k.toList.isEmpty = false := by
  have h2 : ¬ k.toList = [] := by
    rw [toL]
    intro e
    apply h
    have := congrArg List.length e
    simpa using this
  exact ⟨by simpa using h2, by simpa using h2⟩
theorem keyed_any {w : World} (k : ByteArray) : Calls Tryz.prog 51 #[.string k] w fun e w' => e = .returned (.bool (decide (keyedB k))) ∧ w = w' := by
  by_cases h0 : k.size = 0
  · obtain rfl : k = ⟨#[]⟩ := by
      rcases k with ⟨a⟩
      congr
      exact Array.eq_empty_of_size_eq_zero h0
    go_enter Tryz.func51, Tryz.ntmps51
    go_wp2
    go_ret
    exact ⟨by rfl, rfl⟩
  · obtain ⟨h1, h2⟩ := not_empty h0
    rw [show decide (keyedB k) = decide ((k.size : Int) ≤ 40) from by unfold keyedB; apply decide_eq_decide.2; omega]
    go_enter Tryz.func51, Tryz.ntmps51
    go_wp2
    go_ret
    exact ⟨rfl, rfl⟩
set_option maxHeartbeats 1000000 in
theorem needS_any {w : World} (k : ByteArray) (n : Int) (hn : -9223372036854775808 ≤ n ∧ n ≤ 9223372036854775807) : Calls Tryz.prog 15 #[.string k, .int .i64 n] w fun e w' => e = .returned (.int .i64 (needK k n)) ∧ w = w' := by
  have hk := keyed_any (w := w) k
  unfold needK
  by_cases h1 : keyedB k
  · rw [decide_eq_true h1] at hk
    by_cases h2 : n < 0
    · rw [if_neg (by omega)]
      go_enter Tryz.func15, Tryz.ntmps15
      go_wp2_with (go_at_call 51; refine hk.mono ?_; rintro e w' ⟨rfl, rfl⟩)
      go_ret
      exact ⟨rfl, rfl⟩
    · by_cases h3 : 131072 < n
      · rw [if_neg (by omega)]
        go_enter Tryz.func15, Tryz.ntmps15
        go_wp2_with (go_at_call 51; refine hk.mono ?_; rintro e w' ⟨rfl, rfl⟩)
        go_ret
        exact ⟨rfl, rfl⟩
      · rw [if_pos ⟨h1, by omega, by omega⟩]
        have hk2 := h1.2
        have hs : IntKind.i64.wrap (8 + (k.size : Int)) = 8 + k.size := by rw [IntKind.wrap_i64]; omega
        have hs2 : IntKind.i64.wrap (8 + (k.size : Int) + n) = 8 + k.size + n := by rw [IntKind.wrap_i64]; omega
        have hd := need_any (w := w) (8 + k.size + n) (by omega)
        go_enter Tryz.func15, Tryz.ntmps15
        go_wp2_with (first | (go_at_call 51; refine hk.mono ?_; rintro e w' ⟨rfl, rfl⟩) | (go_at_call 52; refine hd.mono ?_; rintro e w' ⟨rfl, rfl⟩))
        go_ret
        exact ⟨rfl, rfl⟩
  · rw [decide_eq_false h1] at hk
    rw [if_neg (fun h => h1 h.1)]
    go_enter Tryz.func15, Tryz.ntmps15
    go_wp2_with (go_at_call 51; refine hk.mono ?_; rintro e w' ⟨rfl, rfl⟩)
    go_ret
    exact ⟨rfl, rfl⟩
theorem size_any {w : World} {ok : Nat → Prop} {p : Nat} {D : DM} (h : PDisk w ok p D) : Calls Tryz.prog 68 #[.pointer (some ⟨p, 0, none⟩)] w fun e w' => e = .returned (.int .i64 (sizeM D)) ∧ w = w' := by
  have hB := blocks_any h
  have h1 := h.1.lo
  have h2 := h.1.hi
  have e1 : IntKind.i64.wrap ((D.n : Int) - 2) = (D.n : Int) - 2 := by rw [IntKind.wrap_i64]; omega
  have e2 : ((D.n : Int) - 2).tdiv 2 = (sizeM D : Int) := by unfold sizeM; rw [Int.tdiv_eq_ediv_of_nonneg (by omega)]; omega
  have e3 : IntKind.i64.wrap (sizeM D : Int) = (sizeM D : Int) := by unfold sizeM; rw [IntKind.wrap_i64]; omega
  go_enter Tryz.func68, Tryz.ntmps68
  go_wp2_with (go_at_call 112; refine hB.mono ?_; rintro e w' ⟨rfl, rfl⟩)
  go_ret
  exact ⟨rfl, rfl⟩
theorem base_any {w : World} {ok : Nat → Prop} {p : Nat} {D : DM} (h : PDisk w ok p D) (K : Int) (hK : 0 ≤ K ∧ K ≤ 1) : Calls Tryz.prog 67 #[.pointer (some ⟨p, 0, none⟩), .int .i64 K] w fun e w' => e = .returned (.int .i64 (baseM D K)) ∧ w = w' := by
  have hB := size_any h
  have h2 := h.1.hi
  have e0 : sizeM D ≤ 4096 := by unfold sizeM; omega
  have e4 : (baseM D K : Int) = 2 + K * sizeM D := by unfold baseM; push_cast; rw [Int.toNat_of_nonneg hK.1]
  have e5 : 0 ≤ K * (sizeM D : Int) ∧ K * (sizeM D : Int) ≤ 4096 := by
    rcases (by omega : K = 0 ∨ K = 1) with rfl | rfl <;> omega
  rw [e4]
  have e1 : IntKind.i64.wrap (K * (sizeM D : Int)) = K * (sizeM D : Int) := by rw [IntKind.wrap_i64]; omega
  have e2 : IntKind.i64.wrap (2 + K * (sizeM D : Int)) = 2 + K * (sizeM D : Int) := by rw [IntKind.wrap_i64]; omega
  clear e4
  go_enter Tryz.func67, Tryz.ntmps67
  go_wp2_with (go_at_call 68; refine hB.mono ?_; rintro e w' ⟨rfl, rfl⟩)
  go_ret
  exact ⟨rfl, rfl⟩
end Go.Proofs.YticogmpafehomaaGreatDoor

set_option linter.unusedVariables false
set_option linter.unusedSimpArgs false
namespace Go.Proofs.YticogmpafehomaaGreatDoor
open Go.RowKit Go.Proofs.YticogmpafehomaaGreatDoorW.PrintWords Go.Proofs.YticogmpafehomaaGreatDoorW.PrintMore

/-- A manifest as a value. -/
def manV (m : MM) : Value := .agg #[.int .u64 m.N, .int .u64 m.G, .int .i64 m.K]
set_option maxHeartbeats 2000000 in
theorem pack_err {w : World} {m : MM} (h : ¬ m.ok) (hN : 0 ≤ m.N) (hG : 0 ≤ m.G) : Calls Tryz.prog 10 #[manV m] w fun e w' => e = .returned (.tuple #[.slice none 0 0, .int .i64 1]) ∧ Below w.heap.size w w' := by
  have hB := below_alloc (Below.refl w.heap.size w) (.cells #[.int .u64 m.N, .int .u64 m.G, .int .i64 m.K] 29)
  unfold manV
  obtain ⟨N, G, K⟩ := m
  dsimp only at *
  unfold MM.ok mostN at h
  dsimp only at h
  have HB := hid hB
  clear hB
  by_cases h1 : N = 0
  · subst h1
    clear h hG
    go_enter Tryz.func10, Tryz.ntmps10
    go_wp2
    go_ret2
    exact ⟨rfl, HB.out⟩
  have k1 : (N == 0) = false := by simpa using h1
  by_cases h2 : 9223372036854775807 < N
  · clear h hG h1
    go_enter Tryz.func10, Tryz.ntmps10
    go_wp2
    go_ret2
    exact ⟨rfl, HB.out⟩
  by_cases h3 : G = 0
  · subst h3
    clear h h1
    go_enter Tryz.func10, Tryz.ntmps10
    go_wp2
    go_ret2
    exact ⟨rfl, HB.out⟩
  have k3 : (G == 0) = false := by simpa using h3
  by_cases h4 : 9223372036854775807 < G
  · clear h hG h1 h3
    go_enter Tryz.func10, Tryz.ntmps10
    go_wp2
    go_ret2
    exact ⟨rfl, HB.out⟩
  by_cases h5 : K < 0
  · clear h h1 h3
    go_enter Tryz.func10, Tryz.ntmps10
    go_wp2
    go_ret2
    exact ⟨rfl, HB.out⟩
  by_cases h6 : 1 < K
  · clear h h1 h3
    go_enter Tryz.func10, Tryz.ntmps10
    go_wp2
    go_ret2
    exact ⟨rfl, HB.out⟩
  omega
theorem make64 : ∀ W : World, (Instr.makeSlice 25 (.int .i64 64) (.int .i64 64)).run Tryz.prog W = .ok (.slice (some ⟨W.heap.size, 0, none⟩) 64 64) (W.alloc (.cells (nums .u8 (fill [])).toArray 5)) := by
  intro W
  have := print_make (P := Tryz.prog) 25 5 .u8 1 Tryz.underlying25 info_u8 (by decide) 64 (by omega) W
  rw [show madeCells #[Value.int .u8 0] 64 = (nums .u8 (fill [])).toArray from by kernel_rfl] at this
  exact this
set_option maxRecDepth 100000 in
set_option maxHeartbeats 4000000 in
theorem pack_any {w : World} {m : MM} (h : m.ok) : Calls Tryz.prog 10 #[manV m] w fun e w' => ∃ g, e = .returned (.tuple #[.slice (some ⟨g, 0, none⟩) 64 64, .int .i64 0]) ∧ w.heap.size ≤ g ∧ BU w' g 5 (packB m) ∧ Below w.heap.size w w' := by
  have hmk := make64
  have hB := below_alloc (below_alloc (Below.refl w.heap.size w) (.cells #[.int .u64 m.N, .int .u64 m.G, .int .i64 m.K] 29)) (.cells (nums .u8 (fill [])).toArray 5)
  have g0 : BU ((w.alloc (.cells #[.int .u64 m.N, .int .u64 m.G, .int .i64 m.K] 29)).alloc (.cells (nums .u8 (fill [])).toArray 5)) (w.alloc (.cells #[.int .u64 m.N, .int .u64 m.G, .int .i64 m.K] 29)).heap.size 5 (fill []) := heap_alloc_new _ _
  have hm0 : ((w.alloc (.cells #[.int .u64 m.N, .int .u64 m.G, .int .i64 m.K] 29)).alloc (.cells (nums .u8 (fill [])).toArray 5)).heap[w.heap.size]? = some (.cells #[.int .u64 m.N, .int .u64 m.G, .int .i64 m.K] 29 (0, 0)) := by
    rw [Below.heap_alloc _ _ _ (by simp)]
    exact heap_alloc_new _ _
  obtain ⟨w1, hcp, g1, c1⟩ := g0.copy_str (P := Tryz.prog) 25 9 3 5 0 64 64 ⟨#[102, 109]⟩ Tryz.underlying25 (by kernel_rfl) (by decide) (by decide)
  have e1 : splice (fill []) 0 (bytesOf ⟨#[102, 109]⟩) = fill [102, 109] := by decide
  rw [e1] at g1
  unfold manV
  obtain ⟨hN1, hN2, hG1, hG2, hK1, hK2⟩ := h
  unfold mostN at hN2 hG2
  have hpk : packB m = [102, 109] ++ be m.N 8 ++ be m.G 8 ++ [m.K] ++ List.replicate 45 0 := by simp [packB]
  rw [hpk]
  obtain ⟨N, G, K⟩ := m
  dsimp only at *
  have b1 : Below w.heap.size w w1 := hB.trans (c1.below_ (B := w.heap.size) hB.size (fun k hk => by simp at hk; omega))
  have hm1 := (c1.block w.heap.size (by simp; omega) (by simp)).trans hm0
  have sz0 : (w.alloc (.cells #[.int .u64 N, .int .u64 G, .int .i64 K] 29)).heap.size = w.heap.size + 1 := World.size_alloc _ _
  rw [sz0] at g1 c1 hcp
  have sz1 : w.heap.size + 2 ≤ w1.heap.size := by have := c1.size; simp at this; omega
  clear c1 g0 hm0 hB e1 hpk
  have k1 : (N == 0) = false := by have : N ≠ 0 := by omega
                                   simpa using this
  have k3 : (G == 0) = false := by have : G ≠ 0 := by omega
                                   simpa using this
  have h2 : ¬ 9223372036854775807 < N := by omega
  have h4 : ¬ 9223372036854775807 < G := by omega
  have h5 : ¬ K < 0 := by omega
  have h6 : ¬ 1 < K := by omega
  go_enter Tryz.func10, Tryz.ntmps10
  go_wp2_with fail
  clear hcp hmk
  have kc := cell_of_row _ _ 0 _ _ _ (show w1.drew.heap[w.heap.size]? = _ from hm1)
  simp at kc
  refine wp_region_plan [] (.take 0 (.take 1 (.take 2 (.take 3 (.run 4 (.run 5 .done)))))) (fun w' => w'.cell? ⟨w.heap.size, 0, none⟩ = some (.int .u64 N)) (by kernel_rfl) (by kernel_rfl) (fun c a d v w h => by cases d <;> exact h) kc ?_
  iterate 4 (apply plan_take rfl rfl; (case hy => (intro w' hS; have s0 := hS; clear hS; go_simp; try exact rfl)); go_simp)
  refine plan_run_on rfl rfl (fun J hJ => ?_)
  go_simp
  refine (long_any (w := w1.drew) N (by omega)).mono ?_
  rintro e w2 ⟨A2, q2, rfl, hR2, hB2⟩
  have b2 : Below w.heap.size w w2 := (below_drew b1).trans (hB2.mono (by simp; omega))
  have g2 := g1.step (w1 := w2) (hB2.block _ (by simp; omega))
  have hm2 := (hB2.block w.heap.size (by simp; omega)).trans hm1
  obtain ⟨w3, hcp, g3, c3⟩ := g2.copy_row (P := Tryz.prog) 25 25 3 5 2 62 62 q2 (Kd.F_now (Kd.R_F hR2)) Tryz.underlying25 (by kernel_rfl) (by rw [fill_length (by simp [be_length]), be_length]; omega)
  have q3 := fill_splice' (p := [102, 109]) (vs := be N 8) (off := 2) (by simp [be_length]) (by simp [be_length])
  rw [List.take_of_length_le (by rw [be_length]; omega), q3] at g3
  rw [be_length] at hcp ⊢
  clear g2 hR2 q3
  refine hJ _ _ _ (fun _ h => h) (by have := cell_of_row _ _ 0 _ _ _ hm2; simpa using this) ?_
  clear hJ J kc
  refine plan_run_on rfl rfl (fun J hJ => ?_)
  go_simp
  have b3 : Below w.heap.size w w3 := b2.trans (c3.below_ (B := w.heap.size) b2.size (fun k hk => by omega))
  have hm3 := (c3.block w.heap.size (by have := hB2.size; simp at this; omega) (by omega)).trans hm2
  have sz3 : w.heap.size + 2 ≤ w3.heap.size := by have := c3.size; have := hB2.size; simp at this; omega
  refine hJ _ _ _ (fun _ h => h) (by have := cell_of_row _ _ 0 _ _ _ hm3; simpa using this) ?_
  clear hJ J hcp
  refine plan_done ?_
  clear hm1 hm2 g1 b1 b2 hB2 c3 sz1
  go_wp2_with fail
  have kc := cell_of_row _ _ 1 _ _ _ (show w3.drew.heap[w.heap.size]? = _ from hm3)
  simp at kc
  refine wp_region_plan [] (.take 0 (.take 1 (.take 2 (.take 3 (.run 4 (.run 5 .done)))))) (fun w' => w'.cell? ⟨w.heap.size, 1, none⟩ = some (.int .u64 G)) (by kernel_rfl) (by kernel_rfl) (fun c a d v w h => by cases d <;> exact h) kc ?_
  iterate 4 (apply plan_take rfl rfl; (case hy => (intro w' hS; have s0 := hS; clear hS; go_simp; try exact rfl)); go_simp)
  refine plan_run_on rfl rfl (fun J hJ => ?_)
  go_simp
  refine (long_any (w := w3.drew) G (by omega)).mono ?_
  rintro e w4 ⟨A4, q4, rfl, hR4, hB4⟩
  have b4 : Below w.heap.size w w4 := (below_drew b3).trans (hB4.mono (by simp; omega))
  have g4 := g3.step (w1 := w4) (hB4.block _ (by simp; omega))
  have hm4 := (hB4.block w.heap.size (by simp; omega)).trans hm3
  obtain ⟨w5, hcp, g5, c5⟩ := g4.copy_row (P := Tryz.prog) 25 25 3 5 10 54 54 q4 (Kd.F_now (Kd.R_F hR4)) Tryz.underlying25 (by kernel_rfl) (by rw [fill_length (by simp [be_length]), be_length]; omega)
  have q5 := fill_splice' (p := [102, 109] ++ be N 8) (vs := be G 8) (off := 10) (by simp [be_length]) (by simp [be_length])
  rw [List.take_of_length_le (by rw [be_length]; omega), q5] at g5
  rw [be_length] at hcp ⊢
  clear g4 hR4 q5
  refine hJ _ _ _ (fun _ h => h) (by have := cell_of_row _ _ 1 _ _ _ hm4; simpa using this) ?_
  clear hJ J kc
  refine plan_run_on rfl rfl (fun J hJ => ?_)
  go_simp
  have b5 : Below w.heap.size w w5 := b4.trans (c5.below_ (B := w.heap.size) b4.size (fun k hk => by omega))
  have hm5 := (c5.block w.heap.size (by have := hB4.size; simp at this; omega) (by omega)).trans hm4
  refine hJ _ _ _ (fun _ h => h) (by have := cell_of_row _ _ 1 _ _ _ hm5; simpa using this) ?_
  clear hJ J hcp
  refine plan_done ?_
  clear hm3 hm4 g3 b3 b4 hB4 c5 sz3
  have kc := cell_of_row _ _ 2 _ _ _ hm5
  simp at kc
  have uk : IntKind.u8.wrap K = K := by rw [IntKind.wrap_u8]; omega
  obtain ⟨z, kz⟩ : ∃ z, w5.cell? ⟨w.heap.size + 1, 18, none⟩ = some (.int .u8 z) := ⟨_, g5.cell (k := 18) (by rw [fill_length (by simp [be_length])]; omega)⟩
  have kf := g5.free 18
  have g6 : BU (w5.setCell ⟨w.heap.size + 1, 18, none⟩ (.int .u8 K)) (w.heap.size + 1) 5 ([102, 109] ++ be N 8 ++ be G 8 ++ [K] ++ List.replicate 45 0) := by
    have := g5.set 18 K
    have q := fill_set (p := [102, 109] ++ be N 8 ++ be G 8) (by simp [be_length]) K
    rw [show ([102, 109] ++ be N 8 ++ be G 8 : List Int).length = 18 from by simp [be_length]] at q
    rw [q] at this
    unfold fill at this
    rwa [show ([102, 109] ++ be N 8 ++ be G 8 ++ [K] : List Int).length = 19 from by simp [be_length]] at this
  have b6 : Below w.heap.size w (w5.setCell ⟨w.heap.size + 1, 18, none⟩ (.int .u8 K)) := b5.setCell (p := ⟨w.heap.size + 1, 18, none⟩) (by simp) _
  have HF := hid (And.intro g6 b6)
  clear g6 b6 g5 b5 hm5
  go_wp2_with fail
  go_ret2
  exact ⟨_, rfl, by omega, HF.out⟩
end Go.Proofs.YticogmpafehomaaGreatDoor

set_option linter.unusedVariables false
set_option linter.unusedSimpArgs false
namespace Go.Proofs.YticogmpafehomaaGreatDoor
open Go.RowKit Go.Proofs.YticogmpafehomaaGreatDoorW.PrintWords Go.Proofs.YticogmpafehomaaGreatDoorW.PrintMore

abbrev W3s (w : World) (n : Nat) (v0 v1 v2 : Value) : World := ((w.setCell ⟨n, 0, none⟩ v0).setCell ⟨n, 1, none⟩ v1).setCell ⟨n, 2, none⟩ v2
theorem set3 {w : World} {n T : Nat} {a0 a1 a2 : Value} (h : w.heap[n]? = some (.cells #[a0, a1, a2] T (0, 0))) (v0 v1 v2 : Value) : (W3s w n v0 v1 v2).heap[n]? = some (.cells #[v0, v1, v2] T (0, 0)) := by
  have h1 := heap_setCell_same w n 0 _ _ v0 h
  have h2 := heap_setCell_same _ n 1 _ _ v1 h1
  have h3 := heap_setCell_same _ n 2 _ _ v2 h2
  exact h3
theorem below3 {B : Nat} {w0 w : World} (h : Below B w0 w) {n : Nat} (hn : B ≤ n) (v0 v1 v2 : Value) : Below B w0 (W3s w n v0 v1 v2) := ((h.setCell (p := ⟨n, 0, none⟩) hn v0).setCell (p := ⟨n, 1, none⟩) hn v1).setCell (p := ⟨n, 2, none⟩) hn v2
/-- What Parse answers. -/
def parseV (o : Option MM) : Value := .tuple #[manV (o.getD ⟨0, 0, 0⟩), .bool o.isSome]
theorem toL_str {xs ys : List Int} (hx : Bytes xs) (hy : Bytes ys) : ((strOfNums xs).toList == (strOfNums ys).toList) = decide (xs = ys) := by
  rw [Bool.eq_iff_iff, beq_iff_eq, decide_eq_true_eq]
  constructor
  · intro hh
    rw [ByteArray.toList_eq, ByteArray.toList_eq] at hh
    exact (str_iff hx hy).1 (by
      cases h1 : strOfNums xs; cases h2 : strOfNums ys
      rw [h1, h2] at hh
      simp only [ByteArray.mk.injEq]
      exact Array.toList_inj.1 hh)
  · rintro rfl; rfl
theorem getD_take {b : List Int} (h : b.length = 64) : val ((((b.drop 2).take 17).drop 16).take 1) = b.getD 18 0 := by
  have e : (((b.drop 2).take 17).drop 16).take 1 = [b[18]'(by omega)] := by
    apply List.ext_getElem?
    intro i
    rcases i with _ | i
    · simp [List.getElem?_take, List.getElem?_drop, h]
    · simp [List.getElem?_take]
  rw [e]
  simp [val, List.getD_eq_getElem?_getD, h]
set_option maxRecDepth 100000 in
set_option maxHeartbeats 4000000 in
theorem parse_any {w : World} {ok : Nat → Prop} {A : Option Addr} {c : Nat} {b : List Int} (h : RB w ok A b) (hb : Bytes b) (hc : b.length ≤ c) (i : Int) (hi : -9223372036854775808 ≤ i ∧ i ≤ 9223372036854775807) :
  Calls Tryz.prog 12 #[.slice A b.length c, .int .i64 i] w fun e w' => e = .returned (parseV (parseM b i)) ∧ Below w.heap.size w w' := by
  have hlm := RB_len h
  have hz := heap_alloc_new w (.cells #[.int .u64 0, .int .u64 0, .int .i64 0] 29)
  have hb0 := below_alloc (Below.refl w.heap.size w) (.cells #[.int .u64 0, .int .u64 0, .int .i64 0] 29)
  by_cases h64 : b.length = 64
  · obtain ⟨a, rfl⟩ := RB_some h (by omega)
    have hx17 : ((b.drop 2).take 17).length = 17 := part_len (by omega)
    have hR0 := part (RB_below h hb0) (i := 2) (n := 17) (by omega)
    have hrd := read_any (A := some (a.add 2)) (c := c - 2) (xs := (b.drop 2).take 17) (Kd.F_now hR0) ((hb.drop 2).take 17) (by omega)
    rw [hx17] at hrd
    rw [h64] at hc ⊢
    have n2 : ¬ c = 2 := by omega
    have i2 : (2 : Int) ≤ (c : Int) := by omega
    have i19 : (19 : Int) ≤ (c : Int) := by omega
    obtain ⟨w0, hw0⟩ : ∃ w0, w.alloc (.cells #[.int .u64 0, .int .u64 0, .int .i64 0] 29) = w0 := ⟨_, rfl⟩
    rw [hw0] at hz hb0 hrd
    have e1 : (⟨(b.drop 2).take 17, 0⟩ : St).out (oNum 8 ((b.drop 2).take 17)) 0 = numAt b 2 8 := by
      unfold St.out oNum numAt
      rw [if_pos rfl, if_pos (by omega), List.take_take]
      rfl
    have t1 : (⟨(b.drop 2).take 17, 0⟩ : St).took (oNum 8 ((b.drop 2).take 17)) = ⟨((b.drop 2).take 17).drop 8, 0⟩ := by
      unfold St.took oNum
      rw [if_pos rfl, if_pos (by omega)]
    have e2 : (⟨((b.drop 2).take 17).drop 8, 0⟩ : St).out (oNum 8 (((b.drop 2).take 17).drop 8)) 0 = numAt b 10 8 := by
      unfold St.out oNum numAt
      rw [if_pos rfl, if_pos (by rw [List.length_drop]; omega), List.drop_take, List.drop_drop, List.take_take]
      rfl
    have t2 : (⟨((b.drop 2).take 17).drop 8, 0⟩ : St).took (oNum 8 (((b.drop 2).take 17).drop 8)) = ⟨((b.drop 2).take 17).drop 16, 0⟩ := by
      unfold St.took oNum
      rw [if_pos rfl, if_pos (by rw [List.length_drop]; omega), List.drop_drop]
    have e3 : (⟨((b.drop 2).take 17).drop 16, 0⟩ : St).out (oNum 1 (((b.drop 2).take 17).drop 16)) 0 = b.getD 18 0 := by
      unfold St.out oNum
      rw [if_pos rfl, if_pos (by rw [List.length_drop]; omega)]
      exact getD_take h64
    have hx18 : 0 ≤ b.getD 18 0 ∧ b.getD 18 0 < 256 := hb.rd_ 18
    have l1 := numAt_lt hb (i := 2) (n := 8) (by omega)
    have l2 := numAt_lt hb (i := 10) (n := 8) (by omega)
    rw [show (256 : Int) ^ 8 = 18446744073709551616 from by decide] at l1 l2
    have hN : numAt b 2 8 = (manB b).N := rfl
    have hG : numAt b 10 8 = (manB b).G := rfl
    have hK : b.getD 18 0 = (manB b).K := rfl
    rw [hN] at e1 l1
    rw [hG] at e2 l2
    rw [hK] at e3 hx18
    clear hN hG hK
    have hP : parseM b i = if (manB b).ok ∧ b = packB (manB b) ∧ i = (manB b).N % 2 then some (manB b) else none := by
      unfold parseM
      by_cases hh : (manB b).ok ∧ b = packB (manB b) ∧ i = (manB b).N % 2
      · rw [if_pos ⟨h64, hh⟩, if_pos hh]
      · rw [if_neg (fun hq => hh hq.2), if_neg hh]
    rw [hP]
    have hpb := fun (hh : (manB b).ok) => toL_str hb (pack_bytes hh)
    generalize hm : manB b = m at e1 e2 e3 l1 l2 hx18 hpb ⊢
    generalize hs0 : (⟨(b.drop 2).take 17, 0⟩ : St) = s0 at e1 t1 hrd
    generalize hs1 : (⟨((b.drop 2).take 17).drop 8, 0⟩ : St) = s1 at e2 t1 t2
    generalize hs2 : (⟨((b.drop 2).take 17).drop 16, 0⟩ : St) = s2 at e3 t2
    have q0 : s0.b = (b.drop 2).take 17 := by rw [← hs0]
    have q1 : s1.b = ((b.drop 2).take 17).drop 8 := by rw [← hs1]
    have q2 : s2.b = ((b.drop 2).take 17).drop 16 := by rw [← hs2]
    rw [← q0] at e1 t1
    rw [← q1] at e2 t2
    rw [← q2] at e3
    have HB := hid (And.intro h hb)
    clear hs0 hs1 hs2 hm hP q0 q1 q2 hR0 h hb hx17
    obtain ⟨N, G, K⟩ := m
    dsimp only at *
    have uk : IntKind.i64.wrap K = K := by rw [IntKind.wrap_i64]; omega
    clear hlm
    obtain ⟨R, hR⟩ : ∃ R, (if (⟨N, G, K⟩ : MM).ok ∧ b = packB ⟨N, G, K⟩ ∧ i = N % 2 then some (⟨N, G, K⟩ : MM) else none) = R := ⟨_, rfl⟩
    rw [hR]
    have HR := hid hR
    clear hR
    go_enter Tryz.func12, Tryz.ntmps12
    go_wp2_with fail
    refine hrd.mono ?_
    rintro e w1 ⟨p, rfl, hP1, hb1⟩
    have hz1 := (hb1.block _ (blk_lt hz)).trans hz
    have hB1 := hb0.trans (hb1.mono hb0.size)
    have hpge : w0.heap.size ≤ p := by obtain ⟨_, h, _⟩ := hP1; exact h.okp.1
    have hpn := blk_lt hz
    clear hrd hb0 hz hb1 hw0
    go_wp2_with fail
    refine (mLong_any hP1 (fun k hk => hk.2)).mono ?_
    rintro e w2 ⟨u, rfl, rfl, hP2, hC2⟩
    rw [t1] at hP2
    simp only [e1]
    have hz2 := (hC2.block _ (blk_lt hz1) (by omega)).trans hz1
    have hB2 := hB1.trans (hC2.below_ hB1.size (fun k hk => by omega))
    have sz2 := hC2.size
    clear hP1 hC2 hz1 hB1 t1 e1
    go_wp2_with fail
    refine (mLong_any hP2 (fun k hk => Nat.lt_of_lt_of_le hk.2 sz2)).mono ?_
    rintro e w3 ⟨u, rfl, rfl, hP3, hC3⟩
    rw [t2] at hP3
    simp only [e2]
    have hz3 := (hC3.block _ (blk_lt hz2) (by omega)).trans hz2
    have hB3 := hB2.trans (hC3.below_ hB2.size (fun k hk => by omega))
    have sz3 := Nat.le_trans sz2 hC3.size
    clear hP2 hC3 hz2 hB2 t2 e2
    go_wp2_with fail
    refine (mByte_any hP3 (fun k hk => Nat.lt_of_lt_of_le hk.2 sz3)).mono ?_
    rintro e w4 ⟨u, rfl, rfl, hP4, hC4⟩
    simp only [e3]
    have hz4 := (hC4.block _ (blk_lt hz3) (by omega)).trans hz3
    have hB4 := hB3.trans (hC4.below_ hB3.size (fun k hk => by omega))
    clear hP3 hC4 hz3 hB3 e3 hP4
    go_wp2_with fail
    have hz5 := (Below.heap_alloc w4 (.cells #[.int .u64 N, .int .u64 G, .int .i64 K] 29) w.heap.size (blk_lt hz4)).trans hz4
    have hr5 := heap_alloc_new w4 (.cells #[.int .u64 N, .int .u64 G, .int .i64 K] 29)
    have hB5 := below_step hB4 (below_alloc (Below.refl _ _) (.cells #[.int .u64 N, .int .u64 G, .int .i64 K] 29))
    have hlt4 := blk_lt hz4
    generalize w4.alloc (.cells #[.int .u64 N, .int .u64 G, .int .i64 K] 29) = w5 at hz5 hr5 hB5 ⊢
    have hlt5 := blk_lt hr5
    have hlt6 := blk_lt hz5
    clear hz4 hB4
    by_cases hok : (⟨N, G, K⟩ : MM).ok
    · have hpk := pack_any (w := w5) hok
      have hpb2 := hpb hok
      unfold manV at hpk
      dsimp only at hpk
      refine hpk.mono ?_
      rintro e w6 ⟨g, rfl, hg, hU, hB6⟩
      have hz6 := (hB6.block _ hlt6).trans hz5
      have hr6 := (hB6.block _ hlt5).trans hr5
      have hB7 := below_step hB5 hB6
      have hW : Below w.heap.size w w6 := hB7
      have cv1 : (convert 25 9 (.slice (some a) 64 c)).run Tryz.prog w6 = .ok (.string (strOfNums b)) w6 := by
        have := conv_str (c := c) (Kd.F_now (RB_below HB.out.1 hW))
        rwa [h64] at this
      have cv2 : (convert 25 9 (.slice (some ⟨g, 0, none⟩) 64 64)).run Tryz.prog w6 = .ok (.string (strOfNums (packB ⟨N, G, K⟩))) w6 := by
        have := conv_str (c := 64) (Kd.F_now (hU.row (by rw [pack_len]; omega)))
        rwa [pack_len] at this
      have k0 := cell_of_row _ _ 0 _ _ _ hr6
      have k1 := cell_of_row _ _ 1 _ _ _ hr6
      have k2 := cell_of_row _ _ 2 _ _ _ hr6
      have z0 := cell_of_row _ _ 0 _ _ _ hz6
      have z1 := cell_of_row _ _ 1 _ _ _ hz6
      have z2 := cell_of_row _ _ 2 _ _ _ hz6
      have f0 := frozen_of_row _ _ 0 _ _ hz6
      have f1 := frozen_of_row _ _ 1 _ _ hz6
      have f2 := frozen_of_row _ _ 2 _ _ hz6
      simp at k0 k1 k2 z0 z1 z2
      have hN0 : 0 ≤ N ∧ N ≤ 9223372036854775807 := by have := hok.1; have := hok.2.1; unfold mostN at this; dsimp only at *; omega
      have HOK := hid hok
      generalize hps : strOfNums (packB ⟨N, G, K⟩) = S at cv2 hpb2
      generalize hbs : strOfNums b = T at cv1 hpb2
      have hzf := hid (And.intro (set3 hz6) (And.intro (fun v0 v1 v2 => below3 hW (Nat.le_refl w.heap.size) v0 v1 v2) (And.intro hz6 hW)))
      clear hok hpk hU hB6 hz6 hr6 hB7 hW hz5 hr5 hB5 hps hbs hpb HB
      by_cases hbe : b = packB ⟨N, G, K⟩
      · rw [decide_eq_true hbe] at hpb2
        have hmod : (N.tmod 2) = N % 2 := Int.tmod_eq_emod_of_nonneg hN0.1
        have hwm : IntKind.u64.wrap (N % 2) = N % 2 := by rw [IntKind.wrap_u64]; omega
        by_cases hie : i = N % 2
        · have hwi : IntKind.u64.wrap i = N % 2 := by rw [IntKind.wrap_u64]; omega
          have hfin : R = some ⟨N, G, K⟩ := by rw [← HR.out, if_pos ⟨HOK.out, hbe, hie⟩]
          subst hfin
          clear hie hbe HR
          go_wp2
          refine bodyPost_ret (results_ct rfl _ _ w.heap.size 29 _ _ _ rfl (hzf.out.1 (.int .u64 N) (.int .u64 G) (.int .i64 K)) Tryz.underlying29 rfl (by kernel_rfl)) rfl ?_
          exact ⟨rfl, hzf.out.2.1 _ _ _⟩
        · obtain ⟨j, hwi⟩ : ∃ j, IntKind.u64.wrap i = j := ⟨_, rfl⟩
          have hji : (j == N % 2) = false := by
            have : ¬ j = N % 2 := by rw [← hwi, IntKind.wrap_u64]; omega
            simpa using this
          have hfin : R = none := by rw [← HR.out, if_neg (fun hh => hie hh.2.2)]
          subst hfin
          clear hie hbe HR
          go_wp2
          refine bodyPost_ret (results_ct rfl _ _ w.heap.size 29 _ _ _ rfl (hzf.out.1 (.int .u64 0) (.int .u64 0) (.int .i64 0)) Tryz.underlying29 rfl (by kernel_rfl)) rfl ?_
          exact ⟨rfl, hzf.out.2.1 _ _ _⟩
      · rw [decide_eq_false hbe] at hpb2
        have hfin : R = none := by rw [← HR.out, if_neg (fun hh => hbe hh.2.1)]
        subst hfin
        clear hbe HR
        go_wp2
        refine bodyPost_ret (results_ct rfl _ _ w.heap.size 29 _ _ _ rfl (hzf.out.1 (.int .u64 0) (.int .u64 0) (.int .i64 0)) Tryz.underlying29 rfl (by kernel_rfl)) rfl ?_
        exact ⟨rfl, hzf.out.2.1 _ _ _⟩
    · have hpk := pack_err (w := w5) hok l1.1 l2.1
      unfold manV at hpk
      dsimp only at hpk
      have hfin : R = none := by rw [← HR.out, if_neg (fun hh => hok hh.1)]
      subst hfin
      refine hpk.mono ?_
      rintro e w6 ⟨rfl, hB6⟩
      have hz6 := (hB6.block _ hlt6).trans hz5
      have hB7 := below_step hB5 hB6
      have z0 := cell_of_row _ _ 0 _ _ _ hz6
      have z1 := cell_of_row _ _ 1 _ _ _ hz6
      have z2 := cell_of_row _ _ 2 _ _ _ hz6
      have f0 := frozen_of_row _ _ 0 _ _ hz6
      have f1 := frozen_of_row _ _ 1 _ _ hz6
      have f2 := frozen_of_row _ _ 2 _ _ hz6
      simp at z0 z1 z2
      have hzf := hid (And.intro (set3 hz6) (And.intro (fun v0 v1 v2 => below3 hB7 (Nat.le_refl w.heap.size) v0 v1 v2) (And.intro hz6 hB7)))
      clear hok hpk hB6 hz6 hB7 hz5 hr5 hB5 hpb HB HR
      go_wp2
      refine bodyPost_ret (results_ct rfl _ _ w.heap.size 29 _ _ _ rfl (hzf.out.1 (.int .u64 0) (.int .u64 0) (.int .i64 0)) Tryz.underlying29 rfl (by kernel_rfl)) rfl ?_
      exact ⟨rfl, hzf.out.2.1 _ _ _⟩
  · rw [show parseM b i = none from by unfold parseM; rw [if_neg (fun hh => h64 hh.1)]]
    have hl : ((b.length : Int) == 64) = false := by simpa using (by omega : ¬ (b.length : Int) = 64)
    have hf := hb0
    have hz0 := hz
    go_enter Tryz.func12, Tryz.ntmps12
    go_wp2
    refine bodyPost_ret (results_ct rfl _ _ w.heap.size 29 _ _ _ rfl hz0 Tryz.underlying29 rfl (by kernel_rfl)) rfl ?_
    exact ⟨rfl, hf⟩
end Go.Proofs.YticogmpafehomaaGreatDoor

set_option linter.unusedVariables false
set_option linter.unusedSimpArgs false
namespace Go.Proofs.YticogmpafehomaaGreatDoor
open Go.RowKit Go.Proofs.YticogmpafehomaaGreatDoorW.PrintWords Go.Proofs.YticogmpafehomaaGreatDoorW.PrintMore

def lenS : Value → Nat
  | .slice _ n _ => n
  | _ => 0
set_option maxRecDepth 100000 in
theorem rlong_any {w : World} (n : Int) (hn : 0 ≤ n ∧ n < 18446744073709551616) :
  Calls Tryz.prog 43 #[.int .u64 n] w fun e w' => ∃ A c, e = .returned (.slice A 8 c) ∧ KB.R 5 w' w.heap.size (fun k => w.heap.size ≤ k) (.slice A 8 c) (be n 8) ∧ Below w.heap.size w w' := by
  go_enter Tryz.func43, Tryz.ntmps43
  go_wp2
  go_loopw [3, 4] (fun v i wr => ∃ j : Nat, j ≤ 8 ∧ i = .int .i64 (8 * (j : Int) - 8) ∧ KB.R 5 wr w.heap.size (fun k => w.heap.size ≤ k) v ((be n 8).take (8 - j)) ∧ Below w.heap.size w wr) (fun _ i _ => ((intOf i) + 8).toNat)
  case atStart => exact ⟨8, Nat.le_refl _, rfl, Kd.R_nil _ _ _ _ _, Below.refl _ _⟩
  case round =>
    obtain ⟨j, hj, rfl, hR, hB⟩ := hrel
    by_cases h0 : j = 0
    · subst h0
      rw [Nat.sub_zero, List.take_of_length_le (by rw [be_length]; omega)] at hR
      obtain ⟨A, c, hv⟩ := Kd.R_slice hR
      rw [be_length] at hv
      subst hv
      go_wp2
      go_ret
      exact ⟨A, c, rfl, hR, hB⟩
    · have hlt8 : ((be n 8).take (8 - j)).length ≤ 8 := by rw [List.length_take]; omega
      have hstep := be_take (n := n) (m := 8) (j := j) (by omega) hj
      generalize hT : (be n 8).take (8 - j) = T at hR hlt8 hstep
      clear hT
      have hsz := hB.size
      go_wp2_with (at_builtin; refine print_append_num (w0 := wr) w.heap.size rfl (.tmp 9) (.tmp 15) 25 5 .u8 1 rfl Tryz.underlying25 info_u8 (by decide) _ T (n / 2 ^ (8 * j - 8) % 256) rfl rfl ?HO ?HB ?hb ?hl ?_)
      case HO => exact R_own1 hR
      case HB => exact Below.refl _ _
      case hb => omega
      case hl => omega
      intro v1 w1 ho hB1 hg hat
      have ho' : w1.ownsRow w.heap.size 5 1 v1 ((be n 8).take (8 - (j - 1))).length (nums .u8 ((be n 8).take (8 - (j - 1)))) := by rw [List.length_take]; exact ho
      have hR1 : KB.R 5 w1 w.heap.size (fun k => w.heap.size ≤ k) v1 ((be n 8).take (8 - (j - 1))) := Rown ho' (fun q hq => own_base ho' q hq)
      have hBn : Below w.heap.size w w1 := hB.grown hg hsz (fun k hk => own_base (R_own1 hR) k hk)
      clear ho ho' hg hat hstep hB1
      go_wp2
      go_roundw
      case rel => exact ⟨j - 1, by omega, by congr 1; omega, hR1, hBn⟩
      case measure => simp [intOf]; omega
theorem fread_any {w : World} {A : Option Addr} {c : Nat} {xs : List Int} {oka : Nat → Prop} (hF : RB w oka A xs) (hlt : ∀ k, oka k → k < w.heap.size) (hX : Bytes xs) (hc : xs.length ≤ c) (hl : xs.length ≤ 140737488351232) :
  Calls Tryz.prog 47 #[.slice A xs.length c] w fun e w' => e = .returned (.pointer (some ⟨w.heap.size, 0, none⟩)) ∧ PFt w' (fun k => oka k ∨ k = w.heap.size) w.heap.size ⟨xs, 0⟩ ∧ w'.heap.size = w.heap.size + 1 ∧ Below w.heap.size w w' := by
  have hb := below_alloc (Below.refl w.heap.size w) (.cells #[.slice A xs.length c, .int .i64 0, .int .i64 0] 157)
  have hfin : PFt (w.alloc (.cells #[.slice A xs.length c, .int .i64 0, .int .i64 0] 157)) (fun k => oka k ∨ k = w.heap.size) w.heap.size ⟨xs, 0⟩ :=
    ⟨xs, 0, ⟨.inr rfl, hX, Nat.zero_le _, by omega, A, c, heap_alloc_new w _, Kd.F_mono (RB_below hF hb) (fun k hk => ⟨.inl hk, fun e => by have := hlt k hk; omega⟩), hc⟩, fun _ => rfl⟩
  have HF := hid (And.intro hfin (And.intro (by simp : (w.alloc (.cells #[.slice A xs.length c, .int .i64 0, .int .i64 0] 157)).heap.size = w.heap.size + 1) hb))
  clear hfin hb
  go_enter Tryz.func47, Tryz.ntmps47
  go_wp2
  go_ret
  exact ⟨rfl, HF.out⟩
theorem fkeyed_any {w : World} (k : ByteArray) : Calls Tryz.prog 53 #[.string k] w fun e w' => e = .returned (.bool (decide (keyedB k))) ∧ w = w' := by
  by_cases h1 : (1 : Int) ≤ (k.size : Int)
  · rw [show decide (keyedB k) = decide ((k.size : Int) ≤ 40) from by unfold keyedB; apply decide_eq_decide.2; omega]
    go_enter Tryz.func53, Tryz.ntmps53
    go_wp2
    go_ret
    exact ⟨rfl, rfl⟩
  · rw [show decide (keyedB k) = false from by apply decide_eq_false; unfold keyedB; omega]
    go_enter Tryz.func53, Tryz.ntmps53
    go_wp2
    go_ret
    exact ⟨rfl, rfl⟩
set_option maxHeartbeats 1000000 in
theorem needF_any {w : World} (k : ByteArray) (n : Int) (hn : -9223372036854775808 ≤ n ∧ n ≤ 9223372036854775807) : Calls Tryz.prog 16 #[.string k, .int .i64 n] w fun e w' => e = .returned (.int .i64 (needK k n)) ∧ w = w' := by
  have hk := fkeyed_any (w := w) k
  unfold needK
  by_cases h1 : keyedB k
  · rw [decide_eq_true h1] at hk
    by_cases h2 : n < 0
    · rw [if_neg (by omega)]
      go_enter Tryz.func16, Tryz.ntmps16
      go_wp2_with (go_at_call 53; refine hk.mono ?_; rintro e w' ⟨rfl, rfl⟩)
      go_ret
      exact ⟨rfl, rfl⟩
    · by_cases h3 : 131072 < n
      · rw [if_neg (by omega)]
        go_enter Tryz.func16, Tryz.ntmps16
        go_wp2_with (go_at_call 53; refine hk.mono ?_; rintro e w' ⟨rfl, rfl⟩)
        go_ret
        exact ⟨rfl, rfl⟩
      · rw [if_pos ⟨h1, by omega, by omega⟩]
        have hk2 := h1.2
        have hs : IntKind.i64.wrap (8 + (k.size : Int)) = 8 + k.size := by rw [IntKind.wrap_i64]; omega
        have hs2 : IntKind.i64.wrap (8 + (k.size : Int) + n) = 8 + k.size + n := by rw [IntKind.wrap_i64]; omega
        have hd := fneed_any (w := w) (8 + k.size + n) (by omega)
        go_enter Tryz.func16, Tryz.ntmps16
        go_wp2_with (first | (go_at_call 53; refine hk.mono ?_; rintro e w' ⟨rfl, rfl⟩) | (go_at_call 54; refine hd.mono ?_; rintro e w' ⟨rfl, rfl⟩))
        go_ret
        exact ⟨rfl, rfl⟩
  · rw [decide_eq_false h1] at hk
    rw [if_neg (fun h => h1 h.1)]
    go_enter Tryz.func16, Tryz.ntmps16
    go_wp2_with (go_at_call 53; refine hk.mono ?_; rintro e w' ⟨rfl, rfl⟩)
    go_ret
    exact ⟨rfl, rfl⟩
theorem fsame_any {w : World} {A A' : Option Addr} {c c' : Nat} {xs ys : List Int} (h : KB.C w A xs.length xs) (hx : Bytes xs) (h' : KB.C w A' ys.length ys) (hy : Bytes ys) :
    Calls Tryz.prog 50 #[.slice A xs.length c, .slice A' ys.length c'] w fun e w' => e = .returned (.bool (decide (xs = ys))) ∧ w = w' := by
  have e1 := conv_str (c := c) h
  have e2 := conv_str (c := c') h'
  have e3 := toL_str hx hy
  generalize strOfNums xs = S at e1 e3
  generalize strOfNums ys = T at e2 e3
  generalize decide (xs = ys) = q at e3 ⊢
  cases q with
  | true =>
    go_enter Tryz.func50, Tryz.ntmps50
    go_wp2
    go_ret
    exact ⟨by simp_all, rfl⟩
  | false =>
    go_enter Tryz.func50, Tryz.ntmps50
    go_wp2
    go_ret
    exact ⟨by simp_all, rfl⟩
set_option maxHeartbeats 2000000 in
theorem fpack_err {w : World} {m : MM} (h : ¬ m.ok) (hN : 0 ≤ m.N) (hG : 0 ≤ m.G) : Calls Tryz.prog 11 #[manV m] w fun e w' => e = .returned (.tuple #[.slice none 0 0, .int .i64 1]) ∧ Below w.heap.size w w' := by
  have hB := below_alloc (Below.refl w.heap.size w) (.cells #[.int .u64 m.N, .int .u64 m.G, .int .i64 m.K] 24)
  unfold manV
  obtain ⟨N, G, K⟩ := m
  dsimp only at *
  unfold MM.ok mostN at h
  dsimp only at h
  have HB := hid hB
  clear hB
  by_cases h1 : N < 1
  · clear h hG
    go_enter Tryz.func11, Tryz.ntmps11
    go_wp2
    go_ret2
    exact ⟨rfl, HB.out⟩
  by_cases h2 : 9223372036854775807 < N
  · clear h hG
    go_enter Tryz.func11, Tryz.ntmps11
    go_wp2
    go_ret2
    exact ⟨rfl, HB.out⟩
  by_cases h3 : G < 1
  · clear h
    go_enter Tryz.func11, Tryz.ntmps11
    go_wp2
    go_ret2
    exact ⟨rfl, HB.out⟩
  by_cases h4 : 9223372036854775807 < G
  · clear h hG
    go_enter Tryz.func11, Tryz.ntmps11
    go_wp2
    go_ret2
    exact ⟨rfl, HB.out⟩
  by_cases h5 : K < 0
  · clear h
    go_enter Tryz.func11, Tryz.ntmps11
    go_wp2
    go_ret2
    exact ⟨rfl, HB.out⟩
  by_cases h6 : 1 < K
  · clear h
    go_enter Tryz.func11, Tryz.ntmps11
    go_wp2
    go_ret2
    exact ⟨rfl, HB.out⟩
  omega
set_option maxRecDepth 100000 in
set_option maxHeartbeats 4000000 in
theorem fpack_any {w : World} {m : MM} (h : m.ok) : Calls Tryz.prog 11 #[manV m] w fun e w' => ∃ A c, e = .returned (.tuple #[.slice A 64 c, .int .i64 0]) ∧ KB.R 5 w' w.heap.size (fun k => w.heap.size ≤ k) (.slice A 64 c) (packB m) ∧ Below w.heap.size w w' := by
  have hpk : packB m = (([102, 109] ++ be m.N 8) ++ be m.G 8 ++ [m.K]) ++ List.replicate 45 0 := by simp [packB]
  rw [hpk]
  clear hpk
  unfold manV
  obtain ⟨hN1, hN2, hG1, hG2, hK1, hK2⟩ := h
  unfold mostN at hN2 hG2
  obtain ⟨N, G, K⟩ := m
  dsimp only at *
  have hx := heap_alloc_new w (.cells #[.int .u64 N, .int .u64 G, .int .i64 K] 24)
  have hb0 := below_alloc (Below.refl w.heap.size w) (.cells #[.int .u64 N, .int .u64 G, .int .i64 K] 24)
  have sz0 : (w.alloc (.cells #[.int .u64 N, .int .u64 G, .int .i64 K] 24)).heap.size = w.heap.size + 1 := World.size_alloc _ _
  have h1 : ¬ N < 1 := by omega
  have h2 : ¬ 9223372036854775807 < N := by omega
  have h3 : ¬ G < 1 := by omega
  have h4 : ¬ 9223372036854775807 < G := by omega
  have h5 : ¬ K < 0 := by omega
  have h6 : ¬ 1 < K := by omega
  have ho1 : ((w.alloc (.cells #[.int .u64 N, .int .u64 G, .int .i64 K] 24)).alloc (.cells #[.int .u8 102, .int .u8 109] 5)).ownsRow (w.heap.size + 1) 5 1 (.slice (some ⟨w.heap.size + 1, 0, none⟩) 2 2) 2 (nums .u8 [102, 109]) := by
    have := World.ownsRow_lit (base := w.heap.size + 1) (e := 5) (size := 1) (w.alloc (.cells #[.int .u64 N, .int .u64 G, .int .i64 K] 24)) #[.int .u8 102, .int .u8 109] 2 (by simp) (by simp [maxLen]) rfl
    rwa [sz0] at this
  have hR1 : KB.R 5 _ (w.heap.size + 1) (fun k => w.heap.size + 1 ≤ k) (.slice (some ⟨w.heap.size + 1, 0, none⟩) 2 2) [102, 109] := Rown ho1 (fun q hq => own_base ho1 q hq)
  have hx1 := (Below.heap_alloc (w.alloc (.cells #[.int .u64 N, .int .u64 G, .int .i64 K] 24)) (.cells #[.int .u8 102, .int .u8 109] 5) w.heap.size (by simp)).trans hx
  have hb1 := below_step hb0 (below_alloc (Below.refl _ _) (.cells #[.int .u8 102, .int .u8 109] 5))
  have sz1 : w.heap.size + 2 = ((w.alloc (.cells #[.int .u64 N, .int .u64 G, .int .i64 K] 24)).alloc (.cells #[.int .u8 102, .int .u8 109] 5)).heap.size := by simp
  clear ho1 hx hb0
  generalize hT0 : ([102, 109] : List Int) = T0 at hR1 ⊢
  have hl0 : T0.length = 2 := by rw [← hT0]; rfl
  have hlN : (be N 8).length = 8 := be_length _ _
  have hlG : (be G 8).length = 8 := be_length _ _
  clear hT0
  go_enter Tryz.func11, Tryz.ntmps11
  go_wp2_with fail
  try rw [sz0]
  generalize (w.alloc (.cells #[.int .u64 N, .int .u64 G, .int .i64 K] 24)).alloc (.cells #[.int .u8 102, .int .u8 109] 5) = w1 at hR1 hx1 hb1 sz1 ⊢
  clear sz0 h1 h2 h3 h4 h5 h6
  have kc := cell_of_row _ _ 0 _ _ _ hx1
  simp at kc
  refine (rlong_any (w := w1) N (by omega)).mono ?_
  rintro e w2 ⟨A2, c2, rfl, hR2, hB2⟩
  have hC2 : ReadsInt w2 .u8 A2 8 (be N 8) := by
    have := RB_int (R_RB hR2).2
    rwa [hlN] at this
  have hR1' := Kd.R_below hR1 hB2
  have hx2 := (hB2.block _ (blk_lt hx1)).trans hx1
  have hb2 := below_step hb1 hB2
  have sz2 : w.heap.size + 2 ≤ w2.heap.size := by have := hB2.size; omega
  clear hR1 hx1 hb1 sz1 hB2 hR2 kc
  go_wp2_with (at_builtin; refine print_append_row (w0 := w2) (w.heap.size + 1) rfl (.tmp 34) (.tmp 37) 25 5 .u8 1 rfl Tryz.underlying25 info_u8 (by decide) _ T0 (be N 8) A2 8 c2 rfl rfl ?HO ?HR ?HB ?hb ?hl ?_)
  case HO => exact R_own1 hR1'
  case HR => exact hC2
  case HB => exact Below.refl _ _
  case hb => omega
  case hl => omega
  intro v3 w3 ho3 hB3 hg3 hat3
  have hx3 := (hB3.block w.heap.size (by omega)).trans hx2
  have hb3 : Below w.heap.size w w3 := hb2.grown hg3 (by omega) (fun k hk => by have := own_base (R_own1 hR1') k hk; omega)
  have hR3 : KB.R 5 w3 (w.heap.size + 1) (fun k => w.heap.size + 1 ≤ k) v3 (T0 ++ be N 8) := Rown (by rw [List.length_append, hl0, hlN]; exact ho3) (fun q hq => own_base ho3 q hq)
  have sz3 : w.heap.size + 2 ≤ w3.heap.size := by have := hg3.size; omega
  generalize hT1 : T0 ++ be N 8 = T1 at hR3 ⊢
  have hl1 : T1.length = 10 := by rw [← hT1, List.length_append, hl0, hlN]
  have HT1 := hid hT1
  clear hT1
  clear hR1' hx2 hb2 sz2 ho3 hB3 hg3 hat3 hC2
  have kc := cell_of_row _ _ 1 _ _ _ hx3
  simp at kc
  go_wp2_with fail
  refine (rlong_any (w := w3) G (by omega)).mono ?_
  rintro e w4 ⟨A4, c4, rfl, hR4, hB4⟩
  have hC4 : ReadsInt w4 .u8 A4 8 (be G 8) := by
    have := RB_int (R_RB hR4).2
    rwa [hlG] at this
  have hR3' := Kd.R_below hR3 hB4
  have hx4 := (hB4.block _ (blk_lt hx3)).trans hx3
  have hb4 := below_step hb3 hB4
  have sz4 : w.heap.size + 2 ≤ w4.heap.size := by have := hB4.size; omega
  clear hR3 hx3 hb3 sz3 hB4 hR4 kc
  go_wp2_with (at_builtin; refine print_append_row (w0 := w4) (w.heap.size + 1) rfl (.tmp 39) (.tmp 42) 25 5 .u8 1 rfl Tryz.underlying25 info_u8 (by decide) _ T1 (be G 8) A4 8 c4 rfl rfl ?HO ?HR ?HB ?hb ?hl ?_)
  case HO => exact R_own1 hR3'
  case HR => exact hC4
  case HB => exact Below.refl _ _
  case hb => omega
  case hl => omega
  intro v5 w5 ho5 hB5 hg5 hat5
  have hx5 := (hB5.block w.heap.size (by omega)).trans hx4
  have hb5 : Below w.heap.size w w5 := hb4.grown hg5 (by omega) (fun k hk => by have := own_base (R_own1 hR3') k hk; omega)
  have hR5 : KB.R 5 w5 (w.heap.size + 1) (fun k => w.heap.size + 1 ≤ k) v5 (T1 ++ be G 8) := Rown (by rw [List.length_append, hl1, hlG]; exact ho5) (fun q hq => own_base ho5 q hq)
  have sz5 : w.heap.size + 2 ≤ w5.heap.size := by have := hg5.size; omega
  generalize hT2 : T1 ++ be G 8 = T2 at hR5 ⊢
  have hl2 : T2.length = 18 := by rw [← hT2, List.length_append, hl1, hlG]
  have HT2 := hid hT2
  clear hT2
  clear hR3' hx4 hb4 sz4 ho5 hB5 hg5 hat5 hC4
  have kc := cell_of_row _ _ 2 _ _ _ hx5
  simp at kc
  have uk : IntKind.u8.wrap K = K := by rw [IntKind.wrap_u8]; omega
  go_wp2_with (at_builtin; refine print_append_num (w0 := w5) (w.heap.size + 1) rfl (.tmp 44) (.tmp 48) 25 5 .u8 1 rfl Tryz.underlying25 info_u8 (by decide) _ T2 K rfl rfl ?HO ?HB ?hb ?hl ?_)
  case HO => exact R_own1 hR5
  case HB => exact Below.refl _ _
  case hb => omega
  case hl => omega
  intro v6 w6 ho6 hB6 hg6 hat6
  have hb6 : Below w.heap.size w w6 := hb5.grown hg6 (by omega) (fun k hk => by have := own_base (R_own1 hR5) k hk; omega)
  have hR6 : KB.R 5 w6 (w.heap.size + 1) (fun k => w.heap.size + 1 ≤ k) v6 (T2 ++ [K]) := by
    have ho' : w6.ownsRow (w.heap.size + 1) 5 1 v6 (T2 ++ [K]).length (nums .u8 (T2 ++ [K])) := by rw [List.length_append, hl2]; exact ho6
    exact Rown ho' (fun q hq => own_base ho' q hq)
  have sz6 : w.heap.size + 2 ≤ w6.heap.size := by have := hg6.size; omega
  generalize hT3 : T2 ++ [K] = T3 at hR6 ⊢
  have hl3 : T3.length = 19 := by rw [← hT3, List.length_append, hl2]; rfl
  have HT3 := hid hT3
  clear hT3
  clear hR5 hx5 hb5 sz5 ho6 hB6 hg6 hat6 kc uk
  go_wp2_with fail
  go_loopw [4] (fun v wr => ∃ j : Nat, j ≤ 45 ∧ KB.R 5 wr (w.heap.size + 1) (fun k => w.heap.size + 1 ≤ k) v (T3 ++ List.replicate j 0) ∧ Below w.heap.size w wr ∧ w.heap.size + 2 ≤ wr.heap.size) (fun v _ => 64 - lenS v)
  case atStart => exact ⟨0, Nat.zero_le _, by simpa using hR6, hb6, sz6⟩
  case round =>
    obtain ⟨j, hj, hR, hB, hs⟩ := hrel
    obtain ⟨A, c, rfl⟩ := Kd.R_slice hR
    have hlj : (T3 ++ List.replicate j (0 : Int)).length = 19 + j := by rw [List.length_append, hl3, List.length_replicate]
    rw [hlj] at hR ⊢
    by_cases h45 : j = 45
    · subst h45
      clear hR6 hb6 sz6 hlj
      have HF := hid (And.intro (Kd.R_lower (Kd.R_mono hR (fun k hk => Nat.le_trans (Nat.le_succ _) hk)) (Nat.le_succ _)) hB)
      clear hR hB
      go_wp2
      go_ret2
      rw [HT1.out, HT2.out, HT3.out]
      exact ⟨A, c, rfl, HF.out⟩
    · have hlt : ((19 + j : Nat) : Int) < 64 := by omega
      clear hR6 hb6 sz6
      go_wp2_with (at_builtin; refine print_append_num (w0 := wr) (w.heap.size + 1) rfl (.tmp 53) (.tmp 54) 25 5 .u8 1 rfl Tryz.underlying25 info_u8 (by decide) _ (T3 ++ List.replicate j 0) 0 rfl rfl ?HO ?HB ?hb ?hl ?_)
      case HO => exact R_own1 hR
      case HB => exact Below.refl _ _
      case hb => omega
      case hl => rw [hlj]; omega
      intro v1 w1 ho hB1 hg hat
      have hBn : Below w.heap.size w w1 := hB.grown hg (by omega) (fun k hk => by have := own_base (R_own1 hR) k hk; omega)
      have hR1 : KB.R 5 w1 (w.heap.size + 1) (fun k => w.heap.size + 1 ≤ k) v1 (T3 ++ List.replicate (j + 1) 0) := by
        have ho' : w1.ownsRow (w.heap.size + 1) 5 1 v1 (T3 ++ List.replicate (j + 1) (0 : Int)).length (nums .u8 (T3 ++ List.replicate (j + 1) 0)) := by
          rw [List.length_append, hl3, List.length_replicate, List.replicate_succ']
          exact ho
        exact Rown ho' (fun q hq => own_base ho' q hq)
      have hsn : w.heap.size + 2 ≤ w1.heap.size := by have := hg.size; omega
      obtain ⟨A1, c1, rfl⟩ := Kd.R_slice hR1
      have hlj1 : (T3 ++ List.replicate (j + 1) (0 : Int)).length = 19 + (j + 1) := by rw [List.length_append, hl3, List.length_replicate]
      rw [hlj1] at hR1 ⊢
      clear ho hg hat hB1 hR
      go_wp2
      go_roundw
      case rel => exact ⟨j + 1, by omega, hR1, hBn, hsn⟩
      case measure => simp [lenS]; omega
end Go.Proofs.YticogmpafehomaaGreatDoor

set_option linter.unusedVariables false
set_option linter.unusedSimpArgs false
namespace Go.Proofs.YticogmpafehomaaGreatDoor
open Go.RowKit Go.Proofs.YticogmpafehomaaGreatDoorW.PrintWords Go.Proofs.YticogmpafehomaaGreatDoorW.PrintMore
attribute [local go_sem] max2_int max_two

theorem standing_gone {w : World} {ok : Nat → Prop} {p : Nat} {D : DM} (h : PDisk w ok p D) (hg : D.gone = true) :
    Calls Tryz.prog 75 #[.pointer (some ⟨p, 0, none⟩)] w fun e w' => e = .returned (.tuple #[manV ⟨0, 0, 0⟩, .int .u64 0, .int .i64 61]) ∧ Below w.heap.size w w' := by
  have hb := blocks_any h
  have hlo := h.1.lo
  have hB := below_alloc (below_alloc (Below.refl w.heap.size w) (.cells #[.int .u64 0, .int .u64 0, .int .i64 0] 29)) (.cells #[.int .u64 0, .int .u64 0, .int .i64 0] 29)
  have hz := (Below.heap_alloc (w.alloc (.cells #[.int .u64 0, .int .u64 0, .int .i64 0] 29)) (.cells #[.int .u64 0, .int .u64 0, .int .i64 0] 29) w.heap.size (by simp)).trans (heap_alloc_new w (.cells #[.int .u64 0, .int .u64 0, .int .i64 0] 29))
  have h1 := h.step (w1 := (w.alloc (.cells #[.int .u64 0, .int .u64 0, .int .i64 0] 29)).alloc (.cells #[.int .u64 0, .int .u64 0, .int .i64 0] 29)) (fun k _ hk => hB.block k hk)
  have hbk := blocks_any h1
  have he : ¬ D.ready 0 = 0 := by unfold DM.ready; rw [if_pos hg]; omega
  have hrd := read_err 0 h1 he
  rw [show D.ready 0 = 61 from by unfold DM.ready; rw [if_pos hg]] at hrd
  generalize hw2 : (w.alloc (.cells #[.int .u64 0, .int .u64 0, .int .i64 0] 29)).alloc (.cells #[.int .u64 0, .int .u64 0, .int .i64 0] 29) = w2 at *
  have hn0 : (0 : Int) < (D.n : Int) := by omega
  have z0 := cell_of_row _ _ 0 _ _ _ hz
  have z1 := cell_of_row _ _ 1 _ _ _ hz
  have z2 := cell_of_row _ _ 2 _ _ _ hz
  have f0 := frozen_of_row _ _ 0 _ _ hz
  have f1 := frozen_of_row _ _ 1 _ _ hz
  have f2 := frozen_of_row _ _ 2 _ _ hz
  simp at z0 z1 z2
  have HF := hid (And.intro (set3 hz) (below3 hB (Nat.le_refl w.heap.size)))
  clear hz hB h1 h
  go_enter Tryz.func75, Tryz.ntmps75
  go_wp2_with fail
  refine hbk.mono ?_
  rintro e w3 ⟨rfl, rfl⟩
  go_wp2_with fail
  go_loopw [23] (fun i wr => i = .int .i64 0 ∧ wr = w2) (fun _ _ => 0)
  case atStart => exact ⟨rfl, rfl⟩
  case round =>
    obtain ⟨rfl, rfl⟩ := hrel
    go_wp2_with fail
    refine hrd.mono ?_
    rintro e w4 ⟨rfl, rfl⟩
    go_wp2
    refine bodyPost_ret (results_ctt rfl _ _ w.heap.size 29 _ _ _ rfl (HF.out.1 (.int .u64 0) (.int .u64 0) (.int .i64 0)) Tryz.underlying29 rfl (by kernel_rfl)) rfl ?_
    exact ⟨rfl, HF.out.2 _ _ _⟩
/-- The better manifest of the first k blocks. -/
def pickTo (D : DM) : Nat → MM
  | 0 => ⟨0, 0, 0⟩
  | k + 1 => if k < 2 then better (pickTo D k) (parseM (D.blk k) k) else pickTo D k
theorem pickTo_all (D : DM) : ∀ {k : Nat}, 2 ≤ k → pickTo D k = pickM D
  | 0, h => absurd h (by omega)
  | 1, h => absurd h (by omega)
  | 2, _ => rfl
  | k + 3, _ => by
    show (if k + 2 < 2 then _ else pickTo D (k + 2)) = _
    rw [if_neg (by omega)]
    exact pickTo_all D (by omega)
theorem pickTo_N (D : DM) : ∀ k, 0 ≤ (pickTo D k).N ∧ (pickTo D k).N ≤ mostN
  | 0 => by simp [pickTo, mostN]
  | k + 1 => by
    have h := pickTo_N D k
    show 0 ≤ (if k < 2 then better (pickTo D k) (parseM (D.blk k) k) else pickTo D k).N ∧ (if k < 2 then better (pickTo D k) (parseM (D.blk k) k) else pickTo D k).N ≤ mostN
    split
    · cases hp : parseM (D.blk k) k with
      | none => exact h
      | some x =>
        have hx := (parse_ok hp).1
        rw [better_some]
        split
        · have := hx.1; have := hx.2.1; omega
        · exact h
    · exact h
set_option maxRecDepth 100000 in
set_option maxHeartbeats 4000000 in
theorem standing_ok {w : World} {ok : Nat → Prop} {p : Nat} {D : DM} (h : PDisk w ok p D) (hg : D.gone = false) :
    Calls Tryz.prog 75 #[.pointer (some ⟨p, 0, none⟩)] w fun e w' => e = .returned (.tuple #[manV (pickM D), .int .u64 (stG D), .int .i64 0]) ∧ Below w.heap.size w w' := by
  have hlo := h.1.lo
  have hhi := h.1.hi
  have hB := below_alloc (below_alloc (Below.refl w.heap.size w) (.cells #[.int .u64 0, .int .u64 0, .int .i64 0] 29)) (.cells #[.int .u64 0, .int .u64 0, .int .i64 0] 29)
  have hz := (Below.heap_alloc (w.alloc (.cells #[.int .u64 0, .int .u64 0, .int .i64 0] 29)) (.cells #[.int .u64 0, .int .u64 0, .int .i64 0] 29) w.heap.size (by simp)).trans (heap_alloc_new w (.cells #[.int .u64 0, .int .u64 0, .int .i64 0] 29))
  have hy := heap_alloc_new (w.alloc (.cells #[.int .u64 0, .int .u64 0, .int .i64 0] 29)) (.cells #[.int .u64 0, .int .u64 0, .int .i64 0] 29)
  rw [World.size_alloc] at hy
  have h1 := h.step (w1 := (w.alloc (.cells #[.int .u64 0, .int .u64 0, .int .i64 0] 29)).alloc (.cells #[.int .u64 0, .int .u64 0, .int .i64 0] 29)) (fun k _ hk => hB.block k hk)
  have hbk := blocks_any h1
  clear h1
  generalize hw2 : (w.alloc (.cells #[.int .u64 0, .int .u64 0, .int .i64 0] 29)).alloc (.cells #[.int .u64 0, .int .u64 0, .int .i64 0] 29) = w2 at hB hz hy hbk
  go_enter Tryz.func75, Tryz.ntmps75
  go_wp2_with fail
  refine hbk.mono ?_
  rintro e w3 ⟨rfl, rfl⟩
  clear hbk hw2
  go_wp2_with fail
  go_loopw [6, 23] (fun v i wr => ∃ k : Nat, k ≤ D.n ∧ i = .int .i64 k ∧ v = .int .u64 (genTo D k) ∧ wr.heap[w.heap.size]? = some (.cells #[.int .u64 0, .int .u64 0, .int .i64 0] 29 (0, 0)) ∧
    wr.heap[w.heap.size + 1]? = some (.cells #[.int .u64 (pickTo D k).N, .int .u64 (pickTo D k).G, .int .i64 (pickTo D k).K] 29 (0, 0)) ∧ Below w.heap.size w wr) (fun _ i _ => D.n - (intOf i).toNat)
  case atStart => exact ⟨0, Nat.zero_le _, rfl, rfl, hz, hy, hB⟩
  case round =>
    clear hz hy hB
    obtain ⟨W, hW⟩ : ∃ W : World, W = wr := ⟨_, rfl⟩
    subst hW
    obtain ⟨k, hk, rfl, rfl, hz, hy, hB⟩ := hrel
    by_cases hlt : k < D.n
    · have hPD := h.step (w1 := W) (fun k _ hk => hB.block k hk)
      have hrd := read_ok k hPD (ready_in hg hlt) hlt
      have hl := blk_length h.1 hlt
      have hbb := blk_bytes h.1 k
      have hk1 := headR_gen hbb
      have hk2 := bodyV_gen hbb
      have hgb := genTo_bnd D k
      have hmb := pickTo_N D k
      have hgs : genTo D (k + 1) = genAt D (genTo D k) k := rfl
      have hps : pickTo D (k + 1) = if k < 2 then better (pickTo D k) (parseM (D.blk k) k) else pickTo D k := rfl
      have hltI : (k : Int) < (D.n : Int) := by omega
      generalize hgk : genTo D k = g at hgb hgs ⊢
      generalize hgk1 : genTo D (k + 1) = g1 at hgs
      generalize hpk : pickTo D k = m at hmb hps hy ⊢
      generalize hpk1 : pickTo D (k + 1) = m1 at hps
      have HL := hid (And.intro hl (And.intro hgs (And.intro hps (And.intro hgk1 hpk1))))
      clear hl hgs hps hgk hgk1 hpk hpk1 hPD
      unfold mostN at hgb hmb
      by_cases hk2' : k < 2
      · have hk2I : (k : Int) < 2 := by omega
        go_wp2_with fail
        refine hrd.mono ?_
        rintro e w1 ⟨rfl, hw1⟩
        have hRB : RB w1 (fun k => k = W.heap.size) (some ⟨W.heap.size, 0, none⟩) (D.blk k) := by rw [hw1]; exact RB_new _ _ _ (by rw [HL.out.1]; omega)
        have hB1 : Below W.heap.size W w1 := by rw [hw1]; exact below_alloc (Below.refl _ _) _
        clear hw1 hrd
        have hpr := parse_any (c := 64) hRB hbb (by rw [HL.out.1]; omega) (k : Int) (by omega)
        rw [HL.out.1] at hpr
        unfold parseV at hpr
        go_wp2_with fail
        refine hpr.mono ?_
        rintro e w3 ⟨rfl, hB3⟩
        have hB4 := below_step hB1 hB3
        have hz3 := (hB4.block _ (blk_lt hz)).trans hz
        have hy3 := (hB4.block _ (blk_lt hy)).trans hy
        have hB5 := below_step hB hB4
        clear hB1 hB3 hB4 hRB hpr hz hy hB
        cases hpm : parseM (D.blk k) k with
        | none =>
          have hB6 := below_step hB5 (below_alloc (Below.refl _ _) (.cells #[.int .u64 0, .int .u64 0, .int .i64 0] 29))
          have hz6 := (Below.heap_alloc w3 (.cells #[.int .u64 0, .int .u64 0, .int .i64 0] 29) _ (blk_lt hz3)).trans hz3
          have hy6 := (Below.heap_alloc w3 (.cells #[.int .u64 0, .int .u64 0, .int .i64 0] 29) _ (blk_lt hy3)).trans hy3
          have e1 : g1 = g := by rw [HL.out.2.1]; unfold genAt; rw [if_pos hk2', hpm]; rfl
          have e2 : m1 = m := by rw [HL.out.2.2.1, if_pos hk2', hpm]; rfl
          have HF := hid (And.intro hz6 (And.intro hy6 hB6))
          clear hz6 hy6 hB6 hz3 hy3 hB5 hpm
          simp only [Option.getD_none, Option.isSome_none]
          unfold manV
          dsimp only
          go_wp2
          go_roundw
          case rel => exact ⟨k + 1, by omega, by go_num, by rw [HL.out.2.2.2.1, e1], HF.out.1, by rw [HL.out.2.2.2.2, e2]; exact HF.out.2.1, HF.out.2.2⟩
          case measure => simp [intOf]; omega
        | some x =>
          have hx := (parse_ok hpm).1
          have e1 : g1 = max g x.G := by rw [HL.out.2.1]; unfold genAt; rw [if_pos hk2', hpm]; rfl
          have e2 : m1 = if m.N < x.N then x else m := by rw [HL.out.2.2.1, if_pos hk2', hpm]; rfl
          simp only [Option.getD_some, Option.isSome_some]
          unfold manV
          obtain ⟨xN, xG, xK⟩ := x
          obtain ⟨mN, mG, mK⟩ := m
          have hx1 := hx.1
          have hx2 := hx.2.1
          have hx3 := hx.2.2.1
          unfold mostN at hx2
          dsimp only at hx1 hx2 hx3 hy3 hmb e1 e2 ⊢
          have hB6 := below_step hB5 (below_alloc (Below.refl _ _) (.cells #[.int .u64 xN, .int .u64 xG, .int .i64 xK] 29))
          have hz6 := (Below.heap_alloc w3 (.cells #[.int .u64 xN, .int .u64 xG, .int .i64 xK] 29) _ (blk_lt hz3)).trans hz3
          have hy6 := (Below.heap_alloc w3 (.cells #[.int .u64 xN, .int .u64 xG, .int .i64 xK] 29) _ (blk_lt hy3)).trans hy3
          have hx6 := heap_alloc_new w3 (.cells #[.int .u64 xN, .int .u64 xG, .int .i64 xK] 29)
          have hlty := blk_lt hy3
          generalize hw6 : w3.alloc (.cells #[.int .u64 xN, .int .u64 xG, .int .i64 xK] 29) = w6 at hB6 hz6 hy6 hx6
          have x0 := cell_of_row _ _ 0 _ _ _ hx6
          have x1 := cell_of_row _ _ 1 _ _ _ hx6
          have x2 := cell_of_row _ _ 2 _ _ _ hx6
          have y0 := cell_of_row _ _ 0 _ _ _ hy6
          have y1 := cell_of_row _ _ 1 _ _ _ hy6
          have y2 := cell_of_row _ _ 2 _ _ _ hy6
          have f0 := frozen_of_row _ _ 0 _ _ hy6
          have f1 := frozen_of_row _ _ 1 _ _ hy6
          have f2 := frozen_of_row _ _ 2 _ _ hy6
          simp at x0 x1 x2 y0 y1 y2
          have hy7 := set3 hy6 (.int .u64 xN) (.int .u64 xG) (.int .i64 xK)
          have hz7 : (W3s w6 (w.heap.size + 1) (.int .u64 xN) (.int .u64 xG) (.int .i64 xK)).heap[w.heap.size]? = _ :=
            ((Below.heap_setCell _ ⟨w.heap.size + 1, 2, none⟩ _ w.heap.size (by simp)).trans ((Below.heap_setCell _ ⟨w.heap.size + 1, 1, none⟩ _ w.heap.size (by simp)).trans (Below.heap_setCell w6 ⟨w.heap.size + 1, 0, none⟩ (.int .u64 xN) w.heap.size (by simp)))).trans hz6
          have hB7 := below3 hB6 (n := w.heap.size + 1) (by omega) (.int .u64 xN) (.int .u64 xG) (.int .i64 xK)
          have HF := hid (And.intro hz6 (And.intro hy6 hB6))
          have HG := hid (And.intro hz7 (And.intro hy7 hB7))
          clear hz6 hy6 hB6 hz7 hy7 hB7 hz3 hy3 hB5 hpm hx hx6
          by_cases hmx : mN < xN
          · rw [if_pos hmx] at e2
            have E2 := hid e2
            have E1 := hid e1
            clear e1 e2
            go_wp2
            go_roundw
            case rel => exact ⟨k + 1, by omega, by go_num, by rw [HL.out.2.2.2.1, E1.out]; congr 1; split <;> omega, HG.out.1, by rw [HL.out.2.2.2.2, E2.out]; exact HG.out.2.1, HG.out.2.2⟩
            case measure => simp [intOf]; omega
          · rw [if_neg hmx] at e2
            have E2 := hid e2
            have E1 := hid e1
            clear e1 e2
            go_wp2
            go_roundw
            case rel => exact ⟨k + 1, by omega, by go_num, by rw [HL.out.2.2.2.1, E1.out]; congr 1; split <;> omega, HF.out.1, by rw [HL.out.2.2.2.2, E2.out]; exact HF.out.2.1, HF.out.2.2⟩
            case measure => simp [intOf]; omega
      · have hk2I : ¬ (k : Int) < 2 := by omega
        have e1 : g1 = gotM (gotM g (headR (D.blk k)).gen) (bodyV (D.blk k)).1 := by rw [HL.out.2.1]; unfold genAt; rw [if_neg hk2']
        have e2 : m1 = m := by rw [HL.out.2.2.1, if_neg hk2']
        go_wp2_with fail
        refine hrd.mono ?_
        rintro e w1 ⟨rfl, hw1⟩
        have hRB : RB w1 (fun k => k = W.heap.size) (some ⟨W.heap.size, 0, none⟩) (D.blk k) := by rw [hw1]; exact RB_new _ _ _ (by rw [HL.out.1]; omega)
        have hB1 : Below W.heap.size W w1 := by rw [hw1]; exact below_alloc (Below.refl _ _) _
        clear hw1 hrd
        have hh := head_any (c := 64) hRB hbb (by rw [HL.out.1]; omega)
        rw [HL.out.1] at hh
        go_wp2_with fail
        refine hh.mono ?_
        rintro e w3 ⟨A, c, rfl, hRB3, hle, hB3⟩
        clear hh
        have hbd : ∀ W', Below w1.heap.size w1 W' → Calls Tryz.prog 122 #[.slice (some ⟨W.heap.size, 0, none⟩) 64 64] W' fun e w' => e = .returned (.tuple #[.int .u64 (bodyV (D.blk k)).1, .int .i64 (bodyV (D.blk k)).2.1, .int .i64 (bodyV (D.blk k)).2.2.1, .bool (bodyV (D.blk k)).2.2.2]) ∧ Below W'.heap.size W' w' := fun W' hW => by
          have := body_any (c := 64) (RB_below hRB hW) hbb (by rw [HL.out.1]; omega)
          rw [HL.out.1] at this
          exact this
        unfold recV
        generalize headR (D.blk k) = R at hk1 e1 hRB3 hle ⊢
        generalize headN (D.blk k) = N
        generalize decide (headOK (D.blk k)) = ib
        generalize bodyV (D.blk k) = V at hbd hk2 e1
        obtain ⟨rg, ra, rk, rb⟩ := R
        obtain ⟨vg, va, vk, vi⟩ := V
        dsimp only at hk1 hk2 hbd e1 hle ⊢
        have hB2' : Below w1.heap.size w1 (w3.alloc (.cells #[.int .u64 rg, .int .i64 ra, .int .i64 rk, .slice A rb.length c] 117)) := below_alloc hB3 _
        go_wp2_with fail
        refine (hbd _ hB2').mono ?_
        rintro e w4 ⟨rfl, hB4⟩
        have hc4 : w4.cell? ⟨w3.heap.size, 0, none⟩ = some (.int .u64 rg) := by rw [hB4.cell (by simp)]; go_simp
        have hBW : Below W.heap.size W w4 := hB1.trans ((hB2'.trans (hB4.mono hB2'.size)).mono hB1.size)
        have hz4 := (hBW.block _ (blk_lt hz)).trans hz
        have hy4 := (hBW.block _ (blk_lt hy)).trans hy
        have hB5 := below_step hB hBW
        clear hbd hB2' hB4 hB3 hB1 hRB hRB3 hBW hz hy hB
        have hs5 := heap_alloc_new w4 (.cells #[.int .u64 rg, .int .u64 vg] 22)
        have hz5 := (Below.heap_alloc w4 (.cells #[.int .u64 rg, .int .u64 vg] 22) _ (blk_lt hz4)).trans hz4
        have hy5 := (Below.heap_alloc w4 (.cells #[.int .u64 rg, .int .u64 vg] 22) _ (blk_lt hy4)).trans hy4
        have hB6 := below_step hB5 (below_alloc (Below.refl _ _) (.cells #[.int .u64 rg, .int .u64 vg] 22))
        have HF := hid (And.intro hz5 (And.intro hy5 hB6))
        clear hz5 hy5 hB6 hB5 hz4 hy4
        go_wp2_with fail
        generalize w4.alloc (.cells #[.int .u64 rg, .int .u64 vg] 22) = w5 at hs5 HF ⊢
        have s0 := cell_of_row _ _ 0 _ _ _ hs5
        have s1 := cell_of_row _ _ 1 _ _ _ hs5
        simp at s0 s1
        have E1 := hid e1
        have E2 := hid e2
        clear e1 e2 hs5 hc4
        go_loopw [6, 73] (fun v i wr2 => wr2 = w5 ∧ ∃ j : Nat, j ≤ 2 ∧ i = .int .i64 j ∧ v = .int .u64 (if j = 0 then g else if j = 1 then gotM g rg else gotM (gotM g rg) vg)) (fun _ i _ => 2 - (intOf i).toNat)
        case atStart => exact ⟨rfl, 0, by omega, rfl, rfl⟩
        case round =>
          obtain ⟨rfl, j, hj, rfl, rfl⟩ := hrel
          rcases (by omega : j = 0 ∨ j = 1 ∨ j = 2) with rfl | rfl | rfl
          · simp only [if_true]
            by_cases hr : rg ≤ 9223372036854775807
            · have q : gotM g rg = if g < rg then rg else g := by unfold gotM mostN; rw [if_pos hr]; split <;> omega
              have Q := hid q
              clear q
              go_wp2
              go_roundw
              case rel => exact ⟨trivial, 1, by omega, by go_num, by show _ = Value.int .u64 (gotM g rg); rw [Q.out]⟩
              case measure => simp [intOf]
            · have q : gotM g rg = g := by unfold gotM mostN; rw [if_neg hr]
              have Q := hid q
              clear q
              go_wp2
              go_roundw
              case rel => exact ⟨trivial, 1, by omega, by go_num, by show _ = Value.int .u64 (gotM g rg); rw [Q.out]⟩
              case measure => simp [intOf]
          · rw [if_neg (by omega), if_pos rfl]
            have gq : ∃ g', gotM g rg = g' := ⟨_, rfl⟩
            obtain ⟨g', hg'⟩ := gq
            rw [hg']
            have hgb' : 0 ≤ g' := by rw [← hg']; unfold gotM; split <;> omega
            by_cases hr : vg ≤ 9223372036854775807
            · have q : gotM g' vg = if g' < vg then vg else g' := by unfold gotM mostN; rw [if_pos hr]; split <;> omega
              have Q := hid (And.intro q hg')
              clear q hg'
              go_wp2
              go_roundw
              case rel => exact ⟨trivial, 2, by omega, by go_num, by show _ = Value.int .u64 (gotM g' vg); rw [Q.out.1]⟩
              case measure => simp [intOf]
            · have q : gotM g' vg = g' := by unfold gotM mostN; rw [if_neg hr]
              have Q := hid (And.intro q hg')
              clear q hg'
              go_wp2
              go_roundw
              case rel => exact ⟨trivial, 2, by omega, by go_num, by show _ = Value.int .u64 (gotM g' vg); rw [Q.out.1]⟩
              case measure => simp [intOf]
          · rw [if_neg (by omega), if_neg (by omega)]
            have gq : ∃ g', gotM (gotM g rg) vg = g' := ⟨_, rfl⟩
            obtain ⟨g', hg'⟩ := gq
            have E3 := hid hg'
            rw [hg']
            clear hg'
            go_wp2
            go_roundw
            case rel => exact ⟨k + 1, by omega, by go_num, by rw [HL.out.2.2.2.1, E1.out, E3.out], HF.out.1, by rw [HL.out.2.2.2.2, E2.out]; exact HF.out.2.1, HF.out.2.2⟩
            case measure => simp [intOf]; omega
    · obtain rfl : k = D.n := by omega
      rw [pickTo_all D (by omega)] at hy
      rw [show genTo D D.n = stG D from rfl]
      have z0 := cell_of_row _ _ 0 _ _ _ hz
      have z1 := cell_of_row _ _ 1 _ _ _ hz
      have z2 := cell_of_row _ _ 2 _ _ _ hz
      have f0 := frozen_of_row _ _ 0 _ _ hz
      have f1 := frozen_of_row _ _ 1 _ _ hz
      have f2 := frozen_of_row _ _ 2 _ _ hz
      have y0 := cell_of_row _ _ 0 _ _ _ hy
      have y1 := cell_of_row _ _ 1 _ _ _ hy
      have y2 := cell_of_row _ _ 2 _ _ _ hy
      simp at z0 z1 z2 y0 y1 y2
      have HF := hid (And.intro (set3 hz (.int .u64 (pickM D).N) (.int .u64 (pickM D).G) (.int .i64 (pickM D).K)) (below3 hB (Nat.le_refl w.heap.size) (.int .u64 (pickM D).N) (.int .u64 (pickM D).G) (.int .i64 (pickM D).K)))
      clear hz hy hB
      go_wp2
      refine bodyPost_ret (results_ctt rfl _ _ w.heap.size 29 _ _ _ rfl HF.out.1 Tryz.underlying29 rfl (by kernel_rfl)) rfl ?_
      exact ⟨rfl, HF.out.2⟩
end Go.Proofs.YticogmpafehomaaGreatDoor

set_option linter.unusedVariables false
set_option linter.unusedSimpArgs false
namespace Go.Proofs.YticogmpafehomaaGreatDoor
open Go.RowKit Go.Proofs.YticogmpafehomaaGreatDoorW.PrintWords Go.Proofs.YticogmpafehomaaGreatDoorW.PrintMore

set_option maxRecDepth 100000 in
set_option maxHeartbeats 1000000 in
theorem flip_any {w : World} {okd : Nat → Prop} {p : Nat} {D : DM} {m : MM} (h : PDisk w okd p D) (hok : m.ok) (hm : (D.ws.length + 65537) * 32 ≤ 140737488355328) (hlt : ∀ k, okd k → k < w.heap.size) :
    Calls Tryz.prog 76 #[.pointer (some ⟨p, 0, none⟩), manV m] w fun e w' => e = .returned (.int .i64 (flipF D m).1) ∧ PDisk w' (orNew okd w) p (flipF D m).2 ∧ Chg okd w w' := by
  have hB0 := below_alloc (Below.refl w.heap.size w) (.cells #[.int .u64 m.N, .int .u64 m.G, .int .i64 m.K] 29)
  have hx0 := heap_alloc_new w (.cells #[.int .u64 m.N, .int .u64 m.G, .int .i64 m.K] 29)
  have hpk := pack_any (w := w.alloc (.cells #[.int .u64 m.N, .int .u64 m.G, .int .i64 m.K] 29)) hok
  have hn := hok.1
  have hn2 := hok.2.1
  unfold mostN at hn2
  unfold flipF
  have hbt := pack_bytes hok
  have hpl := pack_len m
  generalize packB m = xs at hpk hbt hpl ⊢
  unfold manV at hpk ⊢
  obtain ⟨N, G, K⟩ := m
  dsimp only at *
  have hB00 : Below w.heap.size w (w.alloc (.cells #[.int .u64 N, .int .u64 G, .int .i64 K] 29)) := hB0
  have hlt0 := blk_lt hx0
  go_enter Tryz.func76, Tryz.ntmps76
  go_wp2_with fail
  refine hpk.mono ?_
  rintro e w1 ⟨g, rfl, hg, hU, hB1⟩
  have hB2 := below_step hB00 hB1
  have hx1 := (hB1.block _ hlt0).trans hx0
  have hP1 := h.step (w1 := w1) (fun k _ hk => hB2.block k hk)
  have k0 := cell_of_row _ _ 0 _ _ _ hx1
  simp at k0
  have hmod : (N.tmod 2) = N % 2 := Int.tmod_eq_emod_of_nonneg (by omega)
  have hwm : IntKind.u64.wrap (N % 2) = N % 2 := by rw [IntKind.wrap_u64]; omega
  have hwi : IntKind.i64.wrap (N % 2) = N % 2 := by rw [IntKind.wrap_i64]; omega
  have hg2 : w.heap.size < g := by simp at hg; omega
  have hwr := write_any (c := 64) (N % 2) hP1 (hU.row (by omega)) (fun k hk hk2 => by have := hlt k hk2; omega) hbt (by omega)
  rw [hpl] at hwr
  clear hpk hx0 hx1 hU hB0 hB00 hB1 hP1
  go_wp2_with fail
  refine hwr.mono ?_
  rintro e w2 ⟨rfl, hP2, hC2⟩
  have HF := hid (And.intro (hP2.mono (ok' := orNew okd w) (fun k hk => by
    rcases hk with hk | hk
    · exact .inl hk
    · exact .inr (Nat.le_trans hB2.size hk))) ((Chg.of_below hB2 okd).then_ hC2 (fun k hk => .inl hk)))
  clear hP2 hC2 hB2 hwr
  go_wp2
  go_ret
  exact ⟨rfl, HF.out⟩
end Go.Proofs.YticogmpafehomaaGreatDoor

set_option linter.unusedVariables false
set_option linter.unusedSimpArgs false
namespace Go.Proofs.YticogmpafehomaaGreatDoor
open Go.Maps Go.ChangeMaps Go.RowKit Go.WideMaps

def heldV (v : Value) : Option (DataW Value × List MemPlace) := some (.held v, [])
def kb (s : ByteArray) : Lit := .string (bl s)
theorem kb_inj {a b : ByteArray} (h : kb a = kb b) : a = b := by unfold kb at h; injection h with h; exact bl_inj h
section
variable {P : Program} {t k e : TypeId} {w w1 : World} {b n : Nat} {f : ByteArray → Option Value}
theorem keyOf_kb (hk : P.underlying k = some .string) {s : ByteArray} (hs : s.size ≤ maxLen) : keyOf P k (.string s) = some (kb s) := keyOf_string_mk hk hs
/-- Block b of w is a map of at most n entries, told by f. -/
def MapV (P : Program) (k : TypeId) (w : World) (b n : Nat) (f : ByteArray → Option Value) : Prop :=
  ∃ D : DataW Value, w.ownsMap P k heldV b n D ∧ (∀ s, Maps.has D (kb s) = (f s).isSome) ∧ ∀ s v, f s = some v → ∀ z, D.atKey (kb s) z = .held v
theorem MapV.made (P : Program) (k : TypeId) (w : World) : MapV P k (w.alloc (.map #[] 0)) w.heap.size 0 (fun _ => none) :=
  ⟨.map [], World.ownsMap_made w P k heldV, fun s => rfl, fun s v h => by cases h⟩
theorem MapV.lt (h : MapV P k w b n f) : b < w.heap.size := by obtain ⟨D, h, _⟩ := h; exact h.lt
theorem MapV.block (h : MapV P k w b n f) (hb : w1.heap[b]? = w.heap[b]?) : MapV P k w1 b n f := by
  obtain ⟨D, ⟨es, clock, h, h3⟩, h1, h2⟩ := h
  exact ⟨D, ⟨es, clock, hb.trans h, h3⟩, h1, h2⟩
theorem heldV_inj {v : Value} {d : DataW Value} {ps : List MemPlace} (h : heldV v = some (d, ps)) : d = .held v := by unfold heldV at h; simp at h; exact h.1.symm
theorem MapV.look (h : MapV P k w b n f) (hk : P.underlying k = some .string) (ht : P.underlying t = some (.map k e)) {z : Value} (hz : (zeroValue e).run P w = .ok z w) {s : ByteArray} (hs : s.size ≤ maxLen) :
    (Instr.lookup t (.map (some b)) (.string s) false).run P w = .ok ((f s).getD z) w := by
  obtain ⟨D, h, h1, h2⟩ := h
  obtain ⟨v, ps, hr, hv⟩ := h.lookup (string_keyed hk) ht hz (R := heldV) (zd := .held z) (zp := []) rfl (keyOf_kb hk hs)
  rw [hr]
  have hv2 := heldV_inj hv
  congr 1
  cases hf : f s with
  | some u =>
    rw [h2 s u hf] at hv2
    injection hv2 with hv2
    exact hv2.symm
  | none =>
    rw [Maps.atKey_of_not_has (by rw [h1, hf]; rfl)] at hv2
    injection hv2 with hv2
    exact hv2.symm
theorem MapV.look_ok (h : MapV P k w b n f) (hk : P.underlying k = some .string) (ht : P.underlying t = some (.map k e)) {z : Value} (hz : (zeroValue e).run P w = .ok z w) {s : ByteArray} (hs : s.size ≤ maxLen) :
    (Instr.lookup t (.map (some b)) (.string s) true).run P w = .ok (.tuple #[(f s).getD z, .bool (f s).isSome]) w := by
  obtain ⟨D, h, h1, h2⟩ := h
  obtain ⟨v, ps, hr, hv⟩ := h.look_ok (string_keyed hk) ht hz (R := heldV) (zd := .held z) (zp := []) rfl (keyOf_kb hk hs)
  rw [hr, h1 s]
  have hv2 := heldV_inj hv
  have : v = (f s).getD z := by
    cases hf : f s with
    | some u =>
      rw [h2 s u hf] at hv2
      injection hv2 with hv2
      exact hv2.symm
    | none =>
      rw [Maps.atKey_of_not_has (by rw [h1, hf]; rfl)] at hv2
      injection hv2 with hv2
      exact hv2.symm
  rw [this]
theorem isKey_kb (s : ByteArray) : WideAt.IsKeyLit (kb s) := trivial
theorem MapV.put (h : MapV P k w b n f) (hk : P.underlying k = some .string) (ht : P.underlying t = some (.map k e)) (hn : n < maxLen) {s : ByteArray} (hs : s.size ≤ maxLen) (v : Value) :
    ∃ w', (Instr.mapUpdate t (.map (some b)) (.string s) v).run P w = .ok () w' ∧ MapV P k w' b (n + 1) (fun x => if x = s then some v else f x) ∧ w.grownBy w' (some b) := by
  obtain ⟨D, h, h1, h2⟩ := h
  obtain ⟨w', hr, h', hg⟩ := h.update (string_keyed hk) ht hn (keyOf_kb hk hs) (d := .held v) (ps := []) (val := v) rfl
  refine ⟨w', hr, ⟨_, h', fun x => ?_, fun x u hx z => ?_⟩, hg⟩
  · by_cases e0 : x = s
    · subst e0
      rw [Maps.has_put_same h.isMap (isKey_kb x)]
      simp
    · rw [Maps.has_put_other (fun h => e0 (kb_inj h)), h1]
      simp [e0]
  · by_cases e0 : x = s
    · subst e0
      simp at hx
      subst hx
      exact Maps.atKey_put_same h.isMap (isKey_kb x) _ _
    · simp [e0] at hx
      rw [Maps.atKey_put_other (fun h => e0 (kb_inj h))]
      exact h2 x u hx z
/-- 'm[k] = v' at the operation: the guard is 'at_mapUpdate'. -/
theorem wpList_put (w : World) {ops : Array Oper} {rest : List Oper} {o : Oper} {a : Act} {Q : Exit → Act → World → Prop} (hg : o.guard = none) (m x v : Operand) (t e : TypeId) (hop : o.op = Op.mapUpdate t m x v) (hk : P.underlying k = some .string) (ht : P.underlying t = some (.map k e))
    (hm : a.eval m = .map (some b)) (hown : MapV P k w b n f) (hn : n < maxLen) (s : ByteArray) (val : Value) (hs : s.size ≤ maxLen) (hx : a.eval x = .string s) (hv : a.eval v = val)
    (hK : ∀ w', MapV P k w' b (n + 1) (fun y => if y = s then some val else f y) → w.grownBy w' (some b) → wpList P ops Q rest (a.put o.dst undef) w') : wpList P ops Q (o :: rest) a w := by
  refine wpList_plain hg fun K' hK' => ?_
  obtain ⟨w', hrun, r1, r2⟩ := hown.put hk ht hn hs val
  unfold Oper.wp
  simp [execOp, hop, hm, hx, hv, hrun, Result.andThen]
  exact hK' _ _ (hK w' r1 r2)
/-- What a map's keys are, whoever hands them out. -/
theorem MapV.keys {D : DataW Value} (h : w.ownsMap P k heldV b n D) (hk : P.underlying k = some .string) (h1 : ∀ s, Maps.has D (kb s) = (f s).isSome) {ss : List BL} (hp : ss.Perm (strKeys D)) {l : List ByteArray} (hl : Sorted l) (hm : ∀ s, s ∈ l ↔ (f s).isSome = true) :
    ss.mergeSort (fun x y => decide (x ≤ y)) = l.map bl := by
  obtain ⟨es, rfl, hpw, _⟩ := h.entries (string_keyed hk)
  obtain ⟨es', he', hko⟩ := h.keysOf
  injection he' with he'
  subst he'
  have hnd : (l.map bl).Nodup := by
    unfold Sorted at hl
    refine List.Pairwise.imp ?_ hl
    intro a b hab e
    subst e
    exact BL.lt_irrefl _ hab
  have hpm : (l.map bl).Perm (strKeys (.map es)) := perm_strKeys hpw (fun p hp' => by
    obtain ⟨v, hv⟩ := hko p hp'
    obtain ⟨x, _, hx, _⟩ := Maps.keyOf_str hk hv
    exact ⟨x, hx⟩) hnd (fun x => by
    rw [← bl_tx x, mem_map_bl, hm, ← h1]
    rfl)
  have e1 := mergeSort_of_perm (hp.trans hpm.symm)
  have e2 : (l.map bl).mergeSort leB = l.map bl := List.mergeSort_of_pairwise (by
    unfold Sorted at hl
    refine List.Pairwise.imp ?_ hl
    intro a b hab
    simp only [leB, decide_eq_true_eq]
    exact BL.lt_asymm hab)
  exact e1.trans e2
/-- How many keys a map has. -/
theorem MapV.size {D : DataW Value} (h : w.ownsMap P k heldV b n D) (hk : P.underlying k = some .string) (h1 : ∀ s, Maps.has D (kb s) = (f s).isSome) {l : List ByteArray} (hl : Sorted l) (hm : ∀ s, s ∈ l ↔ (f s).isSome = true) : Maps.size D = l.length := by
  have hk2 := MapV.keys (f := f) h hk h1 (List.Perm.refl _) hl hm
  have := congrArg List.length hk2
  rw [List.length_mergeSort, List.length_map] at this
  obtain ⟨es, rfl, _⟩ := h.entries (string_keyed hk)
  rw [← this]
  simp [strKeys, Maps.size]
end
end Go.Proofs.YticogmpafehomaaGreatDoor

set_option linter.unusedVariables false
set_option linter.unusedSimpArgs false
namespace Go.Proofs.YticogmpafehomaaGreatDoor
open Go.RowKit Go.Maps Go.ChangeMaps Go.WideElems Go.Proofs.YticogmpafehomaaGreatDoorW.PrintWords Go.Proofs.YticogmpafehomaaGreatDoorW.PrintMore

/-- The store's variable: pd the disk's, hb the log's, mb the entries', dv the error. -/
def SBlk (w : World) (p pd hb mb : Nat) (m : MM) (dv : Value) : Prop := w.heap[p]? = some (.cells #[.pointer (some ⟨pd, 0, none⟩), .int .u64 m.N, .int .u64 m.G, .int .i64 m.K, .pointer (some ⟨hb, 0, none⟩), .map (some mb), dv] 101 (0, 0))
/-- An entry's bytes. -/
def HoldsB (w : World) (ok : Nat → Prop) (o : Option Value) : Option (List Int) → Prop
  | none => o = none
  | some bs => ∃ A c, o = some (.slice A bs.length c) ∧ bs.length ≤ c ∧ RB w ok A bs
theorem HoldsB.step {w w1 : World} {ok : Nat → Prop} {o : Option Value} {v : Option (List Int)} (h : HoldsB w ok o v) (hm : ∀ k, ok k → k < w.heap.size → w1.heap[k]? = w.heap[k]?) : HoldsB w1 ok o v := by
  cases v with
  | none => exact h
  | some bs => obtain ⟨A, c, h1, h2, h3⟩ := h; exact ⟨A, c, h1, h2, Kd.F_step h3 hm⟩
theorem HoldsB.mono {w : World} {ok ok' : Nat → Prop} {o : Option Value} {v : Option (List Int)} (h : HoldsB w ok o v) (hs : ∀ k, ok k → ok' k) : HoldsB w ok' o v := by
  cases v with
  | none => exact h
  | some bs => obtain ⟨A, c, h1, h2, h3⟩ := h; exact ⟨A, c, h1, h2, Kd.F_mono h3 hs⟩
/-- A map's block holds these entries; their bytes lie in ok. -/
def EMap (w : World) (ok : Nat → Prop) (mb : Nat) (E : Ent) : Prop := ∃ f, MapV Tryz.prog 9 w mb E.length f ∧ ∀ k, HoldsB w ok (f k) (look E k)
theorem EMap.step {w w1 : World} {ok : Nat → Prop} {mb : Nat} {E : Ent} (h : EMap w ok mb E) (hb : w1.heap[mb]? = w.heap[mb]?) (hm : ∀ k, ok k → k < w.heap.size → w1.heap[k]? = w.heap[k]?) : EMap w1 ok mb E := by
  obtain ⟨f, h1, h2⟩ := h
  exact ⟨f, h1.block hb, fun k => (h2 k).step hm⟩
theorem EMap.lt {w : World} {ok : Nat → Prop} {mb : Nat} {E : Ent} (h : EMap w ok mb E) : mb < w.heap.size := by obtain ⟨f, h1, _⟩ := h; exact h1.lt
theorem HoldsB.isSome {w : World} {ok : Nat → Prop} {o : Option Value} {v : Option (List Int)} (h : HoldsB w ok o v) : o.isSome = v.isSome := by
  cases v with
  | none => rw [show o = none from h]; rfl
  | some bs => obtain ⟨A, c, h1, _⟩ := h; rw [h1]; rfl
/-- A map has no more entries than keys. -/
theorem mapV_tight {P : Program} {k : TypeId} {w : World} {b n : Nat} {f : ByteArray → Option Value} (h : MapV P k w b n f) (hk : P.underlying k = some .string) {l : List ByteArray} (hl : Sorted l) (hm : ∀ s, s ∈ l ↔ (f s).isSome = true) : MapV P k w b l.length f := by
  obtain ⟨D, h, h1, h2⟩ := h
  have hs := MapV.size h hk h1 hl hm
  obtain ⟨es, clock, hb, F, hn, rfl⟩ := h
  refine ⟨_, ⟨es, clock, hb, F, ?_, rfl⟩, h1, h2⟩
  rw [← hs]
  simp [Maps.size, length_sorted]
theorem keys_iff {w : World} {ok : Nat → Prop} {f : ByteArray → Option Value} {E : Ent} (h : ∀ k, HoldsB w ok (f k) (look E k)) (s : ByteArray) : s ∈ keysE E ↔ (f s).isSome = true := by rw [mem_keysE, (h s).isSome]
/-- Is it dead? -/
def DeadV (w : World) (dead : Bool) (dv : Value) : Prop := if dead = true then ∃ db e, dv = .iface 159 (.pointer (some ⟨db, 0, none⟩)) ∧ w.heap[db]? = some (.cells #[.int .i64 e] 215 (0, 0)) else dv = .nilIface
/-- A store's blocks: p the struct's; okr the entries' bytes'. -/
structure PSb (w : World) (ok okr : Nat → Prop) (p pd hb mb : Nat) (dv : Value) (S : SM) : Prop where
  okp : ok p
  okh : ok hb
  okm : ok mb
  rows : ∀ k, okr k → ok k ∧ k < w.heap.size ∧ k ≠ p ∧ k ≠ hb ∧ k ≠ mb
  blk : SBlk w p pd hb mb S.m dv
  log : HBlk w hb pd S.H
  ent : EMap w okr mb S.E
  dead : DeadV w S.dead dv
  okd : ∀ db, dv = .iface 159 (.pointer (some ⟨db, 0, none⟩)) → ok db
def PSto (w : World) (ok : Nat → Prop) (p pd : Nat) (S : SM) : Prop := ∃ okr hb mb dv, PSb w ok okr p pd hb mb dv S
theorem PSb.ne {w : World} {ok okr : Nat → Prop} {p pd hb mb : Nat} {dv : Value} {S : SM} (h : PSb w ok okr p pd hb mb dv S) : p ≠ hb ∧ p ≠ mb ∧ hb ≠ mb := by
  have h1 := h.blk
  have h2 := h.log
  unfold SBlk at h1
  unfold HBlk at h2
  obtain ⟨f, ⟨D, ⟨es, clock, h3, _⟩, _⟩, _⟩ := h.ent
  refine ⟨fun e => ?_, fun e => ?_, fun e => ?_⟩
  · rw [e, h2] at h1; cases h1
  · rw [e, h3] at h1; cases h1
  · rw [e, h3] at h2; cases h2
theorem PSb.bound {w : World} {ok okr : Nat → Prop} {p pd hb mb : Nat} {dv : Value} {S : SM} (h : PSb w ok okr p pd hb mb dv S) : PSb w (fun k => ok k ∧ k < w.heap.size) okr p pd hb mb dv S :=
  ⟨⟨h.okp, blk_lt h.blk⟩, ⟨h.okh, h.log.lt⟩, ⟨h.okm, h.ent.lt⟩, fun k hk => by have := h.rows k hk; exact ⟨⟨this.1, this.2.1⟩, this.2⟩, h.blk, h.log, h.ent, h.dead, fun db e => ⟨h.okd db e, by
    have hd := h.dead
    unfold DeadV at hd
    split at hd
    · obtain ⟨db', x, e1, e2⟩ := hd
      rw [e] at e1
      obtain rfl : db = db' := by injection e1 with _ e1; injection e1 with e1; injection e1 with e1; injection e1
      exact blk_lt e2
    · rw [e] at hd; cases hd⟩⟩
theorem PSb.step {w w1 : World} {ok okr : Nat → Prop} {p pd hb mb : Nat} {dv : Value} {S : SM} (h : PSb w ok okr p pd hb mb dv S) (hm : ∀ k, ok k → k < w.heap.size → w1.heap[k]? = w.heap[k]?) : PSb w1 ok okr p pd hb mb dv S := by
  have hz : ∀ k, ok k → k < w.heap.size → k < w1.heap.size := fun k hk hlt => by
    have := hm k hk hlt
    rw [Array.getElem?_eq_getElem hlt] at this
    exact (Array.getElem?_eq_some_iff.1 this).1
  refine ⟨h.okp, h.okh, h.okm, fun k hk => ?_, (hm _ h.okp (blk_lt h.blk)).trans h.blk, h.log.step (hm _ h.okh h.log.lt), h.ent.step (hm _ h.okm h.ent.lt) (fun k hk hlt => hm k (h.rows k hk).1 hlt), ?_, h.okd⟩
  · have := h.rows k hk
    exact ⟨this.1, hz k this.1 this.2.1, this.2.2⟩
  · have hd := h.dead
    unfold DeadV at hd ⊢
    split at hd
    · rename_i hdd
      rw [if_pos hdd]
      obtain ⟨db, x, e1, e2⟩ := hd
      exact ⟨db, x, e1, (hm db (h.okd db e1) (blk_lt e2)).trans e2⟩
    · rename_i hdd
      rw [if_neg hdd]
      exact hd
theorem PSto.step {w w1 : World} {ok : Nat → Prop} {p pd : Nat} {S : SM} (h : PSto w ok p pd S) (hm : ∀ k, ok k → k < w.heap.size → w1.heap[k]? = w.heap[k]?) : PSto w1 ok p pd S := by
  obtain ⟨okr, hb, mb, dv, h⟩ := h; exact ⟨okr, hb, mb, dv, h.step hm⟩
theorem PSto.bound {w : World} {ok : Nat → Prop} {p pd : Nat} {S : SM} (h : PSto w ok p pd S) : PSto w (fun k => ok k ∧ k < w.heap.size) p pd S := by
  obtain ⟨okr, hb, mb, dv, h⟩ := h; exact ⟨okr, hb, mb, dv, h.bound⟩
theorem PSto.below {w w1 : World} {ok : Nat → Prop} {p pd : Nat} {S : SM} (h : PSto w ok p pd S) (hb : Below w.heap.size w w1) : PSto w1 ok p pd S := h.step (fun k _ hk => hb.block k hk)
namespace SBlk
variable {w : World} {p pd hb mb : Nat} {m : MM} {dv : Value}
theorem c0 (h : SBlk w p pd hb mb m dv) : w.cell? ⟨p, 0, none⟩ = some (.pointer (some ⟨pd, 0, none⟩)) := by rw [cell_of_row w p 0 _ _ _ h]; rfl
theorem c1 (h : SBlk w p pd hb mb m dv) : w.cell? ⟨p, 1, none⟩ = some (.int .u64 m.N) := by rw [cell_of_row w p 1 _ _ _ h]; rfl
theorem c2 (h : SBlk w p pd hb mb m dv) : w.cell? ⟨p, 2, none⟩ = some (.int .u64 m.G) := by rw [cell_of_row w p 2 _ _ _ h]; rfl
theorem c3 (h : SBlk w p pd hb mb m dv) : w.cell? ⟨p, 3, none⟩ = some (.int .i64 m.K) := by rw [cell_of_row w p 3 _ _ _ h]; rfl
theorem c4 (h : SBlk w p pd hb mb m dv) : w.cell? ⟨p, 4, none⟩ = some (.pointer (some ⟨hb, 0, none⟩)) := by rw [cell_of_row w p 4 _ _ _ h]; rfl
theorem c5 (h : SBlk w p pd hb mb m dv) : w.cell? ⟨p, 5, none⟩ = some (.map (some mb)) := by rw [cell_of_row w p 5 _ _ _ h]; rfl
theorem c6 (h : SBlk w p pd hb mb m dv) : w.cell? ⟨p, 6, none⟩ = some dv := by rw [cell_of_row w p 6 _ _ _ h]; rfl
theorem free (h : SBlk w p pd hb mb m dv) (j : Nat) : w.frozen? ⟨p, j, none⟩ = false := frozen_of_row w p j _ _ h
theorem step {w1 : World} (h : SBlk w p pd hb mb m dv) (hm : w1.heap[p]? = w.heap[p]?) : SBlk w1 p pd hb mb m dv := hm.trans h
theorem lt (h : SBlk w p pd hb mb m dv) : p < w.heap.size := blk_lt h
theorem setDead (h : SBlk w p pd hb mb m dv) (v : Value) : SBlk (w.setCell ⟨p, 6, none⟩ v) p pd hb mb m v := heap_setCell_same w p 6 _ _ _ h
end SBlk
end Go.Proofs.YticogmpafehomaaGreatDoor

set_option linter.unusedVariables false
set_option linter.unusedSimpArgs false
namespace Go.Proofs.YticogmpafehomaaGreatDoor
open Go.RowKit Go.Maps Go.Proofs.YticogmpafehomaaGreatDoorW.PrintWords Go.Proofs.YticogmpafehomaaGreatDoorW.PrintMore

theorem writeD_n {D : DM} (h : D.wf) (i : Int) (xs : List Int) : (D.writeD i xs).n = D.n := by
  unfold DM.writeD
  by_cases h1 : D.ready i = 0
  · by_cases h2 : xs.length = 64
    · by_cases h3 : D.left = 0
      · rw [if_neg (by simp [h1]), if_neg (by simp [h2]), if_pos h3]; rfl
      · rw [if_neg (by simp [h1]), if_neg (by simp [h2]), if_neg h3]
        have hi : 0 ≤ i ∧ i < D.n := by
          unfold DM.ready at h1
          split at h1
          · cases h1
          · split at h1
            · cases h1
            · omega
        have hb := h.len
        have hn : (splice D.b (i.toNat * 64) xs).length = D.b.length := length_splice _ _ _ (by omega)
        simp only [DM.n, hn]
    · rw [if_neg (by simp [h1]), if_pos h2]
  · rw [if_pos h1]
theorem flip_n {D : DM} (h : D.wf) (m : MM) : (flipF D m).2.n = D.n := writeD_n h _ _
theorem flip_wf {D : DM} (h : D.wf) {m : MM} (hm : m.ok) : (flipF D m).2.wf := writeD_wf h (pack_bytes hm) _
theorem sizeM_n {D D' : DM} (h : D'.n = D.n) : sizeM D' = sizeM D := by unfold sizeM; rw [h]
theorem baseM_n {D D' : DM} (h : D'.n = D.n) (K : Int) : baseM D' K = baseM D K := by unfold baseM; rw [sizeM_n h]
theorem hnew_fine {D : DM} (h : D.wf) {K G : Int} (hK : 0 ≤ K ∧ K ≤ 1) (hG : 1 ≤ G) : hnewE D (baseM D K) (sizeM D) G = 0 := by
  have h1 := h.lo
  unfold hnewE
  rw [if_neg]
  unfold baseM sizeM
  rcases (by omega : K = 0 ∨ K = 1) with rfl | rfl
  · simp; omega
  · simp; omega
/-- What Format and Open hand back: nothing, or a store beside its disk. -/
def Made (w w' : World) (okd : Nat → Prop) (p : Nat) (v : Value) (D' : DM) : Option SM → Prop
  | none => v = .pointer none ∧ PDisk w' (orNew okd w) p D'
  | some S => ∃ ps okd' okS, v = .pointer (some ⟨ps, 0, none⟩) ∧ PDisk w' okd' p S.D ∧ PSto w' okS ps p S ∧ apart okd' okS ∧ (∀ k, okd' k → orNew okd w k) ∧ (∀ k, okS k → w.heap.size ≤ k)
theorem format_gone {w : World} {okd : Nat → Prop} {p : Nat} {D : DM} (h : PDisk w okd p D) (hg : D.gone = true) :
    Calls Tryz.prog 28 #[.pointer (some ⟨p, 0, none⟩)] w fun e w' => e = .returned (.tuple #[.pointer none, .int .i64 61]) ∧ Below w.heap.size w w' := by
  have hst := standing_gone h hg
  unfold manV at hst
  go_enter Tryz.func28, Tryz.ntmps28
  go_wp2_with fail
  refine hst.mono ?_
  rintro e w1 ⟨rfl, hB⟩
  have hB2 := below_step hB (below_alloc (Below.refl _ _) (.cells #[.int .u64 0, .int .u64 0, .int .i64 0] 29))
  clear hB hst
  go_wp2
  go_ret2
  exact ⟨rfl, hB2⟩
theorem format_full {w : World} {okd : Nat → Prop} {p : Nat} {D : DM} (h : PDisk w okd p D) (hg : D.gone = false) (hf : (pickM D).N = mostN ∨ stG D = mostN) :
    Calls Tryz.prog 28 #[.pointer (some ⟨p, 0, none⟩)] w fun e w' => e = .returned (.tuple #[.pointer none, .int .i64 62]) ∧ Below w.heap.size w w' := by
  have hst := standing_ok h hg
  unfold manV at hst
  generalize pickM D = m at hst hf
  generalize stG D = g at hst hf
  obtain ⟨N, G, K⟩ := m
  dsimp only at hst hf
  unfold mostN at hf
  by_cases hN : N = 9223372036854775807
  · subst hN
    go_enter Tryz.func28, Tryz.ntmps28
    go_wp2_with fail
    refine hst.mono ?_
    rintro e w1 ⟨rfl, hB⟩
    have hB2 := below_step hB (below_alloc (Below.refl _ _) (.cells #[.int .u64 9223372036854775807, .int .u64 G, .int .i64 K] 29))
    clear hB hst
    go_wp2
    go_ret2
    exact ⟨rfl, hB2⟩
  · have hN2 : (N == 9223372036854775807) = false := by simpa using hN
    obtain rfl : g = 9223372036854775807 := by omega
    go_enter Tryz.func28, Tryz.ntmps28
    go_wp2_with fail
    refine hst.mono ?_
    rintro e w1 ⟨rfl, hB⟩
    have hB2 := below_step hB (below_alloc (Below.refl _ _) (.cells #[.int .u64 N, .int .u64 G, .int .i64 K] 29))
    clear hB hst
    go_wp2
    go_ret2
    exact ⟨rfl, hB2⟩
set_option maxRecDepth 100000 in
set_option maxHeartbeats 4000000 in
theorem format_any {w : World} {okd : Nat → Prop} {p : Nat} {D : DM} (h : PDisk w okd p D) (hm : (D.ws.length + 65537) * 32 ≤ 140737488355328) (hlt : ∀ k, okd k → k < w.heap.size) :
    Calls Tryz.prog 28 #[.pointer (some ⟨p, 0, none⟩)] w fun e w' => ∃ v, e = .returned (.tuple #[v, .int .i64 (formatF D).1]) ∧ Made w w' okd p v (formatF D).2.1 (formatF D).2.2 ∧ Chg okd w w' := by
  unfold formatF
  by_cases hg : D.gone = true
  · rw [if_pos hg]
    refine (format_gone h hg).mono ?_
    rintro e w' ⟨rfl, hB⟩
    exact ⟨_, rfl, ⟨rfl, (h.step (fun k _ hk => hB.block k hk)).mono (fun _ hk => .inl hk)⟩, Chg.of_below hB _⟩
  rw [if_neg hg]
  have hg0 : D.gone = false := by simpa using hg
  by_cases hf : (pickM D).N = mostN ∨ stG D = mostN
  · rw [if_pos hf]
    refine (format_full h hg0 hf).mono ?_
    rintro e w' ⟨rfl, hB⟩
    exact ⟨_, rfl, ⟨rfl, (h.step (fun k _ hk => hB.block k hk)).mono (fun _ hk => .inl hk)⟩, Chg.of_below hB _⟩
  rw [if_neg hf]
  have hst := standing_ok h hg0
  have hpN := pick_N D
  have hsg := stG_bnd D
  unfold manV at hst
  generalize pickM D = m at hst hf hpN ⊢
  generalize stG D = g at hst hf hsg ⊢
  obtain ⟨N, G, K⟩ := m
  dsimp only at hst hf hpN ⊢
  unfold mostN at hf hpN hsg
  have hN2 : (N == 9223372036854775807) = false := by simpa using (by omega : ¬ N = 9223372036854775807)
  have hg2 : (g == 9223372036854775807) = false := by simpa using (by omega : ¬ g = 9223372036854775807)
  have hok : (⟨N + 1, g + 1, 0⟩ : MM).ok := by unfold MM.ok mostN; dsimp only; omega
  have u1 : IntKind.u64.wrap (N + 1) = N + 1 := by rw [IntKind.wrap_u64]; omega
  have u2 : IntKind.u64.wrap (g + 1) = g + 1 := by rw [IntKind.wrap_u64]; omega
  have hfl : ∀ W, Below w.heap.size w W → Calls Tryz.prog 76 #[.pointer (some ⟨p, 0, none⟩), manV ⟨N + 1, g + 1, 0⟩] W fun e w' => e = .returned (.int .i64 (flipF D ⟨N + 1, g + 1, 0⟩).1) ∧ PDisk w' (orNew okd W) p (flipF D ⟨N + 1, g + 1, 0⟩).2 ∧ Chg okd W w' :=
    fun W hW => flip_any (h.step (fun k _ hk => hW.block k hk)) hok hm (fun k hk => Nat.lt_of_lt_of_le (hlt k hk) hW.size)
  have hwf2 := flip_wf h.1 hok
  have hn2 := flip_n h.1 ⟨N + 1, g + 1, 0⟩
  unfold log0
  dsimp only
  generalize hE : (flipF D ⟨N + 1, g + 1, 0⟩).1 = E at hfl ⊢
  generalize hD2 : (flipF D ⟨N + 1, g + 1, 0⟩).2 = D2 at hfl hwf2 hn2 ⊢
  unfold manV at hfl
  dsimp only at hfl
  have HX := hid (And.intro hE hD2)
  clear hE hD2
  obtain ⟨N1, hN1⟩ : ∃ N1, N + 1 = N1 := ⟨_, rfl⟩
  obtain ⟨g1, hg1⟩ : ∃ g1, g + 1 = g1 := ⟨_, rfl⟩
  rw [hN1] at u1 hfl hok ⊢
  rw [hg1] at u2 hfl hok ⊢
  have hnw := hnew_fine hwf2 (K := 0) (G := g1) ⟨by omega, by omega⟩ (by omega)
  rw [baseM_n hn2, sizeM_n hn2] at hnw
  obtain ⟨R, hR⟩ : ∃ R : Int × DM × Option SM, (if E = 0 then (0, D2, some ⟨D2, ⟨N1, g1, 0⟩, ⟨(baseM D 0 : Int), (sizeM D : Int), g1, 0, 0⟩, [], false⟩) else (E, D2, none)) = R := ⟨_, rfl⟩
  rw [hR]
  have HR := hid hR
  clear hR
  go_enter Tryz.func28, Tryz.ntmps28
  go_wp2_with fail
  refine hst.mono ?_
  rintro e w1 ⟨rfl, hB1⟩
  have hx2 := heap_alloc_new w1 (.cells #[.int .u64 N, .int .u64 G, .int .i64 K] 29)
  have hB2 := below_step hB1 (below_alloc (Below.refl _ _) (.cells #[.int .u64 N, .int .u64 G, .int .i64 K] 29))
  have hlt2 := blk_lt hx2
  have hs1 := hB1.size
  generalize hw2 : w1.alloc (.cells #[.int .u64 N, .int .u64 G, .int .i64 K] 29) = w2 at hx2 hB2 hlt2
  have k0 := cell_of_row _ _ 0 _ _ _ hx2
  have k1 := cell_of_row _ _ 1 _ _ _ hx2
  have k2 := cell_of_row _ _ 2 _ _ _ hx2
  have f0 := frozen_of_row _ _ 0 _ _ hx2
  have f1 := frozen_of_row _ _ 1 _ _ hx2
  have f2 := frozen_of_row _ _ 2 _ _ hx2
  simp at k0 k1 k2
  have hx3 := set3 hx2 (.int .u64 N1) (.int .u64 g1) (.int .i64 0)
  have hB3 := below3 hB2 hs1 (.int .u64 N1) (.int .u64 g1) (.int .i64 0)
  have HF3 := hid (And.intro hx3 hB3)
  clear hst hB1 hx2 hB2 hx3 hB3
  go_wp2_with fail
  obtain ⟨hx3, hB3⟩ := HF3.out
  clear HF3 k0 k1 k2 f0 f1 f2
  have hlt3 := blk_lt hx3
  unfold W3s at hx3 hB3 hlt3
  generalize ((w2.setCell ⟨w1.heap.size, 0, none⟩ (.int .u64 N1)).setCell ⟨w1.heap.size, 1, none⟩ (.int .u64 g1)).setCell ⟨w1.heap.size, 2, none⟩ (.int .i64 0) = w3 at hx3 hB3 hlt3 ⊢
  refine (hfl w3 hB3).mono ?_
  rintro e w4 ⟨rfl, hP4, hC4⟩
  have hx4 := (hC4.block _ hlt3 (fun hk => by have := hlt _ hk; omega)).trans hx3
  have hC5 := (Chg.of_below hB3 okd).then_ hC4 (fun k hk => .inl hk)
  have hs4 := Nat.le_trans hB3.size hC4.size
  have hsl3 := hB3.size
  clear hfl hB3 hx3 hC4 hlt3
  by_cases hE0 : E = 0
  · subst hE0
    have hR := HR.out
    rw [if_pos rfl] at hR
    subst hR
    clear HR
    have hmm := fun W => run_makeMap (P := Tryz.prog) (w := W) (t := 97)
    have hP4d : PDisk w4.drew (orNew okd w3) p D2 := hP4.step (w1 := w4.drew) (fun _ _ _ => rfl)
    have hx4d : w4.drew.heap[w1.heap.size]? = some (.cells #[.int .u64 N1, .int .u64 g1, .int .i64 0] 29 (0, 0)) := hx4
    have hba := base_any hP4d 0 (by omega)
    have hsi := size_any hP4d
    rw [baseM_n hn2] at hba
    rw [sizeM_n hn2] at hsi
    have hne := hnew_ok hP4d (baseM D 0) (sizeM D) g1 hnw
    have HP := hid (And.intro hP4.bound (And.intro hC5 hs4))
    clear hP4 hC5 hP4d hnw
    go_wp2_with fail
    refine wp_region_plan [] (.take 0 (.take 1 (.take 3 (.take 5 (.take 6 (.run 2 (.run 4 (.run 7 (.take 8 (.take 9 (.take 10 (.take 11 (.take 12 .done))))))))))))) (fun W => W.heap[w1.heap.size]? = some (.cells #[.int .u64 N1, .int .u64 g1, .int .i64 0] 29 (0, 0))) (by kernel_rfl) (by kernel_rfl) (fun c a d v w h => by cases d <;> exact h) hx4d ?_
    iterate 5 (apply plan_take rfl rfl; (case hy => (intro w' hS; have s1 := cell_of_row _ _ 1 _ _ _ hS; simp at s1; clear hS; go_simp; try exact rfl)); go_simp)
    refine plan_run_on rfl rfl (fun J hJ => ?_)
    go_simp
    refine hba.mono ?_
    rintro e W' ⟨rfl, rfl⟩
    refine hJ _ _ _ (fun _ h => h) hx4d ?_
    clear hJ J
    refine plan_run_on rfl rfl (fun J hJ => ?_)
    go_simp
    refine hsi.mono ?_
    rintro e W' ⟨rfl, rfl⟩
    refine hJ _ _ _ (fun _ h => h) hx4d ?_
    clear hJ J
    refine plan_run_on rfl rfl (fun J hJ => ?_)
    go_simp
    refine hne.mono ?_
    rintro e w5 ⟨rfl, hh5, hB5⟩
    have hx5 := (hB5.block _ (blk_lt hx4d)).trans hx4d
    refine hJ _ _ _ (fun _ h => h) hx5 ?_
    clear hJ J hba hsi hne
    iterate 5 (apply plan_take rfl rfl; (case hy => (intro w' hS; clear hS; go_simp; try exact rfl)); go_simp)
    refine plan_done ?_
    have hB5' : Below w4.heap.size w4 w5 := (below_drew (Below.refl w4.heap.size w4)).trans hB5
    have hM := MapV.made Tryz.prog 9 w5
    have hx6 := (Below.heap_alloc w5 (.map #[] 0) _ (blk_lt hx5)).trans hx5
    have hh6 := hh5.step (Below.heap_alloc w5 (.map #[] 0) _ hh5.lt)
    have hB6 := below_step hB5' (below_alloc (Below.refl _ _) (.map #[] 0))
    have hsz6 : (w5.alloc (.map #[] 0)).heap.size = w5.heap.size + 1 := World.size_alloc _ _
    have hltM := hM.lt
    have hlth := hh6.lt
    have hb7 := heap_alloc_new (w5.alloc (.map #[] 0)) (.cells #[.pointer (some ⟨p, 0, none⟩), .int .u64 N1, .int .u64 g1, .int .i64 0, .pointer (some ⟨w4.heap.size, 0, none⟩), .map (some w5.heap.size), .nilIface] 101)
    have hM7 := hM.block (Below.heap_alloc (w5.alloc (.map #[] 0)) (.cells #[.pointer (some ⟨p, 0, none⟩), .int .u64 N1, .int .u64 g1, .int .i64 0, .pointer (some ⟨w4.heap.size, 0, none⟩), .map (some w5.heap.size), .nilIface] 101) _ hltM)
    have hh7 := hh6.step (Below.heap_alloc (w5.alloc (.map #[] 0)) (.cells #[.pointer (some ⟨p, 0, none⟩), .int .u64 N1, .int .u64 g1, .int .i64 0, .pointer (some ⟨w4.heap.size, 0, none⟩), .map (some w5.heap.size), .nilIface] 101) _ hlth)
    rw [hsz6] at hb7
    have hB7 := below_step hB6 (below_alloc (Below.refl _ _) (.cells #[.pointer (some ⟨p, 0, none⟩), .int .u64 N1, .int .u64 g1, .int .i64 0, .pointer (some ⟨w4.heap.size, 0, none⟩), .map (some w5.heap.size), .nilIface] 101))
    have k0 := cell_of_row _ _ 0 _ _ _ hx5
    have k1 := cell_of_row _ _ 1 _ _ _ hx5
    have k2 := cell_of_row _ _ 2 _ _ _ hx5
    simp at k0 k1 k2
    have hs5 : w4.heap.size ≤ w5.heap.size := hB5'.size
    have HF := hid (And.intro hb7 (And.intro hM7 (And.intro hh7 hB7)))
    clear hb7 hM7 hh7 hB7 hx6 hh6 hB6 hB5 hB5' hx5 hM hx4 hx4d hh5
    go_wp2_with fail
    go_ret2
    obtain ⟨hb7, hM7, hh7, hB7⟩ := HF.out
    obtain ⟨hP4, hC5, hs4'⟩ := HP.out
    refine ⟨_, rfl, ⟨_, _, fun k => w4.heap.size ≤ k, rfl, hP4.step (fun k hk hlt => hB7.block k hlt), ⟨fun _ => False, w4.heap.size, w5.heap.size, .nilIface, ?_⟩, fun k hk hk2 => by have := hk.2; omega, fun k hk => hk.1.elim .inl (fun h => .inr (Nat.le_trans hsl3 h)), fun k hk => by omega⟩, hC5.same hB7⟩
    refine ⟨?_, Nat.le_refl _, hs5, fun k hk => hk.elim, hb7, hh7, ⟨fun _ => none, hM7, fun k => rfl⟩, rfl, fun db e => by cases e⟩
    show w4.heap.size ≤ w5.heap.size + 1
    omega
  · have hE2 : (E != 0) = true := by simpa using hE0
    have hR := HR.out
    rw [if_neg hE0] at hR
    subst hR
    clear HR hx4 hw2 hn2 hwf2 hf hpN hsg hok hnw u1 u2
    go_wp2
    go_ret2
    exact ⟨_, rfl, ⟨rfl, hP4.mono (fun k hk => hk.elim .inl (fun h => .inr (Nat.le_trans hsl3 h)))⟩, hC5⟩
end Go.Proofs.YticogmpafehomaaGreatDoor

set_option linter.unusedVariables false
set_option linter.unusedSimpArgs false
namespace Go.Proofs.YticogmpafehomaaGreatDoor
open Go.RowKit Go.Maps Go.Proofs.YticogmpafehomaaGreatDoorW.PrintWords Go.Proofs.YticogmpafehomaaGreatDoorW.PrintMore

theorem shalf_any {w : World} {okd ok : Nat → Prop} {p pd : Nat} {S : SM} (h : PSto w ok p pd S) (hd : PDisk w okd pd S.D) :
    Calls Tryz.prog 30 #[.pointer (some ⟨p, 0, none⟩)] w fun e w' => e = .returned (.int .i64 (sizeM S.D)) ∧ w = w' := by
  obtain ⟨okr, hb, mb, dv, h⟩ := h
  have c0 := h.blk.c0
  have hs := size_any hd
  go_enter Tryz.func30, Tryz.ntmps30
  go_wp2_with (go_at_call 68; refine hs.mono ?_; rintro e w' ⟨rfl, rfl⟩)
  go_ret
  exact ⟨rfl, rfl⟩
theorem sused_any {w : World} {ok : Nat → Prop} {p pd : Nat} {S : SM} (h : PSto w ok p pd S) :
    Calls Tryz.prog 31 #[.pointer (some ⟨p, 0, none⟩)] w fun e w' => e = .returned (.int .i64 S.H.tail) ∧ w = w' := by
  obtain ⟨okr, hb, mb, dv, h⟩ := h
  have c4 := h.blk.c4
  have hs := used_any h.log
  go_enter Tryz.func31, Tryz.ntmps31
  go_wp2_with (go_at_call 79; refine hs.mono ?_; rintro e w' ⟨rfl, rfl⟩)
  go_ret
  exact ⟨rfl, rfl⟩
theorem sman_any {w : World} {ok : Nat → Prop} {p pd : Nat} {S : SM} (h : PSto w ok p pd S) :
    Calls Tryz.prog 56 #[.pointer (some ⟨p, 0, none⟩)] w fun e w' => e = .returned (manV S.m) ∧ Below w.heap.size w w' := by
  obtain ⟨okr, hb, mb, dv, h⟩ := h
  have hz := heap_alloc_new w (.cells #[.int .u64 0, .int .u64 0, .int .i64 0] 29)
  have hb0 := below_alloc (Below.refl w.heap.size w) (.cells #[.int .u64 0, .int .u64 0, .int .i64 0] 29)
  have hs := h.blk.step (Below.heap_alloc w (.cells #[.int .u64 0, .int .u64 0, .int .i64 0] 29) _ h.blk.lt)
  have hlt := blk_lt hz
  generalize hw1 : w.alloc (.cells #[.int .u64 0, .int .u64 0, .int .i64 0] 29) = w1 at hz hb0 hs hlt
  have c1 := hs.c1
  have c2 := hs.c2
  have c3 := hs.c3
  have z0 := cell_of_row _ _ 0 _ _ _ hz
  have z1 := cell_of_row _ _ 1 _ _ _ hz
  have z2 := cell_of_row _ _ 2 _ _ _ hz
  have f0 := frozen_of_row _ _ 0 _ _ hz
  have f1 := frozen_of_row _ _ 1 _ _ hz
  have f2 := frozen_of_row _ _ 2 _ _ hz
  simp at z0 z1 z2
  have hz2 := set3 hz (.int .u64 S.m.N) (.int .u64 S.m.G) (.int .i64 S.m.K)
  have hb2 := below3 hb0 (Nat.le_refl w.heap.size) (.int .u64 S.m.N) (.int .u64 S.m.G) (.int .i64 S.m.K)
  have HF := hid (And.intro hz2 hb2)
  clear hz2 hb2 hz hb0 hs h
  go_enter Tryz.func56, Tryz.ntmps56
  go_wp2
  refine bodyPost_ret (results_cell_row rfl _ _ w.heap.size 29 _ _ _ rfl HF.out.1 Tryz.underlying29 rfl (by kernel_rfl)) rfl ?_
  exact ⟨rfl, HF.out.2⟩
theorem zero_bytes (w : World) : (zeroValue 25).run Tryz.prog w = .ok (.slice none 0 0) w := by kernel_rfl
/-- An entry's lookup. -/
theorem EMap.look {w : World} {ok : Nat → Prop} {mb : Nat} {E : Ent} (h : EMap w ok mb E) {k : ByteArray} (hk : k.size ≤ 9223372036854775807) :
    ∃ A n c, (Instr.lookup 97 (.map (some mb)) (.string k) true).run Tryz.prog w = .ok (.tuple #[.slice A n c, .bool (Proofs.YticogmpafehomaaGreatDoor.look E k).isSome]) w ∧ (Instr.lookup 97 (.map (some mb)) (.string k) false).run Tryz.prog w = .ok (.slice A n c) w ∧
    n = ((Proofs.YticogmpafehomaaGreatDoor.look E k).getD []).length ∧ n ≤ c ∧ RB w ok A ((Proofs.YticogmpafehomaaGreatDoor.look E k).getD []) := by
  obtain ⟨f, h1, h2⟩ := h
  have r1 := h1.look_ok (t := 97) (e := 25) Tryz.underlying9 Tryz.underlying97 (zero_bytes w) (s := k) hk
  have r2 := h1.look (t := 97) (e := 25) Tryz.underlying9 Tryz.underlying97 (zero_bytes w) (s := k) hk
  have h3 := h2 k
  cases hl : Proofs.YticogmpafehomaaGreatDoor.look E k with
  | none =>
    rw [hl] at h3
    rw [show f k = none from h3] at r1 r2
    exact ⟨none, 0, 0, r1, r2, rfl, Nat.le_refl _, RB_nil _ _ 0⟩
  | some bs =>
    rw [hl] at h3
    obtain ⟨A, c, e1, e2, e3⟩ := h3
    rw [e1] at r1 r2
    exact ⟨A, bs.length, c, r1, r2, rfl, e2, e3⟩
set_option maxHeartbeats 1000000 in
theorem sget_any {w : World} {ok : Nat → Prop} {p pd : Nat} {S : SM} (h : PSto w ok p pd S) (hwf : S.wf) (k : ByteArray) (hk : k.size ≤ 9223372036854775807) :
    Calls Tryz.prog 21 #[.pointer (some ⟨p, 0, none⟩), .string k] w fun e w' => ∃ A c, e = .returned (.tuple #[.slice A ((look S.E k).getD []).length c, .bool (look S.E k).isSome]) ∧ KB.R 5 w' w.heap.size (fun k => w.heap.size ≤ k) (.slice A ((look S.E k).getD []).length c) ((look S.E k).getD []) ∧ Below w.heap.size w w' := by
  obtain ⟨okr, hb, mb, dv, h⟩ := h
  have c5 := h.blk.c5
  obtain ⟨A, n, c, r1, _, rfl, hn, hR⟩ := h.ent.look hk
  have hlen : ((look S.E k).getD []).length ≤ 131072 := by
    cases hl : look S.E k with
    | none => simp
    | some bs => exact (hwf.ent _ (look_mem hl)).2.2
  generalize (look S.E k).isSome = b at r1 ⊢
  generalize (look S.E k).getD [] = bs at r1 hn hR hlen ⊢
  have hcl := clone_any (c := c) (Kd.F_now hR) (by omega)
  clear hR h
  go_enter Tryz.func21, Tryz.ntmps21
  go_wp2_with fail
  refine hcl.mono ?_
  rintro e w1 ⟨A', c', rfl, hR, hB⟩
  have HF := hid (And.intro hR hB)
  clear hR hB hcl r1
  go_wp2
  go_ret2
  exact ⟨A', c', rfl, HF.out⟩
/-- met: nothing has happened. -/
theorem met_ok {w : World} (p : Option Addr) : Calls Tryz.prog 104 #[.pointer p, .int .i64 0] w fun e w' => e = .returned (.int .i64 0) ∧ w = w' := by
  go_enter Tryz.func104, Tryz.ntmps104
  go_wp2
  go_ret
  exact ⟨rfl, rfl⟩
theorem met_err {w : World} {ok okr : Nat → Prop} {p pd hb mb : Nat} {dv : Value} {S : SM} (h : PSb w ok okr p pd hb mb dv S) {E : Int} (hE : ¬ E = 0) :
    Calls Tryz.prog 104 #[.pointer (some ⟨p, 0, none⟩), .int .i64 E] w fun e w' => e = .returned (.int .i64 E) ∧ PSb w' (orNew ok w) okr p pd hb mb (.iface 159 (.pointer (some ⟨w.heap.size, 0, none⟩))) { S with dead := true } ∧ Chg (fun k => k = p) w w' := by
  have hE2 : (E != 0) = true := by simpa using hE
  have hB := below_alloc (Below.refl w.heap.size w) (.cells #[.int .i64 E] 215)
  have h1 := h.step (w1 := w.alloc (.cells #[.int .i64 E] 215)) (fun k _ hk => hB.block k hk)
  have hd1 := heap_alloc_new w (.cells #[.int .i64 E] 215)
  have hplt := h.blk.lt
  have hne := h1.ne
  have hlt1 := blk_lt hd1
  generalize hw1 : w.alloc (.cells #[.int .i64 E] 215) = w1 at hB h1 hd1 hlt1
  have c6 := h1.blk.c6
  have f6 := h1.blk.free 6
  have hs : ∀ k, k ≠ p → (w1.setCell ⟨p, 6, none⟩ (.iface 159 (.pointer (some ⟨w.heap.size, 0, none⟩)))).heap[k]? = w1.heap[k]? := fun k hk => Below.heap_setCell w1 ⟨p, 6, none⟩ _ k hk
  have hfin : PSb (w1.setCell ⟨p, 6, none⟩ (.iface 159 (.pointer (some ⟨w.heap.size, 0, none⟩)))) (orNew ok w) okr p pd hb mb (.iface 159 (.pointer (some ⟨w.heap.size, 0, none⟩))) { S with dead := true } :=
    ⟨.inl h1.okp, .inl h1.okh, .inl h1.okm, fun k hk => by have := h1.rows k hk; exact ⟨.inl this.1, by simpa [World.setCell] using this.2.1, this.2.2⟩, h1.blk.setDead _, h1.log.step (hs _ hne.1.symm), h1.ent.step (hs _ hne.2.1.symm) (fun k hk _ => hs k (h1.rows k hk).2.2.1),
      by show DeadV _ true _; unfold DeadV; rw [if_pos rfl]; exact ⟨w.heap.size, E, rfl, (hs _ (by omega)).trans hd1⟩,
      fun db e => by injection e with _ e; injection e with e; injection e with e; injection e with e; exact .inr (by omega)⟩
  have hc : Chg (fun k => k = p) w (w1.setCell ⟨p, 6, none⟩ (.iface 159 (.pointer (some ⟨w.heap.size, 0, none⟩)))) := Chg.setCell (S := fun k => k = p) (Chg.of_below hB _) (p := ⟨p, 6, none⟩) (.inl rfl) _
  have HF := hid (And.intro hfin hc)
  clear hfin hc hs h1 hB h hd1
  go_enter Tryz.func104, Tryz.ntmps104
  go_wp2
  go_ret
  exact ⟨rfl, HF.out⟩
theorem as_nil {w : World} (v : Value) : Calls Tryz.prog 102 #[.nilIface, v] w fun e w' => e = .returned (.bool false) ∧ w = w' := by
  have hu := Tryz.underlying99
  go_enter Tryz.func102, Tryz.ntmps102
  go_wp2
  go_ret
  exact ⟨rfl, rfl⟩
theorem may_alive {w : World} {ok : Nat → Prop} {p pd : Nat} {S : SM} (h : PSto w ok p pd S) (hd : S.dead = false) (k : ByteArray) :
    Calls Tryz.prog 58 #[.pointer (some ⟨p, 0, none⟩), .string k] w fun e w' => e = .returned (.int .i64 (if keyedB k then 0 else 1)) ∧ Below w.heap.size w w' := by
  have hB := below_alloc (Below.refl w.heap.size w) (.cells #[.pointer none] 159)
  obtain ⟨okr, hb, mb, dv, h⟩ := h
  have hs := h.blk.step (hB.block _ h.blk.lt)
  have c6 := hs.c6
  have hd2 := h.dead
  unfold DeadV at hd2
  rw [if_neg (by simp [hd])] at hd2
  subst hd2
  have ha := fun W v => as_nil (w := W) v
  have hk := fun W => keyed_any (w := W) k
  clear hs h
  by_cases hq : keyedB k
  · rw [decide_eq_true hq] at hk
    rw [if_pos hq]
    go_enter Tryz.func58, Tryz.ntmps58
    go_wp2_with (first | (go_at_call 102; refine (ha _ _).mono ?_; rintro e w' ⟨rfl, rfl⟩) | (go_at_call 51; refine (hk _).mono ?_; rintro e w' ⟨rfl, rfl⟩))
    go_ret
    exact ⟨rfl, hB⟩
  · rw [decide_eq_false hq] at hk
    rw [if_neg hq]
    go_enter Tryz.func58, Tryz.ntmps58
    go_wp2_with (first | (go_at_call 102; refine (ha _ _).mono ?_; rintro e w' ⟨rfl, rfl⟩) | (go_at_call 51; refine (hk _).mono ?_; rintro e w' ⟨rfl, rfl⟩))
    go_ret
    exact ⟨rfl, hB⟩
end Go.Proofs.YticogmpafehomaaGreatDoor

namespace Go.Proofs
open Go.Shelf
end Go.Proofs

set_option linter.unusedVariables false
set_option linter.unusedSimpArgs false
namespace Go.Proofs.YticogmpafehomaaGreatDoor
open Go.RowKit Go.Sort Go.Proofs.YticogmpafehomaaGreatDoorW.PrintWords

abbrev KS : Kd ByteArray := Kd.string
theorem KS_none {w : World} {xs : List ByteArray} (h : KS.C w none xs.length xs) : xs = [] := by
  obtain ⟨_, _, h3⟩ := h
  cases xs with
  | nil => rfl
  | cons x xs =>
    obtain ⟨ad, e, _⟩ := h3 (by simp)
    cases e
/-- A text of a row that is read. -/
theorem KS_at {w : World} {ad : Addr} {n : Nat} {l : List ByteArray} (h : KS.C w (some ad) n l) {i : Nat} (hi : i < l.length) : w.cell? (ad.add i) = some (.string l[i]) := by
  have hn : l.length = n := h.1
  obtain ⟨ad', cs, hA, hcs, hK, hcell⟩ := Kd.C_get h ByteArray.empty (i : Int) (by omega) (by omega)
  injection hA with hA
  subst hA
  simp only [Int.toNat_natCast] at hK hcell
  have hget : l.getD i ByteArray.empty = l[i] := by simp [List.getD_eq_getElem?_getD, hi]
  rw [hget] at hK
  have h3 : cs = [.string l[i]] := hK
  subst h3
  have := hcell 0 _ rfl
  have hsz : Kd.string.sz = 1 := rfl
  rw [hsz, Nat.mul_one] at this
  simpa using this
theorem KS_own {w : World} {base : Nat} {v : Value} {l : List ByteArray} (h : KS.R 9 w base (fun _ => True) v l) : ∃ A' c', v = .slice A' l.length c' ∧ KS.R 9 w base (fun k => base ≤ k) v l := by
  obtain ⟨A', c', he⟩ := Kd.R_slice h
  exact ⟨A', c', he, Kd.R_mono (Kd.R_bound h) (fun k hk => hk.2.1)⟩
theorem map_enc (l : List ByteArray) : l.map Value.string = (l.map bl).map encStr := by
  rw [List.map_map]
  refine List.map_congr_left (fun x _ => ?_)
  show Value.string x = Value.string (tx (bl x))
  rw [tx_bl]
end Go.Proofs.YticogmpafehomaaGreatDoor

namespace Go.Proofs
open Go.Shelf
def Tryz.keys74_ren : Go.Shelf.Ren := ⟨fun | 7 => 74 | 10 => 120 | n => n, fun | 23 => 97 | 26 => 9 | 3 => 25 | 28 => 126 | 0 => 0 | 27 => 125 | 33 => 88 | 4 => 4 | n => n, fun | n => n⟩
theorem Tryz.keys74 : Go.Proofs.SlLaysZ.n7 Tryz.prog Tryz.keys74_ren := {
  mixed := by kernel_rfl
  f7 := ⟨Tryz.f74.name, by decide, Tryz.func74.trans (congrArg some (by kernel_rfl))⟩
  f10 := ⟨Tryz.f120.name, by decide, Tryz.func120.trans (congrArg some (by kernel_rfl))⟩
  t0 := Tryz.underlying0
  a0 := Tryz.isAgg0
  z0 := Tryz.sizeOf0
  v0 := Tryz.zeroValue0
  t4 := Tryz.underlying4
  a4 := Tryz.isAgg4
  z4 := Tryz.sizeOf4
  v4 := Tryz.zeroValue4
  t23 := Tryz.underlying97
  a23 := Tryz.isAgg97
  z23 := Tryz.sizeOf97
  v23 := Tryz.zeroValue97
  t26 := Tryz.underlying9
  a26 := Tryz.isAgg9
  z26 := Tryz.sizeOf9
  v26 := Tryz.zeroValue9
  t27 := Tryz.underlying125
  a27 := Tryz.isAgg125
  z27 := Tryz.sizeOf125
  v27 := Tryz.zeroValue125
  t28 := Tryz.underlying126
  a28 := Tryz.isAgg126
  z28 := Tryz.sizeOf126
  v28 := Tryz.zeroValue126
  t33 := Tryz.underlying88
  a33 := Tryz.isAgg88
  z33 := Tryz.sizeOf88
  v33 := Tryz.zeroValue88 }
def Tryz.sorted148_ren : Go.Shelf.Ren := ⟨fun | 6 => 148 | 8 => 73 | 9 => 155 | 11 => 119 | 13 => 180 | 12 => 179 | 23 => 200 | 24 => 201 | 14 => 191 | 15 => 192 | 16 => 193 | 17 => 194 | 18 => 195 | 19 => 196 | 20 => 197 | 21 => 198 | 22 => 199 | 25 => 206 | 26 => 207 | 27 => 208 | 28 => 209 | 29 => 210 | 30 => 211 | 31 => 214 | n => n, fun | 26 => 9 | 28 => 126 | 24 => 57 | 0 => 0 | 3 => 3 | 37 => 150 | 48 => 270 | 50 => 22 | 4 => 4 | 40 => 262 | 39 => 261 | 45 => 267 | 5 => 5 | 9 => 9 | 51 => 275 | 55 => 278 | 57 => 281 | 58 => 282 | 33 => 88 | n => n, fun | n => n⟩
theorem Tryz.sorted148 : Go.Proofs.SlLaysZ.n6 Tryz.prog Tryz.sorted148_ren := {
  mixed := by kernel_rfl
  f6 := ⟨Tryz.f148.name, by decide, Tryz.func148.trans (congrArg some (by kernel_rfl))⟩
  f8 := ⟨Tryz.f73.name, by decide, Tryz.func73.trans (congrArg some (by kernel_rfl))⟩
  f11 := ⟨Tryz.f119.name, by decide, Tryz.func119.trans (congrArg some (by kernel_rfl))⟩
  t0 := Tryz.underlying0
  a0 := Tryz.isAgg0
  z0 := Tryz.sizeOf0
  v0 := Tryz.zeroValue0
  t24 := Tryz.underlying57
  a24 := Tryz.isAgg57
  z24 := Tryz.sizeOf57
  v24 := Tryz.zeroValue57
  t26 := Tryz.underlying9
  a26 := Tryz.isAgg9
  z26 := Tryz.sizeOf9
  v26 := Tryz.zeroValue9
  t28 := Tryz.underlying126
  a28 := Tryz.isAgg126
  z28 := Tryz.sizeOf126
  v28 := Tryz.zeroValue126
  i26 := by kernel_rfl }
def Tryz.sort155_ren : Go.Shelf.Ren := ⟨fun | 6 => 155 | 8 => 180 | 9 => 179 | 19 => 200 | 20 => 201 | 21 => 191 | 22 => 192 | 23 => 193 | 24 => 194 | 25 => 195 | 26 => 196 | 27 => 197 | 28 => 198 | 29 => 199 | 36 => 206 | 31 => 207 | 32 => 208 | 37 => 209 | 38 => 210 | 39 => 211 | 41 => 214 | n => n, fun | 27 => 57 | 29 => 9 | 3 => 3 | 32 => 150 | 26 => 57 | 0 => 0 | 44 => 270 | 46 => 22 | 4 => 4 | 36 => 262 | 35 => 261 | 41 => 267 | 5 => 5 | 9 => 9 | 53 => 275 | 57 => 278 | 63 => 281 | 64 => 282 | n => n, fun | n => n⟩
theorem Tryz.sort155 : Go.Proofs.SlLaysM.n6 Tryz.prog Tryz.sort155_ren := {
  mixed := by kernel_rfl
  f6 := ⟨Tryz.f155.name, by decide, Tryz.func155.trans (congrArg some (by kernel_rfl))⟩
  f8 := Tryz.func180.trans (congrArg some (by kernel_rfl))
  f9 := ⟨Tryz.f179.name, by decide, Tryz.func179.trans (congrArg some (by kernel_rfl))⟩
  f19 := Tryz.func200.trans (congrArg some (by kernel_rfl))
  f20 := Tryz.func201.trans (congrArg some (by kernel_rfl))
  f21 := ⟨Tryz.f191.name, by decide, Tryz.func191.trans (congrArg some (by kernel_rfl))⟩
  f22 := ⟨Tryz.f192.name, by decide, Tryz.func192.trans (congrArg some (by kernel_rfl))⟩
  f23 := ⟨Tryz.f193.name, by decide, Tryz.func193.trans (congrArg some (by kernel_rfl))⟩
  f24 := ⟨Tryz.f194.name, by decide, Tryz.func194.trans (congrArg some (by kernel_rfl))⟩
  f25 := ⟨Tryz.f195.name, by decide, Tryz.func195.trans (congrArg some (by kernel_rfl))⟩
  f26 := ⟨Tryz.f196.name, by decide, Tryz.func196.trans (congrArg some (by kernel_rfl))⟩
  f27 := ⟨Tryz.f197.name, by decide, Tryz.func197.trans (congrArg some (by kernel_rfl))⟩
  f28 := ⟨Tryz.f198.name, by decide, Tryz.func198.trans (congrArg some (by kernel_rfl))⟩
  f29 := ⟨Tryz.f199.name, by decide, Tryz.func199.trans (congrArg some (by kernel_rfl))⟩
  f31 := Tryz.func207.trans (congrArg some (by kernel_rfl))
  f32 := Tryz.func208.trans (congrArg some (by kernel_rfl))
  f36 := ⟨Tryz.f206.name, by decide, Tryz.func206.trans (congrArg some (by kernel_rfl))⟩
  f37 := ⟨Tryz.f209.name, by decide, Tryz.func209.trans (congrArg some (by kernel_rfl))⟩
  f38 := ⟨Tryz.f210.name, by decide, Tryz.func210.trans (congrArg some (by kernel_rfl))⟩
  f39 := ⟨Tryz.f211.name, by decide, Tryz.func211.trans (congrArg some (by kernel_rfl))⟩
  f41 := ⟨Tryz.f214.name, by decide, Tryz.func214.trans (congrArg some (by kernel_rfl))⟩
  t0 := Tryz.underlying0
  a0 := Tryz.isAgg0
  z0 := Tryz.sizeOf0
  v0 := Tryz.zeroValue0
  t3 := Tryz.underlying3
  a3 := Tryz.isAgg3
  z3 := Tryz.sizeOf3
  v3 := Tryz.zeroValue3
  t4 := Tryz.underlying4
  a4 := Tryz.isAgg4
  z4 := Tryz.sizeOf4
  v4 := Tryz.zeroValue4
  t5 := Tryz.underlying5
  a5 := Tryz.isAgg5
  z5 := Tryz.sizeOf5
  v5 := Tryz.zeroValue5
  t9 := Tryz.underlying9
  a9 := Tryz.isAgg9
  z9 := Tryz.sizeOf9
  v9 := Tryz.zeroValue9
  t26 := Tryz.underlying57
  a26 := Tryz.isAgg57
  z26 := Tryz.sizeOf57
  v26 := Tryz.zeroValue57
  t27 := Tryz.underlying57
  a27 := Tryz.isAgg57
  z27 := Tryz.sizeOf57
  v27 := Tryz.zeroValue57
  t29 := Tryz.underlying9
  a29 := Tryz.isAgg9
  z29 := Tryz.sizeOf9
  v29 := Tryz.zeroValue9
  t32 := Tryz.underlying150
  a32 := Tryz.isAgg150
  z32 := Tryz.sizeOf150
  v32 := Tryz.zeroValue150
  t35 := Tryz.underlying261
  a35 := Tryz.isAgg261
  z35 := Tryz.sizeOf261
  v35 := Tryz.zeroValue261
  t36 := Tryz.underlying262
  a36 := Tryz.isAgg262
  z36 := Tryz.sizeOf262
  v36 := Tryz.zeroValue262
  t41 := Tryz.underlying267
  a41 := Tryz.isAgg267
  z41 := Tryz.sizeOf267
  v41 := Tryz.zeroValue267
  t44 := Tryz.underlying270
  a44 := Tryz.isAgg270
  z44 := Tryz.sizeOf270
  v44 := Tryz.zeroValue270
  t46 := Tryz.underlying22
  a46 := Tryz.isAgg22
  z46 := Tryz.sizeOf22
  v46 := Tryz.zeroValue22
  t53 := Tryz.underlying275
  a53 := Tryz.isAgg275
  z53 := Tryz.sizeOf275
  v53 := Tryz.zeroValue275
  t57 := Tryz.underlying278
  a57 := Tryz.isAgg278
  z57 := Tryz.sizeOf278
  v57 := Tryz.zeroValue278
  t63 := Tryz.underlying281
  a63 := Tryz.isAgg281
  z63 := Tryz.sizeOf281
  v63 := Tryz.zeroValue281
  t64 := Tryz.underlying282
  a64 := Tryz.isAgg282
  z64 := Tryz.sizeOf282
  v64 := Tryz.zeroValue282 }
open Go.RowKit Go.Maps Go.Sort in
theorem Tryz.sorts148 (m : Nat) : AnyZ.SortsIn Tryz.prog Tryz.sorted148_ren Fence.wide m :=
  ⟨fun blk off cap ss W hH hblk hsz => callsIn_wide.2 (AnyM.slices_Sort_string Tryz.sort155 blk off cap ss W hH hblk hsz),
   fun p cap W => callsIn_wide.2 (AnyM.slices_Sort_string_none Tryz.sort155 p cap W)⟩
open Go.RowKit Go.Maps Go.Sort in
theorem Tryz.maps_Keys_74 (mb : Option Nat) (W : World) : CallsIn Fence.wide 5 Tryz.prog 74 #[.map mb] W fun e w' => e = .returned (.func (.func 120) #[] #[.pointer (some ⟨W.heap.size, 0, none⟩)]) ∧ w' = W.alloc (.cells #[.map mb] 97) :=
  AnyZ.keys_in Tryz.keys74 Fence.wide 5 trivial rfl mb W
set_option maxHeartbeats 1000000 in
open Go.RowKit Go.Maps Go.Sort in
theorem Tryz.slices_Sorted_keys_148_74 {H : Type} (b nn : Nat) (D0 : DataW H) (R : Value → Option (DataW H × List MemPlace)) (w : World) (hown : w.ownsMap Tryz.prog 9 R b nn D0) (hmax : Maps.size D0 ≤ maxLen) (hbytes : Maps.size D0 * 16 ≤ 140737488355328) :
    CallsIn Fence.wide 5 Tryz.prog 148 #[.func (.func 120) #[] #[.pointer (some ⟨w.heap.size, 0, none⟩)]] (w.alloc (.cells #[.map (some b)] 97)) fun e w' => ∃ (v : Value) (ss : List (List UInt8)), e = .returned v ∧ ss.Perm (strKeys D0) ∧
      w'.ownsRow (w.alloc (.cells #[.map (some b)] 97)).heap.size 9 1 v ss.length ((ss.mergeSort (fun x y => decide (x ≤ y))).map encStr) ∧ (v = .slice none 0 0 ↔ ss = []) ∧ Below (w.alloc (.cells #[.map (some b)] 97)).heap.size (w.alloc (.cells #[.map (some b)] 97)) w' := by
  have hbl := hown.lt
  have hseq : SeqGives Fence.wide 2 Tryz.prog 120 #[.pointer (some ⟨w.heap.size, 0, none⟩)] encStr (fun ss => ss.Perm (strKeys D0)) (Maps.size D0) (w.alloc (.cells #[.map (some b)] 97)) :=
    AnyZ.keys_gives (ρ := Tryz.keys74_ren) { Tryz.keys74 with } Fence.wide _ trivial rfl (by omega) w.heap.size b nn D0 _ (by simp) (by simp) (by
      obtain ⟨es, clock, hb, Ft, hs, hD⟩ := hown
      exact ⟨es, clock, (Below.heap_alloc _ _ b hbl).trans hb, Ft, hs, hD⟩)
  exact AnyZ.sorted_in Tryz.sorted148 Fence.wide 5 trivial trivial trivial trivial rfl (by omega) (Tryz.sorts148 _) (enters_of Tryz.func155 (by kernel_rfl) rfl) 120 #[.pointer (some ⟨w.heap.size, 0, none⟩)] trivial (enters_of Tryz.func120 (by kernel_rfl) rfl) _ _ hmax hbytes _ hseq
end Go.Proofs
