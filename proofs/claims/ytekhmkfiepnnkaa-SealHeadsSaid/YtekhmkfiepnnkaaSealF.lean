/- seal.Write: the writing. Printed by wip/tools/gen_sealf.py. -/
import Derived.Test.YtekhmkfiepnnkaaSealE
import Derived.Laws.Tables
set_option linter.unusedVariables false
set_option linter.unusedSimpArgs false
namespace Go.Proofs.Ytekhmkfiepnnkaa
open Go.RowKit Go.Shelf Go.Proofs.YtekhmkfiepnnkaaW.PrintWords Go.Proofs.YtekhmkfiepnnkaaW.PrintMore
attribute [local go_sem] Oper.semAt_some

theorem wpIn_nrm {F : Fence} {n : Nat} {P : Program} {c : Code} {Q : Exit → Act → World → Prop} {a : Act} {w : World} (h : c.wpIn F n P (fun e a w => e = .normal ∧ Q e a w) a w) : c.wpIn F n P Q a w := wpIn_mono h (fun _ _ _ h => h.2)
theorem info_sblock : (Try.prog.info? 111).map (·.size) = some 64 := by kernel_rfl
theorem storeCells64s {xs : List Int} (hl : xs.length = 64) : ∀ (W : World) (Z : Array Value), Z.size = 64 → (storeCells ⟨W.heap.size, 0, none⟩ (nums .u8 xs)).run Try.prog (W.alloc (.cells Z 111)) = .ok () (W.alloc (.cells (nums .u8 xs).toArray 111)) := by
  intro W Z hZ
  have := run_storeCells_new (P := Try.prog) W 111 Z (nums .u8 xs).toArray (by simp only [List.size_toArray, nums_length, hl]; exact info_sblock) (by simp [nums_length, hl, hZ]) (nums_one _ _)
  simpa using this
theorem wpListIn_store_round {P : Program} {l n : Nat} {ops : Array Oper} {rest : List Oper} {o : Oper} {a : Act} {w : World} {Q : Exit → Act → World → Prop} (hgd : o.guard = none) (ty : TypeId) (x y : Operand) (ho : o.op = .store ty x y)
    (g : Nat) (cells : Array Value) (hx : a.eval x = .pointer (some ⟨g, 0, none⟩)) (hy : a.eval y = .agg cells)
    (t : TypeId) (old : Array Value) (hg : w.heap[g]? = some (.cells old t (0, 0))) (hi : (P.info? ty).map (·.size) = some cells.size)
    (hold : old.size = cells.size) (h1 : cells.all (·.oneCell') = true)
    (h : wpListIn (Fence.wide.inRound l) n P ops Q rest (a.put o.dst undef) (w.setRow g cells)) : wpListIn (Fence.wide.inRound l) n P ops Q (o :: rest) a w :=
  wpListIn_plain hgd fun _ hK => operIn_of_wp (fun c hc => by rw [ho] at hc; cases hc) (wp_store_row ty x y ho g cells hx hy t old hg hi hold h1 (hK _ _ h))
theorem BU.row {w : World} {g : Nat} {T : TypeId} {ys : List Int} (h : BU w g T ys) (hl : ys.length ≤ 9223372036854775807) : RB w (fun k => k = g) (some ⟨g, 0, none⟩) ys := by
  intro W' hW
  have h2 : BU W' g T ys := h.step (hW g rfl h.lt)
  refine Kd.C_of_reads (enc := Value.int .u8) (d := (0 : Int)) (h1 := fun _ => rfl) ⟨rfl, hl, fun _ => ⟨_, rfl, fun j hj => ?_⟩⟩
  rw [add_plain, h2.cell hj]
  simp [List.getD_eq_getElem?_getD, hj]
theorem runs_ws (b0 : Int) : ∀ (l : List (Nat × List Int)) (D : DM) (h : List Int), (runs b0 D h l).1.ws.length ≤ D.ws.length + l.length
  | [], D, h => by simp [runs]
  | x :: l, D, h => by
    have hw : (D.writeD (b0 + x.1) x.2).ws.length ≤ D.ws.length + 1 := by
      unfold DM.writeD
      split
      · omega
      · split
        · omega
        · split
          · simp
          · simp
    simp only [runs, List.length_cons]
    split
    · have := runs_ws b0 l D x.2; omega
    · split
      · have := runs_ws b0 l (D.writeD (b0 + x.1) x.2) h; omega
      · dsimp only; omega
/-- How it stands between the rounds. -/
structure SI (n hb B : Nat) (okx okd : Nat → Prop) (w : World) (p : Nat) (base : Int) (r : SR) (A : Option Addr) (c : Nat) (q : DM × List Int × Int) (W : World) : Prop where
  in4 : In4 W n (some ⟨p, 0, none⟩) base r A c q.2.2
  hd : BU W hb 111 q.2.1
  l64 : q.2.1.length = 64
  disk : PDisk W okx p q.1
  chg : Chg okd w W
  sz : B ≤ W.heap.size
theorem SI.turn {n hb B : Nat} {okx okd : Nat → Prop} {w : World} {p : Nat} {base : Int} {r : SR} {A : Option Addr} {c : Nat} {q : DM × List Int × Int} {W W' : World} (h : SI n hb B okx okd w p base r A c q W) {row : Option Nat} (hg : W.grownBy W' row)
    (hr : ∀ r, row = some r → w.heap.size ≤ r ∧ ∃ o : Obj, W.heap[r]? = some o ∧ o.isCells = false) : SI n hb B okx okd w p base r A c q W' := by
  have ht : ∀ k, isC W k → W'.heap[k]? = W.heap[k]? := fun k hk => turn_cells hg (fun r e => (hr r e).2) hk
  exact ⟨⟨(ht _ ⟨_, _, h.in4.b0⟩).trans h.in4.b0, (ht _ ⟨_, _, h.in4.b1⟩).trans h.in4.b1, (ht _ ⟨_, _, h.in4.b2⟩).trans h.in4.b2, (ht _ ⟨_, _, h.in4.b3⟩).trans h.in4.b3⟩, h.hd.step (ht _ ⟨_, _, h.hd⟩), h.l64, h.disk.turn hg (fun r e => (hr r e).2),
    h.chg.grown hg (fun k e => .inr (hr k e).1), Nat.le_trans h.sz hg.size⟩
theorem SI.alloc {n hb B : Nat} {okx okd : Nat → Prop} {w : World} {p : Nat} {base : Int} {r : SR} {A : Option Addr} {c : Nat} {q : DM × List Int × Int} {W : World} (h : SI n hb B okx okd w p base r A c q W) (o : Obj) : SI n hb B okx okd w p base r A c q (W.alloc o) :=
  h.turn (World.grownBy_alloc W o none) (fun r e => by cases e)
/-- Between two rounds; behind the last one. -/
def InvS (w : World) (hb B : Nat) (okd : Nat → Prop) (p : Nat) (base : Int) (r : SR) (A : Option Addr) (c : Nat) (D : DM) (pre : List YB) (W : World) : Prop :=
  (runs (base + r.at_) D (fill []) (pre.map (·.1))).2.2 = 0 ∧ SI w.heap.size hb B (fun k => (okd k ∧ k < w.heap.size) ∨ B ≤ k) okd w p base r A c (runs (base + r.at_) D (fill []) (pre.map (·.1))) W
def InvX (w : World) (hb B : Nat) (okd : Nat → Prop) (p : Nat) (base : Int) (r : SR) (A : Option Addr) (c : Nat) (D : DM) (cd : Code) (pre : List YB) (W : World) : Prop :=
  cd = .ret ∧ (runs (base + r.at_) D (fill []) (pre.map (·.1))).2.2 ≠ 0 ∧ SI w.heap.size hb B (fun k => (okd k ∧ k < w.heap.size) ∨ B ≤ k) okd w p base r A c (runs (base + r.at_) D (fill []) (pre.map (·.1))) W
theorem Chg.setRow1 {W : World} {g : Nat} (cs : Array Value) : Chg (fun k => k = g) W (W.setRow g cs) := (Chg.refl (fun k => k = g) W).setRow (.inl rfl) cs
set_option maxRecDepth 100000 in
set_option maxHeartbeats 4000000 in
theorem seal_go {w : World} {okd okr : Nat → Prop} {D : DM} {A : Option Addr} {c : Nat} (p : Nat) (base : Int) (r : SR) (h : PDisk w okd p D) (hF : RB w okr A r.bytes) (hne : apart okr okd) (hl : r.bytes.length ≤ c) (hr : r.right)
    (hb9 : -9223372036854775808 ≤ base ∧ base ≤ 9223372036854775807) (he : sealE r = 0) (ho : outB D base r = false) (hm : (D.ws.length + 65537) * 32 ≤ 140737488355328) :
  Calls Try.prog 22 #[.pointer (some ⟨p, 0, none⟩), .int .i64 base, recV r A c] w fun e w' => e = .returned (.int .i64 (puts (base + r.at_) D (order r)).2) ∧ PDisk w' (orNew okd w) p (puts (base + r.at_) D (order r)).1 ∧ Chg okd w w' := by
  obtain ⟨QD, QE, hQQ⟩ : ∃ QD QE, puts (base + r.at_) D (order r) = (QD, QE) := ⟨_, _, rfl⟩
  have HQ := hid hQQ
  rw [hQQ]
  clear hQQ
  dsimp only
  have hlb := hr.l
  have hat := hr.a
  have hc := right_any (w := W4 w (some ⟨p, 0, none⟩) base r A c 0) (A := A) (c := c) r (by omega)
  have hnb : 1 ≤ need (r.bytes.length : Int) ∧ need (r.bytes.length : Int) ≤ 65536 := by unfold need; rw [if_neg (by omega)]; split <;> omega
  rw [he] at hc
  have hn := h.1.hi
  have HO := hid ho
  have h1 : ¬ base < 0 ∧ ¬ (D.n : Int) < base ∧ ¬ (D.n : Int) - base < r.at_ + need (r.bytes.length : Int) := by
    unfold outB at ho
    simp only [Bool.or_eq_false_iff, decide_eq_false_iff_not] at ho
    exact ⟨ho.1.1, ho.1.2, ho.2⟩
  obtain ⟨h1, h2, h3⟩ := h1
  have h1' : 0 ≤ base := by omega
  have hw1 : IntKind.i64.wrap (r.at_ + need (r.bytes.length : Int)) = r.at_ + need (r.bytes.length : Int) := by rw [IntKind.wrap_i64]; omega
  have hw2 : IntKind.i64.wrap ((D.n : Int) - base) = (D.n : Int) - base := by rw [IntKind.wrap_i64]; omega
  unfold recV at hc ⊢
  refine (callsIn_wide (n := 2)).1 (callsIn_of_wp_marks Try.func22 rfl trivial ?_ rfl)
  simp only [Try.ntmps22, List.size_toArray, List.length_cons, List.length_nil, Nat.reduceAdd, Nat.reduceSub, Array.replicate_succ, Array.replicate_zero, List.push_toArray, List.append_toArray, List.nil_append, List.cons_append]
  gi_wp2_with fail
  refine ⟨trivial, callsIn_wide.2 (hc.mono ?_)⟩
  rintro e w1 ⟨rfl, hB⟩
  have hI : In4 w1 w.heap.size (some ⟨p, 0, none⟩) base r A c 0 := (W4_in w _ base r A c 0).step (fun k h1 h2 => hB.block k (by simp; omega))
  have hD1 : PDisk w1 okd p D := h.step (fun k _ hk => (hB.block k (by simp; omega)).trans ((W4_below w _ base r A c 0).block k hk))
  have s00 := hI.s3.1
  have s01 := hI.s3.2
  gi_wp2_with fail
  refine wpIn_nrm (wpIn_wide.2 (wp_region_plan [] (.take 0 (.take 1 (.take 2 (.take 3 (.take 4 (.run 5 (.take 6 (.take 7 (.take 8 (.take 9 (.take 10 (.take 11 (.take 12 (.take 13 (.take 16 (.take 18 (.run 14 (.take 15 (.run 17 (.take 19 (.take 20 (.take 21 .done)))))))))))))))))))))) (In4.S w.heap.size (some ⟨p, 0, none⟩) base r A c) (by kernel_rfl) (by kernel_rfl) (fun c a d v w h => absurd h.1 (by simp)) hI.s ?_))
  have hS := hI.s
  have hfin := (W4_below w (some ⟨p, 0, none⟩) base r A c 0).trans (hB.mono (by simp; omega))
  have hSd : In4.S w.heap.size (some ⟨p, 0, none⟩) base r A c w1.drew := hS
  have hDd : PDisk w1.drew okd p D := hD1.step (fun _ _ _ => rfl)
  have n1 : ¬ base < 0 := by omega
  have n2 : ¬ (D.n : Int) < base := by omega
  have n3 : ¬ (D.n : Int) - base < r.at_ + need (r.bytes.length : Int) := by omega
  iterate 5 (apply plan_take rfl rfl; (case hy => (intro w' hS; obtain ⟨s0, s1, s2, s3⟩ := hS; go_simp; try exact rfl)); go_simp)
  refine plan_run_on rfl rfl (fun K hK => ?_)
  go_simp
  refine (blocks_any hDd).mono ?_
  rintro e w2 ⟨rfl, rfl⟩
  refine hK _ _ _ (fun _ h => h) hSd ?_
  clear hK K
  go_simp
  iterate 10 (apply plan_take rfl rfl; (case hy => (intro w' hS; obtain ⟨s0, s1, s2, s3⟩ := hS; go_simp; try exact rfl)); go_simp)
  refine plan_run_on rfl rfl (fun K hK => ?_)
  go_simp
  refine (need_any (r.bytes.length : Int) (by omega)).mono ?_
  rintro e w2 ⟨rfl, rfl⟩
  refine hK _ _ _ (fun _ h => h) hSd ?_
  clear hK K
  go_simp
  (apply plan_take rfl rfl; (case hy => (intro w' hS; obtain ⟨s0, s1, s2, s3⟩ := hS; go_simp; try exact rfl)); go_simp)
  refine plan_run_on rfl rfl (fun K hK => ?_)
  go_simp
  refine (blocks_any hDd).mono ?_
  rintro e w2 ⟨rfl, rfl⟩
  refine hK _ _ _ (fun _ h => h) hSd ?_
  clear hK K
  go_simp
  iterate 3 (apply plan_take rfl rfl; (case hy => (intro w' hS; obtain ⟨s0, s1, s2, s3⟩ := hS; go_simp; try exact rfl)); go_simp)
  refine plan_done ⟨rfl, ?_⟩
  have hId : In4 w1.drew w.heap.size (some ⟨p, 0, none⟩) base r A c 0 := hI.step (fun _ _ _ => rfl)
  have hfd := hfin.drew
  clear hB hc hI hD1 hS hfin hSd
  generalize w1.drew = w2 at hId hDd hfd ⊢
  have hIh : In4 (w2.alloc (.cells #[.int .u8 0, .int .u8 0, .int .u8 0, .int .u8 0, .int .u8 0, .int .u8 0, .int .u8 0, .int .u8 0, .int .u8 0, .int .u8 0, .int .u8 0, .int .u8 0, .int .u8 0, .int .u8 0, .int .u8 0, .int .u8 0, .int .u8 0, .int .u8 0, .int .u8 0, .int .u8 0, .int .u8 0, .int .u8 0, .int .u8 0, .int .u8 0, .int .u8 0, .int .u8 0, .int .u8 0, .int .u8 0, .int .u8 0, .int .u8 0, .int .u8 0, .int .u8 0, .int .u8 0, .int .u8 0, .int .u8 0, .int .u8 0, .int .u8 0, .int .u8 0, .int .u8 0, .int .u8 0, .int .u8 0, .int .u8 0, .int .u8 0, .int .u8 0, .int .u8 0, .int .u8 0, .int .u8 0, .int .u8 0, .int .u8 0, .int .u8 0, .int .u8 0, .int .u8 0, .int .u8 0, .int .u8 0, .int .u8 0, .int .u8 0, .int .u8 0, .int .u8 0, .int .u8 0, .int .u8 0, .int .u8 0, .int .u8 0, .int .u8 0, .int .u8 0] 111)) w.heap.size (some ⟨p, 0, none⟩) base r A c 0 := hId.step (fun k _ h2 => Below.heap_alloc _ _ _ (by have := blk_lt hId.b3; omega))
  have g0 : BU (w2.alloc (.cells #[.int .u8 0, .int .u8 0, .int .u8 0, .int .u8 0, .int .u8 0, .int .u8 0, .int .u8 0, .int .u8 0, .int .u8 0, .int .u8 0, .int .u8 0, .int .u8 0, .int .u8 0, .int .u8 0, .int .u8 0, .int .u8 0, .int .u8 0, .int .u8 0, .int .u8 0, .int .u8 0, .int .u8 0, .int .u8 0, .int .u8 0, .int .u8 0, .int .u8 0, .int .u8 0, .int .u8 0, .int .u8 0, .int .u8 0, .int .u8 0, .int .u8 0, .int .u8 0, .int .u8 0, .int .u8 0, .int .u8 0, .int .u8 0, .int .u8 0, .int .u8 0, .int .u8 0, .int .u8 0, .int .u8 0, .int .u8 0, .int .u8 0, .int .u8 0, .int .u8 0, .int .u8 0, .int .u8 0, .int .u8 0, .int .u8 0, .int .u8 0, .int .u8 0, .int .u8 0, .int .u8 0, .int .u8 0, .int .u8 0, .int .u8 0, .int .u8 0, .int .u8 0, .int .u8 0, .int .u8 0, .int .u8 0, .int .u8 0, .int .u8 0, .int .u8 0] 111)) w2.heap.size 111 (fill []) := heap_alloc_new w2 _
  have b0 : Below w2.heap.size w2 (w2.alloc (.cells #[.int .u8 0, .int .u8 0, .int .u8 0, .int .u8 0, .int .u8 0, .int .u8 0, .int .u8 0, .int .u8 0, .int .u8 0, .int .u8 0, .int .u8 0, .int .u8 0, .int .u8 0, .int .u8 0, .int .u8 0, .int .u8 0, .int .u8 0, .int .u8 0, .int .u8 0, .int .u8 0, .int .u8 0, .int .u8 0, .int .u8 0, .int .u8 0, .int .u8 0, .int .u8 0, .int .u8 0, .int .u8 0, .int .u8 0, .int .u8 0, .int .u8 0, .int .u8 0, .int .u8 0, .int .u8 0, .int .u8 0, .int .u8 0, .int .u8 0, .int .u8 0, .int .u8 0, .int .u8 0, .int .u8 0, .int .u8 0, .int .u8 0, .int .u8 0, .int .u8 0, .int .u8 0, .int .u8 0, .int .u8 0, .int .u8 0, .int .u8 0, .int .u8 0, .int .u8 0, .int .u8 0, .int .u8 0, .int .u8 0, .int .u8 0, .int .u8 0, .int .u8 0, .int .u8 0, .int .u8 0, .int .u8 0, .int .u8 0, .int .u8 0, .int .u8 0] 111)) := below_alloc (Below.refl _ _) _
  have hs3 : (w2.alloc (.cells #[.int .u8 0, .int .u8 0, .int .u8 0, .int .u8 0, .int .u8 0, .int .u8 0, .int .u8 0, .int .u8 0, .int .u8 0, .int .u8 0, .int .u8 0, .int .u8 0, .int .u8 0, .int .u8 0, .int .u8 0, .int .u8 0, .int .u8 0, .int .u8 0, .int .u8 0, .int .u8 0, .int .u8 0, .int .u8 0, .int .u8 0, .int .u8 0, .int .u8 0, .int .u8 0, .int .u8 0, .int .u8 0, .int .u8 0, .int .u8 0, .int .u8 0, .int .u8 0, .int .u8 0, .int .u8 0, .int .u8 0, .int .u8 0, .int .u8 0, .int .u8 0, .int .u8 0, .int .u8 0, .int .u8 0, .int .u8 0, .int .u8 0, .int .u8 0, .int .u8 0, .int .u8 0, .int .u8 0, .int .u8 0, .int .u8 0, .int .u8 0, .int .u8 0, .int .u8 0, .int .u8 0, .int .u8 0, .int .u8 0, .int .u8 0, .int .u8 0, .int .u8 0, .int .u8 0, .int .u8 0, .int .u8 0, .int .u8 0, .int .u8 0, .int .u8 0] 111)).heap.size = w2.heap.size + 1 := World.size_alloc _ _
  have hld := rec_cells hIh
  gi_wp2_with (refine wpListIn_load_addr rfl rfl 25 (.tmp 5) rfl ⟨w.heap.size + 1 + 1, 0, none⟩ rfl _ _ hld Try.underlying25 rfl (by kernel_rfl) ?_)
  refine ⟨trivial, callsIn_wide.2 ((seq_any r).mono ?_)⟩
  rintro e W0 ⟨rfl, hW0⟩
  generalize w2.alloc (.cells #[.int .u8 0, .int .u8 0, .int .u8 0, .int .u8 0, .int .u8 0, .int .u8 0, .int .u8 0, .int .u8 0, .int .u8 0, .int .u8 0, .int .u8 0, .int .u8 0, .int .u8 0, .int .u8 0, .int .u8 0, .int .u8 0, .int .u8 0, .int .u8 0, .int .u8 0, .int .u8 0, .int .u8 0, .int .u8 0, .int .u8 0, .int .u8 0, .int .u8 0, .int .u8 0, .int .u8 0, .int .u8 0, .int .u8 0, .int .u8 0, .int .u8 0, .int .u8 0, .int .u8 0, .int .u8 0, .int .u8 0, .int .u8 0, .int .u8 0, .int .u8 0, .int .u8 0, .int .u8 0, .int .u8 0, .int .u8 0, .int .u8 0, .int .u8 0, .int .u8 0, .int .u8 0, .int .u8 0, .int .u8 0, .int .u8 0, .int .u8 0, .int .u8 0, .int .u8 0, .int .u8 0, .int .u8 0, .int .u8 0, .int .u8 0, .int .u8 0, .int .u8 0, .int .u8 0, .int .u8 0, .int .u8 0, .int .u8 0, .int .u8 0, .int .u8 0] 111) = w3 at hIh g0 b0 hs3 hW0 ⊢
  have hsz0 : W0.heap.size = w3.heap.size + 1 := by rw [hW0]; exact World.size_alloc _ _
  have hs4 := And.intro (Nat.le_of_eq hs3) (Nat.le_of_eq hs3.symm)
  have hsz4 := And.intro (Nat.le_of_eq hsz0) (Nat.le_of_eq hsz0.symm)
  clear hs3 hsz0
  have hsz2 : w.heap.size + 4 ≤ w2.heap.size := by have := blk_lt hId.b3; omega
  have hb30 : Below w3.heap.size w3 W0 := by rw [hW0]; exact below_alloc (Below.refl _ _) _
  have hI0 : In4 W0 w.heap.size (some ⟨p, 0, none⟩) base r A c 0 := hIh.step (fun k _ h2 => hb30.block k (by omega))
  have hg0 : BU W0 w2.heap.size 111 (fill []) := g0.step (hb30.block _ g0.lt)
  have hbw : Below w.heap.size w W0 := hfd.trans ((b0.mono hfd.size).trans (hb30.mono (by omega)))
  have hD0 : PDisk W0 (fun k => (okd k ∧ k < w.heap.size) ∨ W0.heap.size ≤ k) p D := (h.bound.step (w1 := W0) (fun k hk _ => hbw.block k hk.2)).mono (fun _ hk => .inl hk)
  have hrb : W0.heap[w3.heap.size]? = some (.cells #[.int .u64 r.gen, .int .i64 r.at_, .int .i64 r.kind, .slice A r.bytes.length c] 25 (0, 0)) := by rw [hW0]; exact heap_alloc_new _ _
  have hRB : RBox W0 w3.heap.size r (fun k => (okr k ∧ k < w.heap.size) ∨ k = w3.heap.size) A c := ⟨.inr rfl, hrb, fun W' hW => hF W' (fun k hk hlt => (hW k ⟨.inl ⟨hk, hlt⟩, by omega⟩ (by omega)).trans (hbw.block k hlt)), hl⟩
  have hseq := blocks_stops hRB hr (fun k hk => by rcases hk with hk | hk <;> omega)
  have hC0 : Chg okd w W0 := Chg.of_below hbw okd
  have hne2 : ∀ k, ((okr k ∧ k < w.heap.size) ∨ k = w3.heap.size) → ¬ ((okd k ∧ k < w.heap.size) ∨ W0.heap.size ≤ k) := fun k hk hk2 => by
    rcases hk with hk | hk <;> rcases hk2 with hk2 | hk2
    · exact hne k hk.1 hk2.1
    · omega
    · omega
    · omega
  have hSI0 : SI w.heap.size w2.heap.size W0.heap.size (fun k => (okd k ∧ k < w.heap.size) ∨ W0.heap.size ≤ k) okd w p base r A c (runs (base + r.at_) D (fill []) []) W0 := ⟨hI0, hg0, rfl, hD0, hC0, Nat.le_refl _⟩
  clear hIh g0 b0 hb30 hW0 hId hDd hld hI0 hg0 hD0 hRB hrb hC0 hfd
  gi_wp2_with fail
  refine wpIn_rangeFunc_ownH (α := YB) (n := 2) (w := W0) rfl (by decide) (gf := 82) (lb := #[.pointer (some ⟨w3.heap.size, 0, none⟩)]) rfl trivial (enters_of Try.func82 (by kernel_rfl) rfl)
    hseq (fun h k => ⟨fun i hi hlt => (k.1 i hi (Nat.lt_of_lt_of_le hlt h.2)).trans (h.1 i hi hlt), Nat.le_trans h.2 k.2⟩) (fun W l o o' hl _ _ _ => ⟨fun k hk _ => World.putObj_heap_other (fun e => by rcases hk with hk | hk <;> omega), by simp⟩) (Below.refl _ _) (fun _ => rfl)
    (InvS w w2.heap.size W0.heap.size okd p base r A c D) (InvX w w2.heap.size W0.heap.size okd p base r A c D)
    (fun s X Y row hs hg hr => ⟨hs.1, hs.2.turn hg (fun r e => ⟨by have := (hr r e).1; omega, (hr r e).2⟩)⟩)
    (fun cd s X Y row hs hg hr => ⟨hs.1, hs.2.1, hs.2.2.turn hg (fun r e => ⟨by have := (hr r e).1; omega, (hr r e).2⟩)⟩)
    ⟨rfl, hSI0⟩
    (fun x a' W => ∃ Bx, W0.heap.size ≤ Bx ∧ BU W Bx 111 x.1.2 ∧ a' = { tmps := #[.pointer (some ⟨p, 0, none⟩), .int .i64 base, .agg #[.int .u64 r.gen, .int .i64 r.at_, .int .i64 r.kind, .slice A r.bytes.length c], .pointer (some ⟨w.heap.size, 0, none⟩), .pointer (some ⟨w.heap.size + 1, 0, none⟩), .pointer (some ⟨w.heap.size + 1 + 1, 0, none⟩), .pointer (some ⟨w.heap.size + 1 + 1 + 1, 0, none⟩), .int .i64 0, .pointer (some ⟨w2.heap.size, 0, none⟩), .int .i64 (x.1.1 : Int), .pointer (some ⟨Bx, 0, none⟩), undef, .pointer (some ⟨p, 0, none⟩), .bool false, .agg #[.int .u64 r.gen, .int .i64 r.at_, .int .i64 r.kind, .slice A r.bytes.length c], .int .i64 0, .int .i64 0, .bool false, undef, .int .i64 base, .bool false, .bool false, .int .i64 base, .pointer (some ⟨p, 0, none⟩), .int .i64 (D.n : Int), .bool false, .bool false, .bool false, .pointer (some ⟨w.heap.size + 1 + 1, 1, none⟩), .int .i64 r.at_, .pointer (some ⟨w.heap.size + 1 + 1, 3, none⟩), .slice A r.bytes.length c, .int .i64 (r.bytes.length : Int), .int .i64 (need (r.bytes.length : Int)), .int .i64 (r.at_ + need (r.bytes.length : Int)), .pointer (some ⟨p, 0, none⟩), .int .i64 (D.n : Int), .int .i64 base, .int .i64 ((D.n : Int) - base), .bool false, .bool false, .agg #[.int .u64 r.gen, .int .i64 r.at_, .int .i64 r.kind, .slice A r.bytes.length c], .func (.func 82) #[] #[.pointer (some ⟨w3.heap.size, 0, none⟩)], .int .i64 (x.1.1 : Int), .agg (nums .u8 x.1.2).toArray, undef, undef, undef, undef, undef, undef, undef, undef, undef, undef, undef, undef, undef, undef, undef, undef, undef, undef, undef, undef, undef, undef], defers := [] })
    (fun x a' _ X Y row hs hg hr => by obtain ⟨Bx, e1, e2, e3⟩ := hs; exact ⟨Bx, e1, e2.step (turn_cells hg (fun r e => (hr r e).2) ⟨_, _, e2⟩), e3⟩)
    ?assign ?body ?done ?stop
  case assign =>
    rintro l pre x W K ⟨hq, hI⟩ hK
    have hst := storeCells64s x.2.2.1
    have hxl : (nums .u8 x.1.2).length = 64 := by rw [nums_length]; exact x.2.2.1
    dsimp only [encY]
    gi_wp2
    exact hK _ _ ((KeepsOthers.alloc _ _).from _) ⟨fun k _ hlt => Below.heap_alloc _ _ _ hlt, by simp⟩ ⟨hq, hI.alloc _⟩ ⟨W.heap.size, hI.sz, heap_alloc_new _ _, rfl⟩
  case body =>
    rintro l pre ⟨⟨k, ys⟩, hk, hy64, hyB⟩ a' W hl0 ⟨rr, hrr⟩ ⟨hq, hI⟩ ⟨Bx, hBx, hbx, rfl⟩ hlt
    dsimp only at hbx hk hy64 hyB ⊢
    have hqr := runs_append (base + r.at_) (pre.map (·.1)) [(k, ys)] D (fill [])
    rw [if_pos hq] at hqr
    have hws := runs_ws (base + r.at_) (pre.map (·.1)) D (fill [])
    rw [List.length_map] at hws
    have hN : pre.length < 65536 := by have h1 := hlt; have h2 := bodies_le hr; simp [blkList] at h1; omega
    have hpm : (pre ++ [(⟨(k, ys), hk, hy64, hyB⟩ : YB)]).map (·.1) = pre.map (·.1) ++ [(k, ys)] := by simp
    rw [← hpm] at hqr
    clear hpm hlt
    generalize runs (base + r.at_) D (fill []) (pre.map (·.1)) = q at hq hI hqr hws
    obtain ⟨Dq, hd, e0⟩ := q
    dsimp only at hq hI hqr hws
    subst hq
    have hbsz := hI.sz
    have hn3 := blk_lt hI.in4.b3
    have hdh := hI.hd
    have hdl := hI.l64
    dsimp only at hdh hdl
    by_cases h0 : k = 0
    · subst h0
      simp only [runs, if_true] at hqr
      have hch := Chg.setRow1 (W := W) (g := w2.heap.size) (nums .u8 ys).toArray
      have HH : InvS w w2.heap.size W0.heap.size okd p base r A c D (pre ++ [⟨(0, ys), hk, hy64, hyB⟩]) (W.setRow w2.heap.size (nums .u8 ys).toArray) := by
        unfold InvS
        rw [hqr]
        refine ⟨rfl, ⟨hI.in4.step (fun k h1 h2 => hch.block k (by omega) (by omega)), heap_setRow hdh, hy64, ?_, hI.chg.setRow (.inr (by omega)) _, Nat.le_trans hbsz hch.size⟩⟩
        exact hI.disk.step (fun k hk hlt => hch.block k hlt (fun e => by rcases hk with hk | hk <;> omega))
      have HH2 := hid HH
      have hKF : KeepsFrom W0.heap.size W (W.setRow w2.heap.size (nums .u8 ys).toArray) := KeepsFrom.of_chg hch (fun k e => by rw [e]; exact ⟨_, _, hdh⟩)
      have hKP : KpR (fun k => (okr k ∧ k < w.heap.size) ∨ k = w3.heap.size) W (W.setRow w2.heap.size (nums .u8 ys).toArray) := ⟨fun k hk hlt => hch.block k hlt (fun e => by rcases hk with hk | hk <;> omega), hch.size⟩
      have hcl : (#[] : Array Value).size = 0 := rfl
      clear HH hqr
      gi_wp2_with (first | refine wpListIn_load_addr rfl rfl 111 (.tmp 10) rfl ⟨Bx, 0, none⟩ rfl (nums .u8 ys) _ hbx.load Try.underlying111 rfl (by rw [nums_length, hy64]; exact info_sblock) ?_ | refine wpListIn_store_round rfl 111 (.tmp 8) (.tmp 47) rfl w2.heap.size (nums .u8 ys).toArray rfl rfl 111 _ hdh (by rw [List.size_toArray, nums_length, hy64]; exact info_sblock) (by rw [List.size_toArray, List.size_toArray, nums_length, nums_length, hdl, hy64]) (nums_one _ _) ?_)
      exact ⟨hKF, hKP, HH2.out⟩
    · simp only [runs, if_neg h0] at hqr
      have h0' : ¬ ((k : Int) = 0) := by omega
      have hwa : IntKind.i64.wrap (base + r.at_) = base + r.at_ := by rw [IntKind.wrap_i64]; omega
      have hwb : IntKind.i64.wrap (base + r.at_ + (k : Int)) = base + r.at_ + (k : Int) := by rw [IntKind.wrap_i64]; omega
      have hDx : PDisk W.drew (fun j => (((okd j ∧ j < w.heap.size) ∨ W0.heap.size ≤ j) ∧ isC W j) ∧ j ≠ Bx) p Dq := (hI.disk.cells.without hbx).step (fun _ _ _ => rfl)
      have hrow : RB W.drew (fun j => j = Bx) (some ⟨Bx, 0, none⟩) ys := (BU.step hbx rfl : BU W.drew Bx 111 ys).row (by omega)
      have hwr := write_any (c := 64) (base + r.at_ + (k : Int)) hDx hrow (fun j hj hj2 => hj2.2 hj) hyB (by omega)
      have hSt : In4.S w.heap.size (some ⟨p, 0, none⟩) base r A c W.drew := hI.in4.s
      rw [hy64] at hwr
      generalize hE : Dq.writeE (base + r.at_ + (k : Int)) ys = E at hqr hwr
      generalize Dq.writeD (base + r.at_ + (k : Int)) ys = Dw at hqr hwr
      clear hE
      have HQR := hid hqr
      clear hqr
      have hkb : ((k : Int) == 0) = false := by simpa using h0
      gi_wp2_with fail
      refine wpIn_region_plan [] (.take 0 (.take 1 (.take 2 (.take 3 (.take 4 (.take 5 (.take 6 (.take 7 (.run 8 (.take 9 .done)))))))))) (In4.S w.heap.size (some ⟨p, 0, none⟩) base r A c) (by kernel_rfl) (by kernel_rfl) (by kernel_rfl) (by rintro ⟨_, _, h⟩; exact h) (fun c a d v w h => h) hSt ?_
      iterate 8 (apply plan_take rfl rfl; (case hy => (intro w' hS; obtain ⟨s0, s1, s2, s3⟩ := hS; go_simp; try exact rfl)); go_simp)
      refine plan_run_on rfl rfl (fun K hK => ?_)
      go_simp
      refine hwr.mono ?_
      rintro e W1 ⟨rfl, hD1, hc1⟩
      have hch : Chg (fun j => (((okd j ∧ j < w.heap.size) ∨ W0.heap.size ≤ j) ∧ isC W j) ∧ j ≠ Bx) W W1 := (Chg.refl _ W).drew.then_ hc1 (fun _ h => .inl h)
      have hn4 : ∀ j, w.heap.size ≤ j → j < W0.heap.size → W1.heap[j]? = W.heap[j]? := fun j h1 h2 => hch.block j (by omega) (fun hj => by rcases hj.1.1 with hk | hk <;> omega)
      have hI4 : In4 W1 w.heap.size (some ⟨p, 0, none⟩) base r A c 0 := hI.in4.step (fun j h1 h2 => hn4 j h1 (by omega))
      refine hK _ _ _ (fun _ h => h) hI4.s ?_
      clear hK K
      go_simp
      (apply plan_take rfl rfl; (case hy => (intro w' hS; obtain ⟨s0, s1, s2, s3⟩ := hS; go_simp; try exact rfl)); go_simp)
      refine plan_done ?_
      have hD2 : PDisk W1 (fun k => (okd k ∧ k < w.heap.size) ∨ W0.heap.size ≤ k) p Dw := hD1.mono (fun j hj => by
        rcases hj with hj | hj
        · exact hj.1.1
        · exact .inr (Nat.le_trans hbsz hj))
      have hKF : KeepsFrom W0.heap.size W W1 := KeepsFrom.of_chg hch (fun j hj => hj.1.2)
      have hcw : Chg okd w W1 := hI.chg.then_ hch (fun j hj => by
        rcases hj.1.1 with hk | hk
        · exact .inl hk.1
        · exact .inr (by omega))
      have hsz1 : W0.heap.size ≤ W1.heap.size := Nat.le_trans hbsz hch.size
      have hhd : BU W1 w2.heap.size 111 hd := hdh.step (hn4 _ (by omega) (by omega))
      by_cases hE : E = 0
      · subst hE
        have hqr := HQR.out
        rw [if_pos rfl] at hqr
        have HH : InvS w w2.heap.size W0.heap.size okd p base r A c D (pre ++ [⟨(k, ys), hk, hy64, hyB⟩]) W1 := by
          unfold InvS
          rw [hqr]
          exact ⟨rfl, ⟨hI4, hhd, hdl, hD2, hcw, hsz1⟩⟩
        have HH2 := hid HH
        have hKP : KpR (fun k => (okr k ∧ k < w.heap.size) ∨ k = w3.heap.size) W W1 := ⟨fun j hj hlt => by
          rcases hj with hj | hj
          · exact hch.block j hlt (fun h2 => by
              rcases h2.1.1 with hk | hk
              · exact hne j hj.1 hk.1
              · omega)
          · exact hn4 j (by omega) (by omega), hch.size⟩
        clear HH hqr
        gi_wp2_with fail
        exact ⟨hKF, hKP, HH2.out⟩
      · have hqr := HQR.out
        rw [if_neg hE] at hqr
        have hst3 := hI4.s3
        have HH : InvX w w2.heap.size W0.heap.size okd p base r A c D .ret (pre ++ [⟨(k, ys), hk, hy64, hyB⟩]) (W1.setCell ⟨w.heap.size + 1 + 1 + 1, 0, none⟩ (.int .i64 E)) := by
          unfold InvX
          rw [hqr]
          have hset : ∀ j, j ≠ w.heap.size + 1 + 1 + 1 → (W1.setCell ⟨w.heap.size + 1 + 1 + 1, 0, none⟩ (.int .i64 E)).heap[j]? = W1.heap[j]? := fun j hj => Below.heap_setCell _ _ _ _ hj
          refine ⟨rfl, hE, ⟨⟨(hset _ (by omega)).trans hI4.b0, (hset _ (by omega)).trans hI4.b1, (hset _ (by omega)).trans hI4.b2, ?_⟩, hhd.step (hset _ (by omega)), hdl, hD2.step (fun j hj _ => hset j (by rcases hj with hk | hk <;> omega)), hcw.setCell (.inr (by simp; omega)) _, by simpa [World.setCell] using hsz1⟩⟩
          exact heap_setCell_same _ _ 0 _ _ _ hI4.b3
        have HH2 := hid HH
        have hKF2 : KeepsFrom W0.heap.size W (W1.setCell ⟨w.heap.size + 1 + 1 + 1, 0, none⟩ (.int .i64 E)) := hKF.trans ((KeepsOthers.setCell _ _ _).from _)
        have HH3 := hid hKF2
        clear HH hqr hKF2
        obtain ⟨t3, f3⟩ := hst3
        have heb : (E != 0) = true := by simpa using hE
        gi_wp2_with fail
        exact ⟨HH3.out, HH2.out⟩
  case done =>
    rintro D1 xs W hD1 hS ⟨hq, hI⟩ hK
    have hws := runs_ws (base + r.at_) (blkList r) D (fill [])
    rw [hS, runs_blk] at hq hI
    rw [runs_blk] at hws
    have hlen : (blkList r).length ≤ 65535 := by have := bodies_le hr; simp [blkList]; omega
    have hord : puts (base + r.at_) D (order r) = puts (base + r.at_) (puts (base + r.at_) D ((List.range (bodies r)).map fun (i : Nat) => ((i : Int) + 1, bodyB r (i + 1)))).1 [(0, headB r)] := by
      unfold order
      rw [puts_append, if_pos hq]
    have hQ := HQ.out
    rw [hord] at hQ
    clear hord hS HQ
    generalize puts (base + r.at_) D ((List.range (bodies r)).map fun (i : Nat) => ((i : Int) + 1, bodyB r (i + 1))) = q at hq hI hws hQ
    obtain ⟨Dq, e0⟩ := q
    dsimp only at hq hI hws hQ
    subst hq
    have hlast : puts (base + r.at_) Dq [(0, headB r)] = (Dq.writeD (base + r.at_) (headB r), Dq.writeE (base + r.at_) (headB r)) := by
      simp only [puts, Int.add_zero]
      split
      · rename_i h; rw [h]
      · rfl
    rw [hlast] at hQ
    clear hlast
    have hbsz := hI.sz
    have hn3 := blk_lt hI.in4.b3
    have hdh := hI.hd
    dsimp only at hdh
    have hwa : IntKind.i64.wrap (base + r.at_) = base + r.at_ := by rw [IntKind.wrap_i64]; omega
    have hDx : PDisk W.drew (fun j => (((okd j ∧ j < w.heap.size) ∨ W0.heap.size ≤ j) ∧ isC W j) ∧ j ≠ w2.heap.size) p Dq := (hI.disk.cells.without hdh).step (fun _ _ _ => rfl)
    have hrow : RB W.drew (fun j => j = w2.heap.size) (some ⟨w2.heap.size, 0, none⟩) (headB r) := (BU.step hdh rfl : BU W.drew w2.heap.size 111 (headB r)).row (by rw [headB_length]; omega)
    have hwr := write_any (c := 64) (base + r.at_) hDx hrow (fun j hj hj2 => hj2.2 hj) (headB_bytes hr) (by omega)
    have hSt : In4.S w.heap.size (some ⟨p, 0, none⟩) base r A c W.drew := hI.in4.s
    rw [headB_length] at hwr
    generalize Dq.writeE (base + r.at_) (headB r) = E at hwr hQ
    generalize Dq.writeD (base + r.at_) (headB r) = Dw at hwr hQ
    clear hws
    injection hQ with e1 e2
    have e1' := e1.symm
    have e2' := e2.symm
    clear e1 e2
    subst e1' e2'
    gi_wp2_with fail
    refine wpIn_nrm (wpIn_wide.2 (wp_region_plan [7] (.take 0 (.take 1 (.take 2 (.take 3 (.take 4 (.take 5 (.run 6 (.tail 7 .done)))))))) (In4.S w.heap.size (some ⟨p, 0, none⟩) base r A c) (by kernel_rfl) (by kernel_rfl) (fun c a d v w h => absurd h.1 (by simp)) hSt ?_))
    iterate 6 (apply plan_take rfl rfl; (case hy => (intro w' hS; obtain ⟨s0, s1, s2, s3⟩ := hS; go_simp; try exact rfl)); go_simp)
    refine plan_run_on rfl rfl (fun K hK => ?_)
    go_simp
    refine hwr.mono ?_
    rintro e W1 ⟨rfl, hD1', hc1⟩
    have hch : Chg (fun j => (((okd j ∧ j < w.heap.size) ∨ W0.heap.size ≤ j) ∧ isC W j) ∧ j ≠ w2.heap.size) W W1 := (Chg.refl _ W).drew.then_ hc1 (fun _ h => .inl h)
    have hn4 : ∀ j, w.heap.size ≤ j → j < W0.heap.size → W1.heap[j]? = W.heap[j]? := fun j h1 h2 => hch.block j (by omega) (fun hj => by rcases hj.1.1 with hk | hk <;> omega)
    have hI4 : In4 W1 w.heap.size (some ⟨p, 0, none⟩) base r A c 0 := hI.in4.step (fun j h1 h2 => hn4 j h1 (by omega))
    refine hK _ _ _ (fun _ h => h) hI4.s ?_
    clear hK K
    go_simp
    obtain ⟨t3, f3⟩ := hI4.s3
    refine plan_tail_on rfl rfl (fun K hK => ?_)
    go_simp
    refine hK _ _ (plan_done ⟨rfl, ?_⟩)
    clear hK K
    have hD2 : PDisk W1 (fun k => (okd k ∧ k < w.heap.size) ∨ W0.heap.size ≤ k) p QD := hD1'.mono (fun j hj => by
      rcases hj with hj | hj
      · exact hj.1.1
      · exact .inr (Nat.le_trans hbsz hj))
    have hcw : Chg okd w W1 := hI.chg.then_ hch (fun j hj => by
      rcases hj.1.1 with hk | hk
      · exact .inl hk.1
      · exact .inr (by omega))
    have hKW : W1.heap[D1]? = some (.deferred (some [])) := (KeepsFrom.of_chg (B := W0.heap.size) hch (fun j hj => hj.1.2)).same D1 _ hD1 hK rfl
    have hK' := (KeepsOthers.setCell W1 ⟨w.heap.size + 1 + 1 + 1, 0, none⟩ (.int .i64 QE)).same D1 _ hKW rfl
    have hcell : (W1.setCell ⟨w.heap.size + 1 + 1 + 1, 0, none⟩ (.int .i64 QE)).cell? ⟨w.heap.size + 1 + 1 + 1, 0, none⟩ = some (.int .i64 QE) := World.cell?_setCell_same' _ _ _ (by rw [t3]; rfl)
    have hcell2 := cell_kept hcell (grownBy_putObj' _ D1 (.deferred none)) (fun r e => by cases e; exact ⟨_, hK', rfl⟩)
    have hD3 : PDisk ((W1.setCell ⟨w.heap.size + 1 + 1 + 1, 0, none⟩ (.int .i64 QE)).putObj D1 (.deferred none)) (orNew okd w) p QD := ((hD2.step (fun j hj _ => Below.heap_setCell _ _ _ _ (by show j ≠ w.heap.size + 1 + 1 + 1; rcases hj with hk | hk <;> omega))).turn (grownBy_putObj' _ D1 (.deferred none)) (fun r e => by cases e; exact ⟨_, hK', rfl⟩)).mono (fun j hj => by
      rcases hj with hk | hk
      · exact .inl hk.1
      · exact .inr (by omega))
    have hC3 : Chg okd w ((W1.setCell ⟨w.heap.size + 1 + 1 + 1, 0, none⟩ (.int .i64 QE)).putObj D1 (.deferred none)) := (hcw.setCell (p := ⟨w.heap.size + 1 + 1 + 1, 0, none⟩) (.inr (by simp; omega)) _).grown (grownBy_putObj' _ D1 (.deferred none)) (fun k e => by cases e; exact .inr (by omega))
    have HF := hid (And.intro hK' (And.intro hcell2 (And.intro hD3 hC3)))
    clear hK' hcell hcell2 hD3 hC3 hKW hD2 hcw hK
    gi_wp2_with fail
    refine ⟨by simp, .inl ⟨_, _, rfl, run_takeDeferred HF.out.1, ?_⟩⟩
    exact ⟨_, errno_ret rfl _ _ (w.heap.size + 1 + 1 + 1) QE rfl HF.out.2.1, rfl, HF.out.2.2.1, HF.out.2.2.2⟩
  case stop =>
    rintro D1 cd pre W hD1 ⟨t, ht⟩ ⟨rfl, hq, hI⟩ hK
    have hap := runs_append (base + r.at_) (pre.map (·.1)) t D (fill [])
    rw [ht, if_neg hq, runs_blk] at hap
    have hord : puts (base + r.at_) D (order r) = puts (base + r.at_) D ((List.range (bodies r)).map fun (i : Nat) => ((i : Int) + 1, bodyB r (i + 1))) := by
      unfold order
      rw [puts_append, if_neg]
      rw [← hap] at hq
      exact hq
    have hQ := HQ.out
    rw [hord] at hQ
    rw [← hap] at hI
    clear hord hap hq ht HQ
    generalize puts (base + r.at_) D ((List.range (bodies r)).map fun (i : Nat) => ((i : Int) + 1, bodyB r (i + 1))) = q at hI hQ
    subst hQ
    dsimp only at hI
    have hcell : W.cell? ⟨w.heap.size + 1 + 1 + 1, 0, none⟩ = some (.int .i64 QE) := hI.in4.s3.1
    have hcell2 := cell_kept hcell (grownBy_putObj' _ D1 (.deferred none)) (fun r e => by cases e; exact ⟨_, hK, rfl⟩)
    have hD3 : PDisk (W.putObj D1 (.deferred none)) (orNew okd w) p QD := (hI.disk.turn (grownBy_putObj' _ D1 (.deferred none)) (fun r e => by cases e; exact ⟨_, hK, rfl⟩)).mono (fun j hj => by
      rcases hj with hk | hk
      · exact .inl hk.1
      · exact .inr (by omega))
    have hC3 : Chg okd w (W.putObj D1 (.deferred none)) := hI.chg.grown (grownBy_putObj' _ D1 (.deferred none)) (fun k e => by cases e; exact .inr (by omega))
    have HF := hid (And.intro hK (And.intro hcell2 (And.intro hD3 hC3)))
    clear hK hcell hcell2 hD3 hC3
    gi_wp2_with fail
    refine ⟨by simp, .inl ⟨_, _, rfl, run_takeDeferred HF.out.1, ?_⟩⟩
    exact ⟨_, errno_ret rfl _ _ (w.heap.size + 1 + 1 + 1) QE rfl HF.out.2.1, rfl, HF.out.2.2.1, HF.out.2.2.2⟩
end Go.Proofs.Ytekhmkfiepnnkaa
