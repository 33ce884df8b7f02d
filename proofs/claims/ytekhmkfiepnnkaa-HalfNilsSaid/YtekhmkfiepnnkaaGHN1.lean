/- PROVED: HalfNils answers true at every input, and leaves what it was given as it was; no condition. -/
import Derived.Test.YtekhmkfiepnnkaaRows
import Derived.WalkKit
import Derived.ProofKit
import Derived.OpenShut
import Derived.ShutString
import Derived.ChangeOld
import Derived.Below
import Derived.SizedLaws
import Derived.Test.YtekhmkfiepnnkaaGSD
import Derived.Test.YtekhmkfiepnnkaaGSB

/- Law 23: HalfNils. -/
set_option linter.unusedVariables false
set_option linter.unusedSimpArgs false
namespace Go.Proofs.Ytekhmkfiepnnkaa
open Go.RowKit Go.Shelf Go.Proofs.YtekhmkfiepnnkaaW.PrintWords Go.Proofs.YtekhmkfiepnnkaaW.PrintMore

set_option maxRecDepth 100000 in
set_option maxHeartbeats 8000000 in
theorem halfNils_any {w : World} (o : Op23) (base size : Int) (hn : -9223372036854775808 ≤ o.n ∧ o.n ≤ 9223372036854775807) : Calls Try.prog 12 #[.agg o.cells, .int .i64 base, .int .i64 size] w fun e w' => e = .returned (.bool true) ∧ Below w.heap.size w w' := by
  have hb1 := heap_alloc_new w (.cells o.cells 84)
  have hB1 := below_alloc (Below.refl w.heap.size w) (.cells o.cells 84)
  unfold Op23.cells at hb1 hB1 ⊢
  have hby := fun W : World => bytes23_any (w := W) o
  unfold Op23.cells at hby
  have hco : Try.prog.cellsOf 5 = 1 := by kernel_rfl
  go_enter Try.func12, Try.ntmps12
  go_wp2_with fail
  refine (hnew_nil base size o.gen).mono ?_
  rintro e w1 ⟨rfl, rfl⟩
  go_wp2_with fail
  refine (hopen_nil base size o.gen).mono ?_
  rintro e w2 ⟨rfl, hB2⟩
  have hb2 := (hB2.block _ (blk_lt hb1)).trans hb1
  have hBB := hB1.trans (hB2.mono hB1.size)
  generalize w.alloc (.cells #[.int .i64 o.kind, .int .i64 o.of_, .int .i64 o.n, .int .u8 o.fill, .int .u64 o.gen] 84) = w1 at hb1 hB1 hB2
  clear hb1 hB1 hB2
  go_wp2_with fail
  refine wp_region_plan [] (.take 0 (.take 1 (.take 2 (.take 3 (.take 4 (.take 5 (.take 6 (.take 7 (.take 8 (.take 9 (.take 10 (.run 11 (.run 12 (.take 13 (.take 14 (.take 15 (.take 16 (.take 17 (.take 18 (.run 19 (.take 20 (.take 21 (.take 22 (.take 23 (.run 24 (.take 25 (.take 26 (.take 27 (.take 28 (.run 29 (.take 30 (.take 31 (.take 32 (.take 33 (.run 34 (.take 35 (.take 36 (.take 37 (.take 38 (.run 39 (.take 40 (.take 41 (.take 42 (.run 43 (.take 44 (.take 45 .done)))))))))))))))))))))))))))))))))))))))))))))) (fun w' => w'.heap[w.heap.size]? = some (.cells #[.int .i64 o.kind, .int .i64 o.of_, .int .i64 o.n, .int .u8 o.fill, .int .u64 o.gen] 84 (0, 0)) ∧ Below w.heap.size w w') (by kernel_rfl) (by kernel_rfl) (fun c a d v w h => by cases d <;> exact h) ⟨hb2, hBB.drew⟩ ?_
  have hb3 : w2.drew.heap[w.heap.size]? = _ := hb2
  have hB3 := hBB.drew
  clear hb2 hBB
  generalize w2.drew = v0 at hb3 hB3 ⊢
  iterate 11 (apply plan_take rfl rfl; (case hy => (intro w' hS; have e0 := cell_of_row _ _ 0 _ _ _ hS.1; have e1 := cell_of_row _ _ 1 _ _ _ hS.1; have e2 := cell_of_row _ _ 2 _ _ _ hS.1; have e3 := cell_of_row _ _ 3 _ _ _ hS.1; have e4 := cell_of_row _ _ 4 _ _ _ hS.1; clear hS; simp at e0 e1 e2 e3 e4; go_simp; try exact rfl)); go_simp)
  refine plan_run_on rfl rfl (fun K hK => ?_)
  go_simp
  refine (hby _).mono ?_
  rintro e v1 ⟨rfl, _, hQ⟩
  replace hb3 := (hQ.block _ (blk_lt hb3)).trans hb3
  replace hB3 := hB3.trans (hQ.mono hB3.size)
  clear hQ
  refine hK _ _ _ (fun _ h => h) ⟨hb3, hB3⟩ ?_
  clear hK K
  go_simp
  refine plan_run_on rfl rfl (fun K hK => ?_)
  go_simp
  refine (hput_nil o.of_ _ _ _).mono ?_
  rintro e v' ⟨rfl, rfl⟩
  refine hK _ _ _ (fun _ h => h) ⟨hb3, hB3⟩ ?_
  clear hK K
  go_simp
  iterate 6 (apply plan_take rfl rfl; (case hy => (intro w' hS; have e0 := cell_of_row _ _ 0 _ _ _ hS.1; have e1 := cell_of_row _ _ 1 _ _ _ hS.1; have e2 := cell_of_row _ _ 2 _ _ _ hS.1; have e3 := cell_of_row _ _ 3 _ _ _ hS.1; have e4 := cell_of_row _ _ 4 _ _ _ hS.1; clear hS; simp at e0 e1 e2 e3 e4; go_simp; try exact rfl)); go_simp)
  refine plan_run_on rfl rfl (fun K hK => ?_)
  go_simp
  refine (fits_nil o.n hn).mono ?_
  rintro e v2 ⟨rfl, hQ⟩
  replace hb3 := (hQ.block _ (blk_lt hb3)).trans hb3
  replace hB3 := hB3.trans (hQ.mono hB3.size)
  clear hQ
  refine hK _ _ _ (fun _ h => h) ⟨hb3, hB3⟩ ?_
  clear hK K
  go_simp
  iterate 4 (apply plan_take rfl rfl; (case hy => (intro w' hS; have e0 := cell_of_row _ _ 0 _ _ _ hS.1; have e1 := cell_of_row _ _ 1 _ _ _ hS.1; have e2 := cell_of_row _ _ 2 _ _ _ hS.1; have e3 := cell_of_row _ _ 3 _ _ _ hS.1; have e4 := cell_of_row _ _ 4 _ _ _ hS.1; clear hS; simp at e0 e1 e2 e3 e4; go_simp; try exact rfl)); go_simp)
  refine plan_run_on rfl rfl (fun K hK => ?_)
  go_simp
  refine (used_nil).mono ?_
  rintro e v' ⟨rfl, rfl⟩
  refine hK _ _ _ (fun _ h => h) ⟨hb3, hB3⟩ ?_
  clear hK K
  go_simp
  iterate 4 (apply plan_take rfl rfl; (case hy => (intro w' hS; have e0 := cell_of_row _ _ 0 _ _ _ hS.1; have e1 := cell_of_row _ _ 1 _ _ _ hS.1; have e2 := cell_of_row _ _ 2 _ _ _ hS.1; have e3 := cell_of_row _ _ 3 _ _ _ hS.1; have e4 := cell_of_row _ _ 4 _ _ _ hS.1; clear hS; simp at e0 e1 e2 e3 e4; go_simp; try exact rfl)); go_simp)
  refine plan_run_on rfl rfl (fun K hK => ?_)
  go_simp
  refine (room_nil).mono ?_
  rintro e v3 ⟨rfl, hQ⟩
  replace hb3 := (hQ.block _ (blk_lt hb3)).trans hb3
  replace hB3 := hB3.trans (hQ.mono hB3.size)
  clear hQ
  refine hK _ _ _ (fun _ h => h) ⟨hb3, hB3⟩ ?_
  clear hK K
  go_simp
  iterate 4 (apply plan_take rfl rfl; (case hy => (intro w' hS; have e0 := cell_of_row _ _ 0 _ _ _ hS.1; have e1 := cell_of_row _ _ 1 _ _ _ hS.1; have e2 := cell_of_row _ _ 2 _ _ _ hS.1; have e3 := cell_of_row _ _ 3 _ _ _ hS.1; have e4 := cell_of_row _ _ 4 _ _ _ hS.1; clear hS; simp at e0 e1 e2 e3 e4; go_simp; try exact rfl)); go_simp)
  refine plan_run_on rfl rfl (fun K hK => ?_)
  go_simp
  refine (count_nil).mono ?_
  rintro e v' ⟨rfl, rfl⟩
  refine hK _ _ _ (fun _ h => h) ⟨hb3, hB3⟩ ?_
  clear hK K
  go_simp
  iterate 4 (apply plan_take rfl rfl; (case hy => (intro w' hS; have e0 := cell_of_row _ _ 0 _ _ _ hS.1; have e1 := cell_of_row _ _ 1 _ _ _ hS.1; have e2 := cell_of_row _ _ 2 _ _ _ hS.1; have e3 := cell_of_row _ _ 3 _ _ _ hS.1; have e4 := cell_of_row _ _ 4 _ _ _ hS.1; clear hS; simp at e0 e1 e2 e3 e4; go_simp; try exact rfl)); go_simp)
  refine plan_run_on rfl rfl (fun K hK => ?_)
  go_simp
  refine (hgen_nil).mono ?_
  rintro e v' ⟨rfl, rfl⟩
  refine hK _ _ _ (fun _ h => h) ⟨hb3, hB3⟩ ?_
  clear hK K
  go_simp
  iterate 3 (apply plan_take rfl rfl; (case hy => (intro w' hS; have e0 := cell_of_row _ _ 0 _ _ _ hS.1; have e1 := cell_of_row _ _ 1 _ _ _ hS.1; have e2 := cell_of_row _ _ 2 _ _ _ hS.1; have e3 := cell_of_row _ _ 3 _ _ _ hS.1; have e4 := cell_of_row _ _ 4 _ _ _ hS.1; clear hS; simp at e0 e1 e2 e3 e4; go_simp; try exact rfl)); go_simp)
  refine plan_run_on rfl rfl (fun K hK => ?_)
  go_simp
  refine (alive_any).mono ?_
  rintro e v4 ⟨rfl, hQ⟩
  replace hb3 := (hQ.block _ (blk_lt hb3)).trans hb3
  replace hB3 := hB3.trans (hQ.mono hB3.size)
  clear hQ
  refine hK _ _ _ (fun _ h => h) ⟨hb3, hB3⟩ ?_
  clear hK K
  go_simp
  iterate 2 (apply plan_take rfl rfl; (case hy => (intro w' hS; have e0 := cell_of_row _ _ 0 _ _ _ hS.1; have e1 := cell_of_row _ _ 1 _ _ _ hS.1; have e2 := cell_of_row _ _ 2 _ _ _ hS.1; have e3 := cell_of_row _ _ 3 _ _ _ hS.1; have e4 := cell_of_row _ _ 4 _ _ _ hS.1; clear hS; simp at e0 e1 e2 e3 e4; go_simp; try exact rfl)); go_simp)
  refine plan_done ?_
  go_wp2_with fail
  go_ret
  exact ⟨rfl, hB3⟩
end Go.Proofs.Ytekhmkfiepnnkaa

/- Law 23: an Op as an argument; HalfNils at every input. -/
set_option linter.unusedVariables false
set_option linter.unusedSimpArgs false
namespace Go.Proofs.Ytekhmkfiepnnkaa
open Go.RowKit Go.Proofs.YtekhmkfiepnnkaaW.PrintWords

structure Op23.ok (o : Op23) : Prop where
  k : -9223372036854775808 ≤ o.kind ∧ o.kind ≤ 9223372036854775807
  of_ : -9223372036854775808 ≤ o.of_ ∧ o.of_ ≤ 9223372036854775807
  n : -9223372036854775808 ≤ o.n ∧ o.n ≤ 9223372036854775807
  f : 0 ≤ o.fill ∧ o.fill < 256
  g : 0 ≤ o.gen ∧ o.gen < 18446744073709551616
abbrev KOp23 : Kd Op23 := Kd.iso (Kd.pair (Kd.int .i64) (Kd.pair (Kd.int .i64) (Kd.pair (Kd.int .i64) (Kd.pair (Kd.int .u8) (Kd.int .u64))))) (fun x : Op23 => (x.kind, x.of_, x.n, x.fill, x.gen))
theorem KOp23_open {w : World} {o : Op23} {cs : List Value} (h : KOp23.K w o cs) : cs = o.cells.toList := by
  obtain ⟨c0, cs1, rfl, h0, c1, cs2, rfl, h1, c2, cs3, rfl, h2, c3, c4, rfl, h3, h4⟩ := h
  obtain rfl : c0 = [.int .i64 o.kind] := h0
  obtain rfl : c1 = [.int .i64 o.of_] := h1
  obtain rfl : c2 = [.int .i64 o.n] := h2
  obtain rfl : c3 = [.int .u8 o.fill] := h3
  obtain rfl : c4 = [.int .u64 o.gen] := h4
  rfl
theorem opens_op23 : Opens Try.prog 84 KOp23 Op23.ok := by
  refine (opens_iso (P := Try.prog) (t := 84) (fun x : Op23 => (x.kind, x.of_, x.n, x.fill, x.gen)) (fun p => ⟨p.1, p.2.1, p.2.2.1, p.2.2.2.1, p.2.2.2.2⟩) (fun _ => rfl)
    (opens_struct Try.underlying84 (by kernel_rfl) (opensF_cons rfl (by kernel_rfl) (opens_int Try.underlying3) (opensF_cons rfl (by kernel_rfl) (opens_int Try.underlying3) (opensF_cons rfl (by kernel_rfl) (opens_int Try.underlying3)
      (opensF_cons rfl (by kernel_rfl) (opens_int Try.underlying5) (opensF_one rfl (by kernel_rfl) (opens_int Try.underlying23)))))))).mono ?_
  rintro o ⟨h0, h1, h2, h3, h4⟩
  have b0 := bounds_i64 h0
  have b1 := bounds_i64 h1
  have b2 := bounds_i64 h2
  have b3 := bounds_u8 h3
  have b4 := bounds_u64 h4
  dsimp only at b3 b4
  exact ⟨b0, b1, b2, by omega, by omega⟩
theorem halfNils_row {W : World} {o : Op23} {cs : Array Value} (h : KOp23.K W o cs.toList) (g : o.ok) (base size : Int) :
    Calls Try.prog 12 #[.agg cs, .int .i64 base, .int .i64 size] W fun e w' => e = .returned (.bool true) ∧ Below W.heap.size W w' := by
  obtain rfl : cs = o.cells := by
    have := KOp23_open h
    exact Array.toList_inj.1 this
  exact halfNils_any o base size g.n
end Go.Proofs.Ytekhmkfiepnnkaa

set_option linter.unusedVariables false
set_option linter.unusedSimpArgs false
namespace Go.Proofs.Ytekhmkfiepnnkaa
open Go.ChangeShapes Go.WideShapes Go.ChangeAt Go.RowKit Go.Proofs.YtekhmkfiepnnkaaW.PrintWords
open Go.ChangeMaps (open_string shut_string)
set_option linter.unusedVariables false
theorem halfNils_own : ownKnob Try.prog.godebug = none := by kernel_rfl
theorem halfNils_laid : laidOutB Try.prog = true := by kernel_rfl
set_option maxRecDepth 100000 in
theorem halfNils_lifted (os : Os) (started : os.Started) (H : Type) (enc : TypeId × Value → H) :
    ReturnsInHanded {} Try.checked os 12 .any (Rows.halfNilsSpec.pre6 enc Try.prog Try.f12 Rows.halfNilsRow.domain false) (Rows.halfNilsSpec.post enc Try.prog Try.f12 false true false false) := by
  refine returnsInHanded_of_change_sized (C := Try.checked) halfNils_own started (by kernel_rfl) Try.func12
    (ChangeSpec.witness6 (enc := enc) (C := Try.checked) false ⟨#[], #[.agg #[.int .i64 0, .int .i64 0, .int .i64 0, .int .u8 0, .int .u64 0], .int .i64 0, .int .i64 0], []⟩ 8 (by kernel_rfl) (by kernel_rfl) (by kernel_rfl) (by kernel_rfl)) ?_
  intro W base args ds gs before hval0 hW hcnd hsz0 _
  have hsz : (DataW.weightsEach Try.prog (Try.f12.params.toList ++ Rows.halfNilsSpec.plain.varTypes Try.prog) (ds ++ gs)).all (· ≤ reachBytes) = true := hsz0
  have hval : ∀ (j : Nat) t v, Try.f12.params[j]? = some t → args[j]? = some v → Value.okWide Try.prog W .any base t v := hval0
  have hW' := hW
  obtain ⟨p, q, hA0, hV, rfl, hfz, hnd⟩ := hW
  have hA : DataW.TrodAll enc Try.prog W 0 (fun _ => true) true Try.f12.params.toList args.toList ds p := hA0
  rw [Try.params12] at hA hval hsz
  obtain ⟨v0, vs0, d0, ds0, p0, q0, hargs, rfl, rfl, h0, r0⟩ := trodAll_cons hA
  obtain ⟨v1, vs1, d1, ds1, p1, q1, rfl, rfl, rfl, h1, r1⟩ := trodAll_cons r0
  obtain ⟨v2, vs2, d2, ds2, p2, q2, rfl, rfl, rfl, h2, r2⟩ := trodAll_cons r1
  obtain ⟨rfl, rfl, rfl⟩ := trodAll_nil r2
  obtain rfl : args = #[v0, v1, v2] := by cases args; simp_all
  obtain ⟨rfl, rfl⟩ := trodVars_none hV
  have lt0 : ∀ x ∈ p0, x.block < W.heap.size := by obtain ⟨m, hm⟩ := h0; exact DataW.trod_lt m _ _ _ hm
  obtain ⟨cs0, rfl, _⟩ := okWide_struct Try.underlying84 (hval 0 84 v0 rfl rfl)
  obtain ⟨x0, k0, g0⟩ := opens_op23.arg hsz (j := 0) (t := 84) rfl rfl h0
  obtain ⟨n1, rfl, rfl, rfl, g1⟩ := open_int Try.underlying3 (hval 1 3 v1 rfl rfl) h1
  obtain ⟨n2, rfl, rfl, rfl, g2⟩ := open_int Try.underlying3 (hval 2 3 v2 rfl rfl) h2
  clear hA0 hval0 hsz0 hsz
  refine (halfNils_row k0 g0 n1 n2).mono fun e W' ⟨he, bel⟩ => ?_
  subst he
  exact ⟨_, rfl, _, _, _, [], _, [], hW', trodAll_mk1 (shut_bool Try.underlying4 _), (trodAll_cons_mk (Below.trod halfNils_laid (by kernel_rfl) (of_decide_eq_true (by kernel_rfl)) h0 bel lt0) (trodAll_cons_mk (shut_int Try.underlying3 g1) (trodAll_cons_mk (shut_int Try.underlying3 g2) trodAll_mk0))), rfl, bel.frame _, fun h => by cases h⟩
theorem halfNils_over : Rows.halfNilsRow.holds Try.pinned (OpenSpec.ofChange Rows.halfNilsSpec) :=
  OpenClaim.holds_of_wide 12 Try.f12 rfl rfl rfl rfl rfl rfl rfl ⟨rfl, rfl, rfl, rfl, rfl⟩ rfl rfl rfl rfl rfl (by kernel_rfl) Try.func12 (by kernel_rfl)
    (of_decide_eq_true (by kernel_rfl)) (by unfold Func.isWrapper; first | (rw [if_pos (by decide +kernel)]; kernel_rfl) | (rw [if_neg (by decide +kernel)]; exact ⟨rfl, rfl⟩))
    (fun os started H enc _ => halfNils_lifted os started H enc)
/-- The row, for the claim. -/
theorem halfNils_holds : Rows.HalfNilsSaid := halfNils_over
#print axioms halfNils_holds
end Go.Proofs.Ytekhmkfiepnnkaa
