/- seal.Write. -/
import Derived.Test.YtekhmkfiepnnkaaSealD
import Derived.Laws.Rows
set_option linter.unusedVariables false
set_option linter.unusedSimpArgs false
namespace Go.Proofs.Ytekhmkfiepnnkaa
open Go.RowKit Go.Shelf Go.Proofs.YtekhmkfiepnnkaaW.PrintWords Go.Proofs.YtekhmkfiepnnkaaW.PrintMore
attribute [local go_sem] Oper.semAt_some

/-- The variables of Write, in their boxes. -/
abbrev W4 (w : World) (dp : Option Addr) (base : Int) (r : SR) (A : Option Addr) (c : Nat) (E : Int) : World :=
  (((w.alloc (.cells #[.pointer dp] 37)).alloc (.cells #[.int .i64 base] 3)).alloc (.cells #[.int .u64 r.gen, .int .i64 r.at_, .int .i64 r.kind, .slice A r.bytes.length c] 25)).alloc (.cells #[.int .i64 E] 40)
theorem W4_below (w : World) (dp : Option Addr) (base : Int) (r : SR) (A : Option Addr) (c : Nat) (E : Int) : Below w.heap.size w (W4 w dp base r A c E) :=
  below_alloc (below_alloc (below_alloc (below_alloc (Below.refl _ _) _) _) _) _
theorem errno_ret {fn : Func} {p : Tmp} (h : fn.results = #[.cell p 40]) (tmps : Array Value) (w : World) (b : Nat) (E : Int) (ht : tmps.getD p undef = .pointer (some ⟨b, 0, none⟩)) (hc : w.cell? ⟨b, 0, none⟩ = some (.int .i64 E)) :
    (results fn tmps).run Try.prog w = .ok (.int .i64 E) w := by
  have ht' : tmps[p]?.getD undef = .pointer (some ⟨b, 0, none⟩) := by simpa using ht
  simp [results, h, ht', asAddr, go_sem, hc, Try.underlying40]
set_option maxRecDepth 100000 in
set_option maxHeartbeats 2000000 in
theorem seal_nil {w : World} {A : Option Addr} {c : Nat} (base : Int) (r : SR) :
  Calls Try.prog 22 #[.pointer none, .int .i64 base, recV r A c] w fun e w' => e = .returned (.int .i64 2) ∧ Below w.heap.size w w' := by
  unfold recV
  go_enter Try.func22, Try.ntmps22
  go_wp2
  refine bodyPost_ret (errno_ret rfl _ _ (w.heap.size + 1 + 1 + 1) 2 rfl (by go_simp)) rfl ⟨rfl, W4_below w none base r A c 2⟩
set_option maxRecDepth 100000 in
set_option maxHeartbeats 2000000 in
theorem seal_err {w : World} {A : Option Addr} {c : Nat} (p : Nat) (base : Int) (r : SR) (hl : r.bytes.length ≤ 9223372036854775807) (he : ¬ sealE r = 0) :
  Calls Try.prog 22 #[.pointer (some ⟨p, 0, none⟩), .int .i64 base, recV r A c] w fun e w' => e = .returned (.int .i64 (sealE r)) ∧ Below w.heap.size w w' := by
  have hc := right_any (w := W4 w (some ⟨p, 0, none⟩) base r A c 0) (A := A) (c := c) r hl
  generalize sealE r = E at he hc ⊢
  unfold recV at hc ⊢
  go_enter Try.func22, Try.ntmps22
  go_wp2_with fail
  refine hc.mono ?_
  rintro e w1 ⟨rfl, hB⟩
  have hcell : w1.cell? ⟨w.heap.size + 1 + 1 + 1, 0, none⟩ = some (.int .i64 0) := by rw [hB.cell (by simp)]; go_simp
  have hfree : w1.frozen? ⟨w.heap.size + 1 + 1 + 1, 0, none⟩ = false := by rw [hB.frozen (by simp)]; go_simp
  go_wp2
  refine bodyPost_ret (errno_ret rfl _ _ (w.heap.size + 1 + 1 + 1) E rfl (by go_simp)) rfl ⟨rfl, ?_⟩
  have h2 := (W4_below w (some ⟨p, 0, none⟩) base r A c 0).trans (hB.mono (by simp; omega))
  exact h2.setCell (by simp; omega) _

/-- The variables of Write in a later world. -/
structure In4 (w1 : World) (n : Nat) (dp : Option Addr) (base : Int) (r : SR) (A : Option Addr) (c : Nat) (E : Int) : Prop where
  b0 : w1.heap[n]? = some (.cells #[.pointer dp] 37 (0, 0))
  b1 : w1.heap[n + 1]? = some (.cells #[.int .i64 base] 3 (0, 0))
  b2 : w1.heap[n + 1 + 1]? = some (.cells #[.int .u64 r.gen, .int .i64 r.at_, .int .i64 r.kind, .slice A r.bytes.length c] 25 (0, 0))
  b3 : w1.heap[n + 1 + 1 + 1]? = some (.cells #[.int .i64 E] 40 (0, 0))
theorem W4_in (w : World) (dp : Option Addr) (base : Int) (r : SR) (A : Option Addr) (c : Nat) (E : Int) : In4 (W4 w dp base r A c E) w.heap.size dp base r A c E := by
  have h0 := heap_alloc_new w (.cells #[.pointer dp] 37)
  have h1 := heap_alloc_new (w.alloc (.cells #[.pointer dp] 37)) (.cells #[.int .i64 base] 3)
  have h2 := heap_alloc_new ((w.alloc (.cells #[.pointer dp] 37)).alloc (.cells #[.int .i64 base] 3)) (.cells #[.int .u64 r.gen, .int .i64 r.at_, .int .i64 r.kind, .slice A r.bytes.length c] 25)
  have h3 := heap_alloc_new (((w.alloc (.cells #[.pointer dp] 37)).alloc (.cells #[.int .i64 base] 3)).alloc (.cells #[.int .u64 r.gen, .int .i64 r.at_, .int .i64 r.kind, .slice A r.bytes.length c] 25)) (.cells #[.int .i64 E] 40)
  rw [World.size_alloc] at h1
  rw [World.size_alloc, World.size_alloc] at h2
  rw [World.size_alloc, World.size_alloc, World.size_alloc] at h3
  refine ⟨?_, ?_, ?_, h3⟩
  · rw [Below.heap_alloc _ _ _ (by simp only [World.size_alloc]; omega), Below.heap_alloc _ _ _ (by simp only [World.size_alloc]; omega), Below.heap_alloc _ _ _ (by simp only [World.size_alloc]; omega)]; exact h0
  · rw [Below.heap_alloc _ _ _ (by simp only [World.size_alloc]; omega), Below.heap_alloc _ _ _ (by simp only [World.size_alloc]; omega)]; exact h1
  · rw [Below.heap_alloc _ _ _ (by simp only [World.size_alloc]; omega)]; exact h2
theorem In4.step {w1 w2 : World} {n : Nat} {dp : Option Addr} {base : Int} {r : SR} {A : Option Addr} {c : Nat} {E : Int} (h : In4 w1 n dp base r A c E) (hm : ∀ k, n ≤ k → k ≤ n + 3 → w2.heap[k]? = w1.heap[k]?) : In4 w2 n dp base r A c E :=
  ⟨(hm _ (by omega) (by omega)).trans h.b0, (hm _ (by omega) (by omega)).trans h.b1, (hm _ (by omega) (by omega)).trans h.b2, (hm _ (by omega) (by omega)).trans h.b3⟩
/-- What the walk loads. -/
def In4.S (n : Nat) (dp : Option Addr) (base : Int) (r : SR) (A : Option Addr) (c : Nat) (w' : World) : Prop :=
  w'.cell? ⟨n, 0, none⟩ = some (.pointer dp) ∧ w'.cell? ⟨n + 1, 0, none⟩ = some (.int .i64 base) ∧ w'.cell? ⟨n + 1 + 1, 1, none⟩ = some (.int .i64 r.at_) ∧ w'.cell? ⟨n + 1 + 1, 3, none⟩ = some (.slice A r.bytes.length c)
theorem In4.s {w1 : World} {n : Nat} {dp : Option Addr} {base : Int} {r : SR} {A : Option Addr} {c : Nat} {E : Int} (h : In4 w1 n dp base r A c E) : In4.S n dp base r A c w1 :=
  ⟨by have := cell_of_row _ _ 0 _ _ _ h.b0; simpa using this, by have := cell_of_row _ _ 0 _ _ _ h.b1; simpa using this, by have := cell_of_row _ _ 1 _ _ _ h.b2; simpa using this, by have := cell_of_row _ _ 3 _ _ _ h.b2; simpa using this⟩
theorem In4.s3 {w1 : World} {n : Nat} {dp : Option Addr} {base : Int} {r : SR} {A : Option Addr} {c : Nat} {E : Int} (h : In4 w1 n dp base r A c E) : w1.cell? ⟨n + 1 + 1 + 1, 0, none⟩ = some (.int .i64 E) ∧ w1.frozen? ⟨n + 1 + 1 + 1, 0, none⟩ = false :=
  ⟨by have := cell_of_row _ _ 0 _ _ _ h.b3; simpa using this, frozen_of_row _ _ _ _ _ h.b3⟩
theorem rec_cells {w1 : World} {n : Nat} {dp : Option Addr} {base : Int} {r : SR} {A : Option Addr} {c : Nat} {E : Int} (h : In4 w1 n dp base r A c E) : ∀ j v, ([Value.int .u64 r.gen, .int .i64 r.at_, .int .i64 r.kind, .slice A r.bytes.length c] : List Value)[j]? = some v → w1.cell? ((⟨n + 1 + 1, 0, none⟩ : Addr).add j) = some v := by
  intro j v hj
  rw [add_plain, cell_of_row _ _ j _ _ _ h.b2]
  simpa using hj
/-- The test ahead of the writing. -/
def outB (D : DM) (base : Int) (r : SR) : Bool := decide (base < 0) || decide ((D.n : Int) < base) || decide ((D.n : Int) - base < r.at_ + need r.bytes.length)
set_option maxRecDepth 100000 in
set_option maxHeartbeats 4000000 in
theorem seal_bad {w : World} {ok : Nat → Prop} {D : DM} {A : Option Addr} {c : Nat} (p : Nat) (base : Int) (r : SR) (h : PDisk w ok p D) (hl : r.bytes.length ≤ 131072) (hat : 0 ≤ r.at_ ∧ r.at_ ≤ 65535) (hb9 : -9223372036854775808 ≤ base ∧ base ≤ 9223372036854775807) (he : sealE r = 0) (ho : outB D base r = true) :
  Calls Try.prog 22 #[.pointer (some ⟨p, 0, none⟩), .int .i64 base, recV r A c] w fun e w' => e = .returned (.int .i64 60) ∧ Below w.heap.size w w' := by
  have hc := right_any (w := W4 w (some ⟨p, 0, none⟩) base r A c 0) (A := A) (c := c) r (by omega)
  have hnb : 0 ≤ need (r.bytes.length : Int) ∧ need (r.bytes.length : Int) ≤ 65536 := by unfold need; rw [if_neg (by omega)]; split <;> omega
  rw [he] at hc
  have hn := h.1.hi
  have HO := hid ho
  unfold recV at hc ⊢
  go_enter Try.func22, Try.ntmps22
  go_wp2_with fail
  refine hc.mono ?_
  rintro e w1 ⟨rfl, hB⟩
  have hI : In4 w1 w.heap.size (some ⟨p, 0, none⟩) base r A c 0 := (W4_in w _ base r A c 0).step (fun k h1 h2 => hB.block k (by simp; omega))
  have hD1 : PDisk w1 ok p D := h.step (fun k _ hk => (hB.block k (by simp; omega)).trans ((W4_below w _ base r A c 0).block k hk))
  have s00 := hI.s3.1
  have s01 := hI.s3.2
  go_wp2_with fail
  refine wp_region_plan [] (.take 0 (.take 1 (.take 2 (.take 3 (.take 4 (.run 5 (.take 6 (.take 7 (.take 8 (.take 9 (.take 10 (.take 11 (.take 12 (.take 13 (.take 16 (.take 18 (.run 14 (.take 15 (.run 17 (.take 19 (.take 20 (.take 21 .done)))))))))))))))))))))) (In4.S w.heap.size (some ⟨p, 0, none⟩) base r A c) (by kernel_rfl) (by kernel_rfl) (fun c a d v w h => by cases d <;> exact h) hI.s ?_
  have hS := hI.s
  have hfin := (W4_below w (some ⟨p, 0, none⟩) base r A c 0).trans (hB.mono (by simp; omega))
  clear hB hc hI
  have hSd : In4.S w.heap.size (some ⟨p, 0, none⟩) base r A c w1.drew := hS
  have hDd : PDisk w1.drew ok p D := hD1.step (fun _ _ _ => rfl)
  -- have fin : ∀ x, ((results Try.f22 x).run Try.prog (w1.setCell ⟨w.heap.size + 1 + 1 + 1, 0, none⟩ (.int .i64 60)) = .ok (.int .i64 60) (w1.setCell ⟨w.heap.size + 1 + 1 + 1, 0, none⟩ (.int .i64 60))) := fun x => by sorry
  by_cases h1 : base < 0
  · iterate 3 (apply plan_take rfl rfl; (case hy => (intro w' hS; obtain ⟨s0, s1, s2, s3⟩ := hS; go_simp; try exact rfl)); go_simp)
    iterate 2 (apply plan_skip rfl rfl; go_simp)
    refine plan_run_off rfl rfl hSd ?_
    go_simp
    (apply plan_skip rfl rfl; go_simp)
    iterate 2 (apply plan_take rfl rfl; (case hy => (intro w' hS; obtain ⟨s0, s1, s2, s3⟩ := hS; go_simp; try exact rfl)); go_simp)
    iterate 7 (apply plan_skip rfl rfl; go_simp)
    refine plan_run_off rfl rfl hSd ?_
    go_simp
    (apply plan_skip rfl rfl; go_simp)
    refine plan_run_off rfl rfl hSd ?_
    go_simp
    iterate 2 (apply plan_skip rfl rfl; go_simp)
    (apply plan_take rfl rfl; (case hy => (intro w' hS; obtain ⟨s0, s1, s2, s3⟩ := hS; go_simp; try exact rfl)); go_simp)
    refine plan_done ?_
    go_wp2
    refine bodyPost_ret (errno_ret rfl _ _ (w.heap.size + 1 + 1 + 1) 60 rfl (by go_simp)) rfl ⟨rfl, ?_⟩
    exact hfin.drew.setCell (by simp; omega) _
  have h1' : 0 ≤ base := by omega
  by_cases h2 : (D.n : Int) < base
  · iterate 5 (apply plan_take rfl rfl; (case hy => (intro w' hS; obtain ⟨s0, s1, s2, s3⟩ := hS; go_simp; try exact rfl)); go_simp)
    refine plan_run_on rfl rfl (fun K hK => ?_)
    go_simp
    refine (blocks_any hDd).mono ?_
    rintro e w2 ⟨rfl, rfl⟩
    refine hK _ _ _ (fun _ h => h) hSd ?_
    clear hK K
    go_simp
    iterate 3 (apply plan_take rfl rfl; (case hy => (intro w' hS; obtain ⟨s0, s1, s2, s3⟩ := hS; go_simp; try exact rfl)); go_simp)
    iterate 7 (apply plan_skip rfl rfl; go_simp)
    refine plan_run_off rfl rfl hSd ?_
    go_simp
    (apply plan_skip rfl rfl; go_simp)
    refine plan_run_off rfl rfl hSd ?_
    go_simp
    iterate 2 (apply plan_skip rfl rfl; go_simp)
    (apply plan_take rfl rfl; (case hy => (intro w' hS; obtain ⟨s0, s1, s2, s3⟩ := hS; go_simp; try exact rfl)); go_simp)
    refine plan_done ?_
    go_wp2
    refine bodyPost_ret (errno_ret rfl _ _ (w.heap.size + 1 + 1 + 1) 60 rfl (by go_simp)) rfl ⟨rfl, ?_⟩
    exact hfin.drew.setCell (by simp; omega) _
  have h3 : (D.n : Int) - base < r.at_ + need (r.bytes.length : Int) := by
    have := HO.out
    unfold outB at this
    simp only [Bool.or_eq_true, decide_eq_true_eq] at this
    omega
  have hw1 : IntKind.i64.wrap (r.at_ + need (r.bytes.length : Int)) = r.at_ + need (r.bytes.length : Int) := by rw [IntKind.wrap_i64]; omega
  have hw2 : IntKind.i64.wrap ((D.n : Int) - base) = (D.n : Int) - base := by rw [IntKind.wrap_i64]; omega
  iterate 5 (apply plan_take rfl rfl; (case hy => (intro w' hS; obtain ⟨s0, s1, s2, s3⟩ := hS; go_simp; try exact rfl)); go_simp)
  refine plan_run_on rfl rfl (fun K hK => ?_)
  go_simp
  refine (blocks_any hDd).mono ?_
  rintro e w2 ⟨rfl, rfl⟩
  refine hK _ _ _ (fun _ h => h) hSd ?_
  clear hK K
  go_simp
  iterate 10 (apply plan_take rfl rfl; (case hy => (intro w' hS; obtain ⟨s0, s1, s2, s3⟩ := hS; go_simp; try exact rfl)); go_simp)
  refine plan_run_on rfl rfl (fun K hK => ?_)
  go_simp
  refine (need_any (r.bytes.length : Int) (by omega)).mono ?_
  rintro e w2 ⟨rfl, rfl⟩
  refine hK _ _ _ (fun _ h => h) hSd ?_
  clear hK K
  go_simp
  (apply plan_take rfl rfl; (case hy => (intro w' hS; obtain ⟨s0, s1, s2, s3⟩ := hS; go_simp; try exact rfl)); go_simp)
  refine plan_run_on rfl rfl (fun K hK => ?_)
  go_simp
  refine (blocks_any hDd).mono ?_
  rintro e w2 ⟨rfl, rfl⟩
  refine hK _ _ _ (fun _ h => h) hSd ?_
  clear hK K
  go_simp
  iterate 3 (apply plan_take rfl rfl; (case hy => (intro w' hS; obtain ⟨s0, s1, s2, s3⟩ := hS; go_simp; try exact rfl)); go_simp)
  refine plan_done ?_
  go_wp2
  refine bodyPost_ret (errno_ret rfl _ _ (w.heap.size + 1 + 1 + 1) 60 rfl (by go_simp)) rfl ⟨rfl, ?_⟩
  exact hfin.drew.setCell (by simp; omega) _
end Go.Proofs.Ytekhmkfiepnnkaa
