/- foundrylaw03.asked: both readers tell the same, and are in the same state behind it. -/
import Derived.Test.YtiecljhgpbifjaaWireS
import Derived.Test.YtiecljhgpbifjaaWireO
set_option linter.unusedVariables false
set_option linter.unusedSimpArgs false
namespace Go.Proofs.Ytiecljhgpbifjaa
open Go.RowKit Go.Proofs.YtiecljhgpbifjaaW.PrintWords

/-- The state behind what is asked for. -/
def St.asks (s : St) (o : OQ) : St :=
  if o.kind = 1 then s.took (oNum 1 s.b) else if o.kind = 2 then s.took (oBool s.b) else if o.kind = 3 then s.took (oNum 2 s.b) else if o.kind = 4 then s.took (oInt s.b) else if o.kind = 5 then s.took (oNum 8 s.b)
  else if o.kind = 6 then s.took (oText o.most s.b) else if o.kind = 7 then s.took (oRaw o.most s.b) else if o.kind = 8 then s.took (oInts o.most s.b) else if o.kind = 9 then s.took (oTexts o.most o.long s.b) else if o.kind = 10 then s.fail o.most else s
/-- How asked ends. -/
def AskR (okp okq : Nat → Prop) (pv : Option Nat) (q : Nat) (w : World) (s : St) (e : Ending) (w' : World) : Prop :=
  e = .returned (.bool true) ∧ RdAny w' okp pv s ∧ PFt w' okq q s ∧ Chg (fun k => some k = pv ∨ k = q) w w'
theorem chg_pq {pv : Option Nat} {q : Nat} {w w1 w2 w3 : World} (h1 : Below w.heap.size w w1) (h2 : Chg (fun k => some k = pv) w1 w2) (h3 : Chg (fun k => k = q) w2 w3) : Chg (fun k => some k = pv ∨ k = q) w w3 :=
  ((Chg.of_below h1 _).then_ h2 (fun _ h => .inl (.inl h))).then_ h3 (fun _ h => .inl (.inr h))
/-- The two readers, apart. -/
structure Two (w : World) (okp okq : Nat → Prop) (pv : Option Nat) (q : Nat) (s : St) : Prop where
  rd : RdAny w okp pv s
  rf : PFt w okq q s
  hp : ∀ k, okp k → k < w.heap.size
  hq : ∀ k, okq k → k < w.heap.size
  hap : apart okp okq
theorem Two.below {w w1 : World} {okp okq : Nat → Prop} {pv : Option Nat} {q : Nat} {s : St} (h : Two w okp okq pv q s) (hb : Below w.heap.size w w1) : Two w1 okp okq pv q s :=
  ⟨h.rd.below hb, h.rf.below hb, fun k hk => Nat.lt_of_lt_of_le (h.hp k hk) hb.size, fun k hk => Nat.lt_of_lt_of_le (h.hq k hk) hb.size, h.hap⟩
theorem Two.left {w w1 : World} {okp okq : Nat → Prop} {pv : Option Nat} {q : Nat} {s : St} (h : Two w okp okq pv q s) (hc : Chg (fun k => some k = pv) w w1) : PFt w1 okq q s :=
  h.rf.step (fun k hk hlt => hc.block k hlt (fun e => h.hap k (h.rd.okp k e) hk))
theorem PFt.okq {w : World} {ok : Nat → Prop} {q : Nat} {s : St} (h : PFt w ok q s) : ok q := by
  obtain ⟨_, _, h1, _⟩ := h; exact h1.okp
theorem Two.right {w w1 w2 : World} {okp okq : Nat → Prop} {pv : Option Nat} {q : Nat} {s s' : St} (h : Two w okp okq pv q s) (hr : RdAny w1 okp pv s') (hc : Chg (fun k => k = q) w1 w2) : RdAny w2 okp pv s' :=
  hr.step (fun k hk hlt => hc.block k hlt (fun e => h.hap k hk (e ▸ h.rf.okq)))

set_option maxRecDepth 100000 in
set_option maxHeartbeats 4000000 in
theorem asked1 {w : World} {okp okq : Nat → Prop} {pv : Option Nat} {q : Nat} {s : St} {A A2 : Option Addr} {c c2 : Nat} (o : OQ) (h : Two w okp okq pv q s) (hkind : o.kind = 1) :
  Calls Try.prog 15 #[rptr pv, .pointer (some ⟨q, 0, none⟩), oqAgg o A c A2 c2] w (AskR okp okq pv q w (s.took (oNum 1 s.b))) := by
  have k1 : (o.kind == 1) = true := by rw [hkind]; decide
  have hB1 := below_alloc (Below.refl w.heap.size w) (oqObj o A c A2 c2)
  have h1 := h.below hB1
  have hpo := h.hp
  have hqo := h.rf.lt
  unfold oqObj at hB1 h1
  clear hkind h
  go_enter Try.func15, Try.ntmps15
  go_wp2_with fail
  refine (xByte_any h1.rd h1.hp).mono ?_
  rintro e w2 ⟨u, rfl, rfl, h2, c2'⟩
  have hf2 := h1.left c2'
  go_wp2_with fail
  refine (fbyte_any hf2).mono ?_
  rintro e w3 ⟨u, rfl, rfl, hf3, c3'⟩
  have h3 := h1.right h2 c3'
  have HF := hid (And.intro h3 (And.intro hf3 (chg_pq hB1 c2' c3')))
  clear h2 c2' hf2 hf3 c3' h3 h1
  generalize s.out (oNum 1 s.b) 0 = x
  go_wp2
  go_ret
  exact ⟨by simp, HF.out⟩

set_option maxRecDepth 100000 in
set_option maxHeartbeats 4000000 in
theorem asked2 {w : World} {okp okq : Nat → Prop} {pv : Option Nat} {q : Nat} {s : St} {A A2 : Option Addr} {c c2 : Nat} (o : OQ) (h : Two w okp okq pv q s) (hkind : o.kind = 2) :
  Calls Try.prog 15 #[rptr pv, .pointer (some ⟨q, 0, none⟩), oqAgg o A c A2 c2] w (AskR okp okq pv q w (s.took (oBool s.b))) := by
  have k1 : (o.kind == 1) = false := by rw [hkind]; decide
  have k2 : (o.kind == 2) = true := by rw [hkind]; decide
  have hB1 := below_alloc (Below.refl w.heap.size w) (oqObj o A c A2 c2)
  have h1 := h.below hB1
  have hpo := h.hp
  have hqo := h.rf.lt
  unfold oqObj at hB1 h1
  clear hkind h
  go_enter Try.func15, Try.ntmps15
  go_wp2_with fail
  refine (xBool_any h1.rd h1.hp).mono ?_
  rintro e w2 ⟨u, rfl, rfl, h2, c2'⟩
  have hf2 := h1.left c2'
  go_wp2_with fail
  refine (fbool_any hf2).mono ?_
  rintro e w3 ⟨u, rfl, rfl, hf3, c3'⟩
  have h3 := h1.right h2 c3'
  have HF := hid (And.intro h3 (And.intro hf3 (chg_pq hB1 c2' c3')))
  clear h2 c2' hf2 hf3 c3' h3 h1
  generalize s.out (oBool s.b) false = x
  go_wp2
  go_ret
  exact ⟨by simp, HF.out⟩

set_option maxRecDepth 100000 in
set_option maxHeartbeats 4000000 in
theorem asked3 {w : World} {okp okq : Nat → Prop} {pv : Option Nat} {q : Nat} {s : St} {A A2 : Option Addr} {c c2 : Nat} (o : OQ) (h : Two w okp okq pv q s) (hkind : o.kind = 3) :
  Calls Try.prog 15 #[rptr pv, .pointer (some ⟨q, 0, none⟩), oqAgg o A c A2 c2] w (AskR okp okq pv q w (s.took (oNum 2 s.b))) := by
  have k1 : (o.kind == 1) = false := by rw [hkind]; decide
  have k2 : (o.kind == 2) = false := by rw [hkind]; decide
  have k3 : (o.kind == 3) = true := by rw [hkind]; decide
  have hB1 := below_alloc (Below.refl w.heap.size w) (oqObj o A c A2 c2)
  have h1 := h.below hB1
  have hpo := h.hp
  have hqo := h.rf.lt
  unfold oqObj at hB1 h1
  clear hkind h
  go_enter Try.func15, Try.ntmps15
  go_wp2_with fail
  refine (xShort_any h1.rd h1.hp).mono ?_
  rintro e w2 ⟨u, rfl, rfl, h2, c2'⟩
  have hf2 := h1.left c2'
  go_wp2_with fail
  refine (fshort_any hf2).mono ?_
  rintro e w3 ⟨u, rfl, rfl, hf3, c3'⟩
  have h3 := h1.right h2 c3'
  have HF := hid (And.intro h3 (And.intro hf3 (chg_pq hB1 c2' c3')))
  clear h2 c2' hf2 hf3 c3' h3 h1
  generalize s.out (oNum 2 s.b) 0 = x
  go_wp2
  go_ret
  exact ⟨by simp, HF.out⟩

set_option maxRecDepth 100000 in
set_option maxHeartbeats 4000000 in
theorem asked4 {w : World} {okp okq : Nat → Prop} {pv : Option Nat} {q : Nat} {s : St} {A A2 : Option Addr} {c c2 : Nat} (o : OQ) (h : Two w okp okq pv q s) (hkind : o.kind = 4) :
  Calls Try.prog 15 #[rptr pv, .pointer (some ⟨q, 0, none⟩), oqAgg o A c A2 c2] w (AskR okp okq pv q w (s.took (oInt s.b))) := by
  have k1 : (o.kind == 1) = false := by rw [hkind]; decide
  have k2 : (o.kind == 2) = false := by rw [hkind]; decide
  have k3 : (o.kind == 3) = false := by rw [hkind]; decide
  have k4 : (o.kind == 4) = true := by rw [hkind]; decide
  have hB1 := below_alloc (Below.refl w.heap.size w) (oqObj o A c A2 c2)
  have h1 := h.below hB1
  have hpo := h.hp
  have hqo := h.rf.lt
  unfold oqObj at hB1 h1
  clear hkind h
  go_enter Try.func15, Try.ntmps15
  go_wp2_with fail
  refine (xInt_any h1.rd h1.hp).mono ?_
  rintro e w2 ⟨u, rfl, rfl, h2, c2'⟩
  have hf2 := h1.left c2'
  go_wp2_with fail
  refine (fint_any hf2).mono ?_
  rintro e w3 ⟨u, rfl, rfl, hf3, c3'⟩
  have h3 := h1.right h2 c3'
  have HF := hid (And.intro h3 (And.intro hf3 (chg_pq hB1 c2' c3')))
  clear h2 c2' hf2 hf3 c3' h3 h1
  generalize s.out (oInt s.b) 0 = x
  go_wp2
  go_ret
  exact ⟨by simp, HF.out⟩

set_option maxRecDepth 100000 in
set_option maxHeartbeats 4000000 in
theorem asked5 {w : World} {okp okq : Nat → Prop} {pv : Option Nat} {q : Nat} {s : St} {A A2 : Option Addr} {c c2 : Nat} (o : OQ) (h : Two w okp okq pv q s) (hkind : o.kind = 5) :
  Calls Try.prog 15 #[rptr pv, .pointer (some ⟨q, 0, none⟩), oqAgg o A c A2 c2] w (AskR okp okq pv q w (s.took (oNum 8 s.b))) := by
  have k1 : (o.kind == 1) = false := by rw [hkind]; decide
  have k2 : (o.kind == 2) = false := by rw [hkind]; decide
  have k3 : (o.kind == 3) = false := by rw [hkind]; decide
  have k4 : (o.kind == 4) = false := by rw [hkind]; decide
  have k5 : (o.kind == 5) = true := by rw [hkind]; decide
  have hB1 := below_alloc (Below.refl w.heap.size w) (oqObj o A c A2 c2)
  have h1 := h.below hB1
  have hpo := h.hp
  have hqo := h.rf.lt
  unfold oqObj at hB1 h1
  clear hkind h
  go_enter Try.func15, Try.ntmps15
  go_wp2_with fail
  refine (xLong_any h1.rd h1.hp).mono ?_
  rintro e w2 ⟨u, rfl, rfl, h2, c2'⟩
  have hf2 := h1.left c2'
  go_wp2_with fail
  refine (flong_any hf2).mono ?_
  rintro e w3 ⟨u, rfl, rfl, hf3, c3'⟩
  have h3 := h1.right h2 c3'
  have HF := hid (And.intro h3 (And.intro hf3 (chg_pq hB1 c2' c3')))
  clear h2 c2' hf2 hf3 c3' h3 h1
  generalize s.out (oNum 8 s.b) 0 = x
  go_wp2
  go_ret
  exact ⟨by simp, HF.out⟩

set_option maxRecDepth 100000 in
set_option maxHeartbeats 4000000 in
theorem asked6 {w : World} {okp okq : Nat → Prop} {pv : Option Nat} {q : Nat} {s : St} {A A2 : Option Addr} {c c2 : Nat} (o : OQ) (h : Two w okp okq pv q s) (hkind : o.kind = 6) :
  Calls Try.prog 15 #[rptr pv, .pointer (some ⟨q, 0, none⟩), oqAgg o A c A2 c2] w (AskR okp okq pv q w (s.took (oText o.most s.b))) := by
  have k1 : (o.kind == 1) = false := by rw [hkind]; decide
  have k2 : (o.kind == 2) = false := by rw [hkind]; decide
  have k3 : (o.kind == 3) = false := by rw [hkind]; decide
  have k4 : (o.kind == 4) = false := by rw [hkind]; decide
  have k5 : (o.kind == 5) = false := by rw [hkind]; decide
  have k6 : (o.kind == 6) = true := by rw [hkind]; decide
  have hB1 := below_alloc (Below.refl w.heap.size w) (oqObj o A c A2 c2)
  have h1 := h.below hB1
  have hpo := h.hp
  have hqo := h.rf.lt
  unfold oqObj at hB1 h1
  clear hkind h
  have hd : Two (w.alloc (.cells #[.int .i64 o.kind, .int .u64 o.n, .string o.s, .slice A o.l.length c, .slice A2 o.t.length c2, .int .i64 o.most, .int .i64 o.long] 32)).drew okp okq pv q s := h1.below (below_drew (Below.refl _ _))
  have s5 : (w.alloc (.cells #[.int .i64 o.kind, .int .u64 o.n, .string o.s, .slice A o.l.length c, .slice A2 o.t.length c2, .int .i64 o.most, .int .i64 o.long] 32)).drew.cell? ⟨w.heap.size, 5, none⟩ = some (.int .i64 o.most) := by go_simp
  have s6 : (w.alloc (.cells #[.int .i64 o.kind, .int .u64 o.n, .string o.s, .slice A o.l.length c, .slice A2 o.t.length c2, .int .i64 o.most, .int .i64 o.long] 32)).drew.cell? ⟨w.heap.size, 6, none⟩ = some (.int .i64 o.long) := by go_simp
  have hBd : Below w.heap.size w (w.alloc (.cells #[.int .i64 o.kind, .int .u64 o.n, .string o.s, .slice A o.l.length c, .slice A2 o.t.length c2, .int .i64 o.most, .int .i64 o.long] 32)).drew := below_drew hB1
  go_enter Try.func15, Try.ntmps15
  go_wp2_with fail
  refine wp_region_plan [] (.take 0 (.take 1 (.take 2 (.take 4 (.take 5 (.take 6 (.run 3 (.run 7 (.take 8 (.take 9 .done)))))))))) (fun w' => w'.cell? ⟨w.heap.size, 5, none⟩ = some (.int .i64 o.most) ∧ w'.cell? ⟨w.heap.size, 6, none⟩ = some (.int .i64 o.long)) (by kernel_rfl) (by kernel_rfl) (fun c a d v w h => by cases d <;> exact h) ⟨s5, s6⟩ ?_
  iterate 6 (apply plan_take rfl rfl; (case hy => (intro w' hS; obtain ⟨s0, s1⟩ := hS; go_simp; try exact rfl)); go_simp)
  refine plan_run_on rfl rfl (fun K hK => ?_)
  go_simp
  refine (xText_any o.most hd.rd hd.hp).mono ?_
  rintro e w2 ⟨u, rfl, rfl, h2, c2'⟩
  have hf2 := hd.left c2'
  have hne : ¬ some w.heap.size = pv := fun e => by have := hpo _ (hd.rd.okp _ e); omega
  have u5 := c2'.cell_ s5 hne
  have u6 := c2'.cell_ s6 hne
  have hq2 : ∀ k, okq k → k < w2.heap.size := fun k hk => Nat.lt_of_lt_of_le (hd.hq k hk) c2'.size
  refine hK _ _ _ (fun _ h => h) ⟨u5, u6⟩ ?_
  clear hK K
  refine plan_run_on rfl rfl (fun K hK => ?_)
  go_simp
  refine (ftext_any o.most hf2).mono ?_
  rintro e w3 ⟨u, rfl, rfl, hf3, c3'⟩
  have h3 := hd.right h2 c3'
  have hne2 : ¬ w.heap.size = q := fun e => by omega
  have t5 := c3'.cell_ u5 hne2
  have t6 := c3'.cell_ u6 hne2
  have HF := hid (And.intro h3 (And.intro hf3 (chg_pq hBd c2' c3')))
  refine hK _ _ _ (fun _ h => h) ⟨t5, t6⟩ ?_
  clear hK K
  clear h2 c2' hf2 hf3 c3' h3 h1 hd
  generalize s.out (oText o.most s.b) (strOfNums []) = x
  go_simp
  iterate 2 (apply plan_take rfl rfl; (case hy => (intro w' hS; clear hS; go_simp; try exact rfl)); go_simp)
  refine plan_done ?_
  go_wp2
  go_ret
  exact ⟨by simp, HF.out⟩

set_option maxRecDepth 100000 in
set_option maxHeartbeats 4000000 in
theorem asked7 {w : World} {okp okq : Nat → Prop} {pv : Option Nat} {q : Nat} {s : St} {A A2 : Option Addr} {c c2 : Nat} (o : OQ) (h : Two w okp okq pv q s) (hkind : o.kind = 7) :
  Calls Try.prog 15 #[rptr pv, .pointer (some ⟨q, 0, none⟩), oqAgg o A c A2 c2] w (AskR okp okq pv q w (s.took (oRaw o.most s.b))) := by
  have k1 : (o.kind == 1) = false := by rw [hkind]; decide
  have k2 : (o.kind == 2) = false := by rw [hkind]; decide
  have k3 : (o.kind == 3) = false := by rw [hkind]; decide
  have k4 : (o.kind == 4) = false := by rw [hkind]; decide
  have k5 : (o.kind == 5) = false := by rw [hkind]; decide
  have k6 : (o.kind == 6) = false := by rw [hkind]; decide
  have k7 : (o.kind == 7) = true := by rw [hkind]; decide
  have hB1 := below_alloc (Below.refl w.heap.size w) (oqObj o A c A2 c2)
  have h1 := h.below hB1
  have hpo := h.hp
  have hqo := h.rf.lt
  unfold oqObj at hB1 h1
  clear hkind h
  have hd : Two (w.alloc (.cells #[.int .i64 o.kind, .int .u64 o.n, .string o.s, .slice A o.l.length c, .slice A2 o.t.length c2, .int .i64 o.most, .int .i64 o.long] 32)).drew okp okq pv q s := h1.below (below_drew (Below.refl _ _))
  have s5 : (w.alloc (.cells #[.int .i64 o.kind, .int .u64 o.n, .string o.s, .slice A o.l.length c, .slice A2 o.t.length c2, .int .i64 o.most, .int .i64 o.long] 32)).drew.cell? ⟨w.heap.size, 5, none⟩ = some (.int .i64 o.most) := by go_simp
  have s6 : (w.alloc (.cells #[.int .i64 o.kind, .int .u64 o.n, .string o.s, .slice A o.l.length c, .slice A2 o.t.length c2, .int .i64 o.most, .int .i64 o.long] 32)).drew.cell? ⟨w.heap.size, 6, none⟩ = some (.int .i64 o.long) := by go_simp
  have hBd : Below w.heap.size w (w.alloc (.cells #[.int .i64 o.kind, .int .u64 o.n, .string o.s, .slice A o.l.length c, .slice A2 o.t.length c2, .int .i64 o.most, .int .i64 o.long] 32)).drew := below_drew hB1
  go_enter Try.func15, Try.ntmps15
  go_wp2_with fail
  refine wp_region_plan [] (.take 0 (.take 1 (.take 2 (.take 5 (.take 6 (.take 7 (.run 3 (.take 4 (.run 8 (.take 9 (.take 10 (.take 11 .done)))))))))))) (fun w' => w'.cell? ⟨w.heap.size, 5, none⟩ = some (.int .i64 o.most) ∧ w'.cell? ⟨w.heap.size, 6, none⟩ = some (.int .i64 o.long)) (by kernel_rfl) (by kernel_rfl) (fun c a d v w h => by cases d <;> exact h) ⟨s5, s6⟩ ?_
  iterate 6 (apply plan_take rfl rfl; (case hy => (intro w' hS; obtain ⟨s0, s1⟩ := hS; go_simp; try exact rfl)); go_simp)
  refine plan_run_on rfl rfl (fun K hK => ?_)
  go_simp
  refine (xRaw_any o.most hd.rd hd.hp).mono ?_
  rintro e w2 ⟨u, rfl, ⟨A5, d5, rfl, hR5⟩, h2, c2'⟩
  have hf2 := hd.left c2'
  have hne : ¬ some w.heap.size = pv := fun e => by have := hpo _ (hd.rd.okp _ e); omega
  have u5 := c2'.cell_ s5 hne
  have u6 := c2'.cell_ s6 hne
  have hq2 : ∀ k, okq k → k < w2.heap.size := fun k hk => Nat.lt_of_lt_of_le (hd.hq k hk) c2'.size
  have hsz : w2.heap.size ≥ (w.alloc (.cells #[.int .i64 o.kind, .int .u64 o.n, .string o.s, .slice A o.l.length c, .slice A2 o.t.length c2, .int .i64 o.most, .int .i64 o.long] 32)).drew.heap.size := c2'.size
  obtain ⟨A7, d7, he7, _, hK7⟩ := Kd.R_reads hR5
  injection he7 with q1 q2 q3
  subst q1
  subst q3
  refine hK (fun w' => (w'.cell? ⟨w.heap.size, 5, none⟩ = some (.int .i64 o.most) ∧ w'.cell? ⟨w.heap.size, 6, none⟩ = some (.int .i64 o.long)) ∧ KB.C w' A5 (s.out (oRaw o.most s.b) []).length (s.out (oRaw o.most s.b) [])) _ _ (fun _ h => h.1) ⟨⟨u5, u6⟩, hK7⟩ ?_
  clear hK K
  apply plan_take rfl rfl
  case hy =>
    rintro w' ⟨_, hC'⟩
    have hcv := conv_str (c := d5) hC'
    clear hC'
    go_simp
    try exact rfl
  go_simp
  refine plan_run_on rfl rfl (fun K hK => ?_)
  go_simp
  refine (fraw_any o.most hf2).mono ?_
  rintro e w3 ⟨u, rfl, ⟨A6, d6, rfl, hR6⟩, hf3, c3'⟩
  have h3 := hd.right h2 c3'
  have hne2 : ¬ w.heap.size = q := fun e => by omega
  have t5 := c3'.cell_ u5 hne2
  have t6 := c3'.cell_ u6 hne2
  have HF := hid (And.intro h3 (And.intro hf3 (chg_pq hBd c2' c3')))
  have hK8 : KB.C w3 A5 (s.out (oRaw o.most s.b) []).length (s.out (oRaw o.most s.b) []) := Kd.F_now (Kd.F_step (W1 := w3) (Kd.R_F hR5) (fun k hk hlt => c3'.block k hlt (fun e => by simp at hk; omega)))
  obtain ⟨A9, d9, he9, _, hK9⟩ := Kd.R_reads hR6
  injection he9 with q1 q2 q3
  subst q1
  subst q3
  refine hK (fun w' => ((w'.cell? ⟨w.heap.size, 5, none⟩ = some (.int .i64 o.most) ∧ w'.cell? ⟨w.heap.size, 6, none⟩ = some (.int .i64 o.long)) ∧ KB.C w' A5 (s.out (oRaw o.most s.b) []).length (s.out (oRaw o.most s.b) [])) ∧ KB.C w' A6 (s.out (oRaw o.most s.b) []).length (s.out (oRaw o.most s.b) [])) _ _ (fun _ h => h.1) ⟨⟨⟨t5, t6⟩, hK8⟩, hK9⟩ ?_
  clear hK K
  clear h2 c2' hf2 hf3 c3' h3 h1 hd hR5 hR6 hK7 hK8 hK9
  generalize s.out (oRaw o.most s.b) [] = x
  apply plan_take rfl rfl
  case hy =>
    rintro w' ⟨_, hC'⟩
    have hcv := conv_str (c := d6) hC'
    clear hC'
    go_simp
    try exact rfl
  go_simp
  iterate 2 (apply plan_take rfl rfl; (case hy => (intro w' hS; clear hS; go_simp; try exact rfl)); go_simp)
  refine plan_done ?_
  go_wp2
  go_ret
  exact ⟨by simp, HF.out⟩

set_option maxRecDepth 100000 in
set_option maxHeartbeats 4000000 in
theorem asked8 {w : World} {okp okq : Nat → Prop} {pv : Option Nat} {q : Nat} {s : St} {A A2 : Option Addr} {c c2 : Nat} (o : OQ) (h : Two w okp okq pv q s) (hkind : o.kind = 8) :
  Calls Try.prog 15 #[rptr pv, .pointer (some ⟨q, 0, none⟩), oqAgg o A c A2 c2] w (AskR okp okq pv q w (s.took (oInts o.most s.b))) := by
  have k1 : (o.kind == 1) = false := by rw [hkind]; decide
  have k2 : (o.kind == 2) = false := by rw [hkind]; decide
  have k3 : (o.kind == 3) = false := by rw [hkind]; decide
  have k4 : (o.kind == 4) = false := by rw [hkind]; decide
  have k5 : (o.kind == 5) = false := by rw [hkind]; decide
  have k6 : (o.kind == 6) = false := by rw [hkind]; decide
  have k7 : (o.kind == 7) = false := by rw [hkind]; decide
  have k8 : (o.kind == 8) = true := by rw [hkind]; decide
  have hB1 := below_alloc (Below.refl w.heap.size w) (oqObj o A c A2 c2)
  have h1 := h.below hB1
  have hpo := h.hp
  have hqo := h.rf.lt
  unfold oqObj at hB1 h1
  clear hkind h
  have hd : Two (w.alloc (.cells #[.int .i64 o.kind, .int .u64 o.n, .string o.s, .slice A o.l.length c, .slice A2 o.t.length c2, .int .i64 o.most, .int .i64 o.long] 32)).drew okp okq pv q s := h1.below (below_drew (Below.refl _ _))
  have s5 : (w.alloc (.cells #[.int .i64 o.kind, .int .u64 o.n, .string o.s, .slice A o.l.length c, .slice A2 o.t.length c2, .int .i64 o.most, .int .i64 o.long] 32)).drew.cell? ⟨w.heap.size, 5, none⟩ = some (.int .i64 o.most) := by go_simp
  have s6 : (w.alloc (.cells #[.int .i64 o.kind, .int .u64 o.n, .string o.s, .slice A o.l.length c, .slice A2 o.t.length c2, .int .i64 o.most, .int .i64 o.long] 32)).drew.cell? ⟨w.heap.size, 6, none⟩ = some (.int .i64 o.long) := by go_simp
  have hBd : Below w.heap.size w (w.alloc (.cells #[.int .i64 o.kind, .int .u64 o.n, .string o.s, .slice A o.l.length c, .slice A2 o.t.length c2, .int .i64 o.most, .int .i64 o.long] 32)).drew := below_drew hB1
  go_enter Try.func15, Try.ntmps15
  go_wp2_with fail
  refine wp_region_plan [] (.take 0 (.take 1 (.take 2 (.take 4 (.take 5 (.take 6 (.run 3 (.run 7 (.run 8 (.take 9 .done)))))))))) (fun w' => w'.cell? ⟨w.heap.size, 5, none⟩ = some (.int .i64 o.most) ∧ w'.cell? ⟨w.heap.size, 6, none⟩ = some (.int .i64 o.long)) (by kernel_rfl) (by kernel_rfl) (fun c a d v w h => by cases d <;> exact h) ⟨s5, s6⟩ ?_
  iterate 6 (apply plan_take rfl rfl; (case hy => (intro w' hS; obtain ⟨s0, s1⟩ := hS; go_simp; try exact rfl)); go_simp)
  refine plan_run_on rfl rfl (fun K hK => ?_)
  go_simp
  refine (xInts_any o.most hd.rd hd.hp).mono ?_
  rintro e w2 ⟨u, rfl, ⟨A5, d5, rfl, hR5⟩, h2, c2'⟩
  have hf2 := hd.left c2'
  have hne : ¬ some w.heap.size = pv := fun e => by have := hpo _ (hd.rd.okp _ e); omega
  have u5 := c2'.cell_ s5 hne
  have u6 := c2'.cell_ s6 hne
  have hq2 : ∀ k, okq k → k < w2.heap.size := fun k hk => Nat.lt_of_lt_of_le (hd.hq k hk) c2'.size
  refine hK _ _ _ (fun _ h => h) ⟨u5, u6⟩ ?_
  clear hK K
  refine plan_run_on rfl rfl (fun K hK => ?_)
  go_simp
  refine (fints_any o.most hf2 hq2).mono ?_
  rintro e w3 ⟨u, rfl, ⟨A6, d6, rfl, hR6⟩, hf3, c3'⟩
  have h3 := hd.right h2 c3'
  have hne2 : ¬ w.heap.size = q := fun e => by omega
  have t5 := c3'.cell_ u5 hne2
  have t6 := c3'.cell_ u6 hne2
  have hF5 := Kd.F_step (W1 := w3) (Kd.R_F hR5) (fun k hk hlt => c3'.block k hlt (fun e => by simp at hk; omega))
  obtain ⟨A9, d9, he9, _, hK9⟩ := Kd.R_reads hR6
  injection he9 with q1 q2 q3
  subst q1
  subst q3
  have hone := oneInts_any (c := d5) (d := d6) (Kd.F_now hF5) hK9
  have HF := hid (And.intro h3 (And.intro hf3 (chg_pq hBd c2' c3')))
  refine hK _ _ _ (fun _ h => h) ⟨t5, t6⟩ ?_
  clear hK K
  clear h2 c2' hf2 hf3 c3' h3 h1 hd hR5 hR6 hF5 hK9
  generalize s.out (oInts o.most s.b) [] = x at hone
  refine plan_run_on rfl rfl (fun K hK => ?_)
  go_simp
  refine hone.mono ?_
  rintro e w4 ⟨rfl, hB4⟩
  have hsz3 := HF.out.2.2.size
  refine hK _ _ _ (fun _ h => h) ⟨pw_cell_below hB4 t5, pw_cell_below hB4 t6⟩ ?_
  clear hK K hone
  have HG := hid (And.intro (HF.out.1.below hB4) (And.intro (HF.out.2.1.below hB4) (HF.out.2.2.same hB4)))
  clear HF hB4 t5 t6
  go_simp
  apply plan_take rfl rfl
  case hy => (intro w' hS; clear hS; go_simp; try exact rfl)
  go_simp
  refine plan_done ?_
  go_wp2
  go_ret
  exact ⟨rfl, HG.out⟩

set_option maxRecDepth 100000 in
set_option maxHeartbeats 4000000 in
theorem asked9 {w : World} {okp okq : Nat → Prop} {pv : Option Nat} {q : Nat} {s : St} {A A2 : Option Addr} {c c2 : Nat} (o : OQ) (h : Two w okp okq pv q s) (hkind : o.kind = 9) :
  Calls Try.prog 15 #[rptr pv, .pointer (some ⟨q, 0, none⟩), oqAgg o A c A2 c2] w (AskR okp okq pv q w (s.took (oTexts o.most o.long s.b))) := by
  have k1 : (o.kind == 1) = false := by rw [hkind]; decide
  have k2 : (o.kind == 2) = false := by rw [hkind]; decide
  have k3 : (o.kind == 3) = false := by rw [hkind]; decide
  have k4 : (o.kind == 4) = false := by rw [hkind]; decide
  have k5 : (o.kind == 5) = false := by rw [hkind]; decide
  have k6 : (o.kind == 6) = false := by rw [hkind]; decide
  have k7 : (o.kind == 7) = false := by rw [hkind]; decide
  have k8 : (o.kind == 8) = false := by rw [hkind]; decide
  have k9 : (o.kind == 9) = true := by rw [hkind]; decide
  have hB1 := below_alloc (Below.refl w.heap.size w) (oqObj o A c A2 c2)
  have h1 := h.below hB1
  have hpo := h.hp
  have hqo := h.rf.lt
  unfold oqObj at hB1 h1
  clear hkind h
  have hd : Two (w.alloc (.cells #[.int .i64 o.kind, .int .u64 o.n, .string o.s, .slice A o.l.length c, .slice A2 o.t.length c2, .int .i64 o.most, .int .i64 o.long] 32)).drew okp okq pv q s := h1.below (below_drew (Below.refl _ _))
  have s5 : (w.alloc (.cells #[.int .i64 o.kind, .int .u64 o.n, .string o.s, .slice A o.l.length c, .slice A2 o.t.length c2, .int .i64 o.most, .int .i64 o.long] 32)).drew.cell? ⟨w.heap.size, 5, none⟩ = some (.int .i64 o.most) := by go_simp
  have s6 : (w.alloc (.cells #[.int .i64 o.kind, .int .u64 o.n, .string o.s, .slice A o.l.length c, .slice A2 o.t.length c2, .int .i64 o.most, .int .i64 o.long] 32)).drew.cell? ⟨w.heap.size, 6, none⟩ = some (.int .i64 o.long) := by go_simp
  have hBd : Below w.heap.size w (w.alloc (.cells #[.int .i64 o.kind, .int .u64 o.n, .string o.s, .slice A o.l.length c, .slice A2 o.t.length c2, .int .i64 o.most, .int .i64 o.long] 32)).drew := below_drew hB1
  go_enter Try.func15, Try.ntmps15
  go_wp2_with fail
  refine wp_region_plan [] (.take 0 (.take 1 (.take 2 (.take 3 (.take 4 (.take 6 (.take 7 (.take 8 (.take 9 (.take 10 (.run 5 (.run 11 (.run 12 (.take 13 .done)))))))))))))) (fun w' => w'.cell? ⟨w.heap.size, 5, none⟩ = some (.int .i64 o.most) ∧ w'.cell? ⟨w.heap.size, 6, none⟩ = some (.int .i64 o.long)) (by kernel_rfl) (by kernel_rfl) (fun c a d v w h => by cases d <;> exact h) ⟨s5, s6⟩ ?_
  iterate 10 (apply plan_take rfl rfl; (case hy => (intro w' hS; obtain ⟨s0, s1⟩ := hS; go_simp; try exact rfl)); go_simp)
  refine plan_run_on rfl rfl (fun K hK => ?_)
  go_simp
  refine (xTexts_any o.most o.long hd.rd hd.hp).mono ?_
  rintro e w2 ⟨u, rfl, ⟨A5, d5, rfl, hR5⟩, h2, c2'⟩
  have hf2 := hd.left c2'
  have hne : ¬ some w.heap.size = pv := fun e => by have := hpo _ (hd.rd.okp _ e); omega
  have u5 := c2'.cell_ s5 hne
  have u6 := c2'.cell_ s6 hne
  have hq2 : ∀ k, okq k → k < w2.heap.size := fun k hk => Nat.lt_of_lt_of_le (hd.hq k hk) c2'.size
  refine hK _ _ _ (fun _ h => h) ⟨u5, u6⟩ ?_
  clear hK K
  refine plan_run_on rfl rfl (fun K hK => ?_)
  go_simp
  refine (ftexts_any o.most o.long hf2 hq2).mono ?_
  rintro e w3 ⟨u, rfl, ⟨A6, d6, rfl, hR6⟩, hf3, c3'⟩
  have h3 := hd.right h2 c3'
  have hne2 : ¬ w.heap.size = q := fun e => by omega
  have t5 := c3'.cell_ u5 hne2
  have t6 := c3'.cell_ u6 hne2
  have hF5 := Kd.F_step (W1 := w3) (Kd.R_F hR5) (fun k hk hlt => c3'.block k hlt (fun e => by simp at hk; omega))
  obtain ⟨A9, d9, he9, _, hK9⟩ := Kd.R_reads hR6
  injection he9 with q1 q2 q3
  subst q1
  subst q3
  have hone := oneTexts_any (c := d5) (d := d6) (Kd.F_now hF5) hK9
  have HF := hid (And.intro h3 (And.intro hf3 (chg_pq hBd c2' c3')))
  refine hK _ _ _ (fun _ h => h) ⟨t5, t6⟩ ?_
  clear hK K
  clear h2 c2' hf2 hf3 c3' h3 h1 hd hR5 hR6 hF5 hK9
  generalize s.out (oTexts o.most o.long s.b) [] = x at hone
  refine plan_run_on rfl rfl (fun K hK => ?_)
  go_simp
  refine hone.mono ?_
  rintro e w4 ⟨rfl, hB4⟩
  have hsz3 := HF.out.2.2.size
  refine hK _ _ _ (fun _ h => h) ⟨pw_cell_below hB4 t5, pw_cell_below hB4 t6⟩ ?_
  clear hK K hone
  have HG := hid (And.intro (HF.out.1.below hB4) (And.intro (HF.out.2.1.below hB4) (HF.out.2.2.same hB4)))
  clear HF hB4 t5 t6
  go_simp
  apply plan_take rfl rfl
  case hy => (intro w' hS; clear hS; go_simp; try exact rfl)
  go_simp
  refine plan_done ?_
  go_wp2
  go_ret
  exact ⟨rfl, HG.out⟩

set_option maxRecDepth 100000 in
set_option maxHeartbeats 4000000 in
theorem asked10 {w : World} {okp okq : Nat → Prop} {pv : Option Nat} {q : Nat} {s : St} {A A2 : Option Addr} {c c2 : Nat} (o : OQ) (h : Two w okp okq pv q s) (hkind : o.kind = 10) :
  Calls Try.prog 15 #[rptr pv, .pointer (some ⟨q, 0, none⟩), oqAgg o A c A2 c2] w (AskR okp okq pv q w (s.fail o.most)) := by
  have k1 : (o.kind == 1) = false := by rw [hkind]; decide
  have k2 : (o.kind == 2) = false := by rw [hkind]; decide
  have k3 : (o.kind == 3) = false := by rw [hkind]; decide
  have k4 : (o.kind == 4) = false := by rw [hkind]; decide
  have k5 : (o.kind == 5) = false := by rw [hkind]; decide
  have k6 : (o.kind == 6) = false := by rw [hkind]; decide
  have k7 : (o.kind == 7) = false := by rw [hkind]; decide
  have k8 : (o.kind == 8) = false := by rw [hkind]; decide
  have k9 : (o.kind == 9) = false := by rw [hkind]; decide
  have k10 : (o.kind == 10) = true := by rw [hkind]; decide
  have hB1 := below_alloc (Below.refl w.heap.size w) (oqObj o A c A2 c2)
  have h1 := h.below hB1
  have hpo := h.hp
  have hqo := h.rf.lt
  unfold oqObj at hB1 h1
  clear hkind h
  go_enter Try.func15, Try.ntmps15
  go_wp2_with fail
  refine (xFail_any o.most h1.rd).mono ?_
  rintro e w2 ⟨rfl, h2, c2'⟩
  have hf2 := h1.left c2'
  have hcell : w2.cell? ⟨w.heap.size, 5, none⟩ = some (.int .i64 o.most) := c2'.cell_ (by go_simp) (fun e => by have := hpo _ (h1.rd.okp _ e); dsimp only at this; omega)
  go_wp2_with fail
  refine (ffail_any o.most hf2).mono ?_
  rintro e w3 ⟨rfl, hf3, c3'⟩
  have h3 := h1.right h2 c3'
  have HF := hid (And.intro h3 (And.intro hf3 (chg_pq hB1 c2' c3')))
  clear h2 c2' hf2 hf3 c3' h3 h1
  go_wp2
  go_ret
  exact ⟨rfl, HF.out⟩

set_option maxRecDepth 100000 in
set_option maxHeartbeats 4000000 in
theorem asked11 {w : World} {okp okq : Nat → Prop} {pv : Option Nat} {q : Nat} {s : St} {A A2 : Option Addr} {c c2 : Nat} (o : OQ) (h : Two w okp okq pv q s) (hkind : ¬ (1 ≤ o.kind ∧ o.kind ≤ 10)) :
  Calls Try.prog 15 #[rptr pv, .pointer (some ⟨q, 0, none⟩), oqAgg o A c A2 c2] w (AskR okp okq pv q w (s)) := by
  have k1 : (o.kind == 1) = false := by simp; omega
  have k2 : (o.kind == 2) = false := by simp; omega
  have k3 : (o.kind == 3) = false := by simp; omega
  have k4 : (o.kind == 4) = false := by simp; omega
  have k5 : (o.kind == 5) = false := by simp; omega
  have k6 : (o.kind == 6) = false := by simp; omega
  have k7 : (o.kind == 7) = false := by simp; omega
  have k8 : (o.kind == 8) = false := by simp; omega
  have k9 : (o.kind == 9) = false := by simp; omega
  have k10 : (o.kind == 10) = false := by simp; omega
  have hB1 := below_alloc (Below.refl w.heap.size w) (oqObj o A c A2 c2)
  have h1 := h.below hB1
  have hpo := h.hp
  have hqo := h.rf.lt
  unfold oqObj at hB1 h1
  clear hkind h
  have HF := hid (And.intro h1.rd (And.intro h1.rf (Chg.of_below hB1 (fun k => some k = pv ∨ k = q))))
  clear h1
  go_enter Try.func15, Try.ntmps15
  go_wp2
  go_ret
  exact ⟨rfl, HF.out⟩

/-- Whatever is asked for. -/
theorem asked_any {w : World} {okp okq : Nat → Prop} {pv : Option Nat} {q : Nat} {s : St} {A A2 : Option Addr} {c c2 : Nat} (o : OQ) (h : Two w okp okq pv q s) :
  Calls Try.prog 15 #[rptr pv, .pointer (some ⟨q, 0, none⟩), oqAgg o A c A2 c2] w (AskR okp okq pv q w (s.asks o)) := by
  by_cases k1 : o.kind = 1
  · have e : s.asks o = s.took (oNum 1 s.b) := by unfold St.asks; simp only [k1, if_true]
    rw [e]
    exact asked1 o h k1
  by_cases k2 : o.kind = 2
  · have e : s.asks o = s.took (oBool s.b) := by unfold St.asks; simp only [k2, if_true, show ¬ (2 : Int) = 1 from by decide, if_false]
    rw [e]
    exact asked2 o h k2
  by_cases k3 : o.kind = 3
  · have e : s.asks o = s.took (oNum 2 s.b) := by unfold St.asks; simp only [k3, if_true, show ¬ (3 : Int) = 1 from by decide, show ¬ (3 : Int) = 2 from by decide, if_false]
    rw [e]
    exact asked3 o h k3
  by_cases k4 : o.kind = 4
  · have e : s.asks o = s.took (oInt s.b) := by unfold St.asks; simp only [k4, if_true, show ¬ (4 : Int) = 1 from by decide, show ¬ (4 : Int) = 2 from by decide, show ¬ (4 : Int) = 3 from by decide, if_false]
    rw [e]
    exact asked4 o h k4
  by_cases k5 : o.kind = 5
  · have e : s.asks o = s.took (oNum 8 s.b) := by unfold St.asks; simp only [k5, if_true, show ¬ (5 : Int) = 1 from by decide, show ¬ (5 : Int) = 2 from by decide, show ¬ (5 : Int) = 3 from by decide, show ¬ (5 : Int) = 4 from by decide, if_false]
    rw [e]
    exact asked5 o h k5
  by_cases k6 : o.kind = 6
  · have e : s.asks o = s.took (oText o.most s.b) := by unfold St.asks; simp only [k6, if_true, show ¬ (6 : Int) = 1 from by decide, show ¬ (6 : Int) = 2 from by decide, show ¬ (6 : Int) = 3 from by decide, show ¬ (6 : Int) = 4 from by decide, show ¬ (6 : Int) = 5 from by decide, if_false]
    rw [e]
    exact asked6 o h k6
  by_cases k7 : o.kind = 7
  · have e : s.asks o = s.took (oRaw o.most s.b) := by unfold St.asks; simp only [k7, if_true, show ¬ (7 : Int) = 1 from by decide, show ¬ (7 : Int) = 2 from by decide, show ¬ (7 : Int) = 3 from by decide, show ¬ (7 : Int) = 4 from by decide, show ¬ (7 : Int) = 5 from by decide, show ¬ (7 : Int) = 6 from by decide, if_false]
    rw [e]
    exact asked7 o h k7
  by_cases k8 : o.kind = 8
  · have e : s.asks o = s.took (oInts o.most s.b) := by unfold St.asks; simp only [k8, if_true, show ¬ (8 : Int) = 1 from by decide, show ¬ (8 : Int) = 2 from by decide, show ¬ (8 : Int) = 3 from by decide, show ¬ (8 : Int) = 4 from by decide, show ¬ (8 : Int) = 5 from by decide, show ¬ (8 : Int) = 6 from by decide, show ¬ (8 : Int) = 7 from by decide, if_false]
    rw [e]
    exact asked8 o h k8
  by_cases k9 : o.kind = 9
  · have e : s.asks o = s.took (oTexts o.most o.long s.b) := by unfold St.asks; simp only [k9, if_true, show ¬ (9 : Int) = 1 from by decide, show ¬ (9 : Int) = 2 from by decide, show ¬ (9 : Int) = 3 from by decide, show ¬ (9 : Int) = 4 from by decide, show ¬ (9 : Int) = 5 from by decide, show ¬ (9 : Int) = 6 from by decide, show ¬ (9 : Int) = 7 from by decide, show ¬ (9 : Int) = 8 from by decide, if_false]
    rw [e]
    exact asked9 o h k9
  by_cases k10 : o.kind = 10
  · have e : s.asks o = s.fail o.most := by unfold St.asks; simp only [k10, if_true, show ¬ (10 : Int) = 1 from by decide, show ¬ (10 : Int) = 2 from by decide, show ¬ (10 : Int) = 3 from by decide, show ¬ (10 : Int) = 4 from by decide, show ¬ (10 : Int) = 5 from by decide, show ¬ (10 : Int) = 6 from by decide, show ¬ (10 : Int) = 7 from by decide, show ¬ (10 : Int) = 8 from by decide, show ¬ (10 : Int) = 9 from by decide, if_false]
    rw [e]
    exact asked10 o h k10
  have hk : ¬ (1 ≤ o.kind ∧ o.kind ≤ 10) := by omega
  have e : s.asks o = s := by unfold St.asks; simp only [k1, k2, k3, k4, k5, k6, k7, k8, k9, k10, if_false]
  rw [e]
  exact asked11 o h hk
end Go.Proofs.Ytiecljhgpbifjaa
