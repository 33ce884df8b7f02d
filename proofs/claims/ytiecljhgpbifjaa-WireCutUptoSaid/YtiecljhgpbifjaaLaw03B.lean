/- foundrylaw03.back: what it answers of a reader's state. -/
import Derived.Test.YtiecljhgpbifjaaLaw03P
set_option linter.unusedVariables false
set_option linter.unusedSimpArgs false
namespace Go.Proofs.Ytiecljhgpbifjaa
open Go.RowKit Go.Proofs.YtiecljhgpbifjaaW.PrintWords

theorem and_low (n : Int) (h : 0 ≤ n ∧ n < 18446744073709551616) (k : Nat) (hk : k < 64) : bits .and .u64 n ((2 ^ k - 1 : Nat) : Int) = n % ((2 ^ k : Nat) : Int) := by
  obtain ⟨m, rfl⟩ := Int.eq_ofNat_of_zero_le h.1
  have hlt : m < 18446744073709551616 := by omega
  have hp : 2 ^ k ≤ 2 ^ 63 := Nat.pow_le_pow_right (by decide) (by omega)
  have hp2 : (2 : Nat) ^ 63 = 9223372036854775808 := by decide
  have e := bits_and_u64_nat m (2 ^ k - 1) hlt (by omega)
  rw [Nat.and_two_pow_sub_one_eq_mod] at e
  exact e.trans (by rw [Int.natCast_emod])
theorem and16 (n : Int) (h : 0 ≤ n ∧ n < 18446744073709551616) : bits .and .u64 n 65535 = n % 65536 := and_low n h 16 (by decide)
theorem and31' (n : Int) (h : 0 ≤ n ∧ n < 18446744073709551616) : bits .and .u64 n 2147483647 = n % 2147483648 := and_low n h 31 (by decide)
/-- How back ends: y, where what was read is as it was written. -/
def BackR {α : Type} (ok : Nat → Prop) (p : Nat) (w : World) (s : St) (o : Out α) (z : α) (y : Prop) (e : Ending) (w' : World) : Prop :=
  ∃ v, e = .returned (.bool v) ∧ (y → v = true) ∧ PSt w' ok p (s.took o) ∧ Chg (fun k => k = p) w w'
/-- Lists that are not one length. -/
theorem shortTexts_any {w : World} {m : List ByteArray} {A B : Option Addr} {c d : Nat} (hm : 0 < m.length) :
  Calls Try.prog 57 #[.slice A 0 c, .slice B m.length d] w fun e w' => e = .returned (.bool false) ∧ w' = w := by
  have hne : ¬ (0 : Int) = (m.length : Int) := by omega
  go_enter Try.func57, Try.ntmps57
  go_wp2
  go_ret
  exact ⟨rfl, rfl⟩

set_option maxRecDepth 100000 in
set_option maxHeartbeats 4000000 in
theorem back1 {w : World} {ok : Nat → Prop} {p : Nat} {s : St} {A A2 : Option Addr} {c c2 : Nat} (o : OQ) (ho : o.ok) (h : PSt w ok p s) (hok : ∀ k, ok k → k < w.heap.size) (hkind : o.kind = 1) :
  Calls Try.prog 21 #[.pointer (some ⟨p, 0, none⟩), oqAgg o A c A2 c2] w (BackR ok p w s (oNum 1 s.b) (0 : Int) (s.out (oNum 1 s.b) (0 : Int) = o.n % 256)) := by
  have k1 : (o.kind == 1) = true := by rw [hkind]; decide
  have hB1 := below_alloc (Below.refl w.heap.size w) (oqObj o A c A2 c2)
  have h1 := h.below hB1
  have hok1 : ∀ k, ok k → k < (w.alloc (oqObj o A c A2 c2)).heap.size := fun k hk => Nat.lt_of_lt_of_le (hok k hk) hB1.size
  have hpl : p < w.heap.size := by obtain ⟨_, h, _⟩ := h; exact h.lt
  unfold oqObj at hB1 h1 hok1
  clear hkind h
  have f1 := IntKind.wrap_u8 o.n
  have hd : PSt (w.alloc (.cells #[.int .i64 o.kind, .int .u64 o.n, .string o.s, .slice A o.l.length c, .slice A2 o.t.length c2, .int .i64 o.most, .int .i64 o.long] 32)).drew ok p s := h1.below (below_drew (Below.refl _ _))
  have s5 : (w.alloc (.cells #[.int .i64 o.kind, .int .u64 o.n, .string o.s, .slice A o.l.length c, .slice A2 o.t.length c2, .int .i64 o.most, .int .i64 o.long] 32)).drew.cell? ⟨w.heap.size, 1, none⟩ = some (.int .u64 o.n) := by go_simp
  have hBd : Below w.heap.size w (w.alloc (.cells #[.int .i64 o.kind, .int .u64 o.n, .string o.s, .slice A o.l.length c, .slice A2 o.t.length c2, .int .i64 o.most, .int .i64 o.long] 32)).drew := below_drew hB1
  go_enter Try.func21, Try.ntmps21
  go_wp2_with fail
  refine wp_region_plan [] (.take 0 (.take 2 (.take 3 (.take 4 (.run 1 (.take 5 (.take 6 .done))))))) (fun w' => w'.cell? ⟨w.heap.size, 1, none⟩ = some (.int .u64 o.n)) (by kernel_rfl) (by kernel_rfl) (fun c a d v w h => by cases d <;> exact h) s5 ?_
  iterate 4 (apply plan_take rfl rfl; (case hy => (intro w' hS; have s0 := hS; clear hS; go_simp; try exact rfl)); go_simp)
  refine plan_run_on rfl rfl (fun K hK => ?_)
  go_simp
  refine (mByte_any hd hok1).mono ?_
  rintro e w2 ⟨u, rfl, rfl, h2, c2'⟩
  have hC : Chg (fun k => k = p) w w2 := (Chg.of_below hBd _).then_ c2' (fun _ h => .inl h)
  refine hK _ _ _ (fun _ h => h) (c2'.cell_ s5 (fun e => by dsimp only at e; omega)) ?_
  clear hK K s5 hd h1 hBd hB1 hok1
  have HF := hid (And.intro h2 hC)
  clear h2 hC c2'
  obtain ⟨x, hx⟩ : ∃ x, s.out (oNum 1 s.b) (0 : Int) = x := ⟨_, rfl⟩
  rw [hx]
  iterate 2 (apply plan_take rfl rfl; (case hy => (intro w' hS; clear hS; go_simp; try exact rfl)); go_simp)
  refine plan_done ?_
  have HX := hid hx
  clear hx
  go_wp2
  go_ret
  exact ⟨_, rfl, fun hy => by rw [HX.out] at hy; subst hy; simp <;> (by_cases hh : o.n % 2 = 1 <;> simp [hh]), HF.out⟩

set_option maxRecDepth 100000 in
set_option maxHeartbeats 4000000 in
theorem back2 {w : World} {ok : Nat → Prop} {p : Nat} {s : St} {A A2 : Option Addr} {c c2 : Nat} (o : OQ) (ho : o.ok) (h : PSt w ok p s) (hok : ∀ k, ok k → k < w.heap.size) (hkind : o.kind = 2) :
  Calls Try.prog 21 #[.pointer (some ⟨p, 0, none⟩), oqAgg o A c A2 c2] w (BackR ok p w s (oBool s.b) false (s.out (oBool s.b) false = decide (o.n % 2 = 1))) := by
  have k1 : (o.kind == 1) = false := by rw [hkind]; decide
  have k2 : (o.kind == 2) = true := by rw [hkind]; decide
  have hB1 := below_alloc (Below.refl w.heap.size w) (oqObj o A c A2 c2)
  have h1 := h.below hB1
  have hok1 : ∀ k, ok k → k < (w.alloc (oqObj o A c A2 c2)).heap.size := fun k hk => Nat.lt_of_lt_of_le (hok k hk) hB1.size
  have hpl : p < w.heap.size := by obtain ⟨_, h, _⟩ := h; exact h.lt
  unfold oqObj at hB1 h1 hok1
  clear hkind h
  have hmod : o.n.tmod 2 = o.n % 2 := Int.tmod_eq_emod_of_nonneg ho.n.1
  have hd : PSt (w.alloc (.cells #[.int .i64 o.kind, .int .u64 o.n, .string o.s, .slice A o.l.length c, .slice A2 o.t.length c2, .int .i64 o.most, .int .i64 o.long] 32)).drew ok p s := h1.below (below_drew (Below.refl _ _))
  have s5 : (w.alloc (.cells #[.int .i64 o.kind, .int .u64 o.n, .string o.s, .slice A o.l.length c, .slice A2 o.t.length c2, .int .i64 o.most, .int .i64 o.long] 32)).drew.cell? ⟨w.heap.size, 1, none⟩ = some (.int .u64 o.n) := by go_simp
  have hBd : Below w.heap.size w (w.alloc (.cells #[.int .i64 o.kind, .int .u64 o.n, .string o.s, .slice A o.l.length c, .slice A2 o.t.length c2, .int .i64 o.most, .int .i64 o.long] 32)).drew := below_drew hB1
  go_enter Try.func21, Try.ntmps21
  go_wp2_with fail
  refine wp_region_plan [] (.take 0 (.take 2 (.take 3 (.take 4 (.take 5 (.run 1 (.take 6 (.take 7 .done)))))))) (fun w' => w'.cell? ⟨w.heap.size, 1, none⟩ = some (.int .u64 o.n)) (by kernel_rfl) (by kernel_rfl) (fun c a d v w h => by cases d <;> exact h) s5 ?_
  iterate 5 (apply plan_take rfl rfl; (case hy => (intro w' hS; have s0 := hS; clear hS; go_simp; try exact rfl)); go_simp)
  refine plan_run_on rfl rfl (fun K hK => ?_)
  go_simp
  refine (mBool_any hd hok1).mono ?_
  rintro e w2 ⟨u, rfl, rfl, h2, c2'⟩
  have hC : Chg (fun k => k = p) w w2 := (Chg.of_below hBd _).then_ c2' (fun _ h => .inl h)
  refine hK _ _ _ (fun _ h => h) (c2'.cell_ s5 (fun e => by dsimp only at e; omega)) ?_
  clear hK K s5 hd h1 hBd hB1 hok1
  have HF := hid (And.intro h2 hC)
  clear h2 hC c2'
  obtain ⟨x, hx⟩ : ∃ x, s.out (oBool s.b) false = x := ⟨_, rfl⟩
  rw [hx]
  iterate 2 (apply plan_take rfl rfl; (case hy => (intro w' hS; clear hS; go_simp; try exact rfl)); go_simp)
  refine plan_done ?_
  have HX := hid hx
  clear hx
  go_wp2
  go_ret
  exact ⟨_, rfl, fun hy => by rw [HX.out] at hy; subst hy; simp <;> (by_cases hh : o.n % 2 = 1 <;> simp [hh]), HF.out⟩

set_option maxRecDepth 100000 in
set_option maxHeartbeats 4000000 in
theorem back3 {w : World} {ok : Nat → Prop} {p : Nat} {s : St} {A A2 : Option Addr} {c c2 : Nat} (o : OQ) (ho : o.ok) (h : PSt w ok p s) (hok : ∀ k, ok k → k < w.heap.size) (hkind : o.kind = 3) :
  Calls Try.prog 21 #[.pointer (some ⟨p, 0, none⟩), oqAgg o A c A2 c2] w (BackR ok p w s (oNum 2 s.b) (0 : Int) (s.out (oNum 2 s.b) (0 : Int) = o.n % 65536)) := by
  have k1 : (o.kind == 1) = false := by rw [hkind]; decide
  have k2 : (o.kind == 2) = false := by rw [hkind]; decide
  have k3 : (o.kind == 3) = true := by rw [hkind]; decide
  have hB1 := below_alloc (Below.refl w.heap.size w) (oqObj o A c A2 c2)
  have h1 := h.below hB1
  have hok1 : ∀ k, ok k → k < (w.alloc (oqObj o A c A2 c2)).heap.size := fun k hk => Nat.lt_of_lt_of_le (hok k hk) hB1.size
  have hpl : p < w.heap.size := by obtain ⟨_, h, _⟩ := h; exact h.lt
  unfold oqObj at hB1 h1 hok1
  clear hkind h
  have f1 := and16 o.n ho.n
  have f2 : IntKind.i64.wrap (o.n % 65536) = o.n % 65536 := by rw [IntKind.wrap_i64]; omega
  have hd : PSt (w.alloc (.cells #[.int .i64 o.kind, .int .u64 o.n, .string o.s, .slice A o.l.length c, .slice A2 o.t.length c2, .int .i64 o.most, .int .i64 o.long] 32)).drew ok p s := h1.below (below_drew (Below.refl _ _))
  have s5 : (w.alloc (.cells #[.int .i64 o.kind, .int .u64 o.n, .string o.s, .slice A o.l.length c, .slice A2 o.t.length c2, .int .i64 o.most, .int .i64 o.long] 32)).drew.cell? ⟨w.heap.size, 1, none⟩ = some (.int .u64 o.n) := by go_simp
  have hBd : Below w.heap.size w (w.alloc (.cells #[.int .i64 o.kind, .int .u64 o.n, .string o.s, .slice A o.l.length c, .slice A2 o.t.length c2, .int .i64 o.most, .int .i64 o.long] 32)).drew := below_drew hB1
  go_enter Try.func21, Try.ntmps21
  go_wp2_with fail
  refine wp_region_plan [] (.take 0 (.take 2 (.take 3 (.take 4 (.take 5 (.run 1 (.take 6 (.take 7 .done)))))))) (fun w' => w'.cell? ⟨w.heap.size, 1, none⟩ = some (.int .u64 o.n)) (by kernel_rfl) (by kernel_rfl) (fun c a d v w h => by cases d <;> exact h) s5 ?_
  iterate 5 (apply plan_take rfl rfl; (case hy => (intro w' hS; have s0 := hS; clear hS; go_simp; try exact rfl)); go_simp)
  refine plan_run_on rfl rfl (fun K hK => ?_)
  go_simp
  refine (mShort_any hd hok1).mono ?_
  rintro e w2 ⟨u, rfl, rfl, h2, c2'⟩
  have hC : Chg (fun k => k = p) w w2 := (Chg.of_below hBd _).then_ c2' (fun _ h => .inl h)
  refine hK _ _ _ (fun _ h => h) (c2'.cell_ s5 (fun e => by dsimp only at e; omega)) ?_
  clear hK K s5 hd h1 hBd hB1 hok1
  have HF := hid (And.intro h2 hC)
  clear h2 hC c2'
  obtain ⟨x, hx⟩ : ∃ x, s.out (oNum 2 s.b) (0 : Int) = x := ⟨_, rfl⟩
  rw [hx]
  iterate 2 (apply plan_take rfl rfl; (case hy => (intro w' hS; clear hS; go_simp; try exact rfl)); go_simp)
  refine plan_done ?_
  have HX := hid hx
  clear hx
  go_wp2
  go_ret
  exact ⟨_, rfl, fun hy => by rw [HX.out] at hy; subst hy; simp <;> (by_cases hh : o.n % 2 = 1 <;> simp [hh]), HF.out⟩

set_option maxRecDepth 100000 in
set_option maxHeartbeats 4000000 in
theorem back4 {w : World} {ok : Nat → Prop} {p : Nat} {s : St} {A A2 : Option Addr} {c c2 : Nat} (o : OQ) (ho : o.ok) (h : PSt w ok p s) (hok : ∀ k, ok k → k < w.heap.size) (hkind : o.kind = 4) :
  Calls Try.prog 21 #[.pointer (some ⟨p, 0, none⟩), oqAgg o A c A2 c2] w (BackR ok p w s (oInt s.b) (0 : Int) (s.out (oInt s.b) (0 : Int) = o.n % 2147483648)) := by
  have k1 : (o.kind == 1) = false := by rw [hkind]; decide
  have k2 : (o.kind == 2) = false := by rw [hkind]; decide
  have k3 : (o.kind == 3) = false := by rw [hkind]; decide
  have k4 : (o.kind == 4) = true := by rw [hkind]; decide
  have hB1 := below_alloc (Below.refl w.heap.size w) (oqObj o A c A2 c2)
  have h1 := h.below hB1
  have hok1 : ∀ k, ok k → k < (w.alloc (oqObj o A c A2 c2)).heap.size := fun k hk => Nat.lt_of_lt_of_le (hok k hk) hB1.size
  have hpl : p < w.heap.size := by obtain ⟨_, h, _⟩ := h; exact h.lt
  unfold oqObj at hB1 h1 hok1
  clear hkind h
  have f1 := and31' o.n ho.n
  have f2 : IntKind.i64.wrap (o.n % 2147483648) = o.n % 2147483648 := by rw [IntKind.wrap_i64]; omega
  have hd : PSt (w.alloc (.cells #[.int .i64 o.kind, .int .u64 o.n, .string o.s, .slice A o.l.length c, .slice A2 o.t.length c2, .int .i64 o.most, .int .i64 o.long] 32)).drew ok p s := h1.below (below_drew (Below.refl _ _))
  have s5 : (w.alloc (.cells #[.int .i64 o.kind, .int .u64 o.n, .string o.s, .slice A o.l.length c, .slice A2 o.t.length c2, .int .i64 o.most, .int .i64 o.long] 32)).drew.cell? ⟨w.heap.size, 1, none⟩ = some (.int .u64 o.n) := by go_simp
  have hBd : Below w.heap.size w (w.alloc (.cells #[.int .i64 o.kind, .int .u64 o.n, .string o.s, .slice A o.l.length c, .slice A2 o.t.length c2, .int .i64 o.most, .int .i64 o.long] 32)).drew := below_drew hB1
  go_enter Try.func21, Try.ntmps21
  go_wp2_with fail
  refine wp_region_plan [] (.take 0 (.take 2 (.take 3 (.take 4 (.take 5 (.run 1 (.take 6 (.take 7 .done)))))))) (fun w' => w'.cell? ⟨w.heap.size, 1, none⟩ = some (.int .u64 o.n)) (by kernel_rfl) (by kernel_rfl) (fun c a d v w h => by cases d <;> exact h) s5 ?_
  iterate 5 (apply plan_take rfl rfl; (case hy => (intro w' hS; have s0 := hS; clear hS; go_simp; try exact rfl)); go_simp)
  refine plan_run_on rfl rfl (fun K hK => ?_)
  go_simp
  refine (mInt_any hd hok1).mono ?_
  rintro e w2 ⟨u, rfl, rfl, h2, c2'⟩
  have hC : Chg (fun k => k = p) w w2 := (Chg.of_below hBd _).then_ c2' (fun _ h => .inl h)
  refine hK _ _ _ (fun _ h => h) (c2'.cell_ s5 (fun e => by dsimp only at e; omega)) ?_
  clear hK K s5 hd h1 hBd hB1 hok1
  have HF := hid (And.intro h2 hC)
  clear h2 hC c2'
  obtain ⟨x, hx⟩ : ∃ x, s.out (oInt s.b) (0 : Int) = x := ⟨_, rfl⟩
  rw [hx]
  iterate 2 (apply plan_take rfl rfl; (case hy => (intro w' hS; clear hS; go_simp; try exact rfl)); go_simp)
  refine plan_done ?_
  have HX := hid hx
  clear hx
  go_wp2
  go_ret
  exact ⟨_, rfl, fun hy => by rw [HX.out] at hy; subst hy; simp <;> (by_cases hh : o.n % 2 = 1 <;> simp [hh]), HF.out⟩

set_option maxRecDepth 100000 in
set_option maxHeartbeats 4000000 in
theorem back5 {w : World} {ok : Nat → Prop} {p : Nat} {s : St} {A A2 : Option Addr} {c c2 : Nat} (o : OQ) (ho : o.ok) (h : PSt w ok p s) (hok : ∀ k, ok k → k < w.heap.size) (hkind : o.kind = 5) :
  Calls Try.prog 21 #[.pointer (some ⟨p, 0, none⟩), oqAgg o A c A2 c2] w (BackR ok p w s (oNum 8 s.b) (0 : Int) (s.out (oNum 8 s.b) (0 : Int) = o.n)) := by
  have k1 : (o.kind == 1) = false := by rw [hkind]; decide
  have k2 : (o.kind == 2) = false := by rw [hkind]; decide
  have k3 : (o.kind == 3) = false := by rw [hkind]; decide
  have k4 : (o.kind == 4) = false := by rw [hkind]; decide
  have k5 : (o.kind == 5) = true := by rw [hkind]; decide
  have hB1 := below_alloc (Below.refl w.heap.size w) (oqObj o A c A2 c2)
  have h1 := h.below hB1
  have hok1 : ∀ k, ok k → k < (w.alloc (oqObj o A c A2 c2)).heap.size := fun k hk => Nat.lt_of_lt_of_le (hok k hk) hB1.size
  have hpl : p < w.heap.size := by obtain ⟨_, h, _⟩ := h; exact h.lt
  unfold oqObj at hB1 h1 hok1
  clear hkind h
  have hd : PSt (w.alloc (.cells #[.int .i64 o.kind, .int .u64 o.n, .string o.s, .slice A o.l.length c, .slice A2 o.t.length c2, .int .i64 o.most, .int .i64 o.long] 32)).drew ok p s := h1.below (below_drew (Below.refl _ _))
  have s5 : (w.alloc (.cells #[.int .i64 o.kind, .int .u64 o.n, .string o.s, .slice A o.l.length c, .slice A2 o.t.length c2, .int .i64 o.most, .int .i64 o.long] 32)).drew.cell? ⟨w.heap.size, 1, none⟩ = some (.int .u64 o.n) := by go_simp
  have hBd : Below w.heap.size w (w.alloc (.cells #[.int .i64 o.kind, .int .u64 o.n, .string o.s, .slice A o.l.length c, .slice A2 o.t.length c2, .int .i64 o.most, .int .i64 o.long] 32)).drew := below_drew hB1
  go_enter Try.func21, Try.ntmps21
  go_wp2_with fail
  refine wp_region_plan [] (.take 0 (.take 2 (.take 3 (.run 1 (.take 4 (.take 5 .done)))))) (fun w' => w'.cell? ⟨w.heap.size, 1, none⟩ = some (.int .u64 o.n)) (by kernel_rfl) (by kernel_rfl) (fun c a d v w h => by cases d <;> exact h) s5 ?_
  iterate 3 (apply plan_take rfl rfl; (case hy => (intro w' hS; have s0 := hS; clear hS; go_simp; try exact rfl)); go_simp)
  refine plan_run_on rfl rfl (fun K hK => ?_)
  go_simp
  refine (mLong_any hd hok1).mono ?_
  rintro e w2 ⟨u, rfl, rfl, h2, c2'⟩
  have hC : Chg (fun k => k = p) w w2 := (Chg.of_below hBd _).then_ c2' (fun _ h => .inl h)
  refine hK _ _ _ (fun _ h => h) (c2'.cell_ s5 (fun e => by dsimp only at e; omega)) ?_
  clear hK K s5 hd h1 hBd hB1 hok1
  have HF := hid (And.intro h2 hC)
  clear h2 hC c2'
  obtain ⟨x, hx⟩ : ∃ x, s.out (oNum 8 s.b) (0 : Int) = x := ⟨_, rfl⟩
  rw [hx]
  iterate 2 (apply plan_take rfl rfl; (case hy => (intro w' hS; clear hS; go_simp; try exact rfl)); go_simp)
  refine plan_done ?_
  have HX := hid hx
  clear hx
  go_wp2
  go_ret
  exact ⟨_, rfl, fun hy => by rw [HX.out] at hy; subst hy; simp <;> (by_cases hh : o.n % 2 = 1 <;> simp [hh]), HF.out⟩

set_option maxRecDepth 100000 in
set_option maxHeartbeats 4000000 in
theorem back6 {w : World} {ok : Nat → Prop} {p : Nat} {s : St} {A A2 : Option Addr} {c c2 : Nat} (o : OQ) (ho : o.ok) (h : PSt w ok p s) (hok : ∀ k, ok k → k < w.heap.size) (hkind : o.kind = 6) :
  Calls Try.prog 21 #[.pointer (some ⟨p, 0, none⟩), oqAgg o A c A2 c2] w (BackR ok p w s (oText Most s.b) (strOfNums []) (s.out (oText Most s.b) (strOfNums []) = o.s)) := by
  have k1 : (o.kind == 1) = false := by rw [hkind]; decide
  have k2 : (o.kind == 2) = false := by rw [hkind]; decide
  have k3 : (o.kind == 3) = false := by rw [hkind]; decide
  have k4 : (o.kind == 4) = false := by rw [hkind]; decide
  have k5 : (o.kind == 5) = false := by rw [hkind]; decide
  have k6 : (o.kind == 6) = true := by rw [hkind]; decide
  have hB1 := below_alloc (Below.refl w.heap.size w) (oqObj o A c A2 c2)
  have h1 := h.below hB1
  have hok1 : ∀ k, ok k → k < (w.alloc (oqObj o A c A2 c2)).heap.size := fun k hk => Nat.lt_of_lt_of_le (hok k hk) hB1.size
  have hpl : p < w.heap.size := by obtain ⟨_, h, _⟩ := h; exact h.lt
  unfold oqObj at hB1 h1 hok1
  clear hkind h
  have hd : PSt (w.alloc (.cells #[.int .i64 o.kind, .int .u64 o.n, .string o.s, .slice A o.l.length c, .slice A2 o.t.length c2, .int .i64 o.most, .int .i64 o.long] 32)).drew ok p s := h1.below (below_drew (Below.refl _ _))
  have s5 : (w.alloc (.cells #[.int .i64 o.kind, .int .u64 o.n, .string o.s, .slice A o.l.length c, .slice A2 o.t.length c2, .int .i64 o.most, .int .i64 o.long] 32)).drew.cell? ⟨w.heap.size, 2, none⟩ = some (.string o.s) := by go_simp
  have hBd : Below w.heap.size w (w.alloc (.cells #[.int .i64 o.kind, .int .u64 o.n, .string o.s, .slice A o.l.length c, .slice A2 o.t.length c2, .int .i64 o.most, .int .i64 o.long] 32)).drew := below_drew hB1
  go_enter Try.func21, Try.ntmps21
  go_wp2_with fail
  refine wp_region_plan [] (.take 0 (.take 1 (.take 3 (.take 4 (.run 2 (.take 5 (.take 6 .done))))))) (fun w' => w'.cell? ⟨w.heap.size, 2, none⟩ = some (.string o.s)) (by kernel_rfl) (by kernel_rfl) (fun c a d v w h => by cases d <;> exact h) s5 ?_
  iterate 4 (apply plan_take rfl rfl; (case hy => (intro w' hS; have s0 := hS; clear hS; go_simp; try exact rfl)); go_simp)
  refine plan_run_on rfl rfl (fun K hK => ?_)
  go_simp
  refine (mText_any Most hd hok1).mono ?_
  rintro e w2 ⟨u, rfl, rfl, h2, c2'⟩
  have hC : Chg (fun k => k = p) w w2 := (Chg.of_below hBd _).then_ c2' (fun _ h => .inl h)
  refine hK _ _ _ (fun _ h => h) (c2'.cell_ s5 (fun e => by dsimp only at e; omega)) ?_
  clear hK K s5 hd h1 hBd hB1 hok1
  have HF := hid (And.intro h2 hC)
  clear h2 hC c2'
  obtain ⟨x, hx⟩ : ∃ x, s.out (oText Most s.b) (strOfNums []) = x := ⟨_, rfl⟩
  rw [hx]
  go_simp
  iterate 2 (apply plan_take rfl rfl; (case hy => (intro w' hS; clear hS; go_simp; try exact rfl)); go_simp)
  refine plan_done ?_
  have HX := hid hx
  clear hx
  go_wp2
  go_ret
  exact ⟨_, rfl, fun hy => by rw [HX.out] at hy; subst hy; simp, HF.out⟩

set_option maxRecDepth 100000 in
set_option maxHeartbeats 4000000 in
theorem back7 {w : World} {ok : Nat → Prop} {p : Nat} {s : St} {A A2 : Option Addr} {c c2 : Nat} (o : OQ) (ho : o.ok) (h : PSt w ok p s) (hok : ∀ k, ok k → k < w.heap.size) (hkind : o.kind = 7) :
  Calls Try.prog 21 #[.pointer (some ⟨p, 0, none⟩), oqAgg o A c A2 c2] w (BackR ok p w s (oRaw Most s.b) ([] : List Int) (strOfNums (s.out (oRaw Most s.b) []) = o.s)) := by
  have k1 : (o.kind == 1) = false := by rw [hkind]; decide
  have k2 : (o.kind == 2) = false := by rw [hkind]; decide
  have k3 : (o.kind == 3) = false := by rw [hkind]; decide
  have k4 : (o.kind == 4) = false := by rw [hkind]; decide
  have k5 : (o.kind == 5) = false := by rw [hkind]; decide
  have k6 : (o.kind == 6) = false := by rw [hkind]; decide
  have k7 : (o.kind == 7) = true := by rw [hkind]; decide
  have hB1 := below_alloc (Below.refl w.heap.size w) (oqObj o A c A2 c2)
  have h1 := h.below hB1
  have hok1 : ∀ k, ok k → k < (w.alloc (oqObj o A c A2 c2)).heap.size := fun k hk => Nat.lt_of_lt_of_le (hok k hk) hB1.size
  have hpl : p < w.heap.size := by obtain ⟨_, h, _⟩ := h; exact h.lt
  unfold oqObj at hB1 h1 hok1
  clear hkind h
  have hd : PSt (w.alloc (.cells #[.int .i64 o.kind, .int .u64 o.n, .string o.s, .slice A o.l.length c, .slice A2 o.t.length c2, .int .i64 o.most, .int .i64 o.long] 32)).drew ok p s := h1.below (below_drew (Below.refl _ _))
  have s5 : (w.alloc (.cells #[.int .i64 o.kind, .int .u64 o.n, .string o.s, .slice A o.l.length c, .slice A2 o.t.length c2, .int .i64 o.most, .int .i64 o.long] 32)).drew.cell? ⟨w.heap.size, 2, none⟩ = some (.string o.s) := by go_simp
  have hBd : Below w.heap.size w (w.alloc (.cells #[.int .i64 o.kind, .int .u64 o.n, .string o.s, .slice A o.l.length c, .slice A2 o.t.length c2, .int .i64 o.most, .int .i64 o.long] 32)).drew := below_drew hB1
  go_enter Try.func21, Try.ntmps21
  go_wp2_with fail
  refine wp_region_plan [] (.take 0 (.take 1 (.take 4 (.take 5 (.run 2 (.take 3 (.take 6 (.take 7 .done)))))))) (fun w' => w'.cell? ⟨w.heap.size, 2, none⟩ = some (.string o.s)) (by kernel_rfl) (by kernel_rfl) (fun c a d v w h => by cases d <;> exact h) s5 ?_
  iterate 4 (apply plan_take rfl rfl; (case hy => (intro w' hS; have s0 := hS; clear hS; go_simp; try exact rfl)); go_simp)
  refine plan_run_on rfl rfl (fun K hK => ?_)
  go_simp
  refine (mRaw_any Most hd hok1).mono ?_
  rintro e w2 ⟨u, rfl, ⟨A5, d5, rfl, hR5⟩, h2, c2'⟩
  obtain ⟨A7, d7, he7, _, hK7⟩ := Kd.R_reads hR5
  injection he7 with q1 q2 q3
  subst q1
  subst q3
  have hC : Chg (fun k => k = p) w w2 := (Chg.of_below hBd _).then_ c2' (fun _ h => .inl h)
  refine hK (fun w' => w'.cell? ⟨w.heap.size, 2, none⟩ = some (.string o.s) ∧ KB.C w' A5 (s.out (oRaw Most s.b) []).length (s.out (oRaw Most s.b) [])) _ _ (fun _ h => h.1) ⟨c2'.cell_ s5 (fun e => by dsimp only at e; omega), hK7⟩ ?_
  clear hK K s5 hd h1 hBd hB1 hok1 hR5 hK7
  have HF := hid (And.intro h2 hC)
  clear h2 hC c2'
  obtain ⟨x, hx⟩ : ∃ x, s.out (oRaw Most s.b) [] = x := ⟨_, rfl⟩
  rw [hx]
  apply plan_take rfl rfl
  case hy =>
    rintro w' ⟨_, hC'⟩
    have hcv := conv_str (c := d5) hC'
    clear hC'
    go_simp
    try exact rfl
  go_simp
  iterate 2 (apply plan_take rfl rfl; (case hy => (intro w' hS; clear hS; go_simp; try exact rfl)); go_simp)
  refine plan_done ?_
  have HX := hid hx
  clear hx
  go_wp2
  go_ret
  exact ⟨_, rfl, fun hy => by rw [HX.out] at hy; rw [hy]; simp, HF.out⟩

set_option maxRecDepth 100000 in
set_option maxHeartbeats 4000000 in
theorem back8good {w : World} {ok : Nat → Prop} {p : Nat} {s : St} {A A2 : Option Addr} {c c2 : Nat} (o : OQ) (ho : o.ok) (h : PSt w ok p s) (hok : ∀ k, ok k → k < w.heap.size) (hkind : o.kind = 8) (hC1 : ∀ w', Chg (fun k => k = p) w w' → (Kd.int .i64).C w' A o.l.length o.l) (hout : s.out (oInts Most s.b) [] = o.l.map (· % 2147483648)) :
  Calls Try.prog 21 #[.pointer (some ⟨p, 0, none⟩), oqAgg o A c A2 c2] w (BackR ok p w s (oInts Most s.b) ([] : List Int) (True)) := by
  have k1 : (o.kind == 1) = false := by rw [hkind]; decide
  have k2 : (o.kind == 2) = false := by rw [hkind]; decide
  have k3 : (o.kind == 3) = false := by rw [hkind]; decide
  have k4 : (o.kind == 4) = false := by rw [hkind]; decide
  have k5 : (o.kind == 5) = false := by rw [hkind]; decide
  have k6 : (o.kind == 6) = false := by rw [hkind]; decide
  have k7 : (o.kind == 7) = false := by rw [hkind]; decide
  have k8 : (o.kind == 8) = true := by rw [hkind]; decide
  have hB1 := below_alloc (Below.refl w.heap.size w) (oqObj o A c A2 c2)
  have h1 := h.below hB1
  have hok1 : ∀ k, ok k → k < (w.alloc (oqObj o A c A2 c2)).heap.size := fun k hk => Nat.lt_of_lt_of_le (hok k hk) hB1.size
  have hpl : p < w.heap.size := by obtain ⟨_, h, _⟩ := h; exact h.lt
  unfold oqObj at hB1 h1 hok1
  clear hkind h
  have s5 : (w.alloc (.cells #[.int .i64 o.kind, .int .u64 o.n, .string o.s, .slice A o.l.length c, .slice A2 o.t.length c2, .int .i64 o.most, .int .i64 o.long] 32)).cell? ⟨w.heap.size, 3, none⟩ = some (.slice A o.l.length c) := by go_simp
  have hli : (s.out (oInts Most s.b) []).length = o.l.length := by rw [hout, List.length_map]
  go_enter Try.func21, Try.ntmps21
  go_wp2_with fail
  refine (mInts_any Most h1 hok1).mono ?_
  rintro e w2 ⟨u, rfl, ⟨A5, d5, rfl, hR5⟩, h2, c2'⟩
  have t5 := c2'.cell_ s5 (fun e => by dsimp only at e; omega)
  have hC : Chg (fun k => k = p) w w2 := (Chg.of_below hB1 _).then_ c2' (fun _ h => .inl h)
  obtain ⟨A7, d7, he7, _, hK7⟩ := Kd.R_reads hR5
  injection he7 with q1 q2 q3
  subst q1
  subst q3
  rw [hli] at hK7
  have hD2 := hC1 w2 hC
  clear hC1
  rw [hli]
  rw [hout] at hK7
  clear hR5 h1 hB1 hok1
  go_wp2_with fail
  go_loopw [7] (fun i wr => Below w2.heap.size w2 wr ∧ ∃ k : Nat, k ≤ o.l.length ∧ i = .int .i64 k) (fun i _ => o.l.length - (intOf i).toNat)
  case atStart => exact ⟨Below.refl _ _, 0, Nat.zero_le _, rfl⟩
  case round =>
    obtain ⟨hb, k, hk, rfl⟩ := hrel
    by_cases hlt : k < o.l.length
    · obtain ⟨ad, rfl, hc1⟩ := (Kd.reads_of_C (enc := Value.int .i64) (d := (0 : Int)) (h1 := fun _ => rfl) (Kd.C_below hD2 hb)).at_ (k : Int) (by omega) (by omega)
      have hml : (o.l.map (· % 2147483648)).length = o.l.length := List.length_map _
      obtain ⟨bd, rfl, hc2⟩ := (Kd.reads_of_C (enc := Value.int .i64) (d := (0 : Int)) (h1 := fun _ => rfl) (Kd.C_below hK7 hb)).at_ (k : Int) (by omega) (by omega)
      simp only [Int.toNat_natCast] at hc1 hc2
      have hrd1 : rdOf 0 o.l k = o.l[k] := by simp [rdOf, List.getD_eq_getElem?_getD, hlt]
      have hrd2 : rdOf 0 (o.l.map (· % 2147483648)) k = o.l[k] % 2147483648 := by simp [rdOf, List.getD_eq_getElem?_getD, hlt]
      rw [hrd1] at hc1
      rw [hrd2] at hc2
      have hlw : (k : Int) < (o.l.length : Int) := by omega
      have r5 := pw_cell_below hb t5
      have hlb : (o.l.length : Int) ≤ 281474976710656 := by have := ho.l; omega
      generalize o.l[k] = x at hc1 hc2
      have g1 := and31 x
      have g2 : IntKind.i64.wrap (x % 2147483648) = x % 2147483648 := by rw [IntKind.wrap_i64]; omega
      go_wp2_with fail
      refine wp_region_plan [] (.take 0 (.take 1 (.take 2 (.take 3 (.take 4 (.take 5 (.take 6 (.take 7 (.take 8 (.take 9 (.take 10 (.take 11 (.take 12 .done))))))))))))) (fun w' => w'.cell? ⟨w.heap.size, 3, none⟩ = some (.slice (some ad) o.l.length c) ∧ w'.cell? (ad.add k) = some (.int .i64 x) ∧ w'.cell? (bd.add k) = some (.int .i64 (x % 2147483648))) (by kernel_rfl) (by kernel_rfl) (fun c a d v w h => by cases d <;> exact h) ⟨r5, hc1, hc2⟩ ?_
      iterate 13 (apply plan_take rfl rfl; (case hy => (intro w' hS; obtain ⟨s0, s1, s2⟩ := hS; go_simp; try exact rfl)); go_simp)
      refine plan_done ?_
      go_wp2
      go_roundw
      case rel => exact ⟨below_drew hb, k + 1, by omega, by go_num⟩
      case measure => simp [intOf]; omega
    · obtain rfl : k = o.l.length := by omega
      have HF := hid (And.intro (h2.below hb) (hC.same hb))
      clear h2 hC c2' hb
      go_wp2
      go_ret
      exact ⟨_, rfl, fun _ => rfl, HF.out⟩

set_option maxRecDepth 100000 in
set_option maxHeartbeats 4000000 in
theorem back8bad {w : World} {ok : Nat → Prop} {p : Nat} {s : St} {A A2 : Option Addr} {c c2 : Nat} (o : OQ) (ho : o.ok) (h : PSt w ok p s) (hok : ∀ k, ok k → k < w.heap.size) (hkind : o.kind = 8) (hout : s.out (oInts Most s.b) [] = []) :
  Calls Try.prog 21 #[.pointer (some ⟨p, 0, none⟩), oqAgg o A c A2 c2] w (BackR ok p w s (oInts Most s.b) ([] : List Int) (False)) := by
  have k1 : (o.kind == 1) = false := by rw [hkind]; decide
  have k2 : (o.kind == 2) = false := by rw [hkind]; decide
  have k3 : (o.kind == 3) = false := by rw [hkind]; decide
  have k4 : (o.kind == 4) = false := by rw [hkind]; decide
  have k5 : (o.kind == 5) = false := by rw [hkind]; decide
  have k6 : (o.kind == 6) = false := by rw [hkind]; decide
  have k7 : (o.kind == 7) = false := by rw [hkind]; decide
  have k8 : (o.kind == 8) = true := by rw [hkind]; decide
  have hB1 := below_alloc (Below.refl w.heap.size w) (oqObj o A c A2 c2)
  have h1 := h.below hB1
  have hok1 : ∀ k, ok k → k < (w.alloc (oqObj o A c A2 c2)).heap.size := fun k hk => Nat.lt_of_lt_of_le (hok k hk) hB1.size
  have hpl : p < w.heap.size := by obtain ⟨_, h, _⟩ := h; exact h.lt
  unfold oqObj at hB1 h1 hok1
  clear hkind h
  have s5 : (w.alloc (.cells #[.int .i64 o.kind, .int .u64 o.n, .string o.s, .slice A o.l.length c, .slice A2 o.t.length c2, .int .i64 o.most, .int .i64 o.long] 32)).cell? ⟨w.heap.size, 3, none⟩ = some (.slice A o.l.length c) := by go_simp
  go_enter Try.func21, Try.ntmps21
  go_wp2_with fail
  refine (mInts_any Most h1 hok1).mono ?_
  rintro e w2 ⟨u, rfl, ⟨A5, d5, rfl, hR5⟩, h2, c2'⟩
  have t5 := c2'.cell_ s5 (fun e => by dsimp only at e; omega)
  have hC : Chg (fun k => k = p) w w2 := (Chg.of_below hB1 _).then_ c2' (fun _ h => .inl h)
  rw [hout]
  have HF := hid (And.intro h2 hC)
  clear hR5 h1 hB1 hok1 h2 hC c2' s5
  by_cases hl : o.l.length = 0
  · rw [hl] at t5
    go_wp2_with fail
    go_loopw [7] (fun i wr => i = .int .i64 0 ∧ wr = w2) (fun i _ => 0)
    case atStart => exact ⟨rfl, rfl⟩
    case round =>
      obtain ⟨rfl, rfl⟩ := hrel
      go_wp2
      go_ret
      exact ⟨_, rfl, fun h => h.elim, HF.out⟩
  · have hne : ¬ (0 : Int) = (o.l.length : Int) := by omega
    go_wp2
    go_ret
    exact ⟨_, rfl, fun h => h.elim, HF.out⟩

set_option maxRecDepth 100000 in
set_option maxHeartbeats 4000000 in
theorem back9good {w : World} {ok : Nat → Prop} {p : Nat} {s : St} {A A2 : Option Addr} {c c2 : Nat} (o : OQ) (ho : o.ok) (h : PSt w ok p s) (hok : ∀ k, ok k → k < w.heap.size) (hkind : o.kind = 9) (hC2 : ∀ w', Chg (fun k => k = p) w w' → Kd.string.C w' A2 o.t.length o.t) (hout : s.out (oTexts Most Most s.b) [] = o.t) :
  Calls Try.prog 21 #[.pointer (some ⟨p, 0, none⟩), oqAgg o A c A2 c2] w (BackR ok p w s (oTexts Most Most s.b) ([] : List ByteArray) (True)) := by
  have k1 : (o.kind == 1) = false := by rw [hkind]; decide
  have k2 : (o.kind == 2) = false := by rw [hkind]; decide
  have k3 : (o.kind == 3) = false := by rw [hkind]; decide
  have k4 : (o.kind == 4) = false := by rw [hkind]; decide
  have k5 : (o.kind == 5) = false := by rw [hkind]; decide
  have k6 : (o.kind == 6) = false := by rw [hkind]; decide
  have k7 : (o.kind == 7) = false := by rw [hkind]; decide
  have k8 : (o.kind == 8) = false := by rw [hkind]; decide
  have k9 : (o.kind == 9) = true := by rw [hkind]; decide
  have hB1 := below_alloc (Below.refl w.heap.size w) (oqObj o A c A2 c2)
  have h1 := h.below hB1
  have hok1 : ∀ k, ok k → k < (w.alloc (oqObj o A c A2 c2)).heap.size := fun k hk => Nat.lt_of_lt_of_le (hok k hk) hB1.size
  have hpl : p < w.heap.size := by obtain ⟨_, h, _⟩ := h; exact h.lt
  unfold oqObj at hB1 h1 hok1
  clear hkind h
  have hd : PSt (w.alloc (.cells #[.int .i64 o.kind, .int .u64 o.n, .string o.s, .slice A o.l.length c, .slice A2 o.t.length c2, .int .i64 o.most, .int .i64 o.long] 32)).drew ok p s := h1.below (below_drew (Below.refl _ _))
  have s5 : (w.alloc (.cells #[.int .i64 o.kind, .int .u64 o.n, .string o.s, .slice A o.l.length c, .slice A2 o.t.length c2, .int .i64 o.most, .int .i64 o.long] 32)).drew.cell? ⟨w.heap.size, 4, none⟩ = some (.slice A2 o.t.length c2) := by go_simp
  have hBd : Below w.heap.size w (w.alloc (.cells #[.int .i64 o.kind, .int .u64 o.n, .string o.s, .slice A o.l.length c, .slice A2 o.t.length c2, .int .i64 o.most, .int .i64 o.long] 32)).drew := below_drew hB1
  go_enter Try.func21, Try.ntmps21
  go_wp2_with fail
  refine wp_region_plan [] (.take 0 (.take 1 (.take 2 (.take 4 (.take 5 (.run 3 (.run 6 (.take 7 .done)))))))) (fun w' => w'.cell? ⟨w.heap.size, 4, none⟩ = some (.slice A2 o.t.length c2)) (by kernel_rfl) (by kernel_rfl) (fun c a d v w h => by cases d <;> exact h) s5 ?_
  iterate 5 (apply plan_take rfl rfl; (case hy => (intro w' hS; have s0 := hS; clear hS; go_simp; try exact rfl)); go_simp)
  refine plan_run_on rfl rfl (fun K hK => ?_)
  go_simp
  refine (mTexts_any Most Most hd hok1).mono ?_
  rintro e w2 ⟨u, rfl, ⟨A5, d5, rfl, hR5⟩, h2, c2'⟩
  obtain ⟨A7, d7, he7, _, hK7⟩ := Kd.R_reads hR5
  injection he7 with q1 q2 q3
  subst q1
  subst q3
  have hC : Chg (fun k => k = p) w w2 := (Chg.of_below hBd _).then_ c2' (fun _ h => .inl h)
  have hD2 := hC2 w2 hC
  clear hC2
  rw [hout] at hK7 ⊢
  have t5 := c2'.cell_ s5 (fun e => by dsimp only at e; omega)
  refine hK _ _ _ (fun _ h => h) t5 ?_
  clear hK K s5 hd h1 hBd hB1 hok1 hR5
  refine plan_run_on rfl rfl (fun K hK => ?_)
  go_simp
  refine (oneTexts_any (c := d5) (d := c2) hK7 hD2).mono ?_
  rintro e w4 ⟨rfl, hB4⟩
  have HF := hid (And.intro (h2.below hB4) (hC.same hB4))
  refine hK _ _ _ (fun _ h => h) (pw_cell_below hB4 t5) ?_
  clear hK K h2 hC c2' hB4 hK7 hD2 t5
  go_simp
  apply plan_take rfl rfl
  case hy => (intro w' hS; clear hS; go_simp; try exact rfl)
  go_simp
  refine plan_done ?_
  go_wp2
  go_ret
  exact ⟨_, rfl, fun _ => rfl, HF.out⟩

set_option maxRecDepth 100000 in
set_option maxHeartbeats 4000000 in
theorem back9bad {w : World} {ok : Nat → Prop} {p : Nat} {s : St} {A A2 : Option Addr} {c c2 : Nat} (o : OQ) (ho : o.ok) (h : PSt w ok p s) (hok : ∀ k, ok k → k < w.heap.size) (hkind : o.kind = 9) (hC2 : ∀ w', Chg (fun k => k = p) w w' → Kd.string.C w' A2 o.t.length o.t) (hout : s.out (oTexts Most Most s.b) [] = []) :
  Calls Try.prog 21 #[.pointer (some ⟨p, 0, none⟩), oqAgg o A c A2 c2] w (BackR ok p w s (oTexts Most Most s.b) ([] : List ByteArray) (False)) := by
  have k1 : (o.kind == 1) = false := by rw [hkind]; decide
  have k2 : (o.kind == 2) = false := by rw [hkind]; decide
  have k3 : (o.kind == 3) = false := by rw [hkind]; decide
  have k4 : (o.kind == 4) = false := by rw [hkind]; decide
  have k5 : (o.kind == 5) = false := by rw [hkind]; decide
  have k6 : (o.kind == 6) = false := by rw [hkind]; decide
  have k7 : (o.kind == 7) = false := by rw [hkind]; decide
  have k8 : (o.kind == 8) = false := by rw [hkind]; decide
  have k9 : (o.kind == 9) = true := by rw [hkind]; decide
  have hB1 := below_alloc (Below.refl w.heap.size w) (oqObj o A c A2 c2)
  have h1 := h.below hB1
  have hok1 : ∀ k, ok k → k < (w.alloc (oqObj o A c A2 c2)).heap.size := fun k hk => Nat.lt_of_lt_of_le (hok k hk) hB1.size
  have hpl : p < w.heap.size := by obtain ⟨_, h, _⟩ := h; exact h.lt
  unfold oqObj at hB1 h1 hok1
  clear hkind h
  have hd : PSt (w.alloc (.cells #[.int .i64 o.kind, .int .u64 o.n, .string o.s, .slice A o.l.length c, .slice A2 o.t.length c2, .int .i64 o.most, .int .i64 o.long] 32)).drew ok p s := h1.below (below_drew (Below.refl _ _))
  have s5 : (w.alloc (.cells #[.int .i64 o.kind, .int .u64 o.n, .string o.s, .slice A o.l.length c, .slice A2 o.t.length c2, .int .i64 o.most, .int .i64 o.long] 32)).drew.cell? ⟨w.heap.size, 4, none⟩ = some (.slice A2 o.t.length c2) := by go_simp
  have hBd : Below w.heap.size w (w.alloc (.cells #[.int .i64 o.kind, .int .u64 o.n, .string o.s, .slice A o.l.length c, .slice A2 o.t.length c2, .int .i64 o.most, .int .i64 o.long] 32)).drew := below_drew hB1
  go_enter Try.func21, Try.ntmps21
  go_wp2_with fail
  refine wp_region_plan [] (.take 0 (.take 1 (.take 2 (.take 4 (.take 5 (.run 3 (.run 6 (.take 7 .done)))))))) (fun w' => w'.cell? ⟨w.heap.size, 4, none⟩ = some (.slice A2 o.t.length c2)) (by kernel_rfl) (by kernel_rfl) (fun c a d v w h => by cases d <;> exact h) s5 ?_
  iterate 5 (apply plan_take rfl rfl; (case hy => (intro w' hS; have s0 := hS; clear hS; go_simp; try exact rfl)); go_simp)
  refine plan_run_on rfl rfl (fun K hK => ?_)
  go_simp
  refine (mTexts_any Most Most hd hok1).mono ?_
  rintro e w2 ⟨u, rfl, ⟨A5, d5, rfl, hR5⟩, h2, c2'⟩
  obtain ⟨A7, d7, he7, _, hK7⟩ := Kd.R_reads hR5
  injection he7 with q1 q2 q3
  subst q1
  subst q3
  have hC : Chg (fun k => k = p) w w2 := (Chg.of_below hBd _).then_ c2' (fun _ h => .inl h)
  have hD2 := hC2 w2 hC
  clear hC2
  rw [hout] at hK7 ⊢
  have t5 := c2'.cell_ s5 (fun e => by dsimp only at e; omega)
  refine hK _ _ _ (fun _ h => h) t5 ?_
  clear hK K s5 hd h1 hBd hB1 hok1 hR5
  refine plan_run_on rfl rfl (fun K hK => ?_)
  go_simp
  by_cases hl : o.t.length = 0
  · have hnil : o.t = [] := List.eq_nil_of_length_eq_zero hl
    rw [hnil] at hD2 ⊢
    refine (oneTexts_any (c := d5) (d := c2) hK7 hD2).mono ?_
    rintro e w4 ⟨rfl, hB4⟩
    rw [hnil] at t5 hK
    have HF := hid (And.intro (h2.below hB4) (hC.same hB4))
    refine hK _ _ _ (fun _ h => h) (pw_cell_below hB4 t5) ?_
    clear hK K h2 hC c2' hB4 hK7 hD2 t5
    go_simp
    apply plan_take rfl rfl
    case hy => (intro w' hS; clear hS; go_simp; try exact rfl)
    go_simp
    refine plan_done ?_
    go_wp2
    go_ret
    exact ⟨_, rfl, fun h => h.elim, HF.out⟩
  · refine (shortTexts_any (m := o.t) (by omega)).mono ?_
    rintro e w4 ⟨rfl, hww⟩
    rw [hww]
    have hB4 := Below.refl w2.heap.size w2
    have HF := hid (And.intro (h2.below hB4) (hC.same hB4))
    refine hK _ _ _ (fun _ h => h) (pw_cell_below hB4 t5) ?_
    clear hK K h2 hC c2' hB4 hK7 hD2 t5
    go_simp
    apply plan_take rfl rfl
    case hy => (intro w' hS; clear hS; go_simp; try exact rfl)
    go_simp
    refine plan_done ?_
    go_wp2
    go_ret
    exact ⟨_, rfl, fun h => h.elim, HF.out⟩

set_option maxRecDepth 100000 in
set_option maxHeartbeats 4000000 in
theorem back10 {w : World} {ok : Nat → Prop} {p : Nat} {s : St} {A A2 : Option Addr} {c c2 : Nat} (o : OQ) (ho : o.ok) (h : PSt w ok p s) (hok : ∀ k, ok k → k < w.heap.size) (hkind : ¬ (1 ≤ o.kind ∧ o.kind ≤ 9)) :
  Calls Try.prog 21 #[.pointer (some ⟨p, 0, none⟩), oqAgg o A c A2 c2] w (fun e w' => e = .returned (.bool true) ∧ PSt w' ok p s ∧ Chg (fun k => k = p) w w') := by
  have k1 : (o.kind == 1) = false := by simp; omega
  have k2 : (o.kind == 2) = false := by simp; omega
  have k3 : (o.kind == 3) = false := by simp; omega
  have k4 : (o.kind == 4) = false := by simp; omega
  have k5 : (o.kind == 5) = false := by simp; omega
  have k6 : (o.kind == 6) = false := by simp; omega
  have k7 : (o.kind == 7) = false := by simp; omega
  have k8 : (o.kind == 8) = false := by simp; omega
  have k9 : (o.kind == 9) = false := by simp; omega
  have hB1 := below_alloc (Below.refl w.heap.size w) (oqObj o A c A2 c2)
  have h1 := h.below hB1
  have hok1 : ∀ k, ok k → k < (w.alloc (oqObj o A c A2 c2)).heap.size := fun k hk => Nat.lt_of_lt_of_le (hok k hk) hB1.size
  have hpl : p < w.heap.size := by obtain ⟨_, h, _⟩ := h; exact h.lt
  unfold oqObj at hB1 h1 hok1
  clear hkind h
  have HF := hid (And.intro h1 (Chg.of_below hB1 (fun k => k = p)))
  clear h1 hok1 hB1
  go_enter Try.func21, Try.ntmps21
  go_wp2
  go_ret
  exact ⟨rfl, HF.out⟩
end Go.Proofs.Ytiecljhgpbifjaa
