/- Parts of a block; Body. -/
import Derived.Test.YtekhmkfiepnnkaaSealF
set_option linter.unusedVariables false
set_option linter.unusedSimpArgs false
namespace Go.Proofs.Ytekhmkfiepnnkaa
open Go.RowKit Go.Proofs.YtekhmkfiepnnkaaW.PrintWords Go.Proofs.YtekhmkfiepnnkaaW.PrintMore

theorem bytesOf_str {xs : List Int} (h : Bytes xs) : bytesOf (strOfNums xs) = xs := by
  unfold strOfNums bytesOf
  rw [List.map_map]
  conv => rhs; rw [← List.map_id xs]
  refine List.map_congr_left (fun x hx => ?_)
  have := h x hx
  simp only [Function.comp_apply, id]
  rw [UInt8.toNat_ofNat']
  omega
theorem str_iff {xs ys : List Int} (hx : Bytes xs) (hy : Bytes ys) : strOfNums xs = strOfNums ys ↔ xs = ys := ⟨fun h => by rw [← bytesOf_str hx, ← bytesOf_str hy, h], fun h => by rw [h]⟩
theorem str_neq {S : ByteArray} {l : List UInt8} (h : ¬ S = ⟨l.toArray⟩) : (S.toList == l) = false := by
  rw [ByteArray.toList_eq, beq_eq_false_iff_ne]
  intro e
  exact h (by cases S; simp only [ByteArray.mk.injEq]; exact Array.toList_inj.1 (by simpa using e))
/-- A number at a place. -/
def numAt (b : List Int) (i n : Nat) : Int := val ((b.drop i).take n)
theorem numAt_lt {b : List Int} (h : Bytes b) {i n : Nat} (hl : i + n ≤ b.length) : 0 ≤ numAt b i n ∧ numAt b i n < 256 ^ n := by
  have := val_lt ((h.drop i).take n)
  rwa [show ((b.drop i).take n).length = n from by rw [List.length_take, List.length_drop]; omega] at this
theorem part {w : World} {ok : Nat → Prop} {a : Addr} {b : List Int} (h : RB w ok (some a) b) {i n : Nat} (hl : i + n ≤ b.length) : RB w ok (some (a.add i)) ((b.drop i).take n) := by
  intro W' hW
  have h2 : ReadsInt W' .u8 (some a) b.length b := C_int (h W' hW)
  have hlen : ((b.drop i).take n).length = n := by rw [List.length_take, List.length_drop]; omega
  refine Kd.C_of_reads (enc := Value.int .u8) (d := (0 : Int)) (h1 := fun _ => rfl) ⟨rfl, by rw [hlen]; have := h2.2.1; omega, fun hp => ?_⟩
  rw [hlen] at hp ⊢
  obtain ⟨ad, he, hc⟩ := h2.2.2 (by omega)
  cases he
  refine ⟨_, rfl, fun j hj => ?_⟩
  rw [Addr.add_add, hc (i + j) (by omega)]
  simp [List.getD_eq_getElem?_getD, List.getElem?_drop, List.getElem?_take, hj]
theorem part_len {b : List Int} {i n : Nat} (hl : i + n ≤ b.length) : ((b.drop i).take n).length = n := by rw [List.length_take, List.length_drop]; omega
theorem number_part {w : World} {ok : Nat → Prop} {a : Addr} {b : List Int} (h : RB w ok (some a) b) (hb : Bytes b) (i n c : Nat) (hl : i + n ≤ b.length) (hn : n ≤ 8) :
  Calls Try.prog 59 #[.slice (some (a.add i)) n c] w fun e w' => e = .returned (.int .u64 (numAt b i n)) ∧ w' = w := by
  have := value_any (c := c) (Kd.F_now (part h hl)) ((hb.drop i).take n) (by rw [part_len hl]; exact hn)
  rwa [part_len hl] at this
theorem read_part {w : World} {ok : Nat → Prop} {a : Addr} {b : List Int} (h : RB w ok (some a) b) (hb : Bytes b) (i n c : Nat) (hl : i + n ≤ b.length) (hn : n ≤ 8) :
  Calls Try.prog 61 #[.slice (some (a.add i)) n c] w fun e w' => e = .returned (.int .u64 (numAt b i n)) ∧ w' = w := by
  have := fvalue_any (c := c) (Kd.F_now (part h hl)) ((hb.drop i).take n) (by rw [part_len hl]; exact hn)
  rwa [part_len hl] at this
theorem clean_part {w : World} {ok : Nat → Prop} {a : Addr} {b : List Int} (h : RB w ok (some a) b) (i n c : Nat) (hl : i + n ≤ b.length) :
  Calls Try.prog 62 #[.slice (some (a.add i)) n c] w fun e w' => e = .returned (.bool (blank ((b.drop i).take n))) ∧ w' = w := by
  have := clean_any (c := c) (Kd.F_now (part h hl))
  rwa [part_len hl] at this
theorem blank_val {b : List Int} (h : Bytes b) : blank b = true ↔ val b = 0 := by
  suffices ∀ n, n ≤ b.length → (blank (b.take n) = true ↔ val (b.take n) = 0) by
    have := this b.length (Nat.le_refl _); rwa [List.take_length] at this
  intro n
  induction n with
  | zero => intro _; simp [blank, val]
  | succ n ih =>
    intro hn
    have hi := ih (by omega)
    have hx := h b[n] (List.getElem_mem (by omega))
    have hv := (val_lt (h.take n)).1
    rw [← List.take_append_getElem (by omega : n < b.length), val_snoc]
    unfold blank at *
    rw [List.all_append, Bool.and_eq_true, hi]
    simp only [List.all_cons, List.all_nil, Bool.and_true, beq_iff_eq]
    omega
/-- What Body tells. -/
def bodyOK (b : List Int) : Prop := b.length = 64 ∧ b.take 2 = [102, 98] ∧ ¬ numAt b 2 8 = 0 ∧ ¬ numAt b 12 2 = 0
instance (b : List Int) : Decidable (bodyOK b) := by unfold bodyOK; infer_instance
def bodyV (b : List Int) : Int × Int × Int × Bool := if bodyOK b then (numAt b 2 8, numAt b 10 2, numAt b 12 2, true) else (0, 0, 0, false)
def bodyT (v : Int × Int × Int × Bool) : Value := .tuple #[.int .u64 v.1, .int .i64 v.2.1, .int .i64 v.2.2.1, .bool v.2.2.2]
theorem body_no {b : List Int} (h : ¬ bodyOK b) : bodyT (bodyV b) = .tuple #[.int .u64 0, .int .i64 0, .int .i64 0, .bool false] := by unfold bodyV; rw [if_neg h]; rfl
set_option maxRecDepth 100000 in
set_option maxHeartbeats 2000000 in
theorem body_any {w : World} {ok : Nat → Prop} {A : Option Addr} {c : Nat} {b : List Int} (h : RB w ok A b) (hb : Bytes b) (hc : b.length ≤ c) :
  Calls Try.prog 16 #[.slice A b.length c] w fun e w' => e = .returned (bodyT (bodyV b)) ∧ Below w.heap.size w w' := by
  have hlm := RB_len h
  by_cases h64 : b.length = 64
  · obtain ⟨a, rfl⟩ : ∃ a, A = some a := by
      cases A with
      | none => have := RB_none h; rw [this] at h64; simp at h64
      | some a => exact ⟨a, rfl⟩
    have hp2 : RB w ok (some a) (b.take 2) := RB_take h (by omega)
    have hcv : (convert 22 9 (.slice (some a) 2 c)).run Try.prog w = .ok (.string (strOfNums (b.take 2))) w := by
      have := conv_str (c := c) (Kd.F_now hp2)
      rwa [show (b.take 2).length = 2 from by rw [List.length_take]; omega] at this
    have hs := str_iff (hb.take 2) (show Bytes [102, 98] from fun x hx => by simp at hx; omega)
    rw [show strOfNums [102, 98] = ⟨#[102, 98]⟩ from rfl] at hs
    rw [h64] at hc ⊢
    have n2 : ¬ c = 2 := by omega
    have n10 : ¬ c = 10 := by omega
    have n12 : ¬ c = 12 := by omega
    have i2 : (2 : Int) ≤ (c : Int) := by omega
    have i10 : (10 : Int) ≤ (c : Int) := by omega
    have i12 : (12 : Int) ≤ (c : Int) := by omega
    have i14 : (14 : Int) ≤ (c : Int) := by omega
    by_cases ht : b.take 2 = [102, 98]
    · have hS := hs.2 ht
      rw [hS] at hcv
      clear hs hS
      have c1 := number_part h hb 2 8 (c - 2) (by omega) (by omega)
      have c2 := number_part (RB_drew h) hb 10 2 (c - 10) (by omega) (by omega)
      have c3 := number_part (RB_drew h) hb 12 2 (c - 12) (by omega) (by omega)
      have l1 := numAt_lt hb (i := 2) (n := 8) (by omega)
      have l2 := numAt_lt hb (i := 10) (n := 2) (by omega)
      have l3 := numAt_lt hb (i := 12) (n := 2) (by omega)
      rw [show (256 : Int) ^ 8 = 18446744073709551616 from by decide] at l1
      rw [show (256 : Int) ^ 2 = 65536 from by decide] at l2 l3
      have hv : bodyT (bodyV b) = if numAt b 2 8 = 0 ∨ numAt b 12 2 = 0 then .tuple #[.int .u64 0, .int .i64 0, .int .i64 0, .bool false] else .tuple #[.int .u64 (numAt b 2 8), .int .i64 (numAt b 10 2), .int .i64 (numAt b 12 2), .bool true] := by
        by_cases h0 : numAt b 2 8 = 0 ∨ numAt b 12 2 = 0
        · rw [if_pos h0, body_no (fun hh => h0.elim hh.2.2.1 hh.2.2.2)]
        · rw [if_neg h0]
          unfold bodyV
          rw [if_pos ⟨h64, ht, fun e => h0 (.inl e), fun e => h0 (.inr e)⟩]
          rfl
      rw [hv]
      clear hv
      generalize numAt b 2 8 = g at c1 l1 ⊢
      generalize numAt b 10 2 = at_ at c2 l2 ⊢
      generalize numAt b 12 2 = k at c3 l3 ⊢
      have u2 : IntKind.i64.wrap at_ = at_ := by rw [IntKind.wrap_i64]; omega
      have u3 : IntKind.i64.wrap k = k := by rw [IntKind.wrap_i64]; omega
      by_cases hg : g = 0
      · rw [if_pos (.inl hg)]
        subst hg
        go_enter Try.func16, Try.ntmps16
        go_wp2_with fail
        refine c1.mono ?_
        rintro e w1 ⟨rfl, rfl⟩
        go_wp2_with fail
        refine wp_region_plan [] (.take 0 (.take 1 (.take 4 (.take 5 (.run 2 (.take 3 (.run 6 (.take 7 (.take 8 (.take 9 .done)))))))))) (fun _ => True) (by kernel_rfl) (by kernel_rfl) (fun c a d v w h => by cases d <;> exact h) trivial ?_
        iterate 4 (apply plan_take rfl rfl; (case hy => (intro w' hS; go_simp; try exact rfl)); go_simp)
        refine plan_run_on rfl rfl (fun K hK => ?_)
        go_simp
        refine c2.mono ?_
        rintro e w2 ⟨rfl, rfl⟩
        refine hK _ _ _ (fun _ h => h) trivial ?_
        clear hK K
        go_simp
        (apply plan_take rfl rfl; (case hy => (intro w' hS; go_simp; try exact rfl)); go_simp)
        refine plan_run_on rfl rfl (fun K hK => ?_)
        go_simp
        refine c3.mono ?_
        rintro e w2 ⟨rfl, rfl⟩
        refine hK _ _ _ (fun _ h => h) trivial ?_
        clear hK K
        go_simp
        iterate 3 (apply plan_take rfl rfl; (case hy => (intro w' hS; go_simp; try exact rfl)); go_simp)
        refine plan_done ?_
        go_wp2
        refine bodyPost_ret (results_list rfl (by simp) (.tmp (.tmp (.tmp (.tmp .nil))))) rfl ⟨rfl, (Below.refl _ _).drew⟩
      by_cases hk : k = 0
      · rw [if_pos (.inr hk)]
        subst hk
        have hg2 : (g == 0) = false := by simpa using hg
        go_enter Try.func16, Try.ntmps16
        go_wp2_with fail
        refine c1.mono ?_
        rintro e w1 ⟨rfl, rfl⟩
        go_wp2_with fail
        refine wp_region_plan [] (.take 0 (.take 1 (.take 4 (.take 5 (.run 2 (.take 3 (.run 6 (.take 7 (.take 8 (.take 9 .done)))))))))) (fun _ => True) (by kernel_rfl) (by kernel_rfl) (fun c a d v w h => by cases d <;> exact h) trivial ?_
        iterate 4 (apply plan_take rfl rfl; (case hy => (intro w' hS; go_simp; try exact rfl)); go_simp)
        refine plan_run_on rfl rfl (fun K hK => ?_)
        go_simp
        refine c2.mono ?_
        rintro e w2 ⟨rfl, rfl⟩
        refine hK _ _ _ (fun _ h => h) trivial ?_
        clear hK K
        go_simp
        (apply plan_take rfl rfl; (case hy => (intro w' hS; go_simp; try exact rfl)); go_simp)
        refine plan_run_on rfl rfl (fun K hK => ?_)
        go_simp
        refine c3.mono ?_
        rintro e w2 ⟨rfl, rfl⟩
        refine hK _ _ _ (fun _ h => h) trivial ?_
        clear hK K
        go_simp
        iterate 3 (apply plan_take rfl rfl; (case hy => (intro w' hS; go_simp; try exact rfl)); go_simp)
        refine plan_done ?_
        go_wp2
        refine bodyPost_ret (results_list rfl (by simp) (.tmp (.tmp (.tmp (.tmp .nil))))) rfl ⟨rfl, (Below.refl _ _).drew⟩
      rw [if_neg (by omega)]
      have hg2 : (g == 0) = false := by simpa using hg
      have hk2 : (k == 0) = false := by simpa using hk
      go_enter Try.func16, Try.ntmps16
      go_wp2_with fail
      refine c1.mono ?_
      rintro e w1 ⟨rfl, rfl⟩
      go_wp2_with fail
      refine wp_region_plan [] (.take 0 (.take 1 (.take 4 (.take 5 (.run 2 (.take 3 (.run 6 (.take 7 (.take 8 (.take 9 .done)))))))))) (fun _ => True) (by kernel_rfl) (by kernel_rfl) (fun c a d v w h => by cases d <;> exact h) trivial ?_
      iterate 4 (apply plan_take rfl rfl; (case hy => (intro w' hS; go_simp; try exact rfl)); go_simp)
      refine plan_run_on rfl rfl (fun K hK => ?_)
      go_simp
      refine c2.mono ?_
      rintro e w2 ⟨rfl, rfl⟩
      refine hK _ _ _ (fun _ h => h) trivial ?_
      clear hK K
      go_simp
      (apply plan_take rfl rfl; (case hy => (intro w' hS; go_simp; try exact rfl)); go_simp)
      refine plan_run_on rfl rfl (fun K hK => ?_)
      go_simp
      refine c3.mono ?_
      rintro e w2 ⟨rfl, rfl⟩
      refine hK _ _ _ (fun _ h => h) trivial ?_
      clear hK K
      go_simp
      iterate 3 (apply plan_take rfl rfl; (case hy => (intro w' hS; go_simp; try exact rfl)); go_simp)
      refine plan_done ?_
      go_wp2
      refine bodyPost_ret (results_list rfl (by simp) (.tmp (.tmp (.tmp (.tmp .nil))))) rfl ⟨rfl, (Below.refl _ _).drew⟩
    · rw [body_no (fun hh => ht hh.2.1)]
      have hS : ¬ strOfNums (b.take 2) = ⟨#[102, 98]⟩ := fun e => ht (hs.1 e)
      generalize strOfNums (b.take 2) = S at hcv hS
      have hS2 : (S.toList == [102, 98]) = false := str_neq hS
      clear hs
      go_enter Try.func16, Try.ntmps16
      go_wp2
      refine bodyPost_ret (results_list rfl (by simp) (.tmp (.tmp (.tmp (.tmp .nil))))) rfl ⟨rfl, Below.refl _ _⟩
  · rw [body_no (fun hh => h64 hh.1)]
    have hne : ((b.length : Int) != 64) = true := by simp; omega
    have hne2 : ¬ (b.length : Int) = 64 := by omega
    go_enter Try.func16, Try.ntmps16
    go_wp2
    refine bodyPost_ret (results_list rfl (by simp) (.tmp (.tmp (.tmp (.tmp .nil))))) rfl ⟨rfl, Below.refl _ _⟩

theorem RB_some {w : World} {ok : Nat → Prop} {A : Option Addr} {b : List Int} (h : RB w ok A b) (h0 : 0 < b.length) : ∃ a, A = some a := by
  cases A with
  | none => rw [RB_none h] at h0; simp at h0
  | some a => exact ⟨a, rfl⟩
theorem first2 {b : List Int} (h : b.length = 64) (x y : Int) : b.take 2 = [x, y] ↔ b[0]'(by omega) = x ∧ b[1]'(by omega) = y := by
  match b, h with
  | p :: q :: r, h => simp
set_option maxRecDepth 100000 in
set_option maxHeartbeats 4000000 in
theorem fbody_any {w : World} {ok : Nat → Prop} {A : Option Addr} {c : Nat} {b : List Int} (h : RB w ok A b) (hb : Bytes b) (hc : b.length ≤ c) :
  Calls Try.prog 17 #[.slice A b.length c] w fun e w' => e = .returned (bodyT (bodyV b)) ∧ Below w.heap.size w w' := by
  have hlm := RB_len h
  by_cases h64 : b.length = 64
  · obtain ⟨a, rfl⟩ := RB_some h (by omega)
    have hR := RB_int h
    obtain ⟨ad, e0, k0⟩ := hR.at_ 0 (by omega) (by omega)
    cases e0
    obtain ⟨ad, e0, k1⟩ := hR.at_ 1 (by omega) (by omega)
    cases e0
    simp only [rd, Int.toNat_zero, show (1 : Int).toNat = 1 from rfl, List.getD_eq_getElem?_getD] at k0 k1
    rw [List.getElem?_eq_getElem (by omega), Option.getD_some] at k0 k1
    have k0' : w.cell? a = some (.int .u8 (b[0]'(by omega))) := by simpa [Addr.add] using k0
    have k1' : w.cell? { block := a.block, off := a.off + 1 } = some (.int .u8 (b[1]'(by omega))) := by simpa [Addr.add] using k1
    have hf := first2 h64 102 98
    have hno : ¬ bodyOK b ↔ (¬ b[0]'(by omega) = 102 ∨ ¬ b[1]'(by omega) = 98 ∨ numAt b 2 8 = 0 ∨ numAt b 12 2 = 0) := by
      unfold bodyOK
      rw [hf]
      constructor
      · intro hh
        by_cases q0 : b[0]'(by omega) = 102
        · by_cases q1 : b[1]'(by omega) = 98
          · by_cases q2 : numAt b 2 8 = 0
            · exact .inr (.inr (.inl q2))
            · by_cases q3 : numAt b 12 2 = 0
              · exact .inr (.inr (.inr q3))
              · exact absurd ⟨h64, ⟨q0, q1⟩, q2, q3⟩ hh
          · exact .inr (.inl q1)
        · exact .inl q0
      · rintro (q | q | q | q) ⟨_, ⟨h0, h1⟩, h2, h3⟩
        · exact q h0
        · exact q h1
        · exact h2 q
        · exact h3 q
    have hv2 : ¬ bodyOK b → bodyT (bodyV b) = .tuple #[.int .u64 0, .int .i64 0, .int .i64 0, .bool false] := body_no
    have hv1 : ¬ ¬ bodyOK b → bodyT (bodyV b) = .tuple #[.int .u64 (numAt b 2 8), .int .i64 (numAt b 10 2), .int .i64 (numAt b 12 2), .bool true] := fun hh => by
      unfold bodyV
      rw [if_pos (Decidable.not_not.1 hh)]
      rfl
    rw [hno] at hv1 hv2
    rw [h64] at hc ⊢
    have n2 : ¬ c = 2 := by omega
    have n10 : ¬ c = 10 := by omega
    have n12 : ¬ c = 12 := by omega
    have i2 : (2 : Int) ≤ (c : Int) := by omega
    have i10 : (10 : Int) ≤ (c : Int) := by omega
    have i12 : (12 : Int) ≤ (c : Int) := by omega
    have i14 : (14 : Int) ≤ (c : Int) := by omega
    have d1 := clean_part h 2 8 (c - 2) (by omega)
    have d3 := clean_part h 12 2 (c - 12) (by omega)
    have z1 : blank ((b.drop 2).take 8) = decide (numAt b 2 8 = 0) := by
      rw [Bool.eq_iff_iff, blank_val ((hb.drop 2).take 8), decide_eq_true_eq]; rfl
    have z3 : blank ((b.drop 12).take 2) = decide (numAt b 12 2 = 0) := by
      rw [Bool.eq_iff_iff, blank_val ((hb.drop 12).take 2), decide_eq_true_eq]; rfl
    rw [z1] at d1
    rw [z3] at d3
    have c1 := read_part (RB_drew h) hb 2 8 (c - 2) (by omega) (by omega)
    have c2 := read_part (RB_drew h) hb 10 2 (c - 10) (by omega) (by omega)
    have c3 := read_part (RB_drew h) hb 12 2 (c - 12) (by omega) (by omega)
    have l1 := numAt_lt hb (i := 2) (n := 8) (by omega)
    have l2 := numAt_lt hb (i := 10) (n := 2) (by omega)
    have l3 := numAt_lt hb (i := 12) (n := 2) (by omega)
    rw [show (256 : Int) ^ 8 = 18446744073709551616 from by decide] at l1
    rw [show (256 : Int) ^ 2 = 65536 from by decide] at l2 l3
    have m64 : b.length = 64 := h64
    clear hno hf z1 z3 hR
    generalize bodyT (bodyV b) = R at hv1 hv2 ⊢
    generalize b[0]'(by omega) = x0 at k0 k0' hv1 hv2
    generalize b[1]'(by omega) = x1 at k1 k1' hv1 hv2
    generalize numAt b 2 8 = g at c1 l1 d1 hv1 hv2
    generalize numAt b 10 2 = at_ at c2 l2 hv1 hv2
    generalize numAt b 12 2 = k at c3 l3 d3 hv1 hv2
    have u2 : IntKind.i64.wrap at_ = at_ := by rw [IntKind.wrap_i64]; omega
    have u3 : IntKind.i64.wrap k = k := by rw [IntKind.wrap_i64]; omega
    have bend : Below w.heap.size w w := Below.refl _ _
    by_cases q0 : x0 = 102
    · subst q0
      by_cases q1 : x1 = 98
      · subst q1
        by_cases q2 : g = 0
        · rw [hv2 (by omega)]
          subst q2
          clear hv1 hv2
          go_enter Try.func17, Try.ntmps17
          go_wp2_with (go_at_call 62; refine d1.mono ?_; rintro e w' ⟨rfl, rfl⟩)
          refine bodyPost_ret (results_list rfl (by simp) (.tmp (.tmp (.tmp (.tmp .nil))))) rfl ⟨rfl, Below.refl _ _⟩
        · by_cases q3 : k = 0
          · rw [hv2 (by omega)]
            subst q3
            rw [show decide (g = 0) = false from by simpa using q2] at d1
            clear hv1 hv2
            go_enter Try.func17, Try.ntmps17
            go_wp2_with (first | (go_at_call 62; refine d1.mono ?_; clear d1; rintro e w' ⟨rfl, rfl⟩) | (go_at_call 62; refine d3.mono ?_; rintro e w' ⟨rfl, rfl⟩))
            refine bodyPost_ret (results_list rfl (by simp) (.tmp (.tmp (.tmp (.tmp .nil))))) rfl ⟨rfl, Below.refl _ _⟩
          · rw [hv1 (by omega)]
            rw [show decide (g = 0) = false from by simpa using q2] at d1
            rw [show decide (k = 0) = false from by simpa using q3] at d3
            clear hv1 hv2
            go_enter Try.func17, Try.ntmps17
            go_wp2_with (first | (go_at_call 62; refine d1.mono ?_; clear d1; rintro e w' ⟨rfl, rfl⟩) | (go_at_call 62; refine d3.mono ?_; rintro e w' ⟨rfl, rfl⟩))
            refine wp_region_plan [] (.take 0 (.take 1 (.take 3 (.take 4 (.take 7 (.take 8 (.run 2 (.run 5 (.take 6 (.run 9 (.take 10 (.take 11 (.take 12 (.take 13 (.take 14 .done))))))))))))))) (fun _ => True) (by kernel_rfl) (by kernel_rfl) (fun c a d v w h => by cases d <;> exact h) trivial ?_
            iterate 6 (apply plan_take rfl rfl; (case hy => (intro w' hS; go_simp; try exact rfl)); go_simp)
            refine plan_run_on rfl rfl (fun K hK => ?_)
            go_simp
            refine c1.mono ?_
            rintro e w2 ⟨rfl, rfl⟩
            refine hK _ _ _ (fun _ h => h) trivial ?_
            clear hK K
            go_simp
            refine plan_run_on rfl rfl (fun K hK => ?_)
            go_simp
            refine c2.mono ?_
            rintro e w2 ⟨rfl, rfl⟩
            refine hK _ _ _ (fun _ h => h) trivial ?_
            clear hK K
            go_simp
            (apply plan_take rfl rfl; (case hy => (intro w' hS; go_simp; try exact rfl)); go_simp)
            refine plan_run_on rfl rfl (fun K hK => ?_)
            go_simp
            refine c3.mono ?_
            rintro e w2 ⟨rfl, rfl⟩
            refine hK _ _ _ (fun _ h => h) trivial ?_
            clear hK K
            go_simp
            iterate 5 (apply plan_take rfl rfl; (case hy => (intro w' hS; go_simp; try exact rfl)); go_simp)
            refine plan_done ?_
            go_wp2
            refine bodyPost_ret (results_list rfl (by simp) (.tmp (.tmp (.tmp (.tmp .nil))))) rfl ⟨rfl, (Below.refl _ _).drew⟩
      · rw [hv2 (by omega)]
        have q1' : (x1 == 98) = false := by simpa using q1
        have q1'' : (x1 != 98) = true := by simpa using q1
        clear hv1 hv2
        go_enter Try.func17, Try.ntmps17
        go_wp2
        refine bodyPost_ret (results_list rfl (by simp) (.tmp (.tmp (.tmp (.tmp .nil))))) rfl ⟨rfl, Below.refl _ _⟩
    · rw [hv2 (by omega)]
      have q0' : (x0 == 102) = false := by simpa using q0
      have q0'' : (x0 != 102) = true := by simpa using q0
      clear hv1 hv2
      go_enter Try.func17, Try.ntmps17
      go_wp2
      refine bodyPost_ret (results_list rfl (by simp) (.tmp (.tmp (.tmp (.tmp .nil))))) rfl ⟨rfl, Below.refl _ _⟩
  · rw [body_no (fun hh => h64 hh.1)]
    have hne : ((b.length : Int) != 64) = true := by simp; omega
    have hne2 : ¬ (b.length : Int) = 64 := by omega
    go_enter Try.func17, Try.ntmps17
    go_wp2
    refine bodyPost_ret (results_list rfl (by simp) (.tmp (.tmp (.tmp (.tmp .nil))))) rfl ⟨rfl, Below.refl _ _⟩
end Go.Proofs.Ytekhmkfiepnnkaa
