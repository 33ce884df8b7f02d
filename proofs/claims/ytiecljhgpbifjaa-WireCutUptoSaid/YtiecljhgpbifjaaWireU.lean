/- The document's reader: Byte, Bool, Short, Int, Long, many, Left, Done. -/
import Derived.Test.YtiecljhgpbifjaaWireT
set_option linter.unusedVariables false
set_option linter.unusedSimpArgs false
namespace Go.Proofs.Ytiecljhgpbifjaa
open Go.RowKit Go.Proofs.YtiecljhgpbifjaaW.PrintWords

theorem num_bound {w : World} {ok : Nat → Prop} {q : Nat} {s : St} (h : PFt w ok q s) (n : Nat) : 0 ≤ s.out (oNum n s.b) 0 ∧ s.out (oNum n s.b) 0 < 256 ^ n := by
  have hpos : (0 : Int) < 256 ^ n := Int.pow_pos (by decide)
  obtain ⟨B, at_, hp, hb⟩ := h
  unfold St.out
  by_cases he : s.e = 0
  · simp only [he, if_true]
    have hX : Bytes s.b := by rw [← hb he]; exact hp.bytes.drop _
    unfold oNum
    by_cases hn : n ≤ s.b.length
    · rw [if_pos hn]
      have := val_lt (hX.take n)
      rw [List.length_take, Nat.min_eq_left hn] at this
      exact this
    · rw [if_neg hn]
      exact ⟨Int.le_refl _, hpos⟩
  · simp only [he, if_false]
    exact ⟨Int.le_refl _, hpos⟩
/-- Two states tell the same. -/
def Alike_ (s s' : St) : Prop := s'.e = s.e ∧ (s.e = 0 → s'.b = s.b)
theorem Alike_.rfl' (s : St) : Alike_ s s := ⟨rfl, fun _ => rfl⟩
theorem bool_num (s : St) : (1 < s.out (oNum 1 s.b) 0 → Alike_ ((s.took (oNum 1 s.b)).fail 42) (s.took (oBool s.b))) ∧ (¬ 1 < s.out (oNum 1 s.b) 0 → s.took (oBool s.b) = s.took (oNum 1 s.b)) ∧ s.out (oBool s.b) false = decide (s.out (oNum 1 s.b) 0 = 1) := by
  unfold St.out St.took St.fail oBool
  by_cases he : s.e = 0
  · simp only [he, if_true]
    rcases oNum 1 s.b with x | ⟨v, r⟩
    · exact ⟨fun h => absurd h (by show ¬ (1 : Int) < 0; decide), fun _ => rfl, rfl⟩
    · dsimp only
      by_cases hv : 1 < v
      · rw [if_pos hv]
        refine ⟨fun _ => ⟨rfl, fun h0 => absurd h0 (by show ¬ (42 : Int) = 0; decide)⟩, fun h => absurd hv h, ?_⟩
        have : ¬ v = 1 := by omega
        simp [this]
      · rw [if_neg hv]
        exact ⟨fun h => absurd h hv, fun _ => rfl, rfl⟩
  · simp only [he, if_false]
    exact ⟨fun h => absurd h (by decide), fun _ => trivial, rfl⟩
theorem int_num (s : St) : (2147483647 < s.out (oNum 4 s.b) 0 → Alike_ ((s.took (oNum 4 s.b)).fail 42) (s.took (oInt s.b)) ∧ s.out (oInt s.b) 0 = 0) ∧ (¬ 2147483647 < s.out (oNum 4 s.b) 0 → s.took (oInt s.b) = s.took (oNum 4 s.b) ∧ s.out (oInt s.b) 0 = s.out (oNum 4 s.b) 0) := by
  unfold St.out St.took St.fail oInt
  by_cases he : s.e = 0
  · simp only [he, if_true]
    rcases oNum 4 s.b with x | ⟨v, r⟩
    · exact ⟨fun h => absurd h (by show ¬ (2147483647 : Int) < 0; decide), fun _ => ⟨rfl, rfl⟩⟩
    · dsimp only
      by_cases hv : 2147483647 < v
      · rw [if_pos hv]
        exact ⟨fun _ => ⟨⟨rfl, fun h0 => absurd h0 (by show ¬ (42 : Int) = 0; decide)⟩, rfl⟩, fun h => absurd hv h⟩
      · rw [if_neg hv]
        exact ⟨fun h => absurd h hv, fun _ => ⟨rfl, rfl⟩⟩
  · simp only [he, if_false]
    exact ⟨fun h => absurd h (by decide), fun _ => ⟨trivial, trivial⟩⟩
theorem count_int (s : St) (most : Int) : (max most 0 < s.out (oInt s.b) 0 → Alike_ ((s.took (oInt s.b)).fail 3) (s.took (oCount most s.b)) ∧ s.out (oCount most s.b) 0 = 0) ∧ (¬ max most 0 < s.out (oInt s.b) 0 → s.took (oCount most s.b) = s.took (oInt s.b) ∧ s.out (oCount most s.b) 0 = s.out (oInt s.b) 0) := by
  unfold St.out St.took St.fail oCount
  by_cases he : s.e = 0
  · simp only [he, if_true]
    rcases oInt s.b with x | ⟨v, r⟩
    · exact ⟨fun h => absurd h (by show ¬ max most 0 < 0; omega), fun _ => ⟨rfl, rfl⟩⟩
    · dsimp only
      by_cases hv : max most 0 < v
      · rw [if_pos hv]
        exact ⟨fun _ => ⟨⟨rfl, fun h0 => absurd h0 (by show ¬ (3 : Int) = 0; decide)⟩, rfl⟩, fun h => absurd hv h⟩
      · rw [if_neg hv]
        exact ⟨fun h => absurd h hv, fun _ => ⟨rfl, rfl⟩⟩
  · simp only [he, if_false]
    exact ⟨fun h => absurd h (by omega), fun _ => ⟨trivial, trivial⟩⟩
theorem fbyte_any {w : World} {ok : Nat → Prop} {q : Nat} {s : St} (h : PFt w ok q s) :
  Calls Try.prog 43 #[.pointer (some ⟨q, 0, none⟩)] w (TookF ok q w s (oNum 1 s.b) 0 fun v _ u => u = .int .u8 v) := by
  have hb := num_bound h 1
  have ht := take_any 1 (by omega) h
  obtain ⟨v, hv⟩ : ∃ v, s.out (oNum 1 s.b) 0 = v := ⟨_, rfl⟩
  rw [hv] at hb
  have hw1 : IntKind.u8.wrap v = v := by rw [IntKind.wrap_u8]; omega
  go_enter Try.func43, Try.ntmps43
  go_wp2_with fail
  refine ht.mono ?_
  rintro e w1 ⟨u, rfl, rfl, h1, c1⟩
  rw [hv]
  have HF := hid (And.intro h1 c1)
  clear h1 c1
  go_wp2
  go_ret
  exact ⟨_, rfl, by rw [hv]; rfl, HF.out⟩
theorem fshort_any {w : World} {ok : Nat → Prop} {q : Nat} {s : St} (h : PFt w ok q s) :
  Calls Try.prog 46 #[.pointer (some ⟨q, 0, none⟩)] w (TookF ok q w s (oNum 2 s.b) 0 fun v _ u => u = .int .i64 v) := by
  have hb := num_bound h 2
  have ht := take_any 2 (by omega) h
  obtain ⟨v, hv⟩ : ∃ v, s.out (oNum 2 s.b) 0 = v := ⟨_, rfl⟩
  rw [hv] at hb
  have hw1 : IntKind.i64.wrap v = v := by rw [IntKind.wrap_i64]; omega
  go_enter Try.func46, Try.ntmps46
  go_wp2_with fail
  refine ht.mono ?_
  rintro e w1 ⟨u, rfl, rfl, h1, c1⟩
  rw [hv]
  have HF := hid (And.intro h1 c1)
  clear h1 c1
  go_wp2
  go_ret
  exact ⟨_, rfl, by rw [hv]; rfl, HF.out⟩
theorem flong_any {w : World} {ok : Nat → Prop} {q : Nat} {s : St} (h : PFt w ok q s) :
  Calls Try.prog 49 #[.pointer (some ⟨q, 0, none⟩)] w (TookF ok q w s (oNum 8 s.b) 0 fun v _ u => u = .int .u64 v) := by
  have ht := take_any 8 (by omega) h
  obtain ⟨v, hv⟩ : ∃ v, s.out (oNum 8 s.b) 0 = v := ⟨_, rfl⟩
  go_enter Try.func49, Try.ntmps49
  go_wp2_with fail
  refine ht.mono ?_
  rintro e w1 ⟨u, rfl, rfl, h1, c1⟩
  rw [hv]
  have HF := hid (And.intro h1 c1)
  clear h1 c1
  go_wp2
  go_ret
  exact ⟨_, rfl, by rw [hv]; rfl, HF.out⟩
theorem fbool_any {w : World} {ok : Nat → Prop} {q : Nat} {s : St} (h : PFt w ok q s) :
  Calls Try.prog 44 #[.pointer (some ⟨q, 0, none⟩)] w (TookF ok q w s (oBool s.b) false fun v _ u => u = .bool v) := by
  have ht := take_any 1 (by omega) h
  obtain ⟨hbig, hsm, hout⟩ := bool_num s
  obtain ⟨v, hv⟩ : ∃ v, s.out (oNum 1 s.b) 0 = v := ⟨_, rfl⟩
  rw [hv] at hbig hsm hout
  by_cases hv1 : 1 < v
  · have hal := hbig hv1
    have HO := hid hout
    clear hbig hsm hout
    go_enter Try.func44, Try.ntmps44
    go_wp2_with fail
    refine ht.mono ?_
    rintro e w1 ⟨u, rfl, rfl, h1, c1⟩
    rw [hv]
    go_wp2_with fail
    refine (ffail_any 42 h1).mono ?_
    rintro e w2 ⟨rfl, h2, c2⟩
    have HF := hid (And.intro (h2.irr hal.1 hal.2) (chg_p c1 c2))
    clear h1 c1 h2 c2
    go_wp2
    go_ret
    exact ⟨_, rfl, by rw [HO.out]; rfl, HF.out⟩
  · have hsm := hsm hv1
    have HO := hid (And.intro hout hsm)
    clear hbig hsm hout
    go_enter Try.func44, Try.ntmps44
    go_wp2_with fail
    refine ht.mono ?_
    rintro e w1 ⟨u, rfl, rfl, h1, c1⟩
    rw [hv]
    rw [← HO.out.2] at h1
    have HF := hid (And.intro h1 c1)
    clear h1 c1
    go_wp2
    go_ret
    exact ⟨_, rfl, by rw [HO.out.1]; rfl, HF.out⟩
theorem fint_any {w : World} {ok : Nat → Prop} {q : Nat} {s : St} (h : PFt w ok q s) :
  Calls Try.prog 48 #[.pointer (some ⟨q, 0, none⟩)] w (TookF ok q w s (oInt s.b) 0 fun v _ u => u = .int .i64 v) := by
  have hb := num_bound h 4
  have ht := take_any 4 (by omega) h
  obtain ⟨hbig, hsm⟩ := int_num s
  obtain ⟨v, hv⟩ : ∃ v, s.out (oNum 4 s.b) 0 = v := ⟨_, rfl⟩
  rw [hv] at hb hbig hsm
  by_cases hv1 : 2147483647 < v
  · obtain ⟨hal, hout⟩ := hbig hv1
    have HO := hid hout
    clear hbig hsm hout
    go_enter Try.func48, Try.ntmps48
    go_wp2_with fail
    refine ht.mono ?_
    rintro e w1 ⟨u, rfl, rfl, h1, c1⟩
    rw [hv]
    go_wp2_with fail
    refine (ffail_any 42 h1).mono ?_
    rintro e w2 ⟨rfl, h2, c2⟩
    have HF := hid (And.intro (h2.irr hal.1 hal.2) (chg_p c1 c2))
    clear h1 c1 h2 c2
    go_wp2
    go_ret
    exact ⟨_, rfl, by rw [HO.out]; rfl, HF.out⟩
  · obtain ⟨hs, hout⟩ := hsm hv1
    have HO := hid (And.intro hout hs)
    have hw1 : IntKind.i64.wrap v = v := by rw [IntKind.wrap_i64]; omega
    clear hbig hsm hout hs
    go_enter Try.func48, Try.ntmps48
    go_wp2_with fail
    refine ht.mono ?_
    rintro e w1 ⟨u, rfl, rfl, h1, c1⟩
    rw [hv]
    rw [← HO.out.2] at h1
    have HF := hid (And.intro h1 c1)
    clear h1 c1
    go_wp2
    go_ret
    exact ⟨_, rfl, by rw [HO.out.1]; rfl, HF.out⟩
theorem int_le (s : St) : s.out (oInt s.b) 0 ≤ 2147483647 := by
  by_cases h : 2147483647 < s.out (oNum 4 s.b) 0
  · rw [((int_num s).1 h).2]; decide
  · rw [((int_num s).2 h).2]; omega
theorem fmany_any {w : World} {ok : Nat → Prop} {q : Nat} {s : St} (most : Int) (h : PFt w ok q s) :
  Calls Try.prog 79 #[.pointer (some ⟨q, 0, none⟩), .int .i64 most] w (TookF ok q w s (oCount most s.b) 0 fun v _ u => u = .int .i64 v) := by
  have ht := fint_any h
  obtain ⟨hbig, hsm⟩ := count_int s most
  obtain ⟨v, hv⟩ : ∃ v, s.out (oInt s.b) 0 = v := ⟨_, rfl⟩
  rw [hv] at hbig hsm
  by_cases hv1 : max most 0 < v
  · obtain ⟨hal, hout⟩ := hbig hv1
    have HO := hid hout
    clear hbig hsm hout
    have hm1 : most < v := by omega
    have hm2 : 0 < v := by omega
    clear hv1
    go_enter Try.func79, Try.ntmps79
    go_wp2_with fail
    refine ht.mono ?_
    rintro e w1 ⟨u, rfl, rfl, h1, c1⟩
    rw [hv]
    go_wp2_with fail
    refine (ffail_any 3 h1).mono ?_
    rintro e w2 ⟨rfl, h2, c2⟩
    have HF := hid (And.intro (h2.irr hal.1 hal.2) (chg_p c1 c2))
    clear h1 c1 h2 c2
    go_wp2
    go_ret
    exact ⟨_, rfl, by rw [HO.out]; rfl, HF.out⟩
  · obtain ⟨hs, hout⟩ := hsm hv1
    have HO := hid (And.intro hout hs)
    clear hbig hsm hout hs
    have hm2 : most < v → ¬ 0 < v := fun h => by omega
    clear hv1
    by_cases hm1 : most < v
    · have hm2 := hm2 hm1
      go_enter Try.func79, Try.ntmps79
      go_wp2_with fail
      refine ht.mono ?_
      rintro e w1 ⟨u, rfl, rfl, h1, c1⟩
      rw [hv]
      rw [← HO.out.2] at h1
      have HF := hid (And.intro h1 c1)
      clear h1 c1
      go_wp2
      go_ret
      exact ⟨_, rfl, by rw [HO.out.1]; rfl, HF.out⟩
    · clear hm2
      go_enter Try.func79, Try.ntmps79
      go_wp2_with fail
      refine ht.mono ?_
      rintro e w1 ⟨u, rfl, rfl, h1, c1⟩
      rw [hv]
      rw [← HO.out.2] at h1
      have HF := hid (And.intro h1 c1)
      clear h1 c1
      go_wp2
      go_ret
      exact ⟨_, rfl, by rw [HO.out.1]; rfl, HF.out⟩
theorem fleft_any {w : World} {ok : Nat → Prop} {q : Nat} {s : St} (h : PFt w ok q s) :
  Calls Try.prog 17 #[.pointer (some ⟨q, 0, none⟩)] w fun e w' => e = .returned (.int .i64 s.left) ∧ Below w.heap.size w w' := by
  obtain ⟨B, at_, hp, hb⟩ := h
  obtain ⟨_, hX, hle, hsh, A, c, hblk, hr, h1⟩ := hp
  have c0 := cell_of_row w q 0 _ _ _ hblk
  have c1 := cell_of_row w q 1 _ _ _ hblk
  have c2 := cell_of_row w q 2 _ _ _ hblk
  simp at c0 c1 c2
  clear hblk
  by_cases he : s.e = 0
  · have hs := hb he
    have hl : s.left = (B.length : Int) - at_ := by simp only [St.left, he, if_true]; rw [← hs, List.length_drop]; omega
    have hsub : IntKind.i64.wrap ((B.length : Int) - at_) = B.length - at_ := by rw [IntKind.wrap_i64]; omega
    rw [hl]
    rw [he] at c2
    clear hs hb
    go_enter Try.func17, Try.ntmps17
    go_wp2_with fail
    refine wp_region_plan [] (.take 0 (.take 1 (.take 2 (.take 3 (.take 4 (.take 5 (.take 6 (.take 7 (.take 8 (.take 9 (.take 10 .done))))))))))) (fun w' => w'.cell? ⟨q, 0, none⟩ = some (.slice A B.length c) ∧ w'.cell? ⟨q, 1, none⟩ = some (.int .i64 at_)) (by kernel_rfl) (by kernel_rfl) (fun c a d v w h => by cases d <;> exact h) ⟨c0, c1⟩ ?_
    iterate 11 (apply plan_take rfl rfl; (case hy => (intro w' hS; obtain ⟨s0, s1⟩ := hS; go_simp; try exact rfl)); go_simp)
    refine plan_done ?_
    go_wp2
    go_ret
    exact ⟨rfl, below_drew (Below.refl _ _)⟩
  · have hl : s.left = 0 := by simp only [St.left, he, if_false]
    rw [hl]
    go_enter Try.func17, Try.ntmps17
    go_wp2
    go_ret
    exact ⟨rfl, Below.refl _ _⟩
theorem fdone_any {w : World} {ok : Nat → Prop} {q : Nat} {s : St} (h : PFt w ok q s) :
  Calls Try.prog 20 #[.pointer (some ⟨q, 0, none⟩)] w fun e w' => e = .returned (.int .i64 s.done) ∧ Below w.heap.size w w' := by
  obtain ⟨B, at_, hp, hb⟩ := h
  obtain ⟨_, hX, hle, hsh, A, c, hblk, hr, h1⟩ := hp
  have c0 := cell_of_row w q 0 _ _ _ hblk
  have c1 := cell_of_row w q 1 _ _ _ hblk
  have c2 := cell_of_row w q 2 _ _ _ hblk
  simp at c0 c1 c2
  clear hblk
  by_cases he : s.e = 0
  · have hs := hb he
    rw [he] at c2
    have hbl : B.length = at_ + s.b.length := by rw [← hs, List.length_drop]; omega
    by_cases hlt : (at_ : Int) < (B.length : Int)
    · have hd : s.done = 41 := by unfold St.done; rw [if_pos ⟨he, by omega⟩]
      rw [hd]
      clear hs hb
      go_enter Try.func20, Try.ntmps20
      go_wp2_with fail
      refine wp_region_plan [] (.take 0 (.take 1 (.take 2 (.take 3 (.take 4 (.take 5 (.take 6 (.take 7 (.take 8 (.take 9 (.take 10 (.take 11 (.take 12 (.take 13 (.take 14 (.take 15 (.take 16 .done))))))))))))))))) (fun w' => w'.cell? ⟨q, 0, none⟩ = some (.slice A B.length c) ∧ w'.cell? ⟨q, 1, none⟩ = some (.int .i64 at_) ∧ w'.cell? ⟨q, 2, none⟩ = some (.int .i64 0)) (by kernel_rfl) (by kernel_rfl) (fun c a d v w h => by cases d <;> exact h) ⟨c0, c1, c2⟩ ?_
      iterate 17 (apply plan_take rfl rfl; (case hy => (intro w' hS; obtain ⟨s0, s1, s2⟩ := hS; go_simp; try exact rfl)); go_simp)
      refine plan_done ?_
      go_wp2
      go_ret
      exact ⟨rfl, below_drew (Below.refl _ _)⟩
    · have hd : s.done = 0 := by unfold St.done; rw [if_neg (by omega), he]
      rw [hd]
      clear hs hb
      go_enter Try.func20, Try.ntmps20
      go_wp2_with fail
      refine wp_region_plan [] (.take 0 (.take 1 (.take 2 (.take 3 (.take 4 (.take 5 (.take 6 (.take 7 (.take 8 (.take 9 (.take 10 (.take 11 (.take 12 (.take 13 (.take 14 (.take 15 (.take 16 .done))))))))))))))))) (fun w' => w'.cell? ⟨q, 0, none⟩ = some (.slice A B.length c) ∧ w'.cell? ⟨q, 1, none⟩ = some (.int .i64 at_) ∧ w'.cell? ⟨q, 2, none⟩ = some (.int .i64 0)) (by kernel_rfl) (by kernel_rfl) (fun c a d v w h => by cases d <;> exact h) ⟨c0, c1, c2⟩ ?_
      iterate 17 (apply plan_take rfl rfl; (case hy => (intro w' hS; obtain ⟨s0, s1, s2⟩ := hS; go_simp; try exact rfl)); go_simp)
      refine plan_done ?_
      go_wp2
      go_ret
      exact ⟨rfl, below_drew (Below.refl _ _)⟩
  · have hd : s.done = s.e := by unfold St.done; rw [if_neg (fun h => he h.1)]
    rw [hd]
    go_enter Try.func20, Try.ntmps20
    go_wp2_with fail
    refine wp_region_plan [] (.take 0 (.take 1 (.take 2 (.take 3 (.take 4 (.take 5 (.take 6 (.take 7 (.take 8 (.take 9 (.take 10 (.take 11 (.take 12 (.take 13 (.take 14 (.take 15 (.take 16 .done))))))))))))))))) (fun w' => w'.cell? ⟨q, 0, none⟩ = some (.slice A B.length c) ∧ w'.cell? ⟨q, 1, none⟩ = some (.int .i64 at_) ∧ w'.cell? ⟨q, 2, none⟩ = some (.int .i64 s.e)) (by kernel_rfl) (by kernel_rfl) (fun c a d v w h => by cases d <;> exact h) ⟨c0, c1, c2⟩ ?_
    iterate 6 (apply plan_take rfl rfl; (case hy => (intro w' hS; obtain ⟨s0, s1, s2⟩ := hS; go_simp; try exact rfl)); go_simp)
    have hb0 : (s.e == 0) = false := by simp [he]
    simp only [hb0]
    iterate 10 (refine plan_skip rfl rfl ?_; go_simp)
    (apply plan_take rfl rfl; (case hy => (intro w' hS; obtain ⟨s0, s1, s2⟩ := hS; go_simp; try exact rfl)); go_simp)
    refine plan_done ?_
    have c2' : w.drew.cell? ⟨q, 2, none⟩ = some (.int .i64 s.e) := c2
    go_wp2
    go_ret
    exact ⟨rfl, below_drew (Below.refl _ _)⟩
end Go.Proofs.Ytiecljhgpbifjaa
