/- The program's reader: its state (St), and what its methods that take a number or a bool do with it. -/
import Derived.Test.YtiecljhgpbifjaaWireG
set_option linter.unusedVariables false
set_option linter.unusedSimpArgs false
namespace Go.Proofs.Ytiecljhgpbifjaa
open Go.RowKit Go.Proofs.YtiecljhgpbifjaaW.PrintWords

/-- A reader's state: the bytes that are left (of no weight where there is an error), the error. -/
structure St where
  b : List Int
  e : Int
def St.took {α : Type} (s : St) (o : Out α) : St := if s.e = 0 then (match o with
  | .ok (_, r) => ⟨r, 0⟩
  | .error x => ⟨[], x⟩) else s
def St.out {α : Type} (s : St) (o : Out α) (z : α) : α := if s.e = 0 then (match o with
  | .ok (v, _) => v
  | .error _ => z) else z
/-- The program's reader is in a state. -/
def PSt (w : World) (ok : Nat → Prop) (p : Nat) (s : St) : Prop := ∃ b, PRd w ok p b s.e ∧ (s.e = 0 → b = s.b)
theorem PSt.step {w w1 : World} {ok : Nat → Prop} {p : Nat} {s : St} (h : PSt w ok p s) (hm : ∀ k, ok k → k < w.heap.size → w1.heap[k]? = w.heap[k]?) : PSt w1 ok p s := by
  obtain ⟨b, h1, h2⟩ := h; exact ⟨b, h1.step hm, h2⟩
theorem PSt.below {w w1 : World} {ok : Nat → Prop} {p : Nat} {s : St} (h : PSt w ok p s) (hm : Below w.heap.size w w1) : PSt w1 ok p s := h.step (fun k _ hk => hm.block k hk)
theorem PSt.mono {w : World} {ok ok' : Nat → Prop} {p : Nat} {s : St} (h : PSt w ok p s) (hs : ∀ k, ok k → ok' k) : PSt w ok' p s := by
  obtain ⟨b, h1, h2⟩ := h; exact ⟨b, h1.mono hs, h2⟩
/-- No outcome's error is 0. -/
def Errs {α : Type} (o : Out α) : Prop := ∀ x, o = .error x → x ≠ 0
theorem errs_num (n : Nat) (b : List Int) : Errs (oNum n b) := by
  intro x h
  unfold oNum at h
  split at h
  · cases h
  · injection h with h; omega
theorem errs_int (b : List Int) : Errs (oInt b) := by
  intro x h
  unfold oInt at h
  split at h
  · split at h
    · injection h with h; omega
    · cases h
  · rename_i e he
    injection h with h
    exact h ▸ errs_num 4 b e he
theorem errs_bool (b : List Int) : Errs (oBool b) := by
  intro x h
  unfold oBool at h
  split at h
  · split at h
    · injection h with h; omega
    · cases h
  · rename_i e he
    injection h with h
    exact h ▸ errs_num 1 b e he
theorem errs_count (most : Int) (b : List Int) : Errs (oCount most b) := by
  intro x h
  unfold oCount at h
  split at h
  · split at h
    · injection h with h; omega
    · cases h
  · rename_i e he
    injection h with h
    exact h ▸ errs_int b e he
/-- What a method of the reader does with its state. -/
def Took {α : Type} (ok : Nat → Prop) (p : Nat) (w : World) (s : St) (o : Out α) (z : α) (Q : α → World → Value → Prop) (e : Ending) (w' : World) : Prop :=
  ∃ u, e = .returned u ∧ Q (s.out o z) w' u ∧ PSt w' ok p (s.took o) ∧ Chg (fun k => k = p) w w'
theorem Ended.ended_ {α : Type} {ok : Nat → Prop} {p : Nat} {w w' : World} {s : St} {o : Out α} {z : α} {Q : α → World → Value → Prop} {zero : Value} {e : Ending} (h : Ended ok p w o Q zero e w') (he : s.e = 0) (hz : Q z w' zero) (hn : Errs o) : Took ok p w s o z Q e w' := by
  obtain ⟨hc, hm⟩ := h
  rcases o with x | ⟨v, r⟩
  · obtain ⟨rfl, b', hb⟩ := hm
    refine ⟨_, rfl, ?_, ?_, hc⟩
    · simpa [St.out, he] using hz
    · simp only [St.took, he, if_true]
      exact ⟨b', hb, fun h0 => absurd h0 (hn x rfl)⟩
  · obtain ⟨⟨u, rfl, hq⟩, hp⟩ := hm
    refine ⟨_, rfl, ?_, ?_, hc⟩
    · simpa [St.out, he] using hq
    · simp only [St.took, he, if_true]
      exact ⟨r, hp, fun _ => rfl⟩
theorem Took.skip {α : Type} {ok : Nat → Prop} {p : Nat} {w w' : World} {s : St} {o : Out α} {z : α} {Q : α → World → Value → Prop} {zero : Value} (h : PSt w ok p s) (he : ¬ s.e = 0) (hz : Q z w' zero) (hb : Below w.heap.size w w') : Took ok p w s o z Q (.returned zero) w' := by
  refine ⟨_, rfl, ?_, ?_, Chg.of_below hb _⟩
  · simpa [St.out, he] using hz
  · simp only [St.took, he, if_false]
    exact h.below hb

theorem mByte_any {w : World} {ok : Nat → Prop} {p : Nat} {s : St} (h : PSt w ok p s) (hok : ∀ k, ok k → k < w.heap.size) :
  Calls Try.prog 42 #[.pointer (some ⟨p, 0, none⟩)] w (Took ok p w s (oNum 1 s.b) 0 fun v _ u => u = .int .u8 v) := by
  obtain ⟨b, hp, hb⟩ := h
  have hlt := hp.lt
  have hbx : Below w.heap.size w (w.alloc (.cells #[.pointer (some ⟨p, 0, none⟩)] 38)) := below_alloc (Below.refl _ _) _
  have hp1 := hp.below hbx
  have hcell : (w.alloc (.cells #[.pointer (some ⟨p, 0, none⟩)] 38)).cell? ⟨w.heap.size, 0, none⟩ = some (.pointer (some ⟨p, 0, none⟩)) := by simp
  have hmf := make_func
  have g : Calls Try.prog 69 #[.pointer (some ⟨p, 0, none⟩), .func (.func 70) #[] #[.pointer (some ⟨w.heap.size, 0, none⟩)]] (w.alloc (.cells #[.pointer (some ⟨p, 0, none⟩)] 38)) (Took ok p (w.alloc (.cells #[.pointer (some ⟨p, 0, none⟩)] 38)) s (oNum 1 s.b) 0 fun v _ u => u = .int .u8 v) := by
    by_cases he : s.e = 0
    · obtain rfl := hb he
      rw [he] at hp hp1
      have hK : ∀ w1, Below (w.heap.size + 1) (w.alloc (.cells #[.pointer (some ⟨p, 0, none⟩)] 38)) w1 → w.heap.size + 1 + 2 ≤ w1.heap.size → Calls Try.prog 70 #[.pointer (some ⟨w.heap.size, 0, none⟩)] w1 (Ends ok p w1 (oNum 1 s.b) fun v _ u => u = .int .u8 v) := by
        intro w1 hb1 _
        rw [← World.size_alloc w (.cells #[.pointer (some ⟨p, 0, none⟩)] 38)] at hb1
        exact byte_in (hp1.below hb1) ⟨(hb1.cell (p := ⟨w.heap.size, 0, none⟩) (by simp)).trans hcell, by omega⟩
      have g := guard_byte (K := 70) (o := oNum 1 s.b) (Q := fun v _ u => u = .int .u8 v) (cap := #[.pointer (some ⟨w.heap.size, 0, none⟩)]) hp1 (fun k hk => by have := hok k hk; rw [World.size_alloc]; omega) (fun _ _ _ hq => ⟨_, hq⟩) (fun _ _ _ _ _ hq _ => hq) (Go.Proofs.YtiecljhgpbifjaaW.PrintLast.enters_ Try.func70 (by kernel_rfl) (by kernel_rfl)) (by rw [World.size_alloc]; exact hK)
      exact g.mono fun e w' h => h.ended_ he rfl (errs_num 1 _)
    · refine (skip_byte hp1 he).mono ?_
      rintro e w' ⟨rfl, hbb⟩
      exact Took.skip ⟨b, hp1, fun h0 => absurd h0 he⟩ he rfl hbb
  generalize oNum 1 s.b = o at g
  clear hcell hp1 hp hb
  go_enter Try.func42, Try.ntmps42
  go_wp2_with fail
  refine g.mono ?_
  rintro e w1 ⟨u, rfl, rfl, hP, hC⟩
  have hC2 : Chg (fun k => k = p) w w1 := (Chg.of_below hbx _).then_ hC (fun _ h => .inl h)
  have HF := hid (And.intro hP hC2)
  clear hP hC hC2 g hbx
  go_wp2
  go_ret
  exact ⟨_, rfl, rfl, HF.out⟩
theorem mByte_nil {w : World} : Calls Try.prog 42 #[.pointer none] w fun e w' => e = .returned (.int .u8 0) ∧ Below w.heap.size w w' := by
  have hmf := make_func
  go_enter Try.func42, Try.ntmps42
  go_wp2_with fail
  refine nil_byte.mono ?_
  rintro e w1 ⟨rfl, hb⟩
  have hbx : Below w.heap.size w w1 := below_then (below_alloc (Below.refl _ _) _) (by simp) hb
  clear hb
  go_wp2
  go_ret
  exact ⟨rfl, hbx⟩

theorem mBool_any {w : World} {ok : Nat → Prop} {p : Nat} {s : St} (h : PSt w ok p s) (hok : ∀ k, ok k → k < w.heap.size) :
  Calls Try.prog 41 #[.pointer (some ⟨p, 0, none⟩)] w (Took ok p w s (oBool s.b) false fun v _ u => u = .bool v) := by
  obtain ⟨b, hp, hb⟩ := h
  have hlt := hp.lt
  have hbx : Below w.heap.size w (w.alloc (.cells #[.pointer (some ⟨p, 0, none⟩)] 38)) := below_alloc (Below.refl _ _) _
  have hp1 := hp.below hbx
  have hcell : (w.alloc (.cells #[.pointer (some ⟨p, 0, none⟩)] 38)).cell? ⟨w.heap.size, 0, none⟩ = some (.pointer (some ⟨p, 0, none⟩)) := by simp
  have hmf := make_func
  have g : Calls Try.prog 67 #[.pointer (some ⟨p, 0, none⟩), .func (.func 68) #[] #[.pointer (some ⟨w.heap.size, 0, none⟩)]] (w.alloc (.cells #[.pointer (some ⟨p, 0, none⟩)] 38)) (Took ok p (w.alloc (.cells #[.pointer (some ⟨p, 0, none⟩)] 38)) s (oBool s.b) false fun v _ u => u = .bool v) := by
    by_cases he : s.e = 0
    · obtain rfl := hb he
      rw [he] at hp hp1
      have hK : ∀ w1, Below (w.heap.size + 1) (w.alloc (.cells #[.pointer (some ⟨p, 0, none⟩)] 38)) w1 → w.heap.size + 1 + 2 ≤ w1.heap.size → Calls Try.prog 68 #[.pointer (some ⟨w.heap.size, 0, none⟩)] w1 (Ends ok p w1 (oBool s.b) fun v _ u => u = .bool v) := by
        intro w1 hb1 _
        rw [← World.size_alloc w (.cells #[.pointer (some ⟨p, 0, none⟩)] 38)] at hb1
        exact bool_in (hp1.below hb1) ⟨(hb1.cell (p := ⟨w.heap.size, 0, none⟩) (by simp)).trans hcell, by omega⟩
      have g := guard_bool (K := 68) (o := oBool s.b) (Q := fun v _ u => u = .bool v) (cap := #[.pointer (some ⟨w.heap.size, 0, none⟩)]) hp1 (fun k hk => by have := hok k hk; rw [World.size_alloc]; omega) (fun _ _ _ hq => ⟨_, hq⟩) (fun _ _ _ _ _ hq _ => hq) (Go.Proofs.YtiecljhgpbifjaaW.PrintLast.enters_ Try.func68 (by kernel_rfl) (by kernel_rfl)) (by rw [World.size_alloc]; exact hK)
      exact g.mono fun e w' h => h.ended_ he rfl (errs_bool _)
    · refine (skip_bool hp1 he).mono ?_
      rintro e w' ⟨rfl, hbb⟩
      exact Took.skip ⟨b, hp1, fun h0 => absurd h0 he⟩ he rfl hbb
  generalize oBool s.b = o at g
  clear hcell hp1 hp hb
  go_enter Try.func41, Try.ntmps41
  go_wp2_with fail
  refine g.mono ?_
  rintro e w1 ⟨u, rfl, rfl, hP, hC⟩
  have hC2 : Chg (fun k => k = p) w w1 := (Chg.of_below hbx _).then_ hC (fun _ h => .inl h)
  have HF := hid (And.intro hP hC2)
  clear hP hC hC2 g hbx
  go_wp2
  go_ret
  exact ⟨_, rfl, rfl, HF.out⟩
theorem mBool_nil {w : World} : Calls Try.prog 41 #[.pointer none] w fun e w' => e = .returned (.bool false) ∧ Below w.heap.size w w' := by
  have hmf := make_func
  go_enter Try.func41, Try.ntmps41
  go_wp2_with fail
  refine nil_bool.mono ?_
  rintro e w1 ⟨rfl, hb⟩
  have hbx : Below w.heap.size w w1 := below_then (below_alloc (Below.refl _ _) _) (by simp) hb
  clear hb
  go_wp2
  go_ret
  exact ⟨rfl, hbx⟩

theorem mShort_any {w : World} {ok : Nat → Prop} {p : Nat} {s : St} (h : PSt w ok p s) (hok : ∀ k, ok k → k < w.heap.size) :
  Calls Try.prog 45 #[.pointer (some ⟨p, 0, none⟩)] w (Took ok p w s (oNum 2 s.b) 0 fun v _ u => u = .int .i64 v) := by
  obtain ⟨b, hp, hb⟩ := h
  have hlt := hp.lt
  have hbx : Below w.heap.size w (w.alloc (.cells #[.pointer (some ⟨p, 0, none⟩)] 38)) := below_alloc (Below.refl _ _) _
  have hp1 := hp.below hbx
  have hcell : (w.alloc (.cells #[.pointer (some ⟨p, 0, none⟩)] 38)).cell? ⟨w.heap.size, 0, none⟩ = some (.pointer (some ⟨p, 0, none⟩)) := by simp
  have hmf := make_func
  have g : Calls Try.prog 72 #[.pointer (some ⟨p, 0, none⟩), .func (.func 73) #[] #[.pointer (some ⟨w.heap.size, 0, none⟩)]] (w.alloc (.cells #[.pointer (some ⟨p, 0, none⟩)] 38)) (Took ok p (w.alloc (.cells #[.pointer (some ⟨p, 0, none⟩)] 38)) s (oNum 2 s.b) 0 fun v _ u => u = .int .i64 v) := by
    by_cases he : s.e = 0
    · obtain rfl := hb he
      rw [he] at hp hp1
      have hK : ∀ w1, Below (w.heap.size + 1) (w.alloc (.cells #[.pointer (some ⟨p, 0, none⟩)] 38)) w1 → w.heap.size + 1 + 2 ≤ w1.heap.size → Calls Try.prog 73 #[.pointer (some ⟨w.heap.size, 0, none⟩)] w1 (Ends ok p w1 (oNum 2 s.b) fun v _ u => u = .int .i64 v) := by
        intro w1 hb1 _
        rw [← World.size_alloc w (.cells #[.pointer (some ⟨p, 0, none⟩)] 38)] at hb1
        exact short_in (hp1.below hb1) ⟨(hb1.cell (p := ⟨w.heap.size, 0, none⟩) (by simp)).trans hcell, by omega⟩
      have g := guard_int (K := 73) (o := oNum 2 s.b) (Q := fun v _ u => u = .int .i64 v) (cap := #[.pointer (some ⟨w.heap.size, 0, none⟩)]) hp1 (fun k hk => by have := hok k hk; rw [World.size_alloc]; omega) (fun _ _ _ hq => ⟨_, hq⟩) (fun _ _ _ _ _ hq _ => hq) (Go.Proofs.YtiecljhgpbifjaaW.PrintLast.enters_ Try.func73 (by kernel_rfl) (by kernel_rfl)) (by rw [World.size_alloc]; exact hK)
      exact g.mono fun e w' h => h.ended_ he rfl (errs_num 2 _)
    · refine (skip_int hp1 he).mono ?_
      rintro e w' ⟨rfl, hbb⟩
      exact Took.skip ⟨b, hp1, fun h0 => absurd h0 he⟩ he rfl hbb
  generalize oNum 2 s.b = o at g
  clear hcell hp1 hp hb
  go_enter Try.func45, Try.ntmps45
  go_wp2_with fail
  refine g.mono ?_
  rintro e w1 ⟨u, rfl, rfl, hP, hC⟩
  have hC2 : Chg (fun k => k = p) w w1 := (Chg.of_below hbx _).then_ hC (fun _ h => .inl h)
  have HF := hid (And.intro hP hC2)
  clear hP hC hC2 g hbx
  go_wp2
  go_ret
  exact ⟨_, rfl, rfl, HF.out⟩
theorem mShort_nil {w : World} : Calls Try.prog 45 #[.pointer none] w fun e w' => e = .returned (.int .i64 0) ∧ Below w.heap.size w w' := by
  have hmf := make_func
  go_enter Try.func45, Try.ntmps45
  go_wp2_with fail
  refine nil_int.mono ?_
  rintro e w1 ⟨rfl, hb⟩
  have hbx : Below w.heap.size w w1 := below_then (below_alloc (Below.refl _ _) _) (by simp) hb
  clear hb
  go_wp2
  go_ret
  exact ⟨rfl, hbx⟩

theorem mInt_any {w : World} {ok : Nat → Prop} {p : Nat} {s : St} (h : PSt w ok p s) (hok : ∀ k, ok k → k < w.heap.size) :
  Calls Try.prog 47 #[.pointer (some ⟨p, 0, none⟩)] w (Took ok p w s (oInt s.b) 0 fun v _ u => u = .int .i64 v) := by
  obtain ⟨b, hp, hb⟩ := h
  have hlt := hp.lt
  have hbx : Below w.heap.size w (w.alloc (.cells #[.pointer (some ⟨p, 0, none⟩)] 38)) := below_alloc (Below.refl _ _) _
  have hp1 := hp.below hbx
  have hcell : (w.alloc (.cells #[.pointer (some ⟨p, 0, none⟩)] 38)).cell? ⟨w.heap.size, 0, none⟩ = some (.pointer (some ⟨p, 0, none⟩)) := by simp
  have hmf := make_func
  have g : Calls Try.prog 72 #[.pointer (some ⟨p, 0, none⟩), .func (.func 74) #[] #[.pointer (some ⟨w.heap.size, 0, none⟩)]] (w.alloc (.cells #[.pointer (some ⟨p, 0, none⟩)] 38)) (Took ok p (w.alloc (.cells #[.pointer (some ⟨p, 0, none⟩)] 38)) s (oInt s.b) 0 fun v _ u => u = .int .i64 v) := by
    by_cases he : s.e = 0
    · obtain rfl := hb he
      rw [he] at hp hp1
      have hK : ∀ w1, Below (w.heap.size + 1) (w.alloc (.cells #[.pointer (some ⟨p, 0, none⟩)] 38)) w1 → w.heap.size + 1 + 2 ≤ w1.heap.size → Calls Try.prog 74 #[.pointer (some ⟨w.heap.size, 0, none⟩)] w1 (Ends ok p w1 (oInt s.b) fun v _ u => u = .int .i64 v) := by
        intro w1 hb1 _
        rw [← World.size_alloc w (.cells #[.pointer (some ⟨p, 0, none⟩)] 38)] at hb1
        exact intc_in (hp1.below hb1) ⟨(hb1.cell (p := ⟨w.heap.size, 0, none⟩) (by simp)).trans hcell, by omega⟩
      have g := guard_int (K := 74) (o := oInt s.b) (Q := fun v _ u => u = .int .i64 v) (cap := #[.pointer (some ⟨w.heap.size, 0, none⟩)]) hp1 (fun k hk => by have := hok k hk; rw [World.size_alloc]; omega) (fun _ _ _ hq => ⟨_, hq⟩) (fun _ _ _ _ _ hq _ => hq) (Go.Proofs.YtiecljhgpbifjaaW.PrintLast.enters_ Try.func74 (by kernel_rfl) (by kernel_rfl)) (by rw [World.size_alloc]; exact hK)
      exact g.mono fun e w' h => h.ended_ he rfl (errs_int _)
    · refine (skip_int hp1 he).mono ?_
      rintro e w' ⟨rfl, hbb⟩
      exact Took.skip ⟨b, hp1, fun h0 => absurd h0 he⟩ he rfl hbb
  generalize oInt s.b = o at g
  clear hcell hp1 hp hb
  go_enter Try.func47, Try.ntmps47
  go_wp2_with fail
  refine g.mono ?_
  rintro e w1 ⟨u, rfl, rfl, hP, hC⟩
  have hC2 : Chg (fun k => k = p) w w1 := (Chg.of_below hbx _).then_ hC (fun _ h => .inl h)
  have HF := hid (And.intro hP hC2)
  clear hP hC hC2 g hbx
  go_wp2
  go_ret
  exact ⟨_, rfl, rfl, HF.out⟩
theorem mInt_nil {w : World} : Calls Try.prog 47 #[.pointer none] w fun e w' => e = .returned (.int .i64 0) ∧ Below w.heap.size w w' := by
  have hmf := make_func
  go_enter Try.func47, Try.ntmps47
  go_wp2_with fail
  refine nil_int.mono ?_
  rintro e w1 ⟨rfl, hb⟩
  have hbx : Below w.heap.size w w1 := below_then (below_alloc (Below.refl _ _) _) (by simp) hb
  clear hb
  go_wp2
  go_ret
  exact ⟨rfl, hbx⟩

theorem mLong_any {w : World} {ok : Nat → Prop} {p : Nat} {s : St} (h : PSt w ok p s) (hok : ∀ k, ok k → k < w.heap.size) :
  Calls Try.prog 22 #[.pointer (some ⟨p, 0, none⟩)] w (Took ok p w s (oNum 8 s.b) 0 fun v _ u => u = .int .u64 v) := by
  obtain ⟨b, hp, hb⟩ := h
  have hlt := hp.lt
  have hbx : Below w.heap.size w (w.alloc (.cells #[.pointer (some ⟨p, 0, none⟩)] 38)) := below_alloc (Below.refl _ _) _
  have hp1 := hp.below hbx
  have hcell : (w.alloc (.cells #[.pointer (some ⟨p, 0, none⟩)] 38)).cell? ⟨w.heap.size, 0, none⟩ = some (.pointer (some ⟨p, 0, none⟩)) := by simp
  have hmf := make_func
  have g : Calls Try.prog 62 #[.pointer (some ⟨p, 0, none⟩), .func (.func 63) #[] #[.pointer (some ⟨w.heap.size, 0, none⟩)]] (w.alloc (.cells #[.pointer (some ⟨p, 0, none⟩)] 38)) (Took ok p (w.alloc (.cells #[.pointer (some ⟨p, 0, none⟩)] 38)) s (oNum 8 s.b) 0 fun v _ u => u = .int .u64 v) := by
    by_cases he : s.e = 0
    · obtain rfl := hb he
      rw [he] at hp hp1
      have hK : ∀ w1, Below (w.heap.size + 1) (w.alloc (.cells #[.pointer (some ⟨p, 0, none⟩)] 38)) w1 → w.heap.size + 1 + 2 ≤ w1.heap.size → Calls Try.prog 63 #[.pointer (some ⟨w.heap.size, 0, none⟩)] w1 (Ends ok p w1 (oNum 8 s.b) fun v _ u => u = .int .u64 v) := by
        intro w1 hb1 _
        rw [← World.size_alloc w (.cells #[.pointer (some ⟨p, 0, none⟩)] 38)] at hb1
        exact long_in (hp1.below hb1) ⟨(hb1.cell (p := ⟨w.heap.size, 0, none⟩) (by simp)).trans hcell, by omega⟩
      have g := guard_u64 (K := 63) (o := oNum 8 s.b) (Q := fun v _ u => u = .int .u64 v) (cap := #[.pointer (some ⟨w.heap.size, 0, none⟩)]) hp1 (fun k hk => by have := hok k hk; rw [World.size_alloc]; omega) (fun _ _ _ hq => ⟨_, hq⟩) (fun _ _ _ _ _ hq _ => hq) (Go.Proofs.YtiecljhgpbifjaaW.PrintLast.enters_ Try.func63 (by kernel_rfl) (by kernel_rfl)) (by rw [World.size_alloc]; exact hK)
      exact g.mono fun e w' h => h.ended_ he rfl (errs_num 8 _)
    · refine (skip_u64 hp1 he).mono ?_
      rintro e w' ⟨rfl, hbb⟩
      exact Took.skip ⟨b, hp1, fun h0 => absurd h0 he⟩ he rfl hbb
  generalize oNum 8 s.b = o at g
  clear hcell hp1 hp hb
  go_enter Try.func22, Try.ntmps22
  go_wp2_with fail
  refine g.mono ?_
  rintro e w1 ⟨u, rfl, rfl, hP, hC⟩
  have hC2 : Chg (fun k => k = p) w w1 := (Chg.of_below hbx _).then_ hC (fun _ h => .inl h)
  have HF := hid (And.intro hP hC2)
  clear hP hC hC2 g hbx
  go_wp2
  go_ret
  exact ⟨_, rfl, rfl, HF.out⟩
theorem mLong_nil {w : World} : Calls Try.prog 22 #[.pointer none] w fun e w' => e = .returned (.int .u64 0) ∧ Below w.heap.size w w' := by
  have hmf := make_func
  go_enter Try.func22, Try.ntmps22
  go_wp2_with fail
  refine nil_u64.mono ?_
  rintro e w1 ⟨rfl, hb⟩
  have hbx : Below w.heap.size w w1 := below_then (below_alloc (Below.refl _ _) _) (by simp) hb
  clear hb
  go_wp2
  go_ret
  exact ⟨rfl, hbx⟩
end Go.Proofs.Ytiecljhgpbifjaa
