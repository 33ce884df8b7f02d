/- The program's reader: Raw, Ints, Texts, Text. -/
import Derived.Test.YtiecljhgpbifjaaWireI
set_option linter.unusedVariables false
set_option linter.unusedSimpArgs false
namespace Go.Proofs.Ytiecljhgpbifjaa
open Go.RowKit Go.Proofs.YtiecljhgpbifjaaW.PrintWords

theorem RawQ.far {B : Nat} {v : List Int} {w : World} {u : Value} (h : RawQ B v w u) {j : Nat} (hj : j < B) (x : Value) : RawQ B v (w.setCell ⟨j, 0, none⟩ x) u := by
  obtain ⟨A, c, rfl, hR⟩ := h
  exact ⟨A, c, rfl, Kd.R_step hR (fun k hk _ => Below.heap_setCell w ⟨j, 0, none⟩ x k (fun e => by dsimp only at e; omega))⟩
theorem RawQ.below {B : Nat} {v : List Int} {w w1 : World} {u : Value} (h : RawQ B v w u) (hb : Below w.heap.size w w1) : RawQ B v w1 u := by
  obtain ⟨A, c, rfl, hR⟩ := h
  exact ⟨A, c, rfl, Kd.R_below hR hb⟩
theorem RawQ.chg {B : Nat} {v : List Int} {w w1 : World} {u : Value} {S : Nat → Prop} (h : RawQ B v w u) (hb : Chg S w w1) (hS : ∀ k, S k → k < B) : RawQ B v w1 u := by
  obtain ⟨A, c, rfl, hR⟩ := h
  exact ⟨A, c, rfl, Kd.R_step hR (fun k hk hlt => hb.block k hlt (fun e => by have := hS k e; omega))⟩
theorem RawQ.lower {B B' : Nat} {v : List Int} {w : World} {u : Value} (h : RawQ B v w u) (hb : B' ≤ B) : RawQ B' v w u := by
  obtain ⟨A, c, rfl, hR⟩ := h
  exact ⟨A, c, rfl, Kd.R_lower (Kd.R_mono hR (fun q hq => Nat.le_trans hb hq)) hb⟩
theorem mRaw_any {w : World} {ok : Nat → Prop} {p : Nat} {s : St} (most : Int) (h : PSt w ok p s) (hok : ∀ k, ok k → k < w.heap.size) :
  Calls Try.prog 52 #[.pointer (some ⟨p, 0, none⟩), .int .i64 most] w (Took ok p w s (oRaw most s.b) [] (RawQ w.heap.size)) := by
  obtain ⟨b, hp, hb⟩ := h
  have hlt := hp.lt
  have hbx : Below w.heap.size w ((w.alloc (.cells #[.pointer (some ⟨p, 0, none⟩)] 38)).alloc (.cells #[.int .i64 most] 3)) := below_alloc (below_alloc (Below.refl _ _) _) _
  have hsz : ((w.alloc (.cells #[.pointer (some ⟨p, 0, none⟩)] 38)).alloc (.cells #[.int .i64 most] 3)).heap.size = w.heap.size + 2 := by simp
  have hp1 := hp.below hbx
  have hcell : ((w.alloc (.cells #[.pointer (some ⟨p, 0, none⟩)] 38)).alloc (.cells #[.int .i64 most] 3)).cell? ⟨w.heap.size, 0, none⟩ = some (.pointer (some ⟨p, 0, none⟩)) := by go_simp
  have hcell1 : ((w.alloc (.cells #[.pointer (some ⟨p, 0, none⟩)] 38)).alloc (.cells #[.int .i64 most] 3)).cell? ⟨w.heap.size + 1, 0, none⟩ = some (.int .i64 most) := by go_simp
  have hmf := make_func
  have g : Calls Try.prog 76 #[.pointer (some ⟨p, 0, none⟩), .func (.func 77) #[] #[.pointer (some ⟨w.heap.size, 0, none⟩), .pointer (some ⟨w.heap.size + 1, 0, none⟩)]] ((w.alloc (.cells #[.pointer (some ⟨p, 0, none⟩)] 38)).alloc (.cells #[.int .i64 most] 3)) (Took ok p ((w.alloc (.cells #[.pointer (some ⟨p, 0, none⟩)] 38)).alloc (.cells #[.int .i64 most] 3)) s (oRaw most s.b) [] (RawQ w.heap.size)) := by
    by_cases he : s.e = 0
    · obtain rfl := hb he
      rw [he] at hp hp1
      have hK : ∀ w1, Below ((w.alloc (.cells #[.pointer (some ⟨p, 0, none⟩)] 38)).alloc (.cells #[.int .i64 most] 3)).heap.size ((w.alloc (.cells #[.pointer (some ⟨p, 0, none⟩)] 38)).alloc (.cells #[.int .i64 most] 3)) w1 → ((w.alloc (.cells #[.pointer (some ⟨p, 0, none⟩)] 38)).alloc (.cells #[.int .i64 most] 3)).heap.size + 2 ≤ w1.heap.size → Calls Try.prog 77 #[.pointer (some ⟨w.heap.size, 0, none⟩), .pointer (some ⟨w.heap.size + 1, 0, none⟩)] w1 (Ends ok p w1 (oRaw most s.b) (RawQ (((w.alloc (.cells #[.pointer (some ⟨p, 0, none⟩)] 38)).alloc (.cells #[.int .i64 most] 3)).heap.size + 2))) := by
        intro w1 hb1 hb2
        exact raw_in (B := ((w.alloc (.cells #[.pointer (some ⟨p, 0, none⟩)] 38)).alloc (.cells #[.int .i64 most] 3)).heap.size + 2) (hp1.below hb1) ⟨(hb1.cell (p := ⟨w.heap.size, 0, none⟩) (by simp <;> omega)).trans hcell, by omega⟩ ⟨(hb1.cell (p := ⟨w.heap.size + 1, 0, none⟩) (by simp <;> omega)).trans hcell1, by omega⟩ hb2 (by omega)
      have g := guard_raw (K := 77) (o := oRaw most s.b) (Q := RawQ (((w.alloc (.cells #[.pointer (some ⟨p, 0, none⟩)] 38)).alloc (.cells #[.int .i64 most] 3)).heap.size + 2)) (cap := #[.pointer (some ⟨w.heap.size, 0, none⟩), .pointer (some ⟨w.heap.size + 1, 0, none⟩)]) hp1 (fun k hk => by have := hok k hk; omega) (fun v w1 u hq => by
        obtain ⟨A, c, rfl, _⟩ := hq
        exact ⟨(A, v.length, c), rfl⟩) (fun _ _ _ _ _ hq hj => hq.far hj _) (Go.Proofs.YtiecljhgpbifjaaW.PrintLast.enters_ Try.func77 (by kernel_rfl) (by kernel_rfl)) hK
      refine g.mono fun e w' h => ?_
      obtain ⟨u, he2, hq, hP, hC⟩ := h.ended_ (z := []) he ⟨none, 0, rfl, Kd.R_nil _ _ _ _ _⟩ (errs_raw most _)
      exact ⟨u, he2, hq.lower (by omega), hP, hC⟩
    · refine (skip_raw hp1 he).mono ?_
      rintro e w' ⟨rfl, hbb⟩
      exact Took.skip ⟨b, hp1, fun h0 => absurd h0 he⟩ he ⟨none, 0, rfl, Kd.R_nil _ _ _ _ _⟩ hbb
  generalize oRaw most s.b = o at g
  clear hcell hcell1 hp1 hp hb hsz
  go_enter Try.func52, Try.ntmps52
  go_wp2_with fail
  refine g.mono ?_
  rintro e w1 ⟨u, rfl, hq, hP, hC⟩
  have hC2 : Chg (fun k => k = p) w w1 := (Chg.of_below hbx _).then_ hC (fun _ h => .inl h)
  have HF := hid (And.intro hq (And.intro hP hC2))
  obtain ⟨A, c, rfl, _⟩ := hq
  clear hP hC hC2 g hbx
  go_wp2
  go_ret
  exact ⟨_, rfl, HF.out⟩
theorem mRaw_nil {w : World} (most : Int) : Calls Try.prog 52 #[.pointer none, .int .i64 most] w fun e w' => e = .returned (.slice none 0 0) ∧ Below w.heap.size w w' := by
  have hmf := make_func
  have hbn : Below w.heap.size w ((w.alloc (.cells #[.pointer none] 38)).alloc (.cells #[.int .i64 most] 3)) := below_alloc (below_alloc (Below.refl _ _) _) _
  go_enter Try.func52, Try.ntmps52
  go_wp2_with fail
  refine nil_raw.mono ?_
  rintro e w1 ⟨rfl, hb⟩
  have hbx : Below w.heap.size w w1 := below_then hbn (by simp; try omega) hb
  clear hb hbn
  go_wp2
  go_ret
  exact ⟨rfl, hbx⟩

theorem IntsQ.far {B : Nat} {v : List Int} {w : World} {u : Value} (h : IntsQ B v w u) {j : Nat} (hj : j < B) (x : Value) : IntsQ B v (w.setCell ⟨j, 0, none⟩ x) u := by
  obtain ⟨A, c, rfl, hR⟩ := h
  exact ⟨A, c, rfl, Kd.R_step hR (fun k hk _ => Below.heap_setCell w ⟨j, 0, none⟩ x k (fun e => by dsimp only at e; omega))⟩
theorem IntsQ.below {B : Nat} {v : List Int} {w w1 : World} {u : Value} (h : IntsQ B v w u) (hb : Below w.heap.size w w1) : IntsQ B v w1 u := by
  obtain ⟨A, c, rfl, hR⟩ := h
  exact ⟨A, c, rfl, Kd.R_below hR hb⟩
theorem IntsQ.chg {B : Nat} {v : List Int} {w w1 : World} {u : Value} {S : Nat → Prop} (h : IntsQ B v w u) (hb : Chg S w w1) (hS : ∀ k, S k → k < B) : IntsQ B v w1 u := by
  obtain ⟨A, c, rfl, hR⟩ := h
  exact ⟨A, c, rfl, Kd.R_step hR (fun k hk hlt => hb.block k hlt (fun e => by have := hS k e; omega))⟩
theorem IntsQ.lower {B B' : Nat} {v : List Int} {w : World} {u : Value} (h : IntsQ B v w u) (hb : B' ≤ B) : IntsQ B' v w u := by
  obtain ⟨A, c, rfl, hR⟩ := h
  exact ⟨A, c, rfl, Kd.R_lower (Kd.R_mono hR (fun q hq => Nat.le_trans hb hq)) hb⟩
theorem mInts_any {w : World} {ok : Nat → Prop} {p : Nat} {s : St} (most : Int) (h : PSt w ok p s) (hok : ∀ k, ok k → k < w.heap.size) :
  Calls Try.prog 55 #[.pointer (some ⟨p, 0, none⟩), .int .i64 most] w (Took ok p w s (oInts most s.b) [] (IntsQ w.heap.size)) := by
  obtain ⟨b, hp, hb⟩ := h
  have hlt := hp.lt
  have hbx : Below w.heap.size w ((w.alloc (.cells #[.pointer (some ⟨p, 0, none⟩)] 38)).alloc (.cells #[.int .i64 most] 3)) := below_alloc (below_alloc (Below.refl _ _) _) _
  have hsz : ((w.alloc (.cells #[.pointer (some ⟨p, 0, none⟩)] 38)).alloc (.cells #[.int .i64 most] 3)).heap.size = w.heap.size + 2 := by simp
  have hp1 := hp.below hbx
  have hcell : ((w.alloc (.cells #[.pointer (some ⟨p, 0, none⟩)] 38)).alloc (.cells #[.int .i64 most] 3)).cell? ⟨w.heap.size, 0, none⟩ = some (.pointer (some ⟨p, 0, none⟩)) := by go_simp
  have hcell1 : ((w.alloc (.cells #[.pointer (some ⟨p, 0, none⟩)] 38)).alloc (.cells #[.int .i64 most] 3)).cell? ⟨w.heap.size + 1, 0, none⟩ = some (.int .i64 most) := by go_simp
  have hmf := make_func
  have g : Calls Try.prog 80 #[.pointer (some ⟨p, 0, none⟩), .func (.func 81) #[] #[.pointer (some ⟨w.heap.size, 0, none⟩), .pointer (some ⟨w.heap.size + 1, 0, none⟩)]] ((w.alloc (.cells #[.pointer (some ⟨p, 0, none⟩)] 38)).alloc (.cells #[.int .i64 most] 3)) (Took ok p ((w.alloc (.cells #[.pointer (some ⟨p, 0, none⟩)] 38)).alloc (.cells #[.int .i64 most] 3)) s (oInts most s.b) [] (IntsQ w.heap.size)) := by
    by_cases he : s.e = 0
    · obtain rfl := hb he
      rw [he] at hp hp1
      have hK : ∀ w1, Below ((w.alloc (.cells #[.pointer (some ⟨p, 0, none⟩)] 38)).alloc (.cells #[.int .i64 most] 3)).heap.size ((w.alloc (.cells #[.pointer (some ⟨p, 0, none⟩)] 38)).alloc (.cells #[.int .i64 most] 3)) w1 → ((w.alloc (.cells #[.pointer (some ⟨p, 0, none⟩)] 38)).alloc (.cells #[.int .i64 most] 3)).heap.size + 2 ≤ w1.heap.size → Calls Try.prog 81 #[.pointer (some ⟨w.heap.size, 0, none⟩), .pointer (some ⟨w.heap.size + 1, 0, none⟩)] w1 (Ends ok p w1 (oInts most s.b) (IntsQ (((w.alloc (.cells #[.pointer (some ⟨p, 0, none⟩)] 38)).alloc (.cells #[.int .i64 most] 3)).heap.size + 2))) := by
        intro w1 hb1 hb2
        exact ints_in (B := ((w.alloc (.cells #[.pointer (some ⟨p, 0, none⟩)] 38)).alloc (.cells #[.int .i64 most] 3)).heap.size + 2) (hp1.below hb1) ⟨(hb1.cell (p := ⟨w.heap.size, 0, none⟩) (by simp <;> omega)).trans hcell, by omega⟩ ⟨(hb1.cell (p := ⟨w.heap.size + 1, 0, none⟩) (by simp <;> omega)).trans hcell1, by omega⟩ hb2 (fun k hk => by have := hok k hk; omega)
      have g := guard_ints (K := 81) (o := oInts most s.b) (Q := IntsQ (((w.alloc (.cells #[.pointer (some ⟨p, 0, none⟩)] 38)).alloc (.cells #[.int .i64 most] 3)).heap.size + 2)) (cap := #[.pointer (some ⟨w.heap.size, 0, none⟩), .pointer (some ⟨w.heap.size + 1, 0, none⟩)]) hp1 (fun k hk => by have := hok k hk; omega) (fun v w1 u hq => by
        obtain ⟨A, c, rfl, _⟩ := hq
        exact ⟨(A, v.length, c), rfl⟩) (fun _ _ _ _ _ hq hj => hq.far hj _) (Go.Proofs.YtiecljhgpbifjaaW.PrintLast.enters_ Try.func81 (by kernel_rfl) (by kernel_rfl)) hK
      refine g.mono fun e w' h => ?_
      obtain ⟨u, he2, hq, hP, hC⟩ := h.ended_ (z := []) he ⟨none, 0, rfl, Kd.R_nil _ _ _ _ _⟩ (errs_ints most _)
      exact ⟨u, he2, hq.lower (by omega), hP, hC⟩
    · refine (skip_ints hp1 he).mono ?_
      rintro e w' ⟨rfl, hbb⟩
      exact Took.skip ⟨b, hp1, fun h0 => absurd h0 he⟩ he ⟨none, 0, rfl, Kd.R_nil _ _ _ _ _⟩ hbb
  generalize oInts most s.b = o at g
  clear hcell hcell1 hp1 hp hb hsz
  go_enter Try.func55, Try.ntmps55
  go_wp2_with fail
  refine g.mono ?_
  rintro e w1 ⟨u, rfl, hq, hP, hC⟩
  have hC2 : Chg (fun k => k = p) w w1 := (Chg.of_below hbx _).then_ hC (fun _ h => .inl h)
  have HF := hid (And.intro hq (And.intro hP hC2))
  obtain ⟨A, c, rfl, _⟩ := hq
  clear hP hC hC2 g hbx
  go_wp2
  go_ret
  exact ⟨_, rfl, HF.out⟩
theorem mInts_nil {w : World} (most : Int) : Calls Try.prog 55 #[.pointer none, .int .i64 most] w fun e w' => e = .returned (.slice none 0 0) ∧ Below w.heap.size w w' := by
  have hmf := make_func
  have hbn : Below w.heap.size w ((w.alloc (.cells #[.pointer none] 38)).alloc (.cells #[.int .i64 most] 3)) := below_alloc (below_alloc (Below.refl _ _) _) _
  go_enter Try.func55, Try.ntmps55
  go_wp2_with fail
  refine nil_ints.mono ?_
  rintro e w1 ⟨rfl, hb⟩
  have hbx : Below w.heap.size w w1 := below_then hbn (by simp; try omega) hb
  clear hb hbn
  go_wp2
  go_ret
  exact ⟨rfl, hbx⟩

theorem TextsQ.far {B : Nat} {v : List ByteArray} {w : World} {u : Value} (h : TextsQ B v w u) {j : Nat} (hj : j < B) (x : Value) : TextsQ B v (w.setCell ⟨j, 0, none⟩ x) u := by
  obtain ⟨A, c, rfl, hR⟩ := h
  exact ⟨A, c, rfl, Kd.R_step hR (fun k hk _ => Below.heap_setCell w ⟨j, 0, none⟩ x k (fun e => by dsimp only at e; omega))⟩
theorem TextsQ.below {B : Nat} {v : List ByteArray} {w w1 : World} {u : Value} (h : TextsQ B v w u) (hb : Below w.heap.size w w1) : TextsQ B v w1 u := by
  obtain ⟨A, c, rfl, hR⟩ := h
  exact ⟨A, c, rfl, Kd.R_below hR hb⟩
theorem TextsQ.chg {B : Nat} {v : List ByteArray} {w w1 : World} {u : Value} {S : Nat → Prop} (h : TextsQ B v w u) (hb : Chg S w w1) (hS : ∀ k, S k → k < B) : TextsQ B v w1 u := by
  obtain ⟨A, c, rfl, hR⟩ := h
  exact ⟨A, c, rfl, Kd.R_step hR (fun k hk hlt => hb.block k hlt (fun e => by have := hS k e; omega))⟩
theorem TextsQ.lower {B B' : Nat} {v : List ByteArray} {w : World} {u : Value} (h : TextsQ B v w u) (hb : B' ≤ B) : TextsQ B' v w u := by
  obtain ⟨A, c, rfl, hR⟩ := h
  exact ⟨A, c, rfl, Kd.R_lower (Kd.R_mono hR (fun q hq => Nat.le_trans hb hq)) hb⟩
theorem mTexts_any {w : World} {ok : Nat → Prop} {p : Nat} {s : St} (most long : Int) (h : PSt w ok p s) (hok : ∀ k, ok k → k < w.heap.size) :
  Calls Try.prog 58 #[.pointer (some ⟨p, 0, none⟩), .int .i64 most, .int .i64 long] w (Took ok p w s (oTexts most long s.b) [] (TextsQ w.heap.size)) := by
  obtain ⟨b, hp, hb⟩ := h
  have hlt := hp.lt
  have hbx : Below w.heap.size w (((w.alloc (.cells #[.pointer (some ⟨p, 0, none⟩)] 38)).alloc (.cells #[.int .i64 most] 3)).alloc (.cells #[.int .i64 long] 3)) := below_alloc (below_alloc (below_alloc (Below.refl _ _) _) _) _
  have hsz : (((w.alloc (.cells #[.pointer (some ⟨p, 0, none⟩)] 38)).alloc (.cells #[.int .i64 most] 3)).alloc (.cells #[.int .i64 long] 3)).heap.size = w.heap.size + 3 := by simp
  have hp1 := hp.below hbx
  have hcell : (((w.alloc (.cells #[.pointer (some ⟨p, 0, none⟩)] 38)).alloc (.cells #[.int .i64 most] 3)).alloc (.cells #[.int .i64 long] 3)).cell? ⟨w.heap.size, 0, none⟩ = some (.pointer (some ⟨p, 0, none⟩)) := by go_simp
  have hcell1 : (((w.alloc (.cells #[.pointer (some ⟨p, 0, none⟩)] 38)).alloc (.cells #[.int .i64 most] 3)).alloc (.cells #[.int .i64 long] 3)).cell? ⟨w.heap.size + 1, 0, none⟩ = some (.int .i64 most) := by go_simp
  have hcell2 : (((w.alloc (.cells #[.pointer (some ⟨p, 0, none⟩)] 38)).alloc (.cells #[.int .i64 most] 3)).alloc (.cells #[.int .i64 long] 3)).cell? ⟨w.heap.size + 2, 0, none⟩ = some (.int .i64 long) := by go_simp
  have hmf := make_func
  have g : Calls Try.prog 82 #[.pointer (some ⟨p, 0, none⟩), .func (.func 83) #[] #[.pointer (some ⟨w.heap.size, 0, none⟩), .pointer (some ⟨w.heap.size + 1, 0, none⟩), .pointer (some ⟨w.heap.size + 2, 0, none⟩)]] (((w.alloc (.cells #[.pointer (some ⟨p, 0, none⟩)] 38)).alloc (.cells #[.int .i64 most] 3)).alloc (.cells #[.int .i64 long] 3)) (Took ok p (((w.alloc (.cells #[.pointer (some ⟨p, 0, none⟩)] 38)).alloc (.cells #[.int .i64 most] 3)).alloc (.cells #[.int .i64 long] 3)) s (oTexts most long s.b) [] (TextsQ w.heap.size)) := by
    by_cases he : s.e = 0
    · obtain rfl := hb he
      rw [he] at hp hp1
      have hK : ∀ w1, Below (((w.alloc (.cells #[.pointer (some ⟨p, 0, none⟩)] 38)).alloc (.cells #[.int .i64 most] 3)).alloc (.cells #[.int .i64 long] 3)).heap.size (((w.alloc (.cells #[.pointer (some ⟨p, 0, none⟩)] 38)).alloc (.cells #[.int .i64 most] 3)).alloc (.cells #[.int .i64 long] 3)) w1 → (((w.alloc (.cells #[.pointer (some ⟨p, 0, none⟩)] 38)).alloc (.cells #[.int .i64 most] 3)).alloc (.cells #[.int .i64 long] 3)).heap.size + 2 ≤ w1.heap.size → Calls Try.prog 83 #[.pointer (some ⟨w.heap.size, 0, none⟩), .pointer (some ⟨w.heap.size + 1, 0, none⟩), .pointer (some ⟨w.heap.size + 2, 0, none⟩)] w1 (Ends ok p w1 (oTexts most long s.b) (TextsQ ((((w.alloc (.cells #[.pointer (some ⟨p, 0, none⟩)] 38)).alloc (.cells #[.int .i64 most] 3)).alloc (.cells #[.int .i64 long] 3)).heap.size + 2))) := by
        intro w1 hb1 hb2
        exact texts_in (B := (((w.alloc (.cells #[.pointer (some ⟨p, 0, none⟩)] 38)).alloc (.cells #[.int .i64 most] 3)).alloc (.cells #[.int .i64 long] 3)).heap.size + 2) (hp1.below hb1) ⟨(hb1.cell (p := ⟨w.heap.size, 0, none⟩) (by simp <;> omega)).trans hcell, by omega⟩ ⟨(hb1.cell (p := ⟨w.heap.size + 1, 0, none⟩) (by simp <;> omega)).trans hcell1, by omega⟩ ⟨(hb1.cell (p := ⟨w.heap.size + 2, 0, none⟩) (by simp <;> omega)).trans hcell2, by omega⟩ hb2 (fun k hk => by have := hok k hk; omega)
      have g := guard_texts (K := 83) (o := oTexts most long s.b) (Q := TextsQ ((((w.alloc (.cells #[.pointer (some ⟨p, 0, none⟩)] 38)).alloc (.cells #[.int .i64 most] 3)).alloc (.cells #[.int .i64 long] 3)).heap.size + 2)) (cap := #[.pointer (some ⟨w.heap.size, 0, none⟩), .pointer (some ⟨w.heap.size + 1, 0, none⟩), .pointer (some ⟨w.heap.size + 2, 0, none⟩)]) hp1 (fun k hk => by have := hok k hk; omega) (fun v w1 u hq => by
        obtain ⟨A, c, rfl, _⟩ := hq
        exact ⟨(A, v.length, c), rfl⟩) (fun _ _ _ _ _ hq hj => hq.far hj _) (Go.Proofs.YtiecljhgpbifjaaW.PrintLast.enters_ Try.func83 (by kernel_rfl) (by kernel_rfl)) hK
      refine g.mono fun e w' h => ?_
      obtain ⟨u, he2, hq, hP, hC⟩ := h.ended_ (z := []) he ⟨none, 0, rfl, Kd.R_nil _ _ _ _ _⟩ (errs_texts most long _)
      exact ⟨u, he2, hq.lower (by omega), hP, hC⟩
    · refine (skip_texts hp1 he).mono ?_
      rintro e w' ⟨rfl, hbb⟩
      exact Took.skip ⟨b, hp1, fun h0 => absurd h0 he⟩ he ⟨none, 0, rfl, Kd.R_nil _ _ _ _ _⟩ hbb
  generalize oTexts most long s.b = o at g
  clear hcell hcell1 hcell2 hp1 hp hb hsz
  go_enter Try.func58, Try.ntmps58
  go_wp2_with fail
  refine g.mono ?_
  rintro e w1 ⟨u, rfl, hq, hP, hC⟩
  have hC2 : Chg (fun k => k = p) w w1 := (Chg.of_below hbx _).then_ hC (fun _ h => .inl h)
  have HF := hid (And.intro hq (And.intro hP hC2))
  obtain ⟨A, c, rfl, _⟩ := hq
  clear hP hC hC2 g hbx
  go_wp2
  go_ret
  exact ⟨_, rfl, HF.out⟩
theorem mTexts_nil {w : World} (most long : Int) : Calls Try.prog 58 #[.pointer none, .int .i64 most, .int .i64 long] w fun e w' => e = .returned (.slice none 0 0) ∧ Below w.heap.size w w' := by
  have hmf := make_func
  have hbn : Below w.heap.size w (((w.alloc (.cells #[.pointer none] 38)).alloc (.cells #[.int .i64 most] 3)).alloc (.cells #[.int .i64 long] 3)) := below_alloc (below_alloc (below_alloc (Below.refl _ _) _) _) _
  go_enter Try.func58, Try.ntmps58
  go_wp2_with fail
  refine nil_texts.mono ?_
  rintro e w1 ⟨rfl, hb⟩
  have hbx : Below w.heap.size w w1 := below_then hbn (by simp; try omega) hb
  clear hb hbn
  go_wp2
  go_ret
  exact ⟨rfl, hbx⟩

theorem took_text (s : St) (most : Int) : s.took (oText most s.b) = s.took (oRaw most s.b) ∧ s.out (oText most s.b) (strOfNums []) = strOfNums (s.out (oRaw most s.b) []) := by
  unfold St.took St.out oText
  by_cases he : s.e = 0
  · simp only [he, if_true]
    cases oRaw most s.b with
    | error x => exact ⟨rfl, rfl⟩
    | ok q => exact ⟨rfl, rfl⟩
  · simp only [he, if_false]
    exact ⟨trivial, trivial⟩
theorem mText_any {w : World} {ok : Nat → Prop} {p : Nat} {s : St} (most : Int) (h : PSt w ok p s) (hok : ∀ k, ok k → k < w.heap.size) :
  Calls Try.prog 50 #[.pointer (some ⟨p, 0, none⟩), .int .i64 most] w (Took ok p w s (oText most s.b) (strOfNums []) fun v _ u => u = .string v) := by
  have ht := took_text s most
  generalize strOfNums [] = z at ht ⊢
  have HT := hid ht
  clear ht
  go_enter Try.func50, Try.ntmps50
  go_wp2_with fail
  refine (mRaw_any most h hok).mono ?_
  rintro e w1 ⟨u, rfl, ⟨A, c, rfl, hR⟩, hP, hC⟩
  obtain ⟨A2, c2, he2, _, hK⟩ := Kd.R_reads hR
  injection he2 with e1 e2 e3
  subst e1
  subst e3
  have hcv := conv_str (c := c) hK
  have HF := hid (And.intro hP hC)
  clear hP hC hR hK
  rw [← HT.out.2] at hcv
  rw [← HT.out.1] at HF
  obtain ⟨y, hy⟩ : ∃ y, s.out (oText most s.b) z = y := ⟨_, rfl⟩
  rw [hy] at hcv
  go_wp2
  go_ret
  exact ⟨_, rfl, by rw [hy]; rfl, HF.out⟩
theorem mText_nil {w : World} (most : Int) : Calls Try.prog 50 #[.pointer none, .int .i64 most] w fun e w' => e = .returned (.string (strOfNums [])) ∧ Below w.heap.size w w' := by
  generalize hz : strOfNums [] = z
  go_enter Try.func50, Try.ntmps50
  go_wp2_with fail
  refine (mRaw_nil most).mono ?_
  rintro e w1 ⟨rfl, hb⟩
  have hcv := conv_str (c := 0) (⟨rfl, by simp, fun h => absurd h (by simp)⟩ : KB.C w1 none 0 [])
  rw [hz] at hcv
  have HB := hid hb
  clear hb
  go_wp2
  go_ret
  exact ⟨rfl, HB.out⟩
end Go.Proofs.Ytiecljhgpbifjaa
