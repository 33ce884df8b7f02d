/- A reader of the program that may be nil; foundrylaw03.Ints, Texts. -/
import Derived.Test.YtiecljhgpbifjaaWireY
set_option linter.unusedVariables false
set_option linter.unusedSimpArgs false
namespace Go.Proofs.Ytiecljhgpbifjaa
open Go.RowKit Go.Proofs.YtiecljhgpbifjaaW.PrintWords

abbrev rptr (pv : Option Nat) : Value := .pointer (pv.map fun p => ⟨p, 0, none⟩)
/-- A reader of the program in a state; a nil one has the error of a nil one. -/
def RdAny (w : World) (ok : Nat → Prop) (pv : Option Nat) (s : St) : Prop := match pv with
  | some p => PSt w ok p s
  | none => s.e = 2
theorem RdAny.step {w w1 : World} {ok : Nat → Prop} {pv : Option Nat} {s : St} (h : RdAny w ok pv s) (hm : ∀ k, ok k → k < w.heap.size → w1.heap[k]? = w.heap[k]?) : RdAny w1 ok pv s := by
  cases pv with
  | none => exact h
  | some p => exact PSt.step h hm
theorem RdAny.below {w w1 : World} {ok : Nat → Prop} {pv : Option Nat} {s : St} (h : RdAny w ok pv s) (hm : Below w.heap.size w w1) : RdAny w1 ok pv s := h.step (fun k _ hk => hm.block k hk)
theorem RdAny.okp {w : World} {ok : Nat → Prop} {pv : Option Nat} {s : St} (h : RdAny w ok pv s) : ∀ k, some k = pv → ok k := by
  cases pv with
  | none => intro k hk; cases hk
  | some p => intro k hk; injection hk with hk; subst hk; obtain ⟨_, h1, _⟩ := h; exact h1.okp
def TookR {α : Type} (ok : Nat → Prop) (pv : Option Nat) (w : World) (s : St) (o : Out α) (z : α) (Q : α → World → Value → Prop) (e : Ending) (w' : World) : Prop :=
  ∃ u, e = .returned u ∧ Q (s.out o z) w' u ∧ RdAny w' ok pv (s.took o) ∧ Chg (fun k => some k = pv) w w'
theorem TookR.of {α : Type} {ok : Nat → Prop} {p : Nat} {w w' : World} {s : St} {o : Out α} {z : α} {Q : α → World → Value → Prop} {e : Ending} (h : Took ok p w s o z Q e w') : TookR ok (some p) w s o z Q e w' := by
  obtain ⟨u, h1, h2, h3, h4⟩ := h
  exact ⟨u, h1, h2, h3, h4.mono (fun k hk => by rw [hk])⟩
theorem TookR.nil {α : Type} {ok : Nat → Prop} {w w' : World} {s : St} {o : Out α} {z : α} {Q : α → World → Value → Prop} {u : Value} (he : s.e = 2) (hq : Q z w' u) (hb : Below w.heap.size w w') : TookR ok none w s o z Q (.returned u) w' := by
  have h0 : ¬ s.e = 0 := by omega
  refine ⟨u, rfl, ?_, ?_, Chg.of_below hb _⟩
  · simpa [St.out, h0] using hq
  · simp only [St.took, h0, if_false]
    exact he

theorem xByte_any {w : World} {ok : Nat → Prop} {pv : Option Nat} {s : St} (h : RdAny w ok pv s) (hok : ∀ k, ok k → k < w.heap.size) :
  Calls Try.prog 42 #[rptr pv] w (TookR ok pv w s (oNum 1 s.b) 0 fun v _ u => u = .int .u8 v) := by
  cases pv with
  | none => exact mByte_nil.mono (by rintro e w' ⟨rfl, hb⟩; exact TookR.nil h rfl hb)
  | some p => exact (mByte_any h hok).mono (fun e w' h => TookR.of h)

theorem xBool_any {w : World} {ok : Nat → Prop} {pv : Option Nat} {s : St} (h : RdAny w ok pv s) (hok : ∀ k, ok k → k < w.heap.size) :
  Calls Try.prog 41 #[rptr pv] w (TookR ok pv w s (oBool s.b) false fun v _ u => u = .bool v) := by
  cases pv with
  | none => exact mBool_nil.mono (by rintro e w' ⟨rfl, hb⟩; exact TookR.nil h rfl hb)
  | some p => exact (mBool_any h hok).mono (fun e w' h => TookR.of h)

theorem xShort_any {w : World} {ok : Nat → Prop} {pv : Option Nat} {s : St} (h : RdAny w ok pv s) (hok : ∀ k, ok k → k < w.heap.size) :
  Calls Try.prog 45 #[rptr pv] w (TookR ok pv w s (oNum 2 s.b) 0 fun v _ u => u = .int .i64 v) := by
  cases pv with
  | none => exact mShort_nil.mono (by rintro e w' ⟨rfl, hb⟩; exact TookR.nil h rfl hb)
  | some p => exact (mShort_any h hok).mono (fun e w' h => TookR.of h)

theorem xInt_any {w : World} {ok : Nat → Prop} {pv : Option Nat} {s : St} (h : RdAny w ok pv s) (hok : ∀ k, ok k → k < w.heap.size) :
  Calls Try.prog 47 #[rptr pv] w (TookR ok pv w s (oInt s.b) 0 fun v _ u => u = .int .i64 v) := by
  cases pv with
  | none => exact mInt_nil.mono (by rintro e w' ⟨rfl, hb⟩; exact TookR.nil h rfl hb)
  | some p => exact (mInt_any h hok).mono (fun e w' h => TookR.of h)

theorem xLong_any {w : World} {ok : Nat → Prop} {pv : Option Nat} {s : St} (h : RdAny w ok pv s) (hok : ∀ k, ok k → k < w.heap.size) :
  Calls Try.prog 22 #[rptr pv] w (TookR ok pv w s (oNum 8 s.b) 0 fun v _ u => u = .int .u64 v) := by
  cases pv with
  | none => exact mLong_nil.mono (by rintro e w' ⟨rfl, hb⟩; exact TookR.nil h rfl hb)
  | some p => exact (mLong_any h hok).mono (fun e w' h => TookR.of h)

theorem xRaw_any {w : World} {ok : Nat → Prop} {pv : Option Nat} {s : St} (most : Int) (h : RdAny w ok pv s) (hok : ∀ k, ok k → k < w.heap.size) :
  Calls Try.prog 52 #[rptr pv, .int .i64 most] w (TookR ok pv w s (oRaw most s.b) [] (RawQ w.heap.size)) := by
  cases pv with
  | none => exact (mRaw_nil most).mono (by rintro e w' ⟨rfl, hb⟩; exact TookR.nil h ⟨none, 0, rfl, Kd.R_nil _ _ _ _ _⟩ hb)
  | some p => exact (mRaw_any most h hok).mono (fun e w' h => TookR.of h)

theorem xInts_any {w : World} {ok : Nat → Prop} {pv : Option Nat} {s : St} (most : Int) (h : RdAny w ok pv s) (hok : ∀ k, ok k → k < w.heap.size) :
  Calls Try.prog 55 #[rptr pv, .int .i64 most] w (TookR ok pv w s (oInts most s.b) [] (IntsQ w.heap.size)) := by
  cases pv with
  | none => exact (mInts_nil most).mono (by rintro e w' ⟨rfl, hb⟩; exact TookR.nil h ⟨none, 0, rfl, Kd.R_nil _ _ _ _ _⟩ hb)
  | some p => exact (mInts_any most h hok).mono (fun e w' h => TookR.of h)

theorem xTexts_any {w : World} {ok : Nat → Prop} {pv : Option Nat} {s : St} (most long : Int) (h : RdAny w ok pv s) (hok : ∀ k, ok k → k < w.heap.size) :
  Calls Try.prog 58 #[rptr pv, .int .i64 most, .int .i64 long] w (TookR ok pv w s (oTexts most long s.b) [] (TextsQ w.heap.size)) := by
  cases pv with
  | none => exact (mTexts_nil most long).mono (by rintro e w' ⟨rfl, hb⟩; exact TookR.nil h ⟨none, 0, rfl, Kd.R_nil _ _ _ _ _⟩ hb)
  | some p => exact (mTexts_any most long h hok).mono (fun e w' h => TookR.of h)

theorem xText_any {w : World} {ok : Nat → Prop} {pv : Option Nat} {s : St} (most : Int) (h : RdAny w ok pv s) (hok : ∀ k, ok k → k < w.heap.size) :
  Calls Try.prog 50 #[rptr pv, .int .i64 most] w (TookR ok pv w s (oText most s.b) (strOfNums []) fun v _ u => u = .string v) := by
  cases pv with
  | none => exact (mText_nil most).mono (by rintro e w' ⟨rfl, hb⟩; exact TookR.nil h rfl hb)
  | some p => exact (mText_any most h hok).mono (fun e w' h => TookR.of h)

theorem xFail_any {w : World} {ok : Nat → Prop} {pv : Option Nat} {s : St} (x : Int) (h : RdAny w ok pv s) :
  Calls Try.prog 60 #[rptr pv, .int .i64 x] w fun e w' => e = .returned (.tuple #[]) ∧ RdAny w' ok pv (s.fail x) ∧ Chg (fun k => some k = pv) w w' := by
  cases pv with
  | none =>
    refine (fail_nil x).mono ?_
    rintro e w' ⟨rfl, rfl⟩
    have he : s.e = 2 := h
    have h0 : ¬ s.e = 0 := by omega
    refine ⟨rfl, ?_, Chg.refl _ _⟩
    simp only [St.fail, h0, if_false]
    exact h
  | some p => exact (fail_any x h).mono (fun e w' h => ⟨h.1, h.2.1, h.2.2.mono (fun k hk => by rw [hk])⟩)
theorem xLeft_any {w : World} {ok : Nat → Prop} {pv : Option Nat} {s : St} (h : RdAny w ok pv s) : Calls Try.prog 16 #[rptr pv] w fun e w' => e = .returned (.int .i64 s.left) ∧ w = w' := by
  cases pv with
  | none =>
    have he : s.e = 2 := h
    have : s.left = 0 := by unfold St.left; rw [if_neg (by omega)]
    rw [this]
    exact left_nil
  | some p => exact left_any h
theorem xError_any {w : World} {ok : Nat → Prop} {pv : Option Nat} {s : St} (h : RdAny w ok pv s) : Calls Try.prog 18 #[rptr pv] w fun e w' => e = .returned (.int .i64 s.e) ∧ w = w' := by
  cases pv with
  | none =>
    have he : s.e = 2 := h
    rw [he]
    exact error_nil
  | some p => exact errs_any h
theorem xDone_any {w : World} {ok : Nat → Prop} {pv : Option Nat} {s : St} (h : RdAny w ok pv s) : Calls Try.prog 19 #[rptr pv] w fun e w' => e = .returned (.int .i64 s.done) ∧ w = w' := by
  cases pv with
  | none =>
    have he : s.e = 2 := h
    have : s.done = 2 := by unfold St.done; rw [if_neg (fun h => by have := h.1; omega), he]
    rw [this]
    exact done_nil
  | some p => exact done_any h

set_option maxRecDepth 100000 in
/-- Two lists that are one. -/
theorem oneInts_any {w : World} {l : List Int} {A B : Option Addr} {c d : Nat} (hA : (Kd.int .i64).C w A l.length l) (hB : (Kd.int .i64).C w B l.length l) :
  Calls Try.prog 54 #[.slice A l.length c, .slice B l.length d] w fun e w' => e = .returned (.bool true) ∧ Below w.heap.size w w' := by
  have hlm : l.length ≤ 9223372036854775807 := hA.2.1
  go_enter Try.func54, Try.ntmps54
  go_wp2_with fail
  go_loopw [5] (fun i wr => Below w.heap.size w wr ∧ ∃ k : Nat, k ≤ l.length ∧ i = .int .i64 k) (fun i _ => l.length - (intOf i).toNat)
  case atStart => exact ⟨Below.refl _ _, 0, Nat.zero_le _, rfl⟩
  case round =>
    obtain ⟨hb, k, hk, rfl⟩ := hrel
    by_cases hlt : k < l.length
    · obtain ⟨ad, rfl, hc1⟩ := (Kd.reads_of_C (enc := Value.int .i64) (d := (0 : Int)) (h1 := fun _ => rfl) (Kd.C_below hA hb)).at_ (k : Int) (by omega) (by omega)
      obtain ⟨bd, rfl, hc2⟩ := (Kd.reads_of_C (enc := Value.int .i64) (d := (0 : Int)) (h1 := fun _ => rfl) (Kd.C_below hB hb)).at_ (k : Int) (by omega) (by omega)
      simp only [Int.toNat_natCast] at hc1 hc2
      have hlw : (k : Int) < (l.length : Int) := by omega
      have hrd : rdOf (0 : Int) l k = l[k] := by simp [rdOf, List.getD_eq_getElem?_getD, hlt]
      rw [hrd] at hc1 hc2
      generalize l[k] = x at hc1 hc2
      go_wp2_with fail
      refine wp_region_plan [] (.take 0 (.take 1 (.take 2 (.take 3 (.take 4 (.take 5 (.take 6 (.take 7 (.take 8 .done))))))))) (fun w' => w'.cell? (ad.add k) = some (Value.int .i64 x) ∧ w'.cell? (bd.add k) = some (Value.int .i64 x)) (by kernel_rfl) (by kernel_rfl) (fun c a d v w h => by cases d <;> exact h) ⟨hc1, hc2⟩ ?_
      iterate 9 (apply plan_take rfl rfl; (case hy => (intro w' hS; obtain ⟨s0, s1⟩ := hS; go_simp; try exact rfl)); go_simp)
      refine plan_done ?_
      go_wp2
      go_roundw
      case rel => exact ⟨below_drew hb, k + 1, by omega, by go_num⟩
      case measure => simp [intOf]; omega
    · obtain rfl : k = l.length := by omega
      go_wp2
      go_ret
      exact ⟨rfl, hb⟩

set_option maxRecDepth 100000 in
/-- Two lists that are one. -/
theorem oneTexts_any {w : World} {l : List ByteArray} {A B : Option Addr} {c d : Nat} (hA : Kd.string.C w A l.length l) (hB : Kd.string.C w B l.length l) :
  Calls Try.prog 57 #[.slice A l.length c, .slice B l.length d] w fun e w' => e = .returned (.bool true) ∧ Below w.heap.size w w' := by
  have hlm : l.length ≤ 9223372036854775807 := hA.2.1
  go_enter Try.func57, Try.ntmps57
  go_wp2_with fail
  go_loopw [5] (fun i wr => Below w.heap.size w wr ∧ ∃ k : Nat, k ≤ l.length ∧ i = .int .i64 k) (fun i _ => l.length - (intOf i).toNat)
  case atStart => exact ⟨Below.refl _ _, 0, Nat.zero_le _, rfl⟩
  case round =>
    obtain ⟨hb, k, hk, rfl⟩ := hrel
    by_cases hlt : k < l.length
    · obtain ⟨ad, rfl, hc1⟩ := (Kd.reads_of_C (enc := Value.string) (d := ByteArray.empty) (h1 := fun _ => rfl) (Kd.C_below hA hb)).at_ (k : Int) (by omega) (by omega)
      obtain ⟨bd, rfl, hc2⟩ := (Kd.reads_of_C (enc := Value.string) (d := ByteArray.empty) (h1 := fun _ => rfl) (Kd.C_below hB hb)).at_ (k : Int) (by omega) (by omega)
      simp only [Int.toNat_natCast] at hc1 hc2
      have hlw : (k : Int) < (l.length : Int) := by omega
      have hrd : rdOf ByteArray.empty l k = l[k] := by simp [rdOf, List.getD_eq_getElem?_getD, hlt]
      rw [hrd] at hc1 hc2
      generalize l[k] = x at hc1 hc2
      go_wp2_with fail
      refine wp_region_plan [] (.take 0 (.take 1 (.take 2 (.take 3 (.take 4 (.take 5 (.take 6 (.take 7 (.take 8 .done))))))))) (fun w' => w'.cell? (ad.add k) = some (Value.string x) ∧ w'.cell? (bd.add k) = some (Value.string x)) (by kernel_rfl) (by kernel_rfl) (fun c a d v w h => by cases d <;> exact h) ⟨hc1, hc2⟩ ?_
      iterate 9 (apply plan_take rfl rfl; (case hy => (intro w' hS; obtain ⟨s0, s1⟩ := hS; go_simp; try exact rfl)); go_simp)
      refine plan_done ?_
      go_wp2
      go_roundw
      case rel => exact ⟨below_drew hb, k + 1, by omega, by go_num⟩
      case measure => simp [intOf]; omega
    · obtain rfl : k = l.length := by omega
      go_wp2
      go_ret
      exact ⟨rfl, hb⟩
end Go.Proofs.Ytiecljhgpbifjaa
