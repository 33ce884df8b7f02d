/- Names: Words, live. -/
import Derived.Test.YthfoafjjenegaaaDoorNLive
set_option linter.unusedVariables false
set_option linter.unusedSimpArgs false
namespace Go.Proofs.YthfoafjjenegaaaDoor
open Go.RowKit Go.Sort Go.Proofs.YthfoafjjenegaaaDoorW.PrintWords Go.Proofs.YthfoafjjenegaaaDoor.KCarveNA Go.Proofs.YthfoafjjenegaaaDoor.KCarveNB

theorem own_fresh (w : World) (base : Nat) (hb : base ≤ w.heap.size) (l : List ByteArray) (hl : l.length ≤ maxLen) : (w.alloc (.cells (l.map Value.string).toArray 9)).ownsRow base 9 1 (.slice (some ⟨w.heap.size, 0, none⟩) l.length l.length) l.length (encs Value.string l) :=
  ⟨by simp [encs], .inr ⟨w.heap.size, l.length, _, rfl, hb, heap_alloc_new w _, Nat.le_refl _, hl, by simp, by simp only [encs, Nat.mul_one, List.toList_toArray]; exact List.take_of_length_le (by simp)⟩⟩
theorem R_fresh (w : World) (l : List ByteArray) (hl : l.length ≤ maxLen) : KS.R 9 (w.alloc (.cells (l.map Value.string).toArray 9)) w.heap.size (fun k => w.heap.size ≤ k) (.slice (some ⟨w.heap.size, 0, none⟩) l.length l.length) l :=
  Kd.R_of_own (own_fresh w _ (Nat.le_refl _) l hl) (fun k hk => by
    have : w.heap.size = k := by simpa [Value.ownBlock] using hk
    omega)
theorem words_len : wordsS.length = 23 := rfl
theorem fieldsW {w : World} (s : ByteArray) (h1 : s.size < 4294967281) (h2 : s.data.toList.all (fun b => decide (b.toNat < 128)) = true) (h3 : Lib.fields s.data.toList = words) (hw : NOK w) :
    Calls Tryd.prog 35 #[.string s] w fun e w' => e = .returned (.slice (some ⟨w.heap.size, 0, none⟩) wordsS.length wordsS.length) ∧ w' = w.alloc (.cells (wordsS.map Value.string).toArray 9) := by
  have h := Tryd.strings_Fields_laid s w h1 (fun j b hj => by
    have := List.all_eq_true.1 h2 b (List.mem_of_getElem? hj)
    exact of_decide_eq_true this) hw.1
  rw [h3] at h
  have e : (wordsS.map Value.string) = words.map fun l => Value.string ⟨l.toArray⟩ := by unfold wordsS; rw [List.map_map]; rfl
  rw [e]
  exact h
set_option maxRecDepth 100000 in
theorem words_any {w : World} (hw : NOK w) : Calls Tryd.prog 11 #[] w fun e w' => ∃ g, e = .returned (.slice (some ⟨g, 0, none⟩) wordsS.length wordsS.length) ∧ KS.R 9 w' w.heap.size (fun k => w.heap.size ≤ k) (.slice (some ⟨g, 0, none⟩) wordsS.length wordsS.length) wordsS ∧ Below w.heap.size w w' := by
  have hf := R_fresh w wordsS (by rw [words_len]; decide)
  have hb := below_alloc (Below.refl w.heap.size w) (.cells (wordsS.map Value.string).toArray 9)
  generalize hW : w.alloc (.cells (wordsS.map Value.string).toArray 9) = W at hf hb
  have HF := hid (And.intro hf (And.intro hb hW))
  clear hf hb hW
  go_enter Tryd.func11, Tryd.ntmps11
  go_wp2_with fail
  refine (fieldsW _ (by decide) (by kernel_rfl) (by kernel_rfl) hw).mono ?_
  rintro e w' ⟨rfl, rfl⟩
  rw [HF.out.2.2]
  go_wp2
  go_ret
  exact ⟨w.heap.size, rfl, HF.out.1, HF.out.2.1⟩
theorem right_known (s : ByteArray) (r : Int) (k : Nat) (hs : s.size + 1 < k) (hn : s.size ≤ 9223372036854775807) (h : names_Right.f k s = some r) : rightE s = r := by
  rw [right_f s hn hs] at h
  exact Option.some.inj h
theorem live_facts : splitV ⟨#[109, 46, 102]⟩ = (⟨#[109]⟩, ⟨#[102]⟩, 0) ∧ rightE ⟨#[95, 57]⟩ = 0 ∧ rightE ⟨#[119, 104, 105, 108, 101]⟩ = 12 ∧ cmpV ⟨#[98]⟩ ⟨#[97, 98]⟩ = 1 ∧ setS [⟨#[98]⟩, ⟨#[97]⟩, ⟨#[98]⟩] = [⟨#[97]⟩, ⟨#[98]⟩] := by
  refine ⟨?_, right_known _ _ 8 (by decide) (by decide) (by kernel_rfl), right_known _ _ 10 (by decide) (by decide) (by kernel_rfl), by decide, ?_⟩
  · have e : Lib.cut (bl ⟨#[109, 46, 102]⟩) [46] = ([109], [102], true) := by decide
    unfold splitV
    rw [e]
    have e1 : rightE (tx [109]) = 0 := right_known _ _ 8 (by decide) (by decide) (by kernel_rfl)
    have e2 : rightE (tx [102]) = 0 := right_known _ _ 8 (by decide) (by decide) (by kernel_rfl)
    dsimp only
    rw [e1, e2]
    rfl
  · refine setS_eq (by unfold Sorted; decide) (fun x => ?_)
    simp only [List.mem_cons, List.not_mem_nil, or_false]
    constructor
    · rintro (h | h)
      · exact .inr (.inl h)
      · exact .inl h
    · rintro (h | h | h)
      · exact .inr h
      · exact .inl h
      · exact .inr h
set_option maxRecDepth 100000 in
set_option maxHeartbeats 4000000 in
theorem live_any {w : World} (hw : NOK w) : Calls Tryd.prog 18 #[] w fun e w' => e = .returned (.bool true) ∧ Below w.heap.size w w' := by
  obtain ⟨f1, f2, f3, f4, f5⟩ := live_facts
  have c1 := split_any (w := w) ⟨#[109, 46, 102]⟩ (by decide) hw
  rw [f1] at c1
  dsimp only at c1
  have c2 := fun W : World => right_any (w := W) ⟨#[95, 57]⟩ (by decide)
  rw [f2] at c2
  have c3 := fun W : World => right_any (w := W) ⟨#[119, 104, 105, 108, 101]⟩ (by decide)
  rw [f3] at c3
  have c4 := fun W : World => Cmp_any (w := W) ⟨#[98]⟩ ⟨#[97, 98]⟩
  rw [f4] at c4
  have C2 := hid c2
  have C3 := hid c3
  have C4 := hid c4
  have F5 := hid f5
  have HW := hid hw
  clear c2 c3 c4 f1 f2 f3 f4 f5 hw
  go_enter Tryd.func18, Tryd.ntmps18
  go_wp2_with fail
  refine c1.mono ?_
  rintro e w1 ⟨rfl, b1⟩
  clear c1
  go_wp2_with fail
  refine (C2.out _).mono ?_
  rintro e w2 ⟨rfl, b2⟩
  replace b2 := below_step b1 b2
  clear b1
  go_wp2_with fail
  refine (C3.out _).mono ?_
  rintro e w3 ⟨rfl, b3⟩
  replace b3 := below_step b2 b3
  clear b2
  go_wp2_with fail
  refine (C4.out _).mono ?_
  rintro e w4 ⟨rfl, b4⟩
  replace b4 := below_step b3 b4
  clear b3
  have hR5 := R_fresh w4 [⟨#[98]⟩, ⟨#[97]⟩, ⟨#[98]⟩] (by decide)
  have b5 : Below w.heap.size w (w4.alloc (.cells #[.string ⟨#[98]⟩, .string ⟨#[97]⟩, .string ⟨#[98]⟩] 9)) := below_step b4 (below_alloc (Below.refl _ _) _)
  have c5 := Set_any (c := 3) (Kd.R_reads' hR5).2.2 (by decide)
  rw [F5.out] at c5
  clear b4 hR5
  go_wp2_with fail
  refine c5.mono ?_
  rintro e w6 ⟨A6, c6, rfl, hR6, b6⟩
  replace b6 := below_step b5 b6
  clear b5 c5
  have hR7 := R_fresh w6 [⟨#[97]⟩, ⟨#[98]⟩] (by decide)
  have b7 : Below w.heap.size w (w6.alloc (.cells #[.string ⟨#[97]⟩, .string ⟨#[98]⟩] 9)) := below_step b6 (below_alloc (Below.refl _ _) _)
  have hr6 := Kd.R_reads' (Kd.R_alloc hR6 (.cells #[.string ⟨#[97]⟩, .string ⟨#[98]⟩] 9))
  have c7 := texts_same hr6.2.2 hr6.2.1 (Kd.R_reads' hR7).2.2 (Nat.le_refl _) rfl
  clear b6 hR6 hR7 hr6
  go_wp2_with fail
  refine c7.mono ?_
  rintro e w8 ⟨rfl, b8⟩
  replace b8 := below_step b7 b8
  clear b7 c7
  go_wp2_with fail
  refine (words_any (HW.out.below b8)).mono ?_
  rintro e w9 ⟨g, rfl, _, b9⟩
  have b10 := below_step b8 b9
  have hwl := words_len
  clear b8 b9
  go_wp2
  go_ret
  exact ⟨rfl, b10⟩
end Go.Proofs.YthfoafjjenegaaaDoor
