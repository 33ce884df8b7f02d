/- The program's reader: Left, Fail, Error, Done, Read. -/
import Derived.Test.YtiecljhgpbifjaaWireJ
set_option linter.unusedVariables false
set_option linter.unusedSimpArgs false
namespace Go.Proofs.Ytiecljhgpbifjaa
open Go.RowKit Go.Proofs.YtiecljhgpbifjaaW.PrintWords

def St.left (s : St) : Int := if s.e = 0 then s.b.length else 0
def St.done (s : St) : Int := if s.e = 0 ∧ 0 < s.b.length then 41 else s.e
def St.fail (s : St) (x : Int) : St := if s.e = 0 then ⟨s.b, x⟩ else s
theorem left_any {w : World} {ok : Nat → Prop} {p : Nat} {s : St} (h : PSt w ok p s) :
  Calls Try.prog 16 #[.pointer (some ⟨p, 0, none⟩)] w fun e w' => e = .returned (.int .i64 s.left) ∧ w = w' := by
  obtain ⟨b, hp, hb⟩ := h
  obtain ⟨_, _, A, c, hblk, hr, h1, h2⟩ := hp
  have c0 := cell_of_row w p 0 _ _ _ hblk
  have c1 := cell_of_row w p 1 _ _ _ hblk
  simp at c0 c1
  clear hblk
  by_cases he : s.e = 0
  · obtain rfl := hb he
    have hl : s.left = s.b.length := by simp only [St.left, he, if_true]
    rw [hl]
    rw [he] at c1
    go_enter Try.func16, Try.ntmps16
    go_wp2
    go_ret
    exact ⟨rfl, rfl⟩
  · have hl : s.left = 0 := by simp only [St.left, he, if_false]
    rw [hl]
    go_enter Try.func16, Try.ntmps16
    go_wp2
    go_ret
    exact ⟨rfl, rfl⟩
theorem left_nil {w : World} : Calls Try.prog 16 #[.pointer none] w fun e w' => e = .returned (.int .i64 0) ∧ w = w' := by
  go_enter Try.func16, Try.ntmps16
  go_wp2
  go_ret
  exact ⟨rfl, rfl⟩
theorem errs_any {w : World} {ok : Nat → Prop} {p : Nat} {s : St} (h : PSt w ok p s) :
  Calls Try.prog 18 #[.pointer (some ⟨p, 0, none⟩)] w fun e w' => e = .returned (.int .i64 s.e) ∧ w = w' := by
  obtain ⟨b, hp, hb⟩ := h
  exact error_any hp
theorem done_any {w : World} {ok : Nat → Prop} {p : Nat} {s : St} (h : PSt w ok p s) :
  Calls Try.prog 19 #[.pointer (some ⟨p, 0, none⟩)] w fun e w' => e = .returned (.int .i64 s.done) ∧ w = w' := by
  have h0 := left_any h
  have h1 := errs_any h
  by_cases hl : 0 < s.left
  · have hd : s.done = 41 := by
      unfold St.left at hl
      split at hl
      · rename_i he
        unfold St.done
        rw [if_pos ⟨he, by omega⟩]
      · omega
    rw [hd]
    go_enter Try.func19, Try.ntmps19
    go_wp2_with fail
    refine h0.mono ?_
    rintro e w1 ⟨rfl, rfl⟩
    go_wp2
    go_ret
    exact ⟨rfl, rfl⟩
  · have hd : s.done = s.e := by
      unfold St.done
      rw [if_neg]
      rintro ⟨he, hp⟩
      unfold St.left at hl
      rw [if_pos he] at hl
      omega
    rw [hd]
    go_enter Try.func19, Try.ntmps19
    go_wp2_with fail
    refine h0.mono ?_
    rintro e w1 ⟨rfl, rfl⟩
    go_wp2_with fail
    refine h1.mono ?_
    rintro e w1 ⟨rfl, rfl⟩
    go_wp2
    go_ret
    exact ⟨rfl, rfl⟩
theorem done_nil {w : World} : Calls Try.prog 19 #[.pointer none] w fun e w' => e = .returned (.int .i64 2) ∧ w = w' := by
  go_enter Try.func19, Try.ntmps19
  go_wp2_with fail
  refine left_nil.mono ?_
  rintro e w1 ⟨rfl, rfl⟩
  go_wp2_with fail
  refine error_nil.mono ?_
  rintro e w1 ⟨rfl, rfl⟩
  go_wp2
  go_ret
  exact ⟨rfl, rfl⟩
theorem fail_any {w : World} {ok : Nat → Prop} {p : Nat} {s : St} (x : Int) (h : PSt w ok p s) :
  Calls Try.prog 60 #[.pointer (some ⟨p, 0, none⟩), .int .i64 x] w fun e w' => e = .returned (.tuple #[]) ∧ PSt w' ok p (s.fail x) ∧ Chg (fun k => k = p) w w' := by
  obtain ⟨b, hp, hb⟩ := h
  have hp2 := hp.put x
  obtain ⟨_, _, A, c, hblk, hr, h1, h2⟩ := id hp
  have c1 := cell_of_row w p 1 _ _ _ hblk
  have cf := frozen_of_row w p 1 _ _ hblk
  simp at c1
  clear hblk
  by_cases he : s.e = 0
  · have hl : s.fail x = ⟨s.b, x⟩ := by simp only [St.fail, he, if_true]
    have hfin : PSt (w.setCell ⟨p, 1, none⟩ (.int .i64 x)) ok p (s.fail x) := by rw [hl]; exact ⟨b, hp2, fun _ => hb he⟩
    have hC : Chg (fun k => k = p) w (w.setCell ⟨p, 1, none⟩ (.int .i64 x)) := Chg.setCell (S := fun k => k = p) (p := ⟨p, 1, none⟩) (Chg.refl _ w) (.inl rfl) _
    rw [he] at c1
    clear hp hp2
    have HF := hid (And.intro hfin hC)
    clear hfin hC
    go_enter Try.func60, Try.ntmps60
    go_wp2
    go_end0
    exact ⟨rfl, HF.out⟩
  · have hl : s.fail x = s := by simp only [St.fail, he, if_false]
    rw [hl]
    go_enter Try.func60, Try.ntmps60
    go_wp2
    go_end0
    exact ⟨rfl, ⟨b, hp, hb⟩, Chg.refl _ _⟩
theorem fail_nil {w : World} (x : Int) : Calls Try.prog 60 #[.pointer none, .int .i64 x] w fun e w' => e = .returned (.tuple #[]) ∧ w = w' := by
  go_enter Try.func60, Try.ntmps60
  go_wp2
  go_end0
  exact ⟨rfl, rfl⟩
theorem read_any {w : World} {A : Option Addr} {c : Nat} {xs : List Int} (hC : KB.C w A xs.length xs) (hX : Bytes xs) (hl : xs.length ≤ 140737488351232) :
  Calls Try.prog 13 #[.slice A xs.length c] w fun e w' => ∃ p, e = .returned (.pointer (some ⟨p, 0, none⟩)) ∧ PSt w' (fun k => w.heap.size ≤ k ∧ k < w'.heap.size) p ⟨xs, 0⟩ ∧ Below w.heap.size w w' := by
  have hcl := clone_any (c := c) hC hl
  go_enter Try.func13, Try.ntmps13
  go_wp2_with fail
  refine hcl.mono ?_
  rintro e w1 ⟨A1, c1, rfl, hR, hB⟩
  have hsz := hB.size
  obtain ⟨A2, c2, he, hle, _⟩ := Kd.R_reads hR
  injection he with e1 _ e3
  subst e1
  subst e3
  have hown := R_own1 hR
  have hcap : c1 ≤ 9223372036854775807 := by
    rcases hown.2 with ⟨h0, _⟩ | ⟨g', cap', cur, h0, _, _, _, hm, _, _⟩
    · injection h0 with _ _ h3; omega
    · injection h0 with _ _ h3
      have : maxLen = 9223372036854775807 := rfl
      omega
  have hR2 : KB.R 5 w1 w.heap.size (fun k => w.heap.size ≤ k ∧ k < w1.heap.size) (.slice A1 xs.length c1) xs := Rown hown (fun i hi => ⟨own_base hown i hi, own_lt hown i hi⟩)
  have hF := Kd.F_step (W1 := w1.alloc (.cells #[.slice A1 xs.length c1, .int .i64 0] 68)) (Kd.R_F hR2) (fun k _ hk => Below.heap_alloc _ _ _ hk)
  have hfin : PSt (w1.alloc (.cells #[.slice A1 xs.length c1, .int .i64 0] 68)) (fun k => w.heap.size ≤ k ∧ k < (w1.alloc (.cells #[.slice A1 xs.length c1, .int .i64 0] 68)).heap.size) w1.heap.size ⟨xs, 0⟩ :=
    ⟨xs, ⟨⟨hsz, by simp⟩, hX, A1, c1, heap_alloc_new w1 _, Kd.F_mono hF (fun k hk => ⟨⟨hk.1, by simp; omega⟩, by omega⟩), hle, hcap⟩, fun _ => rfl⟩
  have hBn : Below w.heap.size w (w1.alloc (.cells #[.slice A1 xs.length c1, .int .i64 0] 68)) := hB.alloc hsz _
  have HF := hid (And.intro hfin hBn)
  clear hfin hBn hR hF hown
  go_wp2
  go_ret
  exact ⟨_, rfl, HF.out⟩
end Go.Proofs.Ytiecljhgpbifjaa
