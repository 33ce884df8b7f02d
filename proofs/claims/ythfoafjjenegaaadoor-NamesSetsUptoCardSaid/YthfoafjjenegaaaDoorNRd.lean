/- Names: slices of texts that are read; the sets' functions over them. -/
import Derived.Test.YthfoafjjenegaaaDoorLaw04Z
import Derived.Test.YthfoafjjenegaaaDoorNPlain
set_option linter.unusedVariables false
set_option linter.unusedSimpArgs false
namespace Go.Proofs.YthfoafjjenegaaaDoor
open Go.RowKit Go.Sort Go.Proofs.YthfoafjjenegaaaDoorW.PrintWords Go.Proofs.YthfoafjjenegaaaDoor.KCarveNA Go.Proofs.YthfoafjjenegaaaDoor.KCarveNB

structure Rd (W : World) (A : Option Addr) (c : Nat) (l : List ByteArray) : Prop where
  C : KS.C W A l.length l
  le : l.length ≤ c
theorem Rd.below {W W' : World} {A : Option Addr} {c : Nat} {l : List ByteArray} (h : Rd W A c l) (hb : Below W.heap.size W W') : Rd W' A c l := ⟨Kd.C_below h.C hb, h.le⟩
theorem Rd.of_R {W : World} {A : Option Addr} {n c base : Nat} {ok : Nat → Prop} {l : List ByteArray} (h : KS.R 9 W base ok (.slice A n c) l) : Rd W A c l := by
  have := Kd.R_reads' h
  exact ⟨this.2.2, by omega⟩
theorem set_rd {W : World} {A : Option Addr} {c : Nat} {l : List ByteArray} (h : Rd W A c l) (hl : l.length ≤ 8388608) (r : List ByteArray) (hr : setS l = r) :
    Calls Tryd.prog 25 #[.slice A l.length c] W fun e W' => ∃ A' c', e = .returned (.slice A' r.length c') ∧ Rd W' A' c' r ∧ Below W.heap.size W W' := by
  subst hr
  exact (Set_any h.C (by omega)).mono fun _ _ ⟨A', c', h1, h2, h3⟩ => ⟨A', c', h1, Rd.of_R h2, h3⟩
theorem union_rd {W : World} {A A2 : Option Addr} {c c2 : Nat} {l l2 : List ByteArray} (h : Rd W A c l) (h2 : Rd W A2 c2 l2) (hl : l.length + l2.length ≤ 8388608) (r : List ByteArray) (hr : setS (l ++ l2) = r) :
    Calls Tryd.prog 27 #[.slice A l.length c, .slice A2 l2.length c2] W fun e W' => ∃ A' c', e = .returned (.slice A' r.length c') ∧ Rd W' A' c' r ∧ Below W.heap.size W W' := by
  subst hr
  exact (Union_any h.C h2.C (by omega)).mono fun _ _ ⟨A', c', h1, h2, h3⟩ => ⟨A', c', h1, Rd.of_R h2, h3⟩
theorem minus_rd {W : World} {A A2 : Option Addr} {c c2 : Nat} {l l2 : List ByteArray} (h : Rd W A c l) (h2 : Rd W A2 c2 l2) (hl : l.length ≤ 8388608) (r : List ByteArray) (hr : (setS l).filter (fun x => !has l2 x) = r) :
    Calls Tryd.prog 28 #[.slice A l.length c, .slice A2 l2.length c2] W fun e W' => ∃ A' c', e = .returned (.slice A' r.length c') ∧ Rd W' A' c' r ∧ Below W.heap.size W W' := by
  subst hr
  exact (Minus_any h.C h2.C (by omega)).mono fun _ _ ⟨A', c', h1, h2, h3⟩ => ⟨A', c', h1, Rd.of_R h2, h3⟩
theorem both_rd {W : World} {A A2 : Option Addr} {c c2 : Nat} {l l2 : List ByteArray} (h : Rd W A c l) (h2 : Rd W A2 c2 l2) (hl : l.length ≤ 8388608) (r : List ByteArray) (hr : (setS l).filter (fun x => has l2 x) = r) :
    Calls Tryd.prog 29 #[.slice A l.length c, .slice A2 l2.length c2] W fun e W' => ∃ A' c', e = .returned (.slice A' r.length c') ∧ Rd W' A' c' r ∧ Below W.heap.size W W' := by
  subst hr
  exact (Both_any h.C h2.C (by omega)).mono fun _ _ ⟨A', c', h1, h2, h3⟩ => ⟨A', c', h1, Rd.of_R h2, h3⟩
theorem texts_rd {W : World} {A A2 : Option Addr} {c c2 : Nat} {l : List ByteArray} (h : Rd W A c l) (h2 : Rd W A2 c2 l) :
    Calls Tryd.prog 12 #[.slice A l.length c, .slice A2 l.length c2] W fun e W' => e = .returned (.bool true) ∧ Below W.heap.size W W' := texts_same h.C h.le h2.C h2.le rfl
/-! The plain laws. -/
theorem mem_filter_has {l b : List ByteArray} {x : ByteArray} : x ∈ l.filter (fun x => has b x) ↔ x ∈ l ∧ x ∈ b := by rw [List.mem_filter, has_iff]
theorem mem_filter_not {l b : List ByteArray} {x : ByteArray} : x ∈ l.filter (fun x => !has b x) ↔ x ∈ l ∧ x ∉ b := by
  rw [List.mem_filter]
  constructor
  · rintro ⟨h1, h2⟩
    exact ⟨h1, fun h => by rw [has_true h] at h2; cases h2⟩
  · rintro ⟨h1, h2⟩
    exact ⟨h1, by rw [has_false h2]; rfl⟩
theorem alg1 (a b : List ByteArray) : setS (b ++ a) = setS (a ++ b) := (setS_sorted _).eq (setS_sorted _) (fun x => by simp only [mem_setS, List.mem_append]; exact Or.comm)
theorem alg2 (a b : List ByteArray) : (setS b).filter (fun x => has a x) = (setS a).filter (fun x => has b x) := ((setS_sorted _).filter _).eq ((setS_sorted _).filter _) (fun x => by simp only [mem_filter_has, mem_setS]; exact And.comm)
theorem alg3 (l : List ByteArray) : setS (setS l) = setS l := (setS_sorted _).set
theorem alg4 (a : List ByteArray) : setS (a ++ a) = setS a := (setS_sorted _).eq (setS_sorted _) (fun x => by simp only [mem_setS, List.mem_append, or_self])
theorem alg6 (a b : List ByteArray) : setS ((setS a).filter (fun x => !has b x) ++ (setS a).filter (fun x => has b x)) = setS a := (setS_sorted _).eq (setS_sorted _) (fun x => by
  simp only [mem_setS, List.mem_append, mem_filter_has, mem_filter_not]
  constructor
  · rintro (h | h)
    · exact h.1
    · exact h.1
  · intro h
    rcases Classical.em (x ∈ b) with k | k
    · exact .inr ⟨h, k⟩
    · exact .inl ⟨h, k⟩)
theorem alg8 (a b : List ByteArray) : (setS ((setS a).filter (fun x => !has b x))).filter (fun x => has ((setS a).filter (fun x => has b x)) x) = [] := by
  rw [List.filter_eq_nil_iff]
  intro x hx
  rw [mem_setS, mem_filter_not] at hx
  rw [has_iff, mem_filter_has]
  exact fun h => hx.2 h.2
theorem alg10 (a b c : List ByteArray) : setS (a ++ setS (b ++ c)) = setS (setS (a ++ b) ++ c) := (setS_sorted _).eq (setS_sorted _) (fun x => by simp only [mem_setS, List.mem_append, or_assoc])
theorem alg14 (a b c : List ByteArray) : setS ((setS a).filter (fun x => has b x) ++ (setS a).filter (fun x => has c x)) = (setS a).filter (fun x => has (setS (b ++ c)) x) := (setS_sorted _).eq ((setS_sorted _).filter _) (fun x => by
  simp only [mem_setS, List.mem_append, mem_filter_has]
  constructor
  · rintro (h | h)
    · exact ⟨h.1, .inl h.2⟩
    · exact ⟨h.1, .inr h.2⟩
  · rintro ⟨h, k | k⟩
    · exact .inl ⟨h, k⟩
    · exact .inr ⟨h, k⟩)
end Go.Proofs.YthfoafjjenegaaaDoor
