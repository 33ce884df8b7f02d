/- Write, Read, Gen, whole; sameBytes, sameRecord, mine. -/
import Derived.Test.YtekhmkfiepnnkaaSealL
import Derived.Test.YtekhmkfiepnnkaaCarveA
set_option linter.unusedVariables false
set_option linter.unusedSimpArgs false
namespace Go.Proofs.Ytekhmkfiepnnkaa
open Go.RowKit Go.Proofs.YtekhmkfiepnnkaaW.PrintWords Go.Proofs.YtekhmkfiepnnkaaW.PrintMore

theorem right_of {r : SR} (h : sealE r = 0) (hg : 0 ≤ r.gen ∧ r.gen < 18446744073709551616) (hb : Bytes r.bytes) : r.right := by
  unfold sealE at h
  split at h
  · simp at h
  · split at h
    · simp at h
    · exact ⟨by omega, by omega, by omega, hb, by omega⟩
theorem swrite_any {w : World} {okd okr : Nat → Prop} {D : DM} {A : Option Addr} {c : Nat} (p : Nat) (base : Int) (r : SR) (h : PDisk w okd p D) (hF : RB w okr A r.bytes) (hne : apart okr okd) (hl : r.bytes.length ≤ c)
    (hb : Bytes r.bytes) (hg : 0 ≤ r.gen ∧ r.gen < 18446744073709551616) (hb9 : -9223372036854775808 ≤ base ∧ base ≤ 9223372036854775807) (hm : (D.ws.length + 65537) * 32 ≤ 140737488355328) :
  Calls Try.prog 22 #[.pointer (some ⟨p, 0, none⟩), .int .i64 base, recV r A c] w fun e w' => e = .returned (.int .i64 (D.sealW base r).2) ∧ PDisk w' (orNew okd w) p (D.sealW base r).1 ∧ Chg okd w w' := by
  unfold DM.sealW
  by_cases he : sealE r = 0
  · rw [if_neg (by simp [he])]
    have hr := right_of he hg hb
    by_cases ho : outB D base r = true
    · have hx : base < 0 ∨ (D.n : Int) < base ∨ (D.n : Int) - base < r.at_ + need r.bytes.length := by
        unfold outB at ho
        simp only [Bool.or_eq_true, decide_eq_true_eq] at ho
        rcases ho with (ho | ho) | ho
        · exact .inl ho
        · exact .inr (.inl ho)
        · exact .inr (.inr ho)
      rw [if_pos hx]
      refine (seal_bad p base r h hr.l hr.a hb9 he ho).mono ?_
      rintro e w' ⟨rfl, hB⟩
      exact ⟨rfl, (h.step (fun k _ hk => hB.block k hk)).mono (fun _ hk => .inl hk), Chg.of_below hB _⟩
    · have hx : ¬ (base < 0 ∨ (D.n : Int) < base ∨ (D.n : Int) - base < r.at_ + need r.bytes.length) := by
        unfold outB at ho
        simp only [Bool.or_eq_true, decide_eq_true_eq] at ho
        rintro (hh | hh | hh)
        · exact ho (.inl (.inl hh))
        · exact ho (.inl (.inr hh))
        · exact ho (.inr hh)
      rw [if_neg hx]
      exact seal_go p base r h hF hne hl hr hb9 he (by simpa using ho) hm
  · rw [if_pos he]
    refine (seal_err p base r (RB_len hF) he).mono ?_
    rintro e w' ⟨rfl, hB⟩
    exact ⟨rfl, (h.step (fun k _ hk => hB.block k hk)).mono (fun _ hk => .inl hk), Chg.of_below hB _⟩
theorem readV_E {D : DM} {base end_ gen at_ : Int} (h : ¬ readE D base end_ at_ = 0) : readV D base end_ gen at_ = none := by
  unfold readV
  rw [if_neg (fun hh => h hh.1)]
theorem sread_any {w : World} {ok : Nat → Prop} {p : Nat} {D : DM} (h : PDisk w ok p D) (base end_ gen at_ : Int) :
  Calls Try.prog 29 #[.pointer (some ⟨p, 0, none⟩), .int .i64 base, .int .i64 end_, .int .u64 gen, .int .i64 at_] w (ReadPost (readV D base end_ gen at_) (readE D base end_ at_) w) := by
  by_cases he : readE D base end_ at_ = 0
  · by_cases ho : end_ - base ≤ at_
    · rw [show readV D base end_ gen at_ = none from by unfold readV; rw [if_neg (fun hh => by have := hh.2.1; omega)], he]
      exact read_outD h base end_ gen at_ he ho
    · obtain ⟨h1, h2, h3, h4, h5⟩ := readE_ok he
      rw [he]
      obtain ⟨b, rfl⟩ := Int.eq_ofNat_of_zero_le h1
      obtain ⟨a, rfl⟩ := Int.eq_ofNat_of_zero_le h5
      obtain ⟨e, rfl⟩ := Int.eq_ofNat_of_zero_le (Int.le_trans h1 h2)
      exact read_inD h b a e gen h4 (by omega) (by omega)
  · rw [readV_E he]
    exact read_errD h base end_ gen at_ he
theorem sgen_any {w : World} {ok : Nat → Prop} {p : Nat} {D : DM} (h : PDisk w ok p D) (base end_ : Int) :
  Calls Try.prog 23 #[.pointer (some ⟨p, 0, none⟩), .int .i64 base, .int .i64 end_] w fun e w' => e = .returned (.tuple #[.int .u64 (genM D base end_), .int .i64 (regE D base end_)]) ∧ Below w.heap.size w w' := by
  unfold genM
  by_cases he : regE D base end_ = 0
  · rw [if_pos he, he]
    obtain ⟨h1, h2, h3, h4⟩ := regE_ok he
    obtain ⟨b, rfl⟩ := Int.eq_ofNat_of_zero_le h1
    obtain ⟨m, hm⟩ := Int.eq_ofNat_of_zero_le (show 0 ≤ end_ - b from by omega)
    rw [hm]
    obtain rfl : end_ = ((b + m : Nat) : Int) := by omega
    exact gen_ok h b m h4 (by omega)
  · rw [if_neg he]
    refine (gen_err h base end_ he).mono ?_
    rintro e w' ⟨rfl, rfl⟩
    exact ⟨rfl, Below.refl _ _⟩
theorem sameBytes_any {w : World} {A A' : Option Addr} {c c' : Nat} {xs ys : List Int} (h : KB.C w A xs.length xs) (hx : Bytes xs) (hc : xs.length ≤ c) (h' : KB.C w A' ys.length ys) (hy : Bytes ys) (hc' : ys.length ≤ c') :
  Calls Try.prog 28 #[.slice A xs.length c, .slice A' ys.length c'] w fun e w' => e = .returned (.bool (decide (xs = ys))) ∧ Below w.heap.size w w' := by
  have hk := KCarveA.foundrylaw22_sameBytes.calls A c xs A' c' ys (decide (xs = ys)) w h hc h' hc' (by
    unfold KCarveA.foundrylaw22_sameBytes.f
    congr 1
    rw [Bool.eq_iff_iff, beq_iff_eq, decide_eq_true_eq]
    constructor
    · intro hh
      rw [ByteArray.toList_eq, ByteArray.toList_eq] at hh
      exact (str_iff hx hy).1 (by
        cases h1 : strOfNums xs; cases h2 : strOfNums ys
        rw [h1, h2] at hh
        simp only [ByteArray.mk.injEq]
        exact Array.toList_inj.1 hh)
    · rintro rfl; rfl)
  refine hk.mono ?_
  rintro e w' ⟨rfl, hd⟩
  exact ⟨rfl, hd.below⟩
theorem sameRecord_true {w : World} {A A' : Option Addr} {c c' : Nat} (r : SR) (h : KB.C w A r.bytes.length r.bytes) (hc : r.bytes.length ≤ c) (h' : KB.C w A' r.bytes.length r.bytes) (hc' : r.bytes.length ≤ c') :
  Calls Try.prog 18 #[recV r A c, recV r A' c'] w fun e w' => e = .returned (.bool true) ∧ Below w.heap.size w w' :=
  KCarveA.foundrylaw22_sameRecord.calls r.gen r.at_ r.kind A c r.bytes r.gen r.at_ r.kind A' c' r.bytes true w h hc h' hc' (by
    unfold KCarveA.foundrylaw22_sameRecord.f KCarveA.foundrylaw22_sameBytes.f
    simp)
theorem mine_any {w : World} {A : Option Addr} {c : Nat} (r : SR) (h : KB.C w A r.bytes.length r.bytes) (hc : r.bytes.length ≤ c) (hl : r.bytes.length < 140737488355328) :
  Calls Try.prog 21 #[recV r A c] w fun e w' => ∃ A' c', e = .returned (recV r A' c') ∧ KB.R 5 w' w.heap.size (fun k => w.heap.size ≤ k) (.slice A' r.bytes.length c') r.bytes ∧ r.bytes.length ≤ c' ∧ Below w.heap.size w w' := by
  refine (KCarveA.foundrylaw22_mine.calls r.gen r.at_ r.kind A c r.bytes r.gen r.at_ r.kind r.bytes w h hc (by unfold KCarveA.foundrylaw22_mine.f; simp [hl])).mono ?_
  rintro e w' ⟨v, rfl, hR, hB⟩
  obtain ⟨A', c', rfl, hle, _⟩ := Kd.R_reads hR
  exact ⟨A', c', rfl, Kd.R_mono (Kd.R_bound hR) (fun k hk => hk.2.1), hle, hB⟩

/-! ### live -/
def B60 : List Int := (List.replicate 60 0).set 59 7
def lr : SR := ⟨5, 0, 0, B60⟩
def lD : DM := ((DM.new 16).sealW 2 lr).1
theorem live_facts : ((DM.new 16).sealW 2 lr).2 = 0 ∧ (readV lD 2 16 5 0).map (·.bytes) = some B60 ∧ readE lD 2 16 0 = 0 ∧ (readV lD 2 3 5 0).isSome = false ∧ readE lD 2 3 0 = 0 ∧ genM lD 2 16 = 5 ∧ regE lD 2 16 = 0 := by decide +kernel
theorem live_need : need 47 = 1 ∧ need 48 = 2 ∧ need (-1) = 0 := by decide
theorem B60_bytes : Bytes B60 := by unfold Bytes; decide
end Go.Proofs.Ytekhmkfiepnnkaa
