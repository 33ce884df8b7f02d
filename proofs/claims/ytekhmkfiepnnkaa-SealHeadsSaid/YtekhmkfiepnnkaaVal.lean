/- Parts of a row that is read; numbers of bytes, the highest first. -/
import Derived.Test.YtekhmkfiepnnkaaBytes
import Derived.WalkSmall
set_option linter.unusedVariables false
set_option linter.unusedSimpArgs false
namespace Go.Proofs.Ytekhmkfiepnnkaa
open Go.RowKit Go.Proofs.YtekhmkfiepnnkaaW.PrintWords

/-! ### A part of a row that is read -/
theorem RB_take {w : World} {ok : Nat → Prop} {A : Option Addr} {xs : List Int} (h : RB w ok A xs) {n : Nat} (hn : n ≤ xs.length) : RB w ok A (xs.take n) := by
  intro W' hW
  have hl : (xs.take n).length = n := by rw [List.length_take]; omega
  have h2 : ReadsInt W' .u8 A xs.length xs := C_int (h W' hW)
  refine Kd.C_of_reads (enc := Value.int .u8) (d := (0 : Int)) (h1 := fun _ => rfl) ⟨rfl, ?_, ?_⟩
  · rw [hl]; exact Nat.le_trans hn h2.2.1
  · intro hp
    rw [hl] at hp
    obtain ⟨ad, he, hc⟩ := h2.2.2 (by omega)
    refine ⟨ad, he, fun j hj => ?_⟩
    rw [hl] at hj
    rw [hc j (by omega)]
    simp [List.getD_eq_getElem?_getD, List.getElem?_take, hj]
/-- Where a row goes on behind n of its cells (a capacity of c). -/
def behind (A : Option Addr) (n c : Nat) : Option Addr := if c = n then A else A.map (·.add n)
theorem RB_drop {w : World} {ok : Nat → Prop} {A : Option Addr} {xs : List Int} {c : Nat} (h : RB w ok A xs) {n : Nat} (hn : n ≤ xs.length) (hc : xs.length ≤ c) : RB w ok (behind A n c) (xs.drop n) := by
  intro W' hW
  have hl : (xs.drop n).length = xs.length - n := by rw [List.length_drop]
  have h2 : ReadsInt W' .u8 A xs.length xs := C_int (h W' hW)
  refine Kd.C_of_reads (enc := Value.int .u8) (d := (0 : Int)) (h1 := fun _ => rfl) ⟨rfl, ?_, ?_⟩
  · rw [hl]; exact Nat.le_trans (Nat.sub_le _ _) h2.2.1
  · intro hp
    rw [hl] at hp
    obtain ⟨ad, rfl, hcl⟩ := h2.2.2 (by omega)
    refine ⟨ad.add n, by unfold behind; rw [if_neg (by omega)]; rfl, fun j hj => ?_⟩
    rw [hl] at hj
    rw [Addr.add_add, hcl (n + j) (by omega)]
    simp [List.getD_eq_getElem?_getD, List.getElem?_drop]

/-! ### A number of bytes, the highest first -/
def val (b : List Int) : Int := b.foldl (fun n x => n * 256 + x) 0
theorem val_snoc (b : List Int) (x : Int) : val (b ++ [x]) = val b * 256 + x := by simp [val]
theorem val_lt {b : List Int} (h : Bytes b) : 0 ≤ val b ∧ val b < 256 ^ b.length := by
  suffices ∀ (n : Nat), n ≤ b.length → 0 ≤ val (b.take n) ∧ val (b.take n) < 256 ^ n by
    have := this b.length (Nat.le_refl _); rwa [List.take_length] at this
  intro n
  induction n with
  | zero => intro _; simp [val]
  | succ n ih =>
    intro hn
    have h1 := ih (by omega)
    have hx := h b[n] (List.getElem_mem (by omega))
    rw [← List.take_append_getElem (by omega : n < b.length), val_snoc, Int.pow_succ]
    omega
theorem val_le8 {b : List Int} (h : Bytes b) (hl : b.length ≤ 8) : val b < 18446744073709551616 := by
  have h1 := (val_lt h).2
  have h2 : (256 : Nat) ^ b.length ≤ 256 ^ 8 := Nat.pow_le_pow_right (by decide) hl
  have h3 : (256 : Nat) ^ 8 = 18446744073709551616 := by decide
  rw [h3] at h2
  have h4 : (256 : Int) ^ b.length = ((256 ^ b.length : Nat) : Int) := by rw [Int.natCast_pow]; rfl
  omega
theorem wrap_u64_mod (m : Int) : IntKind.u64.wrap m = m % 18446744073709551616 := by simp [IntKind.wrap, IntKind.bits, IntKind.signed]
set_option maxRecDepth 100000 in
theorem or_byte {n x : Int} (h0 : 0 ≤ n) (h1 : n * 256 + x < 18446744073709551616) (hx0 : 0 ≤ x) (hx : x < 256) : bits .or .u64 (n * 256) x = n * 256 + x :=
  bits_join .u64 64 (by decide) (fun m h0 h1 => by
    have : IntKind.u64.wrap m = m % 18446744073709551616 := wrap_u64_mod m
    rw [this]; exact Int.emod_eq_of_lt h0 (by have : (2 : Int) ^ 64 = 18446744073709551616 := by decide
                                              omega)) 8 (n * 256) x (by omega) (by omega) (by omega) hx0 (by omega) (by omega)

end Go.Proofs.Ytekhmkfiepnnkaa
