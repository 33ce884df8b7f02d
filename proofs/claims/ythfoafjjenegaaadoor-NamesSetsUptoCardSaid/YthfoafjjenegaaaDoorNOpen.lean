/- Names: lists of texts as arguments. -/
import Derived.Test.YthfoafjjenegaaaDoorOpenM
import Derived.Test.YthfoafjjenegaaaDoorNRd
set_option linter.unusedVariables false
set_option linter.unusedSimpArgs false
namespace Go.Proofs.YthfoafjjenegaaaDoor
open Go.RowKit Go.Proofs.YthfoafjjenegaaaDoorW.PrintWords

theorem opens_strs : Opens Tryd.prog 22 (Kd.slice 9 KS) (fun xs => (∀ x ∈ xs, x.size ≤ 140737488351232) ∧ xs.length * 16 ≤ 140737488351232) :=
  opens_slice Tryd.underlying22 (by kernel_rfl) (by kernel_rfl) (opens_string Tryd.underlying9)
theorem opensM_strs : OpensM Tryd.prog 22 (Kd.slice 9 KS) (fun xs => (∀ x ∈ xs, x.size ≤ 140737488351232) ∧ xs.length * 16 ≤ 140737488351232) (fun xs => (xs.map (fun s => s.size + 1)).sum + 1) :=
  opensM_slice Tryd.underlying22 (by kernel_rfl) (by kernel_rfl) (opensM_string Tryd.underlying9)
theorem strs_len : ∀ {N : Nat} {l : List ByteArray}, (l.map (fun s => s.size + 1)).sum + 1 ≤ N → l.length ≤ N ∧ ∀ x ∈ l, x.size ≤ N
  | N, [], _ => ⟨by simp, by simp⟩
  | N, x :: l, h => by
    simp only [List.map_cons, List.sum_cons] at h
    obtain ⟨M, rfl⟩ : ∃ M, N = M + (x.size + 1) := ⟨N - (x.size + 1), by omega⟩
    obtain ⟨h1, h2⟩ := strs_len (l := l) (N := M) (by omega)
    refine ⟨by simp only [List.length_cons]; omega, fun y hy => ?_⟩
    rcases List.mem_cons.1 hy with rfl | hy
    · omega
    · have := h2 y hy; omega
theorem algebra_row {w : World} {A0 A1 A2 : Option Addr} {c0 c1 c2 : Nat} {a b c : List ByteArray} (hw : NOK w) (k0 : KS.C w A0 a.length a) (h0 : a.length ≤ c0) (k1 : KS.C w A1 b.length b) (h1 : b.length ≤ c1) (k2 : KS.C w A2 c.length c) (h2 : c.length ≤ c2) : True := trivial
end Go.Proofs.YthfoafjjenegaaaDoor
