/- Arguments of chapter 22's statements, opened. -/
import Derived.Test.YtekhmkfiepnnkaaOpen
import Derived.Test.YtekhmkfiepnnkaaSealC
import Derived.OpenShut
set_option linter.unusedVariables false
set_option linter.unusedSimpArgs false
namespace Go.Proofs.Ytekhmkfiepnnkaa
open Go.RowKit Go.Proofs.YtekhmkfiepnnkaaW.PrintWords

theorem opens_bytes : Opens Try.prog 22 (Kd.slice 5 KB) (fun xs => Bytes xs ∧ xs.length ≤ 140737488351232) :=
  (opens_slice Try.underlying22 (by kernel_rfl) (B := 1) (by kernel_rfl) (opens_int Try.underlying5)).mono fun _ h => ⟨fun x hx => by have := bounds_u8 (h.1 x hx); omega, by have := h.2; omega⟩
end Go.Proofs.Ytekhmkfiepnnkaa
