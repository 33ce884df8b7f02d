/- Package foundrylaw21: an Op as a call's argument has it, opened; DiskReplays' call for every n. -/
import Derived.Test.YtpgiooheoafieaaLaw21e
import Derived.Test.YtpgiooheoafieaaOpen
import Derived.OpenShut
set_option linter.unusedVariables false
set_option linter.unusedSimpArgs false
namespace Go.Proofs.Ytpgiooheoafieaa
open Go.RowKit Go.Proofs.YtpgiooheoafieaaW.PrintWords

theorem opens_bytes : Opens Try.prog 29 (Kd.slice 5 KB) (fun xs => Bytes xs ∧ xs.length ≤ 140737488351232) :=
  (opens_slice Try.underlying29 (by kernel_rfl) (B := 1) (by kernel_rfl) (opens_int Try.underlying5)).mono fun _ h => ⟨fun x hx => by have := bounds_u8 (h.1 x hx); omega, by have := h.2; omega⟩
theorem opens_op : Opens Try.prog 31 KOp OP.ok := by
  refine (opens_iso (P := Try.prog) (t := 31) (fun x : OP => (x.kind, x.at_, x.n, x.fill, x.bytes, x.odd)) (fun p => ⟨p.1, p.2.1, p.2.2.1, p.2.2.2.1, p.2.2.2.2.1, p.2.2.2.2.2⟩) (fun _ => rfl)
    (opens_struct Try.underlying31 (by kernel_rfl) (opensF_cons rfl (by kernel_rfl) (opens_int Try.underlying3) (opensF_cons rfl (by kernel_rfl) (opens_int Try.underlying3) (opensF_cons rfl (by kernel_rfl) (opens_int Try.underlying3)
      (opensF_cons rfl (by kernel_rfl) (opens_int Try.underlying5) (opensF_cons rfl (by kernel_rfl) opens_bytes (opensF_one rfl (by kernel_rfl) (opens_bool Try.underlying4)))))))) ).mono ?_
  rintro o ⟨_, h1, h2, h3, h4, _⟩
  have b1 := bounds_i64 h1
  have b2 := bounds_i64 h2
  have b3 := bounds_u8 h3
  exact ⟨b1.1, b1.2, b2.1, b2.2, ⟨b3.1, Int.lt_add_one_of_le b3.2⟩, h4.1, h4.2⟩
theorem opens_ops : Opens Try.prog 22 (Kd.slice 31 KOp) (fun xs => (∀ x ∈ xs, x.ok) ∧ xs.length * 64 ≤ 140737488351232) :=
  opens_slice Try.underlying22 (by kernel_rfl) (by kernel_rfl) opens_op
theorem replays_any {w : World} {A : Option Addr} {c : Nat} {l : List OP} (n : Int) (hn : (Lit.int .i64 n).wf = true) (hC : KOp.C w A l.length l) (hG : (∀ o ∈ l, o.ok) ∧ l.length * 64 ≤ 140737488351232) :
    Calls Try.prog 3 #[.slice A l.length c, .int .i64 n] w fun e w' => e = .returned (.bool true) ∧ Below w.heap.size w w' := by
  have b := bounds_i64 hn
  by_cases h0 : n < 0
  · exact replays_neg h0
  · obtain ⟨m, rfl⟩ := Int.eq_ofNat_of_zero_le (show 0 ≤ n by omega)
    exact replays_pos m (by omega) hC hG.1 hG.2
end Go.Proofs.Ytpgiooheoafieaa
