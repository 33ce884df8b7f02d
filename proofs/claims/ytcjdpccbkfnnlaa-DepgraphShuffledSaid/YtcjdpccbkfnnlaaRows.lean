/-
  No cell of these rows narrows 'for every input' (looked for: loops, veiled, ifaces, maps, wideKeys, modest, calm, conditions, laid).
  DERIVED. THE GIVEN ROWS OF THIS SEAT. 5 by the template 'for every input the law returns true; each argument reads behind the call as it read before'; 0 by the template 'total and deterministic' (their statements: YtcjdpccbkfnnlaaTotals.lean).
  GIVEN WITH THE SEED: the statements are not yours to turn. If you find one false, say at which input.
  Laid BY PROGRAM, IN A SANDBOX (cutbox-rows.mjs): the forced cells as the released guide's own fill.sh prints them over the translation a6bdd38a1f4c116d… (all of the seat's roots in one cut). By AI agents, Wed Nov 11 2026. No macro, syntax, notation, axiom, sorry.
-/
import Derived.Test.YtcjdpccbkfnnlaaChecked
import GoSem.Claim
import GoSem.ClaimJoined
import GoSem.ClaimMapViews
import Derived.JoinedTies
import Derived.KernelRfl
namespace Go.Proofs.Ytcjdpccbkfnnlaa
/- THE CELL 'sum', in the pinned program and in every row, IS THE sha256 OF THE DUMP (.gsa) THAT YtcjdpccbkfnnlaaProg.lean LOADS. Nothing in Lean hashes anything: it is a label: what it is worth is what the hold of that sum in a sandbox is worth. -/
noncomputable def Try.pinned : Pinned := { name := "ytcjdpccbkfnnlaa", sum := "a6bdd38a1f4c116df57d9e877e261b04e67e885223bc6013bd05b8c7ba643770", checked := Try.checked }
namespace Rows
def none {H : Type} : Left H := { results := [], args := [] }

/-- 'foundrylaw11.DepgraphOver': WHATEVER THE INPUT: true; the input reads as it did. -/
def depgraphOverSpec : ChangeSpec := { name := "depgraphOver", fn := fun _ => fun
  | [d1, d2, d3] => { results := [.lit (.bool true)], args := [d1, d2, d3] }
  | _ => none }
def depgraphOverRow : OpenClaim := { program := "ytcjdpccbkfnnlaa", sum := "a6bdd38a1f4c116df57d9e877e261b04e67e885223bc6013bd05b8c7ba643770", func := "foundry/foundrylaw11.DepgraphOver", spec := "depgraphOver", unfollowed := true, recurses := true, apart := false }
def DepgraphOverSaid : Prop := depgraphOverRow.holds Try.pinned (OpenSpec.ofChange depgraphOverSpec)

/-- ITS FALSE NEIGHBOUR: 'it returns false'. Refute it at one input. -/
def depgraphOverWrong : ChangeSpec := { name := "depgraphOver", fn := fun _ => fun
  | [d1, d2, d3] => { results := [.lit (.bool false)], args := [d1, d2, d3] }
  | _ => none }
def DepgraphOverWrongFalsely : Prop := depgraphOverRow.holds Try.pinned (OpenSpec.ofChange depgraphOverWrong)

/-- 'foundrylaw11.DepgraphOrdered': WHATEVER THE INPUT: true; the input reads as it did. -/
def depgraphOrderedSpec : ChangeSpec := { name := "depgraphOrdered", fn := fun _ => fun
  | [d] => { results := [.lit (.bool true)], args := [d] }
  | _ => none }
def depgraphOrderedRow : OpenClaim := { program := "ytcjdpccbkfnnlaa", sum := "a6bdd38a1f4c116df57d9e877e261b04e67e885223bc6013bd05b8c7ba643770", func := "foundry/foundrylaw11.DepgraphOrdered", spec := "depgraphOrdered", unfollowed := true, recurses := true, apart := false }
def DepgraphOrderedSaid : Prop := depgraphOrderedRow.holds Try.pinned (OpenSpec.ofChange depgraphOrderedSpec)

/-- ITS FALSE NEIGHBOUR: 'it returns false'. Refute it at one input. -/
def depgraphOrderedWrong : ChangeSpec := { name := "depgraphOrdered", fn := fun _ => fun
  | [d] => { results := [.lit (.bool false)], args := [d] }
  | _ => none }
def DepgraphOrderedWrongFalsely : Prop := depgraphOrderedRow.holds Try.pinned (OpenSpec.ofChange depgraphOrderedWrong)

/-- 'foundrylaw11.DepgraphRings': WHATEVER THE INPUT: true; the input reads as it did. -/
def depgraphRingsSpec : ChangeSpec := { name := "depgraphRings", fn := fun _ => fun
  | [d] => { results := [.lit (.bool true)], args := [d] }
  | _ => none }
def depgraphRingsRow : OpenClaim := { program := "ytcjdpccbkfnnlaa", sum := "a6bdd38a1f4c116df57d9e877e261b04e67e885223bc6013bd05b8c7ba643770", func := "foundry/foundrylaw11.DepgraphRings", spec := "depgraphRings", unfollowed := true, recurses := true, apart := false }
def DepgraphRingsSaid : Prop := depgraphRingsRow.holds Try.pinned (OpenSpec.ofChange depgraphRingsSpec)

/-- ITS FALSE NEIGHBOUR: 'it returns false'. Refute it at one input. -/
def depgraphRingsWrong : ChangeSpec := { name := "depgraphRings", fn := fun _ => fun
  | [d] => { results := [.lit (.bool false)], args := [d] }
  | _ => none }
def DepgraphRingsWrongFalsely : Prop := depgraphRingsRow.holds Try.pinned (OpenSpec.ofChange depgraphRingsWrong)

/-- 'foundrylaw11.DepgraphShuffled': WHATEVER THE INPUT: true; the input reads as it did. -/
def depgraphShuffledSpec : ChangeSpec := { name := "depgraphShuffled", fn := fun _ => fun
  | [d1, d2, d3] => { results := [.lit (.bool true)], args := [d1, d2, d3] }
  | _ => none }
def depgraphShuffledRow : OpenClaim := { program := "ytcjdpccbkfnnlaa", sum := "a6bdd38a1f4c116df57d9e877e261b04e67e885223bc6013bd05b8c7ba643770", func := "foundry/foundrylaw11.DepgraphShuffled", spec := "depgraphShuffled", unfollowed := true, recurses := true, apart := false }
def DepgraphShuffledSaid : Prop := depgraphShuffledRow.holds Try.pinned (OpenSpec.ofChange depgraphShuffledSpec)

/-- ITS FALSE NEIGHBOUR: 'it returns false'. Refute it at one input. -/
def depgraphShuffledWrong : ChangeSpec := { name := "depgraphShuffled", fn := fun _ => fun
  | [d1, d2, d3] => { results := [.lit (.bool false)], args := [d1, d2, d3] }
  | _ => none }
def DepgraphShuffledWrongFalsely : Prop := depgraphShuffledRow.holds Try.pinned (OpenSpec.ofChange depgraphShuffledWrong)

/-- 'foundrylaw11.DepgraphNils': WHATEVER THE INPUT: true; the input reads as it did. -/
def depgraphNilsSpec : ChangeSpec := { name := "depgraphNils", fn := fun _ => fun
  | [d1, d2] => { results := [.lit (.bool true)], args := [d1, d2] }
  | _ => none }
def depgraphNilsRow : OpenClaim := { program := "ytcjdpccbkfnnlaa", sum := "a6bdd38a1f4c116df57d9e877e261b04e67e885223bc6013bd05b8c7ba643770", func := "foundry/foundrylaw11.DepgraphNils", spec := "depgraphNils", unfollowed := true, recurses := true, apart := false }
def DepgraphNilsSaid : Prop := depgraphNilsRow.holds Try.pinned (OpenSpec.ofChange depgraphNilsSpec)

/-- ITS FALSE NEIGHBOUR: 'it returns false'. Refute it at one input. -/
def depgraphNilsWrong : ChangeSpec := { name := "depgraphNils", fn := fun _ => fun
  | [d1, d2] => { results := [.lit (.bool false)], args := [d1, d2] }
  | _ => none }
def DepgraphNilsWrongFalsely : Prop := depgraphNilsRow.holds Try.pinned (OpenSpec.ofChange depgraphNilsWrong)

/- THE SECOND FORM. 'bulk': how many values and letters a reading holds, each counted each time it is reached (what is shared counts as often as it is met; a slice's spare places count too). A statement '..UptoSaid' is the law's where the arguments, and the package variables that the reading takes, are together of bulk at most 1048576: NARROWER than '..Said'. Prove '..Said' where nothing that the law and all that it calls make is longer than what came in: it says more and counts as full. Else prove '..UptoSaid'. A law counts once. -/
mutual
def uptoBulk {H : Type} : DataW H → Nat
  | .lit (.string bytes) => bytes.length + 1
  | .lit _ => 1
  | .nil => 1
  | .ptr d => uptoBulk d + 1
  | .slice elems spare => uptoBulkAll elems + uptoBulkAll spare + 1
  | .agg parts => uptoBulkAll parts + 1
  | .iface _ d => uptoBulk d + 1
  | .map entries => uptoBulkEntries entries + 1
  | .held _ => 1
def uptoBulkAll {H : Type} : List (DataW H) → Nat
  | [] => 0
  | d :: r => uptoBulk d + uptoBulkAll r
def uptoBulkEntries {H : Type} : List (Lit × DataW H) → Nat
  | [] => 0
  | x :: r => uptoBulkEntry x + uptoBulkEntries r
def uptoBulkEntry {H : Type} : Lit × DataW H → Nat
  | (.string bytes, d) => bytes.length + uptoBulk d + 1
  | (_, d) => uptoBulk d + 1
 end
def uptoSmall : (H : Type) → List (DataW H) → Bool := fun _ ds => decide (uptoBulkAll ds ≤ 1048576)
def OpenSpec.upto (s : _root_.Go.ChangeSpec) : _root_.Go.OpenSpec := { _root_.Go.OpenSpec.ofChange s with cond := some uptoSmall }

/-- 'foundrylaw11.DepgraphOver', WHERE WHAT IT READS IS OF BULK AT MOST 1048576: true; the input reads as it did. -/
def depgraphOverUptoRow : OpenClaim := { program := "ytcjdpccbkfnnlaa", sum := "a6bdd38a1f4c116df57d9e877e261b04e67e885223bc6013bd05b8c7ba643770", func := "foundry/foundrylaw11.DepgraphOver", spec := "depgraphOver", unfollowed := true, recurses := true, apart := false, narrowed := true }
def DepgraphOverUptoSaid : Prop := depgraphOverUptoRow.holds Try.pinned (OpenSpec.upto depgraphOverSpec)

/-- 'foundrylaw11.DepgraphOrdered', WHERE WHAT IT READS IS OF BULK AT MOST 1048576: true; the input reads as it did. -/
def depgraphOrderedUptoRow : OpenClaim := { program := "ytcjdpccbkfnnlaa", sum := "a6bdd38a1f4c116df57d9e877e261b04e67e885223bc6013bd05b8c7ba643770", func := "foundry/foundrylaw11.DepgraphOrdered", spec := "depgraphOrdered", unfollowed := true, recurses := true, apart := false, narrowed := true }
def DepgraphOrderedUptoSaid : Prop := depgraphOrderedUptoRow.holds Try.pinned (OpenSpec.upto depgraphOrderedSpec)

/-- 'foundrylaw11.DepgraphRings', WHERE WHAT IT READS IS OF BULK AT MOST 1048576: true; the input reads as it did. -/
def depgraphRingsUptoRow : OpenClaim := { program := "ytcjdpccbkfnnlaa", sum := "a6bdd38a1f4c116df57d9e877e261b04e67e885223bc6013bd05b8c7ba643770", func := "foundry/foundrylaw11.DepgraphRings", spec := "depgraphRings", unfollowed := true, recurses := true, apart := false, narrowed := true }
def DepgraphRingsUptoSaid : Prop := depgraphRingsUptoRow.holds Try.pinned (OpenSpec.upto depgraphRingsSpec)

/-- 'foundrylaw11.DepgraphShuffled', WHERE WHAT IT READS IS OF BULK AT MOST 1048576: true; the input reads as it did. -/
def depgraphShuffledUptoRow : OpenClaim := { program := "ytcjdpccbkfnnlaa", sum := "a6bdd38a1f4c116df57d9e877e261b04e67e885223bc6013bd05b8c7ba643770", func := "foundry/foundrylaw11.DepgraphShuffled", spec := "depgraphShuffled", unfollowed := true, recurses := true, apart := false, narrowed := true }
def DepgraphShuffledUptoSaid : Prop := depgraphShuffledUptoRow.holds Try.pinned (OpenSpec.upto depgraphShuffledSpec)

/-- 'foundrylaw11.DepgraphNils', WHERE WHAT IT READS IS OF BULK AT MOST 1048576: true; the input reads as it did. -/
def depgraphNilsUptoRow : OpenClaim := { program := "ytcjdpccbkfnnlaa", sum := "a6bdd38a1f4c116df57d9e877e261b04e67e885223bc6013bd05b8c7ba643770", func := "foundry/foundrylaw11.DepgraphNils", spec := "depgraphNils", unfollowed := true, recurses := true, apart := false, narrowed := true }
def DepgraphNilsUptoSaid : Prop := depgraphNilsUptoRow.holds Try.pinned (OpenSpec.upto depgraphNilsSpec)

end Rows
end Go.Proofs.Ytcjdpccbkfnnlaa
