/-
  No cell of these rows narrows 'for every input' (looked for: loops, veiled, ifaces, maps, wideKeys, modest, calm, conditions, laid).
  DERIVED. THE GIVEN ROWS OF THIS SEAT. 11 by the template 'for every input the law returns true; each argument reads behind the call as it read before'; 0 by the template 'total and deterministic' (their statements: YtekhmkfiepnnkaaTotals.lean).
  GIVEN WITH THE SEED: the statements are not yours to turn. If you find one false, say at which input.
  Laid BY PROGRAM, IN A SANDBOX (cutbox-rows.mjs): the forced cells as the released guide's own fill.sh prints them over the translation 47b645cbbeeea367… (all of the seat's roots in one cut). By AI agents, Wed Nov 11 2026. No macro, syntax, notation, axiom, sorry.
-/
import Derived.Test.YtekhmkfiepnnkaaChecked
import GoSem.Claim
import GoSem.ClaimJoined
import GoSem.ClaimMapViews
import Derived.JoinedTies
import Derived.KernelRfl
namespace Go.Proofs.Ytekhmkfiepnnkaa
/- THE CELL 'sum', in the pinned program and in every row, IS THE sha256 OF THE DUMP (.gsa) THAT YtekhmkfiepnnkaaProg.lean LOADS. Nothing in Lean hashes anything: it is a label: what it is worth is what the hold of that sum in a sandbox is worth. -/
noncomputable def Try.pinned : Pinned := { name := "ytekhmkfiepnnkaa", sum := "47b645cbbeeea3670913fb27a1d4f3c67db132852a4633dc4292ac0b9c8e7951", checked := Try.checked }
namespace Rows
def none {H : Type} : Left H := { results := [], args := [] }

/-- 'foundrylaw22.SealHeads': WHATEVER THE INPUT: true; the input reads as it did. -/
def sealHeadsSpec : ChangeSpec := { name := "sealHeads", fn := fun _ => fun
  | [d] => { results := [.lit (.bool true)], args := [d] }
  | _ => none }
def sealHeadsRow : OpenClaim := { program := "ytekhmkfiepnnkaa", sum := "47b645cbbeeea3670913fb27a1d4f3c67db132852a4633dc4292ac0b9c8e7951", func := "foundry/foundrylaw22.SealHeads", spec := "sealHeads", unfollowed := true, recurses := true, apart := false }
def SealHeadsSaid : Prop := sealHeadsRow.holds Try.pinned (OpenSpec.ofChange sealHeadsSpec)

/-- ITS FALSE NEIGHBOUR: 'it returns false'. Refute it at one input. -/
def sealHeadsWrong : ChangeSpec := { name := "sealHeads", fn := fun _ => fun
  | [d] => { results := [.lit (.bool false)], args := [d] }
  | _ => none }
def SealHeadsWrongFalsely : Prop := sealHeadsRow.holds Try.pinned (OpenSpec.ofChange sealHeadsWrong)

/-- 'foundrylaw22.SealGen': WHATEVER THE INPUT: true; the input reads as it did. -/
def sealGenSpec : ChangeSpec := { name := "sealGen", fn := fun _ => fun
  | [d] => { results := [.lit (.bool true)], args := [d] }
  | _ => none }
def sealGenRow : OpenClaim := { program := "ytekhmkfiepnnkaa", sum := "47b645cbbeeea3670913fb27a1d4f3c67db132852a4633dc4292ac0b9c8e7951", func := "foundry/foundrylaw22.SealGen", spec := "sealGen", unfollowed := true, recurses := true, apart := false }
def SealGenSaid : Prop := sealGenRow.holds Try.pinned (OpenSpec.ofChange sealGenSpec)

/-- ITS FALSE NEIGHBOUR: 'it returns false'. Refute it at one input. -/
def sealGenWrong : ChangeSpec := { name := "sealGen", fn := fun _ => fun
  | [d] => { results := [.lit (.bool false)], args := [d] }
  | _ => none }
def SealGenWrongFalsely : Prop := sealGenRow.holds Try.pinned (OpenSpec.ofChange sealGenWrong)

/-- 'foundrylaw22.SealBlocks': WHATEVER THE INPUT: true; the input reads as it did. -/
def sealBlocksSpec : ChangeSpec := { name := "sealBlocks", fn := fun _ => fun
  | [d1, d2] => { results := [.lit (.bool true)], args := [d1, d2] }
  | _ => none }
def sealBlocksRow : OpenClaim := { program := "ytekhmkfiepnnkaa", sum := "47b645cbbeeea3670913fb27a1d4f3c67db132852a4633dc4292ac0b9c8e7951", func := "foundry/foundrylaw22.SealBlocks", spec := "sealBlocks", unfollowed := true, recurses := true, apart := false }
def SealBlocksSaid : Prop := sealBlocksRow.holds Try.pinned (OpenSpec.ofChange sealBlocksSpec)

/-- ITS FALSE NEIGHBOUR: 'it returns false'. Refute it at one input. -/
def sealBlocksWrong : ChangeSpec := { name := "sealBlocks", fn := fun _ => fun
  | [d1, d2] => { results := [.lit (.bool false)], args := [d1, d2] }
  | _ => none }
def SealBlocksWrongFalsely : Prop := sealBlocksRow.holds Try.pinned (OpenSpec.ofChange sealBlocksWrong)

/-- 'foundrylaw22.SealBack': WHATEVER THE INPUT: true; the input reads as it did. -/
def sealBackSpec : ChangeSpec := { name := "sealBack", fn := fun _ => fun
  | [d1, d2, d3] => { results := [.lit (.bool true)], args := [d1, d2, d3] }
  | _ => none }
def sealBackRow : OpenClaim := { program := "ytekhmkfiepnnkaa", sum := "47b645cbbeeea3670913fb27a1d4f3c67db132852a4633dc4292ac0b9c8e7951", func := "foundry/foundrylaw22.SealBack", spec := "sealBack", unfollowed := true, recurses := true, apart := false }
def SealBackSaid : Prop := sealBackRow.holds Try.pinned (OpenSpec.ofChange sealBackSpec)

/-- ITS FALSE NEIGHBOUR: 'it returns false'. Refute it at one input. -/
def sealBackWrong : ChangeSpec := { name := "sealBack", fn := fun _ => fun
  | [d1, d2, d3] => { results := [.lit (.bool false)], args := [d1, d2, d3] }
  | _ => none }
def SealBackWrongFalsely : Prop := sealBackRow.holds Try.pinned (OpenSpec.ofChange sealBackWrong)

/-- 'foundrylaw22.SealOthers': WHATEVER THE INPUT: true; the input reads as it did. -/
def sealOthersSpec : ChangeSpec := { name := "sealOthers", fn := fun _ => fun
  | [d1, d2] => { results := [.lit (.bool true)], args := [d1, d2] }
  | _ => none }
def sealOthersRow : OpenClaim := { program := "ytekhmkfiepnnkaa", sum := "47b645cbbeeea3670913fb27a1d4f3c67db132852a4633dc4292ac0b9c8e7951", func := "foundry/foundrylaw22.SealOthers", spec := "sealOthers", unfollowed := true, recurses := true, apart := false }
def SealOthersSaid : Prop := sealOthersRow.holds Try.pinned (OpenSpec.ofChange sealOthersSpec)

/-- ITS FALSE NEIGHBOUR: 'it returns false'. Refute it at one input. -/
def sealOthersWrong : ChangeSpec := { name := "sealOthers", fn := fun _ => fun
  | [d1, d2] => { results := [.lit (.bool false)], args := [d1, d2] }
  | _ => none }
def SealOthersWrongFalsely : Prop := sealOthersRow.holds Try.pinned (OpenSpec.ofChange sealOthersWrong)

/-- 'foundrylaw22.SealPlays': WHATEVER THE INPUT: true; the input reads as it did. -/
def sealPlaysSpec : ChangeSpec := { name := "sealPlays", fn := fun _ => fun
  | [d1, d2] => { results := [.lit (.bool true)], args := [d1, d2] }
  | _ => none }
def sealPlaysRow : OpenClaim := { program := "ytekhmkfiepnnkaa", sum := "47b645cbbeeea3670913fb27a1d4f3c67db132852a4633dc4292ac0b9c8e7951", func := "foundry/foundrylaw22.SealPlays", spec := "sealPlays", unfollowed := true, recurses := true, apart := false }
def SealPlaysSaid : Prop := sealPlaysRow.holds Try.pinned (OpenSpec.ofChange sealPlaysSpec)

/-- ITS FALSE NEIGHBOUR: 'it returns false'. Refute it at one input. -/
def sealPlaysWrong : ChangeSpec := { name := "sealPlays", fn := fun _ => fun
  | [d1, d2] => { results := [.lit (.bool false)], args := [d1, d2] }
  | _ => none }
def SealPlaysWrongFalsely : Prop := sealPlaysRow.holds Try.pinned (OpenSpec.ofChange sealPlaysWrong)

/-- 'foundrylaw22.SealCut': WHATEVER THE INPUT: true; the input reads as it did. -/
def sealCutSpec : ChangeSpec := { name := "sealCut", fn := fun _ => fun
  | [d1, d2, d3] => { results := [.lit (.bool true)], args := [d1, d2, d3] }
  | _ => none }
def sealCutRow : OpenClaim := { program := "ytekhmkfiepnnkaa", sum := "47b645cbbeeea3670913fb27a1d4f3c67db132852a4633dc4292ac0b9c8e7951", func := "foundry/foundrylaw22.SealCut", spec := "sealCut", unfollowed := true, recurses := true, apart := false }
def SealCutSaid : Prop := sealCutRow.holds Try.pinned (OpenSpec.ofChange sealCutSpec)

/-- ITS FALSE NEIGHBOUR: 'it returns false'. Refute it at one input. -/
def sealCutWrong : ChangeSpec := { name := "sealCut", fn := fun _ => fun
  | [d1, d2, d3] => { results := [.lit (.bool false)], args := [d1, d2, d3] }
  | _ => none }
def SealCutWrongFalsely : Prop := sealCutRow.holds Try.pinned (OpenSpec.ofChange sealCutWrong)

/-- 'foundrylaw23.HalfFinds': WHATEVER THE INPUT: true; the input reads as it did. -/
def halfFindsSpec : ChangeSpec := { name := "halfFinds", fn := fun _ => fun
  | [d1, d2] => { results := [.lit (.bool true)], args := [d1, d2] }
  | _ => none }
def halfFindsRow : OpenClaim := { program := "ytekhmkfiepnnkaa", sum := "47b645cbbeeea3670913fb27a1d4f3c67db132852a4633dc4292ac0b9c8e7951", func := "foundry/foundrylaw23.HalfFinds", spec := "halfFinds", unfollowed := true, recurses := true, apart := false }
def HalfFindsSaid : Prop := halfFindsRow.holds Try.pinned (OpenSpec.ofChange halfFindsSpec)

/-- ITS FALSE NEIGHBOUR: 'it returns false'. Refute it at one input. -/
def halfFindsWrong : ChangeSpec := { name := "halfFinds", fn := fun _ => fun
  | [d1, d2] => { results := [.lit (.bool false)], args := [d1, d2] }
  | _ => none }
def HalfFindsWrongFalsely : Prop := halfFindsRow.holds Try.pinned (OpenSpec.ofChange halfFindsWrong)

/-- 'foundrylaw23.HalfCuts': WHATEVER THE INPUT: true; the input reads as it did. -/
def halfCutsSpec : ChangeSpec := { name := "halfCuts", fn := fun _ => fun
  | [d1, d2] => { results := [.lit (.bool true)], args := [d1, d2] }
  | _ => none }
def halfCutsRow : OpenClaim := { program := "ytekhmkfiepnnkaa", sum := "47b645cbbeeea3670913fb27a1d4f3c67db132852a4633dc4292ac0b9c8e7951", func := "foundry/foundrylaw23.HalfCuts", spec := "halfCuts", unfollowed := true, recurses := true, apart := false }
def HalfCutsSaid : Prop := halfCutsRow.holds Try.pinned (OpenSpec.ofChange halfCutsSpec)

/-- ITS FALSE NEIGHBOUR: 'it returns false'. Refute it at one input. -/
def halfCutsWrong : ChangeSpec := { name := "halfCuts", fn := fun _ => fun
  | [d1, d2] => { results := [.lit (.bool false)], args := [d1, d2] }
  | _ => none }
def HalfCutsWrongFalsely : Prop := halfCutsRow.holds Try.pinned (OpenSpec.ofChange halfCutsWrong)

/-- 'foundrylaw23.HalfNils': WHATEVER THE INPUT: true; the input reads as it did. -/
def halfNilsSpec : ChangeSpec := { name := "halfNils", fn := fun _ => fun
  | [d1, d2, d3] => { results := [.lit (.bool true)], args := [d1, d2, d3] }
  | _ => none }
def halfNilsRow : OpenClaim := { program := "ytekhmkfiepnnkaa", sum := "47b645cbbeeea3670913fb27a1d4f3c67db132852a4633dc4292ac0b9c8e7951", func := "foundry/foundrylaw23.HalfNils", spec := "halfNils", unfollowed := true, recurses := true, apart := false }
def HalfNilsSaid : Prop := halfNilsRow.holds Try.pinned (OpenSpec.ofChange halfNilsSpec)

/-- ITS FALSE NEIGHBOUR: 'it returns false'. Refute it at one input. -/
def halfNilsWrong : ChangeSpec := { name := "halfNils", fn := fun _ => fun
  | [d1, d2, d3] => { results := [.lit (.bool false)], args := [d1, d2, d3] }
  | _ => none }
def HalfNilsWrongFalsely : Prop := halfNilsRow.holds Try.pinned (OpenSpec.ofChange halfNilsWrong)

/-- 'foundrylaw23.HalfPlays': WHATEVER THE INPUT: true; the input reads as it did. -/
def halfPlaysSpec : ChangeSpec := { name := "halfPlays", fn := fun _ => fun
  | [d1, d2, d3, d4, d5] => { results := [.lit (.bool true)], args := [d1, d2, d3, d4, d5] }
  | _ => none }
def halfPlaysRow : OpenClaim := { program := "ytekhmkfiepnnkaa", sum := "47b645cbbeeea3670913fb27a1d4f3c67db132852a4633dc4292ac0b9c8e7951", func := "foundry/foundrylaw23.HalfPlays", spec := "halfPlays", unfollowed := true, recurses := true, apart := false }
def HalfPlaysSaid : Prop := halfPlaysRow.holds Try.pinned (OpenSpec.ofChange halfPlaysSpec)

/-- ITS FALSE NEIGHBOUR: 'it returns false'. Refute it at one input. -/
def halfPlaysWrong : ChangeSpec := { name := "halfPlays", fn := fun _ => fun
  | [d1, d2, d3, d4, d5] => { results := [.lit (.bool false)], args := [d1, d2, d3, d4, d5] }
  | _ => none }
def HalfPlaysWrongFalsely : Prop := halfPlaysRow.holds Try.pinned (OpenSpec.ofChange halfPlaysWrong)

/- THE SECOND FORM. 'bulk': how many values and letters a reading holds, each counted each time it is reached (what is shared counts as often as it is met; a slice's spare places count too). A statement '..UptoSaid' is the law's where the arguments, and the package variables that the reading takes, are together of bulk at most 1048576: NARROWER than '..Said'. Prove '..Said' where nothing that the law and all that it calls make is longer than what came in: it says more and counts as full. Else prove '..UptoSaid'. A law counts once. -/
mutual
def uptoBulk {H : Type} : DataW H → Nat
  | .lit (.string bytes) => bytes.length + 1
  | .lit _ => 1
  | .nil => 1
  | .ptr d => uptoBulk d + 1
  | .slice elems spare => uptoBulkAll elems + uptoBulkAll spare + 1
  | .agg parts => uptoBulkAll parts + 1
  | .iface _ d => uptoBulk d + 1
  | .map entries => uptoBulkEntries entries + 1
  | .held _ => 1
def uptoBulkAll {H : Type} : List (DataW H) → Nat
  | [] => 0
  | d :: r => uptoBulk d + uptoBulkAll r
def uptoBulkEntries {H : Type} : List (Lit × DataW H) → Nat
  | [] => 0
  | x :: r => uptoBulkEntry x + uptoBulkEntries r
def uptoBulkEntry {H : Type} : Lit × DataW H → Nat
  | (.string bytes, d) => bytes.length + uptoBulk d + 1
  | (_, d) => uptoBulk d + 1
 end
def uptoSmall : (H : Type) → List (DataW H) → Bool := fun _ ds => decide (uptoBulkAll ds ≤ 1048576)
def OpenSpec.upto (s : _root_.Go.ChangeSpec) : _root_.Go.OpenSpec := { _root_.Go.OpenSpec.ofChange s with cond := some uptoSmall }

/-- 'foundrylaw22.SealHeads', WHERE WHAT IT READS IS OF BULK AT MOST 1048576: true; the input reads as it did. -/
def sealHeadsUptoRow : OpenClaim := { program := "ytekhmkfiepnnkaa", sum := "47b645cbbeeea3670913fb27a1d4f3c67db132852a4633dc4292ac0b9c8e7951", func := "foundry/foundrylaw22.SealHeads", spec := "sealHeads", unfollowed := true, recurses := true, apart := false, narrowed := true }
def SealHeadsUptoSaid : Prop := sealHeadsUptoRow.holds Try.pinned (OpenSpec.upto sealHeadsSpec)

/-- 'foundrylaw22.SealGen', WHERE WHAT IT READS IS OF BULK AT MOST 1048576: true; the input reads as it did. -/
def sealGenUptoRow : OpenClaim := { program := "ytekhmkfiepnnkaa", sum := "47b645cbbeeea3670913fb27a1d4f3c67db132852a4633dc4292ac0b9c8e7951", func := "foundry/foundrylaw22.SealGen", spec := "sealGen", unfollowed := true, recurses := true, apart := false, narrowed := true }
def SealGenUptoSaid : Prop := sealGenUptoRow.holds Try.pinned (OpenSpec.upto sealGenSpec)

/-- 'foundrylaw22.SealBlocks', WHERE WHAT IT READS IS OF BULK AT MOST 1048576: true; the input reads as it did. -/
def sealBlocksUptoRow : OpenClaim := { program := "ytekhmkfiepnnkaa", sum := "47b645cbbeeea3670913fb27a1d4f3c67db132852a4633dc4292ac0b9c8e7951", func := "foundry/foundrylaw22.SealBlocks", spec := "sealBlocks", unfollowed := true, recurses := true, apart := false, narrowed := true }
def SealBlocksUptoSaid : Prop := sealBlocksUptoRow.holds Try.pinned (OpenSpec.upto sealBlocksSpec)

/-- 'foundrylaw22.SealBack', WHERE WHAT IT READS IS OF BULK AT MOST 1048576: true; the input reads as it did. -/
def sealBackUptoRow : OpenClaim := { program := "ytekhmkfiepnnkaa", sum := "47b645cbbeeea3670913fb27a1d4f3c67db132852a4633dc4292ac0b9c8e7951", func := "foundry/foundrylaw22.SealBack", spec := "sealBack", unfollowed := true, recurses := true, apart := false, narrowed := true }
def SealBackUptoSaid : Prop := sealBackUptoRow.holds Try.pinned (OpenSpec.upto sealBackSpec)

/-- 'foundrylaw22.SealOthers', WHERE WHAT IT READS IS OF BULK AT MOST 1048576: true; the input reads as it did. -/
def sealOthersUptoRow : OpenClaim := { program := "ytekhmkfiepnnkaa", sum := "47b645cbbeeea3670913fb27a1d4f3c67db132852a4633dc4292ac0b9c8e7951", func := "foundry/foundrylaw22.SealOthers", spec := "sealOthers", unfollowed := true, recurses := true, apart := false, narrowed := true }
def SealOthersUptoSaid : Prop := sealOthersUptoRow.holds Try.pinned (OpenSpec.upto sealOthersSpec)

/-- 'foundrylaw22.SealPlays', WHERE WHAT IT READS IS OF BULK AT MOST 1048576: true; the input reads as it did. -/
def sealPlaysUptoRow : OpenClaim := { program := "ytekhmkfiepnnkaa", sum := "47b645cbbeeea3670913fb27a1d4f3c67db132852a4633dc4292ac0b9c8e7951", func := "foundry/foundrylaw22.SealPlays", spec := "sealPlays", unfollowed := true, recurses := true, apart := false, narrowed := true }
def SealPlaysUptoSaid : Prop := sealPlaysUptoRow.holds Try.pinned (OpenSpec.upto sealPlaysSpec)

/-- 'foundrylaw22.SealCut', WHERE WHAT IT READS IS OF BULK AT MOST 1048576: true; the input reads as it did. -/
def sealCutUptoRow : OpenClaim := { program := "ytekhmkfiepnnkaa", sum := "47b645cbbeeea3670913fb27a1d4f3c67db132852a4633dc4292ac0b9c8e7951", func := "foundry/foundrylaw22.SealCut", spec := "sealCut", unfollowed := true, recurses := true, apart := false, narrowed := true }
def SealCutUptoSaid : Prop := sealCutUptoRow.holds Try.pinned (OpenSpec.upto sealCutSpec)

/-- 'foundrylaw23.HalfFinds', WHERE WHAT IT READS IS OF BULK AT MOST 1048576: true; the input reads as it did. -/
def halfFindsUptoRow : OpenClaim := { program := "ytekhmkfiepnnkaa", sum := "47b645cbbeeea3670913fb27a1d4f3c67db132852a4633dc4292ac0b9c8e7951", func := "foundry/foundrylaw23.HalfFinds", spec := "halfFinds", unfollowed := true, recurses := true, apart := false, narrowed := true }
def HalfFindsUptoSaid : Prop := halfFindsUptoRow.holds Try.pinned (OpenSpec.upto halfFindsSpec)

/-- 'foundrylaw23.HalfCuts', WHERE WHAT IT READS IS OF BULK AT MOST 1048576: true; the input reads as it did. -/
def halfCutsUptoRow : OpenClaim := { program := "ytekhmkfiepnnkaa", sum := "47b645cbbeeea3670913fb27a1d4f3c67db132852a4633dc4292ac0b9c8e7951", func := "foundry/foundrylaw23.HalfCuts", spec := "halfCuts", unfollowed := true, recurses := true, apart := false, narrowed := true }
def HalfCutsUptoSaid : Prop := halfCutsUptoRow.holds Try.pinned (OpenSpec.upto halfCutsSpec)

/-- 'foundrylaw23.HalfNils', WHERE WHAT IT READS IS OF BULK AT MOST 1048576: true; the input reads as it did. -/
def halfNilsUptoRow : OpenClaim := { program := "ytekhmkfiepnnkaa", sum := "47b645cbbeeea3670913fb27a1d4f3c67db132852a4633dc4292ac0b9c8e7951", func := "foundry/foundrylaw23.HalfNils", spec := "halfNils", unfollowed := true, recurses := true, apart := false, narrowed := true }
def HalfNilsUptoSaid : Prop := halfNilsUptoRow.holds Try.pinned (OpenSpec.upto halfNilsSpec)

/-- 'foundrylaw23.HalfPlays', WHERE WHAT IT READS IS OF BULK AT MOST 1048576: true; the input reads as it did. -/
def halfPlaysUptoRow : OpenClaim := { program := "ytekhmkfiepnnkaa", sum := "47b645cbbeeea3670913fb27a1d4f3c67db132852a4633dc4292ac0b9c8e7951", func := "foundry/foundrylaw23.HalfPlays", spec := "halfPlays", unfollowed := true, recurses := true, apart := false, narrowed := true }
def HalfPlaysUptoSaid : Prop := halfPlaysUptoRow.holds Try.pinned (OpenSpec.upto halfPlaysSpec)

end Rows
end Go.Proofs.Ytekhmkfiepnnkaa
