/-
  No cell of these rows narrows 'for every input' (looked for: loops, veiled, ifaces, maps, wideKeys, modest, calm, conditions, laid).
  DERIVED. THE GIVEN ROWS OF THIS SEAT. 14 by the template 'for every input the law returns true; each argument reads behind the call as it read before'; 0 by the template 'total and deterministic' (their statements: YtpgiooheoafieaaTotals.lean).
  GIVEN WITH THE SEED: the statements are not yours to turn. If you find one false, say at which input.
  Laid BY PROGRAM, IN A SANDBOX (cutbox-rows.mjs): the forced cells as the released guide's own fill.sh prints them over the translation 44f5bc07b3aef084… (all of the seat's roots in one cut). By AI agents, Wed Nov 11 2026. No macro, syntax, notation, axiom, sorry.
-/
import Derived.Test.YtpgiooheoafieaaChecked
import GoSem.Claim
import GoSem.ClaimJoined
import GoSem.ClaimMapViews
import Derived.JoinedTies
import Derived.KernelRfl
namespace Go.Proofs.Ytpgiooheoafieaa
/- THE CELL 'sum', in the pinned program and in every row, IS THE sha256 OF THE DUMP (.gsa) THAT YtpgiooheoafieaaProg.lean LOADS. Nothing in Lean hashes anything: it is a label: what it is worth is what the hold of that sum in a sandbox is worth. -/
noncomputable def Try.pinned : Pinned := { name := "ytpgiooheoafieaa", sum := "44f5bc07b3aef08412c9f21b749e1f670ad415ece871a8939859e696de53459e", checked := Try.checked }
namespace Rows
def none {H : Type} : Left H := { results := [], args := [] }

/-- 'foundrylaw21.DiskReplays': WHATEVER THE INPUT: true; the input reads as it did. -/
def diskReplaysSpec : ChangeSpec := { name := "diskReplays", fn := fun _ => fun
  | [d1, d2] => { results := [.lit (.bool true)], args := [d1, d2] }
  | _ => none }
def diskReplaysRow : OpenClaim := { program := "ytpgiooheoafieaa", sum := "44f5bc07b3aef08412c9f21b749e1f670ad415ece871a8939859e696de53459e", func := "foundry/foundrylaw21.DiskReplays", spec := "diskReplays", apart := false }
def DiskReplaysSaid : Prop := diskReplaysRow.holds Try.pinned (OpenSpec.ofChange diskReplaysSpec)

/-- ITS FALSE NEIGHBOUR: 'it returns false'. Refute it at one input. -/
def diskReplaysWrong : ChangeSpec := { name := "diskReplays", fn := fun _ => fun
  | [d1, d2] => { results := [.lit (.bool false)], args := [d1, d2] }
  | _ => none }
def DiskReplaysWrongFalsely : Prop := diskReplaysRow.holds Try.pinned (OpenSpec.ofChange diskReplaysWrong)

/-- 'foundrylaw21.DiskPlays': WHATEVER THE INPUT: true; the input reads as it did. -/
def diskPlaysSpec : ChangeSpec := { name := "diskPlays", fn := fun _ => fun
  | [d1, d2] => { results := [.lit (.bool true)], args := [d1, d2] }
  | _ => none }
def diskPlaysRow : OpenClaim := { program := "ytpgiooheoafieaa", sum := "44f5bc07b3aef08412c9f21b749e1f670ad415ece871a8939859e696de53459e", func := "foundry/foundrylaw21.DiskPlays", spec := "diskPlays", apart := false }
def DiskPlaysSaid : Prop := diskPlaysRow.holds Try.pinned (OpenSpec.ofChange diskPlaysSpec)

/-- ITS FALSE NEIGHBOUR: 'it returns false'. Refute it at one input. -/
def diskPlaysWrong : ChangeSpec := { name := "diskPlays", fn := fun _ => fun
  | [d1, d2] => { results := [.lit (.bool false)], args := [d1, d2] }
  | _ => none }
def DiskPlaysWrongFalsely : Prop := diskPlaysRow.holds Try.pinned (OpenSpec.ofChange diskPlaysWrong)

/-- 'foundrylaw21.DiskLoads': WHATEVER THE INPUT: true; the input reads as it did. -/
def diskLoadsSpec : ChangeSpec := { name := "diskLoads", fn := fun _ => fun
  | [d1, d2] => { results := [.lit (.bool true)], args := [d1, d2] }
  | _ => none }
def diskLoadsRow : OpenClaim := { program := "ytpgiooheoafieaa", sum := "44f5bc07b3aef08412c9f21b749e1f670ad415ece871a8939859e696de53459e", func := "foundry/foundrylaw21.DiskLoads", spec := "diskLoads", apart := false }
def DiskLoadsSaid : Prop := diskLoadsRow.holds Try.pinned (OpenSpec.ofChange diskLoadsSpec)

/-- ITS FALSE NEIGHBOUR: 'it returns false'. Refute it at one input. -/
def diskLoadsWrong : ChangeSpec := { name := "diskLoads", fn := fun _ => fun
  | [d1, d2] => { results := [.lit (.bool false)], args := [d1, d2] }
  | _ => none }
def DiskLoadsWrongFalsely : Prop := diskLoadsRow.holds Try.pinned (OpenSpec.ofChange diskLoadsWrong)

/-- 'foundrylaw22.SealHeads': WHATEVER THE INPUT: true; the input reads as it did. -/
def sealHeadsSpec : ChangeSpec := { name := "sealHeads", fn := fun _ => fun
  | [d] => { results := [.lit (.bool true)], args := [d] }
  | _ => none }
def sealHeadsRow : OpenClaim := { program := "ytpgiooheoafieaa", sum := "44f5bc07b3aef08412c9f21b749e1f670ad415ece871a8939859e696de53459e", func := "foundry/foundrylaw22.SealHeads", spec := "sealHeads", unfollowed := true, recurses := true, apart := false }
def SealHeadsSaid : Prop := sealHeadsRow.holds Try.pinned (OpenSpec.ofChange sealHeadsSpec)

/-- ITS FALSE NEIGHBOUR: 'it returns false'. Refute it at one input. -/
def sealHeadsWrong : ChangeSpec := { name := "sealHeads", fn := fun _ => fun
  | [d] => { results := [.lit (.bool false)], args := [d] }
  | _ => none }
def SealHeadsWrongFalsely : Prop := sealHeadsRow.holds Try.pinned (OpenSpec.ofChange sealHeadsWrong)

/-- 'foundrylaw22.SealGen': WHATEVER THE INPUT: true; the input reads as it did. -/
def sealGenSpec : ChangeSpec := { name := "sealGen", fn := fun _ => fun
  | [d] => { results := [.lit (.bool true)], args := [d] }
  | _ => none }
def sealGenRow : OpenClaim := { program := "ytpgiooheoafieaa", sum := "44f5bc07b3aef08412c9f21b749e1f670ad415ece871a8939859e696de53459e", func := "foundry/foundrylaw22.SealGen", spec := "sealGen", unfollowed := true, recurses := true, apart := false }
def SealGenSaid : Prop := sealGenRow.holds Try.pinned (OpenSpec.ofChange sealGenSpec)

/-- ITS FALSE NEIGHBOUR: 'it returns false'. Refute it at one input. -/
def sealGenWrong : ChangeSpec := { name := "sealGen", fn := fun _ => fun
  | [d] => { results := [.lit (.bool false)], args := [d] }
  | _ => none }
def SealGenWrongFalsely : Prop := sealGenRow.holds Try.pinned (OpenSpec.ofChange sealGenWrong)

/-- 'foundrylaw22.SealBlocks': WHATEVER THE INPUT: true; the input reads as it did. -/
def sealBlocksSpec : ChangeSpec := { name := "sealBlocks", fn := fun _ => fun
  | [d1, d2] => { results := [.lit (.bool true)], args := [d1, d2] }
  | _ => none }
def sealBlocksRow : OpenClaim := { program := "ytpgiooheoafieaa", sum := "44f5bc07b3aef08412c9f21b749e1f670ad415ece871a8939859e696de53459e", func := "foundry/foundrylaw22.SealBlocks", spec := "sealBlocks", unfollowed := true, recurses := true, apart := false }
def SealBlocksSaid : Prop := sealBlocksRow.holds Try.pinned (OpenSpec.ofChange sealBlocksSpec)

/-- ITS FALSE NEIGHBOUR: 'it returns false'. Refute it at one input. -/
def sealBlocksWrong : ChangeSpec := { name := "sealBlocks", fn := fun _ => fun
  | [d1, d2] => { results := [.lit (.bool false)], args := [d1, d2] }
  | _ => none }
def SealBlocksWrongFalsely : Prop := sealBlocksRow.holds Try.pinned (OpenSpec.ofChange sealBlocksWrong)

/-- 'foundrylaw22.SealBack': WHATEVER THE INPUT: true; the input reads as it did. -/
def sealBackSpec : ChangeSpec := { name := "sealBack", fn := fun _ => fun
  | [d1, d2, d3] => { results := [.lit (.bool true)], args := [d1, d2, d3] }
  | _ => none }
def sealBackRow : OpenClaim := { program := "ytpgiooheoafieaa", sum := "44f5bc07b3aef08412c9f21b749e1f670ad415ece871a8939859e696de53459e", func := "foundry/foundrylaw22.SealBack", spec := "sealBack", unfollowed := true, recurses := true, apart := false }
def SealBackSaid : Prop := sealBackRow.holds Try.pinned (OpenSpec.ofChange sealBackSpec)

/-- ITS FALSE NEIGHBOUR: 'it returns false'. Refute it at one input. -/
def sealBackWrong : ChangeSpec := { name := "sealBack", fn := fun _ => fun
  | [d1, d2, d3] => { results := [.lit (.bool false)], args := [d1, d2, d3] }
  | _ => none }
def SealBackWrongFalsely : Prop := sealBackRow.holds Try.pinned (OpenSpec.ofChange sealBackWrong)

/-- 'foundrylaw22.SealOthers': WHATEVER THE INPUT: true; the input reads as it did. -/
def sealOthersSpec : ChangeSpec := { name := "sealOthers", fn := fun _ => fun
  | [d1, d2] => { results := [.lit (.bool true)], args := [d1, d2] }
  | _ => none }
def sealOthersRow : OpenClaim := { program := "ytpgiooheoafieaa", sum := "44f5bc07b3aef08412c9f21b749e1f670ad415ece871a8939859e696de53459e", func := "foundry/foundrylaw22.SealOthers", spec := "sealOthers", unfollowed := true, recurses := true, apart := false }
def SealOthersSaid : Prop := sealOthersRow.holds Try.pinned (OpenSpec.ofChange sealOthersSpec)

/-- ITS FALSE NEIGHBOUR: 'it returns false'. Refute it at one input. -/
def sealOthersWrong : ChangeSpec := { name := "sealOthers", fn := fun _ => fun
  | [d1, d2] => { results := [.lit (.bool false)], args := [d1, d2] }
  | _ => none }
def SealOthersWrongFalsely : Prop := sealOthersRow.holds Try.pinned (OpenSpec.ofChange sealOthersWrong)

/-- 'foundrylaw22.SealPlays': WHATEVER THE INPUT: true; the input reads as it did. -/
def sealPlaysSpec : ChangeSpec := { name := "sealPlays", fn := fun _ => fun
  | [d1, d2] => { results := [.lit (.bool true)], args := [d1, d2] }
  | _ => none }
def sealPlaysRow : OpenClaim := { program := "ytpgiooheoafieaa", sum := "44f5bc07b3aef08412c9f21b749e1f670ad415ece871a8939859e696de53459e", func := "foundry/foundrylaw22.SealPlays", spec := "sealPlays", unfollowed := true, recurses := true, apart := false }
def SealPlaysSaid : Prop := sealPlaysRow.holds Try.pinned (OpenSpec.ofChange sealPlaysSpec)

/-- ITS FALSE NEIGHBOUR: 'it returns false'. Refute it at one input. -/
def sealPlaysWrong : ChangeSpec := { name := "sealPlays", fn := fun _ => fun
  | [d1, d2] => { results := [.lit (.bool false)], args := [d1, d2] }
  | _ => none }
def SealPlaysWrongFalsely : Prop := sealPlaysRow.holds Try.pinned (OpenSpec.ofChange sealPlaysWrong)

/-- 'foundrylaw22.SealCut': WHATEVER THE INPUT: true; the input reads as it did. -/
def sealCutSpec : ChangeSpec := { name := "sealCut", fn := fun _ => fun
  | [d1, d2, d3] => { results := [.lit (.bool true)], args := [d1, d2, d3] }
  | _ => none }
def sealCutRow : OpenClaim := { program := "ytpgiooheoafieaa", sum := "44f5bc07b3aef08412c9f21b749e1f670ad415ece871a8939859e696de53459e", func := "foundry/foundrylaw22.SealCut", spec := "sealCut", unfollowed := true, recurses := true, apart := false }
def SealCutSaid : Prop := sealCutRow.holds Try.pinned (OpenSpec.ofChange sealCutSpec)

/-- ITS FALSE NEIGHBOUR: 'it returns false'. Refute it at one input. -/
def sealCutWrong : ChangeSpec := { name := "sealCut", fn := fun _ => fun
  | [d1, d2, d3] => { results := [.lit (.bool false)], args := [d1, d2, d3] }
  | _ => none }
def SealCutWrongFalsely : Prop := sealCutRow.holds Try.pinned (OpenSpec.ofChange sealCutWrong)

/-- 'foundrylaw23.HalfFinds': WHATEVER THE INPUT: true; the input reads as it did. -/
def halfFindsSpec : ChangeSpec := { name := "halfFinds", fn := fun _ => fun
  | [d1, d2] => { results := [.lit (.bool true)], args := [d1, d2] }
  | _ => none }
def halfFindsRow : OpenClaim := { program := "ytpgiooheoafieaa", sum := "44f5bc07b3aef08412c9f21b749e1f670ad415ece871a8939859e696de53459e", func := "foundry/foundrylaw23.HalfFinds", spec := "halfFinds", unfollowed := true, recurses := true, apart := false }
def HalfFindsSaid : Prop := halfFindsRow.holds Try.pinned (OpenSpec.ofChange halfFindsSpec)

/-- ITS FALSE NEIGHBOUR: 'it returns false'. Refute it at one input. -/
def halfFindsWrong : ChangeSpec := { name := "halfFinds", fn := fun _ => fun
  | [d1, d2] => { results := [.lit (.bool false)], args := [d1, d2] }
  | _ => none }
def HalfFindsWrongFalsely : Prop := halfFindsRow.holds Try.pinned (OpenSpec.ofChange halfFindsWrong)

/-- 'foundrylaw23.HalfCuts': WHATEVER THE INPUT: true; the input reads as it did. -/
def halfCutsSpec : ChangeSpec := { name := "halfCuts", fn := fun _ => fun
  | [d1, d2] => { results := [.lit (.bool true)], args := [d1, d2] }
  | _ => none }
def halfCutsRow : OpenClaim := { program := "ytpgiooheoafieaa", sum := "44f5bc07b3aef08412c9f21b749e1f670ad415ece871a8939859e696de53459e", func := "foundry/foundrylaw23.HalfCuts", spec := "halfCuts", unfollowed := true, recurses := true, apart := false }
def HalfCutsSaid : Prop := halfCutsRow.holds Try.pinned (OpenSpec.ofChange halfCutsSpec)

/-- ITS FALSE NEIGHBOUR: 'it returns false'. Refute it at one input. -/
def halfCutsWrong : ChangeSpec := { name := "halfCuts", fn := fun _ => fun
  | [d1, d2] => { results := [.lit (.bool false)], args := [d1, d2] }
  | _ => none }
def HalfCutsWrongFalsely : Prop := halfCutsRow.holds Try.pinned (OpenSpec.ofChange halfCutsWrong)

/-- 'foundrylaw23.HalfNils': WHATEVER THE INPUT: true; the input reads as it did. -/
def halfNilsSpec : ChangeSpec := { name := "halfNils", fn := fun _ => fun
  | [d1, d2, d3] => { results := [.lit (.bool true)], args := [d1, d2, d3] }
  | _ => none }
def halfNilsRow : OpenClaim := { program := "ytpgiooheoafieaa", sum := "44f5bc07b3aef08412c9f21b749e1f670ad415ece871a8939859e696de53459e", func := "foundry/foundrylaw23.HalfNils", spec := "halfNils", unfollowed := true, recurses := true, apart := false }
def HalfNilsSaid : Prop := halfNilsRow.holds Try.pinned (OpenSpec.ofChange halfNilsSpec)

/-- ITS FALSE NEIGHBOUR: 'it returns false'. Refute it at one input. -/
def halfNilsWrong : ChangeSpec := { name := "halfNils", fn := fun _ => fun
  | [d1, d2, d3] => { results := [.lit (.bool false)], args := [d1, d2, d3] }
  | _ => none }
def HalfNilsWrongFalsely : Prop := halfNilsRow.holds Try.pinned (OpenSpec.ofChange halfNilsWrong)

/-- 'foundrylaw23.HalfPlays': WHATEVER THE INPUT: true; the input reads as it did. -/
def halfPlaysSpec : ChangeSpec := { name := "halfPlays", fn := fun _ => fun
  | [d1, d2, d3, d4, d5] => { results := [.lit (.bool true)], args := [d1, d2, d3, d4, d5] }
  | _ => none }
def halfPlaysRow : OpenClaim := { program := "ytpgiooheoafieaa", sum := "44f5bc07b3aef08412c9f21b749e1f670ad415ece871a8939859e696de53459e", func := "foundry/foundrylaw23.HalfPlays", spec := "halfPlays", unfollowed := true, recurses := true, apart := false }
def HalfPlaysSaid : Prop := halfPlaysRow.holds Try.pinned (OpenSpec.ofChange halfPlaysSpec)

/-- ITS FALSE NEIGHBOUR: 'it returns false'. Refute it at one input. -/
def halfPlaysWrong : ChangeSpec := { name := "halfPlays", fn := fun _ => fun
  | [d1, d2, d3, d4, d5] => { results := [.lit (.bool false)], args := [d1, d2, d3, d4, d5] }
  | _ => none }
def HalfPlaysWrongFalsely : Prop := halfPlaysRow.holds Try.pinned (OpenSpec.ofChange halfPlaysWrong)

/- THE SECOND FORM. 'bulk': how many values and letters a reading holds, each counted each time it is reached (what is shared counts as often as it is met; a slice's spare places count too). A statement '..UptoSaid' is the law's where the arguments, and the package variables that the reading takes, are together of bulk at most 1048576: NARROWER than '..Said'. Prove '..Said' where nothing that the law and all that it calls make is longer than what came in: it says more and counts as full. Else prove '..UptoSaid'. A law counts once. -/
mutual
def uptoBulk {H : Type} : DataW H → Nat
  | .lit (.string bytes) => bytes.length + 1
  | .lit _ => 1
  | .nil => 1
  | .ptr d => uptoBulk d + 1
  | .slice elems spare => uptoBulkAll elems + uptoBulkAll spare + 1
  | .agg parts => uptoBulkAll parts + 1
  | .iface _ d => uptoBulk d + 1
  | .map entries => uptoBulkEntries entries + 1
  | .held _ => 1
def uptoBulkAll {H : Type} : List (DataW H) → Nat
  | [] => 0
  | d :: r => uptoBulk d + uptoBulkAll r
def uptoBulkEntries {H : Type} : List (Lit × DataW H) → Nat
  | [] => 0
  | x :: r => uptoBulkEntry x + uptoBulkEntries r
def uptoBulkEntry {H : Type} : Lit × DataW H → Nat
  | (.string bytes, d) => bytes.length + uptoBulk d + 1
  | (_, d) => uptoBulk d + 1
 end
def uptoSmall : (H : Type) → List (DataW H) → Bool := fun _ ds => decide (uptoBulkAll ds ≤ 1048576)
def OpenSpec.upto (s : _root_.Go.ChangeSpec) : _root_.Go.OpenSpec := { _root_.Go.OpenSpec.ofChange s with cond := some uptoSmall }

/-- 'foundrylaw21.DiskReplays', WHERE WHAT IT READS IS OF BULK AT MOST 1048576: true; the input reads as it did. -/
def diskReplaysUptoRow : OpenClaim := { program := "ytpgiooheoafieaa", sum := "44f5bc07b3aef08412c9f21b749e1f670ad415ece871a8939859e696de53459e", func := "foundry/foundrylaw21.DiskReplays", spec := "diskReplays", apart := false, narrowed := true }
def DiskReplaysUptoSaid : Prop := diskReplaysUptoRow.holds Try.pinned (OpenSpec.upto diskReplaysSpec)

/-- 'foundrylaw21.DiskPlays', WHERE WHAT IT READS IS OF BULK AT MOST 1048576: true; the input reads as it did. -/
def diskPlaysUptoRow : OpenClaim := { program := "ytpgiooheoafieaa", sum := "44f5bc07b3aef08412c9f21b749e1f670ad415ece871a8939859e696de53459e", func := "foundry/foundrylaw21.DiskPlays", spec := "diskPlays", apart := false, narrowed := true }
def DiskPlaysUptoSaid : Prop := diskPlaysUptoRow.holds Try.pinned (OpenSpec.upto diskPlaysSpec)

/-- 'foundrylaw21.DiskLoads', WHERE WHAT IT READS IS OF BULK AT MOST 1048576: true; the input reads as it did. -/
def diskLoadsUptoRow : OpenClaim := { program := "ytpgiooheoafieaa", sum := "44f5bc07b3aef08412c9f21b749e1f670ad415ece871a8939859e696de53459e", func := "foundry/foundrylaw21.DiskLoads", spec := "diskLoads", apart := false, narrowed := true }
def DiskLoadsUptoSaid : Prop := diskLoadsUptoRow.holds Try.pinned (OpenSpec.upto diskLoadsSpec)

/-- 'foundrylaw22.SealHeads', WHERE WHAT IT READS IS OF BULK AT MOST 1048576: true; the input reads as it did. -/
def sealHeadsUptoRow : OpenClaim := { program := "ytpgiooheoafieaa", sum := "44f5bc07b3aef08412c9f21b749e1f670ad415ece871a8939859e696de53459e", func := "foundry/foundrylaw22.SealHeads", spec := "sealHeads", unfollowed := true, recurses := true, apart := false, narrowed := true }
def SealHeadsUptoSaid : Prop := sealHeadsUptoRow.holds Try.pinned (OpenSpec.upto sealHeadsSpec)

/-- 'foundrylaw22.SealGen', WHERE WHAT IT READS IS OF BULK AT MOST 1048576: true; the input reads as it did. -/
def sealGenUptoRow : OpenClaim := { program := "ytpgiooheoafieaa", sum := "44f5bc07b3aef08412c9f21b749e1f670ad415ece871a8939859e696de53459e", func := "foundry/foundrylaw22.SealGen", spec := "sealGen", unfollowed := true, recurses := true, apart := false, narrowed := true }
def SealGenUptoSaid : Prop := sealGenUptoRow.holds Try.pinned (OpenSpec.upto sealGenSpec)

/-- 'foundrylaw22.SealBlocks', WHERE WHAT IT READS IS OF BULK AT MOST 1048576: true; the input reads as it did. -/
def sealBlocksUptoRow : OpenClaim := { program := "ytpgiooheoafieaa", sum := "44f5bc07b3aef08412c9f21b749e1f670ad415ece871a8939859e696de53459e", func := "foundry/foundrylaw22.SealBlocks", spec := "sealBlocks", unfollowed := true, recurses := true, apart := false, narrowed := true }
def SealBlocksUptoSaid : Prop := sealBlocksUptoRow.holds Try.pinned (OpenSpec.upto sealBlocksSpec)

/-- 'foundrylaw22.SealBack', WHERE WHAT IT READS IS OF BULK AT MOST 1048576: true; the input reads as it did. -/
def sealBackUptoRow : OpenClaim := { program := "ytpgiooheoafieaa", sum := "44f5bc07b3aef08412c9f21b749e1f670ad415ece871a8939859e696de53459e", func := "foundry/foundrylaw22.SealBack", spec := "sealBack", unfollowed := true, recurses := true, apart := false, narrowed := true }
def SealBackUptoSaid : Prop := sealBackUptoRow.holds Try.pinned (OpenSpec.upto sealBackSpec)

/-- 'foundrylaw22.SealOthers', WHERE WHAT IT READS IS OF BULK AT MOST 1048576: true; the input reads as it did. -/
def sealOthersUptoRow : OpenClaim := { program := "ytpgiooheoafieaa", sum := "44f5bc07b3aef08412c9f21b749e1f670ad415ece871a8939859e696de53459e", func := "foundry/foundrylaw22.SealOthers", spec := "sealOthers", unfollowed := true, recurses := true, apart := false, narrowed := true }
def SealOthersUptoSaid : Prop := sealOthersUptoRow.holds Try.pinned (OpenSpec.upto sealOthersSpec)

/-- 'foundrylaw22.SealPlays', WHERE WHAT IT READS IS OF BULK AT MOST 1048576: true; the input reads as it did. -/
def sealPlaysUptoRow : OpenClaim := { program := "ytpgiooheoafieaa", sum := "44f5bc07b3aef08412c9f21b749e1f670ad415ece871a8939859e696de53459e", func := "foundry/foundrylaw22.SealPlays", spec := "sealPlays", unfollowed := true, recurses := true, apart := false, narrowed := true }
def SealPlaysUptoSaid : Prop := sealPlaysUptoRow.holds Try.pinned (OpenSpec.upto sealPlaysSpec)

/-- 'foundrylaw22.SealCut', WHERE WHAT IT READS IS OF BULK AT MOST 1048576: true; the input reads as it did. -/
def sealCutUptoRow : OpenClaim := { program := "ytpgiooheoafieaa", sum := "44f5bc07b3aef08412c9f21b749e1f670ad415ece871a8939859e696de53459e", func := "foundry/foundrylaw22.SealCut", spec := "sealCut", unfollowed := true, recurses := true, apart := false, narrowed := true }
def SealCutUptoSaid : Prop := sealCutUptoRow.holds Try.pinned (OpenSpec.upto sealCutSpec)

/-- 'foundrylaw23.HalfFinds', WHERE WHAT IT READS IS OF BULK AT MOST 1048576: true; the input reads as it did. -/
def halfFindsUptoRow : OpenClaim := { program := "ytpgiooheoafieaa", sum := "44f5bc07b3aef08412c9f21b749e1f670ad415ece871a8939859e696de53459e", func := "foundry/foundrylaw23.HalfFinds", spec := "halfFinds", unfollowed := true, recurses := true, apart := false, narrowed := true }
def HalfFindsUptoSaid : Prop := halfFindsUptoRow.holds Try.pinned (OpenSpec.upto halfFindsSpec)

/-- 'foundrylaw23.HalfCuts', WHERE WHAT IT READS IS OF BULK AT MOST 1048576: true; the input reads as it did. -/
def halfCutsUptoRow : OpenClaim := { program := "ytpgiooheoafieaa", sum := "44f5bc07b3aef08412c9f21b749e1f670ad415ece871a8939859e696de53459e", func := "foundry/foundrylaw23.HalfCuts", spec := "halfCuts", unfollowed := true, recurses := true, apart := false, narrowed := true }
def HalfCutsUptoSaid : Prop := halfCutsUptoRow.holds Try.pinned (OpenSpec.upto halfCutsSpec)

/-- 'foundrylaw23.HalfNils', WHERE WHAT IT READS IS OF BULK AT MOST 1048576: true; the input reads as it did. -/
def halfNilsUptoRow : OpenClaim := { program := "ytpgiooheoafieaa", sum := "44f5bc07b3aef08412c9f21b749e1f670ad415ece871a8939859e696de53459e", func := "foundry/foundrylaw23.HalfNils", spec := "halfNils", unfollowed := true, recurses := true, apart := false, narrowed := true }
def HalfNilsUptoSaid : Prop := halfNilsUptoRow.holds Try.pinned (OpenSpec.upto halfNilsSpec)

/-- 'foundrylaw23.HalfPlays', WHERE WHAT IT READS IS OF BULK AT MOST 1048576: true; the input reads as it did. -/
def halfPlaysUptoRow : OpenClaim := { program := "ytpgiooheoafieaa", sum := "44f5bc07b3aef08412c9f21b749e1f670ad415ece871a8939859e696de53459e", func := "foundry/foundrylaw23.HalfPlays", spec := "halfPlays", unfollowed := true, recurses := true, apart := false, narrowed := true }
def HalfPlaysUptoSaid : Prop := halfPlaysUptoRow.holds Try.pinned (OpenSpec.upto halfPlaysSpec)

end Rows
end Go.Proofs.Ytpgiooheoafieaa
