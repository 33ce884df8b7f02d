/-
  NARROWER THAN 'FOR EVERY INPUT', by the rows' own cells (each row's printed sentence says how): StoreManifests: laid · StoreStill: laid · StoreNils: laid · StoreAsSaid: laid · StoreCut: laid · StoreAnything: laid · StorePlays: laid.
  DERIVED. THE GIVEN ROWS OF THIS SEAT. 7 by the template 'for every input the law returns true; each argument reads behind the call as it read before'; 0 by the template 'total and deterministic' (their statements: YticogmpafehomaaGreatDoorTotals.lean).
  GIVEN WITH THE SEED: the statements are not yours to turn. If you find one false, say at which input.
  Laid BY PROGRAM, IN A SANDBOX (cutbox-rows.mjs): the forced cells as the released guide's own fill.sh prints them over the translation e7807f8f1cab9b33… (all of the seat's roots in one cut). By AI agents, Wed Nov 11 2026. No macro, syntax, notation, axiom, sorry.
-/
import Derived.Test.YticogmpafehomaaGreatDoorChecked
import GoSem.Claim
import GoSem.ClaimJoined
import GoSem.ClaimMapViews
import Derived.JoinedTies
import Derived.KernelRfl
namespace Go.Proofs.YticogmpafehomaaGreatDoor
/- THE CELL 'sum', in the pinned program and in every row, IS THE sha256 OF THE DUMP (.gsa) THAT YticogmpafehomaaGreatDoorProg.lean LOADS. Nothing in Lean hashes anything: it is a label: what it is worth is what the hold of that sum in a sandbox is worth. -/
noncomputable def Tryz.pinned : Pinned := { name := "yticogmpafehomaagreatdoor", sum := "e7807f8f1cab9b3375ba67b0b93c74f782049e2dda8be88f65208a94793d5086", checked := Tryz.checked }
namespace Rows
def none {H : Type} : Left H := { results := [], args := [] }

/- WHAT THE LISTED PACKAGE-LEVEL VARIABLES READ AS WHEN THE CALL BEGINS. Each datum BY PROGRAM (the guide's laid-datum.mjs) off the statement by which the dump's own 'gosem.cut.vars' lays the variable. In a bare row this is a premise. The card (YticogmpafehomaaGreatDoorCards.lean) ties it to the program's text. -/
def laid_errors_errorType {H : Type} : DataW H := .iface "internal/reflectlite.rtype" (.agg [.ptr (.lit (.string [101, 114, 114, 111, 114]))])

/-- 'foundrylaw24.StoreManifests': WHATEVER THE INPUT: true; the input reads as it did. -/
def storeManifestsSpec : ChangeSpec := { name := "storeManifests", fn := fun _ => fun
  | [d1, d2, d3, d4, d5] => { results := [.lit (.bool true)], args := [d1, d2, d3, d4, d5] }
  | _ => none }
def storeManifestsRow : OpenClaim := { program := "yticogmpafehomaagreatdoor", sum := "e7807f8f1cab9b3375ba67b0b93c74f782049e2dda8be88f65208a94793d5086", func := "foundry/foundrylaw24.StoreManifests", spec := "storeManifests", inPlace := ["internal/reflectlite.ValueOf", "(internal/reflectlite.Value).Type", "(internal/reflectlite.Value).IsNil", "internal/reflectlite.TypeOf", "(internal/reflectlite.Value).Elem", "(internal/reflectlite.Value).Set", "maps.clone"], unfollowed := true, recurses := true, named := ["errors.errorType"], apart := false, laid := [("errors.errorType", laid_errors_errorType)] }
def StoreManifestsSaid : Prop := storeManifestsRow.holds Tryz.pinned (OpenSpec.ofChange storeManifestsSpec)

/-- ITS FALSE NEIGHBOUR: 'it returns false'. Refute it at one input. -/
def storeManifestsWrong : ChangeSpec := { name := "storeManifests", fn := fun _ => fun
  | [d1, d2, d3, d4, d5] => { results := [.lit (.bool false)], args := [d1, d2, d3, d4, d5] }
  | _ => none }
def StoreManifestsWrongFalsely : Prop := storeManifestsRow.holds Tryz.pinned (OpenSpec.ofChange storeManifestsWrong)

/-- 'foundrylaw24.StoreStill': WHATEVER THE INPUT: true; the input reads as it did. -/
def storeStillSpec : ChangeSpec := { name := "storeStill", fn := fun _ => fun
  | [d1, d2, d3] => { results := [.lit (.bool true)], args := [d1, d2, d3] }
  | _ => none }
def storeStillRow : OpenClaim := { program := "yticogmpafehomaagreatdoor", sum := "e7807f8f1cab9b3375ba67b0b93c74f782049e2dda8be88f65208a94793d5086", func := "foundry/foundrylaw24.StoreStill", spec := "storeStill", inPlace := ["internal/reflectlite.ValueOf", "(internal/reflectlite.Value).Type", "(internal/reflectlite.Value).IsNil", "internal/reflectlite.TypeOf", "(internal/reflectlite.Value).Elem", "(internal/reflectlite.Value).Set", "maps.clone"], unfollowed := true, recurses := true, named := ["errors.errorType"], apart := false, laid := [("errors.errorType", laid_errors_errorType)] }
def StoreStillSaid : Prop := storeStillRow.holds Tryz.pinned (OpenSpec.ofChange storeStillSpec)

/-- ITS FALSE NEIGHBOUR: 'it returns false'. Refute it at one input. -/
def storeStillWrong : ChangeSpec := { name := "storeStill", fn := fun _ => fun
  | [d1, d2, d3] => { results := [.lit (.bool false)], args := [d1, d2, d3] }
  | _ => none }
def StoreStillWrongFalsely : Prop := storeStillRow.holds Tryz.pinned (OpenSpec.ofChange storeStillWrong)

/-- 'foundrylaw24.StoreNils': WHATEVER THE INPUT: true; the input reads as it did. -/
def storeNilsSpec : ChangeSpec := { name := "storeNils", fn := fun _ => fun
  | [d] => { results := [.lit (.bool true)], args := [d] }
  | _ => none }
def storeNilsRow : OpenClaim := { program := "yticogmpafehomaagreatdoor", sum := "e7807f8f1cab9b3375ba67b0b93c74f782049e2dda8be88f65208a94793d5086", func := "foundry/foundrylaw24.StoreNils", spec := "storeNils", inPlace := ["internal/reflectlite.ValueOf", "(internal/reflectlite.Value).Type", "(internal/reflectlite.Value).IsNil", "internal/reflectlite.TypeOf", "(internal/reflectlite.Value).Elem", "(internal/reflectlite.Value).Set", "maps.clone"], unfollowed := true, recurses := true, named := ["errors.errorType"], apart := false, laid := [("errors.errorType", laid_errors_errorType)] }
def StoreNilsSaid : Prop := storeNilsRow.holds Tryz.pinned (OpenSpec.ofChange storeNilsSpec)

/-- ITS FALSE NEIGHBOUR: 'it returns false'. Refute it at one input. -/
def storeNilsWrong : ChangeSpec := { name := "storeNils", fn := fun _ => fun
  | [d] => { results := [.lit (.bool false)], args := [d] }
  | _ => none }
def StoreNilsWrongFalsely : Prop := storeNilsRow.holds Tryz.pinned (OpenSpec.ofChange storeNilsWrong)

/-- 'foundrylaw24.StoreAsSaid': WHATEVER THE INPUT: true; the input reads as it did. -/
def storeAsSaidSpec : ChangeSpec := { name := "storeAsSaid", fn := fun _ => fun
  | [d1, d2] => { results := [.lit (.bool true)], args := [d1, d2] }
  | _ => none }
def storeAsSaidRow : OpenClaim := { program := "yticogmpafehomaagreatdoor", sum := "e7807f8f1cab9b3375ba67b0b93c74f782049e2dda8be88f65208a94793d5086", func := "foundry/foundrylaw24.StoreAsSaid", spec := "storeAsSaid", inPlace := ["internal/reflectlite.ValueOf", "(internal/reflectlite.Value).Type", "(internal/reflectlite.Value).IsNil", "internal/reflectlite.TypeOf", "(internal/reflectlite.Value).Elem", "(internal/reflectlite.Value).Set", "maps.clone"], unfollowed := true, recurses := true, named := ["errors.errorType"], apart := false, laid := [("errors.errorType", laid_errors_errorType)] }
def StoreAsSaidSaid : Prop := storeAsSaidRow.holds Tryz.pinned (OpenSpec.ofChange storeAsSaidSpec)

/-- ITS FALSE NEIGHBOUR: 'it returns false'. Refute it at one input. -/
def storeAsSaidWrong : ChangeSpec := { name := "storeAsSaid", fn := fun _ => fun
  | [d1, d2] => { results := [.lit (.bool false)], args := [d1, d2] }
  | _ => none }
def StoreAsSaidWrongFalsely : Prop := storeAsSaidRow.holds Tryz.pinned (OpenSpec.ofChange storeAsSaidWrong)

/-- 'foundrylaw24.StoreCut': WHATEVER THE INPUT: true; the input reads as it did. -/
def storeCutSpec : ChangeSpec := { name := "storeCut", fn := fun _ => fun
  | [d1, d2, d3] => { results := [.lit (.bool true)], args := [d1, d2, d3] }
  | _ => none }
def storeCutRow : OpenClaim := { program := "yticogmpafehomaagreatdoor", sum := "e7807f8f1cab9b3375ba67b0b93c74f782049e2dda8be88f65208a94793d5086", func := "foundry/foundrylaw24.StoreCut", spec := "storeCut", inPlace := ["internal/reflectlite.ValueOf", "(internal/reflectlite.Value).Type", "(internal/reflectlite.Value).IsNil", "internal/reflectlite.TypeOf", "(internal/reflectlite.Value).Elem", "(internal/reflectlite.Value).Set", "maps.clone"], unfollowed := true, recurses := true, named := ["errors.errorType"], apart := false, laid := [("errors.errorType", laid_errors_errorType)] }
def StoreCutSaid : Prop := storeCutRow.holds Tryz.pinned (OpenSpec.ofChange storeCutSpec)

/-- ITS FALSE NEIGHBOUR: 'it returns false'. Refute it at one input. -/
def storeCutWrong : ChangeSpec := { name := "storeCut", fn := fun _ => fun
  | [d1, d2, d3] => { results := [.lit (.bool false)], args := [d1, d2, d3] }
  | _ => none }
def StoreCutWrongFalsely : Prop := storeCutRow.holds Tryz.pinned (OpenSpec.ofChange storeCutWrong)

/-- 'foundrylaw24.StoreAnything': WHATEVER THE INPUT: true; the input reads as it did. -/
def storeAnythingSpec : ChangeSpec := { name := "storeAnything", fn := fun _ => fun
  | [d1, d2] => { results := [.lit (.bool true)], args := [d1, d2] }
  | _ => none }
def storeAnythingRow : OpenClaim := { program := "yticogmpafehomaagreatdoor", sum := "e7807f8f1cab9b3375ba67b0b93c74f782049e2dda8be88f65208a94793d5086", func := "foundry/foundrylaw24.StoreAnything", spec := "storeAnything", inPlace := ["internal/reflectlite.ValueOf", "(internal/reflectlite.Value).Type", "(internal/reflectlite.Value).IsNil", "internal/reflectlite.TypeOf", "(internal/reflectlite.Value).Elem", "(internal/reflectlite.Value).Set", "maps.clone"], unfollowed := true, recurses := true, named := ["errors.errorType"], apart := false, laid := [("errors.errorType", laid_errors_errorType)] }
def StoreAnythingSaid : Prop := storeAnythingRow.holds Tryz.pinned (OpenSpec.ofChange storeAnythingSpec)

/-- ITS FALSE NEIGHBOUR: 'it returns false'. Refute it at one input. -/
def storeAnythingWrong : ChangeSpec := { name := "storeAnything", fn := fun _ => fun
  | [d1, d2] => { results := [.lit (.bool false)], args := [d1, d2] }
  | _ => none }
def StoreAnythingWrongFalsely : Prop := storeAnythingRow.holds Tryz.pinned (OpenSpec.ofChange storeAnythingWrong)

/-- 'foundrylaw24.StorePlays': WHATEVER THE INPUT: true; the input reads as it did. -/
def storePlaysSpec : ChangeSpec := { name := "storePlays", fn := fun _ => fun
  | [d1, d2] => { results := [.lit (.bool true)], args := [d1, d2] }
  | _ => none }
def storePlaysRow : OpenClaim := { program := "yticogmpafehomaagreatdoor", sum := "e7807f8f1cab9b3375ba67b0b93c74f782049e2dda8be88f65208a94793d5086", func := "foundry/foundrylaw24.StorePlays", spec := "storePlays", inPlace := ["internal/reflectlite.ValueOf", "(internal/reflectlite.Value).Type", "(internal/reflectlite.Value).IsNil", "internal/reflectlite.TypeOf", "(internal/reflectlite.Value).Elem", "(internal/reflectlite.Value).Set", "maps.clone"], unfollowed := true, recurses := true, named := ["errors.errorType"], apart := false, laid := [("errors.errorType", laid_errors_errorType)] }
def StorePlaysSaid : Prop := storePlaysRow.holds Tryz.pinned (OpenSpec.ofChange storePlaysSpec)

/-- ITS FALSE NEIGHBOUR: 'it returns false'. Refute it at one input. -/
def storePlaysWrong : ChangeSpec := { name := "storePlays", fn := fun _ => fun
  | [d1, d2] => { results := [.lit (.bool false)], args := [d1, d2] }
  | _ => none }
def StorePlaysWrongFalsely : Prop := storePlaysRow.holds Tryz.pinned (OpenSpec.ofChange storePlaysWrong)

/- THE SECOND FORM. 'bulk': how many values and letters a reading holds, each counted each time it is reached (what is shared counts as often as it is met; a slice's spare places count too). A statement '..UptoSaid' is the law's where the arguments, and the package variables that the reading takes, are together of bulk at most 1048576: NARROWER than '..Said'. Prove '..Said' where nothing that the law and all that it calls make is longer than what came in: it says more and counts as full. Else prove '..UptoSaid'. A law counts once. -/
mutual
def uptoBulk {H : Type} : DataW H → Nat
  | .lit (.string bytes) => bytes.length + 1
  | .lit _ => 1
  | .nil => 1
  | .ptr d => uptoBulk d + 1
  | .slice elems spare => uptoBulkAll elems + uptoBulkAll spare + 1
  | .agg parts => uptoBulkAll parts + 1
  | .iface _ d => uptoBulk d + 1
  | .map entries => uptoBulkEntries entries + 1
  | .held _ => 1
def uptoBulkAll {H : Type} : List (DataW H) → Nat
  | [] => 0
  | d :: r => uptoBulk d + uptoBulkAll r
def uptoBulkEntries {H : Type} : List (Lit × DataW H) → Nat
  | [] => 0
  | x :: r => uptoBulkEntry x + uptoBulkEntries r
def uptoBulkEntry {H : Type} : Lit × DataW H → Nat
  | (.string bytes, d) => bytes.length + uptoBulk d + 1
  | (_, d) => uptoBulk d + 1
 end
def uptoSmall : (H : Type) → List (DataW H) → Bool := fun _ ds => decide (uptoBulkAll ds ≤ 1048576)
def OpenSpec.upto (s : _root_.Go.ChangeSpec) : _root_.Go.OpenSpec := { _root_.Go.OpenSpec.ofChange s with cond := some uptoSmall }

/-- 'foundrylaw24.StoreManifests', WHERE WHAT IT READS IS OF BULK AT MOST 1048576: true; the input reads as it did. -/
def storeManifestsUptoRow : OpenClaim := { program := "yticogmpafehomaagreatdoor", sum := "e7807f8f1cab9b3375ba67b0b93c74f782049e2dda8be88f65208a94793d5086", func := "foundry/foundrylaw24.StoreManifests", spec := "storeManifests", inPlace := ["internal/reflectlite.ValueOf", "(internal/reflectlite.Value).Type", "(internal/reflectlite.Value).IsNil", "internal/reflectlite.TypeOf", "(internal/reflectlite.Value).Elem", "(internal/reflectlite.Value).Set", "maps.clone"], unfollowed := true, recurses := true, named := ["errors.errorType"], apart := false, laid := [("errors.errorType", laid_errors_errorType)], narrowed := true }
def StoreManifestsUptoSaid : Prop := storeManifestsUptoRow.holds Tryz.pinned (OpenSpec.upto storeManifestsSpec)

/-- 'foundrylaw24.StoreStill', WHERE WHAT IT READS IS OF BULK AT MOST 1048576: true; the input reads as it did. -/
def storeStillUptoRow : OpenClaim := { program := "yticogmpafehomaagreatdoor", sum := "e7807f8f1cab9b3375ba67b0b93c74f782049e2dda8be88f65208a94793d5086", func := "foundry/foundrylaw24.StoreStill", spec := "storeStill", inPlace := ["internal/reflectlite.ValueOf", "(internal/reflectlite.Value).Type", "(internal/reflectlite.Value).IsNil", "internal/reflectlite.TypeOf", "(internal/reflectlite.Value).Elem", "(internal/reflectlite.Value).Set", "maps.clone"], unfollowed := true, recurses := true, named := ["errors.errorType"], apart := false, laid := [("errors.errorType", laid_errors_errorType)], narrowed := true }
def StoreStillUptoSaid : Prop := storeStillUptoRow.holds Tryz.pinned (OpenSpec.upto storeStillSpec)

/-- 'foundrylaw24.StoreNils', WHERE WHAT IT READS IS OF BULK AT MOST 1048576: true; the input reads as it did. -/
def storeNilsUptoRow : OpenClaim := { program := "yticogmpafehomaagreatdoor", sum := "e7807f8f1cab9b3375ba67b0b93c74f782049e2dda8be88f65208a94793d5086", func := "foundry/foundrylaw24.StoreNils", spec := "storeNils", inPlace := ["internal/reflectlite.ValueOf", "(internal/reflectlite.Value).Type", "(internal/reflectlite.Value).IsNil", "internal/reflectlite.TypeOf", "(internal/reflectlite.Value).Elem", "(internal/reflectlite.Value).Set", "maps.clone"], unfollowed := true, recurses := true, named := ["errors.errorType"], apart := false, laid := [("errors.errorType", laid_errors_errorType)], narrowed := true }
def StoreNilsUptoSaid : Prop := storeNilsUptoRow.holds Tryz.pinned (OpenSpec.upto storeNilsSpec)

/-- 'foundrylaw24.StoreAsSaid', WHERE WHAT IT READS IS OF BULK AT MOST 1048576: true; the input reads as it did. -/
def storeAsSaidUptoRow : OpenClaim := { program := "yticogmpafehomaagreatdoor", sum := "e7807f8f1cab9b3375ba67b0b93c74f782049e2dda8be88f65208a94793d5086", func := "foundry/foundrylaw24.StoreAsSaid", spec := "storeAsSaid", inPlace := ["internal/reflectlite.ValueOf", "(internal/reflectlite.Value).Type", "(internal/reflectlite.Value).IsNil", "internal/reflectlite.TypeOf", "(internal/reflectlite.Value).Elem", "(internal/reflectlite.Value).Set", "maps.clone"], unfollowed := true, recurses := true, named := ["errors.errorType"], apart := false, laid := [("errors.errorType", laid_errors_errorType)], narrowed := true }
def StoreAsSaidUptoSaid : Prop := storeAsSaidUptoRow.holds Tryz.pinned (OpenSpec.upto storeAsSaidSpec)

/-- 'foundrylaw24.StoreCut', WHERE WHAT IT READS IS OF BULK AT MOST 1048576: true; the input reads as it did. -/
def storeCutUptoRow : OpenClaim := { program := "yticogmpafehomaagreatdoor", sum := "e7807f8f1cab9b3375ba67b0b93c74f782049e2dda8be88f65208a94793d5086", func := "foundry/foundrylaw24.StoreCut", spec := "storeCut", inPlace := ["internal/reflectlite.ValueOf", "(internal/reflectlite.Value).Type", "(internal/reflectlite.Value).IsNil", "internal/reflectlite.TypeOf", "(internal/reflectlite.Value).Elem", "(internal/reflectlite.Value).Set", "maps.clone"], unfollowed := true, recurses := true, named := ["errors.errorType"], apart := false, laid := [("errors.errorType", laid_errors_errorType)], narrowed := true }
def StoreCutUptoSaid : Prop := storeCutUptoRow.holds Tryz.pinned (OpenSpec.upto storeCutSpec)

/-- 'foundrylaw24.StoreAnything', WHERE WHAT IT READS IS OF BULK AT MOST 1048576: true; the input reads as it did. -/
def storeAnythingUptoRow : OpenClaim := { program := "yticogmpafehomaagreatdoor", sum := "e7807f8f1cab9b3375ba67b0b93c74f782049e2dda8be88f65208a94793d5086", func := "foundry/foundrylaw24.StoreAnything", spec := "storeAnything", inPlace := ["internal/reflectlite.ValueOf", "(internal/reflectlite.Value).Type", "(internal/reflectlite.Value).IsNil", "internal/reflectlite.TypeOf", "(internal/reflectlite.Value).Elem", "(internal/reflectlite.Value).Set", "maps.clone"], unfollowed := true, recurses := true, named := ["errors.errorType"], apart := false, laid := [("errors.errorType", laid_errors_errorType)], narrowed := true }
def StoreAnythingUptoSaid : Prop := storeAnythingUptoRow.holds Tryz.pinned (OpenSpec.upto storeAnythingSpec)

/-- 'foundrylaw24.StorePlays', WHERE WHAT IT READS IS OF BULK AT MOST 1048576: true; the input reads as it did. -/
def storePlaysUptoRow : OpenClaim := { program := "yticogmpafehomaagreatdoor", sum := "e7807f8f1cab9b3375ba67b0b93c74f782049e2dda8be88f65208a94793d5086", func := "foundry/foundrylaw24.StorePlays", spec := "storePlays", inPlace := ["internal/reflectlite.ValueOf", "(internal/reflectlite.Value).Type", "(internal/reflectlite.Value).IsNil", "internal/reflectlite.TypeOf", "(internal/reflectlite.Value).Elem", "(internal/reflectlite.Value).Set", "maps.clone"], unfollowed := true, recurses := true, named := ["errors.errorType"], apart := false, laid := [("errors.errorType", laid_errors_errorType)], narrowed := true }
def StorePlaysUptoSaid : Prop := storePlaysUptoRow.holds Tryz.pinned (OpenSpec.upto storePlaysSpec)

end Rows
end Go.Proofs.YticogmpafehomaaGreatDoor
