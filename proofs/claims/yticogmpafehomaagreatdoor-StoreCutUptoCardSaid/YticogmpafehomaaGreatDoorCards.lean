/-
  DERIVED. GIVEN WITH THE SEED: THE CARDS: each row of YticogmpafehomaaGreatDoorRows.lean that lists a variable, with what it lists TIED to the program's text (the seventh form; the later family's looks); each row that meets fmt, with fmt's text TOLD by the authors' own Lean function (tested against real Go, not proved from fmt's source: count such statements apart). THE CARD IS WHAT COUNTS. Prove the row's statement (the work); the ties are given (YticogmpafehomaaGreatDoorTie.lean); close each card by the builder's one call (the guide's Derived/Test/ToyasCard.lean, 'card_holds'). Laid BY PROGRAM, IN A SANDBOX (cutbox-door.mjs). By AI agents, Wed Nov 11 2026. No macro, syntax, notation, axiom, sorry.
-/
import Derived.Test.YticogmpafehomaaGreatDoorRows
import GoSem.ClaimSeven
namespace Go.Proofs.YticogmpafehomaaGreatDoor
namespace Rows

/-- THE TIED CARD OF 'foundrylaw24.StoreManifests'. -/
def storeManifestsCard : Claim7 := { stood := { row := storeManifestsRow, standIns := [], harness := (true, "da4602940873e679cfa873f92e215aeb15a05dc4cf66895a795d1fe65d27cebc"), looks := true }, kinds := [], alts := [], laidByText := true, laidKinds := [.handle], laidTests := true, laidLooks := .later }
def StoreManifestsCardSaid : Prop := Claim7.holds Tryz.pinned (.plain (OpenSpec.ofChange storeManifestsSpec)) storeManifestsCard

/-- THE TIED CARD OF 'foundrylaw24.StoreStill'. -/
def storeStillCard : Claim7 := { stood := { row := storeStillRow, standIns := [], harness := (true, "da4602940873e679cfa873f92e215aeb15a05dc4cf66895a795d1fe65d27cebc"), looks := true }, kinds := [], alts := [], laidByText := true, laidKinds := [.handle], laidTests := true, laidLooks := .later }
def StoreStillCardSaid : Prop := Claim7.holds Tryz.pinned (.plain (OpenSpec.ofChange storeStillSpec)) storeStillCard

/-- THE TIED CARD OF 'foundrylaw24.StoreNils'. -/
def storeNilsCard : Claim7 := { stood := { row := storeNilsRow, standIns := [], harness := (true, "da4602940873e679cfa873f92e215aeb15a05dc4cf66895a795d1fe65d27cebc"), looks := true }, kinds := [], alts := [], laidByText := true, laidKinds := [.handle], laidTests := true, laidLooks := .later }
def StoreNilsCardSaid : Prop := Claim7.holds Tryz.pinned (.plain (OpenSpec.ofChange storeNilsSpec)) storeNilsCard

/-- THE TIED CARD OF 'foundrylaw24.StoreAsSaid'. -/
def storeAsSaidCard : Claim7 := { stood := { row := storeAsSaidRow, standIns := [], harness := (true, "da4602940873e679cfa873f92e215aeb15a05dc4cf66895a795d1fe65d27cebc"), looks := true }, kinds := [], alts := [], laidByText := true, laidKinds := [.handle], laidTests := true, laidLooks := .later }
def StoreAsSaidCardSaid : Prop := Claim7.holds Tryz.pinned (.plain (OpenSpec.ofChange storeAsSaidSpec)) storeAsSaidCard

/-- THE TIED CARD OF 'foundrylaw24.StoreCut'. -/
def storeCutCard : Claim7 := { stood := { row := storeCutRow, standIns := [], harness := (true, "da4602940873e679cfa873f92e215aeb15a05dc4cf66895a795d1fe65d27cebc"), looks := true }, kinds := [], alts := [], laidByText := true, laidKinds := [.handle], laidTests := true, laidLooks := .later }
def StoreCutCardSaid : Prop := Claim7.holds Tryz.pinned (.plain (OpenSpec.ofChange storeCutSpec)) storeCutCard

/-- THE TIED CARD OF 'foundrylaw24.StoreAnything'. -/
def storeAnythingCard : Claim7 := { stood := { row := storeAnythingRow, standIns := [], harness := (true, "da4602940873e679cfa873f92e215aeb15a05dc4cf66895a795d1fe65d27cebc"), looks := true }, kinds := [], alts := [], laidByText := true, laidKinds := [.handle], laidTests := true, laidLooks := .later }
def StoreAnythingCardSaid : Prop := Claim7.holds Tryz.pinned (.plain (OpenSpec.ofChange storeAnythingSpec)) storeAnythingCard

/-- THE TIED CARD OF 'foundrylaw24.StorePlays'. -/
def storePlaysCard : Claim7 := { stood := { row := storePlaysRow, standIns := [], harness := (true, "da4602940873e679cfa873f92e215aeb15a05dc4cf66895a795d1fe65d27cebc"), looks := true }, kinds := [], alts := [], laidByText := true, laidKinds := [.handle], laidTests := true, laidLooks := .later }
def StorePlaysCardSaid : Prop := Claim7.holds Tryz.pinned (.plain (OpenSpec.ofChange storePlaysSpec)) storePlaysCard

/-- THE SECOND FORM's CARD OF 'foundrylaw24.StoreManifests'. -/
def storeManifestsUptoCard : Claim7 := { stood := { row := storeManifestsUptoRow, standIns := [], harness := (true, "da4602940873e679cfa873f92e215aeb15a05dc4cf66895a795d1fe65d27cebc"), looks := true }, kinds := [], alts := [], laidByText := true, laidKinds := [.handle], laidTests := true, laidLooks := .later }
def StoreManifestsUptoCardSaid : Prop := Claim7.holds Tryz.pinned (.plain (OpenSpec.upto storeManifestsSpec)) storeManifestsUptoCard

/-- THE SECOND FORM's CARD OF 'foundrylaw24.StoreStill'. -/
def storeStillUptoCard : Claim7 := { stood := { row := storeStillUptoRow, standIns := [], harness := (true, "da4602940873e679cfa873f92e215aeb15a05dc4cf66895a795d1fe65d27cebc"), looks := true }, kinds := [], alts := [], laidByText := true, laidKinds := [.handle], laidTests := true, laidLooks := .later }
def StoreStillUptoCardSaid : Prop := Claim7.holds Tryz.pinned (.plain (OpenSpec.upto storeStillSpec)) storeStillUptoCard

/-- THE SECOND FORM's CARD OF 'foundrylaw24.StoreNils'. -/
def storeNilsUptoCard : Claim7 := { stood := { row := storeNilsUptoRow, standIns := [], harness := (true, "da4602940873e679cfa873f92e215aeb15a05dc4cf66895a795d1fe65d27cebc"), looks := true }, kinds := [], alts := [], laidByText := true, laidKinds := [.handle], laidTests := true, laidLooks := .later }
def StoreNilsUptoCardSaid : Prop := Claim7.holds Tryz.pinned (.plain (OpenSpec.upto storeNilsSpec)) storeNilsUptoCard

/-- THE SECOND FORM's CARD OF 'foundrylaw24.StoreAsSaid'. -/
def storeAsSaidUptoCard : Claim7 := { stood := { row := storeAsSaidUptoRow, standIns := [], harness := (true, "da4602940873e679cfa873f92e215aeb15a05dc4cf66895a795d1fe65d27cebc"), looks := true }, kinds := [], alts := [], laidByText := true, laidKinds := [.handle], laidTests := true, laidLooks := .later }
def StoreAsSaidUptoCardSaid : Prop := Claim7.holds Tryz.pinned (.plain (OpenSpec.upto storeAsSaidSpec)) storeAsSaidUptoCard

/-- THE SECOND FORM's CARD OF 'foundrylaw24.StoreCut'. -/
def storeCutUptoCard : Claim7 := { stood := { row := storeCutUptoRow, standIns := [], harness := (true, "da4602940873e679cfa873f92e215aeb15a05dc4cf66895a795d1fe65d27cebc"), looks := true }, kinds := [], alts := [], laidByText := true, laidKinds := [.handle], laidTests := true, laidLooks := .later }
def StoreCutUptoCardSaid : Prop := Claim7.holds Tryz.pinned (.plain (OpenSpec.upto storeCutSpec)) storeCutUptoCard

/-- THE SECOND FORM's CARD OF 'foundrylaw24.StoreAnything'. -/
def storeAnythingUptoCard : Claim7 := { stood := { row := storeAnythingUptoRow, standIns := [], harness := (true, "da4602940873e679cfa873f92e215aeb15a05dc4cf66895a795d1fe65d27cebc"), looks := true }, kinds := [], alts := [], laidByText := true, laidKinds := [.handle], laidTests := true, laidLooks := .later }
def StoreAnythingUptoCardSaid : Prop := Claim7.holds Tryz.pinned (.plain (OpenSpec.upto storeAnythingSpec)) storeAnythingUptoCard

/-- THE SECOND FORM's CARD OF 'foundrylaw24.StorePlays'. -/
def storePlaysUptoCard : Claim7 := { stood := { row := storePlaysUptoRow, standIns := [], harness := (true, "da4602940873e679cfa873f92e215aeb15a05dc4cf66895a795d1fe65d27cebc"), looks := true }, kinds := [], alts := [], laidByText := true, laidKinds := [.handle], laidTests := true, laidLooks := .later }
def StorePlaysUptoCardSaid : Prop := Claim7.holds Tryz.pinned (.plain (OpenSpec.upto storePlaysSpec)) storePlaysUptoCard
end Rows
end Go.Proofs.YticogmpafehomaaGreatDoor
