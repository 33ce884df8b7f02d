/-
  DERIVED. GIVEN WITH THE SEED: THE CARDS: each row of YthfoafjjenegaaaDoorRows.lean that lists a variable, with what it lists TIED to the program's text (the seventh form; the later family's looks); each row that meets fmt, with fmt's text TOLD by the authors' own Lean function (tested against real Go, not proved from fmt's source: count such statements apart). THE CARD IS WHAT COUNTS. Prove the row's statement (the work); the ties are given (YthfoafjjenegaaaDoorTie.lean); close each card by the builder's one call (the guide's Derived/Test/ToyasCard.lean, 'card_holds'). Laid BY PROGRAM, IN A SANDBOX (cutbox-door.mjs). By AI agents, Wed Nov 11 2026. No macro, syntax, notation, axiom, sorry.
-/
import Derived.Test.YthfoafjjenegaaaDoorRows
import GoSem.ClaimSeven
namespace Go.Proofs.YthfoafjjenegaaaDoor
namespace Rows

/-- THE TIED CARD OF 'foundrylaw04.NamesRights'. -/
def namesRightsCard : Claim7 := { stood := { row := namesRightsRow, standIns := [], harness := (true, "198eb5ca3a566e95e283e44cdf905a7d6566495ceeda1686d8c32f53dec9a32e"), looks := false }, kinds := [], alts := [], laidByText := true, laidKinds := [.listed, .data], laidTests := true, laidLooks := .later }
def NamesRightsCardSaid : Prop := Claim7.holds Tryd.pinned (.plain (OpenSpec.ofChange namesRightsSpec)) namesRightsCard

/-- THE TIED CARD OF 'foundrylaw04.NamesOrder'. -/
def namesOrderCard : Claim7 := { stood := { row := namesOrderRow, standIns := [], harness := (true, "198eb5ca3a566e95e283e44cdf905a7d6566495ceeda1686d8c32f53dec9a32e"), looks := false }, kinds := [], alts := [], laidByText := true, laidKinds := [.listed, .data], laidTests := true, laidLooks := .later }
def NamesOrderCardSaid : Prop := Claim7.holds Tryd.pinned (.plain (OpenSpec.ofChange namesOrderSpec)) namesOrderCard

/-- THE TIED CARD OF 'foundrylaw04.NamesLonger'. -/
def namesLongerCard : Claim7 := { stood := { row := namesLongerRow, standIns := [], harness := (true, "198eb5ca3a566e95e283e44cdf905a7d6566495ceeda1686d8c32f53dec9a32e"), looks := false }, kinds := [], alts := [], laidByText := true, laidKinds := [.listed, .data], laidTests := true, laidLooks := .later }
def NamesLongerCardSaid : Prop := Claim7.holds Tryd.pinned (.plain (OpenSpec.ofChange namesLongerSpec)) namesLongerCard

/-- THE TIED CARD OF 'foundrylaw04.NamesOrders'. -/
def namesOrdersCard : Claim7 := { stood := { row := namesOrdersRow, standIns := [], harness := (true, "198eb5ca3a566e95e283e44cdf905a7d6566495ceeda1686d8c32f53dec9a32e"), looks := false }, kinds := [], alts := [], laidByText := true, laidKinds := [.listed, .data], laidTests := true, laidLooks := .later }
def NamesOrdersCardSaid : Prop := Claim7.holds Tryd.pinned (.plain (OpenSpec.ofChange namesOrdersSpec)) namesOrdersCard

/-- THE TIED CARD OF 'foundrylaw04.NamesFar'. -/
def namesFarCard : Claim7 := { stood := { row := namesFarRow, standIns := [], harness := (true, "198eb5ca3a566e95e283e44cdf905a7d6566495ceeda1686d8c32f53dec9a32e"), looks := false }, kinds := [], alts := [], laidByText := true, laidKinds := [.listed, .data], laidTests := true, laidLooks := .later }
def NamesFarCardSaid : Prop := Claim7.holds Tryd.pinned (.plain (OpenSpec.ofChange namesFarSpec)) namesFarCard

/-- THE TIED CARD OF 'foundrylaw04.NamesMembers'. -/
def namesMembersCard : Claim7 := { stood := { row := namesMembersRow, standIns := [], harness := (true, "198eb5ca3a566e95e283e44cdf905a7d6566495ceeda1686d8c32f53dec9a32e"), looks := false }, kinds := [], alts := [], laidByText := true, laidKinds := [.listed, .data], laidTests := true, laidLooks := .later }
def NamesMembersCardSaid : Prop := Claim7.holds Tryd.pinned (.plain (OpenSpec.ofChange namesMembersSpec)) namesMembersCard

/-- THE TIED CARD OF 'foundrylaw04.NamesAlgebra'. -/
def namesAlgebraCard : Claim7 := { stood := { row := namesAlgebraRow, standIns := [], harness := (true, "198eb5ca3a566e95e283e44cdf905a7d6566495ceeda1686d8c32f53dec9a32e"), looks := false }, kinds := [], alts := [], laidByText := true, laidKinds := [.listed, .data], laidTests := true, laidLooks := .later }
def NamesAlgebraCardSaid : Prop := Claim7.holds Tryd.pinned (.plain (OpenSpec.ofChange namesAlgebraSpec)) namesAlgebraCard

/-- THE TIED CARD OF 'foundrylaw04.NamesSets'. -/
def namesSetsCard : Claim7 := { stood := { row := namesSetsRow, standIns := [], harness := (true, "198eb5ca3a566e95e283e44cdf905a7d6566495ceeda1686d8c32f53dec9a32e"), looks := false }, kinds := [], alts := [], laidByText := true, laidKinds := [.listed, .data], laidTests := true, laidLooks := .later }
def NamesSetsCardSaid : Prop := Claim7.holds Tryd.pinned (.plain (OpenSpec.ofChange namesSetsSpec)) namesSetsCard

/-- THE SECOND FORM's CARD OF 'foundrylaw04.NamesRights'. -/
def namesRightsUptoCard : Claim7 := { stood := { row := namesRightsUptoRow, standIns := [], harness := (true, "198eb5ca3a566e95e283e44cdf905a7d6566495ceeda1686d8c32f53dec9a32e"), looks := false }, kinds := [], alts := [], laidByText := true, laidKinds := [.listed, .data], laidTests := true, laidLooks := .later }
def NamesRightsUptoCardSaid : Prop := Claim7.holds Tryd.pinned (.plain (OpenSpec.upto namesRightsSpec)) namesRightsUptoCard

/-- THE SECOND FORM's CARD OF 'foundrylaw04.NamesOrder'. -/
def namesOrderUptoCard : Claim7 := { stood := { row := namesOrderUptoRow, standIns := [], harness := (true, "198eb5ca3a566e95e283e44cdf905a7d6566495ceeda1686d8c32f53dec9a32e"), looks := false }, kinds := [], alts := [], laidByText := true, laidKinds := [.listed, .data], laidTests := true, laidLooks := .later }
def NamesOrderUptoCardSaid : Prop := Claim7.holds Tryd.pinned (.plain (OpenSpec.upto namesOrderSpec)) namesOrderUptoCard

/-- THE SECOND FORM's CARD OF 'foundrylaw04.NamesLonger'. -/
def namesLongerUptoCard : Claim7 := { stood := { row := namesLongerUptoRow, standIns := [], harness := (true, "198eb5ca3a566e95e283e44cdf905a7d6566495ceeda1686d8c32f53dec9a32e"), looks := false }, kinds := [], alts := [], laidByText := true, laidKinds := [.listed, .data], laidTests := true, laidLooks := .later }
def NamesLongerUptoCardSaid : Prop := Claim7.holds Tryd.pinned (.plain (OpenSpec.upto namesLongerSpec)) namesLongerUptoCard

/-- THE SECOND FORM's CARD OF 'foundrylaw04.NamesOrders'. -/
def namesOrdersUptoCard : Claim7 := { stood := { row := namesOrdersUptoRow, standIns := [], harness := (true, "198eb5ca3a566e95e283e44cdf905a7d6566495ceeda1686d8c32f53dec9a32e"), looks := false }, kinds := [], alts := [], laidByText := true, laidKinds := [.listed, .data], laidTests := true, laidLooks := .later }
def NamesOrdersUptoCardSaid : Prop := Claim7.holds Tryd.pinned (.plain (OpenSpec.upto namesOrdersSpec)) namesOrdersUptoCard

/-- THE SECOND FORM's CARD OF 'foundrylaw04.NamesFar'. -/
def namesFarUptoCard : Claim7 := { stood := { row := namesFarUptoRow, standIns := [], harness := (true, "198eb5ca3a566e95e283e44cdf905a7d6566495ceeda1686d8c32f53dec9a32e"), looks := false }, kinds := [], alts := [], laidByText := true, laidKinds := [.listed, .data], laidTests := true, laidLooks := .later }
def NamesFarUptoCardSaid : Prop := Claim7.holds Tryd.pinned (.plain (OpenSpec.upto namesFarSpec)) namesFarUptoCard

/-- THE SECOND FORM's CARD OF 'foundrylaw04.NamesMembers'. -/
def namesMembersUptoCard : Claim7 := { stood := { row := namesMembersUptoRow, standIns := [], harness := (true, "198eb5ca3a566e95e283e44cdf905a7d6566495ceeda1686d8c32f53dec9a32e"), looks := false }, kinds := [], alts := [], laidByText := true, laidKinds := [.listed, .data], laidTests := true, laidLooks := .later }
def NamesMembersUptoCardSaid : Prop := Claim7.holds Tryd.pinned (.plain (OpenSpec.upto namesMembersSpec)) namesMembersUptoCard

/-- THE SECOND FORM's CARD OF 'foundrylaw04.NamesAlgebra'. -/
def namesAlgebraUptoCard : Claim7 := { stood := { row := namesAlgebraUptoRow, standIns := [], harness := (true, "198eb5ca3a566e95e283e44cdf905a7d6566495ceeda1686d8c32f53dec9a32e"), looks := false }, kinds := [], alts := [], laidByText := true, laidKinds := [.listed, .data], laidTests := true, laidLooks := .later }
def NamesAlgebraUptoCardSaid : Prop := Claim7.holds Tryd.pinned (.plain (OpenSpec.upto namesAlgebraSpec)) namesAlgebraUptoCard

/-- THE SECOND FORM's CARD OF 'foundrylaw04.NamesSets'. -/
def namesSetsUptoCard : Claim7 := { stood := { row := namesSetsUptoRow, standIns := [], harness := (true, "198eb5ca3a566e95e283e44cdf905a7d6566495ceeda1686d8c32f53dec9a32e"), looks := false }, kinds := [], alts := [], laidByText := true, laidKinds := [.listed, .data], laidTests := true, laidLooks := .later }
def NamesSetsUptoCardSaid : Prop := Claim7.holds Tryd.pinned (.plain (OpenSpec.upto namesSetsSpec)) namesSetsUptoCard
end Rows
end Go.Proofs.YthfoafjjenegaaaDoor
