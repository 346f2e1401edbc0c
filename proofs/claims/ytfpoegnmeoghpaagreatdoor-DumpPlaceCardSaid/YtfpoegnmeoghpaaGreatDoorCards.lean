/-
  DERIVED. GIVEN WITH THE SEED: THE CARDS: each row of YtfpoegnmeoghpaaGreatDoorRows.lean that lists a variable, with what it lists TIED to the program's text (the seventh form; the later family's looks); each row that meets fmt, with fmt's text TOLD by the authors' own Lean function (tested against real Go, not proved from fmt's source: count such statements apart). THE CARD IS WHAT COUNTS. Prove the row's statement (the work); the ties are given (YtfpoegnmeoghpaaGreatDoorTie.lean); close each card by the builder's one call (the guide's Derived/Test/ToyasCard.lean, 'card_holds'). Laid BY PROGRAM, IN A SANDBOX (cutbox-door.mjs). By AI agents, Wed Nov 11 2026. No macro, syntax, notation, axiom, sorry.
-/
import Derived.Test.YtfpoegnmeoghpaaGreatDoorRows
import GoSem.ClaimSeven
namespace Go.Proofs.YtfpoegnmeoghpaaGreatDoor
namespace Rows

/-- THE TIED CARD OF 'airchecklaw20.DumpMatchesReference'. -/
def dumpMatchesReferenceCard : Claim7 := { stood := { row := dumpMatchesReferenceRow, standIns := [], harness := (true, "3e03e67452b3e817888be6877b20fbbcaf576de88c5f18367e9c7c78398613db"), looks := true }, kinds := [], alts := [], laidByText := true, laidKinds := [.data, .data, .data, .data, .sentinel, .sentinel, .pinned], laidTests := true, laidLooks := .later }
def DumpMatchesReferenceCardSaid : Prop := Claim7.holds Tryz.pinned (.plain (OpenSpec.ofChange dumpMatchesReferenceSpec)) dumpMatchesReferenceCard

/-- THE TIED CARD OF 'airchecklaw20.DumpCut'. -/
def dumpCutCard : Claim7 := { stood := { row := dumpCutRow, standIns := [], harness := (true, "3e03e67452b3e817888be6877b20fbbcaf576de88c5f18367e9c7c78398613db"), looks := true }, kinds := [], alts := [], laidByText := true, laidKinds := [.data, .data, .data, .data, .sentinel, .sentinel, .pinned], laidTests := true, laidLooks := .later }
def DumpCutCardSaid : Prop := Claim7.holds Tryz.pinned (.plain (OpenSpec.ofChange dumpCutSpec)) dumpCutCard

/-- THE TIED CARD OF 'airchecklaw20.DumpProtected'. -/
def dumpProtectedCard : Claim7 := { stood := { row := dumpProtectedRow, standIns := [], harness := (true, "3e03e67452b3e817888be6877b20fbbcaf576de88c5f18367e9c7c78398613db"), looks := true }, kinds := [], alts := [], laidByText := true, laidKinds := [.data, .data, .data, .data, .sentinel, .sentinel, .pinned], laidTests := true, laidLooks := .later }
def DumpProtectedCardSaid : Prop := Claim7.holds Tryz.pinned (.plain (OpenSpec.ofChange dumpProtectedSpec)) dumpProtectedCard

/-- THE TIED CARD OF 'airchecklaw20.DumpDelays'. -/
def dumpDelaysCard : Claim7 := { stood := { row := dumpDelaysRow, standIns := [], harness := (true, "3e03e67452b3e817888be6877b20fbbcaf576de88c5f18367e9c7c78398613db"), looks := true }, kinds := [], alts := [], laidByText := true, laidKinds := [.data, .data, .data, .data, .sentinel, .sentinel, .pinned], laidTests := true, laidLooks := .later }
def DumpDelaysCardSaid : Prop := Claim7.holds Tryz.pinned (.plain (OpenSpec.ofChange dumpDelaysSpec)) dumpDelaysCard

/-- THE TIED CARD OF 'airchecklaw20.DumpBack'. -/
def dumpBackCard : Claim7 := { stood := { row := dumpBackRow, standIns := [], harness := (true, "3e03e67452b3e817888be6877b20fbbcaf576de88c5f18367e9c7c78398613db"), looks := true }, kinds := [], alts := [], laidByText := true, laidKinds := [.data, .data, .data, .data, .sentinel, .sentinel, .pinned], laidTests := true, laidLooks := .later }
def DumpBackCardSaid : Prop := Claim7.holds Tryz.pinned (.plain (OpenSpec.ofChange dumpBackSpec)) dumpBackCard

/-- THE TIED CARD OF 'airchecklaw20.DumpWhole'. -/
def dumpWholeCard : Claim7 := { stood := { row := dumpWholeRow, standIns := [], harness := (true, "3e03e67452b3e817888be6877b20fbbcaf576de88c5f18367e9c7c78398613db"), looks := true }, kinds := [], alts := [], laidByText := true, laidKinds := [.data, .data, .data, .data, .sentinel, .sentinel, .pinned], laidTests := true, laidLooks := .later }
def DumpWholeCardSaid : Prop := Claim7.holds Tryz.pinned (.plain (OpenSpec.ofChange dumpWholeSpec)) dumpWholeCard

/-- THE TIED CARD OF 'airchecklaw20.DumpPlace'. -/
def dumpPlaceCard : Claim7 := { stood := { row := dumpPlaceRow, standIns := [], harness := (true, "3e03e67452b3e817888be6877b20fbbcaf576de88c5f18367e9c7c78398613db"), looks := true }, kinds := [], alts := [], laidByText := true, laidKinds := [.data, .data, .data, .data, .sentinel, .sentinel, .pinned], laidTests := true, laidLooks := .later }
def DumpPlaceCardSaid : Prop := Claim7.holds Tryz.pinned (.plain (OpenSpec.ofChange dumpPlaceSpec)) dumpPlaceCard

/-- THE TIED CARD OF 'airchecklaw20.DumpMaps'. -/
def dumpMapsCard : Claim7 := { stood := { row := dumpMapsRow, standIns := [], harness := (true, "3e03e67452b3e817888be6877b20fbbcaf576de88c5f18367e9c7c78398613db"), looks := true }, kinds := [], alts := [], laidByText := true, laidKinds := [.data, .data, .data, .data, .sentinel, .sentinel, .pinned], laidTests := true, laidLooks := .later }
def DumpMapsCardSaid : Prop := Claim7.holds Tryz.pinned (.plain (OpenSpec.ofChange dumpMapsSpec)) dumpMapsCard

/-- THE SECOND FORM's CARD OF 'airchecklaw20.DumpMatchesReference'. -/
def dumpMatchesReferenceUptoCard : Claim7 := { stood := { row := dumpMatchesReferenceUptoRow, standIns := [], harness := (true, "3e03e67452b3e817888be6877b20fbbcaf576de88c5f18367e9c7c78398613db"), looks := true }, kinds := [], alts := [], laidByText := true, laidKinds := [.data, .data, .data, .data, .sentinel, .sentinel, .pinned], laidTests := true, laidLooks := .later }
def DumpMatchesReferenceUptoCardSaid : Prop := Claim7.holds Tryz.pinned (.plain (OpenSpec.upto dumpMatchesReferenceSpec)) dumpMatchesReferenceUptoCard

/-- THE SECOND FORM's CARD OF 'airchecklaw20.DumpCut'. -/
def dumpCutUptoCard : Claim7 := { stood := { row := dumpCutUptoRow, standIns := [], harness := (true, "3e03e67452b3e817888be6877b20fbbcaf576de88c5f18367e9c7c78398613db"), looks := true }, kinds := [], alts := [], laidByText := true, laidKinds := [.data, .data, .data, .data, .sentinel, .sentinel, .pinned], laidTests := true, laidLooks := .later }
def DumpCutUptoCardSaid : Prop := Claim7.holds Tryz.pinned (.plain (OpenSpec.upto dumpCutSpec)) dumpCutUptoCard

/-- THE SECOND FORM's CARD OF 'airchecklaw20.DumpProtected'. -/
def dumpProtectedUptoCard : Claim7 := { stood := { row := dumpProtectedUptoRow, standIns := [], harness := (true, "3e03e67452b3e817888be6877b20fbbcaf576de88c5f18367e9c7c78398613db"), looks := true }, kinds := [], alts := [], laidByText := true, laidKinds := [.data, .data, .data, .data, .sentinel, .sentinel, .pinned], laidTests := true, laidLooks := .later }
def DumpProtectedUptoCardSaid : Prop := Claim7.holds Tryz.pinned (.plain (OpenSpec.upto dumpProtectedSpec)) dumpProtectedUptoCard

/-- THE SECOND FORM's CARD OF 'airchecklaw20.DumpDelays'. -/
def dumpDelaysUptoCard : Claim7 := { stood := { row := dumpDelaysUptoRow, standIns := [], harness := (true, "3e03e67452b3e817888be6877b20fbbcaf576de88c5f18367e9c7c78398613db"), looks := true }, kinds := [], alts := [], laidByText := true, laidKinds := [.data, .data, .data, .data, .sentinel, .sentinel, .pinned], laidTests := true, laidLooks := .later }
def DumpDelaysUptoCardSaid : Prop := Claim7.holds Tryz.pinned (.plain (OpenSpec.upto dumpDelaysSpec)) dumpDelaysUptoCard

/-- THE SECOND FORM's CARD OF 'airchecklaw20.DumpBack'. -/
def dumpBackUptoCard : Claim7 := { stood := { row := dumpBackUptoRow, standIns := [], harness := (true, "3e03e67452b3e817888be6877b20fbbcaf576de88c5f18367e9c7c78398613db"), looks := true }, kinds := [], alts := [], laidByText := true, laidKinds := [.data, .data, .data, .data, .sentinel, .sentinel, .pinned], laidTests := true, laidLooks := .later }
def DumpBackUptoCardSaid : Prop := Claim7.holds Tryz.pinned (.plain (OpenSpec.upto dumpBackSpec)) dumpBackUptoCard

/-- THE SECOND FORM's CARD OF 'airchecklaw20.DumpWhole'. -/
def dumpWholeUptoCard : Claim7 := { stood := { row := dumpWholeUptoRow, standIns := [], harness := (true, "3e03e67452b3e817888be6877b20fbbcaf576de88c5f18367e9c7c78398613db"), looks := true }, kinds := [], alts := [], laidByText := true, laidKinds := [.data, .data, .data, .data, .sentinel, .sentinel, .pinned], laidTests := true, laidLooks := .later }
def DumpWholeUptoCardSaid : Prop := Claim7.holds Tryz.pinned (.plain (OpenSpec.upto dumpWholeSpec)) dumpWholeUptoCard

/-- THE SECOND FORM's CARD OF 'airchecklaw20.DumpPlace'. -/
def dumpPlaceUptoCard : Claim7 := { stood := { row := dumpPlaceUptoRow, standIns := [], harness := (true, "3e03e67452b3e817888be6877b20fbbcaf576de88c5f18367e9c7c78398613db"), looks := true }, kinds := [], alts := [], laidByText := true, laidKinds := [.data, .data, .data, .data, .sentinel, .sentinel, .pinned], laidTests := true, laidLooks := .later }
def DumpPlaceUptoCardSaid : Prop := Claim7.holds Tryz.pinned (.plain (OpenSpec.upto dumpPlaceSpec)) dumpPlaceUptoCard

/-- THE SECOND FORM's CARD OF 'airchecklaw20.DumpMaps'. -/
def dumpMapsUptoCard : Claim7 := { stood := { row := dumpMapsUptoRow, standIns := [], harness := (true, "3e03e67452b3e817888be6877b20fbbcaf576de88c5f18367e9c7c78398613db"), looks := true }, kinds := [], alts := [], laidByText := true, laidKinds := [.data, .data, .data, .data, .sentinel, .sentinel, .pinned], laidTests := true, laidLooks := .later }
def DumpMapsUptoCardSaid : Prop := Claim7.holds Tryz.pinned (.plain (OpenSpec.upto dumpMapsSpec)) dumpMapsUptoCard
end Rows
end Go.Proofs.YtfpoegnmeoghpaaGreatDoor
