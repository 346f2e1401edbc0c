/-
  DERIVED. GIVEN WITH THE SEED: THE CARDS: each row of YtdlbiebhkminjaaDoorRows.lean that lists a variable, with what it lists TIED to the program's text (the seventh form; the later family's looks); each row that meets fmt, with fmt's text TOLD by the authors' own Lean function (tested against real Go, not proved from fmt's source: count such statements apart). THE CARD IS WHAT COUNTS. Prove the row's statement (the work); the ties are given (YtdlbiebhkminjaaDoorTie.lean); close each card by the builder's one call (the guide's Derived/Test/ToyasCard.lean, 'card_holds'). Laid BY PROGRAM, IN A SANDBOX (cutbox-door.mjs). By AI agents, Wed Nov 11 2026. No macro, syntax, notation, axiom, sorry.
-/
import Derived.Test.YtdlbiebhkminjaaDoorRows
import GoSem.ClaimSeven
namespace Go.Proofs.YtdlbiebhkminjaaDoor
namespace Rows

/-- THE TIED CARD OF 'airchecklaw06.WeekTexts'. -/
def weekTextsCard : Claim7 := { stood := { row := weekTextsRow, standIns := [], harness := (true, "23db5ace3edd9bb1af0306dc729a1c6dbca3bd54e7d4086dea4582dfb91f6565"), looks := true }, kinds := [], alts := [], laidByText := true, laidKinds := [.data, .data, .data, .data, .sentinel, .sentinel, .data, .pinned], laidTests := true, laidLooks := .later }
def WeekTextsCardSaid : Prop := Claim7.holds Tryd.pinned (.plain (OpenSpec.ofChange weekTextsSpec)) weekTextsCard

/-- THE TIED CARD OF 'airchecklaw06.WeekSpells'. -/
def weekSpellsCard : Claim7 := { stood := { row := weekSpellsRow, standIns := [], harness := (true, "23db5ace3edd9bb1af0306dc729a1c6dbca3bd54e7d4086dea4582dfb91f6565"), looks := true }, kinds := [], alts := [], laidByText := true, laidKinds := [.data, .data, .data, .data, .sentinel, .sentinel, .data, .pinned], laidTests := true, laidLooks := .later }
def WeekSpellsCardSaid : Prop := Claim7.holds Tryd.pinned (.plain (OpenSpec.ofChange weekSpellsSpec)) weekSpellsCard

/-- THE TIED CARD OF 'airchecklaw06.WeekDivides'. -/
def weekDividesCard : Claim7 := { stood := { row := weekDividesRow, standIns := [], harness := (true, "23db5ace3edd9bb1af0306dc729a1c6dbca3bd54e7d4086dea4582dfb91f6565"), looks := true }, kinds := [], alts := [], laidByText := true, laidKinds := [.data, .data, .data, .data, .sentinel, .sentinel, .data, .pinned], laidTests := true, laidLooks := .later }
def WeekDividesCardSaid : Prop := Claim7.holds Tryd.pinned (.plain (OpenSpec.ofChange weekDividesSpec)) weekDividesCard

/-- THE TIED CARD OF 'airchecklaw06.WeekNext'. -/
def weekNextCard : Claim7 := { stood := { row := weekNextRow, standIns := [], harness := (true, "23db5ace3edd9bb1af0306dc729a1c6dbca3bd54e7d4086dea4582dfb91f6565"), looks := true }, kinds := [], alts := [], laidByText := true, laidKinds := [.data, .data, .data, .data, .sentinel, .sentinel, .data, .pinned], laidTests := true, laidLooks := .later }
def WeekNextCardSaid : Prop := Claim7.holds Tryd.pinned (.plain (OpenSpec.ofChange weekNextSpec)) weekNextCard

/-- THE TIED CARD OF 'airchecklaw06.WeekLater'. -/
def weekLaterCard : Claim7 := { stood := { row := weekLaterRow, standIns := [], harness := (true, "23db5ace3edd9bb1af0306dc729a1c6dbca3bd54e7d4086dea4582dfb91f6565"), looks := true }, kinds := [], alts := [], laidByText := true, laidKinds := [.data, .data, .data, .data, .sentinel, .sentinel, .data, .pinned], laidTests := true, laidLooks := .later }
def WeekLaterCardSaid : Prop := Claim7.holds Tryd.pinned (.plain (OpenSpec.ofChange weekLaterSpec)) weekLaterCard

/-- THE TIED CARD OF 'airchecklaw06.WeekAlgebra'. -/
def weekAlgebraCard : Claim7 := { stood := { row := weekAlgebraRow, standIns := [], harness := (true, "23db5ace3edd9bb1af0306dc729a1c6dbca3bd54e7d4086dea4582dfb91f6565"), looks := true }, kinds := [], alts := [], laidByText := true, laidKinds := [.data, .data, .data, .data, .sentinel, .sentinel, .data, .pinned], laidTests := true, laidLooks := .later }
def WeekAlgebraCardSaid : Prop := Claim7.holds Tryd.pinned (.plain (OpenSpec.ofChange weekAlgebraSpec)) weekAlgebraCard

/-- THE SECOND FORM's CARD OF 'airchecklaw06.WeekTexts'. -/
def weekTextsUptoCard : Claim7 := { stood := { row := weekTextsUptoRow, standIns := [], harness := (true, "23db5ace3edd9bb1af0306dc729a1c6dbca3bd54e7d4086dea4582dfb91f6565"), looks := true }, kinds := [], alts := [], laidByText := true, laidKinds := [.data, .data, .data, .data, .sentinel, .sentinel, .data, .pinned], laidTests := true, laidLooks := .later }
def WeekTextsUptoCardSaid : Prop := Claim7.holds Tryd.pinned (.plain (OpenSpec.upto weekTextsSpec)) weekTextsUptoCard

/-- THE SECOND FORM's CARD OF 'airchecklaw06.WeekSpells'. -/
def weekSpellsUptoCard : Claim7 := { stood := { row := weekSpellsUptoRow, standIns := [], harness := (true, "23db5ace3edd9bb1af0306dc729a1c6dbca3bd54e7d4086dea4582dfb91f6565"), looks := true }, kinds := [], alts := [], laidByText := true, laidKinds := [.data, .data, .data, .data, .sentinel, .sentinel, .data, .pinned], laidTests := true, laidLooks := .later }
def WeekSpellsUptoCardSaid : Prop := Claim7.holds Tryd.pinned (.plain (OpenSpec.upto weekSpellsSpec)) weekSpellsUptoCard

/-- THE SECOND FORM's CARD OF 'airchecklaw06.WeekDivides'. -/
def weekDividesUptoCard : Claim7 := { stood := { row := weekDividesUptoRow, standIns := [], harness := (true, "23db5ace3edd9bb1af0306dc729a1c6dbca3bd54e7d4086dea4582dfb91f6565"), looks := true }, kinds := [], alts := [], laidByText := true, laidKinds := [.data, .data, .data, .data, .sentinel, .sentinel, .data, .pinned], laidTests := true, laidLooks := .later }
def WeekDividesUptoCardSaid : Prop := Claim7.holds Tryd.pinned (.plain (OpenSpec.upto weekDividesSpec)) weekDividesUptoCard

/-- THE SECOND FORM's CARD OF 'airchecklaw06.WeekNext'. -/
def weekNextUptoCard : Claim7 := { stood := { row := weekNextUptoRow, standIns := [], harness := (true, "23db5ace3edd9bb1af0306dc729a1c6dbca3bd54e7d4086dea4582dfb91f6565"), looks := true }, kinds := [], alts := [], laidByText := true, laidKinds := [.data, .data, .data, .data, .sentinel, .sentinel, .data, .pinned], laidTests := true, laidLooks := .later }
def WeekNextUptoCardSaid : Prop := Claim7.holds Tryd.pinned (.plain (OpenSpec.upto weekNextSpec)) weekNextUptoCard

/-- THE SECOND FORM's CARD OF 'airchecklaw06.WeekLater'. -/
def weekLaterUptoCard : Claim7 := { stood := { row := weekLaterUptoRow, standIns := [], harness := (true, "23db5ace3edd9bb1af0306dc729a1c6dbca3bd54e7d4086dea4582dfb91f6565"), looks := true }, kinds := [], alts := [], laidByText := true, laidKinds := [.data, .data, .data, .data, .sentinel, .sentinel, .data, .pinned], laidTests := true, laidLooks := .later }
def WeekLaterUptoCardSaid : Prop := Claim7.holds Tryd.pinned (.plain (OpenSpec.upto weekLaterSpec)) weekLaterUptoCard

/-- THE SECOND FORM's CARD OF 'airchecklaw06.WeekAlgebra'. -/
def weekAlgebraUptoCard : Claim7 := { stood := { row := weekAlgebraUptoRow, standIns := [], harness := (true, "23db5ace3edd9bb1af0306dc729a1c6dbca3bd54e7d4086dea4582dfb91f6565"), looks := true }, kinds := [], alts := [], laidByText := true, laidKinds := [.data, .data, .data, .data, .sentinel, .sentinel, .data, .pinned], laidTests := true, laidLooks := .later }
def WeekAlgebraUptoCardSaid : Prop := Claim7.holds Tryd.pinned (.plain (OpenSpec.upto weekAlgebraSpec)) weekAlgebraUptoCard
end Rows
end Go.Proofs.YtdlbiebhkminjaaDoor
