/-
  DERIVED. GIVEN WITH THE SEED: THE CARDS: each row of YtclgoccpkgikkaaGreatDoorRows.lean that lists a variable, with what it lists TIED to the program's text (the seventh form; the later family's looks); each row that meets fmt, with fmt's text TOLD by the authors' own Lean function (tested against real Go, not proved from fmt's source: count such statements apart). THE CARD IS WHAT COUNTS. Prove the row's statement (the work); the ties are given (YtclgoccpkgikkaaGreatDoorTie.lean); close each card by the builder's one call (the guide's Derived/Test/ToyasCard.lean, 'card_holds'). Laid BY PROGRAM, IN A SANDBOX (cutbox-door.mjs). By AI agents, Wed Nov 11 2026. No macro, syntax, notation, axiom, sorry.
-/
import Derived.Test.YtclgoccpkgikkaaGreatDoorRows
import GoSem.ClaimSeven
namespace Go.Proofs.YtclgoccpkgikkaaGreatDoor
namespace Rows

/-- THE TIED CARD OF 'airchecklaw18.LoudMatchesReference'. -/
def loudMatchesReferenceCard : Claim7 := { stood := { row := loudMatchesReferenceRow, standIns := [], harness := (true, "7d4b72329673112b35d6d902d9ede81da45cbecd4061f381e5a603519a06c709"), looks := true }, kinds := [], alts := [], laidByText := true, laidKinds := [.data, .data, .data, .data, .sentinel, .sentinel, .data, .pinned], laidTests := true, laidLooks := .later }
def LoudMatchesReferenceCardSaid : Prop := Claim7.holds Tryz.pinned (.plain (OpenSpec.ofChange loudMatchesReferenceSpec)) loudMatchesReferenceCard

/-- THE TIED CARD OF 'airchecklaw18.LoudScales'. -/
def loudScalesCard : Claim7 := { stood := { row := loudScalesRow, standIns := [], harness := (true, "7d4b72329673112b35d6d902d9ede81da45cbecd4061f381e5a603519a06c709"), looks := true }, kinds := [], alts := [], laidByText := true, laidKinds := [.data, .data, .data, .data, .sentinel, .sentinel, .data, .pinned], laidTests := true, laidLooks := .later }
def LoudScalesCardSaid : Prop := Claim7.holds Tryz.pinned (.plain (OpenSpec.ofChange loudScalesSpec)) loudScalesCard

/-- THE TIED CARD OF 'airchecklaw18.LoudSilence'. -/
def loudSilenceCard : Claim7 := { stood := { row := loudSilenceRow, standIns := [], harness := (true, "7d4b72329673112b35d6d902d9ede81da45cbecd4061f381e5a603519a06c709"), looks := true }, kinds := [], alts := [], laidByText := true, laidKinds := [.data, .data, .data, .data, .sentinel, .sentinel, .data, .pinned], laidTests := true, laidLooks := .later }
def LoudSilenceCardSaid : Prop := Claim7.holds Tryz.pinned (.plain (OpenSpec.ofChange loudSilenceSpec)) loudSilenceCard

/-- THE TIED CARD OF 'airchecklaw18.LoudPeaks'. -/
def loudPeaksCard : Claim7 := { stood := { row := loudPeaksRow, standIns := [], harness := (true, "7d4b72329673112b35d6d902d9ede81da45cbecd4061f381e5a603519a06c709"), looks := true }, kinds := [], alts := [], laidByText := true, laidKinds := [.data, .data, .data, .data, .sentinel, .sentinel, .data, .pinned], laidTests := true, laidLooks := .later }
def LoudPeaksCardSaid : Prop := Claim7.holds Tryz.pinned (.plain (OpenSpec.ofChange loudPeaksSpec)) loudPeaksCard

/-- THE TIED CARD OF 'airchecklaw18.LoudGates'. -/
def loudGatesCard : Claim7 := { stood := { row := loudGatesRow, standIns := [], harness := (true, "7d4b72329673112b35d6d902d9ede81da45cbecd4061f381e5a603519a06c709"), looks := true }, kinds := [], alts := [], laidByText := true, laidKinds := [.data, .data, .data, .data, .sentinel, .sentinel, .data, .pinned], laidTests := true, laidLooks := .later }
def LoudGatesCardSaid : Prop := Claim7.holds Tryz.pinned (.plain (OpenSpec.ofChange loudGatesSpec)) loudGatesCard

/-- THE TIED CARD OF 'airchecklaw18.LoudGain'. -/
def loudGainCard : Claim7 := { stood := { row := loudGainRow, standIns := [], harness := (true, "7d4b72329673112b35d6d902d9ede81da45cbecd4061f381e5a603519a06c709"), looks := true }, kinds := [], alts := [], laidByText := true, laidKinds := [.data, .data, .data, .data, .sentinel, .sentinel, .data, .pinned], laidTests := true, laidLooks := .later }
def LoudGainCardSaid : Prop := Claim7.holds Tryz.pinned (.plain (OpenSpec.ofChange loudGainSpec)) loudGainCard

/-- THE TIED CARD OF 'airchecklaw18.LoudMixed'. -/
def loudMixedCard : Claim7 := { stood := { row := loudMixedRow, standIns := [], harness := (true, "7d4b72329673112b35d6d902d9ede81da45cbecd4061f381e5a603519a06c709"), looks := true }, kinds := [], alts := [], laidByText := true, laidKinds := [.data, .data, .data, .data, .sentinel, .sentinel, .data, .pinned], laidTests := true, laidLooks := .later }
def LoudMixedCardSaid : Prop := Claim7.holds Tryz.pinned (.plain (OpenSpec.ofChange loudMixedSpec)) loudMixedCard

/-- THE SECOND FORM's CARD OF 'airchecklaw18.LoudMatchesReference'. -/
def loudMatchesReferenceUptoCard : Claim7 := { stood := { row := loudMatchesReferenceUptoRow, standIns := [], harness := (true, "7d4b72329673112b35d6d902d9ede81da45cbecd4061f381e5a603519a06c709"), looks := true }, kinds := [], alts := [], laidByText := true, laidKinds := [.data, .data, .data, .data, .sentinel, .sentinel, .data, .pinned], laidTests := true, laidLooks := .later }
def LoudMatchesReferenceUptoCardSaid : Prop := Claim7.holds Tryz.pinned (.plain (OpenSpec.upto loudMatchesReferenceSpec)) loudMatchesReferenceUptoCard

/-- THE SECOND FORM's CARD OF 'airchecklaw18.LoudScales'. -/
def loudScalesUptoCard : Claim7 := { stood := { row := loudScalesUptoRow, standIns := [], harness := (true, "7d4b72329673112b35d6d902d9ede81da45cbecd4061f381e5a603519a06c709"), looks := true }, kinds := [], alts := [], laidByText := true, laidKinds := [.data, .data, .data, .data, .sentinel, .sentinel, .data, .pinned], laidTests := true, laidLooks := .later }
def LoudScalesUptoCardSaid : Prop := Claim7.holds Tryz.pinned (.plain (OpenSpec.upto loudScalesSpec)) loudScalesUptoCard

/-- THE SECOND FORM's CARD OF 'airchecklaw18.LoudSilence'. -/
def loudSilenceUptoCard : Claim7 := { stood := { row := loudSilenceUptoRow, standIns := [], harness := (true, "7d4b72329673112b35d6d902d9ede81da45cbecd4061f381e5a603519a06c709"), looks := true }, kinds := [], alts := [], laidByText := true, laidKinds := [.data, .data, .data, .data, .sentinel, .sentinel, .data, .pinned], laidTests := true, laidLooks := .later }
def LoudSilenceUptoCardSaid : Prop := Claim7.holds Tryz.pinned (.plain (OpenSpec.upto loudSilenceSpec)) loudSilenceUptoCard

/-- THE SECOND FORM's CARD OF 'airchecklaw18.LoudPeaks'. -/
def loudPeaksUptoCard : Claim7 := { stood := { row := loudPeaksUptoRow, standIns := [], harness := (true, "7d4b72329673112b35d6d902d9ede81da45cbecd4061f381e5a603519a06c709"), looks := true }, kinds := [], alts := [], laidByText := true, laidKinds := [.data, .data, .data, .data, .sentinel, .sentinel, .data, .pinned], laidTests := true, laidLooks := .later }
def LoudPeaksUptoCardSaid : Prop := Claim7.holds Tryz.pinned (.plain (OpenSpec.upto loudPeaksSpec)) loudPeaksUptoCard

/-- THE SECOND FORM's CARD OF 'airchecklaw18.LoudGates'. -/
def loudGatesUptoCard : Claim7 := { stood := { row := loudGatesUptoRow, standIns := [], harness := (true, "7d4b72329673112b35d6d902d9ede81da45cbecd4061f381e5a603519a06c709"), looks := true }, kinds := [], alts := [], laidByText := true, laidKinds := [.data, .data, .data, .data, .sentinel, .sentinel, .data, .pinned], laidTests := true, laidLooks := .later }
def LoudGatesUptoCardSaid : Prop := Claim7.holds Tryz.pinned (.plain (OpenSpec.upto loudGatesSpec)) loudGatesUptoCard

/-- THE SECOND FORM's CARD OF 'airchecklaw18.LoudGain'. -/
def loudGainUptoCard : Claim7 := { stood := { row := loudGainUptoRow, standIns := [], harness := (true, "7d4b72329673112b35d6d902d9ede81da45cbecd4061f381e5a603519a06c709"), looks := true }, kinds := [], alts := [], laidByText := true, laidKinds := [.data, .data, .data, .data, .sentinel, .sentinel, .data, .pinned], laidTests := true, laidLooks := .later }
def LoudGainUptoCardSaid : Prop := Claim7.holds Tryz.pinned (.plain (OpenSpec.upto loudGainSpec)) loudGainUptoCard

/-- THE SECOND FORM's CARD OF 'airchecklaw18.LoudMixed'. -/
def loudMixedUptoCard : Claim7 := { stood := { row := loudMixedUptoRow, standIns := [], harness := (true, "7d4b72329673112b35d6d902d9ede81da45cbecd4061f381e5a603519a06c709"), looks := true }, kinds := [], alts := [], laidByText := true, laidKinds := [.data, .data, .data, .data, .sentinel, .sentinel, .data, .pinned], laidTests := true, laidLooks := .later }
def LoudMixedUptoCardSaid : Prop := Claim7.holds Tryz.pinned (.plain (OpenSpec.upto loudMixedSpec)) loudMixedUptoCard
end Rows
end Go.Proofs.YtclgoccpkgikkaaGreatDoor
