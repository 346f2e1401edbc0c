/-
  No cell of these rows narrows 'for every input' (looked for: loops, veiled, ifaces, maps, wideKeys, modest, calm, conditions, laid).
  DERIVED. THE GIVEN ROWS OF THIS SEAT. 8 by the template 'for every input the law returns true; each argument reads behind the call as it read before'; 0 by the template 'total and deterministic' (their statements: YtegokpicloedeaaTotals.lean).
  GIVEN WITH THE SEED: the statements are not yours to turn. If you find one false, say at which input.
  Laid BY PROGRAM, IN A SANDBOX (cutbox-rows.mjs): the forced cells as the released guide's own fill.sh prints them over the translation 3dd960d63a62a7f8… (all of the seat's roots in one cut). By AI agents, Wed Nov 11 2026. No macro, syntax, notation, axiom, sorry.
-/
import Derived.Test.YtegokpicloedeaaChecked
import GoSem.Claim
import GoSem.ClaimJoined
import GoSem.ClaimMapViews
import Derived.JoinedTies
import Derived.KernelRfl
namespace Go.Proofs.Ytegokpicloedeaa
/- THE CELL 'sum', in the pinned program and in every row, IS THE sha256 OF THE DUMP (.gsa) THAT YtegokpicloedeaaProg.lean LOADS. Nothing in Lean hashes anything: it is a label: what it is worth is what the hold of that sum in a sandbox is worth. -/
noncomputable def Try.pinned : Pinned := { name := "ytegokpicloedeaa", sum := "3dd960d63a62a7f8df8e5b84b796061e9a3d2b88f04f11357ce4f3ad1922586e", checked := Try.checked }
namespace Rows
def none {H : Type} : Left H := { results := [], args := [] }

/-- 'airchecklaw17.MixMatchesReference': WHATEVER THE INPUT: true; the input reads as it did. -/
def mixMatchesReferenceSpec : ChangeSpec := { name := "mixMatchesReference", fn := fun _ => fun
  | [d1, d2, d3, d4, d5, d6, d7, d8, d9, d10] => { results := [.lit (.bool true)], args := [d1, d2, d3, d4, d5, d6, d7, d8, d9, d10] }
  | _ => none }
def mixMatchesReferenceRow : OpenClaim := { program := "ytegokpicloedeaa", sum := "3dd960d63a62a7f8df8e5b84b796061e9a3d2b88f04f11357ce4f3ad1922586e", func := "aircheck/airchecklaw17.MixMatchesReference", spec := "mixMatchesReference", unfollowed := true, recurses := true, apart := false }
def MixMatchesReferenceSaid : Prop := mixMatchesReferenceRow.holds Try.pinned (OpenSpec.ofChange mixMatchesReferenceSpec)

/-- ITS FALSE NEIGHBOUR: 'it returns false'. Refute it at one input. -/
def mixMatchesReferenceWrong : ChangeSpec := { name := "mixMatchesReference", fn := fun _ => fun
  | [d1, d2, d3, d4, d5, d6, d7, d8, d9, d10] => { results := [.lit (.bool false)], args := [d1, d2, d3, d4, d5, d6, d7, d8, d9, d10] }
  | _ => none }
def MixMatchesReferenceWrongFalsely : Prop := mixMatchesReferenceRow.holds Try.pinned (OpenSpec.ofChange mixMatchesReferenceWrong)

/-- 'airchecklaw17.MixSuperposes': WHATEVER THE INPUT: true; the input reads as it did. -/
def mixSuperposesSpec : ChangeSpec := { name := "mixSuperposes", fn := fun _ => fun
  | [d1, d2, d3, d4, d5] => { results := [.lit (.bool true)], args := [d1, d2, d3, d4, d5] }
  | _ => none }
def mixSuperposesRow : OpenClaim := { program := "ytegokpicloedeaa", sum := "3dd960d63a62a7f8df8e5b84b796061e9a3d2b88f04f11357ce4f3ad1922586e", func := "aircheck/airchecklaw17.MixSuperposes", spec := "mixSuperposes", unfollowed := true, recurses := true, apart := false }
def MixSuperposesSaid : Prop := mixSuperposesRow.holds Try.pinned (OpenSpec.ofChange mixSuperposesSpec)

/-- ITS FALSE NEIGHBOUR: 'it returns false'. Refute it at one input. -/
def mixSuperposesWrong : ChangeSpec := { name := "mixSuperposes", fn := fun _ => fun
  | [d1, d2, d3, d4, d5] => { results := [.lit (.bool false)], args := [d1, d2, d3, d4, d5] }
  | _ => none }
def MixSuperposesWrongFalsely : Prop := mixSuperposesRow.holds Try.pinned (OpenSpec.ofChange mixSuperposesWrong)

/-- 'airchecklaw17.MixRounds': WHATEVER THE INPUT: true; the input reads as it did. -/
def mixRoundsSpec : ChangeSpec := { name := "mixRounds", fn := fun _ => fun
  | [d1, d2, d3] => { results := [.lit (.bool true)], args := [d1, d2, d3] }
  | _ => none }
def mixRoundsRow : OpenClaim := { program := "ytegokpicloedeaa", sum := "3dd960d63a62a7f8df8e5b84b796061e9a3d2b88f04f11357ce4f3ad1922586e", func := "aircheck/airchecklaw17.MixRounds", spec := "mixRounds", unfollowed := true, recurses := true, apart := false }
def MixRoundsSaid : Prop := mixRoundsRow.holds Try.pinned (OpenSpec.ofChange mixRoundsSpec)

/-- ITS FALSE NEIGHBOUR: 'it returns false'. Refute it at one input. -/
def mixRoundsWrong : ChangeSpec := { name := "mixRounds", fn := fun _ => fun
  | [d1, d2, d3] => { results := [.lit (.bool false)], args := [d1, d2, d3] }
  | _ => none }
def MixRoundsWrongFalsely : Prop := mixRoundsRow.holds Try.pinned (OpenSpec.ofChange mixRoundsWrong)

/-- 'airchecklaw17.MixCurves': WHATEVER THE INPUT: true; the input reads as it did. -/
def mixCurvesSpec : ChangeSpec := { name := "mixCurves", fn := fun _ => fun
  | [d1, d2] => { results := [.lit (.bool true)], args := [d1, d2] }
  | _ => none }
def mixCurvesRow : OpenClaim := { program := "ytegokpicloedeaa", sum := "3dd960d63a62a7f8df8e5b84b796061e9a3d2b88f04f11357ce4f3ad1922586e", func := "aircheck/airchecklaw17.MixCurves", spec := "mixCurves", unfollowed := true, recurses := true, apart := false }
def MixCurvesSaid : Prop := mixCurvesRow.holds Try.pinned (OpenSpec.ofChange mixCurvesSpec)

/-- ITS FALSE NEIGHBOUR: 'it returns false'. Refute it at one input. -/
def mixCurvesWrong : ChangeSpec := { name := "mixCurves", fn := fun _ => fun
  | [d1, d2] => { results := [.lit (.bool false)], args := [d1, d2] }
  | _ => none }
def MixCurvesWrongFalsely : Prop := mixCurvesRow.holds Try.pinned (OpenSpec.ofChange mixCurvesWrong)

/-- 'airchecklaw17.MixFades': WHATEVER THE INPUT: true; the input reads as it did. -/
def mixFadesSpec : ChangeSpec := { name := "mixFades", fn := fun _ => fun
  | [d1, d2, d3] => { results := [.lit (.bool true)], args := [d1, d2, d3] }
  | _ => none }
def mixFadesRow : OpenClaim := { program := "ytegokpicloedeaa", sum := "3dd960d63a62a7f8df8e5b84b796061e9a3d2b88f04f11357ce4f3ad1922586e", func := "aircheck/airchecklaw17.MixFades", spec := "mixFades", unfollowed := true, recurses := true, apart := false }
def MixFadesSaid : Prop := mixFadesRow.holds Try.pinned (OpenSpec.ofChange mixFadesSpec)

/-- ITS FALSE NEIGHBOUR: 'it returns false'. Refute it at one input. -/
def mixFadesWrong : ChangeSpec := { name := "mixFades", fn := fun _ => fun
  | [d1, d2, d3] => { results := [.lit (.bool false)], args := [d1, d2, d3] }
  | _ => none }
def MixFadesWrongFalsely : Prop := mixFadesRow.holds Try.pinned (OpenSpec.ofChange mixFadesWrong)

/-- 'airchecklaw17.MixDucks': WHATEVER THE INPUT: true; the input reads as it did. -/
def mixDucksSpec : ChangeSpec := { name := "mixDucks", fn := fun _ => fun
  | [d1, d2, d3] => { results := [.lit (.bool true)], args := [d1, d2, d3] }
  | _ => none }
def mixDucksRow : OpenClaim := { program := "ytegokpicloedeaa", sum := "3dd960d63a62a7f8df8e5b84b796061e9a3d2b88f04f11357ce4f3ad1922586e", func := "aircheck/airchecklaw17.MixDucks", spec := "mixDucks", unfollowed := true, recurses := true, apart := false }
def MixDucksSaid : Prop := mixDucksRow.holds Try.pinned (OpenSpec.ofChange mixDucksSpec)

/-- ITS FALSE NEIGHBOUR: 'it returns false'. Refute it at one input. -/
def mixDucksWrong : ChangeSpec := { name := "mixDucks", fn := fun _ => fun
  | [d1, d2, d3] => { results := [.lit (.bool false)], args := [d1, d2, d3] }
  | _ => none }
def MixDucksWrongFalsely : Prop := mixDucksRow.holds Try.pinned (OpenSpec.ofChange mixDucksWrong)

/-- 'airchecklaw17.MixLouder': WHATEVER THE INPUT: true; the input reads as it did. -/
def mixLouderSpec : ChangeSpec := { name := "mixLouder", fn := fun _ => fun
  | [d1, d2, d3, d4, d5] => { results := [.lit (.bool true)], args := [d1, d2, d3, d4, d5] }
  | _ => none }
def mixLouderRow : OpenClaim := { program := "ytegokpicloedeaa", sum := "3dd960d63a62a7f8df8e5b84b796061e9a3d2b88f04f11357ce4f3ad1922586e", func := "aircheck/airchecklaw17.MixLouder", spec := "mixLouder", unfollowed := true, recurses := true, apart := false }
def MixLouderSaid : Prop := mixLouderRow.holds Try.pinned (OpenSpec.ofChange mixLouderSpec)

/-- ITS FALSE NEIGHBOUR: 'it returns false'. Refute it at one input. -/
def mixLouderWrong : ChangeSpec := { name := "mixLouder", fn := fun _ => fun
  | [d1, d2, d3, d4, d5] => { results := [.lit (.bool false)], args := [d1, d2, d3, d4, d5] }
  | _ => none }
def MixLouderWrongFalsely : Prop := mixLouderRow.holds Try.pinned (OpenSpec.ofChange mixLouderWrong)

/-- 'airchecklaw17.MixUnder': WHATEVER THE INPUT: true; the input reads as it did. -/
def mixUnderSpec : ChangeSpec := { name := "mixUnder", fn := fun _ => fun
  | [d1, d2, d3] => { results := [.lit (.bool true)], args := [d1, d2, d3] }
  | _ => none }
def mixUnderRow : OpenClaim := { program := "ytegokpicloedeaa", sum := "3dd960d63a62a7f8df8e5b84b796061e9a3d2b88f04f11357ce4f3ad1922586e", func := "aircheck/airchecklaw17.MixUnder", spec := "mixUnder", unfollowed := true, recurses := true, apart := false }
def MixUnderSaid : Prop := mixUnderRow.holds Try.pinned (OpenSpec.ofChange mixUnderSpec)

/-- ITS FALSE NEIGHBOUR: 'it returns false'. Refute it at one input. -/
def mixUnderWrong : ChangeSpec := { name := "mixUnder", fn := fun _ => fun
  | [d1, d2, d3] => { results := [.lit (.bool false)], args := [d1, d2, d3] }
  | _ => none }
def MixUnderWrongFalsely : Prop := mixUnderRow.holds Try.pinned (OpenSpec.ofChange mixUnderWrong)

/- THE SECOND FORM. 'bulk': how many values and letters a reading holds, each counted each time it is reached (what is shared counts as often as it is met; a slice's spare places count too). A statement '..UptoSaid' is the law's where the arguments, and the package variables that the reading takes, are together of bulk at most 1048576: NARROWER than '..Said'. Prove '..Said' where nothing that the law and all that it calls make is longer than what came in: it says more and counts as full. Else prove '..UptoSaid'. A law counts once. -/
mutual
def uptoBulk {H : Type} : DataW H → Nat
  | .lit (.string bytes) => bytes.length + 1
  | .lit _ => 1
  | .nil => 1
  | .ptr d => uptoBulk d + 1
  | .slice elems spare => uptoBulkAll elems + uptoBulkAll spare + 1
  | .agg parts => uptoBulkAll parts + 1
  | .iface _ d => uptoBulk d + 1
  | .map entries => uptoBulkEntries entries + 1
  | .held _ => 1
def uptoBulkAll {H : Type} : List (DataW H) → Nat
  | [] => 0
  | d :: r => uptoBulk d + uptoBulkAll r
def uptoBulkEntries {H : Type} : List (Lit × DataW H) → Nat
  | [] => 0
  | x :: r => uptoBulkEntry x + uptoBulkEntries r
def uptoBulkEntry {H : Type} : Lit × DataW H → Nat
  | (.string bytes, d) => bytes.length + uptoBulk d + 1
  | (_, d) => uptoBulk d + 1
 end
def uptoSmall : (H : Type) → List (DataW H) → Bool := fun _ ds => decide (uptoBulkAll ds ≤ 1048576)
def OpenSpec.upto (s : _root_.Go.ChangeSpec) : _root_.Go.OpenSpec := { _root_.Go.OpenSpec.ofChange s with cond := some uptoSmall }

/-- 'airchecklaw17.MixMatchesReference', WHERE WHAT IT READS IS OF BULK AT MOST 1048576: true; the input reads as it did. -/
def mixMatchesReferenceUptoRow : OpenClaim := { program := "ytegokpicloedeaa", sum := "3dd960d63a62a7f8df8e5b84b796061e9a3d2b88f04f11357ce4f3ad1922586e", func := "aircheck/airchecklaw17.MixMatchesReference", spec := "mixMatchesReference", unfollowed := true, recurses := true, apart := false, narrowed := true }
def MixMatchesReferenceUptoSaid : Prop := mixMatchesReferenceUptoRow.holds Try.pinned (OpenSpec.upto mixMatchesReferenceSpec)

/-- 'airchecklaw17.MixSuperposes', WHERE WHAT IT READS IS OF BULK AT MOST 1048576: true; the input reads as it did. -/
def mixSuperposesUptoRow : OpenClaim := { program := "ytegokpicloedeaa", sum := "3dd960d63a62a7f8df8e5b84b796061e9a3d2b88f04f11357ce4f3ad1922586e", func := "aircheck/airchecklaw17.MixSuperposes", spec := "mixSuperposes", unfollowed := true, recurses := true, apart := false, narrowed := true }
def MixSuperposesUptoSaid : Prop := mixSuperposesUptoRow.holds Try.pinned (OpenSpec.upto mixSuperposesSpec)

/-- 'airchecklaw17.MixRounds', WHERE WHAT IT READS IS OF BULK AT MOST 1048576: true; the input reads as it did. -/
def mixRoundsUptoRow : OpenClaim := { program := "ytegokpicloedeaa", sum := "3dd960d63a62a7f8df8e5b84b796061e9a3d2b88f04f11357ce4f3ad1922586e", func := "aircheck/airchecklaw17.MixRounds", spec := "mixRounds", unfollowed := true, recurses := true, apart := false, narrowed := true }
def MixRoundsUptoSaid : Prop := mixRoundsUptoRow.holds Try.pinned (OpenSpec.upto mixRoundsSpec)

/-- 'airchecklaw17.MixCurves', WHERE WHAT IT READS IS OF BULK AT MOST 1048576: true; the input reads as it did. -/
def mixCurvesUptoRow : OpenClaim := { program := "ytegokpicloedeaa", sum := "3dd960d63a62a7f8df8e5b84b796061e9a3d2b88f04f11357ce4f3ad1922586e", func := "aircheck/airchecklaw17.MixCurves", spec := "mixCurves", unfollowed := true, recurses := true, apart := false, narrowed := true }
def MixCurvesUptoSaid : Prop := mixCurvesUptoRow.holds Try.pinned (OpenSpec.upto mixCurvesSpec)

/-- 'airchecklaw17.MixFades', WHERE WHAT IT READS IS OF BULK AT MOST 1048576: true; the input reads as it did. -/
def mixFadesUptoRow : OpenClaim := { program := "ytegokpicloedeaa", sum := "3dd960d63a62a7f8df8e5b84b796061e9a3d2b88f04f11357ce4f3ad1922586e", func := "aircheck/airchecklaw17.MixFades", spec := "mixFades", unfollowed := true, recurses := true, apart := false, narrowed := true }
def MixFadesUptoSaid : Prop := mixFadesUptoRow.holds Try.pinned (OpenSpec.upto mixFadesSpec)

/-- 'airchecklaw17.MixDucks', WHERE WHAT IT READS IS OF BULK AT MOST 1048576: true; the input reads as it did. -/
def mixDucksUptoRow : OpenClaim := { program := "ytegokpicloedeaa", sum := "3dd960d63a62a7f8df8e5b84b796061e9a3d2b88f04f11357ce4f3ad1922586e", func := "aircheck/airchecklaw17.MixDucks", spec := "mixDucks", unfollowed := true, recurses := true, apart := false, narrowed := true }
def MixDucksUptoSaid : Prop := mixDucksUptoRow.holds Try.pinned (OpenSpec.upto mixDucksSpec)

/-- 'airchecklaw17.MixLouder', WHERE WHAT IT READS IS OF BULK AT MOST 1048576: true; the input reads as it did. -/
def mixLouderUptoRow : OpenClaim := { program := "ytegokpicloedeaa", sum := "3dd960d63a62a7f8df8e5b84b796061e9a3d2b88f04f11357ce4f3ad1922586e", func := "aircheck/airchecklaw17.MixLouder", spec := "mixLouder", unfollowed := true, recurses := true, apart := false, narrowed := true }
def MixLouderUptoSaid : Prop := mixLouderUptoRow.holds Try.pinned (OpenSpec.upto mixLouderSpec)

/-- 'airchecklaw17.MixUnder', WHERE WHAT IT READS IS OF BULK AT MOST 1048576: true; the input reads as it did. -/
def mixUnderUptoRow : OpenClaim := { program := "ytegokpicloedeaa", sum := "3dd960d63a62a7f8df8e5b84b796061e9a3d2b88f04f11357ce4f3ad1922586e", func := "aircheck/airchecklaw17.MixUnder", spec := "mixUnder", unfollowed := true, recurses := true, apart := false, narrowed := true }
def MixUnderUptoSaid : Prop := mixUnderUptoRow.holds Try.pinned (OpenSpec.upto mixUnderSpec)

end Rows
end Go.Proofs.Ytegokpicloedeaa
