/- What the functions on integers compute, part MG. -/
import Derived.Test.YtclgoccpkgikkaaGreatDoorLoudML
import Derived.Test.YtclgoccpkgikkaaGreatDoorLoudMS
set_option linter.unusedVariables false
set_option linter.unusedSimpArgs false
namespace Go.VI.Loud
open Go.VI.Num
/- BIGSTEPS -/
def keepsB (l : List Int) (g m c : Int) : Bool := decide (cmpQ (measQ (blocksL l) g) (Rat.divInt m 1) ≤ 0) && decide (peakL l * g ≤ c * 1024)
def shGain : List Shp := [.slice 1 (.int .i64), .int .i64, .int .i64, .int .i64]
theorem lint_of' {t : List AV} (h : TyL (.int .i64) t) : ∃ n, Shp.mk (.int .i64) t = .int .i64 n ∧ I64 n := by
 obtain ⟨n, rfl, h1, h2⟩ := i64_of h
 exact ⟨n, rfl, h1, h2⟩
end Go.VI.Loud
