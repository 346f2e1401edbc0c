/- What the functions on integers compute, part MG. -/
import Derived.Test.YtclgoccpkgikkaaGreatDoorLoudML
import Derived.Test.YtclgoccpkgikkaaGreatDoorLoudMS
set_option linter.unusedVariables false
set_option linter.unusedSimpArgs false
namespace Go.VI.Loud
open Go.VI.Num
/- BIGSTEPS -/
def keepsB (l : List Int) (g m c : Int) : Bool := decide (cmpQ (measQ (blocksL l) g) (Rat.divInt m 1) ≤ 0) && decide (peakL l * g ≤ c * 1024)
def shGain : List Shp := [.slice 1 (.int .i64), .int .i64, .int .i64, .int .i64]
theorem islice_of {t : List AV} (h : TyL (.slice 1 (.int .i64)) t) : ∃ xs : List Int, (∀ hp, Sl hp 1 (Shp.mk (.slice 1 (.int .i64)) t) (ints xs)) ∧ xs.length ≤ 9223372036854775807 ∧ ∀ x ∈ xs, I64 x := by
 obtain ⟨es, h1, h2, h3⟩ := slice_of h
 obtain ⟨l, rfl, hQ⟩ := list_of (f := AV.int .i64) (Q := I64) (es := es) fun x hx => by
  obtain ⟨c, rfl, hc⟩ := h3 x hx
  obtain ⟨n, rfl, g1, g2⟩ := i64_of hc
  exact ⟨n, rfl, g1, g2⟩
 exact ⟨l, h1, by simpa using h2, hQ⟩
theorem lint_of' {t : List AV} (h : TyL (.int .i64) t) : ∃ n, Shp.mk (.int .i64) t = .int .i64 n ∧ I64 n := by
 obtain ⟨n, rfl, h1, h2⟩ := i64_of h
 exact ⟨n, rfl, h1, h2⟩
end Go.VI.Loud
