/- What the functions on integers compute, part MP. -/
import Derived.Test.YtfpoegnmeoghpaaGreatDoorDumpMW
set_option linter.unusedVariables false
set_option linter.unusedSimpArgs false
namespace Go.VI.Dump
open Go.VI.Num
/- BIGSTEPS -/
theorem pget {A : List Int} {k : Nat} {v y : Int} (h : A[k]? = some y) : ∃ hk : k < A.length,A[k] = y := by
 rw [List.getElem?_eq_some_iff] at h; exact h
end Go.VI.Dump
