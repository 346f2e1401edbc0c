/- What the laws are handed, as lists. -/
import Derived.Test.YtaadgpncmiaccaaGreatDoorVIY
import Derived.Test.YtaadgpncmiaccaaGreatDoorVIZ
set_option linter.unusedVariables false
set_option linter.unusedSimpArgs false
namespace Go.VI
theorem int_of {k : IntKind} {cs : List AV} (h : TyL (.int k) cs) : ∃ n, cs = [.int k n] ∧ k.min ≤ n ∧ n ≤ k.max := by
 simp only [TyL] at h
 obtain ⟨n, rfl, hw⟩ := h
 simp only [Lit.wf, Bool.and_eq_true, decide_eq_true_eq] at hw
 exact ⟨n, rfl, hw.1, hw.2⟩
theorem i64_of {cs : List AV} (h : TyL (.int .i64) cs) : ∃ n, cs = [.int .i64 n] ∧ -9223372036854775808 ≤ n ∧ n ≤ 9223372036854775807 := by
 obtain ⟨n, h1, h2, h3⟩ := int_of h
 refine ⟨n, h1, ?_, ?_⟩
 ·have : IntKind.i64.min = -9223372036854775808 := by decide
  omega
 ·have : IntKind.i64.max = 9223372036854775807 := by decide
  omega
theorem ints_of : ∀ (n : Nat) {cs : List AV}, TyLs (List.replicate n (.int .i64)) cs → ∃ l : List Int, cs = l.map (.int .i64) ∧ l.length = n ∧ ∀ x ∈ l, -9223372036854775808 ≤ x ∧ x ≤ 9223372036854775807
 | 0, cs, h => by simp only [List.replicate, TyLs] at h; exact ⟨[], by simpa using h, rfl, by simp⟩
 | n + 1, cs, h => by
  simp only [List.replicate_succ, TyLs] at h
  obtain ⟨a, b, rfl, h1, h2⟩ := h
  obtain ⟨x, rfl, hx⟩ := i64_of h1
  obtain ⟨l, rfl, h3, h4⟩ := ints_of n h2
  refine ⟨x :: l, rfl, by simp [h3], fun y hy => ?_⟩
  rcases List.mem_cons.mp hy with rfl | hy
  ·exact hx
  ·exact h4 y hy
end Go.VI
