import Derived.Test.YtegokpicloedeaaMixD
import Derived.Test.YtegokpicloedeaaVIU2
namespace Go.VI.Mix
set_option linter.unusedVariables false
def shPairs : Shp := .slice 2 (.agg [.int .i64, .int .i64])
theorem pairs_of {cs : List AV} (h : TyL shPairs cs) : ∃ l, (∀ hp, Sl hp 2 (shPairs.mk cs) (pts l)) ∧ l.length ≤ 9223372036854775807 ∧ ∀ x ∈ l, okI x.1 ∧ okI x.2 := by
  obtain ⟨es, h1, h2, h3⟩ := slice_of h
  obtain ⟨l, rfl, h4⟩ := list_of (f := pt) (Q := fun x => okI x.1 ∧ okI x.2) (es := es) fun x hx => by
    obtain ⟨c, rfl, hc⟩ := h3 x hx
    simp only [TyL, TyLs] at hc
    obtain ⟨a, b, rfl, ⟨n, rfl, hn⟩, a', b', rfl, ⟨n', rfl, hn'⟩, rfl⟩ := hc
    obtain ⟨m, e1, o1⟩ := i64_of (cs := [.int .i64 n]) (by simp only [TyL]; exact ⟨n, rfl, hn⟩)
    obtain ⟨m', e2, o2⟩ := i64_of (cs := [.int .i64 n']) (by simp only [TyL]; exact ⟨n', rfl, hn'⟩)
    simp only [List.cons.injEq, AV.int.injEq, true_and, and_true] at e1 e2
    subst e1 e2
    exact ⟨(n, n'), rfl, o1, o2⟩
  exact ⟨l, h1, by simpa using h2, h4⟩
def shInts : Shp := .slice 1 (.int .i64)
theorem ints_sl {cs : List AV} (h : TyL shInts cs) : ∃ l, (∀ hp, Sl hp 1 (shInts.mk cs) (ints l)) ∧ l.length ≤ 9223372036854775807 ∧ ∀ x ∈ l, okI x := by
  obtain ⟨es, h1, h2, h3⟩ := slice_of h
  obtain ⟨l, rfl, h4⟩ := list_of (f := AV.int .i64) (Q := okI) (es := es) fun x hx => by
    obtain ⟨c, rfl, hc⟩ := h3 x hx
    obtain ⟨n, rfl, o1⟩ := i64_of hc
    exact ⟨n, rfl, o1⟩
  exact ⟨l, h1, by simpa using h2, h4⟩
end Go.VI.Mix
