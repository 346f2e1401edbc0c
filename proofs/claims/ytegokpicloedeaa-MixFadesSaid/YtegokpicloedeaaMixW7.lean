import Derived.Test.YtegokpicloedeaaMixX
import Derived.Test.YtegokpicloedeaaMixW5
namespace Go.VI.Mix
def sh7 : List Shp := [shInts, shInts, .int .i64]
theorem walk7 (xs : List AV) (ht : TyA sh7 xs) : ∃ h', (run lib).fn 7 xs [] 0 = some (.bool true, h') := by
  simp only [sh7, TyA] at ht
  obtain ⟨c0, r, rfl, t0, c1, r1, rfl, t1, c2, r2, rfl, t2, rfl⟩ := ht
  obtain ⟨a, a1, a2, a3⟩ := ints_sl t0
  obtain ⟨b, b1, b2, b3⟩ := ints_sl t1
  obtain ⟨n, rfl, n1⟩ := i64_of t2
  exact ⟨_, law7 (a1 []) (b1 []) a2 b2 a3 b3 n n1 sane5 0⟩
end Go.VI.Mix
