import Derived.Test.YtegokpicloedeaaMixH
import Derived.Test.YtegokpicloedeaaMixU
import Derived.Test.YtegokpicloedeaaMixOk
namespace Go.VI.Mix
theorem sane5 : (run lib).fn 11 [] [] 0 = some (.bool true, []) := (run_iff lib).mpr ⟨100, by kernel_rfl⟩
def sh5 : List Shp := [shInts, shPairs, shPairs]
theorem walk5 (xs : List AV) (ht : TyA sh5 xs) : ∃ h', (run lib).fn 5 xs [] 0 = some (.bool true, h') := by
  simp only [sh5, TyA] at ht
  obtain ⟨c0, r, rfl, t0, c1, r1, rfl, t1, c2, r2, rfl, t2, rfl⟩ := ht
  obtain ⟨a, a1, a2, a3⟩ := ints_sl t0
  obtain ⟨x, x1, x2, x3⟩ := pairs_of t1
  obtain ⟨y, y1, y2, y3⟩ := pairs_of t2
  exact ⟨_, law5 (a1 []) (x1 []) (y1 []) a2 x2 y2 a3 x3 y3 sane5 0⟩
end Go.VI.Mix
