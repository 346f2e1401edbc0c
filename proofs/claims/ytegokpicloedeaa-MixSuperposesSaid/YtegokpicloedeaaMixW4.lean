import Derived.Test.YtegokpicloedeaaMixJ
import Derived.Test.YtegokpicloedeaaMixU
import Derived.Test.YtegokpicloedeaaMixOk
namespace Go.VI.Mix
theorem sane4 : (run lib).fn 11 [] ([] ++ [(0, .dead), (0, .dead), (0, .dead)]) 0 = some (.bool true, [] ++ [(0, .dead), (0, .dead), (0, .dead)]) := (run_iff lib).mpr ⟨100, by kernel_rfl⟩
def sh4 : List Shp := [shInts, shPairs, shPairs, .int .i64, .int .i64]
theorem walk4 (xs : List AV) (ht : TyA sh4 xs) : ∃ h', (run lib).fn 4 xs [] 0 = some (.bool true, h') := by
  simp only [sh4, TyA] at ht
  obtain ⟨c0, r, rfl, t0, c1, r1, rfl, t1, c2, r2, rfl, t2, c3, r3, rfl, t3, c4, r4, rfl, t4, rfl⟩ := ht
  obtain ⟨a, a1, a2, a3⟩ := ints_sl t0
  obtain ⟨x, x1, x2, x3⟩ := pairs_of t1
  obtain ⟨y, y1, y2, y3⟩ := pairs_of t2
  obtain ⟨n, rfl, n1⟩ := i64_of t3
  obtain ⟨m, rfl, m1⟩ := i64_of t4
  exact ⟨_, law4 (a1 []) (x1 []) (y1 []) a2 x2 y2 a3 x3 y3 n m n1 m1 sane4 0⟩
end Go.VI.Mix
