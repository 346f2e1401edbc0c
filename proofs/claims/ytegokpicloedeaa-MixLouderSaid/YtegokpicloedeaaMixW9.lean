import Derived.Test.YtegokpicloedeaaMixS
import Derived.Test.YtegokpicloedeaaMixW8
namespace Go.VI.Mix
def sh9 : List Shp := [shInts, shArr4, .int .i64, .int .i64, .int .i64]
theorem walk9 (xs : List AV) (ht : TyA sh9 xs) : ∃ h', (run lib).fn 9 xs [] 0 = some (.bool true, h') := by
  simp only [sh9, TyA] at ht
  obtain ⟨c0, r, rfl, t0, c1, r1, rfl, t1, c2, r2, rfl, t2, c3, r3, rfl, t3, c4, r4, rfl, t4, rfl⟩ := ht
  obtain ⟨a, a1, a2, a3⟩ := ints_sl t0
  obtain ⟨n0, n1', n2, n3, e, o0, o1, o2, o3⟩ := arr4_of t1
  obtain ⟨w, rfl, w1⟩ := i64_of t2
  obtain ⟨m, rfl, m1⟩ := i64_of t3
  obtain ⟨l, rfl, l1⟩ := i64_of t4
  rw [e]
  exact ⟨_, law9 (a1 []) a2 a3 n0 n1' n2 n3 w m l o0 o1 o2 o3 w1 m1 l1 sane8 0⟩
end Go.VI.Mix
