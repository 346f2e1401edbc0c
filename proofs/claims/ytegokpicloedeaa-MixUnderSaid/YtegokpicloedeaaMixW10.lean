import Derived.Test.YtegokpicloedeaaMixT
import Derived.Test.YtegokpicloedeaaMixW8
namespace Go.VI.Mix
def sh10 : List Shp := [shInts, shInts, shArr4]
theorem walk10 (xs : List AV) (ht : TyA sh10 xs) : ∃ h', (run lib).fn 10 xs [] 0 = some (.bool true, h') := by
  simp only [sh10, TyA] at ht
  obtain ⟨c0, r, rfl, t0, c1, r1, rfl, t1, c2, r2, rfl, t2, rfl⟩ := ht
  obtain ⟨a, a1, a2, a3⟩ := ints_sl t0
  obtain ⟨b, b1, b2, b3⟩ := ints_sl t1
  obtain ⟨n0, n1', n2, n3, e, o0, o1, o2, o3⟩ := arr4_of t2
  rw [e]
  exact ⟨_, law10 (a1 []) (b1 []) a2 b2 a3 b3 n0 n1' n2 n3 o0 o1 o2 o3 sane8 0⟩
end Go.VI.Mix
