import Derived.Test.YtegokpicloedeaaMixP
import Derived.Test.YtegokpicloedeaaMixU
import Derived.Test.YtegokpicloedeaaMixOk
namespace Go.VI.Mix
theorem sane8 : (run lib).fn 11 [] ([] ++ [(0, .dead)]) 0 = some (.bool true, [] ++ [(0, .dead)]) := (run_iff lib).mpr ⟨100, by kernel_rfl⟩
def shArr4 : Shp := .agg (List.replicate 4 (.int .i64))
theorem arr4_of {cs : List AV} (h : TyL shArr4 cs) : ∃ a b c d : Int, shArr4.mk cs = .agg [.int .i64 a, .int .i64 b, .int .i64 c, .int .i64 d] ∧ okI a ∧ okI b ∧ okI c ∧ okI d := by
  obtain ⟨l, rfl, hl, hx⟩ := ints_of 4 h
  match l, hl with
  | [a, b, c, d], _ => exact ⟨a, b, c, d, rfl, hx a (by simp), hx b (by simp), hx c (by simp), hx d (by simp)⟩
def sh8 : List Shp := [shInts, .int .i64, shArr4]
theorem walk8 (xs : List AV) (ht : TyA sh8 xs) : ∃ h', (run lib).fn 8 xs [] 0 = some (.bool true, h') := by
  simp only [sh8, TyA] at ht
  obtain ⟨c0, r, rfl, t0, c1, r1, rfl, t1, c2, r2, rfl, t2, rfl⟩ := ht
  obtain ⟨a, a1, a2, a3⟩ := ints_sl t0
  obtain ⟨n, rfl, n1⟩ := i64_of t1
  obtain ⟨n0, n1', n2, n3, e, o0, o1, o2, o3⟩ := arr4_of t2
  rw [e]
  exact ⟨_, law8 (a1 []) a2 a3 n n0 n1' n2 n3 n1 o0 o1 o2 o3 sane8 0⟩
end Go.VI.Mix
