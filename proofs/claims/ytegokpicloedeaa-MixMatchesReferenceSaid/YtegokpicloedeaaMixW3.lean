import Derived.Test.YtegokpicloedeaaMixL3
import Derived.Test.YtegokpicloedeaaMixU
import Derived.Test.YtegokpicloedeaaMixW8
namespace Go.VI.Mix
theorem sane3 : (run lib).fn 11 [] ([] ++ [(0, .dead), (0, .dead), (0, .dead), (0, .dead), (0, .dead), (0, .dead), (0, .dead), (0, .dead), (0, .dead), (0, .dead)]) 0 = some (.bool true, [] ++ [(0, .dead), (0, .dead), (0, .dead), (0, .dead), (0, .dead), (0, .dead), (0, .dead), (0, .dead), (0, .dead), (0, .dead)]) := (run_iff lib).mpr ⟨100, by kernel_rfl⟩
def shPt : Shp := .agg (List.replicate 2 (.int .i64))
theorem pt_of {cs : List AV} (h : TyL shPt cs) : ∃ a b : Int, shPt.mk cs = .agg [.int .i64 a, .int .i64 b] := by
  obtain ⟨l, rfl, hl, hx⟩ := ints_of 2 h
  match l, hl with
  | [a, b], _ => exact ⟨a, b, rfl⟩
def sh3 : List Shp := [shInts, shInts, shPairs, shPairs, .int .i64, shPt, .int .i64, .int .i64, .int .i64, shArr4]
theorem walk3 (xs : List AV) (ht : TyA sh3 xs) : ∃ h', (run lib).fn 3 xs [] 0 = some (.bool true, h') := by
  simp only [sh3, TyA] at ht
  obtain ⟨c0, r, rfl, t0, c1, r1, rfl, t1, c2, r2, rfl, t2, c3, r3, rfl, t3, c4, r4, rfl, t4, c5, r5, rfl, t5, c6, r6, rfl, t6, c7, r7, rfl, t7, c8, r8, rfl, t8, c9, r9, rfl, t9, rfl⟩ := ht
  obtain ⟨a, a1, a2, a3⟩ := ints_sl t0
  obtain ⟨b, b1, b2, b3⟩ := ints_sl t1
  obtain ⟨x, x1, x2, x3⟩ := pairs_of t2
  obtain ⟨y, y1, y2, y3⟩ := pairs_of t3
  obtain ⟨sm, rfl, s1⟩ := i64_of t4
  obtain ⟨p1, p2, e5⟩ := pt_of t5
  obtain ⟨fr, rfl, f1⟩ := i64_of t6
  obtain ⟨wh, rfl, w1⟩ := i64_of t7
  obtain ⟨n, rfl, o⟩ := i64_of t8
  obtain ⟨n0, n1', n2, n3, e, o0, o1, o2, o3⟩ := arr4_of t9
  rw [e, e5]
  exact ⟨_, law3 (a1 []) (b1 []) (x1 []) (y1 []) a2 b2 x2 y2 a3 b3 x3 y3 sm p1 p2 fr wh n n0 n1' n2 n3 s1 f1 w1 o o0 o1 o2 o3 sane3 0⟩
end Go.VI.Mix
