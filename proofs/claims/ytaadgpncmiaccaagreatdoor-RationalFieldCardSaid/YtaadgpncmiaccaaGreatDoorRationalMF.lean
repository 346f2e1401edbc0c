/- What the functions on integers compute, part MF. -/
import Derived.Test.YtaadgpncmiaccaaGreatDoorRationalMV
set_option linter.unusedVariables false
set_option linter.unusedSimpArgs false
namespace Go.VI.Rational
open Go.VI.Num
/- BIGSTEPS -/
theorem pair_eq {s t u v : List UInt8} (h : s = u ∧ t = v) : eqvv true [.s, .s] (.agg [.str s, .str t]) (.agg [.str u, .str v]) = some (.bool false) := by
 rw [eq_fr, h.1, h.2]; simp
section
variable (h : Heap) (v9 v10 v11 v12 v13 v17 : AV) (B0 B1 B2 B3 B4 B5 B6 B7 B8 B9 B10 B11 B12 B13 B14 B15 B16 B17 B18 : Nat × Blk)
set_option maxHeartbeats 4000000 in
theorem fld2 (e0 e1 e2 e3 g0 g1 g2 g3 h0 h1 h2 h3 i : Int) (s t a1 a2 a3 a4 a5 a6 u v : List UInt8) (hh : e0 = 0 → g0 = 0 → h0 = 0 → i = 0 → s = u ∧ t = v) :
  runC lib ⟨h.length, h.length, 19, none⟩ b8_2 ([(9, v9), (10, v10), (11, v11), (12, v12), (13, v13), (14, .bptr (h.length + 15) 1 0), (17, v17), (18, .bptr (h.length + 11) 1 0), (19, .bptr (h.length + 8) 1 0), (20, .bptr (h.length + 9) 1 0), (21, .bptr (h.length + 7) 1 0), (22, .int .i64 i)],
    h ++ [B0, B1, B2, B3, B4, B5, B6, (1, .box [.str u, .str v]), (1, .box [.str s, .str t, .str a1, .str a2, .str a3, .str a4, .str a5, .str a6]), (1, .box [.int .i64 h0, .int .i64 h1, .int .i64 h2, .int .i64 h3]), B10, (1, .box [.int .i64 g0, .int .i64 g1, .int .i64 g2, .int .i64 g3]), B12, B13, B14, (1, .box [.int .i64 e0, .int .i64 e1, .int .i64 e2, .int .i64 e3]), B16, B17, B18]) =
   some (.norm, ([(9, v9), (10, v10), (11, v11), (12, v12), (13, v13), (14, .bptr (h.length + 15) 1 0), (17, v17), (18, .bptr (h.length + 11) 1 0), (151, .bool false)],
    h ++ [B0, B1, B2, B3, B4, B5, B6, (1, .box [.str u, .str v]), (1, .box [.str s, .str t, .str a1, .str a2, .str a3, .str a4, .str a5, .str a6]), (1, .box [.int .i64 h0, .int .i64 h1, .int .i64 h2, .int .i64 h3]), B10, (1, .box [.int .i64 g0, .int .i64 g1, .int .i64 g2, .int .i64 g3]), B12, B13, B14, (1, .box [.int .i64 e0, .int .i64 e1, .int .i64 e2, .int .i64 e3]), B16, B17, B18])) := by
 rw [e8_2]
 by_cases c1 : e0 = 0
 ·by_cases c2 : g0 = 0
  ·by_cases c3 : h0 = 0
   ·by_cases c4 : i = 0
    ·have p := pair_eq (hh c1 c2 c3 c4)
     simp (maxSteps := 30000000) (disch := omega) only [go_sem, c1, c2, c3, c4, p]
    ·simp (maxSteps := 30000000) (disch := omega) only [go_sem, c1, c2, c3, c4]
   ·simp (maxSteps := 30000000) (disch := omega) only [go_sem, c1, c2, c3]
  ·simp (maxSteps := 30000000) (disch := omega) only [go_sem, c1, c2]
 ·simp (maxSteps := 30000000) (disch := omega) only [go_sem, c1]
set_option maxHeartbeats 4000000 in
theorem fld1 (e0 e1 e2 e3 g0 g1 g2 g3 i k : Int) (s t u v : List UInt8) (hh : e2 = 0 → g2 = 0 → i = 0 → k = 0 → s = u ∧ t = v) :
  runC lib ⟨h.length, h.length, 19, none⟩ b8_1 ([(9, v9), (10, v10), (11, v11), (12, v12), (13, v13), (14, .bptr (h.length + 15) 1 0), (17, v17), (18, .bptr (h.length + 11) 1 0), (23, .bptr (h.length + 6) 1 0), (24, .int .i64 i), (25, .bptr (h.length + 5) 1 0), (26, .int .i64 k)],
    h ++ [B0, B1, B2, B3, B4, (1, .box [.str u, .str v]), (1, .box [.str s, .str t]), B7, B8, B9, B10, (1, .box [.int .i64 g0, .int .i64 g1, .int .i64 g2, .int .i64 g3]), B12, B13, B14, (1, .box [.int .i64 e0, .int .i64 e1, .int .i64 e2, .int .i64 e3]), B16, B17, B18]) =
   some (.norm, ([(9, v9), (10, v10), (11, v11), (12, v12), (13, v13), (14, .bptr (h.length + 15) 1 0), (17, v17), (18, .bptr (h.length + 11) 1 0), (186, .bool false)],
    h ++ [B0, B1, B2, B3, B4, (1, .box [.str u, .str v]), (1, .box [.str s, .str t]), B7, B8, B9, B10, (1, .box [.int .i64 g0, .int .i64 g1, .int .i64 g2, .int .i64 g3]), B12, B13, B14, (1, .box [.int .i64 e0, .int .i64 e1, .int .i64 e2, .int .i64 e3]), B16, B17, B18])) := by
 rw [e8_1]
 by_cases c1 : e2 = 0
 ·by_cases c2 : g2 = 0
  ·by_cases c3 : i = 0
   ·by_cases c4 : k = 0
    ·have p := pair_eq (hh c1 c2 c3 c4)
     simp (maxSteps := 30000000) (disch := omega) only [go_sem, c1, c2, c3, c4, p]
    ·simp (maxSteps := 30000000) (disch := omega) only [go_sem, c1, c2, c3, c4]
   ·simp (maxSteps := 30000000) (disch := omega) only [go_sem, c1, c2, c3]
  ·simp (maxSteps := 30000000) (disch := omega) only [go_sem, c1, c2]
 ·simp (maxSteps := 30000000) (disch := omega) only [go_sem, c1]
set_option maxHeartbeats 4000000 in
theorem fld0 (e0 e1 e2 e3 g0 g1 g2 g3 l m n : Int) (s t u v : List UInt8) (hh : e0 = 0 → l = 0 → g2 = 0 → m = 0 → n = 0 → s = u ∧ t = v) :
  runC lib ⟨h.length, h.length, 19, none⟩ b8_0 ([(9, v9), (10, v10), (11, v11), (13, v13), (14, .bptr (h.length + 15) 1 0), (18, .bptr (h.length + 11) 1 0), (28, .int .i64 l), (29, .bptr (h.length + 3) 1 0), (30, .int .i64 m), (31, .bptr (h.length + 2) 1 0), (32, .int .i64 n)],
    h ++ [B0, B1, (1, .box [.str u, .str v]), (1, .box [.str s, .str t]), B4, B5, B6, B7, B8, B9, B10, (1, .box [.int .i64 g0, .int .i64 g1, .int .i64 g2, .int .i64 g3]), B12, B13, B14, (1, .box [.int .i64 e0, .int .i64 e1, .int .i64 e2, .int .i64 e3]), B16, B17, B18]) =
   some (.norm, ([(9, v9), (10, v10), (11, v11), (13, v13), (14, .bptr (h.length + 15) 1 0), (231, .bool false)],
    h ++ [B0, B1, (1, .box [.str u, .str v]), (1, .box [.str s, .str t]), B4, B5, B6, B7, B8, B9, B10, (1, .box [.int .i64 g0, .int .i64 g1, .int .i64 g2, .int .i64 g3]), B12, B13, B14, (1, .box [.int .i64 e0, .int .i64 e1, .int .i64 e2, .int .i64 e3]), B16, B17, B18])) := by
 rw [e8_0]
 by_cases c1 : e0 = 0
 ·by_cases c2 : l = 0
  ·by_cases c3 : g2 = 0
   ·by_cases c4 : m = 0
    ·by_cases c5 : n = 0
     ·have p := pair_eq (hh c1 c2 c3 c4 c5)
      simp (maxSteps := 30000000) (disch := omega) only [go_sem, c1, c2, c3, c4, c5, p]
     ·simp (maxSteps := 30000000) (disch := omega) only [go_sem, c1, c2, c3, c4, c5]
    ·simp (maxSteps := 30000000) (disch := omega) only [go_sem, c1, c2, c3, c4]
   ·simp (maxSteps := 30000000) (disch := omega) only [go_sem, c1, c2, c3]
  ·simp (maxSteps := 30000000) (disch := omega) only [go_sem, c1, c2]
 ·simp (maxSteps := 30000000) (disch := omega) only [go_sem, c1]
end
end Go.VI.Rational
namespace Go.VI.Rational
open Go.VI.Num
/- BIGSTEPS -/
theorem fit_add (a b : Option Rat) : FitO (liftO addQ a b) := liftO_fit (fun h => (addQ_some h).2) a b
theorem fit_mul (a b : Option Rat) : FitO (liftO mulQ a b) := liftO_fit (fun h => (mulQ_some h).2) a b
theorem fit_div (a b : Option Rat) : FitO (liftO divQ a b) := liftO_fit (fun h => (divQ_some h).2) a b
theorem add_commO (a b : Rat) : liftO addQ (some b) (some a) = liftO addQ (some a) (some b) := addQ_comm b a
theorem mul_commO (a b : Rat) : liftO mulQ (some b) (some a) = liftO mulQ (some a) (some b) := mulQ_comm b a
theorem same_of {a b : Option Rat} (h : a = b) : nS a = nS b ∧ dS a = dS b := by rw [h]; exact ⟨rfl, rfl⟩
theorem eq_pair {s t u v : List UInt8} (h : s = u ∧ t = v) : eqvv false [.s, .s] (.agg [.str s, .str t]) (.agg [.str u, .str v]) = some (.bool true) := by
 rw [eq_fr, h.1, h.2]; simp
set_option maxHeartbeats 8000000 in
theorem field_run {x0 x1 x2 x3 y0 y1 y2 y3 z0 z1 : Int} (i0 : I64 x0) (i1 : I64 x1) (i2 : I64 x2) (i3 : I64 x3) (j0 : I64 y0) (j1 : I64 y1) (j2 : I64 y2) (j3 : I64 y3) (k0 : I64 z0) (k1 : I64 z1) (L : Bool) (h : Heap) (lo : Nat) :
  (run lib).fn 8 [.agg [.int .i64 x0, .int .i64 x1, .int .i64 x2, .int .i64 x3], .agg [.int .i64 y0, .int .i64 y1, .int .i64 y2, .int .i64 y3], .agg [.int .i64 z0, .int .i64 z1], .bool L] h lo = some (.bool true, h) := by
 have sa := fun H lo => sane_run H lo
 have d1 := fun H lo => small_run i0 i1 H lo
 have d2 := fun H lo => small_run j0 j1 H lo
 have d3 := fun H lo => small_run k0 k1 H lo
 have d4 := fun H lo => long_run i0 i1 i2 i3 H lo
 have d5 := fun H lo => long_run j0 j1 j2 j3 H lo
 have sm : ∀ {a b : Int}, SmQ (smallQ a b) := fun {a b} => by
  have r1 := pk_range a (n := 1999) (by decide)
  have r2 := pk_range b (n := 60) (by decide)
  exact sm_of (by omega) (by omega) (by omega)
 obtain ⟨a, b, ha, hb, hsm, hx, hy⟩ : ∃ a b : Rat, FitQ a ∧ FitQ b ∧ (L = false → eO (liftO addQ (some a) (some b)) = 0 ∧ eO (liftO mulQ (some a) (some b)) = 0) ∧ (if L then longQ x0 x1 x2 x3 else smallQ x0 x1) = a ∧ (if L then longQ y0 y1 y2 y3 else smallQ y0 y1) = b := by
  cases L with
  | true => exact ⟨_, _, (longQ_fit ..).fit, (longQ_fit ..).fit, fun h => (nomatch h), rfl, rfl⟩
  | false =>
   obtain ⟨s1, s2, s3, s4⟩ := sm_ops (sm (a := x0) (b := x1)) (sm (a := y0) (b := y1))
   refine ⟨_, _, sm.fit, sm.fit, fun _ => ?_, rfl, rfl⟩
   simp only [liftO, s1, s3, eO, Bool.false_eq_true, if_false, and_self]
 have hc := (sm (a := z0) (b := z1)).fit
 have eA : ∀ q : Rat, rt q = .agg [.str (nS (some q)), .str (dS (some q))] := fun q => rfl
 have ga := FitQ.o ha
 have gb := FitQ.o hb
 have gc := FitQ.o hc
 generalize hcc : smallQ z0 z1 = c at *
 have g1 := fun H lo => fourO_run ga gb H lo
 have g2 := fun H lo => fourO_run gb ga H lo
 have g3 := fun H lo => fourO_run gb gc H lo
 have g4 := fun H lo => fourO_run (fit_add (some a) (some b)) gc H lo
 have g5 := fun H lo => addO_run ga (fit_add (some b) (some c)) H lo
 have g6 := fun H lo => mulO_run ga (fit_mul (some b) (some c)) H lo
 have g7 := fun H lo => mulO_run (fit_mul (some a) (some b)) gc H lo
 have g8 := fun H lo => mulO_run ga gc H lo
 have g9 := fun H lo => addO_run (fit_mul (some a) (some c)) (fit_mul (some b) (some c)) H lo
 have g10 := fun H lo => mulO_run (fit_add (some a) (some b)) gc H lo
 have g11 := fun H lo => subO_run (fit_add (some a) (some b)) gb H lo
 have g12 := fun H lo => mulO_run (fit_div (some a) (some b)) gb H lo
 rw [add_commO a b, mul_commO a b] at g2
 have l1 := @f_assoc a b c
 have l2 := @f_massoc a b c
 have l3 := @f_dist a b c
 have l4 := @f_back a b
 have l5 := @f_again a b
 rw [eA] at d1 d2 d3 d4 d5
 simp only [fourV_eq, resO_eq, rO] at g1 g2 g3 g4 g5 g6 g7 g8 g9 g10 g11 g12
 -- names for what is computed
 have m1 := fun p q => same_of (l1 p q)
 have m2 := fun p q => same_of (l2 p q)
 have m3 := fun p q => same_of (l3 p q)
 have m4 := fun p => same_of (l4 p)
 have m5 := fun p => same_of (l5 p)
 clear l1 l2 l3 l4 l5 ga gb gc ha hb hc sm
 generalize liftO divQ (some b) (some a) = Q4 at *
 generalize liftO subQ (some b) (some a) = Q2 at *
 generalize hP1 : liftO addQ (some a) (some b) = P1 at *
 generalize liftO subQ (some a) (some b) = P2 at *
 generalize hP3 : liftO mulQ (some a) (some b) = P3 at *
 generalize hP4 : liftO divQ (some a) (some b) = P4 at *
 generalize hG1 : liftO addQ (some b) (some c) = G1 at *
 generalize liftO subQ (some b) (some c) = G2 at *
 generalize hG3 : liftO mulQ (some b) (some c) = G3 at *
 generalize liftO divQ (some b) (some c) = G4 at *
 generalize hLc : liftO mulQ (some a) (some c) = Lc at *
 generalize hA : some a = oa at *
 generalize hB : some b = ob at *
 generalize hC : some c = oc at *
 generalize liftO addQ P1 oc = H1 at *
 generalize liftO subQ P1 oc = H2 at *
 generalize liftO mulQ P1 oc = H3 at *
 generalize liftO divQ P1 oc = H4 at *
 generalize liftO addQ oa G1 = I1 at *
 generalize liftO mulQ oa G3 = J at *
 generalize liftO mulQ P3 oc = K at *
 generalize liftO addQ Lc G3 = M at *
 generalize liftO subQ P1 ob = O at *
 generalize liftO mulQ P4 ob = R at *
 have f2 := fld2 (h := h) (hh := fun (_ : eO P1 = 0) (_ : eO G1 = 0) p q => m1 p q)
 have f1 := fld1 (h := h) (hh := fun (_ : eO P3 = 0) (_ : eO G3 = 0) p q => m2 q p)
 have f0 := fld0 (h := h) (hh := fun (_ : eO P1 = 0) (_ : eO Lc = 0) (_ : eO G3 = 0) p q => m3 p q)
 clear m1 m2 m3 hP1 hP3 hP4 hG1 hG3 hLc
 have w : ∀ s t, eqvv true [.s, .s] (.agg [.str s, .str t]) (.agg [.str s, .str t]) = some (.bool false) := fun s t => pair_eq ⟨rfl, rfl⟩
 cases L with
 | false =>
  obtain ⟨t1, t2⟩ := hsm rfl
  simp only [Bool.false_eq_true, if_false] at hx hy
  rw [hx, hA] at d1
  rw [hy, hB] at d2
  rw [t1] at g1 g2 f2 f0
  rw [t2] at g1 g2 f1
  rw [run_closed (x := x8) rfl rfl rfl rfl]
  simp (maxSteps := 30000000) (disch := omega) only [go_sem, x8, e8_4, e8_3, sa, d1, d2, d3, w, g1, g2, g3, g4, g5, g6, g7, g8, g9, g10, g11, g12, f0, f1, f2]
  by_cases c2 : eO O = 0
  ·have p2 := eq_pair (m4 c2)
   by_cases c3 : eO P4 = 0
   ·by_cases c4 : eO R = 0
    ·have p4 := eq_pair (m5 c4)
     simp (maxSteps := 30000000) (disch := omega) only [go_sem, c2, p2, c3, c4, p4]
    ·simp (maxSteps := 30000000) (disch := omega) only [go_sem, c2, p2, c3, c4]
   ·simp (maxSteps := 30000000) (disch := omega) only [go_sem, c2, p2, c3]
  ·skip
   by_cases c3 : eO P4 = 0
   ·by_cases c4 : eO R = 0
    ·have p4 := eq_pair (m5 c4)
     simp (maxSteps := 30000000) (disch := omega) only [go_sem, c2, c3, c4, p4]
    ·simp (maxSteps := 30000000) (disch := omega) only [go_sem, c2, c3, c4]
   ·simp (maxSteps := 30000000) (disch := omega) only [go_sem, c2, c3]
 | true =>
  simp only [if_true] at hx hy
  rw [hx, hA] at d4
  rw [hy, hB] at d5
  rw [run_closed (x := x8) rfl rfl rfl rfl]
  by_cases c1 : eO P1 = 0
  ·rw [c1] at g1 g2 f2 f0
   simp (maxSteps := 30000000) (disch := omega) only [go_sem, x8, e8_4, e8_3, sa, d1, d2, d3, d4, d5, w, g1, g2, g3, g4, g5, g6, g7, g8, g9, g10, g11, g12, f0, f1, f2]
   by_cases c2 : eO O = 0
   ·have p2 := eq_pair (m4 c2)
    by_cases c3 : eO P4 = 0
    ·by_cases c4 : eO R = 0
     ·have p4 := eq_pair (m5 c4)
      simp (maxSteps := 30000000) (disch := omega) only [go_sem, c2, p2, c3, c4, p4]
     ·simp (maxSteps := 30000000) (disch := omega) only [go_sem, c2, p2, c3, c4]
    ·simp (maxSteps := 30000000) (disch := omega) only [go_sem, c2, p2, c3]
   ·skip
    by_cases c3 : eO P4 = 0
    ·by_cases c4 : eO R = 0
     ·have p4 := eq_pair (m5 c4)
      simp (maxSteps := 30000000) (disch := omega) only [go_sem, c2, c3, c4, p4]
     ·simp (maxSteps := 30000000) (disch := omega) only [go_sem, c2, c3, c4]
    ·simp (maxSteps := 30000000) (disch := omega) only [go_sem, c2, c3]
  ·simp (maxSteps := 30000000) (disch := omega) only [go_sem, x8, e8_4, e8_3, sa, d1, d2, d3, d4, d5, c1, w, g1, g2, g3, g4, g5, g6, g7, g8, g9, g10, g11, g12, f0, f1, f2]
   by_cases c3 : eO P4 = 0
   ·by_cases c4 : eO R = 0
    ·have p4 := eq_pair (m5 c4)
     simp (maxSteps := 30000000) (disch := omega) only [go_sem, c1, c3, c4, p4]
    ·simp (maxSteps := 30000000) (disch := omega) only [go_sem, c1, c3, c4]
   ·simp (maxSteps := 30000000) (disch := omega) only [go_sem, c1, c3]
def shField : List Shp := [a4, a4, a2, .bool]
theorem walkField (xs : List AV) (ht : TyA shField xs) : ∃ h', (run lib).fn 8 xs [] 0 = some (.bool true, h') := by
 simp only [shField, TyA] at ht
 obtain ⟨c0, r0, rfl, t0, c1, r1, rfl, t1, c2, r2, rfl, t2, c3, r3, rfl, t3, rfl⟩ := ht
 obtain ⟨a, b, d, e, e0, h0, h1, h2, h3⟩ := a4_of t0
 obtain ⟨a', b', d', e', e1, k0, k1, k2, k3⟩ := a4_of t1
 obtain ⟨u, v, e2, m0, m1⟩ := a2_of t2
 obtain ⟨L, e3⟩ := b_of t3
 rw [e0, e1, e2, e3]
 exact ⟨_, field_run h0 h1 h2 h3 k0 k1 k2 k3 m0 m1 L [] 0⟩
end Go.VI.Rational
