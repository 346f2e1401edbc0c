/- What the functions on integers compute, part MM. -/
import Derived.Test.YtaadgpncmiaccaaGreatDoorRationalMR
import Derived.Test.YtaadgpncmiaccaaGreatDoorRationalMS
set_option linter.unusedSimpArgs false
set_option linter.unusedVariables false
namespace Go.VI.Rational
open Go.VI.Num
set_option linter.unusedVariables false
set_option linter.unusedSimpArgs false

theorem dv_take_succ {l : List UInt8} {i : Nat} (hi : i < l.length) : dv 0 (l.take (i + 1)) = dv 0 (l.take i) * 10 + (l[i].toNat - 48) := by
 rw [List.take_succ_eq_append_getElem hi, dv_app, dv_cons, dv_nil]
theorem dv_take_le {l : List UInt8} (i : Nat) : dv 0 (l.take i) ≤ dv 0 l := by
 conv => rhs; rw [← List.take_append_drop i l]
 rw [dv_app]
 exact dv_ge _ _
theorem rtoint_loopP {c : UInt8} {r : List UInt8} (hd : Digs (c :: r)) (hb : dv 0 (c :: r) ≤ 9223372036854775807) (hl : (c :: r).length ≤ 1000) (cx : Cx) (H : Heap) : ∀ (m i : Nat), (c :: r).length - i ≤ m → i ≤ (c :: r).length →
  runC lib cx (.loop b43_0) ([(0, .str (c :: r)), (4, .int .i64 (dv 0 ((c :: r).take i) : Nat)), (5, .int .i64 i)], H) = some (.exit 0, ([(4, .int .i64 (dv 0 (c :: r) : Nat))], H)) := by
 have hc := hd c (by simp)
 unfold IsD at hc
 have hx0 := fun H => ixst0 (k := .i64) c r H
 have n0 : ¬ ((c.toNat : Nat) : Int) = 45 := by omega
 have s0 : lenv true (.str (c :: r)) = some (.int .i64 ((c :: r).length : Nat)) := rfl
 generalize hL : c :: r = L at *
 intro m
 induction m with
 | zero =>
  intro i h1 h2
  obtain rfl : i = L.length := by omega
  rw [List.take_length, w_loop]
  simp (maxSteps := 1000000) (disch := omega) only [go_sem, Int.lt_irrefl]
 | succ m ih =>
  intro i h1 h2
  rcases Nat.lt_or_eq_of_le h2 with cc | rfl
  ·have c1 : (i : Int) < L.length := by omega
   have hx := ixst_at (k := .i64) cc
   have k := ih (i + 1) (by omega) (by omega)
   have hdi := hd L[i] (List.getElem_mem cc)
   unfold IsD at hdi
   have hle := dv_take_le (l := L) (i + 1)
   rw [dv_take_succ cc] at k hle
   rw [cast1] at k
   generalize dv 0 (L.take i) = n at *
   generalize L[i].toNat = x at *
   have n1 : ¬ (x : Int) = 45 := by omega
   have e1 : 10 * (n : Int) + ((x : Int) - 48) = ((n * 10 + (x - 48) : Nat) : Int) := by omega
   rw [w_loop]
   simp (maxSteps := 1000000) (disch := omega) only [go_sem, s0, c1, hx, hx0, n1, n0, e1, k]
  ·rw [List.take_length, w_loop]
   simp (maxSteps := 1000000) (disch := omega) only [go_sem, Int.lt_irrefl]
theorem rtoint_loopN {r : List UInt8} (hd : Digs r) (hb : dv 0 r ≤ 9223372036854775808) (hl : r.length ≤ 1000) (cx : Cx) (H : Heap) : ∀ (m i : Nat), r.length - i ≤ m → i ≤ r.length →
  runC lib cx (.loop b43_0) ([(0, .str (45 :: r)), (4, .int .i64 (-(dv 0 (r.take i) : Nat) : Int)), (5, .int .i64 ((i : Int) + 1))], H) = some (.exit 0, ([(4, .int .i64 (-(dv 0 r : Nat) : Int))], H)) := by
 have hx0 := fun H => ixst0 (k := .i64) 45 r H
 have e45 : ((45 : UInt8).toNat : Int) = 45 := rfl
 intro m
 induction m with
 | zero =>
  intro i h1 h2
  obtain rfl : i = r.length := by omega
  rw [List.take_length, w_loop]
  simp (maxSteps := 1000000) (disch := omega) only [go_sem, cast1, Int.lt_irrefl]
 | succ m ih =>
  intro i h1 h2
  rcases Nat.lt_or_eq_of_le h2 with cc | rfl
  ·have c1 : (i : Int) + 1 < (r.length : Int) + 1 := by omega
   have hx := ixst_at (k := .i64) (l := 45 :: r) (i := i + 1) (by simp; omega)
   simp only [List.getElem_cons_succ, cast1] at hx
   have k := ih (i + 1) (by omega) (by omega)
   have hdi := hd r[i] (List.getElem_mem cc)
   unfold IsD at hdi
   have hle := dv_take_le (l := r) (i + 1)
   rw [dv_take_succ cc] at k hle
   rw [cast1] at k
   generalize dv 0 (r.take i) = n at *
   generalize r[i].toNat = x at *
   have n1 : ¬ (x : Int) = 45 := by omega
   have e1 : 10 * (-(n : Int)) + -((x : Int) - 48) = -((n * 10 + (x - 48) : Nat) : Int) := by omega
   rw [w_loop]
   simp (maxSteps := 1000000) (disch := omega) only [go_sem, cast1, c1, hx, hx0, e45, n1, e1, k]
  ·rw [List.take_length, w_loop]
   simp (maxSteps := 1000000) (disch := omega) only [go_sem, cast1, Int.lt_irrefl]
theorem rtoint_run {z : Int} (hz : Fit z) (h : Heap) (lo : Nat) : (run lib).fn 43 [.str (itxt z)] h lo = some (toT z, h) := by
 have v1 := fun H lo => rvalid_run (fit_str hz) H lo
 rw [validS_itxt hz] at v1
 have tm : itxt (-9223372036854775808) = [45, 57, 50, 50, 51, 51, 55, 50, 48, 51, 54, 56, 53, 52, 55, 55, 53, 56, 48, 56] := by kernel_rfl
 have tp : itxt 9223372036854775807 = [57, 50, 50, 51, 51, 55, 50, 48, 51, 54, 56, 53, 52, 55, 55, 53, 56, 48, 55] := by kernel_rfl
 have c1 := fun H lo => rcompare_run hz (y := -9223372036854775808) (by decide) H lo
 have c2 := fun H lo => rcompare_run hz (y := 9223372036854775807) (by decide) H lo
 rw [tm] at c1
 rw [tp] at c2
 have hlen := itxt_len hz
 unfold toT
 by_cases g1 : z < -9223372036854775808
 ·have k1 : cmpN z (-9223372036854775808) < 0 := (cmpN_lt _ _).mpr g1
  rw [if_neg (by omega)]
  generalize cmpN z (-9223372036854775808) = q at *
  rw [run_closed (x := x43) rfl rfl rfl rfl]
  simp (maxSteps := 1000000) (disch := omega) only [go_sem, x43, v1, c1, k1]
 ·have k1 : ¬ cmpN z (-9223372036854775808) < 0 := by rw [cmpN_lt]; exact g1
  generalize cmpN z (-9223372036854775808) = q at *
  by_cases g2 : 9223372036854775807 < z
  ·have k2 : 0 < cmpN z 9223372036854775807 := by rw [cmp_more g2]; omega
   rw [if_neg (by omega)]
   generalize cmpN z 9223372036854775807 = q2 at *
   rw [run_closed (x := x43) rfl rfl rfl rfl]
   simp (maxSteps := 1000000) (disch := omega) only [go_sem, x43, v1, c1, k1, c2, k2]
  ·have k2 : ¬ 0 < cmpN z 9223372036854775807 := by
    rcases Int.lt_or_eq_of_le (show z ≤ 9223372036854775807 by omega) with g | g
    ·rw [cmp_less g]; omega
    ·rw [g, cmp_eq]; omega
   rw [if_pos ⟨by omega, by omega⟩]
   generalize cmpN z 9223372036854775807 = q2 at *
   have lp : runC lib ⟨h.length, h.length, 0, none⟩ (.loop b43_0) ([(0, .str (itxt z)), (4, .int .i64 0), (5, .int .i64 0)], h) = some (.exit 0, ([(4, .int .i64 z)], h)) := by
    have hd := digs_dec z.natAbs
    have hv := dv_dec z.natAbs
    by_cases c : z < 0
    ·have e : itxt z = 45 :: dec z.natAbs := if_pos c
     have l1 := rtoint_loopN hd (by omega) (by rw [e] at hlen; simp at hlen; omega) ⟨h.length, h.length, 0, none⟩ h (dec z.natAbs).length 0 (by omega) (by omega)
     rw [hv, List.take_zero, dv_nil] at l1
     have ez : (-(z.natAbs : Nat) : Int) = z := by omega
     have e0 : (-((0 : Nat) : Int)) = 0 := rfl
     have e1 : ((0 : Nat) : Int) + 1 = 1 := rfl
     rw [ez, e0, e1] at l1
     rw [e]
     have hx0 := fun H => ixst0 (k := .i64) 45 (dec z.natAbs) H
     have e45 : ((45 : UInt8).toNat : Int) = 45 := rfl
     have p1 : (0 : Int) < ((dec z.natAbs).length : Int) + 1 := by omega
     rw [w_loop]
     simp (maxSteps := 1000000) (disch := omega) only [go_sem, cast1, p1, hx0, e45, Int.zero_add, l1]
    ·have e : itxt z = dec z.natAbs := if_neg c
     rw [e]
     obtain ⟨x, r, hxr⟩ := List.exists_cons_of_ne_nil (dec_ne z.natAbs)
     rw [e, hxr] at hlen
     rw [hxr] at hd hv ⊢
     have l1 := rtoint_loopP hd (by omega) (by omega) ⟨h.length, h.length, 0, none⟩ h (x :: r).length 0 (by omega) (by omega)
     rw [hv, List.take_zero, dv_nil] at l1
     have ez : ((z.natAbs : Nat) : Int) = z := by omega
     rw [ez] at l1
     exact l1
   rw [run_closed (x := x43) rfl rfl rfl rfl]
   simp (maxSteps := 1000000) (disch := omega) only [go_sem, x43, v1, c1, k1, c2, k2, lp]
theorem rtoint_bad {s : List UInt8} (hs : s.length ≤ 9223372036854775807) (hv : validS s = false) (h : Heap) (lo : Nat) : (run lib).fn 43 [.str s] h lo = some (.tuple [.int .i64 0, .int .i64 30], h) := by
 have v1 := fun H lo => rvalid_run hs H lo
 rw [hv] at v1
 rw [run_closed (x := x43) rfl rfl rfl rfl]
 simp (maxSteps := 1000000) (disch := omega) only [go_sem, x43, v1]
end Go.VI.Rational
namespace Go.VI.Rational
open Go.VI.Num
set_option linter.unusedVariables false
set_option linter.unusedSimpArgs false

/- BIGSTEPS -/
def MOk (s t : List UInt8) (w v : Int) : Prop := ∃ x y : Int, (∀ H lo, (run lib).fn 43 [.str s] H lo = some (.tuple [.int .i64 x, .int .i64 0], H)) ∧ (∀ H lo, (run lib).fn 43 [.str t] H lo = some (.tuple [.int .i64 y, .int .i64 0], H)) ∧
 (∀ H lo, (run lib).fn 17 [.agg [.str s, .str t]] H lo = some (.bool true, H)) ∧ x * v = w * y ∧ ¬ y < 1 ∧ -9000000000000000000 ≤ w * y ∧ w * y ≤ 9000000000000000000
theorem toT_small {z : Int} (h : z.natAbs ≤ 1800000000) : toT z = .tuple [.int .i64 z, .int .i64 0] := if_pos ⟨by omega, by omega⟩
theorem mok {w v : Int} (hv : v ≠ 0) (hw : w.natAbs ≤ 1800000000) (hv2 : v.natAbs ≤ 900000000) : MOk (itxt (Rat.divInt w v).num) (itxt ((Rat.divInt w v).den : Int)) w v := by
 obtain ⟨x, y, e1, e2, h1, h2, h3, h4, h5, h6⟩ := mach_one hv hw hv2
 have f1 : Fit x := small_fit (by omega)
 have f2 : Fit y := small_fit (by omega)
 have fq : FitQ (Rat.divInt w v) := ⟨by rw [e1]; exact f1, by have := f2; unfold Fit at this; rw [← e2, Int.natAbs_natCast] at this; exact this⟩
 have va := fun H lo => qvalid_run (itxt (Rat.divInt w v).num) (itxt ((Rat.divInt w v).den : Int)) H lo
 rw [rvalid_itxt fq] at va
 rw [e1, e2] at va ⊢
 refine ⟨x, y, fun H lo => ?_, fun H lo => ?_, va, h1, by omega, by omega, by omega⟩
 ·rw [rtoint_run f1, toT_small h3]
 ·rw [rtoint_run f2, toT_small (by omega)]
set_option maxHeartbeats 4000000 in
theorem mach_loop (h : Heap) {n d m c w0 v0 w1 v1 w2 v2 w3 v3 e3 : Int} {s0 t0 s1 t1 s2 t2 s3 t3 : List UInt8} (k0 : MOk s0 t0 w0 v0) (k1 : MOk s1 t1 w1 v1) (k2 : MOk s2 t2 w2 v2) (k3 : (m = 0 ∧ s3 = [] ∧ t3 = [] ∧ e3 = 40) ∨ (¬ m = 0 ∧ e3 = 0 ∧ MOk s3 t3 w3 v3)) (A B : Nat × Blk) (u9 u10 u11 u12 u13 : AV) :
  runC lib ⟨h.length, h.length, 5, none⟩ (.loop b7_0) ([(0, .int .i64 n), (1, .int .i64 d), (2, .int .i64 m), (3, .int .i64 c), (9, u9), (10, u10), (11, u11), (12, u12), (13, u13), (14, .bptr (h.length + 1) 1 0), (15, .bptr (h.length + 2) 1 0), (16, .bptr (h.length + 0) 1 0), (17, .int .i64 0)],
    h ++ [(1, .box [.int .i64 w0, .int .i64 v0, .int .i64 w1, .int .i64 v1, .int .i64 w2, .int .i64 v2, .int .i64 w3, .int .i64 v3]), (1, .box [.str s0, .str t0, .str s1, .str t1, .str s2, .str t2, .str s3, .str t3]), (1, .box [.int .i64 0, .int .i64 0, .int .i64 0, .int .i64 e3]), B, A]) =
   some (.exit 0, ([(0, .int .i64 n), (1, .int .i64 d), (2, .int .i64 m), (3, .int .i64 c), (9, u9), (10, u10), (11, u11), (12, u12), (13, u13)],
    h ++ [(1, .box [.int .i64 w0, .int .i64 v0, .int .i64 w1, .int .i64 v1, .int .i64 w2, .int .i64 v2, .int .i64 w3, .int .i64 v3]), (1, .box [.str s0, .str t0, .str s1, .str t1, .str s2, .str t2, .str s3, .str t3]), (1, .box [.int .i64 0, .int .i64 0, .int .i64 0, .int .i64 e3]), B, A])) := by
 obtain ⟨x0, y0, a0, b0, c0, l0, g0, p0, q0⟩ := k0
 obtain ⟨x1, y1, a1, b1, c1, l1, g1, p1, q1⟩ := k1
 obtain ⟨x2, y2, a2, b2, c2, l2, g2, p2, q2⟩ := k2
 rw [w_loop]
 simp (maxSteps := 30000000) (disch := omega) only [go_sem, a0, b0, c0, l0, g0]
 rw [w_loop]
 simp (maxSteps := 30000000) (disch := omega) only [go_sem, a1, b1, c1, l1, g1]
 rw [w_loop]
 simp (maxSteps := 30000000) (disch := omega) only [go_sem, a2, b2, c2, l2, g2]
 have nil1 : eqvv true [.s, .s] (.agg [.str [], .str []]) (.agg [.str [], .str []]) = some (.bool false) := by rw [eq_fr]; rfl
 rcases k3 with ⟨rfl, rfl, rfl, rfl⟩ | ⟨hm, rfl, x3, y3, a3, b3, c3, l3, g3, p3, q3⟩
 ·rw [w_loop]
  simp (maxSteps := 30000000) (disch := omega) only [go_sem, nil1]
  rw [w_loop]
  simp (maxSteps := 30000000) (disch := omega) only [go_sem]
 ·rw [w_loop]
  simp (maxSteps := 30000000) (disch := omega) only [go_sem, hm, a3, b3, c3, l3, g3]
  rw [w_loop]
  simp (maxSteps := 30000000) (disch := omega) only [go_sem]
theorem mach_cmp {n d m c : Int} (hd : 0 < d) (hc : 0 < c) : cmpQ (Rat.divInt n d) (Rat.divInt m c) = if n * c < m * d then -1 else if m * d < n * c then 1 else 0 := by
 rw [cmpQ_divInt hd hc]
 unfold cmpN
 by_cases h1 : n * c < m * d
 ·rw [if_pos h1, if_pos h1]
 ·rw [if_neg h1, if_neg h1]
  by_cases h2 : n * c = m * d
  ·rw [if_pos h2, if_neg (by omega)]
  ·rw [if_neg h2, if_pos (by omega)]
set_option maxHeartbeats 4000000 in
theorem machine_run {n0 d0 m0 c0 : Int} (hn0 : I64 n0) (hd0 : I64 d0) (hm0 : I64 m0) (hc0 : I64 c0) (h : Heap) (lo : Nat) : (run lib).fn 7 [.int .i64 n0, .int .i64 d0, .int .i64 m0, .int .i64 c0] h lo = some (.bool true, h) := by
 have sa := fun H lo => sane_run H lo
 have pf1 := fun H lo => lpick_run (n := 60001) (by decide) hn0 H lo
 have pf2 := fun H lo => lpick_run (n := 30000) (by decide) hd0 H lo
 have pf3 := fun H lo => lpick_run (n := 60001) (by decide) hm0 H lo
 have pf4 := fun H lo => lpick_run (n := 30000) (by decide) hc0 H lo
 have r1 := pk_range n0 (n := 60001) (by decide)
 have r2 := pk_range d0 (n := 30000) (by decide)
 have r3 := pk_range m0 (n := 60001) (by decide)
 have r4 := pk_range c0 (n := 30000) (by decide)
 generalize pk n0 60001 = n1 at *
 generalize pk d0 30000 = d1 at *
 generalize pk m0 60001 = m1 at *
 generalize pk c0 30000 = c1 at *
 obtain ⟨n, en⟩ : ∃ n, n1 - 30000 = n := ⟨_, rfl⟩
 obtain ⟨d, ed⟩ : ∃ d, 1 + d1 = d := ⟨_, rfl⟩
 obtain ⟨m, em⟩ : ∃ m, m1 - 30000 = m := ⟨_, rfl⟩
 obtain ⟨c, ec⟩ : ∃ c, 1 + c1 = c := ⟨_, rfl⟩
 have hn : n.natAbs ≤ 30000 := by omega
 have hm : m.natAbs ≤ 30000 := by omega
 have hd : d.natAbs ≤ 30000 := by omega
 have hc : c.natAbs ≤ 30000 := by omega
 have d0 : 0 < d := by omega
 have c0 : 0 < c := by omega
 have sA := sm_of (show d ≠ 0 by omega) hn hd
 have sB := sm_of (show c ≠ 0 by omega) hm hc
 have o1 := fun H lo => qof_run (n := n) (d := d) (small_fit (by omega)) (small_fit (by omega)) ⟨by omega, by omega⟩ ⟨by omega, by omega⟩ H lo
 have o2 := fun H lo => qof_run (n := m) (d := c) (small_fit (by omega)) (small_fit (by omega)) ⟨by omega, by omega⟩ ⟨by omega, by omega⟩ H lo
 unfold makeQ at o1 o2
 rw [if_neg (show ¬ d = 0 by omega)] at o1
 rw [if_neg (show ¬ c = 0 by omega)] at o2
 have fr := fun H lo => four_run sA.fit sB.fit H lo
 obtain ⟨a1, a2, a3, a4⟩ := sm_ops sA sB
 obtain ⟨b1, b2, b3, b4, b5⟩ := mach_vals (n := n) (m := m) (show d ≠ 0 by omega) (show c ≠ 0 by omega)
 rw [a1, a2, a3, a4, b1, b2, b3, b4] at fr
 have cm := fun H lo => qcompare_run sA.fit sB.fit H lo
 rw [mach_cmp d0 c0] at cm
 have p1 := sm_prod hn hc
 have p2 := sm_prod hm hd
 have p3 := sm_prod hd hc
 have p4 := sm_prod hn hm
 have p5 := sm_prod hd hm
 have hv1 : d * c ≠ 0 := Int.mul_ne_zero (by omega) (by omega)
 have k0 := mok (w := n * c + m * d) hv1 (by omega) p3
 have k1 := mok (w := n * c - m * d) hv1 (by omega) p3
 have k2 := mok (w := n * m) hv1 (by omega) p3
 have k3 : m ≠ 0 → MOk (itxt (Rat.divInt (n * c) (d * m)).num) (itxt ((Rat.divInt (n * c) (d * m)).den : Int)) (n * c) (d * m) := fun hm0 => mok (Int.mul_ne_zero (by omega) hm0) (by omega) p5
 have lp := fun (e3 : Int) (s3 t3 : List UInt8) k => mach_loop h (n := n) (d := d) (m := m) (c := c) (e3 := e3) (s3 := s3) (t3 := t3) (w3 := n * c) (v3 := d * m) k0 k1 k2 k
 clear k0 k1 k2 a1 a2 a3 a4 b1 b2 b3 b4
 simp only [resO, rt, frV] at o1 o2 fr cm
 generalize itxt (Rat.divInt n d).num = A1 at *
 generalize itxt ((Rat.divInt n d).den : Int) = A2 at *
 generalize itxt (Rat.divInt m c).num = B1 at *
 generalize itxt ((Rat.divInt m c).den : Int) = B2 at *
 have hs : (n * c < m * d ∧ ¬ m * d < n * c) ∨ (¬ n * c < m * d ∧ m * d < n * c) ∨ (¬ n * c < m * d ∧ ¬ m * d < n * c) := by omega
 by_cases hm0 : m = 0
 ·have lp' := lp 40 [] [] (.inl ⟨hm0, rfl, rfl, rfl⟩)
  rw [if_pos (b5.mpr hm0)] at fr
  simp only [fourV, List.cons_append, List.nil_append] at fr
  clear lp k3 sA sB b5
  generalize itxt (Rat.divInt (n * c + m * d) (d * c)).num = C1 at *
  generalize itxt ((Rat.divInt (n * c + m * d) (d * c)).den : Int) = C2 at *
  generalize itxt (Rat.divInt (n * c - m * d) (d * c)).num = D1 at *
  generalize itxt ((Rat.divInt (n * c - m * d) (d * c)).den : Int) = D2 at *
  generalize itxt (Rat.divInt (n * m) (d * c)).num = E1 at *
  generalize itxt ((Rat.divInt (n * m) (d * c)).den : Int) = E2 at *
  rcases hs with ⟨h1, h2⟩ | ⟨h1, h2⟩ | ⟨h1, h2⟩ <;> simp only [h1, h2, if_true, if_false] at cm <;> rw [run_closed (x := x7) rfl rfl rfl rfl] <;>
   simp (maxSteps := 30000000) (disch := omega) only [go_sem, x7, sa, pf1, pf2, pf3, pf4, en, ed, em, ec, o1, o2, fr, lp', cm, h1, h2]
 ·have k4 := k3 hm0
  rw [if_neg (fun e => hm0 (b5.mp e))] at fr
  simp only [fourV, List.cons_append, List.nil_append] at fr
  clear sA sB b5 k3
  generalize itxt (Rat.divInt (n * c) (d * m)).num = F1 at *
  generalize itxt ((Rat.divInt (n * c) (d * m)).den : Int) = F2 at *
  have lp' := lp 0 F1 F2 (.inr ⟨hm0, rfl, k4⟩)
  clear lp k4
  generalize itxt (Rat.divInt (n * c + m * d) (d * c)).num = C1 at *
  generalize itxt ((Rat.divInt (n * c + m * d) (d * c)).den : Int) = C2 at *
  generalize itxt (Rat.divInt (n * c - m * d) (d * c)).num = D1 at *
  generalize itxt ((Rat.divInt (n * c - m * d) (d * c)).den : Int) = D2 at *
  generalize itxt (Rat.divInt (n * m) (d * c)).num = E1 at *
  generalize itxt ((Rat.divInt (n * m) (d * c)).den : Int) = E2 at *
  rcases hs with ⟨h1, h2⟩ | ⟨h1, h2⟩ | ⟨h1, h2⟩ <;> simp only [h1, h2, if_true, if_false] at cm <;> rw [run_closed (x := x7) rfl rfl rfl rfl] <;>
   simp (maxSteps := 30000000) (disch := omega) only [go_sem, x7, sa, pf1, pf2, pf3, pf4, en, ed, em, ec, o1, o2, fr, lp', cm, h1, h2]
def shMachine : List Shp := [.int .i64, .int .i64, .int .i64, .int .i64]
theorem walkMachine (xs : List AV) (ht : TyA shMachine xs) : ∃ h', (run lib).fn 7 xs [] 0 = some (.bool true, h') := by
 simp only [shMachine, TyA] at ht
 obtain ⟨c0, r0, rfl, t0, c1, r1, rfl, t1, c2, r2, rfl, t2, c3, r3, rfl, t3, rfl⟩ := ht
 obtain ⟨n, e0, hn⟩ := int_of' t0
 obtain ⟨d, e1, hd⟩ := int_of' t1
 obtain ⟨m, e2, hm⟩ := int_of' t2
 obtain ⟨c, e3, hc⟩ := int_of' t3
 rw [e0, e1, e2, e3]
 exact ⟨_, machine_run hn hd hm hc [] 0⟩
end Go.VI.Rational
