/- What the functions on integers compute, part MT. -/
import Derived.Test.YtaadgpncmiaccaaGreatDoorRationalMS
set_option linter.unusedSimpArgs false
set_option linter.unusedVariables false
namespace Go.VI.Rational
open Go.VI.Num
set_option linter.unusedVariables false
set_option linter.unusedSimpArgs false

theorem mulk_fit {a k : Int} (ha : a.natAbs < 10 ^ 100) (hk : k.natAbs ≤ 1000000) : Fit (a * k) := by
 unfold Fit
 rw [Int.natAbs_mul]
 have e6 : (10 : Nat) ^ 6 = 1000000 := by decide
 have h1 : a.natAbs * k.natAbs ≤ a.natAbs * 10 ^ 6 := Nat.mul_le_mul_left _ (by omega)
 have h2 : a.natAbs * 10 ^ 6 < 10 ^ 100 * 10 ^ 6 := Nat.mul_lt_mul_of_pos_right ha (by decide)
 rw [← Nat.pow_add] at h2
 exact Nat.lt_of_lt_of_le (Nat.lt_of_le_of_lt h1 h2) (Nat.pow_le_pow_right (by decide) (by decide))
theorem lowest_run {x0 x1 x2 x3 f : Int} (i0 : I64 x0) (i1 : I64 x1) (i2 : I64 x2) (i3 : I64 x3) (hf : I64 f) (sg : Bool) (h : Heap) (lo : Nat) : (run lib).fn 4 [.agg [.int .i64 x0, .int .i64 x1, .int .i64 x2, .int .i64 x3], .int .i64 f, .bool sg] h lo = some (.bool true, h) := by
 have sa := fun H lo => sane_run H lo
 have lg := fun H lo => long_run i0 i1 i2 i3 H lo
 have fq := longQ_fit x0 x1 x2 x3
 generalize longQ x0 x1 x2 x3 = r at *
 have pf := fun H lo => lpick_run (n := 1000000) (by decide) hf H lo
 have pr := pk_range f (n := 1000000) (by decide)
 generalize pk f 1000000 = y at *
 have is0 := fun H lo => lis_run [48] [49] H lo
 have hv := rvalid_itxt fq.fit
 have va := fun H lo => qvalid_run (itxt r.num) (itxt (r.den : Int)) H lo
 rw [hv] at va
 have cm := fun H lo => qcompare_run fq.fit fq.fit H lo
 rw [cmpQ_self] at cm
 have pt := fun H lo => qprint_run (itxt r.num) (itxt (r.den : Int)) H lo
 have m2 := fun H lo => qmake_run fq.fit.1 (den_fit fq.fit) H lo
 unfold makeQ at m2
 rw [if_neg (den_ne r), q_self] at m2
 have key : ∀ k : Int, k ≠ 0 → k.natAbs ≤ 1000000 → (∀ H lo, (run lib).fn 20 [.int .i64 k] H lo = some (.str (itxt k), H)) ∧
   (∀ H lo, (run lib).fn 21 [.str (itxt r.num), .str (itxt k)] H lo = some (.tuple [.str (itxt (r.num * k)), .int .i64 0], H)) ∧
   (∀ H lo, (run lib).fn 21 [.str (itxt (r.den : Int)), .str (itxt k)] H lo = some (.tuple [.str (itxt ((r.den : Int) * k)), .int .i64 0], H)) ∧
   (∀ H lo, (run lib).fn 22 [.str (itxt (r.num * k)), .str (itxt ((r.den : Int) * k))] H lo = some (resO (some r), H)) ∧
   (∀ H lo, (run lib).fn 22 [.str [48], .str (itxt k)] H lo = some (.tuple [.agg [.str [48], .str [49]], .int .i64 0], H)) := by
  intro k hk hk2
  have kf : Fit k := small_fit (by omega)
  have f1 := mulk_fit fq.1 hk2
  have f2 := mulk_fit (a := (r.den : Int)) (by rw [Int.natAbs_natCast]; exact fq.2) hk2
  refine ⟨fun H lo => rfromint_run (by omega) (by omega) H lo, fun H lo => ?_, fun H lo => ?_, fun H lo => ?_, fun H lo => ?_⟩
  ·rw [rmul_run fq.fit.1 kf, outT_fit f1]
  ·rw [rmul_run (den_fit fq.fit) kf, outT_fit f2]
  ·have := qmake_run f1 f2 H lo
   unfold makeQ at this
   rw [if_neg (Int.mul_ne_zero (den_ne r) hk), q_lowest r hk] at this
   exact this
  ·have := qmake_run fit_zero kf H lo
   unfold makeQ at this
   rw [if_neg hk, Rat.zero_divInt, zero_txt] at this
   exact this
 simp only [resO, rt, frV] at *
 cases sg with
 | false =>
  obtain ⟨k1, k2, k3, k4, k5⟩ := key (1 + y) (by omega) (by omega)
  clear key
  generalize itxt r.num = N at *
  generalize itxt (r.den : Int) = D at *
  generalize itxt (r.num * (1 + y)) = NK at *
  generalize itxt ((r.den : Int) * (1 + y)) = DK at *
  generalize itxt (1 + y) = K at *
  rw [run_closed (x := x4) rfl rfl rfl rfl]
  simp (maxSteps := 1000000) (disch := omega) only [go_sem, x4, sa, lg, pf, k1, k2, k3, k4, k5, m2, eq_id, va, cm, is0, pt]
 | true =>
  obtain ⟨k1, k2, k3, k4, k5⟩ := key (-(1 + y)) (by omega) (by omega)
  clear key
  generalize itxt r.num = N at *
  generalize itxt (r.den : Int) = D at *
  generalize itxt (r.num * (-(1 + y))) = NK at *
  generalize itxt ((r.den : Int) * (-(1 + y))) = DK at *
  generalize itxt (-(1 + y)) = K at *
  rw [run_closed (x := x4) rfl rfl rfl rfl]
  simp (maxSteps := 1000000) (disch := omega) only [go_sem, x4, sa, lg, pf, k1, k2, k3, k4, k5, m2, eq_id, va, cm, is0, pt]
end Go.VI.Rational
namespace Go.VI.Rational
open Go.VI.Num
set_option linter.unusedVariables false

def shLowest : List Shp := [a4, .int .i64, .bool]
theorem walkLowest (xs : List AV) (ht : TyA shLowest xs) : ∃ h', (run lib).fn 4 xs [] 0 = some (.bool true, h') := by
 simp only [shLowest, TyA] at ht
 obtain ⟨c0, r0, rfl, t0, c1, r1, rfl, t1, c2, r2, rfl, t2, rfl⟩ := ht
 obtain ⟨a, b, d, e, e0, h0, h1, h2, h3⟩ := a4_of t0
 obtain ⟨n, e1, hn⟩ := int_of' t1
 obtain ⟨s, e2⟩ := b_of t2
 rw [e0, e1, e2]
 exact ⟨_, lowest_run h0 h1 h2 h3 hn s [] 0⟩
end Go.VI.Rational
