/- What the functions on integers compute, part ML. -/
import Derived.Test.YtaadgpncmiaccaaGreatDoorRationalMS
set_option linter.unusedSimpArgs false
set_option linter.unusedVariables false
namespace Go.VI.Rational
open Go.VI.Num
set_option linter.unusedVariables false
set_option linter.unusedSimpArgs false

theorem pten_fit {k : Nat} : Fit ((10 : Int) ^ k) ↔ k < 200 := by
 unfold Fit; rw [p10_abs]; exact Nat.pow_lt_pow_iff_right (by decide)
theorem one_fit : Fit (1 : Int) := by unfold Fit; decide
theorem rp_num (n : Nat) : ((10 ^ n : Int) : Rat).num = 10 ^ n := Rat.num_intCast _
theorem rp_den (n : Nat) : (((10 ^ n : Int) : Rat).den : Int) = 1 := by rw [Rat.den_intCast]; rfl
theorem un_nd (m : Nat) : (Rat.divInt 1 (10 ^ m)).num = 1 ∧ ((Rat.divInt 1 (10 ^ m)).den : Int) = 10 ^ m := by
 have h0 := pow10_pos m
 have h1 := divInt_num (n := 1) h0
 have h2 := divInt_den (n := 1) h0
 have hg : Int.gcd 1 (10 ^ m) = 1 := Int.one_gcd
 rw [hg] at h1 h2
 exact ⟨h1, h2.trans (Int.ediv_one _)⟩
theorem lim_mul (n m : Nat) : mulQ ((10 ^ n : Int) : Rat) ((10 ^ m : Int) : Rat) = if n + m < 200 then some (((10 ^ n : Int) : Rat) * ((10 ^ m : Int) : Rat)) else none := by
 unfold mulQ
 rw [rp_num, rp_num, rp_den, rp_den, ← Int.pow_add, Int.mul_one]
 by_cases c : n + m < 200
 ·rw [fitZ_t (pten_fit.mpr c), fitZ_t one_fit, if_pos c]; rfl
 ·rw [fitZ_f (fun h => c (pten_fit.mp h)), if_neg c]; rfl
theorem lim_div {m : Nat} (hm : m < 200) : divQ 1 ((10 ^ m : Int) : Rat) = some (Rat.divInt 1 (10 ^ m)) := by
 unfold divQ
 rw [rp_num, rp_den]
 have e1 : (1 : Rat).num * (1 : Int) = 1 := rfl
 have e2 : ((1 : Rat).den : Int) * 10 ^ m = 10 ^ m := Int.one_mul _
 have hp := pow10_rat m
 have h0 : ((10 ^ m : Int) : Rat) ≠ 0 := fun e => by rw [e] at hp; exact absurd hp (by decide)
 rw [e1, e2, fitZ_t one_fit, fitZ_t (pten_fit.mpr hm), decide_eq_true h0]
 simp only [Bool.and_self, if_true]
 rw [Rat.divInt_eq_div]; rfl
theorem pten1_fit {k : Nat} (h : k < 200) : Fit ((10 : Int) ^ k + 1) := by
 have h1 : (10 : Nat) ^ k ≤ 10 ^ 199 := pow_fit (by omega)
 have h2 : (10 : Nat) ^ 200 = 10 * 10 ^ 199 := by rw [Nat.pow_succ, Nat.mul_comm]
 have h3 : (10 : Nat) ^ 1 ≤ 10 ^ 199 := pow_fit (by decide)
 have h4 := p10_abs k
 unfold Fit
 omega
theorem lim_add (n : Nat) {m : Nat} (hm : m < 200) : addQ ((10 ^ n : Int) : Rat) (Rat.divInt 1 (10 ^ m)) = if n + m < 200 then some (((10 ^ n : Int) : Rat) + Rat.divInt 1 (10 ^ m)) else none := by
 unfold addQ
 rw [rp_num, rp_den, (un_nd m).1, (un_nd m).2, ← Int.pow_add, Int.one_mul, Int.one_mul]
 by_cases c : n + m < 200
 ·rw [fitZ_t (pten_fit.mpr c), fitZ_t one_fit, fitZ_t (pten1_fit c), fitZ_t (pten_fit.mpr hm), if_pos c]; rfl
 ·rw [fitZ_f (fun h => c (pten_fit.mp h)), if_neg c]; rfl
theorem pten_lt {n m : Nat} : (10 : Int) ^ n < 10 ^ m ↔ n < m := by
 have h : (10 : Nat) ^ n < 10 ^ m ↔ n < m := Nat.pow_lt_pow_iff_right (by decide)
 rw [← h]
 have e1 : (10 : Int) ^ n = ((10 ^ n : Nat) : Int) := by rw [Int.natCast_pow]; rfl
 have e2 : (10 : Int) ^ m = ((10 ^ m : Nat) : Int) := by rw [Int.natCast_pow]; rfl
 rw [e1, e2]; omega
theorem lim_cmp1 (n m : Nat) : cmpQ ((10 ^ n : Int) : Rat) ((10 ^ m : Int) : Rat) = cmpN n m := by
 unfold cmpQ
 rw [rp_num, rp_num, rp_den, rp_den, Int.mul_one, Int.mul_one]
 unfold cmpN
 have h1 := pten_lt (n := n) (m := m)
 have h2 := pten_lt (n := m) (m := n)
 by_cases c : n < m
 ·rw [if_pos (h1.mpr c), if_pos (show (n : Int) < m by omega)]
 ·rw [if_neg (fun h => c (h1.mp h)), if_neg (show ¬ (n : Int) < m by omega)]
  by_cases d : n = m
  ·subst d; rw [if_pos rfl, if_pos rfl]
  ·have := h2.mpr (by omega)
   rw [if_neg (show ¬ (10 : Int) ^ n = 10 ^ m by omega), if_neg (show ¬ (n : Int) = m by omega)]
theorem lim_cmp2 (n m : Nat) : cmpQ ((10 ^ n : Int) : Rat) (Rat.divInt 1 (10 ^ m)) = if n = 0 ∧ m = 0 then 0 else 1 := by
 unfold cmpQ
 rw [rp_num, rp_den, (un_nd m).1, (un_nd m).2, ← Int.pow_add, Int.mul_one]
 unfold cmpN
 have h2 := pten_lt (n := 0) (m := n + m)
 have e0 : (10 : Int) ^ 0 = 1 := rfl
 rw [e0] at h2
 by_cases c : n + m = 0
 ·rw [if_pos (show n = 0 ∧ m = 0 by omega), c]; rfl
 ·have := h2.mpr (by omega)
  rw [if_neg (show ¬ (10 : Int) ^ (n + m) < 1 by omega), if_neg (show ¬ (10 : Int) ^ (n + m) = 1 by omega), if_neg (show ¬ (n = 0 ∧ m = 0) by omega)]
theorem fitP' {p : Nat} (hp : p < 200) : FitQ ((10 ^ p : Int) : Rat) := ⟨by rw [Rat.num_intCast]; exact pten_fit.mpr hp, by rw [Rat.den_intCast]; exact Nat.one_lt_pow (by decide) (by decide)⟩
theorem fitU {p : Nat} (hp : p < 200) : FitQ (Rat.divInt 1 (10 ^ p)) := by
 have h := un_nd p
 refine ⟨by rw [h.1]; exact one_fit, ?_⟩
 have h4 := p10_abs p
 have h5 : (10 : Nat) ^ p < 10 ^ 200 := Nat.pow_lt_pow_right (by decide) hp
 omega
end Go.VI.Rational
namespace Go.VI.Rational
open Go.VI.Num
set_option linter.unusedVariables false
set_option linter.unusedSimpArgs false

/- BIGSTEPS -/
theorem lim_loopA (cx : Cx) (H : Heap) (v1 v5 : AV) (n : Nat) (T : Nat → List UInt8) (hT : ∀ i, i < n → binv .add (.str (T i)) (.str [48]) = some (.str (T (i + 1)))) (hn : n < 200) : ∀ (k i : Nat), i + k = n →
  runC lib cx (.loop b5_1) ([(0, .int .i64 n), (1, v1), (5, v5), (6, .str (T i)), (7, .int .i64 i)], H) = some (.exit 0, ([(0, .int .i64 n), (1, v1), (5, v5), (6, .str (T n))], H)) := by
 intro k
 induction k with
 | zero =>
  intro i hi
  obtain rfl : i = n := by omega
  rw [w_loop]
  simp (maxSteps := 30000000) (disch := omega) only [go_sem, Int.lt_irrefl]
 | succ k ih =>
  intro i hi
  have c1 : (i : Int) < n := by omega
  have k1 := ih (i + 1) (by omega)
  have ad := hT i (by omega)
  rw [cast1] at k1
  rw [w_loop]
  simp (maxSteps := 30000000) (disch := omega) only [go_sem, c1, ad, k1]
theorem lim_loopB (cx : Cx) (H : Heap) (v0 v5 v6 : AV) (n : Nat) (T : Nat → List UInt8) (hT : ∀ i, i < n → binv .add (.str (T i)) (.str [48]) = some (.str (T (i + 1)))) (hn : n < 200) : ∀ (k i : Nat), i + k = n →
  runC lib cx (.loop b5_0) ([(0, v0), (1, .int .i64 n), (5, v5), (6, v6), (8, .str (T i)), (9, .int .i64 i)], H) = some (.exit 2, ([(0, v0), (1, .int .i64 n), (5, v5), (6, v6), (8, .str (T n))], H)) := by
 intro k
 induction k with
 | zero =>
  intro i hi
  obtain rfl : i = n := by omega
  rw [w_loop]
  simp (maxSteps := 30000000) (disch := omega) only [go_sem, Int.lt_irrefl]
 | succ k ih =>
  intro i hi
  have c1 : (i : Int) < n := by omega
  have k1 := ih (i + 1) (by omega)
  have ad := hT i (by omega)
  rw [cast1] at k1
  rw [w_loop]
  simp (maxSteps := 30000000) (disch := omega) only [go_sem, c1, ad, k1]
theorem zeros_add {n : Nat} (hn : n < 200) (i : Nat) (hi : i < n) : binv .add (.str (49 :: List.replicate i 48)) (.str [48]) = some (.str (49 :: List.replicate (i + 1) 48)) := by rw [bin_sadd (by simp; omega), List.replicate_succ']; rfl
theorem lim_loop1 (cx : Cx) (H : Heap) (v1 v5 : AV) {n : Nat} (hn : n < 200) {N : Int} (hN : (n : Int) = N) :
  runC lib cx (.loop b5_1) ([(0, .int .i64 N), (1, v1), (5, v5), (6, .str [49]), (7, .int .i64 0)], H) = some (.exit 0, ([(0, .int .i64 N), (1, v1), (5, v5), (6, .str (itxt (p10 n)))], H)) := by
 rw [← p10_txt, ← hN]
 exact lim_loopA cx H v1 v5 n (fun i => 49 :: List.replicate i 48) (zeros_add hn) hn n 0 (by omega)
theorem lim_loop2 (cx : Cx) (H : Heap) (v0 v5 v6 : AV) {n : Nat} (hn : n < 200) {N : Int} (hN : (n : Int) = N) :
  runC lib cx (.loop b5_0) ([(0, v0), (1, .int .i64 N), (5, v5), (6, v6), (8, .str [49]), (9, .int .i64 0)], H) = some (.exit 2, ([(0, v0), (1, .int .i64 N), (5, v5), (6, v6), (8, .str (itxt (p10 n)))], H)) := by
 rw [← p10_txt, ← hN]
 exact lim_loopB cx H v0 v5 v6 n (fun i => 49 :: List.replicate i 48) (zeros_add hn) hn n 0 (by omega)
set_option maxHeartbeats 4000000 in
theorem limits_run {n0 m0 : Int} (hn0 : I64 n0) (hm0 : I64 m0) (h : Heap) (lo : Nat) : (run lib).fn 5 [.int .i64 n0, .int .i64 m0] h lo = some (.bool true, h) := by
 have sa := fun H lo => sane_run H lo
 have i1 := fun a b H lo => lis_run a b H lo
 have pf1 := fun H lo => lpick_run (n := 200) (by decide) hn0 H lo
 have pf2 := fun H lo => lpick_run (n := 200) (by decide) hm0 H lo
 have r1 := pk_range n0 (n := 200) (by decide)
 have r2 := pk_range m0 (n := 200) (by decide)
 generalize pk n0 200 = N at *
 generalize pk m0 200 = M at *
 obtain ⟨n, en⟩ : ∃ n : Nat, (n : Int) = N := ⟨N.toNat, by omega⟩
 obtain ⟨m, em⟩ : ∃ m : Nat, (m : Int) = M := ⟨M.toNat, by omega⟩
 have hn : n < 200 := by omega
 have hm : m < 200 := by omega
 have l1 := fun cx H v1 v5 => lim_loop1 cx H v1 v5 hn en
 have l2 := fun cx H v0 v5 v6 => lim_loop2 cx H v0 v5 v6 hm em
 have s1 := fun H lo => qmul_run (fitP' hn) (fitP' hm) H lo
 have s2 := fun H lo => qdiv_run f1 (fitP' hm) H lo
 have s3 := fun H lo => qadd_run (fitP' hn) (fitU hm) H lo
 have s4 := fun H lo => qcompare_run (fitP' hn) (fitP' hm) H lo
 have s5 := fun H lo => qcompare_run (fitP' hn) (fitU hm) H lo
 rw [lim_mul] at s1
 rw [lim_div hm] at s2
 rw [lim_add n hm] at s3
 rw [lim_cmp1, en, em] at s4
 rw [lim_cmp2] at s5
 have w1 : rt 1 = .agg [.str [49], .str [49]] := rfl
 simp only [resO, ratp, unit_rt, w1] at s1 s2 s3 s4 s5
 have nil1 : eqvv true [.s, .s] (.agg [.str [], .str []]) (.agg [.str [], .str []]) = some (.bool false) := by rw [eq_fr]; rfl
 have cc := cmpN_cases N M
 generalize cmpN N M = c at *
 by_cases cz : n = 0 ∧ m = 0
 ·obtain ⟨rfl, rfl⟩ := cz
  obtain rfl : N = 0 := en.symm
  obtain rfl : M = 0 := em.symm
  have e0 : c = 0 := by
   rcases cc with ⟨_, h⟩ | ⟨h, _⟩ | ⟨_, h⟩
   ·exact absurd h (Int.lt_irrefl _)
   ·exact h
   ·exact absurd h (Int.lt_irrefl _)
  subst e0
  simp only [Nat.add_zero, if_pos (show 0 < 200 by decide), and_self, if_true] at s1 s3 s5
  simp only [resO, rt, frV] at s1 s3
  rw [run_closed (x := x5) rfl rfl rfl rfl]
  simp (maxSteps := 30000000) (disch := omega) only [go_sem, x5, sa, i1, pf1, pf2, l1, l2, s1, s2, s3, s4, s5, beq_self_eq_true, Bool.not_true, Bool.not_false]
 ·rw [if_neg cz] at s5
  have nz : N = 0 → ¬ M = 0 := fun a b => cz ⟨by omega, by omega⟩
  by_cases cf : n + m < 200
  ·rw [if_pos cf] at s1 s3
   simp only [resO, rt, frV] at s1 s3
   have cf' : N + M + 1 ≤ 200 := by omega
   generalize itxt (p10 n) = A at *
   generalize itxt (p10 m) = B at *
   by_cases cn : N = 0
   ·have cm := nz cn
    subst cn
    rcases cc with ⟨rfl, h1⟩ | ⟨rfl, h1⟩ | ⟨rfl, h1⟩
    ·rw [run_closed (x := x5) rfl rfl rfl rfl]
     simp (maxSteps := 30000000) (disch := omega) only [go_sem, x5, sa, i1, pf1, pf2, l1, l2, s1, s2, s3, s4, s5, beq_self_eq_true, Bool.not_true, Bool.not_false, cf', h1, cm]
    ·omega
    ·omega
   ·rcases cc with ⟨rfl, h1⟩ | ⟨rfl, h1⟩ | ⟨rfl, h1⟩
    ·rw [run_closed (x := x5) rfl rfl rfl rfl]
     simp (maxSteps := 30000000) (disch := omega) only [go_sem, x5, sa, i1, pf1, pf2, l1, l2, s1, s2, s3, s4, s5, beq_self_eq_true, Bool.not_true, Bool.not_false, cf', h1, cn]
    ·have h2 : ¬ N < M := by omega
     have h3 : ¬ M < N := by omega
     rw [run_closed (x := x5) rfl rfl rfl rfl]
     simp (maxSteps := 30000000) (disch := omega) only [go_sem, x5, sa, i1, pf1, pf2, l1, l2, s1, s2, s3, s4, s5, beq_self_eq_true, Bool.not_true, Bool.not_false, cf', h2, h3, cn]
    ·have h2 : ¬ N < M := by omega
     rw [run_closed (x := x5) rfl rfl rfl rfl]
     simp (maxSteps := 30000000) (disch := omega) only [go_sem, x5, sa, i1, pf1, pf2, l1, l2, s1, s2, s3, s4, s5, beq_self_eq_true, Bool.not_true, Bool.not_false, cf', h1, h2, cn]
  ·rw [if_neg cf] at s1 s3
   simp only [resO, rt, frV] at s1 s3
   have cf' : ¬ N + M + 1 ≤ 200 := by omega
   have cn : ¬ N = 0 := by omega
   generalize itxt (p10 n) = A at *
   generalize itxt (p10 m) = B at *
   rcases cc with ⟨rfl, h1⟩ | ⟨rfl, h1⟩ | ⟨rfl, h1⟩
   ·rw [run_closed (x := x5) rfl rfl rfl rfl]
    simp (maxSteps := 30000000) (disch := omega) only [go_sem, x5, sa, i1, pf1, pf2, l1, l2, s1, s2, s3, s4, s5, beq_self_eq_true, Bool.not_true, Bool.not_false, cf', h1, cn, nil1]
   ·have h2 : ¬ N < M := by omega
    have h3 : ¬ M < N := by omega
    rw [run_closed (x := x5) rfl rfl rfl rfl]
    simp (maxSteps := 30000000) (disch := omega) only [go_sem, x5, sa, i1, pf1, pf2, l1, l2, s1, s2, s3, s4, s5, beq_self_eq_true, Bool.not_true, Bool.not_false, cf', h2, h3, cn, nil1]
   ·have h2 : ¬ N < M := by omega
    rw [run_closed (x := x5) rfl rfl rfl rfl]
    simp (maxSteps := 30000000) (disch := omega) only [go_sem, x5, sa, i1, pf1, pf2, l1, l2, s1, s2, s3, s4, s5, beq_self_eq_true, Bool.not_true, Bool.not_false, cf', h1, h2, cn, nil1]
def shLimits : List Shp := [.int .i64, .int .i64]
theorem walkLimits (xs : List AV) (ht : TyA shLimits xs) : ∃ h', (run lib).fn 5 xs [] 0 = some (.bool true, h') := by
 simp only [shLimits, TyA] at ht
 obtain ⟨c0, r0, rfl, t0, c1, r1, rfl, t1, rfl⟩ := ht
 obtain ⟨n, e0, hn⟩ := int_of' t0
 obtain ⟨m, e1, hm⟩ := int_of' t1
 rw [e0, e1]
 exact ⟨_, limits_run hn hm [] 0⟩
end Go.VI.Rational
