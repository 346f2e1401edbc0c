/- What the functions on integers compute, part MU. -/
import Derived.Test.YtaadgpncmiaccaaGreatDoorRationalMS
set_option linter.unusedSimpArgs false
set_option linter.unusedVariables false
namespace Go.VI.Rational
open Go.VI.Num
set_option linter.unusedVariables false
set_option linter.unusedSimpArgs false

/- BIGSTEPS -/
theorem grid_loopT (cx : Cx) (H : Heap) (v5 v6 : AV) (p : Nat) (hp : p ≤ 1000) (T : Nat → List UInt8) (hT : ∀ i, i < p → binv .add (.str (T i)) (.str [48]) = some (.str (T (i + 1)))) : ∀ (k i : Nat), i + k = p →
  runC lib cx (.loop b10_0) ([(1, .int .i64 p), (5, v5), (6, v6), (7, .str (T i)), (8, .int .i64 i)], H) = some (.exit 0, ([(1, .int .i64 p), (5, v5), (6, v6), (7, .str (T p))], H)) := by
 intro k
 induction k with
 | zero =>
  intro i hi
  obtain rfl : i = p := by omega
  rw [w_loop]
  simp (maxSteps := 30000000) (disch := omega) only [go_sem, Int.lt_irrefl]
 | succ k ih =>
  intro i hi
  have c1 : (i : Int) < p := by omega
  have k1 := ih (i + 1) (by omega)
  have ad := hT i (by omega)
  rw [cast1] at k1
  rw [w_loop]
  simp (maxSteps := 30000000) (disch := omega) only [go_sem, c1, ad, k1]
theorem grid_loop (cx : Cx) (H : Heap) (v5 v6 : AV) (p : Nat) (hp : p ≤ 1000) :
  runC lib cx (.loop b10_0) ([(1, .int .i64 p), (5, v5), (6, v6), (7, .str [49]), (8, .int .i64 0)], H) = some (.exit 0, ([(1, .int .i64 p), (5, v5), (6, v6), (7, .str (itxt (p10 p)))], H)) := by
 have := grid_loopT cx H v5 v6 p hp (fun i => 49 :: List.replicate i 48) (fun i hi => by rw [bin_sadd (by simp; omega), List.replicate_succ']; rfl) p 0 (by omega)
 rw [← p10_txt]
 exact this
theorem eq_idn (s t : List UInt8) : eqvv true [.s, .s] (.agg [.str s, .str t]) (.agg [.str s, .str t]) = some (.bool false) := by
 rw [eq_fr]; simp
def FitG (q : Rat) : Prop := q.num.natAbs < 10 ^ 130 ∧ q.den ≤ 10 ^ 30
theorem FitG.fit {q : Rat} (h : FitG q) : FitQ q := ⟨Nat.lt_of_lt_of_le h.1 (pow_fit (by decide)), Nat.lt_of_le_of_lt h.2 (Nat.pow_lt_pow_right (by decide) (by decide))⟩
theorem fitG_of {r : Rat} (hr : FitL r) {p : Nat} (hp : p ≤ 30) {z : Int} (hz : z.natAbs ≤ r.num.natAbs * 10 ^ p) : FitG (Rat.divInt z (10 ^ p)) := by
 have h0 := pow10_pos p
 obtain ⟨h1, h2⟩ := divInt_abs (n := z) (d := 10 ^ p) (by omega)
 rw [p10_abs] at h2
 refine ⟨Nat.lt_of_le_of_lt h1 (Nat.lt_of_le_of_lt hz ?_), Nat.le_trans h2 (pow_fit hp)⟩
 have h3 : r.num.natAbs * 10 ^ p ≤ r.num.natAbs * 10 ^ 30 := Nat.mul_le_mul_left _ (pow_fit hp)
 have h4 : r.num.natAbs * 10 ^ 30 < 10 ^ 100 * 10 ^ 30 := Nat.mul_lt_mul_of_pos_right hr.1 (Nat.pow_pos (by decide))
 rw [← Nat.pow_add] at h4
 exact Nat.lt_of_le_of_lt h3 h4
theorem mulp_fit {q : Rat} {k : Nat} (hq : q.num.natAbs < 10 ^ k) (hk : k ≤ 150) {p : Nat} (hp : p ≤ 30) : Fit (q.num * 10 ^ p) := by
 unfold Fit
 rw [Int.natAbs_mul, p10_abs]
 have h4 : q.num.natAbs * 10 ^ p < 10 ^ k * 10 ^ p := Nat.mul_lt_mul_of_pos_right hq (Nat.pow_pos (by decide))
 rw [← Nat.pow_add] at h4
 exact Nat.lt_of_lt_of_le h4 (pow_fit (by omega))
theorem grid_some {q : Rat} {k : Nat} (hq : q.num.natAbs < 10 ^ k) (hk : k ≤ 150) {p : Nat} (hp : p ≤ 30) (up : Bool) : gridQ q p up = some (if up then upQ q p else dnQ q p) := by
 unfold gridQ
 rw [fitZ_t (mulp_fit hq hk hp), if_pos rfl]
theorem neg_fitL {q : Rat} (h : FitL q) : FitL (-q) := ⟨by rw [Rat.neg_num, Int.natAbs_neg]; exact h.1, h.2⟩
theorem fitP {p : Nat} (hp : p ≤ 30) : FitQ ((10 ^ p : Int) : Rat) := ⟨by rw [Rat.num_intCast, p10_abs]; exact Nat.pow_lt_pow_right (by decide) (by omega), by rw [Rat.den_intCast]; exact Nat.one_lt_pow (by decide) (by decide)⟩
theorem sub_grid {a b : Rat} (ha : FitG a) (hb : FitG b) : subQ b a = some (b - a) := by
 unfold subQ
 have m : ∀ {x : Rat} {y : Nat}, FitG x → y ≤ 10 ^ 30 → (x.num * (y : Int)).natAbs < 10 ^ 160 := fun {x y} hx hy => by
  rw [Int.natAbs_mul, Int.natAbs_natCast]
  have h3 : x.num.natAbs * y ≤ x.num.natAbs * 10 ^ 30 := Nat.mul_le_mul_left _ hy
  have h4 : x.num.natAbs * 10 ^ 30 < 10 ^ 130 * 10 ^ 30 := Nat.mul_lt_mul_of_pos_right hx.1 (Nat.pow_pos (by decide))
  rw [← Nat.pow_add] at h4
  exact Nat.lt_of_le_of_lt h3 h4
 have m1 := m hb ha.2
 have m2 := m ha hb.2
 have p160 : (10 : Nat) ^ 160 < 10 ^ 199 := Nat.pow_lt_pow_right (by decide) (by decide)
 have p200 : (10 : Nat) ^ 200 = 10 * 10 ^ 199 := by rw [Nat.pow_succ]
 have m3 : ((b.den : Int) * (a.den : Int)).natAbs ≤ 10 ^ 60 := by
  rw [Int.natAbs_mul, Int.natAbs_natCast, Int.natAbs_natCast]
  have := Nat.mul_le_mul hb.2 ha.2
  rwa [← Nat.pow_add] at this
 have p60 : (10 : Nat) ^ 60 < 10 ^ 199 := Nat.pow_lt_pow_right (by decide) (by decide)
 generalize b.num * (a.den : Int) = x at *
 generalize a.num * (b.den : Int) = y at *
 generalize (b.den : Int) * (a.den : Int) = z at *
 have f1 : Fit x := by unfold Fit; omega
 have f2 : Fit y := by unfold Fit; omega
 have f3 : Fit (x - y) := by unfold Fit; omega
 have f4 : Fit z := by unfold Fit; omega
 rw [fitZ_t f1, fitZ_t f2, fitZ_t f3, fitZ_t f4]; rfl
theorem mul_grid {a : Rat} (ha : FitG a) {p : Nat} (hp : p ≤ 30) : mulQ a ((10 ^ p : Int) : Rat) = some (a * ((10 ^ p : Int) : Rat)) := by
 unfold mulQ
 rw [Rat.num_intCast, Rat.den_intCast]
 have f2 : Fit ((a.den : Int) * ((1 : Nat) : Int)) := by
  have : (a.den : Int) * ((1 : Nat) : Int) = a.den := by omega
  rw [this]; exact den_fit ha.fit
 rw [fitZ_t (mulp_fit ha.1 (by decide) hp), fitZ_t f2]; rfl
set_option maxHeartbeats 4000000 in
theorem grid_run {x0 x1 x2 x3 pl : Int} (i0 : I64 x0) (i1 : I64 x1) (i2 : I64 x2) (i3 : I64 x3) (ip : I64 pl) (h : Heap) (lo : Nat) : (run lib).fn 10 [.agg [.int .i64 x0, .int .i64 x1, .int .i64 x2, .int .i64 x3], .int .i64 pl] h lo = some (.bool true, h) := by
 have sa := fun H lo => sane_run H lo
 have lg := fun H lo => long_run i0 i1 i2 i3 H lo
 have fr := longQ_fit x0 x1 x2 x3
 generalize longQ x0 x1 x2 x3 = r at *
 have pf := fun H lo => lpick_run (n := 31) (by decide) ip H lo
 have pr := pk_range pl (n := 31) (by decide)
 obtain ⟨p, hp⟩ : ∃ p : Nat, pk pl 31 = (p : Int) := ⟨(pk pl 31).toNat, by omega⟩
 rw [hp] at pf pr
 have hp30 : p ≤ 30 := by omega
 have lp := fun cx H v5 v6 => grid_loop cx H v5 v6 p (by omega)
 have ga : FitG (dnQ r p) := fitG_of fr hp30 (dnZ_abs r p)
 have gb : FitG (upQ r p) := fitG_of fr hp30 (upZ_abs r p)
 have gc : FitG (dnQ (-r) p) := fitG_of (neg_fitL fr) hp30 (dnZ_abs (-r) p)
 have s1 := fun H lo => qdown_run fr.fit hp30 H lo
 have s2 := fun H lo => qup_run fr.fit hp30 H lo
 have s3 := fun H lo => lminus_run fr.fit H lo
 have s4 := fun H lo => qdown_run (neg_fitL fr).fit hp30 H lo
 have s5 := fun H lo => lminus_run gc.fit H lo
 have s6 := fun H lo => qcompare_run ga.fit fr.fit H lo
 have s7 := fun H lo => qcompare_run gb.fit fr.fit H lo
 have s8 := fun H lo => qdown_run gb.fit hp30 H lo
 have s9 := fun H lo => qup_run ga.fit hp30 H lo
 have s10 := fun H lo => qmul_run ga.fit (fitP hp30) H lo
 have s11 := fun H lo => qsub_run gb.fit ga.fit H lo
 have i1' := fun a b H lo => lis_run a b H lo
 rw [grid_some fr.1 (by decide) hp30] at s1 s2
 rw [grid_some (neg_fitL fr).1 (by decide) hp30] at s4
 rw [grid_some gb.1 (by decide) hp30] at s8
 rw [grid_some ga.1 (by decide) hp30] at s9
 rw [upQ_neg] at s5
 rw [mul_grid ga hp30, dnQ_mul, ratp] at s10
 rw [sub_grid ga gb, width] at s11
 simp only [Bool.false_eq_true, if_false, if_true, dnQ_up, upQ_dn] at s1 s2 s4 s8 s9
 have c1 : ¬ 0 < cmpQ (dnQ r p) r := by
  rcases cmpQ_cases (dnQ r p) r with ⟨e, l⟩ | ⟨e, l⟩ | ⟨e, l⟩
  ·omega
  ·omega
  ·exact absurd l (Rat.not_lt.mpr (dnQ_le r p))
 have c2 : ¬ cmpQ (upQ r p) r < 0 := by
  rcases cmpQ_cases (upQ r p) r with ⟨e, l⟩ | ⟨e, l⟩ | ⟨e, l⟩
  ·exact absurd l (Rat.not_lt.mpr (upQ_ge r p))
  ·omega
  ·omega
 have c3 : cmpQ (dnQ r p) r = 0 ↔ dnQ r p = r := cmpQ_eq
 have c4 : cmpQ (upQ r p) r = 0 ↔ dnQ r p = r := by rw [cmpQ_eq, exact_up]
 have w0 : rt 0 = .agg [.str [48], .str [49]] := rfl
 have wu := unit_rt p
 have dz : rt ((dnZ r p : Int) : Rat) = .agg [.str (itxt (dnZ r p)), .str [49]] := rfl
 have ht0 : p = 0 → itxt (p10 p) = [49] := fun e => by rw [e]; rfl
 by_cases ex : dnQ r p = r
 ·have c3' := c3.mpr ex
  have c4' := c4.mpr ex
  rw [if_pos ex] at s11
  simp only [resO, w0, wu, dz] at s11 s10
  simp only [resO, rt, frV] at *
  generalize itxt (dnQ r p).num = A1 at *
  generalize itxt ((dnQ r p).den : Int) = A2 at *
  generalize itxt (upQ r p).num = B1 at *
  generalize itxt ((upQ r p).den : Int) = B2 at *
  generalize itxt (dnQ (-r) p).num = C1 at *
  generalize itxt ((dnQ (-r) p).den : Int) = C2 at *
  generalize itxt (dnZ r p) = Z at *
  generalize cmpQ (dnQ r p) r = q1 at *
  generalize cmpQ (upQ r p) r = q2 at *
  obtain ⟨P, hP⟩ : ∃ P : Int, (p : Int) = P := ⟨_, rfl⟩
  rw [hP] at pf lp s1 s2 s4 s8 s9
  have hPz : P = 0 ↔ p = 0 := by omega
  by_cases hp0 : p = 0
  ·have t0 := ht0 hp0
   rw [t0] at lp s10
   have hpi : (P = 0) = True := eq_true (hPz.mpr hp0)
   clear ht0 t0 hP hp0 pr hp hPz
   rw [run_closed (x := x10) rfl rfl rfl rfl]
   simp (maxSteps := 30000000) (disch := omega) only [go_sem, x10, sa, lg, pf, lp, s1, s2, s3, s4, s5, s6, s7, s8, s9, s10, s11, i1', eq_id, eq_idn, c1, c2, c3', c4', hpi]
   rfl
  ·have hpi : ¬ P = 0 := fun e => hp0 (hPz.mp e)
   clear ht0 hP hp0 pr hp hPz
   generalize itxt (p10 p) = T at *
   rw [run_closed (x := x10) rfl rfl rfl rfl]
   simp (maxSteps := 30000000) (disch := omega) only [go_sem, x10, sa, lg, pf, lp, s1, s2, s3, s4, s5, s6, s7, s8, s9, s10, s11, i1', eq_id, eq_idn, c1, c2, c3', c4', hpi]
   rfl
 ·have c3' : ¬ cmpQ (dnQ r p) r = 0 := fun e => ex (c3.mp e)
  have c4' : ¬ cmpQ (upQ r p) r = 0 := fun e => ex (c4.mp e)
  rw [if_neg ex] at s11
  simp only [resO, w0, wu, dz] at s11 s10
  simp only [resO, rt, frV] at *
  generalize itxt (dnQ r p).num = A1 at *
  generalize itxt ((dnQ r p).den : Int) = A2 at *
  generalize itxt (upQ r p).num = B1 at *
  generalize itxt ((upQ r p).den : Int) = B2 at *
  generalize itxt (dnQ (-r) p).num = C1 at *
  generalize itxt ((dnQ (-r) p).den : Int) = C2 at *
  generalize itxt (dnZ r p) = Z at *
  generalize cmpQ (dnQ r p) r = q1 at *
  generalize cmpQ (upQ r p) r = q2 at *
  obtain ⟨P, hP⟩ : ∃ P : Int, (p : Int) = P := ⟨_, rfl⟩
  rw [hP] at pf lp s1 s2 s4 s8 s9
  have hPz : P = 0 ↔ p = 0 := by omega
  by_cases hp0 : p = 0
  ·have t0 := ht0 hp0
   rw [t0] at lp s10 s11
   have hpi : (P = 0) = True := eq_true (hPz.mpr hp0)
   clear ht0 t0 hP hp0 pr hp hPz
   rw [run_closed (x := x10) rfl rfl rfl rfl]
   simp (maxSteps := 30000000) (disch := omega) only [go_sem, x10, sa, lg, pf, lp, s1, s2, s3, s4, s5, s6, s7, s8, s9, s10, s11, i1', eq_id, eq_idn, c1, c2, c3', c4', hpi]
   rfl
  ·have hpi : ¬ P = 0 := fun e => hp0 (hPz.mp e)
   clear ht0 hP hp0 pr hp hPz
   generalize itxt (p10 p) = T at *
   rw [run_closed (x := x10) rfl rfl rfl rfl]
   simp (maxSteps := 30000000) (disch := omega) only [go_sem, x10, sa, lg, pf, lp, s1, s2, s3, s4, s5, s6, s7, s8, s9, s10, s11, i1', eq_id, eq_idn, c1, c2, c3', c4', hpi]
   rfl
end Go.VI.Rational
namespace Go.VI.Rational
open Go.VI.Num
set_option linter.unusedVariables false

def shGrid : List Shp := [a4, .int .i64]
theorem walkGrid (xs : List AV) (ht : TyA shGrid xs) : ∃ h', (run lib).fn 10 xs [] 0 = some (.bool true, h') := by
 simp only [shGrid, TyA] at ht
 obtain ⟨c0, r0, rfl, t0, c1, r1, rfl, t1, rfl⟩ := ht
 obtain ⟨a, b, d, e, e0, h0, h1, h2, h3⟩ := a4_of t0
 obtain ⟨n, e1, hn⟩ := int_of' t1
 rw [e0, e1]
 exact ⟨_, grid_run h0 h1 h2 h3 hn [] 0⟩
end Go.VI.Rational
