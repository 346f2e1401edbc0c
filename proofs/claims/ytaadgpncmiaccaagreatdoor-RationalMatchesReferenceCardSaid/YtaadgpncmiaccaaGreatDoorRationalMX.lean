/- What the functions on integers compute, part MX. -/
import Derived.Test.YtaadgpncmiaccaaGreatDoorRationalMS
import Derived.Test.YtaadgpncmiaccaaGreatDoorRationalMV
set_option linter.unusedVariables false
set_option linter.unusedSimpArgs false
namespace Go.VI.Rational
open Go.VI.Num
def Shrt (s : List UInt8) : Prop := s.length ≤ 9223372036854775807
theorem sval_ok {a : Rat} (ha : FitQ a) (H : Heap) (lo : Nat) : (run lib).fn 40 [.agg [.str (itxt a.num), .str (itxt (a.den : Int))]] H lo = some (.bool true, H) := by
 have := svalid_run (fit_str ha.1) (fit_str (den_fit ha)) H lo
 rw [rvalid_itxt ha] at this; exact this
theorem outT_bad {z : Int} (h : ¬ Fit z) : outT z = .tuple [.str [], .int .i64 30] := if_neg h
theorem smul_run {a b : Rat} (ha : FitQ a) (hb : FitQ b) (h : Heap) (lo : Nat) : (run lib).fn 32 [rt a, rt b] h lo = some (resO (mulQ a b), h) := by
 have v1 := fun H lo => sval_ok ha H lo
 have v2 := fun H lo => sval_ok hb H lo
 have m1 := fun H lo => rmul_run ha.1 hb.1 H lo
 have m2 := fun H lo => rmul_run (den_fit ha) (den_fit hb) H lo
 have hd := den2_ne a b
 have q := q_mul a b
 unfold mulQ rt frV
 generalize a.num * b.num = x at *
 generalize (a.den : Int) * b.den = y at *
 rw [run_closed (x := x32) rfl rfl rfl rfl]
 by_cases c1 : Fit x
 ·rw [outT_fit c1] at m1
  rw [fitZ_t c1]
  by_cases c2 : Fit y
  ·rw [outT_fit c2] at m2
   have r := fun H lo => smake_run c1 c2 H lo
   unfold makeQ at r
   rw [if_neg hd, q] at r
   simp only [resO, rt, frV] at r
   rw [fitZ_t c2]
   generalize a * b = Q at *
   simp (maxSteps := 1000000) (disch := omega) only [go_sem, x32, v1, v2, m1, m2, r, resO, rt, frV]
  ·rw [outT_bad c2] at m2
   rw [fitZ_f c2]
   simp (maxSteps := 1000000) (disch := omega) only [go_sem, x32, v1, v2, m1, m2, resO, rt, frV]
 ·rw [outT_bad c1] at m1
  rw [fitZ_f c1]
  by_cases c2 : Fit y
  ·rw [outT_fit c2] at m2
   simp (maxSteps := 1000000) (disch := omega) only [go_sem, x32, v1, v2, m1, m2, resO, rt, frV]
  ·rw [outT_bad c2] at m2
   simp (maxSteps := 1000000) (disch := omega) only [go_sem, x32, v1, v2, m1, m2, resO, rt, frV]
theorem sdiv_run {a b : Rat} (ha : FitQ a) (hb : FitQ b) (h : Heap) (lo : Nat) : (run lib).fn 33 [rt a, rt b] h lo = some (resO (divQ a b), h) := by
 have v1 := fun H lo => sval_ok ha H lo
 have v2 := fun H lo => sval_ok hb H lo
 have m1 := fun H lo => rmul_run ha.1 (den_fit hb) H lo
 have m2 := fun H lo => rmul_run (den_fit ha) hb.1 H lo
 have q := q_div a b
 have qz := q_div_zero (a := a) (b := b)
 unfold divQ rt frV
 generalize a.num * (b.den : Int) = x at *
 generalize (a.den : Int) * b.num = y at *
 rw [run_closed (x := x33) rfl rfl rfl rfl]
 by_cases c1 : Fit x
 ·rw [outT_fit c1] at m1
  rw [fitZ_t c1]
  by_cases c2 : Fit y
  ·rw [outT_fit c2] at m2
   have r := fun H lo => smake_run c1 c2 H lo
   unfold makeQ at r
   rw [fitZ_t c2]
   by_cases c3 : b = 0
   ·rw [if_pos (qz.mpr c3)] at r
    simp only [resO, rt, frV] at r
    rw [decide_eq_false (show ¬ b ≠ 0 from fun h => h c3)]
    simp (maxSteps := 1000000) (disch := omega) only [go_sem, x33, v1, v2, m1, m2, r, resO, rt, frV]
   ·rw [if_neg (fun h => c3 (qz.mp h)), q] at r
    simp only [resO, rt, frV] at r
    rw [decide_eq_true (show b ≠ 0 from c3)]
    generalize a / b = Q at *
    simp (maxSteps := 1000000) (disch := omega) only [go_sem, x33, v1, v2, m1, m2, r, resO, rt, frV]
  ·rw [outT_bad c2] at m2
   rw [fitZ_f c2]
   simp (maxSteps := 1000000) (disch := omega) only [go_sem, x33, v1, v2, m1, m2, resO, rt, frV]
 ·rw [outT_bad c1] at m1
  rw [fitZ_f c1]
  by_cases c2 : Fit y
  ·rw [outT_fit c2] at m2
   simp (maxSteps := 1000000) (disch := omega) only [go_sem, x33, v1, v2, m1, m2, resO, rt, frV]
  ·rw [outT_bad c2] at m2
   simp (maxSteps := 1000000) (disch := omega) only [go_sem, x33, v1, v2, m1, m2, resO, rt, frV]
def crossV (x y d : Int) : AV := .tuple [.str (outS x), .str (outS y), .str (outS d), .bool (fitZ x && fitZ y && fitZ d)]
theorem outE_fit (z : Int) : (outE z = 0) = (fitZ z = true) := by
 unfold outE fitZ
 by_cases c : z.natAbs < 10 ^ 200
 ·rw [if_pos c, decide_eq_true c]; simp
 ·rw [if_neg c, decide_eq_false c]; simp
theorem cross_run {a b : Rat} (ha : FitQ a) (hb : FitQ b) (h : Heap) (lo : Nat) : (run lib).fn 63 [rt a, rt b] h lo = some (crossV (a.num * b.den) (b.num * a.den) (a.den * b.den), h) := by
 have v1 := fun H lo => sval_ok ha H lo
 have v2 := fun H lo => sval_ok hb H lo
 have m1 := fun H lo => rmul_run ha.1 (den_fit hb) H lo
 have m2 := fun H lo => rmul_run hb.1 (den_fit ha) H lo
 have m3 := fun H lo => rmul_run (den_fit ha) (den_fit hb) H lo
 unfold rt frV crossV
 generalize a.num * (b.den : Int) = x at *
 generalize b.num * (a.den : Int) = y at *
 generalize (a.den : Int) * b.den = d at *
 rw [outT_eq] at m1 m2 m3
 have e1 := outE_fit x
 have e2 := outE_fit y
 have e3 := outE_fit d
 generalize outS x = sx at *
 generalize outS y = sy at *
 generalize outS d = sd at *
 generalize outE x = ex at *
 generalize outE y = ey at *
 generalize outE d = ed at *
 rw [run_closed (x := x63) rfl rfl rfl rfl]
 cases k1 : fitZ x <;> cases k2 : fitZ y <;> cases k3 : fitZ d <;> rw [k1] at e1 <;> rw [k2] at e2 <;> rw [k3] at e3 <;> simp only [Bool.false_eq_true, eq_iff_iff, iff_false, iff_true] at e1 e2 e3 <;>
  simp (maxSteps := 1000000) (disch := omega) only [go_sem, x63, v1, v2, m1, m2, m3, e1, e2, e3, Bool.and_self, Bool.and_false, Bool.false_and, Bool.and_true, Bool.true_and]
theorem sadd_run {a b : Rat} (ha : FitQ a) (hb : FitQ b) (h : Heap) (lo : Nat) : (run lib).fn 30 [rt a, rt b] h lo = some (resO (addQ a b), h) := by
 have cr := fun H lo => cross_run ha hb H lo
 have q := q_add a b
 have hd := den2_ne a b
 unfold addQ
 unfold crossV at cr
 unfold rt frV at *
 generalize a.num * (b.den : Int) = x at *
 generalize b.num * (a.den : Int) = y at *
 generalize (a.den : Int) * b.den = d at *
 rw [run_closed (x := x30) rfl rfl rfl rfl]
 by_cases c1 : Fit x
 ·by_cases c2 : Fit y
  ·have ad := fun H lo => radd_run c1 c2 H lo
   rw [fitZ_t c1, fitZ_t c2] at cr ⊢
   have s1 : outS x = itxt x := if_pos c1
   have s2 : outS y = itxt y := if_pos c2
   rw [s1, s2] at cr
   by_cases c3 : Fit d
   ·have s3 : outS d = itxt d := if_pos c3
    rw [fitZ_t c3, s3] at cr
    rw [fitZ_t c3]
    by_cases c4 : Fit (x + y)
    ·have r := fun H lo => smake_run c4 c3 H lo
     unfold makeQ at r
     rw [if_neg hd, q] at r
     simp only [resO, rt, frV] at r
     rw [outT_fit c4] at ad
     rw [fitZ_t c4]
     generalize a + b = Q at *
     generalize x + y = z at *
     simp (maxSteps := 1000000) (disch := omega) only [go_sem, x30, cr, ad, r, resO, rt, frV, Bool.and_self]
    ·rw [outT_bad c4] at ad
     rw [fitZ_f c4]
     simp (maxSteps := 1000000) (disch := omega) only [go_sem, x30, cr, ad, resO, rt, frV, Bool.and_self, Bool.and_false, Bool.false_and]
   ·rw [fitZ_f c3] at cr ⊢
    simp (maxSteps := 1000000) (disch := omega) only [go_sem, x30, cr, resO, rt, frV, Bool.and_self, Bool.and_false, Bool.false_and]
  ·rw [fitZ_f c2] at cr ⊢
   simp (maxSteps := 1000000) (disch := omega) only [go_sem, x30, cr, resO, rt, frV, Bool.and_self, Bool.and_false, Bool.false_and]
 ·rw [fitZ_f c1] at cr ⊢
  simp (maxSteps := 1000000) (disch := omega) only [go_sem, x30, cr, resO, rt, frV, Bool.and_self, Bool.and_false, Bool.false_and]
theorem ssub_run {a b : Rat} (ha : FitQ a) (hb : FitQ b) (h : Heap) (lo : Nat) : (run lib).fn 31 [rt a, rt b] h lo = some (resO (subQ a b), h) := by
 have cr := fun H lo => cross_run ha hb H lo
 have q := q_sub a b
 have hd := den2_ne a b
 unfold subQ
 unfold crossV at cr
 unfold rt frV at *
 generalize a.num * (b.den : Int) = x at *
 generalize b.num * (a.den : Int) = y at *
 generalize (a.den : Int) * b.den = d at *
 rw [run_closed (x := x31) rfl rfl rfl rfl]
 by_cases c1 : Fit x
 ·by_cases c2 : Fit y
  ·have ad := fun H lo => rsub_run c1 c2 H lo
   rw [fitZ_t c1, fitZ_t c2] at cr ⊢
   have s1 : outS x = itxt x := if_pos c1
   have s2 : outS y = itxt y := if_pos c2
   rw [s1, s2] at cr
   by_cases c3 : Fit d
   ·have s3 : outS d = itxt d := if_pos c3
    rw [fitZ_t c3, s3] at cr
    rw [fitZ_t c3]
    by_cases c4 : Fit (x - y)
    ·have r := fun H lo => smake_run c4 c3 H lo
     unfold makeQ at r
     rw [if_neg hd, q] at r
     simp only [resO, rt, frV] at r
     rw [outT_fit c4] at ad
     rw [fitZ_t c4]
     generalize a - b = Q at *
     generalize x - y = z at *
     simp (maxSteps := 1000000) (disch := omega) only [go_sem, x31, cr, ad, r, resO, rt, frV, Bool.and_self]
    ·rw [outT_bad c4] at ad
     rw [fitZ_f c4]
     simp (maxSteps := 1000000) (disch := omega) only [go_sem, x31, cr, ad, resO, rt, frV, Bool.and_self, Bool.and_false, Bool.false_and]
   ·rw [fitZ_f c3] at cr ⊢
    simp (maxSteps := 1000000) (disch := omega) only [go_sem, x31, cr, resO, rt, frV, Bool.and_self, Bool.and_false, Bool.false_and]
  ·rw [fitZ_f c2] at cr ⊢
   simp (maxSteps := 1000000) (disch := omega) only [go_sem, x31, cr, resO, rt, frV, Bool.and_self, Bool.and_false, Bool.false_and]
 ·rw [fitZ_f c1] at cr ⊢
  simp (maxSteps := 1000000) (disch := omega) only [go_sem, x31, cr, resO, rt, frV, Bool.and_self, Bool.and_false, Bool.false_and]
section
variable {s t u v : List UInt8} (hs : Shrt s) (ht : Shrt t) (hu : Shrt u) (hw : Shrt v) (hv : (rvalid s t && rvalid u v) = false)
include hs ht hu hw
theorem smul_bad (hv : (rvalid s t && rvalid u v) = false) (h : Heap) (lo : Nat) : (run lib).fn 32 [frV s t, frV u v] h lo = some (resO none, h) := by
 have v1 := fun H lo => svalid_run hs ht H lo
 have v2 := fun H lo => svalid_run hu hw H lo
 unfold frV at *
 rw [run_closed (x := x32) rfl rfl rfl rfl]
 cases c1 : rvalid s t <;> cases c2 : rvalid u v <;> rw [c1] at v1 <;> rw [c2] at v2 <;> first | exact absurd (hv.symm.trans (show (rvalid s t && rvalid u v) = true by rw [c1, c2]; rfl)) (by decide) | simp (maxSteps := 1000000) (disch := omega) only [go_sem, x32, v1, v2, resO, frV]
theorem sdiv_bad (hv : (rvalid s t && rvalid u v) = false) (h : Heap) (lo : Nat) : (run lib).fn 33 [frV s t, frV u v] h lo = some (resO none, h) := by
 have v1 := fun H lo => svalid_run hs ht H lo
 have v2 := fun H lo => svalid_run hu hw H lo
 unfold frV at *
 rw [run_closed (x := x33) rfl rfl rfl rfl]
 cases c1 : rvalid s t <;> cases c2 : rvalid u v <;> rw [c1] at v1 <;> rw [c2] at v2 <;> first | exact absurd (hv.symm.trans (show (rvalid s t && rvalid u v) = true by rw [c1, c2]; rfl)) (by decide) | simp (maxSteps := 1000000) (disch := omega) only [go_sem, x33, v1, v2, resO, frV]
theorem cross_bad (hv : (rvalid s t && rvalid u v) = false) (h : Heap) (lo : Nat) : (run lib).fn 63 [frV s t, frV u v] h lo = some (.tuple [.str [], .str [], .str [], .bool false], h) := by
 have v1 := fun H lo => svalid_run hs ht H lo
 have v2 := fun H lo => svalid_run hu hw H lo
 unfold frV at *
 rw [run_closed (x := x63) rfl rfl rfl rfl]
 cases c1 : rvalid s t <;> cases c2 : rvalid u v <;> rw [c1] at v1 <;> rw [c2] at v2 <;> first | exact absurd (hv.symm.trans (show (rvalid s t && rvalid u v) = true by rw [c1, c2]; rfl)) (by decide) | simp (maxSteps := 1000000) (disch := omega) only [go_sem, x63, v1, v2]
theorem sadd_bad (hv : (rvalid s t && rvalid u v) = false) (h : Heap) (lo : Nat) : (run lib).fn 30 [frV s t, frV u v] h lo = some (resO none, h) := by
 have cr := fun H lo => cross_bad hs ht hu hw hv H lo
 unfold frV at *
 rw [run_closed (x := x30) rfl rfl rfl rfl]
 simp (maxSteps := 1000000) (disch := omega) only [go_sem, x30, cr, resO, frV]
theorem ssub_bad (hv : (rvalid s t && rvalid u v) = false) (h : Heap) (lo : Nat) : (run lib).fn 31 [frV s t, frV u v] h lo = some (resO none, h) := by
 have cr := fun H lo => cross_bad hs ht hu hw hv H lo
 unfold frV at *
 rw [run_closed (x := x31) rfl rfl rfl rfl]
 simp (maxSteps := 1000000) (disch := omega) only [go_sem, x31, cr, resO, frV]
end
end Go.VI.Rational
namespace Go.VI.Rational
open Go.VI.Num
theorem zo_run (z : Int) (h : Heap) (lo : Nat) : (run lib).fn 68 [.str (itxt z)] h lo = some (.str (itxt (if z = 0 then 0 else 1)), h) := by
 rw [run_closed (x := x68) rfl rfl rfl rfl]
 by_cases c : z = 0
 ·subst c
  rw [if_pos rfl, zero_txt]
  simp (maxSteps := 1000000) (disch := omega) only [go_sem, x68]
 ·have hz := txt_nz c
  rw [if_neg c, itxt_one]
  generalize itxt z = Z at *
  simp (maxSteps := 1000000) (disch := omega) only [go_sem, x68, hz]
theorem scmp_loop (cx : Cx) (H : Heap) : ∀ (k : Nat) (n d m c σ : Int), d.toNat ≤ k → 0 < d → 0 < c → Fit n → Fit d → Fit m → Fit c → (σ = 1 ∨ σ = -1) → ∃ env',
  runC lib cx (.loop b34_0) ([(7, .int .i64 σ), (8, .str (itxt n)), (9, .str (itxt d)), (10, .str (itxt m)), (11, .str (itxt c))], H) = some (.ret, (env', H)) ∧ env'.get 4 = .int .i64 (σ * cmpN (n * c) (m * d)) := by
 intro k
 induction k with
 | zero => intro n d m c σ h1 h2; omega
 | succ k ih =>
  intro n d m c σ hk hd hc fn fd fm fc hσ
  have v1 := fun H lo => rdivE_run fn fd (by omega) H lo
  have v2 := fun H lo => rdivE_run fm fc (by omega) H lo
  unfold divT at v1 v2
  have fp := ediv_fit fn (show d ≠ 0 by omega)
  have fq := ediv_fit fm (show c ≠ 0 by omega)
  have fr := emod_fit (x := n) fd (by omega)
  have fs := emod_fit (x := m) fc (by omega)
  have cm := fun H lo => rcompare_run fp fq H lo
  have ne := round_ne (n := n) (m := m) hd hc
  have eq := round_eq (n := n) (d := d) (m := m) (c := c)
  have r0 := Int.emod_nonneg n (show d ≠ 0 by omega)
  have s0 := Int.emod_nonneg m (show c ≠ 0 by omega)
  have r1 := Int.emod_lt_of_pos n hd
  have s1 := Int.emod_lt_of_pos m hc
  have cc := cmpN_cases (n / d) (m / c)
  generalize n / d = p at *
  generalize m / c = q at *
  generalize n % d = r at *
  generalize m % c = s at *
  rcases cc with ⟨e, l⟩ | ⟨e, l⟩ | ⟨e, l⟩
  ·have e2 := ne (by omega)
   rw [e] at e2 cm
   refine ⟨[(4, .int .i64 (σ * -1))], ?_, by rw [← e2]; rfl⟩
   rw [w_loop]
   rcases hσ with rfl | rfl
   ·simp (maxSteps := 1000000) (disch := omega) only [go_sem, v1, v2, cm]
   ·simp (maxSteps := 1000000) (disch := omega) only [go_sem, v1, v2, cm]
  ·have e2 := eq l
   rw [e] at cm
   have z1 := fun H lo => zo_run r H lo
   have z2 := fun H lo => zo_run s H lo
   have f0 : Fit 0 := fit_zero
   have f1 : Fit 1 := by unfold Fit; decide
   by_cases hr : r = 0
   ·subst hr
    rw [if_pos rfl] at z1
    by_cases hs : s = 0
    ·subst hs
     rw [if_pos rfl] at z2
     have c2 := fun H lo => rcompare_run f0 f0 H lo
     rw [show cmpN 0 0 = 0 from rfl] at c2
     rw [zero_txt] at v1 v2 z1 z2 c2
     refine ⟨[(4, .int .i64 (σ * 0))], ?_, by rw [e2, Int.zero_mul, Int.zero_mul, show cmpN 0 0 = 0 from rfl]; rfl⟩
     rw [w_loop]
     rcases hσ with rfl | rfl
     ·simp (maxSteps := 1000000) (disch := omega) only [go_sem, v1, v2, cm, z1, z2, c2]
     ·simp (maxSteps := 1000000) (disch := omega) only [go_sem, v1, v2, cm, z1, z2, c2]
    ·rw [if_neg hs] at z2
     have c2 := fun H lo => rcompare_run f0 f1 H lo
     rw [show cmpN 0 1 = -1 from rfl] at c2
     rw [zero_txt] at v1 z1 c2
     have hp : 0 < s * d := Int.mul_pos (by omega) hd
     have hz := txt_nz hs
     refine ⟨[(4, .int .i64 (σ * -1))], ?_, by rw [e2, Int.zero_mul, show cmpN 0 (s * d) = -1 from if_pos hp]; rfl⟩
     rw [w_loop]
     rcases hσ with rfl | rfl
     ·simp (maxSteps := 1000000) (disch := omega) only [go_sem, v1, v2, cm, z1, z2, c2, hz]
     ·simp (maxSteps := 1000000) (disch := omega) only [go_sem, v1, v2, cm, z1, z2, c2, hz]
   ·have hy := txt_nz hr
    rw [if_neg hr] at z1
    by_cases hs : s = 0
    ·subst hs
     rw [if_pos rfl] at z2
     have c2 := fun H lo => rcompare_run f1 f0 H lo
     rw [show cmpN 1 0 = 1 from rfl] at c2
     rw [zero_txt] at v2 z2 c2
     have hp : 0 < r * c := Int.mul_pos (by omega) hc
     refine ⟨[(4, .int .i64 (σ * 1))], ?_, by rw [e2, Int.zero_mul, show cmpN (r * c) 0 = 1 from by unfold cmpN; rw [if_neg (by omega), if_neg (by omega)]]; rfl⟩
     rw [w_loop]
     rcases hσ with rfl | rfl
     ·simp (maxSteps := 1000000) (disch := omega) only [go_sem, v1, v2, cm, z1, z2, c2, hy]
     ·simp (maxSteps := 1000000) (disch := omega) only [go_sem, v1, v2, cm, z1, z2, c2, hy]
    ·have hz := txt_nz hs
     obtain ⟨env', w', g'⟩ := ih d r c s (-σ) (by omega) (by omega) (by omega) fd fr fc fs (by omega)
     refine ⟨env', ?_, ?_⟩
     ·rw [w_loop]
      rcases hσ with rfl | rfl
      ·simp (maxSteps := 1000000) (disch := omega) only [go_sem, v1, v2, cm, hy, hz]
       exact w'
      ·simp (maxSteps := 1000000) (disch := omega) only [go_sem, v1, v2, cm, hy, hz]
       exact w'
     ·rw [g', e2, round_swap, Int.neg_mul_neg]
  ·have e2 := ne (by omega)
   rw [e] at e2 cm
   refine ⟨[(4, .int .i64 (σ * 1))], ?_, by rw [← e2]; rfl⟩
   rw [w_loop]
   rcases hσ with rfl | rfl
   ·simp (maxSteps := 1000000) (disch := omega) only [go_sem, v1, v2, cm]
   ·simp (maxSteps := 1000000) (disch := omega) only [go_sem, v1, v2, cm]
theorem scompare_run {a b : Rat} (ha : FitQ a) (hb : FitQ b) (h : Heap) (lo : Nat) : (run lib).fn 34 [rt a, rt b] h lo = some (.int .i64 (cmpQ a b), h) := by
 have va := fun H lo => sval_ok ha H lo
 have vb := fun H lo => sval_ok hb H lo
 obtain ⟨env', w, g⟩ := scmp_loop ⟨h.length, h.length, 0, none⟩ h _ a.num (a.den : Int) b.num (b.den : Int) 1 (Nat.le_refl _) (by have := a.den_pos; omega) (by have := b.den_pos; omega) ha.1 (den_fit ha) hb.1 (den_fit hb) (.inl rfl)
 rw [Int.one_mul] at g
 unfold cmpQ
 unfold rt frV at *
 rw [run_closed (x := x34) rfl rfl rfl rfl]
 simp (maxSteps := 1000000) (disch := omega) only [go_sem, x34, va, vb, w, g, List.take_left']
theorem scompare_bad {s t u v : List UInt8} (hs : Shrt s) (ht : Shrt t) (hu : Shrt u) (hw : Shrt v) (hv : (rvalid s t && rvalid u v) = false) (h : Heap) (lo : Nat) : (run lib).fn 34 [frV s t, frV u v] h lo = some (.int .i64 0, h) := by
 have v1 := fun H lo => svalid_run hs ht H lo
 have v2 := fun H lo => svalid_run hu hw H lo
 unfold frV at *
 rw [run_closed (x := x34) rfl rfl rfl rfl]
 cases c1 : rvalid s t <;> cases c2 : rvalid u v <;> rw [c1] at v1 <;> rw [c2] at v2 <;> first | exact absurd (hv.symm.trans (show (rvalid s t && rvalid u v) = true by rw [c1, c2]; rfl)) (by decide) | simp (maxSteps := 1000000) (disch := omega) only [go_sem, x34, v1, v2]
theorem pow_loop (cx : Cx) (H : Heap) (n : Nat) (T : Nat → List UInt8) (hT : ∀ i, i < n → binv .add (.str (T i)) (.str [48]) = some (.str (T (i + 1)))) (hn : n ≤ 1000) : ∀ (k i : Nat), i + k = n →
  runC lib cx (.loop b97_0) ([(0, .int .i64 n), (3, .str (T i)), (4, .int .i64 i)], H) = some (.exit 0, ([(3, .str (T n))], H)) := by
 intro k
 induction k with
 | zero =>
  intro i hi
  obtain rfl : i = n := by omega
  rw [w_loop]
  simp (maxSteps := 1000000) (disch := omega) only [go_sem, Int.lt_irrefl]
 | succ k ih =>
  intro i hi
  have c1 : (i : Int) < n := by omega
  have k1 := ih (i + 1) (by omega)
  have ad := hT i (by omega)
  rw [cast1] at k1
  rw [w_loop]
  simp (maxSteps := 1000000) (disch := omega) only [go_sem, c1, ad, k1]
theorem power_run {p : Nat} (hp : p ≤ 30) (h : Heap) (lo : Nat) : (run lib).fn 97 [.int .i64 p] h lo = some (.str (itxt (p10 p)), h) := by
 have lp := fun cx H => pow_loop cx H p (fun i => 49 :: List.replicate i 48) (fun i hi => by rw [bin_sadd (by simp; omega), List.replicate_succ']; rfl) (by omega) p 0 (by omega)
 simp only [List.replicate_zero, Int.natCast_zero] at lp
 rw [p10_txt] at lp
 rw [run_closed (x := x97) rfl rfl rfl rfl]
 simp (maxSteps := 1000000) (disch := omega) only [go_sem, x97, lp]
def gridV (r : Rat) (p : Nat) : AV := if fitZ (r.num * 10 ^ p) then .tuple [.str (itxt (r.num * 10 ^ p / r.den)), .str (itxt (r.num * 10 ^ p % r.den)), .str (itxt (p10 p)), .bool true] else .tuple [.str [], .str [], .str [], .bool false]
theorem sgrid_run {r : Rat} (hr : FitQ r) {p : Nat} (hp : p ≤ 30) (h : Heap) (lo : Nat) : (run lib).fn 70 [rt r, .int .i64 p] h lo = some (gridV r p, h) := by
 have v1 := fun H lo => sval_ok hr H lo
 have pw := fun H lo => power_run hp H lo
 have c1 : ¬ (p : Int) < 0 := by omega
 have c2 : ¬ (30 : Int) < p := by omega
 have ft := p10_fit (p := p) (by omega)
 have m := fun H lo => rmul_run hr.1 ft H lo
 have nd := den_ne r
 unfold gridV rt frV
 have en : r.num * 10 ^ p = r.num * p10 p := rfl
 rw [en]
 generalize r.num * p10 p = n at *
 rw [run_closed (x := x70) rfl rfl rfl rfl]
 by_cases cf : Fit n
 ·have dv := fun H lo => rdivE_run cf (den_fit hr) nd H lo
  unfold divT at dv
  rw [outT_fit cf] at m
  rw [fitZ_t cf, if_pos rfl]
  generalize n / (r.den : Int) = q at *
  generalize n % (r.den : Int) = s at *
  simp (maxSteps := 1000000) (disch := omega) only [go_sem, x70, v1, pw, c1, c2, m, dv]
 ·rw [outT_bad cf] at m
  rw [fitZ_f cf, if_neg (by simp)]
  simp (maxSteps := 1000000) (disch := omega) only [go_sem, x70, v1, pw, c1, c2, m]
theorem sgrid_bad {s t : List UInt8} (hs : Shrt s) (ht : Shrt t) {p : Int} (hv : (rvalid s t && (decide (0 ≤ p) && decide (p ≤ 30))) = false) (h : Heap) (lo : Nat) : (run lib).fn 70 [frV s t, .int .i64 p] h lo = some (.tuple [.str [], .str [], .str [], .bool false], h) := by
 have v1 := fun H lo => svalid_run hs ht H lo
 unfold frV at *
 rw [run_closed (x := x70) rfl rfl rfl rfl]
 cases c0 : rvalid s t with
 | false =>
  rw [c0] at v1
  simp (maxSteps := 1000000) (disch := omega) only [go_sem, x70, v1]
 | true =>
  rw [c0] at v1 hv
  by_cases c1 : p < 0
  ·simp (maxSteps := 1000000) (disch := omega) only [go_sem, x70, v1, c1]
  ·by_cases c2 : (30 : Int) < p
   ·simp (maxSteps := 1000000) (disch := omega) only [go_sem, x70, v1, c1, c2]
   ·rw [decide_eq_true (show 0 ≤ p by omega), decide_eq_true (show p ≤ 30 by omega)] at hv
    cases hv
theorem sdown_run {r : Rat} (hr : FitQ r) {p : Nat} (hp : p ≤ 30) (h : Heap) (lo : Nat) : (run lib).fn 36 [rt r, .int .i64 p] h lo = some (resO (gridQ r p false), h) := by
 have g := fun H lo => sgrid_run hr hp H lo
 have ft := p10_fit (p := p) (by omega)
 have tp := p10_pos p
 unfold gridV at g
 unfold gridQ
 have eD : dnQ r p = Rat.divInt (r.num * 10 ^ p / r.den) (p10 p) := rfl
 rw [eD]
 generalize r.num * 10 ^ p = n at *
 unfold rt frV at *
 rw [run_closed (x := x36) rfl rfl rfl rfl]
 by_cases cf : Fit n
 ·have fq := ediv_fit (y := (r.den : Int)) cf (den_ne r)
  have mk := fun H lo => smake_run fq ft H lo
  unfold makeQ at mk
  rw [if_neg (show ¬ p10 p = 0 by omega)] at mk
  rw [fitZ_t cf, if_pos rfl] at g ⊢
  simp only [Bool.false_eq_true, if_false]
  generalize n / (r.den : Int) = q at *
  generalize n % (r.den : Int) = s at *
  generalize Rat.divInt q (p10 p) = Q at *
  simp only [resO, rt, frV] at mk
  simp (maxSteps := 1000000) (disch := omega) only [go_sem, x36, g, mk, resO, rt, frV]
 ·rw [fitZ_f cf, if_neg (by simp)] at g ⊢
  simp (maxSteps := 1000000) (disch := omega) only [go_sem, x36, g, resO, rt, frV]
theorem sup_run {r : Rat} (hr : FitQ r) {p : Nat} (hp : p ≤ 30) (h : Heap) (lo : Nat) : (run lib).fn 38 [rt r, .int .i64 p] h lo = some (resO (gridQ r p true), h) := by
 have g := fun H lo => sgrid_run hr hp H lo
 have ft := p10_fit (p := p) (by omega)
 have tp := p10_pos p
 have dp : (0 : Int) < r.den := by have := r.den_pos; omega
 unfold gridV at g
 unfold gridQ
 have eU : upQ r p = Rat.divInt (if r.num * 10 ^ p % r.den = 0 then r.num * 10 ^ p / r.den else r.num * 10 ^ p / r.den + 1) (p10 p) := rfl
 rw [eU]
 generalize r.num * 10 ^ p = n at *
 unfold rt frV at *
 rw [run_closed (x := x38) rfl rfl rfl rfl]
 by_cases cf : Fit n
 ·have fq := ediv_fit (y := (r.den : Int)) cf (den_ne r)
  have q1 := fun hh => q1_fit (d := (r.den : Int)) cf dp hh
  rw [fitZ_t cf, if_pos rfl] at g ⊢
  simp only [if_true]
  by_cases cs : n % (r.den : Int) = 0
  ·have mk := fun H lo => smake_run fq ft H lo
   unfold makeQ at mk
   rw [if_neg (show ¬ p10 p = 0 by omega)] at mk
   rw [cs, zero_txt] at g
   rw [if_pos cs]
   clear q1
   generalize n / (r.den : Int) = q at *
   generalize Rat.divInt q (p10 p) = Q at *
   simp only [resO, rt, frV] at mk
   simp (maxSteps := 1000000) (disch := omega) only [go_sem, x38, g, mk, resO, rt, frV]
  ·have f1 := q1 cs
   have ad := fun H lo => radd_run fq (y := 1) (by unfold Fit; decide) H lo
   rw [outT_fit f1, itxt_one] at ad
   have mk := fun H lo => smake_run f1 ft H lo
   unfold makeQ at mk
   rw [if_neg (show ¬ p10 p = 0 by omega)] at mk
   have hz := txt_nz cs
   rw [if_neg cs]
   clear q1
   generalize n % (r.den : Int) = s at *
   generalize n / (r.den : Int) = q at *
   generalize q + 1 = q' at *
   generalize Rat.divInt q' (p10 p) = Q at *
   simp only [resO, rt, frV] at mk
   simp (maxSteps := 1000000) (disch := omega) only [go_sem, x38, g, ad, hz, mk, resO, rt, frV]
 ·rw [fitZ_f cf, if_neg (by simp)] at g ⊢
  simp (maxSteps := 1000000) (disch := omega) only [go_sem, x38, g, resO, rt, frV]
theorem sdown_bad {s t : List UInt8} (hs : Shrt s) (ht : Shrt t) {p : Int} (hv : (rvalid s t && (decide (0 ≤ p) && decide (p ≤ 30))) = false) (h : Heap) (lo : Nat) : (run lib).fn 36 [frV s t, .int .i64 p] h lo = some (resO none, h) := by
 have g := fun H lo => sgrid_bad hs ht hv H lo
 unfold frV at *
 rw [run_closed (x := x36) rfl rfl rfl rfl]
 simp (maxSteps := 1000000) (disch := omega) only [go_sem, x36, g, resO, rt, frV]
theorem sup_bad {s t : List UInt8} (hs : Shrt s) (ht : Shrt t) {p : Int} (hv : (rvalid s t && (decide (0 ≤ p) && decide (p ≤ 30))) = false) (h : Heap) (lo : Nat) : (run lib).fn 38 [frV s t, .int .i64 p] h lo = some (resO none, h) := by
 have g := fun H lo => sgrid_bad hs ht hv H lo
 unfold frV at *
 rw [run_closed (x := x38) rfl rfl rfl rfl]
 simp (maxSteps := 1000000) (disch := omega) only [go_sem, x38, g, resO, rt, frV]
end Go.VI.Rational
namespace Go.VI.Rational
open Go.VI.Num
end Go.VI.Rational
namespace Go.VI.Rational
open Go.VI.Num
/- BIGSTEPS -/
theorem frac_cases (s t : List UInt8) : (∃ q, s = itxt q.num ∧ t = itxt (q.den : Int) ∧ FitQ q) ∨ rvalid s t = false := by
 cases h : rvalid s t with
 | false => exact .inr rfl
 | true => obtain ⟨q, f, e1, e2⟩ := rvalid_rat h; exact .inl ⟨q, e1, e2, f⟩
section
variable {s t u v : List UInt8} (hs : Shrt s) (ht : Shrt t) (hu : Shrt u) (hw : Shrt v)
include hs ht hu hw
theorem same2 {g g' : Nat} {f : Rat → Rat → Option Rat} (hok : ∀ {a b : Rat}, FitQ a → FitQ b → ∀ H lo, (run lib).fn g [rt a, rt b] H lo = some (resO (f a b), H))
  (hbad : ∀ {s t u v : List UInt8}, (rvalid s t && rvalid u v) = false → ∀ H lo, (run lib).fn g [frV s t, frV u v] H lo = some (resO none, H))
  (hok' : ∀ {a b : Rat}, FitQ a → FitQ b → ∀ H lo, (run lib).fn g' [rt a, rt b] H lo = some (resO (f a b), H))
  (hbad' : (rvalid s t && rvalid u v) = false → ∀ H lo, (run lib).fn g' [frV s t, frV u v] H lo = some (resO none, H)) :
  ∃ o, (∀ H lo, (run lib).fn g [frV s t, frV u v] H lo = some (resO o, H)) ∧ ∀ H lo, (run lib).fn g' [frV s t, frV u v] H lo = some (resO o, H) := by
 rcases frac_cases s t with ⟨a, rfl, rfl, fa⟩ | h1
 ·rcases frac_cases u v with ⟨b, rfl, rfl, fb⟩ | h2
  ·exact ⟨_, hok fa fb, hok' fa fb⟩
  ·exact ⟨none, hbad (by rw [h2, Bool.and_false]), hbad' (by rw [h2, Bool.and_false])⟩
 ·exact ⟨none, hbad (by rw [h1]; rfl), hbad' (by rw [h1]; rfl)⟩
theorem same_add4 : ∃ o, (∀ H lo, (run lib).fn 27 [frV s t, frV u v] H lo = some (resO o, H)) ∧ ∀ H lo, (run lib).fn 30 [frV s t, frV u v] H lo = some (resO o, H) :=
 same2 hs ht hu hw (fun a b => qadd_run a b) (fun h => qadd_bad h) (fun a b => sadd_run a b) (fun h => sadd_bad hs ht hu hw h)
theorem same_sub4 : ∃ o, (∀ H lo, (run lib).fn 44 [frV s t, frV u v] H lo = some (resO o, H)) ∧ ∀ H lo, (run lib).fn 31 [frV s t, frV u v] H lo = some (resO o, H) :=
 same2 hs ht hu hw (fun a b => qsub_run a b) (fun h => qsub_bad h) (fun a b => ssub_run a b) (fun h => ssub_bad hs ht hu hw h)
theorem same_mul4 : ∃ o, (∀ H lo, (run lib).fn 25 [frV s t, frV u v] H lo = some (resO o, H)) ∧ ∀ H lo, (run lib).fn 32 [frV s t, frV u v] H lo = some (resO o, H) :=
 same2 hs ht hu hw (fun a b => qmul_run a b) (fun h => qmul_bad h) (fun a b => smul_run a b) (fun h => smul_bad hs ht hu hw h)
theorem same_div4 : ∃ o, (∀ H lo, (run lib).fn 26 [frV s t, frV u v] H lo = some (resO o, H)) ∧ ∀ H lo, (run lib).fn 33 [frV s t, frV u v] H lo = some (resO o, H) :=
 same2 hs ht hu hw (fun a b => qdiv_run a b) (fun h => qdiv_bad h) (fun a b => sdiv_run a b) (fun h => sdiv_bad hs ht hu hw h)
theorem same_cmp4 : ∃ c, (∀ H lo, (run lib).fn 23 [frV s t, frV u v] H lo = some (.int .i64 c, H)) ∧ ∀ H lo, (run lib).fn 34 [frV s t, frV u v] H lo = some (.int .i64 c, H) := by
 rcases frac_cases s t with ⟨a, rfl, rfl, fa⟩ | h1
 ·rcases frac_cases u v with ⟨b, rfl, rfl, fb⟩ | h2
  ·exact ⟨_, qcompare_run fa fb, scompare_run fa fb⟩
  ·exact ⟨0, qcompare_bad (by rw [h2, Bool.and_false]), scompare_bad hs ht hu hw (by rw [h2, Bool.and_false])⟩
 ·exact ⟨0, qcompare_bad (by rw [h1]; rfl), scompare_bad hs ht hu hw (by rw [h1]; rfl)⟩
omit hu hw in
theorem same_grid (p : Int) : ∃ o o', (∀ H lo, (run lib).fn 35 [frV s t, .int .i64 p] H lo = some (resO o, H)) ∧ (∀ H lo, (run lib).fn 36 [frV s t, .int .i64 p] H lo = some (resO o, H)) ∧
  (∀ H lo, (run lib).fn 37 [frV s t, .int .i64 p] H lo = some (resO o', H)) ∧ ∀ H lo, (run lib).fn 38 [frV s t, .int .i64 p] H lo = some (resO o', H) := by
 have bad : (rvalid s t && (decide (0 ≤ p) && decide (p ≤ 30))) = false → _ := fun h => (⟨none, none, qdown_bad h, sdown_bad hs ht h, qup_bad h, sup_bad hs ht h⟩ : ∃ o o', (∀ H lo, (run lib).fn 35 [frV s t, .int .i64 p] H lo = some (resO o, H)) ∧ (∀ H lo, (run lib).fn 36 [frV s t, .int .i64 p] H lo = some (resO o, H)) ∧
  (∀ H lo, (run lib).fn 37 [frV s t, .int .i64 p] H lo = some (resO o', H)) ∧ ∀ H lo, (run lib).fn 38 [frV s t, .int .i64 p] H lo = some (resO o', H))
 rcases frac_cases s t with ⟨a, rfl, rfl, fa⟩ | h1
 ·by_cases c : 0 ≤ p ∧ p ≤ 30
  ·obtain ⟨n, rfl⟩ : ∃ n : Nat, p = n := ⟨p.toNat, by omega⟩
   exact ⟨_, _, qdown_run fa (by omega), sdown_run fa (by omega), qup_run fa (by omega), sup_run fa (by omega)⟩
  ·refine bad ?_
   rw [rvalid_itxt fa, Bool.true_and, Bool.and_eq_false_iff]
   by_cases c1 : 0 ≤ p
   ·exact .inr (decide_eq_false (by omega))
   ·exact .inl (decide_eq_false c1)
 ·exact bad (by rw [h1]; rfl)
end
theorem same_make4 {s v : List UInt8} (hs : Shrt s) (hw : Shrt v) : ∃ o, (∀ H lo, (run lib).fn 22 [.str s, .str v] H lo = some (resO o, H)) ∧ ∀ H lo, (run lib).fn 39 [.str s, .str v] H lo = some (resO o, H) := by
 cases h : (validS s && validS v) with
 | false => exact ⟨none, qmake_bad h, smake_bad hs hw h⟩
 | true =>
  simp only [Bool.and_eq_true] at h
  obtain ⟨e1, f1⟩ := valid_txt h.1
  obtain ⟨e2, f2⟩ := valid_txt h.2
  rw [e1, e2]
  exact ⟨_, qmake_run f1 f2, smake_run f1 f2⟩
theorem eq8 (a b c d e f g i : List UInt8) : eqvv true [.s, .s, .s, .s, .s, .s, .s, .s] (.agg [.str a, .str b, .str c, .str d, .str e, .str f, .str g, .str i]) (.agg [.str a, .str b, .str c, .str d, .str e, .str f, .str g, .str i]) = some (.bool false) := by
 rw [eqv_agg (by simp) rfl rfl]
 simp [eqL, eq1]
theorem eq4 (a b c d : Int) : eqvv true [.i .i64, .i .i64, .i .i64, .i .i64] (.agg [.int .i64 a, .int .i64 b, .int .i64 c, .int .i64 d]) (.agg [.int .i64 a, .int .i64 b, .int .i64 c, .int .i64 d]) = some (.bool false) := by
 rw [eqv_agg (by simp) rfl rfl]
 simp [eqL, eq1]
theorem pr_same (s t : List UInt8) : eqvv true [.s, .s] (.agg [.str s, .str t]) (.agg [.str s, .str t]) = some (.bool false) := by
 rw [eq_fr]; simp
section
variable (h : Heap) (v5 v6 v7 v17 LV : AV) (B0 B1 B2 B3 B4 B5 B6 B7 B14 B15 : Nat × Blk) (hl : lenv false LV = some (.int .i64 5))
include hl
set_option maxHeartbeats 4000000 in
theorem mr_in {s t u v : List UInt8} (hs : Shrt s) (ht : Shrt t) (hu : Shrt u) (hw : Shrt v) (i k : Nat) (hk : k < 5) (x1 : sidx 2 LV (.int .i64 i) = some i) (x2 : sidx 2 LV (.int .i64 k) = some k) (p1 : ∀ H, pcells H (.iptr LV i 0) = some [.str s, .str t]) (p2 : ∀ H, pcells H (.iptr LV k 0) = some [.str u, .str v])
  (w8 w9 w10 w11 w12 w13 : Nat) (b8 b9 b10 b11 b12 b13 : Blk) : ∃ c8 c9 c10 c11 c12 c13 : Nat × Blk,
  runC lib ⟨h.length, h.length, 16, none⟩ (.loop b6_2) ([(5, v5), (6, v6), (7, v7), (17, v17), (18, LV), (19, .int .i64 i), (20, .int .i64 k)], h ++ [B0, B1, B2, B3, B4, B5, B6, B7, (w8, b8), (w9, b9), (w10, b10), (w11, b11), (w12, b12), (w13, b13), B14, B15]) =
   runC lib ⟨h.length, h.length, 16, none⟩ (.loop b6_2) ([(5, v5), (6, v6), (7, v7), (17, v17), (18, LV), (19, .int .i64 i), (20, .int .i64 ((k : Int) + 1))], h ++ [B0, B1, B2, B3, B4, B5, B6, B7, c8, c9, c10, c11, c12, c13, B14, B15]) := by
 have c1 : (k : Int) < 5 := by omega
 obtain ⟨o1, f1, g1⟩ := same_add4 hs ht hu hw
 obtain ⟨o2, f2, g2⟩ := same_sub4 hs ht hu hw
 obtain ⟨o3, f3, g3⟩ := same_mul4 hs ht hu hw
 obtain ⟨o4, f4, g4⟩ := same_div4 hs ht hu hw
 obtain ⟨c, f5, g5⟩ := same_cmp4 hs ht hu hw
 have ff := fun H lo => four_gen f1 f2 f3 f4 H lo
 rw [fourV_eq] at ff
 simp only [resO_eq, rO, frV] at ff g1 g2 g3 g4 f5 g5
 refine ⟨(w8 + 1, .box [.int .i64 (eO o1), .int .i64 (eO o2), .int .i64 (eO o3), .int .i64 (eO o4)]), (w9 + 1, .box [.str (nS o1), .str (dS o1), .str (nS o2), .str (dS o2), .str (nS o3), .str (dS o3), .str (nS o4), .str (dS o4)]), (w10 + 1, .box [.str (nS o1), .str (dS o1), .str (nS o2), .str (dS o2), .str (nS o3), .str (dS o3), .str (nS o4), .str (dS o4)]), (w11 + 1, .box [.int .i64 (eO o1), .int .i64 (eO o2), .int .i64 (eO o3), .int .i64 (eO o4)]), (w12 + 1, .box [.str u, .str v]), (w13 + 1, .box [.str s, .str t]), ?_⟩
 conv => lhs; rw [w_loop]
 simp (maxSteps := 30000000) (disch := omega) only [go_sem, hl, x1, x2, p1, p2, c1, splice_ok, ff, g1, g2, g3, g4, f5, g5, eq8, eq4]
def Els (LV : AV) (es : List (List UInt8 × List UInt8)) : Prop := es.length = 5 ∧ lenv false LV = some (.int .i64 5) ∧ ∀ (i : Nat) (hi : i < es.length), sidx 2 LV (.int .i64 i) = some i ∧ (∀ H, pcells H (.iptr LV i 0) = some [.str es[i].1, .str es[i].2]) ∧ (∀ H, pcells H (.iptr LV i 1) = some [.str es[i].2]) ∧ Shrt es[i].1 ∧ Shrt es[i].2
omit hl in
theorem mr_loop {es : List (List UInt8 × List UInt8)} (hE : Els LV es) (i : Nat) (hi : i < 5) : ∀ (m k : Nat), k + m = 5 → ∀ (w8 w9 w10 w11 w12 w13 : Nat) (b8 b9 b10 b11 b12 b13 : Blk), ∃ c8 c9 c10 c11 c12 c13 : Nat × Blk,
  runC lib ⟨h.length, h.length, 16, none⟩ (.loop b6_2) ([(5, v5), (6, v6), (7, v7), (17, v17), (18, LV), (19, .int .i64 i), (20, .int .i64 k)], h ++ [B0, B1, B2, B3, B4, B5, B6, B7, (w8, b8), (w9, b9), (w10, b10), (w11, b11), (w12, b12), (w13, b13), B14, B15]) =
   some (.exit 2, ([(5, v5), (6, v6), (7, v7), (17, v17), (18, LV), (19, .int .i64 i)], h ++ [B0, B1, B2, B3, B4, B5, B6, B7, c8, c9, c10, c11, c12, c13, B14, B15])) := by
 obtain ⟨h5, hl, hA⟩ := hE
 intro m
 induction m with
 | zero =>
  intro k hk w8 w9 w10 w11 w12 w13 b8 b9 b10 b11 b12 b13
  obtain rfl : k = 5 := by omega
  refine ⟨(w8, b8), (w9, b9), (w10, b10), (w11, b11), (w12, b12), (w13, b13), ?_⟩
  have k5 : ¬ ((5 : Nat) : Int) < 5 := by decide
  rw [w_loop]
  simp (maxSteps := 30000000) (disch := omega) only [go_sem, hl, k5]
 | succ m ih =>
  intro k hk w8 w9 w10 w11 w12 w13 b8 b9 b10 b11 b12 b13
  obtain ⟨x1, p1, _, l1, l2⟩ := hA i (by omega)
  obtain ⟨x2, p2, _, l3, l4⟩ := hA k (by omega)
  obtain ⟨⟨w8', b8'⟩, ⟨w9', b9'⟩, ⟨w10', b10'⟩, ⟨w11', b11'⟩, ⟨w12', b12'⟩, ⟨w13', b13'⟩, e⟩ := mr_in h v5 v6 v7 v17 LV B0 B1 B2 B3 B4 B5 B6 B7 B14 B15 hl l1 l2 l3 l4 i k (by omega) x1 x2 p1 p2 w8 w9 w10 w11 w12 w13 b8 b9 b10 b11 b12 b13
  obtain ⟨c8, c9, c10, c11, c12, c13, e2⟩ := ih (k + 1) (by omega) w8' w9' w10' w11' w12' w13' b8' b9' b10' b11' b12' b13'
  rw [cast1] at e2
  exact ⟨_, _, _, _, _, _, e.trans e2⟩
end
section
variable (h : Heap) (v5 v6 v7 v17 LV PV : AV) (B0 B1 B2 B3 B8 B9 B10 B11 B12 B13 B14 B15 : Nat × Blk)
set_option maxHeartbeats 4000000 in
theorem mr_gr {s t : List UInt8} (hs : Shrt s) (ht : Shrt t) (i k : Nat) (hk : k < 2) (p : Int) (x1 : sidx 2 LV (.int .i64 i) = some i) (p1 : ∀ H, pcells H (.iptr LV i 0) = some [.str s, .str t]) (x2 : sidx 1 PV (.int .i64 k) = some k) (p2 : ∀ H, pcells H (.iptr PV k 0) = some [.int .i64 p])
  (w4 w5 w6 w7 : Nat) (b4 b5 b6 b7 : Blk) : ∃ c4 c5 c6 c7 : Nat × Blk,
  runC lib ⟨h.length, h.length, 16, none⟩ (.loop b6_1) ([(5, v5), (6, v6), (7, v7), (17, v17), (18, LV), (19, .int .i64 i), (137, PV), (138, .int .i64 2), (139, .int .i64 k)], h ++ [B0, B1, B2, B3, (w4, b4), (w5, b5), (w6, b6), (w7, b7), B8, B9, B10, B11, B12, B13, B14, B15]) =
   runC lib ⟨h.length, h.length, 16, none⟩ (.loop b6_1) ([(5, v5), (6, v6), (7, v7), (17, v17), (18, LV), (19, .int .i64 i), (137, PV), (138, .int .i64 2), (139, .int .i64 ((k : Int) + 1))], h ++ [B0, B1, B2, B3, c4, c5, c6, c7, B8, B9, B10, B11, B12, B13, B14, B15]) := by
 have c1 : (k : Int) < 2 := by omega
 obtain ⟨o, o', f1, g1, f2, g2⟩ := same_grid hs ht p
 simp only [resO_eq, rO, frV] at f1 g1 f2 g2
 refine ⟨(w4 + 1, .box [.str (nS o'), .str (dS o')]), (w5 + 1, .box [.str (nS o'), .str (dS o')]), (w6 + 1, .box [.str (nS o), .str (dS o)]), (w7 + 1, .box [.str (nS o), .str (dS o)]), ?_⟩
 conv => lhs; rw [w_loop]
 simp (maxSteps := 30000000) (disch := omega) only [go_sem, x1, x2, p1, p2, c1, splice_ok, f1, g1, f2, g2, pr_same]
theorem mr_grids {s t : List UInt8} (hs : Shrt s) (ht : Shrt t) (i : Nat) (p q : Int) (x1 : sidx 2 LV (.int .i64 i) = some i) (p1 : ∀ H, pcells H (.iptr LV i 0) = some [.str s, .str t])
  (w4 w5 w6 w7 : Nat) (b4 b5 b6 b7 : Blk) : ∃ c4 c5 c6 c7 : Nat × Blk,
  runC lib ⟨h.length, h.length, 16, none⟩ (.loop b6_1) ([(5, v5), (6, v6), (7, v7), (17, v17), (18, LV), (19, .int .i64 i), (137, .lsf 1 [.int .i64 p, .int .i64 q]), (138, .int .i64 2), (139, .int .i64 0)], h ++ [B0, B1, B2, B3, (w4, b4), (w5, b5), (w6, b6), (w7, b7), B8, B9, B10, B11, B12, B13, B14, B15]) =
   some (.exit 4, ([(5, v5), (6, v6), (7, v7), (17, v17), (18, LV), (19, .int .i64 i)], h ++ [B0, B1, B2, B3, c4, c5, c6, c7, B8, B9, B10, B11, B12, B13, B14, B15])) := by
 obtain ⟨⟨w4', b4'⟩, ⟨w5', b5'⟩, ⟨w6', b6'⟩, ⟨w7', b7'⟩, e1⟩ := mr_gr h v5 v6 v7 v17 LV (.lsf 1 [.int .i64 p, .int .i64 q]) B0 B1 B2 B3 B8 B9 B10 B11 B12 B13 B14 B15 hs ht i 0 (by omega) p x1 p1 rfl (fun H => rfl) w4 w5 w6 w7 b4 b5 b6 b7
 obtain ⟨c4, c5, c6, c7, e2⟩ := mr_gr h v5 v6 v7 v17 LV (.lsf 1 [.int .i64 p, .int .i64 q]) B0 B1 B2 B3 B8 B9 B10 B11 B12 B13 B14 B15 hs ht i 1 (by omega) q x1 p1 rfl (fun H => rfl) w4' w5' w6' w7' b4' b5' b6' b7'
 refine ⟨c4, c5, c6, c7, e1.trans (e2.trans ?_)⟩
 generalize (AV.lsf 1 [.int .i64 p, .int .i64 q]) = PV
 have k2 : ¬ ((1 : Nat) : Int) + 1 < 2 := by decide
 rw [w_loop]
 simp (maxSteps := 30000000) (disch := omega) only [go_sem, k2]
end
set_option maxHeartbeats 4000000 in
theorem mr_out (h : Heap) (v5 v6 : AV) {pl : Int} (hpl : I64 pl) (LV : AV) (B0 B1 B14 B15 : Nat × Blk) {es : List (List UInt8 × List UInt8)} (hE : Els LV es) (i : Nat) (hi : i < 5) (w2 w3 w4 w5 w6 w7 w8 w9 w10 w11 w12 w13 : Nat) (b2 b3 b4 b5 b6 b7 b8 b9 b10 b11 b12 b13 : Blk) : ∃ c2 c3 c4 c5 c6 c7 c8 c9 c10 c11 c12 c13 : Nat × Blk,
  runC lib ⟨h.length, h.length, 16, none⟩ (.loop b6_0) ([(5, v5), (6, v6), (7, .int .i64 pl), (17, .bool true), (18, LV), (19, .int .i64 i)], h ++ [B0, B1, (w2, b2), (w3, b3), (w4, b4), (w5, b5), (w6, b6), (w7, b7), (w8, b8), (w9, b9), (w10, b10), (w11, b11), (w12, b12), (w13, b13), B14, B15]) =
   runC lib ⟨h.length, h.length, 16, none⟩ (.loop b6_0) ([(5, v5), (6, v6), (7, .int .i64 pl), (17, .bool true), (18, LV), (19, .int .i64 ((i : Int) + 1))], h ++ [B0, B1, c2, c3, c4, c5, c6, c7, c8, c9, c10, c11, c12, c13, B14, B15]) := by
 have c1 : (i : Int) < 5 := by omega
 have h0 := hE
 obtain ⟨h5, hl, hA⟩ := h0
 obtain ⟨x1, p1, _, l1, l2⟩ := hA i (by omega)
 obtain ⟨x0, _, p0, l3, l4⟩ := hA 0 (by omega)
 obtain ⟨c8, c9, c10, c11, c12, c13, e1⟩ := mr_loop h v5 v6 (.int .i64 pl) (.bool true) LV B0 B1 (w2, b2) (w3, b3) (w4, b4) (w5, b5) (w6, b6) (w7, b7) B14 B15 hE i hi 5 0 rfl w8 w9 w10 w11 w12 w13 b8 b9 b10 b11 b12 b13
 obtain ⟨c4, c5, c6, c7, e2⟩ := mr_grids h v5 v6 (.int .i64 pl) (.bool true) LV B0 B1 (w2, b2) (w3, b3) c8 c9 c10 c11 c12 c13 B14 B15 l1 l2 i pl (pk pl 32) x1 p1 w4 w5 w6 w7 b4 b5 b6 b7
 obtain ⟨o, f1, g1⟩ := same_make4 l1 l4
 have f2 := fun H lo => qvalid_run es[i].1 es[i].2 H lo
 have g2 := fun H lo => svalid_run l1 l2 H lo
 have pf := fun H lo => lpick_run (n := 32) (by decide) hpl H lo
 have ez : ((0 : Nat) : Int) = 0 := rfl
 rw [ez] at e1 x0
 have l2' : lenv false (.lsf 1 [.int .i64 pl, .int .i64 (pk pl 32)]) = some (.int .i64 2) := rfl
 simp only [resO_eq, rO, frV] at f1 g1 f2 g2
 generalize es[i].1 = s at *
 generalize es[i].2 = t at *
 generalize es[0].1 = s0 at *
 generalize es[0].2 = t0 at *
 generalize rvalid s t = rv at *
 refine ⟨(w2 + 1, .box [.str (nS o), .str (dS o)]), (w3 + 1, .box [.str (nS o), .str (dS o)]), c4, c5, c6, c7, c8, c9, c10, c11, c12, c13, ?_⟩
 conv => lhs; rw [w_loop]
 simp (maxSteps := 30000000) (disch := omega) only [go_sem, hl, x1, x0, p1, p0, c1, splice_ok, e1, e2, f1, g1, f2, g2, pf, pr_same, l2', beq_self_eq_true, Bool.not_true, Bool.not_false]
end Go.VI.Rational
namespace Go.VI.Rational
open Go.VI.Num
/- BIGSTEPS -/
theorem cut4_run {s t : List UInt8} (hs : Shrt s) (ht : Shrt t) (h : Heap) (lo : Nat) : (run lib).fn 13 [.agg [.str s, .str t]] h lo = some (.agg [.str (s.take (min s.length 210)), .str (t.take (min t.length 210))], h) := by
 unfold Shrt at hs ht
 have em1 : min (s.length : Int) 210 = ((min s.length 210 : Nat) : Int) := by omega
 have em2 : min (t.length : Int) 210 = ((min t.length 210 : Nat) : Int) := by omega
 have t1 := sstr_to (k := .i64) (l := s) (show min s.length 210 ≤ s.length by omega)
 have t2 := sstr_to (k := .i64) (l := t) (show min t.length 210 ≤ t.length by omega)
 rw [run_closed (x := x13) rfl rfl rfl rfl]
 simp (maxSteps := 30000000) (disch := omega) only [go_sem, x13, em1, em2, t1, t2]
theorem mr_all (h : Heap) (v5 v6 : AV) {pl : Int} (hpl : I64 pl) (LV : AV) (B0 B1 B14 B15 : Nat × Blk) {es : List (List UInt8 × List UInt8)} (hE : Els LV es) : ∀ (m i : Nat), i + m = 5 → ∀ (w2 w3 w4 w5 w6 w7 w8 w9 w10 w11 w12 w13 : Nat) (b2 b3 b4 b5 b6 b7 b8 b9 b10 b11 b12 b13 : Blk), ∃ c2 c3 c4 c5 c6 c7 c8 c9 c10 c11 c12 c13 : Nat × Blk,
  runC lib ⟨h.length, h.length, 16, none⟩ (.loop b6_0) ([(5, v5), (6, v6), (7, .int .i64 pl), (17, .bool true), (18, LV), (19, .int .i64 i)], h ++ [B0, B1, (w2, b2), (w3, b3), (w4, b4), (w5, b5), (w6, b6), (w7, b7), (w8, b8), (w9, b9), (w10, b10), (w11, b11), (w12, b12), (w13, b13), B14, B15]) =
   some (.exit 0, ([(5, v5), (6, v6), (17, .bool true)], h ++ [B0, B1, c2, c3, c4, c5, c6, c7, c8, c9, c10, c11, c12, c13, B14, B15])) := by
 intro m
 induction m with
 | zero =>
  intro i hi w2 w3 w4 w5 w6 w7 w8 w9 w10 w11 w12 w13 b2 b3 b4 b5 b6 b7 b8 b9 b10 b11 b12 b13
  obtain rfl : i = 5 := by omega
  refine ⟨(w2, b2), (w3, b3), (w4, b4), (w5, b5), (w6, b6), (w7, b7), (w8, b8), (w9, b9), (w10, b10), (w11, b11), (w12, b12), (w13, b13), ?_⟩
  have k5 : ¬ ((5 : Nat) : Int) < 5 := by decide
  have hl := hE.2.1
  rw [w_loop]
  simp (maxSteps := 30000000) (disch := omega) only [go_sem, hl, k5]
 | succ m ih =>
  intro i hi w2 w3 w4 w5 w6 w7 w8 w9 w10 w11 w12 w13 b2 b3 b4 b5 b6 b7 b8 b9 b10 b11 b12 b13
  obtain ⟨⟨u2, a2⟩, ⟨u3, a3⟩, ⟨u4, a4⟩, ⟨u5, a5⟩, ⟨u6, a6⟩, ⟨u7, a7⟩, ⟨u8, a8⟩, ⟨u9, a9⟩, ⟨u10, a10⟩, ⟨u11, a11⟩, ⟨u12, a12⟩, ⟨u13, a13⟩, e⟩ := mr_out h v5 v6 hpl LV B0 B1 B14 B15 hE i (by omega) w2 w3 w4 w5 w6 w7 w8 w9 w10 w11 w12 w13 b2 b3 b4 b5 b6 b7 b8 b9 b10 b11 b12 b13
  obtain ⟨c2, c3, c4, c5, c6, c7, c8, c9, c10, c11, c12, c13, e2⟩ := ih (i + 1) (by omega) u2 u3 u4 u5 u6 u7 u8 u9 u10 u11 u12 u13 a2 a3 a4 a5 a6 a7 a8 a9 a10 a11 a12 a13
  rw [cast1] at e2
  exact ⟨c2, c3, c4, c5, c6, c7, c8, c9, c10, c11, c12, c13, e.trans e2⟩
theorem shrt_txt {z : Int} (h : Fit z) : Shrt (itxt z) := fit_str h
theorem shrt_cut (s : List UInt8) : Shrt (s.take (min s.length 210)) := by unfold Shrt; simp; omega
theorem els_of {p0 p1 p2 p3 p4 q0 q1 q2 q3 q4 : List UInt8} (h0 : Shrt p0) (h1 : Shrt p1) (h2 : Shrt p2) (h3 : Shrt p3) (h4 : Shrt p4) (k0 : Shrt q0) (k1 : Shrt q1) (k2 : Shrt q2) (k3 : Shrt q3) (k4 : Shrt q4) :
  Els (.lsf 2 [.agg [.str p0, .str q0], .agg [.str p1, .str q1], .agg [.str p2, .str q2], .agg [.str p3, .str q3], .agg [.str p4, .str q4]]) [(p0, q0), (p1, q1), (p2, q2), (p3, q3), (p4, q4)] := by
 refine ⟨rfl, rfl, fun i hi => ?_⟩
 match i, hi with
 | 0, _ => exact ⟨rfl, fun H => rfl, fun H => rfl, h0, k0⟩
 | 1, _ => exact ⟨rfl, fun H => rfl, fun H => rfl, h1, k1⟩
 | 2, _ => exact ⟨rfl, fun H => rfl, fun H => rfl, h2, k2⟩
 | 3, _ => exact ⟨rfl, fun H => rfl, fun H => rfl, h3, k3⟩
 | 4, _ => exact ⟨rfl, fun H => rfl, fun H => rfl, h4, k4⟩
set_option maxHeartbeats 8000000 in
theorem mref4_run {s t u v : List UInt8} (hs : Shrt s) (ht : Shrt t) (hu : Shrt u) (hw : Shrt v) {x0 x1 x2 x3 y0 y1 y2 y3 z0 z1 n d pl : Int} (i0 : I64 x0) (i1 : I64 x1) (i2 : I64 x2) (i3 : I64 x3) (j0 : I64 y0) (j1 : I64 y1) (j2 : I64 y2) (j3 : I64 y3) (k0 : I64 z0) (k1 : I64 z1) (hn : I64 n) (hd : I64 d) (hp : I64 pl) (h : Heap) (lo : Nat) :
  (run lib).fn 6 [.agg [.str s, .str t], .agg [.str u, .str v], .agg [.int .i64 x0, .int .i64 x1, .int .i64 x2, .int .i64 x3], .agg [.int .i64 y0, .int .i64 y1, .int .i64 y2, .int .i64 y3], .agg [.int .i64 z0, .int .i64 z1], .int .i64 n, .int .i64 d, .int .i64 pl] h lo = some (.bool true, h) := by
 have sa := fun H lo => sane_run H lo
 have d1 := fun H lo => long_run i0 i1 i2 i3 H lo
 have d2 := fun H lo => long_run j0 j1 j2 j3 H lo
 have d3 := fun H lo => small_run k0 k1 H lo
 have ct1 := fun H lo => cut4_run hs ht H lo
 have ct2 := fun H lo => cut4_run hu hw H lo
 have f1 := (longQ_fit x0 x1 x2 x3).fit
 have f2 := (longQ_fit y0 y1 y2 y3).fit
 have f3 : FitQ (smallQ z0 z1) := by
  have r1 := pk_range z0 (n := 1999) (by decide)
  have r2 := pk_range z1 (n := 60) (by decide)
  exact (sm_of (by omega) (by omega) (by omega)).fit
 have hE := els_of (shrt_cut s) (shrt_cut u) (shrt_txt f1.1) (shrt_txt f2.1) (shrt_txt f3.1) (shrt_cut t) (shrt_cut v) (shrt_txt (den_fit f1)) (shrt_txt (den_fit f2)) (shrt_txt (den_fit f3))
 have nf : Fit n := small_fit (by have := hn.1; have := hn.2; omega)
 have df : Fit d := small_fit (by have := hd.1; have := hd.2; omega)
 have o1 := fun H lo => qof_run nf df hn hd H lo
 have o2 := fun H lo => sof_run nf df hn hd H lo
 simp only [rt, frV] at d1 d2 d3
 simp only [resO_eq, rO] at o1 o2
 generalize makeQ n d = O at *
 generalize itxt (longQ x0 x1 x2 x3).num = a1 at *
 generalize itxt ((longQ x0 x1 x2 x3).den : Int) = a2 at *
 generalize itxt (longQ y0 y1 y2 y3).num = b1 at *
 generalize itxt ((longQ y0 y1 y2 y3).den : Int) = b2 at *
 generalize itxt (smallQ z0 z1).num = c1 at *
 generalize itxt ((smallQ z0 z1).den : Int) = c2 at *
 generalize s.take (min s.length 210) = s' at *
 generalize t.take (min t.length 210) = t' at *
 generalize u.take (min u.length 210) = u' at *
 generalize v.take (min v.length 210) = v' at *
 obtain ⟨e2, e3, e4, e5, e6, e7, e8, e9, e10, e11, e12, e13, lp⟩ := mr_all h (.int .i64 n) (.int .i64 d) hp _ (0, .dead) (0, .dead) (1, .box [.str s', .str t']) (1, .box [.str u', .str v']) hE 5 0 rfl 0 0 0 0 0 0 0 0 0 0 0 0 .dead .dead .dead .dead .dead .dead .dead .dead .dead .dead .dead .dead
 have ez : ((0 : Nat) : Int) = 0 := rfl
 rw [ez] at lp
 have pe : ∀ s t : List UInt8, eqvv false [.s, .s] (.agg [.str s, .str t]) (.agg [.str s, .str t]) = some (.bool true) := fun s t => eq_id s t
 rw [run_closed (x := x6) rfl rfl rfl rfl]
 simp (maxSteps := 30000000) (disch := omega) only [go_sem, x6, sa, d1, d2, d3, ct1, ct2, o1, o2, lp, pe]
def st2 : Shp := .agg [.str, .str]
theorem st2_of {c : List AV} (t : TyL st2 c) : ∃ s u : List UInt8, st2.mk c = .agg [.str s, .str u] ∧ Shrt s ∧ Shrt u := by
 simp only [st2, TyL, TyLs] at t
 obtain ⟨a, b, rfl, ⟨s, rfl, hs⟩, a', b', rfl, ⟨u, rfl, hu⟩, rfl⟩ := t
 exact ⟨s, u, rfl, hs, hu⟩
def shMatches : List Shp := [st2, st2, a4, a4, a2, .int .i64, .int .i64, .int .i64]
theorem walkMatches (xs : List AV) (ht : TyA shMatches xs) : ∃ h', (run lib).fn 6 xs [] 0 = some (.bool true, h') := by
 simp only [shMatches, TyA] at ht
 obtain ⟨c0, r0, rfl, t0, c1, r1, rfl, t1, c2, r2, rfl, t2, c3, r3, rfl, t3, c4, r4, rfl, t4, c5, r5, rfl, t5, c6, r6, rfl, t6, c7, r7, rfl, t7, rfl⟩ := ht
 obtain ⟨s, t, e0, hs, ht⟩ := st2_of t0
 obtain ⟨u, v, e1, hu, hv⟩ := st2_of t1
 obtain ⟨a, b, d, e, e2, h0, h1, h2, h3⟩ := a4_of t2
 obtain ⟨a', b', d', e', e3, k0, k1, k2, k3⟩ := a4_of t3
 obtain ⟨y, z, e4, m0, m1⟩ := a2_of t4
 obtain ⟨n, e5, hn⟩ := int_of' t5
 obtain ⟨o, e6, ho⟩ := int_of' t6
 obtain ⟨p, e7, hp⟩ := int_of' t7
 rw [e0, e1, e2, e3, e4, e5, e6, e7]
 exact ⟨_, mref4_run hs ht hu hv h0 h1 h2 h3 k0 k1 k2 k3 m0 m1 hn ho hp [] 0⟩
end Go.VI.Rational
