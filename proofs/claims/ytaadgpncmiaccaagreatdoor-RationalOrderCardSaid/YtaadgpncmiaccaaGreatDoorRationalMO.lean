/- What the functions on integers compute, part MO. -/
import Derived.Test.YtaadgpncmiaccaaGreatDoorRationalMS
set_option linter.unusedVariables false
set_option linter.unusedSimpArgs false
namespace Go.VI.Rational
open Go.VI.Num
/- BIGSTEPS -/
theorem mul_lim {x y : Int} (hx : x.natAbs < 10 ^ 100) (hy : y.natAbs ≤ 30000) : (x * y).natAbs < 10 ^ 105 := by
 rw [Int.natAbs_mul]
 have e5 : (10 : Nat) ^ 5 = 100000 := by decide
 have h1 : x.natAbs * y.natAbs ≤ x.natAbs * 10 ^ 5 := Nat.mul_le_mul_left _ (by omega)
 have h2 : x.natAbs * 10 ^ 5 < 10 ^ 100 * 10 ^ 5 := Nat.mul_lt_mul_of_pos_right hx (by decide)
 rw [← Nat.pow_add] at h2
 exact Nat.lt_of_le_of_lt h1 h2
theorem fit_105 {z : Int} (h : z.natAbs < 2 * 10 ^ 105) : Fit z := by
 have h1 : (10 : Nat) ^ 106 ≤ 10 ^ 200 := pow_fit (by decide)
 have h2 : (10 : Nat) ^ 106 = 10 * 10 ^ 105 := by rw [Nat.pow_succ, Nat.mul_comm]
 unfold Fit
 omega
theorem ord_ops {a t : Rat} (ha : FitL a) (ht : SmQ t) : addQ a t = some (a + t) ∧ mulQ a t = some (a * t) ∧ FitQ (a + t) ∧ FitQ (a * t) := by
 have hda : ((a.den : Nat) : Int).natAbs < 10 ^ 100 := by rw [Int.natAbs_natCast]; exact ha.2
 have hdt : ((t.den : Nat) : Int).natAbs ≤ 30000 := by have := ht.2; omega
 have h1 := mul_lim ha.1 hdt
 have h2 := mul_lim hda ht.1
 have h3 := mul_lim hda hdt
 have h4 := mul_lim ha.1 ht.1
 have q1 := q_add a t
 have q2 := q_mul a t
 have hd := den2_ne a t
 unfold addQ mulQ
 rw [Int.mul_comm (t.num)] at q1
 rw [Int.mul_comm (t.num)]
 generalize a.num * (t.den : Int) = x1 at *
 generalize (a.den : Int) * t.num = x2 at *
 generalize (a.den : Int) * (t.den : Int) = x3 at *
 generalize a.num * t.num = x4 at *
 have f1 : Fit x1 := fit_105 (by omega)
 have f2 : Fit x2 := fit_105 (by omega)
 have f3 : Fit x3 := fit_105 (by omega)
 have f4 : Fit x4 := fit_105 (by omega)
 have f5 : Fit (x1 + x2) := fit_105 (by omega)
 rw [fitZ_t f1, fitZ_t f2, fitZ_t f3, fitZ_t f4, fitZ_t f5]
 refine ⟨rfl, rfl, ?_, ?_⟩
 ·rw [← q1]; exact divInt_fit hd f5 f3
 ·rw [← q2]; exact divInt_fit hd f4 f3
theorem cmp1 (a b : Rat) : cmpQ a b = -1 ∨ cmpQ a b = 0 ∨ cmpQ a b = 1 := by
 rcases cmpQ_cases a b with h | h | h
 ·exact .inl h.1
 ·exact .inr (.inl h.1)
 ·exact .inr (.inr h.1)
section
variable (h : Heap) (v9 v13 : AV) (B0 B1 B2 B3 B4 : Nat × Blk)
set_option maxHeartbeats 4000000 in
theorem ord2 {A1 A2 C1 C2 : List UInt8} {ab bc ac : Int} {e : Bool} (r1 : ∀ H lo, (run lib).fn 23 [.agg [.str C1, .str C2], .agg [.str A1, .str A2]] H lo = some (.int .i64 (-ab), H)) (r2 : ∀ H lo, (run lib).fn 23 [.agg [.str A1, .str A2], .agg [.str A1, .str A2]] H lo = some (.int .i64 0, H))
  (he : eqvv false [.s, .s] (.agg [.str A1, .str A2]) (.agg [.str C1, .str C2]) = some (.bool e)) (ht1 : ab ≤ 0 → bc ≤ 0 → ¬ 0 < ac) (ht2 : ab ≤ 0 → bc < 0 → ¬ 0 ≤ ac) (hab : (ab = -1 ∧ e = false) ∨ (ab = 0 ∧ e = true) ∨ (ab = 1 ∧ e = false)) (hbc : bc = -1 ∨ bc = 0 ∨ bc = 1) (u12 : AV) :
  runC lib ⟨h.length, h.length, 7, none⟩ b9_2 ([(9, v9), (10, .bptr (h.length + 6) 1 0), (11, .bptr (h.length + 5) 1 0), (13, v13), (14, .int .i64 ab), (15, .int .i64 bc), (16, .int .i64 ac)], h ++ [B0, B1, B2, B3, B4, (1, .box [.str C1, .str C2]), (1, .box [.str A1, .str A2])]) =
   some (.norm, ([(9, v9), (10, .bptr (h.length + 6) 1 0), (11, .bptr (h.length + 5) 1 0), (13, v13), (14, .int .i64 ab), (92, .bool false)], h ++ [B0, B1, B2, B3, B4, (1, .box [.str C1, .str C2]), (1, .box [.str A1, .str A2])])) := by
 rw [e9_2]
 rcases hab with ⟨rfl, rfl⟩ | ⟨rfl, rfl⟩ | ⟨rfl, rfl⟩
 ·rcases hbc with rfl | rfl | rfl
  ·have t1 := ht1 (by decide) (by decide)
   have t2 := ht2 (by decide) (by decide)
   simp (maxSteps := 30000000) (disch := omega) only [go_sem, r1, r2, he, t1, t2, Bool.true_beq, Bool.false_beq, Bool.not_true, Bool.not_false, beq_self_eq_true]
  ·have t1 := ht1 (by decide) (by decide)
   simp (maxSteps := 30000000) (disch := omega) only [go_sem, r1, r2, he, t1, Bool.true_beq, Bool.false_beq, Bool.not_true, Bool.not_false, beq_self_eq_true]
  ·simp (maxSteps := 30000000) (disch := omega) only [go_sem, r1, r2, he, Bool.true_beq, Bool.false_beq, Bool.not_true, Bool.not_false, beq_self_eq_true]
 ·rcases hbc with rfl | rfl | rfl
  ·have t1 := ht1 (by decide) (by decide)
   have t2 := ht2 (by decide) (by decide)
   simp (maxSteps := 30000000) (disch := omega) only [go_sem, r1, r2, he, t1, t2, Bool.true_beq, Bool.false_beq, Bool.not_true, Bool.not_false, beq_self_eq_true]
  ·have t1 := ht1 (by decide) (by decide)
   simp (maxSteps := 30000000) (disch := omega) only [go_sem, r1, r2, he, t1, Bool.true_beq, Bool.false_beq, Bool.not_true, Bool.not_false, beq_self_eq_true]
  ·simp (maxSteps := 30000000) (disch := omega) only [go_sem, r1, r2, he, Bool.true_beq, Bool.false_beq, Bool.not_true, Bool.not_false, beq_self_eq_true]
 ·simp (maxSteps := 30000000) (disch := omega) only [go_sem, r1, r2, he, Bool.true_beq, Bool.false_beq, Bool.not_true, Bool.not_false, beq_self_eq_true]
end
set_option maxHeartbeats 8000000 in
theorem order_run {x0 x1 x2 x3 y0 y1 y2 y3 z0 z1 z2 z3 s0 s1 : Int} (i0 : I64 x0) (i1 : I64 x1) (i2 : I64 x2) (i3 : I64 x3) (j0 : I64 y0) (j1 : I64 y1) (j2 : I64 y2) (j3 : I64 y3) (k0 : I64 z0) (k1 : I64 z1) (k2 : I64 z2) (k3 : I64 z3) (m0 : I64 s0) (m1 : I64 s1) (h : Heap) (lo : Nat) :
  (run lib).fn 9 [.agg [.int .i64 x0, .int .i64 x1, .int .i64 x2, .int .i64 x3], .agg [.int .i64 y0, .int .i64 y1, .int .i64 y2, .int .i64 y3], .agg [.int .i64 z0, .int .i64 z1, .int .i64 z2, .int .i64 z3], .agg [.int .i64 s0, .int .i64 s1]] h lo = some (.bool true, h) := by
 have sa := fun H lo => sane_run H lo
 have d1 := fun H lo => long_run i0 i1 i2 i3 H lo
 have d2 := fun H lo => long_run j0 j1 j2 j3 H lo
 have d3 := fun H lo => long_run k0 k1 k2 k3 H lo
 have d4 := fun H lo => small_run m0 m1 H lo
 have sm : SmQ (smallQ s0 s1) := by
  have r1 := pk_range s0 (n := 1999) (by decide)
  have r2 := pk_range s1 (n := 60) (by decide)
  exact sm_of (by omega) (by omega) (by omega)
 have fa := longQ_fit x0 x1 x2 x3
 have fb := longQ_fit y0 y1 y2 y3
 have fc := longQ_fit z0 z1 z2 z3
 generalize longQ x0 x1 x2 x3 = a at *
 generalize longQ y0 y1 y2 y3 = b at *
 generalize longQ z0 z1 z2 z3 = c at *
 generalize smallQ s0 s1 = t at *
 have c1 := fun H lo => qcompare_run fa.fit fb.fit H lo
 have c2 := fun H lo => qcompare_run fb.fit fc.fit H lo
 have c3 := fun H lo => qcompare_run fa.fit fc.fit H lo
 have c4 := fun H lo => qcompare_run fb.fit fa.fit H lo
 have c5 := fun H lo => qcompare_run fa.fit fa.fit H lo
 obtain ⟨a1, a2, a3, a4⟩ := ord_ops fa sm
 obtain ⟨b1, b2, b3, b4⟩ := ord_ops fb sm
 have o1 := fun H lo => qsub_run fa.fit fb.fit H lo
 have o2 := fun H lo => qadd_run fa.fit sm.fit H lo
 have o3 := fun H lo => qadd_run fb.fit sm.fit H lo
 have o4 := fun H lo => qmul_run fa.fit sm.fit H lo
 have o5 := fun H lo => qmul_run fb.fit sm.fit H lo
 have c6 := fun H lo => qcompare_run a3 b3 H lo
 have c7 := fun H lo => qcompare_run a4 b4 H lo
 have c8 := fun H lo => qcompare_run sm.fit f0 H lo
 have is0 := fun H lo => lis_run [48] [49] H lo
 rw [a1] at o2
 rw [b1] at o3
 rw [a2] at o4
 rw [b2] at o5
 rw [cmpQ_anti a b] at c4
 rw [cmpQ_self] at c5
 rw [cmpQ_add] at c6
 rw [cmpQ_mul] at c7
 have t1 := @cmpQ_trans a b c
 have t2 := @cmpQ_trans' a b c
 have r1 := cmp1 a b
 have r2 := cmp1 b c
 have r3 := cmp1 t 0
 have pb : -1 ≤ cmpQ a b * cmpQ t 0 ∧ cmpQ a b * cmpQ t 0 ≤ 1 := by
  rcases r1 with e | e | e <;> rcases r3 with e' | e' | e' <;> rw [e, e'] <;> decide
 have w0 : rt 0 = .agg [.str [48], .str [49]] := rfl
 rw [w0] at c8
 obtain ⟨e, he, hab⟩ : ∃ e : Bool, eqvv false [.s, .s] (rt a) (rt b) = some (.bool e) ∧ ((cmpQ a b = -1 ∧ e = false) ∨ (cmpQ a b = 0 ∧ e = true) ∨ (cmpQ a b = 1 ∧ e = false)) := by
  by_cases hab : a = b
  ·exact ⟨true, by rw [hab]; exact eq_id _ _, .inr (.inl ⟨cmpQ_eq.mpr hab, rfl⟩)⟩
  ·refine ⟨false, ?_, ?_⟩
   ·unfold rt frV
    rw [eq_fr, if_neg Bool.false_ne_true]
    congr 2
    rw [Bool.and_eq_false_iff]
    by_cases hn : a.num = b.num
    ·right
     refine beq_false_of_ne fun he => hab (Rat.ext hn ?_)
     have := itxt_inj he
     omega
    ·exact .inl (beq_false_of_ne fun he => hn (itxt_inj he))
   ·rcases r1 with e | e | e
    ·exact .inl ⟨e, rfl⟩
    ·exact absurd (cmpQ_eq.mp e) hab
    ·exact .inr (.inr ⟨e, rfl⟩)
 have hs : ∀ d, subQ a b = some d → FitQ d ∧ cmpQ d 0 = cmpQ a b := by
  intro d hd
  unfold subQ at hd
  split at hd
  ·rename_i cc
   simp only [Bool.and_eq_true] at cc
   cases hd
   refine ⟨?_, cmpQ_sub a b⟩
   rw [← q_sub]
   exact divInt_fit (den2_ne a b) (of_decide_eq_true cc.1.2) (of_decide_eq_true cc.2)
  ·cases hd
 have l2 := fun u9 u13 B0 B1 B2 B3 B4 => ord2 h u9 u13 B0 B1 B2 B3 B4 (A1 := itxt a.num) (A2 := itxt (a.den : Int)) (C1 := itxt b.num) (C2 := itxt (b.den : Int)) (ac := cmpQ a c) c4 c5 he (fun p q => Int.not_lt.mpr (t1 p q)) (fun p q => Int.not_le.mpr (t2 p q)) hab r2 (.bool true)
 generalize cmpQ a b = ab at *
 generalize cmpQ b c = bc at *
 generalize cmpQ a c = ac at *
 generalize cmpQ t 0 = t0 at *
 simp only [resO, rt, frV] at d1 d2 d3 d4 c1 c2 c3 o1 o2 o3 o4 o5 c6 c7 c8 l2
 clear t1 t2 he hab c4 c5 r1 r2 r3 a1 a2 a3 a4 b1 b2 b3 b4
 cases hd : subQ a b with
 | none =>
  rw [hd] at o1
  simp only at o1
  clear hs hd sm fa fb fc
  rw [run_closed (x := x9) rfl rfl rfl rfl]
  simp (maxSteps := 30000000) (disch := omega) only [go_sem, x9, e9_0, e9_1, sa, d1, d2, d3, d4, c1, c2, c3, c6, c7, c8, o1, o2, o3, o4, o5, l2, is0]
 | some d =>
  obtain ⟨fd, hc⟩ := hs d hd
  have c9 := fun H lo => qcompare_run fd f0 H lo
  rw [hc, w0] at c9
  rw [hd] at o1
  simp only [rt, frV] at o1 c9
  clear hs hd sm fa fb fc
  rw [run_closed (x := x9) rfl rfl rfl rfl]
  simp (maxSteps := 30000000) (disch := omega) only [go_sem, x9, e9_0, e9_1, sa, d1, d2, d3, d4, c1, c2, c3, c6, c7, c8, c9, o1, o2, o3, o4, o5, l2, is0]
def shOrder : List Shp := [a4, a4, a4, a2]
theorem walkOrder (xs : List AV) (ht : TyA shOrder xs) : ∃ h', (run lib).fn 9 xs [] 0 = some (.bool true, h') := by
 simp only [shOrder, TyA] at ht
 obtain ⟨c0, r0, rfl, t0, c1, r1, rfl, t1, c2, r2, rfl, t2, c3, r3, rfl, t3, rfl⟩ := ht
 obtain ⟨a, b, d, e, e0, h0, h1, h2, h3⟩ := a4_of t0
 obtain ⟨a', b', d', e', e1, k0, k1, k2, k3⟩ := a4_of t1
 obtain ⟨a'', b'', d'', e'', e2, l0, l1, l2, l3⟩ := a4_of t2
 obtain ⟨u, v, e3, m0, m1⟩ := a2_of t3
 rw [e0, e1, e2, e3]
 exact ⟨_, order_run h0 h1 h2 h3 k0 k1 k2 k3 l0 l1 l2 l3 m0 m1 [] 0⟩
end Go.VI.Rational
