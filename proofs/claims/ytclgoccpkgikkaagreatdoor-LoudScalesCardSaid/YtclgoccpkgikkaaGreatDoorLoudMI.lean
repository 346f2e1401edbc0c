/- What the functions on integers compute, part MI. -/
import Derived.Test.YtclgoccpkgikkaaGreatDoorLoudMG
set_option linter.unusedVariables false
set_option linter.unusedSimpArgs false
namespace Go.VI.Loud
open Go.VI.Num
/- BIGSTEPS -/
theorem sm30 {z : Int} (h : z.natAbs < 1000000000000000000000000000000) : Fit z := by
 have : (1000000000000000000000000000000 : Nat) = 10 ^ 30 := by decide
 unfold Fit
 rw [this] at h
 exact Nat.lt_of_lt_of_le h (Nat.pow_le_pow_right (by decide) (by decide))
theorem mulQ_mid {a b : Rat} {A B C D : Nat} (h1 : a.num.natAbs ≤ A) (h2 : b.num.natAbs ≤ B) (h3 : a.den ≤ C) (h4 : b.den ≤ D) (h5 : A * B < 1000000000000000000000000000000) (h6 : C * D < 1000000000000000000000000000000) : mulQ a b = some (a * b) ∧ FitQ (a * b) := by
 have p1 := natAbs_mul_lt h1 h2
 have p2 := natAbs_mul_lt (a := (a.den : Int)) (b := (b.den : Int)) (by rw [Int.natAbs_natCast]; exact h3) (by rw [Int.natAbs_natCast]; exact h4)
 have q := q_mul a b
 have hd : (a.den : Int) * b.den ≠ 0 := den2_ne a b
 unfold mulQ
 generalize a.num * b.num = x at *
 generalize (a.den : Int) * b.den = y at *
 have f1 := sm30 (z := x) (by omega)
 have f2 := sm30 (z := y) (by omega)
 rw [fitZ_t f1, fitZ_t f2]
 refine ⟨rfl, ?_⟩
 rw [← q]; exact divInt_fit hd f1 f2
theorem ktimes_run {a : Rat} (h1 : a.num.natAbs ≤ 41505174165846491136) (h2 : a.den ≤ 2415919104) {n : Int} (hn : 0 ≤ n ∧ n ≤ 4096) (h : Heap) (lo : Nat) :
  (run lib).fn 27 [rt a, .int .i64 n] h lo = some (.tuple [rt (a * Rat.divInt (n * n) 1), .bool true], h) := by
 have nn := mul_bd hn hn
 have o := fun H lo => of_run (n := n * n) (d := 1) (by decide) (by omega) (by decide) H lo
 have f1 : FitQ a := ⟨sm21 (z := a.num) (by omega), by have := sm21 (z := (a.den : Int)) (by omega); unfold Fit at this; rwa [Int.natAbs_natCast] at this⟩
 have f2 : FitQ (Rat.divInt (n * n) 1) := fitQ21 (by decide) (by omega) (by decide)
 obtain ⟨d1, d2⟩ := divInt_abs (n := n * n) (d := 1) (by decide)
 obtain ⟨m1, m2⟩ := mulQ_mid (a := a) (b := Rat.divInt (n * n) 1) (A := 41505174165846491136) (B := 16777216) (C := 2415919104) (D := 1) h1 (by omega) h2 (by omega) (by decide) (by decide)
 have mu := fun H lo => qmul_run f1 f2 H lo
 rw [m1] at mu
 clear m1 m2 d1 d2 f1 f2
 generalize Rat.divInt (n * n) 1 = R at *
 generalize hQ : a * R = Q at *
 simp only [resO, rt, frV] at o mu ⊢
 rw [run_closed (x := x27) rfl rfl rfl rfl]
 simp (maxSteps := 30000000) (disch := omega) only [go_sem, x27, o, mu]
theorem cnt_of_gate {g h : Int} {es : List Int} (e : iL (gateL g es) = iL (gateL h es)) : cntL g es = cntL h es := by
 have : gateL g es = gateL h es := by
  unfold iL at e
  exact (List.map_inj_right fun a b hab => Int.ofNat.inj hab).mp e
 rw [← gate_map g es, ← gate_map h es, this]
theorem scales_eq {g h : Int} {es : List Int} (e : cntL g es = cntL h es) : measQ es g * Rat.divInt (h * h) 1 = measQ es h * Rat.divInt (g * g) 1 := by
 unfold measQ
 rw [e, Rat.mul_assoc, Rat.mul_assoc]
 congr 1
 rw [Rat.divInt_mul_divInt, Rat.divInt_mul_divInt, Int.mul_comm (g * g)]
theorem lscales_run {h : Heap} {v : AV} {xs : List Int} (hv : Sl h 1 v (ints xs)) (hl : xs.length ≤ 9223372036854775807) (hi : ∀ x ∈ xs, I64 x) {one two : Int} (h1 : I64 one) (h2 : I64 two) (lo : Nat) :
  ∃ h', (run lib).fn 4 [v, .int .i64 one, .int .i64 two] h lo = some (.bool true, h') := by
 refine ⟨h, ?_⟩
 obtain ⟨vv, vc⟩ := Sl_val hv
 have sn := fun H lo => ksane_run H lo
 have md := fun fr lo => made_run (hv.app fr) hl hi lo
 have hk := sound_ok xs
 generalize soundL xs = S at *
 have p1 := fun H lo => kpick_run (n := 4097) (by decide) h1 H lo
 have p2 := fun H lo => kpick_run (n := 4097) (by decide) h2 H lo
 have r1 := pkI_range one (n := 4097) (by decide)
 have r2 := pkI_range two (n := 4097) (by decide)
 generalize pkI one 4097 = g at *
 generalize pkI two 4097 = k at *
 have sl := fun H => Sl.lstV H 1 (ints S)
 have bl := fun H lo => ublocks_ok (sl H) hk lo
 have m1 := fun H lo => umeas_ok (sl H) hk (g := g) (by omega) lo
 have m2 := fun H lo => umeas_ok (sl H) hk (g := k) (by omega) lo
 have hE := blocks_okE hk
 generalize blocksL S = B at *
 obtain ⟨V1, W1, a1, a2, a3⟩ := ugate_ok (Sl.lstV (h ++ [(0, .dead), (0, .dead), (0, .dead), (0, .dead)]) 1 (ints B)) hE (g := g) (by omega) h.length
 obtain ⟨V2, W2, b1, b2, b3⟩ := ugate_ok (Sl.lstV (h ++ [(0, .dead), (0, .dead), (0, .dead), (0, .dead)]) 1 (ints B)) hE (g := k) (by omega) h.length
 obtain ⟨s1, s2⟩ := meas_small hE (g := g) (by omega)
 obtain ⟨s3, s4⟩ := meas_small hE (g := k) (by omega)
 have f1 := meas_fit hE (g := g) (by omega)
 have f2 := meas_fit hE (g := k) (by omega)
 have v1 := fun H lo => qvalid_run (itxt (measQ B g).num) (itxt ((measQ B g).den : Int)) H lo
 have v2 := fun H lo => qvalid_run (itxt (measQ B k).num) (itxt ((measQ B k).den : Int)) H lo
 rw [rvalid_itxt f1] at v1
 rw [rvalid_itxt f2] at v2
 have gl : (iL (gateL g B)).length ≤ 9223372036854775807 := by
  rw [iL_len, gate_len]
  have := (cnt_bound hE g).1
  omega
 have it := fun H lo => vints_run (a3.sl H) (b3.sl H) gl lo
 have t1 := fun H lo => ktimes_run s1 s2 (n := k) (by omega) H lo
 have t2 := fun H lo => ktimes_run s3 s4 (n := g) (by omega) H lo
 have key : iL (gateL g B) = iL (gateL k B) → measQ B g * Rat.divInt (k * k) 1 = measQ B k * Rat.divInt (g * g) 1 := fun e => scales_eq (cnt_of_gate e)
 clear s1 s2 s3 s4 f1 f2
 generalize measQ B g * Rat.divInt (k * k) 1 = X at *
 generalize measQ B k * Rat.divInt (g * g) 1 = Y at *
 generalize measQ B g = M at *
 generalize measQ B k = N at *
 simp only [rt, frV] at m1 m2 v1 v2 t1 t2
 rw [run_closed (x := x4) rfl rfl rfl rfl]
 by_cases e : iL (gateL g B) = iL (gateL k B)
 ·have := key e
  subst this
  rw [decide_eq_true e] at it
  simp (maxSteps := 30000000) (disch := omega) only [go_sem, x4, vv, vc, sn, md, p1, p2, bl, a1, a2, b1, b2, m1, m2, v1, v2, it, t1, t2, eq_id]
 ·rw [decide_eq_false e] at it
  simp (maxSteps := 30000000) (disch := omega) only [go_sem, x4, vv, vc, sn, md, p1, p2, bl, a1, a2, b1, b2, m1, m2, v1, v2, it]
def shScales : List Shp := [.slice 1 (.int .i64), .int .i64, .int .i64]
theorem walkScales (xs : List AV) (ht : TyA shScales xs) : ∃ h', (run lib).fn 4 xs [] 0 = some (.bool true, h') := by
 simp only [shScales, TyA] at ht
 obtain ⟨c0, r0, rfl, t0, c1, r1, rfl, t1, c2, r2, rfl, t2, rfl⟩ := ht
 obtain ⟨l, s0, hl, hi⟩ := islice_of t0
 obtain ⟨m, e1, hm⟩ := int_of' t1
 obtain ⟨c, e2, hc⟩ := int_of' t2
 rw [e1, e2]
 exact lscales_run (s0 []) hl hi hm hc 0
end Go.VI.Loud
