/- What the functions on integers compute, part MG. -/
import Derived.Test.YtclgoccpkgikkaaGreatDoorLoudML
import Derived.Test.YtclgoccpkgikkaaGreatDoorLoudMS
set_option linter.unusedVariables false
set_option linter.unusedSimpArgs false
namespace Go.VI.Loud
open Go.VI.Num
/- BIGSTEPS -/
def keepsB (l : List Int) (g m c : Int) : Bool := decide (cmpQ (measQ (blocksL l) g) (Rat.divInt m 1) ≤ 0) && decide (peakL l * g ≤ c * 1024)
theorem of_run {n d : Int} (hd : d ≠ 0) (hn : -1000000000 ≤ n ∧ n ≤ 1000000000) (hd1 : -1000000000 ≤ d ∧ d ≤ 1000000000) (H : Heap) (lo : Nat) : (run lib).fn 39 [.int .i64 n, .int .i64 d] H lo = some (.tuple [rt (Rat.divInt n d), .int .i64 0], H) := by
 have := qof_run (n := n) (d := d) (sm21 (by omega)) (sm21 (by omega)) ⟨by omega, by omega⟩ ⟨by omega, by omega⟩ H lo
 unfold makeQ at this
 rw [if_neg hd] at this
 exact this
theorem keeps_run {h : Heap} {v : AV} {l : List Int} (hv : Sl h 1 v (ints l)) (hk : okS l = true) {g m c : Int} (hg : 0 ≤ g ∧ g ≤ 4096) (hm : 0 ≤ m ∧ m ≤ 99999) (hc : 0 ≤ c ∧ c ≤ 599999) (lo : Nat) :
  (run lib).fn 29 [v, .int .i64 g, .int .i64 m, .int .i64 c] h lo = some (.bool (keepsB l g m c), h) := by
 obtain ⟨vv, vc⟩ := Sl_val hv
 have hl := (okS_mem hk).1
 have ms := fun fr lo => umeas_ok (hv.app fr) hk hg lo
 have pk := fun fr lo => upeak_run (hv.app fr) (by omega) lo
 rw [hk] at pk
 have o := fun H lo => of_run (n := m) (d := 1) (by decide) (by omega) (by decide) H lo
 have f1 := meas_fit (blocks_okE hk) hg
 have f2 : FitQ (Rat.divInt m 1) := fitQ21 (by decide) (by omega) (by decide)
 have cm := fun H lo => qcompare_run f1 f2 H lo
 have pb := peak_bd hk
 have pg := mul_bd pb hg
 unfold keepsB
 generalize measQ (blocksL l) g = Q at *
 generalize Rat.divInt m 1 = R at *
 generalize cmpQ Q R = K at *
 generalize peakL l = P at *
 simp only [rt, frV] at ms o cm
 rw [run_closed (x := x29) rfl rfl rfl rfl]
 by_cases h1 : K ≤ 0
 ·simp (maxSteps := 30000000) (disch := omega) only [go_sem, x29, vv, vc, ms, pk, o, cm, h1]
 ·simp (maxSteps := 30000000) (disch := omega) only [go_sem, x29, vv, vc, ms, pk, o, cm, h1]
theorem keeps_okG {l : List Int} {g m c : Int} (hg : 0 < g) (hm : 0 ≤ m) : keepsB l g m c = okG (blocksL l) (peakL l) m c g := by
 rw [gain_iff hg hm, Bool.and_comm]; rfl
theorem gain_keeps {l : List Int} {m c : Int} (hm : 0 ≤ m) (hc : 0 ≤ c) : gainL l m c ≤ 4096 ∧ keepsB l (gainL l m c : Nat) m c = true ∧ ∀ j : Nat, gainL l m c < j → j ≤ 4096 → keepsB l (j : Nat) m c = false := by
 refine ⟨gFind_le _ _ _ _ _, ?_, fun j h1 h2 => ?_⟩
 ·by_cases h0 : gainL l m c = 0
  ·rw [h0]
   have z := meas_zero (es := blocksL l) hm
   have e0 : ((0 : Nat) : Int) = 0 := rfl
   unfold keepsB
   rw [e0, decide_eq_true z, Bool.true_and, decide_eq_true_eq, Int.mul_zero]
   omega
  ·rw [keeps_okG (by omega) hm]
   exact (gFind_ok (blocksL l) (peakL l) m c 4096).resolve_left h0
 ·rw [keeps_okG (by omega) hm]
  exact gFind_not (blocksL l) (peakL l) m c 4096 j h1 h2
theorem lgain_run {h : Heap} {v : AV} {xs : List Int} (hv : Sl h 1 v (ints xs)) (hl : xs.length ≤ 9223372036854775807) (hi : ∀ x ∈ xs, I64 x) {most ceiling other : Int} (h1 : I64 most) (h2 : I64 ceiling) (h3 : I64 other) (lo : Nat) :
  (run lib).fn 8 [v, .int .i64 most, .int .i64 ceiling, .int .i64 other] h lo = some (.bool true, h) := by
 obtain ⟨vv, vc⟩ := Sl_val hv
 have sn := fun H lo => ksane_run H lo
 have md := made_run hv hl hi h.length
 have hk := sound_ok xs
 generalize soundL xs = S at *
 have p1 := fun H lo => kpick_run (n := 100000) (by decide) h1 H lo
 have p2 := fun H lo => kpick_run (n := 600000) (by decide) h2 H lo
 have r1 := pkI_range most (n := 100000) (by decide)
 have r2 := pkI_range ceiling (n := 600000) (by decide)
 generalize pkI most 100000 = m at *
 generalize pkI ceiling 600000 = c at *
 have sl := fun H => Sl.lstV H 1 (ints S)
 have gn := fun H lo => ugain_ok (sl H) hk (most := m) (c := c) (by omega) (by omega) lo
 obtain ⟨k1, k2, k3⟩ := gain_keeps (l := S) (m := m) (c := c) r1.1 r2.1
 generalize gainL S m c = G at *
 have kp := fun H lo => keeps_run (sl H) hk (g := (G : Int)) (m := m) (c := c) (by omega) (by omega) (by omega) lo
 rw [k2] at kp
 obtain ⟨o1, o2⟩ := h3
 rw [run_closed (x := x8) rfl rfl rfl rfl]
 by_cases hG : G = 4096
 ·subst hG
  have e4 : ((4096 : Nat) : Int) = 4096 := rfl
  rw [e4] at gn kp
  simp (maxSteps := 30000000) (disch := omega) only [go_sem, x8, sn, md, p1, p2, gn, kp, vv, vc]
 ·have hne : ¬ (G : Int) = 4096 := by omega
  have g0 : ¬ (G : Int) < 0 := by omega
  have g4 : ¬ (4096 : Int) < (G : Int) := by omega
  have p3 := fun H lo => kpick_run (n := 4096 - (G : Int)) (by omega) ⟨o1, o2⟩ H lo
  have r3 := pkI_range other (n := 4096 - (G : Int)) (by omega)
  generalize pkI other (4096 - (G : Int)) = o at *
  obtain ⟨w, rfl⟩ : ∃ w : Nat, o = w := ⟨o.toNat, by omega⟩
  have q1 := fun H lo => keeps_run (sl H) hk (g := (G : Int) + 1) (m := m) (c := c) (by omega) (by omega) (by omega) lo
  have q2 := fun H lo => keeps_run (sl H) hk (g := (G : Int) + 1 + (w : Int)) (m := m) (c := c) (by omega) (by omega) (by omega) lo
  have b1 := k3 (G + 1) (by omega) (by omega)
  have b2 := k3 (G + 1 + w) (by omega) (by omega)
  rw [show ((G + 1 : Nat) : Int) = (G : Int) + 1 by omega] at b1
  rw [show ((G + 1 + w : Nat) : Int) = (G : Int) + 1 + (w : Int) by omega] at b2
  rw [b1] at q1
  rw [b2] at q2
  simp (maxSteps := 30000000) (disch := omega) only [go_sem, x8, sn, md, p1, p2, p3, gn, kp, q1, q2, hne, g0, g4, vv, vc]
def shGain : List Shp := [.slice 1 (.int .i64), .int .i64, .int .i64, .int .i64]
theorem islice_of {t : List AV} (h : TyL (.slice 1 (.int .i64)) t) : ∃ xs : List Int, (∀ hp, Sl hp 1 (Shp.mk (.slice 1 (.int .i64)) t) (ints xs)) ∧ xs.length ≤ 9223372036854775807 ∧ ∀ x ∈ xs, I64 x := by
 obtain ⟨es, h1, h2, h3⟩ := slice_of h
 obtain ⟨l, rfl, hQ⟩ := list_of (f := AV.int .i64) (Q := I64) (es := es) fun x hx => by
  obtain ⟨c, rfl, hc⟩ := h3 x hx
  obtain ⟨n, rfl, g1, g2⟩ := i64_of hc
  exact ⟨n, rfl, g1, g2⟩
 exact ⟨l, h1, by simpa using h2, hQ⟩
theorem int_of' {t : List AV} (h : TyL (.int .i64) t) : ∃ n, Shp.mk (.int .i64) t = .int .i64 n ∧ I64 n := by
 obtain ⟨n, rfl, h1, h2⟩ := i64_of h
 exact ⟨n, rfl, h1, h2⟩
theorem walkGain (xs : List AV) (ht : TyA shGain xs) : ∃ h', (run lib).fn 8 xs [] 0 = some (.bool true, h') := by
 simp only [shGain, TyA] at ht
 obtain ⟨c0, r0, rfl, t0, c1, r1, rfl, t1, c2, r2, rfl, t2, c3, r3, rfl, t3, rfl⟩ := ht
 obtain ⟨l, s0, hl, hi⟩ := islice_of t0
 obtain ⟨m, e1, hm⟩ := int_of' t1
 obtain ⟨c, e2, hc⟩ := int_of' t2
 obtain ⟨o, e3, ho⟩ := int_of' t3
 rw [e1, e2, e3]
 exact ⟨_, lgain_run (s0 []) hl hi hm hc ho 0⟩
end Go.VI.Loud
