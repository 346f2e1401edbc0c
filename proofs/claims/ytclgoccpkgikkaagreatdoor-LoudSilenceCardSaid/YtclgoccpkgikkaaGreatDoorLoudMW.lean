/- What the functions on integers compute, part MW. -/
import Derived.Test.YtclgoccpkgikkaaGreatDoorLoudMG
set_option linter.unusedVariables false
set_option linter.unusedSimpArgs false
namespace Go.VI.Loud
open Go.VI.Num
/- BIGSTEPS -/
theorem app_own {cx : Cx} {s t z lim : Nat} {h fr : Heap} {es xs : List AV} (hlo : cx.lo ≤ h.length + t) (hb : fr[t]? = some (1, .arr z es)) (hl : es.length + xs.length ≤ lim) :
  appv cx s z lim (.ref (h.length + t) 1 z 0 es.length es.length) xs (h ++ fr) = some (.ref (h.length + t) 1 z 0 (es ++ xs).length (es ++ xs).length, h ++ fr.set t (1, .arr z (es ++ xs))) := by
 rw [app_ref (by rw [get_fr, hb]) hlo hl, set_fr, List.length_append]
theorem zeros_ints (n : Nat) : List.replicate n (AV.int .i64 0) = ints (List.replicate n 0) := by simp [ints]
theorem meas_congr {es fs : List Int} {g : Int} (h : cntL g es = cntL g fs) : measQ es g = measQ fs g := by unfold measQ; rw [h]
theorem silence_run {h : Heap} {v : AV} {xs : List Int} (hv : Sl h 1 v (ints xs)) (hl : xs.length ≤ 9223372036854775807) (hi : ∀ x ∈ xs, I64 x) {before behind gain most ceiling : Int} (h1 : I64 before) (h2 : I64 behind) (h3 : I64 gain) (h4 : I64 most) (h5 : I64 ceiling) (lo : Nat) :
  (run lib).fn 5 [v, .int .i64 before, .int .i64 behind, .int .i64 gain, .int .i64 most, .int .i64 ceiling] h lo = some (.bool true, h) := by
 obtain ⟨vv, vc⟩ := Sl_val hv
 have sn := fun H lo => ksane_run H lo
 have md := fun fr lo => made_run (hv.app fr) hl hi lo
 have hS := fun s (hs : s ∈ soundL xs) => sound_mem hs
 have hSl := sound_len xs
 have h8 : (soundL xs).length % 8 = 0 := by rw [hSl]; omega
 have hS2 : (soundL xs).length ≤ 192 := by rw [hSl]; omega
 clear hSl
 generalize soundL xs = S at *
 have p1 := fun H lo => kpick_run (n := 10) (by decide) h1 H lo
 have p2 := fun H lo => kpick_run (n := 80) (by decide) h2 H lo
 have p3 := fun H lo => kpick_run (n := 4097) (by decide) h3 H lo
 have p4 := fun H lo => kpick_run (n := 100000) (by decide) h4 H lo
 have p5 := fun H lo => kpick_run (n := 600000) (by decide) h5 H lo
 have r1 := pkI_range before (n := 10) (by decide)
 have r2 := pkI_range behind (n := 80) (by decide)
 have r3 := pkI_range gain (n := 4097) (by decide)
 have r4 := pkI_range most (n := 100000) (by decide)
 have r5 := pkI_range ceiling (n := 600000) (by decide)
 generalize pkI before 10 = p at *
 generalize pkI behind 80 = q at *
 generalize pkI gain 4097 = g at *
 generalize pkI most 100000 = m at *
 generalize pkI ceiling 600000 = c at *
 obtain ⟨P, rfl⟩ : ∃ P : Nat, p = P := ⟨p.toNat, by omega⟩
 obtain ⟨Q, rfl⟩ : ∃ Q : Nat, q = Q := ⟨q.toNat, by omega⟩
 obtain ⟨A, hA⟩ : ∃ A, A = List.replicate 24 (0 : Int) := ⟨_, rfl⟩
 obtain ⟨C, hC⟩ : ∃ C, C = List.replicate (8 * P) (0 : Int) := ⟨_, rfl⟩
 obtain ⟨D, hD⟩ : ∃ D, D = List.replicate Q (0 : Int) := ⟨_, rfl⟩
 obtain ⟨L, hL⟩ : ∃ L, L = A ++ S ++ A := ⟨_, rfl⟩
 obtain ⟨M, hM⟩ : ∃ M, M = C ++ L ++ D := ⟨_, rfl⟩
 have lA : A.length = 24 := by rw [hA, List.length_replicate]
 have lC : C.length = 8 * P := by rw [hC, List.length_replicate]
 have lD : D.length = Q := by rw [hD, List.length_replicate]
 have lL : L.length = 48 + S.length := by rw [hL, List.length_append, List.length_append, lA]; omega
 have lM : M.length = 8 * P + L.length + Q := by rw [hM, List.length_append, List.length_append, lC, lD]
 have zA : ∀ x ∈ A, x = 0 := fun x hx => by rw [hA] at hx; exact (List.mem_replicate.mp hx).2
 have zC : ∀ x ∈ C, x = 0 := fun x hx => by rw [hC] at hx; exact (List.mem_replicate.mp hx).2
 have zD : ∀ x ∈ D, x = 0 := fun x hx => by rw [hD] at hx; exact (List.mem_replicate.mp hx).2
 have bL : ∀ s ∈ L, -32768 ≤ s ∧ s ≤ 32767 := fun s hs => by
  rw [hL] at hs
  rcases List.mem_append.mp hs with h | h
  ·rcases List.mem_append.mp h with h | h
   ·have := zA s h; omega
   ·have := hS s h; omega
  ·have := zA s h; omega
 have kL : okS L = true := ok_of (by omega) bL
 have kM : okS M = true := ok_of (by omega) fun s hs => by
  rw [hM] at hs
  rcases List.mem_append.mp hs with h | h
  ·rcases List.mem_append.mp h with h | h
   ·have := zC s h; omega
   ·exact bL s h
  ·have := zD s h; omega
 have cn : ∀ g, cntL g (blocksL M) = cntL g (blocksL L) := fun g => cnt_congr (by rw [hM, hL, hA, hC, hD]; exact aud_silence h8 P Q g)
 have em : measQ (blocksL M) g = measQ (blocksL L) g := meas_congr (cn g)
 have ep : peakL M = peakL L := by rw [hM, hC, hD]; exact peak_shift (8 * P) Q L
 have eg : gainL M m c = gainL L m c := by unfold gainL; rw [ep]; exact gFind_congr cn _ _ _ _
 -- the memory
 have mk8 : mks ⟨h.length, h.length, 9, none⟩ 8 1 (.int .i64 0) 17592186044416 (h ++ [(0, .dead), (0, .dead), (0, .dead), (0, .dead), (0, .dead), (0, .dead), (0, .dead), (0, .dead), (0, .dead)]) (.int .i64 24) (.int .i64 24) =
   some (.ref (h.length + 8) 1 1 0 (ints A).length (ints A).length, h ++ [(0, .dead), (0, .dead), (0, .dead), (0, .dead), (0, .dead), (0, .dead), (0, .dead), (0, .dead), (1, .arr 1 (ints A))]) := by
  rw [mks_ok (by omega) (by omega) (by omega), show (24 : Int).toNat = 24 from rfl, zeros_ints, ← hA, mkAt_fr, ints_len, lA]; rfl
 have a5 : appv ⟨h.length, h.length, 9, none⟩ 5 1 17592186044416 (.lsf 1 []) (ints A) (h ++ [(0, .dead), (0, .dead), (0, .dead), (0, .dead), (0, .dead), (0, .dead), (0, .dead), (0, .dead), (1, .arr 1 (ints A))]) =
   some (.ref (h.length + 5) 1 1 0 (ints A).length (ints A).length, h ++ [(0, .dead), (0, .dead), (0, .dead), (0, .dead), (0, .dead), (1, .arr 1 (ints A)), (0, .dead), (0, .dead), (1, .arr 1 (ints A))]) :=
  app_lsf_new (by omega) rfl (by rw [ne_eq, ← List.length_eq_zero_iff, ints_len, lA]; omega) (by rw [ints_len, lA]; omega)
 have a6 := app_own (cx := ⟨h.length, h.length, 9, none⟩) (s := 6) (t := 5) (z := 1) (lim := 17592186044416) (h := h) (fr := [(0, .dead), (0, .dead), (0, .dead), (0, .dead), (0, .dead), (1, .arr 1 (ints A)), (0, .dead), (0, .dead), (1, .arr 1 (ints A))]) (es := ints A) (xs := ints S) (by simp) rfl (by rw [ints_len, ints_len, lA]; omega)
 have a7 := app_own (cx := ⟨h.length, h.length, 9, none⟩) (s := 7) (t := 5) (z := 1) (lim := 17592186044416) (h := h) (fr := [(0, .dead), (0, .dead), (0, .dead), (0, .dead), (0, .dead), (1, .arr 1 (ints A ++ ints S)), (0, .dead), (0, .dead), (1, .arr 1 (ints A))]) (es := ints A ++ ints S) (xs := ints A) (by simp) rfl (by rw [List.length_append, ints_len, ints_len, lA]; omega)
 have eL : ints A ++ ints S ++ ints A = ints L := by rw [hL, lint_app, lint_app]
 simp only [List.set_cons_succ, List.set_cons_zero] at a6 a7
 rw [eL] at a7
 have mk2 : mks ⟨h.length, h.length, 9, none⟩ 2 1 (.int .i64 0) 17592186044416 (h ++ [(0, .dead), (0, .dead), (0, .dead), (0, .dead), (0, .dead), (1, .arr 1 (ints L)), (0, .dead), (0, .dead), (1, .arr 1 (ints A))]) (.int .i64 (8 * (P : Int))) (.int .i64 (8 * (P : Int))) =
   some (.ref (h.length + 2) 1 1 0 (ints C).length (ints C).length, h ++ [(0, .dead), (0, .dead), (1, .arr 1 (ints C)), (0, .dead), (0, .dead), (1, .arr 1 (ints L)), (0, .dead), (0, .dead), (1, .arr 1 (ints A))]) := by
  rw [mks_ok (by omega) (by omega) (by omega), show (8 * (P : Int)).toNat = 8 * P by omega, zeros_ints, ← hC, mkAt_fr, ints_len, lC]; rfl
 have a3 := app_own (cx := ⟨h.length, h.length, 9, none⟩) (s := 3) (t := 2) (z := 1) (lim := 17592186044416) (h := h) (fr := [(0, .dead), (0, .dead), (1, .arr 1 (ints C)), (0, .dead), (0, .dead), (1, .arr 1 (ints L)), (0, .dead), (0, .dead), (1, .arr 1 (ints A))]) (es := ints C) (xs := ints L) (by simp) rfl (by rw [ints_len, ints_len]; omega)
 have a4 : apzx ⟨h.length, h.length, 9, none⟩ 4 1 (.int .i64 0) 17592186044416 (.ref (h.length + 2) 1 1 0 (ints C ++ ints L).length (ints C ++ ints L).length) (h ++ [(0, .dead), (0, .dead), (1, .arr 1 (ints C ++ ints L)), (0, .dead), (0, .dead), (1, .arr 1 (ints L)), (0, .dead), (0, .dead), (1, .arr 1 (ints A))]) (.int .i64 (Q : Int)) =
   some (.ref (h.length + 2) 1 1 0 (ints M).length (ints M).length, h ++ [(0, .dead), (0, .dead), (1, .arr 1 (ints M)), (0, .dead), (0, .dead), (1, .arr 1 (ints L)), (0, .dead), (0, .dead), (1, .arr 1 (ints A))]) := by
  have eM : ints C ++ ints L ++ ints D = ints M := by rw [hM, lint_app, lint_app]
  simp only [apzx]
  rw [if_pos ⟨by omega, by omega⟩, Int.toNat_natCast, zeros_ints, ← hD, app_own (by simp) rfl (by rw [List.length_append, ints_len, ints_len, ints_len]; omega), eM]
  rfl
 simp only [List.set_cons_succ, List.set_cons_zero] at a3
 have s8 := fun f5 => appSrc_sl (Sl.refAll (h := h) (fr := [(0, .dead), (0, .dead), (0, .dead), (0, .dead), (0, .dead), f5, (0, .dead), (0, .dead), (1, .arr 1 (ints A))]) (s := 8) (ver := 1) (z := 1) (es := ints A) rfl)
 have s5 := fun f2 => appSrc_sl (Sl.refAll (h := h) (fr := [(0, .dead), (0, .dead), f2, (0, .dead), (0, .dead), (1, .arr 1 (ints L)), (0, .dead), (0, .dead), (1, .arr 1 (ints A))]) (s := 5) (ver := 1) (z := 1) (es := ints L) rfl)
 have sS := fun H => appSrc_sl (Sl.lstV H 1 (ints S))
 have rL := fun f0 f1 => Sl.refAll (h := h) (fr := [f0, f1, (1, .arr 1 (ints M)), (0, .dead), (0, .dead), (1, .arr 1 (ints L)), (0, .dead), (0, .dead), (1, .arr 1 (ints A))]) (s := 5) (ver := 1) (z := 1) (es := ints L) rfl
 have rM := fun f0 f1 => Sl.refAll (h := h) (fr := [f0, f1, (1, .arr 1 (ints M)), (0, .dead), (0, .dead), (1, .arr 1 (ints L)), (0, .dead), (0, .dead), (1, .arr 1 (ints A))]) (s := 2) (ver := 1) (z := 1) (es := ints M) rfl
 have m1 := fun f0 f1 lo => umeas_ok (rL f0 f1) kL (g := g) (by omega) lo
 have m2 := fun f0 f1 lo => umeas_ok (rM f0 f1) kM (g := g) (by omega) lo
 have q1 := fun f0 f1 lo => upeak_run (rL f0 f1) (by omega) lo
 have q2 := fun f0 f1 lo => upeak_run (rM f0 f1) (by omega) lo
 have g1 := fun f0 f1 lo => ugain_ok (rL f0 f1) kL (most := m) (c := c) (by omega) (by omega) lo
 have g2 := fun f0 f1 lo => ugain_ok (rM f0 f1) kM (most := m) (c := c) (by omega) (by omega) lo
 rw [em] at m2
 rw [kM, ep] at q2
 rw [kL] at q1
 rw [eg] at g2
 generalize gainL L m c = G at *
 generalize peakL L = K at *
 generalize measQ (blocksL L) g = X at *
 simp only [rt, frV] at m1 m2
 clear em ep eg cn bL kL kM rL rM zA zC zD hS h8 hM hL hA hC hD eL
 generalize ints A = iA at *
 generalize ints C = iC at *
 generalize ints L = jL at *
 generalize ints M = jM at *
 rw [run_closed (x := x5) rfl rfl rfl rfl]
 simp (maxSteps := 30000000) (disch := omega) only [go_sem, x5, vv, vc, sn, md, p1, p2, p3, p4, p5, mk8, a5, a6, a7, mk2, a3, a4, s8, s5, sS, m1, m2, q1, q2, g1, g2, eq_id]
def shSilence : List Shp := [.slice 1 (.int .i64), .int .i64, .int .i64, .int .i64, .int .i64, .int .i64]
theorem walkSilence (xs : List AV) (ht : TyA shSilence xs) : ∃ h', (run lib).fn 5 xs [] 0 = some (.bool true, h') := by
 simp only [shSilence, TyA] at ht
 obtain ⟨c0, r0, rfl, t0, c1, r1, rfl, t1, c2, r2, rfl, t2, c3, r3, rfl, t3, c4, r4, rfl, t4, c5, r5, rfl, t5, rfl⟩ := ht
 obtain ⟨l, s0, hl, hi⟩ := islice_of t0
 obtain ⟨a, e1, ha⟩ := lint_of' t1
 obtain ⟨b, e2, hb⟩ := lint_of' t2
 obtain ⟨g, e3, hg⟩ := lint_of' t3
 obtain ⟨m, e4, hm⟩ := lint_of' t4
 obtain ⟨c, e5, hc⟩ := lint_of' t5
 rw [e1, e2, e3, e4, e5]
 exact ⟨_, silence_run (s0 []) hl hi ha hb hg hm hc 0⟩
end Go.VI.Loud
