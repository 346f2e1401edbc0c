/- What the functions on integers compute, part MP. -/
import Derived.Test.YtclgoccpkgikkaaGreatDoorLoudMG
set_option linter.unusedVariables false
set_option linter.unusedSimpArgs false
namespace Go.VI.Loud
open Go.VI.Num
/- BIGSTEPS -/
def tailL (xs : List Int) : List Int := (xs.take 20).map fun x => pkI x 65535 - 32767
theorem tailL_len (xs : List Int) : (tailL xs).length = min 20 xs.length := by simp [tailL]
theorem tailL_bd {xs : List Int} {x : Int} (h : x ∈ tailL xs) : -32767 ≤ x ∧ x ≤ 32767 := by
 unfold tailL at h
 obtain ⟨y, _, rfl⟩ := List.mem_map.mp h
 have := pkI_range y (n := 65535) (by decide)
 omega
theorem tail_loop {h : Heap} {v : AV} {xs : List Int} (hv : Sl h 1 v (ints xs)) (hl : xs.length ≤ 9223372036854775807) (hi : ∀ x ∈ xs, I64 x) {P : List Int} (hP : P.length ≤ 1000) {t : Nat} : ∀ (d k : Nat), k + d = min 20 xs.length → P ++ (tailL xs).take k ≠ [] → ∀ fr : Heap, fr[t]? = some (accB (0, .dead) 1 (ints (P ++ (tailL xs).take k))) →
  runC lib ⟨h.length, h.length, 4, none⟩ (.loop b6_1) ([(1, v), (6, accV (h.length + t) (0, .dead) 1 (ints (P ++ (tailL xs).take k))), (7, .int .i64 k)], h ++ fr) =
   some (.exit 0, ([(6, accV (h.length + t) (0, .dead) 1 (ints (P ++ tailL xs)))], h ++ fr.set t (accB (0, .dead) 1 (ints (P ++ tailL xs))))) := by
 obtain ⟨vv, vc⟩ := Sl_val hv
 have lv := lenv_sl hv.len
 rw [ints_len] at lv
 have hml := tailL_len xs
 intro d
 induction d with
 | zero =>
  intro k hd hne fr hb
  have et : (tailL xs).take k = tailL xs := List.take_of_length_le (by omega)
  rw [et] at hb ⊢
  rw [set_same hb, w_loop]
  by_cases h1 : (k : Int) < xs.length
  ·have h2 : ¬ (k : Int) < 20 := by omega
   simp (maxSteps := 30000000) (disch := omega) only [go_sem, lv, h1, h2]
  ·simp (maxSteps := 30000000) (disch := omega) only [go_sem, lv, h1]
 | succ d ih =>
  intro k hd hne fr hb
  have hk' : k < xs.length := by omega
  have h1 : (k : Int) < xs.length := by omega
  have h2 : (k : Int) < 20 := by omega
  have e3 : sidx 1 v (.int .i64 k) = some k := by rw [sidx_sl hv (by omega) (by simp; omega)]; simp
  have e4 := fun off fr => pc_iptr (off := off) (hv.elems fr) (show k < (ints xs).length by simp; omega)
  simp only [ints_get] at e4
  have hx := hi xs[k] (List.getElem_mem _)
  have hg : (tailL xs)[k]'(by omega) = pkI xs[k] 65535 - 32767 := by simp [tailL]
  have ht : P ++ (tailL xs).take (k + 1) = (P ++ (tailL xs).take k) ++ [pkI xs[k] 65535 - 32767] := by
   rw [List.take_succ_eq_append_getElem (by omega), hg, List.append_assoc]
  have hlen : ((tailL xs).take k).length ≤ 20 := by rw [List.length_take]; omega
  have e := ih (k + 1) (by omega) (by rw [ht]; simp) (fr.set t (accB (0, .dead) 1 (ints (P ++ (tailL xs).take (k + 1))))) (by
   rw [List.getElem?_set_self (by
    rcases Nat.lt_or_ge t fr.length with h | h
    ·exact h
    ·rw [List.getElem?_eq_none h] at hb; cases hb)])
  rw [List.set_set, ht, cast1] at e
  generalize xs[k] = x at *
  have p1 := fun H lo => kpick_run (n := 65535) (by decide) hx H lo
  have r1 := pkI_range x (n := 65535) (by decide)
  have hA : ints (P ++ (tailL xs).take k) ≠ [] := by simpa [ints] using hne
  have e5 := app_at (cx := ⟨h.length, h.length, 4, none⟩) (s := 2) (t := t) (z := 1) (lim := 17592186044416) (h := h) (fr := fr) (b0 := (0, .dead)) (es := ints (P ++ (tailL xs).take k)) (xs := [.int .i64 (pkI x 65535 - 32767)]) hA (by simp) hb (by simp; omega)
  rw [lint_app, lint_one] at e
  rw [w_loop]
  simp (maxSteps := 30000000) (disch := omega) only [go_sem, lv, h1, h2, e3, e4, p1, e5, e]
theorem tail_run {h : Heap} {v : AV} {xs : List Int} (hv : Sl h 1 v (ints xs)) (hl : xs.length ≤ 9223372036854775807) (hi : ∀ x ∈ xs, I64 x) {S : List Int} (hS : S.length ≤ 1000) :
  ∃ v0 v6 c2 c3 b2 b3, bck ⟨h.length, h.length, 4, none⟩ [(0, 3)] (some (ownV 1 (ints S), h ++ [(0, .dead), (0, .dead), (0, .dead), (0, .dead)])) = some (v0, h ++ [(0, .dead), (0, .dead), c2, c3]) ∧
   runC lib ⟨h.length, h.length, 4, none⟩ (.loop b6_1) ([(1, v), (6, v0), (7, .int .i64 0)], h ++ [(0, .dead), (0, .dead), c2, c3]) = some (.exit 0, ([(6, v6)], h ++ [(0, .dead), (0, .dead), b2, b3])) ∧
   ∀ f0 f1, Sl (h ++ [f0, f1, b2, b3]) 1 v6 (ints (S ++ tailL xs)) := by
 obtain ⟨vv, vc⟩ := Sl_val hv
 have lv := lenv_sl hv.len
 rw [ints_len] at lv
 have hml := tailL_len xs
 by_cases h0 : S = []
 ·subst h0
  refine ⟨.lsf 0 [], ?_⟩
  by_cases hx : tailL xs = []
  ·have hx0 : ¬ (0 : Int) < xs.length := by rw [hx] at hml; simp at hml; omega
   refine ⟨.lsf 0 [], (0, .dead), (0, .dead), (0, .dead), (0, .dead), take_none1, ?_, fun f0 f1 => ?_⟩
   ·rw [w_loop]
    simp (maxSteps := 30000000) (disch := omega) only [go_sem, lv, hx0]
   ·rw [hx]
    have := Sl.lsf (h ++ [f0, f1, (0, .dead), (0, .dead)]) 0 []
    exact ⟨by simp [VI.zok], fun _ => rfl, rfl⟩
  ·have hk' : 0 < xs.length := by
    have : 0 < (tailL xs).length := List.length_pos_iff.mpr hx
    omega
   have h1 : (0 : Int) < xs.length := by omega
   have e3 : sidx 1 v (.int .i64 0) = some 0 := by
    have := sidx_sl (k := .i64) (i := ((0 : Nat) : Int)) hv (by omega) (by simp; omega)
    simpa using this
   have e4 := fun off fr => pc_iptr (off := off) (hv.elems fr) (show 0 < (ints xs).length by simp; omega)
   simp only [ints_get] at e4
   have hxx := hi xs[0] (List.getElem_mem _)
   have ht : (tailL xs).take 1 = [pkI xs[0] 65535 - 32767] := by
    rw [List.take_succ_eq_append_getElem (by omega)]
    simp [tailL]
   have e := tail_loop hv hl hi (P := []) (by simp) (t := 2) (min 20 xs.length - 1) 1 (by omega) (by rw [ht]; simp) [(0, .dead), (0, .dead), accB (0, .dead) 1 (ints ([] ++ (tailL xs).take 1)), (0, .dead)] rfl
   rw [List.nil_append, List.nil_append, ht] at e
   simp only [List.set_cons_succ, List.set_cons_zero] at e
   have acc := fun f0 f1 => Sl.acc (h := h) (fr := [f0, f1, accB (0, .dead) 1 (ints (tailL xs)), (0, .dead)]) (s := 2) (z := 1) (b0 := (0, .dead)) (es := ints (tailL xs)) rfl
   refine ⟨accV (h.length + 2) (0, .dead) 1 (ints (tailL xs)), (0, .dead), (0, .dead), accB (0, .dead) 1 (ints (tailL xs)), (0, .dead), take_none1, ?_, fun f0 f1 => by rw [List.nil_append]; exact acc f0 f1⟩
   generalize xs[0] = x at *
   have p1 := fun H lo => kpick_run (n := 65535) (by decide) hxx H lo
   have r1 := pkI_range x (n := 65535) (by decide)
   have e5 : appv ⟨h.length, h.length, 4, none⟩ 2 1 17592186044416 (.lsf 0 []) [.int .i64 (pkI x 65535 - 32767)] (h ++ [(0, .dead), (0, .dead), (0, .dead), (0, .dead)]) = some (accV (h.length + 2) (0, .dead) 1 (ints [pkI x 65535 - 32767]), h ++ [(0, .dead), (0, .dead), accB (0, .dead) 1 (ints [pkI x 65535 - 32767]), (0, .dead)]) := by
    have h3 : mkAt ⟨h.length, h.length, 4, none⟩ 2 (.arr 1 [.int .i64 (pkI x 65535 - 32767)]) (h ++ [(0, .dead), (0, .dead), (0, .dead), (0, .dead)]) = some (1, h ++ [(0, .dead), (0, .dead), (1, .arr 1 [.int .i64 (pkI x 65535 - 32767)]), (0, .dead)]) := by
     rw [mkAt_fr]; rfl
    simp [appv, h3, accV, accB, ints]
   have c1 : ((1 : Nat) : Int) = 1 := rfl
   rw [c1] at e
   rw [w_loop]
   simp (maxSteps := 30000000) (disch := omega) only [go_sem, lv, h1, e3, e4, p1, e5, e]
 ·have hA : ints S ≠ [] := by simpa [ints] using h0
  have e := tail_loop hv hl hi (P := S) hS (t := 3) (min 20 xs.length) 0 (by omega) (by simpa using h0) [(0, .dead), (0, .dead), (0, .dead), accB (0, .dead) 1 (ints (S ++ (tailL xs).take 0))] rfl
  simp only [List.take_zero, List.append_nil, List.set_cons_succ, List.set_cons_zero, Int.natCast_zero] at e
  have tk := take_own (lo := h.length) (h := h) (ns := 4) (s := 3) (z := 1) (fr := [(0, .dead), (0, .dead), (0, .dead), (0, .dead)]) (b0 := (0, .dead)) (es := ints S) (by omega) rfl hA
  rw [accV_ne hA, accB_ne hA] at e
  have acc := fun f0 f1 => Sl.acc (h := h) (fr := [f0, f1, (0, .dead), accB (0, .dead) 1 (ints (S ++ tailL xs))]) (s := 3) (z := 1) (b0 := (0, .dead)) (es := ints (S ++ tailL xs)) rfl
  exact ⟨_, _, _, _, _, _, tk, e, acc⟩
theorem most_take {l : List Int} {k : Nat} (h : k < l.length) : mostL (l.take (k + 1)) = mx3 (mostL (l.take k)) l[k] := by
 unfold mostL
 rw [List.take_succ_eq_append_getElem h, List.foldl_append]; rfl
theorem turn_loop {h : Heap} {v : AV} {l : List Int} {b2 b3 : Nat × Blk} (hv : ∀ f0 f1, Sl (h ++ [f0, f1, b2, b3]) 1 v (ints l)) (hl : l.length ≤ 1000) (hb : ∀ x ∈ l, -32767 ≤ x ∧ x ≤ 32767) : ∀ (d k : Nat), k + d = l.length →
  runC lib ⟨h.length, h.length, 4, none⟩ (.loop b6_0) ([(6, v), (8, accV (h.length + 1) (0, .dead) 1 (ints (l.reverse.take k))), (9, accV (h.length + 0) (0, .dead) 1 (ints ((l.map (- ·)).take k))), (10, .int .i64 (mostL (l.take k))), (11, .int .i64 k)], h ++ [accB (0, .dead) 1 (ints ((l.map (- ·)).take k)), accB (0, .dead) 1 (ints (l.reverse.take k)), b2, b3]) =
   some (.exit 2, ([(6, v), (8, accV (h.length + 1) (0, .dead) 1 (ints l.reverse)), (9, accV (h.length + 0) (0, .dead) 1 (ints (l.map (- ·)))), (10, .int .i64 (mostL l))], h ++ [accB (0, .dead) 1 (ints (l.map (- ·))), accB (0, .dead) 1 (ints l.reverse), b2, b3])) := by
 have lv := lenv_sl (hv (0, .dead) (0, .dead)).len
 rw [ints_len] at lv
 intro d
 induction d with
 | zero =>
  intro k hd
  obtain rfl : k = l.length := by omega
  rw [List.take_length, List.take_of_length_le (by simp), List.take_of_length_le (by simp), w_loop]
  simp (maxSteps := 30000000) (disch := omega) only [go_sem, lv, Int.lt_irrefl]
 | succ d ih =>
  intro k hd
  have hk' : k < l.length := by omega
  have h1 : (k : Int) < l.length := by omega
  have e3 : sidx 1 v (.int .i64 k) = some k := by rw [sidx_sl (hv (0, .dead) (0, .dead)) (by omega) (by simp; omega)]; simp
  have e4 := fun off f0 f1 => pc_iptr (off := off) (hv f0 f1).elems0 (show k < (ints l).length by simp; omega)
  simp only [ints_get] at e4
  have j3 : sidx 1 v (.int .i64 ((l.length : Int) - 1 - k)) = some (l.length - 1 - k) := by
   rw [show (l.length : Int) - 1 - k = ((l.length - 1 - k : Nat) : Int) by omega, sidx_sl (hv (0, .dead) (0, .dead)) (by omega) (by simp; omega)]; simp
  have j4 := fun off f0 f1 => pc_iptr (off := off) (hv f0 f1).elems0 (show l.length - 1 - k < (ints l).length by simp; omega)
  simp only [ints_get] at j4
  have e := ih (k + 1) (by omega)
  have t1 : l.reverse.take (k + 1) = l.reverse.take k ++ [l[l.length - 1 - k]] := by
   rw [List.take_succ_eq_append_getElem (by simp; omega), List.getElem_reverse]
  have t2 : (l.map (- ·)).take (k + 1) = (l.map (- ·)).take k ++ [-l[k]] := by
   rw [List.take_succ_eq_append_getElem (by simp; omega), List.getElem_map]
  rw [t1, t2, most_take hk', cast1, lint_app, lint_one, lint_app, lint_one] at e
  have b1 := hb l[k] (List.getElem_mem _)
  have l1 : (l.reverse.take k).length ≤ 1000 := by rw [List.length_take]; simp; omega
  have l2 : ((l.map (- ·)).take k).length ≤ 1000 := by rw [List.length_take]; simp; omega
  generalize l[k] = x at *
  generalize l[l.length - 1 - k] = y at *
  generalize l.reverse.take k = R at *
  generalize (l.map (- ·)).take k = M at *
  generalize mostL (l.take k) = mo at *
  have e5 := fun f0 => app_acc (lo := h.length) (ns := 4) (s := 1) (z := 1) (lim := 17592186044416) (h := h) (fr := [f0, accB (0, .dead) 1 (ints R), b2, b3]) (b0 := (0, .dead)) (es := ints R) (xs := [.int .i64 y]) (by omega) (by omega) rfl (by simp; omega)
  have e6 := fun f1 => app_acc (lo := h.length) (ns := 4) (s := 0) (z := 1) (lim := 17592186044416) (h := h) (fr := [accB (0, .dead) 1 (ints M), f1, b2, b3]) (b0 := (0, .dead)) (es := ints M) (xs := [.int .i64 (-x)]) (by omega) (by omega) rfl (by simp; omega)
  unfold mx3 at e
  rw [w_loop]
  simp (maxSteps := 30000000) (disch := omega) only [go_sem, lv, h1, e3, e4, j3, j4, e5, e6, e]
theorem peaks_run {h : Heap} {v w : AV} {xs ys : List Int} (hv : Sl h 1 v (ints xs)) (hl : xs.length ≤ 9223372036854775807) (hi : ∀ x ∈ xs, I64 x) (hw : Sl h 1 w (ints ys)) (hl2 : ys.length ≤ 9223372036854775807) (hi2 : ∀ x ∈ ys, I64 x) (lo : Nat) :
  (run lib).fn 6 [v, w] h lo = some (.bool true, h) := by
 obtain ⟨vv, vc⟩ := Sl_val hv
 obtain ⟨wv, wc⟩ := Sl_val hw
 have sn := fun H lo => ksane_run H lo
 have md := fun fr lo => made_run (hv.app fr) hl hi lo
 have sl := sound_len xs
 have sm := fun s (hs : s ∈ soundL xs) => sound_mem hs
 obtain ⟨v0, v6, c2, c3, b2, b3, e1, e2, e3⟩ := tail_run hw hl2 hi2 (S := soundL xs) (by omega)
 have tl := tailL_len ys
 have hb : ∀ x ∈ soundL xs ++ tailL ys, -32767 ≤ x ∧ x ≤ 32767 := fun x hx => by
  rcases List.mem_append.mp hx with h | h
  ·have := sm x h; omega
  ·exact tailL_bd h
 have hL : (soundL xs ++ tailL ys).length ≤ 600 := by rw [List.length_append]; omega
 generalize soundL xs ++ tailL ys = L at *
 generalize soundL xs = S at *
 have e4 := turn_loop e3 (by omega) hb L.length 0 (by omega)
 simp only [List.take_zero, Int.natCast_zero, show ints [] = [] from rfl, accV_nil, accB_nil, show mostL [] = 0 from rfl] at e4
 have k0 : okS L = true := ok_of hL fun s hs => by have := hb s hs; omega
 have k1 : okS L.reverse = true := ok_of (by simpa using hL) fun s hs => by have := hb s (List.mem_reverse.mp hs); omega
 have k2 : okS (L.map (- ·)) = true := ok_of (by simpa using hL) fun s hs => by
  obtain ⟨x, hx, rfl⟩ := List.mem_map.mp hs
  have := hb x hx; omega
 have a1 := Sl.acc (h := h) (fr := [accB (0, .dead) 1 (ints (L.map (- ·))), accB (0, .dead) 1 (ints L.reverse), b2, b3]) (s := 1) (z := 1) (b0 := (0, .dead)) (es := ints L.reverse) rfl
 have a2 := Sl.acc (h := h) (fr := [accB (0, .dead) 1 (ints (L.map (- ·))), accB (0, .dead) 1 (ints L.reverse), b2, b3]) (s := 0) (z := 1) (b0 := (0, .dead)) (es := ints (L.map (- ·))) rfl
 have p0 := fun f0 f1 lo => upeak_run (e3 f0 f1) (by omega) lo
 have p1 := fun lo => upeak_run a1 (by simp; omega) lo
 have p2 := fun lo => upeak_run a2 (by simp; omega) lo
 rw [k0] at p0
 rw [k1, peak_rev] at p1
 rw [k2, peak_neg] at p2
 obtain ⟨pb1, pb2⟩ := peak_bounds L
 have pd := peak_bd k0
 generalize peakL L = K at *
 generalize mostL L = M at *
 rw [run_closed (x := x6) rfl rfl rfl rfl]
 simp (maxSteps := 30000000) (disch := omega) only [go_sem, x6, vv, vc, wv, wc, sn, md, e1, e2, e4, p0, p1, p2, pb1, pb2]
def shPeaks : List Shp := [.slice 1 (.int .i64), .slice 1 (.int .i64)]
theorem walkPeaks (xs : List AV) (ht : TyA shPeaks xs) : ∃ h', (run lib).fn 6 xs [] 0 = some (.bool true, h') := by
 simp only [shPeaks, TyA] at ht
 obtain ⟨c0, r0, rfl, t0, c1, r1, rfl, t1, rfl⟩ := ht
 obtain ⟨l, s0, hl, hi⟩ := islice_of t0
 obtain ⟨m, s1, hl2, hi2⟩ := islice_of t1
 exact ⟨_, peaks_run (s0 []) hl hi (s1 []) hl2 hi2 0⟩
end Go.VI.Loud
