/- What the functions on integers compute, part MX. -/
import Derived.Test.YtaadgpncmiaccaaGreatDoorRationalMS
set_option linter.unusedVariables false
set_option linter.unusedSimpArgs false
namespace Go.VI.Rational
open Go.VI.Num
def nS (o : Option Rat) : List UInt8 := match o with | some q => itxt q.num | none => []
def dS (o : Option Rat) : List UInt8 := match o with | some q => itxt (q.den : Int) | none => []
def eO (o : Option Rat) : Int := match o with | some _ => 0 | none => 40
def rO (o : Option Rat) : AV := .agg [.str (nS o), .str (dS o)]
def FitO (o : Option Rat) : Prop := ∀ q, o = some q → FitQ q
theorem FitQ.o {q : Rat} (h : FitQ q) : FitO (some q) := fun p e => Option.some.inj e ▸ h
def liftO (f : Rat → Rat → Option Rat) (a b : Option Rat) : Option Rat := match a, b with | some a, some b => f a b | _, _ => none
variable {a b c : Rat}
end Go.VI.Rational
namespace Go.VI.Rational
open Go.VI.Num
def Shrt (s : List UInt8) : Prop := s.length ≤ 9223372036854775807
def crossV (x y d : Int) : AV := .tuple [.str (outS x), .str (outS y), .str (outS d), .bool (fitZ x && fitZ y && fitZ d)]
section
variable {s t u v : List UInt8} (hs : Shrt s) (ht : Shrt t) (hu : Shrt u) (hw : Shrt v) (hv : (rvalid s t && rvalid u v) = false)
include hs ht hu hw
end
end Go.VI.Rational
namespace Go.VI.Rational
open Go.VI.Num
def gridV (r : Rat) (p : Nat) : AV := if fitZ (r.num * 10 ^ p) then .tuple [.str (itxt (r.num * 10 ^ p / r.den)), .str (itxt (r.num * 10 ^ p % r.den)), .str (itxt (p10 p)), .bool true] else .tuple [.str [], .str [], .str [], .bool false]
end Go.VI.Rational
namespace Go.VI.Rational
open Go.VI.Num
theorem sprint_run {s t : List UInt8} (hs : Shrt s) (ht : Shrt t) (h : Heap) (lo : Nat) : (run lib).fn 16 [frV s t] h lo = some (.str (printS s t), h) := by
 have v := fun H lo => svalid_run hs ht H lo
 unfold frV at *
 rw [run_closed (x := x16) rfl rfl rfl rfl]
 cases hv : rvalid s t with
 | false =>
  rw [hv] at v
  rw [printS_bad hv]
  simp (maxSteps := 1000000) (disch := omega) only [go_sem, x16, v]
 | true =>
  rw [hv] at v
  unfold printS
  rw [if_pos hv]
  by_cases c : t = [49]
  ·rw [if_pos c]
   subst c
   simp (maxSteps := 1000000) (disch := omega) only [go_sem, x16, v]
  ·rw [if_neg c]
   obtain ⟨q, f, e1, e2⟩ := rvalid_rat hv
   have l1 := itxt_len (z := q.num) f.1
   have l2 := itxt_len (z := (q.den : Int)) (den_fit f)
   rw [← e1] at l1
   rw [← e2] at l2
   have a1 : binv .add (.str s) (.str [47]) = some (.str (s ++ [47])) := bin_sadd (by simp; omega)
   have a2 : binv .add (.str (s ++ [47])) (.str t) = some (.str (s ++ 47 :: t)) := by rw [bin_sadd (by simp; omega)]; simp
   simp (maxSteps := 1000000) (disch := omega) only [go_sem, x16, v, c, a1, a2]
theorem sparse_loop (h : Heap) (B : Nat × Blk) {s : List UInt8} (hl : s.length ≤ 1000000) : ∀ (k i : Nat), i + k = s.length → findL [47] s = (findL [47] (s.drop i)).map (· + i) →
  runC lib ⟨h.length, h.length, 2, none⟩ (.loop b19_0) ([(0, .str s), (2, .bptr (h.length + 1) 1 0), (4, .bptr (h.length + 0) 1 0), (5, .int .i64 i)], h ++ [(1, .box [.str s, .str [49]]), B]) =
   some (.exit 0, ([(0, .str s), (2, .bptr (h.length + 1) 1 0), (4, .bptr (h.length + 0) 1 0)], h ++ [(1, .box [.str (pairL s).1, .str (pairL s).2]), B])) := by
 intro k
 induction k with
 | zero =>
  intro i hi he
  obtain rfl : i = s.length := by omega
  rw [List.drop_length] at he
  have e : pairL s = (s, [49]) := by unfold pairL; rw [he]; rfl
  rw [e, w_loop]
  simp (maxSteps := 1000000) (disch := omega) only [go_sem, Int.lt_irrefl]
 | succ k ih =>
  intro i hi he
  have cc : i < s.length := by omega
  have c1 : (i : Int) < s.length := by omega
  have hx := fun H => ixst_at (k := .i64) cc H
  have ed : s.drop i = s[i] :: s.drop (i + 1) := List.drop_eq_getElem_cons cc
  rw [ed, findL_cons] at he
  by_cases c2 : s[i] = 47
  ·rw [if_pos c2] at he
   have e : pairL s = (s.take i, s.drop (i + 1)) := by unfold pairL; rw [he]; simp
   have s1 : slicev none (.str s) none (some (.int .i64 i)) = some (.str (s.take i)) := sstr_to (by omega)
   have s2 : slicev none (.str s) (some (.int .i64 ((i : Int) + 1))) none = some (.str (s.drop (i + 1))) := by
    have := sstr_from (k := .i64) (l := s) (i := i + 1) (by omega)
    rw [cast1] at this; exact this
   have u : ((s[i]).toNat : Int) = 47 := by rw [c2]; rfl
   rw [e, w_loop]
   simp (maxSteps := 1000000) (disch := omega) only [go_sem, c1, hx, u, s1, s2]
  ·rw [if_neg c2, Option.map_map] at he
   have k1 := ih (i + 1) (by omega) (by rw [he]; congr 1; funext x; simp; omega)
   have u : ¬ ((s[i]).toNat : Int) = 47 := fun e => c2 (UInt8.toNat_inj.mp (by have : (s[i]).toNat = 47 := (by omega); exact this))
   rw [cast1] at k1
   rw [w_loop]
   simp (maxSteps := 1000000) (disch := omega) only [go_sem, c1, hx, u, k1]
theorem pairL_len (s : List UInt8) (hl : s.length ≤ 1000000) : Shrt (pairL s).1 ∧ Shrt (pairL s).2 := by
 unfold Shrt pairL
 split
 ·simp only [List.length_take, List.length_drop]; omega
 ·simp; omega
theorem sparse_run {s : List UInt8} (hl : s.length ≤ 1000000) (h : Heap) (lo : Nat) : (run lib).fn 19 [.str s] h lo = some (parseV s, h) := by
 have lp := fun B => sparse_loop h B hl s.length 0 (by omega) (by rw [List.drop_zero]; cases findL [47] s <;> rfl)
 obtain ⟨l1, l2⟩ := pairL_len s hl
 have v := fun H lo => svalid_run l1 l2 H lo
 have pr := fun H lo => sprint_run l1 l2 H lo
 have hne := @printS_ne (pairL s).1 (pairL s).2
 unfold parseV parseOk
 unfold frV at *
 simp only [Int.natCast_zero] at lp
 generalize hP : printS (pairL s).1 (pairL s).2 = P at *
 cases hv : rvalid (pairL s).1 (pairL s).2 with
 | false =>
  rw [hv] at v
  have hP' : P = [] := by rw [← hP, printS_bad hv]
  subst hP'
  have e : (([] : List UInt8) == s && !(s == [])) = false := by cases s <;> rfl
  rw [e]
  generalize (pairL s).1 = N at *
  generalize (pairL s).2 = D at *
  rw [run_closed (x := x19) rfl rfl rfl rfl]
  simp (maxSteps := 1000000) (disch := omega) only [go_sem, x19, lp, v]
 | true =>
  rw [hv] at v
  have hn := hne hv
  generalize (pairL s).1 = N at *
  generalize (pairL s).2 = D at *
  rw [run_closed (x := x19) rfl rfl rfl rfl]
  by_cases c : P = s
  ·subst c
   have e : (P == P && !(P == [])) = true := by simp [hn]
   rw [e]
   simp (maxSteps := 1000000) (disch := omega) only [go_sem, x19, lp, v, pr]
  ·have e : (P == s && !(s == [])) = false := by simp [c]
   rw [e]
   simp (maxSteps := 1000000) (disch := omega) only [go_sem, x19, lp, v, pr, c]
end Go.VI.Rational
namespace Go.VI.Rational
open Go.VI.Num
/- BIGSTEPS -/
section
variable {s t u v : List UInt8} (hs : Shrt s) (ht : Shrt t) (hu : Shrt u) (hw : Shrt v)
include hs ht hu hw
end
theorem pr_same (s t : List UInt8) : eqvv true [.s, .s] (.agg [.str s, .str t]) (.agg [.str s, .str t]) = some (.bool false) := by
 rw [eq_fr]; simp
section
variable (h : Heap) (v5 v6 v7 v17 LV : AV) (B0 B1 B2 B3 B4 B5 B6 B7 B14 B15 : Nat × Blk) (hl : lenv false LV = some (.int .i64 5))
include hl
def Els (LV : AV) (es : List (List UInt8 × List UInt8)) : Prop := es.length = 5 ∧ lenv false LV = some (.int .i64 5) ∧ ∀ (i : Nat) (hi : i < es.length), sidx 2 LV (.int .i64 i) = some i ∧ (∀ H, pcells H (.iptr LV i 0) = some [.str es[i].1, .str es[i].2]) ∧ (∀ H, pcells H (.iptr LV i 1) = some [.str es[i].2]) ∧ Shrt es[i].1 ∧ Shrt es[i].2
end
section
variable (h : Heap) (v5 v6 v7 v17 LV PV : AV) (B0 B1 B2 B3 B8 B9 B10 B11 B12 B13 B14 B15 : Nat × Blk)
end
end Go.VI.Rational
namespace Go.VI.Rational
open Go.VI.Num
/- BIGSTEPS -/
theorem cut4_run {s t : List UInt8} (hs : Shrt s) (ht : Shrt t) (h : Heap) (lo : Nat) : (run lib).fn 13 [.agg [.str s, .str t]] h lo = some (.agg [.str (s.take (min s.length 210)), .str (t.take (min t.length 210))], h) := by
 unfold Shrt at hs ht
 have em1 : min (s.length : Int) 210 = ((min s.length 210 : Nat) : Int) := by omega
 have em2 : min (t.length : Int) 210 = ((min t.length 210 : Nat) : Int) := by omega
 have t1 := sstr_to (k := .i64) (l := s) (show min s.length 210 ≤ s.length by omega)
 have t2 := sstr_to (k := .i64) (l := t) (show min t.length 210 ≤ t.length by omega)
 rw [run_closed (x := x13) rfl rfl rfl rfl]
 simp (maxSteps := 30000000) (disch := omega) only [go_sem, x13, em1, em2, t1, t2]
theorem shrt_txt {z : Int} (h : Fit z) : Shrt (itxt z) := fit_str h
theorem shrt_cut (s : List UInt8) : Shrt (s.take (min s.length 210)) := by unfold Shrt; simp; omega
def st2 : Shp := .agg [.str, .str]
theorem st2_of {c : List AV} (t : TyL st2 c) : ∃ s u : List UInt8, st2.mk c = .agg [.str s, .str u] ∧ Shrt s ∧ Shrt u := by
 simp only [st2, TyL, TyLs] at t
 obtain ⟨a, b, rfl, ⟨s, rfl, hs⟩, a', b', rfl, ⟨u, rfl, hu⟩, rfl⟩ := t
 exact ⟨s, u, rfl, hs, hu⟩
def shMatches : List Shp := [st2, st2, a4, a4, a2, .int .i64, .int .i64, .int .i64]
end Go.VI.Rational
namespace Go.VI.Rational
open Go.VI.Num
/- BIGSTEPS -/
theorem printS_len (s t : List UInt8) : (printS s t).length ≤ 1000 := by
 cases hv : rvalid s t with
 | false => rw [printS_bad hv]; simp
 | true =>
  obtain ⟨q, f, e1, e2⟩ := rvalid_rat hv
  have l1 := itxt_len (z := q.num) f.1
  have l2 := itxt_len (z := (q.den : Int)) (den_fit f)
  rw [← e1] at l1
  rw [← e2] at l2
  unfold printS
  rw [if_pos hv]
  split
  ·omega
  ·simp; omega
theorem parseV_bad {s : List UInt8} (h : parseOk s = false) : parseV s = .tuple [.agg [.str [], .str []], .int .i64 40] := by unfold parseV; rw [h]; rfl
theorem parseV_ok {s : List UInt8} (h : parseOk s = true) : parseV s = .tuple [.agg [.str (pairL s).1, .str (pairL s).2], .int .i64 0] := by unfold parseV; rw [h]; rfl
section
variable (h : Heap) (v2 v3 v4 v11 v12 LV : AV) (B0 B1 B4 : Nat × Blk)
set_option maxHeartbeats 4000000 in
theorem tx_one {s t : List UInt8} (hs : Shrt s) (ht : Shrt t) (k : Nat) (hk : k < 2) (x1 : sidx 2 LV (.int .i64 k) = some k) (p1 : ∀ H, pcells H (.iptr LV k 0) = some [.str s, .str t]) (w2 w3 : Nat) (b2 b3 : Blk) : ∃ c2 c3 : Nat × Blk,
  runC lib ⟨h.length, h.length, 5, none⟩ (.loop b3_1) ([(2, v2), (3, v3), (4, v4), (11, v11), (12, v12), (32, LV), (33, .int .i64 2), (34, .int .i64 k)], h ++ [B0, B1, (w2, b2), (w3, b3), B4]) =
   runC lib ⟨h.length, h.length, 5, none⟩ (.loop b3_1) ([(2, v2), (3, v3), (4, v4), (11, v11), (12, v12), (32, LV), (33, .int .i64 2), (34, .int .i64 ((k : Int) + 1))], h ++ [B0, B1, c2, c3, B4]) := by
 have c1 : (k : Int) < 2 := by omega
 have f1 := fun H lo => qprint_run s t H lo
 have g1 := fun H lo => sprint_run hs ht H lo
 have f2 := fun H lo => qvalid_run s t H lo
 have f3 := fun H lo => qparse_run (s := printS s t) (by have := printS_len s t; omega) H lo
 cases hv : rvalid s t with
 | true =>
  have hn := printS_ne hv
  have hp := parse_print hv
  have hq := pair_print hv
  rw [parseV_ok hp, hq] at f3
  rw [hv] at f2
  unfold frV at *
  generalize printS s t = P at *
  refine ⟨(w2 + 1, .box [.str s, .str t]), (w3 + 1, .box [.str s, .str t]), ?_⟩
  conv => lhs; rw [w_loop]
  simp (maxSteps := 30000000) (disch := omega) only [go_sem, x1, p1, c1, splice_ok, f1, g1, f2, f3, eq_id, hn, Bool.true_beq, Bool.false_beq, Bool.not_true, Bool.not_false, beq_self_eq_true]
 | false =>
  have hb := printS_bad hv
  rw [hb] at f1 g1 f3
  rw [parseV_bad parse_nil] at f3
  rw [hv] at f2
  unfold frV at *
  refine ⟨(w2 + 1, .box [.str [], .str []]), (w3 + 1, .box [.str s, .str t]), ?_⟩
  conv => lhs; rw [w_loop]
  simp (maxSteps := 30000000) (disch := omega) only [go_sem, x1, p1, c1, splice_ok, f1, g1, f2, f3, Bool.true_beq, Bool.false_beq, Bool.not_true, Bool.not_false, beq_self_eq_true]
theorem tx_two {s t u v : List UInt8} (hs : Shrt s) (ht : Shrt t) (hu : Shrt u) (hw : Shrt v) (w2 w3 : Nat) (b2 b3 : Blk) : ∃ c2 c3 : Nat × Blk,
  runC lib ⟨h.length, h.length, 5, none⟩ (.loop b3_1) ([(2, v2), (3, v3), (4, v4), (11, v11), (12, v12), (32, .lsf 2 [.agg [.str s, .str t], .agg [.str u, .str v]]), (33, .int .i64 2), (34, .int .i64 0)], h ++ [B0, B1, (w2, b2), (w3, b3), B4]) =
   some (.exit 0, ([(2, v2), (3, v3), (4, v4), (11, v11), (12, v12)], h ++ [B0, B1, c2, c3, B4])) := by
 obtain ⟨⟨u2, a2⟩, ⟨u3, a3⟩, e1⟩ := tx_one h v2 v3 v4 v11 v12 (.lsf 2 [.agg [.str s, .str t], .agg [.str u, .str v]]) B0 B1 B4 hs ht 0 (by omega) rfl (fun H => rfl) w2 w3 b2 b3
 obtain ⟨c2, c3, e2⟩ := tx_one h v2 v3 v4 v11 v12 (.lsf 2 [.agg [.str s, .str t], .agg [.str u, .str v]]) B0 B1 B4 hu hw 1 (by omega) rfl (fun H => rfl) u2 u3 a2 a3
 refine ⟨c2, c3, e1.trans (e2.trans ?_)⟩
 generalize (AV.lsf 2 [.agg [.str s, .str t], .agg [.str u, .str v]]) = PV
 have k2 : ¬ ((1 : Nat) : Int) + 1 < 2 := by decide
 rw [w_loop]
 simp (maxSteps := 30000000) (disch := omega) only [go_sem, k2]
end
section
variable (h : Heap) (v11 LV : AV) (B2 B3 B4 : Nat × Blk)
set_option maxHeartbeats 4000000 in
theorem ty_one {s : List UInt8} (hs : s.length ≤ 1000000) (k : Nat) (hk : k < 2) (x1 : sidx 1 LV (.int .i64 k) = some k) (p1 : ∀ H, pcells H (.iptr LV k 0) = some [.str s]) (w0 w1 : Nat) (b0 b1 : Blk) : ∃ c0 c1 : Nat × Blk,
  runC lib ⟨h.length, h.length, 5, none⟩ (.loop b3_0) ([(11, v11), (94, LV), (95, .int .i64 2), (96, .int .i64 k)], h ++ [(w0, b0), (w1, b1), B2, B3, B4]) =
   runC lib ⟨h.length, h.length, 5, none⟩ (.loop b3_0) ([(11, v11), (94, LV), (95, .int .i64 2), (96, .int .i64 ((k : Int) + 1))], h ++ [c0, c1, B2, B3, B4]) := by
 have c1 : (k : Int) < 2 := by omega
 have f1 := fun H lo => qparse_run hs H lo
 have g1 := fun H lo => sparse_run hs H lo
 cases hp : parseOk s with
 | true =>
  obtain ⟨h1, h2⟩ := parse_valid hp
  have f2 := fun H lo => qprint_run (pairL s).1 (pairL s).2 H lo
  rw [h2] at f2
  rw [parseV_ok hp] at f1 g1
  unfold frV at *
  generalize (pairL s).1 = N at *
  generalize (pairL s).2 = D at *
  refine ⟨(w0 + 1, .box [.str N, .str D]), (w1 + 1, .box [.str N, .str D]), ?_⟩
  conv => lhs; rw [w_loop]
  simp (maxSteps := 30000000) (disch := omega) only [go_sem, x1, p1, c1, splice_ok, f1, g1, f2, pr_same]
 | false =>
  rw [parseV_bad hp] at f1 g1
  refine ⟨(w0 + 1, .box [.str [], .str []]), (w1 + 1, .box [.str [], .str []]), ?_⟩
  conv => lhs; rw [w_loop]
  simp (maxSteps := 30000000) (disch := omega) only [go_sem, x1, p1, c1, splice_ok, f1, g1, pr_same]
theorem ty_two {s t : List UInt8} (hs : s.length ≤ 1000000) (ht : t.length ≤ 1000000) (w0 w1 : Nat) (b0 b1 : Blk) : ∃ c0 c1 : Nat × Blk,
  runC lib ⟨h.length, h.length, 5, none⟩ (.loop b3_0) ([(11, v11), (94, .lsf 1 [.str s, .str t]), (95, .int .i64 2), (96, .int .i64 0)], h ++ [(w0, b0), (w1, b1), B2, B3, B4]) =
   some (.exit 2, ([(11, v11)], h ++ [c0, c1, B2, B3, B4])) := by
 obtain ⟨⟨u2, a2⟩, ⟨u3, a3⟩, e1⟩ := ty_one h v11 (.lsf 1 [.str s, .str t]) B2 B3 B4 hs 0 (by omega) rfl (fun H => rfl) w0 w1 b0 b1
 obtain ⟨c2, c3, e2⟩ := ty_one h v11 (.lsf 1 [.str s, .str t]) B2 B3 B4 ht 1 (by omega) rfl (fun H => rfl) u2 u3 a2 a3
 refine ⟨c2, c3, e1.trans (e2.trans ?_)⟩
 generalize (AV.lsf 1 [.str s, .str t]) = PV
 have k2 : ¬ ((1 : Nat) : Int) + 1 < 2 := by decide
 rw [w_loop]
 simp (maxSteps := 30000000) (disch := omega) only [go_sem, k2]
end
set_option maxHeartbeats 8000000 in
theorem text_law {s t raw : List UInt8} (hs : Shrt s) (ht : Shrt t) (hr : Shrt raw) {m0 m1 m2 m3 at0 c : Int} (i0 : I64 m0) (i1 : I64 m1) (i2 : I64 m2) (i3 : I64 m3) (ha : I64 at0) (hc0 : 0 ≤ c) (hc1 : c < 256) (h : Heap) (lo : Nat) :
  (run lib).fn 3 [.agg [.str s, .str t], .agg [.int .i64 m0, .int .i64 m1, .int .i64 m2, .int .i64 m3], .int .i64 at0, .int .u8 c, .str raw] h lo = some (.bool true, h) := by
 have sa := fun H lo => sane_run H lo
 have d1 := fun H lo => long_run i0 i1 i2 i3 H lo
 have ct := fun H lo => cut4_run hs ht H lo
 have fq := (longQ_fit m0 m1 m2 m3).fit
 have pt := fun H lo => sprint_run (shrt_txt fq.1) (shrt_txt (den_fit fq)) H lo
 have hn := printS_ne (rvalid_itxt fq)
 have hl := printS_len (itxt (longQ m0 m1 m2 m3).num) (itxt ((longQ m0 m1 m2 m3).den : Int))
 obtain ⟨e2, e3, l1⟩ := tx_two h (.int .i64 at0) (.int .u8 c) (.str raw) (.bool true) (.bptr (h.length + 4) 1 0) (0, .dead) (0, .dead) (1, .box [.str (itxt (longQ m0 m1 m2 m3).num), .str (itxt ((longQ m0 m1 m2 m3).den : Int))]) (shrt_cut s) (shrt_cut t) (shrt_txt fq.1) (shrt_txt (den_fit fq)) 0 0 .dead .dead
 simp only [rt, frV] at d1 pt
 generalize printS (itxt (longQ m0 m1 m2 m3).num) (itxt ((longQ m0 m1 m2 m3).den : Int)) = P at *
 generalize itxt (longQ m0 m1 m2 m3).num = a1 at *
 generalize itxt ((longQ m0 m1 m2 m3).den : Int) = a2 at *
 generalize s.take (min s.length 210) = s' at *
 generalize t.take (min t.length 210) = t' at *
 have hP : 0 < P.length := List.length_pos_iff.mpr hn
 have pf := fun H lo => lpick_run (n := (P.length : Int)) (by omega) ha H lo
 have pr := pk_range at0 (n := (P.length : Int)) (by omega)
 generalize pk at0 (P.length : Int) = K at *
 obtain ⟨k, rfl⟩ : ∃ k : Nat, K = k := ⟨K.toNat, by omega⟩
 have t1 := sstr_to (k := .i64) (l := P) (show k ≤ P.length by omega)
 have t2 := sstr_from (k := .i64) (l := P) (show k + 1 ≤ P.length by omega)
 rw [cast1] at t2
 have em : min (raw.length : Int) 420 = ((min raw.length 420 : Nat) : Int) := by omega
 have t3 := sstr_to (k := .i64) (l := raw) (show min raw.length 420 ≤ raw.length by omega)
 have al : ∀ (H : Heap) (x : AV), asList H 1 (.lsf 1 [x]) = some [x] := fun H x => ((show PureSl 1 (.lsf 1 [x]) [x] from .inr ⟨1, .inr rfl, .inl rfl⟩).sl H).list0
 have b1 := bytes1 hc0 hc1
 have q1 : (raw.take (min raw.length 420)).length ≤ 420 := by simp; omega
 have q2 : (P.take k).length ≤ 1000 := by simp; omega
 have q3 : (P.drop (k + 1)).length ≤ 1000 := by simp; omega
 generalize raw.take (min raw.length 420) = R at *
 generalize P.take k = P1 at *
 generalize P.drop (k + 1) = P2 at *
 generalize UInt8.ofNat c.toNat = u at *
 have a1' := bin_sadd (a := P1) (b := [u]) (by simp; omega)
 have a2' := bin_sadd (a := P1 ++ [u]) (b := P2) (by simp; omega)
 obtain ⟨e0, e1, l2⟩ := ty_two h (.bool true) e2 e3 (1, .box [.str a1, .str a2]) (s := R) (t := P1 ++ [u] ++ P2) (by omega) (by simp; omega) 0 0 .dead .dead
 have ll : ∀ a b : AV, lenv false (.lsf 2 [a, b]) = some (.int .i64 2) := fun a b => rfl
 have ll1 : ∀ a b : AV, lenv false (.lsf 1 [a, b]) = some (.int .i64 2) := fun a b => rfl
 have lP : lenv true (.str P) = some (.int .i64 (P.length : Nat)) := rfl
 have lR : lenv true (.str raw) = some (.int .i64 (raw.length : Nat)) := rfl
 unfold Shrt at hr
 clear hs ht fq
 rw [run_closed (x := x3) rfl rfl rfl rfl]
 simp (maxSteps := 30000000) (disch := omega) only [go_sem, x3, sa, d1, ct, pt, l1, hn, lP, lR, pf, t1, t2, t3, em, al, b1, a1', a2', ll, ll1, l2]
theorem u8_of' {c0 : List AV} (t : TyL (.int .u8) c0) : ∃ n : Int, (Shp.int .u8).mk c0 = .int .u8 n ∧ 0 ≤ n ∧ n < 256 := by
 obtain ⟨n, h1, h2, h3⟩ := int_of t
 refine ⟨n, by rw [h1]; rfl, ?_, ?_⟩
 ·have : IntKind.u8.min = 0 := by decide
  omega
 ·have : IntKind.u8.max = 255 := by decide
  omega
def shText : List Shp := [st2, a4, .int .i64, .int .u8, .str]
theorem walkText (xs : List AV) (ht : TyA shText xs) : ∃ h', (run lib).fn 3 xs [] 0 = some (.bool true, h') := by
 simp only [shText, TyA] at ht
 obtain ⟨c0, r0, rfl, t0, c1, r1, rfl, t1, c2, r2, rfl, t2, c3, r3, rfl, t3, c4, r4, rfl, t4, rfl⟩ := ht
 obtain ⟨s, t, e0, hs, ht⟩ := st2_of t0
 obtain ⟨a, b, d, e, e1, h0, h1, h2, h3⟩ := a4_of t1
 obtain ⟨n, e2, hn⟩ := int_of' t2
 obtain ⟨c, e3, hc0, hc1⟩ := u8_of' t3
 obtain ⟨l, e4, hl⟩ := str_of' t4
 rw [e0, e1, e2, e3, e4]
 exact ⟨_, text_law hs ht hl h0 h1 h2 h3 hn hc0 hc1 [] 0⟩
end Go.VI.Rational
