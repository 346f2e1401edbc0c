/- What the functions on integers compute, part ME. -/
import Derived.Test.YtgifkjfchppigaaGreatDoorIntegerMD
namespace Go.VI.Integer
open Go.VI.Num
set_option linter.unusedVariables false
set_option linter.unusedSimpArgs false

/-! IntegerDivided -/
theorem divided_run {a b : List UInt8} (ha : a.length ≤ 9223372036854775807) (hb : b.length ≤ 9223372036854775807) (h : Heap) (lo : Nat) : (run lib).fn 4 [.str a, .str b] h lo = some (.bool true, h) := by
  have m1 : ∀ H lo, (run lib).fn 13 [.str a, .int .i64 90] H lo = some (.str (itxt (madeZ a 90)), H) := made_run (most := 90) (by omega) ha
  have m2 : ∀ H lo, (run lib).fn 13 [.str b, .int .i64 60] H lo = some (.str (itxt (madeZ b 60)), H) := made_run (most := 60) (by omega) hb
  have bx : Bd 90 (madeZ a 90) := madeZ_abs a 90
  have by' : Bd 60 (madeZ b 60) := madeZ_abs b 60
  generalize madeZ a 90 = x at *
  generalize madeZ b 60 = y at *
  have i1 : itxt 1 = [49] := rfl
  have i0 : itxt 0 = [48] := rfl
  have xf := bx.fit (by omega)
  have yf := by'.fit (by omega)
  rw [run_closed (x := x4) rfl rfl rfl rfl]
  by_cases h0 : y = 0
  · subst h0
    have dz := div_zero xf
    rw [i0] at dz m2
    simp only [badT2] at dz
    simp (maxSteps := 1000000) (disch := omega) only [go_sem, ↓reduceIte, Nat.reduceEqDiff, Nat.reduceAdd, Nat.reduceSub, Nat.reduceMul, Nat.reduceLT, Nat.reduceLeDiff, reduceCtorEq, Nat.succ_ne_self, ne_eq, not_true_eq_false, not_false_eq_true, and_self, and_true, true_and, Nat.zero_add, Nat.sub_zero, Nat.zero_mul, Nat.one_mul, Nat.le_refl, List.getElem?_cons_zero, List.set_cons_zero, Int.reduceToNat, Int.reduceLT, Int.reduceLE, Int.reduceAdd, Int.reduceSub, Int.reduceMul, Int.reduceEq, Int.reduceNe, Int.toNat_natCast, Int.natCast_zero, wrap_id, wrapu_id, wrapb_id, idx_ok, bin_quo, bin_rem, tdiv_id, tmod_id, ps_bptr, x4, sane_run, m1, m2, dz]
  · have hne : ¬ itxt y = [48] := by rw [← i0, str_iff]; exact h0
    have bq : Bd 90 (x / y) := bx.le (Int.natAbs_ediv_le_natAbs x y)
    have br : Bd 60 (x % y) := by'.le (by
      have h1 := (dv_eq (x := x) h0).2
      have h3 : dvR x y ≤ y.natAbs := by
        have := Nat.mod_lt x.natAbs (show 0 < y.natAbs by omega)
        unfold dvR; split <;> omega
      omega)
    have qf := bq.fit (by omega)
    have rf := br.fit (by omega)
    have d1 := div_fit xf yf h0 rfl rfl
    have p1 := mul_fit qf yf ((bq.mul by').fit (by omega)) rfl
    have p2 := add_fit ((bq.mul by').fit (by omega)) rf xf (Int.ediv_mul_add_emod x y)
    have p3 := mul_fit yf fit1 yf (Int.mul_one y)
    have p4 := mul_fit xf yf ((bx.mul by').fit (by omega)) rfl
    have d2 := div_fit ((bx.mul by').fit (by omega)) yf h0 (Int.mul_ediv_cancel x h0) (Int.mul_emod_left x y)
    have r0 := Int.emod_nonneg x h0
    have c1 := compare_run rf fit0
    have v1 := valid_run (itxt (x % y))
    rw [validS_itxt rf] at v1
    rw [i1] at p3
    rw [i0] at c1 d2
    have hc1 : (0 : Int) ≤ cmpN (x % y) 0 := (cmpN_ge _ _).mpr r0
    by_cases c : y < 0
    · have c2 := compare_run yf fit0
      rw [cmp_less c, i0] at c2
      have p5 := sub_fit fit0 yf (by'.le (y := -y) (by omega) |>.fit (by omega)) (Int.zero_sub y)
      rw [i0] at p5
      have c3 := compare_run rf (by'.le (y := -y) (by omega) |>.fit (by omega))
      have hc3 : cmpN (x % y) (-y) < 0 := (cmpN_lt _ _).mpr (by have := Int.emod_lt_of_neg x c; omega)
      simp (maxSteps := 1000000) (disch := omega) only [go_sem, ↓reduceIte, Nat.reduceEqDiff, Nat.reduceAdd, Nat.reduceSub, Nat.reduceMul, Nat.reduceLT, Nat.reduceLeDiff, reduceCtorEq, Nat.succ_ne_self, ne_eq, not_true_eq_false, not_false_eq_true, and_self, and_true, true_and, Nat.zero_add, Nat.sub_zero, Nat.zero_mul, Nat.one_mul, Nat.le_refl, List.getElem?_cons_zero, List.set_cons_zero, Int.reduceToNat, Int.reduceLT, Int.reduceLE, Int.reduceAdd, Int.reduceSub, Int.reduceMul, Int.reduceEq, Int.reduceNe, Int.toNat_natCast, Int.natCast_zero, wrap_id, wrapu_id, wrapb_id, idx_ok, bin_quo, bin_rem, tdiv_id, tmod_id, ps_bptr, x4, sane_run, m1, m2, d1, hne, p1, p2, p3, p4, p5, d2, c1, c2, c3, v1, hc1, hc3]
    · have hp : 0 < y := by omega
      have c2 := compare_run yf fit0
      rw [cmp_more hp, i0] at c2
      have c3 := compare_run rf yf
      have hc3 : cmpN (x % y) y < 0 := (cmpN_lt _ _).mpr (Int.emod_lt_of_pos x hp)
      simp (maxSteps := 1000000) (disch := omega) only [go_sem, ↓reduceIte, Nat.reduceEqDiff, Nat.reduceAdd, Nat.reduceSub, Nat.reduceMul, Nat.reduceLT, Nat.reduceLeDiff, reduceCtorEq, Nat.succ_ne_self, ne_eq, not_true_eq_false, not_false_eq_true, and_self, and_true, true_and, Nat.zero_add, Nat.sub_zero, Nat.zero_mul, Nat.one_mul, Nat.le_refl, List.getElem?_cons_zero, List.set_cons_zero, Int.reduceToNat, Int.reduceLT, Int.reduceLE, Int.reduceAdd, Int.reduceSub, Int.reduceMul, Int.reduceEq, Int.reduceNe, Int.toNat_natCast, Int.natCast_zero, wrap_id, wrapu_id, wrapb_id, idx_ok, bin_quo, bin_rem, tdiv_id, tmod_id, ps_bptr, x4, sane_run, m1, m2, d1, hne, p1, p2, p3, p4, d2, c1, c2, c3, v1, hc1, hc3]
/-! IntegerOrder -/
theorem order_lt {a b c : List UInt8} {x y z : Int} (m1 : ∀ H lo, (run lib).fn 13 [.str a, .int .i64 60] H lo = some (.str (itxt x), H)) (m2 : ∀ H lo, (run lib).fn 13 [.str b, .int .i64 60] H lo = some (.str (itxt y), H)) (m3 : ∀ H lo, (run lib).fn 13 [.str c, .int .i64 60] H lo = some (.str (itxt z), H))
    (bx : Bd 60 x) (by' : Bd 60 y) (bz : Bd 60 z) (g : x < y) (h : Heap) (lo : Nat) : (run lib).fn 7 [.str a, .str b, .str c] h lo = some (.bool true, h) := by
  have i0 : itxt 0 = [48] := rfl
  have xf := bx.fit (by omega)
  have yf := by'.fit (by omega)
  have zf := bz.fit (by omega)
  have xyf := (bx.sub by').fit (by omega)
  have xzf := (bx.add bz).fit (by omega)
  have yzf := (by'.add bz).fit (by omega)
  have e1 := sub_fit xf yf xyf rfl
  have e2 := add_fit xf zf xzf rfl
  have e3 := add_fit yf zf yzf rfl
  have c1 := compare_run xf yf
  have c2 := compare_run yf xf
  have c3 := compare_run xyf fit0
  have c4 := compare_run xzf yzf
  have c5 := compare_run yf zf
  have c6 := compare_run xf zf
  rw [i0] at c3
  rw [cmp_less g] at c1
  rw [cmp_more g] at c2
  rw [cmp_less (show x - y < 0 by omega)] at c3
  rw [cmp_less (show x + z < y + z by omega)] at c4
  have hne : ¬ itxt x = itxt y := str_ne (by omega)
  have g3 : ¬ 0 < cmpN y z → cmpN x z ≤ 0 := fun w => by
    have w1 : ¬ z < y := fun w2 => by rw [cmp_more w2] at w; omega
    rcases Int.lt_or_eq_of_le (show x ≤ z by omega) with g | g
    · rw [cmp_less g]; omega
    · rw [g, cmp_eq]; omega
  generalize itxt x = X at *
  generalize itxt y = Y at *
  generalize itxt z = Z at *
  generalize itxt (x - y) = XY at *
  generalize itxt (x + z) = XZ at *
  generalize itxt (y + z) = YZ at *
  generalize cmpN y z = q at *
  generalize cmpN x z = p at *
  rw [run_closed (x := x7) rfl rfl rfl rfl]
  by_cases g2 : 0 < q
  · simp (maxSteps := 1000000) (disch := omega) only [go_sem, ↓reduceIte, Nat.reduceEqDiff, Nat.reduceAdd, Nat.reduceSub, Nat.reduceMul, Nat.reduceLT, Nat.reduceLeDiff, reduceCtorEq, Nat.succ_ne_self, ne_eq, not_true_eq_false, not_false_eq_true, and_self, and_true, true_and, Nat.zero_add, Nat.sub_zero, Nat.zero_mul, Nat.one_mul, Nat.le_refl, List.getElem?_cons_zero, List.set_cons_zero, Int.reduceToNat, Int.reduceLT, Int.reduceLE, Int.reduceAdd, Int.reduceSub, Int.reduceMul, Int.reduceEq, Int.reduceNe, Int.toNat_natCast, Int.natCast_zero, wrap_id, wrapu_id, wrapb_id, idx_ok, bin_quo, bin_rem, tdiv_id, tmod_id, ps_bptr, x7, sane_run, m1, m2, m3, e1, e2, e3, c1, c2, c3, c4, c5, c6, hne, g2, Int.reduceNeg, eqv_t, beq_self_eq_true]
  · have g4 := g3 g2
    simp (maxSteps := 1000000) (disch := omega) only [go_sem, ↓reduceIte, Nat.reduceEqDiff, Nat.reduceAdd, Nat.reduceSub, Nat.reduceMul, Nat.reduceLT, Nat.reduceLeDiff, reduceCtorEq, Nat.succ_ne_self, ne_eq, not_true_eq_false, not_false_eq_true, and_self, and_true, true_and, Nat.zero_add, Nat.sub_zero, Nat.zero_mul, Nat.one_mul, Nat.le_refl, List.getElem?_cons_zero, List.set_cons_zero, Int.reduceToNat, Int.reduceLT, Int.reduceLE, Int.reduceAdd, Int.reduceSub, Int.reduceMul, Int.reduceEq, Int.reduceNe, Int.toNat_natCast, Int.natCast_zero, wrap_id, wrapu_id, wrapb_id, idx_ok, bin_quo, bin_rem, tdiv_id, tmod_id, ps_bptr, x7, sane_run, m1, m2, m3, e1, e2, e3, c1, c2, c3, c4, c5, c6, hne, g2, g4, Int.reduceNeg, beq_self_eq_true]
theorem order_eq {a b c : List UInt8} {x y z : Int} (m1 : ∀ H lo, (run lib).fn 13 [.str a, .int .i64 60] H lo = some (.str (itxt x), H)) (m2 : ∀ H lo, (run lib).fn 13 [.str b, .int .i64 60] H lo = some (.str (itxt y), H)) (m3 : ∀ H lo, (run lib).fn 13 [.str c, .int .i64 60] H lo = some (.str (itxt z), H))
    (bx : Bd 60 x) (by' : Bd 60 y) (bz : Bd 60 z) (g : x = y) (h : Heap) (lo : Nat) : (run lib).fn 7 [.str a, .str b, .str c] h lo = some (.bool true, h) := by
  have i0 : itxt 0 = [48] := rfl
  have xf := bx.fit (by omega)
  have yf := by'.fit (by omega)
  have zf := bz.fit (by omega)
  have xyf := (bx.sub by').fit (by omega)
  have xzf := (bx.add bz).fit (by omega)
  have yzf := (by'.add bz).fit (by omega)
  have e1 := sub_fit xf yf xyf rfl
  have e2 := add_fit xf zf xzf rfl
  have e3 := add_fit yf zf yzf rfl
  have c1 := compare_run xf yf
  have c2 := compare_run yf xf
  have c3 := compare_run xyf fit0
  have c4 := compare_run xzf yzf
  have c5 := compare_run yf zf
  have c6 := compare_run xf zf
  rw [i0] at c3
  subst g
  rw [cmp_eq] at c1 c2 c4
  have e0 : cmpN (x - x) 0 = 0 := by rw [Int.sub_self, cmp_eq]
  rw [e0] at c3
  have g3 : ¬ 0 < cmpN x z → cmpN x z ≤ 0 := fun w => by omega
  generalize itxt x = X at *
  generalize itxt z = Z at *
  generalize itxt (x - x) = XY at *
  generalize itxt (x + z) = XZ at *
  generalize cmpN x z = p at *
  rw [run_closed (x := x7) rfl rfl rfl rfl]
  by_cases g2 : 0 < p
  · simp (maxSteps := 1000000) (disch := omega) only [go_sem, ↓reduceIte, Nat.reduceEqDiff, Nat.reduceAdd, Nat.reduceSub, Nat.reduceMul, Nat.reduceLT, Nat.reduceLeDiff, reduceCtorEq, Nat.succ_ne_self, ne_eq, not_true_eq_false, not_false_eq_true, and_self, and_true, true_and, Nat.zero_add, Nat.sub_zero, Nat.zero_mul, Nat.one_mul, Nat.le_refl, List.getElem?_cons_zero, List.set_cons_zero, Int.reduceToNat, Int.reduceLT, Int.reduceLE, Int.reduceAdd, Int.reduceSub, Int.reduceMul, Int.reduceEq, Int.reduceNe, Int.toNat_natCast, Int.natCast_zero, wrap_id, wrapu_id, wrapb_id, idx_ok, bin_quo, bin_rem, tdiv_id, tmod_id, ps_bptr, x7, sane_run, m1, m2, m3, e1, e2, e3, c1, c2, c3, c4, c5, c6, g2, beq_self_eq_true]
  · have g4 := g3 g2
    simp (maxSteps := 1000000) (disch := omega) only [go_sem, ↓reduceIte, Nat.reduceEqDiff, Nat.reduceAdd, Nat.reduceSub, Nat.reduceMul, Nat.reduceLT, Nat.reduceLeDiff, reduceCtorEq, Nat.succ_ne_self, ne_eq, not_true_eq_false, not_false_eq_true, and_self, and_true, true_and, Nat.zero_add, Nat.sub_zero, Nat.zero_mul, Nat.one_mul, Nat.le_refl, List.getElem?_cons_zero, List.set_cons_zero, Int.reduceToNat, Int.reduceLT, Int.reduceLE, Int.reduceAdd, Int.reduceSub, Int.reduceMul, Int.reduceEq, Int.reduceNe, Int.toNat_natCast, Int.natCast_zero, wrap_id, wrapu_id, wrapb_id, idx_ok, bin_quo, bin_rem, tdiv_id, tmod_id, ps_bptr, x7, sane_run, m1, m2, m3, e1, e2, e3, c1, c2, c3, c4, c5, c6, g2, g4, beq_self_eq_true]
theorem order_gt {a b c : List UInt8} {x y z : Int} (m1 : ∀ H lo, (run lib).fn 13 [.str a, .int .i64 60] H lo = some (.str (itxt x), H)) (m2 : ∀ H lo, (run lib).fn 13 [.str b, .int .i64 60] H lo = some (.str (itxt y), H)) (m3 : ∀ H lo, (run lib).fn 13 [.str c, .int .i64 60] H lo = some (.str (itxt z), H))
    (bx : Bd 60 x) (by' : Bd 60 y) (bz : Bd 60 z) (g : y < x) (h : Heap) (lo : Nat) : (run lib).fn 7 [.str a, .str b, .str c] h lo = some (.bool true, h) := by
  have i0 : itxt 0 = [48] := rfl
  have xf := bx.fit (by omega)
  have yf := by'.fit (by omega)
  have zf := bz.fit (by omega)
  have xyf := (bx.sub by').fit (by omega)
  have xzf := (bx.add bz).fit (by omega)
  have yzf := (by'.add bz).fit (by omega)
  have e1 := sub_fit xf yf xyf rfl
  have e2 := add_fit xf zf xzf rfl
  have e3 := add_fit yf zf yzf rfl
  have c1 := compare_run xf yf
  have c2 := compare_run yf xf
  have c3 := compare_run xyf fit0
  have c4 := compare_run xzf yzf
  have c5 := compare_run yf zf
  have c6 := compare_run xf zf
  rw [i0] at c3
  rw [cmp_more g] at c1
  rw [cmp_less g] at c2
  rw [cmp_more (show 0 < x - y by omega)] at c3
  rw [cmp_more (show y + z < x + z by omega)] at c4
  have hne : ¬ itxt x = itxt y := str_ne (by omega)
  generalize itxt x = X at *
  generalize itxt y = Y at *
  generalize itxt z = Z at *
  generalize itxt (x - y) = XY at *
  generalize itxt (x + z) = XZ at *
  generalize itxt (y + z) = YZ at *
  rw [run_closed (x := x7) rfl rfl rfl rfl]
  simp (maxSteps := 1000000) (disch := omega) only [go_sem, ↓reduceIte, Nat.reduceEqDiff, Nat.reduceAdd, Nat.reduceSub, Nat.reduceMul, Nat.reduceLT, Nat.reduceLeDiff, reduceCtorEq, Nat.succ_ne_self, ne_eq, not_true_eq_false, not_false_eq_true, and_self, and_true, true_and, Nat.zero_add, Nat.sub_zero, Nat.zero_mul, Nat.one_mul, Nat.le_refl, List.getElem?_cons_zero, List.set_cons_zero, Int.reduceToNat, Int.reduceLT, Int.reduceLE, Int.reduceAdd, Int.reduceSub, Int.reduceMul, Int.reduceEq, Int.reduceNe, Int.toNat_natCast, Int.natCast_zero, wrap_id, wrapu_id, wrapb_id, idx_ok, bin_quo, bin_rem, tdiv_id, tmod_id, ps_bptr, x7, sane_run, m1, m2, m3, e1, e2, e3, c1, c2, c3, c4, c5, c6, hne, Int.reduceNeg, beq_self_eq_true]
theorem order_run {a b c : List UInt8} (ha : a.length ≤ 9223372036854775807) (hb : b.length ≤ 9223372036854775807) (hc : c.length ≤ 9223372036854775807) (h : Heap) (lo : Nat) : (run lib).fn 7 [.str a, .str b, .str c] h lo = some (.bool true, h) := by
  have m1 : ∀ H lo, (run lib).fn 13 [.str a, .int .i64 60] H lo = some (.str (itxt (madeZ a 60)), H) := made_run (most := 60) (by omega) ha
  have m2 : ∀ H lo, (run lib).fn 13 [.str b, .int .i64 60] H lo = some (.str (itxt (madeZ b 60)), H) := made_run (most := 60) (by omega) hb
  have m3 : ∀ H lo, (run lib).fn 13 [.str c, .int .i64 60] H lo = some (.str (itxt (madeZ c 60)), H) := made_run (most := 60) (by omega) hc
  rcases Int.lt_trichotomy (madeZ a 60) (madeZ b 60) with g | g | g
  · exact order_lt m1 m2 m3 (madeZ_abs a 60) (madeZ_abs b 60) (madeZ_abs c 60) g h lo
  · exact order_eq m1 m2 m3 (madeZ_abs a 60) (madeZ_abs b 60) (madeZ_abs c 60) g h lo
  · exact order_gt m1 m2 m3 (madeZ_abs a 60) (madeZ_abs b 60) (madeZ_abs c 60) g h lo
/-! IntegerCommon -/
theorem common_run {a b c : List UInt8} (ha : a.length ≤ 9223372036854775807) (hb : b.length ≤ 9223372036854775807) (hc : c.length ≤ 9223372036854775807) (h : Heap) (lo : Nat) : (run lib).fn 5 [.str a, .str b, .str c] h lo = some (.bool true, h) := by
  have m1 : ∀ H lo, (run lib).fn 13 [.str a, .int .i64 40] H lo = some (.str (itxt (madeZ a 40)), H) := made_run (most := 40) (by omega) ha
  have m2 : ∀ H lo, (run lib).fn 13 [.str b, .int .i64 40] H lo = some (.str (itxt (madeZ b 40)), H) := made_run (most := 40) (by omega) hb
  have m3 : ∀ H lo, (run lib).fn 13 [.str c, .int .i64 40] H lo = some (.str (itxt (madeZ c 40)), H) := made_run (most := 40) (by omega) hc
  have bx : Bd 40 (madeZ a 40) := madeZ_abs a 40
  have by' : Bd 40 (madeZ b 40) := madeZ_abs b 40
  have bz : Bd 40 (madeZ c 40) := madeZ_abs c 40
  generalize madeZ a 40 = x at *
  generalize madeZ b 40 = y at *
  generalize madeZ c 40 = z at *
  have i1 : itxt 1 = [49] := rfl
  have i0 : itxt 0 = [48] := rfl
  have xf := bx.fit (by omega)
  have yf := by'.fit (by omega)
  have zf := bz.fit (by omega)
  have bg : Bd 40 ((Int.gcd x y : Nat) : Int) := by
    unfold Bd at *
    rw [Int.natAbs_natCast]
    unfold Int.gcd
    rcases Nat.eq_zero_or_pos x.natAbs with h | h
    · rw [h, Nat.gcd_zero_left]; exact by'
    · exact Nat.lt_of_le_of_lt (Nat.gcd_le_left _ h) bx
  have gf := bg.fit (by omega)
  have g1 := gcd_fit' xf yf rfl
  have g2 := gcd_fit' yf xf (g := ((Int.gcd x y : Nat) : Int)) (by rw [Int.gcd_comm])
  have c1 := compare_run gf fit0
  rw [i0] at c1
  have hc1 : ¬ cmpN ((Int.gcd x y : Nat) : Int) 0 < 0 := by rw [cmpN_lt]; omega
  by_cases h0 : x = 0 ∧ y = 0
  · obtain ⟨rfl, rfl⟩ := h0
    have e0 : ((Int.gcd 0 0 : Nat) : Int) = 0 := rfl
    rw [e0] at g1 g2 c1 hc1
    rw [i0] at m1 m2 g1 g2 c1
    generalize cmpN 0 0 = q at *
    rw [run_closed (x := x5) rfl rfl rfl rfl]
    simp (maxSteps := 1000000) (disch := omega) only [go_sem, ↓reduceIte, Nat.reduceEqDiff, Nat.reduceAdd, Nat.reduceSub, Nat.reduceMul, Nat.reduceLT, Nat.reduceLeDiff, reduceCtorEq, Nat.succ_ne_self, ne_eq, not_true_eq_false, not_false_eq_true, and_self, and_true, true_and, Nat.zero_add, Nat.sub_zero, Nat.zero_mul, Nat.one_mul, Nat.le_refl, List.getElem?_cons_zero, List.set_cons_zero, Int.reduceToNat, Int.reduceLT, Int.reduceLE, Int.reduceAdd, Int.reduceSub, Int.reduceMul, Int.reduceEq, Int.reduceNe, Int.toNat_natCast, Int.natCast_zero, wrap_id, wrapu_id, wrapb_id, idx_ok, bin_quo, bin_rem, tdiv_id, tmod_id, ps_bptr, x5, sane_run, m1, m2, m3, g1, g2, c1, hc1]
  · have gp : 0 < Int.gcd x y := Int.gcd_pos_iff.mpr (by omega)
    have gne : ((Int.gcd x y : Nat) : Int) ≠ 0 := by omega
    have b1 : Bd 40 (x / (Int.gcd x y : Nat)) := bx.le (Int.natAbs_ediv_le_natAbs _ _)
    have b2 : Bd 40 (y / (Int.gcd x y : Nat)) := by'.le (Int.natAbs_ediv_le_natAbs _ _)
    have d1 := div_fit xf gf gne rfl (Int.emod_eq_zero_of_dvd (Int.gcd_dvd_left x y))
    have d2 := div_fit yf gf gne rfl (Int.emod_eq_zero_of_dvd (Int.gcd_dvd_right x y))
    have g3 := gcd_fit' (b1.fit (by omega)) (b2.fit (by omega)) (g := 1) (by
      rw [Int.gcd_ediv (Int.gcd_dvd_left x y) (Int.gcd_dvd_right x y), Int.natAbs_natCast, Nat.div_self gp]; rfl)
    have p1 := mul_fit xf zf ((bx.mul bz).fit (by omega)) rfl
    have p2 := mul_fit yf zf ((by'.mul bz).fit (by omega)) rfl
    have p3 := mul_fit gf zf ((bg.mul bz).fit (by omega)) rfl
    have eg : ((Int.gcd (x * z) (y * z) : Nat) : Int) = ((Int.gcd x y : Nat) : Int) * (z.natAbs : Int) := by rw [Int.gcd_mul_right, Int.natCast_mul]
    have g4 := gcd_fit' ((bx.mul bz).fit (by omega)) ((by'.mul bz).fit (by omega)) eg
    have c2 := compare_run ((bg.mul bz).fit (by omega)) fit0
    have n1 : (decide (x = 0) && decide (y = 0)) = false := by simp; omega
    rw [i0] at d1 d2 c2
    rw [i1] at g3
    have hx0 : (itxt x = [48]) = (x = 0) := by rw [← i0, str_iff]
    have hy0 : (itxt y = [48]) = (y = 0) := by rw [← i0, str_iff]
    by_cases c : z < 0
    · have hlt : ((Int.gcd x y : Nat) : Int) * z < 0 := Int.mul_neg_of_pos_of_neg (by omega) c
      rw [cmp_less hlt] at c2
      have p4 := sub_fit fit0 ((bg.mul bz).fit (by omega)) (z := ((Int.gcd x y : Nat) : Int) * (z.natAbs : Int)) ((bg.mul (bz.le (y := (z.natAbs : Int)) (by omega))).fit (by omega)) (by
        have : (z.natAbs : Int) = -z := by omega
        rw [this, Int.mul_neg, Int.zero_sub])
      rw [i0] at p4
      by_cases hx : x = 0
      · have hy : ¬ y = 0 := fun e => h0 ⟨hx, e⟩
        have hx' := hx0.symm ▸ hx
        have hy' : ¬ itxt y = [48] := fun e => hy (hy0 ▸ e)
        generalize itxt y = Y at *
        rw [hx'] at m1 g1 g2 d1 p1
        generalize itxt z = Z at *
        generalize cmpN ((Int.gcd x y : Nat) : Int) 0 = q at *
        rw [run_closed (x := x5) rfl rfl rfl rfl]
        simp (maxSteps := 1000000) (disch := omega) only [go_sem, ↓reduceIte, Nat.reduceEqDiff, Nat.reduceAdd, Nat.reduceSub, Nat.reduceMul, Nat.reduceLT, Nat.reduceLeDiff, reduceCtorEq, Nat.succ_ne_self, ne_eq, not_true_eq_false, not_false_eq_true, and_self, and_true, true_and, Nat.zero_add, Nat.sub_zero, Nat.zero_mul, Nat.one_mul, Nat.le_refl, List.getElem?_cons_zero, List.set_cons_zero, Int.reduceToNat, Int.reduceLT, Int.reduceLE, Int.reduceAdd, Int.reduceSub, Int.reduceMul, Int.reduceEq, Int.reduceNe, Int.toNat_natCast, Int.natCast_zero, wrap_id, wrapu_id, wrapb_id, idx_ok, bin_quo, bin_rem, tdiv_id, tmod_id, ps_bptr, x5, sane_run, m1, m2, m3, g1, g2, c1, hc1, hy', d1, d2, g3, p1, p2, p3, g4, c2, p4]
      · have hx' : ¬ itxt x = [48] := fun e => hx (hx0 ▸ e)
        generalize itxt x = X at *
        generalize itxt y = Y at *
        generalize itxt z = Z at *
        generalize cmpN ((Int.gcd x y : Nat) : Int) 0 = q at *
        rw [run_closed (x := x5) rfl rfl rfl rfl]
        simp (maxSteps := 1000000) (disch := omega) only [go_sem, ↓reduceIte, Nat.reduceEqDiff, Nat.reduceAdd, Nat.reduceSub, Nat.reduceMul, Nat.reduceLT, Nat.reduceLeDiff, reduceCtorEq, Nat.succ_ne_self, ne_eq, not_true_eq_false, not_false_eq_true, and_self, and_true, true_and, Nat.zero_add, Nat.sub_zero, Nat.zero_mul, Nat.one_mul, Nat.le_refl, List.getElem?_cons_zero, List.set_cons_zero, Int.reduceToNat, Int.reduceLT, Int.reduceLE, Int.reduceAdd, Int.reduceSub, Int.reduceMul, Int.reduceEq, Int.reduceNe, Int.toNat_natCast, Int.natCast_zero, wrap_id, wrapu_id, wrapb_id, idx_ok, bin_quo, bin_rem, tdiv_id, tmod_id, ps_bptr, x5, sane_run, m1, m2, m3, g1, g2, c1, hc1, hx', d1, d2, g3, p1, p2, p3, g4, c2, p4]
    · have hge : ¬ cmpN (((Int.gcd x y : Nat) : Int) * z) 0 < 0 := by
        rw [cmpN_lt]
        have := Int.mul_nonneg (show (0 : Int) ≤ (Int.gcd x y : Nat) by omega) (show 0 ≤ z by omega)
        omega
      have ez : (z.natAbs : Int) = z := by omega
      rw [ez] at g4
      by_cases hx : x = 0
      · have hy : ¬ y = 0 := fun e => h0 ⟨hx, e⟩
        have hx' := hx0.symm ▸ hx
        have hy' : ¬ itxt y = [48] := fun e => hy (hy0 ▸ e)
        generalize itxt y = Y at *
        rw [hx'] at m1 g1 g2 d1 p1
        generalize itxt z = Z at *
        generalize cmpN ((Int.gcd x y : Nat) : Int) 0 = q at *
        rw [run_closed (x := x5) rfl rfl rfl rfl]
        simp (maxSteps := 1000000) (disch := omega) only [go_sem, ↓reduceIte, Nat.reduceEqDiff, Nat.reduceAdd, Nat.reduceSub, Nat.reduceMul, Nat.reduceLT, Nat.reduceLeDiff, reduceCtorEq, Nat.succ_ne_self, ne_eq, not_true_eq_false, not_false_eq_true, and_self, and_true, true_and, Nat.zero_add, Nat.sub_zero, Nat.zero_mul, Nat.one_mul, Nat.le_refl, List.getElem?_cons_zero, List.set_cons_zero, Int.reduceToNat, Int.reduceLT, Int.reduceLE, Int.reduceAdd, Int.reduceSub, Int.reduceMul, Int.reduceEq, Int.reduceNe, Int.toNat_natCast, Int.natCast_zero, wrap_id, wrapu_id, wrapb_id, idx_ok, bin_quo, bin_rem, tdiv_id, tmod_id, ps_bptr, x5, sane_run, m1, m2, m3, g1, g2, c1, hc1, hy', d1, d2, g3, p1, p2, p3, g4, c2, hge]
      · have hx' : ¬ itxt x = [48] := fun e => hx (hx0 ▸ e)
        generalize itxt x = X at *
        generalize itxt y = Y at *
        generalize itxt z = Z at *
        generalize cmpN ((Int.gcd x y : Nat) : Int) 0 = q at *
        rw [run_closed (x := x5) rfl rfl rfl rfl]
        simp (maxSteps := 1000000) (disch := omega) only [go_sem, ↓reduceIte, Nat.reduceEqDiff, Nat.reduceAdd, Nat.reduceSub, Nat.reduceMul, Nat.reduceLT, Nat.reduceLeDiff, reduceCtorEq, Nat.succ_ne_self, ne_eq, not_true_eq_false, not_false_eq_true, and_self, and_true, true_and, Nat.zero_add, Nat.sub_zero, Nat.zero_mul, Nat.one_mul, Nat.le_refl, List.getElem?_cons_zero, List.set_cons_zero, Int.reduceToNat, Int.reduceLT, Int.reduceLE, Int.reduceAdd, Int.reduceSub, Int.reduceMul, Int.reduceEq, Int.reduceNe, Int.toNat_natCast, Int.natCast_zero, wrap_id, wrapu_id, wrapb_id, idx_ok, bin_quo, bin_rem, tdiv_id, tmod_id, ps_bptr, x5, sane_run, m1, m2, m3, g1, g2, c1, hc1, hx', d1, d2, g3, p1, p2, p3, g4, c2, hge]
/-! IntegerRoot -/
theorem rootlaw_run {a : List UInt8} (ha : a.length ≤ 9223372036854775807) (h : Heap) (lo : Nat) : (run lib).fn 6 [.str a] h lo = some (.bool true, h) := by
  have m1 : ∀ H lo, (run lib).fn 13 [.str a, .int .i64 80] H lo = some (.str (itxt (madeZ a 80)), H) := made_run (most := 80) (by omega) ha
  have bx : Bd 80 (madeZ a 80) := madeZ_abs a 80
  generalize madeZ a 80 = x at *
  have i1 : itxt 1 = [49] := rfl
  have i0 : itxt 0 = [48] := rfl
  have xf := bx.fit (by omega)
  have sf := (bx.mul bx).fit (by omega)
  have p1 := mul_fit xf xf sf rfl
  have hsq : 0 ≤ x * x := by
    rcases Int.le_total 0 x with h | h
    · exact Int.mul_nonneg h h
    · exact Int.mul_nonneg_of_nonpos_of_nonpos h h
  have r1 := root_fit' sf hsq (r := (x.natAbs : Int)) (by rw [Int.natAbs_mul, rootN_sq])
  have c1 := compare_run xf fit0
  rw [i0] at c1
  by_cases c : x < 0
  · have s1 := add_fit (x := (x.natAbs : Int)) (bx.le (y := (x.natAbs : Int)) (by omega) |>.fit (by omega)) xf fit0 (by omega)
    have hne : ¬ itxt (x.natAbs : Int) = itxt x := str_ne (by omega)
    have r0 := root_neg xf c
    simp only [badT] at r0
    rw [cmp_less c] at c1
    rw [i0] at s1
    rw [run_closed (x := x6) rfl rfl rfl rfl]
    simp (maxSteps := 1000000) (disch := omega) only [go_sem, ↓reduceIte, Nat.reduceEqDiff, Nat.reduceAdd, Nat.reduceSub, Nat.reduceMul, Nat.reduceLT, Nat.reduceLeDiff, reduceCtorEq, Nat.succ_ne_self, ne_eq, not_true_eq_false, not_false_eq_true, and_self, and_true, true_and, Nat.zero_add, Nat.sub_zero, Nat.zero_mul, Nat.one_mul, Nat.le_refl, List.getElem?_cons_zero, List.set_cons_zero, Int.reduceToNat, Int.reduceLT, Int.reduceLE, Int.reduceAdd, Int.reduceSub, Int.reduceMul, Int.reduceEq, Int.reduceNe, Int.toNat_natCast, Int.natCast_zero, wrap_id, wrapu_id, wrapb_id, idx_ok, bin_quo, bin_rem, tdiv_id, tmod_id, ps_bptr, x6, sane_run, m1, p1, r1, s1, hne, r0, c1]
  · have hx : (x.natAbs : Int) = x := by omega
    have s1 := add_fit xf xf ((bx.add bx).fit (by omega)) rfl
    rw [hx] at r1
    have hcc : ¬ cmpN x 0 < 0 := by rw [cmpN_lt]; omega
    have ⟨k1, k2⟩ := rootN_ok x.natAbs
    have hle : rootN x.natAbs ≤ x.natAbs := Nat.le_trans (Nat.le_mul_self _) k1
    have br : Bd 80 (rootN x.natAbs : Nat) := bx.le (by omega)
    have r0 := root_fit' xf (by omega) rfl
    obtain ⟨r, hr⟩ : ∃ r : Int, r = (rootN x.natAbs : Nat) := ⟨_, rfl⟩
    have hk1 : r * r ≤ x := by
      rw [hr, ← Int.natCast_mul]; omega
    have hk2 : x < (r + 1) * (r + 1) := by
      have e : (r + 1) = ((rootN x.natAbs + 1 : Nat) : Int) := by omega
      rw [e, ← Int.natCast_mul]; omega
    rw [← hr] at r0 br
    have b1 : Bd 81 (r + 1) := br.add (show Bd 80 1 by unfold Bd; exact Nat.lt_of_lt_of_le (show (Int.natAbs 1) < 10 ^ 1 by decide) (Nat.pow_le_pow_right (by omega) (by omega)))
    have q1 := mul_fit (br.fit (by omega)) (br.fit (by omega)) ((br.mul br).fit (by omega)) rfl
    have q2 := add_fit (br.fit (by omega)) fit1 (b1.fit (by omega)) rfl
    have q3 := mul_fit (b1.fit (by omega)) (b1.fit (by omega)) ((b1.mul b1).fit (by omega)) rfl
    have c2 := compare_run ((br.mul br).fit (by omega)) xf
    have c3 := compare_run ((b1.mul b1).fit (by omega)) xf
    have hc2 : cmpN (r * r) x ≤ 0 := by
      rcases Int.lt_or_eq_of_le hk1 with g | g
      · rw [cmp_less g]; omega
      · rw [g, cmp_eq]; omega
    have hc3 : 0 < cmpN ((r + 1) * (r + 1)) x := by rw [cmp_more hk2]; omega
    rw [i1] at q2
    generalize cmpN ((r + 1) * (r + 1)) x = w at *
    generalize cmpN (r * r) x = w2 at *
    rw [run_closed (x := x6) rfl rfl rfl rfl]
    simp (maxSteps := 1000000) (disch := omega) only [go_sem, ↓reduceIte, Nat.reduceEqDiff, Nat.reduceAdd, Nat.reduceSub, Nat.reduceMul, Nat.reduceLT, Nat.reduceLeDiff, reduceCtorEq, Nat.succ_ne_self, ne_eq, not_true_eq_false, not_false_eq_true, and_self, and_true, true_and, Nat.zero_add, Nat.sub_zero, Nat.zero_mul, Nat.one_mul, Nat.le_refl, List.getElem?_cons_zero, List.set_cons_zero, Int.reduceToNat, Int.reduceLT, Int.reduceLE, Int.reduceAdd, Int.reduceSub, Int.reduceMul, Int.reduceEq, Int.reduceNe, Int.toNat_natCast, Int.natCast_zero, wrap_id, wrapu_id, wrapb_id, idx_ok, bin_quo, bin_rem, tdiv_id, tmod_id, ps_bptr, x6, sane_run, m1, p1, r1, s1, r0, c1, hcc, q1, q2, q3, c2, c3, hc2, hc3]
theorem walk4 (xs : List AV) (ht : TyA sh4 xs) : ∃ h', (run lib).fn 4 xs [] 0 = some (.bool true, h') := by
  simp only [sh4, TyA] at ht
  obtain ⟨c0, r, rfl, t0, c1, r1, rfl, t1, rfl⟩ := ht
  obtain ⟨a, e0, a1⟩ := str_of' t0
  obtain ⟨b, e1, b1⟩ := str_of' t1
  rw [e0, e1]
  exact ⟨_, divided_run a1 b1 [] 0⟩
theorem walk5 (xs : List AV) (ht : TyA sh3 xs) : ∃ h', (run lib).fn 5 xs [] 0 = some (.bool true, h') := by
  simp only [sh3, TyA] at ht
  obtain ⟨c0, r, rfl, t0, c1, r1, rfl, t1, c2, r2, rfl, t2, rfl⟩ := ht
  obtain ⟨a, e0, a1⟩ := str_of' t0
  obtain ⟨b, e1, b1⟩ := str_of' t1
  obtain ⟨c, e2, c1⟩ := str_of' t2
  rw [e0, e1, e2]
  exact ⟨_, common_run a1 b1 c1 [] 0⟩
theorem walk7 (xs : List AV) (ht : TyA sh3 xs) : ∃ h', (run lib).fn 7 xs [] 0 = some (.bool true, h') := by
  simp only [sh3, TyA] at ht
  obtain ⟨c0, r, rfl, t0, c1, r1, rfl, t1, c2, r2, rfl, t2, rfl⟩ := ht
  obtain ⟨a, e0, a1⟩ := str_of' t0
  obtain ⟨b, e1, b1⟩ := str_of' t1
  obtain ⟨c, e2, c1⟩ := str_of' t2
  rw [e0, e1, e2]
  exact ⟨_, order_run a1 b1 c1 [] 0⟩
def sh6 : List Shp := [.str]
theorem walk6 (xs : List AV) (ht : TyA sh6 xs) : ∃ h', (run lib).fn 6 xs [] 0 = some (.bool true, h') := by
  simp only [sh6, TyA] at ht
  obtain ⟨c0, r, rfl, t0, rfl⟩ := ht
  obtain ⟨a, e0, a1⟩ := str_of' t0
  rw [e0]
  exact ⟨_, rootlaw_run a1 [] 0⟩
end Go.VI.Integer
