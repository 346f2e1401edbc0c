import Derived.Test.YtdlbiebhkminjaaDoorWeekPl
import Derived.Test.YtdlbiebhkminjaaDoorVIU2
namespace Go.VI.Week
set_option linter.unusedVariables false
set_option linter.unusedSimpArgs false

theorem nextS_some {l : List Int} {t n : Int} (d : Nat) : ∀ k : Nat, nextS l t d k = some n → ∃ j, k ≤ j ∧ j < k + d ∧ n = max t ((j : Int) * 3600) ∧ hasS l j = true ∧ ∀ i, k ≤ i → i < j → hasS l i = false := by
  induction d with
  | zero => intro k h; cases h
  | succ d ih =>
    intro k h
    cases hb : hasS l k
    · simp only [nextS, hb, Bool.false_eq_true, if_false] at h
      obtain ⟨j, h1, h2, h3, h4, h5⟩ := ih (k + 1) h
      refine ⟨j, by omega, by omega, h3, h4, fun i g1 g2 => ?_⟩
      by_cases c : i = k
      · rw [c]; exact hb
      · exact h5 i (by omega) g2
    · simp only [nextS, hb, if_true, Option.some.injEq] at h
      exact ⟨k, by omega, by omega, h.symm, hb, fun i g1 g2 => by omega⟩
theorem nextS_none {l : List Int} {t : Int} (d : Nat) : ∀ k : Nat, nextS l t d k = none → ∀ i, k ≤ i → i < k + d → hasS l i = false := by
  induction d with
  | zero => intro k h i g1 g2; omega
  | succ d ih =>
    intro k h
    cases hb : hasS l k
    · simp only [nextS, hb, Bool.false_eq_true, if_false] at h
      intro i g1 g2
      by_cases c : i = k
      · rw [c]; exact hb
      · exact ih (k + 1) h i (by omega) (by omega)
    · simp [nextS, hb] at h
theorem pick_nat (t n : Int) (hn : 0 < n) : ∃ a : Nat, pickS t n = a ∧ (a : Int) < n := ⟨(pickS t n).toNat, by have := pickS_bd (c := t) hn; omega, by have := pickS_bd (c := t) hn; omega⟩
theorem law6 {xs : List Int} (hx : xs.length = 7) (hi : ∀ x ∈ xs, okI x) (t : Int) (ht : okI t) (h : Heap) (lo : Nat) : (run lib).fn 6 [.agg (ints xs), .int .i64 t] h lo = some (.bool true, h) := by
  have m0 := made_run hx hi
  have hl := madeS_len xs
  have hv := madeS_v xs
  obtain ⟨l, hll⟩ : ∃ l, l = madeS xs := ⟨_, rfl⟩
  rw [← hll] at m0 hl hv
  clear hll
  have m1 := fun h lo => pick13 t 10000000 h lo ht (by omega)
  obtain ⟨a, ha, hab⟩ := pick_nat t 10000000 (by omega)
  rw [ha] at m1
  clear ha
  have tl : (ints l).take 7 = ints l := List.take_of_length_le (by simp [hl])
  have hn : 7 ≤ (ints l).length := by simp [hl]
  have tx : (ints xs).take 7 = ints xs := List.take_of_length_le (by simp [hx])
  have m2 := fun h lo => next_run hl hv (a : Int) (by omega) hab h lo
  have ea : ((a : Int) / 3600).toNat = a / 3600 := by omega
  rw [ea] at m2
  rw [run_closed (x := x6) rfl rfl rfl rfl]
  cases hq : nextS l a (2778 - a / 3600) (a / 3600) with
  | none =>
    have hN := nextS_none _ _ hq
    simp only [hq] at m2
    have m3 := fun h lo => seconds_run hl hv (f := (a : Int)) (t := ((10000000 : Nat) : Int)) (by omega) h lo
    have hc : sumP (spells l a ((10000000 : Nat) : Int)) = 0 := by
      rw [seconds_cnt l (by omega), cnt_const (b := false) _ (fun i hi => by unfold at_; exact hN _ (by omega) (by omega))]; rfl
    rw [hc] at m3
    have e7 : (((10000000 : Nat) : Int)) = 10000000 := rfl
    rw [e7] at m3
    simp (maxSteps := 1000000) (disch := omega) only [go_sem, ↓reduceIte, Nat.reduceEqDiff, Nat.reduceAdd, Nat.reduceSub, Nat.reduceMul, Nat.reduceLT, Nat.reduceLeDiff, reduceCtorEq, Nat.succ_ne_self, ne_eq, not_true_eq_false, not_false_eq_true, and_self, and_true, true_and, Nat.zero_add, Nat.sub_zero, Nat.zero_mul, Nat.one_mul, Nat.le_refl, List.getElem?_cons_zero, List.set_cons_zero, Int.reduceToNat, Int.reduceLT, Int.reduceLE, Int.reduceAdd, Int.reduceSub, Int.reduceMul, Int.reduceEq, Int.reduceNe, Int.toNat_natCast, Int.natCast_zero, wrap_id, wrapu_id, wrapb_id, idx_ok, bin_quo, bin_rem, tdiv_id, tmod_id, ps_bptr, x6, sane_run, m0, m1, m2, m3, frzL_ints, tl, hn, tx, hx, hl, splice7 hl, ints_len, List.drop_zero]
  | some n =>
    obtain ⟨j, j1, j2, j3, j4, j5⟩ := nextS_some _ _ hq
    simp only [hq] at m2
    obtain ⟨b, hb⟩ : ∃ b : Nat, n = b := ⟨n.toNat, by omega⟩
    subst hb
    have hb1 : b / 3600 = j := by omega
    have hb2 : a ≤ b := by omega
    have m4 := fun h lo => in_run hl hv (b : Int) h lo
    have e4 : (decide ((0 : Int) ≤ b) && decide ((b : Int) < 10000000) && hasS l ((b : Int) / 3600).toNat) = true := by
      have e5 : ((b : Int) / 3600).toNat = j := by omega
      rw [e5, j4]; simp; omega
    rw [e4] at m4
    have c1 : ¬ (b : Int) < a := by omega
    by_cases c2 : (b : Int) = a
    · obtain rfl : b = a := by omega
      simp (maxSteps := 1000000) (disch := omega) only [go_sem, ↓reduceIte, Nat.reduceEqDiff, Nat.reduceAdd, Nat.reduceSub, Nat.reduceMul, Nat.reduceLT, Nat.reduceLeDiff, reduceCtorEq, Nat.succ_ne_self, ne_eq, not_true_eq_false, not_false_eq_true, and_self, and_true, true_and, Nat.zero_add, Nat.sub_zero, Nat.zero_mul, Nat.one_mul, Nat.le_refl, List.getElem?_cons_zero, List.set_cons_zero, Int.reduceToNat, Int.reduceLT, Int.reduceLE, Int.reduceAdd, Int.reduceSub, Int.reduceMul, Int.reduceEq, Int.reduceNe, Int.toNat_natCast, Int.natCast_zero, wrap_id, wrapu_id, wrapb_id, idx_ok, bin_quo, bin_rem, tdiv_id, tmod_id, ps_bptr, x6, sane_run, m0, m1, m2, m4, c1, eq_self, frzL_ints, tl, hn, tx, hx, hl, splice7 hl, ints_len, List.drop_zero]
    · have m3 := fun h lo => seconds_run hl hv (f := (a : Int)) (t := (b : Int)) (by omega) h lo
      have hc : sumP (spells l a b) = 0 := by
        rw [seconds_cnt l (by omega), cnt_const (b := false) _ (fun i hi => by unfold at_; exact j5 _ (by omega) (by omega))]; rfl
      rw [hc] at m3
      simp (maxSteps := 1000000) (disch := omega) only [go_sem, ↓reduceIte, Nat.reduceEqDiff, Nat.reduceAdd, Nat.reduceSub, Nat.reduceMul, Nat.reduceLT, Nat.reduceLeDiff, reduceCtorEq, Nat.succ_ne_self, ne_eq, not_true_eq_false, not_false_eq_true, and_self, and_true, true_and, Nat.zero_add, Nat.sub_zero, Nat.zero_mul, Nat.one_mul, Nat.le_refl, List.getElem?_cons_zero, List.set_cons_zero, Int.reduceToNat, Int.reduceLT, Int.reduceLE, Int.reduceAdd, Int.reduceSub, Int.reduceMul, Int.reduceEq, Int.reduceNe, Int.toNat_natCast, Int.natCast_zero, wrap_id, wrapu_id, wrapb_id, idx_ok, bin_quo, bin_rem, tdiv_id, tmod_id, ps_bptr, x6, sane_run, m0, m1, m2, m3, m4, c1, c2, frzL_ints, tl, hn, tx, hx, hl, splice7 hl, ints_len, List.drop_zero]
end Go.VI.Week
namespace Go.VI.Week
set_option linter.unusedVariables false
set_option linter.unusedSimpArgs false

def hsum (l : List Int) : Nat → Int
  | 0 => 0
  | n + 1 => hsum l n + if hasS l n then 1 else 0
theorem hsum_bd (l : List Int) (n : Nat) : 0 ≤ hsum l n ∧ hsum l n ≤ n := by
  induction n with
  | zero => simp [hsum]
  | succ n ih => rw [hsum]; split <;> omega
theorem hasS_week (l : List Int) (k : Nat) : hasS l (k + 168) = hasS l k := by
  unfold hasS
  have e1 : (k + 168) / 24 % 7 = k / 24 % 7 := by omega
  have e2 : (k + 168) % 24 = k % 24 := by omega
  rw [e1, e2]
theorem at_week (l : List Int) (x : Nat) : at_ l (x + 604800) = at_ l x := by
  unfold at_
  have e : (x + 604800) / 3600 = x / 3600 + 168 := by omega
  rw [e, hasS_week]
theorem cnt_shift (l : List Int) (u : Nat) : cnt l u 604800 = cnt l 0 604800 := by
  induction u with
  | zero => rfl
  | succ u ih =>
    have h1 := cnt_add l u 1 604800
    have h2 := cnt_add l u 604800 1
    have e : 1 + 604800 = 604800 + 1 := Nat.add_comm _ _
    rw [e] at h1
    have h3 : cnt l (u + 604800) 1 = cnt l u 1 := by
      show cnt l (u + 604800) 0 + (if at_ l (u + 604800 + 0) then 1 else 0) = cnt l u 0 + if at_ l (u + 0) then 1 else 0
      rw [Nat.add_zero, Nat.add_zero, at_week]; rfl
    rw [h3] at h2
    clear e
    generalize 604800 = N at *
    omega
theorem cnt_hours (l : List Int) (n : Nat) : cnt l 0 (n * 3600) = 3600 * hsum l n := by
  induction n with
  | zero => rfl
  | succ n ih =>
    have e : cnt l (0 + n * 3600) 3600 = if hasS l n then ((3600 : Nat) : Int) else 0 := cnt_const 3600 (fun i hi => by
      unfold at_
      have e : (0 + n * 3600 + i) / 3600 = n := by omega
      rw [e])
    rw [Nat.add_mul, Nat.one_mul, cnt_add, ih, e, hsum]
    split <;> omega
theorem later_in {l : List Int} (hl : l.length = 7) (hv : vW l = true) (h : Heap) (a : AV) (u : AV) (i : Nat) (hi : i < 7) (d : Nat) : ∀ k : Nat, k + d = 24 →
    runC lib ⟨h.length, h.length, 1, none⟩ (.loop b7_1) ([(5, a), (6, .bptr (h.length + 0) 1 0), (7, u), (8, .int .i64 (hsum l (24 * i + k))), (9, .int .i64 i), (10, .int .i64 k)], h ++ [(1, .box (ints l))]) =
      some (.exit 2, ([(5, a), (6, .bptr (h.length + 0) 1 0), (7, u), (8, .int .i64 (hsum l (24 * i + 24))), (9, .int .i64 i)], h ++ [(1, .box (ints l))])) := by
  induction d with
  | zero =>
    intro k hk
    obtain rfl : k = 24 := by omega
    have c1 : ¬ (((24 : Nat) : Int) < 24) := by omega
    rw [w_loop]
    simp (maxSteps := 1000000) (disch := omega) only [go_sem, ↓reduceIte, Nat.reduceEqDiff, Nat.reduceAdd, Nat.reduceSub, Nat.reduceMul, Nat.reduceLT, Nat.reduceLeDiff, reduceCtorEq, Nat.succ_ne_self, ne_eq, not_true_eq_false, not_false_eq_true, and_self, and_true, true_and, Nat.zero_add, Nat.sub_zero, Nat.zero_mul, Nat.one_mul, Nat.le_refl, List.getElem?_cons_zero, List.set_cons_zero, Int.reduceToNat, Int.reduceLT, Int.reduceLE, Int.reduceAdd, Int.reduceSub, Int.reduceMul, Int.reduceEq, Int.reduceNe, Int.toNat_natCast, Int.natCast_zero, wrap_id, wrapu_id, wrapb_id, idx_ok, bin_quo, bin_rem, tdiv_id, tmod_id, ps_bptr, c1]
  | succ d ih =>
    intro k hk
    have c1 : (k : Int) < 24 := by omega
    have e := ih (k + 1) (by omega)
    have hdr := ints_drop l i (by omega)
    have hxx := vW_iff.mp hv l[i] (List.getElem_mem _)
    have hg : l.getD i 0 = l[i] := by rw [List.getD_eq_getElem?_getD, List.getElem?_eq_getElem (by omega)]; rfl
    have hb := hsum_bd l (24 * i + k)
    have hs : hsum l (24 * i + (k + 1)) = hsum l (24 * i + k) + if hasS l (24 * i + k) then 1 else 0 := rfl
    have hh : hasS l (24 * i + k) = l[i].toNat.testBit k := by
      unfold hasS
      have e1 : (24 * i + k) / 24 % 7 = i := by omega
      have e2 : (24 * i + k) % 24 = k := by omega
      rw [e1, e2, hg]
    rw [hs, hh, cast1] at e
    clear hs hh
    obtain ⟨x, hxe⟩ : ∃ x, x = l[i] := ⟨_, rfl⟩
    rw [← hxe] at hdr hxx e
    obtain ⟨s, hse⟩ : ∃ s, s = hsum l (24 * i + k) := ⟨_, rfl⟩
    rw [← hse] at hb e ⊢
    obtain ⟨y, hy⟩ : ∃ y, y = x.toNat / 2 ^ k := ⟨_, rfl⟩
    have hle : y ≤ x.toNat := hy ▸ Nat.div_le_self _ _
    have hm : min ((k : Int)).toNat IntKind.i64.bits = k := by simp [IntKind.bits]; omega
    have e1 : binv .shr (.int .i64 x) (.int .i64 k) = some (.int .i64 (y : Int)) := by
      rw [bin_shr (by omega), hm, hy, Int.natCast_ediv, Int.toNat_of_nonneg hxx.1]; simp
    have e3 : (if x.toNat.testBit k then (1 : Int) else 0) = (y : Int) % 2 := by
      rw [Nat.testBit_eq_decide_div_mod_eq, ← hy]
      by_cases c : y % 2 = 1
      · simp [c]; omega
      · simp [c]; omega
    rw [e3] at e
    rw [w_loop]
    simp (maxSteps := 1000000) (disch := omega) only [go_sem, ↓reduceIte, Nat.reduceEqDiff, Nat.reduceAdd, Nat.reduceSub, Nat.reduceMul, Nat.reduceLT, Nat.reduceLeDiff, reduceCtorEq, Nat.succ_ne_self, ne_eq, not_true_eq_false, not_false_eq_true, and_self, and_true, true_and, Nat.zero_add, Nat.sub_zero, Nat.zero_mul, Nat.one_mul, Nat.le_refl, List.getElem?_cons_zero, List.set_cons_zero, Int.reduceToNat, Int.reduceLT, Int.reduceLE, Int.reduceAdd, Int.reduceSub, Int.reduceMul, Int.reduceEq, Int.reduceNe, Int.toNat_natCast, Int.natCast_zero, wrap_id, wrapu_id, wrapb_id, idx_ok, bin_quo, bin_rem, tdiv_id, tmod_id, ps_bptr, c1, hdr, e1, e, Nat.mul_one]
theorem later_out {l : List Int} (hl : l.length = 7) (hv : vW l = true) (h : Heap) (a : AV) (u : AV) (d : Nat) : ∀ i : Nat, i + d = 7 →
    runC lib ⟨h.length, h.length, 1, none⟩ (.loop b7_0) ([(5, a), (6, .bptr (h.length + 0) 1 0), (7, u), (8, .int .i64 (hsum l (24 * i))), (9, .int .i64 i)], h ++ [(1, .box (ints l))]) =
      some (.exit 0, ([(5, a), (6, .bptr (h.length + 0) 1 0), (7, u), (8, .int .i64 (hsum l 168))], h ++ [(1, .box (ints l))])) := by
  induction d with
  | zero =>
    intro i hk
    obtain rfl : i = 7 := by omega
    have c1 : ¬ (((7 : Nat) : Int) < 7) := by omega
    rw [w_loop]
    simp (maxSteps := 1000000) (disch := omega) only [go_sem, ↓reduceIte, Nat.reduceEqDiff, Nat.reduceAdd, Nat.reduceSub, Nat.reduceMul, Nat.reduceLT, Nat.reduceLeDiff, reduceCtorEq, Nat.succ_ne_self, ne_eq, not_true_eq_false, not_false_eq_true, and_self, and_true, true_and, Nat.zero_add, Nat.sub_zero, Nat.zero_mul, Nat.one_mul, Nat.le_refl, List.getElem?_cons_zero, List.set_cons_zero, Int.reduceToNat, Int.reduceLT, Int.reduceLE, Int.reduceAdd, Int.reduceSub, Int.reduceMul, Int.reduceEq, Int.reduceNe, Int.toNat_natCast, Int.natCast_zero, wrap_id, wrapu_id, wrapb_id, idx_ok, bin_quo, bin_rem, tdiv_id, tmod_id, ps_bptr, c1]
  | succ d ih =>
    intro i hk
    have c1 : (i : Int) < 7 := by omega
    have e := ih (i + 1) (by omega)
    have e0 := later_in hl hv h a u i (by omega) 24 0 (by omega)
    rw [show 24 * i + 0 = 24 * i from rfl] at e0
    have e2 : 24 * (i + 1) = 24 * i + 24 := by omega
    rw [cast1, e2] at e
    simp only [Int.natCast_zero] at e0
    rw [w_loop]
    simp (maxSteps := 1000000) (disch := omega) only [go_sem, ↓reduceIte, Nat.reduceEqDiff, Nat.reduceAdd, Nat.reduceSub, Nat.reduceMul, Nat.reduceLT, Nat.reduceLeDiff, reduceCtorEq, Nat.succ_ne_self, ne_eq, not_true_eq_false, not_false_eq_true, and_self, and_true, true_and, Nat.zero_add, Nat.sub_zero, Nat.zero_mul, Nat.one_mul, Nat.le_refl, List.getElem?_cons_zero, List.set_cons_zero, Int.reduceToNat, Int.reduceLT, Int.reduceLE, Int.reduceAdd, Int.reduceSub, Int.reduceMul, Int.reduceEq, Int.reduceNe, Int.toNat_natCast, Int.natCast_zero, wrap_id, wrapu_id, wrapb_id, idx_ok, bin_quo, bin_rem, tdiv_id, tmod_id, ps_bptr, c1, e0, e]
theorem law7 {xs : List Int} (hx : xs.length = 7) (hi : ∀ x ∈ xs, okI x) (t : Int) (ht : okI t) (h : Heap) (lo : Nat) : (run lib).fn 7 [.agg (ints xs), .int .i64 t] h lo = some (.bool true, h) := by
  have m0 := made_run hx hi
  have hl := madeS_len xs
  have hv := madeS_v xs
  obtain ⟨l, hll⟩ : ∃ l, l = madeS xs := ⟨_, rfl⟩
  rw [← hll] at m0 hl hv
  clear hll
  have m1 := fun h lo => pick13 t 9395200 h lo ht (by omega)
  obtain ⟨a, ha, hab⟩ := pick_nat t 9395200 (by omega)
  rw [ha] at m1
  clear ha
  have tl : (ints l).take 7 = ints l := List.take_of_length_le (by simp [hl])
  have hn : 7 ≤ (ints l).length := by simp [hl]
  have tx : (ints xs).take 7 = ints xs := List.take_of_length_le (by simp [hx])
  have m2 := later_out hl hv h (.bool true) (.int .i64 a) 7 0 (by omega)
  have hz : hsum l (24 * 0) = 0 := rfl
  rw [hz] at m2
  simp only [Int.natCast_zero] at m2
  have m3 := fun h lo => seconds_run hl hv (f := (a : Int)) (t := (a : Int) + 604800) (by omega) h lo
  have ec : (a : Int) + 604800 = ((a + 604800 : Nat) : Int) := by omega
  have hc : sumP (spells l a ((a : Int) + 604800)) = hsum l 168 * 3600 := by
    rw [ec, seconds_cnt l (by omega), Nat.add_sub_cancel_left, cnt_shift]
    have := cnt_hours l 168
    rw [show 168 * 3600 = 604800 from rfl] at this
    rw [this, Int.mul_comm]
  rw [hc] at m3
  have hb := hsum_bd l 168
  have m4 := fun h lo => in_run hl hv (a : Int) h lo
  have m5 := fun h lo => in_run hl hv ((a : Int) + 604800) h lo
  have e4 : (decide ((0 : Int) ≤ a) && decide ((a : Int) < 10000000) && hasS l ((a : Int) / 3600).toNat) = at_ l a := by
    have e1 : decide ((0 : Int) ≤ a) = true := by simp
    have e2 : decide ((a : Int) < 10000000) = true := by simp; omega
    have e3 : ((a : Int) / 3600).toNat = a / 3600 := by omega
    rw [e1, e2, e3, Bool.true_and, Bool.true_and, at_]
  have e5 : (decide ((0 : Int) ≤ (a : Int) + 604800) && decide ((a : Int) + 604800 < 10000000) && hasS l (((a : Int) + 604800) / 3600).toNat) = at_ l a := by
    have e1 : decide ((0 : Int) ≤ (a : Int) + 604800) = true := by simp; omega
    have e2 : decide ((a : Int) + 604800 < 10000000) = true := by simp; omega
    have e3 : (((a : Int) + 604800) / 3600).toNat = (a + 604800) / 3600 := by omega
    rw [e1, e2, e3, ← at_week, Bool.true_and, Bool.true_and, at_]
  rw [e4] at m4
  rw [e5] at m5
  obtain ⟨s, hs⟩ : ∃ s, s = hsum l 168 := ⟨_, rfl⟩
  rw [← hs] at m2 m3 hb
  rw [run_closed (x := x7) rfl rfl rfl rfl]
  simp (maxSteps := 1000000) (disch := omega) only [go_sem, ↓reduceIte, Nat.reduceEqDiff, Nat.reduceAdd, Nat.reduceSub, Nat.reduceMul, Nat.reduceLT, Nat.reduceLeDiff, reduceCtorEq, Nat.succ_ne_self, ne_eq, not_true_eq_false, not_false_eq_true, and_self, and_true, true_and, Nat.zero_add, Nat.sub_zero, Nat.zero_mul, Nat.one_mul, Nat.le_refl, List.getElem?_cons_zero, List.set_cons_zero, Int.reduceToNat, Int.reduceLT, Int.reduceLE, Int.reduceAdd, Int.reduceSub, Int.reduceMul, Int.reduceEq, Int.reduceNe, Int.toNat_natCast, Int.natCast_zero, wrap_id, wrapu_id, wrapb_id, idx_ok, bin_quo, bin_rem, tdiv_id, tmod_id, ps_bptr, x7, sane_run, m0, m1, m2, m3, m4, m5, eq_self, beq_self_eq_true, frzL_ints, tl, hn, tx, hx, hl, splice7 hl, ints_len, List.drop_zero]
end Go.VI.Week
namespace Go.VI.Week
set_option linter.unusedVariables false
set_option linter.unusedSimpArgs false

theorem getD_map (f : Int → Int) (l : List Int) (d : Nat) (h : d < l.length) : (l.map f).getD d 0 = f (l.getD d 0) := by
  rw [List.getD_eq_getElem?_getD, List.getD_eq_getElem?_getD, List.getElem?_eq_getElem (by simpa using h), List.getElem?_eq_getElem h]
  simp
theorem hasS_not {l : List Int} (hl : l.length = 7) (k : Nat) : hasS (notS l) k = !hasS l k := by
  unfold hasS notS
  rw [getD_map _ _ _ (by omega), Int.toNat_natCast, Nat.testBit_xor]
  have e : (16777215 : Nat).testBit (k % 24) = true := by
    have := Nat.testBit_two_pow_sub_one 24 (k % 24)
    rw [show 2 ^ 24 - 1 = 16777215 from rfl] at this
    rw [this]; simp; omega
  rw [e, Bool.xor_true]
theorem vW_not {l : List Int} (hv : vW l = true) : vW (notS l) = true := by
  rw [vW_iff] at hv ⊢
  intro x hx
  simp only [notS, List.mem_map] at hx
  obtain ⟨y, hy, rfl⟩ := hx
  have := hv y hy
  have h2 : y.toNat ^^^ 16777215 < 2 ^ 24 := Nat.xor_lt_two_pow (by omega) (by omega)
  omega
theorem cnt_not {l : List Int} (hl : l.length = 7) (a n : Nat) : cnt l a n + cnt (notS l) a n = n := by
  induction n with
  | zero => simp [cnt]
  | succ n ih =>
    simp only [cnt, at_, hasS_not hl]
    by_cases hb : hasS l ((a + n) / 3600) = true
    · simp [hb]; omega
    · rw [Bool.not_eq_true] at hb; simp [hb]; omega
theorem law5 {xs : List Int} (hx : xs.length = 7) (hi : ∀ x ∈ xs, okI x) (f t c : Int) (hf : okI f) (ht : okI t) (hc : okI c) (h : Heap) (lo : Nat) : (run lib).fn 5 [.agg (ints xs), .int .i64 f, .int .i64 t, .int .i64 c] h lo = some (.bool true, h) := by
  have m0 := made_run hx hi
  have hl := madeS_len xs
  have hv := madeS_v xs
  obtain ⟨l, hll⟩ : ∃ l, l = madeS xs := ⟨_, rfl⟩
  rw [← hll] at m0 hl hv
  clear hll
  have m1 := spell_run f t hf ht
  obtain ⟨a, ha, hab⟩ := pick_nat f 10000000 (by omega)
  rw [ha] at m1
  obtain ⟨b', hb, hbb⟩ := pick_nat t (10000000 - a) (by omega)
  rw [hb] at m1
  obtain ⟨b, hbe⟩ : ∃ b : Nat, b = a + 1 + b' := ⟨_, rfl⟩
  have hbe2 : (a : Int) + 1 + b' = (b : Int) := by omega
  rw [hbe2] at m1
  have hlt : a < b := by omega
  have hle : b ≤ 10000000 := by omega
  clear ha hb hbe2
  have hr : (notS l).length = 7 := by simp [notS, hl]
  have m2 := fun h lo => seconds_run hl hv (f := (a : Int)) (t := (b : Int)) (by omega) h lo
  have m3 := fun h lo => seconds_run hr (vW_not hv) (f := (a : Int)) (t := (b : Int)) (by omega) h lo
  rw [seconds_cnt l hlt] at m2
  rw [seconds_cnt (notS l) hlt] at m3
  have m4 := not_run hl hv
  have hcn := cnt_not hl a (b - a)
  obtain ⟨n, hn1⟩ : ∃ n, n = cnt l a (b - a) := ⟨_, rfl⟩
  obtain ⟨m, hm1⟩ : ∃ m, m = cnt (notS l) a (b - a) := ⟨_, rfl⟩
  have b1 := cnt_nn l a (b - a)
  have b2 := cnt_nn (notS l) a (b - a)
  rw [← hn1] at m2 hcn b1
  rw [← hm1] at m3 hcn b2
  have c1 : n + m = (b : Int) - a := by omega
  have tl : (ints l).take 7 = ints l := List.take_of_length_le (by simp [hl])
  have hn : 7 ≤ (ints l).length := by simp [hl]
  have tr : (ints (notS l)).take 7 = ints (notS l) := List.take_of_length_le (by simp [hr])
  have tx : (ints xs).take 7 = ints xs := List.take_of_length_le (by simp [hx])
  have w1 : IntKind.i64.wrap (n + m) = n + m := wrap_id (by omega) (by omega)
  by_cases c2 : (b : Int) - a < 2
  · rw [run_closed (x := x5) rfl rfl rfl rfl]
    simp (maxSteps := 1000000) (disch := omega) only [go_sem, ↓reduceIte, Nat.reduceEqDiff, Nat.reduceAdd, Nat.reduceSub, Nat.reduceMul, Nat.reduceLT, Nat.reduceLeDiff, reduceCtorEq, Nat.succ_ne_self, ne_eq, not_true_eq_false, not_false_eq_true, and_self, and_true, true_and, Nat.zero_add, Nat.sub_zero, Nat.zero_mul, Nat.one_mul, Nat.le_refl, List.getElem?_cons_zero, List.set_cons_zero, Int.reduceToNat, Int.reduceLT, Int.reduceLE, Int.reduceAdd, Int.reduceSub, Int.reduceMul, Int.reduceEq, Int.reduceNe, Int.toNat_natCast, Int.natCast_zero, wrap_id, wrapu_id, wrapb_id, idx_ok, bin_quo, bin_rem, tdiv_id, tmod_id, ps_bptr, x5, sane_run, m0, m1, m2, m3, m4, w1, c1, c2, eq_self, frzL_ints, tl, hn, tr, tx, hx, hl, hr, splice7 hl, splice7 hr, ints_len, List.drop_zero]
  · have m5 := fun h lo => pick13 c ((b : Int) - a - 1) h lo hc (by omega)
    obtain ⟨q, hq, hqq⟩ := pick_nat c ((b : Int) - a - 1) (by omega)
    rw [hq] at m5
    clear hq
    have e1 : (a : Int) + 1 + q = ((a + 1 + q : Nat) : Int) := by omega
    obtain ⟨p, hp⟩ : ∃ p, p = a + 1 + q := ⟨_, rfl⟩
    rw [← hp] at e1
    have m6 := fun h lo => seconds_run hl hv (f := (a : Int)) (t := (p : Int)) (by omega) h lo
    have m7 := fun h lo => seconds_run hl hv (f := (p : Int)) (t := (b : Int)) (by omega) h lo
    rw [seconds_cnt l (by omega)] at m6
    rw [seconds_cnt l (by omega)] at m7
    have hs := cnt_add l a (p - a) (b - p)
    have hs1 : p - a + (b - p) = b - a := by omega
    have hs2 : a + (p - a) = p := by omega
    rw [hs1, hs2, ← hn1] at hs
    have b3 := cnt_nn l a (p - a)
    have b4 := cnt_nn l p (b - p)
    obtain ⟨u, hu⟩ : ∃ u, u = cnt l a (p - a) := ⟨_, rfl⟩
    obtain ⟨v, hvv⟩ : ∃ v, v = cnt l p (b - p) := ⟨_, rfl⟩
    rw [← hu] at m6 hs b3
    rw [← hvv] at m7 hs b4
    have c3 : u + v = n := hs.symm
    rw [run_closed (x := x5) rfl rfl rfl rfl]
    simp (maxSteps := 1000000) (disch := omega) only [go_sem, ↓reduceIte, Nat.reduceEqDiff, Nat.reduceAdd, Nat.reduceSub, Nat.reduceMul, Nat.reduceLT, Nat.reduceLeDiff, reduceCtorEq, Nat.succ_ne_self, ne_eq, not_true_eq_false, not_false_eq_true, and_self, and_true, true_and, Nat.zero_add, Nat.sub_zero, Nat.zero_mul, Nat.one_mul, Nat.le_refl, List.getElem?_cons_zero, List.set_cons_zero, Int.reduceToNat, Int.reduceLT, Int.reduceLE, Int.reduceAdd, Int.reduceSub, Int.reduceMul, Int.reduceEq, Int.reduceNe, Int.toNat_natCast, Int.natCast_zero, wrap_id, wrapu_id, wrapb_id, idx_ok, bin_quo, bin_rem, tdiv_id, tmod_id, ps_bptr, x5, sane_run, m0, m1, m2, m3, m4, m5, e1, m6, m7, w1, c1, c2, c3, eq_self, frzL_ints, tl, hn, tr, tx, hx, hl, hr, splice7 hl, splice7 hr, ints_len, List.drop_zero]
end Go.VI.Week
namespace Go.VI.Week
set_option linter.unusedVariables false
set_option linter.unusedSimpArgs false

theorem zip_get (f : Int → Int → Int) (a b : List Int) (d : Nat) (ha : d < a.length) (hb : d < b.length) : (List.zipWith f a b).getD d 0 = f (a.getD d 0) (b.getD d 0) := by
  rw [List.getD_eq_getElem?_getD, List.getD_eq_getElem?_getD, List.getD_eq_getElem?_getD, List.getElem?_eq_getElem (by simp; omega), List.getElem?_eq_getElem ha, List.getElem?_eq_getElem hb]
  simp
theorem hasS_and {a b : List Int} (ha : a.length = 7) (hb : b.length = 7) (k : Nat) : hasS (andS a b) k = (hasS a k && hasS b k) := by
  unfold hasS andS
  rw [zip_get _ _ _ _ (by omega) (by omega), Int.toNat_natCast, Nat.testBit_and]
theorem hasS_or {a b : List Int} (ha : a.length = 7) (hb : b.length = 7) (k : Nat) : hasS (orS a b) k = (hasS a k || hasS b k) := by
  unfold hasS orS
  rw [zip_get _ _ _ _ (by omega) (by omega), Int.toNat_natCast, Nat.testBit_or]
theorem andS_len {a b : List Int} (ha : a.length = 7) (hb : b.length = 7) : (andS a b).length = 7 := by simp [andS, ha, hb]
theorem orS_len {a b : List Int} (ha : a.length = 7) (hb : b.length = 7) : (orS a b).length = 7 := by simp [orS, ha, hb]
theorem mem_zip {f : Int → Int → Int} {a b : List Int} {x : Int} (h : x ∈ List.zipWith f a b) : ∃ y ∈ a, ∃ z ∈ b, x = f y z := by
  obtain ⟨i, hi, rfl⟩ := List.getElem_of_mem h
  simp only [List.length_zipWith] at hi
  exact ⟨a[i], List.getElem_mem _, b[i], List.getElem_mem _, by simp⟩
theorem vW_and {a b : List Int} (ha : vW a = true) (hb : vW b = true) : vW (andS a b) = true := by
  rw [vW_iff] at ha hb ⊢
  intro x hx
  obtain ⟨y, hy, z, hz, rfl⟩ := mem_zip hx
  have h1 := ha y hy
  have h2 : y.toNat &&& z.toNat ≤ y.toNat := Nat.and_le_left
  omega
theorem vW_or {a b : List Int} (ha : vW a = true) (hb : vW b = true) : vW (orS a b) = true := by
  rw [vW_iff] at ha hb ⊢
  intro x hx
  obtain ⟨y, hy, z, hz, rfl⟩ := mem_zip hx
  have h1 := ha y hy
  have h3 := hb z hz
  have h2 : y.toNat ||| z.toNat < 2 ^ 24 := Nat.or_lt_two_pow (by omega) (by omega)
  omega
theorem law_dist {a b c : List Int} (ha : a.length = 7) (hb : b.length = 7) (hc : c.length = 7) : andS a (orS b c) = orS (andS a b) (andS a c) := by
  refine List.ext_getElem (by simp [andS, orS, ha, hb, hc]) fun i h1 h2 => ?_
  simp only [andS, orS, List.getElem_zipWith, Int.toNat_natCast]
  rw [Nat.and_or_distrib_left]
theorem law_back {a : List Int} (hv : vW a = true) : notS (notS a) = a := by
  refine List.ext_getElem (by simp [notS]) fun i h1 h2 => ?_
  have := vW_iff.mp hv a[i] (List.getElem_mem _)
  simp only [notS, List.getElem_map, Int.toNat_natCast]
  rw [Nat.xor_assoc, Nat.xor_self, Nat.xor_zero]
  omega
theorem morgan {x y : Nat} (hx : x < 2 ^ 24) (hy : y < 2 ^ 24) : (x &&& y) ^^^ 16777215 = (x ^^^ 16777215) ||| (y ^^^ 16777215) := by
  refine Nat.eq_of_testBit_eq fun i => ?_
  have e := Nat.testBit_two_pow_sub_one 24 i
  rw [show 2 ^ 24 - 1 = 16777215 from rfl] at e
  rw [Nat.testBit_xor, Nat.testBit_and, Nat.testBit_or, Nat.testBit_xor, Nat.testBit_xor, e]
  by_cases c : i < 24
  · rw [decide_eq_true c]
    cases x.testBit i <;> cases y.testBit i <;> rfl
  · have f1 : x.testBit i = false := Nat.testBit_lt_two_pow (Nat.lt_of_lt_of_le hx (Nat.pow_le_pow_right (by omega) (by omega)))
    have f2 : y.testBit i = false := Nat.testBit_lt_two_pow (Nat.lt_of_lt_of_le hy (Nat.pow_le_pow_right (by omega) (by omega)))
    rw [decide_eq_false c, f1, f2]; rfl
theorem law_nots {a b : List Int} (ha : a.length = 7) (hb : b.length = 7) (hv : vW a = true) (hw : vW b = true) : notS (andS a b) = orS (notS a) (notS b) := by
  refine List.ext_getElem (by simp [notS, andS, orS, ha, hb]) fun i h1 h2 => ?_
  simp only [notS, andS, orS, List.getElem_map, List.getElem_zipWith, Int.toNat_natCast]
  have l1 : i < a.length := by simp [notS, andS] at h1; omega
  have l2 : i < b.length := by simp [notS, andS] at h1; omega
  have g1 := vW_iff.mp hv a[i] (List.getElem_mem _)
  have g2 := vW_iff.mp hw b[i] (List.getElem_mem _)
  rw [morgan (by omega) (by omega)]
theorem eqv7 (l : List Int) (hl : l.length = 7) : eqvv false [.i .i64, .i .i64, .i .i64, .i .i64, .i .i64, .i .i64, .i .i64] (.agg (ints l)) (.agg (ints l)) = some (.bool true) := by
  match l, hl with
  | [a, b, c, d, e, f, g], _ => simp [ints, eqvv, okKs, eqL, eq1, AV.kd]
theorem in_get (l : List Int) {u : Nat} (hu : (u : Int) < 10000000) : (decide ((0 : Int) ≤ u) && decide ((u : Int) < 10000000) && hasS l ((u : Int) / 3600).toNat) = hasS l (u / 3600) := by
  have e3 : ((u : Int) / 3600).toNat = u / 3600 := by omega
  rw [e3, decide_eq_true hu, decide_eq_true (Int.natCast_nonneg u), Bool.true_and, Bool.true_and]
set_option maxHeartbeats 4000000 in
theorem law8 {xs ys zs : List Int} (hx : xs.length = 7) (hi : ∀ x ∈ xs, okI x) (hy : ys.length = 7) (hj : ∀ x ∈ ys, okI x) (hz : zs.length = 7) (hk : ∀ x ∈ zs, okI x) (t : Int) (ht : okI t) (h : Heap) (lo : Nat) :
    (run lib).fn 8 [.agg (ints xs), .agg (ints ys), .agg (ints zs), .int .i64 t] h lo = some (.bool true, h) := by
  have ma := made_run hx hi
  have mb := made_run hy hj
  have mc := made_run hz hk
  have la := madeS_len xs
  have va := madeS_v xs
  have lb := madeS_len ys
  have vb := madeS_v ys
  have lc := madeS_len zs
  have vc := madeS_v zs
  obtain ⟨a, ea⟩ : ∃ a, a = madeS xs := ⟨_, rfl⟩
  obtain ⟨b, eb⟩ : ∃ b, b = madeS ys := ⟨_, rfl⟩
  obtain ⟨c, ec⟩ : ∃ c, c = madeS zs := ⟨_, rfl⟩
  rw [← ea] at ma la va
  rw [← eb] at mb lb vb
  rw [← ec] at mc lc vc
  clear ea eb ec
  have m1 := fun h lo => pick13 t 10000000 h lo ht (by omega)
  obtain ⟨u, hu, huu⟩ := pick_nat t 10000000 (by omega)
  rw [hu] at m1
  clear hu
  have n1 : (notS a).length = 7 := by rw [notS_len, la]
  have n2 : (notS b).length = 7 := by rw [notS_len, lb]
  have b1 := andS_len la lb
  have o1 := orS_len la lb
  have o2 := orS_len lb lc
  have b2 := andS_len la o2
  have b3 := andS_len la lc
  have o3 := orS_len b1 b3
  have n3 : (notS (notS a)).length = 7 := by rw [notS_len, n1]
  have n4 : (notS (andS a b)).length = 7 := by rw [notS_len, b1]
  have o4 := orS_len n1 n2
  have vn1 := vW_not va
  have vn2 := vW_not vb
  have vb1 := vW_and va vb
  have vo1 := vW_or va vb
  have vo2 := vW_or vb vc
  have vb3 := vW_and va vc
  have r1 := and_run la lb va vb
  have r2 := or_run la lb va vb
  have r3 := not_run la va
  have r4 := or_run lb lc vb vc
  have r5 := and_run la o2 va vo2
  have r6 := and_run la lc va vc
  have r7 := or_run b1 b3 vb1 vb3
  have r8 := not_run n1 vn1
  have r9 := not_run b1 vb1
  have r10 := not_run lb vb
  have r11 := or_run n1 n2 vn1 vn2
  have i1 := fun h lo => in_run la va (u : Int) h lo
  have i2 := fun h lo => in_run lb vb (u : Int) h lo
  have i3 := fun h lo => in_run b1 vb1 (u : Int) h lo
  have i4 := fun h lo => in_run o1 vo1 (u : Int) h lo
  have i5 := fun h lo => in_run n1 vn1 (u : Int) h lo
  rw [in_get a huu] at i1
  rw [in_get b huu] at i2
  rw [in_get (andS a b) huu, hasS_and la lb] at i3
  rw [in_get (orS a b) huu, hasS_or la lb] at i4
  rw [in_get (notS a) huu, hasS_not la] at i5
  have d1 := law_dist la lb lc
  have d2 := law_back va
  have d3 := law_nots la lb va vb
  rw [d2] at r8 n3
  rw [d3] at r9 n4
  rw [d1] at r5 b2
  have q1 := eqv7 a la
  have q2 := eqv7 _ o3
  have q3 := eqv7 _ o4
  clear d1 d2 d3 va vb vc vn1 vn2 vb1 vo1 vo2 vb3
  obtain ⟨p, hp⟩ : ∃ p, p = hasS a (u / 3600) := ⟨_, rfl⟩
  obtain ⟨q, hq⟩ : ∃ q, q = hasS b (u / 3600) := ⟨_, rfl⟩
  rw [← hp] at i1 i3 i4 i5
  rw [← hq] at i2 i3 i4
  clear hp hq
  have tt : ∀ l : List Int, l.length = 7 → (ints l).take 7 = ints l := fun l hl => List.take_of_length_le (by simp [hl])
  have nn : ∀ l : List Int, l.length = 7 → 7 ≤ (ints l).length := fun l hl => by simp [hl]
  have tx := tt xs hx
  have ty := tt ys hy
  have tz := tt zs hz
  have ta := tt a la
  have tb := tt b lb
  have tc := tt c lc
  have t1 := tt _ n1
  have t2 := tt _ n2
  have t3 := tt _ b1
  have t4 := tt _ o1
  have t5 := tt _ o2
  have t6 := tt _ b3
  have t7 := tt _ o3
  have t8 := tt _ o4
  have w1 : (true == false) = false := rfl
  have w2 : (false == true) = false := rfl
  cases p <;> cases q <;> simp only [Bool.and_true, Bool.and_false, Bool.or_true, Bool.or_false, Bool.not_true, Bool.not_false] at i3 i4 i5 <;> rw [run_closed (x := x8) rfl rfl rfl rfl] <;>
  simp (maxSteps := 1000000) (disch := omega) only [go_sem, ↓reduceIte, Nat.reduceEqDiff, Nat.reduceAdd, Nat.reduceSub, Nat.reduceMul, Nat.reduceLT, Nat.reduceLeDiff, reduceCtorEq, Nat.succ_ne_self, ne_eq, not_true_eq_false, not_false_eq_true, and_self, and_true, true_and, Nat.zero_add, Nat.sub_zero, Nat.zero_mul, Nat.one_mul, Nat.le_refl, List.getElem?_cons_zero, List.set_cons_zero, Int.reduceToNat, Int.reduceLT, Int.reduceLE, Int.reduceAdd, Int.reduceSub, Int.reduceMul, Int.reduceEq, Int.reduceNe, Int.toNat_natCast, Int.natCast_zero, wrap_id, wrapu_id, wrapb_id, idx_ok, bin_quo, bin_rem, tdiv_id, tmod_id, ps_bptr, x8, sane_run, ma, mb, mc, m1, r1, r2, r3, r4, r5, r6, r7, r8, r9, r10, r11, i1, i2, i3, i4, i5, q1, q2, q3, tx, ty, tz, ta, tb, tc, t1, t2, t3, t4, t5, t6, t7, t8, hx, hy, hz, la, lb, lc, n1, n2, b1, o1, o2, b3, o3, o4, splice7 la, splice7 lb, splice7 lc, splice7 n1, splice7 n2, splice7 b1, splice7 o1, splice7 o2, splice7 b3, splice7 o3, splice7 o4, ints_len, frzL_ints, eq_self, List.drop_zero, beq_self_eq_true, w1, w2, Bool.false_eq_true]
end Go.VI.Week
namespace Go.VI.Week
set_option linter.unusedVariables false
set_option linter.unusedSimpArgs false

theorem pts_get (l : List (Int × Int)) (k : Nat) (h : k < (pts l).length) : (pts l)[k] = pt (l[k]'(by simpa using h)) := by simp [pts]
theorem in_at {l : List Int} {x : Int} (h0 : 0 ≤ x) (h1 : x < 10000000) : (decide (0 ≤ x) && decide (x < 10000000) && hasS l (x / 3600).toNat) = at_ l x.toNat := by
  have e3 : (x / 3600).toNat = x.toNat / 3600 := by omega
  rw [e3, decide_eq_true h0, decide_eq_true h1, Bool.true_and, Bool.true_and, at_]
set_option maxHeartbeats 20000000 in
theorem spl_loop {l : List Int} (hl : l.length = 7) (hv : vW l = true) {a b : Nat} (hb : b ≤ 10000000) {v : AV} {L : List (Int × Int)} (hs : ∀ H, Sl H 2 v (pts L)) (hLl : L.length ≤ 2779) (u : Int) (n : AV) (h : Heap) (d : Nat) :
    ∀ (i : Nat) (c sum : Int) (inb : Bool), i + d = L.length → okL l a b (decide (i = 0)) c (L.drop i) → (a : Int) ≤ c → 0 ≤ sum → sum ≤ i * 10000000 →
    runC lib ⟨h.length, h.length, 2, none⟩ (.loop b4_0) ([(9, .bool true), (10, .bptr (h.length + 1) 1 0), (11, .bptr (h.length + 0) 1 0), (12, v), (14, n), (16, .int .i64 c), (17, .int .i64 sum), (18, .int .i64 u), (19, .bool inb), (20, .int .i64 i)], h ++ [(1, .box [.int .i64 a, .int .i64 b]), (1, .box (ints l))]) =
      some (.exit 0, ([(9, .bool true), (10, .bptr (h.length + 1) 1 0), (14, n), (17, .int .i64 (sum + sumP (L.drop i))), (18, .int .i64 u), (19, .bool (inb || inL u (L.drop i)))], h ++ [(1, .box [.int .i64 a, .int .i64 b]), (1, .box (ints l))])) := by
  have tl : (ints l).take 7 = ints l := List.take_of_length_le (by simp [hl])
  have hn : 7 ≤ (ints l).length := by simp [hl]
  induction d with
  | zero =>
    intro i c sum inb hi hok hc hs0 hs1
    have c1 : ¬ (i : Int) < L.length := by omega
    have e0 : L.drop i = [] := List.drop_of_length_le (by omega)
    have e1 : sum + sumP [] = sum := by simp [sumP]
    have e2 : (inb || inL u []) = inb := by simp [inL]
    rw [e0, e1, e2, w_loop]
    simp (maxSteps := 1000000) (disch := omega) only [go_sem, ↓reduceIte, Nat.reduceEqDiff, Nat.reduceAdd, Nat.reduceSub, Nat.reduceMul, Nat.reduceLT, Nat.reduceLeDiff, reduceCtorEq, Nat.succ_ne_self, ne_eq, not_true_eq_false, not_false_eq_true, and_self, and_true, true_and, Nat.zero_add, Nat.sub_zero, Nat.zero_mul, Nat.one_mul, Nat.le_refl, List.getElem?_cons_zero, List.set_cons_zero, Int.reduceToNat, Int.reduceLT, Int.reduceLE, Int.reduceAdd, Int.reduceSub, Int.reduceMul, Int.reduceEq, Int.reduceNe, Int.toNat_natCast, Int.natCast_zero, wrap_id, wrapu_id, wrapb_id, idx_ok, bin_quo, bin_rem, tdiv_id, tmod_id, ps_bptr, lenv_sl (hs h).len, pts_len, c1]
  | succ d ih =>
    intro i c sum inb hi hok hc hs0 hs1
    have hi' : i < L.length := by omega
    have c1 : (i : Int) < L.length := by omega
    have hdr := List.drop_eq_getElem_cons hi'
    rw [hdr] at hok ⊢
    have e3 : sidx 2 v (.int .i64 i) = some i := by rw [sidx_sl (hs h) (by omega) (by simp; omega)]; simp
    have e4 := fun off fr => pc_iptr (off := off) ((hs h).elems fr) (show i < (pts L).length by simp; omega)
    rw [pts_get] at e4
    obtain ⟨f1, f2, f3, f4, f5, f6, f7, f8, f9⟩ := hok
    have ih' := fun inb' => ih (i + 1) L[i].2 (sum + (L[i].2 - L[i].1)) inb' (by omega) (by rw [show decide (i + 1 = 0) = false from rfl]; exact f9) (by omega) (by omega) (by omega)
    rw [cast1] at ih'
    rw [sumP_cons]
    have g1 : sum + (L[i].2 - L[i].1 + sumP (L.drop (i + 1))) = sum + (L[i].2 - L[i].1) + sumP (L.drop (i + 1)) := by omega
    have g2 : (inb || inL u (L[i] :: L.drop (i + 1))) = (inb || (decide (L[i].1 ≤ u) && decide (u < L[i].2)) || inL u (L.drop (i + 1))) := by rw [inL, List.any_cons, ← Bool.or_assoc]; rfl
    rw [g1, g2]
    clear g1 g2 ih f9 hdr
    obtain ⟨p, hp⟩ : ∃ p, p = L[i] := ⟨_, rfl⟩
    rw [← hp] at e4 f1 f2 f3 f4 f5 f6 f7 f8 ih' ⊢
    clear hp
    obtain ⟨p1, p2⟩ := p
    obtain ⟨Ld, hLd⟩ : ∃ Ld, Ld = L.drop (i + 1) := ⟨_, rfl⟩
    rw [← hLd] at ih' ⊢
    clear hLd
    simp only [pt] at e4 f1 f2 f3 f4 f5 f6 f7 f8 ih' ⊢
    have k1 : ¬ p1 < c := by omega
    have k2 : ¬ p2 ≤ p1 := by omega
    have k3 : ¬ (b : Int) < p2 := by omega
    have i1 := fun h lo => in_run hl hv p1 h lo
    have i2 := fun h lo => in_run hl hv (p2 - 1) h lo
    rw [in_at (by omega) (by omega), f7] at i1
    rw [in_at (by omega) (by omega), f8] at i2
    have w1 : IntKind.i64.wrap (sum + p2) = sum + p2 := wrap_id (by omega) (by omega)
    have w2 : sum + p2 - p1 = sum + (p2 - p1) := by omega
    have A : ((0 : Int) < i ∧ ¬ p1 = c) ∨ (¬ (0 : Int) < i ∧ ¬ p1 < c) := by
      by_cases ci : (0 : Int) < i
      · have := f2 (by simp; omega)
        exact .inl ⟨ci, by omega⟩
      · exact .inr ⟨ci, k1⟩
    have B : ((a : Int) < p1 ∧ ∀ h lo, (run lib).fn 17 [.agg (ints l), .int .i64 (p1 - 1)] h lo = some (.bool false, h)) ∨ (¬ (a : Int) < p1 ∧ ∀ h lo, (run lib).fn 17 [.agg (ints l), .int .i64 p1] h lo = some (.bool true, h)) := by
      by_cases cf : (a : Int) < p1
      · refine .inl ⟨cf, fun h lo => ?_⟩
        rw [in_run hl hv, in_at (by omega) (by omega), f5 cf]
      · exact .inr ⟨cf, i1⟩
    have C : (p2 < (b : Int) ∧ ∀ h lo, (run lib).fn 17 [.agg (ints l), .int .i64 p2] h lo = some (.bool false, h)) ∨ (¬ p2 < (b : Int) ∧ ∀ h lo, (run lib).fn 17 [.agg (ints l), .int .i64 p1] h lo = some (.bool true, h)) := by
      by_cases cf : p2 < (b : Int)
      · refine .inl ⟨cf, fun h lo => ?_⟩
        rw [in_run hl hv, in_at (by omega) (by omega), f6 cf]
      · exact .inr ⟨cf, i1⟩
    have D : (inb = true ∧ (inb || (decide (p1 ≤ u) && decide (u < p2))) = true ∧ ¬ p1 < c ∧ ¬ p1 < c) ∨ (inb = false ∧ (inb || (decide (p1 ≤ u) && decide (u < p2))) = true ∧ p1 ≤ u ∧ u < p2) ∨
        (inb = false ∧ (inb || (decide (p1 ≤ u) && decide (u < p2))) = false ∧ p1 ≤ u ∧ ¬ u < p2) ∨ (inb = false ∧ (inb || (decide (p1 ≤ u) && decide (u < p2))) = false ∧ ¬ p1 ≤ u ∧ ¬ p1 < c) := by
      cases inb
      · by_cases q1 : p1 ≤ u
        · by_cases q2 : u < p2
          · exact .inr (.inl ⟨rfl, by simp [q1, q2], q1, q2⟩)
          · exact .inr (.inr (.inl ⟨rfl, by simp [q1, q2], q1, q2⟩))
        · exact .inr (.inr (.inr ⟨rfl, by simp [q1], q1, k1⟩))
      · exact .inl ⟨rfl, rfl, k1, k1⟩
    rw [w_loop]
    clear f1 f2 f3 f4 f5 f6 f7 f8
    obtain ⟨z, hz⟩ : ∃ z, z = (inb || (decide (p1 ≤ u) && decide (u < p2))) := ⟨_, rfl⟩
    rw [← hz] at D ⊢
    clear hz
    have y := ih' z
    clear ih'
    rcases D with ⟨rfl, rfl, d1, d2⟩ | ⟨rfl, rfl, d1, d2⟩ | ⟨rfl, rfl, d1, d2⟩ | ⟨rfl, rfl, d1, d2⟩ <;> rcases A with ⟨a1, a2⟩ | ⟨a1, a2⟩ <;> rcases B with ⟨b1, b2⟩ | ⟨b1, b2⟩ <;> rcases C with ⟨x1, x2⟩ | ⟨x1, x2⟩ <;>
      simp (maxSteps := 1000000) (disch := omega) only [go_sem, ↓reduceIte, Nat.reduceEqDiff, Nat.reduceAdd, Nat.reduceSub, Nat.reduceMul, Nat.reduceLT, Nat.reduceLeDiff, reduceCtorEq, Nat.succ_ne_self, ne_eq, not_true_eq_false, not_false_eq_true, and_self, and_true, true_and, Nat.zero_add, Nat.sub_zero, Nat.zero_mul, Nat.one_mul, Nat.le_refl, List.getElem?_cons_zero, List.set_cons_zero, Int.reduceToNat, Int.reduceLT, Int.reduceLE, Int.reduceAdd, Int.reduceSub, Int.reduceMul, Int.reduceEq, Int.reduceNe, Int.toNat_natCast, Int.natCast_zero, wrap_id, wrapu_id, wrapb_id, idx_ok, bin_quo, bin_rem, tdiv_id, tmod_id, ps_bptr, lenv_sl (hs h).len, pts_len, c1, e3, e4, k1, k2, k3, i1, i2, w1, w2, tl, hn, a1, a2, b1, b2, x1, x2, d1, d2, y]
end Go.VI.Week
namespace Go.VI.Week
set_option linter.unusedVariables false
set_option linter.unusedSimpArgs false

theorem inL_u {l : List Int} {a b : Nat} (hab : a < b) (u : Nat) (h1 : a ≤ u) (h2 : u < b) : inL (u : Int) (spells l a b) = at_ l u := (spells_ok l hab).2 u h1 h2
theorem law4 {xs : List Int} (hx : xs.length = 7) (hi : ∀ x ∈ xs, okI x) (f t c : Int) (hf : okI f) (ht : okI t) (hc : okI c) (h : Heap) (lo : Nat) : (run lib).fn 4 [.agg (ints xs), .int .i64 f, .int .i64 t, .int .i64 c] h lo = some (.bool true, h) := by
  have m0 := made_run hx hi
  have hl := madeS_len xs
  have hv := madeS_v xs
  obtain ⟨l, hll⟩ : ∃ l, l = madeS xs := ⟨_, rfl⟩
  rw [← hll] at m0 hl hv
  clear hll
  have m1 := spell_run f t hf ht
  obtain ⟨a, ha, hab⟩ := pick_nat f 10000000 (by omega)
  rw [ha] at m1
  obtain ⟨b', hb, hbb⟩ := pick_nat t (10000000 - a) (by omega)
  rw [hb] at m1
  obtain ⟨b, hbe⟩ : ∃ b : Nat, b = a + 1 + b' := ⟨_, rfl⟩
  have hbe2 : (a : Int) + 1 + b' = (b : Int) := by omega
  rw [hbe2] at m1
  have hlt : a < b := by omega
  have hle : b ≤ 10000000 := by omega
  clear ha hb hbe2
  have m2 := fun h lo => seconds_run hl hv (f := (a : Int)) (t := (b : Int)) (by omega) h lo
  have m3 := fun h lo => (spells_run hl hv (f := (a : Int)) (t := (b : Int)) (by omega) h lo).2
  have hLl := (spells_run hl hv (f := (a : Int)) (t := (b : Int)) (by omega) [] 0).1
  have hok := (spells_ok l hlt).1
  have m5 := fun h lo => pick13 c ((b : Int) - a) h lo hc (by omega)
  obtain ⟨q, hq, hqq⟩ := pick_nat c ((b : Int) - a) (by omega)
  rw [hq] at m5
  clear hq
  have e1 : (a : Int) + q = ((a + q : Nat) : Int) := by omega
  obtain ⟨u, hu⟩ : ∃ u, u = a + q := ⟨_, rfl⟩
  rw [← hu] at e1
  have hin := inL_u (l := l) hlt u (by omega) (by omega)
  have m6 := fun h lo => in_run hl hv (u : Int) h lo
  rw [in_at (by omega) (by omega), Int.toNat_natCast] at m6
  obtain ⟨L, hL⟩ : ∃ L, L = spells l a b := ⟨_, rfl⟩
  rw [← hL] at m2 m3 hLl hok hin
  have hs : ∀ H, Sl H 2 (lstV 2 (pts L)) (pts L) := fun H => by
    unfold lstV; split
    · rename_i hE; rw [hE]; exact Sl.lst0 _ _ _
    · exact Sl.lst _ _ _
  have m4 := spl_loop hl hv hle hs hLl (u : Int) (.int .i64 (sumP L)) h L.length 0 (a : Int) 0 false (by omega) (by rw [List.drop_zero]; exact hok) (by omega) (by omega) (by omega)
  rw [List.drop_zero, Int.zero_add, Bool.false_or, hin] at m4
  simp only [Int.natCast_zero] at m4
  have tl : (ints l).take 7 = ints l := List.take_of_length_le (by simp [hl])
  have hn : 7 ≤ (ints l).length := by simp [hl]
  have tx : (ints xs).take 7 = ints xs := List.take_of_length_le (by simp [hx])
  obtain ⟨z, hz⟩ : ∃ z, z = at_ l u := ⟨_, rfl⟩
  rw [← hz] at m4 m6
  rw [run_closed (x := x4) rfl rfl rfl rfl]
  simp (maxSteps := 1000000) (disch := omega) only [go_sem, ↓reduceIte, Nat.reduceEqDiff, Nat.reduceAdd, Nat.reduceSub, Nat.reduceMul, Nat.reduceLT, Nat.reduceLeDiff, reduceCtorEq, Nat.succ_ne_self, ne_eq, not_true_eq_false, not_false_eq_true, and_self, and_true, true_and, Nat.zero_add, Nat.sub_zero, Nat.zero_mul, Nat.one_mul, Nat.le_refl, List.getElem?_cons_zero, List.set_cons_zero, Int.reduceToNat, Int.reduceLT, Int.reduceLE, Int.reduceAdd, Int.reduceSub, Int.reduceMul, Int.reduceEq, Int.reduceNe, Int.toNat_natCast, Int.natCast_zero, wrap_id, wrapu_id, wrapb_id, idx_ok, bin_quo, bin_rem, tdiv_id, tmod_id, ps_bptr, x4, sane_run, m0, m1, m2, m3, m4, m5, e1, m6, eq_self, beq_self_eq_true, frzL_ints, tl, hn, tx, hx, hl, splice7 hl, ints_len, List.drop_zero]
end Go.VI.Week
namespace Go.VI.Week
def shW : Shp := .agg (List.replicate 7 (.int .i64))
theorem week_of {c0 : List AV} (t : TyL shW c0) : ∃ l : List Int, shW.mk c0 = .agg (ints l) ∧ l.length = 7 ∧ ∀ x ∈ l, okI x := by
  simp only [shW, TyL] at t
  obtain ⟨l, h1, h2, h3⟩ := ints_of 7 t
  exact ⟨l, by rw [h1]; rfl, h2, h3⟩
theorem int_of' {c0 : List AV} (t : TyL (.int .i64) c0) : ∃ n : Int, (Shp.int .i64).mk c0 = .int .i64 n ∧ okI n := by
  obtain ⟨n, h1, h2, h3⟩ := i64_of t
  exact ⟨n, by rw [h1]; rfl, h2, h3⟩
def sh6 : List Shp := [shW, .int .i64]
def sh5 : List Shp := [shW, .int .i64, .int .i64, .int .i64]
def sh8 : List Shp := [shW, shW, shW, .int .i64]
theorem walk6 (xs : List AV) (ht : TyA sh6 xs) : ∃ h', (run lib).fn 6 xs [] 0 = some (.bool true, h') := by
  simp only [sh6, TyA] at ht
  obtain ⟨c0, r, rfl, t0, c1, r1, rfl, t1, rfl⟩ := ht
  obtain ⟨l, e0, a1, a2⟩ := week_of t0
  obtain ⟨n, e1, b1⟩ := int_of' t1
  rw [e0, e1]
  exact ⟨_, law6 a1 a2 n b1 [] 0⟩
theorem walk7 (xs : List AV) (ht : TyA sh6 xs) : ∃ h', (run lib).fn 7 xs [] 0 = some (.bool true, h') := by
  simp only [sh6, TyA] at ht
  obtain ⟨c0, r, rfl, t0, c1, r1, rfl, t1, rfl⟩ := ht
  obtain ⟨l, e0, a1, a2⟩ := week_of t0
  obtain ⟨n, e1, b1⟩ := int_of' t1
  rw [e0, e1]
  exact ⟨_, law7 a1 a2 n b1 [] 0⟩
theorem walk5 (xs : List AV) (ht : TyA sh5 xs) : ∃ h', (run lib).fn 5 xs [] 0 = some (.bool true, h') := by
  simp only [sh5, TyA] at ht
  obtain ⟨c0, r, rfl, t0, c1, r1, rfl, t1, c2, r2, rfl, t2, c3, r3, rfl, t3, rfl⟩ := ht
  obtain ⟨l, e0, a1, a2⟩ := week_of t0
  obtain ⟨n, e1, b1⟩ := int_of' t1
  obtain ⟨m, e2, b2⟩ := int_of' t2
  obtain ⟨k, e3, b3⟩ := int_of' t3
  rw [e0, e1, e2, e3]
  exact ⟨_, law5 a1 a2 n m k b1 b2 b3 [] 0⟩
theorem walk4 (xs : List AV) (ht : TyA sh5 xs) : ∃ h', (run lib).fn 4 xs [] 0 = some (.bool true, h') := by
  simp only [sh5, TyA] at ht
  obtain ⟨c0, r, rfl, t0, c1, r1, rfl, t1, c2, r2, rfl, t2, c3, r3, rfl, t3, rfl⟩ := ht
  obtain ⟨l, e0, a1, a2⟩ := week_of t0
  obtain ⟨n, e1, b1⟩ := int_of' t1
  obtain ⟨m, e2, b2⟩ := int_of' t2
  obtain ⟨k, e3, b3⟩ := int_of' t3
  rw [e0, e1, e2, e3]
  exact ⟨_, law4 a1 a2 n m k b1 b2 b3 [] 0⟩
theorem walk8 (xs : List AV) (ht : TyA sh8 xs) : ∃ h', (run lib).fn 8 xs [] 0 = some (.bool true, h') := by
  simp only [sh8, TyA] at ht
  obtain ⟨c0, r, rfl, t0, c1, r1, rfl, t1, c2, r2, rfl, t2, c3, r3, rfl, t3, rfl⟩ := ht
  obtain ⟨l, e0, a1, a2⟩ := week_of t0
  obtain ⟨m, e1, b1, b2⟩ := week_of t1
  obtain ⟨k, e2, c1', c2'⟩ := week_of t2
  obtain ⟨n, e3, d1⟩ := int_of' t3
  rw [e0, e1, e2, e3]
  exact ⟨_, law8 a1 a2 b1 b2 c1' c2' n d1 [] 0⟩
end Go.VI.Week
