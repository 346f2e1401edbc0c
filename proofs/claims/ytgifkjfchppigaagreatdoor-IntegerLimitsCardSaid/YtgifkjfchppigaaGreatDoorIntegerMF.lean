/- What the functions on integers compute, part MF. -/
import Derived.Test.YtgifkjfchppigaaGreatDoorIntegerMD
namespace Go.VI.Num
/-! nines -/
def nn (k : Nat) : List UInt8 := List.replicate k 57
theorem nn_succ (k : Nat) : nn (k + 1) = nn k ++ [57] := List.replicate_succ'
theorem dv_nn : ∀ k, dv 0 (nn k) + 1 = 10 ^ k
  | 0 => rfl
  | k + 1 => by
    have ih := dv_nn k
    have e : (57 : UInt8).toNat = 57 := rfl
    rw [nn_succ, dv_app, dv_cons, dv_nil, e, Nat.pow_succ, ← ih]; omega
theorem digs_nn (k : Nat) : Digs (nn k) := by
  intro c hc
  have := List.eq_of_mem_replicate hc
  subst this
  unfold IsD; decide
theorem nn_itxt {k : Nat} (h : 0 < k) : itxt ((10 ^ k : Nat) - 1 : Int) = nn k := by
  have h1 := dv_nn k
  have e : (((10 ^ k : Nat) : Int) - 1) = (dv 0 (nn k) : Nat) := by omega
  have hn : NoLead (nn k) := by
    obtain ⟨j, rfl⟩ : ∃ j, k = j + 1 := ⟨k - 1, by omega⟩
    exact ⟨by simp [nn], .inr (by simp [nn, List.replicate_succ])⟩
  rw [e]
  unfold itxt
  rw [if_neg (by omega), Int.natAbs_natCast, dec_dv _ _ rfl (digs_nn k) hn]
theorem one_nn (k : Nat) : itxt (2 * (10 ^ k : Nat) - 1 : Int) = 49 :: nn k := by
  have h1 := dv_nn k
  have e1 : dv 0 (49 :: nn k) + 1 = 2 * 10 ^ k := by
    have e : (49 : UInt8).toNat = 49 := rfl
    have hl : (nn k).length = k := by simp [nn]
    rw [dv_cons, e, dv_lin, hl]; omega
  have e : (2 * ((10 ^ k : Nat) : Int) - 1) = (dv 0 (49 :: nn k) : Nat) := by omega
  have hd : Digs (49 :: nn k) := by
    intro c hc
    rcases List.mem_cons.mp hc with rfl | hc
    · unfold IsD; decide
    · exact digs_nn k c hc
  rw [e]
  unfold itxt
  rw [if_neg (by omega), Int.natAbs_natCast, dec_dv _ _ rfl hd ⟨by simp, .inr (by simp)⟩]
theorem dec_len_eq {n k : Nat} (h1 : 10 ^ k ≤ n) (h2 : n < 10 ^ (k + 1)) : (dec n).length = k + 1 := by
  have a := (dec_len (n := n) (k := k + 1) (by omega)).mpr h2
  rcases Nat.eq_zero_or_pos k with h | h
  · subst h
    have := List.length_pos_iff.mpr (dec_ne n)
    omega
  · have b := fun hh => (dec_len (n := n) (k := k) h).mp hh
    rcases Nat.lt_or_ge k (dec n).length with c | c
    · omega
    · have := b c; omega
theorem itxt_neg {n : Nat} (h : n ≠ 0) : itxt (-(n : Int)) = 45 :: itxt n := by
  unfold itxt
  rw [if_pos (by omega), if_neg (by omega)]
  have : (-(n : Int)).natAbs = n := by omega
  rw [this, Int.natAbs_natCast]
end Go.VI.Num
namespace Go.VI.Integer
open Go.VI.Num
set_option linter.unusedVariables false
set_option linter.unusedSimpArgs false

theorem nines_loop {n : Nat} (hn : n ≤ 1000) (cx : Cx) (H : Heap) : ∀ (m i : Nat), n - i ≤ m → i ≤ n →
    runC lib cx (.loop b22_0) ([(0, .int .i64 n), (3, .str (nn i)), (4, .int .i64 i)], H) = some (.exit 0, ([(3, .str (nn n))], H)) := by
  intro m
  induction m with
  | zero =>
    intro i h1 h2
    obtain rfl : i = n := by omega
    rw [w_loop]
    simp (maxSteps := 1000000) (disch := omega) only [go_sem, ↓reduceIte, Nat.reduceEqDiff, Nat.reduceAdd, Nat.reduceSub, Nat.reduceMul, Nat.reduceLT, Nat.reduceLeDiff, reduceCtorEq, Nat.succ_ne_self, ne_eq, not_true_eq_false, not_false_eq_true, and_self, and_true, true_and, Nat.zero_add, Nat.sub_zero, Nat.zero_mul, Nat.one_mul, Nat.le_refl, List.getElem?_cons_zero, List.set_cons_zero, Int.reduceToNat, Int.reduceLT, Int.reduceLE, Int.reduceAdd, Int.reduceSub, Int.reduceMul, Int.reduceEq, Int.reduceNe, Int.toNat_natCast, Int.natCast_zero, wrap_id, wrapu_id, wrapb_id, idx_ok, bin_quo, bin_rem, tdiv_id, tmod_id, ps_bptr, Int.lt_irrefl]
  | succ m ih =>
    intro i h1 h2
    rcases Nat.lt_or_eq_of_le h2 with c | rfl
    · have c1 : (i : Int) < n := by omega
      have k := ih (i + 1) (by omega) (by omega)
      have ad : binv .add (.str (nn i)) (.str [57]) = some (.str (nn (i + 1))) := by rw [bin_sadd (by simp [nn]; omega), nn_succ]
      rw [cast1] at k
      rw [w_loop]
      simp (maxSteps := 1000000) (disch := omega) only [go_sem, ↓reduceIte, Nat.reduceEqDiff, Nat.reduceAdd, Nat.reduceSub, Nat.reduceMul, Nat.reduceLT, Nat.reduceLeDiff, reduceCtorEq, Nat.succ_ne_self, ne_eq, not_true_eq_false, not_false_eq_true, and_self, and_true, true_and, Nat.zero_add, Nat.sub_zero, Nat.zero_mul, Nat.one_mul, Nat.le_refl, List.getElem?_cons_zero, List.set_cons_zero, Int.reduceToNat, Int.reduceLT, Int.reduceLE, Int.reduceAdd, Int.reduceSub, Int.reduceMul, Int.reduceEq, Int.reduceNe, Int.toNat_natCast, Int.natCast_zero, wrap_id, wrapu_id, wrapb_id, idx_ok, bin_quo, bin_rem, tdiv_id, tmod_id, ps_bptr, c1, ad, k]
    · rw [w_loop]
      simp (maxSteps := 1000000) (disch := omega) only [go_sem, ↓reduceIte, Nat.reduceEqDiff, Nat.reduceAdd, Nat.reduceSub, Nat.reduceMul, Nat.reduceLT, Nat.reduceLeDiff, reduceCtorEq, Nat.succ_ne_self, ne_eq, not_true_eq_false, not_false_eq_true, and_self, and_true, true_and, Nat.zero_add, Nat.sub_zero, Nat.zero_mul, Nat.one_mul, Nat.le_refl, List.getElem?_cons_zero, List.set_cons_zero, Int.reduceToNat, Int.reduceLT, Int.reduceLE, Int.reduceAdd, Int.reduceSub, Int.reduceMul, Int.reduceEq, Int.reduceNe, Int.toNat_natCast, Int.natCast_zero, wrap_id, wrapu_id, wrapb_id, idx_ok, bin_quo, bin_rem, tdiv_id, tmod_id, ps_bptr, Int.lt_irrefl]
theorem nines_run {n : Nat} (hn : n ≤ 1000) (h : Heap) (lo : Nat) : (run lib).fn 22 [.int .i64 n] h lo = some (.str (nn n), h) := by
  have lp := nines_loop hn ⟨h.length, h.length, 0, none⟩ h n 0 (by omega) (by omega)
  have e0 : nn 0 = [] := rfl
  rw [e0] at lp
  simp only [Int.natCast_zero] at lp
  rw [run_closed (x := x22) rfl rfl rfl rfl]
  simp (maxSteps := 1000000) (disch := omega) only [go_sem, ↓reduceIte, Nat.reduceEqDiff, Nat.reduceAdd, Nat.reduceSub, Nat.reduceMul, Nat.reduceLT, Nat.reduceLeDiff, reduceCtorEq, Nat.succ_ne_self, ne_eq, not_true_eq_false, not_false_eq_true, and_self, and_true, true_and, Nat.zero_add, Nat.sub_zero, Nat.zero_mul, Nat.one_mul, Nat.le_refl, List.getElem?_cons_zero, List.set_cons_zero, Int.reduceToNat, Int.reduceLT, Int.reduceLE, Int.reduceAdd, Int.reduceSub, Int.reduceMul, Int.reduceEq, Int.reduceNe, Int.toNat_natCast, Int.natCast_zero, wrap_id, wrapu_id, wrapb_id, idx_ok, bin_quo, bin_rem, tdiv_id, tmod_id, ps_bptr, x22, lp]
theorem pick_run {c n : Int} (hn : 0 < n) (h1 : -9223372036854775808 ≤ c) (h2 : c ≤ 9223372036854775807) : ∃ r : Nat, (r : Int) < n ∧ ∀ (h : Heap) (lo : Nat), (run lib).fn 23 [.int .i64 c, .int .i64 n] h lo = some (.int .i64 r, h) := by
  by_cases c0 : c < 0
  · have hm := Int.emod_nonneg (-(c + 1)) (show n ≠ 0 by omega)
    refine ⟨((-(c + 1)) % n).toNat, by have := Int.emod_lt_of_pos (-(c + 1)) hn; omega, fun h lo => ?_⟩
    have e : (((-(c + 1)) % n).toNat : Int) = (-(c + 1)) % n := by omega
    rw [e, run_closed (x := x23) rfl rfl rfl rfl]
    simp (maxSteps := 1000000) (disch := omega) only [go_sem, ↓reduceIte, Nat.reduceEqDiff, Nat.reduceAdd, Nat.reduceSub, Nat.reduceMul, Nat.reduceLT, Nat.reduceLeDiff, reduceCtorEq, Nat.succ_ne_self, ne_eq, not_true_eq_false, not_false_eq_true, and_self, and_true, true_and, Nat.zero_add, Nat.sub_zero, Nat.zero_mul, Nat.one_mul, Nat.le_refl, List.getElem?_cons_zero, List.set_cons_zero, Int.reduceToNat, Int.reduceLT, Int.reduceLE, Int.reduceAdd, Int.reduceSub, Int.reduceMul, Int.reduceEq, Int.reduceNe, Int.toNat_natCast, Int.natCast_zero, wrap_id, wrapu_id, wrapb_id, idx_ok, bin_quo, bin_rem, tdiv_id, tmod_id, ps_bptr, x23, c0]
  · have hm := Int.emod_nonneg c (show n ≠ 0 by omega)
    refine ⟨(c % n).toNat, by have := Int.emod_lt_of_pos c hn; omega, fun h lo => ?_⟩
    have e : ((c % n).toNat : Int) = c % n := by omega
    rw [e, run_closed (x := x23) rfl rfl rfl rfl]
    simp (maxSteps := 1000000) (disch := omega) only [go_sem, ↓reduceIte, Nat.reduceEqDiff, Nat.reduceAdd, Nat.reduceSub, Nat.reduceMul, Nat.reduceLT, Nat.reduceLeDiff, reduceCtorEq, Nat.succ_ne_self, ne_eq, not_true_eq_false, not_false_eq_true, and_self, and_true, true_and, Nat.zero_add, Nat.sub_zero, Nat.zero_mul, Nat.one_mul, Nat.le_refl, List.getElem?_cons_zero, List.set_cons_zero, Int.reduceToNat, Int.reduceLT, Int.reduceLE, Int.reduceAdd, Int.reduceSub, Int.reduceMul, Int.reduceEq, Int.reduceNe, Int.toNat_natCast, Int.natCast_zero, wrap_id, wrapu_id, wrapb_id, idx_ok, bin_quo, bin_rem, tdiv_id, tmod_id, ps_bptr, x23, c0]
theorem b_ft : (false == true) = false := rfl
theorem b_tf : (true == false) = false := rfl
theorem b_ff : (false == false) = true := rfl
/-! IntegerLimits -/
set_option maxHeartbeats 1000000 in
theorem lim_111 {a X M MM NP NQ T ONE S1 S2 P : List UInt8} {m n w : Int} {p q : Nat}
    (m1 : ∀ H lo, (run lib).fn 13 [.str a, .int .i64 5] H lo = some (.str X, H)) (n1 : ∀ H lo, (run lib).fn 22 [.int .i64 200] H lo = some (.str M, H)) (s1 : ∀ H lo, (run lib).fn 14 [.str M, .str X] H lo = some (.tuple [.str [], .int .i64 30], H))
    (ad1 : binv .add (.str [45]) (.str M) = some (.str MM)) (s2 : ∀ H lo, (run lib).fn 16 [.str MM, .str X] H lo = some (.tuple [.str [], .int .i64 30], H)) (p1 : ∀ H lo, (run lib).fn 23 [.int .i64 m, .int .i64 200] H lo = some (.int .i64 p, H)) (p2 : ∀ H lo, (run lib).fn 23 [.int .i64 n, .int .i64 200] H lo = some (.int .i64 q, H))
    (n2 : ∀ H lo, (run lib).fn 22 [.int .i64 p] H lo = some (.str NP, H)) (n3 : ∀ H lo, (run lib).fn 22 [.int .i64 q] H lo = some (.str NQ, H)) (ad2 : binv .add (.str [49]) (.str NQ) = some (.str T))
    (hp : p = 0) (o1 : ∀ H lo, (run lib).fn 14 [.str NP, .str [49]] H lo = some (.tuple [.str [], .int .i64 30], H)) (o2 : ∀ H lo, (run lib).fn 14 [.str [48], .str [49]] H lo = some (.tuple [.str ONE, .int .i64 0], H))
    (pr : ∀ H lo, (run lib).fn 15 [.str ONE, .str T] H lo = some (.tuple [.str P, .int .i64 0], H)) (c1 : ∀ H lo, (run lib).fn 18 [.str X, .str [48]] H lo = some (.int .i64 w, H)) (hw : 0 < w) (hs : p + q < 200) (hpq : p < 200 ∧ q < 200) (hl : P.length = p + q + 1)
    (ad3 : binv .add (.str M) (.str [57]) = some (.str (M ++ [57]))) (v1 : ∀ H lo, (run lib).fn 19 [.str (M ++ [57])] H lo = some (.bool false, H)) (v2 : ∀ H lo, (run lib).fn 19 [.str MM] H lo = some (.bool true, H)) (h : Heap) (lo : Nat) : (run lib).fn 8 [.str a, .int .i64 m, .int .i64 n] h lo = some (.bool true, h) := by
  have z0 : (p : Int) = 0 := by omega
  have hl2 : (P.length : Int) = q + 1 := by omega
  have hs1 : (q : Int) < 200 := by omega
  rw [z0] at p1 n2
  rw [run_closed (x := x8) rfl rfl rfl rfl]
  simp (maxSteps := 1000000) (disch := omega) only [go_sem, ↓reduceIte, Nat.reduceEqDiff, Nat.reduceAdd, Nat.reduceSub, Nat.reduceMul, Nat.reduceLT, Nat.reduceLeDiff, reduceCtorEq, Nat.succ_ne_self, ne_eq, not_true_eq_false, not_false_eq_true, and_self, and_true, true_and, Nat.zero_add, Nat.sub_zero, Nat.zero_mul, Nat.one_mul, Nat.le_refl, List.getElem?_cons_zero, List.set_cons_zero, Int.reduceToNat, Int.reduceLT, Int.reduceLE, Int.reduceAdd, Int.reduceSub, Int.reduceMul, Int.reduceEq, Int.reduceNe, Int.toNat_natCast, Int.natCast_zero, wrap_id, wrapu_id, wrapb_id, idx_ok, bin_quo, bin_rem, tdiv_id, tmod_id, ps_bptr, x8, sane_run, m1, n1, s1, ad1, s2, p1, p2, n2, n3, ad2, o1, o2, pr, c1, hw, hs1, ad3, v1, v2, beq_self_eq_true, b_ft, b_tf, b_ff, Int.zero_add, hl2, z0]
set_option maxHeartbeats 1000000 in
theorem lim_110 {a X M MM NP NQ T ONE S1 S2 P : List UInt8} {m n w : Int} {p q : Nat}
    (m1 : ∀ H lo, (run lib).fn 13 [.str a, .int .i64 5] H lo = some (.str X, H)) (n1 : ∀ H lo, (run lib).fn 22 [.int .i64 200] H lo = some (.str M, H)) (s1 : ∀ H lo, (run lib).fn 14 [.str M, .str X] H lo = some (.tuple [.str [], .int .i64 30], H))
    (ad1 : binv .add (.str [45]) (.str M) = some (.str MM)) (s2 : ∀ H lo, (run lib).fn 16 [.str MM, .str X] H lo = some (.tuple [.str [], .int .i64 30], H)) (p1 : ∀ H lo, (run lib).fn 23 [.int .i64 m, .int .i64 200] H lo = some (.int .i64 p, H)) (p2 : ∀ H lo, (run lib).fn 23 [.int .i64 n, .int .i64 200] H lo = some (.int .i64 q, H))
    (n2 : ∀ H lo, (run lib).fn 22 [.int .i64 p] H lo = some (.str NP, H)) (n3 : ∀ H lo, (run lib).fn 22 [.int .i64 q] H lo = some (.str NQ, H)) (ad2 : binv .add (.str [49]) (.str NQ) = some (.str T))
    (hp : p ≠ 0) (o1 : ∀ H lo, (run lib).fn 14 [.str NP, .str [49]] H lo = some (.tuple [.str ONE, .int .i64 0], H))
    (pr : ∀ H lo, (run lib).fn 15 [.str ONE, .str T] H lo = some (.tuple [.str P, .int .i64 0], H)) (c1 : ∀ H lo, (run lib).fn 18 [.str X, .str [48]] H lo = some (.int .i64 w, H)) (hw : 0 < w) (hs : p + q < 200) (hpq : p < 200 ∧ q < 200) (hl : P.length = p + q + 1)
    (ad3 : binv .add (.str M) (.str [57]) = some (.str (M ++ [57]))) (v1 : ∀ H lo, (run lib).fn 19 [.str (M ++ [57])] H lo = some (.bool false, H)) (v2 : ∀ H lo, (run lib).fn 19 [.str MM] H lo = some (.bool true, H)) (h : Heap) (lo : Nat) : (run lib).fn 8 [.str a, .int .i64 m, .int .i64 n] h lo = some (.bool true, h) := by
  have hs1 : (p : Int) + q < 200 := by omega
  have hp1 : ¬ (p : Int) = 0 := by omega
  have hl1 : (P.length : Int) = p + q + 1 := by omega
  rw [run_closed (x := x8) rfl rfl rfl rfl]
  simp (maxSteps := 1000000) (disch := omega) only [go_sem, ↓reduceIte, Nat.reduceEqDiff, Nat.reduceAdd, Nat.reduceSub, Nat.reduceMul, Nat.reduceLT, Nat.reduceLeDiff, reduceCtorEq, Nat.succ_ne_self, ne_eq, not_true_eq_false, not_false_eq_true, and_self, and_true, true_and, Nat.zero_add, Nat.sub_zero, Nat.zero_mul, Nat.one_mul, Nat.le_refl, List.getElem?_cons_zero, List.set_cons_zero, Int.reduceToNat, Int.reduceLT, Int.reduceLE, Int.reduceAdd, Int.reduceSub, Int.reduceMul, Int.reduceEq, Int.reduceNe, Int.toNat_natCast, Int.natCast_zero, wrap_id, wrapu_id, wrapb_id, idx_ok, bin_quo, bin_rem, tdiv_id, tmod_id, ps_bptr, x8, sane_run, m1, n1, s1, ad1, s2, p1, p2, n2, n3, ad2, o1, hp1, pr, c1, hw, hs1, ad3, v1, v2, beq_self_eq_true, b_ft, b_tf, b_ff, Int.zero_add, hl1]
set_option maxHeartbeats 1000000 in
theorem lim_101 {a X M MM NP NQ T ONE S1 S2 P : List UInt8} {m n w : Int} {p q : Nat}
    (m1 : ∀ H lo, (run lib).fn 13 [.str a, .int .i64 5] H lo = some (.str X, H)) (n1 : ∀ H lo, (run lib).fn 22 [.int .i64 200] H lo = some (.str M, H)) (s1 : ∀ H lo, (run lib).fn 14 [.str M, .str X] H lo = some (.tuple [.str [], .int .i64 30], H))
    (ad1 : binv .add (.str [45]) (.str M) = some (.str MM)) (s2 : ∀ H lo, (run lib).fn 16 [.str MM, .str X] H lo = some (.tuple [.str [], .int .i64 30], H)) (p1 : ∀ H lo, (run lib).fn 23 [.int .i64 m, .int .i64 200] H lo = some (.int .i64 p, H)) (p2 : ∀ H lo, (run lib).fn 23 [.int .i64 n, .int .i64 200] H lo = some (.int .i64 q, H))
    (n2 : ∀ H lo, (run lib).fn 22 [.int .i64 p] H lo = some (.str NP, H)) (n3 : ∀ H lo, (run lib).fn 22 [.int .i64 q] H lo = some (.str NQ, H)) (ad2 : binv .add (.str [49]) (.str NQ) = some (.str T))
    (hp : p = 0) (o1 : ∀ H lo, (run lib).fn 14 [.str NP, .str [49]] H lo = some (.tuple [.str [], .int .i64 30], H)) (o2 : ∀ H lo, (run lib).fn 14 [.str [48], .str [49]] H lo = some (.tuple [.str ONE, .int .i64 0], H))
    (pr : ∀ H lo, (run lib).fn 15 [.str ONE, .str T] H lo = some (.tuple [.str [], .int .i64 30], H)) (c1 : ∀ H lo, (run lib).fn 18 [.str X, .str [48]] H lo = some (.int .i64 w, H)) (hw : 0 < w) (hs : ¬ p + q < 200) (hpq : p < 200 ∧ q < 200)
    (ad3 : binv .add (.str M) (.str [57]) = some (.str (M ++ [57]))) (v1 : ∀ H lo, (run lib).fn 19 [.str (M ++ [57])] H lo = some (.bool false, H)) (v2 : ∀ H lo, (run lib).fn 19 [.str MM] H lo = some (.bool true, H)) (h : Heap) (lo : Nat) : (run lib).fn 8 [.str a, .int .i64 m, .int .i64 n] h lo = some (.bool true, h) := by
  have z0 : (p : Int) = 0 := by omega
  have hs1 : ¬ (q : Int) < 200 := by omega
  rw [z0] at p1 n2
  rw [run_closed (x := x8) rfl rfl rfl rfl]
  simp (maxSteps := 1000000) (disch := omega) only [go_sem, ↓reduceIte, Nat.reduceEqDiff, Nat.reduceAdd, Nat.reduceSub, Nat.reduceMul, Nat.reduceLT, Nat.reduceLeDiff, reduceCtorEq, Nat.succ_ne_self, ne_eq, not_true_eq_false, not_false_eq_true, and_self, and_true, true_and, Nat.zero_add, Nat.sub_zero, Nat.zero_mul, Nat.one_mul, Nat.le_refl, List.getElem?_cons_zero, List.set_cons_zero, Int.reduceToNat, Int.reduceLT, Int.reduceLE, Int.reduceAdd, Int.reduceSub, Int.reduceMul, Int.reduceEq, Int.reduceNe, Int.toNat_natCast, Int.natCast_zero, wrap_id, wrapu_id, wrapb_id, idx_ok, bin_quo, bin_rem, tdiv_id, tmod_id, ps_bptr, x8, sane_run, m1, n1, s1, ad1, s2, p1, p2, n2, n3, ad2, o1, o2, pr, c1, hw, hs1, ad3, v1, v2, beq_self_eq_true, b_ft, b_tf, b_ff, Int.zero_add, z0]
set_option maxHeartbeats 1000000 in
theorem lim_100 {a X M MM NP NQ T ONE S1 S2 P : List UInt8} {m n w : Int} {p q : Nat}
    (m1 : ∀ H lo, (run lib).fn 13 [.str a, .int .i64 5] H lo = some (.str X, H)) (n1 : ∀ H lo, (run lib).fn 22 [.int .i64 200] H lo = some (.str M, H)) (s1 : ∀ H lo, (run lib).fn 14 [.str M, .str X] H lo = some (.tuple [.str [], .int .i64 30], H))
    (ad1 : binv .add (.str [45]) (.str M) = some (.str MM)) (s2 : ∀ H lo, (run lib).fn 16 [.str MM, .str X] H lo = some (.tuple [.str [], .int .i64 30], H)) (p1 : ∀ H lo, (run lib).fn 23 [.int .i64 m, .int .i64 200] H lo = some (.int .i64 p, H)) (p2 : ∀ H lo, (run lib).fn 23 [.int .i64 n, .int .i64 200] H lo = some (.int .i64 q, H))
    (n2 : ∀ H lo, (run lib).fn 22 [.int .i64 p] H lo = some (.str NP, H)) (n3 : ∀ H lo, (run lib).fn 22 [.int .i64 q] H lo = some (.str NQ, H)) (ad2 : binv .add (.str [49]) (.str NQ) = some (.str T))
    (hp : p ≠ 0) (o1 : ∀ H lo, (run lib).fn 14 [.str NP, .str [49]] H lo = some (.tuple [.str ONE, .int .i64 0], H))
    (pr : ∀ H lo, (run lib).fn 15 [.str ONE, .str T] H lo = some (.tuple [.str [], .int .i64 30], H)) (c1 : ∀ H lo, (run lib).fn 18 [.str X, .str [48]] H lo = some (.int .i64 w, H)) (hw : 0 < w) (hs : ¬ p + q < 200) (hpq : p < 200 ∧ q < 200)
    (ad3 : binv .add (.str M) (.str [57]) = some (.str (M ++ [57]))) (v1 : ∀ H lo, (run lib).fn 19 [.str (M ++ [57])] H lo = some (.bool false, H)) (v2 : ∀ H lo, (run lib).fn 19 [.str MM] H lo = some (.bool true, H)) (h : Heap) (lo : Nat) : (run lib).fn 8 [.str a, .int .i64 m, .int .i64 n] h lo = some (.bool true, h) := by
  have hs1 : ¬ (p : Int) + q < 200 := by omega
  have hp1 : ¬ (p : Int) = 0 := by omega
  rw [run_closed (x := x8) rfl rfl rfl rfl]
  simp (maxSteps := 1000000) (disch := omega) only [go_sem, ↓reduceIte, Nat.reduceEqDiff, Nat.reduceAdd, Nat.reduceSub, Nat.reduceMul, Nat.reduceLT, Nat.reduceLeDiff, reduceCtorEq, Nat.succ_ne_self, ne_eq, not_true_eq_false, not_false_eq_true, and_self, and_true, true_and, Nat.zero_add, Nat.sub_zero, Nat.zero_mul, Nat.one_mul, Nat.le_refl, List.getElem?_cons_zero, List.set_cons_zero, Int.reduceToNat, Int.reduceLT, Int.reduceLE, Int.reduceAdd, Int.reduceSub, Int.reduceMul, Int.reduceEq, Int.reduceNe, Int.toNat_natCast, Int.natCast_zero, wrap_id, wrapu_id, wrapb_id, idx_ok, bin_quo, bin_rem, tdiv_id, tmod_id, ps_bptr, x8, sane_run, m1, n1, s1, ad1, s2, p1, p2, n2, n3, ad2, o1, hp1, pr, c1, hw, hs1, ad3, v1, v2, beq_self_eq_true, b_ft, b_tf, b_ff, Int.zero_add]
set_option maxHeartbeats 1000000 in
theorem lim_011 {a X M MM NP NQ T ONE S1 S2 P : List UInt8} {m n w : Int} {p q : Nat}
    (m1 : ∀ H lo, (run lib).fn 13 [.str a, .int .i64 5] H lo = some (.str X, H)) (n1 : ∀ H lo, (run lib).fn 22 [.int .i64 200] H lo = some (.str M, H)) (s1 : ∀ H lo, (run lib).fn 14 [.str M, .str X] H lo = some (.tuple [.str S1, .int .i64 0], H))
    (ad1 : binv .add (.str [45]) (.str M) = some (.str MM)) (s2 : ∀ H lo, (run lib).fn 16 [.str MM, .str X] H lo = some (.tuple [.str S2, .int .i64 0], H)) (p1 : ∀ H lo, (run lib).fn 23 [.int .i64 m, .int .i64 200] H lo = some (.int .i64 p, H)) (p2 : ∀ H lo, (run lib).fn 23 [.int .i64 n, .int .i64 200] H lo = some (.int .i64 q, H))
    (n2 : ∀ H lo, (run lib).fn 22 [.int .i64 p] H lo = some (.str NP, H)) (n3 : ∀ H lo, (run lib).fn 22 [.int .i64 q] H lo = some (.str NQ, H)) (ad2 : binv .add (.str [49]) (.str NQ) = some (.str T))
    (hp : p = 0) (o1 : ∀ H lo, (run lib).fn 14 [.str NP, .str [49]] H lo = some (.tuple [.str [], .int .i64 30], H)) (o2 : ∀ H lo, (run lib).fn 14 [.str [48], .str [49]] H lo = some (.tuple [.str ONE, .int .i64 0], H))
    (pr : ∀ H lo, (run lib).fn 15 [.str ONE, .str T] H lo = some (.tuple [.str P, .int .i64 0], H)) (c1 : ∀ H lo, (run lib).fn 18 [.str X, .str [48]] H lo = some (.int .i64 w, H)) (hw : ¬ 0 < w) (hs : p + q < 200) (hpq : p < 200 ∧ q < 200) (hl : P.length = p + q + 1)
    (ad3 : binv .add (.str M) (.str [57]) = some (.str (M ++ [57]))) (v1 : ∀ H lo, (run lib).fn 19 [.str (M ++ [57])] H lo = some (.bool false, H)) (v2 : ∀ H lo, (run lib).fn 19 [.str MM] H lo = some (.bool true, H)) (h : Heap) (lo : Nat) : (run lib).fn 8 [.str a, .int .i64 m, .int .i64 n] h lo = some (.bool true, h) := by
  have z0 : (p : Int) = 0 := by omega
  have hl2 : (P.length : Int) = q + 1 := by omega
  have hs1 : (q : Int) < 200 := by omega
  rw [z0] at p1 n2
  rw [run_closed (x := x8) rfl rfl rfl rfl]
  simp (maxSteps := 1000000) (disch := omega) only [go_sem, ↓reduceIte, Nat.reduceEqDiff, Nat.reduceAdd, Nat.reduceSub, Nat.reduceMul, Nat.reduceLT, Nat.reduceLeDiff, reduceCtorEq, Nat.succ_ne_self, ne_eq, not_true_eq_false, not_false_eq_true, and_self, and_true, true_and, Nat.zero_add, Nat.sub_zero, Nat.zero_mul, Nat.one_mul, Nat.le_refl, List.getElem?_cons_zero, List.set_cons_zero, Int.reduceToNat, Int.reduceLT, Int.reduceLE, Int.reduceAdd, Int.reduceSub, Int.reduceMul, Int.reduceEq, Int.reduceNe, Int.toNat_natCast, Int.natCast_zero, wrap_id, wrapu_id, wrapb_id, idx_ok, bin_quo, bin_rem, tdiv_id, tmod_id, ps_bptr, x8, sane_run, m1, n1, s1, ad1, s2, p1, p2, n2, n3, ad2, o1, o2, pr, c1, hw, hs1, ad3, v1, v2, beq_self_eq_true, b_ft, b_tf, b_ff, Int.zero_add, hl2, z0]
set_option maxHeartbeats 1000000 in
theorem lim_010 {a X M MM NP NQ T ONE S1 S2 P : List UInt8} {m n w : Int} {p q : Nat}
    (m1 : ∀ H lo, (run lib).fn 13 [.str a, .int .i64 5] H lo = some (.str X, H)) (n1 : ∀ H lo, (run lib).fn 22 [.int .i64 200] H lo = some (.str M, H)) (s1 : ∀ H lo, (run lib).fn 14 [.str M, .str X] H lo = some (.tuple [.str S1, .int .i64 0], H))
    (ad1 : binv .add (.str [45]) (.str M) = some (.str MM)) (s2 : ∀ H lo, (run lib).fn 16 [.str MM, .str X] H lo = some (.tuple [.str S2, .int .i64 0], H)) (p1 : ∀ H lo, (run lib).fn 23 [.int .i64 m, .int .i64 200] H lo = some (.int .i64 p, H)) (p2 : ∀ H lo, (run lib).fn 23 [.int .i64 n, .int .i64 200] H lo = some (.int .i64 q, H))
    (n2 : ∀ H lo, (run lib).fn 22 [.int .i64 p] H lo = some (.str NP, H)) (n3 : ∀ H lo, (run lib).fn 22 [.int .i64 q] H lo = some (.str NQ, H)) (ad2 : binv .add (.str [49]) (.str NQ) = some (.str T))
    (hp : p ≠ 0) (o1 : ∀ H lo, (run lib).fn 14 [.str NP, .str [49]] H lo = some (.tuple [.str ONE, .int .i64 0], H))
    (pr : ∀ H lo, (run lib).fn 15 [.str ONE, .str T] H lo = some (.tuple [.str P, .int .i64 0], H)) (c1 : ∀ H lo, (run lib).fn 18 [.str X, .str [48]] H lo = some (.int .i64 w, H)) (hw : ¬ 0 < w) (hs : p + q < 200) (hpq : p < 200 ∧ q < 200) (hl : P.length = p + q + 1)
    (ad3 : binv .add (.str M) (.str [57]) = some (.str (M ++ [57]))) (v1 : ∀ H lo, (run lib).fn 19 [.str (M ++ [57])] H lo = some (.bool false, H)) (v2 : ∀ H lo, (run lib).fn 19 [.str MM] H lo = some (.bool true, H)) (h : Heap) (lo : Nat) : (run lib).fn 8 [.str a, .int .i64 m, .int .i64 n] h lo = some (.bool true, h) := by
  have hs1 : (p : Int) + q < 200 := by omega
  have hp1 : ¬ (p : Int) = 0 := by omega
  have hl1 : (P.length : Int) = p + q + 1 := by omega
  rw [run_closed (x := x8) rfl rfl rfl rfl]
  simp (maxSteps := 1000000) (disch := omega) only [go_sem, ↓reduceIte, Nat.reduceEqDiff, Nat.reduceAdd, Nat.reduceSub, Nat.reduceMul, Nat.reduceLT, Nat.reduceLeDiff, reduceCtorEq, Nat.succ_ne_self, ne_eq, not_true_eq_false, not_false_eq_true, and_self, and_true, true_and, Nat.zero_add, Nat.sub_zero, Nat.zero_mul, Nat.one_mul, Nat.le_refl, List.getElem?_cons_zero, List.set_cons_zero, Int.reduceToNat, Int.reduceLT, Int.reduceLE, Int.reduceAdd, Int.reduceSub, Int.reduceMul, Int.reduceEq, Int.reduceNe, Int.toNat_natCast, Int.natCast_zero, wrap_id, wrapu_id, wrapb_id, idx_ok, bin_quo, bin_rem, tdiv_id, tmod_id, ps_bptr, x8, sane_run, m1, n1, s1, ad1, s2, p1, p2, n2, n3, ad2, o1, hp1, pr, c1, hw, hs1, ad3, v1, v2, beq_self_eq_true, b_ft, b_tf, b_ff, Int.zero_add, hl1]
set_option maxHeartbeats 1000000 in
theorem lim_001 {a X M MM NP NQ T ONE S1 S2 P : List UInt8} {m n w : Int} {p q : Nat}
    (m1 : ∀ H lo, (run lib).fn 13 [.str a, .int .i64 5] H lo = some (.str X, H)) (n1 : ∀ H lo, (run lib).fn 22 [.int .i64 200] H lo = some (.str M, H)) (s1 : ∀ H lo, (run lib).fn 14 [.str M, .str X] H lo = some (.tuple [.str S1, .int .i64 0], H))
    (ad1 : binv .add (.str [45]) (.str M) = some (.str MM)) (s2 : ∀ H lo, (run lib).fn 16 [.str MM, .str X] H lo = some (.tuple [.str S2, .int .i64 0], H)) (p1 : ∀ H lo, (run lib).fn 23 [.int .i64 m, .int .i64 200] H lo = some (.int .i64 p, H)) (p2 : ∀ H lo, (run lib).fn 23 [.int .i64 n, .int .i64 200] H lo = some (.int .i64 q, H))
    (n2 : ∀ H lo, (run lib).fn 22 [.int .i64 p] H lo = some (.str NP, H)) (n3 : ∀ H lo, (run lib).fn 22 [.int .i64 q] H lo = some (.str NQ, H)) (ad2 : binv .add (.str [49]) (.str NQ) = some (.str T))
    (hp : p = 0) (o1 : ∀ H lo, (run lib).fn 14 [.str NP, .str [49]] H lo = some (.tuple [.str [], .int .i64 30], H)) (o2 : ∀ H lo, (run lib).fn 14 [.str [48], .str [49]] H lo = some (.tuple [.str ONE, .int .i64 0], H))
    (pr : ∀ H lo, (run lib).fn 15 [.str ONE, .str T] H lo = some (.tuple [.str [], .int .i64 30], H)) (c1 : ∀ H lo, (run lib).fn 18 [.str X, .str [48]] H lo = some (.int .i64 w, H)) (hw : ¬ 0 < w) (hs : ¬ p + q < 200) (hpq : p < 200 ∧ q < 200)
    (ad3 : binv .add (.str M) (.str [57]) = some (.str (M ++ [57]))) (v1 : ∀ H lo, (run lib).fn 19 [.str (M ++ [57])] H lo = some (.bool false, H)) (v2 : ∀ H lo, (run lib).fn 19 [.str MM] H lo = some (.bool true, H)) (h : Heap) (lo : Nat) : (run lib).fn 8 [.str a, .int .i64 m, .int .i64 n] h lo = some (.bool true, h) := by
  have z0 : (p : Int) = 0 := by omega
  have hs1 : ¬ (q : Int) < 200 := by omega
  rw [z0] at p1 n2
  rw [run_closed (x := x8) rfl rfl rfl rfl]
  simp (maxSteps := 1000000) (disch := omega) only [go_sem, ↓reduceIte, Nat.reduceEqDiff, Nat.reduceAdd, Nat.reduceSub, Nat.reduceMul, Nat.reduceLT, Nat.reduceLeDiff, reduceCtorEq, Nat.succ_ne_self, ne_eq, not_true_eq_false, not_false_eq_true, and_self, and_true, true_and, Nat.zero_add, Nat.sub_zero, Nat.zero_mul, Nat.one_mul, Nat.le_refl, List.getElem?_cons_zero, List.set_cons_zero, Int.reduceToNat, Int.reduceLT, Int.reduceLE, Int.reduceAdd, Int.reduceSub, Int.reduceMul, Int.reduceEq, Int.reduceNe, Int.toNat_natCast, Int.natCast_zero, wrap_id, wrapu_id, wrapb_id, idx_ok, bin_quo, bin_rem, tdiv_id, tmod_id, ps_bptr, x8, sane_run, m1, n1, s1, ad1, s2, p1, p2, n2, n3, ad2, o1, o2, pr, c1, hw, hs1, ad3, v1, v2, beq_self_eq_true, b_ft, b_tf, b_ff, Int.zero_add, z0]
set_option maxHeartbeats 1000000 in
theorem lim_000 {a X M MM NP NQ T ONE S1 S2 P : List UInt8} {m n w : Int} {p q : Nat}
    (m1 : ∀ H lo, (run lib).fn 13 [.str a, .int .i64 5] H lo = some (.str X, H)) (n1 : ∀ H lo, (run lib).fn 22 [.int .i64 200] H lo = some (.str M, H)) (s1 : ∀ H lo, (run lib).fn 14 [.str M, .str X] H lo = some (.tuple [.str S1, .int .i64 0], H))
    (ad1 : binv .add (.str [45]) (.str M) = some (.str MM)) (s2 : ∀ H lo, (run lib).fn 16 [.str MM, .str X] H lo = some (.tuple [.str S2, .int .i64 0], H)) (p1 : ∀ H lo, (run lib).fn 23 [.int .i64 m, .int .i64 200] H lo = some (.int .i64 p, H)) (p2 : ∀ H lo, (run lib).fn 23 [.int .i64 n, .int .i64 200] H lo = some (.int .i64 q, H))
    (n2 : ∀ H lo, (run lib).fn 22 [.int .i64 p] H lo = some (.str NP, H)) (n3 : ∀ H lo, (run lib).fn 22 [.int .i64 q] H lo = some (.str NQ, H)) (ad2 : binv .add (.str [49]) (.str NQ) = some (.str T))
    (hp : p ≠ 0) (o1 : ∀ H lo, (run lib).fn 14 [.str NP, .str [49]] H lo = some (.tuple [.str ONE, .int .i64 0], H))
    (pr : ∀ H lo, (run lib).fn 15 [.str ONE, .str T] H lo = some (.tuple [.str [], .int .i64 30], H)) (c1 : ∀ H lo, (run lib).fn 18 [.str X, .str [48]] H lo = some (.int .i64 w, H)) (hw : ¬ 0 < w) (hs : ¬ p + q < 200) (hpq : p < 200 ∧ q < 200)
    (ad3 : binv .add (.str M) (.str [57]) = some (.str (M ++ [57]))) (v1 : ∀ H lo, (run lib).fn 19 [.str (M ++ [57])] H lo = some (.bool false, H)) (v2 : ∀ H lo, (run lib).fn 19 [.str MM] H lo = some (.bool true, H)) (h : Heap) (lo : Nat) : (run lib).fn 8 [.str a, .int .i64 m, .int .i64 n] h lo = some (.bool true, h) := by
  have hs1 : ¬ (p : Int) + q < 200 := by omega
  have hp1 : ¬ (p : Int) = 0 := by omega
  rw [run_closed (x := x8) rfl rfl rfl rfl]
  simp (maxSteps := 1000000) (disch := omega) only [go_sem, ↓reduceIte, Nat.reduceEqDiff, Nat.reduceAdd, Nat.reduceSub, Nat.reduceMul, Nat.reduceLT, Nat.reduceLeDiff, reduceCtorEq, Nat.succ_ne_self, ne_eq, not_true_eq_false, not_false_eq_true, and_self, and_true, true_and, Nat.zero_add, Nat.sub_zero, Nat.zero_mul, Nat.one_mul, Nat.le_refl, List.getElem?_cons_zero, List.set_cons_zero, Int.reduceToNat, Int.reduceLT, Int.reduceLE, Int.reduceAdd, Int.reduceSub, Int.reduceMul, Int.reduceEq, Int.reduceNe, Int.toNat_natCast, Int.natCast_zero, wrap_id, wrapu_id, wrapb_id, idx_ok, bin_quo, bin_rem, tdiv_id, tmod_id, ps_bptr, x8, sane_run, m1, n1, s1, ad1, s2, p1, p2, n2, n3, ad2, o1, hp1, pr, c1, hw, hs1, ad3, v1, v2, beq_self_eq_true, b_ft, b_tf, b_ff, Int.zero_add]
end Go.VI.Integer
namespace Go.VI.Integer
open Go.VI.Num
set_option linter.unusedVariables false
set_option linter.unusedSimpArgs false

theorem valid_most1 : validS (nn 200 ++ [57]) = false := by kernel_rfl
theorem valid_most2 : validS (45 :: nn 200) = true := by kernel_rfl
theorem outT_bad {z : Int} (h : ¬ Fit z) : outT z = .tuple [.str [], .int .i64 30] := if_neg h
theorem limits_run {a : List UInt8} {m n : Int} (ha : a.length ≤ 9223372036854775807) (hm1 : -9223372036854775808 ≤ m) (hm2 : m ≤ 9223372036854775807) (hn1 : -9223372036854775808 ≤ n) (hn2 : n ≤ 9223372036854775807) (h : Heap) (lo : Nat) : (run lib).fn 8 [.str a, .int .i64 m, .int .i64 n] h lo = some (.bool true, h) := by
  have m1 : ∀ H lo, (run lib).fn 13 [.str a, .int .i64 5] H lo = some (.str (itxt (madeZ a 5)), H) := made_run (most := 5) (by omega) ha
  have bx : Bd 5 (madeZ a 5) := madeZ_abs a 5
  generalize madeZ a 5 = x at *
  have xf := bx.fit (by omega)
  obtain ⟨B, hB⟩ : ∃ B : Nat, B = 10 ^ 200 := ⟨_, rfl⟩
  have hBig : 100000 < B := by rw [hB]; decide
  have hx5 : x.natAbs < 100000 := by unfold Bd at bx; exact Nat.lt_of_lt_of_le bx (by decide)
  have tM : itxt ((B : Int) - 1) = nn 200 := by rw [hB]; exact nn_itxt (by omega)
  have fW : Fit ((B : Int) - 1) := by unfold Fit; rw [← hB]; omega
  have tMM : itxt (-((B : Int) - 1)) = 45 :: nn 200 := by
    rw [← tM]
    have e : (B : Int) - 1 = ((B - 1 : Nat) : Int) := by omega
    rw [e]
    exact itxt_neg (by omega)
  have fMM : Fit (-((B : Int) - 1)) := by unfold Fit; rw [← hB]; omega
  have n1 : ∀ H lo, (run lib).fn 22 [.int .i64 200] H lo = some (.str (nn 200), H) := nines_run (n := 200) (by omega)
  have s1 := add_run fW xf
  have s2 := sub_run fMM xf
  rw [tM] at s1
  rw [tMM] at s2
  have hl200 : (nn 200).length = 200 := List.length_replicate
  have ad1 : binv .add (.str [45]) (.str (nn 200)) = some (.str (45 :: nn 200)) := by rw [bin_sadd (by simp only [hl200, List.length_singleton]; omega)]; rfl
  obtain ⟨p, hp, p1⟩ := pick_run (c := m) (n := 200) (by omega) hm1 hm2
  obtain ⟨q, hq, p2⟩ := pick_run (c := n) (n := 200) (by omega) hn1 hn2
  have n2 := nines_run (n := p) (by omega)
  have n3 := nines_run (n := q) (by omega)
  have ad2 : binv .add (.str [49]) (.str (nn q)) = some (.str (49 :: nn q)) := by rw [bin_sadd (by simp [nn]; omega)]; rfl
  have ad3 : binv .add (.str (nn 200)) (.str [57]) = some (.str (nn 200 ++ [57])) := by rw [bin_sadd (by simp only [hl200, List.length_singleton]; omega)]
  have v1 := valid_run (nn 200 ++ [57])
  have v2 := valid_run (45 :: nn 200)
  rw [valid_most1] at v1
  rw [valid_most2] at v2
  have c1 := compare_run xf fit0
  have i0 : itxt 0 = [48] := rfl
  have i1 : itxt 1 = [49] := rfl
  rw [i0] at c1
  -- the powers
  have hP1 : 1 ≤ 10 ^ p := Nat.pos_of_ne_zero (by simp)
  have hQ1 : 1 ≤ 10 ^ q := Nat.pos_of_ne_zero (by simp)
  have hPlt : 10 ^ p < 10 ^ 200 := Nat.pow_lt_pow_right (by omega) (by omega)
  have hQlt : 2 * 10 ^ q ≤ 10 ^ 200 := by
    have h1 : 10 ^ (q + 1) ≤ 10 ^ 200 := Nat.pow_le_pow_right (by omega) (by omega)
    rw [Nat.pow_succ] at h1
    generalize 10 ^ q = Q at *
    omega
  have fP : Fit ((10 ^ p : Nat) : Int) := by unfold Fit; rw [Int.natAbs_natCast]; exact hPlt
  have fT : Fit (2 * (10 ^ q : Nat) - 1 : Int) := by
    unfold Fit
    generalize 10 ^ q = Q at *
    omega
  have tT := one_nn q
  have hlo : 10 ^ (p + q) ≤ 10 ^ p * (2 * 10 ^ q - 1) := by
    rw [Nat.pow_add]
    refine Nat.mul_le_mul_left _ ?_
    generalize 10 ^ q = Q at *
    omega
  have hhi : 10 ^ p * (2 * 10 ^ q - 1) < 10 ^ (p + q + 1) := by
    rw [Nat.pow_succ, Nat.pow_add, Nat.mul_assoc]
    refine Nat.mul_lt_mul_of_pos_left ?_ hP1
    generalize 10 ^ q = Q at *
    omega
  have eprod : ((10 ^ p : Nat) : Int) * (2 * (10 ^ q : Nat) - 1 : Int) = ((10 ^ p * (2 * 10 ^ q - 1) : Nat) : Int) := by
    rw [Int.natCast_mul]
    have : ((2 * 10 ^ q - 1 : Nat) : Int) = 2 * ((10 ^ q : Nat) : Int) - 1 := by
      generalize 10 ^ q = Q at *
      omega
    rw [this]
  have pr := mul_run fP fT
  rw [eprod, tT] at pr
  have hpq : p < 200 ∧ q < 200 := ⟨by omega, by omega⟩
  have hsm : p + q < 200 → Fit ((10 ^ p * (2 * 10 ^ q - 1) : Nat) : Int) ∧ (itxt ((10 ^ p * (2 * 10 ^ q - 1) : Nat) : Int)).length = p + q + 1 := fun hh => by
    refine ⟨?_, ?_⟩
    · unfold Fit
      rw [Int.natAbs_natCast]
      exact Nat.lt_of_lt_of_le hhi (Nat.pow_le_pow_right (by omega) (by omega))
    · rw [itxt_nat]; exact dec_len_eq hlo hhi
  have hbig : ¬ p + q < 200 → ¬ Fit ((10 ^ p * (2 * 10 ^ q - 1) : Nat) : Int) := fun hh hf => by
    unfold Fit at hf
    rw [Int.natAbs_natCast] at hf
    have : 10 ^ 200 ≤ 10 ^ (p + q) := Nat.pow_le_pow_right (by omega) (by omega)
    exact absurd (Nat.lt_of_le_of_lt (Nat.le_trans this hlo) hf) (Nat.lt_irrefl _)
  generalize 10 ^ p * (2 * 10 ^ q - 1) = PR at *
  have o0 : p = 0 → (∀ H lo, (run lib).fn 14 [.str (nn p), .str [49]] H lo = some (.tuple [.str [], .int .i64 30], H)) ∧ ∀ H lo, (run lib).fn 14 [.str [48], .str [49]] H lo = some (.tuple [.str (itxt ((10 ^ p : Nat) : Int)), .int .i64 0], H) := fun hp0 => by
    subst hp0
    refine ⟨fun H lo => add_bad (a := nn 0) (b := [49]) (by decide) H lo, fun H lo => ?_⟩
    have t := add_fit (x := 0) (y := 1) (z := ((10 ^ 0 : Nat) : Int)) fit0 fit1 fP (by decide) H lo
    rw [i0, i1] at t
    exact t
  have o1 : p ≠ 0 → ∀ H lo, (run lib).fn 14 [.str (nn p), .str [49]] H lo = some (.tuple [.str (itxt ((10 ^ p : Nat) : Int)), .int .i64 0], H) := fun hp0 H lo => by
    have fp : Fit (((10 ^ p : Nat) : Int) - 1) := by
      unfold Fit at *
      generalize 10 ^ p = P' at *
      omega
    have t := add_fit (x := ((10 ^ p : Nat) : Int) - 1) (y := 1) (z := ((10 ^ p : Nat) : Int)) fp fit1 fP (by omega) H lo
    rw [nn_itxt (by omega), i1] at t
    exact t
  by_cases g : 0 < x
  · have hw : 0 < cmpN x 0 := by rw [cmp_more g]; omega
    have b1 : ¬ Fit ((B : Int) - 1 + x) := by unfold Fit; rw [← hB]; omega
    have b2 : ¬ Fit (-((B : Int) - 1) - x) := by unfold Fit; rw [← hB]; omega
    rw [outT_bad b1] at s1
    rw [outT_bad b2] at s2
    by_cases s : p + q < 200
    · obtain ⟨f1, f2⟩ := hsm s
      rw [outT_fit f1] at pr
      by_cases z : p = 0
      · exact lim_111 (S1 := []) (S2 := []) m1 n1 s1 ad1 s2 p1 p2 n2 n3 ad2 z (o0 z).1 (o0 z).2 pr c1 hw s hpq f2 ad3 v1 v2 h lo
      · exact lim_110 (S1 := []) (S2 := []) m1 n1 s1 ad1 s2 p1 p2 n2 n3 ad2 z (o1 z) pr c1 hw s hpq f2 ad3 v1 v2 h lo
    · rw [outT_bad (hbig s)] at pr
      by_cases z : p = 0
      · exact lim_101 (S1 := []) (S2 := []) (P := []) m1 n1 s1 ad1 s2 p1 p2 n2 n3 ad2 z (o0 z).1 (o0 z).2 pr c1 hw s hpq ad3 v1 v2 h lo
      · exact lim_100 (S1 := []) (S2 := []) (P := []) m1 n1 s1 ad1 s2 p1 p2 n2 n3 ad2 z (o1 z) pr c1 hw s hpq ad3 v1 v2 h lo
  · have hw : ¬ 0 < cmpN x 0 := by
      rcases Int.lt_or_eq_of_le (show x ≤ 0 by omega) with w | w
      · rw [cmp_less w]; omega
      · rw [w, cmp_eq]; omega
    have b1 : Fit ((B : Int) - 1 + x) := by unfold Fit; rw [← hB]; omega
    have b2 : Fit (-((B : Int) - 1) - x) := by unfold Fit; rw [← hB]; omega
    rw [outT_fit b1] at s1
    rw [outT_fit b2] at s2
    by_cases s : p + q < 200
    · obtain ⟨f1, f2⟩ := hsm s
      rw [outT_fit f1] at pr
      by_cases z : p = 0
      · exact lim_011 m1 n1 s1 ad1 s2 p1 p2 n2 n3 ad2 z (o0 z).1 (o0 z).2 pr c1 hw s hpq f2 ad3 v1 v2 h lo
      · exact lim_010 m1 n1 s1 ad1 s2 p1 p2 n2 n3 ad2 z (o1 z) pr c1 hw s hpq f2 ad3 v1 v2 h lo
    · rw [outT_bad (hbig s)] at pr
      by_cases z : p = 0
      · exact lim_001 (P := []) m1 n1 s1 ad1 s2 p1 p2 n2 n3 ad2 z (o0 z).1 (o0 z).2 pr c1 hw s hpq ad3 v1 v2 h lo
      · exact lim_000 (P := []) m1 n1 s1 ad1 s2 p1 p2 n2 n3 ad2 z (o1 z) pr c1 hw s hpq ad3 v1 v2 h lo
def sh8 : List Shp := [.str, .int .i64, .int .i64]
theorem walk8 (xs : List AV) (ht : TyA sh8 xs) : ∃ h', (run lib).fn 8 xs [] 0 = some (.bool true, h') := by
  simp only [sh8, TyA] at ht
  obtain ⟨c0, r, rfl, t0, c1, r1, rfl, t1, c2, r2, rfl, t2, rfl⟩ := ht
  obtain ⟨a, e0, a1⟩ := str_of' t0
  obtain ⟨b, e1, b1, b2⟩ := int_of' t1
  obtain ⟨c, e2, c1, c2⟩ := int_of' t2
  rw [e0, e1, e2]
  exact ⟨_, limits_run a1 b1 b2 c1 c2 [] 0⟩
end Go.VI.Integer
