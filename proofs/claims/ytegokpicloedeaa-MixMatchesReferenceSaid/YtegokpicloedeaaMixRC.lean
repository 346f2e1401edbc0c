import Derived.Test.YtegokpicloedeaaMixP
import Derived.Test.YtegokpicloedeaaMixR
import Derived.Test.YtegokpicloedeaaMixV
namespace Go.VI.Mix
set_option linter.unusedVariables false
set_option linter.unusedSimpArgs false

theorem right_run (lev fl att rel : Int) (h : Heap) (lo : Nat) : (run lib).fn 50 [.int .i64 lev, .int .i64 fl, .int .i64 att, .int .i64 rel] h lo = some (.bool (inB lev 1 32768 && inB fl 0 1024 && inB att 1 300 && inB rel 1 300), h) := by
  have e3 : ∀ n a b (hh : Heap) lo, (run lib).fn 38 [.int .i64 n, .int .i64 a, .int .i64 b] hh lo = some (.bool (inB n a b), hh) := fun n a b hh lo => in_run n a b hh lo
  rw [run_closed (x := x50) rfl rfl rfl rfl]
  cases h1 : inB lev 1 32768 <;> cases h2 : inB fl 0 1024 <;> cases h3 : inB att 1 300 <;> cases h4 : inB rel 1 300 <;> simp (maxSteps := 1000000) (disch := omega) only [go_sem, ↓reduceIte, Nat.reduceEqDiff, Nat.reduceAdd, Nat.reduceSub, Nat.reduceMul, Nat.reduceLT, Nat.reduceLeDiff, reduceCtorEq, Nat.succ_ne_self, ne_eq, not_true_eq_false, not_false_eq_true, and_self, and_true, true_and, Nat.zero_add, Nat.sub_zero, Nat.zero_mul, Nat.one_mul, Nat.le_refl, List.getElem?_cons_zero, List.set_cons_zero, Int.reduceToNat, Int.reduceLT, Int.reduceLE, Int.reduceAdd, Int.reduceSub, Int.reduceMul, Int.reduceEq, Int.reduceNe, Int.toNat_natCast, Int.natCast_zero, wrap_id, wrapu_id, wrapb_id, idx_ok, bin_quo, bin_rem, tdiv_id, tmod_id, ps_bptr, x50, e3, h1, h2, h3, h4]
theorem on_run {h : Heap} {v : AV} {l : List Int} (hv : Sl h 1 v (ints l)) (hl : l.length ≤ 600) (k : Nat) (hk : k < l.length) (hx : -32768 ≤ l[k] ∧ l[k] ≤ 32767) (lev : Int) (lo : Nat) : (run lib).fn 51 [v, .int .i64 k, .int .i64 lev] h lo = some (.bool (onS lev l[k]), h) := by
  have e3 : sidx 1 v (.int .i64 k) = some k := by rw [sidx_sl hv (by omega) (by simp; omega)]; simp
  have e4 := fun off fr => pc_iptr (off := off) (hv.elems fr) (show k < (ints l).length by simp; omega)
  have e40 := fun off => pc_iptr (off := off) hv.elems0 (show k < (ints l).length by simp; omega)
  simp only [ints_get] at e4 e40
  rw [run_closed (x := x51) rfl rfl rfl rfl]
  simp (maxSteps := 1000000) (disch := omega) only [go_sem, ↓reduceIte, Nat.reduceEqDiff, Nat.reduceAdd, Nat.reduceSub, Nat.reduceMul, Nat.reduceLT, Nat.reduceLeDiff, reduceCtorEq, Nat.succ_ne_self, ne_eq, not_true_eq_false, not_false_eq_true, and_self, and_true, true_and, Nat.zero_add, Nat.sub_zero, Nat.zero_mul, Nat.one_mul, Nat.le_refl, List.getElem?_cons_zero, List.set_cons_zero, Int.reduceToNat, Int.reduceLT, Int.reduceLE, Int.reduceAdd, Int.reduceSub, Int.reduceMul, Int.reduceEq, Int.reduceNe, Int.toNat_natCast, Int.natCast_zero, wrap_id, wrapu_id, wrapb_id, idx_ok, bin_quo, bin_rem, tdiv_id, tmod_id, ps_bptr, x51, e3, e4, e40, onS]

/-! The least gain of a window. -/
theorem lastS_any : ∀ (q : List Bool) (a b : Int), (∃ x ∈ q, x = true) → lastS a q = lastS b q
  | [], a, b, h => by simp at h
  | c :: q, a, b, h => by
    rw [lastS, lastS]
    cases c with
    | true => rfl
    | false =>
      refine lastS_any q _ _ ?_
      obtain ⟨x, hx, rfl⟩ := h
      exact ⟨true, by simpa using hx, rfl⟩
/-- The least gain, of the samples before `k`. -/
def lstAt (lev fl : Int) (att rel : Nat) (l : List Int) (i k : Nat) : Int :=
  if k ≤ i then rampS fl rel (lastS 1200 ((l.take k).map (onS lev)) + ((i - k : Nat) : Int) + 1)
  else min (rampS fl rel (lastS 1200 ((l.take (i + 1)).map (onS lev)))) (rampS fl att (lastS 1200 (((l.drop i).take (k - i)).map (onS lev)).reverse))
theorem lstAt_le {lev fl : Int} {att rel : Nat} {l : List Int} {i k : Nat} (h : k ≤ i) : lstAt lev fl att rel l i k = rampS fl rel (lastS 1200 ((l.take k).map (onS lev)) + ((i - k : Nat) : Int) + 1) := if_pos h
theorem lstAt_gt {lev fl : Int} {att rel : Nat} {l : List Int} {i k : Nat} (h : i < k) : lstAt lev fl att rel l i k = min (rampS fl rel (lastS 1200 ((l.take (i + 1)).map (onS lev)))) (rampS fl att (lastS 1200 (((l.drop i).take (k - i)).map (onS lev)).reverse)) := if_neg (by omega)
theorem lstAt_start {lev fl : Int} {att rel : Nat} {l : List Int} {i : Nat} (hr : 1 ≤ rel ∧ rel ≤ 300) : lstAt lev fl att rel l i (i - rel) = 1024 := by
  unfold lstAt
  rw [if_pos (by omega)]
  refine rampS_full (by omega) ?_
  have := (lastS_bd ((l.take (i - rel)).map (onS lev)) 1200 (by omega)).1
  by_cases c : rel ≤ i
  · omega
  · have c0 : i - rel = 0 := by omega
    rw [c0]
    simp only [List.take_zero, List.map_nil, lastS]
    omega
theorem rampS_le {fl : Int} {long : Nat} (hfl : 0 ≤ fl ∧ fl ≤ 1024) (hl : 1 ≤ long) {d d' : Int} (h0 : 0 ≤ d) (h : d ≤ d') : rampS fl long d ≤ rampS fl long d' := rampS_mono (by omega) (by omega) h0 h
theorem lstAt_step {lev fl : Int} {att rel : Nat} {l : List Int} {i k : Nat} (hfl : 0 ≤ fl ∧ fl ≤ 1024) (ha : 1 ≤ att ∧ att ≤ 300) (hr : 1 ≤ rel ∧ rel ≤ 300) (hi : i < l.length) (hk : k < l.length) (h1 : i - rel ≤ k) (h2 : k ≤ i + att) :
    lstAt lev fl att rel l i (k + 1) = if onS lev l[k] = true then (if i ≤ k then min (lstAt lev fl att rel l i k) (rampS fl att ((k - i : Nat) : Int)) else min (lstAt lev fl att rel l i k) (rampS fl rel ((i - k : Nat) : Int))) else lstAt lev fl att rel l i k := by
  by_cases c : i ≤ k
  · rw [if_pos c]
    by_cases c2 : k = i
    · subst c2
      rw [lstAt_gt (k := k + 1) (by omega), lstAt_le (k := k) (Nat.le_refl _), Nat.sub_self, List.take_succ_eq_append_getElem hk, List.map_append, List.map_singleton, lastS_snoc]
      have e1 : k + 1 - k = 1 := by omega
      rw [e1, List.drop_eq_getElem_cons hk]
      simp only [List.take_succ_cons, List.take_zero, List.map_cons, List.map_nil, List.reverse_singleton, lastS]
      have b := (lastS_bd ((l.take k).map (onS lev)) 1200 (by omega)).1
      have e0 : ((0 : Nat) : Int) = 0 := rfl
      rw [e0, Int.add_zero]
      have := rampS_bd (long := rel) (d := lastS 1200 ((l.take k).map (onS lev)) + 1) hfl (by omega) (by omega)
      cases hon : onS lev l[k] with
      | true =>
        simp only [if_true]
        rw [rampS_zero (by omega), rampS_zero (by omega)]
        omega
      | false =>
        simp only [Bool.false_eq_true, if_false]
        rw [rampS_full (long := att) (by omega) (by omega)]
        omega
    · obtain ⟨m, hm⟩ : ∃ m, k = i + m := ⟨k - i, by omega⟩
      have hm0 : 0 < m := by omega
      subst hm
      rw [lstAt_gt (k := i + m + 1) (by omega), lstAt_gt (k := i + m) (by omega)]
      have e1 : i + m + 1 - i = m + 1 := by omega
      have e2 : i + m - i = m := by omega
      rw [e1, e2]
      have hml : m < (l.drop i).length := by simp; omega
      have e3 : (l.drop i).take (m + 1) = (l.drop i).take m ++ [l[i + m]] := by
        rw [List.take_succ_eq_append_getElem hml, List.getElem_drop]
      rw [e3, List.map_append, List.map_singleton, List.reverse_append, List.reverse_singleton, List.singleton_append, lastS]
      obtain ⟨q, hq⟩ : ∃ q, q = (((l.drop i).take m).map (onS lev)).reverse := ⟨_, rfl⟩
      have hql : q.length = m := by rw [hq]; simp; omega
      rw [← hq]
      obtain ⟨A, hA⟩ : ∃ A, A = rampS fl rel (lastS 1200 ((l.take (i + 1)).map (onS lev))) := ⟨_, rfl⟩
      rw [← hA]
      by_cases hany : ∃ x ∈ q, x = true
      · rw [lastS_any q _ 1200 hany]
        cases hon : onS lev l[i + m] with
        | false => rfl
        | true =>
          rw [if_pos rfl]
          have hlt : lastS 1200 q ≤ m := by
            rw [lastS_any q 1200 0 hany]
            have := (lastS_bd q 0 (by omega)).2
            omega
          have := rampS_le (long := att) hfl (by omega) (lastS_bd q 1200 (by omega)).1 hlt
          omega
      · have hoff : ∀ b ∈ q, b = false := fun b hb => by
          cases b with
          | false => rfl
          | true => exact absurd ⟨true, hb, rfl⟩ hany
        rw [lastS_off q _ hoff, lastS_off q _ hoff, hql]
        cases hon : onS lev l[i + m] with
        | false =>
          simp only [Bool.false_eq_true, if_false]
          rw [rampS_full (by omega) (by omega), rampS_full (by omega) (by omega)]
        | true =>
          simp only [if_true]
          rw [rampS_full (d := 1200 + (m : Int)) (by omega) (by omega)]
          have := rampS_bd (long := att) (d := (m : Int)) hfl (by omega) (by omega)
          have z : (0 : Int) + m = m := by omega
          rw [z]
          omega
  · rw [if_neg c, lstAt_le (k := k + 1) (by omega), lstAt_le (k := k) (by omega), List.take_succ_eq_append_getElem hk, List.map_append, List.map_singleton, lastS_snoc]
    have b := (lastS_bd ((l.take k).map (onS lev)) 1200 (by omega)).1
    cases hon : onS lev l[k] with
    | false =>
      simp only [Bool.false_eq_true, if_false]
      congr 1; omega
    | true =>
      simp only [if_true]
      have e2 : (0 : Int) + ((i - (k + 1) : Nat) : Int) + 1 = ((i - k : Nat) : Int) := by omega
      rw [e2]
      have := rampS_le (long := rel) hfl (by omega) (d := ((i - k : Nat) : Int)) (d' := lastS 1200 ((l.take k).map (onS lev)) + ((i - k : Nat) : Int) + 1) (by omega) (by omega)
      omega
theorem lstAt_end {lev fl : Int} {att rel : Nat} {l : List Int} {i : Nat} (ha : 1 ≤ att ∧ att ≤ 300) (hi : i < l.length) : lstAt lev fl att rel l i (min l.length (i + att + 1)) = duckAt lev fl att rel l i := by
  unfold lstAt duckAt
  rw [if_neg (by omega)]
  congr 1
  by_cases c : l.length ≤ i + att + 1
  · rw [Nat.min_eq_left c, List.take_of_length_le (by simp)]
  · rw [Nat.min_eq_right (by omega)]
    have e1 : i + att + 1 - i = att + 1 := by omega
    rw [e1]
    have e2 : l.drop i = (l.drop i).take (att + 1) ++ (l.drop i).drop (att + 1) := (List.take_append_drop _ _).symm
    conv => rhs; rw [e2]
    rw [List.map_append, List.reverse_append, lastS_app]
    obtain ⟨q, hq⟩ : ∃ q, q = (((l.drop i).take (att + 1)).map (onS lev)).reverse := ⟨_, rfl⟩
    have hql : q.length = att + 1 := by rw [hq]; simp; omega
    rw [← hq]
    by_cases hany : ∃ x ∈ q, x = true
    · rw [lastS_any q _ 1200 hany]
      exact congrArg _ (lastS_any q _ _ hany)
    · have hoff : ∀ b ∈ q, b = false := fun b hb => by
        cases b with
        | false => rfl
        | true => exact absurd ⟨true, hb, rfl⟩ hany
      rw [lastS_off q _ hoff, lastS_off q _ hoff, hql]
      have := (lastS_bd (((l.drop i).drop (att + 1)).map (onS lev)).reverse 1200 (by omega)).1
      rw [rampS_full (by omega) (by omega), rampS_full (by omega) (by omega)]

/-! Duck -/
theorem rduck_in {H : Heap} {cx : Cx} {v : AV} {l : List Int} (hv : Sl H 1 v (ints l)) (hl : l.length ≤ 600) (hx : ∀ x ∈ l, -32768 ≤ x ∧ x ≤ 32767) (a12 : AV) (lev fl : Int) (att rel : Nat) (hfl : 0 ≤ fl ∧ fl ≤ 1024) (ha : 1 ≤ att ∧ att ≤ 300) (hr : 1 ≤ rel ∧ rel ≤ 300) (i e : Nat) (hi : i < l.length) (he : e = min l.length (i + att + 1)) (d : Nat) :
    ∀ k : Nat, d = e - k → k ≤ e → i - rel ≤ k →
    runC lib cx (.loop b28_1) ([(0, v), (1, .int .i64 lev), (2, .int .i64 fl), (3, .int .i64 att), (4, .int .i64 rel), (12, a12), (13, .int .i64 i), (14, .int .i64 (lstAt lev fl att rel l i k)), (15, .int .i64 k)], H) =
      some (.exit 2, ([(0, v), (1, .int .i64 lev), (2, .int .i64 fl), (3, .int .i64 att), (4, .int .i64 rel), (12, a12), (13, .int .i64 i), (14, .int .i64 (duckAt lev fl att rel l i))], H)) := by
  have hvl := hv.len
  rw [ints_len] at hvl
  induction d with
  | zero =>
    intro k hd hk hk2
    have hke : k = e := by omega
    have hend := lstAt_end (lev := lev) (fl := fl) (att := att) (rel := rel) (l := l) ha hi
    rw [← he, ← hke] at hend
    rw [w_loop, hend]
    by_cases c1 : (k : Int) < l.length
    · have c2 : ¬ (k : Int) ≤ i + att := by omega
      simp (maxSteps := 1000000) (disch := omega) only [go_sem, ↓reduceIte, Nat.reduceEqDiff, Nat.reduceAdd, Nat.reduceSub, Nat.reduceMul, Nat.reduceLT, Nat.reduceLeDiff, reduceCtorEq, Nat.succ_ne_self, ne_eq, not_true_eq_false, not_false_eq_true, and_self, and_true, true_and, Nat.zero_add, Nat.sub_zero, Nat.zero_mul, Nat.one_mul, Nat.le_refl, List.getElem?_cons_zero, List.set_cons_zero, Int.reduceToNat, Int.reduceLT, Int.reduceLE, Int.reduceAdd, Int.reduceSub, Int.reduceMul, Int.reduceEq, Int.reduceNe, Int.toNat_natCast, Int.natCast_zero, wrap_id, wrapu_id, wrapb_id, idx_ok, bin_quo, bin_rem, tdiv_id, tmod_id, ps_bptr, lenv_sl hvl, c1, c2]
    · simp (maxSteps := 1000000) (disch := omega) only [go_sem, ↓reduceIte, Nat.reduceEqDiff, Nat.reduceAdd, Nat.reduceSub, Nat.reduceMul, Nat.reduceLT, Nat.reduceLeDiff, reduceCtorEq, Nat.succ_ne_self, ne_eq, not_true_eq_false, not_false_eq_true, and_self, and_true, true_and, Nat.zero_add, Nat.sub_zero, Nat.zero_mul, Nat.one_mul, Nat.le_refl, List.getElem?_cons_zero, List.set_cons_zero, Int.reduceToNat, Int.reduceLT, Int.reduceLE, Int.reduceAdd, Int.reduceSub, Int.reduceMul, Int.reduceEq, Int.reduceNe, Int.toNat_natCast, Int.natCast_zero, wrap_id, wrapu_id, wrapb_id, idx_ok, bin_quo, bin_rem, tdiv_id, tmod_id, ps_bptr, lenv_sl hvl, c1]
  | succ d ih =>
    intro k hd hk hk2
    have hk' : k < l.length := by omega
    have c1 : (k : Int) < l.length := by omega
    have c2 : (k : Int) ≤ i + att := by omega
    have hb := hx _ (List.getElem_mem hk')
    have o := fun lo => on_run hv hl k hk' hb lev lo
    have e1 := ih (k + 1) (by omega) (by omega) (by omega)
    rw [cast1, lstAt_step hfl ha hr hi hk' hk2 (by omega)] at e1
    obtain ⟨L, hL⟩ : ∃ L, L = lstAt lev fl att rel l i k := ⟨_, rfl⟩
    rw [← hL] at e1 ⊢
    rw [w_loop]
    cases c3 : onS lev l[k] with
    | false =>
      rw [c3] at o e1
      simp only [Bool.false_eq_true, if_false] at e1
      simp (maxSteps := 1000000) (disch := omega) only [go_sem, ↓reduceIte, Nat.reduceEqDiff, Nat.reduceAdd, Nat.reduceSub, Nat.reduceMul, Nat.reduceLT, Nat.reduceLeDiff, reduceCtorEq, Nat.succ_ne_self, ne_eq, not_true_eq_false, not_false_eq_true, and_self, and_true, true_and, Nat.zero_add, Nat.sub_zero, Nat.zero_mul, Nat.one_mul, Nat.le_refl, List.getElem?_cons_zero, List.set_cons_zero, Int.reduceToNat, Int.reduceLT, Int.reduceLE, Int.reduceAdd, Int.reduceSub, Int.reduceMul, Int.reduceEq, Int.reduceNe, Int.toNat_natCast, Int.natCast_zero, wrap_id, wrapu_id, wrapb_id, idx_ok, bin_quo, bin_rem, tdiv_id, tmod_id, ps_bptr, lenv_sl hvl, c1, c2, o, e1]
    | true =>
      rw [c3] at o e1
      simp only [if_true] at e1
      by_cases c4 : i ≤ k
      · have c5 : (i : Int) ≤ k := by omega
        rw [if_pos c4] at e1
        have hd1 : ((k - i : Nat) : Int) = (k : Int) - i := by omega
        have hmn : min ((k : Int) - i) (att : Int) = (k : Int) - i := by omega
        obtain ⟨b1, b2, b3, b4⟩ := ramp_bd (fl := fl) (long := att) (d := (k : Int) - i) hfl.1 hfl.2 (by omega) (by omega)
        rw [hmn] at b1 b2 b3 b4
        rw [rampS, hd1, hmn] at e1
        obtain ⟨q, hq⟩ : ∃ q, q = (1024 - fl) * ((k : Int) - i) := ⟨_, rfl⟩
        rw [← hq] at b1 b2 b3 b4 e1
        simp (maxSteps := 1000000) (disch := omega) only [go_sem, ↓reduceIte, Nat.reduceEqDiff, Nat.reduceAdd, Nat.reduceSub, Nat.reduceMul, Nat.reduceLT, Nat.reduceLeDiff, reduceCtorEq, Nat.succ_ne_self, ne_eq, not_true_eq_false, not_false_eq_true, and_self, and_true, true_and, Nat.zero_add, Nat.sub_zero, Nat.zero_mul, Nat.one_mul, Nat.le_refl, List.getElem?_cons_zero, List.set_cons_zero, Int.reduceToNat, Int.reduceLT, Int.reduceLE, Int.reduceAdd, Int.reduceSub, Int.reduceMul, Int.reduceEq, Int.reduceNe, Int.toNat_natCast, Int.natCast_zero, wrap_id, wrapu_id, wrapb_id, idx_ok, bin_quo, bin_rem, tdiv_id, tmod_id, ps_bptr, lenv_sl hvl, c1, c2, o, c5, ← hq, e1]
      · have c5 : ¬ (i : Int) ≤ k := by omega
        rw [if_neg c4] at e1
        have hd1 : ((i - k : Nat) : Int) = (i : Int) - k := by omega
        have hmn : min ((i : Int) - k) (rel : Int) = (i : Int) - k := by omega
        obtain ⟨b1, b2, b3, b4⟩ := ramp_bd (fl := fl) (long := rel) (d := (i : Int) - k) hfl.1 hfl.2 (by omega) (by omega)
        rw [hmn] at b1 b2 b3 b4
        rw [rampS, hd1, hmn] at e1
        obtain ⟨q, hq⟩ : ∃ q, q = (1024 - fl) * ((i : Int) - k) := ⟨_, rfl⟩
        rw [← hq] at b1 b2 b3 b4 e1
        simp (maxSteps := 1000000) (disch := omega) only [go_sem, ↓reduceIte, Nat.reduceEqDiff, Nat.reduceAdd, Nat.reduceSub, Nat.reduceMul, Nat.reduceLT, Nat.reduceLeDiff, reduceCtorEq, Nat.succ_ne_self, ne_eq, not_true_eq_false, not_false_eq_true, and_self, and_true, true_and, Nat.zero_add, Nat.sub_zero, Nat.zero_mul, Nat.one_mul, Nat.le_refl, List.getElem?_cons_zero, List.set_cons_zero, Int.reduceToNat, Int.reduceLT, Int.reduceLE, Int.reduceAdd, Int.reduceSub, Int.reduceMul, Int.reduceEq, Int.reduceNe, Int.toNat_natCast, Int.natCast_zero, wrap_id, wrapu_id, wrapb_id, idx_ok, bin_quo, bin_rem, tdiv_id, tmod_id, ps_bptr, lenv_sl hvl, c1, c2, o, c5, ← hq, e1]
theorem rduck_out {h : Heap} {v : AV} {l : List Int} (hv : Sl h 1 v (ints l)) (hl : l.length ≤ 600) (hx : ∀ x ∈ l, -32768 ≤ x ∧ x ≤ 32767) (lev fl : Int) (att rel : Nat) (hfl : 0 ≤ fl ∧ fl ≤ 1024) (ha : 1 ≤ att ∧ att ≤ 300) (hr : 1 ≤ rel ∧ rel ≤ 300) (d : Nat) :
    ∀ i : Nat, d = l.length - i → i ≤ l.length →
    runC lib ⟨h.length, h.length, 1, none⟩ (.loop b28_0) ([(0, v), (1, .int .i64 lev), (2, .int .i64 fl), (3, .int .i64 att), (4, .int .i64 rel), (12, accV (h.length + 0) (0, .dead) 1 (ints ((duckS lev fl att rel l).take i))), (13, .int .i64 i)], h ++ [accB (0, .dead) 1 (ints ((duckS lev fl att rel l).take i))]) =
      some (.exit 0, ([(12, accV (h.length + 0) (0, .dead) 1 (ints (duckS lev fl att rel l)))], h ++ [accB (0, .dead) 1 (ints (duckS lev fl att rel l))])) := by
  have hvl := hv.len
  rw [ints_len] at hvl
  have hsl := duckS_len lev fl att rel l
  induction d with
  | zero =>
    intro i hd hi
    have c1 : ¬ (i : Int) < l.length := by omega
    rw [List.take_of_length_le (by omega), w_loop]
    simp (maxSteps := 1000000) (disch := omega) only [go_sem, ↓reduceIte, Nat.reduceEqDiff, Nat.reduceAdd, Nat.reduceSub, Nat.reduceMul, Nat.reduceLT, Nat.reduceLeDiff, reduceCtorEq, Nat.succ_ne_self, ne_eq, not_true_eq_false, not_false_eq_true, and_self, and_true, true_and, Nat.zero_add, Nat.sub_zero, Nat.zero_mul, Nat.one_mul, Nat.le_refl, List.getElem?_cons_zero, List.set_cons_zero, Int.reduceToNat, Int.reduceLT, Int.reduceLE, Int.reduceAdd, Int.reduceSub, Int.reduceMul, Int.reduceEq, Int.reduceNe, Int.toNat_natCast, Int.natCast_zero, wrap_id, wrapu_id, wrapb_id, idx_ok, bin_quo, bin_rem, tdiv_id, tmod_id, ps_bptr, lenv_sl hvl, c1]
  | succ d ih =>
    intro i hd hi
    have hi' : i < l.length := by omega
    have c1 : (i : Int) < l.length := by omega
    have hin := rduck_in (cx := ⟨h.length, h.length, 1, none⟩) (hv.app [accB (0, .dead) 1 (ints ((duckS lev fl att rel l).take i))]) hl hx (accV (h.length + 0) (0, .dead) 1 (ints ((duckS lev fl att rel l).take i))) lev fl att rel hfl ha hr i _ hi' rfl _ (i - rel) rfl (by omega) (Nat.le_refl _)
    have hst : ((i - rel : Nat) : Int) = max ((i : Int) - rel) 0 := by omega
    rw [lstAt_start hr, hst] at hin
    have hg : (duckS lev fl att rel l)[i]'(by omega) = duckAt lev fl att rel l i := by simp [duckS]
    have e5 := app_acc (lo := h.length) (ns := 1) (s := 0) (z := 1) (lim := 17592186044416) (h := h) (fr := [accB (0, .dead) 1 (ints ((duckS lev fl att rel l).take i))]) (b0 := (0, .dead)) (es := ints ((duckS lev fl att rel l).take i)) (xs := [.int .i64 (duckAt lev fl att rel l i)]) (by omega) (by omega) rfl (by simp; omega)
    have e6 : ints ((duckS lev fl att rel l).take i) ++ [.int .i64 (duckAt lev fl att rel l i)] = ints ((duckS lev fl att rel l).take (i + 1)) := by
      rw [List.take_succ_eq_append_getElem (by omega), hg]; simp [ints]
    rw [e6] at e5
    have e := ih (i + 1) (by omega) (by omega)
    rw [cast1] at e
    rw [w_loop]
    simp (maxSteps := 1000000) (disch := omega) only [go_sem, ↓reduceIte, Nat.reduceEqDiff, Nat.reduceAdd, Nat.reduceSub, Nat.reduceMul, Nat.reduceLT, Nat.reduceLeDiff, reduceCtorEq, Nat.succ_ne_self, ne_eq, not_true_eq_false, not_false_eq_true, and_self, and_true, true_and, Nat.zero_add, Nat.sub_zero, Nat.zero_mul, Nat.one_mul, Nat.le_refl, List.getElem?_cons_zero, List.set_cons_zero, Int.reduceToNat, Int.reduceLT, Int.reduceLE, Int.reduceAdd, Int.reduceSub, Int.reduceMul, Int.reduceEq, Int.reduceNe, Int.toNat_natCast, Int.natCast_zero, wrap_id, wrapu_id, wrapb_id, idx_ok, bin_quo, bin_rem, tdiv_id, tmod_id, ps_bptr, lenv_sl hvl, c1, hin, e5, e]
theorem rduck_run {h : Heap} {v : AV} {l : List Int} (hv : Sl h 1 v (ints l)) (hl : l.length ≤ 9223372036854775807) (lev fl att rel : Int) (lo : Nat) :
    (run lib).fn 28 [v, .int .i64 lev, .int .i64 fl, .int .i64 att, .int .i64 rel] h lo =
      some (if duckOk l lev fl att rel = true then .tuple [ownV 1 (ints (duckS lev fl att rel l)), .int .i64 0] else .tuple [.own 0 [], .int .i64 170], h) := by
  have e1 := fun fr lo => rsound_run (hv.app fr) hl lo
  have hdk : duckOk l lev fl att rel = (soundB l && (inB lev 1 32768 && inB fl 0 1024 && inB att 1 300 && inB rel 1 300)) := by simp [duckOk, Bool.and_assoc]
  rw [run_closed (x := x28) rfl rfl rfl rfl, hdk]
  cases h1 : soundB l with
  | false => rw [h1] at e1; simp (maxSteps := 1000000) (disch := omega) only [go_sem, ↓reduceIte, Nat.reduceEqDiff, Nat.reduceAdd, Nat.reduceSub, Nat.reduceMul, Nat.reduceLT, Nat.reduceLeDiff, reduceCtorEq, Nat.succ_ne_self, ne_eq, not_true_eq_false, not_false_eq_true, and_self, and_true, true_and, Nat.zero_add, Nat.sub_zero, Nat.zero_mul, Nat.one_mul, Nat.le_refl, List.getElem?_cons_zero, List.set_cons_zero, Int.reduceToNat, Int.reduceLT, Int.reduceLE, Int.reduceAdd, Int.reduceSub, Int.reduceMul, Int.reduceEq, Int.reduceNe, Int.toNat_natCast, Int.natCast_zero, wrap_id, wrapu_id, wrapb_id, idx_ok, bin_quo, bin_rem, tdiv_id, tmod_id, ps_bptr, x28, e1, Bool.false_and]
  | true =>
  rw [h1] at e1
  cases h2 : (inB lev 1 32768 && inB fl 0 1024 && inB att 1 300 && inB rel 1 300) with
  | false => simp (maxSteps := 1000000) (disch := omega) only [go_sem, ↓reduceIte, Nat.reduceEqDiff, Nat.reduceAdd, Nat.reduceSub, Nat.reduceMul, Nat.reduceLT, Nat.reduceLeDiff, reduceCtorEq, Nat.succ_ne_self, ne_eq, not_true_eq_false, not_false_eq_true, and_self, and_true, true_and, Nat.zero_add, Nat.sub_zero, Nat.zero_mul, Nat.one_mul, Nat.le_refl, List.getElem?_cons_zero, List.set_cons_zero, Int.reduceToNat, Int.reduceLT, Int.reduceLE, Int.reduceAdd, Int.reduceSub, Int.reduceMul, Int.reduceEq, Int.reduceNe, Int.toNat_natCast, Int.natCast_zero, wrap_id, wrapu_id, wrapb_id, idx_ok, bin_quo, bin_rem, tdiv_id, tmod_id, ps_bptr, x28, e1, right_run, h2]
  | true =>
    have h3 := h2
    simp only [Bool.and_eq_true, inB_iff] at h3
    obtain ⟨⟨⟨b2, b3⟩, b4⟩, b5⟩ := h3
    obtain ⟨A, rfl⟩ : ∃ A : Nat, att = A := ⟨att.toNat, by omega⟩
    obtain ⟨R, rfl⟩ : ∃ R : Nat, rel = R := ⟨rel.toNat, by omega⟩
    have e := rduck_out (h := h) hv (soundB_le h1) (soundB_in h1) lev fl A R b3 (by omega) (by omega) _ 0 rfl (by omega)
    simp only [List.take_zero, ints, List.map_nil, accV_nil, accB_nil, Int.natCast_zero] at e
    have e2 := give_acc (s := 0) (z := 1) (h := h) (fr := [accB (0, .dead) 1 (ints (duckS lev fl A R l))]) (b0 := (0, .dead)) (es := ints (duckS lev fl A R l)) rfl
    simp only [ints] at e2 ⊢
    simp (maxSteps := 1000000) (disch := omega) only [go_sem, ↓reduceIte, Nat.reduceEqDiff, Nat.reduceAdd, Nat.reduceSub, Nat.reduceMul, Nat.reduceLT, Nat.reduceLeDiff, reduceCtorEq, Nat.succ_ne_self, ne_eq, not_true_eq_false, not_false_eq_true, and_self, and_true, true_and, Nat.zero_add, Nat.sub_zero, Nat.zero_mul, Nat.one_mul, Nat.le_refl, List.getElem?_cons_zero, List.set_cons_zero, Int.reduceToNat, Int.reduceLT, Int.reduceLE, Int.reduceAdd, Int.reduceSub, Int.reduceMul, Int.reduceEq, Int.reduceNe, Int.toNat_natCast, Int.natCast_zero, wrap_id, wrapu_id, wrapb_id, idx_ok, bin_quo, bin_rem, tdiv_id, tmod_id, ps_bptr, x28, e1, right_run, h2, e, e2]
/-! Under -/
@[go_sem] theorem ckN_accB (v z : Nat) (es : List AV) : ckN (some (accB (v, .dead) z es)) = true := by unfold accB; split <;> rfl
theorem runder_loop {h : Heap} {v u : AV} {l m g : List Int} (hv : Sl h 1 v (ints l)) (hu : Sl h 1 u (ints m)) (hl : l.length ≤ 600) (hm : m.length = l.length) (hg : g.length = l.length)
    (hlx : ∀ x ∈ l, -32768 ≤ x ∧ x ≤ 32767) (hmx : ∀ x ∈ m, -32768 ≤ x ∧ x ≤ 32767) (hgx : ∀ x ∈ g, 0 ≤ x ∧ x ≤ 1024) (d : Nat) :
    ∀ k : Nat, d = l.length - k → k ≤ l.length →
    runC lib ⟨h.length, h.length, 1, none⟩ (.loop b30_0) ([(0, v), (1, u), (14, lstV 1 (ints g)), (16, accV (h.length + 0) (0, .dead) 1 (ints ((underS l m g).take k))), (17, .int .i64 k)], h ++ [accB (0, .dead) 1 (ints ((underS l m g).take k))]) =
      some (.exit 0, ([(16, accV (h.length + 0) (0, .dead) 1 (ints (underS l m g)))], h ++ [accB (0, .dead) 1 (ints (underS l m g))])) := by
  have hul := underS_len l m g
  have hvl := hv.len
  rw [ints_len] at hvl
  have hr := Sl.lstV h 1 (ints g)
  induction d with
  | zero =>
    intro k hd hk
    have c1 : ¬ (k : Int) < l.length := by omega
    rw [List.take_of_length_le (by omega), w_loop]
    simp (maxSteps := 1000000) (disch := omega) only [go_sem, ↓reduceIte, Nat.reduceEqDiff, Nat.reduceAdd, Nat.reduceSub, Nat.reduceMul, Nat.reduceLT, Nat.reduceLeDiff, reduceCtorEq, Nat.succ_ne_self, ne_eq, not_true_eq_false, not_false_eq_true, and_self, and_true, true_and, Nat.zero_add, Nat.sub_zero, Nat.zero_mul, Nat.one_mul, Nat.le_refl, List.getElem?_cons_zero, List.set_cons_zero, Int.reduceToNat, Int.reduceLT, Int.reduceLE, Int.reduceAdd, Int.reduceSub, Int.reduceMul, Int.reduceEq, Int.reduceNe, Int.toNat_natCast, Int.natCast_zero, wrap_id, wrapu_id, wrapb_id, idx_ok, bin_quo, bin_rem, tdiv_id, tmod_id, ps_bptr, lenv_sl hvl, c1]
  | succ d ih =>
    intro k hd hk
    have hk' : k < l.length := by omega
    have c1 : (k : Int) < l.length := by omega
    have s0 : sidx 1 (lstV 1 (ints g)) (.int .i64 k) = some k := by rw [sidx_sl hr (by omega) (by simp; omega)]; simp
    have s1 : sidx 1 v (.int .i64 k) = some k := by rw [sidx_sl hv (by omega) (by simp; omega)]; simp
    have s2 : sidx 1 u (.int .i64 k) = some k := by rw [sidx_sl hu (by omega) (by simp; omega)]; simp
    have p0 := fun off fr => pc_iptr (off := off) (hr.elems fr) (show k < (ints g).length by simp; omega)
    have p1 := fun off fr => pc_iptr (off := off) (hv.elems fr) (show k < (ints l).length by simp; omega)
    have p2 := fun off fr => pc_iptr (off := off) (hu.elems fr) (show k < (ints m).length by simp; omega)
    simp only [ints_get] at p0 p1 p2
    have b1 := hlx _ (List.getElem_mem (show k < l.length by omega))
    have b2 := hmx _ (List.getElem_mem (show k < m.length by omega))
    have b3 := hgx _ (List.getElem_mem (show k < g.length by omega))
    have hun : (underS l m g)[k]'(by omega) = roundS (l[k] * 1024 + m[k]'(by omega) * g[k]'(by omega)) := by
      have e1 : l.getD k 0 = l[k] := by simp [List.getD_eq_getElem?_getD, hk']
      have e2 : m.getD k 0 = m[k]'(by omega) := by rw [List.getD_eq_getElem?_getD, List.getElem?_eq_getElem (by omega)]; rfl
      have e3 : g.getD k 0 = g[k]'(by omega) := by rw [List.getD_eq_getElem?_getD, List.getElem?_eq_getElem (by omega)]; rfl
      simp only [underS, List.getElem_map, List.getElem_range, underAt, e1, e2, e3]
    have htk := List.take_succ_eq_append_getElem (l := underS l m g) (i := k) (by omega)
    rw [hun] at htk
    obtain ⟨x, hx⟩ : ∃ x, x = l[k] := ⟨_, rfl⟩
    obtain ⟨y, hy⟩ : ∃ y, y = m[k]'(by omega) := ⟨_, rfl⟩
    obtain ⟨w, hw⟩ : ∃ w, w = g[k]'(by omega) := ⟨_, rfl⟩
    rw [← hx] at p1 b1 htk
    rw [← hy] at p2 b2 htk
    rw [← hw] at p0 b3 htk
    have b4 := mul_bd (A := 32768) (B := 1024) (x := y) (y := w) (by omega) (by omega) b3.1 b3.2
    obtain ⟨q, hq⟩ : ∃ q, q = y * w := ⟨_, rfl⟩
    rw [← hq] at b4 htk
    have e5 := app_acc (lo := h.length) (ns := 1) (s := 0) (z := 1) (lim := 17592186044416) (h := h) (fr := [accB (0, .dead) 1 (ints ((underS l m g).take k))]) (b0 := (0, .dead)) (es := ints ((underS l m g).take k)) (xs := [.int .i64 (roundS (x * 1024 + q))]) (by omega) (by omega) rfl (by simp; omega)
    have e6 : ints ((underS l m g).take k) ++ [.int .i64 (roundS (x * 1024 + q))] = ints ((underS l m g).take (k + 1)) := by
      rw [htk]; simp [ints]
    rw [e6] at e5
    have e := ih (k + 1) (by omega) (by omega)
    rw [cast1] at e
    rw [w_loop]
    clear hlx hmx hgx ih hun htk
    simp (maxSteps := 1000000) (disch := omega) only [go_sem, ↓reduceIte, Nat.reduceEqDiff, Nat.reduceAdd, Nat.reduceSub, Nat.reduceMul, Nat.reduceLT, Nat.reduceLeDiff, reduceCtorEq, Nat.succ_ne_self, ne_eq, not_true_eq_false, not_false_eq_true, and_self, and_true, true_and, Nat.zero_add, Nat.sub_zero, Nat.zero_mul, Nat.one_mul, Nat.le_refl, List.getElem?_cons_zero, List.set_cons_zero, Int.reduceToNat, Int.reduceLT, Int.reduceLE, Int.reduceAdd, Int.reduceSub, Int.reduceMul, Int.reduceEq, Int.reduceNe, Int.toNat_natCast, Int.natCast_zero, wrap_id, wrapu_id, wrapb_id, idx_ok, bin_quo, bin_rem, tdiv_id, tmod_id, ps_bptr, lenv_sl hvl, c1, s0, p0, s1, p1, s2, p2, ← hq, rround_run, e5, e]
theorem runder_run {h : Heap} {v u : AV} {l m : List Int} (hv : Sl h 1 v (ints l)) (hu : Sl h 1 u (ints m)) (hl : l.length ≤ 9223372036854775807) (hm : m.length ≤ 9223372036854775807) (lev fl att rel : Int) (lo : Nat) :
    (run lib).fn 30 [v, u, .int .i64 lev, .int .i64 fl, .int .i64 att, .int .i64 rel] h lo =
      some (if underOk l m lev fl att rel = true then .tuple [ownV 1 (ints (underS l m (duckS lev fl att rel l))), .int .i64 0] else .tuple [.own 0 [], .int .i64 170], h) := by
  have e1 := fun fr lo => rduck_run (hv.app fr) hl lev fl att rel lo
  have e2 := fun fr lo => rsound_run (hu.app fr) hm lo
  have hvl := hv.len
  have hul := hu.len
  simp only [ints_len] at hvl hul
  rw [run_closed (x := x30) rfl rfl rfl rfl]
  unfold underOk
  cases h1 : duckOk l lev fl att rel with
  | false => rw [h1] at e1; simp (maxSteps := 1000000) (disch := omega) only [go_sem, ↓reduceIte, Nat.reduceEqDiff, Nat.reduceAdd, Nat.reduceSub, Nat.reduceMul, Nat.reduceLT, Nat.reduceLeDiff, reduceCtorEq, Nat.succ_ne_self, ne_eq, not_true_eq_false, not_false_eq_true, and_self, and_true, true_and, Nat.zero_add, Nat.sub_zero, Nat.zero_mul, Nat.one_mul, Nat.le_refl, List.getElem?_cons_zero, List.set_cons_zero, Int.reduceToNat, Int.reduceLT, Int.reduceLE, Int.reduceAdd, Int.reduceSub, Int.reduceMul, Int.reduceEq, Int.reduceNe, Int.toNat_natCast, Int.natCast_zero, wrap_id, wrapu_id, wrapb_id, idx_ok, bin_quo, bin_rem, tdiv_id, tmod_id, ps_bptr, x30, e1]
  | true =>
  rw [h1] at e1
  obtain ⟨b1, b2, b3, b4, b5⟩ := duckOk_iff h1
  have hsl := duckS_len lev fl att rel l
  cases h2 : soundB m with
  | false => rw [h2] at e2; simp (maxSteps := 1000000) (disch := omega) only [go_sem, ↓reduceIte, Nat.reduceEqDiff, Nat.reduceAdd, Nat.reduceSub, Nat.reduceMul, Nat.reduceLT, Nat.reduceLeDiff, reduceCtorEq, Nat.succ_ne_self, ne_eq, not_true_eq_false, not_false_eq_true, and_self, and_true, true_and, Nat.zero_add, Nat.sub_zero, Nat.zero_mul, Nat.one_mul, Nat.le_refl, List.getElem?_cons_zero, List.set_cons_zero, Int.reduceToNat, Int.reduceLT, Int.reduceLE, Int.reduceAdd, Int.reduceSub, Int.reduceMul, Int.reduceEq, Int.reduceNe, Int.toNat_natCast, Int.natCast_zero, wrap_id, wrapu_id, wrapb_id, idx_ok, bin_quo, bin_rem, tdiv_id, tmod_id, ps_bptr, x30, e1, e2]
  | true =>
  rw [h2] at e2
  by_cases h3 : m.length = l.length
  · have c3 : ((m.length : Nat) : Int) = (l.length : Nat) := by omega
    have e := runder_loop (h := h) hv hu (soundB_le b1) h3 hsl (soundB_in b1) (soundB_in h2) (fun x hx => by have := duckS_bd l b3 b4.1 b5.1 x hx; omega) _ 0 rfl (by omega)
    simp only [List.take_zero, Int.natCast_zero] at e
    have e0 : accV (h.length + 0) (0, .dead) 1 (ints []) = .nilSl := rfl
    have e00 : accB (0, .dead) 1 (ints []) = (0, .dead) := rfl
    rw [e0, e00] at e
    have e9 := give_acc (s := 0) (z := 1) (h := h) (fr := [accB (0, .dead) 1 (ints (underS l m (duckS lev fl att rel l)))]) (b0 := (0, .dead)) (es := ints (underS l m (duckS lev fl att rel l))) rfl
    simp (maxSteps := 1000000) (disch := omega) only [go_sem, ↓reduceIte, Nat.reduceEqDiff, Nat.reduceAdd, Nat.reduceSub, Nat.reduceMul, Nat.reduceLT, Nat.reduceLeDiff, reduceCtorEq, Nat.succ_ne_self, ne_eq, not_true_eq_false, not_false_eq_true, and_self, and_true, true_and, Nat.zero_add, Nat.sub_zero, Nat.zero_mul, Nat.one_mul, Nat.le_refl, List.getElem?_cons_zero, List.set_cons_zero, Int.reduceToNat, Int.reduceLT, Int.reduceLE, Int.reduceAdd, Int.reduceSub, Int.reduceMul, Int.reduceEq, Int.reduceNe, Int.toNat_natCast, Int.natCast_zero, wrap_id, wrapu_id, wrapb_id, idx_ok, bin_quo, bin_rem, tdiv_id, tmod_id, ps_bptr, x30, e1, e2, lenv_sl hvl, lenv_sl hul, c3, h3, e, e9]
  · have c3 : ¬ ((m.length : Nat) : Int) = (l.length : Nat) := by omega
    simp (maxSteps := 1000000) (disch := omega) only [go_sem, ↓reduceIte, Nat.reduceEqDiff, Nat.reduceAdd, Nat.reduceSub, Nat.reduceMul, Nat.reduceLT, Nat.reduceLeDiff, reduceCtorEq, Nat.succ_ne_self, ne_eq, not_true_eq_false, not_false_eq_true, and_self, and_true, true_and, Nat.zero_add, Nat.sub_zero, Nat.zero_mul, Nat.one_mul, Nat.le_refl, List.getElem?_cons_zero, List.set_cons_zero, Int.reduceToNat, Int.reduceLT, Int.reduceLE, Int.reduceAdd, Int.reduceSub, Int.reduceMul, Int.reduceEq, Int.reduceNe, Int.toNat_natCast, Int.natCast_zero, wrap_id, wrapu_id, wrapb_id, idx_ok, bin_quo, bin_rem, tdiv_id, tmod_id, ps_bptr, x30, e1, e2, lenv_sl hvl, lenv_sl hul, c3, h3]
end Go.VI.Mix
