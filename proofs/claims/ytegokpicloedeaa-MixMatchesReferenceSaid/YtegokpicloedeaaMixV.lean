import Derived.Test.YtegokpicloedeaaMixF
namespace Go.VI.Mix
set_option linter.unusedVariables false
set_option linter.unusedSimpArgs false

/-! The reference's functions. -/
theorem rdown_run (a b : Int) (h : Heap) (lo : Nat) (ha : -1000000000000 ≤ a) (ha' : a ≤ 1000000000000) (hb : 0 < b) (hb' : b ≤ 1000000000000) : (run lib).fn 46 [.int .i64 a, .int .i64 b] h lo = some (.int .i64 (a / b), h) := by
  rw [run_closed (x := x46) rfl rfl rfl rfl]
  by_cases h1 : a < 0
  · obtain ⟨c, rfl⟩ : ∃ c, a = -c := ⟨-a, by omega⟩
    have ht : Int.tdiv (-c) b = -(c / b) := by rw [Int.neg_tdiv, Int.tdiv_eq_ediv_of_nonneg (by omega)]
    have hm : Int.tmod (-c) b = -(c % b) := by rw [Int.neg_tmod, Int.tmod_eq_emod_of_nonneg (by omega)]
    have h2 : 0 ≤ c / b := Int.ediv_nonneg (by omega) (by omega)
    have h3 : c / b ≤ c := Int.ediv_le_self _ (by omega)
    have h4 := Int.emod_nonneg c (show b ≠ 0 by omega)
    have h5 := Int.emod_lt_of_pos c hb
    have h6 := Int.emod_add_mul_ediv c b
    by_cases h7 : c % b = 0
    · have h8 : ¬ -(c % b) < 0 := by omega
      have e : (-c) / b = -(c / b) := by
        rw [Int.ediv_eq_iff_of_pos hb, Int.neg_mul, Int.mul_comm (c / b) b]; omega
      simp (maxSteps := 1000000) (disch := omega) only [go_sem, ↓reduceIte, Nat.reduceEqDiff, Nat.reduceAdd, Nat.reduceSub, Nat.reduceMul, Nat.reduceLT, Nat.reduceLeDiff, reduceCtorEq, Nat.succ_ne_self, ne_eq, not_true_eq_false, not_false_eq_true, and_self, and_true, true_and, Nat.zero_add, Nat.sub_zero, Nat.zero_mul, Nat.one_mul, Nat.le_refl, List.getElem?_cons_zero, List.set_cons_zero, Int.reduceToNat, Int.reduceLT, Int.reduceLE, Int.reduceAdd, Int.reduceSub, Int.reduceMul, Int.reduceEq, Int.reduceNe, Int.toNat_natCast, Int.natCast_zero, wrap_id, wrapu_id, wrapb_id, idx_ok, bin_quo, bin_rem, tdiv_id, tmod_id, ps_bptr, x46, ht, hm, h8, e]
    · have h8 : -(c % b) < 0 := by omega
      have e : (-c) / b = -(c / b) - 1 := by
        rw [Int.ediv_eq_iff_of_pos hb, Int.sub_mul, Int.neg_mul, Int.mul_comm (c / b) b]; omega
      simp (maxSteps := 1000000) (disch := omega) only [go_sem, ↓reduceIte, Nat.reduceEqDiff, Nat.reduceAdd, Nat.reduceSub, Nat.reduceMul, Nat.reduceLT, Nat.reduceLeDiff, reduceCtorEq, Nat.succ_ne_self, ne_eq, not_true_eq_false, not_false_eq_true, and_self, and_true, true_and, Nat.zero_add, Nat.sub_zero, Nat.zero_mul, Nat.one_mul, Nat.le_refl, List.getElem?_cons_zero, List.set_cons_zero, Int.reduceToNat, Int.reduceLT, Int.reduceLE, Int.reduceAdd, Int.reduceSub, Int.reduceMul, Int.reduceEq, Int.reduceNe, Int.toNat_natCast, Int.natCast_zero, wrap_id, wrapu_id, wrapb_id, idx_ok, bin_quo, bin_rem, tdiv_id, tmod_id, ps_bptr, x46, ht, hm, h8, e]
  · have h2 : 0 ≤ a / b := Int.ediv_nonneg (by omega) (by omega)
    have h3 : a / b ≤ a := Int.ediv_le_self _ (by omega)
    have h4 := Int.emod_nonneg a (show b ≠ 0 by omega)
    have h5 := Int.emod_lt_of_pos a hb
    have h8 : ¬ a % b < 0 := by omega
    simp (maxSteps := 1000000) (disch := omega) only [go_sem, ↓reduceIte, Nat.reduceEqDiff, Nat.reduceAdd, Nat.reduceSub, Nat.reduceMul, Nat.reduceLT, Nat.reduceLeDiff, reduceCtorEq, Nat.succ_ne_self, ne_eq, not_true_eq_false, not_false_eq_true, and_self, and_true, true_and, Nat.zero_add, Nat.sub_zero, Nat.zero_mul, Nat.one_mul, Nat.le_refl, List.getElem?_cons_zero, List.set_cons_zero, Int.reduceToNat, Int.reduceLT, Int.reduceLE, Int.reduceAdd, Int.reduceSub, Int.reduceMul, Int.reduceEq, Int.reduceNe, Int.toNat_natCast, Int.natCast_zero, wrap_id, wrapu_id, wrapb_id, idx_ok, bin_quo, bin_rem, tdiv_id, tmod_id, ps_bptr, x46, h8]
theorem rround_run (x : Int) (h : Heap) (lo : Nat) (h1 : -900000000000 ≤ x) (h2 : x ≤ 900000000000) : (run lib).fn 42 [.int .i64 x] h lo = some (.int .i64 (roundS x), h) := by
  rw [run_closed (x := x42) rfl rfl rfl rfl]
  simp (maxSteps := 1000000) (disch := omega) only [go_sem, ↓reduceIte, Nat.reduceEqDiff, Nat.reduceAdd, Nat.reduceSub, Nat.reduceMul, Nat.reduceLT, Nat.reduceLeDiff, reduceCtorEq, Nat.succ_ne_self, ne_eq, not_true_eq_false, not_false_eq_true, and_self, and_true, true_and, Nat.zero_add, Nat.sub_zero, Nat.zero_mul, Nat.one_mul, Nat.le_refl, List.getElem?_cons_zero, List.set_cons_zero, Int.reduceToNat, Int.reduceLT, Int.reduceLE, Int.reduceAdd, Int.reduceSub, Int.reduceMul, Int.reduceEq, Int.reduceNe, Int.toNat_natCast, Int.natCast_zero, wrap_id, wrapu_id, wrapb_id, idx_ok, bin_quo, bin_rem, tdiv_id, tmod_id, ps_bptr, x42, rdown_run, roundS]
theorem rsound_loop {H : Heap} {cx : Cx} {v : AV} {l : List Int} (hv : Sl H 1 v (ints l)) (hl : l.length ≤ 9223372036854775807) (d : Nat) : ∀ k : Nat, d = l.length - k → k ≤ l.length →
    runC lib cx (.loop b44_0) ([(0, v), (3, .int .i64 k)], H) = if (l.drop k).all okS = true then some (.exit 0, ([(0, v)], H)) else some (.ret, ([(2, .bool false)], H)) := by
  have hvl := hv.len
  rw [ints_len] at hvl
  induction d with
  | zero =>
    intro k hd hk
    have c1 : ¬ (k : Int) < l.length := by omega
    rw [w_loop, List.drop_of_length_le (by omega)]
    simp (maxSteps := 1000000) (disch := omega) only [go_sem, ↓reduceIte, Nat.reduceEqDiff, Nat.reduceAdd, Nat.reduceSub, Nat.reduceMul, Nat.reduceLT, Nat.reduceLeDiff, reduceCtorEq, Nat.succ_ne_self, ne_eq, not_true_eq_false, not_false_eq_true, and_self, and_true, true_and, Nat.zero_add, Nat.sub_zero, Nat.zero_mul, Nat.one_mul, Nat.le_refl, List.getElem?_cons_zero, List.set_cons_zero, Int.reduceToNat, Int.reduceLT, Int.reduceLE, Int.reduceAdd, Int.reduceSub, Int.reduceMul, Int.reduceEq, Int.reduceNe, Int.toNat_natCast, Int.natCast_zero, wrap_id, wrapu_id, wrapb_id, idx_ok, bin_quo, bin_rem, tdiv_id, tmod_id, ps_bptr, lenv_sl hvl, c1, List.all_nil]
  | succ d ih =>
    intro k hd hk
    have hk' : k < l.length := by omega
    have c1 : (k : Int) < l.length := by omega
    have e3 : sidx 1 v (.int .i64 k) = some k := by rw [sidx_sl hv (by omega) (by simp; omega)]; simp
    have e4 := fun off => pc_iptr (off := off) hv.elems0 (show k < (ints l).length by simp; omega)
    simp only [ints_get] at e4
    have e := ih (k + 1) (by omega) (by omega)
    rw [cast1] at e
    rw [List.drop_eq_getElem_cons hk', List.all_cons, w_loop]
    obtain ⟨x, hx⟩ : ∃ x, x = l[k] := ⟨_, rfl⟩
    rw [← hx] at e4 ⊢
    cases c2 : (decide (-32768 ≤ x) && decide (x ≤ 32767)) <;> simp (maxSteps := 1000000) (disch := omega) only [go_sem, ↓reduceIte, Nat.reduceEqDiff, Nat.reduceAdd, Nat.reduceSub, Nat.reduceMul, Nat.reduceLT, Nat.reduceLeDiff, reduceCtorEq, Nat.succ_ne_self, ne_eq, not_true_eq_false, not_false_eq_true, and_self, and_true, true_and, Nat.zero_add, Nat.sub_zero, Nat.zero_mul, Nat.one_mul, Nat.le_refl, List.getElem?_cons_zero, List.set_cons_zero, Int.reduceToNat, Int.reduceLT, Int.reduceLE, Int.reduceAdd, Int.reduceSub, Int.reduceMul, Int.reduceEq, Int.reduceNe, Int.toNat_natCast, Int.natCast_zero, wrap_id, wrapu_id, wrapb_id, idx_ok, bin_quo, bin_rem, tdiv_id, tmod_id, ps_bptr, lenv_sl hvl, c1, e3, e4, in_run, okS, c2, e]
theorem rsound_run {h : Heap} {v : AV} {l : List Int} (hv : Sl h 1 v (ints l)) (hl : l.length ≤ 9223372036854775807) (lo : Nat) : (run lib).fn 44 [v] h lo = some (.bool (soundB l), h) := by
  have e := rsound_loop (cx := ⟨h.length, h.length, 0, none⟩) hv hl _ 0 rfl (by omega)
  have hvl := hv.len
  rw [ints_len] at hvl
  rw [Int.natCast_zero, List.drop_zero] at e
  rw [run_closed (x := x44) rfl rfl rfl rfl]
  unfold soundB
  cases hb : l.all okS <;> rw [hb] at e <;> simp (maxSteps := 1000000) (disch := omega) only [go_sem, ↓reduceIte, Nat.reduceEqDiff, Nat.reduceAdd, Nat.reduceSub, Nat.reduceMul, Nat.reduceLT, Nat.reduceLeDiff, reduceCtorEq, Nat.succ_ne_self, ne_eq, not_true_eq_false, not_false_eq_true, and_self, and_true, true_and, Nat.zero_add, Nat.sub_zero, Nat.zero_mul, Nat.one_mul, Nat.le_refl, List.getElem?_cons_zero, List.set_cons_zero, Int.reduceToNat, Int.reduceLT, Int.reduceLE, Int.reduceAdd, Int.reduceSub, Int.reduceMul, Int.reduceEq, Int.reduceNe, Int.toNat_natCast, Int.natCast_zero, wrap_id, wrapu_id, wrapb_id, idx_ok, bin_quo, bin_rem, tdiv_id, tmod_id, ps_bptr, x44, lenv_sl hvl, e]
theorem rcurve_loop {H : Heap} {cx : Cx} {v : AV} {l : List (Int × Int)} (hv : Sl H 2 v (pts l)) (hl : l.length ≤ 9223372036854775807) (d : Nat) : ∀ (k : Nat) (last : Int), d = l.length - k → k ≤ l.length → (k = 0 ∧ last = -1 ∨ 0 < k ∧ 0 ≤ last ∧ ∀ h : k - 1 < l.length, l[k - 1].1 = last) →
    runC lib cx (.loop b37_0) ([(0, v), (3, .int .i64 k)], H) = if curveB last (l.drop k) = true then some (.exit 0, ([(0, v)], H)) else some (.ret, ([(2, .bool false)], H)) := by
  have hvl := hv.len
  rw [pts_len] at hvl
  induction d with
  | zero =>
    intro k last hd hk hla
    have c1 : ¬ (k : Int) < l.length := by omega
    rw [w_loop, List.drop_of_length_le (by omega)]
    simp (maxSteps := 1000000) (disch := omega) only [go_sem, ↓reduceIte, Nat.reduceEqDiff, Nat.reduceAdd, Nat.reduceSub, Nat.reduceMul, Nat.reduceLT, Nat.reduceLeDiff, reduceCtorEq, Nat.succ_ne_self, ne_eq, not_true_eq_false, not_false_eq_true, and_self, and_true, true_and, Nat.zero_add, Nat.sub_zero, Nat.zero_mul, Nat.one_mul, Nat.le_refl, List.getElem?_cons_zero, List.set_cons_zero, Int.reduceToNat, Int.reduceLT, Int.reduceLE, Int.reduceAdd, Int.reduceSub, Int.reduceMul, Int.reduceEq, Int.reduceNe, Int.toNat_natCast, Int.natCast_zero, wrap_id, wrapu_id, wrapb_id, idx_ok, bin_quo, bin_rem, tdiv_id, tmod_id, ps_bptr, lenv_sl hvl, c1, curveB]
  | succ d ih =>
    intro k last hd hk hla
    have hk' : k < l.length := by omega
    have c1 : (k : Int) < l.length := by omega
    have e3 : sidx 2 v (.int .i64 k) = some k := by rw [sidx_sl hv (by omega) (by simp; omega)]; simp
    have e4 := fun off => pc_iptr (off := off) hv.elems0 (show k < (pts l).length by simp; omega)
    simp only [pts_get, pt] at e4
    rw [List.drop_eq_getElem_cons hk', w_loop]
    obtain ⟨p, hp⟩ : ∃ p, p = l[k] := ⟨_, rfl⟩
    rw [← hp] at e4 ⊢
    have hcb : curveB last (p :: l.drop (k + 1)) = ((decide (0 ≤ p.1) && decide (p.1 ≤ 599)) && (decide (0 ≤ p.2) && decide (p.2 ≤ 4096)) && !(decide (0 < (k : Int)) && decide (p.1 ≤ last)) && curveB p.1 (l.drop (k + 1))) := by
      simp only [curveB]
      cases curveB p.1 (l.drop (k + 1)) <;> simp only [Bool.and_false, Bool.and_true]
      rw [Bool.eq_iff_iff]
      simp only [Bool.and_eq_true, decide_eq_true_eq, Bool.not_eq_true', Bool.and_eq_false_iff, decide_eq_false_iff_not]
      have : k = 0 ∧ last = -1 ∨ 0 < k ∧ 0 ≤ last := hla.imp id fun h => ⟨h.1, h.2.1⟩
      omega
    rw [hcb]
    cases c2 : (decide (0 ≤ p.1) && decide (p.1 ≤ 599)) with
    | false => simp (maxSteps := 1000000) (disch := omega) only [go_sem, ↓reduceIte, Nat.reduceEqDiff, Nat.reduceAdd, Nat.reduceSub, Nat.reduceMul, Nat.reduceLT, Nat.reduceLeDiff, reduceCtorEq, Nat.succ_ne_self, ne_eq, not_true_eq_false, not_false_eq_true, and_self, and_true, true_and, Nat.zero_add, Nat.sub_zero, Nat.zero_mul, Nat.one_mul, Nat.le_refl, List.getElem?_cons_zero, List.set_cons_zero, Int.reduceToNat, Int.reduceLT, Int.reduceLE, Int.reduceAdd, Int.reduceSub, Int.reduceMul, Int.reduceEq, Int.reduceNe, Int.toNat_natCast, Int.natCast_zero, wrap_id, wrapu_id, wrapb_id, idx_ok, bin_quo, bin_rem, tdiv_id, tmod_id, ps_bptr, lenv_sl hvl, c1, e3, e4, in_run, c2]
    | true =>
    cases c3 : (decide (0 ≤ p.2) && decide (p.2 ≤ 4096)) with
    | false => simp (maxSteps := 1000000) (disch := omega) only [go_sem, ↓reduceIte, Nat.reduceEqDiff, Nat.reduceAdd, Nat.reduceSub, Nat.reduceMul, Nat.reduceLT, Nat.reduceLeDiff, reduceCtorEq, Nat.succ_ne_self, ne_eq, not_true_eq_false, not_false_eq_true, and_self, and_true, true_and, Nat.zero_add, Nat.sub_zero, Nat.zero_mul, Nat.one_mul, Nat.le_refl, List.getElem?_cons_zero, List.set_cons_zero, Int.reduceToNat, Int.reduceLT, Int.reduceLE, Int.reduceAdd, Int.reduceSub, Int.reduceMul, Int.reduceEq, Int.reduceNe, Int.toNat_natCast, Int.natCast_zero, wrap_id, wrapu_id, wrapb_id, idx_ok, bin_quo, bin_rem, tdiv_id, tmod_id, ps_bptr, lenv_sl hvl, c1, e3, e4, in_run, c2, c3]
    | true =>
    simp only [Bool.and_eq_true, decide_eq_true_eq] at c2
    have c2' : (decide (0 ≤ p.1) && decide (p.1 ≤ 599)) = true := by simpa using c2
    by_cases c4 : 0 < (k : Int)
    · obtain ⟨_, hl0, hlast⟩ : 0 < k ∧ 0 ≤ last ∧ ∀ h : k - 1 < l.length, l[k - 1].1 = last := by
        rcases hla with ⟨h, _⟩ | h
        · omega
        · exact h
      have f3 : sidx 2 v (.int .i64 (max ((k : Int) - 1) 0)) = some (k - 1) := by rw [sidx_sl hv (by omega) (by simp; omega)]; congr 1; omega
      have f4 := fun off => pc_iptr (off := off) hv.elems0 (show k - 1 < (pts l).length by simp; omega)
      simp only [pts_get, pt, hlast] at f4
      by_cases c5 : p.1 ≤ last
      · simp (maxSteps := 1000000) (disch := omega) only [go_sem, ↓reduceIte, Nat.reduceEqDiff, Nat.reduceAdd, Nat.reduceSub, Nat.reduceMul, Nat.reduceLT, Nat.reduceLeDiff, reduceCtorEq, Nat.succ_ne_self, ne_eq, not_true_eq_false, not_false_eq_true, and_self, and_true, true_and, Nat.zero_add, Nat.sub_zero, Nat.zero_mul, Nat.one_mul, Nat.le_refl, List.getElem?_cons_zero, List.set_cons_zero, Int.reduceToNat, Int.reduceLT, Int.reduceLE, Int.reduceAdd, Int.reduceSub, Int.reduceMul, Int.reduceEq, Int.reduceNe, Int.toNat_natCast, Int.natCast_zero, wrap_id, wrapu_id, wrapb_id, idx_ok, bin_quo, bin_rem, tdiv_id, tmod_id, ps_bptr, lenv_sl hvl, c1, e3, e4, f3, f4, in_run, c2', c3, c4, c5]
      · have e := ih (k + 1) p.1 (by omega) (by omega) (.inr ⟨by omega, by omega, fun h => by simp only [Nat.add_sub_cancel]; rw [hp]⟩)
        rw [cast1] at e
        simp (maxSteps := 1000000) (disch := omega) only [go_sem, ↓reduceIte, Nat.reduceEqDiff, Nat.reduceAdd, Nat.reduceSub, Nat.reduceMul, Nat.reduceLT, Nat.reduceLeDiff, reduceCtorEq, Nat.succ_ne_self, ne_eq, not_true_eq_false, not_false_eq_true, and_self, and_true, true_and, Nat.zero_add, Nat.sub_zero, Nat.zero_mul, Nat.one_mul, Nat.le_refl, List.getElem?_cons_zero, List.set_cons_zero, Int.reduceToNat, Int.reduceLT, Int.reduceLE, Int.reduceAdd, Int.reduceSub, Int.reduceMul, Int.reduceEq, Int.reduceNe, Int.toNat_natCast, Int.natCast_zero, wrap_id, wrapu_id, wrapb_id, idx_ok, bin_quo, bin_rem, tdiv_id, tmod_id, ps_bptr, lenv_sl hvl, c1, e3, e4, f3, f4, in_run, c2', c3, c4, c5, e, Bool.not_false, Bool.and_self, Bool.true_and]
    · have e := ih (k + 1) p.1 (by omega) (by omega) (.inr ⟨by omega, by omega, fun h => by simp only [Nat.add_sub_cancel]; rw [hp]⟩)
      rw [cast1] at e
      simp (maxSteps := 1000000) (disch := omega) only [go_sem, ↓reduceIte, Nat.reduceEqDiff, Nat.reduceAdd, Nat.reduceSub, Nat.reduceMul, Nat.reduceLT, Nat.reduceLeDiff, reduceCtorEq, Nat.succ_ne_self, ne_eq, not_true_eq_false, not_false_eq_true, and_self, and_true, true_and, Nat.zero_add, Nat.sub_zero, Nat.zero_mul, Nat.one_mul, Nat.le_refl, List.getElem?_cons_zero, List.set_cons_zero, Int.reduceToNat, Int.reduceLT, Int.reduceLE, Int.reduceAdd, Int.reduceSub, Int.reduceMul, Int.reduceEq, Int.reduceNe, Int.toNat_natCast, Int.natCast_zero, wrap_id, wrapu_id, wrapb_id, idx_ok, bin_quo, bin_rem, tdiv_id, tmod_id, ps_bptr, lenv_sl hvl, c1, e3, e4, in_run, c2', c3, c4, e, Bool.not_false, Bool.and_self, Bool.true_and]
theorem rcurve_run {h : Heap} {v : AV} {l : List (Int × Int)} (hv : Sl h 2 v (pts l)) (hl : l.length ≤ 9223372036854775807) (lo : Nat) : (run lib).fn 37 [v] h lo = some (.bool (curveB (-1) l && decide ((l.length : Int) ≤ 12)), h) := by
  have e := rcurve_loop (cx := ⟨h.length, h.length, 0, none⟩) hv hl _ 0 (-1) rfl (by omega) (.inl ⟨rfl, rfl⟩)
  have hvl := hv.len
  rw [pts_len] at hvl
  rw [Int.natCast_zero, List.drop_zero] at e
  rw [run_closed (x := x37) rfl rfl rfl rfl]
  cases hb : curveB (-1) l <;> rw [hb] at e <;> simp (maxSteps := 1000000) (disch := omega) only [go_sem, ↓reduceIte, Nat.reduceEqDiff, Nat.reduceAdd, Nat.reduceSub, Nat.reduceMul, Nat.reduceLT, Nat.reduceLeDiff, reduceCtorEq, Nat.succ_ne_self, ne_eq, not_true_eq_false, not_false_eq_true, and_self, and_true, true_and, Nat.zero_add, Nat.sub_zero, Nat.zero_mul, Nat.one_mul, Nat.le_refl, List.getElem?_cons_zero, List.set_cons_zero, Int.reduceToNat, Int.reduceLT, Int.reduceLE, Int.reduceAdd, Int.reduceSub, Int.reduceMul, Int.reduceEq, Int.reduceNe, Int.toNat_natCast, Int.natCast_zero, wrap_id, wrapu_id, wrapb_id, idx_ok, bin_quo, bin_rem, tdiv_id, tmod_id, ps_bptr, x37, lenv_sl hvl, e]
theorem rvalid_loop {H : Heap} {cx : Cx} {v : AV} {l : List Trk} (hv : Sl H 3 v (trks l)) (hl : l.length ≤ 9223372036854775807) (hz : ∀ t ∈ l, okT t) (d : Nat) : ∀ k : Nat, d = l.length - k → k ≤ l.length →
    runC lib cx (.loop b23_0) ([(0, v), (3, .int .i64 k)], H) = if (l.drop k).all vT = true then some (.exit 0, ([(0, v)], H)) else some (.ret, ([(2, .bool false)], H)) := by
  have hvl := hv.len
  rw [trks_len] at hvl
  induction d with
  | zero =>
    intro k hd hk
    have c1 : ¬ (k : Int) < l.length := by omega
    rw [w_loop, List.drop_of_length_le (by omega)]
    simp (maxSteps := 1000000) (disch := omega) only [go_sem, ↓reduceIte, Nat.reduceEqDiff, Nat.reduceAdd, Nat.reduceSub, Nat.reduceMul, Nat.reduceLT, Nat.reduceLeDiff, reduceCtorEq, Nat.succ_ne_self, ne_eq, not_true_eq_false, not_false_eq_true, and_self, and_true, true_and, Nat.zero_add, Nat.sub_zero, Nat.zero_mul, Nat.one_mul, Nat.le_refl, List.getElem?_cons_zero, List.set_cons_zero, Int.reduceToNat, Int.reduceLT, Int.reduceLE, Int.reduceAdd, Int.reduceSub, Int.reduceMul, Int.reduceEq, Int.reduceNe, Int.toNat_natCast, Int.natCast_zero, wrap_id, wrapu_id, wrapb_id, idx_ok, bin_quo, bin_rem, tdiv_id, tmod_id, ps_bptr, lenv_sl hvl, c1, List.all_nil]
  | succ d ih =>
    intro k hd hk
    have hk' : k < l.length := by omega
    have c1 : (k : Int) < l.length := by omega
    have e3 : sidx 3 v (.int .i64 k) = some k := by rw [sidx_sl hv (by omega) (by simp; omega)]; simp
    have e4 := fun off => pc_iptr (off := off) hv.elems0 (show k < (trks l).length by simp; omega)
    simp only [trks_get, trk] at e4
    have hz' := hz l[k] (List.getElem_mem _)
    have e := ih (k + 1) (by omega) (by omega)
    rw [cast1] at e
    rw [List.drop_eq_getElem_cons hk', List.all_cons, w_loop]
    obtain ⟨t, ht⟩ : ∃ t, t = l[k] := ⟨_, rfl⟩
    rw [← ht] at e4 hz' ⊢
    have s1 := fun lo => rsound_run (hz'.z.sls H) hz'.s lo
    have s2 := fun lo => rcurve_run (hz'.z.slg H) hz'.g lo
    have s3 := lenv_sl (hz'.z.sls H).len
    have f1 := hz'.f.1
    have f2 := hz'.f.2
    cases c2 : soundB t.sm with
    | false => simp (maxSteps := 1000000) (disch := omega) only [go_sem, ↓reduceIte, Nat.reduceEqDiff, Nat.reduceAdd, Nat.reduceSub, Nat.reduceMul, Nat.reduceLT, Nat.reduceLeDiff, reduceCtorEq, Nat.succ_ne_self, ne_eq, not_true_eq_false, not_false_eq_true, and_self, and_true, true_and, Nat.zero_add, Nat.sub_zero, Nat.zero_mul, Nat.one_mul, Nat.le_refl, List.getElem?_cons_zero, List.set_cons_zero, Int.reduceToNat, Int.reduceLT, Int.reduceLE, Int.reduceAdd, Int.reduceSub, Int.reduceMul, Int.reduceEq, Int.reduceNe, Int.toNat_natCast, Int.natCast_zero, wrap_id, wrapu_id, wrapb_id, idx_ok, bin_quo, bin_rem, tdiv_id, tmod_id, ps_bptr, lenv_sl hvl, c1, e3, e4, s1, c2, vT]
    | true =>
    have hsl := soundB_len c2
    cases c3 : (curveB (-1) t.gn && decide ((t.gn.length : Int) ≤ 12)) with
    | false => simp (maxSteps := 1000000) (disch := omega) only [go_sem, ↓reduceIte, Nat.reduceEqDiff, Nat.reduceAdd, Nat.reduceSub, Nat.reduceMul, Nat.reduceLT, Nat.reduceLeDiff, reduceCtorEq, Nat.succ_ne_self, ne_eq, not_true_eq_false, not_false_eq_true, and_self, and_true, true_and, Nat.zero_add, Nat.sub_zero, Nat.zero_mul, Nat.one_mul, Nat.le_refl, List.getElem?_cons_zero, List.set_cons_zero, Int.reduceToNat, Int.reduceLT, Int.reduceLE, Int.reduceAdd, Int.reduceSub, Int.reduceMul, Int.reduceEq, Int.reduceNe, Int.toNat_natCast, Int.natCast_zero, wrap_id, wrapu_id, wrapb_id, idx_ok, bin_quo, bin_rem, tdiv_id, tmod_id, ps_bptr, lenv_sl hvl, c1, e3, e4, s1, s2, c2, c3, vT]
    | true =>
    cases c4 : (decide (0 ≤ t.fr) && decide (t.fr ≤ 600 - t.sm.length)) with
    | false => simp (maxSteps := 1000000) (disch := omega) only [go_sem, ↓reduceIte, Nat.reduceEqDiff, Nat.reduceAdd, Nat.reduceSub, Nat.reduceMul, Nat.reduceLT, Nat.reduceLeDiff, reduceCtorEq, Nat.succ_ne_self, ne_eq, not_true_eq_false, not_false_eq_true, and_self, and_true, true_and, Nat.zero_add, Nat.sub_zero, Nat.zero_mul, Nat.one_mul, Nat.le_refl, List.getElem?_cons_zero, List.set_cons_zero, Int.reduceToNat, Int.reduceLT, Int.reduceLE, Int.reduceAdd, Int.reduceSub, Int.reduceMul, Int.reduceEq, Int.reduceNe, Int.toNat_natCast, Int.natCast_zero, wrap_id, wrapu_id, wrapb_id, idx_ok, bin_quo, bin_rem, tdiv_id, tmod_id, ps_bptr, lenv_sl hvl, c1, e3, e4, s1, s2, s3, ints_len, c2, c3, in_run, c4, vT]
    | true => simp (maxSteps := 1000000) (disch := omega) only [go_sem, ↓reduceIte, Nat.reduceEqDiff, Nat.reduceAdd, Nat.reduceSub, Nat.reduceMul, Nat.reduceLT, Nat.reduceLeDiff, reduceCtorEq, Nat.succ_ne_self, ne_eq, not_true_eq_false, not_false_eq_true, and_self, and_true, true_and, Nat.zero_add, Nat.sub_zero, Nat.zero_mul, Nat.one_mul, Nat.le_refl, List.getElem?_cons_zero, List.set_cons_zero, Int.reduceToNat, Int.reduceLT, Int.reduceLE, Int.reduceAdd, Int.reduceSub, Int.reduceMul, Int.reduceEq, Int.reduceNe, Int.toNat_natCast, Int.natCast_zero, wrap_id, wrapu_id, wrapb_id, idx_ok, bin_quo, bin_rem, tdiv_id, tmod_id, ps_bptr, lenv_sl hvl, c1, e3, e4, s1, s2, s3, ints_len, c2, c3, in_run, c4, vT, e]
theorem rvalid_run {h : Heap} {v : AV} {l : List Trk} (hv : Sl h 3 v (trks l)) (hl : l.length ≤ 9223372036854775807) (hz : ∀ t ∈ l, okT t) (lo : Nat) : (run lib).fn 23 [v] h lo = some (.bool (validB l), h) := by
  have e := rvalid_loop (cx := ⟨h.length, h.length, 0, none⟩) hv hl hz _ 0 rfl (by omega)
  have hvl := hv.len
  rw [trks_len] at hvl
  rw [Int.natCast_zero, List.drop_zero] at e
  rw [run_closed (x := x23) rfl rfl rfl rfl]
  unfold validB
  cases hb : l.all vT <;> rw [hb] at e <;> simp (maxSteps := 1000000) (disch := omega) only [go_sem, ↓reduceIte, Nat.reduceEqDiff, Nat.reduceAdd, Nat.reduceSub, Nat.reduceMul, Nat.reduceLT, Nat.reduceLeDiff, reduceCtorEq, Nat.succ_ne_self, ne_eq, not_true_eq_false, not_false_eq_true, and_self, and_true, true_and, Nat.zero_add, Nat.sub_zero, Nat.zero_mul, Nat.one_mul, Nat.le_refl, List.getElem?_cons_zero, List.set_cons_zero, Int.reduceToNat, Int.reduceLT, Int.reduceLE, Int.reduceAdd, Int.reduceSub, Int.reduceMul, Int.reduceEq, Int.reduceNe, Int.toNat_natCast, Int.natCast_zero, wrap_id, wrapu_id, wrapb_id, idx_ok, bin_quo, bin_rem, tdiv_id, tmod_id, ps_bptr, x23, lenv_sl hvl, e]
theorem rgain_loop {h : Heap} {v : AV} {l : List (Int × Int)} (hv : Sl h 2 v (pts l)) (hl : l.length ≤ 1000) (hc : Crv l) (t : Int) (ht : 0 ≤ t) (ht' : t ≤ 1000) (d : Nat) : ∀ (k v0 v1 : Nat) (b0 b1 : Blk), d = l.length - k → (hk : k < l.length) → l[k].1 ≤ t →
    ∃ fr, (runC lib ⟨h.length, h.length, 2, none⟩ (.loop b39_0) ([(0, v), (1, .int .i64 t), (5, .int .i64 k)], h ++ [(v0, b0), (v1, b1)]) = some (.exit 0, ([(0, v)], h ++ fr)) ∧ (l[l.length - 1]'(by omega)).1 ≤ t) ∨
      runC lib ⟨h.length, h.length, 2, none⟩ (.loop b39_0) ([(0, v), (1, .int .i64 t), (5, .int .i64 k)], h ++ [(v0, b0), (v1, b1)]) = some (.ret, ([(4, .int .i64 (gainS l t))], h ++ fr)) := by
  have hvl := hv.len
  rw [pts_len] at hvl
  induction d with
  | zero => intro k v0 v1 b0 b1 hd hk; omega
  | succ d ih =>
    intro k v0 v1 b0 b1 hd hk hkt
    by_cases h1 : k + 1 < l.length
    · have c1 : (k : Int) + 1 < l.length := by omega
      have e3 : sidx 2 v (.int .i64 k) = some k := by rw [sidx_sl hv (by omega) (by simp; omega)]; simp
      have e4 := fun off fr => pc_iptr (off := off) (hv.elems fr) (show k < (pts l).length by simp; omega)
      have f3 : sidx 2 v (.int .i64 ((k : Int) + 1)) = some (k + 1) := by rw [sidx_sl hv (by omega) (by simp; omega)]; congr 1
      have f4 := fun off fr => pc_iptr (off := off) (hv.elems fr) (show k + 1 < (pts l).length by simp; omega)
      simp only [pts_get, pt] at e4 f4
      have o1 := hc.ok _ (List.getElem_mem hk)
      have o2 := hc.ok _ (List.getElem_mem h1)
      have u := List.pairwise_iff_getElem.mp hc.up k (k + 1) hk h1 (by omega)
      have c2 : l[k].1 ≤ t := hkt
      by_cases h2 : t < l[k + 1].1
      · have hg := gain_seg hc h1 hkt (by omega)
        obtain ⟨a, ha⟩ : ∃ a, a = l[k] := ⟨_, rfl⟩
        obtain ⟨b, hb⟩ : ∃ b, b = l[k + 1] := ⟨_, rfl⟩
        rw [← ha] at e4 o1 u hkt hg c2
        rw [← hb] at f4 o2 u h2 hg
        obtain ⟨⟨o11, o12, o13, o14⟩, o21, o22, o23, o24⟩ := And.intro o1 o2
        have m := mul_bd (A := 4096) (B := 1000) (x := b.2 - a.2) (y := t - a.1) (by omega) (by omega) (by omega) (by omega)
        have sm := seg_mono (a := a) (b := b) u (s := t) (t := t) (by omega) (by omega) (by omega)
        refine ⟨[(v0 + 1, .box [.int .i64 b.1, .int .i64 b.2]), (v1 + 1, .box [.int .i64 a.1, .int .i64 a.2])], .inr ?_⟩
        rw [hg, w_loop]
        obtain ⟨q, hq⟩ : ∃ q, q = (b.2 - a.2) * (t - a.1) := ⟨_, rfl⟩
        simp only [seg, ← hq] at m sm ⊢
        have sb : 0 ≤ a.2 + q / (b.1 - a.1) ∧ a.2 + q / (b.1 - a.1) ≤ 4096 := by
          by_cases hab : a.2 ≤ b.2
          · have := sm.1 hab; omega
          · have := sm.2 (by omega); omega
        have dv : -4096 ≤ q / (b.1 - a.1) ∧ q / (b.1 - a.1) ≤ 4096 := by omega
        clear ih hc sm hg ha hb
        simp (maxSteps := 1000000) (disch := omega) only [go_sem, ↓reduceIte, Nat.reduceEqDiff, Nat.reduceAdd, Nat.reduceSub, Nat.reduceMul, Nat.reduceLT, Nat.reduceLeDiff, reduceCtorEq, Nat.succ_ne_self, ne_eq, not_true_eq_false, not_false_eq_true, and_self, and_true, true_and, Nat.zero_add, Nat.sub_zero, Nat.zero_mul, Nat.one_mul, Nat.le_refl, List.getElem?_cons_zero, List.set_cons_zero, Int.reduceToNat, Int.reduceLT, Int.reduceLE, Int.reduceAdd, Int.reduceSub, Int.reduceMul, Int.reduceEq, Int.reduceNe, Int.toNat_natCast, Int.natCast_zero, wrap_id, wrapu_id, wrapb_id, idx_ok, bin_quo, bin_rem, tdiv_id, tmod_id, ps_bptr, lenv_sl hvl, c1, e3, e4, f3, f4, c2, h2, rdown_run, ← hq]
      · obtain ⟨fr, e⟩ := ih (k + 1) (v0 + 1) (v1 + 1) (.box [.int .i64 l[k + 1].1, .int .i64 l[k + 1].2]) (.box [.int .i64 l[k].1, .int .i64 l[k].2]) (by omega) h1 (by omega)
        rw [cast1] at e
        refine ⟨fr, ?_⟩
        obtain ⟨a, ha⟩ : ∃ a, a = l[k] := ⟨_, rfl⟩
        obtain ⟨b, hb⟩ : ∃ b, b = l[k + 1] := ⟨_, rfl⟩
        rw [← ha] at e4 e c2 o1
        rw [← hb] at f4 e h2 o2
        obtain ⟨⟨o11, o12, o13, o14⟩, o21, o22, o23, o24⟩ := And.intro o1 o2
        rw [w_loop]
        rcases e with ⟨e, el⟩ | e
        · refine .inl ⟨?_, el⟩
          simp (maxSteps := 1000000) (disch := omega) only [go_sem, ↓reduceIte, Nat.reduceEqDiff, Nat.reduceAdd, Nat.reduceSub, Nat.reduceMul, Nat.reduceLT, Nat.reduceLeDiff, reduceCtorEq, Nat.succ_ne_self, ne_eq, not_true_eq_false, not_false_eq_true, and_self, and_true, true_and, Nat.zero_add, Nat.sub_zero, Nat.zero_mul, Nat.one_mul, Nat.le_refl, List.getElem?_cons_zero, List.set_cons_zero, Int.reduceToNat, Int.reduceLT, Int.reduceLE, Int.reduceAdd, Int.reduceSub, Int.reduceMul, Int.reduceEq, Int.reduceNe, Int.toNat_natCast, Int.natCast_zero, wrap_id, wrapu_id, wrapb_id, idx_ok, bin_quo, bin_rem, tdiv_id, tmod_id, ps_bptr, lenv_sl hvl, c1, e3, e4, f3, f4, c2, h2, e]
        · refine .inr ?_
          simp (maxSteps := 1000000) (disch := omega) only [go_sem, ↓reduceIte, Nat.reduceEqDiff, Nat.reduceAdd, Nat.reduceSub, Nat.reduceMul, Nat.reduceLT, Nat.reduceLeDiff, reduceCtorEq, Nat.succ_ne_self, ne_eq, not_true_eq_false, not_false_eq_true, and_self, and_true, true_and, Nat.zero_add, Nat.sub_zero, Nat.zero_mul, Nat.one_mul, Nat.le_refl, List.getElem?_cons_zero, List.set_cons_zero, Int.reduceToNat, Int.reduceLT, Int.reduceLE, Int.reduceAdd, Int.reduceSub, Int.reduceMul, Int.reduceEq, Int.reduceNe, Int.toNat_natCast, Int.natCast_zero, wrap_id, wrapu_id, wrapb_id, idx_ok, bin_quo, bin_rem, tdiv_id, tmod_id, ps_bptr, lenv_sl hvl, c1, e3, e4, f3, f4, c2, h2, e]
    · have c1 : ¬ (k : Int) + 1 < l.length := by omega
      refine ⟨[(v0, b0), (v1, b1)], .inl ⟨?_, ?_⟩⟩
      · rw [w_loop]
        simp (maxSteps := 1000000) (disch := omega) only [go_sem, ↓reduceIte, Nat.reduceEqDiff, Nat.reduceAdd, Nat.reduceSub, Nat.reduceMul, Nat.reduceLT, Nat.reduceLeDiff, reduceCtorEq, Nat.succ_ne_self, ne_eq, not_true_eq_false, not_false_eq_true, and_self, and_true, true_and, Nat.zero_add, Nat.sub_zero, Nat.zero_mul, Nat.one_mul, Nat.le_refl, List.getElem?_cons_zero, List.set_cons_zero, Int.reduceToNat, Int.reduceLT, Int.reduceLE, Int.reduceAdd, Int.reduceSub, Int.reduceMul, Int.reduceEq, Int.reduceNe, Int.toNat_natCast, Int.natCast_zero, wrap_id, wrapu_id, wrapb_id, idx_ok, bin_quo, bin_rem, tdiv_id, tmod_id, ps_bptr, lenv_sl hvl, c1]
      · have : l[l.length - 1]'(by omega) = l[k] := by congr 1; omega
        rw [this]; exact hkt
theorem rgain_run {h : Heap} {v : AV} {l : List (Int × Int)} (hv : Sl h 2 v (pts l)) (hl : l.length ≤ 1000) (hc : Crv l) (t : Int) (ht : 0 ≤ t) (ht' : t ≤ 1000) (lo : Nat) :
    (run lib).fn 39 [v, .int .i64 t] h lo = some (.int .i64 (gainS l t), h) := by
  have hvl := hv.len
  rw [pts_len] at hvl
  rw [run_closed (x := x39) rfl rfl rfl rfl]
  by_cases h0 : l = []
  · subst h0
    simp (maxSteps := 1000000) (disch := omega) only [go_sem, ↓reduceIte, Nat.reduceEqDiff, Nat.reduceAdd, Nat.reduceSub, Nat.reduceMul, Nat.reduceLT, Nat.reduceLeDiff, reduceCtorEq, Nat.succ_ne_self, ne_eq, not_true_eq_false, not_false_eq_true, and_self, and_true, true_and, Nat.zero_add, Nat.sub_zero, Nat.zero_mul, Nat.one_mul, Nat.le_refl, List.getElem?_cons_zero, List.set_cons_zero, Int.reduceToNat, Int.reduceLT, Int.reduceLE, Int.reduceAdd, Int.reduceSub, Int.reduceMul, Int.reduceEq, Int.reduceNe, Int.toNat_natCast, Int.natCast_zero, wrap_id, wrapu_id, wrapb_id, idx_ok, bin_quo, bin_rem, tdiv_id, tmod_id, ps_bptr, x39, lenv_sl hvl, List.length_nil, Int.natCast_zero, gainS]
  · have hpos := List.length_pos_iff.mpr h0
    have c0 : ¬ (l.length : Int) = 0 := by omega
    have z3 : sidx 2 v (.int .i64 0) = some 0 := by rw [sidx_sl hv (by omega) (by simp; omega)]; simp
    have z4 := fun off fr => pc_iptr (off := off) (hv.elems fr) (show 0 < (pts l).length by simp; omega)
    simp only [pts_get, pt] at z4
    by_cases h1 : t ≤ l[0].1
    · rw [gain_before hpos h1]
      simp (maxSteps := 1000000) (disch := omega) only [go_sem, ↓reduceIte, Nat.reduceEqDiff, Nat.reduceAdd, Nat.reduceSub, Nat.reduceMul, Nat.reduceLT, Nat.reduceLeDiff, reduceCtorEq, Nat.succ_ne_self, ne_eq, not_true_eq_false, not_false_eq_true, and_self, and_true, true_and, Nat.zero_add, Nat.sub_zero, Nat.zero_mul, Nat.one_mul, Nat.le_refl, List.getElem?_cons_zero, List.set_cons_zero, Int.reduceToNat, Int.reduceLT, Int.reduceLE, Int.reduceAdd, Int.reduceSub, Int.reduceMul, Int.reduceEq, Int.reduceNe, Int.toNat_natCast, Int.natCast_zero, wrap_id, wrapu_id, wrapb_id, idx_ok, bin_quo, bin_rem, tdiv_id, tmod_id, ps_bptr, x39, lenv_sl hvl, c0, z3, z4, h1]
    · obtain ⟨fr, e⟩ := rgain_loop hv hl hc t ht ht' _ 0 0 0 .dead .dead rfl hpos (by omega)
      rw [Int.natCast_zero] at e
      rcases e with ⟨e, el⟩ | e
      · rw [gain_after hc hpos el]
        have f3 : sidx 2 v (.int .i64 ((l.length : Int) - 1)) = some (l.length - 1) := by rw [sidx_sl hv (by omega) (by simp; omega)]; congr 1; omega
        have f4 := fun off fr => pc_iptr (off := off) (hv.elems fr) (show l.length - 1 < (pts l).length by simp; omega)
        simp only [pts_get, pt] at f4
        simp (maxSteps := 1000000) (disch := omega) only [go_sem, ↓reduceIte, Nat.reduceEqDiff, Nat.reduceAdd, Nat.reduceSub, Nat.reduceMul, Nat.reduceLT, Nat.reduceLeDiff, reduceCtorEq, Nat.succ_ne_self, ne_eq, not_true_eq_false, not_false_eq_true, and_self, and_true, true_and, Nat.zero_add, Nat.sub_zero, Nat.zero_mul, Nat.one_mul, Nat.le_refl, List.getElem?_cons_zero, List.set_cons_zero, Int.reduceToNat, Int.reduceLT, Int.reduceLE, Int.reduceAdd, Int.reduceSub, Int.reduceMul, Int.reduceEq, Int.reduceNe, Int.toNat_natCast, Int.natCast_zero, wrap_id, wrapu_id, wrapb_id, idx_ok, bin_quo, bin_rem, tdiv_id, tmod_id, ps_bptr, x39, lenv_sl hvl, c0, z3, z4, h1, e, f3, f4]
      · simp (maxSteps := 1000000) (disch := omega) only [go_sem, ↓reduceIte, Nat.reduceEqDiff, Nat.reduceAdd, Nat.reduceSub, Nat.reduceMul, Nat.reduceLT, Nat.reduceLeDiff, reduceCtorEq, Nat.succ_ne_self, ne_eq, not_true_eq_false, not_false_eq_true, and_self, and_true, true_and, Nat.zero_add, Nat.sub_zero, Nat.zero_mul, Nat.one_mul, Nat.le_refl, List.getElem?_cons_zero, List.set_cons_zero, Int.reduceToNat, Int.reduceLT, Int.reduceLE, Int.reduceAdd, Int.reduceSub, Int.reduceMul, Int.reduceEq, Int.reduceNe, Int.toNat_natCast, Int.natCast_zero, wrap_id, wrapu_id, wrapb_id, idx_ok, bin_quo, bin_rem, tdiv_id, tmod_id, ps_bptr, x39, lenv_sl hvl, c0, z3, z4, h1, e]
theorem rGain_run {h : Heap} {v : AV} {l : List (Int × Int)} (hv : Sl h 2 v (pts l)) (hl : l.length ≤ 1000) (t : Int) (lo : Nat) :
    (run lib).fn 16 [v, .int .i64 t] h lo = some (if (curveB (-1) l && decide ((l.length : Int) ≤ 12)) = true ∧ 0 ≤ t ∧ t ≤ 599 then .tuple [.int .i64 (gainS l t), .int .i64 0] else .tuple [.int .i64 0, .int .i64 170], h) := by
  have e1 := rcurve_run hv (by omega) h.length
  rw [run_closed (x := x16) rfl rfl rfl rfl]
  cases h1 : (curveB (-1) l && decide ((l.length : Int) ≤ 12)) with
  | false =>
    rw [h1] at e1
    simp (maxSteps := 1000000) (disch := omega) only [go_sem, ↓reduceIte, Nat.reduceEqDiff, Nat.reduceAdd, Nat.reduceSub, Nat.reduceMul, Nat.reduceLT, Nat.reduceLeDiff, reduceCtorEq, Nat.succ_ne_self, ne_eq, not_true_eq_false, not_false_eq_true, and_self, and_true, true_and, Nat.zero_add, Nat.sub_zero, Nat.zero_mul, Nat.one_mul, Nat.le_refl, List.getElem?_cons_zero, List.set_cons_zero, Int.reduceToNat, Int.reduceLT, Int.reduceLE, Int.reduceAdd, Int.reduceSub, Int.reduceMul, Int.reduceEq, Int.reduceNe, Int.toNat_natCast, Int.natCast_zero, wrap_id, wrapu_id, wrapb_id, idx_ok, bin_quo, bin_rem, tdiv_id, tmod_id, ps_bptr, x16, e1, false_and]
  | true =>
    rw [h1] at e1
    have hc := (curveB_crv (l := l) (last := -1) (by simp only [Bool.and_eq_true] at h1; exact h1.1) (by omega)).1
    cases h2 : (decide (0 ≤ t) && decide (t ≤ 599)) with
    | false =>
      have h3 : ¬ (0 ≤ t ∧ t ≤ 599) := by simpa using h2
      simp (maxSteps := 1000000) (disch := omega) only [go_sem, ↓reduceIte, Nat.reduceEqDiff, Nat.reduceAdd, Nat.reduceSub, Nat.reduceMul, Nat.reduceLT, Nat.reduceLeDiff, reduceCtorEq, Nat.succ_ne_self, ne_eq, not_true_eq_false, not_false_eq_true, and_self, and_true, true_and, Nat.zero_add, Nat.sub_zero, Nat.zero_mul, Nat.one_mul, Nat.le_refl, List.getElem?_cons_zero, List.set_cons_zero, Int.reduceToNat, Int.reduceLT, Int.reduceLE, Int.reduceAdd, Int.reduceSub, Int.reduceMul, Int.reduceEq, Int.reduceNe, Int.toNat_natCast, Int.natCast_zero, wrap_id, wrapu_id, wrapb_id, idx_ok, bin_quo, bin_rem, tdiv_id, tmod_id, ps_bptr, x16, e1, in_run, h2, h3]
    | true =>
      have h3 : (0 ≤ t ∧ t ≤ 599) := by simpa using h2
      have e2 := rgain_run hv hl hc t (by omega) (by omega) h.length
      simp (maxSteps := 1000000) (disch := omega) only [go_sem, ↓reduceIte, Nat.reduceEqDiff, Nat.reduceAdd, Nat.reduceSub, Nat.reduceMul, Nat.reduceLT, Nat.reduceLeDiff, reduceCtorEq, Nat.succ_ne_self, ne_eq, not_true_eq_false, not_false_eq_true, and_self, and_true, true_and, Nat.zero_add, Nat.sub_zero, Nat.zero_mul, Nat.one_mul, Nat.le_refl, List.getElem?_cons_zero, List.set_cons_zero, Int.reduceToNat, Int.reduceLT, Int.reduceLE, Int.reduceAdd, Int.reduceSub, Int.reduceMul, Int.reduceEq, Int.reduceNe, Int.toNat_natCast, Int.natCast_zero, wrap_id, wrapu_id, wrapb_id, idx_ok, bin_quo, bin_rem, tdiv_id, tmod_id, ps_bptr, x16, e1, in_run, h2, h3, e2]
end Go.VI.Mix
