import Derived.Test.YtegokpicloedeaaMixA
namespace Go.VI.Mix
set_option linter.unusedVariables false
set_option linter.unusedSimpArgs false

theorem mul_bd {x y A B : Int} (h1 : -A ≤ x) (h2 : x ≤ A) (h3 : 0 ≤ y) (h4 : y ≤ B) : -(A * B) ≤ x * y ∧ x * y ≤ A * B := by
  have hA : 0 ≤ A := by omega
  have a := Int.mul_le_mul_of_nonneg_right h2 h3
  have b := Int.mul_le_mul_of_nonneg_left h4 hA
  have c := Int.mul_le_mul_of_nonneg_right h1 h3
  rw [Int.neg_mul] at c
  omega
theorem ediv_bd {x b M : Int} (hb : 0 < b) (h1 : -M ≤ x) (h2 : x ≤ M) (hM : 0 ≤ M) : -M ≤ x / b ∧ x / b ≤ M := by
  constructor
  · rw [Int.le_ediv_iff_mul_le hb]
    have := Int.mul_le_mul_of_nonneg_left (show 1 ≤ b by omega) hM
    rw [Int.neg_mul]; omega
  · have : x / b < M + 1 := by
      rw [Int.ediv_lt_iff_lt_mul hb]
      have := Int.mul_le_mul_of_nonneg_left (show 1 ≤ b by omega) (show 0 ≤ M + 1 by omega)
      omega
    omega

def gainFrom (a : Int × Int) : List (Int × Int) → Int → Int
  | [], _ => a.2
  | b :: r, t => if t < b.1 then a.2 + (b.2 - a.2) * (t - a.1) / (b.1 - a.1) else gainFrom b r t
def gainS : List (Int × Int) → Int → Int
  | [], _ => 1024
  | p :: r, t => if t ≤ p.1 then p.2 else gainFrom p r t

/-- Points in order, within bounds. -/
structure Crv (l : List (Int × Int)) : Prop where
  ok : ∀ p ∈ l, okP p
  up : l.Pairwise fun p q => p.1 < q.1
theorem curveB_crv : ∀ {l : List (Int × Int)} {last : Int}, curveB last l = true → -1 ≤ last → Crv l ∧ ∀ p ∈ l, last < p.1
  | [], last, _, _ => ⟨⟨by simp, by simp⟩, by simp⟩
  | p :: r, last, h, hl => by
    simp only [curveB, Bool.and_eq_true, decide_eq_true_eq] at h
    obtain ⟨⟨⟨h1, h2⟩, h3, h4⟩, h5⟩ := h
    obtain ⟨⟨c1, c2⟩, c3⟩ := curveB_crv h5 (by omega)
    refine ⟨⟨fun q hq => ?_, ?_⟩, fun q hq => ?_⟩
    · rcases List.mem_cons.mp hq with rfl | hq
      · exact ⟨by omega, h2, h3, h4⟩
      · exact c1 q hq
    · exact List.pairwise_cons.mpr ⟨c3, c2⟩
    · rcases List.mem_cons.mp hq with rfl | hq
      · omega
      · have := c3 q hq; omega
theorem crv_curveB : ∀ {l : List (Int × Int)} {last : Int}, Crv l → (∀ p ∈ l, last < p.1) → curveB last l = true
  | [], last, _, _ => rfl
  | p :: r, last, ⟨c1, c2⟩, h => by
    simp only [curveB, Bool.and_eq_true, decide_eq_true_eq]
    obtain ⟨h1, h2⟩ := List.pairwise_cons.mp c2
    have := h p (by simp)
    obtain ⟨o1, o2, o3, o4⟩ := c1 p (by simp)
    exact ⟨⟨⟨by omega, o2⟩, o3, o4⟩, crv_curveB ⟨fun q hq => c1 q (by simp [hq]), h2⟩ h1⟩

/-- How many points lie before t. -/
def cntS (l : List (Int × Int)) (t : Int) : Nat := (l.takeWhile fun p => decide (p.1 < t)).length
theorem cntS_le (l : List (Int × Int)) (t : Int) : cntS l t ≤ l.length := by unfold cntS; exact (List.takeWhile_prefix _).length_le
theorem cntS_iff : ∀ {l : List (Int × Int)} (t : Int), Crv l → ∀ x (hx : x < l.length), l[x].1 < t ↔ x < cntS l t
  | [], t, _, x, hx => by simp at hx
  | p :: r, t, ⟨c1, c2⟩, x, hx => by
    obtain ⟨h1, h2⟩ := List.pairwise_cons.mp c2
    unfold cntS
    by_cases hp : p.1 < t
    · rw [List.takeWhile_cons_of_pos (by simpa using hp)]
      cases x with
      | zero => simpa using hp
      | succ x =>
        have := cntS_iff (l := r) t ⟨fun q hq => c1 q (by simp [hq]), h2⟩ x (by simpa using hx)
        simpa [cntS] using this
    · rw [List.takeWhile_cons_of_neg (by simpa using hp)]
      cases x with
      | zero => simpa using hp
      | succ x =>
        have := h1 _ (List.getElem_mem (show x < r.length by simpa using hx))
        simp only [List.getElem_cons_succ, List.length_nil, Nat.not_lt_zero, iff_false]
        omega

theorem gainFrom_hit {a : Int × Int} {r : List (Int × Int)} (hc : Crv (a :: r)) : gainFrom a r a.1 = a.2 := by
  cases r with
  | nil => rfl
  | cons b r =>
    have := (List.pairwise_cons.mp hc.up).1 b (by simp)
    simp [gainFrom, this]
theorem gainFrom_at : ∀ (r : List (Int × Int)) (a : Int × Int) (t : Int), Crv (a :: r) → a.1 < t →
    gainFrom a r t = (if hx : cntS r t < r.length then (if r[cntS r t].1 = t then r[cntS r t].2 else
      let p := (a :: r)[cntS r t]'(by simp; omega)
      p.2 + (r[cntS r t].2 - p.2) * (t - p.1) / (r[cntS r t].1 - p.1)) else ((a :: r)[r.length]'(by simp)).2)
  | [], a, t, _, _ => by simp [gainFrom]
  | b :: r, a, t, hc, ha => by
    obtain ⟨c1, c2⟩ := hc
    have hcb : Crv (b :: r) := ⟨fun q hq => c1 q (by simp [hq]), (List.pairwise_cons.mp c2).2⟩
    unfold gainFrom
    by_cases hb : b.1 < t
    · rw [if_neg (by omega), gainFrom_at r b t hcb hb]
      have e : cntS (b :: r) t = cntS r t + 1 := by unfold cntS; rw [List.takeWhile_cons_of_pos (by simpa using hb)]; rfl
      simp only [e, List.length_cons, Nat.add_lt_add_iff_right, List.getElem_cons_succ]
    · have e : cntS (b :: r) t = 0 := by unfold cntS; rw [List.takeWhile_cons_of_neg (by simpa using hb)]; rfl
      simp only [e, List.length_cons, Nat.zero_lt_succ, dif_pos, List.getElem_cons_zero]
      by_cases h2 : b.1 = t
      · subst h2
        rw [if_neg (by omega), if_pos rfl, gainFrom_hit hcb]
      · rw [if_pos (by omega), if_neg h2]
/-- The gain at a sample, by the number of points before it. -/
theorem gainS_at {l : List (Int × Int)} (hc : Crv l) (t : Int) (h0 : l ≠ []) :
    gainS l t = if hx : cntS l t < l.length then (if l[cntS l t].1 = t ∨ cntS l t = 0 then l[cntS l t].2 else
      (l[cntS l t - 1]'(by omega)).2 + (l[cntS l t].2 - (l[cntS l t - 1]'(by omega)).2) * (t - (l[cntS l t - 1]'(by omega)).1) / (l[cntS l t].1 - (l[cntS l t - 1]'(by omega)).1))
      else (l[l.length - 1]'(by have := List.length_pos_iff.mpr h0; omega)).2 := by
  cases l with
  | nil => exact absurd rfl h0
  | cons a r =>
    simp only [gainS]
    by_cases ha : a.1 < t
    · rw [if_neg (by omega), gainFrom_at r a t hc ha]
      have e : cntS (a :: r) t = cntS r t + 1 := by unfold cntS; rw [List.takeWhile_cons_of_pos (by simpa using ha)]; rfl
      simp [e]
    · rw [if_pos (by omega)]
      have e : cntS (a :: r) t = 0 := by unfold cntS; rw [List.takeWhile_cons_of_neg (by simpa using ha)]; rfl
      simp [e]

theorem gain_run {h : Heap} {v : AV} {l : List (Int × Int)} (hv : Sl h 2 v (pts l)) (hl : l.length ≤ 1000) (hc : Crv l) (t : Int) (ht : 0 ≤ t) (ht' : t ≤ 1000) (lo : Nat) :
    (run lib).fn 36 [v, .int .i64 t] h lo = some (.int .i64 (gainS l t), h) := by
  by_cases h0 : l = []
  · subst h0
    rw [run_closed (x := x36) rfl rfl rfl rfl]
    simp (maxSteps := 1000000) (disch := omega) only [go_sem, ↓reduceIte, Nat.reduceEqDiff, Nat.reduceAdd, Nat.reduceSub, Nat.reduceMul, Nat.reduceLT, Nat.reduceLeDiff, reduceCtorEq, Nat.succ_ne_self, ne_eq, not_true_eq_false, not_false_eq_true, and_self, and_true, true_and, Nat.zero_add, Nat.sub_zero, Nat.zero_mul, Nat.one_mul, Nat.le_refl, List.getElem?_cons_zero, List.set_cons_zero, Int.reduceToNat, Int.reduceLT, Int.reduceLE, Int.reduceAdd, Int.reduceSub, Int.reduceMul, Int.reduceEq, Int.reduceNe, Int.toNat_natCast, Int.natCast_zero, wrap_id, wrapu_id, wrapb_id, idx_ok, bin_quo, bin_rem, tdiv_id, tmod_id, ps_bptr, x36, lenv_sl hv.len, pts_len, List.length_nil, gainS, Int.natCast_zero]
  · rw [gainS_at hc t h0]
    have hpos := List.length_pos_iff.mpr h0
    obtain ⟨r, hr⟩ : ∃ r, r = cntS l t := ⟨_, rfl⟩
    have hrl := cntS_le l t
    have hri := cntS_iff t hc
    have hbs := fun fr lo => bs_run (hv.app fr) hl hc.ok t ht ht' (cntS l t) hri hrl lo
    rw [run_closed (x := x36) rfl rfl rfl rfl]
    rw [← hr] at hrl hbs
    simp only [← hr]
    have c0 : ¬ (l.length : Int) = 0 := by omega
    by_cases hx : r < l.length
    · rw [dif_pos hx]
      have e3 : sidx 2 v (.int .i64 r) = some r := by rw [sidx_sl hv (by omega) (by simp; omega)]; simp
      have e4 := fun off fr => pc_iptr (off := off) (hv.elems fr) (show r < (pts l).length by simp; omega)
      simp only [pts_get, pt] at e4
      by_cases h1 : l[r].1 = t
      · rw [if_pos (.inl h1)]
        simp only [dif_pos hx, h1, decide_true] at hbs
        simp (maxSteps := 1000000) (disch := omega) only [go_sem, ↓reduceIte, Nat.reduceEqDiff, Nat.reduceAdd, Nat.reduceSub, Nat.reduceMul, Nat.reduceLT, Nat.reduceLeDiff, reduceCtorEq, Nat.succ_ne_self, ne_eq, not_true_eq_false, not_false_eq_true, and_self, and_true, true_and, Nat.zero_add, Nat.sub_zero, Nat.zero_mul, Nat.one_mul, Nat.le_refl, List.getElem?_cons_zero, List.set_cons_zero, Int.reduceToNat, Int.reduceLT, Int.reduceLE, Int.reduceAdd, Int.reduceSub, Int.reduceMul, Int.reduceEq, Int.reduceNe, Int.toNat_natCast, Int.natCast_zero, wrap_id, wrapu_id, wrapb_id, idx_ok, bin_quo, bin_rem, tdiv_id, tmod_id, ps_bptr, x36, lenv_sl hv.len, pts_len, c0, hbs, e3, e4]
      · by_cases h2 : r = 0
        · rw [if_pos (.inr h2)]
          simp only [dif_pos hx, h1, decide_false] at hbs
          have c1 : ((r : Int) = 0) := by omega
          simp (maxSteps := 1000000) (disch := omega) only [go_sem, ↓reduceIte, Nat.reduceEqDiff, Nat.reduceAdd, Nat.reduceSub, Nat.reduceMul, Nat.reduceLT, Nat.reduceLeDiff, reduceCtorEq, Nat.succ_ne_self, ne_eq, not_true_eq_false, not_false_eq_true, and_self, and_true, true_and, Nat.zero_add, Nat.sub_zero, Nat.zero_mul, Nat.one_mul, Nat.le_refl, List.getElem?_cons_zero, List.set_cons_zero, Int.reduceToNat, Int.reduceLT, Int.reduceLE, Int.reduceAdd, Int.reduceSub, Int.reduceMul, Int.reduceEq, Int.reduceNe, Int.toNat_natCast, Int.natCast_zero, wrap_id, wrapu_id, wrapb_id, idx_ok, bin_quo, bin_rem, tdiv_id, tmod_id, ps_bptr, x36, lenv_sl hv.len, pts_len, c0, hbs, e3, e4, c1]
          subst h2
          rw [c1] at e3
          simp (maxSteps := 1000000) (disch := omega) only [go_sem, ↓reduceIte, Nat.reduceEqDiff, Nat.reduceAdd, Nat.reduceSub, Nat.reduceMul, Nat.reduceLT, Nat.reduceLeDiff, reduceCtorEq, Nat.succ_ne_self, ne_eq, not_true_eq_false, not_false_eq_true, and_self, and_true, true_and, Nat.zero_add, Nat.sub_zero, Nat.zero_mul, Nat.one_mul, Nat.le_refl, List.getElem?_cons_zero, List.set_cons_zero, Int.reduceToNat, Int.reduceLT, Int.reduceLE, Int.reduceAdd, Int.reduceSub, Int.reduceMul, Int.reduceEq, Int.reduceNe, Int.toNat_natCast, Int.natCast_zero, wrap_id, wrapu_id, wrapb_id, idx_ok, bin_quo, bin_rem, tdiv_id, tmod_id, ps_bptr, e3, e4]
        · rw [if_neg (by rintro (h | h) <;> contradiction)]
          simp only [dif_pos hx, h1, decide_false] at hbs
          have c1 : ¬ ((r : Int) = 0) := by omega
          have c2 : ¬ ((r : Int) = l.length) := by omega
          obtain ⟨q, hq⟩ : ∃ q, r = q + 1 := ⟨r - 1, by omega⟩
          have hql : q < l.length := by omega
          have f3 : sidx 2 v (.int .i64 ((r : Int) - 1)) = some q := by rw [sidx_sl hv (by omega) (by simp; omega)]; simp; omega
          have f4 := fun off fr => pc_iptr (off := off) (hv.elems fr) (show q < (pts l).length by simp; omega)
          simp only [pts_get, pt] at f4
          have o1 := hc.ok _ (List.getElem_mem hx)
          have o2 := hc.ok _ (List.getElem_mem hql)
          have i1 := hri q hql
          have i2 := hri r hx
          have u := List.pairwise_iff_getElem.mp hc.up q r hql hx (by omega)
          have eq : l[r - 1]'(by omega) = l[q] := by congr 1; omega
          rw [eq]
          obtain ⟨b, hb⟩ : ∃ b, b = l[r] := ⟨_, rfl⟩
          obtain ⟨a, ha⟩ : ∃ a, a = l[q] := ⟨_, rfl⟩
          rw [← hb] at e4 o1 i2 u h1 ⊢
          rw [← ha] at f4 o2 i1 u ⊢
          obtain ⟨a1, a2, a3, a4⟩ := o1
          obtain ⟨b1, b2, b3, b4⟩ := o2
          rw [← hr] at i1 i2
          have hat : a.1 < t := i1.mpr (by omega)
          have hm := mul_bd (x := b.2 - a.2) (y := t - a.1) (A := 4096) (B := 1000) (by omega) (by omega) (by omega) (by omega)
          have hd := ediv_bd (x := (b.2 - a.2) * (t - a.1)) (b := b.1 - a.1) (M := 4096 * 1000) (by omega) (by omega) (by omega) (by omega)
          simp (maxSteps := 1000000) (disch := omega) only [go_sem, ↓reduceIte, Nat.reduceEqDiff, Nat.reduceAdd, Nat.reduceSub, Nat.reduceMul, Nat.reduceLT, Nat.reduceLeDiff, reduceCtorEq, Nat.succ_ne_self, ne_eq, not_true_eq_false, not_false_eq_true, and_self, and_true, true_and, Nat.zero_add, Nat.sub_zero, Nat.zero_mul, Nat.one_mul, Nat.le_refl, List.getElem?_cons_zero, List.set_cons_zero, Int.reduceToNat, Int.reduceLT, Int.reduceLE, Int.reduceAdd, Int.reduceSub, Int.reduceMul, Int.reduceEq, Int.reduceNe, Int.toNat_natCast, Int.natCast_zero, wrap_id, wrapu_id, wrapb_id, idx_ok, bin_quo, bin_rem, tdiv_id, tmod_id, ps_bptr, x36, lenv_sl hv.len, pts_len, c0, hbs, e3, e4, c1, c2, f3, f4, down_run]
    · rw [dif_neg hx]
      have c1 : ((r : Int) = l.length) := by omega
      have c2 : ¬ ((l.length : Int) = 0) := by omega
      have hq : l.length - 1 < l.length := by omega
      have e3 : sidx 2 v (.int .i64 ((l.length : Int) - 1)) = some (l.length - 1) := by rw [sidx_sl hv (by omega) (by simp; omega)]; simp
      have e4 := fun off fr => pc_iptr (off := off) (hv.elems fr) (show l.length - 1 < (pts l).length by simp; omega)
      simp only [pts_get, pt] at e4
      simp only [dif_neg hx, c1] at hbs
      simp (maxSteps := 1000000) (disch := omega) only [go_sem, ↓reduceIte, Nat.reduceEqDiff, Nat.reduceAdd, Nat.reduceSub, Nat.reduceMul, Nat.reduceLT, Nat.reduceLeDiff, reduceCtorEq, Nat.succ_ne_self, ne_eq, not_true_eq_false, not_false_eq_true, and_self, and_true, true_and, Nat.zero_add, Nat.sub_zero, Nat.zero_mul, Nat.one_mul, Nat.le_refl, List.getElem?_cons_zero, List.set_cons_zero, Int.reduceToNat, Int.reduceLT, Int.reduceLE, Int.reduceAdd, Int.reduceSub, Int.reduceMul, Int.reduceEq, Int.reduceNe, Int.toNat_natCast, Int.natCast_zero, wrap_id, wrapu_id, wrapb_id, idx_ok, bin_quo, bin_rem, tdiv_id, tmod_id, ps_bptr, x36, lenv_sl hv.len, pts_len, c0, hbs, e3, e4, c1, c2]
theorem Gain_run {h : Heap} {v : AV} {l : List (Int × Int)} (hv : Sl h 2 v (pts l)) (hl : l.length ≤ 1000) (t : Int) (lo : Nat) :
    (run lib).fn 15 [v, .int .i64 t] h lo = some (if (curveB (-1) l && decide ((l.length : Int) ≤ 12)) = true ∧ 0 ≤ t ∧ t ≤ 599 then .tuple [.int .i64 (gainS l t), .int .i64 0] else .tuple [.int .i64 0, .int .i64 170], h) := by
  have e1 := curve_run hv (by omega) h.length
  rw [run_closed (x := x15) rfl rfl rfl rfl]
  cases h1 : (curveB (-1) l && decide ((l.length : Int) ≤ 12)) with
  | false =>
    rw [h1] at e1
    simp (maxSteps := 1000000) (disch := omega) only [go_sem, ↓reduceIte, Nat.reduceEqDiff, Nat.reduceAdd, Nat.reduceSub, Nat.reduceMul, Nat.reduceLT, Nat.reduceLeDiff, reduceCtorEq, Nat.succ_ne_self, ne_eq, not_true_eq_false, not_false_eq_true, and_self, and_true, true_and, Nat.zero_add, Nat.sub_zero, Nat.zero_mul, Nat.one_mul, Nat.le_refl, List.getElem?_cons_zero, List.set_cons_zero, Int.reduceToNat, Int.reduceLT, Int.reduceLE, Int.reduceAdd, Int.reduceSub, Int.reduceMul, Int.reduceEq, Int.reduceNe, Int.toNat_natCast, Int.natCast_zero, wrap_id, wrapu_id, wrapb_id, idx_ok, bin_quo, bin_rem, tdiv_id, tmod_id, ps_bptr, x15, e1, false_and]
  | true =>
    rw [h1] at e1
    have hc := (curveB_crv (l := l) (last := -1) (by simp only [Bool.and_eq_true] at h1; exact h1.1) (by omega)).1
    cases h2 : (decide (0 ≤ t) && decide (t ≤ 599)) with
    | false =>
      have h3 : ¬ (0 ≤ t ∧ t ≤ 599) := by simpa using h2
      simp (maxSteps := 1000000) (disch := omega) only [go_sem, ↓reduceIte, Nat.reduceEqDiff, Nat.reduceAdd, Nat.reduceSub, Nat.reduceMul, Nat.reduceLT, Nat.reduceLeDiff, reduceCtorEq, Nat.succ_ne_self, ne_eq, not_true_eq_false, not_false_eq_true, and_self, and_true, true_and, Nat.zero_add, Nat.sub_zero, Nat.zero_mul, Nat.one_mul, Nat.le_refl, List.getElem?_cons_zero, List.set_cons_zero, Int.reduceToNat, Int.reduceLT, Int.reduceLE, Int.reduceAdd, Int.reduceSub, Int.reduceMul, Int.reduceEq, Int.reduceNe, Int.toNat_natCast, Int.natCast_zero, wrap_id, wrapu_id, wrapb_id, idx_ok, bin_quo, bin_rem, tdiv_id, tmod_id, ps_bptr, x15, e1, between_run, h2, h3]
    | true =>
      have h3 : (0 ≤ t ∧ t ≤ 599) := by simpa using h2
      have e2 := gain_run hv hl hc t (by omega) (by omega) h.length
      simp (maxSteps := 1000000) (disch := omega) only [go_sem, ↓reduceIte, Nat.reduceEqDiff, Nat.reduceAdd, Nat.reduceSub, Nat.reduceMul, Nat.reduceLT, Nat.reduceLeDiff, reduceCtorEq, Nat.succ_ne_self, ne_eq, not_true_eq_false, not_false_eq_true, and_self, and_true, true_and, Nat.zero_add, Nat.sub_zero, Nat.zero_mul, Nat.one_mul, Nat.le_refl, List.getElem?_cons_zero, List.set_cons_zero, Int.reduceToNat, Int.reduceLT, Int.reduceLE, Int.reduceAdd, Int.reduceSub, Int.reduceMul, Int.reduceEq, Int.reduceNe, Int.toNat_natCast, Int.natCast_zero, wrap_id, wrapu_id, wrapb_id, idx_ok, bin_quo, bin_rem, tdiv_id, tmod_id, ps_bptr, x15, e1, between_run, h2, h3, e2]
end Go.VI.Mix
