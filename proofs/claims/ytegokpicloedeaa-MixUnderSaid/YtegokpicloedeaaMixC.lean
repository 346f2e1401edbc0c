import Derived.Test.YtegokpicloedeaaMixB
namespace Go.VI.Mix
set_option linter.unusedVariables false
set_option linter.unusedSimpArgs false

def seg (a b : Int × Int) (t : Int) : Int := a.2 + (b.2 - a.2) * (t - a.1) / (b.1 - a.1)
theorem seg_l {a b : Int × Int} (h : a.1 < b.1) : seg a b a.1 = a.2 := by
  unfold seg; rw [Int.sub_self, Int.mul_zero, Int.zero_ediv]; omega
theorem seg_r {a b : Int × Int} (h : a.1 < b.1) : seg a b b.1 = b.2 := by
  unfold seg; rw [Int.mul_ediv_cancel _ (by omega)]; omega
theorem gainFrom_seg : ∀ (r : List (Int × Int)) (a : Int × Int) (t : Int) (i : Nat) (hi : i < r.length), Crv (a :: r) → ((a :: r)[i]'(by simp; omega)).1 ≤ t → t ≤ r[i].1 → gainFrom a r t = seg ((a :: r)[i]'(by simp; omega)) r[i] t
  | [], a, t, i, hi, _, _, _ => by simp at hi
  | b :: r, a, t, 0, hi, hc, h1, h2 => by
    have hab := (List.pairwise_cons.mp hc.up).1 b (by simp)
    have hcb : Crv (b :: r) := ⟨fun q hq => hc.ok q (by simp [hq]), (List.pairwise_cons.mp hc.up).2⟩
    simp only [List.getElem_cons_zero] at h1 h2 ⊢
    unfold gainFrom
    by_cases h3 : t < b.1
    · rw [if_pos h3]; rfl
    · have : t = b.1 := by omega
      subst this
      rw [if_neg h3, gainFrom_hit hcb, seg_r hab]
  | b :: r, a, t, i + 1, hi, hc, h1, h2 => by
    have hcb : Crv (b :: r) := ⟨fun q hq => hc.ok q (by simp [hq]), (List.pairwise_cons.mp hc.up).2⟩
    simp only [List.getElem_cons_succ] at h1 h2 ⊢
    have hbt : b.1 ≤ t := by
      cases i with
      | zero => exact h1
      | succ i =>
        have := (List.pairwise_cons.mp hcb.up).1 _ (List.getElem_mem (show i < r.length by simp at hi; omega))
        simp only [List.getElem_cons_succ] at h1
        omega
    unfold gainFrom
    rw [if_neg (by omega)]
    exact gainFrom_seg r b t i (by simpa using hi) hcb h1 h2
theorem gain_seg {l : List (Int × Int)} (hc : Crv l) {t : Int} {i : Nat} (hi : i + 1 < l.length) (h1 : l[i].1 ≤ t) (h2 : t ≤ l[i + 1].1) : gainS l t = seg l[i] l[i + 1] t := by
  cases l with
  | nil => simp at hi
  | cons a r =>
    simp only [gainS]
    have ir : i < r.length := by simpa using hi
    by_cases h3 : t ≤ a.1
    · rw [if_pos h3]
      cases i with
      | zero =>
        have hab := (List.pairwise_cons.mp hc.up).1 _ (List.getElem_mem ir)
        simp only [List.getElem_cons_zero] at h1
        have : t = a.1 := by omega
        subst this
        exact (seg_l hab).symm
      | succ i =>
        have := (List.pairwise_cons.mp hc.up).1 _ (List.getElem_mem (show i < r.length by omega))
        simp only [List.getElem_cons_succ] at h1
        omega
    · rw [if_neg h3]
      simp only [List.getElem_cons_succ] at h2 ⊢
      exact gainFrom_seg r a t i ir hc h1 h2
theorem gain_pt {l : List (Int × Int)} (hc : Crv l) {i : Nat} (hi : i < l.length) : gainS l l[i].1 = l[i].2 := by
  by_cases h : i + 1 < l.length
  · have u := List.pairwise_iff_getElem.mp hc.up i (i + 1) hi h (by omega)
    rw [gain_seg hc h (by omega) (by omega), seg_l u]
  · cases i with
    | zero =>
      cases l with
      | nil => simp at hi
      | cons a r => simp [gainS]
    | succ i =>
      have u := List.pairwise_iff_getElem.mp hc.up i (i + 1) (by omega) hi (by omega)
      rw [gain_seg hc hi (by omega) (by omega), seg_r u]
theorem gain_before {l : List (Int × Int)} {t : Int} (hl : 0 < l.length) (h : t ≤ l[0].1) : gainS l t = l[0].2 := by
  cases l with
  | nil => simp at hl
  | cons a r => simp only [gainS, List.getElem_cons_zero] at h ⊢; rw [if_pos h]
theorem gainFrom_after : ∀ (r : List (Int × Int)) (a : Int × Int) (t : Int), Crv (a :: r) → ((a :: r)[r.length]'(by simp)).1 ≤ t → gainFrom a r t = ((a :: r)[r.length]'(by simp)).2
  | [], a, t, _, _ => rfl
  | b :: r, a, t, hc, h => by
    have hcb : Crv (b :: r) := ⟨fun q hq => hc.ok q (by simp [hq]), (List.pairwise_cons.mp hc.up).2⟩
    simp only [List.length_cons, List.getElem_cons_succ] at h ⊢
    have hb : b.1 ≤ ((b :: r)[r.length]'(by simp)).1 := by
      rcases Nat.eq_zero_or_pos r.length with h0 | h0
      · have : r = [] := List.eq_nil_of_length_eq_zero h0
        subst this; simp
      · have := List.pairwise_iff_getElem.mp hcb.up 0 r.length (by simp) (by simp) h0
        simp only [List.getElem_cons_zero] at this
        omega
    unfold gainFrom
    rw [if_neg (by omega)]
    exact gainFrom_after r b t hcb h
theorem gain_after {l : List (Int × Int)} (hc : Crv l) {t : Int} (hl : 0 < l.length) (h : (l[l.length - 1]'(by omega)).1 ≤ t) : gainS l t = (l[l.length - 1]'(by omega)).2 := by
  cases l with
  | nil => simp at hl
  | cons a r =>
    simp only [List.length_cons, Nat.add_sub_cancel] at h ⊢
    simp only [gainS]
    by_cases h3 : t ≤ a.1
    · rw [if_pos h3]
      rcases Nat.eq_zero_or_pos r.length with h0 | h0
      · have : r = [] := List.eq_nil_of_length_eq_zero h0
        subst this; simp
      · have := List.pairwise_iff_getElem.mp hc.up 0 r.length (by simp) (by simp) h0
        simp only [List.getElem_cons_zero] at this
        omega
    · rw [if_neg h3]
      exact gainFrom_after r a t hc h
/-- Between two points. -/
theorem seg_mono {a b : Int × Int} (h : a.1 < b.1) {s t : Int} (h1 : a.1 ≤ s) (h2 : s ≤ t) (h3 : t ≤ b.1) :
    (a.2 ≤ b.2 → a.2 ≤ seg a b s ∧ seg a b s ≤ seg a b t ∧ seg a b t ≤ b.2) ∧ (b.2 ≤ a.2 → b.2 ≤ seg a b t ∧ seg a b t ≤ seg a b s ∧ seg a b s ≤ a.2) := by
  have hb : 0 < b.1 - a.1 := by omega
  have e1 := seg_l h
  have e2 := seg_r h
  have mono : ∀ x y : Int, a.2 ≤ b.2 → x ≤ y → seg a b x ≤ seg a b y := by
    intro x y hab hxy
    unfold seg
    have := Int.mul_le_mul_of_nonneg_left (show x - a.1 ≤ y - a.1 by omega) (show 0 ≤ b.2 - a.2 by omega)
    have := Int.ediv_le_ediv hb this
    omega
  have anti : ∀ x y : Int, b.2 ≤ a.2 → x ≤ y → seg a b y ≤ seg a b x := by
    intro x y hab hxy
    unfold seg
    have := Int.mul_le_mul_of_nonpos_left (show b.2 - a.2 ≤ 0 by omega) (show x - a.1 ≤ y - a.1 by omega)
    have := Int.ediv_le_ediv hb this
    omega
  refine ⟨fun hab => ?_, fun hab => ?_⟩
  · have q1 := mono a.1 s hab h1
    have q2 := mono s t hab h2
    have q3 := mono t b.1 hab h3
    rw [e1] at q1; rw [e2] at q3
    exact ⟨q1, q2, q3⟩
  · have q1 := anti a.1 s hab h1
    have q2 := anti s t hab h2
    have q3 := anti t b.1 hab h3
    rw [e1] at q1; rw [e2] at q3
    exact ⟨q3, q2, q1⟩

theorem curvedS_crv : ∀ (l : List (Int × Int)) (at' : Int) (n : Nat), -1 ≤ at' → at' + 12 * l.length ≤ 599 → Crv (curvedS at' l) ∧ (∀ p ∈ curvedS at' l, at' < p.1 ∧ p.1 ≤ at' + 12 * l.length) ∧ (curvedS at' l).length = l.length
  | [], at', n, _, _ => ⟨⟨by simp [curvedS], by simp [curvedS]⟩, by simp [curvedS], rfl⟩
  | x :: r, at', n, h, h2 => by
    have p1 := pickS_bd (c := x.1) (n := 12) (by omega)
    have p2 := pickS_bd (c := x.2) (n := 4097) (by omega)
    simp only [List.length_cons] at h2
    obtain ⟨⟨c1, c2⟩, c3, c4⟩ := curvedS_crv r (at' + 1 + pickS x.1 12) n (by omega) (by omega)
    simp only [curvedS]
    refine ⟨⟨fun q hq => ?_, ?_⟩, fun q hq => ?_, by simp [c4]⟩
    · rcases List.mem_cons.mp hq with rfl | hq
      · exact ⟨by dsimp only; omega, by dsimp only; omega, p2.1, by dsimp only; omega⟩
      · exact c1 q hq
    · exact List.pairwise_cons.mpr ⟨fun q hq => (c3 q hq).1, c2⟩
    · simp only [List.length_cons]
      rcases List.mem_cons.mp hq with rfl | hq
      · dsimp only; omega
      · have := c3 q hq; omega

theorem law6_loop1 {h : Heap} {fr : Heap} {l : List (Int × Int)} (hc : Crv l) (hl : l.length ≤ 6) (lo : Nat) (k g g' : Int) (d : Nat) :
    ∀ i : Nat, d = l.length - i → i ≤ l.length →
    runC lib ⟨lo, h.length, 1, none⟩ (.loop b6_1) ([(5, .bool true), (6, lstV 2 (pts l)), (7, .int .i64 k), (8, .int .i64 g), (10, .int .i64 g'), (12, .int .i64 i)], h ++ fr) =
      some (.exit 0, ([(5, .bool true), (6, lstV 2 (pts l)), (7, .int .i64 k), (8, .int .i64 g), (10, .int .i64 g')], h ++ fr)) := by
  have hv := Sl.lstV (h ++ fr) 2 (pts l)
  have hb := crv_curveB (last := -1) hc (fun p hp => by have := (hc.ok p hp).1; omega)
  induction d with
  | zero =>
    intro i hd hi
    have c1 : ¬ (i : Int) < l.length := by omega
    rw [w_loop]
    simp (maxSteps := 1000000) (disch := omega) only [go_sem, ↓reduceIte, Nat.reduceEqDiff, Nat.reduceAdd, Nat.reduceSub, Nat.reduceMul, Nat.reduceLT, Nat.reduceLeDiff, reduceCtorEq, Nat.succ_ne_self, ne_eq, not_true_eq_false, not_false_eq_true, and_self, and_true, true_and, Nat.zero_add, Nat.sub_zero, Nat.zero_mul, Nat.one_mul, Nat.le_refl, List.getElem?_cons_zero, List.set_cons_zero, Int.reduceToNat, Int.reduceLT, Int.reduceLE, Int.reduceAdd, Int.reduceSub, Int.reduceMul, Int.reduceEq, Int.reduceNe, Int.toNat_natCast, Int.natCast_zero, wrap_id, wrapu_id, wrapb_id, idx_ok, bin_quo, bin_rem, tdiv_id, tmod_id, ps_bptr, lenv_sl hv.len, pts_len, c1]
  | succ d ih =>
    intro i hd hi
    have hil : i < l.length := by omega
    have c1 : (i : Int) < l.length := by omega
    have e := ih (i + 1) (by omega) (by omega)
    rw [cast1] at e
    have e3 : sidx 2 (lstV 2 (pts l)) (.int .i64 i) = some i := by rw [sidx_sl hv (by omega) (by simp; omega)]; simp
    have e4 := fun off => pc_iptr (off := off) hv.elems0 (show i < (pts l).length by simp; omega)
    simp only [pts_get, pt] at e4
    have q := hc.ok _ (List.getElem_mem hil)
    have e5 := Gain_run hv (by omega) l[i].1 lo
    rw [if_pos ⟨by simp [hb]; omega, q.1, q.2.1⟩, gain_pt hc hil] at e5
    rw [w_loop]
    simp (maxSteps := 1000000) (disch := omega) only [go_sem, ↓reduceIte, Nat.reduceEqDiff, Nat.reduceAdd, Nat.reduceSub, Nat.reduceMul, Nat.reduceLT, Nat.reduceLeDiff, reduceCtorEq, Nat.succ_ne_self, ne_eq, not_true_eq_false, not_false_eq_true, and_self, and_true, true_and, Nat.zero_add, Nat.sub_zero, Nat.zero_mul, Nat.one_mul, Nat.le_refl, List.getElem?_cons_zero, List.set_cons_zero, Int.reduceToNat, Int.reduceLT, Int.reduceLE, Int.reduceAdd, Int.reduceSub, Int.reduceMul, Int.reduceEq, Int.reduceNe, Int.toNat_natCast, Int.natCast_zero, wrap_id, wrapu_id, wrapb_id, idx_ok, bin_quo, bin_rem, tdiv_id, tmod_id, ps_bptr, lenv_sl hv.len, pts_len, c1, e3, e4, e5, e]

theorem law6_loop2 {h : Heap} {fr : Heap} {l : List (Int × Int)} (hc : Crv l) (hl : l.length ≤ 6) (lo : Nat) (k : Int) (hk0 : 0 ≤ k) (hk : k ≤ 1000) (d : Nat) :
    ∀ i : Nat, d = l.length - i → i ≤ l.length → (d ≠ 0 ∨ i = l.length) →
    runC lib ⟨lo, h.length, 1, none⟩ (.loop b6_0) ([(5, .bool true), (6, lstV 2 (pts l)), (7, .int .i64 k), (8, .int .i64 (gainS l k)), (10, .int .i64 (gainS l (k + 1))), (16, .int .i64 i)], h ++ fr) =
      some (.exit 2, ([(5, .bool true)], h ++ fr)) := by
  have hv := Sl.lstV (h ++ fr) 2 (pts l)
  induction d with
  | zero =>
    intro i hd hi _
    have c1 : ¬ (i : Int) + 1 < l.length := by omega
    rw [w_loop]
    simp (maxSteps := 1000000) (disch := omega) only [go_sem, ↓reduceIte, Nat.reduceEqDiff, Nat.reduceAdd, Nat.reduceSub, Nat.reduceMul, Nat.reduceLT, Nat.reduceLeDiff, reduceCtorEq, Nat.succ_ne_self, ne_eq, not_true_eq_false, not_false_eq_true, and_self, and_true, true_and, Nat.zero_add, Nat.sub_zero, Nat.zero_mul, Nat.one_mul, Nat.le_refl, List.getElem?_cons_zero, List.set_cons_zero, Int.reduceToNat, Int.reduceLT, Int.reduceLE, Int.reduceAdd, Int.reduceSub, Int.reduceMul, Int.reduceEq, Int.reduceNe, Int.toNat_natCast, Int.natCast_zero, wrap_id, wrapu_id, wrapb_id, idx_ok, bin_quo, bin_rem, tdiv_id, tmod_id, ps_bptr, lenv_sl hv.len, pts_len, c1]
  | succ d ih =>
    intro i hd hi _
    by_cases hi1 : i + 1 < l.length
    · have e := ih (i + 1) (by omega) (by omega) (by omega)
      rw [cast1] at e
      have hil : i < l.length := by omega
      have c1 : (i : Int) + 1 < l.length := by omega
      have e3 : sidx 2 (lstV 2 (pts l)) (.int .i64 i) = some i := by rw [sidx_sl hv (by omega) (by simp; omega)]; simp
      have e4 := fun off => pc_iptr (off := off) hv.elems0 (show i < (pts l).length by simp; omega)
      have f3 : sidx 2 (lstV 2 (pts l)) (.int .i64 ((i : Int) + 1)) = some (i + 1) := by rw [sidx_sl hv (by omega) (by simp; omega)]; simp
      have f4 := fun off => pc_iptr (off := off) hv.elems0 (show i + 1 < (pts l).length by simp; omega)
      simp only [pts_get, pt] at e4 f4
      have q := hc.ok _ (List.getElem_mem hil)
      have q' := hc.ok _ (List.getElem_mem hi1)
      have u := List.pairwise_iff_getElem.mp hc.up i (i + 1) hil hi1 (by omega)
      have s1 := gain_seg hc (t := k) hi1
      have s2 := gain_seg hc (t := k + 1) hi1
      have s3 := seg_mono u (s := k) (t := k + 1)
      obtain ⟨a, ha⟩ : ∃ a, a = l[i] := ⟨_, rfl⟩
      obtain ⟨b, hb⟩ : ∃ b, b = l[i + 1] := ⟨_, rfl⟩
      rw [← ha] at e4 q u s1 s2 s3
      rw [← hb] at f4 q' u s1 s2 s3
      obtain ⟨g, hg⟩ : ∃ g, g = gainS l k := ⟨_, rfl⟩
      obtain ⟨g', hg'⟩ : ∃ g', g' = gainS l (k + 1) := ⟨_, rfl⟩
      rw [← hg, ← hg'] at e ⊢
      rw [← hg] at s1; rw [← hg'] at s2
      by_cases k1 : k < a.1
      · rw [w_loop]
        simp (maxSteps := 1000000) (disch := omega) only [go_sem, ↓reduceIte, Nat.reduceEqDiff, Nat.reduceAdd, Nat.reduceSub, Nat.reduceMul, Nat.reduceLT, Nat.reduceLeDiff, reduceCtorEq, Nat.succ_ne_self, ne_eq, not_true_eq_false, not_false_eq_true, and_self, and_true, true_and, Nat.zero_add, Nat.sub_zero, Nat.zero_mul, Nat.one_mul, Nat.le_refl, List.getElem?_cons_zero, List.set_cons_zero, Int.reduceToNat, Int.reduceLT, Int.reduceLE, Int.reduceAdd, Int.reduceSub, Int.reduceMul, Int.reduceEq, Int.reduceNe, Int.toNat_natCast, Int.natCast_zero, wrap_id, wrapu_id, wrapb_id, idx_ok, bin_quo, bin_rem, tdiv_id, tmod_id, ps_bptr, lenv_sl hv.len, pts_len, c1, e3, e4, k1, e]
      · by_cases k2 : b.1 ≤ k
        · rw [w_loop]
          simp (maxSteps := 1000000) (disch := omega) only [go_sem, ↓reduceIte, Nat.reduceEqDiff, Nat.reduceAdd, Nat.reduceSub, Nat.reduceMul, Nat.reduceLT, Nat.reduceLeDiff, reduceCtorEq, Nat.succ_ne_self, ne_eq, not_true_eq_false, not_false_eq_true, and_self, and_true, true_and, Nat.zero_add, Nat.sub_zero, Nat.zero_mul, Nat.one_mul, Nat.le_refl, List.getElem?_cons_zero, List.set_cons_zero, Int.reduceToNat, Int.reduceLT, Int.reduceLE, Int.reduceAdd, Int.reduceSub, Int.reduceMul, Int.reduceEq, Int.reduceNe, Int.toNat_natCast, Int.natCast_zero, wrap_id, wrapu_id, wrapb_id, idx_ok, bin_quo, bin_rem, tdiv_id, tmod_id, ps_bptr, lenv_sl hv.len, pts_len, c1, e3, e4, f3, f4, k1, k2, e]
        · have s1 := s1 (by omega) (by omega)
          have s2 := s2 (by omega) (by omega)
          obtain ⟨s3, s4⟩ := s3 (by omega) (by omega) (by omega)
          rw [← s1, ← s2] at s3 s4
          have m1 : ¬ g < min a.2 b.2 := by omega
          have m2 : ¬ max a.2 b.2 < g := by omega
          have m3 : ¬ g' < min a.2 b.2 := by omega
          have m4 : ¬ max a.2 b.2 < g' := by omega
          by_cases m5 : a.2 < b.2
          · have m6 : ¬ g' < g := by omega
            have m7 : ¬ b.2 < a.2 := by omega
            rw [w_loop]
            simp (maxSteps := 1000000) (disch := omega) only [go_sem, ↓reduceIte, Nat.reduceEqDiff, Nat.reduceAdd, Nat.reduceSub, Nat.reduceMul, Nat.reduceLT, Nat.reduceLeDiff, reduceCtorEq, Nat.succ_ne_self, ne_eq, not_true_eq_false, not_false_eq_true, and_self, and_true, true_and, Nat.zero_add, Nat.sub_zero, Nat.zero_mul, Nat.one_mul, Nat.le_refl, List.getElem?_cons_zero, List.set_cons_zero, Int.reduceToNat, Int.reduceLT, Int.reduceLE, Int.reduceAdd, Int.reduceSub, Int.reduceMul, Int.reduceEq, Int.reduceNe, Int.toNat_natCast, Int.natCast_zero, wrap_id, wrapu_id, wrapb_id, idx_ok, bin_quo, bin_rem, tdiv_id, tmod_id, ps_bptr, lenv_sl hv.len, pts_len, c1, e3, e4, f3, f4, k1, k2, e, m1, m2, m3, m4, m5, m6, m7]
          · by_cases m7 : b.2 < a.2
            · have m6 : ¬ g < g' := by omega
              rw [w_loop]
              simp (maxSteps := 1000000) (disch := omega) only [go_sem, ↓reduceIte, Nat.reduceEqDiff, Nat.reduceAdd, Nat.reduceSub, Nat.reduceMul, Nat.reduceLT, Nat.reduceLeDiff, reduceCtorEq, Nat.succ_ne_self, ne_eq, not_true_eq_false, not_false_eq_true, and_self, and_true, true_and, Nat.zero_add, Nat.sub_zero, Nat.zero_mul, Nat.one_mul, Nat.le_refl, List.getElem?_cons_zero, List.set_cons_zero, Int.reduceToNat, Int.reduceLT, Int.reduceLE, Int.reduceAdd, Int.reduceSub, Int.reduceMul, Int.reduceEq, Int.reduceNe, Int.toNat_natCast, Int.natCast_zero, wrap_id, wrapu_id, wrapb_id, idx_ok, bin_quo, bin_rem, tdiv_id, tmod_id, ps_bptr, lenv_sl hv.len, pts_len, c1, e3, e4, f3, f4, k1, k2, e, m1, m2, m3, m4, m5, m6, m7]
            · rw [w_loop]
              simp (maxSteps := 1000000) (disch := omega) only [go_sem, ↓reduceIte, Nat.reduceEqDiff, Nat.reduceAdd, Nat.reduceSub, Nat.reduceMul, Nat.reduceLT, Nat.reduceLeDiff, reduceCtorEq, Nat.succ_ne_self, ne_eq, not_true_eq_false, not_false_eq_true, and_self, and_true, true_and, Nat.zero_add, Nat.sub_zero, Nat.zero_mul, Nat.one_mul, Nat.le_refl, List.getElem?_cons_zero, List.set_cons_zero, Int.reduceToNat, Int.reduceLT, Int.reduceLE, Int.reduceAdd, Int.reduceSub, Int.reduceMul, Int.reduceEq, Int.reduceNe, Int.toNat_natCast, Int.natCast_zero, wrap_id, wrapu_id, wrapb_id, idx_ok, bin_quo, bin_rem, tdiv_id, tmod_id, ps_bptr, lenv_sl hv.len, pts_len, c1, e3, e4, f3, f4, k1, k2, e, m1, m2, m3, m4, m5, m7]
    · have c1 : ¬ (i : Int) + 1 < l.length := by omega
      rw [w_loop]
      simp (maxSteps := 1000000) (disch := omega) only [go_sem, ↓reduceIte, Nat.reduceEqDiff, Nat.reduceAdd, Nat.reduceSub, Nat.reduceMul, Nat.reduceLT, Nat.reduceLeDiff, reduceCtorEq, Nat.succ_ne_self, ne_eq, not_true_eq_false, not_false_eq_true, and_self, and_true, true_and, Nat.zero_add, Nat.sub_zero, Nat.zero_mul, Nat.one_mul, Nat.le_refl, List.getElem?_cons_zero, List.set_cons_zero, Int.reduceToNat, Int.reduceLT, Int.reduceLE, Int.reduceAdd, Int.reduceSub, Int.reduceMul, Int.reduceEq, Int.reduceNe, Int.toNat_natCast, Int.natCast_zero, wrap_id, wrapu_id, wrapb_id, idx_ok, bin_quo, bin_rem, tdiv_id, tmod_id, ps_bptr, lenv_sl hv.len, pts_len, c1]

theorem law6 {h : Heap} {v : AV} {xs : List (Int × Int)} (hv : Sl h 2 v (pts xs)) (hl : xs.length ≤ 9223372036854775807) (hi : ∀ x ∈ xs, okI x.1 ∧ okI x.2) (c : Int) (hc : okI c)
    (hs : (run lib).fn 11 [] (h ++ [(0, .dead)]) h.length = some (.bool true, h ++ [(0, .dead)])) (lo : Nat) : (run lib).fn 6 [v, .int .i64 c] h lo = some (.bool true, h) := by
  obtain ⟨l, hl'⟩ : ∃ l, l = curvedS (-1) (xs.take 6) := ⟨_, rfl⟩
  have hcr := curved_run (hv.app [(0, .dead)]) hl hi h.length
  rw [← hl'] at hcr
  obtain ⟨hcv, _, hlen⟩ := curvedS_crv (xs.take 6) (-1) 0 (by omega) (by simp; omega)
  rw [← hl'] at hcv hlen
  have hll : l.length ≤ 6 := by rw [hlen]; simp; omega
  have hb := crv_curveB (last := -1) hcv (fun p hp => by have := (hcv.ok p hp).1; omega)
  obtain ⟨k, hk⟩ : ∃ k, k = pickS c 80 := ⟨_, rfl⟩
  have hk' := pickS_bd (c := c) (n := 80) (by omega)
  have hp := pick13 c 80 (h ++ [(0, .dead)]) h.length hc.1 hc.2 (by omega)
  rw [← hk] at hk' hp
  have hw := fun fr => Sl.lstV (h ++ fr) 2 (pts l)
  have e1 := Gain_run (hw [(0, .dead)]) (by omega) k h.length
  have e2 := Gain_run (hw [(0, .dead)]) (by omega) (k + 1) h.length
  rw [if_pos ⟨by simp [hb]; omega, by omega, by omega⟩] at e1 e2
  rw [run_closed (x := x6) rfl rfl rfl rfl]
  by_cases h0 : l = []
  · have g1 : ∀ t, gainS l t = 1024 := fun t => by rw [h0]; rfl
    simp only [g1] at e1 e2
    have h1 : l.length = 0 := by rw [h0]; rfl
    simp (maxSteps := 1000000) (disch := omega) only [go_sem, ↓reduceIte, Nat.reduceEqDiff, Nat.reduceAdd, Nat.reduceSub, Nat.reduceMul, Nat.reduceLT, Nat.reduceLeDiff, reduceCtorEq, Nat.succ_ne_self, ne_eq, not_true_eq_false, not_false_eq_true, and_self, and_true, true_and, Nat.zero_add, Nat.sub_zero, Nat.zero_mul, Nat.one_mul, Nat.le_refl, List.getElem?_cons_zero, List.set_cons_zero, Int.reduceToNat, Int.reduceLT, Int.reduceLE, Int.reduceAdd, Int.reduceSub, Int.reduceMul, Int.reduceEq, Int.reduceNe, Int.toNat_natCast, Int.natCast_zero, wrap_id, wrapu_id, wrapb_id, idx_ok, bin_quo, bin_rem, tdiv_id, tmod_id, ps_bptr, x6, hs, hcr, hp, e1, e2, lenv_sl (hw []).len, pts_len, h1, Int.natCast_zero]
  · have hpos := List.length_pos_iff.mpr h0
    have c0 : ¬ (l.length : Int) = 0 := by omega
    have l1 := fun fr => law6_loop1 (h := h) (fr := fr) hcv hll h.length k (gainS l k) (gainS l (k + 1)) _ 0 rfl (by omega)
    have l2 := fun fr => law6_loop2 (h := h) (fr := fr) hcv hll h.length k (by omega) (by omega) _ 0 rfl (by omega) (by omega)
    simp only [Int.natCast_zero] at l1 l2
    have e3 : sidx 2 (lstV 2 (pts l)) (.int .i64 ((l.length : Int) - 1)) = some (l.length - 1) := by rw [sidx_sl (hw []) (by omega) (by simp; omega)]; simp
    have e4 := fun off fr => pc_iptr (off := off) (hw fr).elems0 (show l.length - 1 < (pts l).length by simp; omega)
    have f3 : sidx 2 (lstV 2 (pts l)) (.int .i64 0) = some 0 := by rw [sidx_sl (hw []) (by omega) (by simp; omega)]; simp
    have f4 := fun off fr => pc_iptr (off := off) (hw fr).elems0 (show 0 < (pts l).length by simp; omega)
    simp only [pts_get, pt] at e4 f4
    have b1 := gain_before (l := l) (t := k) hpos
    have b2 := gain_before (l := l) (t := k + 1) hpos
    have a1 := gain_after (t := k) hcv hpos
    have a2 := gain_after (t := k + 1) hcv hpos
    obtain ⟨a, ha⟩ : ∃ a, a = l[0] := ⟨_, rfl⟩
    obtain ⟨b, hb⟩ : ∃ b, b = l[l.length - 1] := ⟨_, rfl⟩
    rw [← ha] at f4 b1 b2
    rw [← hb] at e4 a1 a2
    have hab : a.1 ≤ b.1 := by
      rcases Nat.eq_zero_or_pos (l.length - 1) with h1 | h1
      · have : b = a := by rw [ha, hb]; congr 1
        rw [this]; omega
      · have := List.pairwise_iff_getElem.mp hcv.up 0 (l.length - 1) hpos (by omega) h1
        rw [← ha, ← hb] at this; omega
    by_cases q1 : k < a.1
    · have q2 : ¬ b.1 ≤ k := by omega
      have r1 := b1 (by omega); have r2 := b2 (by omega)
      rw [r1] at e1 l1 l2; rw [r2] at e2 l1 l2
      simp (maxSteps := 1000000) (disch := omega) only [go_sem, ↓reduceIte, Nat.reduceEqDiff, Nat.reduceAdd, Nat.reduceSub, Nat.reduceMul, Nat.reduceLT, Nat.reduceLeDiff, reduceCtorEq, Nat.succ_ne_self, ne_eq, not_true_eq_false, not_false_eq_true, and_self, and_true, true_and, Nat.zero_add, Nat.sub_zero, Nat.zero_mul, Nat.one_mul, Nat.le_refl, List.getElem?_cons_zero, List.set_cons_zero, Int.reduceToNat, Int.reduceLT, Int.reduceLE, Int.reduceAdd, Int.reduceSub, Int.reduceMul, Int.reduceEq, Int.reduceNe, Int.toNat_natCast, Int.natCast_zero, wrap_id, wrapu_id, wrapb_id, idx_ok, bin_quo, bin_rem, tdiv_id, tmod_id, ps_bptr, x6, hs, hcr, hp, e1, e2, lenv_sl (hw []).len, pts_len, c0, l1, l2, e3, e4, f3, f4, q1, q2]
    · by_cases q2 : b.1 ≤ k
      · have r1 := a1 (by omega); have r2 := a2 (by omega)
        rw [r1] at e1 l1 l2; rw [r2] at e2 l1 l2
        simp (maxSteps := 1000000) (disch := omega) only [go_sem, ↓reduceIte, Nat.reduceEqDiff, Nat.reduceAdd, Nat.reduceSub, Nat.reduceMul, Nat.reduceLT, Nat.reduceLeDiff, reduceCtorEq, Nat.succ_ne_self, ne_eq, not_true_eq_false, not_false_eq_true, and_self, and_true, true_and, Nat.zero_add, Nat.sub_zero, Nat.zero_mul, Nat.one_mul, Nat.le_refl, List.getElem?_cons_zero, List.set_cons_zero, Int.reduceToNat, Int.reduceLT, Int.reduceLE, Int.reduceAdd, Int.reduceSub, Int.reduceMul, Int.reduceEq, Int.reduceNe, Int.toNat_natCast, Int.natCast_zero, wrap_id, wrapu_id, wrapb_id, idx_ok, bin_quo, bin_rem, tdiv_id, tmod_id, ps_bptr, x6, hs, hcr, hp, e1, e2, lenv_sl (hw []).len, pts_len, c0, l1, l2, e3, e4, f3, f4, q1, q2]
      · simp (maxSteps := 1000000) (disch := omega) only [go_sem, ↓reduceIte, Nat.reduceEqDiff, Nat.reduceAdd, Nat.reduceSub, Nat.reduceMul, Nat.reduceLT, Nat.reduceLeDiff, reduceCtorEq, Nat.succ_ne_self, ne_eq, not_true_eq_false, not_false_eq_true, and_self, and_true, true_and, Nat.zero_add, Nat.sub_zero, Nat.zero_mul, Nat.one_mul, Nat.le_refl, List.getElem?_cons_zero, List.set_cons_zero, Int.reduceToNat, Int.reduceLT, Int.reduceLE, Int.reduceAdd, Int.reduceSub, Int.reduceMul, Int.reduceEq, Int.reduceNe, Int.toNat_natCast, Int.natCast_zero, wrap_id, wrapu_id, wrapb_id, idx_ok, bin_quo, bin_rem, tdiv_id, tmod_id, ps_bptr, x6, hs, hcr, hp, e1, e2, lenv_sl (hw []).len, pts_len, c0, l1, l2, e3, e4, f3, f4, q1, q2]
end Go.VI.Mix
