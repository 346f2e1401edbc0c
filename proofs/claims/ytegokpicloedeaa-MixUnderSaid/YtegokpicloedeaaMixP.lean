import Derived.Test.YtegokpicloedeaaMixO
import Derived.Test.YtegokpicloedeaaMixH
namespace Go.VI.Mix
set_option linter.unusedVariables false
set_option linter.unusedSimpArgs false

/-! What ducking does. -/
theorem lastS_app : ∀ (p q : List Bool) (a : Int), lastS a (p ++ q) = lastS (lastS a p) q
  | [], q, a => rfl
  | c :: p, q, a => by rw [List.cons_append, lastS, lastS_app p q, lastS]
theorem lastS_off : ∀ (q : List Bool) (a : Int), (∀ b ∈ q, b = false) → lastS a q = a + q.length
  | [], a, _ => by simp [lastS]
  | c :: q, a, h => by
    have : c = false := h c (by simp)
    rw [lastS, lastS_off q _ fun b hb => h b (by simp [hb]), this]
    simp; omega
/-- Whether the voice is on somewhere from `a` on, before `b`. -/
def winOn (lev : Int) (l : List Int) (a b : Nat) : Bool := ((l.take b).drop a).any (onS lev)
theorem rampS_full {fl long d : Int} (h : 1 ≤ long) (hd : long ≤ d) : rampS fl long d = 1024 := by
  unfold rampS
  have : min d long = long := by omega
  rw [this, Int.mul_ediv_cancel _ (by omega)]
  omega
theorem rampS_zero {fl long : Int} (h : 1 ≤ long) : rampS fl long 0 = fl := by
  unfold rampS
  have : min 0 long = 0 := by omega
  rw [this]; simp
theorem duckAt_on {lev fl att rel : Int} {l : List Int} {i : Nat} (hi : i < l.length) (ha : 1 ≤ att) (hr : 1 ≤ rel) (hon : onS lev l[i] = true) : duckAt lev fl att rel l i = fl := by
  have e1 : lastS 1200 ((l.take (i + 1)).map (onS lev)) = 0 := by
    rw [List.take_succ_eq_append_getElem hi, List.map_append, List.map_singleton, lastS_snoc, hon]; simp
  have e2 : lastS 1200 ((l.drop i).map (onS lev)).reverse = 0 := by
    rw [List.drop_eq_getElem_cons hi, List.map_cons, List.reverse_cons, lastS_snoc, hon]; simp
  rw [duckAt, e1, e2, rampS_zero ha, rampS_zero hr]; omega
theorem duckAt_off {lev fl : Int} {att rel : Nat} {l : List Int} {i : Nat} (hi : i < l.length) (ha : 1 ≤ att) (ha' : att ≤ 1000) (hr : 1 ≤ rel) (hr' : rel ≤ 1000) (hoff : winOn lev l (i - rel) (i + att + 1) = false) : duckAt lev fl att rel l i = 1024 := by
  have hall : ∀ k, i - rel ≤ k → k < i + att + 1 → (hk : k < l.length) → onS lev l[k] = false := by
    intro k h1 h2 hk
    simp only [winOn, List.any_eq_false] at hoff
    have := hoff l[k] (List.mem_iff_getElem.mpr ⟨k - (i - rel), by simp; omega, by
      simp only [List.getElem_drop, List.getElem_take]
      congr 1; omega⟩)
    simpa using this
  have e1 : (rel : Int) ≤ lastS 1200 ((l.take (i + 1)).map (onS lev)) := by
    have : (l.take (i + 1)) = l.take (i - rel) ++ (l.take (i + 1)).drop (i - rel) := by
      conv => lhs; rw [← List.take_append_drop (i - rel) (l.take (i + 1)), List.take_take]
      have : min (i - rel) (i + 1) = i - rel := by omega
      rw [this]
    rw [this, List.map_append, lastS_app, lastS_off]
    · have := (lastS_bd ((l.take (i - rel)).map (onS lev)) 1200 (by omega)).1
      by_cases c : i < rel
      · have c0 : i - rel = 0 := by omega
        rw [c0]
        simp [lastS]; omega
      · simp only [List.length_map, List.length_drop, List.length_take]; omega
    · intro b hb
      obtain ⟨x, hx, rfl⟩ := List.mem_map.mp hb
      obtain ⟨j, hj, rfl⟩ := List.mem_iff_getElem.mp hx
      simp only [List.length_drop, List.length_take] at hj
      simp only [List.getElem_drop, List.getElem_take]
      exact hall _ (by omega) (by omega) (by omega)
  have e2 : (att : Int) ≤ lastS 1200 ((l.drop i).map (onS lev)).reverse := by
    have : (l.drop i) = (l.drop i).take (att + 1) ++ l.drop (i + att + 1) := by
      conv => lhs; rw [← List.take_append_drop (att + 1) (l.drop i), List.drop_drop]
      rfl
    rw [this, List.map_append, List.reverse_append, lastS_app, lastS_off]
    · have := (lastS_bd ((l.drop (i + att + 1)).map (onS lev)).reverse 1200 (by omega)).1
      by_cases c : i + att + 1 ≤ l.length
      · simp only [List.length_reverse, List.length_map, List.length_drop, List.length_take]; omega
      · have c0 : l.drop (i + att + 1) = [] := List.drop_of_length_le (by omega)
        rw [c0]
        simp [lastS]; omega
    · intro b hb
      rw [List.mem_reverse] at hb
      obtain ⟨x, hx, rfl⟩ := List.mem_map.mp hb
      obtain ⟨j, hj, rfl⟩ := List.mem_iff_getElem.mp hx
      simp only [List.length_drop, List.length_take] at hj
      simp only [List.getElem_drop, List.getElem_take]
      exact hall _ (by omega) (by omega) (by omega)
  rw [duckAt, rampS_full (by omega) e1, rampS_full (by omega) e2]; omega

theorem law8_in {H : Heap} {cx : Cx} {v : AV} {l : List Int} (hv : Sl H 1 v (ints l)) (hl : l.length ≤ 600) (hx : ∀ x ∈ l, -32768 ≤ x ∧ x ≤ 32767) (a7 a13 a14 a11 : AV) (lev att : Int) (i e : Nat) (hatt : 0 ≤ att ∧ att ≤ 300) (hi : i < l.length) (he : (e : Int) = min (l.length : Int) (i + att + 1)) (d : Nat) :
    ∀ (k : Nat) (b : Bool), d = e - k → k ≤ e →
    runC lib cx (.loop b8_1) ([(7, a7), (8, v), (10, .int .i64 lev), (11, a11), (12, .int .i64 att), (13, a13), (14, a14), (16, .int .i64 i), (17, .bool b), (18, .int .i64 k)], H) =
      some (.exit 4, ([(7, a7), (8, v), (10, .int .i64 lev), (11, a11), (12, .int .i64 att), (13, a13), (14, a14), (16, .int .i64 i), (17, .bool (b || winOn lev l k e))], H)) := by
  have hvl := hv.len
  rw [ints_len] at hvl
  induction d with
  | zero =>
    intro k b hd hk
    have : k = e := by omega
    have hw : winOn lev l k e = false := by
      simp only [winOn]
      rw [List.drop_of_length_le (by simp; omega)]; rfl
    rw [w_loop]
    by_cases c1 : (k : Int) < l.length
    · have c2 : ¬ (k : Int) ≤ i + att := by omega
      simp (maxSteps := 1000000) (disch := omega) only [go_sem, ↓reduceIte, Nat.reduceEqDiff, Nat.reduceAdd, Nat.reduceSub, Nat.reduceMul, Nat.reduceLT, Nat.reduceLeDiff, reduceCtorEq, Nat.succ_ne_self, ne_eq, not_true_eq_false, not_false_eq_true, and_self, and_true, true_and, Nat.zero_add, Nat.sub_zero, Nat.zero_mul, Nat.one_mul, Nat.le_refl, List.getElem?_cons_zero, List.set_cons_zero, Int.reduceToNat, Int.reduceLT, Int.reduceLE, Int.reduceAdd, Int.reduceSub, Int.reduceMul, Int.reduceEq, Int.reduceNe, Int.toNat_natCast, Int.natCast_zero, wrap_id, wrapu_id, wrapb_id, idx_ok, bin_quo, bin_rem, tdiv_id, tmod_id, ps_bptr, lenv_sl hvl, c1, c2, hw, Bool.or_false]
    · simp (maxSteps := 1000000) (disch := omega) only [go_sem, ↓reduceIte, Nat.reduceEqDiff, Nat.reduceAdd, Nat.reduceSub, Nat.reduceMul, Nat.reduceLT, Nat.reduceLeDiff, reduceCtorEq, Nat.succ_ne_self, ne_eq, not_true_eq_false, not_false_eq_true, and_self, and_true, true_and, Nat.zero_add, Nat.sub_zero, Nat.zero_mul, Nat.one_mul, Nat.le_refl, List.getElem?_cons_zero, List.set_cons_zero, Int.reduceToNat, Int.reduceLT, Int.reduceLE, Int.reduceAdd, Int.reduceSub, Int.reduceMul, Int.reduceEq, Int.reduceNe, Int.toNat_natCast, Int.natCast_zero, wrap_id, wrapu_id, wrapb_id, idx_ok, bin_quo, bin_rem, tdiv_id, tmod_id, ps_bptr, lenv_sl hvl, c1, hw, Bool.or_false]
  | succ d ih =>
    intro k b hd hk
    have hk' : k < l.length := by omega
    have c1 : (k : Int) < l.length := by omega
    have c2 : (k : Int) ≤ i + att := by omega
    have e3 : sidx 1 v (.int .i64 k) = some k := by rw [sidx_sl hv (by omega) (by simp; omega)]; simp
    have e4 := fun off => pc_iptr (off := off) hv.elems0 (show k < (ints l).length by simp; omega)
    simp only [ints_get] at e4
    have hb := hx _ (List.getElem_mem hk')
    have hw : winOn lev l k e = (decide (lev ≤ max l[k] (-l[k])) || winOn lev l (k + 1) e) := by
      simp only [winOn]
      rw [List.drop_eq_getElem_cons (by simp; omega), List.any_cons]
      simp [onS]
    obtain ⟨x, hxx⟩ : ∃ x, x = l[k] := ⟨_, rfl⟩
    rw [← hxx] at e4 hb hw
    rw [w_loop]
    cases b with
    | true =>
      have e := ih (k + 1) true (by omega) (by omega)
      rw [cast1] at e
      simp (maxSteps := 1000000) (disch := omega) only [go_sem, ↓reduceIte, Nat.reduceEqDiff, Nat.reduceAdd, Nat.reduceSub, Nat.reduceMul, Nat.reduceLT, Nat.reduceLeDiff, reduceCtorEq, Nat.succ_ne_self, ne_eq, not_true_eq_false, not_false_eq_true, and_self, and_true, true_and, Nat.zero_add, Nat.sub_zero, Nat.zero_mul, Nat.one_mul, Nat.le_refl, List.getElem?_cons_zero, List.set_cons_zero, Int.reduceToNat, Int.reduceLT, Int.reduceLE, Int.reduceAdd, Int.reduceSub, Int.reduceMul, Int.reduceEq, Int.reduceNe, Int.toNat_natCast, Int.natCast_zero, wrap_id, wrapu_id, wrapb_id, idx_ok, bin_quo, bin_rem, tdiv_id, tmod_id, ps_bptr, lenv_sl hvl, c1, c2, e3, e4, e, Bool.true_or]
    | false =>
      have e := ih (k + 1) (decide (lev ≤ max x (-x))) (by omega) (by omega)
      rw [cast1] at e
      simp (maxSteps := 1000000) (disch := omega) only [go_sem, ↓reduceIte, Nat.reduceEqDiff, Nat.reduceAdd, Nat.reduceSub, Nat.reduceMul, Nat.reduceLT, Nat.reduceLeDiff, reduceCtorEq, Nat.succ_ne_self, ne_eq, not_true_eq_false, not_false_eq_true, and_self, and_true, true_and, Nat.zero_add, Nat.sub_zero, Nat.zero_mul, Nat.one_mul, Nat.le_refl, List.getElem?_cons_zero, List.set_cons_zero, Int.reduceToNat, Int.reduceLT, Int.reduceLE, Int.reduceAdd, Int.reduceSub, Int.reduceMul, Int.reduceEq, Int.reduceNe, Int.toNat_natCast, Int.natCast_zero, wrap_id, wrapu_id, wrapb_id, idx_ok, bin_quo, bin_rem, tdiv_id, tmod_id, ps_bptr, lenv_sl hvl, c1, c2, e3, e4, e, hw, Bool.false_or]

theorem law8_out {H : Heap} {cx : Cx} {v u : AV} {l g : List Int} (hv : Sl H 1 v (ints l)) (hu : Sl H 1 u (ints g)) (hl : l.length ≤ 600) (hgl : g.length = l.length) (hx : ∀ x ∈ l, -32768 ≤ x ∧ x ≤ 32767) (lev fl att rel : Int) (hatt : 1 ≤ att ∧ att ≤ 300) (hrel : 1 ≤ rel ∧ rel ≤ 300)
    (hg1 : ∀ i (h : i < g.length), fl ≤ g[i] ∧ g[i] ≤ 1024) (hg2 : ∀ i (h : i < g.length), onS lev (l[i]'(by omega)) = true → g[i] = fl) (hg3 : ∀ i (h : i < g.length), winOn lev l (i - rel.toNat) (i + att.toNat + 1) = false → g[i] = 1024) (d : Nat) :
    ∀ k : Nat, d = l.length - k → k ≤ l.length →
    runC lib cx (.loop b8_0) ([(7, .bool true), (8, v), (10, .int .i64 lev), (11, .int .i64 fl), (12, .int .i64 att), (13, .int .i64 rel), (14, u), (16, .int .i64 k)], H) = some (.exit 2, ([(7, .bool true)], H)) := by
  have hvl := hv.len
  rw [ints_len] at hvl
  have hul := hu.len
  rw [ints_len, hgl] at hul
  induction d with
  | zero =>
    intro k hd hk
    have c1 : ¬ (k : Int) < l.length := by omega
    rw [w_loop]
    simp (maxSteps := 1000000) (disch := omega) only [go_sem, ↓reduceIte, Nat.reduceEqDiff, Nat.reduceAdd, Nat.reduceSub, Nat.reduceMul, Nat.reduceLT, Nat.reduceLeDiff, reduceCtorEq, Nat.succ_ne_self, ne_eq, not_true_eq_false, not_false_eq_true, and_self, and_true, true_and, Nat.zero_add, Nat.sub_zero, Nat.zero_mul, Nat.one_mul, Nat.le_refl, List.getElem?_cons_zero, List.set_cons_zero, Int.reduceToNat, Int.reduceLT, Int.reduceLE, Int.reduceAdd, Int.reduceSub, Int.reduceMul, Int.reduceEq, Int.reduceNe, Int.toNat_natCast, Int.natCast_zero, wrap_id, wrapu_id, wrapb_id, idx_ok, bin_quo, bin_rem, tdiv_id, tmod_id, ps_bptr, lenv_sl hul, c1]
  | succ d ih =>
    intro k hd hk
    have hk' : k < l.length := by omega
    have c1 : (k : Int) < l.length := by omega
    have e3 : sidx 1 v (.int .i64 k) = some k := by rw [sidx_sl hv (by omega) (by simp; omega)]; simp
    have e4 := fun off => pc_iptr (off := off) hv.elems0 (show k < (ints l).length by simp; omega)
    have f3 : sidx 1 u (.int .i64 k) = some k := by rw [sidx_sl hu (by omega) (by simp; omega)]; simp
    have f4 := fun off => pc_iptr (off := off) hu.elems0 (show k < (ints g).length by simp; omega)
    simp only [ints_get] at e4 f4
    have hb := hx _ (List.getElem_mem hk')
    have hw : winOn lev l (k - rel.toNat) (min l.length (k + att.toNat + 1)) = winOn lev l (k - rel.toNat) (k + att.toNat + 1) := by
      unfold winOn
      congr 2
      by_cases c : l.length ≤ k + att.toNat + 1
      · rw [Nat.min_eq_left c, List.take_length, List.take_of_length_le c]
      · rw [Nat.min_eq_right (by omega)]
    have i1 := hg1 k (by omega)
    have i2 := hg2 k (by omega)
    have i3 := hg3 k (by omega)
    rw [← hw] at i3
    have hin := law8_in (cx := cx) hv hl hx (.bool true) (.int .i64 rel) u (.int .i64 fl) lev att k (min l.length (k + att.toNat + 1)) (by omega) hk' (by omega) _ (k - rel.toNat) false rfl (by omega)
    have hst : ((k - rel.toNat : Nat) : Int) = max (k - rel) 0 := by omega
    rw [hst] at hin
    have e := ih (k + 1) (by omega) (by omega)
    rw [cast1] at e
    obtain ⟨x, hxx⟩ : ∃ x, x = l[k] := ⟨_, rfl⟩
    obtain ⟨y, hyy⟩ : ∃ y, y = g[k]'(by omega) := ⟨_, rfl⟩
    obtain ⟨w, hww⟩ : ∃ w, w = winOn lev l (k - rel.toNat) (min l.length (k + att.toNat + 1)) := ⟨_, rfl⟩
    rw [← hxx] at e4 hb i2
    rw [← hyy] at f4 i1 i2 i3
    rw [← hww] at hin i3
    have d1 : ¬ y < fl := by omega
    have d2 : ¬ 1024 < y := by omega
    rw [Bool.false_or] at hin
    rw [w_loop]
    clear hg1 hg2 hg3 hx ih hv hu hw
    by_cases q1 : lev ≤ max x (-x)
    · have q2 := i2 (by simpa [onS] using q1)
      have q3 := eq_true q2
      cases w with
      | true => simp (maxSteps := 1000000) (disch := omega) only [go_sem, ↓reduceIte, Nat.reduceEqDiff, Nat.reduceAdd, Nat.reduceSub, Nat.reduceMul, Nat.reduceLT, Nat.reduceLeDiff, reduceCtorEq, Nat.succ_ne_self, ne_eq, not_true_eq_false, not_false_eq_true, and_self, and_true, true_and, Nat.zero_add, Nat.sub_zero, Nat.zero_mul, Nat.one_mul, Nat.le_refl, List.getElem?_cons_zero, List.set_cons_zero, Int.reduceToNat, Int.reduceLT, Int.reduceLE, Int.reduceAdd, Int.reduceSub, Int.reduceMul, Int.reduceEq, Int.reduceNe, Int.toNat_natCast, Int.natCast_zero, wrap_id, wrapu_id, wrapb_id, idx_ok, bin_quo, bin_rem, tdiv_id, tmod_id, ps_bptr, lenv_sl hul, lenv_sl hvl, c1, e3, e4, f3, f4, d1, d2, hin, q1, q3, e]
      | false =>
        have q4 := eq_true (i3 rfl)
        simp (maxSteps := 1000000) (disch := omega) only [go_sem, ↓reduceIte, Nat.reduceEqDiff, Nat.reduceAdd, Nat.reduceSub, Nat.reduceMul, Nat.reduceLT, Nat.reduceLeDiff, reduceCtorEq, Nat.succ_ne_self, ne_eq, not_true_eq_false, not_false_eq_true, and_self, and_true, true_and, Nat.zero_add, Nat.sub_zero, Nat.zero_mul, Nat.one_mul, Nat.le_refl, List.getElem?_cons_zero, List.set_cons_zero, Int.reduceToNat, Int.reduceLT, Int.reduceLE, Int.reduceAdd, Int.reduceSub, Int.reduceMul, Int.reduceEq, Int.reduceNe, Int.toNat_natCast, Int.natCast_zero, wrap_id, wrapu_id, wrapb_id, idx_ok, bin_quo, bin_rem, tdiv_id, tmod_id, ps_bptr, lenv_sl hul, lenv_sl hvl, c1, e3, e4, f3, f4, d1, d2, hin, q1, q3, q4, e]
    · cases w with
      | true => simp (maxSteps := 1000000) (disch := omega) only [go_sem, ↓reduceIte, Nat.reduceEqDiff, Nat.reduceAdd, Nat.reduceSub, Nat.reduceMul, Nat.reduceLT, Nat.reduceLeDiff, reduceCtorEq, Nat.succ_ne_self, ne_eq, not_true_eq_false, not_false_eq_true, and_self, and_true, true_and, Nat.zero_add, Nat.sub_zero, Nat.zero_mul, Nat.one_mul, Nat.le_refl, List.getElem?_cons_zero, List.set_cons_zero, Int.reduceToNat, Int.reduceLT, Int.reduceLE, Int.reduceAdd, Int.reduceSub, Int.reduceMul, Int.reduceEq, Int.reduceNe, Int.toNat_natCast, Int.natCast_zero, wrap_id, wrapu_id, wrapb_id, idx_ok, bin_quo, bin_rem, tdiv_id, tmod_id, ps_bptr, lenv_sl hul, lenv_sl hvl, c1, e3, e4, f3, f4, d1, d2, hin, q1, e]
      | false =>
        have q4 := eq_true (i3 rfl)
        simp (maxSteps := 1000000) (disch := omega) only [go_sem, ↓reduceIte, Nat.reduceEqDiff, Nat.reduceAdd, Nat.reduceSub, Nat.reduceMul, Nat.reduceLT, Nat.reduceLeDiff, reduceCtorEq, Nat.succ_ne_self, ne_eq, not_true_eq_false, not_false_eq_true, and_self, and_true, true_and, Nat.zero_add, Nat.sub_zero, Nat.zero_mul, Nat.one_mul, Nat.le_refl, List.getElem?_cons_zero, List.set_cons_zero, Int.reduceToNat, Int.reduceLT, Int.reduceLE, Int.reduceAdd, Int.reduceSub, Int.reduceMul, Int.reduceEq, Int.reduceNe, Int.toNat_natCast, Int.natCast_zero, wrap_id, wrapu_id, wrapb_id, idx_ok, bin_quo, bin_rem, tdiv_id, tmod_id, ps_bptr, lenv_sl hul, lenv_sl hvl, c1, e3, e4, f3, f4, d1, d2, hin, q1, q4, e]
end Go.VI.Mix
