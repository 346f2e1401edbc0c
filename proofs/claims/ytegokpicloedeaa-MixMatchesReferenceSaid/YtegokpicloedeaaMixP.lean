import Derived.Test.YtegokpicloedeaaMixO
import Derived.Test.YtegokpicloedeaaMixH
namespace Go.VI.Mix
set_option linter.unusedVariables false
set_option linter.unusedSimpArgs false

/-! What ducking does. -/
theorem lastS_app : ∀ (p q : List Bool) (a : Int), lastS a (p ++ q) = lastS (lastS a p) q
  | [], q, a => rfl
  | c :: p, q, a => by rw [List.cons_append, lastS, lastS_app p q, lastS]
theorem lastS_off : ∀ (q : List Bool) (a : Int), (∀ b ∈ q, b = false) → lastS a q = a + q.length
  | [], a, _ => by simp [lastS]
  | c :: q, a, h => by
    have : c = false := h c (by simp)
    rw [lastS, lastS_off q _ fun b hb => h b (by simp [hb]), this]
    simp; omega
/-- Whether the voice is on somewhere from `a` on, before `b`. -/
def winOn (lev : Int) (l : List Int) (a b : Nat) : Bool := ((l.take b).drop a).any (onS lev)
theorem rampS_full {fl long d : Int} (h : 1 ≤ long) (hd : long ≤ d) : rampS fl long d = 1024 := by
  unfold rampS
  have : min d long = long := by omega
  rw [this, Int.mul_ediv_cancel _ (by omega)]
  omega
theorem rampS_zero {fl long : Int} (h : 1 ≤ long) : rampS fl long 0 = fl := by
  unfold rampS
  have : min 0 long = 0 := by omega
  rw [this]; simp
theorem duckAt_on {lev fl att rel : Int} {l : List Int} {i : Nat} (hi : i < l.length) (ha : 1 ≤ att) (hr : 1 ≤ rel) (hon : onS lev l[i] = true) : duckAt lev fl att rel l i = fl := by
  have e1 : lastS 1200 ((l.take (i + 1)).map (onS lev)) = 0 := by
    rw [List.take_succ_eq_append_getElem hi, List.map_append, List.map_singleton, lastS_snoc, hon]; simp
  have e2 : lastS 1200 ((l.drop i).map (onS lev)).reverse = 0 := by
    rw [List.drop_eq_getElem_cons hi, List.map_cons, List.reverse_cons, lastS_snoc, hon]; simp
  rw [duckAt, e1, e2, rampS_zero ha, rampS_zero hr]; omega
theorem duckAt_off {lev fl : Int} {att rel : Nat} {l : List Int} {i : Nat} (hi : i < l.length) (ha : 1 ≤ att) (ha' : att ≤ 1000) (hr : 1 ≤ rel) (hr' : rel ≤ 1000) (hoff : winOn lev l (i - rel) (i + att + 1) = false) : duckAt lev fl att rel l i = 1024 := by
  have hall : ∀ k, i - rel ≤ k → k < i + att + 1 → (hk : k < l.length) → onS lev l[k] = false := by
    intro k h1 h2 hk
    simp only [winOn, List.any_eq_false] at hoff
    have := hoff l[k] (List.mem_iff_getElem.mpr ⟨k - (i - rel), by simp; omega, by
      simp only [List.getElem_drop, List.getElem_take]
      congr 1; omega⟩)
    simpa using this
  have e1 : (rel : Int) ≤ lastS 1200 ((l.take (i + 1)).map (onS lev)) := by
    have : (l.take (i + 1)) = l.take (i - rel) ++ (l.take (i + 1)).drop (i - rel) := by
      conv => lhs; rw [← List.take_append_drop (i - rel) (l.take (i + 1)), List.take_take]
      have : min (i - rel) (i + 1) = i - rel := by omega
      rw [this]
    rw [this, List.map_append, lastS_app, lastS_off]
    · have := (lastS_bd ((l.take (i - rel)).map (onS lev)) 1200 (by omega)).1
      by_cases c : i < rel
      · have c0 : i - rel = 0 := by omega
        rw [c0]
        simp [lastS]; omega
      · simp only [List.length_map, List.length_drop, List.length_take]; omega
    · intro b hb
      obtain ⟨x, hx, rfl⟩ := List.mem_map.mp hb
      obtain ⟨j, hj, rfl⟩ := List.mem_iff_getElem.mp hx
      simp only [List.length_drop, List.length_take] at hj
      simp only [List.getElem_drop, List.getElem_take]
      exact hall _ (by omega) (by omega) (by omega)
  have e2 : (att : Int) ≤ lastS 1200 ((l.drop i).map (onS lev)).reverse := by
    have : (l.drop i) = (l.drop i).take (att + 1) ++ l.drop (i + att + 1) := by
      conv => lhs; rw [← List.take_append_drop (att + 1) (l.drop i), List.drop_drop]
      rfl
    rw [this, List.map_append, List.reverse_append, lastS_app, lastS_off]
    · have := (lastS_bd ((l.drop (i + att + 1)).map (onS lev)).reverse 1200 (by omega)).1
      by_cases c : i + att + 1 ≤ l.length
      · simp only [List.length_reverse, List.length_map, List.length_drop, List.length_take]; omega
      · have c0 : l.drop (i + att + 1) = [] := List.drop_of_length_le (by omega)
        rw [c0]
        simp [lastS]; omega
    · intro b hb
      rw [List.mem_reverse] at hb
      obtain ⟨x, hx, rfl⟩ := List.mem_map.mp hb
      obtain ⟨j, hj, rfl⟩ := List.mem_iff_getElem.mp hx
      simp only [List.length_drop, List.length_take] at hj
      simp only [List.getElem_drop, List.getElem_take]
      exact hall _ (by omega) (by omega) (by omega)
  rw [duckAt, rampS_full (by omega) e1, rampS_full (by omega) e2]; omega

theorem law8_in {H : Heap} {cx : Cx} {v : AV} {l : List Int} (hv : Sl H 1 v (ints l)) (hl : l.length ≤ 600) (hx : ∀ x ∈ l, -32768 ≤ x ∧ x ≤ 32767) (a7 a13 a14 a11 : AV) (lev att : Int) (i e : Nat) (hatt : 0 ≤ att ∧ att ≤ 300) (hi : i < l.length) (he : (e : Int) = min (l.length : Int) (i + att + 1)) (d : Nat) :
    ∀ (k : Nat) (b : Bool), d = e - k → k ≤ e →
    runC lib cx (.loop b8_1) ([(7, a7), (8, v), (10, .int .i64 lev), (11, a11), (12, .int .i64 att), (13, a13), (14, a14), (16, .int .i64 i), (17, .bool b), (18, .int .i64 k)], H) =
      some (.exit 4, ([(7, a7), (8, v), (10, .int .i64 lev), (11, a11), (12, .int .i64 att), (13, a13), (14, a14), (16, .int .i64 i), (17, .bool (b || winOn lev l k e))], H)) := by
  have hvl := hv.len
  rw [ints_len] at hvl
  induction d with
  | zero =>
    intro k b hd hk
    have : k = e := by omega
    have hw : winOn lev l k e = false := by
      simp only [winOn]
      rw [List.drop_of_length_le (by simp; omega)]; rfl
    rw [w_loop]
    by_cases c1 : (k : Int) < l.length
    · have c2 : ¬ (k : Int) ≤ i + att := by omega
      simp (maxSteps := 1000000) (disch := omega) only [go_sem, ↓reduceIte, Nat.reduceEqDiff, Nat.reduceAdd, Nat.reduceSub, Nat.reduceMul, Nat.reduceLT, Nat.reduceLeDiff, reduceCtorEq, Nat.succ_ne_self, ne_eq, not_true_eq_false, not_false_eq_true, and_self, and_true, true_and, Nat.zero_add, Nat.sub_zero, Nat.zero_mul, Nat.one_mul, Nat.le_refl, List.getElem?_cons_zero, List.set_cons_zero, Int.reduceToNat, Int.reduceLT, Int.reduceLE, Int.reduceAdd, Int.reduceSub, Int.reduceMul, Int.reduceEq, Int.reduceNe, Int.toNat_natCast, Int.natCast_zero, wrap_id, wrapu_id, wrapb_id, idx_ok, bin_quo, bin_rem, tdiv_id, tmod_id, ps_bptr, lenv_sl hvl, c1, c2, hw, Bool.or_false]
    · simp (maxSteps := 1000000) (disch := omega) only [go_sem, ↓reduceIte, Nat.reduceEqDiff, Nat.reduceAdd, Nat.reduceSub, Nat.reduceMul, Nat.reduceLT, Nat.reduceLeDiff, reduceCtorEq, Nat.succ_ne_self, ne_eq, not_true_eq_false, not_false_eq_true, and_self, and_true, true_and, Nat.zero_add, Nat.sub_zero, Nat.zero_mul, Nat.one_mul, Nat.le_refl, List.getElem?_cons_zero, List.set_cons_zero, Int.reduceToNat, Int.reduceLT, Int.reduceLE, Int.reduceAdd, Int.reduceSub, Int.reduceMul, Int.reduceEq, Int.reduceNe, Int.toNat_natCast, Int.natCast_zero, wrap_id, wrapu_id, wrapb_id, idx_ok, bin_quo, bin_rem, tdiv_id, tmod_id, ps_bptr, lenv_sl hvl, c1, hw, Bool.or_false]
  | succ d ih =>
    intro k b hd hk
    have hk' : k < l.length := by omega
    have c1 : (k : Int) < l.length := by omega
    have c2 : (k : Int) ≤ i + att := by omega
    have e3 : sidx 1 v (.int .i64 k) = some k := by rw [sidx_sl hv (by omega) (by simp; omega)]; simp
    have e4 := fun off => pc_iptr (off := off) hv.elems0 (show k < (ints l).length by simp; omega)
    simp only [ints_get] at e4
    have hb := hx _ (List.getElem_mem hk')
    have hw : winOn lev l k e = (decide (lev ≤ max l[k] (-l[k])) || winOn lev l (k + 1) e) := by
      simp only [winOn]
      rw [List.drop_eq_getElem_cons (by simp; omega), List.any_cons]
      simp [onS]
    obtain ⟨x, hxx⟩ : ∃ x, x = l[k] := ⟨_, rfl⟩
    rw [← hxx] at e4 hb hw
    rw [w_loop]
    cases b with
    | true =>
      have e := ih (k + 1) true (by omega) (by omega)
      rw [cast1] at e
      simp (maxSteps := 1000000) (disch := omega) only [go_sem, ↓reduceIte, Nat.reduceEqDiff, Nat.reduceAdd, Nat.reduceSub, Nat.reduceMul, Nat.reduceLT, Nat.reduceLeDiff, reduceCtorEq, Nat.succ_ne_self, ne_eq, not_true_eq_false, not_false_eq_true, and_self, and_true, true_and, Nat.zero_add, Nat.sub_zero, Nat.zero_mul, Nat.one_mul, Nat.le_refl, List.getElem?_cons_zero, List.set_cons_zero, Int.reduceToNat, Int.reduceLT, Int.reduceLE, Int.reduceAdd, Int.reduceSub, Int.reduceMul, Int.reduceEq, Int.reduceNe, Int.toNat_natCast, Int.natCast_zero, wrap_id, wrapu_id, wrapb_id, idx_ok, bin_quo, bin_rem, tdiv_id, tmod_id, ps_bptr, lenv_sl hvl, c1, c2, e3, e4, e, Bool.true_or]
    | false =>
      have e := ih (k + 1) (decide (lev ≤ max x (-x))) (by omega) (by omega)
      rw [cast1] at e
      simp (maxSteps := 1000000) (disch := omega) only [go_sem, ↓reduceIte, Nat.reduceEqDiff, Nat.reduceAdd, Nat.reduceSub, Nat.reduceMul, Nat.reduceLT, Nat.reduceLeDiff, reduceCtorEq, Nat.succ_ne_self, ne_eq, not_true_eq_false, not_false_eq_true, and_self, and_true, true_and, Nat.zero_add, Nat.sub_zero, Nat.zero_mul, Nat.one_mul, Nat.le_refl, List.getElem?_cons_zero, List.set_cons_zero, Int.reduceToNat, Int.reduceLT, Int.reduceLE, Int.reduceAdd, Int.reduceSub, Int.reduceMul, Int.reduceEq, Int.reduceNe, Int.toNat_natCast, Int.natCast_zero, wrap_id, wrapu_id, wrapb_id, idx_ok, bin_quo, bin_rem, tdiv_id, tmod_id, ps_bptr, lenv_sl hvl, c1, c2, e3, e4, e, hw, Bool.false_or]

theorem law8_out {H : Heap} {cx : Cx} {v u : AV} {l g : List Int} (hv : Sl H 1 v (ints l)) (hu : Sl H 1 u (ints g)) (hl : l.length ≤ 600) (hgl : g.length = l.length) (hx : ∀ x ∈ l, -32768 ≤ x ∧ x ≤ 32767) (lev fl att rel : Int) (hatt : 1 ≤ att ∧ att ≤ 300) (hrel : 1 ≤ rel ∧ rel ≤ 300)
    (hg1 : ∀ i (h : i < g.length), fl ≤ g[i] ∧ g[i] ≤ 1024) (hg2 : ∀ i (h : i < g.length), onS lev (l[i]'(by omega)) = true → g[i] = fl) (hg3 : ∀ i (h : i < g.length), winOn lev l (i - rel.toNat) (i + att.toNat + 1) = false → g[i] = 1024) (d : Nat) :
    ∀ k : Nat, d = l.length - k → k ≤ l.length →
    runC lib cx (.loop b8_0) ([(7, .bool true), (8, v), (10, .int .i64 lev), (11, .int .i64 fl), (12, .int .i64 att), (13, .int .i64 rel), (14, u), (16, .int .i64 k)], H) = some (.exit 2, ([(7, .bool true)], H)) := by
  have hvl := hv.len
  rw [ints_len] at hvl
  have hul := hu.len
  rw [ints_len, hgl] at hul
  induction d with
  | zero =>
    intro k hd hk
    have c1 : ¬ (k : Int) < l.length := by omega
    rw [w_loop]
    simp (maxSteps := 1000000) (disch := omega) only [go_sem, ↓reduceIte, Nat.reduceEqDiff, Nat.reduceAdd, Nat.reduceSub, Nat.reduceMul, Nat.reduceLT, Nat.reduceLeDiff, reduceCtorEq, Nat.succ_ne_self, ne_eq, not_true_eq_false, not_false_eq_true, and_self, and_true, true_and, Nat.zero_add, Nat.sub_zero, Nat.zero_mul, Nat.one_mul, Nat.le_refl, List.getElem?_cons_zero, List.set_cons_zero, Int.reduceToNat, Int.reduceLT, Int.reduceLE, Int.reduceAdd, Int.reduceSub, Int.reduceMul, Int.reduceEq, Int.reduceNe, Int.toNat_natCast, Int.natCast_zero, wrap_id, wrapu_id, wrapb_id, idx_ok, bin_quo, bin_rem, tdiv_id, tmod_id, ps_bptr, lenv_sl hul, c1]
  | succ d ih =>
    intro k hd hk
    have hk' : k < l.length := by omega
    have c1 : (k : Int) < l.length := by omega
    have e3 : sidx 1 v (.int .i64 k) = some k := by rw [sidx_sl hv (by omega) (by simp; omega)]; simp
    have e4 := fun off => pc_iptr (off := off) hv.elems0 (show k < (ints l).length by simp; omega)
    have f3 : sidx 1 u (.int .i64 k) = some k := by rw [sidx_sl hu (by omega) (by simp; omega)]; simp
    have f4 := fun off => pc_iptr (off := off) hu.elems0 (show k < (ints g).length by simp; omega)
    simp only [ints_get] at e4 f4
    have hb := hx _ (List.getElem_mem hk')
    have hw : winOn lev l (k - rel.toNat) (min l.length (k + att.toNat + 1)) = winOn lev l (k - rel.toNat) (k + att.toNat + 1) := by
      unfold winOn
      congr 2
      by_cases c : l.length ≤ k + att.toNat + 1
      · rw [Nat.min_eq_left c, List.take_length, List.take_of_length_le c]
      · rw [Nat.min_eq_right (by omega)]
    have i1 := hg1 k (by omega)
    have i2 := hg2 k (by omega)
    have i3 := hg3 k (by omega)
    rw [← hw] at i3
    have hin := law8_in (cx := cx) hv hl hx (.bool true) (.int .i64 rel) u (.int .i64 fl) lev att k (min l.length (k + att.toNat + 1)) (by omega) hk' (by omega) _ (k - rel.toNat) false rfl (by omega)
    have hst : ((k - rel.toNat : Nat) : Int) = max (k - rel) 0 := by omega
    rw [hst] at hin
    have e := ih (k + 1) (by omega) (by omega)
    rw [cast1] at e
    obtain ⟨x, hxx⟩ : ∃ x, x = l[k] := ⟨_, rfl⟩
    obtain ⟨y, hyy⟩ : ∃ y, y = g[k]'(by omega) := ⟨_, rfl⟩
    obtain ⟨w, hww⟩ : ∃ w, w = winOn lev l (k - rel.toNat) (min l.length (k + att.toNat + 1)) := ⟨_, rfl⟩
    rw [← hxx] at e4 hb i2
    rw [← hyy] at f4 i1 i2 i3
    rw [← hww] at hin i3
    have d1 : ¬ y < fl := by omega
    have d2 : ¬ 1024 < y := by omega
    rw [Bool.false_or] at hin
    rw [w_loop]
    clear hg1 hg2 hg3 hx ih hv hu hw
    by_cases q1 : lev ≤ max x (-x)
    · have q2 := i2 (by simpa [onS] using q1)
      have q3 := eq_true q2
      cases w with
      | true => simp (maxSteps := 1000000) (disch := omega) only [go_sem, ↓reduceIte, Nat.reduceEqDiff, Nat.reduceAdd, Nat.reduceSub, Nat.reduceMul, Nat.reduceLT, Nat.reduceLeDiff, reduceCtorEq, Nat.succ_ne_self, ne_eq, not_true_eq_false, not_false_eq_true, and_self, and_true, true_and, Nat.zero_add, Nat.sub_zero, Nat.zero_mul, Nat.one_mul, Nat.le_refl, List.getElem?_cons_zero, List.set_cons_zero, Int.reduceToNat, Int.reduceLT, Int.reduceLE, Int.reduceAdd, Int.reduceSub, Int.reduceMul, Int.reduceEq, Int.reduceNe, Int.toNat_natCast, Int.natCast_zero, wrap_id, wrapu_id, wrapb_id, idx_ok, bin_quo, bin_rem, tdiv_id, tmod_id, ps_bptr, lenv_sl hul, lenv_sl hvl, c1, e3, e4, f3, f4, d1, d2, hin, q1, q3, e]
      | false =>
        have q4 := eq_true (i3 rfl)
        simp (maxSteps := 1000000) (disch := omega) only [go_sem, ↓reduceIte, Nat.reduceEqDiff, Nat.reduceAdd, Nat.reduceSub, Nat.reduceMul, Nat.reduceLT, Nat.reduceLeDiff, reduceCtorEq, Nat.succ_ne_self, ne_eq, not_true_eq_false, not_false_eq_true, and_self, and_true, true_and, Nat.zero_add, Nat.sub_zero, Nat.zero_mul, Nat.one_mul, Nat.le_refl, List.getElem?_cons_zero, List.set_cons_zero, Int.reduceToNat, Int.reduceLT, Int.reduceLE, Int.reduceAdd, Int.reduceSub, Int.reduceMul, Int.reduceEq, Int.reduceNe, Int.toNat_natCast, Int.natCast_zero, wrap_id, wrapu_id, wrapb_id, idx_ok, bin_quo, bin_rem, tdiv_id, tmod_id, ps_bptr, lenv_sl hul, lenv_sl hvl, c1, e3, e4, f3, f4, d1, d2, hin, q1, q3, q4, e]
    · cases w with
      | true => simp (maxSteps := 1000000) (disch := omega) only [go_sem, ↓reduceIte, Nat.reduceEqDiff, Nat.reduceAdd, Nat.reduceSub, Nat.reduceMul, Nat.reduceLT, Nat.reduceLeDiff, reduceCtorEq, Nat.succ_ne_self, ne_eq, not_true_eq_false, not_false_eq_true, and_self, and_true, true_and, Nat.zero_add, Nat.sub_zero, Nat.zero_mul, Nat.one_mul, Nat.le_refl, List.getElem?_cons_zero, List.set_cons_zero, Int.reduceToNat, Int.reduceLT, Int.reduceLE, Int.reduceAdd, Int.reduceSub, Int.reduceMul, Int.reduceEq, Int.reduceNe, Int.toNat_natCast, Int.natCast_zero, wrap_id, wrapu_id, wrapb_id, idx_ok, bin_quo, bin_rem, tdiv_id, tmod_id, ps_bptr, lenv_sl hul, lenv_sl hvl, c1, e3, e4, f3, f4, d1, d2, hin, q1, e]
      | false =>
        have q4 := eq_true (i3 rfl)
        simp (maxSteps := 1000000) (disch := omega) only [go_sem, ↓reduceIte, Nat.reduceEqDiff, Nat.reduceAdd, Nat.reduceSub, Nat.reduceMul, Nat.reduceLT, Nat.reduceLeDiff, reduceCtorEq, Nat.succ_ne_self, ne_eq, not_true_eq_false, not_false_eq_true, and_self, and_true, true_and, Nat.zero_add, Nat.sub_zero, Nat.zero_mul, Nat.one_mul, Nat.le_refl, List.getElem?_cons_zero, List.set_cons_zero, Int.reduceToNat, Int.reduceLT, Int.reduceLE, Int.reduceAdd, Int.reduceSub, Int.reduceMul, Int.reduceEq, Int.reduceNe, Int.toNat_natCast, Int.natCast_zero, wrap_id, wrapu_id, wrapb_id, idx_ok, bin_quo, bin_rem, tdiv_id, tmod_id, ps_bptr, lenv_sl hul, lenv_sl hvl, c1, e3, e4, f3, f4, d1, d2, hin, q1, q4, e]
end Go.VI.Mix
namespace Go.VI.Mix
set_option linter.unusedVariables false
set_option linter.unusedSimpArgs false

theorem law8_zero {h : Heap} (ld : Int) (hld : okI ld) (ns up : AV) (n ver : Nat) (hn : n ≤ 600) (d : Nat) :
    ∀ (k : Nat) (cur : List Int), d = n - k → k ≤ n → cur.length = n → (∀ x ∈ cur, -32768 ≤ x ∧ x ≤ 32767) →
    ∃ l : List Int, l.length = n ∧ (∀ x ∈ l, -32768 ≤ x ∧ x ≤ 32767) ∧
    runC lib ⟨h.length, h.length, 1, none⟩ (.loop b8_2) ([(1, .int .i64 ld), (5, ns), (7, up), (8, .ref (h.length + 0) ver 1 0 n n), (9, .int .i64 k)], h ++ [(ver, .arr 1 (ints cur))]) =
      some (.exit 0, ([(5, ns), (7, up), (8, .ref (h.length + 0) ver 1 0 n n)], h ++ [(ver, .arr 1 (ints l))])) := by
  induction d with
  | zero =>
    intro k cur hd hk hc hx
    refine ⟨cur, hc, hx, ?_⟩
    have c1 : ¬ (k : Int) < n := by omega
    have hr := Sl.refAll (h := h) (fr := [(ver, .arr 1 (ints cur))]) (s := 0) (ver := ver) (z := 1) (es := ints cur) rfl
    rw [ints_len, hc] at hr
    have hrl := hr.len
    rw [ints_len, hc] at hrl
    rw [w_loop]
    simp (maxSteps := 1000000) (disch := omega) only [go_sem, ↓reduceIte, Nat.reduceEqDiff, Nat.reduceAdd, Nat.reduceSub, Nat.reduceMul, Nat.reduceLT, Nat.reduceLeDiff, reduceCtorEq, Nat.succ_ne_self, ne_eq, not_true_eq_false, not_false_eq_true, and_self, and_true, true_and, Nat.zero_add, Nat.sub_zero, Nat.zero_mul, Nat.one_mul, Nat.le_refl, List.getElem?_cons_zero, List.set_cons_zero, Int.reduceToNat, Int.reduceLT, Int.reduceLE, Int.reduceAdd, Int.reduceSub, Int.reduceMul, Int.reduceEq, Int.reduceNe, Int.toNat_natCast, Int.natCast_zero, wrap_id, wrapu_id, wrapb_id, idx_ok, bin_quo, bin_rem, tdiv_id, tmod_id, ps_bptr, lenv_sl hrl, c1]
  | succ d ih =>
    intro k cur hd hk hc hx
    have hk' : k < n := by omega
    have c1 : (k : Int) < n := by omega
    have hr := Sl.refAll (h := h) (fr := [(ver, .arr 1 (ints cur))]) (s := 0) (ver := ver) (z := 1) (es := ints cur) rfl
    rw [ints_len, hc] at hr
    have hrl := hr.len
    rw [ints_len, hc] at hrl
    have s0 : sidx 1 (.ref (h.length + 0) ver 1 0 n n) (.int .i64 k) = some k := by rw [sidx_sl hr (by omega) (by simp; omega)]; simp
    have hp := pickS_bd (c := ld) (n := 1099511627776) (by omega)
    have hsh := bin_shr (k := .i64) (k' := .i64) (a := pickS ld 1099511627776) (b := (k : Int)) (by omega)
    have hq0 : 0 ≤ pickS ld 1099511627776 / 2 ^ (min (k : Int).toNat IntKind.i64.bits) := Int.ediv_nonneg hp.1 (Int.pow_nonneg (by omega))
    have hq1 : pickS ld 1099511627776 / 2 ^ (min (k : Int).toNat IntKind.i64.bits) ≤ 1099511627776 := Int.le_trans (Int.ediv_le_self _ hp.1) (by omega)
    obtain ⟨q, hq⟩ : ∃ q, q = pickS ld 1099511627776 / 2 ^ (min (k : Int).toNat IntKind.i64.bits) := ⟨_, rfl⟩
    rw [← hq] at hsh hq0 hq1
    have hpk := fun hh lo => pick13 ld 1099511627776 hh lo hld.1 hld.2 (by omega)
    by_cases c : q % 2 = 0
    · have e5 := ps_iptr_fr (lo := h.length) (ns := 1) (h := h) (fr := [(ver, .arr 1 (cur.map (.int .i64)))]) (s := 0) (ver := ver) (o := 0) (len := n) (fill := n) (i := k) (k := .i64) (l := cur) (n := 0) rfl hc (by omega) hk' (by omega)
      rw [Nat.zero_add] at e5
      obtain ⟨l, l1, l2, e⟩ := ih (k + 1) (cur.set k 0) (by omega) (by omega) (by simp [hc]) (fun x hxm => by
        rcases List.mem_or_eq_of_mem_set hxm with hxm | rfl
        · exact hx x hxm
        · omega)
      refine ⟨l, l1, l2, ?_⟩
      rw [cast1] at e
      rw [w_loop]
      simp only [ints] at e5 e ⊢
      simp (maxSteps := 1000000) (disch := omega) only [go_sem, ↓reduceIte, Nat.reduceEqDiff, Nat.reduceAdd, Nat.reduceSub, Nat.reduceMul, Nat.reduceLT, Nat.reduceLeDiff, reduceCtorEq, Nat.succ_ne_self, ne_eq, not_true_eq_false, not_false_eq_true, and_self, and_true, true_and, Nat.zero_add, Nat.sub_zero, Nat.zero_mul, Nat.one_mul, Nat.le_refl, List.getElem?_cons_zero, List.set_cons_zero, Int.reduceToNat, Int.reduceLT, Int.reduceLE, Int.reduceAdd, Int.reduceSub, Int.reduceMul, Int.reduceEq, Int.reduceNe, Int.toNat_natCast, Int.natCast_zero, wrap_id, wrapu_id, wrapb_id, idx_ok, bin_quo, bin_rem, tdiv_id, tmod_id, ps_bptr, lenv_sl hrl, c1, s0, hpk, hsh, c, e5, e]
    · obtain ⟨l, l1, l2, e⟩ := ih (k + 1) cur (by omega) (by omega) hc hx
      refine ⟨l, l1, l2, ?_⟩
      rw [cast1] at e
      rw [w_loop]
      simp (maxSteps := 1000000) (disch := omega) only [go_sem, ↓reduceIte, Nat.reduceEqDiff, Nat.reduceAdd, Nat.reduceSub, Nat.reduceMul, Nat.reduceLT, Nat.reduceLeDiff, reduceCtorEq, Nat.succ_ne_self, ne_eq, not_true_eq_false, not_false_eq_true, and_self, and_true, true_and, Nat.zero_add, Nat.sub_zero, Nat.zero_mul, Nat.one_mul, Nat.le_refl, List.getElem?_cons_zero, List.set_cons_zero, Int.reduceToNat, Int.reduceLT, Int.reduceLE, Int.reduceAdd, Int.reduceSub, Int.reduceMul, Int.reduceEq, Int.reduceNe, Int.toNat_natCast, Int.natCast_zero, wrap_id, wrapu_id, wrapb_id, idx_ok, bin_quo, bin_rem, tdiv_id, tmod_id, ps_bptr, lenv_sl hrl, c1, s0, hpk, hsh, c, e]

theorem law8 {h : Heap} {v : AV} {a : List Int} (hv : Sl h 1 v (ints a)) (hl : a.length ≤ 9223372036854775807) (hai : ∀ n ∈ a, okI n) (ld n0 n1 n2 n3 : Int) (o : okI ld) (o0 : okI n0) (o1 : okI n1) (o2 : okI n2) (o3 : okI n3)
    (hs : (run lib).fn 11 [] (h ++ [(0, .dead)]) h.length = some (.bool true, h ++ [(0, .dead)])) (lo : Nat) : (run lib).fn 8 [v, .int .i64 ld, .agg [.int .i64 n0, .int .i64 n1, .int .i64 n2, .int .i64 n3]] h lo = some (.bool true, h) := by
  obtain ⟨m1, m2⟩ := madeS_bd a
  have e1 := made_run (hv.app [(0, .dead)]) hl hai h.length
  have p0 := fun hh lo => pick13 n0 20000 hh lo o0.1 o0.2 (by omega)
  have p1 := fun hh lo => pick13 n1 1025 hh lo o1.1 o1.2 (by omega)
  have p2 := fun hh lo => pick13 n2 20 hh lo o2.1 o2.2 (by omega)
  have p3 := fun hh lo => pick13 n3 20 hh lo o3.1 o3.2 (by omega)
  have q0 := pickS_bd (c := n0) (n := 20000) (by omega)
  have q1 := pickS_bd (c := n1) (n := 1025) (by omega)
  have q2 := pickS_bd (c := n2) (n := 20) (by omega)
  have q3 := pickS_bd (c := n3) (n := 20) (by omega)
  obtain ⟨lev, hlev⟩ : ∃ x, x = 1 + pickS n0 20000 := ⟨_, rfl⟩
  obtain ⟨fl, hfl⟩ : ∃ x, x = pickS n1 1025 := ⟨_, rfl⟩
  obtain ⟨att, hatt⟩ : ∃ x, x = 1 + pickS n2 20 := ⟨_, rfl⟩
  obtain ⟨rel, hrel⟩ : ∃ x, x = 1 + pickS n3 20 := ⟨_, rfl⟩
  have key : ∀ (H : Heap) (u : AV) (l : List Int), Sl H 1 u (ints l) → l.length ≤ 600 → (∀ x ∈ l, -32768 ≤ x ∧ x ≤ 32767) → ∀ cx,
      runC lib cx (.loop b8_0) ([(7, .bool true), (8, u), (10, .int .i64 lev), (11, .int .i64 fl), (12, .int .i64 att), (13, .int .i64 rel), (14, .lst 1 (ints (duckS lev fl att rel l))), (16, .int .i64 0)], H) = some (.exit 2, ([(7, .bool true)], H)) := by
    intro H u l hu hll hlx cx
    have := law8_out (cx := cx) (g := duckS lev fl att rel l) hu (Sl.lst H 1 _) hll (duckS_len ..) hlx lev fl att rel (by omega) (by omega)
      (fun i hi => duckS_bd l (by omega) (by omega) (by omega) _ (List.getElem_mem hi))
      (fun i hi hon => by
        simp only [duckS, List.getElem_map, List.getElem_range]
        exact duckAt_on (by rw [duckS_len] at hi; exact hi) (by omega) (by omega) hon)
      (fun i hi hoff => by
        simp only [duckS, List.getElem_map, List.getElem_range]
        have ea : (att.toNat : Int) = att := by omega
        have er : (rel.toNat : Int) = rel := by omega
        have := duckAt_off (lev := lev) (fl := fl) (att := att.toNat) (rel := rel.toNat) (l := l) (i := i) (by rw [duckS_len] at hi; exact hi) (by omega) (by omega) (by omega) (by omega) hoff
        rw [ea, er] at this
        exact this) _ 0 rfl (by omega)
    simpa using this
  have ok : ∀ l : List Int, l.length ≤ 600 → (∀ x ∈ l, -32768 ≤ x ∧ x ≤ 32767) → duckOk l lev fl att rel = true := by
    intro l hll hlx
    simp only [duckOk, Bool.and_eq_true, inB_iff]
    exact ⟨⟨⟨⟨soundB_of hlx hll, by omega⟩, by omega⟩, by omega⟩, by omega⟩
  rw [run_closed (x := x8) rfl rfl rfl rfl]
  by_cases h0 : madeS a = []
  · have k1 := fun cx => key (h ++ [(0, .dead)]) (.lst 0 []) [] (Sl.lst0 _ 1 0) (by simp) (by simp) cx
    have d1 := duck_run (l := []) (Sl.lst0 (h ++ [(0, .dead)]) 1 0) (by simp) lev fl att rel h.length
    rw [if_pos (ok [] (by simp) (by simp))] at d1
    have t1 := take_none1 (cx := ⟨h.length, h.length, 1, none⟩) (s := 0) (z := 0) (h := h ++ [(0, .dead)])
    have l1 := (Sl.lst0 (h ++ [(0, .dead)]) 1 0).len
    have l2 := (Sl.lst0 (h ++ [(0, .dead)]) 1 1).len
    have ez : ∀ ns, runC lib ⟨h.length, h.length, 1, none⟩ (.loop b8_2) ([(1, .int .i64 ld), (5, ns), (7, .bool true), (8, .lst 0 []), (9, .int .i64 0)], h ++ [(0, .dead)]) = some (.exit 0, ([(5, ns), (7, .bool true), (8, .lst 0 [])], h ++ [(0, .dead)])) := by
      intro ns
      rw [w_loop]
      simp (maxSteps := 1000000) (disch := omega) only [go_sem, ↓reduceIte, Nat.reduceEqDiff, Nat.reduceAdd, Nat.reduceSub, Nat.reduceMul, Nat.reduceLT, Nat.reduceLeDiff, reduceCtorEq, Nat.succ_ne_self, ne_eq, not_true_eq_false, not_false_eq_true, and_self, and_true, true_and, Nat.zero_add, Nat.sub_zero, Nat.zero_mul, Nat.one_mul, Nat.le_refl, List.getElem?_cons_zero, List.set_cons_zero, Int.reduceToNat, Int.reduceLT, Int.reduceLE, Int.reduceAdd, Int.reduceSub, Int.reduceMul, Int.reduceEq, Int.reduceNe, Int.toNat_natCast, Int.natCast_zero, wrap_id, wrapu_id, wrapb_id, idx_ok, bin_quo, bin_rem, tdiv_id, tmod_id, ps_bptr, lenv_sl l1, List.length_nil, Int.natCast_zero]
    rw [h0] at e1
    simp only [ints, List.map_nil, ownV_nil, duckS, List.length_nil, List.range_zero] at e1 d1 k1
    subst hlev hfl hatt hrel
    simp (maxSteps := 1000000) (disch := omega) only [go_sem, ↓reduceIte, Nat.reduceEqDiff, Nat.reduceAdd, Nat.reduceSub, Nat.reduceMul, Nat.reduceLT, Nat.reduceLeDiff, reduceCtorEq, Nat.succ_ne_self, ne_eq, not_true_eq_false, not_false_eq_true, and_self, and_true, true_and, Nat.zero_add, Nat.sub_zero, Nat.zero_mul, Nat.one_mul, Nat.le_refl, List.getElem?_cons_zero, List.set_cons_zero, Int.reduceToNat, Int.reduceLT, Int.reduceLE, Int.reduceAdd, Int.reduceSub, Int.reduceMul, Int.reduceEq, Int.reduceNe, Int.toNat_natCast, Int.natCast_zero, wrap_id, wrapu_id, wrapb_id, idx_ok, bin_quo, bin_rem, tdiv_id, tmod_id, ps_bptr, x8, hs, e1, t1, ez, lenv_sl l1, lenv_sl l2, List.length_nil, Int.natCast_zero, p0, p1, p2, p3, d1, k1]
  · have hne : ints (madeS a) ≠ [] := by rw [ne_eq, ints_nil]; exact h0
    have t1 := take_own (lo := h.length) (ns := 1) (s := 0) (z := 1) (h := h) (fr := [(0, .dead)]) (b0 := (0, .dead)) (es := ints (madeS a)) (by omega) rfl hne
    rw [ints_len] at t1
    obtain ⟨l, l1, l2, ez⟩ := law8_zero (h := h) ld o (.cptr [.int .i64 n0, .int .i64 n1, .int .i64 n2, .int .i64 n3]) (.bool true) (madeS a).length (0 + 1) (by omega) _ 0 (madeS a) rfl (by omega) rfl m1
    have hr := Sl.refAll (h := h) (fr := [(0 + 1, .arr 1 (ints l))]) (s := 0) (ver := 0 + 1) (z := 1) (es := ints l) rfl
    rw [ints_len, l1] at hr
    have hrl := hr.len
    rw [ints_len, l1] at hrl
    have k1 := fun cx => key _ _ l hr (by omega) l2 cx
    have d1 := duck_run hr (by omega) lev fl att rel h.length
    rw [if_pos (ok l (by omega) l2)] at d1
    have l3 := (Sl.lst (h ++ [(0 + 1, .arr 1 (ints l))]) 1 (ints (duckS lev fl att rel l))).len
    rw [ints_len, duckS_len, l1] at l3
    rw [Int.natCast_zero] at ez
    subst hlev hfl hatt hrel
    simp (maxSteps := 1000000) (disch := omega) only [go_sem, ↓reduceIte, Nat.reduceEqDiff, Nat.reduceAdd, Nat.reduceSub, Nat.reduceMul, Nat.reduceLT, Nat.reduceLeDiff, reduceCtorEq, Nat.succ_ne_self, ne_eq, not_true_eq_false, not_false_eq_true, and_self, and_true, true_and, Nat.zero_add, Nat.sub_zero, Nat.zero_mul, Nat.one_mul, Nat.le_refl, List.getElem?_cons_zero, List.set_cons_zero, Int.reduceToNat, Int.reduceLT, Int.reduceLE, Int.reduceAdd, Int.reduceSub, Int.reduceMul, Int.reduceEq, Int.reduceNe, Int.toNat_natCast, Int.natCast_zero, wrap_id, wrapu_id, wrapb_id, idx_ok, bin_quo, bin_rem, tdiv_id, tmod_id, ps_bptr, x8, hs, e1, t1, ez, lenv_sl hrl, lenv_sl l3, p0, p1, p2, p3, d1, k1]
end Go.VI.Mix
