import Derived.Test.YtegokpicloedeaaMixK
import Derived.Test.YtegokpicloedeaaMixG
namespace Go.VI.Mix
set_option linter.unusedVariables false
set_option linter.unusedSimpArgs false

def underAt (l m g : List Int) (k : Nat) : Int := roundS (l.getD k 0 * 1024 + m.getD k 0 * g.getD k 0)
def underS (l m g : List Int) : List Int := (List.range l.length).map (underAt l m g)
theorem underS_len (l m g : List Int) : (underS l m g).length = l.length := by simp [underS]
theorem under_loop {h : Heap} {v u : AV} {l m g : List Int} (hv : Sl h 1 v (ints l)) (hu : Sl h 1 u (ints m)) (hl : l.length ≤ 600) (hm : m.length = l.length) (hg : g.length = l.length)
    (hlx : ∀ x ∈ l, -32768 ≤ x ∧ x ≤ 32767) (hmx : ∀ x ∈ m, -32768 ≤ x ∧ x ≤ 32767) (hgx : ∀ x ∈ g, 0 ≤ x ∧ x ≤ 1024) (ver : Nat) (d : Nat) :
    ∀ k : Nat, d = l.length - k → k ≤ l.length →
    runC lib ⟨h.length, h.length, 1, none⟩ (.loop b29_0) ([(0, v), (1, u), (14, .ref (h.length + 0) ver 1 0 l.length l.length), (41, .int .i64 l.length), (42, .int .i64 k)], h ++ [(ver, .arr 1 (ints ((underS l m g).take k ++ g.drop k)))]) =
      some (.exit 0, ([(14, .ref (h.length + 0) ver 1 0 l.length l.length)], h ++ [(ver, .arr 1 (ints (underS l m g)))])) := by
  have hul := underS_len l m g
  induction d with
  | zero =>
    intro k hd hk
    have hk2 : k = l.length := by omega
    subst hk2
    rw [List.take_of_length_le (by omega), List.drop_of_length_le (by omega), List.append_nil, w_loop]
    simp (maxSteps := 1000000) (disch := omega) only [go_sem, ↓reduceIte, Nat.reduceEqDiff, Nat.reduceAdd, Nat.reduceSub, Nat.reduceMul, Nat.reduceLT, Nat.reduceLeDiff, reduceCtorEq, Nat.succ_ne_self, ne_eq, not_true_eq_false, not_false_eq_true, and_self, and_true, true_and, Nat.zero_add, Nat.sub_zero, Nat.zero_mul, Nat.one_mul, Nat.le_refl, List.getElem?_cons_zero, List.set_cons_zero, Int.reduceToNat, Int.reduceLT, Int.reduceLE, Int.reduceAdd, Int.reduceSub, Int.reduceMul, Int.reduceEq, Int.reduceNe, Int.toNat_natCast, Int.natCast_zero, wrap_id, wrapu_id, wrapb_id, idx_ok, bin_quo, bin_rem, tdiv_id, tmod_id, ps_bptr, Int.lt_irrefl]
  | succ d ih =>
    intro k hd hk
    have hk' : k < l.length := by omega
    have c1 : (k : Int) < l.length := by omega
    obtain ⟨cur, hcur⟩ : ∃ cur, cur = (underS l m g).take k ++ g.drop k := ⟨_, rfl⟩
    have hcl : cur.length = l.length := by rw [hcur]; simp; omega
    have hr := Sl.refAll (h := h) (fr := [(ver, .arr 1 (ints cur))]) (s := 0) (ver := ver) (z := 1) (es := ints cur) rfl
    rw [ints_len, hcl] at hr
    have s0 : sidx 1 (.ref (h.length + 0) ver 1 0 l.length l.length) (.int .i64 k) = some k := by rw [sidx_sl hr (by omega) (by simp; omega)]; simp
    have p0 := fun off => pc_iptr (off := off) hr.elems0 (show k < (ints cur).length by simp; omega)
    have s1 : sidx 1 v (.int .i64 k) = some k := by rw [sidx_sl hv (by omega) (by simp; omega)]; simp
    have s2 : sidx 1 u (.int .i64 k) = some k := by rw [sidx_sl hu (by omega) (by simp; omega)]; simp
    have p1 := fun off fr => pc_iptr (off := off) (hv.elems fr) (show k < (ints l).length by simp; omega)
    have p2 := fun off fr => pc_iptr (off := off) (hu.elems fr) (show k < (ints m).length by simp; omega)
    simp only [ints_get] at p0 p1 p2
    have hck : cur[k]'(by omega) = g[k]'(by omega) := by
      simp only [hcur]
      rw [List.getElem_append_right (by simp; omega)]
      simp
      congr 1; omega
    rw [hck] at p0
    have b1 := hlx _ (List.getElem_mem (show k < l.length by omega))
    have b2 := hmx _ (List.getElem_mem (show k < m.length by omega))
    have b3 := hgx _ (List.getElem_mem (show k < g.length by omega))
    have hun : (underS l m g)[k]'(by omega) = roundS (l[k] * 1024 + m[k]'(by omega) * g[k]'(by omega)) := by
      have e1 : l.getD k 0 = l[k] := by simp [List.getD_eq_getElem?_getD, hk']
      have e2 : m.getD k 0 = m[k]'(by omega) := by rw [List.getD_eq_getElem?_getD, List.getElem?_eq_getElem (by omega)]; rfl
      have e3 : g.getD k 0 = g[k]'(by omega) := by rw [List.getD_eq_getElem?_getD, List.getElem?_eq_getElem (by omega)]; rfl
      simp only [underS, List.getElem_map, List.getElem_range, underAt, e1, e2, e3]
    obtain ⟨x, hx⟩ : ∃ x, x = l[k] := ⟨_, rfl⟩
    obtain ⟨y, hy⟩ : ∃ y, y = m[k]'(by omega) := ⟨_, rfl⟩
    obtain ⟨w, hw⟩ : ∃ w, w = g[k]'(by omega) := ⟨_, rfl⟩
    rw [← hx] at p1 b1 hun
    rw [← hy] at p2 b2 hun
    rw [← hw] at p0 b3 hun
    have b4 := mul_bd (A := 32768) (B := 1024) (x := y) (y := w) (by omega) (by omega) b3.1 b3.2
    have e5 := ps_iptr_fr (lo := h.length) (ns := 1) (h := h) (fr := [(ver, .arr 1 (cur.map (.int .i64)))]) (s := 0) (ver := ver) (o := 0) (len := l.length) (fill := l.length) (i := k) (k := .i64) (l := cur) (n := roundS (x * 1024 + y * w)) rfl hcl (by omega) hk' (by omega)
    have hnew : cur.set k (roundS (x * 1024 + y * w)) = (underS l m g).take (k + 1) ++ g.drop (k + 1) := by
      rw [hcur, List.take_succ_eq_append_getElem (by omega), List.drop_eq_getElem_cons (show k < g.length by omega), List.append_assoc, List.set_append_right _ _ (by simp; omega), hun]
      congr 1
      have : k - ((underS l m g).take k).length = 0 := by simp; omega
      rw [this]; rfl
    rw [Nat.zero_add, hnew] at e5
    have e := ih (k + 1) (by omega) (by omega)
    rw [cast1] at e
    obtain ⟨q, hq⟩ : ∃ q, q = y * w := ⟨_, rfl⟩
    rw [← hq] at b4 e5
    rw [← hcur, w_loop]
    simp only [ints] at p0 e5 e ⊢
    simp (maxSteps := 1000000) (disch := omega) only [go_sem, ↓reduceIte, Nat.reduceEqDiff, Nat.reduceAdd, Nat.reduceSub, Nat.reduceMul, Nat.reduceLT, Nat.reduceLeDiff, reduceCtorEq, Nat.succ_ne_self, ne_eq, not_true_eq_false, not_false_eq_true, and_self, and_true, true_and, Nat.zero_add, Nat.sub_zero, Nat.zero_mul, Nat.one_mul, Nat.le_refl, List.getElem?_cons_zero, List.set_cons_zero, Int.reduceToNat, Int.reduceLT, Int.reduceLE, Int.reduceAdd, Int.reduceSub, Int.reduceMul, Int.reduceEq, Int.reduceNe, Int.toNat_natCast, Int.natCast_zero, wrap_id, wrapu_id, wrapb_id, idx_ok, bin_quo, bin_rem, tdiv_id, tmod_id, ps_bptr, c1, s0, p0, s1, p1, s2, p2, ← hq, round_run, e5, e]
def underOk (l m : List Int) (lev fl att rel : Int) : Bool := duckOk l lev fl att rel && soundB m && decide (m.length = l.length)
theorem duckOk_iff {l : List Int} {lev fl att rel : Int} (h : duckOk l lev fl att rel = true) : soundB l = true ∧ (1 ≤ lev ∧ lev ≤ 32768) ∧ (0 ≤ fl ∧ fl ≤ 1024) ∧ (1 ≤ att ∧ att ≤ 300) ∧ (1 ≤ rel ∧ rel ≤ 300) := by
  simp only [duckOk, Bool.and_eq_true, inB_iff] at h
  exact ⟨h.1.1.1.1, h.1.1.1.2, h.1.1.2, h.1.2, h.2⟩
theorem rampS_bd {fl long d : Int} (h1 : 0 ≤ fl ∧ fl ≤ 1024) (h3 : 1 ≤ long) (h4 : 0 ≤ d) : fl ≤ rampS fl long d ∧ rampS fl long d ≤ 1024 := by
  have := ramp_bd h1.1 h1.2 h3 h4
  unfold rampS; omega
theorem duckAt_bd {lev fl att rel : Int} (l : List Int) (hfl : 0 ≤ fl ∧ fl ≤ 1024) (ha : 1 ≤ att) (hr : 1 ≤ rel) (i : Nat) : fl ≤ duckAt lev fl att rel l i ∧ duckAt lev fl att rel l i ≤ 1024 := by
  have a := rampS_bd hfl hr (lastS_bd ((l.take (i + 1)).map (onS lev)) 1200 (by omega)).1
  have b := rampS_bd hfl ha (lastS_bd ((l.drop i).map (onS lev)).reverse 1200 (by omega)).1
  unfold duckAt; omega
theorem duckS_bd {lev fl att rel : Int} (l : List Int) (hfl : 0 ≤ fl ∧ fl ≤ 1024) (ha : 1 ≤ att) (hr : 1 ≤ rel) : ∀ x ∈ duckS lev fl att rel l, fl ≤ x ∧ x ≤ 1024 := by
  intro x hx
  simp only [duckS, List.mem_map] at hx
  obtain ⟨i, _, rfl⟩ := hx
  exact duckAt_bd l hfl ha hr i
theorem under_run {h : Heap} {v u : AV} {l m : List Int} (hv : Sl h 1 v (ints l)) (hu : Sl h 1 u (ints m)) (hl : l.length ≤ 9223372036854775807) (hm : m.length ≤ 9223372036854775807) (lev fl att rel : Int) (lo : Nat) :
    (run lib).fn 29 [v, u, .int .i64 lev, .int .i64 fl, .int .i64 att, .int .i64 rel] h lo =
      some (if underOk l m lev fl att rel = true then .tuple [if l = [] then .lst 1 [] else .own 1 (ints (underS l m (duckS lev fl att rel l))), .int .i64 0] else .tuple [.own 0 [], .int .i64 170], h) := by
  have e1 := fun fr lo => duck_run (hv.app fr) hl lev fl att rel lo
  have e2 := fun fr lo => sound_run (hu.app fr) hm lo
  have hvl := hv.len
  have hul := hu.len
  simp only [ints_len] at hvl hul
  rw [run_closed (x := x29) rfl rfl rfl rfl]
  unfold underOk
  cases h1 : duckOk l lev fl att rel with
  | false =>
    have t1 := take_none2 (cx := ⟨h.length, h.length, 1, none⟩) (s := 0) (z := 0) (h := h ++ [(0, .dead)]) (r := [.int .i64 170])
    rw [h1] at e1; simp (maxSteps := 1000000) (disch := omega) only [go_sem, ↓reduceIte, Nat.reduceEqDiff, Nat.reduceAdd, Nat.reduceSub, Nat.reduceMul, Nat.reduceLT, Nat.reduceLeDiff, reduceCtorEq, Nat.succ_ne_self, ne_eq, not_true_eq_false, not_false_eq_true, and_self, and_true, true_and, Nat.zero_add, Nat.sub_zero, Nat.zero_mul, Nat.one_mul, Nat.le_refl, List.getElem?_cons_zero, List.set_cons_zero, Int.reduceToNat, Int.reduceLT, Int.reduceLE, Int.reduceAdd, Int.reduceSub, Int.reduceMul, Int.reduceEq, Int.reduceNe, Int.toNat_natCast, Int.natCast_zero, wrap_id, wrapu_id, wrapb_id, idx_ok, bin_quo, bin_rem, tdiv_id, tmod_id, ps_bptr, x29, e1, t1]
  | true =>
  rw [h1] at e1
  obtain ⟨b1, b2, b3, b4, b5⟩ := duckOk_iff h1
  have hsl := duckS_len lev fl att rel l
  by_cases h0 : l = []
  · subst h0
    simp only [duckS, List.length_nil, List.range_zero, List.map_nil, ints] at e1
    have t1 := take_none2 (cx := ⟨h.length, h.length, 1, none⟩) (s := 0) (z := 1) (h := h ++ [(0, .dead)]) (r := [.int .i64 0])
    cases h2 : soundB m with
    | false => rw [h2] at e2; simp (maxSteps := 1000000) (disch := omega) only [go_sem, ↓reduceIte, Nat.reduceEqDiff, Nat.reduceAdd, Nat.reduceSub, Nat.reduceMul, Nat.reduceLT, Nat.reduceLeDiff, reduceCtorEq, Nat.succ_ne_self, ne_eq, not_true_eq_false, not_false_eq_true, and_self, and_true, true_and, Nat.zero_add, Nat.sub_zero, Nat.zero_mul, Nat.one_mul, Nat.le_refl, List.getElem?_cons_zero, List.set_cons_zero, Int.reduceToNat, Int.reduceLT, Int.reduceLE, Int.reduceAdd, Int.reduceSub, Int.reduceMul, Int.reduceEq, Int.reduceNe, Int.toNat_natCast, Int.natCast_zero, wrap_id, wrapu_id, wrapb_id, idx_ok, bin_quo, bin_rem, tdiv_id, tmod_id, ps_bptr, x29, e1, e2, t1]
    | true =>
    rw [h2] at e2
    by_cases h3 : m.length = 0
    · have c3 : ((m.length : Nat) : Int) = 0 := by omega
      simp (maxSteps := 1000000) (disch := omega) only [go_sem, ↓reduceIte, Nat.reduceEqDiff, Nat.reduceAdd, Nat.reduceSub, Nat.reduceMul, Nat.reduceLT, Nat.reduceLeDiff, reduceCtorEq, Nat.succ_ne_self, ne_eq, not_true_eq_false, not_false_eq_true, and_self, and_true, true_and, Nat.zero_add, Nat.sub_zero, Nat.zero_mul, Nat.one_mul, Nat.le_refl, List.getElem?_cons_zero, List.set_cons_zero, Int.reduceToNat, Int.reduceLT, Int.reduceLE, Int.reduceAdd, Int.reduceSub, Int.reduceMul, Int.reduceEq, Int.reduceNe, Int.toNat_natCast, Int.natCast_zero, wrap_id, wrapu_id, wrapb_id, idx_ok, bin_quo, bin_rem, tdiv_id, tmod_id, ps_bptr, x29, e1, e2, t1, lenv_sl hvl, lenv_sl hul, c3, h3, w_loop, List.length_nil, Int.natCast_zero]
    · have c3 : ¬ ((m.length : Nat) : Int) = 0 := by omega
      simp (maxSteps := 1000000) (disch := omega) only [go_sem, ↓reduceIte, Nat.reduceEqDiff, Nat.reduceAdd, Nat.reduceSub, Nat.reduceMul, Nat.reduceLT, Nat.reduceLeDiff, reduceCtorEq, Nat.succ_ne_self, ne_eq, not_true_eq_false, not_false_eq_true, and_self, and_true, true_and, Nat.zero_add, Nat.sub_zero, Nat.zero_mul, Nat.one_mul, Nat.le_refl, List.getElem?_cons_zero, List.set_cons_zero, Int.reduceToNat, Int.reduceLT, Int.reduceLE, Int.reduceAdd, Int.reduceSub, Int.reduceMul, Int.reduceEq, Int.reduceNe, Int.toNat_natCast, Int.natCast_zero, wrap_id, wrapu_id, wrapb_id, idx_ok, bin_quo, bin_rem, tdiv_id, tmod_id, ps_bptr, x29, e1, e2, t1, lenv_sl hvl, lenv_sl hul, c3, h3, w_loop, List.length_nil, Int.natCast_zero]
  · have hne : ints (duckS lev fl att rel l) ≠ [] := by
      rw [ne_eq, ints_nil]
      intro hh
      rw [hh] at hsl
      exact h0 (List.eq_nil_of_length_eq_zero hsl.symm)
    have t1 := take_own2 (lo := h.length) (ns := 1) (s := 0) (z := 1) (h := h) (fr := [(0, .dead)]) (b0 := (0, .dead)) (es := ints (duckS lev fl att rel l)) (r := [.int .i64 0]) (by omega) rfl hne
    simp only [ownV, if_neg hne, ints_len, hsl] at t1
    cases h2 : soundB m with
    | false => rw [h2] at e2; simp (maxSteps := 1000000) (disch := omega) only [go_sem, ↓reduceIte, Nat.reduceEqDiff, Nat.reduceAdd, Nat.reduceSub, Nat.reduceMul, Nat.reduceLT, Nat.reduceLeDiff, reduceCtorEq, Nat.succ_ne_self, ne_eq, not_true_eq_false, not_false_eq_true, and_self, and_true, true_and, Nat.zero_add, Nat.sub_zero, Nat.zero_mul, Nat.one_mul, Nat.le_refl, List.getElem?_cons_zero, List.set_cons_zero, Int.reduceToNat, Int.reduceLT, Int.reduceLE, Int.reduceAdd, Int.reduceSub, Int.reduceMul, Int.reduceEq, Int.reduceNe, Int.toNat_natCast, Int.natCast_zero, wrap_id, wrapu_id, wrapb_id, idx_ok, bin_quo, bin_rem, tdiv_id, tmod_id, ps_bptr, x29, e1, e2, t1]
    | true =>
    rw [h2] at e2
    by_cases h3 : m.length = l.length
    · have c3 : ((m.length : Nat) : Int) = (l.length : Nat) := by omega
      have e := under_loop (h := h) hv hu (soundB_le b1) h3 hsl (soundB_in b1) (soundB_in h2) (fun x hx => by have := duckS_bd l b3 b4.1 b5.1 x hx; omega) (0 + 1) _ 0 rfl (by omega)
      simp only [Int.natCast_zero, List.take_zero, List.nil_append, List.drop_zero] at e
      have hgv := give_fr (s := 0) (ver := 0 + 1) (z := 1) (h := h) (es := ints (underS l m (duckS lev fl att rel l))) (fr := [(0 + 1, .arr 1 (ints (underS l m (duckS lev fl att rel l))))]) rfl
      simp only [ints_len, underS_len] at hgv
      simp (maxSteps := 1000000) (disch := omega) only [go_sem, ↓reduceIte, Nat.reduceEqDiff, Nat.reduceAdd, Nat.reduceSub, Nat.reduceMul, Nat.reduceLT, Nat.reduceLeDiff, reduceCtorEq, Nat.succ_ne_self, ne_eq, not_true_eq_false, not_false_eq_true, and_self, and_true, true_and, Nat.zero_add, Nat.sub_zero, Nat.zero_mul, Nat.one_mul, Nat.le_refl, List.getElem?_cons_zero, List.set_cons_zero, Int.reduceToNat, Int.reduceLT, Int.reduceLE, Int.reduceAdd, Int.reduceSub, Int.reduceMul, Int.reduceEq, Int.reduceNe, Int.toNat_natCast, Int.natCast_zero, wrap_id, wrapu_id, wrapb_id, idx_ok, bin_quo, bin_rem, tdiv_id, tmod_id, ps_bptr, x29, e1, e2, t1, lenv_sl hvl, lenv_sl hul, c3, h3, e, hgv, h0]
    · have c3 : ¬ ((m.length : Nat) : Int) = (l.length : Nat) := by omega
      simp (maxSteps := 1000000) (disch := omega) only [go_sem, ↓reduceIte, Nat.reduceEqDiff, Nat.reduceAdd, Nat.reduceSub, Nat.reduceMul, Nat.reduceLT, Nat.reduceLeDiff, reduceCtorEq, Nat.succ_ne_self, ne_eq, not_true_eq_false, not_false_eq_true, and_self, and_true, true_and, Nat.zero_add, Nat.sub_zero, Nat.zero_mul, Nat.one_mul, Nat.le_refl, List.getElem?_cons_zero, List.set_cons_zero, Int.reduceToNat, Int.reduceLT, Int.reduceLE, Int.reduceAdd, Int.reduceSub, Int.reduceMul, Int.reduceEq, Int.reduceNe, Int.toNat_natCast, Int.natCast_zero, wrap_id, wrapu_id, wrapb_id, idx_ok, bin_quo, bin_rem, tdiv_id, tmod_id, ps_bptr, x29, e1, e2, t1, lenv_sl hvl, lenv_sl hul, c3, h3]
end Go.VI.Mix
