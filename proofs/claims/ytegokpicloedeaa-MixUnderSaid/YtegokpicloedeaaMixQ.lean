import Derived.Test.YtegokpicloedeaaMixP
namespace Go.VI.Mix
set_option linter.unusedVariables false
set_option linter.unusedSimpArgs false

theorem law8_zero {h : Heap} (ld : Int) (hld : okI ld) (ns up : AV) (n ver : Nat) (hn : n ≤ 600) (d : Nat) :
    ∀ (k : Nat) (cur : List Int), d = n - k → k ≤ n → cur.length = n → (∀ x ∈ cur, -32768 ≤ x ∧ x ≤ 32767) →
    ∃ l : List Int, l.length = n ∧ (∀ x ∈ l, -32768 ≤ x ∧ x ≤ 32767) ∧
    runC lib ⟨h.length, h.length, 1, none⟩ (.loop b8_2) ([(1, .int .i64 ld), (5, ns), (7, up), (8, .ref (h.length + 0) ver 1 0 n n), (9, .int .i64 k)], h ++ [(ver, .arr 1 (ints cur))]) =
      some (.exit 0, ([(5, ns), (7, up), (8, .ref (h.length + 0) ver 1 0 n n)], h ++ [(ver, .arr 1 (ints l))])) := by
  induction d with
  | zero =>
    intro k cur hd hk hc hx
    refine ⟨cur, hc, hx, ?_⟩
    have c1 : ¬ (k : Int) < n := by omega
    have hr := Sl.refAll (h := h) (fr := [(ver, .arr 1 (ints cur))]) (s := 0) (ver := ver) (z := 1) (es := ints cur) rfl
    rw [ints_len, hc] at hr
    have hrl := hr.len
    rw [ints_len, hc] at hrl
    rw [w_loop]
    simp (maxSteps := 1000000) (disch := omega) only [go_sem, ↓reduceIte, Nat.reduceEqDiff, Nat.reduceAdd, Nat.reduceSub, Nat.reduceMul, Nat.reduceLT, Nat.reduceLeDiff, reduceCtorEq, Nat.succ_ne_self, ne_eq, not_true_eq_false, not_false_eq_true, and_self, and_true, true_and, Nat.zero_add, Nat.sub_zero, Nat.zero_mul, Nat.one_mul, Nat.le_refl, List.getElem?_cons_zero, List.set_cons_zero, Int.reduceToNat, Int.reduceLT, Int.reduceLE, Int.reduceAdd, Int.reduceSub, Int.reduceMul, Int.reduceEq, Int.reduceNe, Int.toNat_natCast, Int.natCast_zero, wrap_id, wrapu_id, wrapb_id, idx_ok, bin_quo, bin_rem, tdiv_id, tmod_id, ps_bptr, lenv_sl hrl, c1]
  | succ d ih =>
    intro k cur hd hk hc hx
    have hk' : k < n := by omega
    have c1 : (k : Int) < n := by omega
    have hr := Sl.refAll (h := h) (fr := [(ver, .arr 1 (ints cur))]) (s := 0) (ver := ver) (z := 1) (es := ints cur) rfl
    rw [ints_len, hc] at hr
    have hrl := hr.len
    rw [ints_len, hc] at hrl
    have s0 : sidx 1 (.ref (h.length + 0) ver 1 0 n n) (.int .i64 k) = some k := by rw [sidx_sl hr (by omega) (by simp; omega)]; simp
    have hp := pickS_bd (c := ld) (n := 1099511627776) (by omega)
    have hsh := bin_shr (k := .i64) (k' := .i64) (a := pickS ld 1099511627776) (b := (k : Int)) (by omega)
    have hq0 : 0 ≤ pickS ld 1099511627776 / 2 ^ (min (k : Int).toNat IntKind.i64.bits) := Int.ediv_nonneg hp.1 (Int.pow_nonneg (by omega))
    have hq1 : pickS ld 1099511627776 / 2 ^ (min (k : Int).toNat IntKind.i64.bits) ≤ 1099511627776 := Int.le_trans (Int.ediv_le_self _ hp.1) (by omega)
    obtain ⟨q, hq⟩ : ∃ q, q = pickS ld 1099511627776 / 2 ^ (min (k : Int).toNat IntKind.i64.bits) := ⟨_, rfl⟩
    rw [← hq] at hsh hq0 hq1
    have hpk := fun hh lo => pick13 ld 1099511627776 hh lo hld.1 hld.2 (by omega)
    by_cases c : q % 2 = 0
    · have e5 := ps_iptr_fr (lo := h.length) (ns := 1) (h := h) (fr := [(ver, .arr 1 (cur.map (.int .i64)))]) (s := 0) (ver := ver) (o := 0) (len := n) (fill := n) (i := k) (k := .i64) (l := cur) (n := 0) rfl hc (by omega) hk' (by omega)
      rw [Nat.zero_add] at e5
      obtain ⟨l, l1, l2, e⟩ := ih (k + 1) (cur.set k 0) (by omega) (by omega) (by simp [hc]) (fun x hxm => by
        rcases List.mem_or_eq_of_mem_set hxm with hxm | rfl
        · exact hx x hxm
        · omega)
      refine ⟨l, l1, l2, ?_⟩
      rw [cast1] at e
      rw [w_loop]
      simp only [ints] at e5 e ⊢
      simp (maxSteps := 1000000) (disch := omega) only [go_sem, ↓reduceIte, Nat.reduceEqDiff, Nat.reduceAdd, Nat.reduceSub, Nat.reduceMul, Nat.reduceLT, Nat.reduceLeDiff, reduceCtorEq, Nat.succ_ne_self, ne_eq, not_true_eq_false, not_false_eq_true, and_self, and_true, true_and, Nat.zero_add, Nat.sub_zero, Nat.zero_mul, Nat.one_mul, Nat.le_refl, List.getElem?_cons_zero, List.set_cons_zero, Int.reduceToNat, Int.reduceLT, Int.reduceLE, Int.reduceAdd, Int.reduceSub, Int.reduceMul, Int.reduceEq, Int.reduceNe, Int.toNat_natCast, Int.natCast_zero, wrap_id, wrapu_id, wrapb_id, idx_ok, bin_quo, bin_rem, tdiv_id, tmod_id, ps_bptr, lenv_sl hrl, c1, s0, hpk, hsh, c, e5, e]
    · obtain ⟨l, l1, l2, e⟩ := ih (k + 1) cur (by omega) (by omega) hc hx
      refine ⟨l, l1, l2, ?_⟩
      rw [cast1] at e
      rw [w_loop]
      simp (maxSteps := 1000000) (disch := omega) only [go_sem, ↓reduceIte, Nat.reduceEqDiff, Nat.reduceAdd, Nat.reduceSub, Nat.reduceMul, Nat.reduceLT, Nat.reduceLeDiff, reduceCtorEq, Nat.succ_ne_self, ne_eq, not_true_eq_false, not_false_eq_true, and_self, and_true, true_and, Nat.zero_add, Nat.sub_zero, Nat.zero_mul, Nat.one_mul, Nat.le_refl, List.getElem?_cons_zero, List.set_cons_zero, Int.reduceToNat, Int.reduceLT, Int.reduceLE, Int.reduceAdd, Int.reduceSub, Int.reduceMul, Int.reduceEq, Int.reduceNe, Int.toNat_natCast, Int.natCast_zero, wrap_id, wrapu_id, wrapb_id, idx_ok, bin_quo, bin_rem, tdiv_id, tmod_id, ps_bptr, lenv_sl hrl, c1, s0, hpk, hsh, c, e]

theorem law8 {h : Heap} {v : AV} {a : List Int} (hv : Sl h 1 v (ints a)) (hl : a.length ≤ 9223372036854775807) (hai : ∀ n ∈ a, okI n) (ld n0 n1 n2 n3 : Int) (o : okI ld) (o0 : okI n0) (o1 : okI n1) (o2 : okI n2) (o3 : okI n3)
    (hs : (run lib).fn 11 [] (h ++ [(0, .dead)]) h.length = some (.bool true, h ++ [(0, .dead)])) (lo : Nat) : (run lib).fn 8 [v, .int .i64 ld, .agg [.int .i64 n0, .int .i64 n1, .int .i64 n2, .int .i64 n3]] h lo = some (.bool true, h) := by
  obtain ⟨m1, m2⟩ := madeS_bd a
  have e1 := made_run (hv.app [(0, .dead)]) hl hai h.length
  have p0 := fun hh lo => pick13 n0 20000 hh lo o0.1 o0.2 (by omega)
  have p1 := fun hh lo => pick13 n1 1025 hh lo o1.1 o1.2 (by omega)
  have p2 := fun hh lo => pick13 n2 20 hh lo o2.1 o2.2 (by omega)
  have p3 := fun hh lo => pick13 n3 20 hh lo o3.1 o3.2 (by omega)
  have q0 := pickS_bd (c := n0) (n := 20000) (by omega)
  have q1 := pickS_bd (c := n1) (n := 1025) (by omega)
  have q2 := pickS_bd (c := n2) (n := 20) (by omega)
  have q3 := pickS_bd (c := n3) (n := 20) (by omega)
  obtain ⟨lev, hlev⟩ : ∃ x, x = 1 + pickS n0 20000 := ⟨_, rfl⟩
  obtain ⟨fl, hfl⟩ : ∃ x, x = pickS n1 1025 := ⟨_, rfl⟩
  obtain ⟨att, hatt⟩ : ∃ x, x = 1 + pickS n2 20 := ⟨_, rfl⟩
  obtain ⟨rel, hrel⟩ : ∃ x, x = 1 + pickS n3 20 := ⟨_, rfl⟩
  have key : ∀ (H : Heap) (u : AV) (l : List Int), Sl H 1 u (ints l) → l.length ≤ 600 → (∀ x ∈ l, -32768 ≤ x ∧ x ≤ 32767) → ∀ cx,
      runC lib cx (.loop b8_0) ([(7, .bool true), (8, u), (10, .int .i64 lev), (11, .int .i64 fl), (12, .int .i64 att), (13, .int .i64 rel), (14, .lst 1 (ints (duckS lev fl att rel l))), (16, .int .i64 0)], H) = some (.exit 2, ([(7, .bool true)], H)) := by
    intro H u l hu hll hlx cx
    have := law8_out (cx := cx) (g := duckS lev fl att rel l) hu (Sl.lst H 1 _) hll (duckS_len ..) hlx lev fl att rel (by omega) (by omega)
      (fun i hi => duckS_bd l (by omega) (by omega) (by omega) _ (List.getElem_mem hi))
      (fun i hi hon => by
        simp only [duckS, List.getElem_map, List.getElem_range]
        exact duckAt_on (by rw [duckS_len] at hi; exact hi) (by omega) (by omega) hon)
      (fun i hi hoff => by
        simp only [duckS, List.getElem_map, List.getElem_range]
        have ea : (att.toNat : Int) = att := by omega
        have er : (rel.toNat : Int) = rel := by omega
        have := duckAt_off (lev := lev) (fl := fl) (att := att.toNat) (rel := rel.toNat) (l := l) (i := i) (by rw [duckS_len] at hi; exact hi) (by omega) (by omega) (by omega) (by omega) hoff
        rw [ea, er] at this
        exact this) _ 0 rfl (by omega)
    simpa using this
  have ok : ∀ l : List Int, l.length ≤ 600 → (∀ x ∈ l, -32768 ≤ x ∧ x ≤ 32767) → duckOk l lev fl att rel = true := by
    intro l hll hlx
    simp only [duckOk, Bool.and_eq_true, inB_iff]
    exact ⟨⟨⟨⟨soundB_of hlx hll, by omega⟩, by omega⟩, by omega⟩, by omega⟩
  rw [run_closed (x := x8) rfl rfl rfl rfl]
  by_cases h0 : madeS a = []
  · have k1 := fun cx => key (h ++ [(0, .dead)]) (.lst 0 []) [] (Sl.lst0 _ 1 0) (by simp) (by simp) cx
    have d1 := duck_run (l := []) (Sl.lst0 (h ++ [(0, .dead)]) 1 0) (by simp) lev fl att rel h.length
    rw [if_pos (ok [] (by simp) (by simp))] at d1
    have t1 := take_none1 (cx := ⟨h.length, h.length, 1, none⟩) (s := 0) (z := 0) (h := h ++ [(0, .dead)])
    have l1 := (Sl.lst0 (h ++ [(0, .dead)]) 1 0).len
    have l2 := (Sl.lst0 (h ++ [(0, .dead)]) 1 1).len
    have ez : ∀ ns, runC lib ⟨h.length, h.length, 1, none⟩ (.loop b8_2) ([(1, .int .i64 ld), (5, ns), (7, .bool true), (8, .lst 0 []), (9, .int .i64 0)], h ++ [(0, .dead)]) = some (.exit 0, ([(5, ns), (7, .bool true), (8, .lst 0 [])], h ++ [(0, .dead)])) := by
      intro ns
      rw [w_loop]
      simp (maxSteps := 1000000) (disch := omega) only [go_sem, ↓reduceIte, Nat.reduceEqDiff, Nat.reduceAdd, Nat.reduceSub, Nat.reduceMul, Nat.reduceLT, Nat.reduceLeDiff, reduceCtorEq, Nat.succ_ne_self, ne_eq, not_true_eq_false, not_false_eq_true, and_self, and_true, true_and, Nat.zero_add, Nat.sub_zero, Nat.zero_mul, Nat.one_mul, Nat.le_refl, List.getElem?_cons_zero, List.set_cons_zero, Int.reduceToNat, Int.reduceLT, Int.reduceLE, Int.reduceAdd, Int.reduceSub, Int.reduceMul, Int.reduceEq, Int.reduceNe, Int.toNat_natCast, Int.natCast_zero, wrap_id, wrapu_id, wrapb_id, idx_ok, bin_quo, bin_rem, tdiv_id, tmod_id, ps_bptr, lenv_sl l1, List.length_nil, Int.natCast_zero]
    rw [h0] at e1
    simp only [ints, List.map_nil, ownV_nil, duckS, List.length_nil, List.range_zero] at e1 d1 k1
    subst hlev hfl hatt hrel
    simp (maxSteps := 1000000) (disch := omega) only [go_sem, ↓reduceIte, Nat.reduceEqDiff, Nat.reduceAdd, Nat.reduceSub, Nat.reduceMul, Nat.reduceLT, Nat.reduceLeDiff, reduceCtorEq, Nat.succ_ne_self, ne_eq, not_true_eq_false, not_false_eq_true, and_self, and_true, true_and, Nat.zero_add, Nat.sub_zero, Nat.zero_mul, Nat.one_mul, Nat.le_refl, List.getElem?_cons_zero, List.set_cons_zero, Int.reduceToNat, Int.reduceLT, Int.reduceLE, Int.reduceAdd, Int.reduceSub, Int.reduceMul, Int.reduceEq, Int.reduceNe, Int.toNat_natCast, Int.natCast_zero, wrap_id, wrapu_id, wrapb_id, idx_ok, bin_quo, bin_rem, tdiv_id, tmod_id, ps_bptr, x8, hs, e1, t1, ez, lenv_sl l1, lenv_sl l2, List.length_nil, Int.natCast_zero, p0, p1, p2, p3, d1, k1]
  · have hne : ints (madeS a) ≠ [] := by rw [ne_eq, ints_nil]; exact h0
    have t1 := take_own (lo := h.length) (ns := 1) (s := 0) (z := 1) (h := h) (fr := [(0, .dead)]) (b0 := (0, .dead)) (es := ints (madeS a)) (by omega) rfl hne
    rw [ints_len] at t1
    obtain ⟨l, l1, l2, ez⟩ := law8_zero (h := h) ld o (.cptr [.int .i64 n0, .int .i64 n1, .int .i64 n2, .int .i64 n3]) (.bool true) (madeS a).length (0 + 1) (by omega) _ 0 (madeS a) rfl (by omega) rfl m1
    have hr := Sl.refAll (h := h) (fr := [(0 + 1, .arr 1 (ints l))]) (s := 0) (ver := 0 + 1) (z := 1) (es := ints l) rfl
    rw [ints_len, l1] at hr
    have hrl := hr.len
    rw [ints_len, l1] at hrl
    have k1 := fun cx => key _ _ l hr (by omega) l2 cx
    have d1 := duck_run hr (by omega) lev fl att rel h.length
    rw [if_pos (ok l (by omega) l2)] at d1
    have l3 := (Sl.lst (h ++ [(0 + 1, .arr 1 (ints l))]) 1 (ints (duckS lev fl att rel l))).len
    rw [ints_len, duckS_len, l1] at l3
    rw [Int.natCast_zero] at ez
    subst hlev hfl hatt hrel
    simp (maxSteps := 1000000) (disch := omega) only [go_sem, ↓reduceIte, Nat.reduceEqDiff, Nat.reduceAdd, Nat.reduceSub, Nat.reduceMul, Nat.reduceLT, Nat.reduceLeDiff, reduceCtorEq, Nat.succ_ne_self, ne_eq, not_true_eq_false, not_false_eq_true, and_self, and_true, true_and, Nat.zero_add, Nat.sub_zero, Nat.zero_mul, Nat.one_mul, Nat.le_refl, List.getElem?_cons_zero, List.set_cons_zero, Int.reduceToNat, Int.reduceLT, Int.reduceLE, Int.reduceAdd, Int.reduceSub, Int.reduceMul, Int.reduceEq, Int.reduceNe, Int.toNat_natCast, Int.natCast_zero, wrap_id, wrapu_id, wrapb_id, idx_ok, bin_quo, bin_rem, tdiv_id, tmod_id, ps_bptr, x8, hs, e1, t1, ez, lenv_sl hrl, lenv_sl l3, p0, p1, p2, p3, d1, k1]
end Go.VI.Mix
