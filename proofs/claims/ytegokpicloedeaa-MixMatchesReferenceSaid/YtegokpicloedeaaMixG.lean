import Derived.Test.YtegokpicloedeaaMixF
namespace Go.VI.Mix
set_option linter.unusedVariables false
set_option linter.unusedSimpArgs false

theorem fold_bd {t : Trk} (ht : vT t = true) {M : Int} {o : List Int} (ho : bnd' M o) (hM : 0 ≤ M) (hol : o.length ≤ 600) : ∀ k, k ≤ t.sm.length → bnd' (M + 134217728 * k) ((List.range k).foldl (step1 t) o) ∧ ((List.range k).foldl (step1 t) o).length ≤ 600
  | 0, _ => by simpa using ⟨ho, hol⟩
  | k + 1, hk => by
    obtain ⟨h1, h2⟩ := fold_bd ht ho hM hol k (by omega)
    have hs := step1_bd ht (show k < t.sm.length by omega)
    obtain ⟨g1, g2, g3, g4, g5, g6⟩ := vT_of ht
    have hw := addAt_bnd (a := t.fr.toNat + k) (D := 134217728) (x := t.sm.getD k 0 * gainS t.gn k) h1 (by omega) hs
    rw [foldl_range_succ, step1, addAt_len]
    refine ⟨?_, by omega⟩
    rw [show M + 134217728 * ((k + 1 : Nat) : Int) = M + 134217728 * k + 134217728 by omega]
    exact hw
theorem addT_bd {t : Trk} (ht : vT t = true) {n : Nat} {o : List Int} (ho : bnd' (134217728 * n) o) (hol : o.length ≤ 600) : bnd' (134217728 * (n + 600 : Nat)) (addT o t) ∧ (addT o t).length ≤ 600 := by
  obtain ⟨h1, h2⟩ := fold_bd ht ho (by omega) hol t.sm.length (by omega)
  obtain ⟨g1, g2, _⟩ := vT_of ht
  exact ⟨fun x hx => by have := h1 x hx; omega, h2⟩
theorem exactL_bd : ∀ {l : List Trk} {n : Nat} {o : List Int}, (∀ t ∈ l, vT t = true) → bnd' (134217728 * n) o → o.length ≤ 600 → bnd' (134217728 * (n + 600 * l.length : Nat)) (l.foldl addT o) ∧ (l.foldl addT o).length ≤ 600
  | [], n, o, _, ho, hl => by simpa using ⟨ho, hl⟩
  | t :: l, n, o, hv, ho, hl => by
    obtain ⟨h1, h2⟩ := addT_bd (hv t (by simp)) ho hl
    obtain ⟨h3, h4⟩ := exactL_bd (l := l) (fun t ht => hv t (by simp [ht])) h1 h2
    refine ⟨?_, h4⟩
    rw [show n + 600 * (t :: l).length = n + 600 + 600 * l.length by simp; omega]
    exact h3
theorem exact_loop0 {h : Heap} {v : AV} {l : List Trk} (hv : Sl h 3 v (trks l)) (hl : l.length ≤ 8) (hz : ∀ t ∈ l, okZ t) (hvt : ∀ t ∈ l, vT t = true) (d : Nat) :
    ∀ (k v1 : Nat) (b1 : Blk), d = l.length - k → k ≤ l.length → ∃ q,
    runC lib ⟨h.length, h.length, 2, none⟩ (.loop b18_0) ([(4, accV (h.length + 0) (0, .dead) 1 (ints (exactL (l.take k)))), (11, v), (12, .int .i64 l.length), (13, .int .i64 k)], h ++ [accB (0, .dead) 1 (ints (exactL (l.take k))), (v1, b1)]) =
      some (.exit 0, ([(4, accV (h.length + 0) (0, .dead) 1 (ints (exactL l)))], h ++ [accB (0, .dead) 1 (ints (exactL l)), q])) := by
  induction d with
  | zero =>
    intro k v1 b1 hd hk
    have : k = l.length := by omega
    subst this
    refine ⟨(v1, b1), ?_⟩
    rw [List.take_length, w_loop]
    simp (maxSteps := 1000000) (disch := omega) only [go_sem, ↓reduceIte, Nat.reduceEqDiff, Nat.reduceAdd, Nat.reduceSub, Nat.reduceMul, Nat.reduceLT, Nat.reduceLeDiff, reduceCtorEq, Nat.succ_ne_self, ne_eq, not_true_eq_false, not_false_eq_true, and_self, and_true, true_and, Nat.zero_add, Nat.sub_zero, Nat.zero_mul, Nat.one_mul, Nat.le_refl, List.getElem?_cons_zero, List.set_cons_zero, Int.reduceToNat, Int.reduceLT, Int.reduceLE, Int.reduceAdd, Int.reduceSub, Int.reduceMul, Int.reduceEq, Int.reduceNe, Int.toNat_natCast, Int.natCast_zero, wrap_id, wrapu_id, wrapb_id, idx_ok, bin_quo, bin_rem, tdiv_id, tmod_id, ps_bptr, Int.lt_irrefl]
  | succ d ih =>
    intro k v1 b1 hd hk
    have hk' : k < l.length := by omega
    have h1 : (k : Int) < l.length := by omega
    have e3 : sidx 3 v (.int .i64 k) = some k := by rw [sidx_sl hv (by omega) (by simp; omega)]; simp
    have e4 := fun off fr => pc_iptr (off := off) (hv.elems fr) (show k < (trks l).length by simp; omega)
    simp only [trks_get, trk] at e4
    have hz' := hz l[k] (List.getElem_mem _)
    have hvt' := hvt l[k] (List.getElem_mem _)
    have hb := exactL_bd (l := l.take k) (n := 0) (o := []) (fun t ht => hvt t (List.mem_of_mem_take ht)) (by intro x hx; simp at hx) (by simp)
    have hfold : exactL (l.take (k + 1)) = addT (exactL (l.take k)) l[k] := by unfold exactL; rw [List.take_succ_eq_append_getElem hk', List.foldl_append]; rfl
    obtain ⟨t, ht⟩ : ∃ t, t = l[k] := ⟨_, rfl⟩
    rw [← ht] at e4 hz' hvt' hfold
    have s3 := lenv_sl (hz'.sls h).len
    obtain ⟨q, e⟩ := ih (k + 1) (v1 + 1) (.box [.int .i64 t.fr, .lst t.zs (ints t.sm), .lst t.zg (pts t.gn)]) (by omega) (by omega)
    rw [cast1, hfold] at e
    have hb2 : bnd' (134217728 * ((0 + 600 * (l.take k).length : Nat) : Int)) (exactL (l.take k)) := hb.1
    have hb3 : (exactL (l.take k)).length ≤ 600 := hb.2
    have e5 := exact_loop1 (h := h) (v := v) hvt' hz' (exactL (l.take k)) (0 + 600 * (l.take k).length) hb2 hb3 k l.length (v1 + 1) (by simp; omega) _ 0 rfl (by omega) (by simpa using hb2) (by simpa using hb3)
    simp only [List.range_zero, List.foldl_nil, Int.natCast_zero] at e5
    refine ⟨q, ?_⟩
    rw [w_loop]
    simp (maxSteps := 1000000) (disch := omega) only [go_sem, ↓reduceIte, Nat.reduceEqDiff, Nat.reduceAdd, Nat.reduceSub, Nat.reduceMul, Nat.reduceLT, Nat.reduceLeDiff, reduceCtorEq, Nat.succ_ne_self, ne_eq, not_true_eq_false, not_false_eq_true, and_self, and_true, true_and, Nat.zero_add, Nat.sub_zero, Nat.zero_mul, Nat.one_mul, Nat.le_refl, List.getElem?_cons_zero, List.set_cons_zero, Int.reduceToNat, Int.reduceLT, Int.reduceLE, Int.reduceAdd, Int.reduceSub, Int.reduceMul, Int.reduceEq, Int.reduceNe, Int.toNat_natCast, Int.natCast_zero, wrap_id, wrapu_id, wrapb_id, idx_ok, bin_quo, bin_rem, tdiv_id, tmod_id, ps_bptr, h1, e3, e4, s3, ints_len, e5, e]
theorem exact_run {h : Heap} {v : AV} {l : List Trk} (hv : Sl h 3 v (trks l)) (hl : l.length ≤ 9223372036854775807) (hz : ∀ t ∈ l, okT t) (lo : Nat) :
    (run lib).fn 18 [v] h lo = some (if validB l = true then .tuple [ownV 1 (ints (exactL l)), .int .i64 0] else .tuple [.own 0 [], .int .i64 170], h) := by
  have e1 := fun fr lo => valid_run (hv.app fr) hl hz lo
  rw [run_closed (x := x18) rfl rfl rfl rfl]
  cases hb : validB l with
  | false =>
    rw [hb] at e1
    simp (maxSteps := 1000000) (disch := omega) only [go_sem, ↓reduceIte, Nat.reduceEqDiff, Nat.reduceAdd, Nat.reduceSub, Nat.reduceMul, Nat.reduceLT, Nat.reduceLeDiff, reduceCtorEq, Nat.succ_ne_self, ne_eq, not_true_eq_false, not_false_eq_true, and_self, and_true, true_and, Nat.zero_add, Nat.sub_zero, Nat.zero_mul, Nat.one_mul, Nat.le_refl, List.getElem?_cons_zero, List.set_cons_zero, Int.reduceToNat, Int.reduceLT, Int.reduceLE, Int.reduceAdd, Int.reduceSub, Int.reduceMul, Int.reduceEq, Int.reduceNe, Int.toNat_natCast, Int.natCast_zero, wrap_id, wrapu_id, wrapb_id, idx_ok, bin_quo, bin_rem, tdiv_id, tmod_id, ps_bptr, x18, e1]
  | true =>
    rw [hb] at e1
    unfold validB at hb
    simp only [Bool.and_eq_true, decide_eq_true_eq, List.all_eq_true] at hb
    obtain ⟨q, e⟩ := exact_loop0 hv (by omega) (fun t ht => (hz t ht).z) hb.1 _ 0 0 .dead rfl (by omega)
    simp only [Int.natCast_zero, List.take_zero, exactL, List.foldl_nil, ints, List.map_nil, accV_nil, accB_nil] at e
    have e2 := give_acc (s := 0) (z := 1) (h := h) (fr := [accB (0, .dead) 1 (ints (exactL l)), q]) (b0 := (0, .dead)) (es := ints (exactL l)) rfl
    simp only [ints, exactL] at e2 ⊢
    simp (maxSteps := 1000000) (disch := omega) only [go_sem, ↓reduceIte, Nat.reduceEqDiff, Nat.reduceAdd, Nat.reduceSub, Nat.reduceMul, Nat.reduceLT, Nat.reduceLeDiff, reduceCtorEq, Nat.succ_ne_self, ne_eq, not_true_eq_false, not_false_eq_true, and_self, and_true, true_and, Nat.zero_add, Nat.sub_zero, Nat.zero_mul, Nat.one_mul, Nat.le_refl, List.getElem?_cons_zero, List.set_cons_zero, Int.reduceToNat, Int.reduceLT, Int.reduceLE, Int.reduceAdd, Int.reduceSub, Int.reduceMul, Int.reduceEq, Int.reduceNe, Int.toNat_natCast, Int.natCast_zero, wrap_id, wrapu_id, wrapb_id, idx_ok, bin_quo, bin_rem, tdiv_id, tmod_id, ps_bptr, x18, e1, lenv_sl hv.len, trks_len, e, e2]

/-! Mix -/
theorem mix_loop {h : Heap} {es : List Int} (hl : es.length ≤ 600) (hb : bnd' 900000000000 es) (e0 : AV) (ver : Nat) (d : Nat) :
    ∀ k : Nat, d = es.length - k → k ≤ es.length →
    runC lib ⟨h.length, h.length, 1, none⟩ (.loop b20_0) ([(4, .ref (h.length + 0) ver 1 0 es.length es.length), (5, e0), (13, .int .i64 es.length), (14, .int .i64 k)], h ++ [(ver, .arr 1 (ints ((es.take k).map roundS ++ es.drop k)))]) =
      some (.exit 0, ([(4, .ref (h.length + 0) ver 1 0 es.length es.length), (5, e0)], h ++ [(ver, .arr 1 (ints (es.map roundS)))])) := by
  induction d with
  | zero =>
    intro k hd hk
    have : k = es.length := by omega
    subst this
    rw [List.take_length, List.drop_length, List.append_nil, w_loop]
    simp (maxSteps := 1000000) (disch := omega) only [go_sem, ↓reduceIte, Nat.reduceEqDiff, Nat.reduceAdd, Nat.reduceSub, Nat.reduceMul, Nat.reduceLT, Nat.reduceLeDiff, reduceCtorEq, Nat.succ_ne_self, ne_eq, not_true_eq_false, not_false_eq_true, and_self, and_true, true_and, Nat.zero_add, Nat.sub_zero, Nat.zero_mul, Nat.one_mul, Nat.le_refl, List.getElem?_cons_zero, List.set_cons_zero, Int.reduceToNat, Int.reduceLT, Int.reduceLE, Int.reduceAdd, Int.reduceSub, Int.reduceMul, Int.reduceEq, Int.reduceNe, Int.toNat_natCast, Int.natCast_zero, wrap_id, wrapu_id, wrapb_id, idx_ok, bin_quo, bin_rem, tdiv_id, tmod_id, ps_bptr, Int.lt_irrefl]
  | succ d ih =>
    intro k hd hk
    have hk' : k < es.length := by omega
    have c1 : (k : Int) < es.length := by omega
    obtain ⟨cur, hcur⟩ : ∃ cur, cur = (es.take k).map roundS ++ es.drop k := ⟨_, rfl⟩
    have hcl : cur.length = es.length := by rw [hcur]; simp; omega
    have hv := Sl.refAll (h := h) (fr := [(ver, .arr 1 (ints cur))]) (s := 0) (ver := ver) (z := 1) (es := ints cur) rfl
    rw [ints_len, hcl] at hv
    have e3 : sidx 1 (.ref (h.length + 0) ver 1 0 es.length es.length) (.int .i64 k) = some k := by rw [sidx_sl hv (by omega) (by simp; omega)]; simp
    have e4 := fun off => pc_iptr (off := off) hv.elems0 (show k < (ints cur).length by simp; omega)
    simp only [ints_get] at e4
    have hck : cur[k]'(by omega) = es[k] := by
      simp only [hcur]
      rw [List.getElem_append_right (by simp; omega)]
      simp
      congr 1; omega
    rw [hck] at e4
    have hx := hb _ (List.getElem_mem hk')
    have e5 := ps_iptr_fr (lo := h.length) (ns := 1) (h := h) (fr := [(ver, .arr 1 (cur.map (.int .i64)))]) (s := 0) (ver := ver) (o := 0) (len := es.length) (fill := es.length) (i := k) (k := .i64) (l := cur) (n := roundS es[k]) rfl hcl (by omega) hk' (by omega)
    have hnew : cur.set k (roundS es[k]) = (es.take (k + 1)).map roundS ++ es.drop (k + 1) := by
      rw [hcur, List.take_succ_eq_append_getElem hk', List.drop_eq_getElem_cons hk', List.map_append, List.append_assoc, List.set_append_right _ _ (by simp; omega)]
      congr 1
      have : k - ((es.take k).map roundS).length = 0 := by simp; omega
      rw [this]; rfl
    rw [Nat.zero_add, hnew] at e5
    have e := ih (k + 1) (by omega) (by omega)
    rw [cast1] at e
    rw [← hcur, w_loop]
    simp only [ints] at e4 e5 e ⊢
    simp (maxSteps := 1000000) (disch := omega) only [go_sem, ↓reduceIte, Nat.reduceEqDiff, Nat.reduceAdd, Nat.reduceSub, Nat.reduceMul, Nat.reduceLT, Nat.reduceLeDiff, reduceCtorEq, Nat.succ_ne_self, ne_eq, not_true_eq_false, not_false_eq_true, and_self, and_true, true_and, Nat.zero_add, Nat.sub_zero, Nat.zero_mul, Nat.one_mul, Nat.le_refl, List.getElem?_cons_zero, List.set_cons_zero, Int.reduceToNat, Int.reduceLT, Int.reduceLE, Int.reduceAdd, Int.reduceSub, Int.reduceMul, Int.reduceEq, Int.reduceNe, Int.toNat_natCast, Int.natCast_zero, wrap_id, wrapu_id, wrapb_id, idx_ok, bin_quo, bin_rem, tdiv_id, tmod_id, ps_bptr, c1, e3, e4, round_run, e5, e]
theorem mix_run {h : Heap} {v : AV} {l : List Trk} (hv : Sl h 3 v (trks l)) (hl : l.length ≤ 9223372036854775807) (hz : ∀ t ∈ l, okT t) (lo : Nat) :
    (run lib).fn 20 [v] h lo = some (if validB l = true then .tuple [ownL 1 (ints ((exactL l).map roundS)), .int .i64 0] else .tuple [.lst 0 [], .int .i64 170], h) := by
  have e1 := fun fr lo => exact_run (hv.app fr) hl hz lo
  rw [run_closed (x := x20) rfl rfl rfl rfl]
  cases hb : validB l with
  | false =>
    rw [hb] at e1
    have t1 := take_none2 (cx := ⟨h.length, h.length, 1, none⟩) (s := 0) (z := 0) (h := h ++ [(0, .dead)]) (r := [.int .i64 170])
    have l1 := (Sl.lst0 h 1 0).len
    simp (maxSteps := 1000000) (disch := omega) only [go_sem, ↓reduceIte, Nat.reduceEqDiff, Nat.reduceAdd, Nat.reduceSub, Nat.reduceMul, Nat.reduceLT, Nat.reduceLeDiff, reduceCtorEq, Nat.succ_ne_self, ne_eq, not_true_eq_false, not_false_eq_true, and_self, and_true, true_and, Nat.zero_add, Nat.sub_zero, Nat.zero_mul, Nat.one_mul, Nat.le_refl, List.getElem?_cons_zero, List.set_cons_zero, Int.reduceToNat, Int.reduceLT, Int.reduceLE, Int.reduceAdd, Int.reduceSub, Int.reduceMul, Int.reduceEq, Int.reduceNe, Int.toNat_natCast, Int.natCast_zero, wrap_id, wrapu_id, wrapb_id, idx_ok, bin_quo, bin_rem, tdiv_id, tmod_id, ps_bptr, x20, e1, t1, lenv_sl l1, w_loop]
  | true =>
    rw [hb] at e1
    unfold validB at hb
    simp only [Bool.and_eq_true, decide_eq_true_eq, List.all_eq_true] at hb
    obtain ⟨b1, b2⟩ := exactL_bd (l := l) (n := 0) (o := []) hb.1 (by intro x hx; simp at hx) (by simp)
    obtain ⟨es, hes⟩ : ∃ es, es = exactL l := ⟨_, rfl⟩
    have b3 : bnd' 900000000000 es := by
      intro x hx
      rw [hes] at hx
      have := b1 x hx
      omega
    have b4 : es.length ≤ 600 := by rw [hes]; exact b2
    rw [← hes] at e1 ⊢
    by_cases h0 : es = []
    · rw [h0] at e1 ⊢
      have t1 := take_none2 (cx := ⟨h.length, h.length, 1, none⟩) (s := 0) (z := 0) (h := h ++ [(0, .dead)]) (r := [.int .i64 0])
      have l1 := (Sl.lst0 h 1 0).len
      simp only [ints, List.map_nil, ownV_nil] at e1 ⊢
      simp (maxSteps := 1000000) (disch := omega) only [go_sem, ↓reduceIte, Nat.reduceEqDiff, Nat.reduceAdd, Nat.reduceSub, Nat.reduceMul, Nat.reduceLT, Nat.reduceLeDiff, reduceCtorEq, Nat.succ_ne_self, ne_eq, not_true_eq_false, not_false_eq_true, and_self, and_true, true_and, Nat.zero_add, Nat.sub_zero, Nat.zero_mul, Nat.one_mul, Nat.le_refl, List.getElem?_cons_zero, List.set_cons_zero, Int.reduceToNat, Int.reduceLT, Int.reduceLE, Int.reduceAdd, Int.reduceSub, Int.reduceMul, Int.reduceEq, Int.reduceNe, Int.toNat_natCast, Int.natCast_zero, wrap_id, wrapu_id, wrapb_id, idx_ok, bin_quo, bin_rem, tdiv_id, tmod_id, ps_bptr, x20, e1, t1, lenv_sl l1, w_loop, ownL]
    · have hne : ints es ≠ [] := by rw [ne_eq, ints_nil]; exact h0
      have t1 := take_own2 (lo := h.length) (ns := 1) (s := 0) (z := 1) (h := h) (fr := [(0, .dead)]) (b0 := (0, .dead)) (es := ints es) (r := [.int .i64 0]) (by omega) rfl hne
      rw [ints_len] at t1
      have hv2 := Sl.refAll (h := h) (fr := [(0 + 1, .arr 1 (ints es))]) (s := 0) (ver := 0 + 1) (z := 1) (es := ints es) rfl
      rw [ints_len] at hv2
      have e := mix_loop (h := h) b4 b3 (.int .i64 0) (0 + 1) _ 0 rfl (by omega)
      simp only [Int.natCast_zero, List.take_zero, List.map_nil, List.nil_append, List.drop_zero] at e
      have hne2 : ints (es.map roundS) ≠ [] := by rw [ne_eq, ints_nil]; simpa using h0
      have g := give_fr (h := h) (fr := [(0 + 1, .arr 1 (ints (es.map roundS)))]) (s := 0) (ver := 0 + 1) (z := 1) (es := ints (es.map roundS)) rfl
      rw [ints_len, List.length_map] at g
      simp only [Nat.zero_add] at t1 hv2 e g
      simp (maxSteps := 1000000) (disch := omega) only [go_sem, ↓reduceIte, Nat.reduceEqDiff, Nat.reduceAdd, Nat.reduceSub, Nat.reduceMul, Nat.reduceLT, Nat.reduceLeDiff, reduceCtorEq, Nat.succ_ne_self, ne_eq, not_true_eq_false, not_false_eq_true, and_self, and_true, true_and, Nat.zero_add, Nat.sub_zero, Nat.zero_mul, Nat.one_mul, Nat.le_refl, List.getElem?_cons_zero, List.set_cons_zero, Int.reduceToNat, Int.reduceLT, Int.reduceLE, Int.reduceAdd, Int.reduceSub, Int.reduceMul, Int.reduceEq, Int.reduceNe, Int.toNat_natCast, Int.natCast_zero, wrap_id, wrapu_id, wrapb_id, idx_ok, bin_quo, bin_rem, tdiv_id, tmod_id, ps_bptr, x20, e1, t1, lenv_sl hv2.len, ints_len, e, g, ownL, if_neg hne2]
end Go.VI.Mix
