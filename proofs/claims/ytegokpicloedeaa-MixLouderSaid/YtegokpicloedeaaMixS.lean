import Derived.Test.YtegokpicloedeaaMixR
namespace Go.VI.Mix
set_option linter.unusedVariables false
set_option linter.unusedSimpArgs false

set_option maxHeartbeats 1000000 in
theorem law9 {h : Heap} {v : AV} {a : List Int} (hv : Sl h 1 v (ints a)) (hl : a.length ≤ 9223372036854775807) (hai : ∀ n ∈ a, okI n) (n0 n1 n2 n3 wh mo le : Int) (o0 : okI n0) (o1 : okI n1) (o2 : okI n2) (o3 : okI n3) (ow : okI wh) (om : okI mo) (ol : okI le)
    (hs : (run lib).fn 11 [] (h ++ [(0, .dead)]) h.length = some (.bool true, h ++ [(0, .dead)])) (lo : Nat) : (run lib).fn 9 [v, .agg [.int .i64 n0, .int .i64 n1, .int .i64 n2, .int .i64 n3], .int .i64 wh, .int .i64 mo, .int .i64 le] h lo = some (.bool true, h) := by
  obtain ⟨m1, m2⟩ := madeS_bd a
  have e1 := made_run (hv.app [(0, .dead)]) hl hai h.length
  have p0 := fun hh lo => pick13 n0 30000 hh lo o0.1 o0.2 (by omega)
  have p1 := fun hh lo => pick13 n1 1025 hh lo o1.1 o1.2 (by omega)
  have p2 := fun hh lo => pick13 n2 20 hh lo o2.1 o2.2 (by omega)
  have p3 := fun hh lo => pick13 n3 20 hh lo o3.1 o3.2 (by omega)
  have pm := fun hh lo => pick13 mo 30000 hh lo om.1 om.2 (by omega)
  have q0 := pickS_bd (c := n0) (n := 30000) (by omega)
  have q1 := pickS_bd (c := n1) (n := 1025) (by omega)
  have q2 := pickS_bd (c := n2) (n := 20) (by omega)
  have q3 := pickS_bd (c := n3) (n := 20) (by omega)
  have qm := pickS_bd (c := mo) (n := 30000) (by omega)
  obtain ⟨lev, hlev⟩ : ∃ x, x = 1 + pickS n0 30000 := ⟨_, rfl⟩
  obtain ⟨fl, hfl⟩ : ∃ x, x = pickS n1 1025 := ⟨_, rfl⟩
  obtain ⟨att, hatt⟩ : ∃ x, x = 1 + pickS n2 20 := ⟨_, rfl⟩
  obtain ⟨rel, hrel⟩ : ∃ x, x = 1 + pickS n3 20 := ⟨_, rfl⟩
  obtain ⟨mm, hmm⟩ : ∃ x, x = pickS mo 30000 := ⟨_, rfl⟩
  have hlev' := hlev.symm
  have hatt' := hatt.symm
  have hrel' := hrel.symm
  simp only [← hfl] at p1
  simp only [← hmm] at pm
  have pl := fun hh lo => pick13 le lev hh lo ol.1 ol.2 (by omega)
  have ql := pickS_bd (c := le) (n := lev) (by omega)
  have pf := fun hh lo => pick13 le (fl + 1) hh lo ol.1 ol.2 (by omega)
  have qf := pickS_bd (c := le) (n := fl + 1) (by omega)
  obtain ⟨lev2, hlev2⟩ : ∃ x, x = lev - pickS le lev := ⟨_, rfl⟩
  obtain ⟨fl2, hfl2⟩ : ∃ x, x = fl - pickS le (fl + 1) := ⟨_, rfl⟩
  have hlev2' := hlev2.symm
  have hfl2' := hfl2.symm
  have ok : ∀ (l : List Int) (lev fl : Int), l.length ≤ 600 → (∀ x ∈ l, -32768 ≤ x ∧ x ≤ 32767) → (1 ≤ lev ∧ lev ≤ 32768) → (0 ≤ fl ∧ fl ≤ 1024) → duckOk l lev fl att rel = true := by
    intro l lev fl hll hlx h1 h2
    simp only [duckOk, Bool.and_eq_true, inB_iff]
    exact ⟨⟨⟨⟨soundB_of hlx hll, h1⟩, h2⟩, by omega⟩, by omega⟩
  have key : ∀ (H : Heap) (l l' : List Int), l.length ≤ 600 → l'.length = l.length → LeB (l.map (onS lev)) (l'.map (onS lev)) → ∀ cx,
      runC lib cx (.loop b9_0) ([(11, .bool true), (17, .lst 1 (ints (duckS lev fl att rel l))), (19, .lst 1 (ints (duckS lev2 fl att rel l))), (21, .lst 1 (ints (duckS lev fl2 att rel l))), (24, .lst 1 (ints (duckS lev fl att rel l'))), (26, .int .i64 0)], H) = some (.exit 0, ([(11, .bool true)], H)) := by
    intro H l l' hll hl' hle cx
    have := law9_loop (cx := cx) l.length (Sl.lst H 1 (ints (duckS lev fl att rel l))) (Sl.lst H 1 (ints (duckS lev2 fl att rel l))) (Sl.lst H 1 (ints (duckS lev fl2 att rel l))) (Sl.lst H 1 (ints (duckS lev fl att rel l'))) hll (duckS_len ..) (duckS_len ..) (duckS_len ..) (by rw [duckS_len, hl'])
      (fun i hi => by
        simp only [duckS, List.getElem_map, List.getElem_range]
        exact ⟨duckAt_mono (leB_map rfl fun i h1 h2 => by omega) (by omega) (by omega) (by omega) i, duckAt_mono (leB_map rfl fun i h1 h2 => by omega) (by omega) (by omega) (by omega) i, duckAt_mono hle (by omega) (by omega) (by omega) i⟩) _ 0 rfl (by omega)
    simpa using this
  rw [run_closed (x := x9) rfl rfl rfl rfl]
  by_cases h0 : madeS a = []
  · have k1 := fun cx => key (h ++ [(0, .dead)]) [] [] (by simp) rfl ⟨rfl, fun i hi => hi⟩ cx
    have d1 := duck_run (l := []) (Sl.lst0 (h ++ [(0, .dead)]) 1 0) (by simp) lev fl att rel h.length
    rw [if_pos (ok [] _ _ (by simp) (by simp) (by omega) (by omega))] at d1
    have d2 := duck_run (l := []) (Sl.lst0 (h ++ [(0, .dead)]) 1 0) (by simp) lev2 fl att rel h.length
    rw [if_pos (ok [] _ _ (by simp) (by simp) (by omega) (by omega))] at d2
    have d3 := duck_run (l := []) (Sl.lst0 (h ++ [(0, .dead)]) 1 0) (by simp) lev fl2 att rel h.length
    rw [if_pos (ok [] _ _ (by simp) (by simp) (by omega) (by omega))] at d3
    have t1 := take_none1 (cx := ⟨h.length, h.length, 1, none⟩) (s := 0) (z := 0) (h := h ++ [(0, .dead)])
    have l1 := (Sl.lst0 (h ++ [(0, .dead)]) 1 0).len
    have l2 := (Sl.lst0 (h ++ [(0, .dead)]) 1 1).len
    rw [h0] at e1
    simp only [ints, List.map_nil, ownV_nil, duckS, List.length_nil, List.range_zero] at e1 d1 d2 d3 k1
    simp (maxSteps := 1000000) (disch := omega) only [go_sem, ↓reduceIte, Nat.reduceEqDiff, Nat.reduceAdd, Nat.reduceSub, Nat.reduceMul, Nat.reduceLT, Nat.reduceLeDiff, reduceCtorEq, Nat.succ_ne_self, ne_eq, not_true_eq_false, not_false_eq_true, and_self, and_true, true_and, Nat.zero_add, Nat.sub_zero, Nat.zero_mul, Nat.one_mul, Nat.le_refl, List.getElem?_cons_zero, List.set_cons_zero, Int.reduceToNat, Int.reduceLT, Int.reduceLE, Int.reduceAdd, Int.reduceSub, Int.reduceMul, Int.reduceEq, Int.reduceNe, Int.toNat_natCast, Int.natCast_zero, wrap_id, wrapu_id, wrapb_id, idx_ok, bin_quo, bin_rem, tdiv_id, tmod_id, ps_bptr, x9, hs, e1, t1, lenv_sl l1, lenv_sl l2, List.length_nil, Int.natCast_zero, p0, p1, p2, p3, hlev', hatt', hrel', pl, pf, hlev2', hfl2', d1, d2, d3, k1]
  · have hne : ints (madeS a) ≠ [] := by rw [ne_eq, ints_nil]; exact h0
    have hne2 : 0 < (madeS a).length := List.length_pos_iff.mpr h0
    have t1 := take_own (lo := h.length) (ns := 1) (s := 0) (z := 1) (h := h) (fr := [(0, .dead)]) (b0 := (0, .dead)) (es := ints (madeS a)) (by omega) rfl hne
    obtain ⟨l, hll⟩ : ∃ l, l = madeS a := ⟨_, rfl⟩
    rw [← hll] at m1 m2 e1 t1 hne2
    rw [ints_len] at t1
    obtain ⟨n, hn⟩ : ∃ n, n = l.length := ⟨_, rfl⟩
    have hr := Sl.refAll (h := h) (fr := [(0 + 1, .arr 1 (ints l))]) (s := 0) (ver := 0 + 1) (z := 1) (es := ints l) rfl
    rw [ints_len] at hr
    have hrl := hr.len
    rw [ints_len] at hrl
    have d1 := duck_run hr (by omega) lev fl att rel h.length
    rw [if_pos (ok l _ _ (by omega) m1 (by omega) (by omega))] at d1
    have d2 := duck_run hr (by omega) lev2 fl att rel h.length
    rw [if_pos (ok l _ _ (by omega) m1 (by omega) (by omega))] at d2
    have d3 := duck_run hr (by omega) lev fl2 att rel h.length
    rw [if_pos (ok l _ _ (by omega) m1 (by omega) (by omega))] at d3
    have pw := fun hh lo => pick13 wh l.length hh lo ow.1 ow.2 (by omega)
    have qw := pickS_bd (c := wh) (n := l.length) (by omega)
    obtain ⟨k, hk⟩ : ∃ k : Nat, (k : Int) = pickS wh l.length := ⟨(pickS wh l.length).toNat, by omega⟩
    simp only [← hk] at pw
    have hk' : k < l.length := by omega
    have s0 : sidx 1 (.ref (h.length + 0) (0 + 1) 1 0 l.length l.length) (.int .i64 k) = some k := by rw [sidx_sl hr (by omega) (by simp; omega)]; simp
    have v0 := fun off => pc_iptr (off := off) hr.elems0 (show k < (ints l).length by simp; omega)
    simp only [ints_get] at v0
    have b0 := m1 _ (List.getElem_mem hk')
    have c0 : (0 : Int) < l.length := by omega
    obtain ⟨x, hxx⟩ : ∃ x, x = l[k] := ⟨_, rfl⟩
    rw [← hxx] at v0 b0
    have leb : ∀ y : Int, max x (-x) ≤ max y (-y) → LeB (l.map (onS lev)) ((l.set k y).map (onS lev)) := fun y hy => leB_map (by simp) fun i h1 h2 => by
      rw [List.getElem_set]
      split
      · rename_i c; subst c; rw [← hxx]; omega
      · omega
    have hlst : ∀ y : Int, (-32768 ≤ y ∧ y ≤ 32767) → ∀ w ∈ l.set k y, -32768 ≤ w ∧ w ≤ 32767 := fun y hy w hw => by
      rcases List.mem_or_eq_of_mem_set hw with hw | rfl
      · exact m1 w hw
      · exact hy
    have st := fun y => ps_iptr_fr (lo := h.length) (ns := 1) (h := h) (fr := [(0 + 1, .arr 1 (l.map (.int .i64)))]) (s := 0) (ver := 0 + 1) (o := 0) (len := l.length) (fill := l.length) (i := k) (k := .i64) (l := l) (n := y) rfl rfl (by omega) hk' (by omega)
    rw [Nat.zero_add] at st
    have l3 : ∀ g : List Int, g.length = l.length → ∀ H, lenv false (.lst 1 (ints g)) = _ := fun g hg H => lenv_sl (Sl.lst H 1 (ints g)).len
    simp only [ints_len] at l3
    have l4 := fun (lv f : Int) (l' : List Int) => lenv_sl (Sl.lst h 1 (ints (duckS lv f att rel l'))).len
    simp only [ints_len, duckS_len] at l4
    by_cases cc : 0 ≤ x
    · have hy : -32768 ≤ min (x + mm) 32767 ∧ min (x + mm) 32767 ≤ 32767 := by omega
      have r2 := Sl.refAll (h := h) (fr := [(0 + 1, .arr 1 (ints (l.set k (min (x + mm) 32767))))]) (s := 0) (ver := 0 + 1) (z := 1) (es := ints (l.set k (min (x + mm) 32767))) rfl
      rw [ints_len, List.length_set] at r2
      have d4 := duck_run r2 (by simp; omega) lev fl att rel h.length
      rw [if_pos (ok _ _ _ (by simp; omega) (hlst _ hy) (by omega) (by omega))] at d4
      have k1 := fun H cx => key H l (l.set k (min (x + mm) 32767)) (by omega) (by simp) (leb _ (by omega)) cx
      have l5 := l4 lev fl (l.set k (min (x + mm) 32767))
      rw [List.length_set] at l5
      have st' := st (min (x + mm) 32767)
      clear hlst leb key ok st l3 hai hv hll hne hr r2
      simp only [ints] at e1 t1 d1 d2 d3 d4 k1 st' v0 l4 l5 ⊢
      simp (maxSteps := 1000000) (disch := omega) only [go_sem, ↓reduceIte, Nat.reduceEqDiff, Nat.reduceAdd, Nat.reduceSub, Nat.reduceMul, Nat.reduceLT, Nat.reduceLeDiff, reduceCtorEq, Nat.succ_ne_self, ne_eq, not_true_eq_false, not_false_eq_true, and_self, and_true, true_and, Nat.zero_add, Nat.sub_zero, Nat.zero_mul, Nat.one_mul, Nat.le_refl, List.getElem?_cons_zero, List.set_cons_zero, Int.reduceToNat, Int.reduceLT, Int.reduceLE, Int.reduceAdd, Int.reduceSub, Int.reduceMul, Int.reduceEq, Int.reduceNe, Int.toNat_natCast, Int.natCast_zero, wrap_id, wrapu_id, wrapb_id, idx_ok, bin_quo, bin_rem, tdiv_id, tmod_id, ps_bptr, x9, hs, e1, t1, lenv_sl hrl, p0, p1, p2, p3, pm, pw, hlev', hatt', hrel', pl, pf, hlev2', hfl2', d1, d2, d3, d4, c0, s0, v0, cc, st', l4, l5, k1, List.length_set, not_true_eq_false, if_false]
    · have ccn : ¬ (0 ≤ x) := cc
      have hy : -32768 ≤ max (x - mm) (-32768) ∧ max (x - mm) (-32768) ≤ 32767 := by omega
      have r2 := Sl.refAll (h := h) (fr := [(0 + 1, .arr 1 (ints (l.set k (max (x - mm) (-32768)))))]) (s := 0) (ver := 0 + 1) (z := 1) (es := ints (l.set k (max (x - mm) (-32768)))) rfl
      rw [ints_len, List.length_set] at r2
      have d4 := duck_run r2 (by simp; omega) lev fl att rel h.length
      rw [if_pos (ok _ _ _ (by simp; omega) (hlst _ hy) (by omega) (by omega))] at d4
      have k1 := fun H cx => key H l (l.set k (max (x - mm) (-32768))) (by omega) (by simp) (leb _ (by omega)) cx
      have l5 := l4 lev fl (l.set k (max (x - mm) (-32768)))
      rw [List.length_set] at l5
      have st' := st (max (x - mm) (-32768))
      clear hlst leb key ok st l3 hai hv hll hne hr r2
      simp only [ints] at e1 t1 d1 d2 d3 d4 k1 st' v0 l4 l5 ⊢
      simp (maxSteps := 1000000) (disch := omega) only [go_sem, ↓reduceIte, Nat.reduceEqDiff, Nat.reduceAdd, Nat.reduceSub, Nat.reduceMul, Nat.reduceLT, Nat.reduceLeDiff, reduceCtorEq, Nat.succ_ne_self, ne_eq, not_true_eq_false, not_false_eq_true, and_self, and_true, true_and, Nat.zero_add, Nat.sub_zero, Nat.zero_mul, Nat.one_mul, Nat.le_refl, List.getElem?_cons_zero, List.set_cons_zero, Int.reduceToNat, Int.reduceLT, Int.reduceLE, Int.reduceAdd, Int.reduceSub, Int.reduceMul, Int.reduceEq, Int.reduceNe, Int.toNat_natCast, Int.natCast_zero, wrap_id, wrapu_id, wrapb_id, idx_ok, bin_quo, bin_rem, tdiv_id, tmod_id, ps_bptr, x9, hs, e1, t1, lenv_sl hrl, p0, p1, p2, p3, pm, pw, hlev', hatt', hrel', pl, pf, hlev2', hfl2', d1, d2, d3, d4, c0, s0, v0, cc, st', l4, l5, k1, List.length_set, not_true_eq_false, if_false]
end Go.VI.Mix
