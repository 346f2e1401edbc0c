import Derived.Test.YtegokpicloedeaaMixG
namespace Go.VI.Mix
set_option linter.unusedVariables false
set_option linter.unusedSimpArgs false

theorem madeS_bd (xs : List Int) : (∀ x ∈ madeS xs, -32768 ≤ x ∧ x ≤ 32767) ∧ (madeS xs).length ≤ 40 := by
  refine ⟨fun x hx => ?_, by simp [madeS]; omega⟩
  unfold madeS at hx
  obtain ⟨y, _, rfl⟩ := List.mem_map.mp hx
  have := pickS_bd (c := y) (n := 65536) (by omega)
  omega
theorem soundB_of {l : List Int} (h : ∀ x ∈ l, -32768 ≤ x ∧ x ≤ 32767) (hl : l.length ≤ 600) : soundB l = true := by
  unfold soundB
  simp only [Bool.and_eq_true, decide_eq_true_eq, List.all_eq_true]
  refine ⟨by omega, fun x hx => ?_⟩
  have := h x hx
  unfold okS
  simp only [Bool.and_eq_true, decide_eq_true_eq]
  exact this
theorem trackS_vT {sd : List Int} {x : List (Int × Int)} (i : Nat) (p : Int × Int) (hs : ∀ x ∈ sd, -32768 ≤ x ∧ x ≤ 32767) (hl : sd.length ≤ 40) : vT (trackS sd x i p) = true ∧ (trackS sd x i p).fr < 60 ∧ okI (trackS sd x i p).fr ∧ (trackS sd x i p).sm.length ≤ 40 ∧ (trackS sd x i p).gn.length ≤ 6 := by
  have p1 := pickS_bd (c := p.1) (n := 60) (by omega)
  obtain ⟨c1, c2, c3⟩ := curvedS_crv (((x.take (min (3 * i + 3) x.length)).drop (min (3 * i) x.length)).take 6) (-1) 0 (by omega) (by simp; omega)
  have hcb := crv_curveB (last := -1) c1 (fun p hp => by have := (c1.ok p hp).1; omega)
  have hsl : (sd.drop (pickS p.2 (sd.length + 1)).toNat).length ≤ 40 := by simp; omega
  have hgl : (curvedS (-1) (((x.take (min (3 * i + 3) x.length)).drop (min (3 * i) x.length)).take 6)).length ≤ 6 := by rw [c3]; simp; omega
  refine ⟨?_, p1.2, ⟨by show -9223372036854775808 ≤ pickS p.1 60; omega, by show pickS p.1 60 ≤ _; omega⟩, hsl, hgl⟩
  unfold vT
  simp only [Bool.and_eq_true, decide_eq_true_eq]
  refine ⟨⟨soundB_of (fun y hy => hs y (List.mem_of_mem_drop hy)) (show (sd.drop (pickS p.2 (sd.length + 1)).toNat).length ≤ 600 by omega), hcb, by show ((curvedS _ _).length : Int) ≤ 12; omega⟩, p1.1, ?_⟩
  show pickS p.1 60 ≤ 600 - ((sd.drop (pickS p.2 (sd.length + 1)).toNat).length : Int)
  omega
theorem tracksS_vT {sd : List Int} {x y : List (Int × Int)} (hs : ∀ x ∈ sd, -32768 ≤ x ∧ x ≤ 32767) (hl : sd.length ≤ 40) : (∀ t ∈ tracksS sd x y, vT t = true ∧ t.fr < 60 ∧ okT t ∧ t.sm.length ≤ 40) ∧ (tracksS sd x y).length ≤ 4 := by
  refine ⟨fun t ht => ?_, by simp [tracksS]; omega⟩
  have hz := tracksS_ok sd x y t ht
  obtain ⟨i, hi, rfl⟩ := List.mem_iff_getElem.mp ht
  have e : (tracksS sd x y)[i] = trackS sd x i ((y.take 4)[i]'(by simpa [tracksS] using hi)) := by simp [tracksS]
  rw [e] at hz ⊢
  obtain ⟨h1, h2, h3, h4, h5⟩ := trackS_vT (x := x) i ((y.take 4)[i]'(by simpa [tracksS] using hi)) hs hl
  exact ⟨h1, h2, ⟨hz, h3, by omega, by omega⟩, h4⟩
theorem validB_of {l : List Trk} (h : ∀ t ∈ l, vT t = true) (hl : l.length ≤ 8) : validB l = true := by
  unfold validB
  simp only [Bool.and_eq_true, decide_eq_true_eq, List.all_eq_true]
  exact ⟨h, by omega⟩

theorem round_facts (x : Int) : ∃ o d, o = roundS x ∧ d = 2 * (x - 1024 * o) ∧ -32768 ≤ o ∧ o ≤ 32767 ∧ (o = 32767 → -1024 ≤ d) ∧ (o = -32768 → d ≤ 1024) ∧ (o ≠ 32767 → o ≠ -32768 → -1024 ≤ d ∧ d ≤ 1024) := by
  refine ⟨_, _, rfl, rfl, ?_⟩
  unfold roundS
  omega
set_option maxHeartbeats 1000000 in
theorem law5_loop {h : Heap} {es : List Int} (hl : es.length ≤ 600) (hb : bnd' 900000000000 es) (lo : Nat) (d : Nat) :
    ∀ k : Nat, d = es.length - k → k ≤ es.length →
    runC lib ⟨lo, h.length, 0, none⟩ (.loop b5_0) ([(7, .bool true), (9, lstV 1 (ints es)), (11, lstV 1 (ints (es.map roundS))), (13, .int .i64 k)], h) = some (.exit 0, ([(7, .bool true)], h)) := by
  have hv := Sl.lstV h 1 (ints es)
  have hu := Sl.lstV h 1 (ints (es.map roundS))
  have hul : (ints (es.map roundS)).length = es.length := by simp
  induction d with
  | zero =>
    intro k hd hk
    have c1 : ¬ (k : Int) < es.length := by omega
    rw [w_loop]
    simp (maxSteps := 1000000) (disch := omega) only [go_sem, ↓reduceIte, Nat.reduceEqDiff, Nat.reduceAdd, Nat.reduceSub, Nat.reduceMul, Nat.reduceLT, Nat.reduceLeDiff, reduceCtorEq, Nat.succ_ne_self, ne_eq, not_true_eq_false, not_false_eq_true, and_self, and_true, true_and, Nat.zero_add, Nat.sub_zero, Nat.zero_mul, Nat.one_mul, Nat.le_refl, List.getElem?_cons_zero, List.set_cons_zero, Int.reduceToNat, Int.reduceLT, Int.reduceLE, Int.reduceAdd, Int.reduceSub, Int.reduceMul, Int.reduceEq, Int.reduceNe, Int.toNat_natCast, Int.natCast_zero, wrap_id, wrapu_id, wrapb_id, idx_ok, bin_quo, bin_rem, tdiv_id, tmod_id, ps_bptr, lenv_sl hv.len, lenv_sl hu.len, hul, ints_len, c1]
  | succ d ih =>
    intro k hd hk
    have hk' : k < es.length := by omega
    have c1 : (k : Int) < es.length := by omega
    have e3 : sidx 1 (lstV 1 (ints es)) (.int .i64 k) = some k := by rw [sidx_sl hv (by omega) (by simp; omega)]; simp
    have e4 := fun off => pc_iptr (off := off) hv.elems0 (show k < (ints es).length by simp; omega)
    have f3 : sidx 1 (lstV 1 (ints (es.map roundS))) (.int .i64 k) = some k := by rw [sidx_sl hu (by omega) (by simp; omega)]; simp
    have f4 := fun off => pc_iptr (off := off) hu.elems0 (show k < (ints (es.map roundS)).length by simp; omega)
    simp only [ints_get, List.getElem_map] at e4 f4
    have hx := hb _ (List.getElem_mem hk')
    have e := ih (k + 1) (by omega) (by omega)
    rw [cast1] at e
    obtain ⟨o, dd, ho, hdd, r1, r2, r3, r4, r5⟩ := round_facts es[k]
    rw [← ho] at f4
    obtain ⟨x, hx'⟩ : ∃ x, x = es[k] := ⟨_, rfl⟩
    rw [← hx'] at e4 hx hdd ho
    have hvl := lenv_sl hv.len
    have hul' := lenv_sl hu.len
    obtain ⟨x1, x2⟩ := hx
    have m1 : ¬ o < -32768 := by omega
    have m2 : ¬ 32767 < o := by omega
    have hdd' : 2 * (x - 1024 * o) = dd := hdd.symm
    rw [w_loop]
    clear hb hdd ho ih hv hu
    by_cases q1 : o = 32767
    · have q3 := r3 q1
      have q7 : (o = -32768) = False := by simp; omega
      have q8 := eq_true q1
      by_cases q2 : 1024 < dd
      · simp (maxSteps := 1000000) (disch := omega) only [go_sem, ↓reduceIte, Nat.reduceEqDiff, Nat.reduceAdd, Nat.reduceSub, Nat.reduceMul, Nat.reduceLT, Nat.reduceLeDiff, reduceCtorEq, Nat.succ_ne_self, ne_eq, not_true_eq_false, not_false_eq_true, and_self, and_true, true_and, Nat.zero_add, Nat.sub_zero, Nat.zero_mul, Nat.one_mul, Nat.le_refl, List.getElem?_cons_zero, List.set_cons_zero, Int.reduceToNat, Int.reduceLT, Int.reduceLE, Int.reduceAdd, Int.reduceSub, Int.reduceMul, Int.reduceEq, Int.reduceNe, Int.toNat_natCast, Int.natCast_zero, wrap_id, wrapu_id, wrapb_id, idx_ok, bin_quo, bin_rem, tdiv_id, tmod_id, ps_bptr, hvl, hul', hul, ints_len, c1, e3, e4, f3, f4, m1, m2, hdd', q2, q8, e]
      · have q4 : ¬ dd < -1024 := by omega
        simp (maxSteps := 1000000) (disch := omega) only [go_sem, ↓reduceIte, Nat.reduceEqDiff, Nat.reduceAdd, Nat.reduceSub, Nat.reduceMul, Nat.reduceLT, Nat.reduceLeDiff, reduceCtorEq, Nat.succ_ne_self, ne_eq, not_true_eq_false, not_false_eq_true, and_self, and_true, true_and, Nat.zero_add, Nat.sub_zero, Nat.zero_mul, Nat.one_mul, Nat.le_refl, List.getElem?_cons_zero, List.set_cons_zero, Int.reduceToNat, Int.reduceLT, Int.reduceLE, Int.reduceAdd, Int.reduceSub, Int.reduceMul, Int.reduceEq, Int.reduceNe, Int.toNat_natCast, Int.natCast_zero, wrap_id, wrapu_id, wrapb_id, idx_ok, bin_quo, bin_rem, tdiv_id, tmod_id, ps_bptr, hvl, hul', hul, ints_len, c1, e3, e4, f3, f4, m1, m2, hdd', q2, q4, q7, q8, e]
    · by_cases q5 : o = -32768
      · have q3 : ¬ 1024 < dd := by have := r4 q5; omega
        have q8 := eq_true q5
        by_cases q2 : dd < -1024
        · simp (maxSteps := 1000000) (disch := omega) only [go_sem, ↓reduceIte, Nat.reduceEqDiff, Nat.reduceAdd, Nat.reduceSub, Nat.reduceMul, Nat.reduceLT, Nat.reduceLeDiff, reduceCtorEq, Nat.succ_ne_self, ne_eq, not_true_eq_false, not_false_eq_true, and_self, and_true, true_and, Nat.zero_add, Nat.sub_zero, Nat.zero_mul, Nat.one_mul, Nat.le_refl, List.getElem?_cons_zero, List.set_cons_zero, Int.reduceToNat, Int.reduceLT, Int.reduceLE, Int.reduceAdd, Int.reduceSub, Int.reduceMul, Int.reduceEq, Int.reduceNe, Int.toNat_natCast, Int.natCast_zero, wrap_id, wrapu_id, wrapb_id, idx_ok, bin_quo, bin_rem, tdiv_id, tmod_id, ps_bptr, hvl, hul', hul, ints_len, c1, e3, e4, f3, f4, m1, m2, q1, hdd', q2, q3, q8, e]
        · simp (maxSteps := 1000000) (disch := omega) only [go_sem, ↓reduceIte, Nat.reduceEqDiff, Nat.reduceAdd, Nat.reduceSub, Nat.reduceMul, Nat.reduceLT, Nat.reduceLeDiff, reduceCtorEq, Nat.succ_ne_self, ne_eq, not_true_eq_false, not_false_eq_true, and_self, and_true, true_and, Nat.zero_add, Nat.sub_zero, Nat.zero_mul, Nat.one_mul, Nat.le_refl, List.getElem?_cons_zero, List.set_cons_zero, Int.reduceToNat, Int.reduceLT, Int.reduceLE, Int.reduceAdd, Int.reduceSub, Int.reduceMul, Int.reduceEq, Int.reduceNe, Int.toNat_natCast, Int.natCast_zero, wrap_id, wrapu_id, wrapb_id, idx_ok, bin_quo, bin_rem, tdiv_id, tmod_id, ps_bptr, hvl, hul', hul, ints_len, c1, e3, e4, f3, f4, m1, m2, q1, hdd', q2, q3, q8, e]
      · obtain ⟨q2, q3⟩ := r5 q1 q5
        have q4 : ¬ 1024 < dd := by omega
        have q6 : ¬ dd < -1024 := by omega
        simp (maxSteps := 1000000) (disch := omega) only [go_sem, ↓reduceIte, Nat.reduceEqDiff, Nat.reduceAdd, Nat.reduceSub, Nat.reduceMul, Nat.reduceLT, Nat.reduceLeDiff, reduceCtorEq, Nat.succ_ne_self, ne_eq, not_true_eq_false, not_false_eq_true, and_self, and_true, true_and, Nat.zero_add, Nat.sub_zero, Nat.zero_mul, Nat.one_mul, Nat.le_refl, List.getElem?_cons_zero, List.set_cons_zero, Int.reduceToNat, Int.reduceLT, Int.reduceLE, Int.reduceAdd, Int.reduceSub, Int.reduceMul, Int.reduceEq, Int.reduceNe, Int.toNat_natCast, Int.natCast_zero, wrap_id, wrapu_id, wrapb_id, idx_ok, bin_quo, bin_rem, tdiv_id, tmod_id, ps_bptr, hvl, hul', hul, ints_len, c1, e3, e4, f3, f4, m1, m2, q1, q5, hdd', q4, q6, e]

theorem law5 {h : Heap} {v u t : AV} {a : List Int} {x y : List (Int × Int)} (hv : Sl h 1 v (ints a)) (hu : Sl h 2 u (pts x)) (ht : Sl h 2 t (pts y)) (hl : a.length ≤ 9223372036854775807) (hx : x.length ≤ 9223372036854775807) (hy : y.length ≤ 9223372036854775807)
    (hai : ∀ n ∈ a, okI n) (hxi : ∀ p ∈ x, okI p.1 ∧ okI p.2) (hyi : ∀ p ∈ y, okI p.1 ∧ okI p.2) (hs : (run lib).fn 11 [] h h.length = some (.bool true, h)) (lo : Nat) : (run lib).fn 5 [v, u, t] h lo = some (.bool true, h) := by
  obtain ⟨m1, m2⟩ := madeS_bd a
  obtain ⟨t1, t2⟩ := tracksS_vT (x := x) (y := y) m1 m2
  obtain ⟨ts, hts⟩ : ∃ ts, ts = tracksS (madeS a) x y := ⟨_, rfl⟩
  rw [← hts] at t1 t2
  have hvb := validB_of (fun t h => (t1 t h).1) (show ts.length ≤ 8 by omega)
  have e1 := made_run hv hl hai h.length
  have e2 := tracks_run (Sl.lstV h 1 (ints (madeS a))) hu ht (by omega) hx hy hxi hyi h.length
  rw [← hts] at e2
  have e3 := exact_run (Sl.lstV h 3 (trks ts)) (by omega) (fun t h => (t1 t h).2.2.1) h.length
  have e4 := mix_run (Sl.lstV h 3 (trks ts)) (by omega) (fun t h => (t1 t h).2.2.1) h.length
  rw [if_pos hvb] at e3 e4
  obtain ⟨b1, b2⟩ := exactL_bd (l := ts) (n := 0) (o := []) (fun t h => (t1 t h).1) (by intro x hx; simp at hx) (by simp)
  obtain ⟨es, hes⟩ : ∃ es, es = exactL ts := ⟨_, rfl⟩
  have b3 : bnd' 900000000000 es := by
    intro x hx
    rw [hes] at hx
    have := b1 x hx
    omega
  have b4 : es.length ≤ 600 := by rw [hes]; exact b2
  rw [← hes] at e3 e4
  have el := law5_loop (h := h) b4 b3 h.length _ 0 rfl (by omega)
  rw [Int.natCast_zero] at el
  have l1 := (Sl.lstV h 1 (ints es)).len
  have l2 := (Sl.lstV h 1 (ints (es.map roundS))).len
  have hul : (ints (es.map roundS)).length = es.length := by simp
  rw [run_closed (x := x5) rfl rfl rfl rfl]
  simp (maxSteps := 1000000) (disch := omega) only [go_sem, ↓reduceIte, Nat.reduceEqDiff, Nat.reduceAdd, Nat.reduceSub, Nat.reduceMul, Nat.reduceLT, Nat.reduceLeDiff, reduceCtorEq, Nat.succ_ne_self, ne_eq, not_true_eq_false, not_false_eq_true, and_self, and_true, true_and, Nat.zero_add, Nat.sub_zero, Nat.zero_mul, Nat.one_mul, Nat.le_refl, List.getElem?_cons_zero, List.set_cons_zero, Int.reduceToNat, Int.reduceLT, Int.reduceLE, Int.reduceAdd, Int.reduceSub, Int.reduceMul, Int.reduceEq, Int.reduceNe, Int.toNat_natCast, Int.natCast_zero, wrap_id, wrapu_id, wrapb_id, idx_ok, bin_quo, bin_rem, tdiv_id, tmod_id, ps_bptr, x5, hs, e1, e2, e3, e4, lenv_sl l1, lenv_sl l2, hul, ints_len, el]
end Go.VI.Mix
