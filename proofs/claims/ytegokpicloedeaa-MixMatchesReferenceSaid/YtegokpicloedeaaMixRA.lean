import Derived.Test.YtegokpicloedeaaMixT
import Derived.Test.YtegokpicloedeaaMixV
namespace Go.VI.Mix
set_option linter.unusedVariables false
set_option linter.unusedSimpArgs false

def part (t : Trk) (f j i : Nat) : Int := if f ≤ i ∧ i < f + j then t.sm.getD (i - f) 0 * gainS t.gn ((i - f : Nat) : Int) else 0
def rowS (N : Nat) (S : Nat → Int) (t : Trk) (f j : Nat) : List Int := (List.range N).map fun i => S i + part t f j i
theorem rowS_set {N : Nat} {S : Nat → Int} {t : Trk} {f j : Nat} (h : f + j < N) : (rowS N S t f j).set (f + j) (S (f + j) + t.sm.getD j 0 * gainS t.gn (j : Nat)) = rowS N S t f (j + 1) := by
  refine List.ext_getElem (by simp [rowS]) fun i h1 h2 => ?_
  rw [List.getElem_set]
  simp only [rowS, List.getElem_map, List.getElem_range, part]
  by_cases c : f + j = i
  · subst c
    rw [if_pos rfl, if_pos (by omega), Nat.add_sub_cancel_left]
  · rw [if_neg c]
    by_cases d : f ≤ i ∧ i < f + j
    · rw [if_pos d, if_pos (by omega)]
    · rw [if_neg d, if_neg (by omega)]
theorem rowS_at {N : Nat} {S : Nat → Int} {t : Trk} {f j : Nat} (h : f + j < (rowS N S t f j).length) : (rowS N S t f j)[f + j] = S (f + j) := by
  simp only [rowS, List.getElem_map, List.getElem_range, part]
  rw [if_neg (by omega)]; omega
theorem rex_in {h : Heap} {v : AV} {l : List Trk} (hv : Sl h 3 v (trks l)) (hl : l.length ≤ 8) (k : Nat) (hk : k < l.length) (t : Trk) (htk : l[k] = t) (ht : vT t = true) (hz : okZ t) (f : Nat) (hf : t.fr = f) (N : Nat) (hN : N ≤ 600) (hfN : t.sm.length = 0 ∨ f + t.sm.length ≤ N) (S : Nat → Int) (hS : ∀ i, -1073741824 ≤ S i ∧ S i ≤ 1073741824) (ver : Nat) (d : Nat) :
    ∀ j : Nat, d = t.sm.length - j → j ≤ t.sm.length →
    runC lib ⟨h.length, h.length, 1, none⟩ (.loop b19_1) ([(0, v), (6, .ref (h.length + 0) ver 1 0 N N), (7, .int .i64 k), (8, .int .i64 j)], h ++ [(ver, .arr 1 (ints (rowS N S t f j)))]) =
      some (.exit 4, ([(0, v), (6, .ref (h.length + 0) ver 1 0 N N), (7, .int .i64 k)], h ++ [(ver, .arr 1 (ints (rowS N S t f t.sm.length)))])) := by
  obtain ⟨g1, g2, g3, g4, g5, g6⟩ := vT_of ht
  have e3 : sidx 3 v (.int .i64 k) = some k := by rw [sidx_sl hv (by omega) (by simp; omega)]; simp
  have e4 := fun off fr => pc_iptr (off := off) (hv.elems fr) (show k < (trks l).length by simp; omega)
  simp only [trks_get, trk, htk, hf] at e4
  have s3 := lenv_sl (hz.sls h).len
  rw [ints_len] at s3
  induction d with
  | zero =>
    intro j hd hj
    obtain ⟨m, hm⟩ : ∃ m, m = t.sm.length := ⟨_, rfl⟩
    have hjm : j = m := by omega
    have c1 : ¬ (j : Int) < t.sm.length := by omega
    rw [← hm, ← hjm, w_loop]
    simp (maxSteps := 1000000) (disch := omega) only [go_sem, ↓reduceIte, Nat.reduceEqDiff, Nat.reduceAdd, Nat.reduceSub, Nat.reduceMul, Nat.reduceLT, Nat.reduceLeDiff, reduceCtorEq, Nat.succ_ne_self, ne_eq, not_true_eq_false, not_false_eq_true, and_self, and_true, true_and, Nat.zero_add, Nat.sub_zero, Nat.zero_mul, Nat.one_mul, Nat.le_refl, List.getElem?_cons_zero, List.set_cons_zero, Int.reduceToNat, Int.reduceLT, Int.reduceLE, Int.reduceAdd, Int.reduceSub, Int.reduceMul, Int.reduceEq, Int.reduceNe, Int.toNat_natCast, Int.natCast_zero, wrap_id, wrapu_id, wrapb_id, idx_ok, bin_quo, bin_rem, tdiv_id, tmod_id, ps_bptr, e3, e4, s3, c1]
  | succ d ih =>
    intro j hd hj
    have hj' : j < t.sm.length := by omega
    have c1 : (j : Int) < t.sm.length := by omega
    have hrl : (rowS N S t f j).length = N := by simp [rowS]
    have hr := Sl.refAll (h := h) (fr := [(ver, .arr 1 (ints (rowS N S t f j)))]) (s := 0) (ver := ver) (z := 1) (es := ints (rowS N S t f j)) rfl
    rw [ints_len, hrl] at hr
    have r3 : sidx 1 (.ref (h.length + 0) ver 1 0 N N) (.int .i64 ((f : Int) + j)) = some (f + j) := by rw [sidx_sl hr (by omega) (by simp; omega)]; congr 1
    have r4 := fun off => pc_iptr (off := off) hr.elems0 (show f + j < (ints (rowS N S t f j)).length by simp; omega)
    simp only [ints_get, rowS_at] at r4
    have x3 : sidx 1 (.lst t.zs (ints t.sm)) (.int .i64 j) = some j := by rw [sidx_sl (hz.sls h) (by omega) (by simp; omega)]; simp
    have x4 := fun off fr => pc_iptr (off := off) ((hz.sls h).elems fr) (show j < (ints t.sm).length by simp; omega)
    simp only [ints_get] at x4
    have hs := step1_bd ht hj'
    have hg : t.sm.getD j 0 = t.sm[j] := by rw [List.getD_eq_getElem?_getD, List.getElem?_eq_getElem hj']; rfl
    have gb := gainS_bd g3 (t := (j : Int)) (by omega)
    have gr := fun fr lo => rgain_run (hz.slg (h ++ fr)) (by omega) g3 (j : Int) (by omega) (by omega) lo
    have hSb := hS (f + j)
    have hset := rowS_set (S := S) (t := t) (f := f) (j := j) (N := N) (by omega)
    obtain ⟨x, hx⟩ : ∃ x, x = S (f + j) := ⟨_, rfl⟩
    obtain ⟨y, hy⟩ : ∃ y, y = t.sm.getD j 0 * gainS t.gn j := ⟨_, rfl⟩
    rw [← hx] at r4 hSb hset
    rw [← hy] at hs hset
    have e5 := ps_iptr_fr (lo := h.length) (ns := 1) (h := h) (fr := [(ver, .arr 1 ((rowS N S t f j).map (.int .i64)))]) (s := 0) (ver := ver) (o := 0) (len := N) (fill := N) (i := f + j) (k := .i64) (l := rowS N S t f j) (n := x + y) rfl hrl (by omega) (by omega) (by omega)
    rw [Nat.zero_add, hset] at e5
    have e := ih (j + 1) (by omega) (by omega)
    rw [cast1] at e
    have hy' : t.sm[j] * gainS t.gn j = y := by rw [hy, hg]
    rw [w_loop]
    simp only [ints] at e5 e r4 ⊢
    clear ih hr hset hg hS
    simp (maxSteps := 1000000) (disch := omega) only [go_sem, ↓reduceIte, Nat.reduceEqDiff, Nat.reduceAdd, Nat.reduceSub, Nat.reduceMul, Nat.reduceLT, Nat.reduceLeDiff, reduceCtorEq, Nat.succ_ne_self, ne_eq, not_true_eq_false, not_false_eq_true, and_self, and_true, true_and, Nat.zero_add, Nat.sub_zero, Nat.zero_mul, Nat.one_mul, Nat.le_refl, List.getElem?_cons_zero, List.set_cons_zero, Int.reduceToNat, Int.reduceLT, Int.reduceLE, Int.reduceAdd, Int.reduceSub, Int.reduceMul, Int.reduceEq, Int.reduceNe, Int.toNat_natCast, Int.natCast_zero, wrap_id, wrapu_id, wrapb_id, idx_ok, bin_quo, bin_rem, tdiv_id, tmod_id, ps_bptr, e3, e4, s3, c1, r3, r4, x3, x4, gr, hy', e5, e]
theorem sumC_bd : ∀ {l : List Trk} (i : Nat), (∀ t ∈ l, vT t = true) → -(134217728 * (l.length : Int)) ≤ sumC l i ∧ sumC l i ≤ 134217728 * (l.length : Int)
  | [], i, _ => by simp [sumC]
  | t :: l, i, h => by
    have ih := sumC_bd (l := l) i fun t ht => h t (by simp [ht])
    have ht := h t (by simp)
    have hc : -134217728 ≤ contrib t i ∧ contrib t i ≤ 134217728 := by
      unfold contrib
      split
      · exact step1_bd ht (by omega)
      · omega
    simp only [sumC, List.length_cons]
    omega
theorem sumC_snoc (l : List Trk) (t : Trk) (i : Nat) : sumC (l ++ [t]) i = sumC l i + contrib t i := by rw [sumC_app]; simp [sumC]
theorem rex_out {h : Heap} {v : AV} {l : List Trk} (hv : Sl h 3 v (trks l)) (hl : l.length ≤ 8) (hvt : ∀ t ∈ l, vT t = true) (hz : ∀ t ∈ l, okZ t) (N : Nat) (hN : N ≤ 600) (hE : ∀ t ∈ l, endT t ≤ N) (ver : Nat) (d : Nat) :
    ∀ k : Nat, d = l.length - k → k ≤ l.length →
    runC lib ⟨h.length, h.length, 1, none⟩ (.loop b19_0) ([(0, v), (6, .ref (h.length + 0) ver 1 0 N N), (7, .int .i64 k)], h ++ [(ver, .arr 1 (ints ((List.range N).map (sumC (l.take k)))))]) =
      some (.exit 2, ([(6, .ref (h.length + 0) ver 1 0 N N)], h ++ [(ver, .arr 1 (ints ((List.range N).map (sumC l))))])) := by
  have hvl := hv.len
  rw [trks_len] at hvl
  induction d with
  | zero =>
    intro k hd hk
    have c1 : ¬ (k : Int) < l.length := by omega
    rw [List.take_of_length_le (by omega), w_loop]
    simp (maxSteps := 1000000) (disch := omega) only [go_sem, ↓reduceIte, Nat.reduceEqDiff, Nat.reduceAdd, Nat.reduceSub, Nat.reduceMul, Nat.reduceLT, Nat.reduceLeDiff, reduceCtorEq, Nat.succ_ne_self, ne_eq, not_true_eq_false, not_false_eq_true, and_self, and_true, true_and, Nat.zero_add, Nat.sub_zero, Nat.zero_mul, Nat.one_mul, Nat.le_refl, List.getElem?_cons_zero, List.set_cons_zero, Int.reduceToNat, Int.reduceLT, Int.reduceLE, Int.reduceAdd, Int.reduceSub, Int.reduceMul, Int.reduceEq, Int.reduceNe, Int.toNat_natCast, Int.natCast_zero, wrap_id, wrapu_id, wrapb_id, idx_ok, bin_quo, bin_rem, tdiv_id, tmod_id, ps_bptr, lenv_sl hvl, c1]
  | succ d ih =>
    intro k hd hk
    have hk' : k < l.length := by omega
    have c1 : (k : Int) < l.length := by omega
    have ht := hvt _ (List.getElem_mem hk')
    have he := hE _ (List.getElem_mem hk')
    obtain ⟨g1, g2, g3, g4, g5, g6⟩ := vT_of ht
    have hS : ∀ i, -1073741824 ≤ sumC (l.take k) i ∧ sumC (l.take k) i ≤ 1073741824 := fun i => by
      have := sumC_bd (l := l.take k) i fun t ht => hvt t (List.mem_of_mem_take ht)
      simp only [List.length_take] at this
      omega
    have hin := rex_in hv hl k hk' l[k] rfl ht (hz _ (List.getElem_mem hk')) l[k].fr.toNat (by omega) N hN (by
      unfold endT at he
      split at he
      · exact .inl ‹_›
      · exact .inr he) (sumC (l.take k)) hS ver _ 0 rfl (by omega)
    have r0 : rowS N (sumC (l.take k)) l[k] l[k].fr.toNat 0 = (List.range N).map (sumC (l.take k)) := by
      refine List.ext_getElem (by simp [rowS]) fun i h1 h2 => ?_
      simp only [rowS, List.getElem_map, List.getElem_range, part]
      rw [if_neg (by omega)]; omega
    have r1 : rowS N (sumC (l.take k)) l[k] l[k].fr.toNat l[k].sm.length = (List.range N).map (sumC (l.take (k + 1))) := by
      refine List.ext_getElem (by simp [rowS]) fun i h1 h2 => ?_
      simp only [rowS, List.getElem_map, List.getElem_range]
      rw [List.take_succ_eq_append_getElem hk', sumC_snoc]; rfl
    rw [r0, r1, Int.natCast_zero] at hin
    have e := ih (k + 1) (by omega) (by omega)
    rw [cast1] at e
    rw [w_loop]
    simp (maxSteps := 1000000) (disch := omega) only [go_sem, ↓reduceIte, Nat.reduceEqDiff, Nat.reduceAdd, Nat.reduceSub, Nat.reduceMul, Nat.reduceLT, Nat.reduceLeDiff, reduceCtorEq, Nat.succ_ne_self, ne_eq, not_true_eq_false, not_false_eq_true, and_self, and_true, true_and, Nat.zero_add, Nat.sub_zero, Nat.zero_mul, Nat.one_mul, Nat.le_refl, List.getElem?_cons_zero, List.set_cons_zero, Int.reduceToNat, Int.reduceLT, Int.reduceLE, Int.reduceAdd, Int.reduceSub, Int.reduceMul, Int.reduceEq, Int.reduceNe, Int.toNat_natCast, Int.natCast_zero, wrap_id, wrapu_id, wrapb_id, idx_ok, bin_quo, bin_rem, tdiv_id, tmod_id, ps_bptr, lenv_sl hvl, c1, hin, e]
theorem rex_end {H : Heap} {cx : Cx} {v : AV} {l : List Trk} (hv : Sl H 3 v (trks l)) (hl : l.length ≤ 8) (hvt : ∀ t ∈ l, vT t = true) (hz : ∀ t ∈ l, okZ t) (d : Nat) :
    ∀ k : Nat, d = l.length - k → k ≤ l.length →
    runC lib cx (.loop b19_2) ([(0, v), (4, .int .i64 (maxE (l.take k) : Nat)), (5, .int .i64 k)], H) = some (.exit 0, ([(0, v), (4, .int .i64 (maxE l : Nat))], H)) := by
  have hvl := hv.len
  rw [trks_len] at hvl
  induction d with
  | zero =>
    intro k hd hk
    have c1 : ¬ (k : Int) < l.length := by omega
    rw [List.take_of_length_le (by omega), w_loop]
    simp (maxSteps := 1000000) (disch := omega) only [go_sem, ↓reduceIte, Nat.reduceEqDiff, Nat.reduceAdd, Nat.reduceSub, Nat.reduceMul, Nat.reduceLT, Nat.reduceLeDiff, reduceCtorEq, Nat.succ_ne_self, ne_eq, not_true_eq_false, not_false_eq_true, and_self, and_true, true_and, Nat.zero_add, Nat.sub_zero, Nat.zero_mul, Nat.one_mul, Nat.le_refl, List.getElem?_cons_zero, List.set_cons_zero, Int.reduceToNat, Int.reduceLT, Int.reduceLE, Int.reduceAdd, Int.reduceSub, Int.reduceMul, Int.reduceEq, Int.reduceNe, Int.toNat_natCast, Int.natCast_zero, wrap_id, wrapu_id, wrapb_id, idx_ok, bin_quo, bin_rem, tdiv_id, tmod_id, ps_bptr, lenv_sl hvl, c1]
  | succ d ih =>
    intro k hd hk
    have hk' : k < l.length := by omega
    have c1 : (k : Int) < l.length := by omega
    have e3 : sidx 3 v (.int .i64 k) = some k := by rw [sidx_sl hv (by omega) (by simp; omega)]; simp
    have e4 := fun off => pc_iptr (off := off) hv.elems0 (show k < (trks l).length by simp; omega)
    simp only [trks_get, trk] at e4
    have ht := hvt _ (List.getElem_mem hk')
    have hz' := hz _ (List.getElem_mem hk')
    have e := ih (k + 1) (by omega) (by omega)
    rw [List.take_succ_eq_append_getElem hk', maxE_app] at e
    obtain ⟨t, htt⟩ : ∃ t, t = l[k] := ⟨_, rfl⟩
    rw [← htt] at e4 ht hz' e
    obtain ⟨g1, g2, g3, g4, g5, g6⟩ := vT_of ht
    have s3 := lenv_sl (hz'.sls H).len
    rw [ints_len] at s3
    rw [cast1] at e
    rw [w_loop]
    by_cases c2 : 0 < (t.sm.length : Int)
    · have hm : ((max (maxE (l.take k)) (maxE [t]) : Nat) : Int) = max ((maxE (l.take k) : Nat) : Int) (t.fr + t.sm.length) := by
        simp only [maxE, endT]
        rw [if_neg (by omega)]
        omega
      rw [hm] at e
      simp (maxSteps := 1000000) (disch := omega) only [go_sem, ↓reduceIte, Nat.reduceEqDiff, Nat.reduceAdd, Nat.reduceSub, Nat.reduceMul, Nat.reduceLT, Nat.reduceLeDiff, reduceCtorEq, Nat.succ_ne_self, ne_eq, not_true_eq_false, not_false_eq_true, and_self, and_true, true_and, Nat.zero_add, Nat.sub_zero, Nat.zero_mul, Nat.one_mul, Nat.le_refl, List.getElem?_cons_zero, List.set_cons_zero, Int.reduceToNat, Int.reduceLT, Int.reduceLE, Int.reduceAdd, Int.reduceSub, Int.reduceMul, Int.reduceEq, Int.reduceNe, Int.toNat_natCast, Int.natCast_zero, wrap_id, wrapu_id, wrapb_id, idx_ok, bin_quo, bin_rem, tdiv_id, tmod_id, ps_bptr, lenv_sl hvl, c1, e3, e4, s3, c2, e]
    · have hm : max (maxE (l.take k)) (maxE [t]) = maxE (l.take k) := by
        simp only [maxE, endT]
        rw [if_pos (by omega)]
        omega
      rw [hm] at e
      simp (maxSteps := 1000000) (disch := omega) only [go_sem, ↓reduceIte, Nat.reduceEqDiff, Nat.reduceAdd, Nat.reduceSub, Nat.reduceMul, Nat.reduceLT, Nat.reduceLeDiff, reduceCtorEq, Nat.succ_ne_self, ne_eq, not_true_eq_false, not_false_eq_true, and_self, and_true, true_and, Nat.zero_add, Nat.sub_zero, Nat.zero_mul, Nat.one_mul, Nat.le_refl, List.getElem?_cons_zero, List.set_cons_zero, Int.reduceToNat, Int.reduceLT, Int.reduceLE, Int.reduceAdd, Int.reduceSub, Int.reduceMul, Int.reduceEq, Int.reduceNe, Int.toNat_natCast, Int.natCast_zero, wrap_id, wrapu_id, wrapb_id, idx_ok, bin_quo, bin_rem, tdiv_id, tmod_id, ps_bptr, lenv_sl hvl, c1, e3, e4, s3, c2, e]
theorem maxE_mem : ∀ {l : List Trk} {t : Trk}, t ∈ l → endT t ≤ maxE l
  | a :: l, t, h => by
    simp only [maxE]
    rcases List.mem_cons.mp h with rfl | h
    · omega
    · have := maxE_mem h; omega
theorem exactL_row (l : List Trk) : (List.range (maxE l)).map (sumC l) = exactL l := by
  refine List.ext_getElem (by simp [exactL_len]) fun i h1 h2 => ?_
  have := exactL_getD l i
  rw [List.getD_eq_getElem?_getD, List.getElem?_eq_getElem h2, Option.getD_some] at this
  simp [this]
theorem rexact_run {h : Heap} {v : AV} {l : List Trk} (hv : Sl h 3 v (trks l)) (hl : l.length ≤ 9223372036854775807) (hz : ∀ t ∈ l, okT t) (lo : Nat) :
    (run lib).fn 19 [v] h lo = some (if validB l = true then .tuple [.own 1 (ints (exactL l)), .int .i64 0] else .tuple [.own 0 [], .int .i64 170], h) := by
  have e1 := fun fr lo => rvalid_run (hv.app fr) hl hz lo
  rw [run_closed (x := x19) rfl rfl rfl rfl]
  cases hb : validB l with
  | false =>
    rw [hb] at e1
    simp (maxSteps := 1000000) (disch := omega) only [go_sem, ↓reduceIte, Nat.reduceEqDiff, Nat.reduceAdd, Nat.reduceSub, Nat.reduceMul, Nat.reduceLT, Nat.reduceLeDiff, reduceCtorEq, Nat.succ_ne_self, ne_eq, not_true_eq_false, not_false_eq_true, and_self, and_true, true_and, Nat.zero_add, Nat.sub_zero, Nat.zero_mul, Nat.one_mul, Nat.le_refl, List.getElem?_cons_zero, List.set_cons_zero, Int.reduceToNat, Int.reduceLT, Int.reduceLE, Int.reduceAdd, Int.reduceSub, Int.reduceMul, Int.reduceEq, Int.reduceNe, Int.toNat_natCast, Int.natCast_zero, wrap_id, wrapu_id, wrapb_id, idx_ok, bin_quo, bin_rem, tdiv_id, tmod_id, ps_bptr, x19, e1]
  | true =>
    rw [hb] at e1
    unfold validB at hb
    simp only [Bool.and_eq_true, decide_eq_true_eq, List.all_eq_true] at hb
    have hl8 : l.length ≤ 8 := by omega
    have e2 := fun fr => rex_end (cx := ⟨h.length, h.length, 1, none⟩) (hv.app fr) hl8 hb.1 (fun t ht => (hz t ht).z) _ 0 rfl (by omega)
    simp only [List.take_zero, maxE, Int.natCast_zero] at e2
    have hN : maxE l ≤ 600 := by
      have := (exactL_bd (l := l) (n := 0) (o := []) hb.1 (by intro x hx; simp at hx) (by simp)).2
      rw [← exactL_len]; exact this
    have e3 := rex_out (h := h) hv hl8 hb.1 (fun t ht => (hz t ht).z) (maxE l) hN (fun t ht => maxE_mem ht) (0 + 1) _ 0 rfl (by omega)
    have z0 : (List.range (maxE l)).map (sumC (l.take 0)) = List.replicate (maxE l) 0 := List.eq_replicate_iff.mpr ⟨by simp, fun x hx => by
      simp only [List.take_zero, sumC, List.mem_map] at hx
      obtain ⟨_, _, rfl⟩ := hx; rfl⟩
    rw [z0, Int.natCast_zero, exactL_row] at e3
    have hmk := fun hh => mks_ok (h := hh) (cx := ⟨h.length, h.length, 1, none⟩) (s := 0) (z := 1) (zero := .int .i64 0) (lim := 17592186044416) (k := .i64) (k' := .i64) (a := (maxE l : Nat)) (b := (maxE l : Nat)) (by omega) (by omega) (by omega)
    have hgv := give_fr (s := 0) (ver := 0 + 1) (z := 1) (h := h) (es := ints (exactL l)) (fr := [(0 + 1, .arr 1 (ints (exactL l)))]) rfl
    rw [ints_len, exactL_len] at hgv
    simp only [ints, List.map_replicate] at e3
    simp only [ints] at hgv ⊢
    simp (maxSteps := 1000000) (disch := omega) only [go_sem, ↓reduceIte, Nat.reduceEqDiff, Nat.reduceAdd, Nat.reduceSub, Nat.reduceMul, Nat.reduceLT, Nat.reduceLeDiff, reduceCtorEq, Nat.succ_ne_self, ne_eq, not_true_eq_false, not_false_eq_true, and_self, and_true, true_and, Nat.zero_add, Nat.sub_zero, Nat.zero_mul, Nat.one_mul, Nat.le_refl, List.getElem?_cons_zero, List.set_cons_zero, Int.reduceToNat, Int.reduceLT, Int.reduceLE, Int.reduceAdd, Int.reduceSub, Int.reduceMul, Int.reduceEq, Int.reduceNe, Int.toNat_natCast, Int.natCast_zero, wrap_id, wrapu_id, wrapb_id, idx_ok, bin_quo, bin_rem, tdiv_id, tmod_id, ps_bptr, x19, e1, e2, hmk, mkr, Int.toNat_natCast, e3, hgv]

/-! Mix -/
theorem rmix_loop {h : Heap} {es : List Int} (hl : es.length ≤ 600) (hb : bnd' 900000000000 es) (e0 : AV) (ver : Nat) (d : Nat) :
    ∀ k : Nat, d = es.length - k → k ≤ es.length →
    runC lib ⟨h.length, h.length, 1, none⟩ (.loop b21_0) ([(4, .ref (h.length + 0) ver 1 0 es.length es.length), (5, e0), (6, .int .i64 k)], h ++ [(ver, .arr 1 (ints ((es.take k).map roundS ++ es.drop k)))]) =
      some (.exit 0, ([(4, .ref (h.length + 0) ver 1 0 es.length es.length), (5, e0)], h ++ [(ver, .arr 1 (ints (es.map roundS)))])) := by
  have l1 : slen (.ref (h.length + 0) ver 1 0 es.length es.length) = some es.length := rfl
  induction d with
  | zero =>
    intro k hd hk
    have : k = es.length := by omega
    subst this
    rw [List.take_length, List.drop_length, List.append_nil, w_loop]
    simp (maxSteps := 1000000) (disch := omega) only [go_sem, ↓reduceIte, Nat.reduceEqDiff, Nat.reduceAdd, Nat.reduceSub, Nat.reduceMul, Nat.reduceLT, Nat.reduceLeDiff, reduceCtorEq, Nat.succ_ne_self, ne_eq, not_true_eq_false, not_false_eq_true, and_self, and_true, true_and, Nat.zero_add, Nat.sub_zero, Nat.zero_mul, Nat.one_mul, Nat.le_refl, List.getElem?_cons_zero, List.set_cons_zero, Int.reduceToNat, Int.reduceLT, Int.reduceLE, Int.reduceAdd, Int.reduceSub, Int.reduceMul, Int.reduceEq, Int.reduceNe, Int.toNat_natCast, Int.natCast_zero, wrap_id, wrapu_id, wrapb_id, idx_ok, bin_quo, bin_rem, tdiv_id, tmod_id, ps_bptr, lenv_sl l1, Int.lt_irrefl]
  | succ d ih =>
    intro k hd hk
    have hk' : k < es.length := by omega
    have c1 : (k : Int) < es.length := by omega
    obtain ⟨cur, hcur⟩ : ∃ cur, cur = (es.take k).map roundS ++ es.drop k := ⟨_, rfl⟩
    have hcl : cur.length = es.length := by rw [hcur]; simp; omega
    have hv := Sl.refAll (h := h) (fr := [(ver, .arr 1 (ints cur))]) (s := 0) (ver := ver) (z := 1) (es := ints cur) rfl
    rw [ints_len, hcl] at hv
    have e3 : sidx 1 (.ref (h.length + 0) ver 1 0 es.length es.length) (.int .i64 k) = some k := by rw [sidx_sl hv (by omega) (by simp; omega)]; simp
    have e4 := fun off => pc_iptr (off := off) hv.elems0 (show k < (ints cur).length by simp; omega)
    simp only [ints_get] at e4
    have hck : cur[k]'(by omega) = es[k] := by
      simp only [hcur]
      rw [List.getElem_append_right (by simp; omega)]
      simp
      congr 1; omega
    rw [hck] at e4
    have hx := hb _ (List.getElem_mem hk')
    have e5 := ps_iptr_fr (lo := h.length) (ns := 1) (h := h) (fr := [(ver, .arr 1 (cur.map (.int .i64)))]) (s := 0) (ver := ver) (o := 0) (len := es.length) (fill := es.length) (i := k) (k := .i64) (l := cur) (n := roundS es[k]) rfl hcl (by omega) hk' (by omega)
    have hnew : cur.set k (roundS es[k]) = (es.take (k + 1)).map roundS ++ es.drop (k + 1) := by
      rw [hcur, List.take_succ_eq_append_getElem hk', List.drop_eq_getElem_cons hk', List.map_append, List.append_assoc, List.set_append_right _ _ (by simp; omega)]
      congr 1
      have : k - ((es.take k).map roundS).length = 0 := by simp; omega
      rw [this]; rfl
    rw [Nat.zero_add, hnew] at e5
    have e := ih (k + 1) (by omega) (by omega)
    rw [cast1] at e
    rw [← hcur, w_loop]
    simp only [ints] at e4 e5 e ⊢
    simp (maxSteps := 1000000) (disch := omega) only [go_sem, ↓reduceIte, Nat.reduceEqDiff, Nat.reduceAdd, Nat.reduceSub, Nat.reduceMul, Nat.reduceLT, Nat.reduceLeDiff, reduceCtorEq, Nat.succ_ne_self, ne_eq, not_true_eq_false, not_false_eq_true, and_self, and_true, true_and, Nat.zero_add, Nat.sub_zero, Nat.zero_mul, Nat.one_mul, Nat.le_refl, List.getElem?_cons_zero, List.set_cons_zero, Int.reduceToNat, Int.reduceLT, Int.reduceLE, Int.reduceAdd, Int.reduceSub, Int.reduceMul, Int.reduceEq, Int.reduceNe, Int.toNat_natCast, Int.natCast_zero, wrap_id, wrapu_id, wrapb_id, idx_ok, bin_quo, bin_rem, tdiv_id, tmod_id, ps_bptr, lenv_sl l1, c1, e3, e4, rround_run, e5, e]
theorem rmix_run {h : Heap} {v : AV} {l : List Trk} (hv : Sl h 3 v (trks l)) (hl : l.length ≤ 9223372036854775807) (hz : ∀ t ∈ l, okT t) (lo : Nat) :
    (run lib).fn 21 [v] h lo = some (if validB l = true then .tuple [ownM 1 (ints ((exactL l).map roundS)), .int .i64 0] else .tuple [.lst 0 [], .int .i64 170], h) := by
  have e1 := fun fr lo => rexact_run (hv.app fr) hl hz lo
  rw [run_closed (x := x21) rfl rfl rfl rfl]
  cases hb : validB l with
  | false =>
    rw [hb] at e1
    have t1 := take_none2 (cx := ⟨h.length, h.length, 1, none⟩) (s := 0) (z := 0) (h := h ++ [(0, .dead)]) (r := [.int .i64 170])
    have l1 := (Sl.lst0 h 1 0).len
    simp (maxSteps := 1000000) (disch := omega) only [go_sem, ↓reduceIte, Nat.reduceEqDiff, Nat.reduceAdd, Nat.reduceSub, Nat.reduceMul, Nat.reduceLT, Nat.reduceLeDiff, reduceCtorEq, Nat.succ_ne_self, ne_eq, not_true_eq_false, not_false_eq_true, and_self, and_true, true_and, Nat.zero_add, Nat.sub_zero, Nat.zero_mul, Nat.one_mul, Nat.le_refl, List.getElem?_cons_zero, List.set_cons_zero, Int.reduceToNat, Int.reduceLT, Int.reduceLE, Int.reduceAdd, Int.reduceSub, Int.reduceMul, Int.reduceEq, Int.reduceNe, Int.toNat_natCast, Int.natCast_zero, wrap_id, wrapu_id, wrapb_id, idx_ok, bin_quo, bin_rem, tdiv_id, tmod_id, ps_bptr, x21, e1, t1, lenv_sl l1, w_loop, List.length_nil, Int.natCast_zero, Int.lt_irrefl]
  | true =>
    rw [hb] at e1
    unfold validB at hb
    simp only [Bool.and_eq_true, decide_eq_true_eq, List.all_eq_true] at hb
    obtain ⟨b1, b2⟩ := exactL_bd (l := l) (n := 0) (o := []) hb.1 (by intro x hx; simp at hx) (by simp)
    obtain ⟨es, hes⟩ : ∃ es, es = exactL l := ⟨_, rfl⟩
    have b3 : bnd' 900000000000 es := by
      intro x hx
      rw [hes] at hx
      have := b1 x hx
      omega
    have b4 : es.length ≤ 600 := by rw [hes]; exact b2
    rw [← hes] at e1 ⊢
    by_cases h0 : es = []
    · rw [h0] at e1 ⊢
      have t1 := take_none2 (cx := ⟨h.length, h.length, 1, none⟩) (s := 0) (z := 1) (h := h ++ [(0, .dead)]) (r := [.int .i64 0])
      have l1 := (Sl.lst0 h 1 1).len
      simp only [ints, List.map_nil] at e1 ⊢
      simp (maxSteps := 1000000) (disch := omega) only [go_sem, ↓reduceIte, Nat.reduceEqDiff, Nat.reduceAdd, Nat.reduceSub, Nat.reduceMul, Nat.reduceLT, Nat.reduceLeDiff, reduceCtorEq, Nat.succ_ne_self, ne_eq, not_true_eq_false, not_false_eq_true, and_self, and_true, true_and, Nat.zero_add, Nat.sub_zero, Nat.zero_mul, Nat.one_mul, Nat.le_refl, List.getElem?_cons_zero, List.set_cons_zero, Int.reduceToNat, Int.reduceLT, Int.reduceLE, Int.reduceAdd, Int.reduceSub, Int.reduceMul, Int.reduceEq, Int.reduceNe, Int.toNat_natCast, Int.natCast_zero, wrap_id, wrapu_id, wrapb_id, idx_ok, bin_quo, bin_rem, tdiv_id, tmod_id, ps_bptr, x21, e1, t1, lenv_sl l1, w_loop, ownM, List.length_nil, Int.natCast_zero, Int.lt_irrefl]
    · have hne : ints es ≠ [] := by rw [ne_eq, ints_nil]; exact h0
      have t1 := take_own2 (lo := h.length) (ns := 1) (s := 0) (z := 1) (h := h) (fr := [(0, .dead)]) (b0 := (0, .dead)) (es := ints es) (r := [.int .i64 0]) (by omega) rfl hne
      simp only [ownV, if_neg hne, ints_len] at t1
      have e := rmix_loop (h := h) b4 b3 (.int .i64 0) (0 + 1) _ 0 rfl (by omega)
      simp only [Int.natCast_zero, List.take_zero, List.map_nil, List.nil_append, List.drop_zero] at e
      have hne2 : ints (es.map roundS) ≠ [] := by rw [ne_eq, ints_nil]; simpa using h0
      have hgv := give_fr (s := 0) (ver := 0 + 1) (z := 1) (h := h) (es := ints (es.map roundS)) (fr := [(0 + 1, .arr 1 (ints (es.map roundS)))]) rfl
      rw [ints_len, List.length_map] at hgv
      simp (maxSteps := 1000000) (disch := omega) only [go_sem, ↓reduceIte, Nat.reduceEqDiff, Nat.reduceAdd, Nat.reduceSub, Nat.reduceMul, Nat.reduceLT, Nat.reduceLeDiff, reduceCtorEq, Nat.succ_ne_self, ne_eq, not_true_eq_false, not_false_eq_true, and_self, and_true, true_and, Nat.zero_add, Nat.sub_zero, Nat.zero_mul, Nat.one_mul, Nat.le_refl, List.getElem?_cons_zero, List.set_cons_zero, Int.reduceToNat, Int.reduceLT, Int.reduceLE, Int.reduceAdd, Int.reduceSub, Int.reduceMul, Int.reduceEq, Int.reduceNe, Int.toNat_natCast, Int.natCast_zero, wrap_id, wrapu_id, wrapb_id, idx_ok, bin_quo, bin_rem, tdiv_id, tmod_id, ps_bptr, x21, e1, t1, e, hgv, ownM, hne2]
end Go.VI.Mix
