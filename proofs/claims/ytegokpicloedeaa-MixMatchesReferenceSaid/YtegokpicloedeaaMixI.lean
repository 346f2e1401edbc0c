import Derived.Test.YtegokpicloedeaaMixH
namespace Go.VI.Mix
set_option linter.unusedVariables false
set_option linter.unusedSimpArgs false

def contrib (t : Trk) (i : Nat) : Int := if t.fr.toNat ≤ i ∧ i < t.fr.toNat + t.sm.length then t.sm.getD (i - t.fr.toNat) 0 * gainS t.gn ((i - t.fr.toNat : Nat) : Int) else 0
def endT (t : Trk) : Nat := if t.sm.length = 0 then 0 else t.fr.toNat + t.sm.length
def sumC : List Trk → Nat → Int
  | [], _ => 0
  | t :: l, i => contrib t i + sumC l i
def maxE : List Trk → Nat
  | [] => 0
  | t :: l => max (endT t) (maxE l)
theorem step_fold (t : Trk) (o : List Int) : ∀ k, k ≤ t.sm.length → (∀ i, ((List.range k).foldl (step1 t) o).getD i 0 = o.getD i 0 + if t.fr.toNat ≤ i ∧ i < t.fr.toNat + k then t.sm.getD (i - t.fr.toNat) 0 * gainS t.gn ((i - t.fr.toNat : Nat) : Int) else 0) ∧
    ((List.range k).foldl (step1 t) o).length = max o.length (if k = 0 then 0 else t.fr.toNat + k)
  | 0, _ => by
    refine ⟨fun i => ?_, by simp⟩
    rw [if_neg (by omega)]; simp
  | k + 1, hk => by
    obtain ⟨h1, h2⟩ := step_fold t o k (by omega)
    refine ⟨fun i => ?_, ?_⟩
    · rw [foldl_range_succ, step1, addAt_getD, h1]
      by_cases hi : i = t.fr.toNat + k
      · subst hi
        rw [if_neg (by omega), if_pos rfl, if_pos (by omega), Nat.add_sub_cancel_left]; omega
      · rw [if_neg hi]
        by_cases h3 : t.fr.toNat ≤ i ∧ i < t.fr.toNat + k
        · rw [if_pos h3, if_pos (by omega)]; omega
        · rw [if_neg h3, if_neg (by omega)]; omega
    · rw [foldl_range_succ, step1, addAt_len, h2, if_neg (show ¬ k + 1 = 0 by omega)]
      split <;> omega
theorem addT_getD (o : List Int) (t : Trk) (i : Nat) : (addT o t).getD i 0 = o.getD i 0 + contrib t i := (step_fold t o _ (Nat.le_refl _)).1 i
theorem addT_len (o : List Int) (t : Trk) : (addT o t).length = max o.length (endT t) := (step_fold t o _ (Nat.le_refl _)).2
theorem fold_getD : ∀ (l : List Trk) (o : List Int) (i : Nat), (l.foldl addT o).getD i 0 = o.getD i 0 + sumC l i
  | [], o, i => by simp [sumC]
  | t :: l, o, i => by rw [List.foldl_cons, fold_getD l, addT_getD, sumC]; omega
theorem fold_len : ∀ (l : List Trk) (o : List Int), (l.foldl addT o).length = max o.length (maxE l)
  | [], o => by simp [maxE]
  | t :: l, o => by rw [List.foldl_cons, fold_len l, addT_len, maxE]; omega
theorem exactL_getD (l : List Trk) (i : Nat) : (exactL l).getD i 0 = sumC l i := by unfold exactL; rw [fold_getD]; simp
theorem exactL_len (l : List Trk) : (exactL l).length = maxE l := by unfold exactL; rw [fold_len]; simp
theorem ext_getD {a b : List Int} (h1 : a.length = b.length) (h2 : ∀ i, a.getD i 0 = b.getD i 0) : a = b := by
  refine List.ext_getElem h1 fun i hi hj => ?_
  have := h2 i
  simpa [List.getD_eq_getElem?_getD, hi, hj] using this
theorem sumC_app : ∀ (a b : List Trk) (i : Nat), sumC (a ++ b) i = sumC a i + sumC b i
  | [], b, i => by simp [sumC]
  | t :: a, b, i => by rw [List.cons_append, sumC, sumC, sumC_app a]; omega
theorem maxE_app : ∀ (a b : List Trk), maxE (a ++ b) = max (maxE a) (maxE b)
  | [], b => by simp [maxE]
  | t :: a, b => by rw [List.cons_append, maxE, maxE, maxE_app a]; omega
theorem exactL_comm (a b : List Trk) : exactL (a ++ b) = exactL (b ++ a) := by
  refine ext_getD ?_ fun i => ?_
  · rw [exactL_len, exactL_len, maxE_app, maxE_app]; omega
  · rw [exactL_getD, exactL_getD, sumC_app, sumC_app]; omega
def late (d : Nat) (t : Trk) : Trk := { t with fr := t.fr + d }
theorem ite_late {f d i n : Nat} {a b : Int} (hab : d ≤ i → a = b) : (if f + d ≤ i ∧ i < f + d + n then a else 0) = if d ≤ i then (if f ≤ i - d ∧ i - d < f + n then b else 0) else 0 := by
  by_cases h1 : d ≤ i
  · rw [if_pos h1, hab h1]
    split <;> split <;> first | rfl | (exfalso; omega)
  · rw [if_neg h1, if_neg (by omega)]
theorem contrib_eq (t : Trk) (f : Nat) (hf : t.fr.toNat = f) (i : Nat) : contrib t i = if f ≤ i ∧ i < f + t.sm.length then t.sm.getD (i - f) 0 * gainS t.gn ((i - f : Nat) : Int) else 0 := by subst hf; rfl
theorem contrib_late {t : Trk} (h : 0 ≤ t.fr) (d i : Nat) : contrib (late d t) i = if d ≤ i then contrib t (i - d) else 0 := by
  have e : (late d t).fr.toNat = t.fr.toNat + d := by simp [late]; omega
  rw [contrib_eq _ _ e, contrib_eq t _ rfl]
  exact ite_late fun h1 => by
    have : i - (t.fr.toNat + d) = i - d - t.fr.toNat := by omega
    rw [this]; rfl
theorem sumC_late : ∀ {l : List Trk} (d i : Nat), (∀ t ∈ l, 0 ≤ t.fr) → sumC (l.map (late d)) i = if d ≤ i then sumC l (i - d) else 0
  | [], d, i, _ => by simp [sumC]
  | t :: l, d, i, h => by
    rw [List.map_cons, sumC, contrib_late (h t (by simp)), sumC_late d i (fun t ht => h t (by simp [ht])), sumC]
    split <;> rfl
theorem endT_late {t : Trk} (h : 0 ≤ t.fr) (d : Nat) : endT (late d t) = if endT t = 0 then 0 else endT t + d := by
  have e : (late d t).fr.toNat = t.fr.toNat + d := by simp [late]; omega
  unfold endT
  rw [e]
  simp only [late]
  by_cases h1 : t.sm.length = 0
  · simp [h1]
  · simp only [h1, if_false]
    split <;> omega
theorem maxE_late : ∀ {l : List Trk} (d : Nat), (∀ t ∈ l, 0 ≤ t.fr) → maxE (l.map (late d)) = if maxE l = 0 then 0 else maxE l + d
  | [], d, _ => by simp [maxE]
  | t :: l, d, h => by
    rw [List.map_cons, maxE, endT_late (h t (by simp)), maxE_late d (fun t ht => h t (by simp [ht])), maxE]
    (repeat' split) <;> omega

theorem ps_iptr_trk {lo ns : Nat} {h fr : Heap} {s ver n i : Nat} {l : List Trk} {t : Trk} {f : Int} (hid : fr[s]? = some (ver, .arr 3 (trks l))) (hl : l.length = n) (hi : i < n) (ht : l[i]? = some t) (hlo : lo ≤ h.length) :
    pstore ⟨lo, h.length, ns, none⟩ (h ++ fr) 1 (.iptr (.ref (h.length + s) ver 3 0 n n) i 0) (.int .i64 f) = some (h ++ fr.set s (ver, .arr 3 (trks (l.set i { t with fr := f })))) := by
  have hle : lo ≤ h.length + s := by omega
  have e : (trks l)[i]? = some (.agg [.int .i64 t.fr, .lst t.zs (ints t.sm), .lst t.zg (pts t.gn)]) := by simp [trks, ht, trk]
  have e2 : trks (l.set i { t with fr := f }) = (trks l).set i (.agg [.int .i64 f, .lst t.zs (ints t.sm), .lst t.zg (pts t.gn)]) := by simp [trks, List.map_set, trk]
  simp only [pstore, frz, AV.cells, AV.val, get_fr, hid, trks_len, hl, hi, hle, and_self, if_true, Option.bind_some, Nat.zero_add, e, splice, List.length_cons, List.length_nil, List.take_zero, List.nil_append, List.drop_succ_cons, List.drop_zero, List.cons_append, set_fr, e2, Option.map_some]
  simp

theorem late_loop {h : Heap} {fr0 fr1 : Nat × Blk} {ts : List Trk} (hn : ts.length ≤ 8) (hf : ∀ t ∈ ts, 0 ≤ t.fr ∧ t.fr ≤ 1000) (dd : Nat) (hd : dd ≤ 1000) (ver : Nat) (av : AV) (d : Nat) :
    ∀ k : Nat, d = ts.length - k → k ≤ ts.length →
    runC lib ⟨h.length, h.length, 3, none⟩ (.loop b4_1) ([(11, .bool true), (12, .ref (h.length + 2) ver 3 0 ts.length ts.length), (14, av), (23, .int .i64 dd), (24, .int .i64 k)], h ++ [fr0, fr1, (ver, .arr 3 (trks ((ts.take k).map (late dd) ++ ts.drop k)))]) =
      some (.exit 2, ([(11, .bool true), (12, .ref (h.length + 2) ver 3 0 ts.length ts.length), (14, av), (23, .int .i64 dd)], h ++ [fr0, fr1, (ver, .arr 3 (trks (ts.map (late dd))))])) := by
  induction d with
  | zero =>
    intro k hd' hk
    have : k = ts.length := by omega
    subst this
    rw [List.take_length, List.drop_length, List.append_nil, w_loop]
    have l1 : slen (.ref (h.length + 2) ver 3 0 ts.length ts.length) = some ts.length := rfl
    simp (maxSteps := 1000000) (disch := omega) only [go_sem, ↓reduceIte, Nat.reduceEqDiff, Nat.reduceAdd, Nat.reduceSub, Nat.reduceMul, Nat.reduceLT, Nat.reduceLeDiff, reduceCtorEq, Nat.succ_ne_self, ne_eq, not_true_eq_false, not_false_eq_true, and_self, and_true, true_and, Nat.zero_add, Nat.sub_zero, Nat.zero_mul, Nat.one_mul, Nat.le_refl, List.getElem?_cons_zero, List.set_cons_zero, Int.reduceToNat, Int.reduceLT, Int.reduceLE, Int.reduceAdd, Int.reduceSub, Int.reduceMul, Int.reduceEq, Int.reduceNe, Int.toNat_natCast, Int.natCast_zero, wrap_id, wrapu_id, wrapb_id, idx_ok, bin_quo, bin_rem, tdiv_id, tmod_id, ps_bptr, lenv_sl l1, Int.lt_irrefl]
  | succ d ih =>
    intro k hd' hk
    have hk' : k < ts.length := by omega
    have c1 : (k : Int) < ts.length := by omega
    have l1 : slen (.ref (h.length + 2) ver 3 0 ts.length ts.length) = some ts.length := rfl
    obtain ⟨cur, hcur⟩ : ∃ cur, cur = (ts.take k).map (late dd) ++ ts.drop k := ⟨_, rfl⟩
    have hcl : cur.length = ts.length := by rw [hcur]; simp; omega
    have hck : cur[k]'(by omega) = ts[k] := by
      simp only [hcur]
      rw [List.getElem_append_right (by simp; omega)]
      simp
      congr 1; omega
    have hv := Sl.refAll (h := h) (fr := [fr0, fr1, (ver, .arr 3 (trks cur))]) (s := 2) (ver := ver) (z := 3) (es := trks cur) rfl
    rw [trks_len, hcl] at hv
    have e3 : sidx 3 (.ref (h.length + 2) ver 3 0 ts.length ts.length) (.int .i64 k) = some k := by rw [sidx_sl hv (by omega) (by simp; omega)]; simp
    have e4 := fun off => pc_iptr (off := off) hv.elems0 (show k < (trks cur).length by simp; omega)
    simp only [trks_get, hck] at e4
    have ht := hf _ (List.getElem_mem hk')
    have e5 := ps_iptr_trk (lo := h.length) (ns := 3) (h := h) (fr := [fr0, fr1, (ver, .arr 3 (trks cur))]) (s := 2) (ver := ver) (n := ts.length) (i := k) (l := cur) (t := ts[k]) (f := ts[k].fr + dd) rfl hcl hk' (by rw [List.getElem?_eq_getElem (by omega), hck]) (by omega)
    have hnew : cur.set k { ts[k] with fr := ts[k].fr + dd } = (ts.take (k + 1)).map (late dd) ++ ts.drop (k + 1) := by
      rw [hcur, List.take_succ_eq_append_getElem hk', List.drop_eq_getElem_cons hk', List.map_append, List.append_assoc, List.set_append_right _ _ (by simp; omega)]
      congr 1
      have : k - ((ts.take k).map (late dd)).length = 0 := by simp; omega
      rw [this]; rfl
    rw [hnew] at e5
    have e := ih (k + 1) (by omega) (by omega)
    rw [cast1] at e
    obtain ⟨t, htt⟩ : ∃ t, t = ts[k] := ⟨_, rfl⟩
    rw [← htt] at e4 e5 ht
    simp only [trk] at e4
    obtain ⟨t1, t2⟩ := ht
    rw [← hcur, w_loop]
    simp (maxSteps := 1000000) (disch := omega) only [go_sem, ↓reduceIte, Nat.reduceEqDiff, Nat.reduceAdd, Nat.reduceSub, Nat.reduceMul, Nat.reduceLT, Nat.reduceLeDiff, reduceCtorEq, Nat.succ_ne_self, ne_eq, not_true_eq_false, not_false_eq_true, and_self, and_true, true_and, Nat.zero_add, Nat.sub_zero, Nat.zero_mul, Nat.one_mul, Nat.le_refl, List.getElem?_cons_zero, List.set_cons_zero, Int.reduceToNat, Int.reduceLT, Int.reduceLE, Int.reduceAdd, Int.reduceSub, Int.reduceMul, Int.reduceEq, Int.reduceNe, Int.toNat_natCast, Int.natCast_zero, wrap_id, wrapu_id, wrapb_id, idx_ok, bin_quo, bin_rem, tdiv_id, tmod_id, ps_bptr, lenv_sl l1, c1, e3, e4, e5, e]
end Go.VI.Mix
namespace Go.VI.Mix
set_option linter.unusedVariables false
set_option linter.unusedSimpArgs false

theorem law4_loop2 {h fr : Heap} {A B C : List Int} (hA : A.length ≤ 1000) (hB : B.length ≤ 1000) (hC : C.length ≤ 1000) (bB : bnd' 900000000000 B) (bC : bnd' 900000000000 C) (hp : ∀ i, A.getD i 0 = B.getD i 0 + C.getD i 0) (lt : Int) (lv : AV) (ns lo : Nat) (d : Nat) :
    ∀ k : Nat, d = A.length - k → k ≤ A.length →
    runC lib ⟨lo, h.length, ns, none⟩ (.loop b4_2) ([(4, .int .i64 lt), (11, .bool true), (12, lv), (14, lstV 1 (ints A)), (16, lstV 1 (ints B)), (18, lstV 1 (ints C)), (22, .int .i64 k)], h ++ fr) = some (.exit 0, ([(4, .int .i64 lt), (11, .bool true), (12, lv), (14, lstV 1 (ints A))], h ++ fr)) := by
  have hv := Sl.lstV (h ++ fr) 1 (ints A)
  have l1 := lenv_sl hv.len
  rw [ints_len] at l1
  induction d with
  | zero =>
    intro k hd hk
    have c1 : ¬ (k : Int) < A.length := by omega
    rw [w_loop]
    simp (maxSteps := 1000000) (disch := omega) only [go_sem, ↓reduceIte, Nat.reduceEqDiff, Nat.reduceAdd, Nat.reduceSub, Nat.reduceMul, Nat.reduceLT, Nat.reduceLeDiff, reduceCtorEq, Nat.succ_ne_self, ne_eq, not_true_eq_false, not_false_eq_true, and_self, and_true, true_and, Nat.zero_add, Nat.sub_zero, Nat.zero_mul, Nat.one_mul, Nat.le_refl, List.getElem?_cons_zero, List.set_cons_zero, Int.reduceToNat, Int.reduceLT, Int.reduceLE, Int.reduceAdd, Int.reduceSub, Int.reduceMul, Int.reduceEq, Int.reduceNe, Int.toNat_natCast, Int.natCast_zero, wrap_id, wrapu_id, wrapb_id, idx_ok, bin_quo, bin_rem, tdiv_id, tmod_id, ps_bptr, l1, c1]
  | succ d ih =>
    intro k hd hk
    have hk' : k < A.length := by omega
    have c1 : (k : Int) < A.length := by omega
    have e3 : sidx 1 (lstV 1 (ints A)) (.int .i64 k) = some k := by rw [sidx_sl hv (by omega) (by simp; omega)]; simp
    have e4 := fun off => pc_iptr (off := off) hv.elems0 (show k < (ints A).length by simp; omega)
    simp only [ints_get] at e4
    have a1 := fun lo => at_run (Sl.lstV (h ++ fr) 1 (ints B)) (by omega) k lo
    have a2 := fun lo => at_run (Sl.lstV (h ++ fr) 1 (ints C)) (by omega) k lo
    have g0 : ∀ l : List Int, atS l k = l.getD k 0 := by intro l; unfold atS; rw [if_pos (by omega)]; simp
    rw [g0] at a1 a2
    have hb := bnd'_getD bB (by omega) k
    have hc := bnd'_getD bC (by omega) k
    have hx := hp k
    have hAk : A.getD k 0 = A[k] := by rw [List.getD_eq_getElem?_getD, List.getElem?_eq_getElem hk']; rfl
    rw [hAk] at hx
    have e := ih (k + 1) (by omega) (by omega)
    rw [cast1] at e
    rw [hx] at e4
    clear ih hp bB bC
    rw [w_loop]
    simp (maxSteps := 1000000) (disch := omega) only [go_sem, ↓reduceIte, Nat.reduceEqDiff, Nat.reduceAdd, Nat.reduceSub, Nat.reduceMul, Nat.reduceLT, Nat.reduceLeDiff, reduceCtorEq, Nat.succ_ne_self, ne_eq, not_true_eq_false, not_false_eq_true, and_self, and_true, true_and, Nat.zero_add, Nat.sub_zero, Nat.zero_mul, Nat.one_mul, Nat.le_refl, List.getElem?_cons_zero, List.set_cons_zero, Int.reduceToNat, Int.reduceLT, Int.reduceLE, Int.reduceAdd, Int.reduceSub, Int.reduceMul, Int.reduceEq, Int.reduceNe, Int.toNat_natCast, Int.natCast_zero, wrap_id, wrapu_id, wrapb_id, idx_ok, bin_quo, bin_rem, tdiv_id, tmod_id, ps_bptr, l1, c1, e3, e4, a1, a2, e]
theorem law4_loop0 {h fr : Heap} {A M : List Int} (hA : A.length ≤ 1000) (hM : M.length ≤ 1000) (dd : Nat) (hd : dd ≤ 1000) (hp : ∀ i, M.getD i 0 = if dd ≤ i then A.getD (i - dd) 0 else 0) (ns lo : Nat) (d : Nat) :
    ∀ k : Nat, d = M.length - k → k ≤ M.length →
    runC lib ⟨lo, h.length, ns, none⟩ (.loop b4_0) ([(11, .bool true), (14, lstV 1 (ints A)), (23, .int .i64 dd), (25, lstV 1 (ints M)), (27, .int .i64 k)], h ++ fr) = some (.exit 4, ([(11, .bool true)], h ++ fr)) := by
  have hv := Sl.lstV (h ++ fr) 1 (ints M)
  have l1 := lenv_sl hv.len
  rw [ints_len] at l1
  induction d with
  | zero =>
    intro k hd hk
    have c1 : ¬ (k : Int) < M.length := by omega
    rw [w_loop]
    simp (maxSteps := 1000000) (disch := omega) only [go_sem, ↓reduceIte, Nat.reduceEqDiff, Nat.reduceAdd, Nat.reduceSub, Nat.reduceMul, Nat.reduceLT, Nat.reduceLeDiff, reduceCtorEq, Nat.succ_ne_self, ne_eq, not_true_eq_false, not_false_eq_true, and_self, and_true, true_and, Nat.zero_add, Nat.sub_zero, Nat.zero_mul, Nat.one_mul, Nat.le_refl, List.getElem?_cons_zero, List.set_cons_zero, Int.reduceToNat, Int.reduceLT, Int.reduceLE, Int.reduceAdd, Int.reduceSub, Int.reduceMul, Int.reduceEq, Int.reduceNe, Int.toNat_natCast, Int.natCast_zero, wrap_id, wrapu_id, wrapb_id, idx_ok, bin_quo, bin_rem, tdiv_id, tmod_id, ps_bptr, l1, c1]
  | succ d ih =>
    intro k hd hk
    have hk' : k < M.length := by omega
    have c1 : (k : Int) < M.length := by omega
    have e3 : sidx 1 (lstV 1 (ints M)) (.int .i64 k) = some k := by rw [sidx_sl hv (by omega) (by simp; omega)]; simp
    have e4 := fun off => pc_iptr (off := off) hv.elems0 (show k < (ints M).length by simp; omega)
    simp only [ints_get] at e4
    have a1 := fun lo => at_run (Sl.lstV (h ++ fr) 1 (ints A)) (by omega) (k - dd) lo
    have hx := hp k
    have hMk : M.getD k 0 = M[k] := by rw [List.getD_eq_getElem?_getD, List.getElem?_eq_getElem hk']; rfl
    have g0 : atS A ((k : Int) - dd) = M[k] := by
      rw [← hMk, hx]
      unfold atS
      by_cases hq : dd ≤ k
      · rw [if_pos (by omega), if_pos hq]; congr 1; omega
      · rw [if_neg (by omega), if_neg hq]
    rw [g0] at a1
    have e := ih (k + 1) (by omega) (by omega)
    rw [cast1] at e
    clear ih hp
    rw [w_loop]
    simp (maxSteps := 1000000) (disch := omega) only [go_sem, ↓reduceIte, Nat.reduceEqDiff, Nat.reduceAdd, Nat.reduceSub, Nat.reduceMul, Nat.reduceLT, Nat.reduceLeDiff, reduceCtorEq, Nat.succ_ne_self, ne_eq, not_true_eq_false, not_false_eq_true, and_self, and_true, true_and, Nat.zero_add, Nat.sub_zero, Nat.zero_mul, Nat.one_mul, Nat.le_refl, List.getElem?_cons_zero, List.set_cons_zero, Int.reduceToNat, Int.reduceLT, Int.reduceLE, Int.reduceAdd, Int.reduceSub, Int.reduceMul, Int.reduceEq, Int.reduceNe, Int.toNat_natCast, Int.natCast_zero, wrap_id, wrapu_id, wrapb_id, idx_ok, bin_quo, bin_rem, tdiv_id, tmod_id, ps_bptr, l1, c1, e3, e4, a1, e]

theorem exact_lst {h : Heap} {l : List Trk} {v : AV} (hv : Sl h 3 v (trks l)) (hl : l.length ≤ 8) (ht : ∀ t ∈ l, vT t = true ∧ okT t) (lo : Nat) : (run lib).fn 18 [v] h lo = some (.tuple [ownV 1 (ints (exactL l)), .int .i64 0], h) := by
  have := exact_run hv (by omega) (fun t h => (ht t h).2) lo
  rwa [if_pos (validB_of (fun t h => (ht t h).1) hl)] at this
theorem exactL_bd9 {l : List Trk} (hl : l.length ≤ 8) (ht : ∀ t ∈ l, vT t = true) : bnd' 900000000000 (exactL l) ∧ (exactL l).length ≤ 600 := by
  obtain ⟨b1, b2⟩ := exactL_bd (l := l) (n := 0) (o := []) ht (by intro x hx; simp at hx) (by simp)
  exact ⟨fun x hx => by have := b1 x hx; omega, b2⟩
theorem late_ok {t : Trk} {d : Nat} (hd : d < 200) (h1 : vT t = true) (h2 : t.fr < 60) (h3 : okT t) (h4 : t.sm.length ≤ 40) : vT (late d t) = true ∧ okT (late d t) := by
  unfold vT at h1 ⊢
  simp only [Bool.and_eq_true, decide_eq_true_eq] at h1 ⊢
  obtain ⟨a, b, c⟩ := h1
  refine ⟨⟨a, ?_, ?_⟩, ⟨⟨h3.z.s, h3.z.g⟩, ⟨?_, ?_⟩, h3.s, h3.g⟩⟩
  · show 0 ≤ t.fr + d; omega
  · show t.fr + d ≤ 600 - t.sm.length; omega
  · show _ ≤ t.fr + d; omega
  · show t.fr + d ≤ _; omega

set_option maxHeartbeats 8000000 in
theorem law4 {h : Heap} {v u t : AV} {a : List Int} {x y : List (Int × Int)} (hv : Sl h 1 v (ints a)) (hu : Sl h 2 u (pts x)) (ht : Sl h 2 t (pts y)) (hl : a.length ≤ 9223372036854775807) (hx : x.length ≤ 9223372036854775807) (hy : y.length ≤ 9223372036854775807)
    (hai : ∀ n ∈ a, okI n) (hxi : ∀ p ∈ x, okI p.1 ∧ okI p.2) (hyi : ∀ p ∈ y, okI p.1 ∧ okI p.2) (fi la : Int) (hfi : okI fi) (hla : okI la)
    (hs : (run lib).fn 11 [] (h ++ [(0, .dead), (0, .dead), (0, .dead)]) h.length = some (.bool true, h ++ [(0, .dead), (0, .dead), (0, .dead)])) (lo : Nat) : (run lib).fn 4 [v, u, t, .int .i64 fi, .int .i64 la] h lo = some (.bool true, h) := by
  obtain ⟨m1, m2⟩ := madeS_bd a
  obtain ⟨t1, t2⟩ := tracksS_vT (x := x) (y := y) m1 m2
  obtain ⟨ts, hts⟩ : ∃ ts, ts = tracksS (madeS a) x y := ⟨_, rfl⟩
  have fr0 : Heap := [(0, .dead), (0, .dead), (0, .dead)]
  have e1 := fun fr => made_run (hv.app fr) hl hai h.length
  have e2 := fun fr => tracks_run (Sl.lstV (h ++ fr) 1 (ints (madeS a))) (hu.app fr) (ht.app fr) (by omega) hx hy hxi hyi h.length
  rw [← hts] at t1 t2 e2
  have tv : ∀ t ∈ ts, vT t = true ∧ okT t := fun t h => ⟨(t1 t h).1, (t1 t h).2.2.1⟩
  obtain ⟨k, hk⟩ : ∃ k : Nat, (k : Int) = pickS fi (ts.length + 1) := ⟨(pickS fi (ts.length + 1)).toNat, by have := pickS_bd (c := fi) (n := ts.length + 1) (by omega); omega⟩
  have hkl : k ≤ ts.length := by have := pickS_bd (c := fi) (n := ts.length + 1) (by omega); omega
  obtain ⟨d, hd⟩ : ∃ d : Nat, (d : Int) = pickS la 200 := ⟨(pickS la 200).toNat, by have := pickS_bd (c := la) (n := 200) (by omega); omega⟩
  have hdl : d < 200 := by have := pickS_bd (c := la) (n := 200) (by omega); omega
  have p1 := fun hp lo => pick13 fi (ts.length + 1) hp lo hfi.1 hfi.2 (by omega)
  have p2 := fun hp lo => pick13 la 200 hp lo hla.1 hla.2 (by omega)
  rw [← hk] at p1
  rw [← hd] at p2
  obtain ⟨A, hA⟩ : ∃ A, A = exactL ts := ⟨_, rfl⟩
  obtain ⟨B, hB⟩ : ∃ B, B = exactL (ts.take k) := ⟨_, rfl⟩
  obtain ⟨C, hC⟩ : ∃ C, C = exactL (ts.drop k) := ⟨_, rfl⟩
  obtain ⟨M, hM⟩ : ∃ M, M = exactL (ts.map (late d)) := ⟨_, rfl⟩
  have tl : ∀ t ∈ ts.map (late d), vT t = true ∧ okT t := by
    intro t ht
    obtain ⟨q, hq, rfl⟩ := List.mem_map.mp ht
    obtain ⟨q1, q2, q3, q4⟩ := t1 q hq
    exact late_ok hdl q1 q2 q3 q4
  have bA := exactL_bd9 (l := ts) (by omega) (fun t h => (tv t h).1)
  have bB := exactL_bd9 (l := ts.take k) (by simp; omega) (fun t h => (tv t (List.mem_of_mem_take h)).1)
  have bC := exactL_bd9 (l := ts.drop k) (by simp; omega) (fun t h => (tv t (List.mem_of_mem_drop h)).1)
  have bM := exactL_bd9 (l := ts.map (late d)) (by simp; omega) (fun t h => (tl t h).1)
  have hAB : ∀ i, A.getD i 0 = B.getD i 0 + C.getD i 0 := by
    intro i
    rw [hA, hB, hC, exactL_getD, exactL_getD, exactL_getD, ← sumC_app, List.take_append_drop]
  have hAl : A.length = max B.length C.length := by
    rw [hA, hB, hC, exactL_len, exactL_len, exactL_len, ← maxE_app, List.take_append_drop]
  have hAT : exactL (ts.drop k ++ ts.take k) = A := by rw [hA, exactL_comm, List.take_append_drop]
  have hpos : ∀ t ∈ ts, 0 ≤ t.fr ∧ t.fr ≤ 1000 := fun t h => by
    have := (t1 t h).2.1
    have := (vT_of (t1 t h).1).2.2.2.2.1
    omega
  have hMA : ∀ i, M.getD i 0 = if d ≤ i then A.getD (i - d) 0 else 0 := by
    intro i
    rw [hM, hA, exactL_getD, sumC_late d i (fun t h => (hpos t h).1), exactL_getD]
  have hMl : M.length = if A.length = 0 then 0 else A.length + d := by
    rw [hM, hA, exactL_len, exactL_len, maxE_late d (fun t h => (hpos t h).1)]
  rw [← hA] at bA; rw [← hB] at bB; rw [← hC] at bC; rw [← hM] at bM
  have c1 : (A.length : Int) = max (B.length : Int) (C.length : Int) := by omega
  have lA := fun hp => (Sl.lstV hp 1 (ints A)).len
  have lB := fun hp => (Sl.lstV hp 1 (ints B)).len
  have lC := fun hp => (Sl.lstV hp 1 (ints C)).len
  have lM := fun hp => (Sl.lstV hp 1 (ints M)).len
  simp only [ints_len] at lA lB lC lM
  have iA := fun hp lo => Ints_run (Sl.lstV hp 1 (ints A)) (Sl.lstV hp 1 (ints A)) (by omega) lo
  have L2 := fun fr lv => law4_loop2 (h := h) (fr := fr) (by omega) (by omega) (by omega) bB.1 bC.1 hAB la lv 3 h.length _ 0 rfl (by omega)
  have L0 := fun fr => law4_loop0 (h := h) (fr := fr) (by omega) (by omega) d (by omega) hMA 3 h.length _ 0 rfl (by omega)
  simp only [Int.natCast_zero] at L2 L0
  have w1 : (0 < (A.length : Int)) ∧ (M.length : Int) = A.length + d ∨ (A.length : Int) = 0 ∧ (M.length : Int) = 0 := by
    rw [hMl]; split <;> omega
  by_cases h0 : ts = []
  · subst h0
    have z1 : A = [] := hA
    have z2 : M = [] := hM
    have z3 : B = [] := by rw [hB]; simp [exactL]
    have z4 : C = [] := by rw [hC]; simp [exactL]
    subst z1 z2 z3 z4
    have x1 := fun hp lo => exact_lst (h := hp) (l := []) (Sl.lst0 hp 3 0) (by simp) (by simp) lo
    have x3 := fun hp lo => exact_lst (h := hp) (l := []) (Sl.lsf hp 3 []) (by simp) (by simp) lo
    have kz : k = 0 := by simpa using hkl
    subst kz
    have hE : exactL [] = [] := rfl
    have l0 : slen (.lst 0 []) = some 0 := rfl
    have sl1 : slicev (some 3) (.lst 0 []) none (some (.int .i64 0)) = some (.lst 3 []) := by simp [slicev, zok, bnd]
    have sl2 : slicev (some 3) (.lst 0 []) (some (.int .i64 0)) none = some (.lst 3 []) := by simp [slicev, zok, bnd]
    have x2 := fun hp lo => exact_lst (h := hp) (l := []) (Sl.lst hp 3 []) (by simp) (by simp) lo
    have hw : ∀ q, runC lib ⟨h.length, h.length, 3, none⟩ (.loop b4_1) ([(11, .bool true), (12, .lst 0 []), (14, q), (23, .int .i64 d), (24, .int .i64 0)], h ++ [(0, .dead), (0, .dead), (0, .dead)]) = some (.exit 2, ([(11, .bool true), (12, .lst 0 []), (14, q), (23, .int .i64 d)], h ++ [(0, .dead), (0, .dead), (0, .dead)])) := by
      intro q
      rw [w_loop]
      simp (maxSteps := 1000000) (disch := omega) only [go_sem, ↓reduceIte, Nat.reduceEqDiff, Nat.reduceAdd, Nat.reduceSub, Nat.reduceMul, Nat.reduceLT, Nat.reduceLeDiff, reduceCtorEq, Nat.succ_ne_self, ne_eq, not_true_eq_false, not_false_eq_true, and_self, and_true, true_and, Nat.zero_add, Nat.sub_zero, Nat.zero_mul, Nat.one_mul, Nat.le_refl, List.getElem?_cons_zero, List.set_cons_zero, Int.reduceToNat, Int.reduceLT, Int.reduceLE, Int.reduceAdd, Int.reduceSub, Int.reduceMul, Int.reduceEq, Int.reduceNe, Int.toNat_natCast, Int.natCast_zero, wrap_id, wrapu_id, wrapb_id, idx_ok, bin_quo, bin_rem, tdiv_id, tmod_id, ps_bptr, lenv_sl l0, Int.lt_irrefl]
    simp only [hE, trks, List.map_nil, ownV_nil] at e2 x1 x2 x3
    simp only [List.length_nil, Int.natCast_zero, Int.zero_add] at p1 lA L2 L0 iA
    rw [run_closed (x := x4) rfl rfl rfl rfl]
    simp (maxSteps := 1000000) (disch := omega) only [go_sem, ↓reduceIte, Nat.reduceEqDiff, Nat.reduceAdd, Nat.reduceSub, Nat.reduceMul, Nat.reduceLT, Nat.reduceLeDiff, reduceCtorEq, Nat.succ_ne_self, ne_eq, not_true_eq_false, not_false_eq_true, and_self, and_true, true_and, Nat.zero_add, Nat.sub_zero, Nat.zero_mul, Nat.one_mul, Nat.le_refl, List.getElem?_cons_zero, List.set_cons_zero, Int.reduceToNat, Int.reduceLT, Int.reduceLE, Int.reduceAdd, Int.reduceSub, Int.reduceMul, Int.reduceEq, Int.reduceNe, Int.toNat_natCast, Int.natCast_zero, wrap_id, wrapu_id, wrapb_id, idx_ok, bin_quo, bin_rem, tdiv_id, tmod_id, ps_bptr, x4, hs, e1, e2, take_none1, lenv_sl l0, p1, x1, sl1, sl2, x2, app_lsf_nil, x3, weak_ownV, weak1_ownV, lenv_sl (lA h), Int.max_self, iA, L2, p2, hw, L0, Int.lt_irrefl]
  · have hne : trks ts ≠ [] := by simpa [trks] using h0
    have t9 := fun fr b0 b1 => take_own (lo := h.length) (ns := 3) (s := 2) (z := 3) (h := h) (fr := [b0, b1, (0, .dead)]) (b0 := (0, .dead)) (es := trks ts) (by omega) rfl hne
    simp only [trks_len] at t9
    have l0 : slen (.ref (h.length + 2) (0 + 1) 3 0 ts.length ts.length) = some ts.length := rfl
    have sA := fun c0 c1 => Sl.refAll (h := h) (fr := [c0, c1, (0 + 1, .arr 3 (trks ts))]) (s := 2) (ver := 0 + 1) (z := 3) (es := trks ts) rfl
    have sB := fun c0 c1 => Sl.ref (h := h) (fr := [c0, c1, (0 + 1, .arr 3 (trks ts))]) (s := 2) (ver := 0 + 1) (z := 3) (off := 0 + 0) (len := k - 0) (fill := ts.length) (es := trks ts) rfl (by simp) (by omega)
    have sC := fun c0 c1 => Sl.ref (h := h) (fr := [c0, c1, (0 + 1, .arr 3 (trks ts))]) (s := 2) (ver := 0 + 1) (z := 3) (off := 0 + k) (len := ts.length - k) (fill := ts.length) (es := trks ts) rfl (by simp) (by omega)
    have tB : ((trks ts).drop (0 + 0)).take (k - 0) = trks (ts.take k) := by simp [trks]
    have tC : ((trks ts).drop (0 + k)).take (ts.length - k) = trks (ts.drop k) := by
      rw [Nat.zero_add, List.take_of_length_le (by simp)]; simp [trks]
    rw [tB] at sB; rw [tC] at sC
    rw [trks_len] at sA
    have xA := fun c0 c1 lo => exact_lst (sA c0 c1) (by omega) tv lo
    have xB := fun c0 c1 lo => exact_lst (sB c0 c1) (by simp; omega) (fun t h => tv t (List.mem_of_mem_take h)) lo
    have xC := fun c0 c1 lo => exact_lst (sC c0 c1) (by simp; omega) (fun t h => tv t (List.mem_of_mem_drop h)) lo
    rw [← hA] at xA; rw [← hB] at xB; rw [← hC] at xC
    have aB := fun c0 c1 => appSrc_sl (sB c0 c1)
    have aC := fun c0 c1 => appSrc_sl (sC c0 c1)
    have k1 : bnd (some (.int .i64 k)) ts.length 0 = some k := by rw [bnd_ok (by omega) (by omega)]; simp
    have k2 : bnd (some (.int .i64 k)) ts.length ts.length = some k := by rw [bnd_ok (by omega) (by omega)]; simp
    have LL := fun fr0 fr1 => late_loop (h := h) (fr0 := fr0) (fr1 := fr1) (ts := ts) (by omega) hpos d (by omega) (0 + 1) (lstV 1 (ints A)) _ 0 rfl (by omega)
    simp only [Int.natCast_zero, List.take_zero, List.map_nil, List.nil_append, List.drop_zero] at LL
    have sM := fun c0 c1 => Sl.refAll (h := h) (fr := [c0, c1, (0 + 1, .arr 3 (trks (ts.map (late d))))]) (s := 2) (ver := 0 + 1) (z := 3) (es := trks (ts.map (late d))) rfl
    simp only [trks_len, List.length_map] at sM
    have xM := fun c0 c1 lo => exact_lst (sM c0 c1) (by simp; omega) tl lo
    rw [← hM] at xM
    simp only [Nat.zero_add, Nat.sub_zero] at t9 xA xB xC aB aC LL xM l0
    by_cases hk0 : k = ts.length
    · have hdr : ts.drop k = [] := by rw [hk0]; simp
      have htk : ts.take k = ts := by rw [hk0]; simp
      have n1 := app_lsf_new (lo := h.length) (ns := 3) (s := 1) (z := 3) (lim := 2513169434916) (ver := 0) (h := h) (fr := [(0, .dead), (0, .dead), (1, .arr 3 (trks ts))]) (b := .dead) (xs := trks (ts.take k)) (by omega) rfl (by rw [htk]; exact hne) (by simp; omega)
      have sT := fun c0 c2 => Sl.refAll (h := h) (fr := [c0, (0 + 1, .arr 3 (trks (ts.take k))), c2]) (s := 1) (ver := 0 + 1) (z := 3) (es := trks (ts.take k)) rfl
      have xT := fun c0 c2 lo => exact_lst (sT c0 c2) (by simp; omega) (fun t h => tv t (List.mem_of_mem_take h)) lo
      rw [htk, ← hA] at xT
      rw [hdr] at aC
      have tn : trks ([] : List Trk) = [] := rfl
      rw [tn] at aC
      rw [htk] at n1
      rw [htk] at aB
      rw [run_closed (x := x4) rfl rfl rfl rfl]
      simp only [trks_len, Nat.zero_add] at xT n1
      rcases w1 with ⟨w2, w3⟩ | ⟨w2, w3⟩
      · have w4 : ¬ (A.length : Int) = 0 := by omega
        have c1' : ((A.length : Int) = max (B.length : Int) (C.length : Int)) = True := eq_true c1
        simp (maxSteps := 1000000) (disch := omega) only [go_sem, ↓reduceIte, Nat.reduceEqDiff, Nat.reduceAdd, Nat.reduceSub, Nat.reduceMul, Nat.reduceLT, Nat.reduceLeDiff, reduceCtorEq, Nat.succ_ne_self, ne_eq, not_true_eq_false, not_false_eq_true, and_self, and_true, true_and, Nat.zero_add, Nat.sub_zero, Nat.zero_mul, Nat.one_mul, Nat.le_refl, List.getElem?_cons_zero, List.set_cons_zero, Int.reduceToNat, Int.reduceLT, Int.reduceLE, Int.reduceAdd, Int.reduceSub, Int.reduceMul, Int.reduceEq, Int.reduceNe, Int.toNat_natCast, Int.natCast_zero, wrap_id, wrapu_id, wrapb_id, idx_ok, bin_quo, bin_rem, tdiv_id, tmod_id, ps_bptr, x4, hs, e1, e2, t9, lenv_sl l0, p1, xA, slicev_ref, k1, k2, xB, xC, aB, aC, app_lsf_nil, n1, xT, weak_ownV, weak1_ownV, lenv_sl (lA h), lenv_sl (lB h), lenv_sl (lC h), lenv_sl (lM h), c1', iA, L2, p2, LL, xM, w2, w3, w4, L0]
      · have c1'' : (0 : Int) = max (B.length : Int) (C.length : Int) ↔ True := by simp; omega
        simp (maxSteps := 1000000) (disch := omega) only [go_sem, ↓reduceIte, Nat.reduceEqDiff, Nat.reduceAdd, Nat.reduceSub, Nat.reduceMul, Nat.reduceLT, Nat.reduceLeDiff, reduceCtorEq, Nat.succ_ne_self, ne_eq, not_true_eq_false, not_false_eq_true, and_self, and_true, true_and, Nat.zero_add, Nat.sub_zero, Nat.zero_mul, Nat.one_mul, Nat.le_refl, List.getElem?_cons_zero, List.set_cons_zero, Int.reduceToNat, Int.reduceLT, Int.reduceLE, Int.reduceAdd, Int.reduceSub, Int.reduceMul, Int.reduceEq, Int.reduceNe, Int.toNat_natCast, Int.natCast_zero, wrap_id, wrapu_id, wrapb_id, idx_ok, bin_quo, bin_rem, tdiv_id, tmod_id, ps_bptr, x4, hs, e1, e2, t9, lenv_sl l0, p1, xA, slicev_ref, k1, k2, xB, xC, aB, aC, app_lsf_nil, n1, xT, weak_ownV, weak1_ownV, lenv_sl (lA h), lenv_sl (lB h), lenv_sl (lC h), lenv_sl (lM h), c1'', iA, L2, p2, LL, xM, w2, w3, L0]
    · have hdn : trks (ts.drop k) ≠ [] := by
        intro h
        have := congrArg List.length h
        simp at this
        omega
      have n1 := app_lsf_new (lo := h.length) (ns := 3) (s := 0) (z := 3) (lim := 2513169434916) (ver := 0) (h := h) (fr := [(0, .dead), (0, .dead), (1, .arr 3 (trks ts))]) (b := .dead) (xs := trks (ts.drop k)) (by omega) rfl hdn (by simp; omega)
      have n2 := app_ref (cx := ⟨h.length, h.length, 3, none⟩) (s := 1) (z := 3) (lim := 2513169434916) (id := h.length + 0) (ver := 1) (h := h ++ [(1, .arr 3 (trks (ts.drop k))), (0, .dead), (1, .arr 3 (trks ts))]) (es := trks (ts.drop k)) (xs := trks (ts.take k)) (by rw [get_fr]; rfl) (by simp only []; omega) (by simp; omega)
      rw [set_fr, ← trks_app] at n2
      have hlen : (trks (ts.drop k)).length + (trks (ts.take k)).length = (trks (ts.drop k ++ ts.take k)).length := by simp
      rw [hlen] at n2
      have sT := fun c0 c2 => Sl.refAll (h := h) (fr := [(0 + 1, .arr 3 (trks (ts.drop k ++ ts.take k))), c0, c2]) (s := 0) (ver := 0 + 1) (z := 3) (es := trks (ts.drop k ++ ts.take k)) rfl
      have xT := fun c0 c2 lo => exact_lst (sT c0 c2) (by simp; omega) (fun t h => (List.mem_append.mp h).elim (fun h => tv t (List.mem_of_mem_drop h)) (fun h => tv t (List.mem_of_mem_take h))) lo
      rw [hAT] at xT
      rw [run_closed (x := x4) rfl rfl rfl rfl]
      simp only [trks_len, Nat.zero_add, List.set_cons_zero] at xT n1 n2
      rcases w1 with ⟨w2, w3⟩ | ⟨w2, w3⟩
      · have w4 : ¬ (A.length : Int) = 0 := by omega
        have c1' : ((A.length : Int) = max (B.length : Int) (C.length : Int)) = True := eq_true c1
        simp (maxSteps := 1000000) (disch := omega) only [go_sem, ↓reduceIte, Nat.reduceEqDiff, Nat.reduceAdd, Nat.reduceSub, Nat.reduceMul, Nat.reduceLT, Nat.reduceLeDiff, reduceCtorEq, Nat.succ_ne_self, ne_eq, not_true_eq_false, not_false_eq_true, and_self, and_true, true_and, Nat.zero_add, Nat.sub_zero, Nat.zero_mul, Nat.one_mul, Nat.le_refl, List.getElem?_cons_zero, List.set_cons_zero, Int.reduceToNat, Int.reduceLT, Int.reduceLE, Int.reduceAdd, Int.reduceSub, Int.reduceMul, Int.reduceEq, Int.reduceNe, Int.toNat_natCast, Int.natCast_zero, wrap_id, wrapu_id, wrapb_id, idx_ok, bin_quo, bin_rem, tdiv_id, tmod_id, ps_bptr, x4, hs, e1, e2, t9, lenv_sl l0, p1, xA, slicev_ref, k1, k2, xB, xC, aB, aC, n1, n2, xT, weak_ownV, weak1_ownV, lenv_sl (lA h), lenv_sl (lB h), lenv_sl (lC h), lenv_sl (lM h), c1', iA, L2, p2, LL, xM, w2, w3, w4, L0]
      · have c1'' : (0 : Int) = max (B.length : Int) (C.length : Int) ↔ True := by simp; omega
        simp (maxSteps := 1000000) (disch := omega) only [go_sem, ↓reduceIte, Nat.reduceEqDiff, Nat.reduceAdd, Nat.reduceSub, Nat.reduceMul, Nat.reduceLT, Nat.reduceLeDiff, reduceCtorEq, Nat.succ_ne_self, ne_eq, not_true_eq_false, not_false_eq_true, and_self, and_true, true_and, Nat.zero_add, Nat.sub_zero, Nat.zero_mul, Nat.one_mul, Nat.le_refl, List.getElem?_cons_zero, List.set_cons_zero, Int.reduceToNat, Int.reduceLT, Int.reduceLE, Int.reduceAdd, Int.reduceSub, Int.reduceMul, Int.reduceEq, Int.reduceNe, Int.toNat_natCast, Int.natCast_zero, wrap_id, wrapu_id, wrapb_id, idx_ok, bin_quo, bin_rem, tdiv_id, tmod_id, ps_bptr, x4, hs, e1, e2, t9, lenv_sl l0, p1, xA, slicev_ref, k1, k2, xB, xC, aB, aC, n1, n2, xT, weak_ownV, weak1_ownV, lenv_sl (lA h), lenv_sl (lB h), lenv_sl (lC h), lenv_sl (lM h), c1'', iA, L2, p2, LL, xM, w2, w3, L0]
end Go.VI.Mix
