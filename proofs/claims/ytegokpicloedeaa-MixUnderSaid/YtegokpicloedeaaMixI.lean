import Derived.Test.YtegokpicloedeaaMixH
namespace Go.VI.Mix
set_option linter.unusedVariables false
set_option linter.unusedSimpArgs false

def contrib (t : Trk) (i : Nat) : Int := if t.fr.toNat ≤ i ∧ i < t.fr.toNat + t.sm.length then t.sm.getD (i - t.fr.toNat) 0 * gainS t.gn ((i - t.fr.toNat : Nat) : Int) else 0
def endT (t : Trk) : Nat := if t.sm.length = 0 then 0 else t.fr.toNat + t.sm.length
def sumC : List Trk → Nat → Int
  | [], _ => 0
  | t :: l, i => contrib t i + sumC l i
def maxE : List Trk → Nat
  | [] => 0
  | t :: l => max (endT t) (maxE l)
theorem step_fold (t : Trk) (o : List Int) : ∀ k, k ≤ t.sm.length → (∀ i, ((List.range k).foldl (step1 t) o).getD i 0 = o.getD i 0 + if t.fr.toNat ≤ i ∧ i < t.fr.toNat + k then t.sm.getD (i - t.fr.toNat) 0 * gainS t.gn ((i - t.fr.toNat : Nat) : Int) else 0) ∧
    ((List.range k).foldl (step1 t) o).length = max o.length (if k = 0 then 0 else t.fr.toNat + k)
  | 0, _ => by
    refine ⟨fun i => ?_, by simp⟩
    rw [if_neg (by omega)]; simp
  | k + 1, hk => by
    obtain ⟨h1, h2⟩ := step_fold t o k (by omega)
    refine ⟨fun i => ?_, ?_⟩
    · rw [foldl_range_succ, step1, addAt_getD, h1]
      by_cases hi : i = t.fr.toNat + k
      · subst hi
        rw [if_neg (by omega), if_pos rfl, if_pos (by omega), Nat.add_sub_cancel_left]; omega
      · rw [if_neg hi]
        by_cases h3 : t.fr.toNat ≤ i ∧ i < t.fr.toNat + k
        · rw [if_pos h3, if_pos (by omega)]; omega
        · rw [if_neg h3, if_neg (by omega)]; omega
    · rw [foldl_range_succ, step1, addAt_len, h2, if_neg (show ¬ k + 1 = 0 by omega)]
      split <;> omega
theorem addT_getD (o : List Int) (t : Trk) (i : Nat) : (addT o t).getD i 0 = o.getD i 0 + contrib t i := (step_fold t o _ (Nat.le_refl _)).1 i
theorem addT_len (o : List Int) (t : Trk) : (addT o t).length = max o.length (endT t) := (step_fold t o _ (Nat.le_refl _)).2
theorem fold_getD : ∀ (l : List Trk) (o : List Int) (i : Nat), (l.foldl addT o).getD i 0 = o.getD i 0 + sumC l i
  | [], o, i => by simp [sumC]
  | t :: l, o, i => by rw [List.foldl_cons, fold_getD l, addT_getD, sumC]; omega
theorem fold_len : ∀ (l : List Trk) (o : List Int), (l.foldl addT o).length = max o.length (maxE l)
  | [], o => by simp [maxE]
  | t :: l, o => by rw [List.foldl_cons, fold_len l, addT_len, maxE]; omega
theorem exactL_getD (l : List Trk) (i : Nat) : (exactL l).getD i 0 = sumC l i := by unfold exactL; rw [fold_getD]; simp
theorem exactL_len (l : List Trk) : (exactL l).length = maxE l := by unfold exactL; rw [fold_len]; simp
theorem ext_getD {a b : List Int} (h1 : a.length = b.length) (h2 : ∀ i, a.getD i 0 = b.getD i 0) : a = b := by
  refine List.ext_getElem h1 fun i hi hj => ?_
  have := h2 i
  simpa [List.getD_eq_getElem?_getD, hi, hj] using this
theorem sumC_app : ∀ (a b : List Trk) (i : Nat), sumC (a ++ b) i = sumC a i + sumC b i
  | [], b, i => by simp [sumC]
  | t :: a, b, i => by rw [List.cons_append, sumC, sumC, sumC_app a]; omega
theorem maxE_app : ∀ (a b : List Trk), maxE (a ++ b) = max (maxE a) (maxE b)
  | [], b => by simp [maxE]
  | t :: a, b => by rw [List.cons_append, maxE, maxE, maxE_app a]; omega
theorem exactL_comm (a b : List Trk) : exactL (a ++ b) = exactL (b ++ a) := by
  refine ext_getD ?_ fun i => ?_
  · rw [exactL_len, exactL_len, maxE_app, maxE_app]; omega
  · rw [exactL_getD, exactL_getD, sumC_app, sumC_app]; omega
def late (d : Nat) (t : Trk) : Trk := { t with fr := t.fr + d }
theorem ite_late {f d i n : Nat} {a b : Int} (hab : d ≤ i → a = b) : (if f + d ≤ i ∧ i < f + d + n then a else 0) = if d ≤ i then (if f ≤ i - d ∧ i - d < f + n then b else 0) else 0 := by
  by_cases h1 : d ≤ i
  · rw [if_pos h1, hab h1]
    split <;> split <;> first | rfl | (exfalso; omega)
  · rw [if_neg h1, if_neg (by omega)]
theorem contrib_eq (t : Trk) (f : Nat) (hf : t.fr.toNat = f) (i : Nat) : contrib t i = if f ≤ i ∧ i < f + t.sm.length then t.sm.getD (i - f) 0 * gainS t.gn ((i - f : Nat) : Int) else 0 := by subst hf; rfl
theorem contrib_late {t : Trk} (h : 0 ≤ t.fr) (d i : Nat) : contrib (late d t) i = if d ≤ i then contrib t (i - d) else 0 := by
  have e : (late d t).fr.toNat = t.fr.toNat + d := by simp [late]; omega
  rw [contrib_eq _ _ e, contrib_eq t _ rfl]
  exact ite_late fun h1 => by
    have : i - (t.fr.toNat + d) = i - d - t.fr.toNat := by omega
    rw [this]; rfl
theorem sumC_late : ∀ {l : List Trk} (d i : Nat), (∀ t ∈ l, 0 ≤ t.fr) → sumC (l.map (late d)) i = if d ≤ i then sumC l (i - d) else 0
  | [], d, i, _ => by simp [sumC]
  | t :: l, d, i, h => by
    rw [List.map_cons, sumC, contrib_late (h t (by simp)), sumC_late d i (fun t ht => h t (by simp [ht])), sumC]
    split <;> rfl
theorem endT_late {t : Trk} (h : 0 ≤ t.fr) (d : Nat) : endT (late d t) = if endT t = 0 then 0 else endT t + d := by
  have e : (late d t).fr.toNat = t.fr.toNat + d := by simp [late]; omega
  unfold endT
  rw [e]
  simp only [late]
  by_cases h1 : t.sm.length = 0
  · simp [h1]
  · simp only [h1, if_false]
    split <;> omega
theorem maxE_late : ∀ {l : List Trk} (d : Nat), (∀ t ∈ l, 0 ≤ t.fr) → maxE (l.map (late d)) = if maxE l = 0 then 0 else maxE l + d
  | [], d, _ => by simp [maxE]
  | t :: l, d, h => by
    rw [List.map_cons, maxE, endT_late (h t (by simp)), maxE_late d (fun t ht => h t (by simp [ht])), maxE]
    (repeat' split) <;> omega

theorem ps_iptr_trk {lo ns : Nat} {h fr : Heap} {s ver n i : Nat} {l : List Trk} {t : Trk} {f : Int} (hid : fr[s]? = some (ver, .arr 3 (trks l))) (hl : l.length = n) (hi : i < n) (ht : l[i]? = some t) (hlo : lo ≤ h.length) :
    pstore ⟨lo, h.length, ns, none⟩ (h ++ fr) 1 (.iptr (.ref (h.length + s) ver 3 0 n n) i 0) (.int .i64 f) = some (h ++ fr.set s (ver, .arr 3 (trks (l.set i { t with fr := f })))) := by
  have hle : lo ≤ h.length + s := by omega
  have e : (trks l)[i]? = some (.agg [.int .i64 t.fr, .lst t.zs (ints t.sm), .lst t.zg (pts t.gn)]) := by simp [trks, ht, trk]
  have e2 : trks (l.set i { t with fr := f }) = (trks l).set i (.agg [.int .i64 f, .lst t.zs (ints t.sm), .lst t.zg (pts t.gn)]) := by simp [trks, List.map_set, trk]
  simp only [pstore, frz, AV.cells, AV.val, get_fr, hid, trks_len, hl, hi, hle, and_self, if_true, Option.bind_some, Nat.zero_add, e, splice, List.length_cons, List.length_nil, List.take_zero, List.nil_append, List.drop_succ_cons, List.drop_zero, List.cons_append, set_fr, e2, Option.map_some]
  simp

theorem late_loop {h : Heap} {fr0 fr1 : Nat × Blk} {ts : List Trk} (hn : ts.length ≤ 8) (hf : ∀ t ∈ ts, 0 ≤ t.fr ∧ t.fr ≤ 1000) (dd : Nat) (hd : dd ≤ 1000) (ver : Nat) (av : AV) (d : Nat) :
    ∀ k : Nat, d = ts.length - k → k ≤ ts.length →
    runC lib ⟨h.length, h.length, 3, none⟩ (.loop b4_1) ([(11, .bool true), (12, .ref (h.length + 2) ver 3 0 ts.length ts.length), (14, av), (23, .int .i64 dd), (24, .int .i64 k)], h ++ [fr0, fr1, (ver, .arr 3 (trks ((ts.take k).map (late dd) ++ ts.drop k)))]) =
      some (.exit 2, ([(11, .bool true), (12, .ref (h.length + 2) ver 3 0 ts.length ts.length), (14, av), (23, .int .i64 dd)], h ++ [fr0, fr1, (ver, .arr 3 (trks (ts.map (late dd))))])) := by
  induction d with
  | zero =>
    intro k hd' hk
    have : k = ts.length := by omega
    subst this
    rw [List.take_length, List.drop_length, List.append_nil, w_loop]
    have l1 : slen (.ref (h.length + 2) ver 3 0 ts.length ts.length) = some ts.length := rfl
    simp (maxSteps := 1000000) (disch := omega) only [go_sem, ↓reduceIte, Nat.reduceEqDiff, Nat.reduceAdd, Nat.reduceSub, Nat.reduceMul, Nat.reduceLT, Nat.reduceLeDiff, reduceCtorEq, Nat.succ_ne_self, ne_eq, not_true_eq_false, not_false_eq_true, and_self, and_true, true_and, Nat.zero_add, Nat.sub_zero, Nat.zero_mul, Nat.one_mul, Nat.le_refl, List.getElem?_cons_zero, List.set_cons_zero, Int.reduceToNat, Int.reduceLT, Int.reduceLE, Int.reduceAdd, Int.reduceSub, Int.reduceMul, Int.reduceEq, Int.reduceNe, Int.toNat_natCast, Int.natCast_zero, wrap_id, wrapu_id, wrapb_id, idx_ok, bin_quo, bin_rem, tdiv_id, tmod_id, ps_bptr, lenv_sl l1, Int.lt_irrefl]
  | succ d ih =>
    intro k hd' hk
    have hk' : k < ts.length := by omega
    have c1 : (k : Int) < ts.length := by omega
    have l1 : slen (.ref (h.length + 2) ver 3 0 ts.length ts.length) = some ts.length := rfl
    obtain ⟨cur, hcur⟩ : ∃ cur, cur = (ts.take k).map (late dd) ++ ts.drop k := ⟨_, rfl⟩
    have hcl : cur.length = ts.length := by rw [hcur]; simp; omega
    have hck : cur[k]'(by omega) = ts[k] := by
      simp only [hcur]
      rw [List.getElem_append_right (by simp; omega)]
      simp
      congr 1; omega
    have hv := Sl.refAll (h := h) (fr := [fr0, fr1, (ver, .arr 3 (trks cur))]) (s := 2) (ver := ver) (z := 3) (es := trks cur) rfl
    rw [trks_len, hcl] at hv
    have e3 : sidx 3 (.ref (h.length + 2) ver 3 0 ts.length ts.length) (.int .i64 k) = some k := by rw [sidx_sl hv (by omega) (by simp; omega)]; simp
    have e4 := fun off => pc_iptr (off := off) hv.elems0 (show k < (trks cur).length by simp; omega)
    simp only [trks_get, hck] at e4
    have ht := hf _ (List.getElem_mem hk')
    have e5 := ps_iptr_trk (lo := h.length) (ns := 3) (h := h) (fr := [fr0, fr1, (ver, .arr 3 (trks cur))]) (s := 2) (ver := ver) (n := ts.length) (i := k) (l := cur) (t := ts[k]) (f := ts[k].fr + dd) rfl hcl hk' (by rw [List.getElem?_eq_getElem (by omega), hck]) (by omega)
    have hnew : cur.set k { ts[k] with fr := ts[k].fr + dd } = (ts.take (k + 1)).map (late dd) ++ ts.drop (k + 1) := by
      rw [hcur, List.take_succ_eq_append_getElem hk', List.drop_eq_getElem_cons hk', List.map_append, List.append_assoc, List.set_append_right _ _ (by simp; omega)]
      congr 1
      have : k - ((ts.take k).map (late dd)).length = 0 := by simp; omega
      rw [this]; rfl
    rw [hnew] at e5
    have e := ih (k + 1) (by omega) (by omega)
    rw [cast1] at e
    obtain ⟨t, htt⟩ : ∃ t, t = ts[k] := ⟨_, rfl⟩
    rw [← htt] at e4 e5 ht
    simp only [trk] at e4
    obtain ⟨t1, t2⟩ := ht
    rw [← hcur, w_loop]
    simp (maxSteps := 1000000) (disch := omega) only [go_sem, ↓reduceIte, Nat.reduceEqDiff, Nat.reduceAdd, Nat.reduceSub, Nat.reduceMul, Nat.reduceLT, Nat.reduceLeDiff, reduceCtorEq, Nat.succ_ne_self, ne_eq, not_true_eq_false, not_false_eq_true, and_self, and_true, true_and, Nat.zero_add, Nat.sub_zero, Nat.zero_mul, Nat.one_mul, Nat.le_refl, List.getElem?_cons_zero, List.set_cons_zero, Int.reduceToNat, Int.reduceLT, Int.reduceLE, Int.reduceAdd, Int.reduceSub, Int.reduceMul, Int.reduceEq, Int.reduceNe, Int.toNat_natCast, Int.natCast_zero, wrap_id, wrapu_id, wrapb_id, idx_ok, bin_quo, bin_rem, tdiv_id, tmod_id, ps_bptr, lenv_sl l1, c1, e3, e4, e5, e]
end Go.VI.Mix
