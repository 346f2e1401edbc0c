import Derived.Test.YtegokpicloedeaaMixX
import Derived.Test.YtegokpicloedeaaMixV
namespace Go.VI.Mix
set_option linter.unusedVariables false
set_option linter.unusedSimpArgs false

def resF (es : List AV) : AV := if es = [] then .lsf 1 [] else .own 1 es
def lsfV (es : List AV) : AV := if es = [] then .lsf 1 [] else .lst 1 es
@[go_sem] theorem weak1_resF (es : List AV) : weak1 (resF es) = lsfV es := by unfold resF lsfV; split <;> rfl
theorem sl_lsfV (h : Heap) (es : List AV) : Sl h 1 (lsfV es) es := by
  unfold lsfV
  split
  · rename_i h0; rw [h0]; exact Sl.lsf h 1 []
  · exact Sl.lst h 1 es

@[go_sem] theorem give_lsf (b z : Nat) (es : List AV) (h : Heap) : give b (.lsf z es) h = some (.lsf z es, h) := by simp [give, frz]
def fadeA (a b : List Int) (n k : Nat) : List Int := a.take (a.length - n) ++ (List.range k).map (fadeAt a b n)
theorem fadeA_succ (a b : List Int) (n k : Nat) : fadeA a b n (k + 1) = fadeA a b n k ++ [fadeAt a b n k] := by simp [fadeA, List.range_succ]
theorem rfade_step {h fr fr' : Heap} {v u T T' : AV} {a b : List Int} (hv : Sl h 1 v (ints a)) (hu : Sl h 1 u (ints b)) (ha : a.length ≤ 600) (hb : b.length ≤ 600) (hax : ∀ x ∈ a, -32768 ≤ x ∧ x ≤ 32767) (hbx : ∀ x ∈ b, -32768 ≤ x ∧ x ≤ 32767) (n : Nat) (hna : n ≤ a.length) (hnb : n ≤ b.length) (k : Nat) (hk : k < n)
    (hck : ckN fr[1]? = true) (happ : appv ⟨h.length, h.length, 3, none⟩ 1 1 17592186044416 T [.int .i64 (fadeAt a b n k)] (h ++ fr) = some (T', h ++ fr')) :
    runC lib ⟨h.length, h.length, 3, none⟩ (.loop b26_0) ([(0, v), (1, u), (2, .int .i64 n), (8, T), (9, .int .i64 k)], h ++ fr) =
      runC lib ⟨h.length, h.length, 3, none⟩ (.loop b26_0) ([(0, v), (1, u), (2, .int .i64 n), (8, T'), (9, .int .i64 (k + 1 : Nat))], h ++ fr') := by
  have hvl := hv.len
  rw [ints_len] at hvl
  have c1 : (k : Int) < n := by omega
  obtain ⟨f, hf⟩ : ∃ f, f = a.length - n := ⟨_, rfl⟩
  have hf' : (a.length : Int) - n = f := by omega
  have s1 : sidx 1 v (.int .i64 ((f : Int) + k)) = some (f + k) := by rw [sidx_sl hv (by omega) (by simp; omega)]; congr 1
  have s2 : sidx 1 u (.int .i64 k) = some k := by rw [sidx_sl hu (by omega) (by simp; omega)]; simp
  have p1 := fun off fr => pc_iptr (off := off) (hv.elems fr) (show f + k < (ints a).length by simp; omega)
  have p2 := fun off fr => pc_iptr (off := off) (hu.elems fr) (show k < (ints b).length by simp; omega)
  simp only [ints_get] at p1 p2
  have b1 := hax _ (List.getElem_mem (show f + k < a.length by omega))
  have b2 := hbx _ (List.getElem_mem (show k < b.length by omega))
  have hfa : fadeAt a b n k = fadeV n (a[f + k]'(by omega)) (b[k]'(by omega)) k := by
    have e1 : a.getD (a.length - n + k) 0 = a[f + k]'(by omega) := by
      rw [← hf, List.getD_eq_getElem?_getD, List.getElem?_eq_getElem (by omega)]; rfl
    have e2 : b.getD k 0 = b[k]'(by omega) := by rw [List.getD_eq_getElem?_getD, List.getElem?_eq_getElem (by omega)]; rfl
    rw [fadeAt, e1, e2]
  obtain ⟨x, hx⟩ : ∃ x, x = a[f + k]'(by omega) := ⟨_, rfl⟩
  obtain ⟨y, hy⟩ : ∃ y, y = b[k]'(by omega) := ⟨_, rfl⟩
  rw [← hx] at p1 b1 hfa
  rw [← hy] at p2 b2 hfa
  obtain ⟨b3, b4, b5, b6⟩ := fadeV_bd hk (by omega) b1 b2
  rw [hfa, fadeV] at happ
  obtain ⟨p, hp⟩ : ∃ p, p = x * (2 * (n : Int) - 2 * k - 1) := ⟨_, rfl⟩
  obtain ⟨q, hq⟩ : ∃ q, q = y * (2 * (k : Int) + 1) := ⟨_, rfl⟩
  rw [← hp] at b3 b4
  rw [← hq] at b5 b6
  rw [← hp, ← hq] at happ
  rw [cast1]
  conv => lhs; rw [w_loop]
  clear hax hbx hfa
  simp (maxSteps := 1000000) (disch := omega) only [go_sem, ↓reduceIte, Nat.reduceEqDiff, Nat.reduceAdd, Nat.reduceSub, Nat.reduceMul, Nat.reduceLT, Nat.reduceLeDiff, reduceCtorEq, Nat.succ_ne_self, ne_eq, not_true_eq_false, not_false_eq_true, and_self, and_true, true_and, Nat.zero_add, Nat.sub_zero, Nat.zero_mul, Nat.one_mul, Nat.le_refl, List.getElem?_cons_zero, List.set_cons_zero, Int.reduceToNat, Int.reduceLT, Int.reduceLE, Int.reduceAdd, Int.reduceSub, Int.reduceMul, Int.reduceEq, Int.reduceNe, Int.toNat_natCast, Int.natCast_zero, wrap_id, wrapu_id, wrapb_id, idx_ok, bin_quo, bin_rem, tdiv_id, tmod_id, ps_bptr, lenv_sl hvl, c1, hf', s1, p1, s2, p2, ← hp, ← hq, rdown_run, happ, hck]
theorem rfade_loop {h : Heap} {v u : AV} {a b : List Int} (hv : Sl h 1 v (ints a)) (hu : Sl h 1 u (ints b)) (ha : a.length ≤ 600) (hb : b.length ≤ 600) (hax : ∀ x ∈ a, -32768 ≤ x ∧ x ≤ 32767) (hbx : ∀ x ∈ b, -32768 ≤ x ∧ x ≤ 32767) (n : Nat) (hna : n ≤ a.length) (hnb : n ≤ b.length)
    (F : List AV → Heap) (s ver : Nat) (hck : ∀ es, ckN (F es)[1]? = true) (hF : ∀ es, (F es)[s]? = some (ver, .arr 1 es)) (hS : ∀ es es', (F es).set s (ver, .arr 1 es') = F es') (d : Nat) : ∀ k : Nat, d = n - k → k ≤ n →
    runC lib ⟨h.length, h.length, 3, none⟩ (.loop b26_0) ([(0, v), (1, u), (2, .int .i64 n), (8, .ref (h.length + s) ver 1 0 (fadeA a b n k).length (fadeA a b n k).length), (9, .int .i64 k)], h ++ F (ints (fadeA a b n k))) =
      some (.exit 0, ([(1, u), (2, .int .i64 n), (8, .ref (h.length + s) ver 1 0 (fadeA a b n n).length (fadeA a b n n).length)], h ++ F (ints (fadeA a b n n)))) := by
  induction d with
  | zero =>
    intro k hd hk
    have c1 : ¬ (k : Int) < n := by omega
    have : k = n := by omega
    rw [w_loop, this]
    rw [this] at c1
    simp (maxSteps := 1000000) (disch := omega) only [go_sem, ↓reduceIte, Nat.reduceEqDiff, Nat.reduceAdd, Nat.reduceSub, Nat.reduceMul, Nat.reduceLT, Nat.reduceLeDiff, reduceCtorEq, Nat.succ_ne_self, ne_eq, not_true_eq_false, not_false_eq_true, and_self, and_true, true_and, Nat.zero_add, Nat.sub_zero, Nat.zero_mul, Nat.one_mul, Nat.le_refl, List.getElem?_cons_zero, List.set_cons_zero, Int.reduceToNat, Int.reduceLT, Int.reduceLE, Int.reduceAdd, Int.reduceSub, Int.reduceMul, Int.reduceEq, Int.reduceNe, Int.toNat_natCast, Int.natCast_zero, wrap_id, wrapu_id, wrapb_id, idx_ok, bin_quo, bin_rem, tdiv_id, tmod_id, ps_bptr, c1]
  | succ d ih =>
    intro k hd hk
    have hl : (fadeA a b n k).length ≤ 1200 := by simp [fadeA]; omega
    have happ := app_ref (cx := ⟨h.length, h.length, 3, none⟩) (s := 1) (z := 1) (lim := 17592186044416) (id := h.length + s) (ver := ver) (h := h ++ F (ints (fadeA a b n k))) (es := ints (fadeA a b n k)) (xs := [.int .i64 (fadeAt a b n k)]) (by rw [get_fr]; exact hF _) (by simp) (by simp; omega)
    rw [set_fr, hS] at happ
    have e1 : ints (fadeA a b n k) ++ [.int .i64 (fadeAt a b n k)] = ints (fadeA a b n (k + 1)) := by rw [fadeA_succ]; simp [ints]
    have e2 : (ints (fadeA a b n k)).length + [AV.int .i64 (fadeAt a b n k)].length = (fadeA a b n (k + 1)).length := by rw [fadeA_succ]; simp
    rw [e1, e2, ints_len] at happ
    rw [rfade_step hv hu ha hb hax hbx n hna hnb k (by omega) (hck _) happ]
    exact ih (k + 1) (by omega) (by omega)
theorem rfade_run {h : Heap} {v u : AV} {a b : List Int} (hv : Sl h 1 v (ints a)) (hu : Sl h 1 u (ints b)) (ha : a.length ≤ 9223372036854775807) (hb : b.length ≤ 9223372036854775807) (n : Int) (lo : Nat) :
    (run lib).fn 26 [v, u, .int .i64 n] h lo = some (if fadeOk a b n = true then .tuple [resF (ints (fadeS a b n.toNat)), .int .i64 0] else .tuple [.own 0 [], .int .i64 170], h) := by
  have e1 := fun fr lo => rsound_run (hv.app fr) ha lo
  have e2 := fun fr lo => rsound_run (hu.app fr) hb lo
  have e3 : ∀ n a b (hh : Heap) lo, (run lib).fn 38 [.int .i64 n, .int .i64 a, .int .i64 b] hh lo = some (.bool (inB n a b), hh) := fun n a b hh lo => in_run n a b hh lo
  have hvl := hv.len
  have hul := hu.len
  simp only [ints_len] at hvl hul
  rw [run_closed (x := x26) rfl rfl rfl rfl]
  unfold fadeOk
  cases h1 : soundB a with
  | false => rw [h1] at e1; simp (maxSteps := 1000000) (disch := omega) only [go_sem, ↓reduceIte, Nat.reduceEqDiff, Nat.reduceAdd, Nat.reduceSub, Nat.reduceMul, Nat.reduceLT, Nat.reduceLeDiff, reduceCtorEq, Nat.succ_ne_self, ne_eq, not_true_eq_false, not_false_eq_true, and_self, and_true, true_and, Nat.zero_add, Nat.sub_zero, Nat.zero_mul, Nat.one_mul, Nat.le_refl, List.getElem?_cons_zero, List.set_cons_zero, Int.reduceToNat, Int.reduceLT, Int.reduceLE, Int.reduceAdd, Int.reduceSub, Int.reduceMul, Int.reduceEq, Int.reduceNe, Int.toNat_natCast, Int.natCast_zero, wrap_id, wrapu_id, wrapb_id, idx_ok, bin_quo, bin_rem, tdiv_id, tmod_id, ps_bptr, x26, e1]
  | true =>
  rw [h1] at e1
  cases h2 : soundB b with
  | false => rw [h2] at e2; simp (maxSteps := 1000000) (disch := omega) only [go_sem, ↓reduceIte, Nat.reduceEqDiff, Nat.reduceAdd, Nat.reduceSub, Nat.reduceMul, Nat.reduceLT, Nat.reduceLeDiff, reduceCtorEq, Nat.succ_ne_self, ne_eq, not_true_eq_false, not_false_eq_true, and_self, and_true, true_and, Nat.zero_add, Nat.sub_zero, Nat.zero_mul, Nat.one_mul, Nat.le_refl, List.getElem?_cons_zero, List.set_cons_zero, Int.reduceToNat, Int.reduceLT, Int.reduceLE, Int.reduceAdd, Int.reduceSub, Int.reduceMul, Int.reduceEq, Int.reduceNe, Int.toNat_natCast, Int.natCast_zero, wrap_id, wrapu_id, wrapb_id, idx_ok, bin_quo, bin_rem, tdiv_id, tmod_id, ps_bptr, x26, e1, e2]
  | true =>
  rw [h2] at e2
  cases h3 : inB n 0 (min (a.length : Int) (b.length : Int)) with
  | false => simp (maxSteps := 1000000) (disch := omega) only [go_sem, ↓reduceIte, Nat.reduceEqDiff, Nat.reduceAdd, Nat.reduceSub, Nat.reduceMul, Nat.reduceLT, Nat.reduceLeDiff, reduceCtorEq, Nat.succ_ne_self, ne_eq, not_true_eq_false, not_false_eq_true, and_self, and_true, true_and, Nat.zero_add, Nat.sub_zero, Nat.zero_mul, Nat.one_mul, Nat.le_refl, List.getElem?_cons_zero, List.set_cons_zero, Int.reduceToNat, Int.reduceLT, Int.reduceLE, Int.reduceAdd, Int.reduceSub, Int.reduceMul, Int.reduceEq, Int.reduceNe, Int.toNat_natCast, Int.natCast_zero, wrap_id, wrapu_id, wrapb_id, idx_ok, bin_quo, bin_rem, tdiv_id, tmod_id, ps_bptr, x26, e1, e2, e3, h3, lenv_sl hvl, lenv_sl hul]
  | true =>
  have b1 := soundB_le h1
  have b2 := soundB_le h2
  have b3 := inB_iff.mp h3
  by_cases h4 : (a.length : Int) + b.length - n ≤ 600
  · obtain ⟨m, hm⟩ : ∃ m : Nat, (m : Int) = n := ⟨n.toNat, by omega⟩
    have hm' : n.toNat = m := by omega
    rw [hm']
    rw [← hm] at h3 b3 h4 ⊢
    have c4 : ¬ 600 < (a.length : Int) + b.length - m := by omega
    obtain ⟨f, hf⟩ : ∃ f, f = a.length - m := ⟨_, rfl⟩
    have hf' : (a.length : Int) - m = f := by omega
    have hA0 : fadeA a b m 0 = a.take f := by simp [fadeA, hf]
    have hAn : fadeS a b m = fadeA a b m m ++ b.drop m := rfl
    have hAl : (fadeA a b m m).length = f + m := by simp [fadeA]; omega
    -- the slices
    obtain ⟨v', w1, w2, w3⟩ := slicev_sl hv (lo := none) (hi := some (.int .i64 f)) (a := 0) (b := f) (by rw [bnd_ok (by omega) (by simp; omega)]; simp) (by simp [bnd]) (by omega) (by simp; omega)
    have w4 := fun fr => appSrc_sl (w3.app fr)
    rw [List.drop_zero] at w4
    have w5 : (ints a).take f = ints (a.take f) := by simp [ints]
    rw [w5] at w4
    obtain ⟨u', y1, y2, y3⟩ := slicev_sl hu (lo := some (.int .i64 m)) (hi := none) (a := m) (b := b.length) (by simp [bnd]) (by rw [bnd_ok (by omega) (by omega)]; simp) (by omega) (by simp)
    have y4 := fun fr => appSrc_sl (y3.app fr)
    have y5 : ((ints b).take b.length).drop m = ints (b.drop m) := by rw [List.take_of_length_le (by simp)]; simp [ints]
    rw [y5] at y4
    -- the end, from a block
    have fin : ∀ (F : List AV → Heap) (s ver : Nat), s < 3 → (∀ es, (F es)[s]? = some (ver, .arr 1 es)) → (∀ es es', (F es).set s (ver, .arr 1 es') = F es') → 0 < f + m →
        appv ⟨h.length, h.length, 3, none⟩ 0 1 17592186044416 (.ref (h.length + s) ver 1 0 (fadeA a b m m).length (fadeA a b m m).length) (ints (b.drop m)) (h ++ F (ints (fadeA a b m m))) = some (.ref (h.length + s) ver 1 0 (fadeS a b m).length (fadeS a b m).length, h ++ F (ints (fadeS a b m))) ∧
        (∃ H, give h.length (.ref (h.length + s) ver 1 0 (fadeS a b m).length (fadeS a b m).length) (h ++ F (ints (fadeS a b m))) = some (resF (ints (fadeS a b m)), H)) := by
      intro F s ver hs hF hS hp
      have happ := app_ref (cx := ⟨h.length, h.length, 3, none⟩) (s := 0) (z := 1) (lim := 17592186044416) (id := h.length + s) (ver := ver) (h := h ++ F (ints (fadeA a b m m))) (es := ints (fadeA a b m m)) (xs := ints (b.drop m)) (by rw [get_fr]; exact hF _) (by simp) (by simp; omega)
      have q1 : ints (fadeA a b m m) ++ ints (b.drop m) = ints (fadeS a b m) := by rw [hAn]; simp [ints]
      have q2 : (ints (fadeA a b m m)).length + (ints (b.drop m)).length = (fadeS a b m).length := by rw [hAn]; simp
      rw [set_fr, hS, q1, q2, ints_len] at happ
      refine ⟨happ, ?_⟩
      have hgv := give_fr (s := s) (ver := ver) (z := 1) (h := h) (es := ints (fadeS a b m)) (fr := F (ints (fadeS a b m))) (hF _)
      rw [ints_len] at hgv
      have hne : ints (fadeS a b m) ≠ [] := by
        rw [ne_eq, ints_nil]
        intro h0
        have := congrArg List.length h0
        rw [hAn, List.length_append, hAl, List.length_nil] at this
        omega
      exact ⟨_, by rw [resF, if_neg hne]; exact hgv⟩
    by_cases hf0 : f = 0
    · have a1 := fun hh => app_lsf_nil (cx := ⟨h.length, h.length, 3, none⟩) (s := 2) (z := 1) (lim := 17592186044416) (h := hh) (es := [])
      have w6 : ints (a.take f) = [] := by rw [hf0]; rfl
      rw [w6] at w4
      by_cases hm0 : m = 0
      · have c5 : ¬ (0 : Int) < m := by omega
        have el : runC lib ⟨h.length, h.length, 3, none⟩ (.loop b26_0) ([(0, v), (1, u), (2, .int .i64 m), (8, .lsf 1 []), (9, .int .i64 0)], h ++ [(0, .dead), (0, .dead), (0, .dead)]) = some (.exit 0, ([(1, u), (2, .int .i64 m), (8, .lsf 1 [])], h ++ [(0, .dead), (0, .dead), (0, .dead)])) := by
          rw [w_loop]
          simp (maxSteps := 1000000) (disch := omega) only [go_sem, ↓reduceIte, Nat.reduceEqDiff, Nat.reduceAdd, Nat.reduceSub, Nat.reduceMul, Nat.reduceLT, Nat.reduceLeDiff, reduceCtorEq, Nat.succ_ne_self, ne_eq, not_true_eq_false, not_false_eq_true, and_self, and_true, true_and, Nat.zero_add, Nat.sub_zero, Nat.zero_mul, Nat.one_mul, Nat.le_refl, List.getElem?_cons_zero, List.set_cons_zero, Int.reduceToNat, Int.reduceLT, Int.reduceLE, Int.reduceAdd, Int.reduceSub, Int.reduceMul, Int.reduceEq, Int.reduceNe, Int.toNat_natCast, Int.natCast_zero, wrap_id, wrapu_id, wrapb_id, idx_ok, bin_quo, bin_rem, tdiv_id, tmod_id, ps_bptr, c5]
        have hfs : fadeS a b m = b.drop m := by
          have : fadeA a b m m = [] := List.eq_nil_of_length_eq_zero (by omega)
          rw [hAn, this]; rfl
        by_cases hb0 : ints (b.drop m) = []
        · have a2 := fun hh => app_lsf_nil (cx := ⟨h.length, h.length, 3, none⟩) (s := 0) (z := 1) (lim := 17592186044416) (h := hh) (es := [])
          rw [hb0] at y4
          rw [hfs]
          simp (maxSteps := 1000000) (disch := omega) only [go_sem, ↓reduceIte, Nat.reduceEqDiff, Nat.reduceAdd, Nat.reduceSub, Nat.reduceMul, Nat.reduceLT, Nat.reduceLeDiff, reduceCtorEq, Nat.succ_ne_self, ne_eq, not_true_eq_false, not_false_eq_true, and_self, and_true, true_and, Nat.zero_add, Nat.sub_zero, Nat.zero_mul, Nat.one_mul, Nat.le_refl, List.getElem?_cons_zero, List.set_cons_zero, Int.reduceToNat, Int.reduceLT, Int.reduceLE, Int.reduceAdd, Int.reduceSub, Int.reduceMul, Int.reduceEq, Int.reduceNe, Int.toNat_natCast, Int.natCast_zero, wrap_id, wrapu_id, wrapb_id, idx_ok, bin_quo, bin_rem, tdiv_id, tmod_id, ps_bptr, x26, e1, e2, e3, h3, lenv_sl hvl, lenv_sl hul, c4, h4, hf', w1, w4, a1, el, y1, y4, a2, hb0, resF]
        · have a2 := app_lsf_new (lo := h.length) (ns := 3) (s := 0) (z := 1) (lim := 17592186044416) (ver := 0) (b := .dead) (h := h) (fr := [(0, .dead), (0, .dead), (0, .dead)]) (xs := ints (b.drop m)) (by omega) rfl hb0 (by simp; omega)
          have hgv := give_fr (s := 0) (ver := 0 + 1) (z := 1) (h := h) (es := ints (b.drop m)) (fr := [(0 + 1, .arr 1 (ints (b.drop m))), (0, .dead), (0, .dead)]) rfl
          rw [hfs]
          simp (maxSteps := 1000000) (disch := omega) only [go_sem, ↓reduceIte, Nat.reduceEqDiff, Nat.reduceAdd, Nat.reduceSub, Nat.reduceMul, Nat.reduceLT, Nat.reduceLeDiff, reduceCtorEq, Nat.succ_ne_self, ne_eq, not_true_eq_false, not_false_eq_true, and_self, and_true, true_and, Nat.zero_add, Nat.sub_zero, Nat.zero_mul, Nat.one_mul, Nat.le_refl, List.getElem?_cons_zero, List.set_cons_zero, Int.reduceToNat, Int.reduceLT, Int.reduceLE, Int.reduceAdd, Int.reduceSub, Int.reduceMul, Int.reduceEq, Int.reduceNe, Int.toNat_natCast, Int.natCast_zero, wrap_id, wrapu_id, wrapb_id, idx_ok, bin_quo, bin_rem, tdiv_id, tmod_id, ps_bptr, x26, e1, e2, e3, h3, lenv_sl hvl, lenv_sl hul, c4, h4, hf', w1, w4, a1, el, y1, y4, a2, hb0, hgv, resF]
      · have a2 := app_lsf_new (lo := h.length) (ns := 3) (s := 1) (z := 1) (lim := 17592186044416) (ver := 0) (b := .dead) (h := h) (fr := [(0, .dead), (0, .dead), (0, .dead)]) (xs := [.int .i64 (fadeAt a b m 0)]) (by omega) rfl (by simp) (by simp)
        have st := rfade_step hv hu b1 b2 (soundB_in h1) (soundB_in h2) m (by omega) (by omega) 0 (by omega) rfl a2
        have hA1 : fadeA a b m 1 = [fadeAt a b m 0] := by rw [fadeA_succ, hA0, hf0]; rfl
        have el := rfade_loop hv hu b1 b2 (soundB_in h1) (soundB_in h2) m (by omega) (by omega) (fun es => [(0, .dead), (0 + 1, .arr 1 es), (0, .dead)]) 1 (0 + 1) (fun _ => rfl) (fun _ => rfl) (fun _ _ => rfl) _ 1 rfl (by omega)
        obtain ⟨f1, H, f2⟩ := fin (fun es => [(0, .dead), (0 + 1, .arr 1 es), (0, .dead)]) 1 (0 + 1) (by omega) (fun _ => rfl) (fun _ _ => rfl) (by omega)
        rw [hA1] at el
        have st2 := st.trans el
        rw [Int.natCast_zero] at st2
        simp (maxSteps := 1000000) (disch := omega) only [go_sem, ↓reduceIte, Nat.reduceEqDiff, Nat.reduceAdd, Nat.reduceSub, Nat.reduceMul, Nat.reduceLT, Nat.reduceLeDiff, reduceCtorEq, Nat.succ_ne_self, ne_eq, not_true_eq_false, not_false_eq_true, and_self, and_true, true_and, Nat.zero_add, Nat.sub_zero, Nat.zero_mul, Nat.one_mul, Nat.le_refl, List.getElem?_cons_zero, List.set_cons_zero, Int.reduceToNat, Int.reduceLT, Int.reduceLE, Int.reduceAdd, Int.reduceSub, Int.reduceMul, Int.reduceEq, Int.reduceNe, Int.toNat_natCast, Int.natCast_zero, wrap_id, wrapu_id, wrapb_id, idx_ok, bin_quo, bin_rem, tdiv_id, tmod_id, ps_bptr, x26, e1, e2, e3, h3, lenv_sl hvl, lenv_sl hul, c4, h4, hf', w1, w4, a1, st2, y1, y4, f1, f2]
    · have hne : ints (a.take f) ≠ [] := by
        rw [ne_eq, ints_nil]
        intro h0
        have := congrArg List.length h0
        rw [List.length_take, List.length_nil] at this
        omega
      have a1 := app_lsf_new (lo := h.length) (ns := 3) (s := 2) (z := 1) (lim := 17592186044416) (ver := 0) (b := .dead) (h := h) (fr := [(0, .dead), (0, .dead), (0, .dead)]) (xs := ints (a.take f)) (by omega) rfl hne (by simp; omega)
      have el := rfade_loop hv hu b1 b2 (soundB_in h1) (soundB_in h2) m (by omega) (by omega) (fun es => [(0, .dead), (0, .dead), (0 + 1, .arr 1 es)]) 2 (0 + 1) (fun _ => rfl) (fun _ => rfl) (fun _ _ => rfl) _ 0 rfl (by omega)
      obtain ⟨f1, H, f2⟩ := fin (fun es => [(0, .dead), (0, .dead), (0 + 1, .arr 1 es)]) 2 (0 + 1) (by omega) (fun _ => rfl) (fun _ _ => rfl) (by omega)
      rw [hA0, Int.natCast_zero] at el
      rw [ints_len] at a1
      simp (maxSteps := 1000000) (disch := omega) only [go_sem, ↓reduceIte, Nat.reduceEqDiff, Nat.reduceAdd, Nat.reduceSub, Nat.reduceMul, Nat.reduceLT, Nat.reduceLeDiff, reduceCtorEq, Nat.succ_ne_self, ne_eq, not_true_eq_false, not_false_eq_true, and_self, and_true, true_and, Nat.zero_add, Nat.sub_zero, Nat.zero_mul, Nat.one_mul, Nat.le_refl, List.getElem?_cons_zero, List.set_cons_zero, Int.reduceToNat, Int.reduceLT, Int.reduceLE, Int.reduceAdd, Int.reduceSub, Int.reduceMul, Int.reduceEq, Int.reduceNe, Int.toNat_natCast, Int.natCast_zero, wrap_id, wrapu_id, wrapb_id, idx_ok, bin_quo, bin_rem, tdiv_id, tmod_id, ps_bptr, x26, e1, e2, e3, h3, lenv_sl hvl, lenv_sl hul, c4, h4, hf', w1, w4, a1, el, y1, y4, f1, f2]
  · have c4 : 600 < (a.length : Int) + b.length - n := by omega
    simp (maxSteps := 1000000) (disch := omega) only [go_sem, ↓reduceIte, Nat.reduceEqDiff, Nat.reduceAdd, Nat.reduceSub, Nat.reduceMul, Nat.reduceLT, Nat.reduceLeDiff, reduceCtorEq, Nat.succ_ne_self, ne_eq, not_true_eq_false, not_false_eq_true, and_self, and_true, true_and, Nat.zero_add, Nat.sub_zero, Nat.zero_mul, Nat.one_mul, Nat.le_refl, List.getElem?_cons_zero, List.set_cons_zero, Int.reduceToNat, Int.reduceLT, Int.reduceLE, Int.reduceAdd, Int.reduceSub, Int.reduceMul, Int.reduceEq, Int.reduceNe, Int.toNat_natCast, Int.natCast_zero, wrap_id, wrapu_id, wrapb_id, idx_ok, bin_quo, bin_rem, tdiv_id, tmod_id, ps_bptr, x26, e1, e2, e3, h3, lenv_sl hvl, lenv_sl hul, c4, h4]
end Go.VI.Mix
