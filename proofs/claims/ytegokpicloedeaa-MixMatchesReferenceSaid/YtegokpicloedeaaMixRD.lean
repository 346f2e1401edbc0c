import Derived.Test.YtegokpicloedeaaMixRA
import Derived.Test.YtegokpicloedeaaMixRB
import Derived.Test.YtegokpicloedeaaMixRC
namespace Go.VI.Mix
set_option linter.unusedVariables false
set_option linter.unusedSimpArgs false

/-! The loops of law 3. -/
theorem sl_cells {h : Heap} {z : Nat} {v : AV} {es : List AV} (s : Sl h z v es) : v.cells = [v] := by
  have hl := s.len
  cases v <;> first | rfl | (simp [slen] at hl)
theorem l35 {H : Heap} {cx : Cx} {es : List AV} (hes : ∀ e ∈ es, ∃ t : Int, e = .int .i64 t) (hn : es.length ≤ 100) (c : AV) (l : List (Int × Int)) (hc : Sl H 2 c (pts l)) (hl : l.length ≤ 1000) (a2 a3 a6 a8 a19 a21 a22 a23 a24 a25 a26 a104 a105 a106 : AV) (d : Nat) :
    ∀ k : Nat, d = es.length - k → k ≤ es.length →
    runC lib cx (.loop b3_5) ([(2, a2), (3, a3), (6, a6), (8, a8), (19, a19), (21, a21), (22, a22), (23, a23), (24, a24), (25, a25), (26, a26), (28, c), (104, a104), (105, a105), (106, a106), (113, .lsf 1 es), (114, .int .i64 es.length), (115, .int .i64 k)], H) =
      some (.exit 2, ([(2, a2), (3, a3), (6, a6), (8, a8), (19, a19), (21, a21), (22, a22), (23, a23), (24, a24), (25, a25), (26, a26), (104, a104), (105, a105), (106, a106)], H)) := by
  have hv := Sl.lsf H 1 es
  induction d with
  | zero =>
    intro k hd hk
    have c1 : ¬ (k : Int) < es.length := by omega
    rw [w_loop]
    simp (maxSteps := 1000000) (disch := omega) only [go_sem, ↓reduceIte, Nat.reduceEqDiff, Nat.reduceAdd, Nat.reduceSub, Nat.reduceMul, Nat.reduceLT, Nat.reduceLeDiff, reduceCtorEq, Nat.succ_ne_self, ne_eq, not_true_eq_false, not_false_eq_true, and_self, and_true, true_and, Nat.zero_add, Nat.sub_zero, Nat.zero_mul, Nat.one_mul, Nat.le_refl, List.getElem?_cons_zero, List.set_cons_zero, Int.reduceToNat, Int.reduceLT, Int.reduceLE, Int.reduceAdd, Int.reduceSub, Int.reduceMul, Int.reduceEq, Int.reduceNe, Int.toNat_natCast, Int.natCast_zero, wrap_id, wrapu_id, wrapb_id, idx_ok, bin_quo, bin_rem, tdiv_id, tmod_id, ps_bptr, c1]
  | succ d ih =>
    intro k hd hk
    have hk' : k < es.length := by omega
    have c1 : (k : Int) < es.length := by omega
    have e3 : sidx 1 (.lsf 1 es) (.int .i64 k) = some k := by rw [sidx_sl hv (by omega) (by omega)]; simp
    have e4 := fun off => pc_iptr (off := off) hv.elems0 hk'
    obtain ⟨t, ht⟩ := hes _ (List.getElem_mem hk')
    rw [ht] at e4
    have g1 := fun lo => Gain_run hc hl t lo
    have g2 := fun lo => rGain_run hc hl t lo
    have e := ih (k + 1) (by omega) (by omega)
    rw [cast1] at e
    rw [w_loop]
    by_cases c2 : (curveB (-1) l && decide ((l.length : Int) ≤ 12)) = true ∧ 0 ≤ t ∧ t ≤ 599
    · rw [if_pos c2] at g1 g2
      simp (maxSteps := 1000000) (disch := omega) only [go_sem, ↓reduceIte, Nat.reduceEqDiff, Nat.reduceAdd, Nat.reduceSub, Nat.reduceMul, Nat.reduceLT, Nat.reduceLeDiff, reduceCtorEq, Nat.succ_ne_self, ne_eq, not_true_eq_false, not_false_eq_true, and_self, and_true, true_and, Nat.zero_add, Nat.sub_zero, Nat.zero_mul, Nat.one_mul, Nat.le_refl, List.getElem?_cons_zero, List.set_cons_zero, Int.reduceToNat, Int.reduceLT, Int.reduceLE, Int.reduceAdd, Int.reduceSub, Int.reduceMul, Int.reduceEq, Int.reduceNe, Int.toNat_natCast, Int.natCast_zero, wrap_id, wrapu_id, wrapb_id, idx_ok, bin_quo, bin_rem, tdiv_id, tmod_id, ps_bptr, c1, e3, e4, g1, g2, e]
    · rw [if_neg c2] at g1 g2
      simp (maxSteps := 1000000) (disch := omega) only [go_sem, ↓reduceIte, Nat.reduceEqDiff, Nat.reduceAdd, Nat.reduceSub, Nat.reduceMul, Nat.reduceLT, Nat.reduceLeDiff, reduceCtorEq, Nat.succ_ne_self, ne_eq, not_true_eq_false, not_false_eq_true, and_self, and_true, true_and, Nat.zero_add, Nat.sub_zero, Nat.zero_mul, Nat.one_mul, Nat.le_refl, List.getElem?_cons_zero, List.set_cons_zero, Int.reduceToNat, Int.reduceLT, Int.reduceLE, Int.reduceAdd, Int.reduceSub, Int.reduceMul, Int.reduceEq, Int.reduceNe, Int.toNat_natCast, Int.natCast_zero, wrap_id, wrapu_id, wrapb_id, idx_ok, bin_quo, bin_rem, tdiv_id, tmod_id, ps_bptr, c1, e3, e4, g1, g2, e]
theorem l34 {H : Heap} {cx : Cx} {es : List AV} (hes : ∀ e ∈ es, ∃ l : List (Int × Int), Sl H 2 e (pts l) ∧ l.length ≤ 1000) (hn : es.length ≤ 100) (n : Int) (on : okI n) (a2 a3 a6 a19 a21 a22 a23 a24 a25 a26 : AV) (d : Nat) :
    ∀ k : Nat, d = es.length - k → k ≤ es.length →
    runC lib cx (.loop b3_4) ([(2, a2), (3, a3), (6, a6), (8, .int .i64 n), (19, a19), (21, a21), (22, a22), (23, a23), (24, a24), (25, a25), (26, a26), (104, .lsf 1 es), (105, .int .i64 es.length), (106, .int .i64 k)], H) =
      some (.exit 0, ([(2, a2), (3, a3), (6, a6), (8, .int .i64 n), (19, a19), (21, a21), (22, a22), (23, a23), (24, a24), (25, a25), (26, a26)], H)) := by
  have hv := Sl.lsf H 1 es
  induction d with
  | zero =>
    intro k hd hk
    have c1 : ¬ (k : Int) < es.length := by omega
    rw [w_loop]
    simp (maxSteps := 1000000) (disch := omega) only [go_sem, ↓reduceIte, Nat.reduceEqDiff, Nat.reduceAdd, Nat.reduceSub, Nat.reduceMul, Nat.reduceLT, Nat.reduceLeDiff, reduceCtorEq, Nat.succ_ne_self, ne_eq, not_true_eq_false, not_false_eq_true, and_self, and_true, true_and, Nat.zero_add, Nat.sub_zero, Nat.zero_mul, Nat.one_mul, Nat.le_refl, List.getElem?_cons_zero, List.set_cons_zero, Int.reduceToNat, Int.reduceLT, Int.reduceLE, Int.reduceAdd, Int.reduceSub, Int.reduceMul, Int.reduceEq, Int.reduceNe, Int.toNat_natCast, Int.natCast_zero, wrap_id, wrapu_id, wrapb_id, idx_ok, bin_quo, bin_rem, tdiv_id, tmod_id, ps_bptr, c1]
  | succ d ih =>
    intro k hd hk
    have hk' : k < es.length := by omega
    have c1 : (k : Int) < es.length := by omega
    have e3 : sidx 1 (.lsf 1 es) (.int .i64 k) = some k := by rw [sidx_sl hv (by omega) (by omega)]; simp
    have e4 := fun off => pc_iptr (off := off) hv.elems0 hk'
    obtain ⟨l, hc, hl⟩ := hes _ (List.getElem_mem hk')
    obtain ⟨c, hcc⟩ : ∃ c, c = es[k] := ⟨_, rfl⟩
    rw [← hcc] at e4 hc
    have p1 := fun hh lo => pick13 n 90 hh lo on.1 on.2 (by omega)
    have hz : ∀ off, pcells H (.iptr (.lsf 1 es) k off) = pcells H (.iptr (.lsf 1 es) k off) := fun _ => rfl
    have hi := l35 (cx := cx) (es := [.int .i64 n, .int .i64 (pickS n 90)]) (fun e he => by
      rcases List.mem_cons.mp he with rfl | he
      · exact ⟨_, rfl⟩
      · rw [List.mem_singleton] at he; exact ⟨_, he⟩) (by simp) c l hc hl a2 a3 a6 (.int .i64 n) a19 a21 a22 a23 a24 a25 a26 (.lsf 1 es) (.int .i64 es.length) (.int .i64 k) _ 0 rfl (by simp)
    have hlen : (([.int .i64 n, .int .i64 (pickS n 90)] : List AV).length : Int) = 2 := rfl
    rw [hlen, Int.natCast_zero] at hi
    have e := ih (k + 1) (by omega) (by omega)
    rw [cast1] at e
    rw [w_loop]
    clear ih
    have hcl := sl_cells hc
    simp (maxSteps := 1000000) (disch := omega) only [go_sem, ↓reduceIte, Nat.reduceEqDiff, Nat.reduceAdd, Nat.reduceSub, Nat.reduceMul, Nat.reduceLT, Nat.reduceLeDiff, reduceCtorEq, Nat.succ_ne_self, ne_eq, not_true_eq_false, not_false_eq_true, and_self, and_true, true_and, Nat.zero_add, Nat.sub_zero, Nat.zero_mul, Nat.one_mul, Nat.le_refl, List.getElem?_cons_zero, List.set_cons_zero, Int.reduceToNat, Int.reduceLT, Int.reduceLE, Int.reduceAdd, Int.reduceSub, Int.reduceMul, Int.reduceEq, Int.reduceNe, Int.toNat_natCast, Int.natCast_zero, wrap_id, wrapu_id, wrapb_id, idx_ok, bin_quo, bin_rem, tdiv_id, tmod_id, ps_bptr, c1, e3, e4, hcl, p1, lenv_sl (Sl.lsf H 1 [.int .i64 n, .int .i64 (pickS n 90)]).len, hlen, show ((2 : Nat) : Int) = 2 from rfl, hi, e]
theorem l33 {H : Heap} {cx : Cx} {es : List AV} (hes : ∀ e ∈ es, ∃ l : List Trk, Sl H 3 e (trks l) ∧ l.length ≤ 1000 ∧ ∀ t ∈ l, okT t) (hn : es.length ≤ 100) (a8 a19 a21 a22 a23 a24 : AV) (d : Nat) :
    ∀ k : Nat, d = es.length - k → k ≤ es.length →
    runC lib cx (.loop b3_3) ([(8, a8), (19, a19), (21, a21), (22, a22), (23, a23), (24, a24), (165, .lsf 1 es), (166, .int .i64 es.length), (167, .int .i64 k)], H) =
      some (.exit 4, ([(8, a8), (19, a19), (21, a21), (22, a22), (23, a23), (24, a24)], H)) := by
  have hv := Sl.lsf H 1 es
  induction d with
  | zero =>
    intro k hd hk
    have c1 : ¬ (k : Int) < es.length := by omega
    rw [w_loop]
    simp (maxSteps := 1000000) (disch := omega) only [go_sem, ↓reduceIte, Nat.reduceEqDiff, Nat.reduceAdd, Nat.reduceSub, Nat.reduceMul, Nat.reduceLT, Nat.reduceLeDiff, reduceCtorEq, Nat.succ_ne_self, ne_eq, not_true_eq_false, not_false_eq_true, and_self, and_true, true_and, Nat.zero_add, Nat.sub_zero, Nat.zero_mul, Nat.one_mul, Nat.le_refl, List.getElem?_cons_zero, List.set_cons_zero, Int.reduceToNat, Int.reduceLT, Int.reduceLE, Int.reduceAdd, Int.reduceSub, Int.reduceMul, Int.reduceEq, Int.reduceNe, Int.toNat_natCast, Int.natCast_zero, wrap_id, wrapu_id, wrapb_id, idx_ok, bin_quo, bin_rem, tdiv_id, tmod_id, ps_bptr, c1]
  | succ d ih =>
    intro k hd hk
    have hk' : k < es.length := by omega
    have c1 : (k : Int) < es.length := by omega
    have e3 : sidx 1 (.lsf 1 es) (.int .i64 k) = some k := by rw [sidx_sl hv (by omega) (by omega)]; simp
    have e4 := fun off => pc_iptr (off := off) hv.elems0 hk'
    obtain ⟨l, hc, hl, hz⟩ := hes _ (List.getElem_mem hk')
    obtain ⟨c, hcc⟩ : ∃ c, c = es[k] := ⟨_, rfl⟩
    rw [← hcc] at e4 hc
    have g1 := fun lo => exact_run hc (by omega) hz lo
    have g2 := fun lo => rexact_run hc (by omega) hz lo
    have g3 := fun lo => mix_run hc (by omega) hz lo
    have g4 := fun lo => rmix_run hc (by omega) hz lo
    have g5 := fun lo => valid_run hc (by omega) hz lo
    have g6 := fun lo => rvalid_run hc (by omega) hz lo
    have e := ih (k + 1) (by omega) (by omega)
    rw [cast1] at e
    rw [w_loop]
    cases hb : validB l with
    | false =>
      simp only [hb, Bool.false_eq_true, if_false] at g1 g2 g3 g4 g5 g6
      have i1 := fun lo => Ints_run (Sl.lst0 H 1 0) (Sl.lst0 H 1 0) (l := []) (m := []) (by simp) lo
      have hcl := sl_cells hc
      simp (maxSteps := 1000000) (disch := omega) only [go_sem, ↓reduceIte, Nat.reduceEqDiff, Nat.reduceAdd, Nat.reduceSub, Nat.reduceMul, Nat.reduceLT, Nat.reduceLeDiff, reduceCtorEq, Nat.succ_ne_self, ne_eq, not_true_eq_false, not_false_eq_true, and_self, and_true, true_and, Nat.zero_add, Nat.sub_zero, Nat.zero_mul, Nat.one_mul, Nat.le_refl, List.getElem?_cons_zero, List.set_cons_zero, Int.reduceToNat, Int.reduceLT, Int.reduceLE, Int.reduceAdd, Int.reduceSub, Int.reduceMul, Int.reduceEq, Int.reduceNe, Int.toNat_natCast, Int.natCast_zero, wrap_id, wrapu_id, wrapb_id, idx_ok, bin_quo, bin_rem, tdiv_id, tmod_id, ps_bptr, c1, e3, e4, hcl, g1, g2, g3, g4, g5, g6, i1, e, beq_self_eq_true, Bool.not_true, Bool.true_eq_false, if_false]
    | true =>
      simp only [hb, if_true] at g1 g2 g3 g4 g5 g6
      have hb2 := hb
      unfold validB at hb2
      simp only [Bool.and_eq_true, decide_eq_true_eq, List.all_eq_true] at hb2
      have hlen := (exactL_bd (l := l) (n := 0) (o := []) hb2.1 (by intro x hx; simp at hx) (by simp)).2
      have hlen' : (exactL l).length ≤ 600 := hlen
      have i1 := fun lo => Ints_run (Sl.lstV H 1 (ints (exactL l))) (Sl.lst H 1 (ints (exactL l))) (by omega) lo
      have i2 := fun lo => Ints_run (Sl.lstV H 1 (ints ((exactL l).map roundS))) (Sl.lst H 1 (ints ((exactL l).map roundS))) (by simp; omega) lo
      have hcl := sl_cells hc
      simp (maxSteps := 1000000) (disch := omega) only [go_sem, ↓reduceIte, Nat.reduceEqDiff, Nat.reduceAdd, Nat.reduceSub, Nat.reduceMul, Nat.reduceLT, Nat.reduceLeDiff, reduceCtorEq, Nat.succ_ne_self, ne_eq, not_true_eq_false, not_false_eq_true, and_self, and_true, true_and, Nat.zero_add, Nat.sub_zero, Nat.zero_mul, Nat.one_mul, Nat.le_refl, List.getElem?_cons_zero, List.set_cons_zero, Int.reduceToNat, Int.reduceLT, Int.reduceLE, Int.reduceAdd, Int.reduceSub, Int.reduceMul, Int.reduceEq, Int.reduceNe, Int.toNat_natCast, Int.natCast_zero, wrap_id, wrapu_id, wrapb_id, idx_ok, bin_quo, bin_rem, tdiv_id, tmod_id, ps_bptr, c1, e3, e4, hcl, g1, g2, g3, g4, g5, g6, i1, i2, e, beq_self_eq_true, Bool.not_true, Bool.true_eq_false, if_false]
theorem l32 {H : Heap} {cx : Cx} {es : List AV} (hes : ∀ e ∈ es, ∃ t : Int, e = .int .i64 t) (hn : es.length ≤ 100) (c u : AV) (l m : List Int) (hc : Sl H 1 c (ints l)) (hu : Sl H 1 u (ints m)) (hl : l.length ≤ 9223372036854775807) (hm : m.length ≤ 9223372036854775807) (a8 a19 a21 a48 a238 a239 a240 : AV) (d : Nat) :
    ∀ k : Nat, d = es.length - k → k ≤ es.length →
    runC lib cx (.loop b3_2) ([(8, a8), (19, a19), (21, a21), (23, u), (48, a48), (50, c), (238, a238), (239, a239), (240, a240), (247, .lsf 1 es), (248, .int .i64 es.length), (249, .int .i64 k)], H) =
      some (.exit 8, ([(8, a8), (19, a19), (21, a21), (23, u), (48, a48), (50, c), (238, a238), (239, a239), (240, a240)], H)) := by
  have hv := Sl.lsf H 1 es
  induction d with
  | zero =>
    intro k hd hk
    have c1 : ¬ (k : Int) < es.length := by omega
    rw [w_loop]
    simp (maxSteps := 1000000) (disch := omega) only [go_sem, ↓reduceIte, Nat.reduceEqDiff, Nat.reduceAdd, Nat.reduceSub, Nat.reduceMul, Nat.reduceLT, Nat.reduceLeDiff, reduceCtorEq, Nat.succ_ne_self, ne_eq, not_true_eq_false, not_false_eq_true, and_self, and_true, true_and, Nat.zero_add, Nat.sub_zero, Nat.zero_mul, Nat.one_mul, Nat.le_refl, List.getElem?_cons_zero, List.set_cons_zero, Int.reduceToNat, Int.reduceLT, Int.reduceLE, Int.reduceAdd, Int.reduceSub, Int.reduceMul, Int.reduceEq, Int.reduceNe, Int.toNat_natCast, Int.natCast_zero, wrap_id, wrapu_id, wrapb_id, idx_ok, bin_quo, bin_rem, tdiv_id, tmod_id, ps_bptr, c1]
  | succ d ih =>
    intro k hd hk
    have hk' : k < es.length := by omega
    have c1 : (k : Int) < es.length := by omega
    have e3 : sidx 1 (.lsf 1 es) (.int .i64 k) = some k := by rw [sidx_sl hv (by omega) (by omega)]; simp
    have e4 := fun off => pc_iptr (off := off) hv.elems0 hk'
    obtain ⟨t, ht⟩ := hes _ (List.getElem_mem hk')
    rw [ht] at e4
    have g1 := fun lo => fade_run hc hu hl hm t lo
    have g2 := fun lo => rfade_run hc hu hl hm t lo
    have e := ih (k + 1) (by omega) (by omega)
    rw [cast1] at e
    rw [w_loop]
    cases c2 : fadeOk l m t with
    | true =>
      simp only [c2, if_true] at g1 g2
      have hlen : (fadeS l m t.toNat).length ≤ 9223372036854775807 := by
        simp only [fadeOk, Bool.and_eq_true, inB_iff, decide_eq_true_eq] at c2
        rw [fadeS, List.length_append, List.length_append]
        simp
        omega
      have i1 := fun lo => Ints_run (Sl.lst H 1 (ints (fadeS l m t.toNat))) (sl_lsfV H (ints (fadeS l m t.toNat))) hlen lo
      simp (maxSteps := 1000000) (disch := omega) only [go_sem, ↓reduceIte, Nat.reduceEqDiff, Nat.reduceAdd, Nat.reduceSub, Nat.reduceMul, Nat.reduceLT, Nat.reduceLeDiff, reduceCtorEq, Nat.succ_ne_self, ne_eq, not_true_eq_false, not_false_eq_true, and_self, and_true, true_and, Nat.zero_add, Nat.sub_zero, Nat.zero_mul, Nat.one_mul, Nat.le_refl, List.getElem?_cons_zero, List.set_cons_zero, Int.reduceToNat, Int.reduceLT, Int.reduceLE, Int.reduceAdd, Int.reduceSub, Int.reduceMul, Int.reduceEq, Int.reduceNe, Int.toNat_natCast, Int.natCast_zero, wrap_id, wrapu_id, wrapb_id, idx_ok, bin_quo, bin_rem, tdiv_id, tmod_id, ps_bptr, c1, e3, e4, g1, g2, i1, e]
    | false =>
      simp only [c2, Bool.false_eq_true, if_false] at g1 g2
      have i1 := fun lo => Ints_run (Sl.lst0 H 1 0) (Sl.lst0 H 1 0) (l := []) (m := []) (by simp) lo
      simp (maxSteps := 1000000) (disch := omega) only [go_sem, ↓reduceIte, Nat.reduceEqDiff, Nat.reduceAdd, Nat.reduceSub, Nat.reduceMul, Nat.reduceLT, Nat.reduceLeDiff, reduceCtorEq, Nat.succ_ne_self, ne_eq, not_true_eq_false, not_false_eq_true, and_self, and_true, true_and, Nat.zero_add, Nat.sub_zero, Nat.zero_mul, Nat.one_mul, Nat.le_refl, List.getElem?_cons_zero, List.set_cons_zero, Int.reduceToNat, Int.reduceLT, Int.reduceLE, Int.reduceAdd, Int.reduceSub, Int.reduceMul, Int.reduceEq, Int.reduceNe, Int.toNat_natCast, Int.natCast_zero, wrap_id, wrapu_id, wrapb_id, idx_ok, bin_quo, bin_rem, tdiv_id, tmod_id, ps_bptr, c1, e3, e4, g1, g2, i1, e]
theorem l31 {h fr : Heap} {es : List AV} (hes : ∀ e ∈ es, ∃ n0 n1 n2 n3 : Int, e = .agg [.int .i64 n0, .int .i64 n1, .int .i64 n2, .int .i64 n3]) (hn : es.length ≤ 100) (c u : AV) (l m : List Int) (hc : Sl h 1 c (ints l)) (hu : Sl h 1 u (ints m)) (hl : l.length ≤ 9223372036854775807) (hm : m.length ≤ 9223372036854775807) (a8 a19 a21 a48 a238 a239 a240 : AV) (d : Nat) :
    ∀ (k v0 : Nat) (b0 : Blk), d = es.length - k → k ≤ es.length → ∃ q,
    runC lib ⟨h.length, h.length, 10, none⟩ (.loop b3_1) ([(8, a8), (19, a19), (21, a21), (23, u), (48, a48), (50, c), (238, a238), (239, a239), (240, a240), (279, .lsf 4 es), (280, .int .i64 es.length), (281, .int .i64 k)], h ++ (v0, b0) :: fr) =
      some (.exit 10, ([(8, a8), (19, a19), (21, a21), (23, u), (48, a48), (238, a238), (239, a239), (240, a240)], h ++ q :: fr)) := by
  have hv := Sl.lsf h 4 es
  induction d with
  | zero =>
    intro k v0 b0 hd hk
    have c1 : ¬ (k : Int) < es.length := by omega
    refine ⟨(v0, b0), ?_⟩
    rw [w_loop]
    simp (maxSteps := 1000000) (disch := omega) only [go_sem, ↓reduceIte, Nat.reduceEqDiff, Nat.reduceAdd, Nat.reduceSub, Nat.reduceMul, Nat.reduceLT, Nat.reduceLeDiff, reduceCtorEq, Nat.succ_ne_self, ne_eq, not_true_eq_false, not_false_eq_true, and_self, and_true, true_and, Nat.zero_add, Nat.sub_zero, Nat.zero_mul, Nat.one_mul, Nat.le_refl, List.getElem?_cons_zero, List.set_cons_zero, Int.reduceToNat, Int.reduceLT, Int.reduceLE, Int.reduceAdd, Int.reduceSub, Int.reduceMul, Int.reduceEq, Int.reduceNe, Int.toNat_natCast, Int.natCast_zero, wrap_id, wrapu_id, wrapb_id, idx_ok, bin_quo, bin_rem, tdiv_id, tmod_id, ps_bptr, c1]
  | succ d ih =>
    intro k v0 b0 hd hk
    have hk' : k < es.length := by omega
    have c1 : (k : Int) < es.length := by omega
    have e3 : sidx 4 (.lsf 4 es) (.int .i64 k) = some k := by rw [sidx_sl hv (by omega) (by omega)]; simp
    have e4 := fun off fr => pc_iptr (off := off) (hv.elems fr) hk'
    obtain ⟨n0, n1, n2, n3, ht⟩ := hes _ (List.getElem_mem hk')
    rw [ht] at e4
    have g1 := fun fr lo => duck_run (hc.app fr) hl n0 n1 n2 n3 lo
    have g2 := fun fr lo => rduck_run (hc.app fr) hl n0 n1 n2 n3 lo
    have g3 := fun fr lo => under_run' (hc.app fr) (hu.app fr) hl hm n0 n1 n2 n3 lo
    have g4 := fun fr lo => runder_run (hc.app fr) (hu.app fr) hl hm n0 n1 n2 n3 lo
    obtain ⟨q, e⟩ := ih (k + 1) (v0 + 1) (.box [.int .i64 n0, .int .i64 n1, .int .i64 n2, .int .i64 n3]) (by omega) (by omega)
    rw [cast1] at e
    refine ⟨q, ?_⟩
    rw [w_loop]
    have z := fun fr lo => Ints_run (Sl.lst0 (h ++ fr) 1 0) (Sl.lst0 (h ++ fr) 1 0) (l := []) (m := []) (by simp) lo
    cases c2 : duckOk l n0 n1 n2 n3 with
    | false =>
      have c3 : underOk l m n0 n1 n2 n3 = false := by simp [underOk, c2]
      simp only [c2, c3, Bool.false_eq_true, if_false] at g1 g2 g3 g4
      simp (maxSteps := 1000000) (disch := omega) only [go_sem, ↓reduceIte, Nat.reduceEqDiff, Nat.reduceAdd, Nat.reduceSub, Nat.reduceMul, Nat.reduceLT, Nat.reduceLeDiff, reduceCtorEq, Nat.succ_ne_self, ne_eq, not_true_eq_false, not_false_eq_true, and_self, and_true, true_and, Nat.zero_add, Nat.sub_zero, Nat.zero_mul, Nat.one_mul, Nat.le_refl, List.getElem?_cons_zero, List.set_cons_zero, Int.reduceToNat, Int.reduceLT, Int.reduceLE, Int.reduceAdd, Int.reduceSub, Int.reduceMul, Int.reduceEq, Int.reduceNe, Int.toNat_natCast, Int.natCast_zero, wrap_id, wrapu_id, wrapb_id, idx_ok, bin_quo, bin_rem, tdiv_id, tmod_id, ps_bptr, c1, e3, e4, g1, g2, g3, g4, z, e]
    | true =>
      have hll := soundB_le (duckOk_iff c2).1
      have i1 := fun fr lo => Ints_run (Sl.lst (h ++ fr) 1 (ints (duckS n0 n1 n2 n3 l))) (Sl.lstV (h ++ fr) 1 (ints (duckS n0 n1 n2 n3 l))) (by rw [duckS_len]; omega) lo
      cases c3 : underOk l m n0 n1 n2 n3 with
      | false =>
        simp only [c2, c3, Bool.false_eq_true, if_false, if_true] at g1 g2 g3 g4
        simp (maxSteps := 1000000) (disch := omega) only [go_sem, ↓reduceIte, Nat.reduceEqDiff, Nat.reduceAdd, Nat.reduceSub, Nat.reduceMul, Nat.reduceLT, Nat.reduceLeDiff, reduceCtorEq, Nat.succ_ne_self, ne_eq, not_true_eq_false, not_false_eq_true, and_self, and_true, true_and, Nat.zero_add, Nat.sub_zero, Nat.zero_mul, Nat.one_mul, Nat.le_refl, List.getElem?_cons_zero, List.set_cons_zero, Int.reduceToNat, Int.reduceLT, Int.reduceLE, Int.reduceAdd, Int.reduceSub, Int.reduceMul, Int.reduceEq, Int.reduceNe, Int.toNat_natCast, Int.natCast_zero, wrap_id, wrapu_id, wrapb_id, idx_ok, bin_quo, bin_rem, tdiv_id, tmod_id, ps_bptr, c1, e3, e4, g1, g2, g3, g4, z, i1, e]
      | true =>
        have i2 := fun fr lo => Ints_run (Sl.lst (h ++ fr) 1 (ints (underS l m (duckS n0 n1 n2 n3 l)))) (Sl.lstV (h ++ fr) 1 (ints (underS l m (duckS n0 n1 n2 n3 l)))) (by rw [underS_len]; omega) lo
        simp only [c2, c3, if_true] at g1 g2 g3 g4
        simp (maxSteps := 1000000) (disch := omega) only [go_sem, ↓reduceIte, Nat.reduceEqDiff, Nat.reduceAdd, Nat.reduceSub, Nat.reduceMul, Nat.reduceLT, Nat.reduceLeDiff, reduceCtorEq, Nat.succ_ne_self, ne_eq, not_true_eq_false, not_false_eq_true, and_self, and_true, true_and, Nat.zero_add, Nat.sub_zero, Nat.zero_mul, Nat.one_mul, Nat.le_refl, List.getElem?_cons_zero, List.set_cons_zero, Int.reduceToNat, Int.reduceLT, Int.reduceLE, Int.reduceAdd, Int.reduceSub, Int.reduceMul, Int.reduceEq, Int.reduceNe, Int.toNat_natCast, Int.natCast_zero, wrap_id, wrapu_id, wrapb_id, idx_ok, bin_quo, bin_rem, tdiv_id, tmod_id, ps_bptr, c1, e3, e4, g1, g2, g3, g4, i1, i2, e]
end Go.VI.Mix
