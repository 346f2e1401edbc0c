import Derived.Test.YtegokpicloedeaaMixA
namespace Go.VI.Mix
set_option linter.unusedVariables false
set_option linter.unusedSimpArgs false

theorem ints_app (a b : List Int) : ints (a ++ b) = ints a ++ ints b := by simp [ints]
theorem ints_one (x : Int) : ints [x] = [.int .i64 x] := rfl

/-! Made -/
def madeS (xs : List Int) : List Int := (xs.take 40).map fun x => pickS x 65536 - 32767 - 1
theorem made_loop {h : Heap} {v : AV} {xs : List Int} (hv : Sl h 1 v (ints xs)) (hl : xs.length ≤ 9223372036854775807) (hi : ∀ x ∈ xs, okI x) (d : Nat) :
    ∀ (k : Nat), d = min 40 xs.length - k → k ≤ min 40 xs.length →
    runC lib ⟨h.length, h.length, 1, none⟩ (.loop b12_0) ([(0, v), (3, accV (h.length + 0) (0, .dead) 1 (ints ((madeS xs).take k))), (4, .int .i64 k)], h ++ [accB (0, .dead) 1 (ints ((madeS xs).take k))]) =
      some (.exit 0, ([(3, accV (h.length + 0) (0, .dead) 1 (ints (madeS xs)))], h ++ [accB (0, .dead) 1 (ints (madeS xs))])) := by
  have hml : (madeS xs).length = min 40 xs.length := by simp [madeS]
  induction d with
  | zero =>
    intro k hd hk
    rw [List.take_of_length_le (by omega), w_loop]
    by_cases h1 : (k : Int) < xs.length
    · have h2 : ¬ (k : Int) < 40 := by omega
      simp (maxSteps := 1000000) (disch := omega) only [go_sem, ↓reduceIte, Nat.reduceEqDiff, Nat.reduceAdd, Nat.reduceSub, Nat.reduceMul, Nat.reduceLT, Nat.reduceLeDiff, reduceCtorEq, Nat.succ_ne_self, ne_eq, not_true_eq_false, not_false_eq_true, and_self, and_true, true_and, Nat.zero_add, Nat.sub_zero, Nat.zero_mul, Nat.one_mul, Nat.le_refl, List.getElem?_cons_zero, List.set_cons_zero, Int.reduceToNat, Int.reduceLT, Int.reduceLE, Int.reduceAdd, Int.reduceSub, Int.reduceMul, Int.reduceEq, Int.reduceNe, Int.toNat_natCast, Int.natCast_zero, wrap_id, wrapu_id, wrapb_id, idx_ok, bin_quo, bin_rem, tdiv_id, tmod_id, ps_bptr, lenv_sl hv.len, ints_len, h1, h2]
    · simp (maxSteps := 1000000) (disch := omega) only [go_sem, ↓reduceIte, Nat.reduceEqDiff, Nat.reduceAdd, Nat.reduceSub, Nat.reduceMul, Nat.reduceLT, Nat.reduceLeDiff, reduceCtorEq, Nat.succ_ne_self, ne_eq, not_true_eq_false, not_false_eq_true, and_self, and_true, true_and, Nat.zero_add, Nat.sub_zero, Nat.zero_mul, Nat.one_mul, Nat.le_refl, List.getElem?_cons_zero, List.set_cons_zero, Int.reduceToNat, Int.reduceLT, Int.reduceLE, Int.reduceAdd, Int.reduceSub, Int.reduceMul, Int.reduceEq, Int.reduceNe, Int.toNat_natCast, Int.natCast_zero, wrap_id, wrapu_id, wrapb_id, idx_ok, bin_quo, bin_rem, tdiv_id, tmod_id, ps_bptr, lenv_sl hv.len, ints_len, h1]
  | succ d ih =>
    intro k hd hk
    have hk' : k < xs.length := by omega
    have h1 : (k : Int) < xs.length := by omega
    have h2 : (k : Int) < 40 := by omega
    have e3 : sidx 1 v (.int .i64 k) = some k := by rw [sidx_sl hv (by omega) (by simp; omega)]; simp
    have e4 := fun off fr => pc_iptr (off := off) (hv.elems fr) (show k < (ints xs).length by simp; omega)
    simp only [ints_get] at e4
    have hx' := hi xs[k] (List.getElem_mem _)
    have e := ih (k + 1) (by omega) (by omega)
    have hg : (madeS xs)[k]'(by omega) = pickS xs[k] 65536 - 32767 - 1 := by simp [madeS]
    rw [cast1, List.take_succ_eq_append_getElem (by omega), hg, ints_app, ints_one] at e
    obtain ⟨x, hx⟩ : ∃ x, x = xs[k] := ⟨_, rfl⟩
    rw [← hx] at e4 hx' e
    obtain ⟨i1, i2⟩ := hx'
    have p1 := pickS_bd (c := x) (n := 65536) (by omega)
    have e5 := app_acc (lo := h.length) (ns := 1) (s := 0) (z := 1) (lim := 17592186044416) (h := h) (fr := [accB (0, .dead) 1 (ints ((madeS xs).take k))]) (b0 := (0, .dead)) (es := ints ((madeS xs).take k)) (xs := [.int .i64 (pickS x 65536 - 32767 - 1)]) (by omega) (by omega) rfl (by simp; omega)
    rw [w_loop]
    simp (maxSteps := 1000000) (disch := omega) only [go_sem, ↓reduceIte, Nat.reduceEqDiff, Nat.reduceAdd, Nat.reduceSub, Nat.reduceMul, Nat.reduceLT, Nat.reduceLeDiff, reduceCtorEq, Nat.succ_ne_self, ne_eq, not_true_eq_false, not_false_eq_true, and_self, and_true, true_and, Nat.zero_add, Nat.sub_zero, Nat.zero_mul, Nat.one_mul, Nat.le_refl, List.getElem?_cons_zero, List.set_cons_zero, Int.reduceToNat, Int.reduceLT, Int.reduceLE, Int.reduceAdd, Int.reduceSub, Int.reduceMul, Int.reduceEq, Int.reduceNe, Int.toNat_natCast, Int.natCast_zero, wrap_id, wrapu_id, wrapb_id, idx_ok, bin_quo, bin_rem, tdiv_id, tmod_id, ps_bptr, lenv_sl hv.len, ints_len, h1, h2, e3, e4, pick33, e5, e]
theorem made_run {h : Heap} {v : AV} {xs : List Int} (hv : Sl h 1 v (ints xs)) (hl : xs.length ≤ 9223372036854775807) (hi : ∀ x ∈ xs, okI x) (lo : Nat) :
    (run lib).fn 12 [v] h lo = some (ownV 1 (ints (madeS xs)), h) := by
  have e := made_loop hv hl hi _ 0 rfl (by omega)
  simp only [Int.natCast_zero, List.take_zero, ints, List.map_nil, accV_nil, accB_nil] at e
  have e2 := giveRes_acc (s := 0) (z := 1) (h := h) (fr := [accB (0, .dead) 1 (ints (madeS xs))]) (b0 := (0, .dead)) (es := ints (madeS xs)) rfl
  simp only [ints] at e2 ⊢
  rw [run_closed (x := x12) rfl rfl rfl rfl]
  simp (maxSteps := 1000000) (disch := omega) only [go_sem, ↓reduceIte, Nat.reduceEqDiff, Nat.reduceAdd, Nat.reduceSub, Nat.reduceMul, Nat.reduceLT, Nat.reduceLeDiff, reduceCtorEq, Nat.succ_ne_self, ne_eq, not_true_eq_false, not_false_eq_true, and_self, and_true, true_and, Nat.zero_add, Nat.sub_zero, Nat.zero_mul, Nat.one_mul, Nat.le_refl, List.getElem?_cons_zero, List.set_cons_zero, Int.reduceToNat, Int.reduceLT, Int.reduceLE, Int.reduceAdd, Int.reduceSub, Int.reduceMul, Int.reduceEq, Int.reduceNe, Int.toNat_natCast, Int.natCast_zero, wrap_id, wrapu_id, wrapb_id, idx_ok, bin_quo, bin_rem, tdiv_id, tmod_id, ps_bptr, x12, e, e2]

/-! sound -/
def okS (x : Int) : Bool := decide (-32768 ≤ x) && decide (x ≤ 32767)
def soundB (l : List Int) : Bool := decide ((l.length : Int) ≤ 600) && l.all okS
theorem s55_run (x : Int) (h : Heap) (lo : Nat) : (run lib).fn 55 [.int .i64 x] h lo = some (.bool (!okS x), h) := by
  rw [run_closed (x := x55) rfl rfl rfl rfl]
  simp (maxSteps := 1000000) (disch := omega) only [go_sem, ↓reduceIte, Nat.reduceEqDiff, Nat.reduceAdd, Nat.reduceSub, Nat.reduceMul, Nat.reduceLT, Nat.reduceLeDiff, reduceCtorEq, Nat.succ_ne_self, ne_eq, not_true_eq_false, not_false_eq_true, and_self, and_true, true_and, Nat.zero_add, Nat.sub_zero, Nat.zero_mul, Nat.one_mul, Nat.le_refl, List.getElem?_cons_zero, List.set_cons_zero, Int.reduceToNat, Int.reduceLT, Int.reduceLE, Int.reduceAdd, Int.reduceSub, Int.reduceMul, Int.reduceEq, Int.reduceNe, Int.toNat_natCast, Int.natCast_zero, wrap_id, wrapu_id, wrapb_id, idx_ok, bin_quo, bin_rem, tdiv_id, tmod_id, ps_bptr, x55, between_run, okS]
theorem ix_loop {h : Heap} {v : AV} {l : List Int} (hv : Sl h 1 v (ints l)) (hl : l.length ≤ 9223372036854775807) (lo : Nat) (d : Nat) :
    ∀ k : Nat, d = l.length - k → k ≤ l.length → ∃ r : Int, (0 ≤ r ∧ runC lib ⟨lo, h.length, 0, none⟩ (.loop b57_0) ([(0, v), (1, .fn 55 []), (7, .int .i64 l.length), (8, .int .i64 k)], h) = some (.ret, ([(4, .int .i64 r)], h)) ∧ (l.drop k).all okS = false) ∨
      (runC lib ⟨lo, h.length, 0, none⟩ (.loop b57_0) ([(0, v), (1, .fn 55 []), (7, .int .i64 l.length), (8, .int .i64 k)], h) = some (.exit 0, ([], h)) ∧ (l.drop k).all okS = true) := by
  induction d with
  | zero =>
    intro k hd hk
    refine ⟨0, .inr ⟨?_, ?_⟩⟩
    · have : k = l.length := by omega
      subst this
      rw [w_loop]
      simp (maxSteps := 1000000) (disch := omega) only [go_sem, ↓reduceIte, Nat.reduceEqDiff, Nat.reduceAdd, Nat.reduceSub, Nat.reduceMul, Nat.reduceLT, Nat.reduceLeDiff, reduceCtorEq, Nat.succ_ne_self, ne_eq, not_true_eq_false, not_false_eq_true, and_self, and_true, true_and, Nat.zero_add, Nat.sub_zero, Nat.zero_mul, Nat.one_mul, Nat.le_refl, List.getElem?_cons_zero, List.set_cons_zero, Int.reduceToNat, Int.reduceLT, Int.reduceLE, Int.reduceAdd, Int.reduceSub, Int.reduceMul, Int.reduceEq, Int.reduceNe, Int.toNat_natCast, Int.natCast_zero, wrap_id, wrapu_id, wrapb_id, idx_ok, bin_quo, bin_rem, tdiv_id, tmod_id, ps_bptr, Int.lt_irrefl]
    · rw [List.drop_of_length_le (by omega)]; rfl
  | succ d ih =>
    intro k hd hk
    have hk' : k < l.length := by omega
    have h1 : (k : Int) < l.length := by omega
    have e3 : sidx 1 v (.int .i64 k) = some k := by rw [sidx_sl hv (by omega) (by simp; omega)]; simp
    have e4 := fun off => pc_iptr (off := off) hv.elems0 (show k < (ints l).length by simp; omega)
    simp only [ints_get] at e4
    rw [List.drop_eq_getElem_cons hk', List.all_cons]
    cases hb : okS l[k] with
    | false =>
      refine ⟨k, .inl ⟨by omega, ?_, rfl⟩⟩
      rw [w_loop]
      simp (maxSteps := 1000000) (disch := omega) only [go_sem, ↓reduceIte, Nat.reduceEqDiff, Nat.reduceAdd, Nat.reduceSub, Nat.reduceMul, Nat.reduceLT, Nat.reduceLeDiff, reduceCtorEq, Nat.succ_ne_self, ne_eq, not_true_eq_false, not_false_eq_true, and_self, and_true, true_and, Nat.zero_add, Nat.sub_zero, Nat.zero_mul, Nat.one_mul, Nat.le_refl, List.getElem?_cons_zero, List.set_cons_zero, Int.reduceToNat, Int.reduceLT, Int.reduceLE, Int.reduceAdd, Int.reduceSub, Int.reduceMul, Int.reduceEq, Int.reduceNe, Int.toNat_natCast, Int.natCast_zero, wrap_id, wrapu_id, wrapb_id, idx_ok, bin_quo, bin_rem, tdiv_id, tmod_id, ps_bptr, h1, e3, e4, s55_run, hb]
    | true =>
      obtain ⟨r, hr⟩ := ih (k + 1) (by omega) (by omega)
      rw [cast1] at hr
      rcases hr with ⟨h0, e, h2⟩ | ⟨e, h2⟩
      · refine ⟨r, .inl ⟨h0, ?_, by rw [h2]; rfl⟩⟩
        rw [w_loop]
        simp (maxSteps := 1000000) (disch := omega) only [go_sem, ↓reduceIte, Nat.reduceEqDiff, Nat.reduceAdd, Nat.reduceSub, Nat.reduceMul, Nat.reduceLT, Nat.reduceLeDiff, reduceCtorEq, Nat.succ_ne_self, ne_eq, not_true_eq_false, not_false_eq_true, and_self, and_true, true_and, Nat.zero_add, Nat.sub_zero, Nat.zero_mul, Nat.one_mul, Nat.le_refl, List.getElem?_cons_zero, List.set_cons_zero, Int.reduceToNat, Int.reduceLT, Int.reduceLE, Int.reduceAdd, Int.reduceSub, Int.reduceMul, Int.reduceEq, Int.reduceNe, Int.toNat_natCast, Int.natCast_zero, wrap_id, wrapu_id, wrapb_id, idx_ok, bin_quo, bin_rem, tdiv_id, tmod_id, ps_bptr, h1, e3, e4, s55_run, hb, e]
      · refine ⟨r, .inr ⟨?_, by rw [h2]; rfl⟩⟩
        rw [w_loop]
        simp (maxSteps := 1000000) (disch := omega) only [go_sem, ↓reduceIte, Nat.reduceEqDiff, Nat.reduceAdd, Nat.reduceSub, Nat.reduceMul, Nat.reduceLT, Nat.reduceLeDiff, reduceCtorEq, Nat.succ_ne_self, ne_eq, not_true_eq_false, not_false_eq_true, and_self, and_true, true_and, Nat.zero_add, Nat.sub_zero, Nat.zero_mul, Nat.one_mul, Nat.le_refl, List.getElem?_cons_zero, List.set_cons_zero, Int.reduceToNat, Int.reduceLT, Int.reduceLE, Int.reduceAdd, Int.reduceSub, Int.reduceMul, Int.reduceEq, Int.reduceNe, Int.toNat_natCast, Int.natCast_zero, wrap_id, wrapu_id, wrapb_id, idx_ok, bin_quo, bin_rem, tdiv_id, tmod_id, ps_bptr, h1, e3, e4, s55_run, hb, e]
theorem cf_run {h : Heap} {v : AV} {l : List Int} (hv : Sl h 1 v (ints l)) (hl : l.length ≤ 9223372036854775807) (lo : Nat) : (run lib).fn 54 [v, .fn 55 []] h lo = some (.bool (!(l.all okS)), h) := by
  have key : ∃ r : Int, (run lib).fn 57 [v, .fn 55 []] h h.length = some (.int .i64 r, h) ∧ (0 ≤ r ↔ l.all okS = false) := by
    obtain ⟨r, hr⟩ := ix_loop hv hl h.length _ 0 rfl (by omega)
    simp only [Int.natCast_zero, List.drop_zero] at hr
    rcases hr with ⟨h0, e, h2⟩ | ⟨e, h2⟩
    · refine ⟨r, ?_, by simp [h0, h2]⟩
      rw [run_closed (x := x57) rfl rfl rfl rfl]
      simp (maxSteps := 1000000) (disch := omega) only [go_sem, ↓reduceIte, Nat.reduceEqDiff, Nat.reduceAdd, Nat.reduceSub, Nat.reduceMul, Nat.reduceLT, Nat.reduceLeDiff, reduceCtorEq, Nat.succ_ne_self, ne_eq, not_true_eq_false, not_false_eq_true, and_self, and_true, true_and, Nat.zero_add, Nat.sub_zero, Nat.zero_mul, Nat.one_mul, Nat.le_refl, List.getElem?_cons_zero, List.set_cons_zero, Int.reduceToNat, Int.reduceLT, Int.reduceLE, Int.reduceAdd, Int.reduceSub, Int.reduceMul, Int.reduceEq, Int.reduceNe, Int.toNat_natCast, Int.natCast_zero, wrap_id, wrapu_id, wrapb_id, idx_ok, bin_quo, bin_rem, tdiv_id, tmod_id, ps_bptr, x57, lenv_sl hv.len, ints_len, e]
    · refine ⟨-1, ?_, by simp [h2]⟩
      rw [run_closed (x := x57) rfl rfl rfl rfl]
      simp (maxSteps := 1000000) (disch := omega) only [go_sem, ↓reduceIte, Nat.reduceEqDiff, Nat.reduceAdd, Nat.reduceSub, Nat.reduceMul, Nat.reduceLT, Nat.reduceLeDiff, reduceCtorEq, Nat.succ_ne_self, ne_eq, not_true_eq_false, not_false_eq_true, and_self, and_true, true_and, Nat.zero_add, Nat.sub_zero, Nat.zero_mul, Nat.one_mul, Nat.le_refl, List.getElem?_cons_zero, List.set_cons_zero, Int.reduceToNat, Int.reduceLT, Int.reduceLE, Int.reduceAdd, Int.reduceSub, Int.reduceMul, Int.reduceEq, Int.reduceNe, Int.toNat_natCast, Int.natCast_zero, wrap_id, wrapu_id, wrapb_id, idx_ok, bin_quo, bin_rem, tdiv_id, tmod_id, ps_bptr, x57, lenv_sl hv.len, ints_len, e]
  obtain ⟨r, e, h1⟩ := key
  rw [run_closed (x := x54) rfl rfl rfl rfl]
  cases hb : l.all okS with
  | false => have := h1.mpr hb; simp (maxSteps := 1000000) (disch := omega) only [go_sem, ↓reduceIte, Nat.reduceEqDiff, Nat.reduceAdd, Nat.reduceSub, Nat.reduceMul, Nat.reduceLT, Nat.reduceLeDiff, reduceCtorEq, Nat.succ_ne_self, ne_eq, not_true_eq_false, not_false_eq_true, and_self, and_true, true_and, Nat.zero_add, Nat.sub_zero, Nat.zero_mul, Nat.one_mul, Nat.le_refl, List.getElem?_cons_zero, List.set_cons_zero, Int.reduceToNat, Int.reduceLT, Int.reduceLE, Int.reduceAdd, Int.reduceSub, Int.reduceMul, Int.reduceEq, Int.reduceNe, Int.toNat_natCast, Int.natCast_zero, wrap_id, wrapu_id, wrapb_id, idx_ok, bin_quo, bin_rem, tdiv_id, tmod_id, ps_bptr, x54, e, this]
  | true => have : ¬ 0 ≤ r := by rw [h1, hb]; simp
            simp (maxSteps := 1000000) (disch := omega) only [go_sem, ↓reduceIte, Nat.reduceEqDiff, Nat.reduceAdd, Nat.reduceSub, Nat.reduceMul, Nat.reduceLT, Nat.reduceLeDiff, reduceCtorEq, Nat.succ_ne_self, ne_eq, not_true_eq_false, not_false_eq_true, and_self, and_true, true_and, Nat.zero_add, Nat.sub_zero, Nat.zero_mul, Nat.one_mul, Nat.le_refl, List.getElem?_cons_zero, List.set_cons_zero, Int.reduceToNat, Int.reduceLT, Int.reduceLE, Int.reduceAdd, Int.reduceSub, Int.reduceMul, Int.reduceEq, Int.reduceNe, Int.toNat_natCast, Int.natCast_zero, wrap_id, wrapu_id, wrapb_id, idx_ok, bin_quo, bin_rem, tdiv_id, tmod_id, ps_bptr, x54, e, this]
theorem sound_run {h : Heap} {v : AV} {l : List Int} (hv : Sl h 1 v (ints l)) (hl : l.length ≤ 9223372036854775807) (lo : Nat) : (run lib).fn 43 [v] h lo = some (.bool (soundB l), h) := by
  have e := cf_run hv hl h.length
  rw [run_closed (x := x43) rfl rfl rfl rfl]
  unfold soundB
  by_cases h1 : (l.length : Int) ≤ 600
  · simp (maxSteps := 1000000) (disch := omega) only [go_sem, ↓reduceIte, Nat.reduceEqDiff, Nat.reduceAdd, Nat.reduceSub, Nat.reduceMul, Nat.reduceLT, Nat.reduceLeDiff, reduceCtorEq, Nat.succ_ne_self, ne_eq, not_true_eq_false, not_false_eq_true, and_self, and_true, true_and, Nat.zero_add, Nat.sub_zero, Nat.zero_mul, Nat.one_mul, Nat.le_refl, List.getElem?_cons_zero, List.set_cons_zero, Int.reduceToNat, Int.reduceLT, Int.reduceLE, Int.reduceAdd, Int.reduceSub, Int.reduceMul, Int.reduceEq, Int.reduceNe, Int.toNat_natCast, Int.natCast_zero, wrap_id, wrapu_id, wrapb_id, idx_ok, bin_quo, bin_rem, tdiv_id, tmod_id, ps_bptr, x43, lenv_sl hv.len, ints_len, h1, e, Bool.not_not]
  · simp (maxSteps := 1000000) (disch := omega) only [go_sem, ↓reduceIte, Nat.reduceEqDiff, Nat.reduceAdd, Nat.reduceSub, Nat.reduceMul, Nat.reduceLT, Nat.reduceLeDiff, reduceCtorEq, Nat.succ_ne_self, ne_eq, not_true_eq_false, not_false_eq_true, and_self, and_true, true_and, Nat.zero_add, Nat.sub_zero, Nat.zero_mul, Nat.one_mul, Nat.le_refl, List.getElem?_cons_zero, List.set_cons_zero, Int.reduceToNat, Int.reduceLT, Int.reduceLE, Int.reduceAdd, Int.reduceSub, Int.reduceMul, Int.reduceEq, Int.reduceNe, Int.toNat_natCast, Int.natCast_zero, wrap_id, wrapu_id, wrapb_id, idx_ok, bin_quo, bin_rem, tdiv_id, tmod_id, ps_bptr, x43, lenv_sl hv.len, ints_len, h1]

/-! round, at, back, Ints -/
def roundS (x : Int) : Int := min (max ((x + 512) / 1024) (-32768)) 32767
theorem round_run (x : Int) (h : Heap) (lo : Nat) (h1 : -900000000000 ≤ x) (h2 : x ≤ 900000000000) : (run lib).fn 41 [.int .i64 x] h lo = some (.int .i64 (roundS x), h) := by
  rw [run_closed (x := x41) rfl rfl rfl rfl]
  simp (maxSteps := 1000000) (disch := omega) only [go_sem, ↓reduceIte, Nat.reduceEqDiff, Nat.reduceAdd, Nat.reduceSub, Nat.reduceMul, Nat.reduceLT, Nat.reduceLeDiff, reduceCtorEq, Nat.succ_ne_self, ne_eq, not_true_eq_false, not_false_eq_true, and_self, and_true, true_and, Nat.zero_add, Nat.sub_zero, Nat.zero_mul, Nat.one_mul, Nat.le_refl, List.getElem?_cons_zero, List.set_cons_zero, Int.reduceToNat, Int.reduceLT, Int.reduceLE, Int.reduceAdd, Int.reduceSub, Int.reduceMul, Int.reduceEq, Int.reduceNe, Int.toNat_natCast, Int.natCast_zero, wrap_id, wrapu_id, wrapb_id, idx_ok, bin_quo, bin_rem, tdiv_id, tmod_id, ps_bptr, x41, down_run, roundS]
def atS (l : List Int) (k : Int) : Int := if 0 ≤ k then l.getD k.toNat 0 else 0
theorem at_run {h : Heap} {v : AV} {l : List Int} (hv : Sl h 1 v (ints l)) (hl : l.length ≤ 9223372036854775807) (k : Int) (lo : Nat) : (run lib).fn 31 [v, .int .i64 k] h lo = some (.int .i64 (atS l k), h) := by
  rw [run_closed (x := x31) rfl rfl rfl rfl]
  unfold atS
  by_cases h1 : k < 0
  · have : ¬ 0 ≤ k := by omega
    simp (maxSteps := 1000000) (disch := omega) only [go_sem, ↓reduceIte, Nat.reduceEqDiff, Nat.reduceAdd, Nat.reduceSub, Nat.reduceMul, Nat.reduceLT, Nat.reduceLeDiff, reduceCtorEq, Nat.succ_ne_self, ne_eq, not_true_eq_false, not_false_eq_true, and_self, and_true, true_and, Nat.zero_add, Nat.sub_zero, Nat.zero_mul, Nat.one_mul, Nat.le_refl, List.getElem?_cons_zero, List.set_cons_zero, Int.reduceToNat, Int.reduceLT, Int.reduceLE, Int.reduceAdd, Int.reduceSub, Int.reduceMul, Int.reduceEq, Int.reduceNe, Int.toNat_natCast, Int.natCast_zero, wrap_id, wrapu_id, wrapb_id, idx_ok, bin_quo, bin_rem, tdiv_id, tmod_id, ps_bptr, x31, h1, this]
  · have h0 : 0 ≤ k := by omega
    by_cases h2 : (l.length : Int) ≤ k
    · have h3 : l.getD k.toNat 0 = 0 := by rw [List.getD_eq_getElem?_getD, List.getElem?_eq_none (by omega)]; rfl
      simp (maxSteps := 1000000) (disch := omega) only [go_sem, ↓reduceIte, Nat.reduceEqDiff, Nat.reduceAdd, Nat.reduceSub, Nat.reduceMul, Nat.reduceLT, Nat.reduceLeDiff, reduceCtorEq, Nat.succ_ne_self, ne_eq, not_true_eq_false, not_false_eq_true, and_self, and_true, true_and, Nat.zero_add, Nat.sub_zero, Nat.zero_mul, Nat.one_mul, Nat.le_refl, List.getElem?_cons_zero, List.set_cons_zero, Int.reduceToNat, Int.reduceLT, Int.reduceLE, Int.reduceAdd, Int.reduceSub, Int.reduceMul, Int.reduceEq, Int.reduceNe, Int.toNat_natCast, Int.natCast_zero, wrap_id, wrapu_id, wrapb_id, idx_ok, bin_quo, bin_rem, tdiv_id, tmod_id, ps_bptr, x31, lenv_sl hv.len, ints_len, h1, h2, h0, h3]
    · have hk : k.toNat < l.length := by omega
      have e3 : sidx 1 v (.int .i64 k) = some k.toNat := sidx_sl hv (by omega) (by simp; omega)
      have e4 := pc_iptr (off := 0) hv.elems0 (show k.toNat < (ints l).length by simp; omega)
      simp only [ints_get] at e4
      have h3 : l.getD k.toNat 0 = l[k.toNat] := by rw [List.getD_eq_getElem?_getD, List.getElem?_eq_getElem hk]; rfl
      simp (maxSteps := 1000000) (disch := omega) only [go_sem, ↓reduceIte, Nat.reduceEqDiff, Nat.reduceAdd, Nat.reduceSub, Nat.reduceMul, Nat.reduceLT, Nat.reduceLeDiff, reduceCtorEq, Nat.succ_ne_self, ne_eq, not_true_eq_false, not_false_eq_true, and_self, and_true, true_and, Nat.zero_add, Nat.sub_zero, Nat.zero_mul, Nat.one_mul, Nat.le_refl, List.getElem?_cons_zero, List.set_cons_zero, Int.reduceToNat, Int.reduceLT, Int.reduceLE, Int.reduceAdd, Int.reduceSub, Int.reduceMul, Int.reduceEq, Int.reduceNe, Int.toNat_natCast, Int.natCast_zero, wrap_id, wrapu_id, wrapb_id, idx_ok, bin_quo, bin_rem, tdiv_id, tmod_id, ps_bptr, x31, lenv_sl hv.len, ints_len, h1, h2, h0, h3, e3, e4]
theorem back_loop {h : Heap} {v : AV} {l : List Int} (hv : Sl h 1 v (ints l)) (hl : l.length ≤ 1000000) (k : Nat) :
    ∀ (es : List Int), k ≤ l.length → es.length + k ≤ 1000000 →
    runC lib ⟨h.length, h.length, 1, none⟩ (.loop b32_0) ([(0, v), (3, accV (h.length + 0) (0, .dead) 1 (ints es)), (4, .int .i64 ((k : Int) - 1))], h ++ [accB (0, .dead) 1 (ints es)]) =
      some (.exit 0, ([(3, accV (h.length + 0) (0, .dead) 1 (ints (es ++ (l.take k).reverse)))], h ++ [accB (0, .dead) 1 (ints (es ++ (l.take k).reverse))])) := by
  induction k with
  | zero =>
    intro es hk he
    rw [w_loop]
    simp (maxSteps := 1000000) (disch := omega) only [go_sem, ↓reduceIte, Nat.reduceEqDiff, Nat.reduceAdd, Nat.reduceSub, Nat.reduceMul, Nat.reduceLT, Nat.reduceLeDiff, reduceCtorEq, Nat.succ_ne_self, ne_eq, not_true_eq_false, not_false_eq_true, and_self, and_true, true_and, Nat.zero_add, Nat.sub_zero, Nat.zero_mul, Nat.one_mul, Nat.le_refl, List.getElem?_cons_zero, List.set_cons_zero, Int.reduceToNat, Int.reduceLT, Int.reduceLE, Int.reduceAdd, Int.reduceSub, Int.reduceMul, Int.reduceEq, Int.reduceNe, Int.toNat_natCast, Int.natCast_zero, wrap_id, wrapu_id, wrapb_id, idx_ok, bin_quo, bin_rem, tdiv_id, tmod_id, ps_bptr, Int.natCast_zero, List.take_zero, List.reverse_nil, List.append_nil]
  | succ k ih =>
    intro es hk he
    have c1 : (0 : Int) ≤ (k + 1 : Nat) - 1 := by omega
    have c2 : (((k + 1 : Nat) : Int) - 1) = k := by omega
    have e3 : sidx 1 v (.int .i64 k) = some k := by rw [sidx_sl hv (by omega) (by simp; omega)]; simp
    have e4 := fun off fr => pc_iptr (off := off) (hv.elems fr) (show k < (ints l).length by simp; omega)
    simp only [ints_get] at e4
    have e := ih (es ++ [l[k]]) (by omega) (by simp; omega)
    rw [List.append_assoc, List.singleton_append, ints_app es [l[k]], ints_one] at e
    have hr : (l.take (k + 1)).reverse = l[k] :: (l.take k).reverse := by rw [List.take_succ_eq_append_getElem (by omega), List.reverse_append]; rfl
    have e5 := app_acc (lo := h.length) (ns := 1) (s := 0) (z := 1) (lim := 17592186044416) (h := h) (fr := [accB (0, .dead) 1 (ints es)]) (b0 := (0, .dead)) (es := ints es) (xs := [.int .i64 l[k]]) (by omega) (by omega) rfl (by simp; omega)
    rw [hr, w_loop, c2]
    have c3 : (0 : Int) ≤ k := by omega
    simp (maxSteps := 1000000) (disch := omega) only [go_sem, ↓reduceIte, Nat.reduceEqDiff, Nat.reduceAdd, Nat.reduceSub, Nat.reduceMul, Nat.reduceLT, Nat.reduceLeDiff, reduceCtorEq, Nat.succ_ne_self, ne_eq, not_true_eq_false, not_false_eq_true, and_self, and_true, true_and, Nat.zero_add, Nat.sub_zero, Nat.zero_mul, Nat.one_mul, Nat.le_refl, List.getElem?_cons_zero, List.set_cons_zero, Int.reduceToNat, Int.reduceLT, Int.reduceLE, Int.reduceAdd, Int.reduceSub, Int.reduceMul, Int.reduceEq, Int.reduceNe, Int.toNat_natCast, Int.natCast_zero, wrap_id, wrapu_id, wrapb_id, idx_ok, bin_quo, bin_rem, tdiv_id, tmod_id, ps_bptr, c3, e3, e4, e5, e]
theorem back_run {h : Heap} {v : AV} {l : List Int} (hv : Sl h 1 v (ints l)) (hl : l.length ≤ 100000) (lo : Nat) : (run lib).fn 32 [v] h lo = some (ownV 1 (ints l.reverse), h) := by
  have e := back_loop hv (by omega) l.length [] (by omega) (by simp; omega)
  rw [List.take_length, List.nil_append] at e
  simp only [ints, List.map_nil, accV_nil, accB_nil] at e
  have e2 := giveRes_acc (s := 0) (z := 1) (h := h) (fr := [accB (0, .dead) 1 (ints l.reverse)]) (b0 := (0, .dead)) (es := ints l.reverse) rfl
  simp only [ints] at e2 ⊢
  have hl2 := lenv_sl hv.len
  rw [ints_len] at hl2
  rw [run_closed (x := x32) rfl rfl rfl rfl]
  simp (maxSteps := 1000000) (disch := omega) only [go_sem, ↓reduceIte, Nat.reduceEqDiff, Nat.reduceAdd, Nat.reduceSub, Nat.reduceMul, Nat.reduceLT, Nat.reduceLeDiff, reduceCtorEq, Nat.succ_ne_self, ne_eq, not_true_eq_false, not_false_eq_true, and_self, and_true, true_and, Nat.zero_add, Nat.sub_zero, Nat.zero_mul, Nat.one_mul, Nat.le_refl, List.getElem?_cons_zero, List.set_cons_zero, Int.reduceToNat, Int.reduceLT, Int.reduceLE, Int.reduceAdd, Int.reduceSub, Int.reduceMul, Int.reduceEq, Int.reduceNe, Int.toNat_natCast, Int.natCast_zero, wrap_id, wrapu_id, wrapb_id, idx_ok, bin_quo, bin_rem, tdiv_id, tmod_id, ps_bptr, x32, hl2, e, e2]
theorem ints_loop {h : Heap} {v u : AV} {l m : List Int} (hv : Sl h 1 v (ints l)) (hu : Sl h 1 u (ints m)) (hl : l.length ≤ 9223372036854775807) (hm : l.length = m.length) (lo : Nat) (d : Nat) :
    ∀ k : Nat, d = l.length - k → k ≤ l.length → runC lib ⟨lo, h.length, 0, none⟩ (.loop b24_0) ([(0, v), (1, u), (5, .int .i64 k)], h) = if l.drop k = m.drop k then some (.exit 0, ([], h)) else some (.ret, ([(4, .bool false)], h)) := by
  induction d with
  | zero =>
    intro k hd hk
    have : k = l.length := by omega
    subst this
    rw [List.drop_length, hm, List.drop_length, if_pos rfl, ← hm, w_loop]
    simp (maxSteps := 1000000) (disch := omega) only [go_sem, ↓reduceIte, Nat.reduceEqDiff, Nat.reduceAdd, Nat.reduceSub, Nat.reduceMul, Nat.reduceLT, Nat.reduceLeDiff, reduceCtorEq, Nat.succ_ne_self, ne_eq, not_true_eq_false, not_false_eq_true, and_self, and_true, true_and, Nat.zero_add, Nat.sub_zero, Nat.zero_mul, Nat.one_mul, Nat.le_refl, List.getElem?_cons_zero, List.set_cons_zero, Int.reduceToNat, Int.reduceLT, Int.reduceLE, Int.reduceAdd, Int.reduceSub, Int.reduceMul, Int.reduceEq, Int.reduceNe, Int.toNat_natCast, Int.natCast_zero, wrap_id, wrapu_id, wrapb_id, idx_ok, bin_quo, bin_rem, tdiv_id, tmod_id, ps_bptr, lenv_sl hv.len, ints_len, Int.lt_irrefl]
  | succ d ih =>
    intro k hd hk
    have hk' : k < l.length := by omega
    have hkm : k < m.length := by omega
    have h1 : (k : Int) < l.length := by omega
    have e3 : sidx 1 v (.int .i64 k) = some k := by rw [sidx_sl hv (by omega) (by simp; omega)]; simp
    have e4 := fun off => pc_iptr (off := off) hv.elems0 (show k < (ints l).length by simp; omega)
    have f3 : sidx 1 u (.int .i64 k) = some k := by rw [sidx_sl hu (by omega) (by simp; omega)]; simp
    have f4 := fun off => pc_iptr (off := off) hu.elems0 (show k < (ints m).length by simp; omega)
    simp only [ints_get] at e4 f4
    rw [List.drop_eq_getElem_cons hk', List.drop_eq_getElem_cons hkm]
    have e := ih (k + 1) (by omega) (by omega)
    rw [cast1] at e
    rw [w_loop]
    by_cases hx : l[k] = m[k]
    · simp (maxSteps := 1000000) (disch := omega) only [go_sem, ↓reduceIte, Nat.reduceEqDiff, Nat.reduceAdd, Nat.reduceSub, Nat.reduceMul, Nat.reduceLT, Nat.reduceLeDiff, reduceCtorEq, Nat.succ_ne_self, ne_eq, not_true_eq_false, not_false_eq_true, and_self, and_true, true_and, Nat.zero_add, Nat.sub_zero, Nat.zero_mul, Nat.one_mul, Nat.le_refl, List.getElem?_cons_zero, List.set_cons_zero, Int.reduceToNat, Int.reduceLT, Int.reduceLE, Int.reduceAdd, Int.reduceSub, Int.reduceMul, Int.reduceEq, Int.reduceNe, Int.toNat_natCast, Int.natCast_zero, wrap_id, wrapu_id, wrapb_id, idx_ok, bin_quo, bin_rem, tdiv_id, tmod_id, ps_bptr, lenv_sl hv.len, ints_len, h1, e3, e4, f3, f4, hx, e, List.cons.injEq]
    · simp (maxSteps := 1000000) (disch := omega) only [go_sem, ↓reduceIte, Nat.reduceEqDiff, Nat.reduceAdd, Nat.reduceSub, Nat.reduceMul, Nat.reduceLT, Nat.reduceLeDiff, reduceCtorEq, Nat.succ_ne_self, ne_eq, not_true_eq_false, not_false_eq_true, and_self, and_true, true_and, Nat.zero_add, Nat.sub_zero, Nat.zero_mul, Nat.one_mul, Nat.le_refl, List.getElem?_cons_zero, List.set_cons_zero, Int.reduceToNat, Int.reduceLT, Int.reduceLE, Int.reduceAdd, Int.reduceSub, Int.reduceMul, Int.reduceEq, Int.reduceNe, Int.toNat_natCast, Int.natCast_zero, wrap_id, wrapu_id, wrapb_id, idx_ok, bin_quo, bin_rem, tdiv_id, tmod_id, ps_bptr, lenv_sl hv.len, ints_len, h1, e3, e4, f3, f4, hx, List.cons.injEq, false_and]
theorem Ints_run {h : Heap} {v u : AV} {l m : List Int} (hv : Sl h 1 v (ints l)) (hu : Sl h 1 u (ints m)) (hl : l.length ≤ 9223372036854775807) (lo : Nat) : (run lib).fn 24 [v, u] h lo = some (.bool (decide (l = m)), h) := by
  rw [run_closed (x := x24) rfl rfl rfl rfl]
  by_cases h1 : l.length = m.length
  · have e := ints_loop hv hu hl h1 h.length _ 0 rfl (by omega)
    simp only [Int.natCast_zero, List.drop_zero] at e
    have h2 : (l.length : Int) = m.length := by omega
    by_cases h3 : l = m
    · rw [if_pos h3] at e
      simp (maxSteps := 1000000) (disch := omega) only [go_sem, ↓reduceIte, Nat.reduceEqDiff, Nat.reduceAdd, Nat.reduceSub, Nat.reduceMul, Nat.reduceLT, Nat.reduceLeDiff, reduceCtorEq, Nat.succ_ne_self, ne_eq, not_true_eq_false, not_false_eq_true, and_self, and_true, true_and, Nat.zero_add, Nat.sub_zero, Nat.zero_mul, Nat.one_mul, Nat.le_refl, List.getElem?_cons_zero, List.set_cons_zero, Int.reduceToNat, Int.reduceLT, Int.reduceLE, Int.reduceAdd, Int.reduceSub, Int.reduceMul, Int.reduceEq, Int.reduceNe, Int.toNat_natCast, Int.natCast_zero, wrap_id, wrapu_id, wrapb_id, idx_ok, bin_quo, bin_rem, tdiv_id, tmod_id, ps_bptr, x24, lenv_sl hv.len, lenv_sl hu.len, ints_len, h2, e, h3]
    · rw [if_neg h3] at e
      simp (maxSteps := 1000000) (disch := omega) only [go_sem, ↓reduceIte, Nat.reduceEqDiff, Nat.reduceAdd, Nat.reduceSub, Nat.reduceMul, Nat.reduceLT, Nat.reduceLeDiff, reduceCtorEq, Nat.succ_ne_self, ne_eq, not_true_eq_false, not_false_eq_true, and_self, and_true, true_and, Nat.zero_add, Nat.sub_zero, Nat.zero_mul, Nat.one_mul, Nat.le_refl, List.getElem?_cons_zero, List.set_cons_zero, Int.reduceToNat, Int.reduceLT, Int.reduceLE, Int.reduceAdd, Int.reduceSub, Int.reduceMul, Int.reduceEq, Int.reduceNe, Int.toNat_natCast, Int.natCast_zero, wrap_id, wrapu_id, wrapb_id, idx_ok, bin_quo, bin_rem, tdiv_id, tmod_id, ps_bptr, x24, lenv_sl hv.len, lenv_sl hu.len, ints_len, h2, e, h3]
  · have h2 : ¬ (l.length : Int) = m.length := by omega
    have h3 : ¬ l = m := by rintro rfl; exact h1 rfl
    simp (maxSteps := 1000000) (disch := omega) only [go_sem, ↓reduceIte, Nat.reduceEqDiff, Nat.reduceAdd, Nat.reduceSub, Nat.reduceMul, Nat.reduceLT, Nat.reduceLeDiff, reduceCtorEq, Nat.succ_ne_self, ne_eq, not_true_eq_false, not_false_eq_true, and_self, and_true, true_and, Nat.zero_add, Nat.sub_zero, Nat.zero_mul, Nat.one_mul, Nat.le_refl, List.getElem?_cons_zero, List.set_cons_zero, Int.reduceToNat, Int.reduceLT, Int.reduceLE, Int.reduceAdd, Int.reduceSub, Int.reduceMul, Int.reduceEq, Int.reduceNe, Int.toNat_natCast, Int.natCast_zero, wrap_id, wrapu_id, wrapb_id, idx_ok, bin_quo, bin_rem, tdiv_id, tmod_id, ps_bptr, x24, lenv_sl hv.len, lenv_sl hu.len, ints_len, h2, h3]
end Go.VI.Mix
namespace Go.VI.Mix
set_option linter.unusedVariables false
set_option linter.unusedSimpArgs false

/-! add -/
def padS (l : List Int) (at' : Nat) : List Int := l ++ List.replicate (at' + 1 - l.length) 0
def addAt (l : List Int) (at' : Nat) (x : Int) : List Int := (padS l at').set at' ((padS l at').getD at' 0 + x)
theorem padS_len (l : List Int) (a : Nat) : (padS l a).length = max l.length (a + 1) := by simp [padS]; omega
theorem addAt_len (l : List Int) (a : Nat) (x : Int) : (addAt l a x).length = max l.length (a + 1) := by simp [addAt, padS_len]
theorem padS_snoc {l : List Int} {a : Nat} (h : l.length ≤ a) : padS l a = padS (l ++ [0]) a := by
  unfold padS
  have : a + 1 - l.length = (a + 1 - (l ++ [0]).length) + 1 := by simp; omega
  rw [this, List.replicate_succ, List.append_assoc]; rfl
theorem padS_id {l : List Int} {a : Nat} (h : a < l.length) : padS l a = l := by
  unfold padS
  have : a + 1 - l.length = 0 := by omega
  rw [this]; simp
theorem padS_getD (l : List Int) (a i : Nat) : (padS l a).getD i 0 = l.getD i 0 := by
  unfold padS
  simp only [List.getD_eq_getElem?_getD, List.getElem?_append, List.getElem?_replicate]
  by_cases h : i < l.length
  · simp [h]
  · rw [if_neg h, List.getElem?_eq_none (by omega)]
    split <;> rfl
theorem addAt_getD (l : List Int) (a : Nat) (x : Int) (i : Nat) : (addAt l a x).getD i 0 = l.getD i 0 + if i = a then x else 0 := by
  unfold addAt
  by_cases h : i = a
  · subst h
    have : i < (padS l i).length := by rw [padS_len]; omega
    rw [List.getD_eq_getElem?_getD, List.getElem?_set_self this, if_pos rfl, Option.getD_some, padS_getD]
  · rw [List.getD_eq_getElem?_getD, List.getElem?_set_ne (fun e => h e.symm), ← List.getD_eq_getElem?_getD, padS_getD, if_neg h]; omega
/-- All within a bound. -/
def bnd' (M : Int) (l : List Int) : Prop := ∀ x ∈ l, -M ≤ x ∧ x ≤ M
theorem bnd'_getD {M : Int} {l : List Int} (h : bnd' M l) (hM : 0 ≤ M) (i : Nat) : -M ≤ l.getD i 0 ∧ l.getD i 0 ≤ M := by
  rw [List.getD_eq_getElem?_getD]
  cases hi : l[i]? with
  | none => simp; omega
  | some x => exact h x (List.mem_of_getElem? hi)
theorem bnd'_of {M : Int} {l : List Int} (h : ∀ i, -M ≤ l.getD i 0 ∧ l.getD i 0 ≤ M) : bnd' M l := by
  intro x hx
  obtain ⟨i, hi⟩ := List.getElem?_of_mem hx
  have := h i
  rwa [List.getD_eq_getElem?_getD, hi] at this
theorem addAt_bnd {M D : Int} {l : List Int} {a : Nat} {x : Int} (h : bnd' M l) (hM : 0 ≤ M) (hD : -D ≤ x ∧ x ≤ D) : bnd' (M + D) (addAt l a x) := by
  refine bnd'_of fun i => ?_
  rw [addAt_getD]
  have := bnd'_getD h hM i
  split <;> omega

theorem add_loop {h : Heap} {id ver lo : Nat} (hlo : lo ≤ id) (a : Nat) (ha : a ≤ 100000) (x : Int) (v0 : Nat) (b0 : Blk) (d : Nat) :
    ∀ (hp : Heap) (es : List Int), d = a + 1 - es.length → hp[id]? = some (ver, .arr 1 (ints es)) → es.length ≤ 200000 →
    runC lib ⟨lo, hp.length, 1, none⟩ (.loop b40_0) ([(0, .ref id ver 1 0 es.length es.length), (1, .int .i64 a), (2, .int .i64 x)], hp ++ [(v0, b0)]) =
      some (.exit 0, ([(0, .ref id ver 1 0 (padS es a).length (padS es a).length), (1, .int .i64 a), (2, .int .i64 x)], hp.set id (ver, .arr 1 (ints (padS es a))) ++ [(v0, b0)])) := by
  induction d with
  | zero =>
    intro hp es hd hb hl
    have c1 : ¬ (es.length : Int) ≤ a := by omega
    rw [padS_id (by omega), set_same hb, w_loop]
    have hv := Sl.refAt hb
    rw [ints_len] at hv
    simp (maxSteps := 1000000) (disch := omega) only [go_sem, ↓reduceIte, Nat.reduceEqDiff, Nat.reduceAdd, Nat.reduceSub, Nat.reduceMul, Nat.reduceLT, Nat.reduceLeDiff, reduceCtorEq, Nat.succ_ne_self, ne_eq, not_true_eq_false, not_false_eq_true, and_self, and_true, true_and, Nat.zero_add, Nat.sub_zero, Nat.zero_mul, Nat.one_mul, Nat.le_refl, List.getElem?_cons_zero, List.set_cons_zero, Int.reduceToNat, Int.reduceLT, Int.reduceLE, Int.reduceAdd, Int.reduceSub, Int.reduceMul, Int.reduceEq, Int.reduceNe, Int.toNat_natCast, Int.natCast_zero, wrap_id, wrapu_id, wrapb_id, idx_ok, bin_quo, bin_rem, tdiv_id, tmod_id, ps_bptr, lenv_sl hv.len, ints_len, c1]
  | succ d ih =>
    intro hp es hd hb hl
    have c1 : (es.length : Int) ≤ a := by omega
    have hv := Sl.refAt hb
    rw [ints_len] at hv
    have hlt := (List.getElem?_eq_some_iff.mp hb).1
    have e := ih (hp.set id (ver, .arr 1 (ints (es ++ [0])))) (es ++ [0]) (by simp; omega) (List.getElem?_set_self hlt) (by simp; omega)
    rw [List.length_set, ← padS_snoc (by omega), List.set_set] at e
    have e5 := app_ref (cx := ⟨lo, hp.length, 1, none⟩) (s := 0) (z := 1) (lim := 17592186044416) (xs := [.int .i64 0]) (get_pre (fr := [(v0, b0)]) hb) hlo (by simp; omega)
    rw [set_pre _ hb, ints_len, ← ints_one, ← ints_app] at e5
    simp only [ints_one, List.length_cons, List.length_nil, Nat.zero_add] at e5
    simp only [List.length_append, List.length_cons, List.length_nil, Nat.zero_add] at e
    rw [w_loop]
    simp (maxSteps := 1000000) (disch := omega) only [go_sem, ↓reduceIte, Nat.reduceEqDiff, Nat.reduceAdd, Nat.reduceSub, Nat.reduceMul, Nat.reduceLT, Nat.reduceLeDiff, reduceCtorEq, Nat.succ_ne_self, ne_eq, not_true_eq_false, not_false_eq_true, and_self, and_true, true_and, Nat.zero_add, Nat.sub_zero, Nat.zero_mul, Nat.one_mul, Nat.le_refl, List.getElem?_cons_zero, List.set_cons_zero, Int.reduceToNat, Int.reduceLT, Int.reduceLE, Int.reduceAdd, Int.reduceSub, Int.reduceMul, Int.reduceEq, Int.reduceNe, Int.toNat_natCast, Int.natCast_zero, wrap_id, wrapu_id, wrapb_id, idx_ok, bin_quo, bin_rem, tdiv_id, tmod_id, ps_bptr, lenv_sl hv.len, ints_len, c1, e5, e]
theorem addAt_len' (l : List Int) (a : Nat) (x : Int) : (addAt l a x).length = (padS l a).length := by simp [addAt]
/-- Added to a list that lies in a caller's block. -/
theorem add_ref {h : Heap} {id ver lo : Nat} (hlo : lo ≤ id) {es : List Int} (hb : h[id]? = some (ver, .arr 1 (ints es))) (hl : es.length ≤ 200000) (a : Nat) (ha : a ≤ 100000) (x : Int) (hx : -10000000000000000 ≤ x ∧ x ≤ 10000000000000000) (hes : bnd' 10000000000000000 es) :
    (run lib).fn 40 [.ref id ver 1 0 es.length es.length, .int .i64 a, .int .i64 x] h lo = some (.ref id ver 1 0 (addAt es a x).length (addAt es a x).length, h.set id (ver, .arr 1 (ints (addAt es a x)))) := by
  have hlt := (List.getElem?_eq_some_iff.mp hb).1
  have e := add_loop (h := h) hlo a ha x 0 .dead _ h es rfl hb hl
  obtain ⟨hp, hhp⟩ : ∃ hp, hp = h.set id (ver, .arr 1 (ints (padS es a))) := ⟨_, rfl⟩
  have hb2 : hp[id]? = some (ver, .arr 1 (ints (padS es a))) := by rw [hhp]; exact List.getElem?_set_self hlt
  have hpl : hp.length = h.length := by rw [hhp]; simp
  have hv := Sl.refAt hb2
  rw [ints_len] at hv
  have hpa : a < (padS es a).length := by rw [padS_len]; omega
  have e3 : sidx 1 (.ref id ver 1 0 (padS es a).length (padS es a).length) (.int .i64 a) = some a := by rw [sidx_sl hv (by omega) (by simp; omega)]; simp
  have e4 := fun off fr => pc_iptr (off := off) (hv.elems fr) (show a < (ints (padS es a)).length by simp; omega)
  simp only [ints_get] at e4
  have hg : (padS es a).getD a 0 = (padS es a)[a] := by rw [List.getD_eq_getElem?_getD, List.getElem?_eq_getElem hpa]; rfl
  have hgb := bnd'_getD hes (by omega) a
  rw [← padS_getD es a a, hg] at hgb
  have e5 := ps_iptr (cx := ⟨lo, hp.length, 1, none⟩) (id := id) (ver := ver) (o := 0) (len := (padS es a).length) (fill := (padS es a).length) (i := a) (k := .i64) (l := padS es a) (n := (padS es a)[a] + x) (get_pre (fr := [(0, .dead)]) hb2) rfl (by omega) hpa hlo
  rw [set_pre _ hb2, Nat.zero_add] at e5
  have hres : h.set id (ver, .arr 1 (ints (addAt es a x))) = hp.set id (ver, .arr 1 (((padS es a).set a ((padS es a)[a] + x)).map (.int .i64))) := by
    rw [hhp, List.set_set]; unfold addAt; rw [hg]; rfl
  rw [hres, addAt_len']
  have htk : (hp.set id (ver, Blk.arr 1 (((padS es a).set a ((padS es a)[a] + x)).map (.int .i64))) ++ [(0, Blk.dead)]).take h.length = hp.set id (ver, Blk.arr 1 (((padS es a).set a ((padS es a)[a] + x)).map (.int .i64))) := by
    rw [List.take_append_of_le_length (by simp [hpl]), List.take_of_length_le (by simp [hpl])]
  have hgv : ∀ hh, giveRes h.length (.ref id ver 1 0 (padS es a).length (padS es a).length) hh = some (.ref id ver 1 0 (padS es a).length (padS es a).length) := by
    intro hh
    have : ¬ h.length ≤ id := by omega
    simp [giveRes, give, frz, this]
  rw [run_open (x := x40) rfl rfl rfl rfl (by omega)]
  rw [← hhp] at e
  rw [← hpl] at e ⊢
  rw [← hpl] at hgv htk
  simp (maxSteps := 1000000) (disch := omega) only [go_sem, ↓reduceIte, Nat.reduceEqDiff, Nat.reduceAdd, Nat.reduceSub, Nat.reduceMul, Nat.reduceLT, Nat.reduceLeDiff, reduceCtorEq, Nat.succ_ne_self, ne_eq, not_true_eq_false, not_false_eq_true, and_self, and_true, true_and, Nat.zero_add, Nat.sub_zero, Nat.zero_mul, Nat.one_mul, Nat.le_refl, List.getElem?_cons_zero, List.set_cons_zero, Int.reduceToNat, Int.reduceLT, Int.reduceLE, Int.reduceAdd, Int.reduceSub, Int.reduceMul, Int.reduceEq, Int.reduceNe, Int.toNat_natCast, Int.natCast_zero, wrap_id, wrapu_id, wrapb_id, idx_ok, bin_quo, bin_rem, tdiv_id, tmod_id, ps_bptr, x40, e, e3, e4, e5]
  rw [← hpl, hgv, Option.map_some, htk]

theorem add_loopN {h : Heap} {lo : Nat} (hlo : lo ≤ h.length) (a : Nat) (ha : a ≤ 100000) (x : Int) (d : Nat) :
    ∀ (es : List Int), d = a + 1 - es.length → es.length ≤ 200000 →
    runC lib ⟨lo, h.length, 1, none⟩ (.loop b40_0) ([(0, accV (h.length + 0) (0, .dead) 1 (ints es)), (1, .int .i64 a), (2, .int .i64 x)], h ++ [accB (0, .dead) 1 (ints es)]) =
      some (.exit 0, ([(0, accV (h.length + 0) (0, .dead) 1 (ints (padS es a))), (1, .int .i64 a), (2, .int .i64 x)], h ++ [accB (0, .dead) 1 (ints (padS es a))])) := by
  induction d with
  | zero =>
    intro es hd hl
    have c1 : ¬ (es.length : Int) ≤ a := by omega
    have hv := Sl.acc (h := h) (fr := [accB (0, .dead) 1 (ints es)]) (s := 0) (z := 1) (b0 := (0, .dead)) (es := ints es) rfl
    rw [padS_id (by omega), w_loop]
    simp (maxSteps := 1000000) (disch := omega) only [go_sem, ↓reduceIte, Nat.reduceEqDiff, Nat.reduceAdd, Nat.reduceSub, Nat.reduceMul, Nat.reduceLT, Nat.reduceLeDiff, reduceCtorEq, Nat.succ_ne_self, ne_eq, not_true_eq_false, not_false_eq_true, and_self, and_true, true_and, Nat.zero_add, Nat.sub_zero, Nat.zero_mul, Nat.one_mul, Nat.le_refl, List.getElem?_cons_zero, List.set_cons_zero, Int.reduceToNat, Int.reduceLT, Int.reduceLE, Int.reduceAdd, Int.reduceSub, Int.reduceMul, Int.reduceEq, Int.reduceNe, Int.toNat_natCast, Int.natCast_zero, wrap_id, wrapu_id, wrapb_id, idx_ok, bin_quo, bin_rem, tdiv_id, tmod_id, ps_bptr, lenv_sl hv.len, ints_len, c1]
  | succ d ih =>
    intro es hd hl
    have c1 : (es.length : Int) ≤ a := by omega
    have hv := Sl.acc (h := h) (fr := [accB (0, .dead) 1 (ints es)]) (s := 0) (z := 1) (b0 := (0, .dead)) (es := ints es) rfl
    have e := ih (es ++ [0]) (by simp; omega) (by simp; omega)
    rw [← padS_snoc (by omega), ints_app es [0], ints_one] at e
    have e5 := app_acc (lo := lo) (ns := 1) (s := 0) (z := 1) (lim := 17592186044416) (h := h) (fr := [accB (0, .dead) 1 (ints es)]) (b0 := (0, .dead)) (es := ints es) (xs := [.int .i64 0]) (by omega) hlo rfl (by simp; omega)
    rw [w_loop]
    simp (maxSteps := 1000000) (disch := omega) only [go_sem, ↓reduceIte, Nat.reduceEqDiff, Nat.reduceAdd, Nat.reduceSub, Nat.reduceMul, Nat.reduceLT, Nat.reduceLeDiff, reduceCtorEq, Nat.succ_ne_self, ne_eq, not_true_eq_false, not_false_eq_true, and_self, and_true, true_and, Nat.zero_add, Nat.sub_zero, Nat.zero_mul, Nat.one_mul, Nat.le_refl, List.getElem?_cons_zero, List.set_cons_zero, Int.reduceToNat, Int.reduceLT, Int.reduceLE, Int.reduceAdd, Int.reduceSub, Int.reduceMul, Int.reduceEq, Int.reduceNe, Int.toNat_natCast, Int.natCast_zero, wrap_id, wrapu_id, wrapb_id, idx_ok, bin_quo, bin_rem, tdiv_id, tmod_id, ps_bptr, lenv_sl hv.len, ints_len, c1, e5, e]
theorem add_nil {h : Heap} {lo : Nat} (hlo : lo ≤ h.length) (a : Nat) (ha : a ≤ 100000) (x : Int) (hx : -10000000000000000 ≤ x ∧ x ≤ 10000000000000000) :
    (run lib).fn 40 [.nilSl, .int .i64 a, .int .i64 x] h lo = some (ownV 1 (ints (addAt [] a x)), h) := by
  have e := add_loopN (h := h) hlo a ha x _ [] rfl (by simp)
  obtain ⟨es, hes⟩ : ∃ es, es = padS [] a := ⟨_, rfl⟩
  have hel : es.length = a + 1 := by rw [hes, padS_len]; simp
  have hne : ints es ≠ [] := by
    intro h0
    have := congrArg List.length h0
    rw [ints_len, List.length_nil] at this
    (try rw [List.length_set] at this)
    omega
  rw [← hes, accV_ne hne, accB_ne hne, ints_len] at e
  simp only [ints, List.map_nil, accV_nil, accB_nil] at e
  have hv := Sl.refAll (h := h) (fr := [(0 + 1, .arr 1 (es.map (.int .i64)))]) (s := 0) (ver := 0 + 1) (z := 1) (es := es.map (.int .i64)) rfl
  simp only [List.length_map] at hv
  have e3 : sidx 1 (.ref (h.length + 0) (0 + 1) 1 0 es.length es.length) (.int .i64 a) = some a := by rw [sidx_sl hv (by omega) (by simp; omega)]; simp
  have e4 := pc_iptr (off := 0) hv.elems0 (show a < (es.map (AV.int .i64)).length by simp; omega)
  simp only [List.getElem_map] at e4
  have hg : es[a]'(by omega) = 0 := by simp [hes, padS]
  rw [hg] at e4
  have e5 := ps_iptr_fr (lo := lo) (ns := 1) (h := h) (fr := [(0 + 1, .arr 1 (es.map (.int .i64)))]) (s := 0) (ver := 0 + 1) (o := 0) (len := es.length) (fill := es.length) (i := a) (k := .i64) (l := es) (n := x) rfl rfl (by omega) (by omega) hlo
  have hr : addAt [] a x = es.set a x := by unfold addAt; rw [← hes, List.getD_eq_getElem?_getD, List.getElem?_eq_getElem (by omega), hg]; simp
  have hne2 : ints (es.set a x) ≠ [] := by
    intro h0
    have := congrArg List.length h0
    rw [ints_len, List.length_nil] at this
    (try rw [List.length_set] at this)
    omega
  have e2 := giveRes_acc (s := 0) (z := 1) (h := h) (fr := [accB (0, .dead) 1 (ints (es.set a x))]) (b0 := (0, .dead)) (es := ints (es.set a x)) rfl
  rw [accV_ne hne2, accB_ne hne2, ints_len, List.length_set] at e2
  rw [hr]
  rw [run_open (x := x40) rfl rfl rfl rfl hlo]
  simp only [ints, Nat.zero_add] at e e2 e3 e4 e5 ⊢
  simp (maxSteps := 1000000) (disch := omega) only [go_sem, ↓reduceIte, Nat.reduceEqDiff, Nat.reduceAdd, Nat.reduceSub, Nat.reduceMul, Nat.reduceLT, Nat.reduceLeDiff, reduceCtorEq, Nat.succ_ne_self, ne_eq, not_true_eq_false, not_false_eq_true, and_self, and_true, true_and, Nat.zero_add, Nat.sub_zero, Nat.zero_mul, Nat.one_mul, Nat.le_refl, List.getElem?_cons_zero, List.set_cons_zero, Int.reduceToNat, Int.reduceLT, Int.reduceLE, Int.reduceAdd, Int.reduceSub, Int.reduceMul, Int.reduceEq, Int.reduceNe, Int.toNat_natCast, Int.natCast_zero, wrap_id, wrapu_id, wrapb_id, idx_ok, bin_quo, bin_rem, tdiv_id, tmod_id, ps_bptr, x40, e, e3, e4, e5, e2, Int.zero_add, List.take_left']
end Go.VI.Mix
