import Derived.Test.YtegokpicloedeaaMixB
namespace Go.VI.Mix
set_option linter.unusedVariables false
set_option linter.unusedSimpArgs false

theorem ints_app (a b : List Int) : ints (a ++ b) = ints a ++ ints b := by simp [ints]
theorem ints_one (x : Int) : ints [x] = [.int .i64 x] := rfl

/-! Made -/
def madeS (xs : List Int) : List Int := (xs.take 40).map fun x => pickS x 65536 - 32767 - 1
theorem made_loop {h : Heap} {v : AV} {xs : List Int} (hv : Sl h 1 v (ints xs)) (hl : xs.length ≤ 9223372036854775807) (hi : ∀ x ∈ xs, okI x) (d : Nat) :
    ∀ (k : Nat), d = min 40 xs.length - k → k ≤ min 40 xs.length →
    runC lib ⟨h.length, h.length, 1, none⟩ (.loop b12_0) ([(0, v), (3, accV (h.length + 0) (0, .dead) 1 (ints ((madeS xs).take k))), (4, .int .i64 k)], h ++ [accB (0, .dead) 1 (ints ((madeS xs).take k))]) =
      some (.exit 0, ([(3, accV (h.length + 0) (0, .dead) 1 (ints (madeS xs)))], h ++ [accB (0, .dead) 1 (ints (madeS xs))])) := by
  have hml : (madeS xs).length = min 40 xs.length := by simp [madeS]
  induction d with
  | zero =>
    intro k hd hk
    rw [List.take_of_length_le (by omega), w_loop]
    by_cases h1 : (k : Int) < xs.length
    · have h2 : ¬ (k : Int) < 40 := by omega
      simp (maxSteps := 1000000) (disch := omega) only [go_sem, ↓reduceIte, Nat.reduceEqDiff, Nat.reduceAdd, Nat.reduceSub, Nat.reduceMul, Nat.reduceLT, Nat.reduceLeDiff, reduceCtorEq, Nat.succ_ne_self, ne_eq, not_true_eq_false, not_false_eq_true, and_self, and_true, true_and, Nat.zero_add, Nat.sub_zero, Nat.zero_mul, Nat.one_mul, Nat.le_refl, List.getElem?_cons_zero, List.set_cons_zero, Int.reduceToNat, Int.reduceLT, Int.reduceLE, Int.reduceAdd, Int.reduceSub, Int.reduceMul, Int.reduceEq, Int.reduceNe, Int.toNat_natCast, Int.natCast_zero, wrap_id, wrapu_id, wrapb_id, idx_ok, bin_quo, bin_rem, tdiv_id, tmod_id, ps_bptr, lenv_sl hv.len, ints_len, h1, h2]
    · simp (maxSteps := 1000000) (disch := omega) only [go_sem, ↓reduceIte, Nat.reduceEqDiff, Nat.reduceAdd, Nat.reduceSub, Nat.reduceMul, Nat.reduceLT, Nat.reduceLeDiff, reduceCtorEq, Nat.succ_ne_self, ne_eq, not_true_eq_false, not_false_eq_true, and_self, and_true, true_and, Nat.zero_add, Nat.sub_zero, Nat.zero_mul, Nat.one_mul, Nat.le_refl, List.getElem?_cons_zero, List.set_cons_zero, Int.reduceToNat, Int.reduceLT, Int.reduceLE, Int.reduceAdd, Int.reduceSub, Int.reduceMul, Int.reduceEq, Int.reduceNe, Int.toNat_natCast, Int.natCast_zero, wrap_id, wrapu_id, wrapb_id, idx_ok, bin_quo, bin_rem, tdiv_id, tmod_id, ps_bptr, lenv_sl hv.len, ints_len, h1]
  | succ d ih =>
    intro k hd hk
    have hk' : k < xs.length := by omega
    have h1 : (k : Int) < xs.length := by omega
    have h2 : (k : Int) < 40 := by omega
    have e3 : sidx 1 v (.int .i64 k) = some k := by rw [sidx_sl hv (by omega) (by simp; omega)]; simp
    have e4 := fun off fr => pc_iptr (off := off) (hv.elems fr) (show k < (ints xs).length by simp; omega)
    simp only [ints_get] at e4
    have hx' := hi xs[k] (List.getElem_mem _)
    have e := ih (k + 1) (by omega) (by omega)
    have hg : (madeS xs)[k]'(by omega) = pickS xs[k] 65536 - 32767 - 1 := by simp [madeS]
    rw [cast1, List.take_succ_eq_append_getElem (by omega), hg, ints_app, ints_one] at e
    obtain ⟨x, hx⟩ : ∃ x, x = xs[k] := ⟨_, rfl⟩
    rw [← hx] at e4 hx' e
    obtain ⟨i1, i2⟩ := hx'
    have p1 := pickS_bd (c := x) (n := 65536) (by omega)
    have e5 := app_acc (lo := h.length) (ns := 1) (s := 0) (z := 1) (lim := 17592186044416) (h := h) (fr := [accB (0, .dead) 1 (ints ((madeS xs).take k))]) (b0 := (0, .dead)) (es := ints ((madeS xs).take k)) (xs := [.int .i64 (pickS x 65536 - 32767 - 1)]) (by omega) (by omega) rfl (by simp; omega)
    rw [w_loop]
    simp (maxSteps := 1000000) (disch := omega) only [go_sem, ↓reduceIte, Nat.reduceEqDiff, Nat.reduceAdd, Nat.reduceSub, Nat.reduceMul, Nat.reduceLT, Nat.reduceLeDiff, reduceCtorEq, Nat.succ_ne_self, ne_eq, not_true_eq_false, not_false_eq_true, and_self, and_true, true_and, Nat.zero_add, Nat.sub_zero, Nat.zero_mul, Nat.one_mul, Nat.le_refl, List.getElem?_cons_zero, List.set_cons_zero, Int.reduceToNat, Int.reduceLT, Int.reduceLE, Int.reduceAdd, Int.reduceSub, Int.reduceMul, Int.reduceEq, Int.reduceNe, Int.toNat_natCast, Int.natCast_zero, wrap_id, wrapu_id, wrapb_id, idx_ok, bin_quo, bin_rem, tdiv_id, tmod_id, ps_bptr, lenv_sl hv.len, ints_len, h1, h2, e3, e4, pick33, e5, e]
theorem made_run {h : Heap} {v : AV} {xs : List Int} (hv : Sl h 1 v (ints xs)) (hl : xs.length ≤ 9223372036854775807) (hi : ∀ x ∈ xs, okI x) (lo : Nat) :
    (run lib).fn 12 [v] h lo = some (ownV 1 (ints (madeS xs)), h) := by
  have e := made_loop hv hl hi _ 0 rfl (by omega)
  simp only [Int.natCast_zero, List.take_zero, ints, List.map_nil, accV_nil, accB_nil] at e
  have e2 := giveRes_acc (s := 0) (z := 1) (h := h) (fr := [accB (0, .dead) 1 (ints (madeS xs))]) (b0 := (0, .dead)) (es := ints (madeS xs)) rfl
  simp only [ints] at e2 ⊢
  rw [run_closed (x := x12) rfl rfl rfl rfl]
  simp (maxSteps := 1000000) (disch := omega) only [go_sem, ↓reduceIte, Nat.reduceEqDiff, Nat.reduceAdd, Nat.reduceSub, Nat.reduceMul, Nat.reduceLT, Nat.reduceLeDiff, reduceCtorEq, Nat.succ_ne_self, ne_eq, not_true_eq_false, not_false_eq_true, and_self, and_true, true_and, Nat.zero_add, Nat.sub_zero, Nat.zero_mul, Nat.one_mul, Nat.le_refl, List.getElem?_cons_zero, List.set_cons_zero, Int.reduceToNat, Int.reduceLT, Int.reduceLE, Int.reduceAdd, Int.reduceSub, Int.reduceMul, Int.reduceEq, Int.reduceNe, Int.toNat_natCast, Int.natCast_zero, wrap_id, wrapu_id, wrapb_id, idx_ok, bin_quo, bin_rem, tdiv_id, tmod_id, ps_bptr, x12, e, e2]

/-! sound -/
def okS (x : Int) : Bool := decide (-32768 ≤ x) && decide (x ≤ 32767)
def soundB (l : List Int) : Bool := decide ((l.length : Int) ≤ 600) && l.all okS
theorem s55_run (x : Int) (h : Heap) (lo : Nat) : (run lib).fn 55 [.int .i64 x] h lo = some (.bool (!okS x), h) := by
  rw [run_closed (x := x55) rfl rfl rfl rfl]
  simp (maxSteps := 1000000) (disch := omega) only [go_sem, ↓reduceIte, Nat.reduceEqDiff, Nat.reduceAdd, Nat.reduceSub, Nat.reduceMul, Nat.reduceLT, Nat.reduceLeDiff, reduceCtorEq, Nat.succ_ne_self, ne_eq, not_true_eq_false, not_false_eq_true, and_self, and_true, true_and, Nat.zero_add, Nat.sub_zero, Nat.zero_mul, Nat.one_mul, Nat.le_refl, List.getElem?_cons_zero, List.set_cons_zero, Int.reduceToNat, Int.reduceLT, Int.reduceLE, Int.reduceAdd, Int.reduceSub, Int.reduceMul, Int.reduceEq, Int.reduceNe, Int.toNat_natCast, Int.natCast_zero, wrap_id, wrapu_id, wrapb_id, idx_ok, bin_quo, bin_rem, tdiv_id, tmod_id, ps_bptr, x55, between_run, okS]
theorem ix_loop {h : Heap} {v : AV} {l : List Int} (hv : Sl h 1 v (ints l)) (hl : l.length ≤ 9223372036854775807) (lo : Nat) (d : Nat) :
    ∀ k : Nat, d = l.length - k → k ≤ l.length → ∃ r : Int, (0 ≤ r ∧ runC lib ⟨lo, h.length, 0, none⟩ (.loop b57_0) ([(0, v), (1, .fn 55 []), (7, .int .i64 l.length), (8, .int .i64 k)], h) = some (.ret, ([(4, .int .i64 r)], h)) ∧ (l.drop k).all okS = false) ∨
      (runC lib ⟨lo, h.length, 0, none⟩ (.loop b57_0) ([(0, v), (1, .fn 55 []), (7, .int .i64 l.length), (8, .int .i64 k)], h) = some (.exit 0, ([], h)) ∧ (l.drop k).all okS = true) := by
  induction d with
  | zero =>
    intro k hd hk
    refine ⟨0, .inr ⟨?_, ?_⟩⟩
    · have : k = l.length := by omega
      subst this
      rw [w_loop]
      simp (maxSteps := 1000000) (disch := omega) only [go_sem, ↓reduceIte, Nat.reduceEqDiff, Nat.reduceAdd, Nat.reduceSub, Nat.reduceMul, Nat.reduceLT, Nat.reduceLeDiff, reduceCtorEq, Nat.succ_ne_self, ne_eq, not_true_eq_false, not_false_eq_true, and_self, and_true, true_and, Nat.zero_add, Nat.sub_zero, Nat.zero_mul, Nat.one_mul, Nat.le_refl, List.getElem?_cons_zero, List.set_cons_zero, Int.reduceToNat, Int.reduceLT, Int.reduceLE, Int.reduceAdd, Int.reduceSub, Int.reduceMul, Int.reduceEq, Int.reduceNe, Int.toNat_natCast, Int.natCast_zero, wrap_id, wrapu_id, wrapb_id, idx_ok, bin_quo, bin_rem, tdiv_id, tmod_id, ps_bptr, Int.lt_irrefl]
    · rw [List.drop_of_length_le (by omega)]; rfl
  | succ d ih =>
    intro k hd hk
    have hk' : k < l.length := by omega
    have h1 : (k : Int) < l.length := by omega
    have e3 : sidx 1 v (.int .i64 k) = some k := by rw [sidx_sl hv (by omega) (by simp; omega)]; simp
    have e4 := fun off => pc_iptr (off := off) hv.elems0 (show k < (ints l).length by simp; omega)
    simp only [ints_get] at e4
    rw [List.drop_eq_getElem_cons hk', List.all_cons]
    cases hb : okS l[k] with
    | false =>
      refine ⟨k, .inl ⟨by omega, ?_, rfl⟩⟩
      rw [w_loop]
      simp (maxSteps := 1000000) (disch := omega) only [go_sem, ↓reduceIte, Nat.reduceEqDiff, Nat.reduceAdd, Nat.reduceSub, Nat.reduceMul, Nat.reduceLT, Nat.reduceLeDiff, reduceCtorEq, Nat.succ_ne_self, ne_eq, not_true_eq_false, not_false_eq_true, and_self, and_true, true_and, Nat.zero_add, Nat.sub_zero, Nat.zero_mul, Nat.one_mul, Nat.le_refl, List.getElem?_cons_zero, List.set_cons_zero, Int.reduceToNat, Int.reduceLT, Int.reduceLE, Int.reduceAdd, Int.reduceSub, Int.reduceMul, Int.reduceEq, Int.reduceNe, Int.toNat_natCast, Int.natCast_zero, wrap_id, wrapu_id, wrapb_id, idx_ok, bin_quo, bin_rem, tdiv_id, tmod_id, ps_bptr, h1, e3, e4, s55_run, hb]
    | true =>
      obtain ⟨r, hr⟩ := ih (k + 1) (by omega) (by omega)
      rw [cast1] at hr
      rcases hr with ⟨h0, e, h2⟩ | ⟨e, h2⟩
      · refine ⟨r, .inl ⟨h0, ?_, by rw [h2]; rfl⟩⟩
        rw [w_loop]
        simp (maxSteps := 1000000) (disch := omega) only [go_sem, ↓reduceIte, Nat.reduceEqDiff, Nat.reduceAdd, Nat.reduceSub, Nat.reduceMul, Nat.reduceLT, Nat.reduceLeDiff, reduceCtorEq, Nat.succ_ne_self, ne_eq, not_true_eq_false, not_false_eq_true, and_self, and_true, true_and, Nat.zero_add, Nat.sub_zero, Nat.zero_mul, Nat.one_mul, Nat.le_refl, List.getElem?_cons_zero, List.set_cons_zero, Int.reduceToNat, Int.reduceLT, Int.reduceLE, Int.reduceAdd, Int.reduceSub, Int.reduceMul, Int.reduceEq, Int.reduceNe, Int.toNat_natCast, Int.natCast_zero, wrap_id, wrapu_id, wrapb_id, idx_ok, bin_quo, bin_rem, tdiv_id, tmod_id, ps_bptr, h1, e3, e4, s55_run, hb, e]
      · refine ⟨r, .inr ⟨?_, by rw [h2]; rfl⟩⟩
        rw [w_loop]
        simp (maxSteps := 1000000) (disch := omega) only [go_sem, ↓reduceIte, Nat.reduceEqDiff, Nat.reduceAdd, Nat.reduceSub, Nat.reduceMul, Nat.reduceLT, Nat.reduceLeDiff, reduceCtorEq, Nat.succ_ne_self, ne_eq, not_true_eq_false, not_false_eq_true, and_self, and_true, true_and, Nat.zero_add, Nat.sub_zero, Nat.zero_mul, Nat.one_mul, Nat.le_refl, List.getElem?_cons_zero, List.set_cons_zero, Int.reduceToNat, Int.reduceLT, Int.reduceLE, Int.reduceAdd, Int.reduceSub, Int.reduceMul, Int.reduceEq, Int.reduceNe, Int.toNat_natCast, Int.natCast_zero, wrap_id, wrapu_id, wrapb_id, idx_ok, bin_quo, bin_rem, tdiv_id, tmod_id, ps_bptr, h1, e3, e4, s55_run, hb, e]
theorem cf_run {h : Heap} {v : AV} {l : List Int} (hv : Sl h 1 v (ints l)) (hl : l.length ≤ 9223372036854775807) (lo : Nat) : (run lib).fn 54 [v, .fn 55 []] h lo = some (.bool (!(l.all okS)), h) := by
  have key : ∃ r : Int, (run lib).fn 57 [v, .fn 55 []] h h.length = some (.int .i64 r, h) ∧ (0 ≤ r ↔ l.all okS = false) := by
    obtain ⟨r, hr⟩ := ix_loop hv hl h.length _ 0 rfl (by omega)
    simp only [Int.natCast_zero, List.drop_zero] at hr
    rcases hr with ⟨h0, e, h2⟩ | ⟨e, h2⟩
    · refine ⟨r, ?_, by simp [h0, h2]⟩
      rw [run_closed (x := x57) rfl rfl rfl rfl]
      simp (maxSteps := 1000000) (disch := omega) only [go_sem, ↓reduceIte, Nat.reduceEqDiff, Nat.reduceAdd, Nat.reduceSub, Nat.reduceMul, Nat.reduceLT, Nat.reduceLeDiff, reduceCtorEq, Nat.succ_ne_self, ne_eq, not_true_eq_false, not_false_eq_true, and_self, and_true, true_and, Nat.zero_add, Nat.sub_zero, Nat.zero_mul, Nat.one_mul, Nat.le_refl, List.getElem?_cons_zero, List.set_cons_zero, Int.reduceToNat, Int.reduceLT, Int.reduceLE, Int.reduceAdd, Int.reduceSub, Int.reduceMul, Int.reduceEq, Int.reduceNe, Int.toNat_natCast, Int.natCast_zero, wrap_id, wrapu_id, wrapb_id, idx_ok, bin_quo, bin_rem, tdiv_id, tmod_id, ps_bptr, x57, lenv_sl hv.len, ints_len, e]
    · refine ⟨-1, ?_, by simp [h2]⟩
      rw [run_closed (x := x57) rfl rfl rfl rfl]
      simp (maxSteps := 1000000) (disch := omega) only [go_sem, ↓reduceIte, Nat.reduceEqDiff, Nat.reduceAdd, Nat.reduceSub, Nat.reduceMul, Nat.reduceLT, Nat.reduceLeDiff, reduceCtorEq, Nat.succ_ne_self, ne_eq, not_true_eq_false, not_false_eq_true, and_self, and_true, true_and, Nat.zero_add, Nat.sub_zero, Nat.zero_mul, Nat.one_mul, Nat.le_refl, List.getElem?_cons_zero, List.set_cons_zero, Int.reduceToNat, Int.reduceLT, Int.reduceLE, Int.reduceAdd, Int.reduceSub, Int.reduceMul, Int.reduceEq, Int.reduceNe, Int.toNat_natCast, Int.natCast_zero, wrap_id, wrapu_id, wrapb_id, idx_ok, bin_quo, bin_rem, tdiv_id, tmod_id, ps_bptr, x57, lenv_sl hv.len, ints_len, e]
  obtain ⟨r, e, h1⟩ := key
  rw [run_closed (x := x54) rfl rfl rfl rfl]
  cases hb : l.all okS with
  | false => have := h1.mpr hb; simp (maxSteps := 1000000) (disch := omega) only [go_sem, ↓reduceIte, Nat.reduceEqDiff, Nat.reduceAdd, Nat.reduceSub, Nat.reduceMul, Nat.reduceLT, Nat.reduceLeDiff, reduceCtorEq, Nat.succ_ne_self, ne_eq, not_true_eq_false, not_false_eq_true, and_self, and_true, true_and, Nat.zero_add, Nat.sub_zero, Nat.zero_mul, Nat.one_mul, Nat.le_refl, List.getElem?_cons_zero, List.set_cons_zero, Int.reduceToNat, Int.reduceLT, Int.reduceLE, Int.reduceAdd, Int.reduceSub, Int.reduceMul, Int.reduceEq, Int.reduceNe, Int.toNat_natCast, Int.natCast_zero, wrap_id, wrapu_id, wrapb_id, idx_ok, bin_quo, bin_rem, tdiv_id, tmod_id, ps_bptr, x54, e, this]
  | true => have : ¬ 0 ≤ r := by rw [h1, hb]; simp
            simp (maxSteps := 1000000) (disch := omega) only [go_sem, ↓reduceIte, Nat.reduceEqDiff, Nat.reduceAdd, Nat.reduceSub, Nat.reduceMul, Nat.reduceLT, Nat.reduceLeDiff, reduceCtorEq, Nat.succ_ne_self, ne_eq, not_true_eq_false, not_false_eq_true, and_self, and_true, true_and, Nat.zero_add, Nat.sub_zero, Nat.zero_mul, Nat.one_mul, Nat.le_refl, List.getElem?_cons_zero, List.set_cons_zero, Int.reduceToNat, Int.reduceLT, Int.reduceLE, Int.reduceAdd, Int.reduceSub, Int.reduceMul, Int.reduceEq, Int.reduceNe, Int.toNat_natCast, Int.natCast_zero, wrap_id, wrapu_id, wrapb_id, idx_ok, bin_quo, bin_rem, tdiv_id, tmod_id, ps_bptr, x54, e, this]
theorem sound_run {h : Heap} {v : AV} {l : List Int} (hv : Sl h 1 v (ints l)) (hl : l.length ≤ 9223372036854775807) (lo : Nat) : (run lib).fn 43 [v] h lo = some (.bool (soundB l), h) := by
  have e := cf_run hv hl h.length
  rw [run_closed (x := x43) rfl rfl rfl rfl]
  unfold soundB
  by_cases h1 : (l.length : Int) ≤ 600
  · simp (maxSteps := 1000000) (disch := omega) only [go_sem, ↓reduceIte, Nat.reduceEqDiff, Nat.reduceAdd, Nat.reduceSub, Nat.reduceMul, Nat.reduceLT, Nat.reduceLeDiff, reduceCtorEq, Nat.succ_ne_self, ne_eq, not_true_eq_false, not_false_eq_true, and_self, and_true, true_and, Nat.zero_add, Nat.sub_zero, Nat.zero_mul, Nat.one_mul, Nat.le_refl, List.getElem?_cons_zero, List.set_cons_zero, Int.reduceToNat, Int.reduceLT, Int.reduceLE, Int.reduceAdd, Int.reduceSub, Int.reduceMul, Int.reduceEq, Int.reduceNe, Int.toNat_natCast, Int.natCast_zero, wrap_id, wrapu_id, wrapb_id, idx_ok, bin_quo, bin_rem, tdiv_id, tmod_id, ps_bptr, x43, lenv_sl hv.len, ints_len, h1, e, Bool.not_not]
  · simp (maxSteps := 1000000) (disch := omega) only [go_sem, ↓reduceIte, Nat.reduceEqDiff, Nat.reduceAdd, Nat.reduceSub, Nat.reduceMul, Nat.reduceLT, Nat.reduceLeDiff, reduceCtorEq, Nat.succ_ne_self, ne_eq, not_true_eq_false, not_false_eq_true, and_self, and_true, true_and, Nat.zero_add, Nat.sub_zero, Nat.zero_mul, Nat.one_mul, Nat.le_refl, List.getElem?_cons_zero, List.set_cons_zero, Int.reduceToNat, Int.reduceLT, Int.reduceLE, Int.reduceAdd, Int.reduceSub, Int.reduceMul, Int.reduceEq, Int.reduceNe, Int.toNat_natCast, Int.natCast_zero, wrap_id, wrapu_id, wrapb_id, idx_ok, bin_quo, bin_rem, tdiv_id, tmod_id, ps_bptr, x43, lenv_sl hv.len, ints_len, h1]

/-! round, at, back, Ints -/
def roundS (x : Int) : Int := min (max ((x + 512) / 1024) (-32768)) 32767
theorem round_run (x : Int) (h : Heap) (lo : Nat) (h1 : -900000000000 ≤ x) (h2 : x ≤ 900000000000) : (run lib).fn 41 [.int .i64 x] h lo = some (.int .i64 (roundS x), h) := by
  rw [run_closed (x := x41) rfl rfl rfl rfl]
  simp (maxSteps := 1000000) (disch := omega) only [go_sem, ↓reduceIte, Nat.reduceEqDiff, Nat.reduceAdd, Nat.reduceSub, Nat.reduceMul, Nat.reduceLT, Nat.reduceLeDiff, reduceCtorEq, Nat.succ_ne_self, ne_eq, not_true_eq_false, not_false_eq_true, and_self, and_true, true_and, Nat.zero_add, Nat.sub_zero, Nat.zero_mul, Nat.one_mul, Nat.le_refl, List.getElem?_cons_zero, List.set_cons_zero, Int.reduceToNat, Int.reduceLT, Int.reduceLE, Int.reduceAdd, Int.reduceSub, Int.reduceMul, Int.reduceEq, Int.reduceNe, Int.toNat_natCast, Int.natCast_zero, wrap_id, wrapu_id, wrapb_id, idx_ok, bin_quo, bin_rem, tdiv_id, tmod_id, ps_bptr, x41, down_run, roundS]
def atS (l : List Int) (k : Int) : Int := if 0 ≤ k then l.getD k.toNat 0 else 0
theorem at_run {h : Heap} {v : AV} {l : List Int} (hv : Sl h 1 v (ints l)) (hl : l.length ≤ 9223372036854775807) (k : Int) (lo : Nat) : (run lib).fn 31 [v, .int .i64 k] h lo = some (.int .i64 (atS l k), h) := by
  rw [run_closed (x := x31) rfl rfl rfl rfl]
  unfold atS
  by_cases h1 : k < 0
  · have : ¬ 0 ≤ k := by omega
    simp (maxSteps := 1000000) (disch := omega) only [go_sem, ↓reduceIte, Nat.reduceEqDiff, Nat.reduceAdd, Nat.reduceSub, Nat.reduceMul, Nat.reduceLT, Nat.reduceLeDiff, reduceCtorEq, Nat.succ_ne_self, ne_eq, not_true_eq_false, not_false_eq_true, and_self, and_true, true_and, Nat.zero_add, Nat.sub_zero, Nat.zero_mul, Nat.one_mul, Nat.le_refl, List.getElem?_cons_zero, List.set_cons_zero, Int.reduceToNat, Int.reduceLT, Int.reduceLE, Int.reduceAdd, Int.reduceSub, Int.reduceMul, Int.reduceEq, Int.reduceNe, Int.toNat_natCast, Int.natCast_zero, wrap_id, wrapu_id, wrapb_id, idx_ok, bin_quo, bin_rem, tdiv_id, tmod_id, ps_bptr, x31, h1, this]
  · have h0 : 0 ≤ k := by omega
    by_cases h2 : (l.length : Int) ≤ k
    · have h3 : l.getD k.toNat 0 = 0 := by rw [List.getD_eq_getElem?_getD, List.getElem?_eq_none (by omega)]; rfl
      simp (maxSteps := 1000000) (disch := omega) only [go_sem, ↓reduceIte, Nat.reduceEqDiff, Nat.reduceAdd, Nat.reduceSub, Nat.reduceMul, Nat.reduceLT, Nat.reduceLeDiff, reduceCtorEq, Nat.succ_ne_self, ne_eq, not_true_eq_false, not_false_eq_true, and_self, and_true, true_and, Nat.zero_add, Nat.sub_zero, Nat.zero_mul, Nat.one_mul, Nat.le_refl, List.getElem?_cons_zero, List.set_cons_zero, Int.reduceToNat, Int.reduceLT, Int.reduceLE, Int.reduceAdd, Int.reduceSub, Int.reduceMul, Int.reduceEq, Int.reduceNe, Int.toNat_natCast, Int.natCast_zero, wrap_id, wrapu_id, wrapb_id, idx_ok, bin_quo, bin_rem, tdiv_id, tmod_id, ps_bptr, x31, lenv_sl hv.len, ints_len, h1, h2, h0, h3]
    · have hk : k.toNat < l.length := by omega
      have e3 : sidx 1 v (.int .i64 k) = some k.toNat := sidx_sl hv (by omega) (by simp; omega)
      have e4 := pc_iptr (off := 0) hv.elems0 (show k.toNat < (ints l).length by simp; omega)
      simp only [ints_get] at e4
      have h3 : l.getD k.toNat 0 = l[k.toNat] := by rw [List.getD_eq_getElem?_getD, List.getElem?_eq_getElem hk]; rfl
      simp (maxSteps := 1000000) (disch := omega) only [go_sem, ↓reduceIte, Nat.reduceEqDiff, Nat.reduceAdd, Nat.reduceSub, Nat.reduceMul, Nat.reduceLT, Nat.reduceLeDiff, reduceCtorEq, Nat.succ_ne_self, ne_eq, not_true_eq_false, not_false_eq_true, and_self, and_true, true_and, Nat.zero_add, Nat.sub_zero, Nat.zero_mul, Nat.one_mul, Nat.le_refl, List.getElem?_cons_zero, List.set_cons_zero, Int.reduceToNat, Int.reduceLT, Int.reduceLE, Int.reduceAdd, Int.reduceSub, Int.reduceMul, Int.reduceEq, Int.reduceNe, Int.toNat_natCast, Int.natCast_zero, wrap_id, wrapu_id, wrapb_id, idx_ok, bin_quo, bin_rem, tdiv_id, tmod_id, ps_bptr, x31, lenv_sl hv.len, ints_len, h1, h2, h0, h3, e3, e4]
theorem back_loop {h : Heap} {v : AV} {l : List Int} (hv : Sl h 1 v (ints l)) (hl : l.length ≤ 1000000) (k : Nat) :
    ∀ (es : List Int), k ≤ l.length → es.length + k ≤ 1000000 →
    runC lib ⟨h.length, h.length, 1, none⟩ (.loop b32_0) ([(0, v), (3, accV (h.length + 0) (0, .dead) 1 (ints es)), (4, .int .i64 ((k : Int) - 1))], h ++ [accB (0, .dead) 1 (ints es)]) =
      some (.exit 0, ([(3, accV (h.length + 0) (0, .dead) 1 (ints (es ++ (l.take k).reverse)))], h ++ [accB (0, .dead) 1 (ints (es ++ (l.take k).reverse))])) := by
  induction k with
  | zero =>
    intro es hk he
    rw [w_loop]
    simp (maxSteps := 1000000) (disch := omega) only [go_sem, ↓reduceIte, Nat.reduceEqDiff, Nat.reduceAdd, Nat.reduceSub, Nat.reduceMul, Nat.reduceLT, Nat.reduceLeDiff, reduceCtorEq, Nat.succ_ne_self, ne_eq, not_true_eq_false, not_false_eq_true, and_self, and_true, true_and, Nat.zero_add, Nat.sub_zero, Nat.zero_mul, Nat.one_mul, Nat.le_refl, List.getElem?_cons_zero, List.set_cons_zero, Int.reduceToNat, Int.reduceLT, Int.reduceLE, Int.reduceAdd, Int.reduceSub, Int.reduceMul, Int.reduceEq, Int.reduceNe, Int.toNat_natCast, Int.natCast_zero, wrap_id, wrapu_id, wrapb_id, idx_ok, bin_quo, bin_rem, tdiv_id, tmod_id, ps_bptr, Int.natCast_zero, List.take_zero, List.reverse_nil, List.append_nil]
  | succ k ih =>
    intro es hk he
    have c1 : (0 : Int) ≤ (k + 1 : Nat) - 1 := by omega
    have c2 : (((k + 1 : Nat) : Int) - 1) = k := by omega
    have e3 : sidx 1 v (.int .i64 k) = some k := by rw [sidx_sl hv (by omega) (by simp; omega)]; simp
    have e4 := fun off fr => pc_iptr (off := off) (hv.elems fr) (show k < (ints l).length by simp; omega)
    simp only [ints_get] at e4
    have e := ih (es ++ [l[k]]) (by omega) (by simp; omega)
    rw [List.append_assoc, List.singleton_append, ints_app es [l[k]], ints_one] at e
    have hr : (l.take (k + 1)).reverse = l[k] :: (l.take k).reverse := by rw [List.take_succ_eq_append_getElem (by omega), List.reverse_append]; rfl
    have e5 := app_acc (lo := h.length) (ns := 1) (s := 0) (z := 1) (lim := 17592186044416) (h := h) (fr := [accB (0, .dead) 1 (ints es)]) (b0 := (0, .dead)) (es := ints es) (xs := [.int .i64 l[k]]) (by omega) (by omega) rfl (by simp; omega)
    rw [hr, w_loop, c2]
    have c3 : (0 : Int) ≤ k := by omega
    simp (maxSteps := 1000000) (disch := omega) only [go_sem, ↓reduceIte, Nat.reduceEqDiff, Nat.reduceAdd, Nat.reduceSub, Nat.reduceMul, Nat.reduceLT, Nat.reduceLeDiff, reduceCtorEq, Nat.succ_ne_self, ne_eq, not_true_eq_false, not_false_eq_true, and_self, and_true, true_and, Nat.zero_add, Nat.sub_zero, Nat.zero_mul, Nat.one_mul, Nat.le_refl, List.getElem?_cons_zero, List.set_cons_zero, Int.reduceToNat, Int.reduceLT, Int.reduceLE, Int.reduceAdd, Int.reduceSub, Int.reduceMul, Int.reduceEq, Int.reduceNe, Int.toNat_natCast, Int.natCast_zero, wrap_id, wrapu_id, wrapb_id, idx_ok, bin_quo, bin_rem, tdiv_id, tmod_id, ps_bptr, c3, e3, e4, e5, e]
theorem back_run {h : Heap} {v : AV} {l : List Int} (hv : Sl h 1 v (ints l)) (hl : l.length ≤ 100000) (lo : Nat) : (run lib).fn 32 [v] h lo = some (ownV 1 (ints l.reverse), h) := by
  have e := back_loop hv (by omega) l.length [] (by omega) (by simp; omega)
  rw [List.take_length, List.nil_append] at e
  simp only [ints, List.map_nil, accV_nil, accB_nil] at e
  have e2 := giveRes_acc (s := 0) (z := 1) (h := h) (fr := [accB (0, .dead) 1 (ints l.reverse)]) (b0 := (0, .dead)) (es := ints l.reverse) rfl
  simp only [ints] at e2 ⊢
  have hl2 := lenv_sl hv.len
  rw [ints_len] at hl2
  rw [run_closed (x := x32) rfl rfl rfl rfl]
  simp (maxSteps := 1000000) (disch := omega) only [go_sem, ↓reduceIte, Nat.reduceEqDiff, Nat.reduceAdd, Nat.reduceSub, Nat.reduceMul, Nat.reduceLT, Nat.reduceLeDiff, reduceCtorEq, Nat.succ_ne_self, ne_eq, not_true_eq_false, not_false_eq_true, and_self, and_true, true_and, Nat.zero_add, Nat.sub_zero, Nat.zero_mul, Nat.one_mul, Nat.le_refl, List.getElem?_cons_zero, List.set_cons_zero, Int.reduceToNat, Int.reduceLT, Int.reduceLE, Int.reduceAdd, Int.reduceSub, Int.reduceMul, Int.reduceEq, Int.reduceNe, Int.toNat_natCast, Int.natCast_zero, wrap_id, wrapu_id, wrapb_id, idx_ok, bin_quo, bin_rem, tdiv_id, tmod_id, ps_bptr, x32, hl2, e, e2]
theorem ints_loop {h : Heap} {v u : AV} {l m : List Int} (hv : Sl h 1 v (ints l)) (hu : Sl h 1 u (ints m)) (hl : l.length ≤ 9223372036854775807) (hm : l.length = m.length) (lo : Nat) (d : Nat) :
    ∀ k : Nat, d = l.length - k → k ≤ l.length → runC lib ⟨lo, h.length, 0, none⟩ (.loop b24_0) ([(0, v), (1, u), (5, .int .i64 k)], h) = if l.drop k = m.drop k then some (.exit 0, ([], h)) else some (.ret, ([(4, .bool false)], h)) := by
  induction d with
  | zero =>
    intro k hd hk
    have : k = l.length := by omega
    subst this
    rw [List.drop_length, hm, List.drop_length, if_pos rfl, ← hm, w_loop]
    simp (maxSteps := 1000000) (disch := omega) only [go_sem, ↓reduceIte, Nat.reduceEqDiff, Nat.reduceAdd, Nat.reduceSub, Nat.reduceMul, Nat.reduceLT, Nat.reduceLeDiff, reduceCtorEq, Nat.succ_ne_self, ne_eq, not_true_eq_false, not_false_eq_true, and_self, and_true, true_and, Nat.zero_add, Nat.sub_zero, Nat.zero_mul, Nat.one_mul, Nat.le_refl, List.getElem?_cons_zero, List.set_cons_zero, Int.reduceToNat, Int.reduceLT, Int.reduceLE, Int.reduceAdd, Int.reduceSub, Int.reduceMul, Int.reduceEq, Int.reduceNe, Int.toNat_natCast, Int.natCast_zero, wrap_id, wrapu_id, wrapb_id, idx_ok, bin_quo, bin_rem, tdiv_id, tmod_id, ps_bptr, lenv_sl hv.len, ints_len, Int.lt_irrefl]
  | succ d ih =>
    intro k hd hk
    have hk' : k < l.length := by omega
    have hkm : k < m.length := by omega
    have h1 : (k : Int) < l.length := by omega
    have e3 : sidx 1 v (.int .i64 k) = some k := by rw [sidx_sl hv (by omega) (by simp; omega)]; simp
    have e4 := fun off => pc_iptr (off := off) hv.elems0 (show k < (ints l).length by simp; omega)
    have f3 : sidx 1 u (.int .i64 k) = some k := by rw [sidx_sl hu (by omega) (by simp; omega)]; simp
    have f4 := fun off => pc_iptr (off := off) hu.elems0 (show k < (ints m).length by simp; omega)
    simp only [ints_get] at e4 f4
    rw [List.drop_eq_getElem_cons hk', List.drop_eq_getElem_cons hkm]
    have e := ih (k + 1) (by omega) (by omega)
    rw [cast1] at e
    rw [w_loop]
    by_cases hx : l[k] = m[k]
    · simp (maxSteps := 1000000) (disch := omega) only [go_sem, ↓reduceIte, Nat.reduceEqDiff, Nat.reduceAdd, Nat.reduceSub, Nat.reduceMul, Nat.reduceLT, Nat.reduceLeDiff, reduceCtorEq, Nat.succ_ne_self, ne_eq, not_true_eq_false, not_false_eq_true, and_self, and_true, true_and, Nat.zero_add, Nat.sub_zero, Nat.zero_mul, Nat.one_mul, Nat.le_refl, List.getElem?_cons_zero, List.set_cons_zero, Int.reduceToNat, Int.reduceLT, Int.reduceLE, Int.reduceAdd, Int.reduceSub, Int.reduceMul, Int.reduceEq, Int.reduceNe, Int.toNat_natCast, Int.natCast_zero, wrap_id, wrapu_id, wrapb_id, idx_ok, bin_quo, bin_rem, tdiv_id, tmod_id, ps_bptr, lenv_sl hv.len, ints_len, h1, e3, e4, f3, f4, hx, e, List.cons.injEq]
    · simp (maxSteps := 1000000) (disch := omega) only [go_sem, ↓reduceIte, Nat.reduceEqDiff, Nat.reduceAdd, Nat.reduceSub, Nat.reduceMul, Nat.reduceLT, Nat.reduceLeDiff, reduceCtorEq, Nat.succ_ne_self, ne_eq, not_true_eq_false, not_false_eq_true, and_self, and_true, true_and, Nat.zero_add, Nat.sub_zero, Nat.zero_mul, Nat.one_mul, Nat.le_refl, List.getElem?_cons_zero, List.set_cons_zero, Int.reduceToNat, Int.reduceLT, Int.reduceLE, Int.reduceAdd, Int.reduceSub, Int.reduceMul, Int.reduceEq, Int.reduceNe, Int.toNat_natCast, Int.natCast_zero, wrap_id, wrapu_id, wrapb_id, idx_ok, bin_quo, bin_rem, tdiv_id, tmod_id, ps_bptr, lenv_sl hv.len, ints_len, h1, e3, e4, f3, f4, hx, List.cons.injEq, false_and]
theorem Ints_run {h : Heap} {v u : AV} {l m : List Int} (hv : Sl h 1 v (ints l)) (hu : Sl h 1 u (ints m)) (hl : l.length ≤ 9223372036854775807) (lo : Nat) : (run lib).fn 24 [v, u] h lo = some (.bool (decide (l = m)), h) := by
  rw [run_closed (x := x24) rfl rfl rfl rfl]
  by_cases h1 : l.length = m.length
  · have e := ints_loop hv hu hl h1 h.length _ 0 rfl (by omega)
    simp only [Int.natCast_zero, List.drop_zero] at e
    have h2 : (l.length : Int) = m.length := by omega
    by_cases h3 : l = m
    · rw [if_pos h3] at e
      simp (maxSteps := 1000000) (disch := omega) only [go_sem, ↓reduceIte, Nat.reduceEqDiff, Nat.reduceAdd, Nat.reduceSub, Nat.reduceMul, Nat.reduceLT, Nat.reduceLeDiff, reduceCtorEq, Nat.succ_ne_self, ne_eq, not_true_eq_false, not_false_eq_true, and_self, and_true, true_and, Nat.zero_add, Nat.sub_zero, Nat.zero_mul, Nat.one_mul, Nat.le_refl, List.getElem?_cons_zero, List.set_cons_zero, Int.reduceToNat, Int.reduceLT, Int.reduceLE, Int.reduceAdd, Int.reduceSub, Int.reduceMul, Int.reduceEq, Int.reduceNe, Int.toNat_natCast, Int.natCast_zero, wrap_id, wrapu_id, wrapb_id, idx_ok, bin_quo, bin_rem, tdiv_id, tmod_id, ps_bptr, x24, lenv_sl hv.len, lenv_sl hu.len, ints_len, h2, e, h3]
    · rw [if_neg h3] at e
      simp (maxSteps := 1000000) (disch := omega) only [go_sem, ↓reduceIte, Nat.reduceEqDiff, Nat.reduceAdd, Nat.reduceSub, Nat.reduceMul, Nat.reduceLT, Nat.reduceLeDiff, reduceCtorEq, Nat.succ_ne_self, ne_eq, not_true_eq_false, not_false_eq_true, and_self, and_true, true_and, Nat.zero_add, Nat.sub_zero, Nat.zero_mul, Nat.one_mul, Nat.le_refl, List.getElem?_cons_zero, List.set_cons_zero, Int.reduceToNat, Int.reduceLT, Int.reduceLE, Int.reduceAdd, Int.reduceSub, Int.reduceMul, Int.reduceEq, Int.reduceNe, Int.toNat_natCast, Int.natCast_zero, wrap_id, wrapu_id, wrapb_id, idx_ok, bin_quo, bin_rem, tdiv_id, tmod_id, ps_bptr, x24, lenv_sl hv.len, lenv_sl hu.len, ints_len, h2, e, h3]
  · have h2 : ¬ (l.length : Int) = m.length := by omega
    have h3 : ¬ l = m := by rintro rfl; exact h1 rfl
    simp (maxSteps := 1000000) (disch := omega) only [go_sem, ↓reduceIte, Nat.reduceEqDiff, Nat.reduceAdd, Nat.reduceSub, Nat.reduceMul, Nat.reduceLT, Nat.reduceLeDiff, reduceCtorEq, Nat.succ_ne_self, ne_eq, not_true_eq_false, not_false_eq_true, and_self, and_true, true_and, Nat.zero_add, Nat.sub_zero, Nat.zero_mul, Nat.one_mul, Nat.le_refl, List.getElem?_cons_zero, List.set_cons_zero, Int.reduceToNat, Int.reduceLT, Int.reduceLE, Int.reduceAdd, Int.reduceSub, Int.reduceMul, Int.reduceEq, Int.reduceNe, Int.toNat_natCast, Int.natCast_zero, wrap_id, wrapu_id, wrapb_id, idx_ok, bin_quo, bin_rem, tdiv_id, tmod_id, ps_bptr, x24, lenv_sl hv.len, lenv_sl hu.len, ints_len, h2, h3]
end Go.VI.Mix
