import Derived.Test.YtegokpicloedeaaMixTab
namespace Go.VI.Mix
set_option linter.unusedVariables false
set_option linter.unusedSimpArgs false

def ints (l : List Int) : List AV := l.map (.int .i64)
def pt (p : Int × Int) : AV := .agg [.int .i64 p.1, .int .i64 p.2]
def pts (l : List (Int × Int)) : List AV := l.map pt
def pickS (c n : Int) : Int := (if c < 0 then -(c + 1) else c) % n
@[simp] theorem ints_len (l : List Int) : (ints l).length = l.length := by simp [ints]
@[simp] theorem pts_len (l : List (Int × Int)) : (pts l).length = l.length := by simp [pts]
theorem ints_get (l : List Int) (k : Nat) (h : k < (ints l).length) : (ints l)[k] = .int .i64 (l[k]'(by simpa using h)) := by simp [ints]
theorem pts_get (l : List (Int × Int)) (k : Nat) (h : k < (pts l).length) : (pts l)[k] = pt (l[k]'(by simpa using h)) := by simp [pts]

theorem pick13 (c n : Int) (h : Heap) (lo : Nat) (h1 : -9223372036854775808 ≤ c) (h2 : c ≤ 9223372036854775807) (hn : 0 < n) : (run lib).fn 13 [.int .i64 c, .int .i64 n] h lo = some (.int .i64 (pickS c n), h) := by
  rw [run_closed (x := x13) rfl rfl rfl rfl]
  unfold pickS
  by_cases hc : c < 0
  · simp (maxSteps := 1000000) (disch := omega) only [go_sem, ↓reduceIte, Nat.reduceEqDiff, Nat.reduceAdd, Nat.reduceSub, Nat.reduceMul, Nat.reduceLT, Nat.reduceLeDiff, reduceCtorEq, Nat.succ_ne_self, ne_eq, not_true_eq_false, not_false_eq_true, and_self, and_true, true_and, Nat.zero_add, Nat.sub_zero, Nat.zero_mul, Nat.one_mul, Nat.le_refl, List.getElem?_cons_zero, List.set_cons_zero, Int.reduceToNat, Int.reduceLT, Int.reduceLE, Int.reduceAdd, Int.reduceSub, Int.reduceMul, Int.reduceEq, Int.reduceNe, Int.toNat_natCast, Int.natCast_zero, wrap_id, wrapu_id, wrapb_id, idx_ok, bin_quo, bin_rem, tdiv_id, tmod_id, ps_bptr, x13, hc]
  · simp (maxSteps := 1000000) (disch := omega) only [go_sem, ↓reduceIte, Nat.reduceEqDiff, Nat.reduceAdd, Nat.reduceSub, Nat.reduceMul, Nat.reduceLT, Nat.reduceLeDiff, reduceCtorEq, Nat.succ_ne_self, ne_eq, not_true_eq_false, not_false_eq_true, and_self, and_true, true_and, Nat.zero_add, Nat.sub_zero, Nat.zero_mul, Nat.one_mul, Nat.le_refl, List.getElem?_cons_zero, List.set_cons_zero, Int.reduceToNat, Int.reduceLT, Int.reduceLE, Int.reduceAdd, Int.reduceSub, Int.reduceMul, Int.reduceEq, Int.reduceNe, Int.toNat_natCast, Int.natCast_zero, wrap_id, wrapu_id, wrapb_id, idx_ok, bin_quo, bin_rem, tdiv_id, tmod_id, ps_bptr, x13, hc]
theorem pick33 (c n : Int) (h : Heap) (lo : Nat) (h1 : -9223372036854775808 ≤ c) (h2 : c ≤ 9223372036854775807) (hn : 0 < n) : (run lib).fn 33 [.int .i64 c, .int .i64 n] h lo = some (.int .i64 (pickS c n), h) := by
  rw [run_closed (x := x33) rfl rfl rfl rfl]
  unfold pickS
  by_cases hc : c < 0
  · simp (maxSteps := 1000000) (disch := omega) only [go_sem, ↓reduceIte, Nat.reduceEqDiff, Nat.reduceAdd, Nat.reduceSub, Nat.reduceMul, Nat.reduceLT, Nat.reduceLeDiff, reduceCtorEq, Nat.succ_ne_self, ne_eq, not_true_eq_false, not_false_eq_true, and_self, and_true, true_and, Nat.zero_add, Nat.sub_zero, Nat.zero_mul, Nat.one_mul, Nat.le_refl, List.getElem?_cons_zero, List.set_cons_zero, Int.reduceToNat, Int.reduceLT, Int.reduceLE, Int.reduceAdd, Int.reduceSub, Int.reduceMul, Int.reduceEq, Int.reduceNe, Int.toNat_natCast, Int.natCast_zero, wrap_id, wrapu_id, wrapb_id, idx_ok, bin_quo, bin_rem, tdiv_id, tmod_id, ps_bptr, x33, hc]
  · simp (maxSteps := 1000000) (disch := omega) only [go_sem, ↓reduceIte, Nat.reduceEqDiff, Nat.reduceAdd, Nat.reduceSub, Nat.reduceMul, Nat.reduceLT, Nat.reduceLeDiff, reduceCtorEq, Nat.succ_ne_self, ne_eq, not_true_eq_false, not_false_eq_true, and_self, and_true, true_and, Nat.zero_add, Nat.sub_zero, Nat.zero_mul, Nat.one_mul, Nat.le_refl, List.getElem?_cons_zero, List.set_cons_zero, Int.reduceToNat, Int.reduceLT, Int.reduceLE, Int.reduceAdd, Int.reduceSub, Int.reduceMul, Int.reduceEq, Int.reduceNe, Int.toNat_natCast, Int.natCast_zero, wrap_id, wrapu_id, wrapb_id, idx_ok, bin_quo, bin_rem, tdiv_id, tmod_id, ps_bptr, x33, hc]
theorem between_run (n a b : Int) (h : Heap) (lo : Nat) : (run lib).fn 35 [.int .i64 n, .int .i64 a, .int .i64 b] h lo = some (.bool (decide (a ≤ n) && decide (n ≤ b)), h) := by
  rw [run_closed (x := x35) rfl rfl rfl rfl]
  by_cases h1 : a ≤ n <;> simp only [go_sem, ↓reduceIte, Nat.reduceEqDiff, Nat.reduceAdd, Nat.reduceSub, Nat.reduceMul, Nat.reduceLT, Nat.reduceLeDiff, reduceCtorEq, Nat.succ_ne_self, ne_eq, not_true_eq_false, not_false_eq_true, and_self, and_true, true_and, Nat.zero_add, Nat.sub_zero, Nat.zero_mul, Nat.one_mul, Nat.le_refl, List.getElem?_cons_zero, List.set_cons_zero, Int.reduceToNat, Int.reduceLT, Int.reduceLE, Int.reduceAdd, Int.reduceSub, Int.reduceMul, Int.reduceEq, Int.reduceNe, Int.toNat_natCast, Int.natCast_zero, x35, h1]
theorem in_run (n a b : Int) (h : Heap) (lo : Nat) : (run lib).fn 38 [.int .i64 n, .int .i64 a, .int .i64 b] h lo = some (.bool (decide (a ≤ n) && decide (n ≤ b)), h) := by
  rw [run_closed (x := x38) rfl rfl rfl rfl]
  by_cases h1 : a ≤ n <;> simp only [go_sem, ↓reduceIte, Nat.reduceEqDiff, Nat.reduceAdd, Nat.reduceSub, Nat.reduceMul, Nat.reduceLT, Nat.reduceLeDiff, reduceCtorEq, Nat.succ_ne_self, ne_eq, not_true_eq_false, not_false_eq_true, and_self, and_true, true_and, Nat.zero_add, Nat.sub_zero, Nat.zero_mul, Nat.one_mul, Nat.le_refl, List.getElem?_cons_zero, List.set_cons_zero, Int.reduceToNat, Int.reduceLT, Int.reduceLE, Int.reduceAdd, Int.reduceSub, Int.reduceMul, Int.reduceEq, Int.reduceNe, Int.toNat_natCast, Int.natCast_zero, x38, h1]

theorem ceil_neg {a b : Int} (hb : 0 < b) : -((-a + b - 1) / b) = a / b := by
  have h1 := Int.emod_add_mul_ediv a b
  have h2 := Int.emod_nonneg a (show b ≠ 0 by omega)
  have h3 := Int.emod_lt_of_pos a hb
  have : (-a + b - 1) / b = -(a / b) := by
    rw [Int.ediv_eq_iff_of_pos hb]
    rw [Int.neg_mul, Int.mul_comm (a / b) b]
    omega
  omega
theorem down_run (a b : Int) (h : Heap) (lo : Nat) (ha : -1000000000000 ≤ a) (ha' : a ≤ 1000000000000) (hb : 0 < b) (hb' : b ≤ 1000000000000) : (run lib).fn 45 [.int .i64 a, .int .i64 b] h lo = some (.int .i64 (a / b), h) := by
  rw [run_closed (x := x45) rfl rfl rfl rfl]
  by_cases h1 : a < 0
  · have h2 : 0 ≤ (-a + b - 1) / b := Int.ediv_nonneg (by omega) (by omega)
    have h3 : (-a + b - 1) / b ≤ -a + b - 1 := Int.ediv_le_self _ (by omega)
    simp (maxSteps := 1000000) (disch := omega) only [go_sem, ↓reduceIte, Nat.reduceEqDiff, Nat.reduceAdd, Nat.reduceSub, Nat.reduceMul, Nat.reduceLT, Nat.reduceLeDiff, reduceCtorEq, Nat.succ_ne_self, ne_eq, not_true_eq_false, not_false_eq_true, and_self, and_true, true_and, Nat.zero_add, Nat.sub_zero, Nat.zero_mul, Nat.one_mul, Nat.le_refl, List.getElem?_cons_zero, List.set_cons_zero, Int.reduceToNat, Int.reduceLT, Int.reduceLE, Int.reduceAdd, Int.reduceSub, Int.reduceMul, Int.reduceEq, Int.reduceNe, Int.toNat_natCast, Int.natCast_zero, wrap_id, wrapu_id, wrapb_id, idx_ok, bin_quo, bin_rem, tdiv_id, tmod_id, ps_bptr, x45, h1]
    rw [ceil_neg hb]
  · have h2 : 0 ≤ a / b := Int.ediv_nonneg (by omega) (by omega)
    have h3 : a / b ≤ a := Int.ediv_le_self _ (by omega)
    simp (maxSteps := 1000000) (disch := omega) only [go_sem, ↓reduceIte, Nat.reduceEqDiff, Nat.reduceAdd, Nat.reduceSub, Nat.reduceMul, Nat.reduceLT, Nat.reduceLeDiff, reduceCtorEq, Nat.succ_ne_self, ne_eq, not_true_eq_false, not_false_eq_true, and_self, and_true, true_and, Nat.zero_add, Nat.sub_zero, Nat.zero_mul, Nat.one_mul, Nat.le_refl, List.getElem?_cons_zero, List.set_cons_zero, Int.reduceToNat, Int.reduceLT, Int.reduceLE, Int.reduceAdd, Int.reduceSub, Int.reduceMul, Int.reduceEq, Int.reduceNe, Int.toNat_natCast, Int.natCast_zero, wrap_id, wrapu_id, wrapb_id, idx_ok, bin_quo, bin_rem, tdiv_id, tmod_id, ps_bptr, x45, h1]

def curveB (last : Int) : List (Int × Int) → Bool
  | [] => true
  | p :: r => (decide (last + 1 ≤ p.1) && decide (p.1 ≤ 599)) && (decide (0 ≤ p.2) && decide (p.2 ≤ 4096)) && curveB p.1 r

theorem cast1 (k : Nat) : ((k + 1 : Nat) : Int) = (k : Int) + 1 := by simp
theorem curve_loop {h : Heap} {v : AV} {l : List (Int × Int)} (hv : Sl h 2 v (pts l)) (hl : l.length ≤ 9223372036854775807) (last : Int) (hlast : -1 ≤ last) (hlast' : last ≤ 599) (k : Nat) (hk : k ≤ l.length) (v0 : Nat) (b0 : Blk) :
    ∃ fr, runC lib ⟨h.length, h.length, 1, none⟩ (.loop b34_0) ([(0, v), (3, .int .i64 last), (6, v), (7, .int .i64 l.length), (8, .int .i64 k)], h ++ [(v0, b0)]) =
      if curveB last (l.drop k) = true then some (.exit 0, ([(0, v)], h ++ fr)) else some (.ret, ([(2, .bool false)], h ++ fr)) := by
  obtain ⟨d, hd⟩ : ∃ d, d = l.length - k := ⟨_, rfl⟩
  induction d generalizing k last v0 b0 with
  | zero =>
    have : k = l.length := by omega
    subst this
    refine ⟨[(v0, b0)], ?_⟩
    rw [w_loop]
    simp (maxSteps := 1000000) (disch := omega) only [go_sem, ↓reduceIte, Nat.reduceEqDiff, Nat.reduceAdd, Nat.reduceSub, Nat.reduceMul, Nat.reduceLT, Nat.reduceLeDiff, reduceCtorEq, Nat.succ_ne_self, ne_eq, not_true_eq_false, not_false_eq_true, and_self, and_true, true_and, Nat.zero_add, Nat.sub_zero, Nat.zero_mul, Nat.one_mul, Nat.le_refl, List.getElem?_cons_zero, List.set_cons_zero, Int.reduceToNat, Int.reduceLT, Int.reduceLE, Int.reduceAdd, Int.reduceSub, Int.reduceMul, Int.reduceEq, Int.reduceNe, Int.toNat_natCast, Int.natCast_zero, wrap_id, wrapu_id, wrapb_id, idx_ok, bin_quo, bin_rem, tdiv_id, tmod_id, ps_bptr, Int.lt_irrefl, List.drop_length, curveB]
  | succ d ih =>
    have hk' : k < l.length := by omega
    have e3 : sidx 2 v (.int .i64 k) = some k := by rw [sidx_sl hv (by omega) (by simp; omega)]; simp
    have e4 := pc_iptr (off := 0) (hv.elems [(v0, b0)]) (show k < (pts l).length by simp; omega)
    rw [pts_get] at e4
    rw [List.drop_eq_getElem_cons hk']
    have e5 : ((k : Int) < l.length) := by omega
    obtain ⟨p, hp⟩ : ∃ p, p = l[k] := ⟨_, rfl⟩
    rw [← hp] at e4 ⊢
    simp only [pt] at e4
    cases h1 : (decide (last + 1 ≤ p.1) && decide (p.1 ≤ 599)) with
    | false =>
      refine ⟨[(v0 + 1, .box [.int .i64 p.1, .int .i64 p.2])], ?_⟩
      rw [w_loop]
      simp (maxSteps := 1000000) (disch := omega) only [go_sem, ↓reduceIte, Nat.reduceEqDiff, Nat.reduceAdd, Nat.reduceSub, Nat.reduceMul, Nat.reduceLT, Nat.reduceLeDiff, reduceCtorEq, Nat.succ_ne_self, ne_eq, not_true_eq_false, not_false_eq_true, and_self, and_true, true_and, Nat.zero_add, Nat.sub_zero, Nat.zero_mul, Nat.one_mul, Nat.le_refl, List.getElem?_cons_zero, List.set_cons_zero, Int.reduceToNat, Int.reduceLT, Int.reduceLE, Int.reduceAdd, Int.reduceSub, Int.reduceMul, Int.reduceEq, Int.reduceNe, Int.toNat_natCast, Int.natCast_zero, wrap_id, wrapu_id, wrapb_id, idx_ok, bin_quo, bin_rem, tdiv_id, tmod_id, ps_bptr, e3, e4, e5, between_run, h1, curveB]
    | true =>
      simp only [Bool.and_eq_true, decide_eq_true_eq] at h1
      cases h2 : (decide (0 ≤ p.2) && decide (p.2 ≤ 4096)) with
      | false =>
        refine ⟨[(v0 + 1, .box [.int .i64 p.1, .int .i64 p.2])], ?_⟩
        rw [w_loop]
        simp (maxSteps := 1000000) (disch := omega) only [go_sem, ↓reduceIte, Nat.reduceEqDiff, Nat.reduceAdd, Nat.reduceSub, Nat.reduceMul, Nat.reduceLT, Nat.reduceLeDiff, reduceCtorEq, Nat.succ_ne_self, ne_eq, not_true_eq_false, not_false_eq_true, and_self, and_true, true_and, Nat.zero_add, Nat.sub_zero, Nat.zero_mul, Nat.one_mul, Nat.le_refl, List.getElem?_cons_zero, List.set_cons_zero, Int.reduceToNat, Int.reduceLT, Int.reduceLE, Int.reduceAdd, Int.reduceSub, Int.reduceMul, Int.reduceEq, Int.reduceNe, Int.toNat_natCast, Int.natCast_zero, wrap_id, wrapu_id, wrapb_id, idx_ok, bin_quo, bin_rem, tdiv_id, tmod_id, ps_bptr, e3, e4, e5, between_run, h1, h2, curveB]
      | true =>
        obtain ⟨fr, e⟩ := ih p.1 (by omega) (by omega) (k + 1) (by omega) (v0 + 1) (.box [.int .i64 p.1, .int .i64 p.2]) (by omega)
        rw [cast1] at e
        refine ⟨fr, ?_⟩
        rw [w_loop]
        simp (maxSteps := 1000000) (disch := omega) only [go_sem, ↓reduceIte, Nat.reduceEqDiff, Nat.reduceAdd, Nat.reduceSub, Nat.reduceMul, Nat.reduceLT, Nat.reduceLeDiff, reduceCtorEq, Nat.succ_ne_self, ne_eq, not_true_eq_false, not_false_eq_true, and_self, and_true, true_and, Nat.zero_add, Nat.sub_zero, Nat.zero_mul, Nat.one_mul, Nat.le_refl, List.getElem?_cons_zero, List.set_cons_zero, Int.reduceToNat, Int.reduceLT, Int.reduceLE, Int.reduceAdd, Int.reduceSub, Int.reduceMul, Int.reduceEq, Int.reduceNe, Int.toNat_natCast, Int.natCast_zero, wrap_id, wrapu_id, wrapb_id, idx_ok, bin_quo, bin_rem, tdiv_id, tmod_id, ps_bptr, e3, e4, e5, between_run, h1, h2, curveB, e]
theorem curve_run {h : Heap} {v : AV} {l : List (Int × Int)} (hv : Sl h 2 v (pts l)) (hl : l.length ≤ 9223372036854775807) (lo : Nat) : (run lib).fn 34 [v] h lo = some (.bool (curveB (-1) l && decide ((l.length : Int) ≤ 12)), h) := by
  obtain ⟨fr, e⟩ := curve_loop hv hl (-1) (by omega) (by omega) 0 (by omega) 0 .dead
  rw [Int.natCast_zero, List.drop_zero] at e
  rw [run_closed (x := x34) rfl rfl rfl rfl]
  cases hb : curveB (-1) l <;> rw [hb] at e <;> simp (maxSteps := 1000000) (disch := omega) only [go_sem, ↓reduceIte, Nat.reduceEqDiff, Nat.reduceAdd, Nat.reduceSub, Nat.reduceMul, Nat.reduceLT, Nat.reduceLeDiff, reduceCtorEq, Nat.succ_ne_self, ne_eq, not_true_eq_false, not_false_eq_true, and_self, and_true, true_and, Nat.zero_add, Nat.sub_zero, Nat.zero_mul, Nat.one_mul, Nat.le_refl, List.getElem?_cons_zero, List.set_cons_zero, Int.reduceToNat, Int.reduceLT, Int.reduceLE, Int.reduceAdd, Int.reduceSub, Int.reduceMul, Int.reduceEq, Int.reduceNe, Int.toNat_natCast, Int.natCast_zero, wrap_id, wrapu_id, wrapb_id, idx_ok, bin_quo, bin_rem, tdiv_id, tmod_id, ps_bptr, x34, lenv_sl hv.len, pts_len, e]
theorem pickS_bd {c n : Int} (hn : 0 < n) : 0 ≤ pickS c n ∧ pickS c n < n := by
  unfold pickS; exact ⟨Int.emod_nonneg _ (by omega), Int.emod_lt_of_pos _ hn⟩

def curvedS (at' : Int) : List (Int × Int) → List (Int × Int)
  | [] => []
  | x :: r => (at' + 1 + pickS x.1 12, pickS x.2 4097) :: curvedS (at' + 1 + pickS x.1 12) r
theorem pts_app (a b : List (Int × Int)) : pts (a ++ b) = pts a ++ pts b := by simp [pts]
def okI (n : Int) : Prop := -9223372036854775808 ≤ n ∧ n ≤ 9223372036854775807

theorem curved_loop {h : Heap} {v : AV} {xs : List (Int × Int)} (hv : Sl h 2 v (pts xs)) (hl : xs.length ≤ 9223372036854775807) (hi : ∀ x ∈ xs, okI x.1 ∧ okI x.2) (d : Nat) :
    ∀ (k : Nat) (es : List (Int × Int)) (at' : Int) (b0 : Nat × Blk), d = min 6 xs.length - k → k ≤ min 6 xs.length → es.length = k → -1 ≤ at' → at' ≤ 12 * k →
    runC lib ⟨h.length, h.length, 1, none⟩ (.loop b14_0) ([(0, v), (3, accV (h.length + 0) b0 2 (pts es)), (4, .int .i64 at'), (5, .int .i64 k)], h ++ [accB b0 2 (pts es)]) =
      some (.exit 0, ([(3, accV (h.length + 0) b0 2 (pts (es ++ curvedS at' ((xs.take 6).drop k))))], h ++ [accB b0 2 (pts (es ++ curvedS at' ((xs.take 6).drop k)))])) := by
  induction d with
  | zero =>
    intro k es at' b0 hd hk he ha ha'
    have hdr : (xs.take 6).drop k = [] := by rw [List.drop_eq_nil_iff]; simp; omega
    rw [hdr, curvedS, List.append_nil, w_loop]
    by_cases h1 : (k : Int) < xs.length
    · have h2 : ¬ (k : Int) < 6 := by omega
      simp (maxSteps := 1000000) (disch := omega) only [go_sem, ↓reduceIte, Nat.reduceEqDiff, Nat.reduceAdd, Nat.reduceSub, Nat.reduceMul, Nat.reduceLT, Nat.reduceLeDiff, reduceCtorEq, Nat.succ_ne_self, ne_eq, not_true_eq_false, not_false_eq_true, and_self, and_true, true_and, Nat.zero_add, Nat.sub_zero, Nat.zero_mul, Nat.one_mul, Nat.le_refl, List.getElem?_cons_zero, List.set_cons_zero, Int.reduceToNat, Int.reduceLT, Int.reduceLE, Int.reduceAdd, Int.reduceSub, Int.reduceMul, Int.reduceEq, Int.reduceNe, Int.toNat_natCast, Int.natCast_zero, wrap_id, wrapu_id, wrapb_id, idx_ok, bin_quo, bin_rem, tdiv_id, tmod_id, ps_bptr, lenv_sl hv.len, pts_len, h1, h2]
    · simp (maxSteps := 1000000) (disch := omega) only [go_sem, ↓reduceIte, Nat.reduceEqDiff, Nat.reduceAdd, Nat.reduceSub, Nat.reduceMul, Nat.reduceLT, Nat.reduceLeDiff, reduceCtorEq, Nat.succ_ne_self, ne_eq, not_true_eq_false, not_false_eq_true, and_self, and_true, true_and, Nat.zero_add, Nat.sub_zero, Nat.zero_mul, Nat.one_mul, Nat.le_refl, List.getElem?_cons_zero, List.set_cons_zero, Int.reduceToNat, Int.reduceLT, Int.reduceLE, Int.reduceAdd, Int.reduceSub, Int.reduceMul, Int.reduceEq, Int.reduceNe, Int.toNat_natCast, Int.natCast_zero, wrap_id, wrapu_id, wrapb_id, idx_ok, bin_quo, bin_rem, tdiv_id, tmod_id, ps_bptr, lenv_sl hv.len, pts_len, h1]
  | succ d ih =>
    intro k es at' b0 hd hk he ha ha'
    have hk' : k < xs.length := by omega
    have h1 : (k : Int) < xs.length := by omega
    have h2 : (k : Int) < 6 := by omega
    have hdr : (xs.take 6).drop k = xs[k] :: (xs.take 6).drop (k + 1) := by
      rw [List.drop_eq_getElem_cons (by simp; omega)]; simp
    have e3 : sidx 2 v (.int .i64 k) = some k := by rw [sidx_sl hv (by omega) (by simp; omega)]; simp
    have e4 := fun off fr => pc_iptr (off := off) (hv.elems fr) (show k < (pts xs).length by simp; omega)
    simp only [pts_get, pt] at e4
    obtain ⟨x, hx⟩ : ∃ x, x = xs[k] := ⟨_, rfl⟩
    have hx' := hi xs[k] (List.getElem_mem _)
    rw [hdr]
    rw [← hx] at e4 hx' ⊢
    obtain ⟨⟨i1, i2⟩, i3, i4⟩ := hx'
    have p1 := pickS_bd (c := x.1) (n := 12) (by omega)
    have p2 := pickS_bd (c := x.2) (n := 4097) (by omega)
    have e := ih (k + 1) (es ++ [(at' + 1 + pickS x.1 12, pickS x.2 4097)]) (at' + 1 + pickS x.1 12) b0 (by omega) (by omega) (by simp; omega) (by omega) (by omega)
    rw [cast1, List.append_assoc, pts_app es [_]] at e
    have e5 := app_acc (lo := h.length) (ns := 1) (s := 0) (z := 2) (lim := 8796093022208) (h := h) (fr := [accB b0 2 (pts es)]) (b0 := b0) (es := pts es) (xs := pts [(at' + 1 + pickS x.1 12, pickS x.2 4097)]) (by omega) (by omega) rfl (by simp; omega)
    simp only [pts, pt, List.map_cons, List.map_nil] at e5 e
    rw [w_loop]
    simp (maxSteps := 1000000) (disch := omega) only [go_sem, ↓reduceIte, Nat.reduceEqDiff, Nat.reduceAdd, Nat.reduceSub, Nat.reduceMul, Nat.reduceLT, Nat.reduceLeDiff, reduceCtorEq, Nat.succ_ne_self, ne_eq, not_true_eq_false, not_false_eq_true, and_self, and_true, true_and, Nat.zero_add, Nat.sub_zero, Nat.zero_mul, Nat.one_mul, Nat.le_refl, List.getElem?_cons_zero, List.set_cons_zero, Int.reduceToNat, Int.reduceLT, Int.reduceLE, Int.reduceAdd, Int.reduceSub, Int.reduceMul, Int.reduceEq, Int.reduceNe, Int.toNat_natCast, Int.natCast_zero, wrap_id, wrapu_id, wrapb_id, idx_ok, bin_quo, bin_rem, tdiv_id, tmod_id, ps_bptr, lenv_sl hv.len, pts_len, h1, h2, e3, e4, pick33, e5, e, curvedS, pts, pt, List.length_map]
theorem curved_run {h : Heap} {v : AV} {xs : List (Int × Int)} (hv : Sl h 2 v (pts xs)) (hl : xs.length ≤ 9223372036854775807) (hi : ∀ x ∈ xs, okI x.1 ∧ okI x.2) (lo : Nat) :
    (run lib).fn 14 [v] h lo = some (ownV 2 (pts (curvedS (-1) (xs.take 6))), h) := by
  have e := curved_loop hv hl hi _ 0 [] (-1) (0, .dead) rfl (by omega) rfl (by omega) (by omega)
  rw [Int.natCast_zero, List.drop_zero, List.nil_append] at e
  simp only [pts, List.map_nil, accV_nil, accB_nil] at e
  have e2 := giveRes_acc (s := 0) (z := 2) (h := h) (fr := [accB (0, .dead) 2 (pts (curvedS (-1) (xs.take 6)))]) (b0 := (0, .dead)) (es := pts (curvedS (-1) (xs.take 6))) rfl
  simp only [pts] at e2 ⊢
  rw [run_closed (x := x14) rfl rfl rfl rfl]
  simp (maxSteps := 1000000) (disch := omega) only [go_sem, ↓reduceIte, Nat.reduceEqDiff, Nat.reduceAdd, Nat.reduceSub, Nat.reduceMul, Nat.reduceLT, Nat.reduceLeDiff, reduceCtorEq, Nat.succ_ne_self, ne_eq, not_true_eq_false, not_false_eq_true, and_self, and_true, true_and, Nat.zero_add, Nat.sub_zero, Nat.zero_mul, Nat.one_mul, Nat.le_refl, List.getElem?_cons_zero, List.set_cons_zero, Int.reduceToNat, Int.reduceLT, Int.reduceLE, Int.reduceAdd, Int.reduceSub, Int.reduceMul, Int.reduceEq, Int.reduceNe, Int.toNat_natCast, Int.natCast_zero, wrap_id, wrapu_id, wrapb_id, idx_ok, bin_quo, bin_rem, tdiv_id, tmod_id, ps_bptr, x14, e, e2]
theorem gain1_run (p : Int × Int) (t : Int) (h : Heap) (lo : Nat) (h1 : -1000000000 ≤ p.1) (h2 : p.1 ≤ 1000000000) (h3 : -1000000000 ≤ t) (h4 : t ≤ 1000000000) :
    (run lib).fn 53 [.agg [.int .i64 p.1, .int .i64 p.2], .int .i64 t] h lo = some (.int .i64 (p.1 - t), h) := by
  rw [run_closed (x := x53) rfl rfl rfl rfl]
  simp (maxSteps := 1000000) (disch := omega) only [go_sem, ↓reduceIte, Nat.reduceEqDiff, Nat.reduceAdd, Nat.reduceSub, Nat.reduceMul, Nat.reduceLT, Nat.reduceLeDiff, reduceCtorEq, Nat.succ_ne_self, ne_eq, not_true_eq_false, not_false_eq_true, and_self, and_true, true_and, Nat.zero_add, Nat.sub_zero, Nat.zero_mul, Nat.one_mul, Nat.le_refl, List.getElem?_cons_zero, List.set_cons_zero, Int.reduceToNat, Int.reduceLT, Int.reduceLE, Int.reduceAdd, Int.reduceSub, Int.reduceMul, Int.reduceEq, Int.reduceNe, Int.toNat_natCast, Int.natCast_zero, wrap_id, wrapu_id, wrapb_id, idx_ok, bin_quo, bin_rem, tdiv_id, tmod_id, ps_bptr, x53]
def okP (p : Int × Int) : Prop := 0 ≤ p.1 ∧ p.1 ≤ 599 ∧ 0 ≤ p.2 ∧ p.2 ≤ 4096

theorem bs_loop {h : Heap} {v : AV} {l : List (Int × Int)} (hv : Sl h 2 v (pts l)) (hl : l.length ≤ 1000) (hp : ∀ p ∈ l, okP p) (t : Int) (ht : 0 ≤ t) (ht' : t ≤ 1000) (r : Nat) (hr : ∀ x (hx : x < l.length), l[x].1 < t ↔ x < r) (lo : Nat) (d : Nat) :
    ∀ (i j : Nat), d = j - i → i ≤ r → r ≤ j → j ≤ l.length →
    runC lib ⟨lo, h.length, 0, none⟩ (.loop b52_0) ([(0, v), (1, .int .i64 t), (2, .fn 53 []), (8, .int .i64 l.length), (9, .int .i64 i), (10, .int .i64 j)], h) =
      some (.exit 0, ([(0, v), (1, .int .i64 t), (2, .fn 53 []), (8, .int .i64 l.length), (9, .int .i64 r)], h)) := by
  induction d using Nat.strongRecOn with
  | _ d ih =>
    intro i j hd h1 h2 h3
    rw [w_loop]
    by_cases hij : i < j
    · have c1 : (i : Int) < j := by omega
      obtain ⟨m, hm⟩ : ∃ m, m = (i + j) / 2 := ⟨_, rfl⟩
      have hm' : ((i : Int) + j) / 2 = (m : Int) := by omega
      have hml : m < l.length := by omega
      have e3 : sidx 2 v (.int .i64 m) = some m := by rw [sidx_sl hv (by omega) (by simp; omega)]; simp
      have e4 := pc_iptr (off := 0) hv.elems0 (show m < (pts l).length by simp; omega)
      simp only [pts_get, pt] at e4
      have q := hp _ (List.getElem_mem hml)
      have q2 := hr m hml
      obtain ⟨p, hp⟩ : ∃ p, p = l[m] := ⟨_, rfl⟩
      rw [← hp] at e4 q q2
      obtain ⟨q3, q4, q5, q6⟩ := q
      by_cases hlt : p.1 < t
      · have c2 : p.1 - t < 0 := by omega
        have hmr := q2.mp hlt
        have e := ih (j - (m + 1)) (by omega) (m + 1) j rfl (by omega) h2 h3
        rw [cast1] at e
        simp (maxSteps := 1000000) (disch := omega) only [go_sem, ↓reduceIte, Nat.reduceEqDiff, Nat.reduceAdd, Nat.reduceSub, Nat.reduceMul, Nat.reduceLT, Nat.reduceLeDiff, reduceCtorEq, Nat.succ_ne_self, ne_eq, not_true_eq_false, not_false_eq_true, and_self, and_true, true_and, Nat.zero_add, Nat.sub_zero, Nat.zero_mul, Nat.one_mul, Nat.le_refl, List.getElem?_cons_zero, List.set_cons_zero, Int.reduceToNat, Int.reduceLT, Int.reduceLE, Int.reduceAdd, Int.reduceSub, Int.reduceMul, Int.reduceEq, Int.reduceNe, Int.toNat_natCast, Int.natCast_zero, wrap_id, wrapu_id, wrapb_id, idx_ok, bin_quo, bin_rem, tdiv_id, tmod_id, ps_bptr, c1, hm', e3, e4, gain1_run, c2, e]
      · have c2 : ¬ p.1 - t < 0 := by omega
        have hmr := mt q2.mpr hlt
        have e := ih (m - i) (by omega) i m rfl h1 (by omega) (by omega)
        simp (maxSteps := 1000000) (disch := omega) only [go_sem, ↓reduceIte, Nat.reduceEqDiff, Nat.reduceAdd, Nat.reduceSub, Nat.reduceMul, Nat.reduceLT, Nat.reduceLeDiff, reduceCtorEq, Nat.succ_ne_self, ne_eq, not_true_eq_false, not_false_eq_true, and_self, and_true, true_and, Nat.zero_add, Nat.sub_zero, Nat.zero_mul, Nat.one_mul, Nat.le_refl, List.getElem?_cons_zero, List.set_cons_zero, Int.reduceToNat, Int.reduceLT, Int.reduceLE, Int.reduceAdd, Int.reduceSub, Int.reduceMul, Int.reduceEq, Int.reduceNe, Int.toNat_natCast, Int.natCast_zero, wrap_id, wrapu_id, wrapb_id, idx_ok, bin_quo, bin_rem, tdiv_id, tmod_id, ps_bptr, c1, hm', e3, e4, gain1_run, c2, e]
    · have c1 : ¬ (i : Int) < j := by omega
      have : i = r := by omega
      subst this
      simp (maxSteps := 1000000) (disch := omega) only [go_sem, ↓reduceIte, Nat.reduceEqDiff, Nat.reduceAdd, Nat.reduceSub, Nat.reduceMul, Nat.reduceLT, Nat.reduceLeDiff, reduceCtorEq, Nat.succ_ne_self, ne_eq, not_true_eq_false, not_false_eq_true, and_self, and_true, true_and, Nat.zero_add, Nat.sub_zero, Nat.zero_mul, Nat.one_mul, Nat.le_refl, List.getElem?_cons_zero, List.set_cons_zero, Int.reduceToNat, Int.reduceLT, Int.reduceLE, Int.reduceAdd, Int.reduceSub, Int.reduceMul, Int.reduceEq, Int.reduceNe, Int.toNat_natCast, Int.natCast_zero, wrap_id, wrapu_id, wrapb_id, idx_ok, bin_quo, bin_rem, tdiv_id, tmod_id, ps_bptr, c1]
theorem bs_run {h : Heap} {v : AV} {l : List (Int × Int)} (hv : Sl h 2 v (pts l)) (hl : l.length ≤ 1000) (hp : ∀ p ∈ l, okP p) (t : Int) (ht : 0 ≤ t) (ht' : t ≤ 1000) (r : Nat) (hr : ∀ x (hx : x < l.length), l[x].1 < t ↔ x < r) (hrl : r ≤ l.length) (lo : Nat) :
    (run lib).fn 52 [v, .int .i64 t, .fn 53 []] h lo = some (.tuple [.int .i64 r, .bool (if hx : r < l.length then decide (l[r].1 = t) else false)], h) := by
  have e := bs_loop hv hl hp t ht ht' r hr h.length _ 0 l.length rfl (by omega) hrl (by omega)
  rw [Int.natCast_zero] at e
  rw [run_closed (x := x52) rfl rfl rfl rfl]
  by_cases hx : r < l.length
  · have c1 : (r : Int) < l.length := by omega
    have e3 : sidx 2 v (.int .i64 r) = some r := by rw [sidx_sl hv (by omega) (by simp; omega)]; simp
    have e4 := pc_iptr (off := 0) hv.elems0 (show r < (pts l).length by simp; omega)
    simp only [pts_get, pt] at e4
    have q := hp _ (List.getElem_mem hx)
    rw [dif_pos hx]
    obtain ⟨p, hp⟩ : ∃ p, p = l[r] := ⟨_, rfl⟩
    rw [← hp] at e4 q ⊢
    obtain ⟨q3, q4, q5, q6⟩ := q
    have c2 : decide (p.1 - t = 0) = decide (p.1 = t) := by rw [decide_eq_decide]; omega
    simp (maxSteps := 1000000) (disch := omega) only [go_sem, ↓reduceIte, Nat.reduceEqDiff, Nat.reduceAdd, Nat.reduceSub, Nat.reduceMul, Nat.reduceLT, Nat.reduceLeDiff, reduceCtorEq, Nat.succ_ne_self, ne_eq, not_true_eq_false, not_false_eq_true, and_self, and_true, true_and, Nat.zero_add, Nat.sub_zero, Nat.zero_mul, Nat.one_mul, Nat.le_refl, List.getElem?_cons_zero, List.set_cons_zero, Int.reduceToNat, Int.reduceLT, Int.reduceLE, Int.reduceAdd, Int.reduceSub, Int.reduceMul, Int.reduceEq, Int.reduceNe, Int.toNat_natCast, Int.natCast_zero, wrap_id, wrapu_id, wrapb_id, idx_ok, bin_quo, bin_rem, tdiv_id, tmod_id, ps_bptr, x52, lenv_sl hv.len, pts_len, e, c1, e3, e4, gain1_run, c2]
  · have c1 : ¬ (r : Int) < l.length := by omega
    rw [dif_neg hx]
    simp (maxSteps := 1000000) (disch := omega) only [go_sem, ↓reduceIte, Nat.reduceEqDiff, Nat.reduceAdd, Nat.reduceSub, Nat.reduceMul, Nat.reduceLT, Nat.reduceLeDiff, reduceCtorEq, Nat.succ_ne_self, ne_eq, not_true_eq_false, not_false_eq_true, and_self, and_true, true_and, Nat.zero_add, Nat.sub_zero, Nat.zero_mul, Nat.one_mul, Nat.le_refl, List.getElem?_cons_zero, List.set_cons_zero, Int.reduceToNat, Int.reduceLT, Int.reduceLE, Int.reduceAdd, Int.reduceSub, Int.reduceMul, Int.reduceEq, Int.reduceNe, Int.toNat_natCast, Int.natCast_zero, wrap_id, wrapu_id, wrapb_id, idx_ok, bin_quo, bin_rem, tdiv_id, tmod_id, ps_bptr, x52, lenv_sl hv.len, pts_len, e, c1]
end Go.VI.Mix
namespace Go.VI.Mix
set_option linter.unusedVariables false
set_option linter.unusedSimpArgs false

theorem mul_bd {x y A B : Int} (h1 : -A ≤ x) (h2 : x ≤ A) (h3 : 0 ≤ y) (h4 : y ≤ B) : -(A * B) ≤ x * y ∧ x * y ≤ A * B := by
  have hA : 0 ≤ A := by omega
  have a := Int.mul_le_mul_of_nonneg_right h2 h3
  have b := Int.mul_le_mul_of_nonneg_left h4 hA
  have c := Int.mul_le_mul_of_nonneg_right h1 h3
  rw [Int.neg_mul] at c
  omega
theorem ediv_bd {x b M : Int} (hb : 0 < b) (h1 : -M ≤ x) (h2 : x ≤ M) (hM : 0 ≤ M) : -M ≤ x / b ∧ x / b ≤ M := by
  constructor
  · rw [Int.le_ediv_iff_mul_le hb]
    have := Int.mul_le_mul_of_nonneg_left (show 1 ≤ b by omega) hM
    rw [Int.neg_mul]; omega
  · have : x / b < M + 1 := by
      rw [Int.ediv_lt_iff_lt_mul hb]
      have := Int.mul_le_mul_of_nonneg_left (show 1 ≤ b by omega) (show 0 ≤ M + 1 by omega)
      omega
    omega

def gainFrom (a : Int × Int) : List (Int × Int) → Int → Int
  | [], _ => a.2
  | b :: r, t => if t < b.1 then a.2 + (b.2 - a.2) * (t - a.1) / (b.1 - a.1) else gainFrom b r t
def gainS : List (Int × Int) → Int → Int
  | [], _ => 1024
  | p :: r, t => if t ≤ p.1 then p.2 else gainFrom p r t

/-- Points in order, within bounds. -/
structure Crv (l : List (Int × Int)) : Prop where
  ok : ∀ p ∈ l, okP p
  up : l.Pairwise fun p q => p.1 < q.1
theorem curveB_crv : ∀ {l : List (Int × Int)} {last : Int}, curveB last l = true → -1 ≤ last → Crv l ∧ ∀ p ∈ l, last < p.1
  | [], last, _, _ => ⟨⟨by simp, by simp⟩, by simp⟩
  | p :: r, last, h, hl => by
    simp only [curveB, Bool.and_eq_true, decide_eq_true_eq] at h
    obtain ⟨⟨⟨h1, h2⟩, h3, h4⟩, h5⟩ := h
    obtain ⟨⟨c1, c2⟩, c3⟩ := curveB_crv h5 (by omega)
    refine ⟨⟨fun q hq => ?_, ?_⟩, fun q hq => ?_⟩
    · rcases List.mem_cons.mp hq with rfl | hq
      · exact ⟨by omega, h2, h3, h4⟩
      · exact c1 q hq
    · exact List.pairwise_cons.mpr ⟨c3, c2⟩
    · rcases List.mem_cons.mp hq with rfl | hq
      · omega
      · have := c3 q hq; omega
theorem crv_curveB : ∀ {l : List (Int × Int)} {last : Int}, Crv l → (∀ p ∈ l, last < p.1) → curveB last l = true
  | [], last, _, _ => rfl
  | p :: r, last, ⟨c1, c2⟩, h => by
    simp only [curveB, Bool.and_eq_true, decide_eq_true_eq]
    obtain ⟨h1, h2⟩ := List.pairwise_cons.mp c2
    have := h p (by simp)
    obtain ⟨o1, o2, o3, o4⟩ := c1 p (by simp)
    exact ⟨⟨⟨by omega, o2⟩, o3, o4⟩, crv_curveB ⟨fun q hq => c1 q (by simp [hq]), h2⟩ h1⟩

/-- How many points lie before t. -/
def cntS (l : List (Int × Int)) (t : Int) : Nat := (l.takeWhile fun p => decide (p.1 < t)).length
theorem cntS_le (l : List (Int × Int)) (t : Int) : cntS l t ≤ l.length := by unfold cntS; exact (List.takeWhile_prefix _).length_le
theorem cntS_iff : ∀ {l : List (Int × Int)} (t : Int), Crv l → ∀ x (hx : x < l.length), l[x].1 < t ↔ x < cntS l t
  | [], t, _, x, hx => by simp at hx
  | p :: r, t, ⟨c1, c2⟩, x, hx => by
    obtain ⟨h1, h2⟩ := List.pairwise_cons.mp c2
    unfold cntS
    by_cases hp : p.1 < t
    · rw [List.takeWhile_cons_of_pos (by simpa using hp)]
      cases x with
      | zero => simpa using hp
      | succ x =>
        have := cntS_iff (l := r) t ⟨fun q hq => c1 q (by simp [hq]), h2⟩ x (by simpa using hx)
        simpa [cntS] using this
    · rw [List.takeWhile_cons_of_neg (by simpa using hp)]
      cases x with
      | zero => simpa using hp
      | succ x =>
        have := h1 _ (List.getElem_mem (show x < r.length by simpa using hx))
        simp only [List.getElem_cons_succ, List.length_nil, Nat.not_lt_zero, iff_false]
        omega

theorem gainFrom_hit {a : Int × Int} {r : List (Int × Int)} (hc : Crv (a :: r)) : gainFrom a r a.1 = a.2 := by
  cases r with
  | nil => rfl
  | cons b r =>
    have := (List.pairwise_cons.mp hc.up).1 b (by simp)
    simp [gainFrom, this]
theorem gainFrom_at : ∀ (r : List (Int × Int)) (a : Int × Int) (t : Int), Crv (a :: r) → a.1 < t →
    gainFrom a r t = (if hx : cntS r t < r.length then (if r[cntS r t].1 = t then r[cntS r t].2 else
      let p := (a :: r)[cntS r t]'(by simp; omega)
      p.2 + (r[cntS r t].2 - p.2) * (t - p.1) / (r[cntS r t].1 - p.1)) else ((a :: r)[r.length]'(by simp)).2)
  | [], a, t, _, _ => by simp [gainFrom]
  | b :: r, a, t, hc, ha => by
    obtain ⟨c1, c2⟩ := hc
    have hcb : Crv (b :: r) := ⟨fun q hq => c1 q (by simp [hq]), (List.pairwise_cons.mp c2).2⟩
    unfold gainFrom
    by_cases hb : b.1 < t
    · rw [if_neg (by omega), gainFrom_at r b t hcb hb]
      have e : cntS (b :: r) t = cntS r t + 1 := by unfold cntS; rw [List.takeWhile_cons_of_pos (by simpa using hb)]; rfl
      simp only [e, List.length_cons, Nat.add_lt_add_iff_right, List.getElem_cons_succ]
    · have e : cntS (b :: r) t = 0 := by unfold cntS; rw [List.takeWhile_cons_of_neg (by simpa using hb)]; rfl
      simp only [e, List.length_cons, Nat.zero_lt_succ, dif_pos, List.getElem_cons_zero]
      by_cases h2 : b.1 = t
      · subst h2
        rw [if_neg (by omega), if_pos rfl, gainFrom_hit hcb]
      · rw [if_pos (by omega), if_neg h2]
/-- The gain at a sample, by the number of points before it. -/
theorem gainS_at {l : List (Int × Int)} (hc : Crv l) (t : Int) (h0 : l ≠ []) :
    gainS l t = if hx : cntS l t < l.length then (if l[cntS l t].1 = t ∨ cntS l t = 0 then l[cntS l t].2 else
      (l[cntS l t - 1]'(by omega)).2 + (l[cntS l t].2 - (l[cntS l t - 1]'(by omega)).2) * (t - (l[cntS l t - 1]'(by omega)).1) / (l[cntS l t].1 - (l[cntS l t - 1]'(by omega)).1))
      else (l[l.length - 1]'(by have := List.length_pos_iff.mpr h0; omega)).2 := by
  cases l with
  | nil => exact absurd rfl h0
  | cons a r =>
    simp only [gainS]
    by_cases ha : a.1 < t
    · rw [if_neg (by omega), gainFrom_at r a t hc ha]
      have e : cntS (a :: r) t = cntS r t + 1 := by unfold cntS; rw [List.takeWhile_cons_of_pos (by simpa using ha)]; rfl
      simp [e]
    · rw [if_pos (by omega)]
      have e : cntS (a :: r) t = 0 := by unfold cntS; rw [List.takeWhile_cons_of_neg (by simpa using ha)]; rfl
      simp [e]

theorem gain_run {h : Heap} {v : AV} {l : List (Int × Int)} (hv : Sl h 2 v (pts l)) (hl : l.length ≤ 1000) (hc : Crv l) (t : Int) (ht : 0 ≤ t) (ht' : t ≤ 1000) (lo : Nat) :
    (run lib).fn 36 [v, .int .i64 t] h lo = some (.int .i64 (gainS l t), h) := by
  by_cases h0 : l = []
  · subst h0
    rw [run_closed (x := x36) rfl rfl rfl rfl]
    simp (maxSteps := 1000000) (disch := omega) only [go_sem, ↓reduceIte, Nat.reduceEqDiff, Nat.reduceAdd, Nat.reduceSub, Nat.reduceMul, Nat.reduceLT, Nat.reduceLeDiff, reduceCtorEq, Nat.succ_ne_self, ne_eq, not_true_eq_false, not_false_eq_true, and_self, and_true, true_and, Nat.zero_add, Nat.sub_zero, Nat.zero_mul, Nat.one_mul, Nat.le_refl, List.getElem?_cons_zero, List.set_cons_zero, Int.reduceToNat, Int.reduceLT, Int.reduceLE, Int.reduceAdd, Int.reduceSub, Int.reduceMul, Int.reduceEq, Int.reduceNe, Int.toNat_natCast, Int.natCast_zero, wrap_id, wrapu_id, wrapb_id, idx_ok, bin_quo, bin_rem, tdiv_id, tmod_id, ps_bptr, x36, lenv_sl hv.len, pts_len, List.length_nil, gainS, Int.natCast_zero]
  · rw [gainS_at hc t h0]
    have hpos := List.length_pos_iff.mpr h0
    obtain ⟨r, hr⟩ : ∃ r, r = cntS l t := ⟨_, rfl⟩
    have hrl := cntS_le l t
    have hri := cntS_iff t hc
    have hbs := fun fr lo => bs_run (hv.app fr) hl hc.ok t ht ht' (cntS l t) hri hrl lo
    rw [run_closed (x := x36) rfl rfl rfl rfl]
    rw [← hr] at hrl hbs
    simp only [← hr]
    have c0 : ¬ (l.length : Int) = 0 := by omega
    by_cases hx : r < l.length
    · rw [dif_pos hx]
      have e3 : sidx 2 v (.int .i64 r) = some r := by rw [sidx_sl hv (by omega) (by simp; omega)]; simp
      have e4 := fun off fr => pc_iptr (off := off) (hv.elems fr) (show r < (pts l).length by simp; omega)
      simp only [pts_get, pt] at e4
      by_cases h1 : l[r].1 = t
      · rw [if_pos (.inl h1)]
        simp only [dif_pos hx, h1, decide_true] at hbs
        simp (maxSteps := 1000000) (disch := omega) only [go_sem, ↓reduceIte, Nat.reduceEqDiff, Nat.reduceAdd, Nat.reduceSub, Nat.reduceMul, Nat.reduceLT, Nat.reduceLeDiff, reduceCtorEq, Nat.succ_ne_self, ne_eq, not_true_eq_false, not_false_eq_true, and_self, and_true, true_and, Nat.zero_add, Nat.sub_zero, Nat.zero_mul, Nat.one_mul, Nat.le_refl, List.getElem?_cons_zero, List.set_cons_zero, Int.reduceToNat, Int.reduceLT, Int.reduceLE, Int.reduceAdd, Int.reduceSub, Int.reduceMul, Int.reduceEq, Int.reduceNe, Int.toNat_natCast, Int.natCast_zero, wrap_id, wrapu_id, wrapb_id, idx_ok, bin_quo, bin_rem, tdiv_id, tmod_id, ps_bptr, x36, lenv_sl hv.len, pts_len, c0, hbs, e3, e4]
      · by_cases h2 : r = 0
        · rw [if_pos (.inr h2)]
          simp only [dif_pos hx, h1, decide_false] at hbs
          have c1 : ((r : Int) = 0) := by omega
          simp (maxSteps := 1000000) (disch := omega) only [go_sem, ↓reduceIte, Nat.reduceEqDiff, Nat.reduceAdd, Nat.reduceSub, Nat.reduceMul, Nat.reduceLT, Nat.reduceLeDiff, reduceCtorEq, Nat.succ_ne_self, ne_eq, not_true_eq_false, not_false_eq_true, and_self, and_true, true_and, Nat.zero_add, Nat.sub_zero, Nat.zero_mul, Nat.one_mul, Nat.le_refl, List.getElem?_cons_zero, List.set_cons_zero, Int.reduceToNat, Int.reduceLT, Int.reduceLE, Int.reduceAdd, Int.reduceSub, Int.reduceMul, Int.reduceEq, Int.reduceNe, Int.toNat_natCast, Int.natCast_zero, wrap_id, wrapu_id, wrapb_id, idx_ok, bin_quo, bin_rem, tdiv_id, tmod_id, ps_bptr, x36, lenv_sl hv.len, pts_len, c0, hbs, e3, e4, c1]
          subst h2
          rw [c1] at e3
          simp (maxSteps := 1000000) (disch := omega) only [go_sem, ↓reduceIte, Nat.reduceEqDiff, Nat.reduceAdd, Nat.reduceSub, Nat.reduceMul, Nat.reduceLT, Nat.reduceLeDiff, reduceCtorEq, Nat.succ_ne_self, ne_eq, not_true_eq_false, not_false_eq_true, and_self, and_true, true_and, Nat.zero_add, Nat.sub_zero, Nat.zero_mul, Nat.one_mul, Nat.le_refl, List.getElem?_cons_zero, List.set_cons_zero, Int.reduceToNat, Int.reduceLT, Int.reduceLE, Int.reduceAdd, Int.reduceSub, Int.reduceMul, Int.reduceEq, Int.reduceNe, Int.toNat_natCast, Int.natCast_zero, wrap_id, wrapu_id, wrapb_id, idx_ok, bin_quo, bin_rem, tdiv_id, tmod_id, ps_bptr, e3, e4]
        · rw [if_neg (by rintro (h | h) <;> contradiction)]
          simp only [dif_pos hx, h1, decide_false] at hbs
          have c1 : ¬ ((r : Int) = 0) := by omega
          have c2 : ¬ ((r : Int) = l.length) := by omega
          obtain ⟨q, hq⟩ : ∃ q, r = q + 1 := ⟨r - 1, by omega⟩
          have hql : q < l.length := by omega
          have f3 : sidx 2 v (.int .i64 ((r : Int) - 1)) = some q := by rw [sidx_sl hv (by omega) (by simp; omega)]; simp; omega
          have f4 := fun off fr => pc_iptr (off := off) (hv.elems fr) (show q < (pts l).length by simp; omega)
          simp only [pts_get, pt] at f4
          have o1 := hc.ok _ (List.getElem_mem hx)
          have o2 := hc.ok _ (List.getElem_mem hql)
          have i1 := hri q hql
          have i2 := hri r hx
          have u := List.pairwise_iff_getElem.mp hc.up q r hql hx (by omega)
          have eq : l[r - 1]'(by omega) = l[q] := by congr 1; omega
          rw [eq]
          obtain ⟨b, hb⟩ : ∃ b, b = l[r] := ⟨_, rfl⟩
          obtain ⟨a, ha⟩ : ∃ a, a = l[q] := ⟨_, rfl⟩
          rw [← hb] at e4 o1 i2 u h1 ⊢
          rw [← ha] at f4 o2 i1 u ⊢
          obtain ⟨a1, a2, a3, a4⟩ := o1
          obtain ⟨b1, b2, b3, b4⟩ := o2
          rw [← hr] at i1 i2
          have hat : a.1 < t := i1.mpr (by omega)
          have hm := mul_bd (x := b.2 - a.2) (y := t - a.1) (A := 4096) (B := 1000) (by omega) (by omega) (by omega) (by omega)
          have hd := ediv_bd (x := (b.2 - a.2) * (t - a.1)) (b := b.1 - a.1) (M := 4096 * 1000) (by omega) (by omega) (by omega) (by omega)
          simp (maxSteps := 1000000) (disch := omega) only [go_sem, ↓reduceIte, Nat.reduceEqDiff, Nat.reduceAdd, Nat.reduceSub, Nat.reduceMul, Nat.reduceLT, Nat.reduceLeDiff, reduceCtorEq, Nat.succ_ne_self, ne_eq, not_true_eq_false, not_false_eq_true, and_self, and_true, true_and, Nat.zero_add, Nat.sub_zero, Nat.zero_mul, Nat.one_mul, Nat.le_refl, List.getElem?_cons_zero, List.set_cons_zero, Int.reduceToNat, Int.reduceLT, Int.reduceLE, Int.reduceAdd, Int.reduceSub, Int.reduceMul, Int.reduceEq, Int.reduceNe, Int.toNat_natCast, Int.natCast_zero, wrap_id, wrapu_id, wrapb_id, idx_ok, bin_quo, bin_rem, tdiv_id, tmod_id, ps_bptr, x36, lenv_sl hv.len, pts_len, c0, hbs, e3, e4, c1, c2, f3, f4, down_run]
    · rw [dif_neg hx]
      have c1 : ((r : Int) = l.length) := by omega
      have c2 : ¬ ((l.length : Int) = 0) := by omega
      have hq : l.length - 1 < l.length := by omega
      have e3 : sidx 2 v (.int .i64 ((l.length : Int) - 1)) = some (l.length - 1) := by rw [sidx_sl hv (by omega) (by simp; omega)]; simp
      have e4 := fun off fr => pc_iptr (off := off) (hv.elems fr) (show l.length - 1 < (pts l).length by simp; omega)
      simp only [pts_get, pt] at e4
      simp only [dif_neg hx, c1] at hbs
      simp (maxSteps := 1000000) (disch := omega) only [go_sem, ↓reduceIte, Nat.reduceEqDiff, Nat.reduceAdd, Nat.reduceSub, Nat.reduceMul, Nat.reduceLT, Nat.reduceLeDiff, reduceCtorEq, Nat.succ_ne_self, ne_eq, not_true_eq_false, not_false_eq_true, and_self, and_true, true_and, Nat.zero_add, Nat.sub_zero, Nat.zero_mul, Nat.one_mul, Nat.le_refl, List.getElem?_cons_zero, List.set_cons_zero, Int.reduceToNat, Int.reduceLT, Int.reduceLE, Int.reduceAdd, Int.reduceSub, Int.reduceMul, Int.reduceEq, Int.reduceNe, Int.toNat_natCast, Int.natCast_zero, wrap_id, wrapu_id, wrapb_id, idx_ok, bin_quo, bin_rem, tdiv_id, tmod_id, ps_bptr, x36, lenv_sl hv.len, pts_len, c0, hbs, e3, e4, c1, c2]
theorem Gain_run {h : Heap} {v : AV} {l : List (Int × Int)} (hv : Sl h 2 v (pts l)) (hl : l.length ≤ 1000) (t : Int) (lo : Nat) :
    (run lib).fn 15 [v, .int .i64 t] h lo = some (if (curveB (-1) l && decide ((l.length : Int) ≤ 12)) = true ∧ 0 ≤ t ∧ t ≤ 599 then .tuple [.int .i64 (gainS l t), .int .i64 0] else .tuple [.int .i64 0, .int .i64 170], h) := by
  have e1 := curve_run hv (by omega) h.length
  rw [run_closed (x := x15) rfl rfl rfl rfl]
  cases h1 : (curveB (-1) l && decide ((l.length : Int) ≤ 12)) with
  | false =>
    rw [h1] at e1
    simp (maxSteps := 1000000) (disch := omega) only [go_sem, ↓reduceIte, Nat.reduceEqDiff, Nat.reduceAdd, Nat.reduceSub, Nat.reduceMul, Nat.reduceLT, Nat.reduceLeDiff, reduceCtorEq, Nat.succ_ne_self, ne_eq, not_true_eq_false, not_false_eq_true, and_self, and_true, true_and, Nat.zero_add, Nat.sub_zero, Nat.zero_mul, Nat.one_mul, Nat.le_refl, List.getElem?_cons_zero, List.set_cons_zero, Int.reduceToNat, Int.reduceLT, Int.reduceLE, Int.reduceAdd, Int.reduceSub, Int.reduceMul, Int.reduceEq, Int.reduceNe, Int.toNat_natCast, Int.natCast_zero, wrap_id, wrapu_id, wrapb_id, idx_ok, bin_quo, bin_rem, tdiv_id, tmod_id, ps_bptr, x15, e1, false_and]
  | true =>
    rw [h1] at e1
    have hc := (curveB_crv (l := l) (last := -1) (by simp only [Bool.and_eq_true] at h1; exact h1.1) (by omega)).1
    cases h2 : (decide (0 ≤ t) && decide (t ≤ 599)) with
    | false =>
      have h3 : ¬ (0 ≤ t ∧ t ≤ 599) := by simpa using h2
      simp (maxSteps := 1000000) (disch := omega) only [go_sem, ↓reduceIte, Nat.reduceEqDiff, Nat.reduceAdd, Nat.reduceSub, Nat.reduceMul, Nat.reduceLT, Nat.reduceLeDiff, reduceCtorEq, Nat.succ_ne_self, ne_eq, not_true_eq_false, not_false_eq_true, and_self, and_true, true_and, Nat.zero_add, Nat.sub_zero, Nat.zero_mul, Nat.one_mul, Nat.le_refl, List.getElem?_cons_zero, List.set_cons_zero, Int.reduceToNat, Int.reduceLT, Int.reduceLE, Int.reduceAdd, Int.reduceSub, Int.reduceMul, Int.reduceEq, Int.reduceNe, Int.toNat_natCast, Int.natCast_zero, wrap_id, wrapu_id, wrapb_id, idx_ok, bin_quo, bin_rem, tdiv_id, tmod_id, ps_bptr, x15, e1, between_run, h2, h3]
    | true =>
      have h3 : (0 ≤ t ∧ t ≤ 599) := by simpa using h2
      have e2 := gain_run hv hl hc t (by omega) (by omega) h.length
      simp (maxSteps := 1000000) (disch := omega) only [go_sem, ↓reduceIte, Nat.reduceEqDiff, Nat.reduceAdd, Nat.reduceSub, Nat.reduceMul, Nat.reduceLT, Nat.reduceLeDiff, reduceCtorEq, Nat.succ_ne_self, ne_eq, not_true_eq_false, not_false_eq_true, and_self, and_true, true_and, Nat.zero_add, Nat.sub_zero, Nat.zero_mul, Nat.one_mul, Nat.le_refl, List.getElem?_cons_zero, List.set_cons_zero, Int.reduceToNat, Int.reduceLT, Int.reduceLE, Int.reduceAdd, Int.reduceSub, Int.reduceMul, Int.reduceEq, Int.reduceNe, Int.toNat_natCast, Int.natCast_zero, wrap_id, wrapu_id, wrapb_id, idx_ok, bin_quo, bin_rem, tdiv_id, tmod_id, ps_bptr, x15, e1, between_run, h2, h3, e2]
end Go.VI.Mix
namespace Go.VI.Mix
set_option linter.unusedVariables false
set_option linter.unusedSimpArgs false

def seg (a b : Int × Int) (t : Int) : Int := a.2 + (b.2 - a.2) * (t - a.1) / (b.1 - a.1)
theorem seg_l {a b : Int × Int} (h : a.1 < b.1) : seg a b a.1 = a.2 := by
  unfold seg; rw [Int.sub_self, Int.mul_zero, Int.zero_ediv]; omega
theorem seg_r {a b : Int × Int} (h : a.1 < b.1) : seg a b b.1 = b.2 := by
  unfold seg; rw [Int.mul_ediv_cancel _ (by omega)]; omega
theorem gainFrom_seg : ∀ (r : List (Int × Int)) (a : Int × Int) (t : Int) (i : Nat) (hi : i < r.length), Crv (a :: r) → ((a :: r)[i]'(by simp; omega)).1 ≤ t → t ≤ r[i].1 → gainFrom a r t = seg ((a :: r)[i]'(by simp; omega)) r[i] t
  | [], a, t, i, hi, _, _, _ => by simp at hi
  | b :: r, a, t, 0, hi, hc, h1, h2 => by
    have hab := (List.pairwise_cons.mp hc.up).1 b (by simp)
    have hcb : Crv (b :: r) := ⟨fun q hq => hc.ok q (by simp [hq]), (List.pairwise_cons.mp hc.up).2⟩
    simp only [List.getElem_cons_zero] at h1 h2 ⊢
    unfold gainFrom
    by_cases h3 : t < b.1
    · rw [if_pos h3]; rfl
    · have : t = b.1 := by omega
      subst this
      rw [if_neg h3, gainFrom_hit hcb, seg_r hab]
  | b :: r, a, t, i + 1, hi, hc, h1, h2 => by
    have hcb : Crv (b :: r) := ⟨fun q hq => hc.ok q (by simp [hq]), (List.pairwise_cons.mp hc.up).2⟩
    simp only [List.getElem_cons_succ] at h1 h2 ⊢
    have hbt : b.1 ≤ t := by
      cases i with
      | zero => exact h1
      | succ i =>
        have := (List.pairwise_cons.mp hcb.up).1 _ (List.getElem_mem (show i < r.length by simp at hi; omega))
        simp only [List.getElem_cons_succ] at h1
        omega
    unfold gainFrom
    rw [if_neg (by omega)]
    exact gainFrom_seg r b t i (by simpa using hi) hcb h1 h2
theorem gain_seg {l : List (Int × Int)} (hc : Crv l) {t : Int} {i : Nat} (hi : i + 1 < l.length) (h1 : l[i].1 ≤ t) (h2 : t ≤ l[i + 1].1) : gainS l t = seg l[i] l[i + 1] t := by
  cases l with
  | nil => simp at hi
  | cons a r =>
    simp only [gainS]
    have ir : i < r.length := by simpa using hi
    by_cases h3 : t ≤ a.1
    · rw [if_pos h3]
      cases i with
      | zero =>
        have hab := (List.pairwise_cons.mp hc.up).1 _ (List.getElem_mem ir)
        simp only [List.getElem_cons_zero] at h1
        have : t = a.1 := by omega
        subst this
        exact (seg_l hab).symm
      | succ i =>
        have := (List.pairwise_cons.mp hc.up).1 _ (List.getElem_mem (show i < r.length by omega))
        simp only [List.getElem_cons_succ] at h1
        omega
    · rw [if_neg h3]
      simp only [List.getElem_cons_succ] at h2 ⊢
      exact gainFrom_seg r a t i ir hc h1 h2
theorem gain_pt {l : List (Int × Int)} (hc : Crv l) {i : Nat} (hi : i < l.length) : gainS l l[i].1 = l[i].2 := by
  by_cases h : i + 1 < l.length
  · have u := List.pairwise_iff_getElem.mp hc.up i (i + 1) hi h (by omega)
    rw [gain_seg hc h (by omega) (by omega), seg_l u]
  · cases i with
    | zero =>
      cases l with
      | nil => simp at hi
      | cons a r => simp [gainS]
    | succ i =>
      have u := List.pairwise_iff_getElem.mp hc.up i (i + 1) (by omega) hi (by omega)
      rw [gain_seg hc hi (by omega) (by omega), seg_r u]
theorem gain_before {l : List (Int × Int)} {t : Int} (hl : 0 < l.length) (h : t ≤ l[0].1) : gainS l t = l[0].2 := by
  cases l with
  | nil => simp at hl
  | cons a r => simp only [gainS, List.getElem_cons_zero] at h ⊢; rw [if_pos h]
theorem gainFrom_after : ∀ (r : List (Int × Int)) (a : Int × Int) (t : Int), Crv (a :: r) → ((a :: r)[r.length]'(by simp)).1 ≤ t → gainFrom a r t = ((a :: r)[r.length]'(by simp)).2
  | [], a, t, _, _ => rfl
  | b :: r, a, t, hc, h => by
    have hcb : Crv (b :: r) := ⟨fun q hq => hc.ok q (by simp [hq]), (List.pairwise_cons.mp hc.up).2⟩
    simp only [List.length_cons, List.getElem_cons_succ] at h ⊢
    have hb : b.1 ≤ ((b :: r)[r.length]'(by simp)).1 := by
      rcases Nat.eq_zero_or_pos r.length with h0 | h0
      · have : r = [] := List.eq_nil_of_length_eq_zero h0
        subst this; simp
      · have := List.pairwise_iff_getElem.mp hcb.up 0 r.length (by simp) (by simp) h0
        simp only [List.getElem_cons_zero] at this
        omega
    unfold gainFrom
    rw [if_neg (by omega)]
    exact gainFrom_after r b t hcb h
theorem gain_after {l : List (Int × Int)} (hc : Crv l) {t : Int} (hl : 0 < l.length) (h : (l[l.length - 1]'(by omega)).1 ≤ t) : gainS l t = (l[l.length - 1]'(by omega)).2 := by
  cases l with
  | nil => simp at hl
  | cons a r =>
    simp only [List.length_cons, Nat.add_sub_cancel] at h ⊢
    simp only [gainS]
    by_cases h3 : t ≤ a.1
    · rw [if_pos h3]
      rcases Nat.eq_zero_or_pos r.length with h0 | h0
      · have : r = [] := List.eq_nil_of_length_eq_zero h0
        subst this; simp
      · have := List.pairwise_iff_getElem.mp hc.up 0 r.length (by simp) (by simp) h0
        simp only [List.getElem_cons_zero] at this
        omega
    · rw [if_neg h3]
      exact gainFrom_after r a t hc h
/-- Between two points. -/
theorem seg_mono {a b : Int × Int} (h : a.1 < b.1) {s t : Int} (h1 : a.1 ≤ s) (h2 : s ≤ t) (h3 : t ≤ b.1) :
    (a.2 ≤ b.2 → a.2 ≤ seg a b s ∧ seg a b s ≤ seg a b t ∧ seg a b t ≤ b.2) ∧ (b.2 ≤ a.2 → b.2 ≤ seg a b t ∧ seg a b t ≤ seg a b s ∧ seg a b s ≤ a.2) := by
  have hb : 0 < b.1 - a.1 := by omega
  have e1 := seg_l h
  have e2 := seg_r h
  have mono : ∀ x y : Int, a.2 ≤ b.2 → x ≤ y → seg a b x ≤ seg a b y := by
    intro x y hab hxy
    unfold seg
    have := Int.mul_le_mul_of_nonneg_left (show x - a.1 ≤ y - a.1 by omega) (show 0 ≤ b.2 - a.2 by omega)
    have := Int.ediv_le_ediv hb this
    omega
  have anti : ∀ x y : Int, b.2 ≤ a.2 → x ≤ y → seg a b y ≤ seg a b x := by
    intro x y hab hxy
    unfold seg
    have := Int.mul_le_mul_of_nonpos_left (show b.2 - a.2 ≤ 0 by omega) (show x - a.1 ≤ y - a.1 by omega)
    have := Int.ediv_le_ediv hb this
    omega
  refine ⟨fun hab => ?_, fun hab => ?_⟩
  · have q1 := mono a.1 s hab h1
    have q2 := mono s t hab h2
    have q3 := mono t b.1 hab h3
    rw [e1] at q1; rw [e2] at q3
    exact ⟨q1, q2, q3⟩
  · have q1 := anti a.1 s hab h1
    have q2 := anti s t hab h2
    have q3 := anti t b.1 hab h3
    rw [e1] at q1; rw [e2] at q3
    exact ⟨q3, q2, q1⟩

theorem curvedS_crv : ∀ (l : List (Int × Int)) (at' : Int) (n : Nat), -1 ≤ at' → at' + 12 * l.length ≤ 599 → Crv (curvedS at' l) ∧ (∀ p ∈ curvedS at' l, at' < p.1 ∧ p.1 ≤ at' + 12 * l.length) ∧ (curvedS at' l).length = l.length
  | [], at', n, _, _ => ⟨⟨by simp [curvedS], by simp [curvedS]⟩, by simp [curvedS], rfl⟩
  | x :: r, at', n, h, h2 => by
    have p1 := pickS_bd (c := x.1) (n := 12) (by omega)
    have p2 := pickS_bd (c := x.2) (n := 4097) (by omega)
    simp only [List.length_cons] at h2
    obtain ⟨⟨c1, c2⟩, c3, c4⟩ := curvedS_crv r (at' + 1 + pickS x.1 12) n (by omega) (by omega)
    simp only [curvedS]
    refine ⟨⟨fun q hq => ?_, ?_⟩, fun q hq => ?_, by simp [c4]⟩
    · rcases List.mem_cons.mp hq with rfl | hq
      · exact ⟨by dsimp only; omega, by dsimp only; omega, p2.1, by dsimp only; omega⟩
      · exact c1 q hq
    · exact List.pairwise_cons.mpr ⟨fun q hq => (c3 q hq).1, c2⟩
    · simp only [List.length_cons]
      rcases List.mem_cons.mp hq with rfl | hq
      · dsimp only; omega
      · have := c3 q hq; omega

theorem law6_loop1 {h : Heap} {fr : Heap} {l : List (Int × Int)} (hc : Crv l) (hl : l.length ≤ 6) (lo : Nat) (k g g' : Int) (d : Nat) :
    ∀ i : Nat, d = l.length - i → i ≤ l.length →
    runC lib ⟨lo, h.length, 1, none⟩ (.loop b6_1) ([(5, .bool true), (6, lstV 2 (pts l)), (7, .int .i64 k), (8, .int .i64 g), (10, .int .i64 g'), (12, .int .i64 i)], h ++ fr) =
      some (.exit 0, ([(5, .bool true), (6, lstV 2 (pts l)), (7, .int .i64 k), (8, .int .i64 g), (10, .int .i64 g')], h ++ fr)) := by
  have hv := Sl.lstV (h ++ fr) 2 (pts l)
  have hb := crv_curveB (last := -1) hc (fun p hp => by have := (hc.ok p hp).1; omega)
  induction d with
  | zero =>
    intro i hd hi
    have c1 : ¬ (i : Int) < l.length := by omega
    rw [w_loop]
    simp (maxSteps := 1000000) (disch := omega) only [go_sem, ↓reduceIte, Nat.reduceEqDiff, Nat.reduceAdd, Nat.reduceSub, Nat.reduceMul, Nat.reduceLT, Nat.reduceLeDiff, reduceCtorEq, Nat.succ_ne_self, ne_eq, not_true_eq_false, not_false_eq_true, and_self, and_true, true_and, Nat.zero_add, Nat.sub_zero, Nat.zero_mul, Nat.one_mul, Nat.le_refl, List.getElem?_cons_zero, List.set_cons_zero, Int.reduceToNat, Int.reduceLT, Int.reduceLE, Int.reduceAdd, Int.reduceSub, Int.reduceMul, Int.reduceEq, Int.reduceNe, Int.toNat_natCast, Int.natCast_zero, wrap_id, wrapu_id, wrapb_id, idx_ok, bin_quo, bin_rem, tdiv_id, tmod_id, ps_bptr, lenv_sl hv.len, pts_len, c1]
  | succ d ih =>
    intro i hd hi
    have hil : i < l.length := by omega
    have c1 : (i : Int) < l.length := by omega
    have e := ih (i + 1) (by omega) (by omega)
    rw [cast1] at e
    have e3 : sidx 2 (lstV 2 (pts l)) (.int .i64 i) = some i := by rw [sidx_sl hv (by omega) (by simp; omega)]; simp
    have e4 := fun off => pc_iptr (off := off) hv.elems0 (show i < (pts l).length by simp; omega)
    simp only [pts_get, pt] at e4
    have q := hc.ok _ (List.getElem_mem hil)
    have e5 := Gain_run hv (by omega) l[i].1 lo
    rw [if_pos ⟨by simp [hb]; omega, q.1, q.2.1⟩, gain_pt hc hil] at e5
    rw [w_loop]
    simp (maxSteps := 1000000) (disch := omega) only [go_sem, ↓reduceIte, Nat.reduceEqDiff, Nat.reduceAdd, Nat.reduceSub, Nat.reduceMul, Nat.reduceLT, Nat.reduceLeDiff, reduceCtorEq, Nat.succ_ne_self, ne_eq, not_true_eq_false, not_false_eq_true, and_self, and_true, true_and, Nat.zero_add, Nat.sub_zero, Nat.zero_mul, Nat.one_mul, Nat.le_refl, List.getElem?_cons_zero, List.set_cons_zero, Int.reduceToNat, Int.reduceLT, Int.reduceLE, Int.reduceAdd, Int.reduceSub, Int.reduceMul, Int.reduceEq, Int.reduceNe, Int.toNat_natCast, Int.natCast_zero, wrap_id, wrapu_id, wrapb_id, idx_ok, bin_quo, bin_rem, tdiv_id, tmod_id, ps_bptr, lenv_sl hv.len, pts_len, c1, e3, e4, e5, e]

theorem law6_loop2 {h : Heap} {fr : Heap} {l : List (Int × Int)} (hc : Crv l) (hl : l.length ≤ 6) (lo : Nat) (k : Int) (hk0 : 0 ≤ k) (hk : k ≤ 1000) (d : Nat) :
    ∀ i : Nat, d = l.length - i → i ≤ l.length → (d ≠ 0 ∨ i = l.length) →
    runC lib ⟨lo, h.length, 1, none⟩ (.loop b6_0) ([(5, .bool true), (6, lstV 2 (pts l)), (7, .int .i64 k), (8, .int .i64 (gainS l k)), (10, .int .i64 (gainS l (k + 1))), (16, .int .i64 i)], h ++ fr) =
      some (.exit 2, ([(5, .bool true)], h ++ fr)) := by
  have hv := Sl.lstV (h ++ fr) 2 (pts l)
  induction d with
  | zero =>
    intro i hd hi _
    have c1 : ¬ (i : Int) + 1 < l.length := by omega
    rw [w_loop]
    simp (maxSteps := 1000000) (disch := omega) only [go_sem, ↓reduceIte, Nat.reduceEqDiff, Nat.reduceAdd, Nat.reduceSub, Nat.reduceMul, Nat.reduceLT, Nat.reduceLeDiff, reduceCtorEq, Nat.succ_ne_self, ne_eq, not_true_eq_false, not_false_eq_true, and_self, and_true, true_and, Nat.zero_add, Nat.sub_zero, Nat.zero_mul, Nat.one_mul, Nat.le_refl, List.getElem?_cons_zero, List.set_cons_zero, Int.reduceToNat, Int.reduceLT, Int.reduceLE, Int.reduceAdd, Int.reduceSub, Int.reduceMul, Int.reduceEq, Int.reduceNe, Int.toNat_natCast, Int.natCast_zero, wrap_id, wrapu_id, wrapb_id, idx_ok, bin_quo, bin_rem, tdiv_id, tmod_id, ps_bptr, lenv_sl hv.len, pts_len, c1]
  | succ d ih =>
    intro i hd hi _
    by_cases hi1 : i + 1 < l.length
    · have e := ih (i + 1) (by omega) (by omega) (by omega)
      rw [cast1] at e
      have hil : i < l.length := by omega
      have c1 : (i : Int) + 1 < l.length := by omega
      have e3 : sidx 2 (lstV 2 (pts l)) (.int .i64 i) = some i := by rw [sidx_sl hv (by omega) (by simp; omega)]; simp
      have e4 := fun off => pc_iptr (off := off) hv.elems0 (show i < (pts l).length by simp; omega)
      have f3 : sidx 2 (lstV 2 (pts l)) (.int .i64 ((i : Int) + 1)) = some (i + 1) := by rw [sidx_sl hv (by omega) (by simp; omega)]; simp
      have f4 := fun off => pc_iptr (off := off) hv.elems0 (show i + 1 < (pts l).length by simp; omega)
      simp only [pts_get, pt] at e4 f4
      have q := hc.ok _ (List.getElem_mem hil)
      have q' := hc.ok _ (List.getElem_mem hi1)
      have u := List.pairwise_iff_getElem.mp hc.up i (i + 1) hil hi1 (by omega)
      have s1 := gain_seg hc (t := k) hi1
      have s2 := gain_seg hc (t := k + 1) hi1
      have s3 := seg_mono u (s := k) (t := k + 1)
      obtain ⟨a, ha⟩ : ∃ a, a = l[i] := ⟨_, rfl⟩
      obtain ⟨b, hb⟩ : ∃ b, b = l[i + 1] := ⟨_, rfl⟩
      rw [← ha] at e4 q u s1 s2 s3
      rw [← hb] at f4 q' u s1 s2 s3
      obtain ⟨g, hg⟩ : ∃ g, g = gainS l k := ⟨_, rfl⟩
      obtain ⟨g', hg'⟩ : ∃ g', g' = gainS l (k + 1) := ⟨_, rfl⟩
      rw [← hg, ← hg'] at e ⊢
      rw [← hg] at s1; rw [← hg'] at s2
      by_cases k1 : k < a.1
      · rw [w_loop]
        simp (maxSteps := 1000000) (disch := omega) only [go_sem, ↓reduceIte, Nat.reduceEqDiff, Nat.reduceAdd, Nat.reduceSub, Nat.reduceMul, Nat.reduceLT, Nat.reduceLeDiff, reduceCtorEq, Nat.succ_ne_self, ne_eq, not_true_eq_false, not_false_eq_true, and_self, and_true, true_and, Nat.zero_add, Nat.sub_zero, Nat.zero_mul, Nat.one_mul, Nat.le_refl, List.getElem?_cons_zero, List.set_cons_zero, Int.reduceToNat, Int.reduceLT, Int.reduceLE, Int.reduceAdd, Int.reduceSub, Int.reduceMul, Int.reduceEq, Int.reduceNe, Int.toNat_natCast, Int.natCast_zero, wrap_id, wrapu_id, wrapb_id, idx_ok, bin_quo, bin_rem, tdiv_id, tmod_id, ps_bptr, lenv_sl hv.len, pts_len, c1, e3, e4, k1, e]
      · by_cases k2 : b.1 ≤ k
        · rw [w_loop]
          simp (maxSteps := 1000000) (disch := omega) only [go_sem, ↓reduceIte, Nat.reduceEqDiff, Nat.reduceAdd, Nat.reduceSub, Nat.reduceMul, Nat.reduceLT, Nat.reduceLeDiff, reduceCtorEq, Nat.succ_ne_self, ne_eq, not_true_eq_false, not_false_eq_true, and_self, and_true, true_and, Nat.zero_add, Nat.sub_zero, Nat.zero_mul, Nat.one_mul, Nat.le_refl, List.getElem?_cons_zero, List.set_cons_zero, Int.reduceToNat, Int.reduceLT, Int.reduceLE, Int.reduceAdd, Int.reduceSub, Int.reduceMul, Int.reduceEq, Int.reduceNe, Int.toNat_natCast, Int.natCast_zero, wrap_id, wrapu_id, wrapb_id, idx_ok, bin_quo, bin_rem, tdiv_id, tmod_id, ps_bptr, lenv_sl hv.len, pts_len, c1, e3, e4, f3, f4, k1, k2, e]
        · have s1 := s1 (by omega) (by omega)
          have s2 := s2 (by omega) (by omega)
          obtain ⟨s3, s4⟩ := s3 (by omega) (by omega) (by omega)
          rw [← s1, ← s2] at s3 s4
          have m1 : ¬ g < min a.2 b.2 := by omega
          have m2 : ¬ max a.2 b.2 < g := by omega
          have m3 : ¬ g' < min a.2 b.2 := by omega
          have m4 : ¬ max a.2 b.2 < g' := by omega
          by_cases m5 : a.2 < b.2
          · have m6 : ¬ g' < g := by omega
            have m7 : ¬ b.2 < a.2 := by omega
            rw [w_loop]
            simp (maxSteps := 1000000) (disch := omega) only [go_sem, ↓reduceIte, Nat.reduceEqDiff, Nat.reduceAdd, Nat.reduceSub, Nat.reduceMul, Nat.reduceLT, Nat.reduceLeDiff, reduceCtorEq, Nat.succ_ne_self, ne_eq, not_true_eq_false, not_false_eq_true, and_self, and_true, true_and, Nat.zero_add, Nat.sub_zero, Nat.zero_mul, Nat.one_mul, Nat.le_refl, List.getElem?_cons_zero, List.set_cons_zero, Int.reduceToNat, Int.reduceLT, Int.reduceLE, Int.reduceAdd, Int.reduceSub, Int.reduceMul, Int.reduceEq, Int.reduceNe, Int.toNat_natCast, Int.natCast_zero, wrap_id, wrapu_id, wrapb_id, idx_ok, bin_quo, bin_rem, tdiv_id, tmod_id, ps_bptr, lenv_sl hv.len, pts_len, c1, e3, e4, f3, f4, k1, k2, e, m1, m2, m3, m4, m5, m6, m7]
          · by_cases m7 : b.2 < a.2
            · have m6 : ¬ g < g' := by omega
              rw [w_loop]
              simp (maxSteps := 1000000) (disch := omega) only [go_sem, ↓reduceIte, Nat.reduceEqDiff, Nat.reduceAdd, Nat.reduceSub, Nat.reduceMul, Nat.reduceLT, Nat.reduceLeDiff, reduceCtorEq, Nat.succ_ne_self, ne_eq, not_true_eq_false, not_false_eq_true, and_self, and_true, true_and, Nat.zero_add, Nat.sub_zero, Nat.zero_mul, Nat.one_mul, Nat.le_refl, List.getElem?_cons_zero, List.set_cons_zero, Int.reduceToNat, Int.reduceLT, Int.reduceLE, Int.reduceAdd, Int.reduceSub, Int.reduceMul, Int.reduceEq, Int.reduceNe, Int.toNat_natCast, Int.natCast_zero, wrap_id, wrapu_id, wrapb_id, idx_ok, bin_quo, bin_rem, tdiv_id, tmod_id, ps_bptr, lenv_sl hv.len, pts_len, c1, e3, e4, f3, f4, k1, k2, e, m1, m2, m3, m4, m5, m6, m7]
            · rw [w_loop]
              simp (maxSteps := 1000000) (disch := omega) only [go_sem, ↓reduceIte, Nat.reduceEqDiff, Nat.reduceAdd, Nat.reduceSub, Nat.reduceMul, Nat.reduceLT, Nat.reduceLeDiff, reduceCtorEq, Nat.succ_ne_self, ne_eq, not_true_eq_false, not_false_eq_true, and_self, and_true, true_and, Nat.zero_add, Nat.sub_zero, Nat.zero_mul, Nat.one_mul, Nat.le_refl, List.getElem?_cons_zero, List.set_cons_zero, Int.reduceToNat, Int.reduceLT, Int.reduceLE, Int.reduceAdd, Int.reduceSub, Int.reduceMul, Int.reduceEq, Int.reduceNe, Int.toNat_natCast, Int.natCast_zero, wrap_id, wrapu_id, wrapb_id, idx_ok, bin_quo, bin_rem, tdiv_id, tmod_id, ps_bptr, lenv_sl hv.len, pts_len, c1, e3, e4, f3, f4, k1, k2, e, m1, m2, m3, m4, m5, m7]
    · have c1 : ¬ (i : Int) + 1 < l.length := by omega
      rw [w_loop]
      simp (maxSteps := 1000000) (disch := omega) only [go_sem, ↓reduceIte, Nat.reduceEqDiff, Nat.reduceAdd, Nat.reduceSub, Nat.reduceMul, Nat.reduceLT, Nat.reduceLeDiff, reduceCtorEq, Nat.succ_ne_self, ne_eq, not_true_eq_false, not_false_eq_true, and_self, and_true, true_and, Nat.zero_add, Nat.sub_zero, Nat.zero_mul, Nat.one_mul, Nat.le_refl, List.getElem?_cons_zero, List.set_cons_zero, Int.reduceToNat, Int.reduceLT, Int.reduceLE, Int.reduceAdd, Int.reduceSub, Int.reduceMul, Int.reduceEq, Int.reduceNe, Int.toNat_natCast, Int.natCast_zero, wrap_id, wrapu_id, wrapb_id, idx_ok, bin_quo, bin_rem, tdiv_id, tmod_id, ps_bptr, lenv_sl hv.len, pts_len, c1]

theorem law6 {h : Heap} {v : AV} {xs : List (Int × Int)} (hv : Sl h 2 v (pts xs)) (hl : xs.length ≤ 9223372036854775807) (hi : ∀ x ∈ xs, okI x.1 ∧ okI x.2) (c : Int) (hc : okI c)
    (hs : (run lib).fn 11 [] (h ++ [(0, .dead)]) h.length = some (.bool true, h ++ [(0, .dead)])) (lo : Nat) : (run lib).fn 6 [v, .int .i64 c] h lo = some (.bool true, h) := by
  obtain ⟨l, hl'⟩ : ∃ l, l = curvedS (-1) (xs.take 6) := ⟨_, rfl⟩
  have hcr := curved_run (hv.app [(0, .dead)]) hl hi h.length
  rw [← hl'] at hcr
  obtain ⟨hcv, _, hlen⟩ := curvedS_crv (xs.take 6) (-1) 0 (by omega) (by simp; omega)
  rw [← hl'] at hcv hlen
  have hll : l.length ≤ 6 := by rw [hlen]; simp; omega
  have hb := crv_curveB (last := -1) hcv (fun p hp => by have := (hcv.ok p hp).1; omega)
  obtain ⟨k, hk⟩ : ∃ k, k = pickS c 80 := ⟨_, rfl⟩
  have hk' := pickS_bd (c := c) (n := 80) (by omega)
  have hp := pick13 c 80 (h ++ [(0, .dead)]) h.length hc.1 hc.2 (by omega)
  rw [← hk] at hk' hp
  have hw := fun fr => Sl.lstV (h ++ fr) 2 (pts l)
  have e1 := Gain_run (hw [(0, .dead)]) (by omega) k h.length
  have e2 := Gain_run (hw [(0, .dead)]) (by omega) (k + 1) h.length
  rw [if_pos ⟨by simp [hb]; omega, by omega, by omega⟩] at e1 e2
  rw [run_closed (x := x6) rfl rfl rfl rfl]
  by_cases h0 : l = []
  · have g1 : ∀ t, gainS l t = 1024 := fun t => by rw [h0]; rfl
    simp only [g1] at e1 e2
    have h1 : l.length = 0 := by rw [h0]; rfl
    simp (maxSteps := 1000000) (disch := omega) only [go_sem, ↓reduceIte, Nat.reduceEqDiff, Nat.reduceAdd, Nat.reduceSub, Nat.reduceMul, Nat.reduceLT, Nat.reduceLeDiff, reduceCtorEq, Nat.succ_ne_self, ne_eq, not_true_eq_false, not_false_eq_true, and_self, and_true, true_and, Nat.zero_add, Nat.sub_zero, Nat.zero_mul, Nat.one_mul, Nat.le_refl, List.getElem?_cons_zero, List.set_cons_zero, Int.reduceToNat, Int.reduceLT, Int.reduceLE, Int.reduceAdd, Int.reduceSub, Int.reduceMul, Int.reduceEq, Int.reduceNe, Int.toNat_natCast, Int.natCast_zero, wrap_id, wrapu_id, wrapb_id, idx_ok, bin_quo, bin_rem, tdiv_id, tmod_id, ps_bptr, x6, hs, hcr, hp, e1, e2, lenv_sl (hw []).len, pts_len, h1, Int.natCast_zero]
  · have hpos := List.length_pos_iff.mpr h0
    have c0 : ¬ (l.length : Int) = 0 := by omega
    have l1 := fun fr => law6_loop1 (h := h) (fr := fr) hcv hll h.length k (gainS l k) (gainS l (k + 1)) _ 0 rfl (by omega)
    have l2 := fun fr => law6_loop2 (h := h) (fr := fr) hcv hll h.length k (by omega) (by omega) _ 0 rfl (by omega) (by omega)
    simp only [Int.natCast_zero] at l1 l2
    have e3 : sidx 2 (lstV 2 (pts l)) (.int .i64 ((l.length : Int) - 1)) = some (l.length - 1) := by rw [sidx_sl (hw []) (by omega) (by simp; omega)]; simp
    have e4 := fun off fr => pc_iptr (off := off) (hw fr).elems0 (show l.length - 1 < (pts l).length by simp; omega)
    have f3 : sidx 2 (lstV 2 (pts l)) (.int .i64 0) = some 0 := by rw [sidx_sl (hw []) (by omega) (by simp; omega)]; simp
    have f4 := fun off fr => pc_iptr (off := off) (hw fr).elems0 (show 0 < (pts l).length by simp; omega)
    simp only [pts_get, pt] at e4 f4
    have b1 := gain_before (l := l) (t := k) hpos
    have b2 := gain_before (l := l) (t := k + 1) hpos
    have a1 := gain_after (t := k) hcv hpos
    have a2 := gain_after (t := k + 1) hcv hpos
    obtain ⟨a, ha⟩ : ∃ a, a = l[0] := ⟨_, rfl⟩
    obtain ⟨b, hb⟩ : ∃ b, b = l[l.length - 1] := ⟨_, rfl⟩
    rw [← ha] at f4 b1 b2
    rw [← hb] at e4 a1 a2
    have hab : a.1 ≤ b.1 := by
      rcases Nat.eq_zero_or_pos (l.length - 1) with h1 | h1
      · have : b = a := by rw [ha, hb]; congr 1
        rw [this]; omega
      · have := List.pairwise_iff_getElem.mp hcv.up 0 (l.length - 1) hpos (by omega) h1
        rw [← ha, ← hb] at this; omega
    by_cases q1 : k < a.1
    · have q2 : ¬ b.1 ≤ k := by omega
      have r1 := b1 (by omega); have r2 := b2 (by omega)
      rw [r1] at e1 l1 l2; rw [r2] at e2 l1 l2
      simp (maxSteps := 1000000) (disch := omega) only [go_sem, ↓reduceIte, Nat.reduceEqDiff, Nat.reduceAdd, Nat.reduceSub, Nat.reduceMul, Nat.reduceLT, Nat.reduceLeDiff, reduceCtorEq, Nat.succ_ne_self, ne_eq, not_true_eq_false, not_false_eq_true, and_self, and_true, true_and, Nat.zero_add, Nat.sub_zero, Nat.zero_mul, Nat.one_mul, Nat.le_refl, List.getElem?_cons_zero, List.set_cons_zero, Int.reduceToNat, Int.reduceLT, Int.reduceLE, Int.reduceAdd, Int.reduceSub, Int.reduceMul, Int.reduceEq, Int.reduceNe, Int.toNat_natCast, Int.natCast_zero, wrap_id, wrapu_id, wrapb_id, idx_ok, bin_quo, bin_rem, tdiv_id, tmod_id, ps_bptr, x6, hs, hcr, hp, e1, e2, lenv_sl (hw []).len, pts_len, c0, l1, l2, e3, e4, f3, f4, q1, q2]
    · by_cases q2 : b.1 ≤ k
      · have r1 := a1 (by omega); have r2 := a2 (by omega)
        rw [r1] at e1 l1 l2; rw [r2] at e2 l1 l2
        simp (maxSteps := 1000000) (disch := omega) only [go_sem, ↓reduceIte, Nat.reduceEqDiff, Nat.reduceAdd, Nat.reduceSub, Nat.reduceMul, Nat.reduceLT, Nat.reduceLeDiff, reduceCtorEq, Nat.succ_ne_self, ne_eq, not_true_eq_false, not_false_eq_true, and_self, and_true, true_and, Nat.zero_add, Nat.sub_zero, Nat.zero_mul, Nat.one_mul, Nat.le_refl, List.getElem?_cons_zero, List.set_cons_zero, Int.reduceToNat, Int.reduceLT, Int.reduceLE, Int.reduceAdd, Int.reduceSub, Int.reduceMul, Int.reduceEq, Int.reduceNe, Int.toNat_natCast, Int.natCast_zero, wrap_id, wrapu_id, wrapb_id, idx_ok, bin_quo, bin_rem, tdiv_id, tmod_id, ps_bptr, x6, hs, hcr, hp, e1, e2, lenv_sl (hw []).len, pts_len, c0, l1, l2, e3, e4, f3, f4, q1, q2]
      · simp (maxSteps := 1000000) (disch := omega) only [go_sem, ↓reduceIte, Nat.reduceEqDiff, Nat.reduceAdd, Nat.reduceSub, Nat.reduceMul, Nat.reduceLT, Nat.reduceLeDiff, reduceCtorEq, Nat.succ_ne_self, ne_eq, not_true_eq_false, not_false_eq_true, and_self, and_true, true_and, Nat.zero_add, Nat.sub_zero, Nat.zero_mul, Nat.one_mul, Nat.le_refl, List.getElem?_cons_zero, List.set_cons_zero, Int.reduceToNat, Int.reduceLT, Int.reduceLE, Int.reduceAdd, Int.reduceSub, Int.reduceMul, Int.reduceEq, Int.reduceNe, Int.toNat_natCast, Int.natCast_zero, wrap_id, wrapu_id, wrapb_id, idx_ok, bin_quo, bin_rem, tdiv_id, tmod_id, ps_bptr, x6, hs, hcr, hp, e1, e2, lenv_sl (hw []).len, pts_len, c0, l1, l2, e3, e4, f3, f4, q1, q2]
end Go.VI.Mix
