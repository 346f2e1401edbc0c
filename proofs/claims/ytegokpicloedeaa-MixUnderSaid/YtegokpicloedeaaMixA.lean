import Derived.Test.YtegokpicloedeaaMixTab
namespace Go.VI.Mix
set_option linter.unusedVariables false
set_option linter.unusedSimpArgs false

def ints (l : List Int) : List AV := l.map (.int .i64)
def pt (p : Int × Int) : AV := .agg [.int .i64 p.1, .int .i64 p.2]
def pts (l : List (Int × Int)) : List AV := l.map pt
def pickS (c n : Int) : Int := (if c < 0 then -(c + 1) else c) % n
@[simp] theorem ints_len (l : List Int) : (ints l).length = l.length := by simp [ints]
@[simp] theorem pts_len (l : List (Int × Int)) : (pts l).length = l.length := by simp [pts]
theorem ints_get (l : List Int) (k : Nat) (h : k < (ints l).length) : (ints l)[k] = .int .i64 (l[k]'(by simpa using h)) := by simp [ints]
theorem pts_get (l : List (Int × Int)) (k : Nat) (h : k < (pts l).length) : (pts l)[k] = pt (l[k]'(by simpa using h)) := by simp [pts]

theorem pick13 (c n : Int) (h : Heap) (lo : Nat) (h1 : -9223372036854775808 ≤ c) (h2 : c ≤ 9223372036854775807) (hn : 0 < n) : (run lib).fn 13 [.int .i64 c, .int .i64 n] h lo = some (.int .i64 (pickS c n), h) := by
  rw [run_closed (x := x13) rfl rfl rfl rfl]
  unfold pickS
  by_cases hc : c < 0
  · simp (maxSteps := 1000000) (disch := omega) only [go_sem, ↓reduceIte, Nat.reduceEqDiff, Nat.reduceAdd, Nat.reduceSub, Nat.reduceMul, Nat.reduceLT, Nat.reduceLeDiff, reduceCtorEq, Nat.succ_ne_self, ne_eq, not_true_eq_false, not_false_eq_true, and_self, and_true, true_and, Nat.zero_add, Nat.sub_zero, Nat.zero_mul, Nat.one_mul, Nat.le_refl, List.getElem?_cons_zero, List.set_cons_zero, Int.reduceToNat, Int.reduceLT, Int.reduceLE, Int.reduceAdd, Int.reduceSub, Int.reduceMul, Int.reduceEq, Int.reduceNe, Int.toNat_natCast, Int.natCast_zero, wrap_id, wrapu_id, wrapb_id, idx_ok, bin_quo, bin_rem, tdiv_id, tmod_id, ps_bptr, x13, hc]
  · simp (maxSteps := 1000000) (disch := omega) only [go_sem, ↓reduceIte, Nat.reduceEqDiff, Nat.reduceAdd, Nat.reduceSub, Nat.reduceMul, Nat.reduceLT, Nat.reduceLeDiff, reduceCtorEq, Nat.succ_ne_self, ne_eq, not_true_eq_false, not_false_eq_true, and_self, and_true, true_and, Nat.zero_add, Nat.sub_zero, Nat.zero_mul, Nat.one_mul, Nat.le_refl, List.getElem?_cons_zero, List.set_cons_zero, Int.reduceToNat, Int.reduceLT, Int.reduceLE, Int.reduceAdd, Int.reduceSub, Int.reduceMul, Int.reduceEq, Int.reduceNe, Int.toNat_natCast, Int.natCast_zero, wrap_id, wrapu_id, wrapb_id, idx_ok, bin_quo, bin_rem, tdiv_id, tmod_id, ps_bptr, x13, hc]
theorem pick33 (c n : Int) (h : Heap) (lo : Nat) (h1 : -9223372036854775808 ≤ c) (h2 : c ≤ 9223372036854775807) (hn : 0 < n) : (run lib).fn 33 [.int .i64 c, .int .i64 n] h lo = some (.int .i64 (pickS c n), h) := by
  rw [run_closed (x := x33) rfl rfl rfl rfl]
  unfold pickS
  by_cases hc : c < 0
  · simp (maxSteps := 1000000) (disch := omega) only [go_sem, ↓reduceIte, Nat.reduceEqDiff, Nat.reduceAdd, Nat.reduceSub, Nat.reduceMul, Nat.reduceLT, Nat.reduceLeDiff, reduceCtorEq, Nat.succ_ne_self, ne_eq, not_true_eq_false, not_false_eq_true, and_self, and_true, true_and, Nat.zero_add, Nat.sub_zero, Nat.zero_mul, Nat.one_mul, Nat.le_refl, List.getElem?_cons_zero, List.set_cons_zero, Int.reduceToNat, Int.reduceLT, Int.reduceLE, Int.reduceAdd, Int.reduceSub, Int.reduceMul, Int.reduceEq, Int.reduceNe, Int.toNat_natCast, Int.natCast_zero, wrap_id, wrapu_id, wrapb_id, idx_ok, bin_quo, bin_rem, tdiv_id, tmod_id, ps_bptr, x33, hc]
  · simp (maxSteps := 1000000) (disch := omega) only [go_sem, ↓reduceIte, Nat.reduceEqDiff, Nat.reduceAdd, Nat.reduceSub, Nat.reduceMul, Nat.reduceLT, Nat.reduceLeDiff, reduceCtorEq, Nat.succ_ne_self, ne_eq, not_true_eq_false, not_false_eq_true, and_self, and_true, true_and, Nat.zero_add, Nat.sub_zero, Nat.zero_mul, Nat.one_mul, Nat.le_refl, List.getElem?_cons_zero, List.set_cons_zero, Int.reduceToNat, Int.reduceLT, Int.reduceLE, Int.reduceAdd, Int.reduceSub, Int.reduceMul, Int.reduceEq, Int.reduceNe, Int.toNat_natCast, Int.natCast_zero, wrap_id, wrapu_id, wrapb_id, idx_ok, bin_quo, bin_rem, tdiv_id, tmod_id, ps_bptr, x33, hc]
theorem between_run (n a b : Int) (h : Heap) (lo : Nat) : (run lib).fn 35 [.int .i64 n, .int .i64 a, .int .i64 b] h lo = some (.bool (decide (a ≤ n) && decide (n ≤ b)), h) := by
  rw [run_closed (x := x35) rfl rfl rfl rfl]
  by_cases h1 : a ≤ n <;> simp only [go_sem, ↓reduceIte, Nat.reduceEqDiff, Nat.reduceAdd, Nat.reduceSub, Nat.reduceMul, Nat.reduceLT, Nat.reduceLeDiff, reduceCtorEq, Nat.succ_ne_self, ne_eq, not_true_eq_false, not_false_eq_true, and_self, and_true, true_and, Nat.zero_add, Nat.sub_zero, Nat.zero_mul, Nat.one_mul, Nat.le_refl, List.getElem?_cons_zero, List.set_cons_zero, Int.reduceToNat, Int.reduceLT, Int.reduceLE, Int.reduceAdd, Int.reduceSub, Int.reduceMul, Int.reduceEq, Int.reduceNe, Int.toNat_natCast, Int.natCast_zero, x35, h1]
theorem in_run (n a b : Int) (h : Heap) (lo : Nat) : (run lib).fn 38 [.int .i64 n, .int .i64 a, .int .i64 b] h lo = some (.bool (decide (a ≤ n) && decide (n ≤ b)), h) := by
  rw [run_closed (x := x38) rfl rfl rfl rfl]
  by_cases h1 : a ≤ n <;> simp only [go_sem, ↓reduceIte, Nat.reduceEqDiff, Nat.reduceAdd, Nat.reduceSub, Nat.reduceMul, Nat.reduceLT, Nat.reduceLeDiff, reduceCtorEq, Nat.succ_ne_self, ne_eq, not_true_eq_false, not_false_eq_true, and_self, and_true, true_and, Nat.zero_add, Nat.sub_zero, Nat.zero_mul, Nat.one_mul, Nat.le_refl, List.getElem?_cons_zero, List.set_cons_zero, Int.reduceToNat, Int.reduceLT, Int.reduceLE, Int.reduceAdd, Int.reduceSub, Int.reduceMul, Int.reduceEq, Int.reduceNe, Int.toNat_natCast, Int.natCast_zero, x38, h1]

theorem ceil_neg {a b : Int} (hb : 0 < b) : -((-a + b - 1) / b) = a / b := by
  have h1 := Int.emod_add_mul_ediv a b
  have h2 := Int.emod_nonneg a (show b ≠ 0 by omega)
  have h3 := Int.emod_lt_of_pos a hb
  have : (-a + b - 1) / b = -(a / b) := by
    rw [Int.ediv_eq_iff_of_pos hb]
    rw [Int.neg_mul, Int.mul_comm (a / b) b]
    omega
  omega
theorem down_run (a b : Int) (h : Heap) (lo : Nat) (ha : -1000000000000 ≤ a) (ha' : a ≤ 1000000000000) (hb : 0 < b) (hb' : b ≤ 1000000000000) : (run lib).fn 45 [.int .i64 a, .int .i64 b] h lo = some (.int .i64 (a / b), h) := by
  rw [run_closed (x := x45) rfl rfl rfl rfl]
  by_cases h1 : a < 0
  · have h2 : 0 ≤ (-a + b - 1) / b := Int.ediv_nonneg (by omega) (by omega)
    have h3 : (-a + b - 1) / b ≤ -a + b - 1 := Int.ediv_le_self _ (by omega)
    simp (maxSteps := 1000000) (disch := omega) only [go_sem, ↓reduceIte, Nat.reduceEqDiff, Nat.reduceAdd, Nat.reduceSub, Nat.reduceMul, Nat.reduceLT, Nat.reduceLeDiff, reduceCtorEq, Nat.succ_ne_self, ne_eq, not_true_eq_false, not_false_eq_true, and_self, and_true, true_and, Nat.zero_add, Nat.sub_zero, Nat.zero_mul, Nat.one_mul, Nat.le_refl, List.getElem?_cons_zero, List.set_cons_zero, Int.reduceToNat, Int.reduceLT, Int.reduceLE, Int.reduceAdd, Int.reduceSub, Int.reduceMul, Int.reduceEq, Int.reduceNe, Int.toNat_natCast, Int.natCast_zero, wrap_id, wrapu_id, wrapb_id, idx_ok, bin_quo, bin_rem, tdiv_id, tmod_id, ps_bptr, x45, h1]
    rw [ceil_neg hb]
  · have h2 : 0 ≤ a / b := Int.ediv_nonneg (by omega) (by omega)
    have h3 : a / b ≤ a := Int.ediv_le_self _ (by omega)
    simp (maxSteps := 1000000) (disch := omega) only [go_sem, ↓reduceIte, Nat.reduceEqDiff, Nat.reduceAdd, Nat.reduceSub, Nat.reduceMul, Nat.reduceLT, Nat.reduceLeDiff, reduceCtorEq, Nat.succ_ne_self, ne_eq, not_true_eq_false, not_false_eq_true, and_self, and_true, true_and, Nat.zero_add, Nat.sub_zero, Nat.zero_mul, Nat.one_mul, Nat.le_refl, List.getElem?_cons_zero, List.set_cons_zero, Int.reduceToNat, Int.reduceLT, Int.reduceLE, Int.reduceAdd, Int.reduceSub, Int.reduceMul, Int.reduceEq, Int.reduceNe, Int.toNat_natCast, Int.natCast_zero, wrap_id, wrapu_id, wrapb_id, idx_ok, bin_quo, bin_rem, tdiv_id, tmod_id, ps_bptr, x45, h1]

def curveB (last : Int) : List (Int × Int) → Bool
  | [] => true
  | p :: r => (decide (last + 1 ≤ p.1) && decide (p.1 ≤ 599)) && (decide (0 ≤ p.2) && decide (p.2 ≤ 4096)) && curveB p.1 r

theorem cast1 (k : Nat) : ((k + 1 : Nat) : Int) = (k : Int) + 1 := by simp
theorem curve_loop {h : Heap} {v : AV} {l : List (Int × Int)} (hv : Sl h 2 v (pts l)) (hl : l.length ≤ 9223372036854775807) (last : Int) (hlast : -1 ≤ last) (hlast' : last ≤ 599) (k : Nat) (hk : k ≤ l.length) (v0 : Nat) (b0 : Blk) :
    ∃ fr, runC lib ⟨h.length, h.length, 1, none⟩ (.loop b34_0) ([(0, v), (3, .int .i64 last), (6, v), (7, .int .i64 l.length), (8, .int .i64 k)], h ++ [(v0, b0)]) =
      if curveB last (l.drop k) = true then some (.exit 0, ([(0, v)], h ++ fr)) else some (.ret, ([(2, .bool false)], h ++ fr)) := by
  obtain ⟨d, hd⟩ : ∃ d, d = l.length - k := ⟨_, rfl⟩
  induction d generalizing k last v0 b0 with
  | zero =>
    have : k = l.length := by omega
    subst this
    refine ⟨[(v0, b0)], ?_⟩
    rw [w_loop]
    simp (maxSteps := 1000000) (disch := omega) only [go_sem, ↓reduceIte, Nat.reduceEqDiff, Nat.reduceAdd, Nat.reduceSub, Nat.reduceMul, Nat.reduceLT, Nat.reduceLeDiff, reduceCtorEq, Nat.succ_ne_self, ne_eq, not_true_eq_false, not_false_eq_true, and_self, and_true, true_and, Nat.zero_add, Nat.sub_zero, Nat.zero_mul, Nat.one_mul, Nat.le_refl, List.getElem?_cons_zero, List.set_cons_zero, Int.reduceToNat, Int.reduceLT, Int.reduceLE, Int.reduceAdd, Int.reduceSub, Int.reduceMul, Int.reduceEq, Int.reduceNe, Int.toNat_natCast, Int.natCast_zero, wrap_id, wrapu_id, wrapb_id, idx_ok, bin_quo, bin_rem, tdiv_id, tmod_id, ps_bptr, Int.lt_irrefl, List.drop_length, curveB]
  | succ d ih =>
    have hk' : k < l.length := by omega
    have e3 : sidx 2 v (.int .i64 k) = some k := by rw [sidx_sl hv (by omega) (by simp; omega)]; simp
    have e4 := pc_iptr (off := 0) (hv.elems [(v0, b0)]) (show k < (pts l).length by simp; omega)
    rw [pts_get] at e4
    rw [List.drop_eq_getElem_cons hk']
    have e5 : ((k : Int) < l.length) := by omega
    obtain ⟨p, hp⟩ : ∃ p, p = l[k] := ⟨_, rfl⟩
    rw [← hp] at e4 ⊢
    simp only [pt] at e4
    cases h1 : (decide (last + 1 ≤ p.1) && decide (p.1 ≤ 599)) with
    | false =>
      refine ⟨[(v0 + 1, .box [.int .i64 p.1, .int .i64 p.2])], ?_⟩
      rw [w_loop]
      simp (maxSteps := 1000000) (disch := omega) only [go_sem, ↓reduceIte, Nat.reduceEqDiff, Nat.reduceAdd, Nat.reduceSub, Nat.reduceMul, Nat.reduceLT, Nat.reduceLeDiff, reduceCtorEq, Nat.succ_ne_self, ne_eq, not_true_eq_false, not_false_eq_true, and_self, and_true, true_and, Nat.zero_add, Nat.sub_zero, Nat.zero_mul, Nat.one_mul, Nat.le_refl, List.getElem?_cons_zero, List.set_cons_zero, Int.reduceToNat, Int.reduceLT, Int.reduceLE, Int.reduceAdd, Int.reduceSub, Int.reduceMul, Int.reduceEq, Int.reduceNe, Int.toNat_natCast, Int.natCast_zero, wrap_id, wrapu_id, wrapb_id, idx_ok, bin_quo, bin_rem, tdiv_id, tmod_id, ps_bptr, e3, e4, e5, between_run, h1, curveB]
    | true =>
      simp only [Bool.and_eq_true, decide_eq_true_eq] at h1
      cases h2 : (decide (0 ≤ p.2) && decide (p.2 ≤ 4096)) with
      | false =>
        refine ⟨[(v0 + 1, .box [.int .i64 p.1, .int .i64 p.2])], ?_⟩
        rw [w_loop]
        simp (maxSteps := 1000000) (disch := omega) only [go_sem, ↓reduceIte, Nat.reduceEqDiff, Nat.reduceAdd, Nat.reduceSub, Nat.reduceMul, Nat.reduceLT, Nat.reduceLeDiff, reduceCtorEq, Nat.succ_ne_self, ne_eq, not_true_eq_false, not_false_eq_true, and_self, and_true, true_and, Nat.zero_add, Nat.sub_zero, Nat.zero_mul, Nat.one_mul, Nat.le_refl, List.getElem?_cons_zero, List.set_cons_zero, Int.reduceToNat, Int.reduceLT, Int.reduceLE, Int.reduceAdd, Int.reduceSub, Int.reduceMul, Int.reduceEq, Int.reduceNe, Int.toNat_natCast, Int.natCast_zero, wrap_id, wrapu_id, wrapb_id, idx_ok, bin_quo, bin_rem, tdiv_id, tmod_id, ps_bptr, e3, e4, e5, between_run, h1, h2, curveB]
      | true =>
        obtain ⟨fr, e⟩ := ih p.1 (by omega) (by omega) (k + 1) (by omega) (v0 + 1) (.box [.int .i64 p.1, .int .i64 p.2]) (by omega)
        rw [cast1] at e
        refine ⟨fr, ?_⟩
        rw [w_loop]
        simp (maxSteps := 1000000) (disch := omega) only [go_sem, ↓reduceIte, Nat.reduceEqDiff, Nat.reduceAdd, Nat.reduceSub, Nat.reduceMul, Nat.reduceLT, Nat.reduceLeDiff, reduceCtorEq, Nat.succ_ne_self, ne_eq, not_true_eq_false, not_false_eq_true, and_self, and_true, true_and, Nat.zero_add, Nat.sub_zero, Nat.zero_mul, Nat.one_mul, Nat.le_refl, List.getElem?_cons_zero, List.set_cons_zero, Int.reduceToNat, Int.reduceLT, Int.reduceLE, Int.reduceAdd, Int.reduceSub, Int.reduceMul, Int.reduceEq, Int.reduceNe, Int.toNat_natCast, Int.natCast_zero, wrap_id, wrapu_id, wrapb_id, idx_ok, bin_quo, bin_rem, tdiv_id, tmod_id, ps_bptr, e3, e4, e5, between_run, h1, h2, curveB, e]
theorem curve_run {h : Heap} {v : AV} {l : List (Int × Int)} (hv : Sl h 2 v (pts l)) (hl : l.length ≤ 9223372036854775807) (lo : Nat) : (run lib).fn 34 [v] h lo = some (.bool (curveB (-1) l && decide ((l.length : Int) ≤ 12)), h) := by
  obtain ⟨fr, e⟩ := curve_loop hv hl (-1) (by omega) (by omega) 0 (by omega) 0 .dead
  rw [Int.natCast_zero, List.drop_zero] at e
  rw [run_closed (x := x34) rfl rfl rfl rfl]
  cases hb : curveB (-1) l <;> rw [hb] at e <;> simp (maxSteps := 1000000) (disch := omega) only [go_sem, ↓reduceIte, Nat.reduceEqDiff, Nat.reduceAdd, Nat.reduceSub, Nat.reduceMul, Nat.reduceLT, Nat.reduceLeDiff, reduceCtorEq, Nat.succ_ne_self, ne_eq, not_true_eq_false, not_false_eq_true, and_self, and_true, true_and, Nat.zero_add, Nat.sub_zero, Nat.zero_mul, Nat.one_mul, Nat.le_refl, List.getElem?_cons_zero, List.set_cons_zero, Int.reduceToNat, Int.reduceLT, Int.reduceLE, Int.reduceAdd, Int.reduceSub, Int.reduceMul, Int.reduceEq, Int.reduceNe, Int.toNat_natCast, Int.natCast_zero, wrap_id, wrapu_id, wrapb_id, idx_ok, bin_quo, bin_rem, tdiv_id, tmod_id, ps_bptr, x34, lenv_sl hv.len, pts_len, e]
theorem pickS_bd {c n : Int} (hn : 0 < n) : 0 ≤ pickS c n ∧ pickS c n < n := by
  unfold pickS; exact ⟨Int.emod_nonneg _ (by omega), Int.emod_lt_of_pos _ hn⟩

def curvedS (at' : Int) : List (Int × Int) → List (Int × Int)
  | [] => []
  | x :: r => (at' + 1 + pickS x.1 12, pickS x.2 4097) :: curvedS (at' + 1 + pickS x.1 12) r
theorem pts_app (a b : List (Int × Int)) : pts (a ++ b) = pts a ++ pts b := by simp [pts]
def okI (n : Int) : Prop := -9223372036854775808 ≤ n ∧ n ≤ 9223372036854775807

theorem curved_loop {h : Heap} {v : AV} {xs : List (Int × Int)} (hv : Sl h 2 v (pts xs)) (hl : xs.length ≤ 9223372036854775807) (hi : ∀ x ∈ xs, okI x.1 ∧ okI x.2) (d : Nat) :
    ∀ (k : Nat) (es : List (Int × Int)) (at' : Int) (b0 : Nat × Blk), d = min 6 xs.length - k → k ≤ min 6 xs.length → es.length = k → -1 ≤ at' → at' ≤ 12 * k →
    runC lib ⟨h.length, h.length, 1, none⟩ (.loop b14_0) ([(0, v), (3, accV (h.length + 0) b0 2 (pts es)), (4, .int .i64 at'), (5, .int .i64 k)], h ++ [accB b0 2 (pts es)]) =
      some (.exit 0, ([(3, accV (h.length + 0) b0 2 (pts (es ++ curvedS at' ((xs.take 6).drop k))))], h ++ [accB b0 2 (pts (es ++ curvedS at' ((xs.take 6).drop k)))])) := by
  induction d with
  | zero =>
    intro k es at' b0 hd hk he ha ha'
    have hdr : (xs.take 6).drop k = [] := by rw [List.drop_eq_nil_iff]; simp; omega
    rw [hdr, curvedS, List.append_nil, w_loop]
    by_cases h1 : (k : Int) < xs.length
    · have h2 : ¬ (k : Int) < 6 := by omega
      simp (maxSteps := 1000000) (disch := omega) only [go_sem, ↓reduceIte, Nat.reduceEqDiff, Nat.reduceAdd, Nat.reduceSub, Nat.reduceMul, Nat.reduceLT, Nat.reduceLeDiff, reduceCtorEq, Nat.succ_ne_self, ne_eq, not_true_eq_false, not_false_eq_true, and_self, and_true, true_and, Nat.zero_add, Nat.sub_zero, Nat.zero_mul, Nat.one_mul, Nat.le_refl, List.getElem?_cons_zero, List.set_cons_zero, Int.reduceToNat, Int.reduceLT, Int.reduceLE, Int.reduceAdd, Int.reduceSub, Int.reduceMul, Int.reduceEq, Int.reduceNe, Int.toNat_natCast, Int.natCast_zero, wrap_id, wrapu_id, wrapb_id, idx_ok, bin_quo, bin_rem, tdiv_id, tmod_id, ps_bptr, lenv_sl hv.len, pts_len, h1, h2]
    · simp (maxSteps := 1000000) (disch := omega) only [go_sem, ↓reduceIte, Nat.reduceEqDiff, Nat.reduceAdd, Nat.reduceSub, Nat.reduceMul, Nat.reduceLT, Nat.reduceLeDiff, reduceCtorEq, Nat.succ_ne_self, ne_eq, not_true_eq_false, not_false_eq_true, and_self, and_true, true_and, Nat.zero_add, Nat.sub_zero, Nat.zero_mul, Nat.one_mul, Nat.le_refl, List.getElem?_cons_zero, List.set_cons_zero, Int.reduceToNat, Int.reduceLT, Int.reduceLE, Int.reduceAdd, Int.reduceSub, Int.reduceMul, Int.reduceEq, Int.reduceNe, Int.toNat_natCast, Int.natCast_zero, wrap_id, wrapu_id, wrapb_id, idx_ok, bin_quo, bin_rem, tdiv_id, tmod_id, ps_bptr, lenv_sl hv.len, pts_len, h1]
  | succ d ih =>
    intro k es at' b0 hd hk he ha ha'
    have hk' : k < xs.length := by omega
    have h1 : (k : Int) < xs.length := by omega
    have h2 : (k : Int) < 6 := by omega
    have hdr : (xs.take 6).drop k = xs[k] :: (xs.take 6).drop (k + 1) := by
      rw [List.drop_eq_getElem_cons (by simp; omega)]; simp
    have e3 : sidx 2 v (.int .i64 k) = some k := by rw [sidx_sl hv (by omega) (by simp; omega)]; simp
    have e4 := fun off fr => pc_iptr (off := off) (hv.elems fr) (show k < (pts xs).length by simp; omega)
    simp only [pts_get, pt] at e4
    obtain ⟨x, hx⟩ : ∃ x, x = xs[k] := ⟨_, rfl⟩
    have hx' := hi xs[k] (List.getElem_mem _)
    rw [hdr]
    rw [← hx] at e4 hx' ⊢
    obtain ⟨⟨i1, i2⟩, i3, i4⟩ := hx'
    have p1 := pickS_bd (c := x.1) (n := 12) (by omega)
    have p2 := pickS_bd (c := x.2) (n := 4097) (by omega)
    have e := ih (k + 1) (es ++ [(at' + 1 + pickS x.1 12, pickS x.2 4097)]) (at' + 1 + pickS x.1 12) b0 (by omega) (by omega) (by simp; omega) (by omega) (by omega)
    rw [cast1, List.append_assoc, pts_app es [_]] at e
    have e5 := app_acc (lo := h.length) (ns := 1) (s := 0) (z := 2) (lim := 8796093022208) (h := h) (fr := [accB b0 2 (pts es)]) (b0 := b0) (es := pts es) (xs := pts [(at' + 1 + pickS x.1 12, pickS x.2 4097)]) (by omega) (by omega) rfl (by simp; omega)
    simp only [pts, pt, List.map_cons, List.map_nil] at e5 e
    rw [w_loop]
    simp (maxSteps := 1000000) (disch := omega) only [go_sem, ↓reduceIte, Nat.reduceEqDiff, Nat.reduceAdd, Nat.reduceSub, Nat.reduceMul, Nat.reduceLT, Nat.reduceLeDiff, reduceCtorEq, Nat.succ_ne_self, ne_eq, not_true_eq_false, not_false_eq_true, and_self, and_true, true_and, Nat.zero_add, Nat.sub_zero, Nat.zero_mul, Nat.one_mul, Nat.le_refl, List.getElem?_cons_zero, List.set_cons_zero, Int.reduceToNat, Int.reduceLT, Int.reduceLE, Int.reduceAdd, Int.reduceSub, Int.reduceMul, Int.reduceEq, Int.reduceNe, Int.toNat_natCast, Int.natCast_zero, wrap_id, wrapu_id, wrapb_id, idx_ok, bin_quo, bin_rem, tdiv_id, tmod_id, ps_bptr, lenv_sl hv.len, pts_len, h1, h2, e3, e4, pick33, e5, e, curvedS, pts, pt, List.length_map]
theorem curved_run {h : Heap} {v : AV} {xs : List (Int × Int)} (hv : Sl h 2 v (pts xs)) (hl : xs.length ≤ 9223372036854775807) (hi : ∀ x ∈ xs, okI x.1 ∧ okI x.2) (lo : Nat) :
    (run lib).fn 14 [v] h lo = some (ownV 2 (pts (curvedS (-1) (xs.take 6))), h) := by
  have e := curved_loop hv hl hi _ 0 [] (-1) (0, .dead) rfl (by omega) rfl (by omega) (by omega)
  rw [Int.natCast_zero, List.drop_zero, List.nil_append] at e
  simp only [pts, List.map_nil, accV_nil, accB_nil] at e
  have e2 := giveRes_acc (s := 0) (z := 2) (h := h) (fr := [accB (0, .dead) 2 (pts (curvedS (-1) (xs.take 6)))]) (b0 := (0, .dead)) (es := pts (curvedS (-1) (xs.take 6))) rfl
  simp only [pts] at e2 ⊢
  rw [run_closed (x := x14) rfl rfl rfl rfl]
  simp (maxSteps := 1000000) (disch := omega) only [go_sem, ↓reduceIte, Nat.reduceEqDiff, Nat.reduceAdd, Nat.reduceSub, Nat.reduceMul, Nat.reduceLT, Nat.reduceLeDiff, reduceCtorEq, Nat.succ_ne_self, ne_eq, not_true_eq_false, not_false_eq_true, and_self, and_true, true_and, Nat.zero_add, Nat.sub_zero, Nat.zero_mul, Nat.one_mul, Nat.le_refl, List.getElem?_cons_zero, List.set_cons_zero, Int.reduceToNat, Int.reduceLT, Int.reduceLE, Int.reduceAdd, Int.reduceSub, Int.reduceMul, Int.reduceEq, Int.reduceNe, Int.toNat_natCast, Int.natCast_zero, wrap_id, wrapu_id, wrapb_id, idx_ok, bin_quo, bin_rem, tdiv_id, tmod_id, ps_bptr, x14, e, e2]
theorem gain1_run (p : Int × Int) (t : Int) (h : Heap) (lo : Nat) (h1 : -1000000000 ≤ p.1) (h2 : p.1 ≤ 1000000000) (h3 : -1000000000 ≤ t) (h4 : t ≤ 1000000000) :
    (run lib).fn 53 [.agg [.int .i64 p.1, .int .i64 p.2], .int .i64 t] h lo = some (.int .i64 (p.1 - t), h) := by
  rw [run_closed (x := x53) rfl rfl rfl rfl]
  simp (maxSteps := 1000000) (disch := omega) only [go_sem, ↓reduceIte, Nat.reduceEqDiff, Nat.reduceAdd, Nat.reduceSub, Nat.reduceMul, Nat.reduceLT, Nat.reduceLeDiff, reduceCtorEq, Nat.succ_ne_self, ne_eq, not_true_eq_false, not_false_eq_true, and_self, and_true, true_and, Nat.zero_add, Nat.sub_zero, Nat.zero_mul, Nat.one_mul, Nat.le_refl, List.getElem?_cons_zero, List.set_cons_zero, Int.reduceToNat, Int.reduceLT, Int.reduceLE, Int.reduceAdd, Int.reduceSub, Int.reduceMul, Int.reduceEq, Int.reduceNe, Int.toNat_natCast, Int.natCast_zero, wrap_id, wrapu_id, wrapb_id, idx_ok, bin_quo, bin_rem, tdiv_id, tmod_id, ps_bptr, x53]
def okP (p : Int × Int) : Prop := 0 ≤ p.1 ∧ p.1 ≤ 599 ∧ 0 ≤ p.2 ∧ p.2 ≤ 4096

theorem bs_loop {h : Heap} {v : AV} {l : List (Int × Int)} (hv : Sl h 2 v (pts l)) (hl : l.length ≤ 1000) (hp : ∀ p ∈ l, okP p) (t : Int) (ht : 0 ≤ t) (ht' : t ≤ 1000) (r : Nat) (hr : ∀ x (hx : x < l.length), l[x].1 < t ↔ x < r) (lo : Nat) (d : Nat) :
    ∀ (i j : Nat), d = j - i → i ≤ r → r ≤ j → j ≤ l.length →
    runC lib ⟨lo, h.length, 0, none⟩ (.loop b52_0) ([(0, v), (1, .int .i64 t), (2, .fn 53 []), (8, .int .i64 l.length), (9, .int .i64 i), (10, .int .i64 j)], h) =
      some (.exit 0, ([(0, v), (1, .int .i64 t), (2, .fn 53 []), (8, .int .i64 l.length), (9, .int .i64 r)], h)) := by
  induction d using Nat.strongRecOn with
  | _ d ih =>
    intro i j hd h1 h2 h3
    rw [w_loop]
    by_cases hij : i < j
    · have c1 : (i : Int) < j := by omega
      obtain ⟨m, hm⟩ : ∃ m, m = (i + j) / 2 := ⟨_, rfl⟩
      have hm' : ((i : Int) + j) / 2 = (m : Int) := by omega
      have hml : m < l.length := by omega
      have e3 : sidx 2 v (.int .i64 m) = some m := by rw [sidx_sl hv (by omega) (by simp; omega)]; simp
      have e4 := pc_iptr (off := 0) hv.elems0 (show m < (pts l).length by simp; omega)
      simp only [pts_get, pt] at e4
      have q := hp _ (List.getElem_mem hml)
      have q2 := hr m hml
      obtain ⟨p, hp⟩ : ∃ p, p = l[m] := ⟨_, rfl⟩
      rw [← hp] at e4 q q2
      obtain ⟨q3, q4, q5, q6⟩ := q
      by_cases hlt : p.1 < t
      · have c2 : p.1 - t < 0 := by omega
        have hmr := q2.mp hlt
        have e := ih (j - (m + 1)) (by omega) (m + 1) j rfl (by omega) h2 h3
        rw [cast1] at e
        simp (maxSteps := 1000000) (disch := omega) only [go_sem, ↓reduceIte, Nat.reduceEqDiff, Nat.reduceAdd, Nat.reduceSub, Nat.reduceMul, Nat.reduceLT, Nat.reduceLeDiff, reduceCtorEq, Nat.succ_ne_self, ne_eq, not_true_eq_false, not_false_eq_true, and_self, and_true, true_and, Nat.zero_add, Nat.sub_zero, Nat.zero_mul, Nat.one_mul, Nat.le_refl, List.getElem?_cons_zero, List.set_cons_zero, Int.reduceToNat, Int.reduceLT, Int.reduceLE, Int.reduceAdd, Int.reduceSub, Int.reduceMul, Int.reduceEq, Int.reduceNe, Int.toNat_natCast, Int.natCast_zero, wrap_id, wrapu_id, wrapb_id, idx_ok, bin_quo, bin_rem, tdiv_id, tmod_id, ps_bptr, c1, hm', e3, e4, gain1_run, c2, e]
      · have c2 : ¬ p.1 - t < 0 := by omega
        have hmr := mt q2.mpr hlt
        have e := ih (m - i) (by omega) i m rfl h1 (by omega) (by omega)
        simp (maxSteps := 1000000) (disch := omega) only [go_sem, ↓reduceIte, Nat.reduceEqDiff, Nat.reduceAdd, Nat.reduceSub, Nat.reduceMul, Nat.reduceLT, Nat.reduceLeDiff, reduceCtorEq, Nat.succ_ne_self, ne_eq, not_true_eq_false, not_false_eq_true, and_self, and_true, true_and, Nat.zero_add, Nat.sub_zero, Nat.zero_mul, Nat.one_mul, Nat.le_refl, List.getElem?_cons_zero, List.set_cons_zero, Int.reduceToNat, Int.reduceLT, Int.reduceLE, Int.reduceAdd, Int.reduceSub, Int.reduceMul, Int.reduceEq, Int.reduceNe, Int.toNat_natCast, Int.natCast_zero, wrap_id, wrapu_id, wrapb_id, idx_ok, bin_quo, bin_rem, tdiv_id, tmod_id, ps_bptr, c1, hm', e3, e4, gain1_run, c2, e]
    · have c1 : ¬ (i : Int) < j := by omega
      have : i = r := by omega
      subst this
      simp (maxSteps := 1000000) (disch := omega) only [go_sem, ↓reduceIte, Nat.reduceEqDiff, Nat.reduceAdd, Nat.reduceSub, Nat.reduceMul, Nat.reduceLT, Nat.reduceLeDiff, reduceCtorEq, Nat.succ_ne_self, ne_eq, not_true_eq_false, not_false_eq_true, and_self, and_true, true_and, Nat.zero_add, Nat.sub_zero, Nat.zero_mul, Nat.one_mul, Nat.le_refl, List.getElem?_cons_zero, List.set_cons_zero, Int.reduceToNat, Int.reduceLT, Int.reduceLE, Int.reduceAdd, Int.reduceSub, Int.reduceMul, Int.reduceEq, Int.reduceNe, Int.toNat_natCast, Int.natCast_zero, wrap_id, wrapu_id, wrapb_id, idx_ok, bin_quo, bin_rem, tdiv_id, tmod_id, ps_bptr, c1]
theorem bs_run {h : Heap} {v : AV} {l : List (Int × Int)} (hv : Sl h 2 v (pts l)) (hl : l.length ≤ 1000) (hp : ∀ p ∈ l, okP p) (t : Int) (ht : 0 ≤ t) (ht' : t ≤ 1000) (r : Nat) (hr : ∀ x (hx : x < l.length), l[x].1 < t ↔ x < r) (hrl : r ≤ l.length) (lo : Nat) :
    (run lib).fn 52 [v, .int .i64 t, .fn 53 []] h lo = some (.tuple [.int .i64 r, .bool (if hx : r < l.length then decide (l[r].1 = t) else false)], h) := by
  have e := bs_loop hv hl hp t ht ht' r hr h.length _ 0 l.length rfl (by omega) hrl (by omega)
  rw [Int.natCast_zero] at e
  rw [run_closed (x := x52) rfl rfl rfl rfl]
  by_cases hx : r < l.length
  · have c1 : (r : Int) < l.length := by omega
    have e3 : sidx 2 v (.int .i64 r) = some r := by rw [sidx_sl hv (by omega) (by simp; omega)]; simp
    have e4 := pc_iptr (off := 0) hv.elems0 (show r < (pts l).length by simp; omega)
    simp only [pts_get, pt] at e4
    have q := hp _ (List.getElem_mem hx)
    rw [dif_pos hx]
    obtain ⟨p, hp⟩ : ∃ p, p = l[r] := ⟨_, rfl⟩
    rw [← hp] at e4 q ⊢
    obtain ⟨q3, q4, q5, q6⟩ := q
    have c2 : decide (p.1 - t = 0) = decide (p.1 = t) := by rw [decide_eq_decide]; omega
    simp (maxSteps := 1000000) (disch := omega) only [go_sem, ↓reduceIte, Nat.reduceEqDiff, Nat.reduceAdd, Nat.reduceSub, Nat.reduceMul, Nat.reduceLT, Nat.reduceLeDiff, reduceCtorEq, Nat.succ_ne_self, ne_eq, not_true_eq_false, not_false_eq_true, and_self, and_true, true_and, Nat.zero_add, Nat.sub_zero, Nat.zero_mul, Nat.one_mul, Nat.le_refl, List.getElem?_cons_zero, List.set_cons_zero, Int.reduceToNat, Int.reduceLT, Int.reduceLE, Int.reduceAdd, Int.reduceSub, Int.reduceMul, Int.reduceEq, Int.reduceNe, Int.toNat_natCast, Int.natCast_zero, wrap_id, wrapu_id, wrapb_id, idx_ok, bin_quo, bin_rem, tdiv_id, tmod_id, ps_bptr, x52, lenv_sl hv.len, pts_len, e, c1, e3, e4, gain1_run, c2]
  · have c1 : ¬ (r : Int) < l.length := by omega
    rw [dif_neg hx]
    simp (maxSteps := 1000000) (disch := omega) only [go_sem, ↓reduceIte, Nat.reduceEqDiff, Nat.reduceAdd, Nat.reduceSub, Nat.reduceMul, Nat.reduceLT, Nat.reduceLeDiff, reduceCtorEq, Nat.succ_ne_self, ne_eq, not_true_eq_false, not_false_eq_true, and_self, and_true, true_and, Nat.zero_add, Nat.sub_zero, Nat.zero_mul, Nat.one_mul, Nat.le_refl, List.getElem?_cons_zero, List.set_cons_zero, Int.reduceToNat, Int.reduceLT, Int.reduceLE, Int.reduceAdd, Int.reduceSub, Int.reduceMul, Int.reduceEq, Int.reduceNe, Int.toNat_natCast, Int.natCast_zero, wrap_id, wrapu_id, wrapb_id, idx_ok, bin_quo, bin_rem, tdiv_id, tmod_id, ps_bptr, x52, lenv_sl hv.len, pts_len, e, c1]
end Go.VI.Mix
