import Derived.Test.YtegokpicloedeaaMixM
namespace Go.VI.Mix
set_option linter.unusedVariables false
set_option linter.unusedSimpArgs false

def inB (n a b : Int) : Bool := decide (a ≤ n) && decide (n ≤ b)
def duckOk (l : List Int) (lev fl att rel : Int) : Bool := soundB l && inB lev 1 32768 && inB fl 0 1024 && inB att 1 300 && inB rel 1 300
theorem inB_iff {n a b : Int} : inB n a b = true ↔ a ≤ n ∧ n ≤ b := by simp [inB]
theorem soundB_le {l : List Int} (h : soundB l = true) : l.length ≤ 600 := by
  simp only [soundB, Bool.and_eq_true, decide_eq_true_eq] at h
  omega
theorem soundB_in {l : List Int} (h : soundB l = true) : ∀ x ∈ l, -32768 ≤ x ∧ x ≤ 32767 := by
  simp only [soundB, okS, Bool.and_eq_true, decide_eq_true_eq, List.all_eq_true] at h
  exact h.2
theorem duck_enter {h : Heap} {v : AV} {l : List Int} (hv : PureSl 1 v (ints l)) (hl : l.length ≤ 9223372036854775807) (lev fl att rel : Int) (lo : Nat) :
    enter x27 (runC lib) [v, .int .i64 lev, .int .i64 fl, .int .i64 att, .int .i64 rel] h lo =
      some (if duckOk l lev fl att rel = true then .tuple [.own 1 (ints (duckS lev fl att rel l)), .int .i64 0] else .tuple [.own 0 [], .int .i64 170], h) := by
  obtain ⟨v', f1, f5, f2, f6, f3, f4⟩ := hv.frz2
  have e1 := fun fr lo => sound_run (f3.sl (h ++ fr)) hl lo
  have e2 : ∀ n a b (hh : Heap) lo, (run lib).fn 35 [.int .i64 n, .int .i64 a, .int .i64 b] hh lo = some (.bool (inB n a b), hh) := fun n a b hh lo => between_run n a b hh lo
  rw [enter_closed rfl rfl]
  unfold duckOk
  cases h1 : soundB l with
  | false => rw [h1] at e1; simp (maxSteps := 1000000) (disch := omega) only [go_sem, ↓reduceIte, Nat.reduceEqDiff, Nat.reduceAdd, Nat.reduceSub, Nat.reduceMul, Nat.reduceLT, Nat.reduceLeDiff, reduceCtorEq, Nat.succ_ne_self, ne_eq, not_true_eq_false, not_false_eq_true, and_self, and_true, true_and, Nat.zero_add, Nat.sub_zero, Nat.zero_mul, Nat.one_mul, Nat.le_refl, List.getElem?_cons_zero, List.set_cons_zero, Int.reduceToNat, Int.reduceLT, Int.reduceLE, Int.reduceAdd, Int.reduceSub, Int.reduceMul, Int.reduceEq, Int.reduceNe, Int.toNat_natCast, Int.natCast_zero, wrap_id, wrapu_id, wrapb_id, idx_ok, bin_quo, bin_rem, tdiv_id, tmod_id, ps_bptr, x27, f1, f2, f4, e1]
  | true =>
  rw [h1] at e1
  cases h2 : inB lev 1 32768 with
  | false => simp (maxSteps := 1000000) (disch := omega) only [go_sem, ↓reduceIte, Nat.reduceEqDiff, Nat.reduceAdd, Nat.reduceSub, Nat.reduceMul, Nat.reduceLT, Nat.reduceLeDiff, reduceCtorEq, Nat.succ_ne_self, ne_eq, not_true_eq_false, not_false_eq_true, and_self, and_true, true_and, Nat.zero_add, Nat.sub_zero, Nat.zero_mul, Nat.one_mul, Nat.le_refl, List.getElem?_cons_zero, List.set_cons_zero, Int.reduceToNat, Int.reduceLT, Int.reduceLE, Int.reduceAdd, Int.reduceSub, Int.reduceMul, Int.reduceEq, Int.reduceNe, Int.toNat_natCast, Int.natCast_zero, wrap_id, wrapu_id, wrapb_id, idx_ok, bin_quo, bin_rem, tdiv_id, tmod_id, ps_bptr, x27, f1, f2, f4, e1, e2, h2]
  | true =>
  cases h3 : inB fl 0 1024 with
  | false => simp (maxSteps := 1000000) (disch := omega) only [go_sem, ↓reduceIte, Nat.reduceEqDiff, Nat.reduceAdd, Nat.reduceSub, Nat.reduceMul, Nat.reduceLT, Nat.reduceLeDiff, reduceCtorEq, Nat.succ_ne_self, ne_eq, not_true_eq_false, not_false_eq_true, and_self, and_true, true_and, Nat.zero_add, Nat.sub_zero, Nat.zero_mul, Nat.one_mul, Nat.le_refl, List.getElem?_cons_zero, List.set_cons_zero, Int.reduceToNat, Int.reduceLT, Int.reduceLE, Int.reduceAdd, Int.reduceSub, Int.reduceMul, Int.reduceEq, Int.reduceNe, Int.toNat_natCast, Int.natCast_zero, wrap_id, wrapu_id, wrapb_id, idx_ok, bin_quo, bin_rem, tdiv_id, tmod_id, ps_bptr, x27, f1, f2, f4, e1, e2, h2, h3]
  | true =>
  cases h4 : inB att 1 300 with
  | false => simp (maxSteps := 1000000) (disch := omega) only [go_sem, ↓reduceIte, Nat.reduceEqDiff, Nat.reduceAdd, Nat.reduceSub, Nat.reduceMul, Nat.reduceLT, Nat.reduceLeDiff, reduceCtorEq, Nat.succ_ne_self, ne_eq, not_true_eq_false, not_false_eq_true, and_self, and_true, true_and, Nat.zero_add, Nat.sub_zero, Nat.zero_mul, Nat.one_mul, Nat.le_refl, List.getElem?_cons_zero, List.set_cons_zero, Int.reduceToNat, Int.reduceLT, Int.reduceLE, Int.reduceAdd, Int.reduceSub, Int.reduceMul, Int.reduceEq, Int.reduceNe, Int.toNat_natCast, Int.natCast_zero, wrap_id, wrapu_id, wrapb_id, idx_ok, bin_quo, bin_rem, tdiv_id, tmod_id, ps_bptr, x27, f1, f2, f4, e1, e2, h2, h3, h4]
  | true =>
  cases h5 : inB rel 1 300 with
  | false => simp (maxSteps := 1000000) (disch := omega) only [go_sem, ↓reduceIte, Nat.reduceEqDiff, Nat.reduceAdd, Nat.reduceSub, Nat.reduceMul, Nat.reduceLT, Nat.reduceLeDiff, reduceCtorEq, Nat.succ_ne_self, ne_eq, not_true_eq_false, not_false_eq_true, and_self, and_true, true_and, Nat.zero_add, Nat.sub_zero, Nat.zero_mul, Nat.one_mul, Nat.le_refl, List.getElem?_cons_zero, List.set_cons_zero, Int.reduceToNat, Int.reduceLT, Int.reduceLE, Int.reduceAdd, Int.reduceSub, Int.reduceMul, Int.reduceEq, Int.reduceNe, Int.toNat_natCast, Int.natCast_zero, wrap_id, wrapu_id, wrapb_id, idx_ok, bin_quo, bin_rem, tdiv_id, tmod_id, ps_bptr, x27, f1, f2, f4, e1, e2, h2, h3, h4, h5]
  | true =>
  have b1 := soundB_le h1
  have b2 := inB_iff.mp h2
  have b3 := inB_iff.mp h3
  have b4 := inB_iff.mp h4
  have b5 := inB_iff.mp h5
  have bx := soundB_in h1
  have hd1 : (duck1 lev fl rel l).length = l.length := by simp [duck1, run1_len]
  have g1 := duck_loop (h := h) f3 b1 bx lev fl att rel b2 b3 b5 (0, .dead) (1, .box [.fn 48 [.cptr [.int .i64 fl], .cptr [.int .i64 att]]]) (.bptr (h.length + 4) 1 0) l.length 0 (List.replicate l.length 0) (by omega) (by omega) (by simp) (by simp)
  have g2 := fun D hD => f56_run (h := h) f3 b1 bx lev fl att rel b3 b4 D hD
  have hlen := (f3.sl h).len
  simp only [ints_len] at hlen
  have hmk := fun hh => mks_ok (h := hh) (cx := ⟨h.length, h.length, 5, none⟩) (s := 2) (z := 1) (zero := .int .i64 0) (lim := 17592186044416) (k := .i64) (k' := .i64) (a := (l.length : Int)) (b := (l.length : Int)) (by omega) (by omega) (by omega)
  simp only [List.take_zero, List.map_nil, lastS, Int.natCast_zero, ints, List.map_replicate] at g1
  have g3 := w_rfn (L := lib) (lo := h.length) (ns := 5) (s := 0) (g := 0) (it := 56) (v := 0) (caps := [.cptr [v']]) (env := duckE h v' lev) (h := h) (b := .dead)
    (fr := (0, .dead) :: (duckFR h l.length ⟨0, h.length, h.length, 5, duckE h v' lev⟩ .ready 1200 (duck1 lev fl rel l) fl att).tail)
    (fr' := duckFR h l.length ⟨0, h.length, h.length, 5, duckE h v' lev⟩ .ready (lastS 1200 (l.map (onS lev)).reverse) (duckS lev fl att rel l) fl att)
    (f := .t 82) rfl (by omega) rfl (g2 _ rfl) rfl
  have hgv := give_fr (s := 2) (ver := 1) (z := 1) (h := h) (es := ints (duckS lev fl att rel l))
    (fr := (duckFR h l.length ⟨0, h.length, h.length, 5, duckE h v' lev⟩ .ready (lastS 1200 (l.map (onS lev)).reverse) (duckS lev fl att rel l) fl att).set 0 (1, .dead)) rfl
  simp only [ints_len, duckS_len] at hgv
  simp only [duckE, duckFR, List.tail_cons, List.set_cons_zero, List.set_cons_succ, ints] at g3 hgv ⊢
  simp (maxSteps := 1000000) (disch := omega) only [go_sem, ↓reduceIte, Nat.reduceEqDiff, Nat.reduceAdd, Nat.reduceSub, Nat.reduceMul, Nat.reduceLT, Nat.reduceLeDiff, reduceCtorEq, Nat.succ_ne_self, ne_eq, not_true_eq_false, not_false_eq_true, and_self, and_true, true_and, Nat.zero_add, Nat.sub_zero, Nat.zero_mul, Nat.one_mul, Nat.le_refl, List.getElem?_cons_zero, List.set_cons_zero, Int.reduceToNat, Int.reduceLT, Int.reduceLE, Int.reduceAdd, Int.reduceSub, Int.reduceMul, Int.reduceEq, Int.reduceNe, Int.toNat_natCast, Int.natCast_zero, wrap_id, wrapu_id, wrapb_id, idx_ok, bin_quo, bin_rem, tdiv_id, tmod_id, ps_bptr, x27, f1, f2, f4, e1, e2, h2, h3, h4, h5, f47_run, lenv_sl hlen, hmk, mkr, Int.toNat_natCast, g1, f49_run v' f5 f6 f4, g3, hgv]
theorem flatL_ints (l : List Int) : AV.flatL (l.map (.int .i64)) = true := by
  induction l with
  | nil => rfl
  | cons a l ih => simp [AV.flatL, AV.flat, ih]
theorem duck_run {h : Heap} {v : AV} {l : List Int} (hv : Sl h 1 v (ints l)) (hl : l.length ≤ 9223372036854775807) (lev fl att rel : Int) (lo : Nat) :
    (run lib).fn 27 [v, .int .i64 lev, .int .i64 fl, .int .i64 att, .int .i64 rel] h lo =
      some (if duckOk l lev fl att rel = true then .tuple [.own 1 (ints (duckS lev fl att rel l)), .int .i64 0] else .tuple [.own 0 [], .int .i64 170], h) := by
  obtain ⟨v', h1, h2⟩ := view_sl hv
  refine run_lent (x := x27) (vs := [v', .int .i64 lev, .int .i64 fl, .int .i64 att, .int .i64 rel]) rfl rfl rfl ?_ (duck_enter h2 hl lev fl att rel 0) ?_
  · simp [viewL, h1, view]
  · split <;> simp [AV.flatR, AV.flat1, AV.flat, AV.flatL, ints, flatL_ints]
end Go.VI.Mix
