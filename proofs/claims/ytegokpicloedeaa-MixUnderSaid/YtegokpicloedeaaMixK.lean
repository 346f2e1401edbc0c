import Derived.Test.YtegokpicloedeaaMixD
import Derived.Test.YtegokpicloedeaaVIRF
namespace Go.VI.Mix
set_option linter.unusedVariables false
set_option linter.unusedSimpArgs false

def rampS (fl long d : Int) : Int := fl + (1024 - fl) * min d long / long
def onS (lev x : Int) : Bool := decide (lev ≤ max x (-x))
def run1 (last : Int) : List Bool → List Int
  | [] => []
  | b :: r => (if b = true then 0 else last + 1) :: run1 (if b = true then 0 else last + 1) r
theorem ramp_bd {fl long d : Int} (h1 : 0 ≤ fl) (h2 : fl ≤ 1024) (h3 : 1 ≤ long) (h4 : 0 ≤ d) : 0 ≤ (1024 - fl) * min d long ∧ (1024 - fl) * min d long ≤ 1024 * long ∧ 0 ≤ (1024 - fl) * min d long / long ∧ (1024 - fl) * min d long / long ≤ 1024 - fl := by
  have a : 0 ≤ min d long := by omega
  have b : min d long ≤ long := by omega
  have c := Int.mul_nonneg (show 0 ≤ 1024 - fl by omega) a
  have d1 := Int.mul_le_mul_of_nonneg_left b (show 0 ≤ 1024 - fl by omega)
  have d2 := Int.mul_le_mul_of_nonneg_right (show 1024 - fl ≤ 1024 by omega) (show 0 ≤ long by omega)
  refine ⟨c, by omega, Int.ediv_nonneg c (by omega), ?_⟩
  have := Int.ediv_le_ediv (show 0 < long by omega) d1
  rwa [Int.mul_ediv_cancel _ (by omega)] at this
theorem f48_run (fl long d : Int) (h : Heap) (lo : Nat) (h1 : 0 ≤ fl) (h2 : fl ≤ 1024) (h3 : 1 ≤ long) (h4 : long ≤ 300) (h5 : 0 ≤ d) (h6 : d ≤ 100000) :
    (run lib).fn 48 [.int .i64 d, .cptr [.int .i64 fl], .cptr [.int .i64 long]] h lo = some (.int .i64 (rampS fl long d), h) := by
  obtain ⟨b1, b2, b3, b4⟩ := ramp_bd h1 h2 h3 h5
  rw [run_closed (x := x48) rfl rfl rfl rfl]
  simp (maxSteps := 1000000) (disch := omega) only [go_sem, ↓reduceIte, Nat.reduceEqDiff, Nat.reduceAdd, Nat.reduceSub, Nat.reduceMul, Nat.reduceLT, Nat.reduceLeDiff, reduceCtorEq, Nat.succ_ne_self, ne_eq, not_true_eq_false, not_false_eq_true, and_self, and_true, true_and, Nat.zero_add, Nat.sub_zero, Nat.zero_mul, Nat.one_mul, Nat.le_refl, List.getElem?_cons_zero, List.set_cons_zero, Int.reduceToNat, Int.reduceLT, Int.reduceLE, Int.reduceAdd, Int.reduceSub, Int.reduceMul, Int.reduceEq, Int.reduceNe, Int.toNat_natCast, Int.natCast_zero, wrap_id, wrapu_id, wrapb_id, idx_ok, bin_quo, bin_rem, tdiv_id, tmod_id, ps_bptr, x48, rampS]
theorem f47_run (fl long : Int) (h : Heap) (lo : Nat) : (run lib).fn 47 [.int .i64 long, .cptr [.int .i64 fl]] h lo = some (.fn 48 [.cptr [.int .i64 fl], .cptr [.int .i64 long]], h) := by
  rw [run_closed (x := x47) rfl rfl rfl rfl]
  simp (maxSteps := 1000000) (disch := omega) only [go_sem, ↓reduceIte, Nat.reduceEqDiff, Nat.reduceAdd, Nat.reduceSub, Nat.reduceMul, Nat.reduceLT, Nat.reduceLeDiff, reduceCtorEq, Nat.succ_ne_self, ne_eq, not_true_eq_false, not_false_eq_true, and_self, and_true, true_and, Nat.zero_add, Nat.sub_zero, Nat.zero_mul, Nat.one_mul, Nat.le_refl, List.getElem?_cons_zero, List.set_cons_zero, Int.reduceToNat, Int.reduceLT, Int.reduceLE, Int.reduceAdd, Int.reduceSub, Int.reduceMul, Int.reduceEq, Int.reduceNe, Int.toNat_natCast, Int.natCast_zero, wrap_id, wrapu_id, wrapb_id, idx_ok, bin_quo, bin_rem, tdiv_id, tmod_id, ps_bptr, x47]

theorem run1_len : ∀ (l : List Bool) (a : Int), (run1 a l).length = l.length
  | [], a => rfl
  | b :: r, a => by simp [run1, run1_len r]
theorem run1_bd : ∀ (l : List Bool) (a : Int), 0 ≤ a → ∀ x ∈ run1 a l, 0 ≤ x ∧ x ≤ a + l.length
  | [], a, h, x, hx => by simp [run1] at hx
  | b :: r, a, h, x, hx => by
    simp only [run1, List.mem_cons] at hx
    simp only [List.length_cons]
    rcases hx with rfl | hx
    · split <;> omega
    · have := run1_bd r _ (by split <;> omega) x hx
      split at this <;> omega

/-- The ducking gains of the first loop. -/
def duck1 (lev fl rel : Int) (l : List Int) : List Int := (run1 1200 (l.map (onS lev))).map (rampS fl rel)
/-- How far the last sample at which the voice is on lies behind. -/
def lastS (a : Int) : List Bool → Int
  | [] => a
  | b :: r => lastS (if b = true then 0 else a + 1) r
theorem run1_snoc : ∀ (l : List Bool) (a : Int) (b : Bool), run1 a (l ++ [b]) = run1 a l ++ [if b = true then 0 else lastS a l + 1]
  | [], a, b => rfl
  | c :: r, a, b => by rw [List.cons_append, run1, run1_snoc r, run1, lastS]; rfl
theorem lastS_snoc : ∀ (l : List Bool) (a : Int) (b : Bool), lastS a (l ++ [b]) = if b = true then 0 else lastS a l + 1
  | [], a, b => rfl
  | c :: r, a, b => by rw [List.cons_append, lastS, lastS_snoc r, lastS]
theorem lastS_bd : ∀ (l : List Bool) (a : Int), 0 ≤ a → 0 ≤ lastS a l ∧ lastS a l ≤ a + l.length
  | [], a, h => by simp [lastS]; omega
  | b :: r, a, h => by
    have := lastS_bd r (if b = true then 0 else a + 1) (by split <;> omega)
    simp only [lastS, List.length_cons]
    split at this <;> simp_all <;> omega

theorem duck_loop {h : Heap} {v : AV} {l : List Int} (hv : PureSl 1 v (ints l)) (hl : l.length ≤ 600) (hx : ∀ x ∈ l, -32768 ≤ x ∧ x ≤ 32767) (lev fl att rel : Int) (hlev : 1 ≤ lev ∧ lev ≤ 32768) (hfl : 0 ≤ fl ∧ fl ≤ 1024) (hrel : 1 ≤ rel ∧ rel ≤ 300) (b0 : Nat × Blk) (b4 : Nat × Blk) (a14 : AV) (d : Nat) :
    ∀ (k : Nat) (out : List Int), d = l.length - k → k ≤ l.length → out.length = l.length → out.take k = (duck1 lev fl rel l).take k →
    runC lib ⟨h.length, h.length, 5, none⟩ (.loop b27_0) ([(5, .cptr [v]), (6, .cptr [.int .i64 lev]), (10, .nilSl), (11, .int .i64 0), (12, .int .i64 1200), (14, a14), (15, .fn 48 [.cptr [.int .i64 fl], .cptr [.int .i64 rel]]), (16, .bptr (h.length + 3) 1 0), (17, .bptr (h.length + 1) 1 0), (55, .int .i64 l.length), (56, .int .i64 k)],
      h ++ [b0, (1, .box [.int .i64 (lastS 1200 ((l.take k).map (onS lev)))]), (1, .arr 1 (ints out)), (1, .box [.ref (h.length + 2) 1 1 0 l.length l.length]), b4]) =
      some (.exit 0, ([(5, .cptr [v]), (6, .cptr [.int .i64 lev]), (10, .nilSl), (11, .int .i64 0), (12, .int .i64 1200), (14, a14), (16, .bptr (h.length + 3) 1 0), (17, .bptr (h.length + 1) 1 0)],
      h ++ [b0, (1, .box [.int .i64 (lastS 1200 (l.map (onS lev)))]), (1, .arr 1 (ints (duck1 lev fl rel l))), (1, .box [.ref (h.length + 2) 1 1 0 l.length l.length]), b4])) := by
  have hdl : (duck1 lev fl rel l).length = l.length := by simp [duck1, run1_len]
  induction d with
  | zero =>
    intro k out hd hk ho ht
    have : k = l.length := by omega
    subst this
    rw [List.take_of_length_le (by omega), List.take_of_length_le (by omega)] at ht
    subst ht
    rw [List.take_length, w_loop]
    simp (maxSteps := 1000000) (disch := omega) only [go_sem, ↓reduceIte, Nat.reduceEqDiff, Nat.reduceAdd, Nat.reduceSub, Nat.reduceMul, Nat.reduceLT, Nat.reduceLeDiff, reduceCtorEq, Nat.succ_ne_self, ne_eq, not_true_eq_false, not_false_eq_true, and_self, and_true, true_and, Nat.zero_add, Nat.sub_zero, Nat.zero_mul, Nat.one_mul, Nat.le_refl, List.getElem?_cons_zero, List.set_cons_zero, Int.reduceToNat, Int.reduceLT, Int.reduceLE, Int.reduceAdd, Int.reduceSub, Int.reduceMul, Int.reduceEq, Int.reduceNe, Int.toNat_natCast, Int.natCast_zero, wrap_id, wrapu_id, wrapb_id, idx_ok, bin_quo, bin_rem, tdiv_id, tmod_id, ps_bptr, Int.lt_irrefl]
  | succ d ih =>
    intro k out hd hk ho ht
    have hk' : k < l.length := by omega
    have c1 : (k : Int) < l.length := by omega
    have e3 : sidx 1 v (.int .i64 k) = some k := by rw [sidx_sl (hv.sl h) (by omega) (by simp; omega)]; simp
    have e4 := fun off fr => pc_iptr (off := off) ((hv.sl h).elems fr) (show k < (ints l).length by simp; omega)
    simp only [ints_get] at e4
    have hb := hx _ (List.getElem_mem hk')
    obtain ⟨ls, hls⟩ : ∃ ls, ls = lastS 1200 ((l.take k).map (onS lev)) := ⟨_, rfl⟩
    have hlb := lastS_bd ((l.take k).map (onS lev)) 1200 (by omega)
    rw [← hls] at hlb
    simp only [List.length_map, List.length_take] at hlb
    have hlast : lastS 1200 ((l.take (k + 1)).map (onS lev)) = if onS lev l[k] = true then 0 else ls + 1 := by
      rw [List.take_succ_eq_append_getElem hk', List.map_append, List.map_singleton, lastS_snoc, ← hls]
    have hdk : (duck1 lev fl rel l)[k]'(by omega) = rampS fl rel (if onS lev l[k] = true then 0 else ls + 1) := by
      have e : l.map (onS lev) = (l.take k).map (onS lev) ++ onS lev l[k] :: (l.drop (k + 1)).map (onS lev) := by
        rw [← List.map_cons, ← List.drop_eq_getElem_cons hk', ← List.map_append, List.take_append_drop]
      have e2 : ∀ (p q : List Bool) (a : Int), run1 a (p ++ q) = run1 a p ++ run1 (lastS a p) q := by
        intro p
        induction p with
        | nil => intro q a; rfl
        | cons c p ihp => intro q a; rw [List.cons_append, run1, ihp, run1, lastS]; rfl
      simp only [duck1, List.getElem_map]
      congr 1
      simp only [e, e2, run1]
      rw [List.getElem_append_right (by simp [run1_len]; omega)]
      simp [run1_len, hls]
      have hz : k - min k l.length = 0 := by omega
      simp only [hz, List.getElem_cons_zero]
    obtain ⟨x, hxx⟩ : ∃ x, x = l[k] := ⟨_, rfl⟩
    rw [← hxx] at e4 hb hlast hdk
    have hout : ∀ y, (out.set k y).length = l.length := fun y => by simp [ho]
    have htk : (out.set k (rampS fl rel (if onS lev x = true then 0 else ls + 1))).take (k + 1) = (duck1 lev fl rel l).take (k + 1) := by
      rw [List.take_succ_eq_append_getElem (by simp; omega), List.take_succ_eq_append_getElem (by omega), hdk, List.getElem_set_self, List.take_set_of_le (Nat.le_refl _), ht]
    have e := ih (k + 1) (out.set k (rampS fl rel (if onS lev x = true then 0 else ls + 1))) (by omega) (by omega) (hout _) htk
    rw [cast1, hlast] at e
    have f3 : sidx 1 (.ref (h.length + 2) 1 1 0 l.length l.length) (.int .i64 k) = some k := by simp [sidx, zok, slen, idx]; omega
    obtain ⟨n, hn⟩ : ∃ n, n = (if onS lev x = true then 0 else ls + 1) := ⟨_, rfl⟩
    rw [← hls]
    have e5 := fun n => ps_iptr_fr (lo := h.length) (ns := 5) (h := h) (fr := [b0, (1, .box [.int .i64 n]), (1, .arr 1 (out.map (.int .i64))), (1, .box [.ref (h.length + 2) 1 1 0 l.length l.length]), b4]) (s := 2) (ver := 1) (o := 0) (len := l.length) (fill := l.length) (i := k) (k := .i64) (l := out) (n := rampS fl rel n) rfl ho (by omega) hk' (by omega)
    simp only [Nat.zero_add] at e5
    simp only [ints] at e ⊢
    rw [w_loop]
    cases hon : onS lev x with
    | true =>
      have c2 : lev ≤ max x (-x) := by simpa [onS] using hon
      simp only [hon, if_true] at e
      simp (maxSteps := 1000000) (disch := omega) only [go_sem, ↓reduceIte, Nat.reduceEqDiff, Nat.reduceAdd, Nat.reduceSub, Nat.reduceMul, Nat.reduceLT, Nat.reduceLeDiff, reduceCtorEq, Nat.succ_ne_self, ne_eq, not_true_eq_false, not_false_eq_true, and_self, and_true, true_and, Nat.zero_add, Nat.sub_zero, Nat.zero_mul, Nat.one_mul, Nat.le_refl, List.getElem?_cons_zero, List.set_cons_zero, Int.reduceToNat, Int.reduceLT, Int.reduceLE, Int.reduceAdd, Int.reduceSub, Int.reduceMul, Int.reduceEq, Int.reduceNe, Int.toNat_natCast, Int.natCast_zero, wrap_id, wrapu_id, wrapb_id, idx_ok, bin_quo, bin_rem, tdiv_id, tmod_id, ps_bptr, c1, e3, e4, f3, c2, f48_run, e5, e]
    | false =>
      have c2 : ¬ lev ≤ max x (-x) := by simpa [onS] using hon
      simp only [hon, Bool.false_eq_true, if_false] at e
      simp (maxSteps := 1000000) (disch := omega) only [go_sem, ↓reduceIte, Nat.reduceEqDiff, Nat.reduceAdd, Nat.reduceSub, Nat.reduceMul, Nat.reduceLT, Nat.reduceLeDiff, reduceCtorEq, Nat.succ_ne_self, ne_eq, not_true_eq_false, not_false_eq_true, and_self, and_true, true_and, Nat.zero_add, Nat.sub_zero, Nat.zero_mul, Nat.one_mul, Nat.le_refl, List.getElem?_cons_zero, List.set_cons_zero, Int.reduceToNat, Int.reduceLT, Int.reduceLE, Int.reduceAdd, Int.reduceSub, Int.reduceMul, Int.reduceEq, Int.reduceNe, Int.toNat_natCast, Int.natCast_zero, wrap_id, wrapu_id, wrapb_id, idx_ok, bin_quo, bin_rem, tdiv_id, tmod_id, ps_bptr, c1, e3, e4, f3, c2, f48_run, e5, e]
end Go.VI.Mix
