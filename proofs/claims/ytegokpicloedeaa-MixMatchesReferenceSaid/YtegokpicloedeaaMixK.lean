import Derived.Test.YtegokpicloedeaaMixD
import Derived.Test.YtegokpicloedeaaVIRF
namespace Go.VI.Mix
set_option linter.unusedVariables false
set_option linter.unusedSimpArgs false

def rampS (fl long d : Int) : Int := fl + (1024 - fl) * min d long / long
def onS (lev x : Int) : Bool := decide (lev ≤ max x (-x))
def run1 (last : Int) : List Bool → List Int
  | [] => []
  | b :: r => (if b = true then 0 else last + 1) :: run1 (if b = true then 0 else last + 1) r
theorem ramp_bd {fl long d : Int} (h1 : 0 ≤ fl) (h2 : fl ≤ 1024) (h3 : 1 ≤ long) (h4 : 0 ≤ d) : 0 ≤ (1024 - fl) * min d long ∧ (1024 - fl) * min d long ≤ 1024 * long ∧ 0 ≤ (1024 - fl) * min d long / long ∧ (1024 - fl) * min d long / long ≤ 1024 - fl := by
  have a : 0 ≤ min d long := by omega
  have b : min d long ≤ long := by omega
  have c := Int.mul_nonneg (show 0 ≤ 1024 - fl by omega) a
  have d1 := Int.mul_le_mul_of_nonneg_left b (show 0 ≤ 1024 - fl by omega)
  have d2 := Int.mul_le_mul_of_nonneg_right (show 1024 - fl ≤ 1024 by omega) (show 0 ≤ long by omega)
  refine ⟨c, by omega, Int.ediv_nonneg c (by omega), ?_⟩
  have := Int.ediv_le_ediv (show 0 < long by omega) d1
  rwa [Int.mul_ediv_cancel _ (by omega)] at this
theorem f48_run (fl long d : Int) (h : Heap) (lo : Nat) (h1 : 0 ≤ fl) (h2 : fl ≤ 1024) (h3 : 1 ≤ long) (h4 : long ≤ 300) (h5 : 0 ≤ d) (h6 : d ≤ 100000) :
    (run lib).fn 48 [.int .i64 d, .cptr [.int .i64 fl], .cptr [.int .i64 long]] h lo = some (.int .i64 (rampS fl long d), h) := by
  obtain ⟨b1, b2, b3, b4⟩ := ramp_bd h1 h2 h3 h5
  rw [run_closed (x := x48) rfl rfl rfl rfl]
  simp (maxSteps := 1000000) (disch := omega) only [go_sem, ↓reduceIte, Nat.reduceEqDiff, Nat.reduceAdd, Nat.reduceSub, Nat.reduceMul, Nat.reduceLT, Nat.reduceLeDiff, reduceCtorEq, Nat.succ_ne_self, ne_eq, not_true_eq_false, not_false_eq_true, and_self, and_true, true_and, Nat.zero_add, Nat.sub_zero, Nat.zero_mul, Nat.one_mul, Nat.le_refl, List.getElem?_cons_zero, List.set_cons_zero, Int.reduceToNat, Int.reduceLT, Int.reduceLE, Int.reduceAdd, Int.reduceSub, Int.reduceMul, Int.reduceEq, Int.reduceNe, Int.toNat_natCast, Int.natCast_zero, wrap_id, wrapu_id, wrapb_id, idx_ok, bin_quo, bin_rem, tdiv_id, tmod_id, ps_bptr, x48, rampS]
theorem f47_run (fl long : Int) (h : Heap) (lo : Nat) : (run lib).fn 47 [.int .i64 long, .cptr [.int .i64 fl]] h lo = some (.fn 48 [.cptr [.int .i64 fl], .cptr [.int .i64 long]], h) := by
  rw [run_closed (x := x47) rfl rfl rfl rfl]
  simp (maxSteps := 1000000) (disch := omega) only [go_sem, ↓reduceIte, Nat.reduceEqDiff, Nat.reduceAdd, Nat.reduceSub, Nat.reduceMul, Nat.reduceLT, Nat.reduceLeDiff, reduceCtorEq, Nat.succ_ne_self, ne_eq, not_true_eq_false, not_false_eq_true, and_self, and_true, true_and, Nat.zero_add, Nat.sub_zero, Nat.zero_mul, Nat.one_mul, Nat.le_refl, List.getElem?_cons_zero, List.set_cons_zero, Int.reduceToNat, Int.reduceLT, Int.reduceLE, Int.reduceAdd, Int.reduceSub, Int.reduceMul, Int.reduceEq, Int.reduceNe, Int.toNat_natCast, Int.natCast_zero, wrap_id, wrapu_id, wrapb_id, idx_ok, bin_quo, bin_rem, tdiv_id, tmod_id, ps_bptr, x47]

theorem run1_len : ∀ (l : List Bool) (a : Int), (run1 a l).length = l.length
  | [], a => rfl
  | b :: r, a => by simp [run1, run1_len r]
theorem run1_bd : ∀ (l : List Bool) (a : Int), 0 ≤ a → ∀ x ∈ run1 a l, 0 ≤ x ∧ x ≤ a + l.length
  | [], a, h, x, hx => by simp [run1] at hx
  | b :: r, a, h, x, hx => by
    simp only [run1, List.mem_cons] at hx
    simp only [List.length_cons]
    rcases hx with rfl | hx
    · split <;> omega
    · have := run1_bd r _ (by split <;> omega) x hx
      split at this <;> omega

/-- The ducking gains of the first loop. -/
def duck1 (lev fl rel : Int) (l : List Int) : List Int := (run1 1200 (l.map (onS lev))).map (rampS fl rel)
/-- How far the last sample at which the voice is on lies behind. -/
def lastS (a : Int) : List Bool → Int
  | [] => a
  | b :: r => lastS (if b = true then 0 else a + 1) r
theorem run1_snoc : ∀ (l : List Bool) (a : Int) (b : Bool), run1 a (l ++ [b]) = run1 a l ++ [if b = true then 0 else lastS a l + 1]
  | [], a, b => rfl
  | c :: r, a, b => by rw [List.cons_append, run1, run1_snoc r, run1, lastS]; rfl
theorem lastS_snoc : ∀ (l : List Bool) (a : Int) (b : Bool), lastS a (l ++ [b]) = if b = true then 0 else lastS a l + 1
  | [], a, b => rfl
  | c :: r, a, b => by rw [List.cons_append, lastS, lastS_snoc r, lastS]
theorem lastS_bd : ∀ (l : List Bool) (a : Int), 0 ≤ a → 0 ≤ lastS a l ∧ lastS a l ≤ a + l.length
  | [], a, h => by simp [lastS]; omega
  | b :: r, a, h => by
    have := lastS_bd r (if b = true then 0 else a + 1) (by split <;> omega)
    simp only [lastS, List.length_cons]
    split at this <;> simp_all <;> omega

theorem duck_loop {h : Heap} {v : AV} {l : List Int} (hv : PureSl 1 v (ints l)) (hl : l.length ≤ 600) (hx : ∀ x ∈ l, -32768 ≤ x ∧ x ≤ 32767) (lev fl att rel : Int) (hlev : 1 ≤ lev ∧ lev ≤ 32768) (hfl : 0 ≤ fl ∧ fl ≤ 1024) (hrel : 1 ≤ rel ∧ rel ≤ 300) (b0 : Nat × Blk) (b4 : Nat × Blk) (a14 : AV) (d : Nat) :
    ∀ (k : Nat) (out : List Int), d = l.length - k → k ≤ l.length → out.length = l.length → out.take k = (duck1 lev fl rel l).take k →
    runC lib ⟨h.length, h.length, 5, none⟩ (.loop b27_0) ([(5, .cptr [v]), (6, .cptr [.int .i64 lev]), (10, .nilSl), (11, .int .i64 0), (12, .int .i64 1200), (14, a14), (15, .fn 48 [.cptr [.int .i64 fl], .cptr [.int .i64 rel]]), (16, .bptr (h.length + 3) 1 0), (17, .bptr (h.length + 1) 1 0), (55, .int .i64 l.length), (56, .int .i64 k)],
      h ++ [b0, (1, .box [.int .i64 (lastS 1200 ((l.take k).map (onS lev)))]), (1, .arr 1 (ints out)), (1, .box [.ref (h.length + 2) 1 1 0 l.length l.length]), b4]) =
      some (.exit 0, ([(5, .cptr [v]), (6, .cptr [.int .i64 lev]), (10, .nilSl), (11, .int .i64 0), (12, .int .i64 1200), (14, a14), (16, .bptr (h.length + 3) 1 0), (17, .bptr (h.length + 1) 1 0)],
      h ++ [b0, (1, .box [.int .i64 (lastS 1200 (l.map (onS lev)))]), (1, .arr 1 (ints (duck1 lev fl rel l))), (1, .box [.ref (h.length + 2) 1 1 0 l.length l.length]), b4])) := by
  have hdl : (duck1 lev fl rel l).length = l.length := by simp [duck1, run1_len]
  induction d with
  | zero =>
    intro k out hd hk ho ht
    have : k = l.length := by omega
    subst this
    rw [List.take_of_length_le (by omega), List.take_of_length_le (by omega)] at ht
    subst ht
    rw [List.take_length, w_loop]
    simp (maxSteps := 1000000) (disch := omega) only [go_sem, ↓reduceIte, Nat.reduceEqDiff, Nat.reduceAdd, Nat.reduceSub, Nat.reduceMul, Nat.reduceLT, Nat.reduceLeDiff, reduceCtorEq, Nat.succ_ne_self, ne_eq, not_true_eq_false, not_false_eq_true, and_self, and_true, true_and, Nat.zero_add, Nat.sub_zero, Nat.zero_mul, Nat.one_mul, Nat.le_refl, List.getElem?_cons_zero, List.set_cons_zero, Int.reduceToNat, Int.reduceLT, Int.reduceLE, Int.reduceAdd, Int.reduceSub, Int.reduceMul, Int.reduceEq, Int.reduceNe, Int.toNat_natCast, Int.natCast_zero, wrap_id, wrapu_id, wrapb_id, idx_ok, bin_quo, bin_rem, tdiv_id, tmod_id, ps_bptr, Int.lt_irrefl]
  | succ d ih =>
    intro k out hd hk ho ht
    have hk' : k < l.length := by omega
    have c1 : (k : Int) < l.length := by omega
    have e3 : sidx 1 v (.int .i64 k) = some k := by rw [sidx_sl (hv.sl h) (by omega) (by simp; omega)]; simp
    have e4 := fun off fr => pc_iptr (off := off) ((hv.sl h).elems fr) (show k < (ints l).length by simp; omega)
    simp only [ints_get] at e4
    have hb := hx _ (List.getElem_mem hk')
    obtain ⟨ls, hls⟩ : ∃ ls, ls = lastS 1200 ((l.take k).map (onS lev)) := ⟨_, rfl⟩
    have hlb := lastS_bd ((l.take k).map (onS lev)) 1200 (by omega)
    rw [← hls] at hlb
    simp only [List.length_map, List.length_take] at hlb
    have hlast : lastS 1200 ((l.take (k + 1)).map (onS lev)) = if onS lev l[k] = true then 0 else ls + 1 := by
      rw [List.take_succ_eq_append_getElem hk', List.map_append, List.map_singleton, lastS_snoc, ← hls]
    have hdk : (duck1 lev fl rel l)[k]'(by omega) = rampS fl rel (if onS lev l[k] = true then 0 else ls + 1) := by
      have e : l.map (onS lev) = (l.take k).map (onS lev) ++ onS lev l[k] :: (l.drop (k + 1)).map (onS lev) := by
        rw [← List.map_cons, ← List.drop_eq_getElem_cons hk', ← List.map_append, List.take_append_drop]
      have e2 : ∀ (p q : List Bool) (a : Int), run1 a (p ++ q) = run1 a p ++ run1 (lastS a p) q := by
        intro p
        induction p with
        | nil => intro q a; rfl
        | cons c p ihp => intro q a; rw [List.cons_append, run1, ihp, run1, lastS]; rfl
      simp only [duck1, List.getElem_map]
      congr 1
      simp only [e, e2, run1]
      rw [List.getElem_append_right (by simp [run1_len]; omega)]
      simp [run1_len, hls]
      have hz : k - min k l.length = 0 := by omega
      simp only [hz, List.getElem_cons_zero]
    obtain ⟨x, hxx⟩ : ∃ x, x = l[k] := ⟨_, rfl⟩
    rw [← hxx] at e4 hb hlast hdk
    have hout : ∀ y, (out.set k y).length = l.length := fun y => by simp [ho]
    have htk : (out.set k (rampS fl rel (if onS lev x = true then 0 else ls + 1))).take (k + 1) = (duck1 lev fl rel l).take (k + 1) := by
      rw [List.take_succ_eq_append_getElem (by simp; omega), List.take_succ_eq_append_getElem (by omega), hdk, List.getElem_set_self, List.take_set_of_le (Nat.le_refl _), ht]
    have e := ih (k + 1) (out.set k (rampS fl rel (if onS lev x = true then 0 else ls + 1))) (by omega) (by omega) (hout _) htk
    rw [cast1, hlast] at e
    have f3 : sidx 1 (.ref (h.length + 2) 1 1 0 l.length l.length) (.int .i64 k) = some k := by simp [sidx, zok, slen, idx]; omega
    obtain ⟨n, hn⟩ : ∃ n, n = (if onS lev x = true then 0 else ls + 1) := ⟨_, rfl⟩
    rw [← hls]
    have e5 := fun n => ps_iptr_fr (lo := h.length) (ns := 5) (h := h) (fr := [b0, (1, .box [.int .i64 n]), (1, .arr 1 (out.map (.int .i64))), (1, .box [.ref (h.length + 2) 1 1 0 l.length l.length]), b4]) (s := 2) (ver := 1) (o := 0) (len := l.length) (fill := l.length) (i := k) (k := .i64) (l := out) (n := rampS fl rel n) rfl ho (by omega) hk' (by omega)
    simp only [Nat.zero_add] at e5
    simp only [ints] at e ⊢
    rw [w_loop]
    cases hon : onS lev x with
    | true =>
      have c2 : lev ≤ max x (-x) := by simpa [onS] using hon
      simp only [hon, if_true] at e
      simp (maxSteps := 1000000) (disch := omega) only [go_sem, ↓reduceIte, Nat.reduceEqDiff, Nat.reduceAdd, Nat.reduceSub, Nat.reduceMul, Nat.reduceLT, Nat.reduceLeDiff, reduceCtorEq, Nat.succ_ne_self, ne_eq, not_true_eq_false, not_false_eq_true, and_self, and_true, true_and, Nat.zero_add, Nat.sub_zero, Nat.zero_mul, Nat.one_mul, Nat.le_refl, List.getElem?_cons_zero, List.set_cons_zero, Int.reduceToNat, Int.reduceLT, Int.reduceLE, Int.reduceAdd, Int.reduceSub, Int.reduceMul, Int.reduceEq, Int.reduceNe, Int.toNat_natCast, Int.natCast_zero, wrap_id, wrapu_id, wrapb_id, idx_ok, bin_quo, bin_rem, tdiv_id, tmod_id, ps_bptr, c1, e3, e4, f3, c2, f48_run, e5, e]
    | false =>
      have c2 : ¬ lev ≤ max x (-x) := by simpa [onS] using hon
      simp only [hon, Bool.false_eq_true, if_false] at e
      simp (maxSteps := 1000000) (disch := omega) only [go_sem, ↓reduceIte, Nat.reduceEqDiff, Nat.reduceAdd, Nat.reduceSub, Nat.reduceMul, Nat.reduceLT, Nat.reduceLeDiff, reduceCtorEq, Nat.succ_ne_self, ne_eq, not_true_eq_false, not_false_eq_true, and_self, and_true, true_and, Nat.zero_add, Nat.sub_zero, Nat.zero_mul, Nat.one_mul, Nat.le_refl, List.getElem?_cons_zero, List.set_cons_zero, Int.reduceToNat, Int.reduceLT, Int.reduceLE, Int.reduceAdd, Int.reduceSub, Int.reduceMul, Int.reduceEq, Int.reduceNe, Int.toNat_natCast, Int.natCast_zero, wrap_id, wrapu_id, wrapb_id, idx_ok, bin_quo, bin_rem, tdiv_id, tmod_id, ps_bptr, c1, e3, e4, f3, c2, f48_run, e5, e]
end Go.VI.Mix
namespace Go.VI.Mix
set_option linter.unusedVariables false
set_option linter.unusedSimpArgs false

theorem run1_get : ∀ (bs : List Bool) (a : Int) (j : Nat) (hj : j < (run1 a bs).length), (run1 a bs)[j] = lastS a (bs.take (j + 1))
  | [], a, j, hj => by simp [run1] at hj
  | b :: r, a, 0, hj => by simp [run1, lastS]
  | b :: r, a, j + 1, hj => by
    simp only [run1, List.getElem_cons_succ, List.take_succ_cons, lastS]
    exact run1_get r _ j (by simpa [run1] using hj)
/-- The ducking gain at a sample. -/
def duckAt (lev fl att rel : Int) (l : List Int) (i : Nat) : Int :=
  min (rampS fl rel (lastS 1200 ((l.take (i + 1)).map (onS lev)))) (rampS fl att (lastS 1200 ((l.drop i).map (onS lev)).reverse))
def duckS (lev fl att rel : Int) (l : List Int) : List Int := (List.range l.length).map (duckAt lev fl att rel l)
theorem duck1_get (lev fl rel : Int) (l : List Int) (i : Nat) (hi : i < (duck1 lev fl rel l).length) : (duck1 lev fl rel l)[i] = rampS fl rel (lastS 1200 ((l.take (i + 1)).map (onS lev))) := by
  simp only [duck1, List.getElem_map]
  rw [run1_get, ← List.map_take]
theorem duckS_len (lev fl att rel : Int) (l : List Int) : (duckS lev fl att rel l).length = l.length := by simp [duckS]

def duckFR (h : Heap) (n : Nat) (D : Rcd) (st : RS) (last : Int) (out : List Int) (fl att : Int) : Heap :=
  [(1, .rcd D st), (1, .box [.int .i64 last]), (1, .arr 1 (out.map (.int .i64))), (1, .box [.ref (h.length + 2) 1 1 0 n n]), (1, .box [.fn 48 [.cptr [.int .i64 fl], .cptr [.int .i64 att]]])]

def duckE (h : Heap) (v : AV) (lev : Int) : Env :=
  [(5, .cptr [v]), (6, .cptr [.int .i64 lev]), (10, .nilSl), (11, .int .i64 0), (14, .bptr (h.length + 4) 1 0), (16, .bptr (h.length + 3) 1 0), (17, .bptr (h.length + 1) 1 0), (82, .fn 56 [.cptr [v]])]

theorem duck_round {h : Heap} {v : AV} {l : List Int} (hv : PureSl 1 v (ints l)) (hl : l.length ≤ 600) (lev fl att : Int) (hfl : 0 ≤ fl ∧ fl ≤ 1024) (hatt : 1 ≤ att ∧ att ≤ 300) (last : Int) (hlast : 0 ≤ last ∧ last ≤ 5000) (out : List Int) (ho : out.length = l.length) (k : Nat) (hk : k < l.length) (x y : Int) (hx : l[k] = x) (hy : out[k]'(by omega) = y) (hxb : -32768 ≤ x ∧ x ≤ 32767) (lo : Nat) (hlo : lo ≤ h.length) (D : Rcd) (hD : D = ⟨0, h.length, h.length, 5, duckE h v lev⟩) (ncx : Nat) :
    yieldv (run lib) ⟨lo, ncx, 0, none⟩ (h.length + 0) 1 [.int .i64 k, .int .i64 x] (h ++ duckFR h l.length D .ready last out fl att) =
      some (.bool true, h ++ duckFR h l.length D .ready (if onS lev x = true then 0 else last + 1) (out.set k (min y (rampS fl att (if onS lev x = true then 0 else last + 1)))) fl att) := by
  subst hD
  obtain ⟨D, hD⟩ : ∃ D : Rcd, D = ⟨0, h.length, h.length, 5, duckE h v lev⟩ := ⟨_, rfl⟩
  rw [← hD]
  have hg : (h ++ duckFR h l.length D .ready last out fl att)[h.length + 0]? = some (1, .rcd ⟨0, h.length, h.length, 5, duckE h v lev⟩ .ready) := by rw [get_fr, ← hD]; rfl
  obtain ⟨n, hn⟩ : ∃ n, n = (if onS lev x = true then 0 else last + 1) := ⟨_, rfl⟩
  have hnb : 0 ≤ n ∧ n ≤ 5001 := by rw [hn]; split <;> omega
  have e3 : sidx 1 v (.int .i64 k) = some k := by rw [sidx_sl (hv.sl h) (by omega) (by simp; omega)]; simp
  have e4 := fun off fr => pc_iptr (off := off) ((hv.sl h).elems fr) (show k < (ints l).length by simp; omega)
  simp only [ints_get, hx] at e4
  have f3 : sidx 1 (.ref (h.length + 2) 1 1 0 l.length l.length) (.int .i64 k) = some k := by simp [sidx, zok, slen, idx]; omega
  have so := Sl.refAll (h := h) (fr := duckFR h l.length D .busy n out fl att) (s := 2) (ver := 1) (z := 1) (es := out.map (.int .i64)) rfl
  simp only [List.length_map, ho] at so
  have f4 := fun off => pc_iptr (off := off) so.elems0 (show k < (out.map (AV.int .i64)).length by simp; omega)
  simp only [List.getElem_map, hy] at f4
  have e5 := fun m => ps_iptr (cx := ⟨h.length, h.length, 5, some (h.length + 0, 1)⟩) (h := h ++ duckFR h l.length D .busy n out fl att) (id := h.length + 2) (ver := 1) (o := 0) (len := l.length) (fill := l.length) (i := k) (k := .i64) (l := out) (n := m) (by rw [get_fr]; rfl) ho (by omega) hk (by simp only []; omega)
  simp only [Nat.zero_add, set_fr] at e5
  have hb : ∃ env2, runC lib ⟨h.length, h.length, 5, some (h.length + 0, 1)⟩ r0.body ([(5, .cptr [v]), (6, .cptr [.int .i64 lev]), (14, .bptr (h.length + 4) 1 0), (16, .bptr (h.length + 3) 1 0), (17, .bptr (h.length + 1) 1 0), (19, .int .i64 k)], (h ++ duckFR h l.length D .ready last out fl att).set (h.length + 0) (1, .rcd D .busy)) =
      some (.norm, (env2, h ++ duckFR h l.length D .busy n (out.set k (min y (rampS fl att n))) fl att)) := by
    refine ⟨[], ?_⟩
    rw [set_fr]
    simp only [duckFR, List.set_cons_succ, List.set_cons_zero] at f4 e5 ⊢
    cases hon : onS lev x with
    | true =>
      have c2 : lev ≤ max x (-x) := by simpa [onS] using hon
      simp only [hon, if_true] at hn
      subst hn
      simp (maxSteps := 1000000) (disch := omega) only [go_sem, ↓reduceIte, Nat.reduceEqDiff, Nat.reduceAdd, Nat.reduceSub, Nat.reduceMul, Nat.reduceLT, Nat.reduceLeDiff, reduceCtorEq, Nat.succ_ne_self, ne_eq, not_true_eq_false, not_false_eq_true, and_self, and_true, true_and, Nat.zero_add, Nat.sub_zero, Nat.zero_mul, Nat.one_mul, Nat.le_refl, List.getElem?_cons_zero, List.set_cons_zero, Int.reduceToNat, Int.reduceLT, Int.reduceLE, Int.reduceAdd, Int.reduceSub, Int.reduceMul, Int.reduceEq, Int.reduceNe, Int.toNat_natCast, Int.natCast_zero, wrap_id, wrapu_id, wrapb_id, idx_ok, bin_quo, bin_rem, tdiv_id, tmod_id, ps_bptr, r0, ps_bptr_int, e3, e4, f3, f4, c2, f48_run, e5]
    | false =>
      have c2 : ¬ lev ≤ max x (-x) := by simpa [onS] using hon
      simp only [hon, Bool.false_eq_true, if_false] at hn
      rw [hn] at f4 e5 ⊢
      simp (maxSteps := 1000000) (disch := omega) only [go_sem, ↓reduceIte, Nat.reduceEqDiff, Nat.reduceAdd, Nat.reduceSub, Nat.reduceMul, Nat.reduceLT, Nat.reduceLeDiff, reduceCtorEq, Nat.succ_ne_self, ne_eq, not_true_eq_false, not_false_eq_true, and_self, and_true, true_and, Nat.zero_add, Nat.sub_zero, Nat.zero_mul, Nat.one_mul, Nat.le_refl, List.getElem?_cons_zero, List.set_cons_zero, Int.reduceToNat, Int.reduceLT, Int.reduceLE, Int.reduceAdd, Int.reduceSub, Int.reduceMul, Int.reduceEq, Int.reduceNe, Int.toNat_natCast, Int.natCast_zero, wrap_id, wrapu_id, wrapb_id, idx_ok, bin_quo, bin_rem, tdiv_id, tmod_id, ps_bptr, r0, ps_bptr_int, e3, e4, f3, f4, c2, f48_run, e5]
  obtain ⟨env2, hb⟩ := hb
  have ha : runC lib ⟨h.length, h.length, 5, some (h.length + 0, 1)⟩ r0.asg ((r0.ps.zip [.int .i64 k, .int .i64 x]).foldl (fun e p => e.set p.1 p.2) (duckE h v lev), h ++ duckFR h l.length D .ready last out fl att) =
      some (.norm, ([(5, .cptr [v]), (6, .cptr [.int .i64 lev]), (14, .bptr (h.length + 4) 1 0), (16, .bptr (h.length + 3) 1 0), (17, .bptr (h.length + 1) 1 0), (19, .int .i64 k)], h ++ duckFR h l.length D .ready last out fl att)) := by
    simp (maxSteps := 1000000) (disch := omega) only [go_sem, ↓reduceIte, Nat.reduceEqDiff, Nat.reduceAdd, Nat.reduceSub, Nat.reduceMul, Nat.reduceLT, Nat.reduceLeDiff, reduceCtorEq, Nat.succ_ne_self, ne_eq, not_true_eq_false, not_false_eq_true, and_self, and_true, true_and, Nat.zero_add, Nat.sub_zero, Nat.zero_mul, Nat.one_mul, Nat.le_refl, List.getElem?_cons_zero, List.set_cons_zero, Int.reduceToNat, Int.reduceLT, Int.reduceLE, Int.reduceAdd, Int.reduceSub, Int.reduceMul, Int.reduceEq, Int.reduceNe, Int.toNat_natCast, Int.natCast_zero, wrap_id, wrapu_id, wrapb_id, idx_ok, bin_quo, bin_rem, tdiv_id, tmod_id, ps_bptr, r0, duckE, List.zip_cons_cons, List.zip_nil_right, List.foldl_cons, List.foldl_nil]
  have := yield_round (L := lib) (cx := ⟨lo, ncx, 0, none⟩) hg hlo (by omega) (by omega) (by simp [AV.closedL, AV.closed]) (x := r0) rfl rfl ha (by rw [get_fr]; rfl) hb (by rw [get_fr]; rfl)
  rw [this, set_fr, ← hn]
  rfl
end Go.VI.Mix
namespace Go.VI.Mix
set_option linter.unusedVariables false
set_option linter.unusedSimpArgs false

theorem duck_back {h : Heap} {v : AV} {l : List Int} (hv : PureSl 1 v (ints l)) (hl : l.length ≤ 600) (hx : ∀ x ∈ l, -32768 ≤ x ∧ x ≤ 32767) (lev fl att rel : Int) (hfl : 0 ≤ fl ∧ fl ≤ 1024) (hatt : 1 ≤ att ∧ att ≤ 300) (D : Rcd) (hD : D = ⟨0, h.length, h.length, 5, duckE h v lev⟩) (nb : Nat) :
    ∀ (k : Nat) (j : Int), j = (k : Int) - 1 → k ≤ l.length →
    runC lib ⟨h.length, nb, 0, none⟩ (.loop b56_0) ([(0, .yld (h.length + 0) 1), (1, .cptr [v]), (3, .int .i64 j)], h ++ duckFR h l.length D .ready (lastS 1200 ((l.drop k).map (onS lev)).reverse) ((duck1 lev fl rel l).take k ++ (duckS lev fl att rel l).drop k) fl att) =
      some (.exit 0, ([], h ++ duckFR h l.length D .ready (lastS 1200 (l.map (onS lev)).reverse) (duckS lev fl att rel l) fl att)) := by
  have hdl : (duck1 lev fl rel l).length = l.length := by simp [duck1, run1_len]
  have hsl := duckS_len lev fl att rel l
  intro k
  induction k with
  | zero =>
    intro j hj hk
    have c1 : ¬ (0 : Int) ≤ j := by omega
    rw [w_loop]
    simp only [List.take_zero, List.drop_zero, List.nil_append]
    simp (maxSteps := 1000000) (disch := omega) only [go_sem, ↓reduceIte, Nat.reduceEqDiff, Nat.reduceAdd, Nat.reduceSub, Nat.reduceMul, Nat.reduceLT, Nat.reduceLeDiff, reduceCtorEq, Nat.succ_ne_self, ne_eq, not_true_eq_false, not_false_eq_true, and_self, and_true, true_and, Nat.zero_add, Nat.sub_zero, Nat.zero_mul, Nat.one_mul, Nat.le_refl, List.getElem?_cons_zero, List.set_cons_zero, Int.reduceToNat, Int.reduceLT, Int.reduceLE, Int.reduceAdd, Int.reduceSub, Int.reduceMul, Int.reduceEq, Int.reduceNe, Int.toNat_natCast, Int.natCast_zero, wrap_id, wrapu_id, wrapb_id, idx_ok, bin_quo, bin_rem, tdiv_id, tmod_id, ps_bptr, c1]
  | succ k ih =>
    intro j hj hk
    obtain rfl : j = (k : Int) := by omega
    have hk' : k < l.length := by omega
    have c1 : (0 : Int) ≤ (k : Int) := by omega
    have e3 : sidx 1 v (.int .i64 k) = some k := by rw [sidx_sl (hv.sl h) (by omega) (by simp; omega)]; simp
    have e4 := fun off H => pc_iptr (off := off) ((hv.sl H).elems0) (show k < (ints l).length by simp; omega)
    simp only [ints_get] at e4
    have hb := hx _ (List.getElem_mem hk')
    have hlb := lastS_bd (((l.drop (k + 1)).map (onS lev)).reverse) 1200 (by omega)
    simp only [List.length_reverse, List.length_map, List.length_drop] at hlb
    have hy : ((duck1 lev fl rel l).take (k + 1) ++ (duckS lev fl att rel l).drop (k + 1))[k]'(by simp; omega) = rampS fl rel (lastS 1200 ((l.take (k + 1)).map (onS lev))) := by
      rw [List.getElem_append_left (by simp; omega), List.getElem_take, duck1_get]
    have e := duck_round (h := h) hv hl lev fl att hfl hatt (lastS 1200 (((l.drop (k + 1)).map (onS lev)).reverse)) (by omega) ((duck1 lev fl rel l).take (k + 1) ++ (duckS lev fl att rel l).drop (k + 1)) (by simp; omega) k hk' l[k] _ rfl hy hb h.length (Nat.le_refl _) D hD nb
    have hn : (if onS lev l[k] = true then (0 : Int) else lastS 1200 (((l.drop (k + 1)).map (onS lev)).reverse) + 1) = lastS 1200 ((l.drop k).map (onS lev)).reverse := by
      rw [List.drop_eq_getElem_cons hk', List.map_cons, List.reverse_cons, lastS_snoc]
    rw [hn] at e
    have hs : ((duck1 lev fl rel l).take (k + 1) ++ (duckS lev fl att rel l).drop (k + 1)).set k (min (rampS fl rel (lastS 1200 ((l.take (k + 1)).map (onS lev)))) (rampS fl att (lastS 1200 ((l.drop k).map (onS lev)).reverse))) = (duck1 lev fl rel l).take k ++ (duckS lev fl att rel l).drop k := by
      rw [List.take_succ_eq_append_getElem (by omega), List.append_assoc, List.set_append_right _ _ (by simp; omega)]
      have hz : k - ((duck1 lev fl rel l).take k).length = 0 := by simp; omega
      have hc := List.drop_eq_getElem_cons (l := duckS lev fl att rel l) (i := k) (by omega)
      have hg : (duckS lev fl att rel l)[k]'(by omega) = duckAt lev fl att rel l k := by simp [duckS]
      rw [hz, List.singleton_append, List.set_cons_zero, hc, hg, duckAt, List.map_drop]
    rw [hs] at e
    have ih' := ih ((k : Int) - 1) rfl (by omega)
    rw [w_loop]
    simp (maxSteps := 1000000) (disch := omega) only [go_sem, ↓reduceIte, Nat.reduceEqDiff, Nat.reduceAdd, Nat.reduceSub, Nat.reduceMul, Nat.reduceLT, Nat.reduceLeDiff, reduceCtorEq, Nat.succ_ne_self, ne_eq, not_true_eq_false, not_false_eq_true, and_self, and_true, true_and, Nat.zero_add, Nat.sub_zero, Nat.zero_mul, Nat.one_mul, Nat.le_refl, List.getElem?_cons_zero, List.set_cons_zero, Int.reduceToNat, Int.reduceLT, Int.reduceLE, Int.reduceAdd, Int.reduceSub, Int.reduceMul, Int.reduceEq, Int.reduceNe, Int.toNat_natCast, Int.natCast_zero, wrap_id, wrapu_id, wrapb_id, idx_ok, bin_quo, bin_rem, tdiv_id, tmod_id, ps_bptr, c1, e3, e4, e, ih']
theorem _root_.Go.VI.PureSl.frz2 {z : Nat} {v : AV} {es : List AV} (p : PureSl z v es) : ∃ v', (∀ b k h, frz b k v h = some (v', h)) ∧ (∀ b k h, frz b k v' h = some (v', h)) ∧ v.val = true ∧ v'.val = true ∧ PureSl z v' es ∧ v'.cells = [v'] := by
  rcases p with ⟨rfl, rfl⟩ | ⟨z', rfl | rfl, hz⟩
  · exact ⟨.lst 0 [], fun b k h => by simp [VI.frz], fun b k h => by simp [VI.frz], rfl, rfl, .inr ⟨0, .inl rfl, .inr rfl⟩, rfl⟩
  · exact ⟨.lst z' es, fun b k h => by simp [VI.frz], fun b k h => by simp [VI.frz], rfl, rfl, .inr ⟨z', .inl rfl, hz⟩, rfl⟩
  · exact ⟨.lsf z' es, fun b k h => by simp [VI.frz], fun b k h => by simp [VI.frz], rfl, rfl, .inr ⟨z', .inr rfl, hz⟩, rfl⟩
theorem f49_run (v : AV) (hf : ∀ b k h, frz b k v h = some (v, h)) (hv : v.val = true) (hc : v.cells = [v]) (h : Heap) (lo : Nat) : (run lib).fn 49 [v] h lo = some (.fn 56 [.cptr [v]], h) := by
  rw [run_closed (x := x49) rfl rfl rfl rfl]
  simp (maxSteps := 1000000) (disch := omega) only [go_sem, ↓reduceIte, Nat.reduceEqDiff, Nat.reduceAdd, Nat.reduceSub, Nat.reduceMul, Nat.reduceLT, Nat.reduceLeDiff, reduceCtorEq, Nat.succ_ne_self, ne_eq, not_true_eq_false, not_false_eq_true, and_self, and_true, true_and, Nat.zero_add, Nat.sub_zero, Nat.zero_mul, Nat.one_mul, Nat.le_refl, List.getElem?_cons_zero, List.set_cons_zero, Int.reduceToNat, Int.reduceLT, Int.reduceLE, Int.reduceAdd, Int.reduceSub, Int.reduceMul, Int.reduceEq, Int.reduceNe, Int.toNat_natCast, Int.natCast_zero, wrap_id, wrapu_id, wrapb_id, idx_ok, bin_quo, bin_rem, tdiv_id, tmod_id, ps_bptr, x49, hf, hv, hc]
theorem f56_run {h : Heap} {v : AV} {l : List Int} (hv : PureSl 1 v (ints l)) (hl : l.length ≤ 600) (hx : ∀ x ∈ l, -32768 ≤ x ∧ x ≤ 32767) (lev fl att rel : Int) (hfl : 0 ≤ fl ∧ fl ≤ 1024) (hatt : 1 ≤ att ∧ att ≤ 300) (D : Rcd) (hD : D = ⟨0, h.length, h.length, 5, duckE h v lev⟩) :
    (run lib).fn 56 [.yld (h.length + 0) 1, .cptr [v]] (h ++ duckFR h l.length D .ready 1200 (duck1 lev fl rel l) fl att) h.length =
      some (.tuple [], h ++ duckFR h l.length D .ready (lastS 1200 (l.map (onS lev)).reverse) (duckS lev fl att rel l) fl att) := by
  have hdl : (duck1 lev fl rel l).length = l.length := by simp [duck1, run1_len]
  have hsl := duckS_len lev fl att rel l
  have e := duck_back hv hl hx lev fl att rel hfl hatt D hD (h ++ duckFR h l.length D .ready 1200 (duck1 lev fl rel l) fl att).length l.length _ rfl (by omega)
  rw [List.take_of_length_le (by omega), List.drop_of_length_le (by omega), List.drop_of_length_le (by omega), List.append_nil, List.map_nil, List.reverse_nil, lastS] at e
  have hlen := (hv.sl h).len
  simp only [ints_len] at hlen
  rw [run_open (x := x56) rfl rfl rfl rfl (by simp)]
  have hr : ∀ (H : Heap), H ++ List.replicate x56.ns (0, Blk.dead) = H := fun H => by simp [x56]
  rw [hr]
  simp (maxSteps := 1000000) (disch := omega) only [go_sem, ↓reduceIte, Nat.reduceEqDiff, Nat.reduceAdd, Nat.reduceSub, Nat.reduceMul, Nat.reduceLT, Nat.reduceLeDiff, reduceCtorEq, Nat.succ_ne_self, ne_eq, not_true_eq_false, not_false_eq_true, and_self, and_true, true_and, Nat.zero_add, Nat.sub_zero, Nat.zero_mul, Nat.one_mul, Nat.le_refl, List.getElem?_cons_zero, List.set_cons_zero, Int.reduceToNat, Int.reduceLT, Int.reduceLE, Int.reduceAdd, Int.reduceSub, Int.reduceMul, Int.reduceEq, Int.reduceNe, Int.toNat_natCast, Int.natCast_zero, wrap_id, wrapu_id, wrapb_id, idx_ok, bin_quo, bin_rem, tdiv_id, tmod_id, ps_bptr, x56, lenv_sl hlen, e]
  rw [List.take_of_length_le (by simp [duckFR])]
end Go.VI.Mix
namespace Go.VI.Mix
set_option linter.unusedVariables false
set_option linter.unusedSimpArgs false

def inB (n a b : Int) : Bool := decide (a ≤ n) && decide (n ≤ b)
def duckOk (l : List Int) (lev fl att rel : Int) : Bool := soundB l && inB lev 1 32768 && inB fl 0 1024 && inB att 1 300 && inB rel 1 300
theorem inB_iff {n a b : Int} : inB n a b = true ↔ a ≤ n ∧ n ≤ b := by simp [inB]
theorem soundB_le {l : List Int} (h : soundB l = true) : l.length ≤ 600 := by
  simp only [soundB, Bool.and_eq_true, decide_eq_true_eq] at h
  omega
theorem soundB_in {l : List Int} (h : soundB l = true) : ∀ x ∈ l, -32768 ≤ x ∧ x ≤ 32767 := by
  simp only [soundB, okS, Bool.and_eq_true, decide_eq_true_eq, List.all_eq_true] at h
  exact h.2
theorem duck_enter {h : Heap} {v : AV} {l : List Int} (hv : PureSl 1 v (ints l)) (hl : l.length ≤ 9223372036854775807) (lev fl att rel : Int) (lo : Nat) :
    enter x27 (runC lib) [v, .int .i64 lev, .int .i64 fl, .int .i64 att, .int .i64 rel] h lo =
      some (if duckOk l lev fl att rel = true then .tuple [.own 1 (ints (duckS lev fl att rel l)), .int .i64 0] else .tuple [.own 0 [], .int .i64 170], h) := by
  obtain ⟨v', f1, f5, f2, f6, f3, f4⟩ := hv.frz2
  have e1 := fun fr lo => sound_run (f3.sl (h ++ fr)) hl lo
  have e2 : ∀ n a b (hh : Heap) lo, (run lib).fn 35 [.int .i64 n, .int .i64 a, .int .i64 b] hh lo = some (.bool (inB n a b), hh) := fun n a b hh lo => between_run n a b hh lo
  rw [enter_closed rfl rfl]
  unfold duckOk
  cases h1 : soundB l with
  | false => rw [h1] at e1; simp (maxSteps := 1000000) (disch := omega) only [go_sem, ↓reduceIte, Nat.reduceEqDiff, Nat.reduceAdd, Nat.reduceSub, Nat.reduceMul, Nat.reduceLT, Nat.reduceLeDiff, reduceCtorEq, Nat.succ_ne_self, ne_eq, not_true_eq_false, not_false_eq_true, and_self, and_true, true_and, Nat.zero_add, Nat.sub_zero, Nat.zero_mul, Nat.one_mul, Nat.le_refl, List.getElem?_cons_zero, List.set_cons_zero, Int.reduceToNat, Int.reduceLT, Int.reduceLE, Int.reduceAdd, Int.reduceSub, Int.reduceMul, Int.reduceEq, Int.reduceNe, Int.toNat_natCast, Int.natCast_zero, wrap_id, wrapu_id, wrapb_id, idx_ok, bin_quo, bin_rem, tdiv_id, tmod_id, ps_bptr, x27, f1, f2, f4, e1]
  | true =>
  rw [h1] at e1
  cases h2 : inB lev 1 32768 with
  | false => simp (maxSteps := 1000000) (disch := omega) only [go_sem, ↓reduceIte, Nat.reduceEqDiff, Nat.reduceAdd, Nat.reduceSub, Nat.reduceMul, Nat.reduceLT, Nat.reduceLeDiff, reduceCtorEq, Nat.succ_ne_self, ne_eq, not_true_eq_false, not_false_eq_true, and_self, and_true, true_and, Nat.zero_add, Nat.sub_zero, Nat.zero_mul, Nat.one_mul, Nat.le_refl, List.getElem?_cons_zero, List.set_cons_zero, Int.reduceToNat, Int.reduceLT, Int.reduceLE, Int.reduceAdd, Int.reduceSub, Int.reduceMul, Int.reduceEq, Int.reduceNe, Int.toNat_natCast, Int.natCast_zero, wrap_id, wrapu_id, wrapb_id, idx_ok, bin_quo, bin_rem, tdiv_id, tmod_id, ps_bptr, x27, f1, f2, f4, e1, e2, h2]
  | true =>
  cases h3 : inB fl 0 1024 with
  | false => simp (maxSteps := 1000000) (disch := omega) only [go_sem, ↓reduceIte, Nat.reduceEqDiff, Nat.reduceAdd, Nat.reduceSub, Nat.reduceMul, Nat.reduceLT, Nat.reduceLeDiff, reduceCtorEq, Nat.succ_ne_self, ne_eq, not_true_eq_false, not_false_eq_true, and_self, and_true, true_and, Nat.zero_add, Nat.sub_zero, Nat.zero_mul, Nat.one_mul, Nat.le_refl, List.getElem?_cons_zero, List.set_cons_zero, Int.reduceToNat, Int.reduceLT, Int.reduceLE, Int.reduceAdd, Int.reduceSub, Int.reduceMul, Int.reduceEq, Int.reduceNe, Int.toNat_natCast, Int.natCast_zero, wrap_id, wrapu_id, wrapb_id, idx_ok, bin_quo, bin_rem, tdiv_id, tmod_id, ps_bptr, x27, f1, f2, f4, e1, e2, h2, h3]
  | true =>
  cases h4 : inB att 1 300 with
  | false => simp (maxSteps := 1000000) (disch := omega) only [go_sem, ↓reduceIte, Nat.reduceEqDiff, Nat.reduceAdd, Nat.reduceSub, Nat.reduceMul, Nat.reduceLT, Nat.reduceLeDiff, reduceCtorEq, Nat.succ_ne_self, ne_eq, not_true_eq_false, not_false_eq_true, and_self, and_true, true_and, Nat.zero_add, Nat.sub_zero, Nat.zero_mul, Nat.one_mul, Nat.le_refl, List.getElem?_cons_zero, List.set_cons_zero, Int.reduceToNat, Int.reduceLT, Int.reduceLE, Int.reduceAdd, Int.reduceSub, Int.reduceMul, Int.reduceEq, Int.reduceNe, Int.toNat_natCast, Int.natCast_zero, wrap_id, wrapu_id, wrapb_id, idx_ok, bin_quo, bin_rem, tdiv_id, tmod_id, ps_bptr, x27, f1, f2, f4, e1, e2, h2, h3, h4]
  | true =>
  cases h5 : inB rel 1 300 with
  | false => simp (maxSteps := 1000000) (disch := omega) only [go_sem, ↓reduceIte, Nat.reduceEqDiff, Nat.reduceAdd, Nat.reduceSub, Nat.reduceMul, Nat.reduceLT, Nat.reduceLeDiff, reduceCtorEq, Nat.succ_ne_self, ne_eq, not_true_eq_false, not_false_eq_true, and_self, and_true, true_and, Nat.zero_add, Nat.sub_zero, Nat.zero_mul, Nat.one_mul, Nat.le_refl, List.getElem?_cons_zero, List.set_cons_zero, Int.reduceToNat, Int.reduceLT, Int.reduceLE, Int.reduceAdd, Int.reduceSub, Int.reduceMul, Int.reduceEq, Int.reduceNe, Int.toNat_natCast, Int.natCast_zero, wrap_id, wrapu_id, wrapb_id, idx_ok, bin_quo, bin_rem, tdiv_id, tmod_id, ps_bptr, x27, f1, f2, f4, e1, e2, h2, h3, h4, h5]
  | true =>
  have b1 := soundB_le h1
  have b2 := inB_iff.mp h2
  have b3 := inB_iff.mp h3
  have b4 := inB_iff.mp h4
  have b5 := inB_iff.mp h5
  have bx := soundB_in h1
  have hd1 : (duck1 lev fl rel l).length = l.length := by simp [duck1, run1_len]
  have g1 := duck_loop (h := h) f3 b1 bx lev fl att rel b2 b3 b5 (0, .dead) (1, .box [.fn 48 [.cptr [.int .i64 fl], .cptr [.int .i64 att]]]) (.bptr (h.length + 4) 1 0) l.length 0 (List.replicate l.length 0) (by omega) (by omega) (by simp) (by simp)
  have g2 := fun D hD => f56_run (h := h) f3 b1 bx lev fl att rel b3 b4 D hD
  have hlen := (f3.sl h).len
  simp only [ints_len] at hlen
  have hmk := fun hh => mks_ok (h := hh) (cx := ⟨h.length, h.length, 5, none⟩) (s := 2) (z := 1) (zero := .int .i64 0) (lim := 17592186044416) (k := .i64) (k' := .i64) (a := (l.length : Int)) (b := (l.length : Int)) (by omega) (by omega) (by omega)
  simp only [List.take_zero, List.map_nil, lastS, Int.natCast_zero, ints, List.map_replicate] at g1
  have g3 := w_rfn (L := lib) (lo := h.length) (ns := 5) (s := 0) (g := 0) (it := 56) (v := 0) (caps := [.cptr [v']]) (env := duckE h v' lev) (h := h) (b := .dead)
    (fr := (0, .dead) :: (duckFR h l.length ⟨0, h.length, h.length, 5, duckE h v' lev⟩ .ready 1200 (duck1 lev fl rel l) fl att).tail)
    (fr' := duckFR h l.length ⟨0, h.length, h.length, 5, duckE h v' lev⟩ .ready (lastS 1200 (l.map (onS lev)).reverse) (duckS lev fl att rel l) fl att)
    (f := .t 82) rfl (by omega) rfl (g2 _ rfl) rfl
  have hgv := give_fr (s := 2) (ver := 1) (z := 1) (h := h) (es := ints (duckS lev fl att rel l))
    (fr := (duckFR h l.length ⟨0, h.length, h.length, 5, duckE h v' lev⟩ .ready (lastS 1200 (l.map (onS lev)).reverse) (duckS lev fl att rel l) fl att).set 0 (1, .dead)) rfl
  simp only [ints_len, duckS_len] at hgv
  simp only [duckE, duckFR, List.tail_cons, List.set_cons_zero, List.set_cons_succ, ints] at g3 hgv ⊢
  simp (maxSteps := 1000000) (disch := omega) only [go_sem, ↓reduceIte, Nat.reduceEqDiff, Nat.reduceAdd, Nat.reduceSub, Nat.reduceMul, Nat.reduceLT, Nat.reduceLeDiff, reduceCtorEq, Nat.succ_ne_self, ne_eq, not_true_eq_false, not_false_eq_true, and_self, and_true, true_and, Nat.zero_add, Nat.sub_zero, Nat.zero_mul, Nat.one_mul, Nat.le_refl, List.getElem?_cons_zero, List.set_cons_zero, Int.reduceToNat, Int.reduceLT, Int.reduceLE, Int.reduceAdd, Int.reduceSub, Int.reduceMul, Int.reduceEq, Int.reduceNe, Int.toNat_natCast, Int.natCast_zero, wrap_id, wrapu_id, wrapb_id, idx_ok, bin_quo, bin_rem, tdiv_id, tmod_id, ps_bptr, x27, f1, f2, f4, e1, e2, h2, h3, h4, h5, f47_run, lenv_sl hlen, hmk, mkr, Int.toNat_natCast, g1, f49_run v' f5 f6 f4, g3, hgv]
theorem flatL_ints (l : List Int) : AV.flatL (l.map (.int .i64)) = true := by
  induction l with
  | nil => rfl
  | cons a l ih => simp [AV.flatL, AV.flat, ih]
theorem duck_run {h : Heap} {v : AV} {l : List Int} (hv : Sl h 1 v (ints l)) (hl : l.length ≤ 9223372036854775807) (lev fl att rel : Int) (lo : Nat) :
    (run lib).fn 27 [v, .int .i64 lev, .int .i64 fl, .int .i64 att, .int .i64 rel] h lo =
      some (if duckOk l lev fl att rel = true then .tuple [.own 1 (ints (duckS lev fl att rel l)), .int .i64 0] else .tuple [.own 0 [], .int .i64 170], h) := by
  obtain ⟨v', h1, h2⟩ := view_sl hv
  refine run_lent (x := x27) (vs := [v', .int .i64 lev, .int .i64 fl, .int .i64 att, .int .i64 rel]) rfl rfl rfl ?_ (duck_enter h2 hl lev fl att rel 0) ?_
  · simp [viewL, h1, view]
  · split <;> simp [AV.flatR, AV.flat1, AV.flat, AV.flatL, ints, flatL_ints]
end Go.VI.Mix
