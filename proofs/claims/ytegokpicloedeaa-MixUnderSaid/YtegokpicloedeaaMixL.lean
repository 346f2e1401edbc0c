import Derived.Test.YtegokpicloedeaaMixK
namespace Go.VI.Mix
set_option linter.unusedVariables false
set_option linter.unusedSimpArgs false

theorem run1_get : ∀ (bs : List Bool) (a : Int) (j : Nat) (hj : j < (run1 a bs).length), (run1 a bs)[j] = lastS a (bs.take (j + 1))
  | [], a, j, hj => by simp [run1] at hj
  | b :: r, a, 0, hj => by simp [run1, lastS]
  | b :: r, a, j + 1, hj => by
    simp only [run1, List.getElem_cons_succ, List.take_succ_cons, lastS]
    exact run1_get r _ j (by simpa [run1] using hj)
/-- The ducking gain at a sample. -/
def duckAt (lev fl att rel : Int) (l : List Int) (i : Nat) : Int :=
  min (rampS fl rel (lastS 1200 ((l.take (i + 1)).map (onS lev)))) (rampS fl att (lastS 1200 ((l.drop i).map (onS lev)).reverse))
def duckS (lev fl att rel : Int) (l : List Int) : List Int := (List.range l.length).map (duckAt lev fl att rel l)
theorem duck1_get (lev fl rel : Int) (l : List Int) (i : Nat) (hi : i < (duck1 lev fl rel l).length) : (duck1 lev fl rel l)[i] = rampS fl rel (lastS 1200 ((l.take (i + 1)).map (onS lev))) := by
  simp only [duck1, List.getElem_map]
  rw [run1_get, ← List.map_take]
theorem duckS_len (lev fl att rel : Int) (l : List Int) : (duckS lev fl att rel l).length = l.length := by simp [duckS]

def duckFR (h : Heap) (n : Nat) (D : Rcd) (st : RS) (last : Int) (out : List Int) (fl att : Int) : Heap :=
  [(1, .rcd D st), (1, .box [.int .i64 last]), (1, .arr 1 (out.map (.int .i64))), (1, .box [.ref (h.length + 2) 1 1 0 n n]), (1, .box [.fn 48 [.cptr [.int .i64 fl], .cptr [.int .i64 att]]])]

def duckE (h : Heap) (v : AV) (lev : Int) : Env :=
  [(5, .cptr [v]), (6, .cptr [.int .i64 lev]), (10, .nilSl), (11, .int .i64 0), (14, .bptr (h.length + 4) 1 0), (16, .bptr (h.length + 3) 1 0), (17, .bptr (h.length + 1) 1 0), (82, .fn 56 [.cptr [v]])]

theorem duck_round {h : Heap} {v : AV} {l : List Int} (hv : PureSl 1 v (ints l)) (hl : l.length ≤ 600) (lev fl att : Int) (hfl : 0 ≤ fl ∧ fl ≤ 1024) (hatt : 1 ≤ att ∧ att ≤ 300) (last : Int) (hlast : 0 ≤ last ∧ last ≤ 5000) (out : List Int) (ho : out.length = l.length) (k : Nat) (hk : k < l.length) (x y : Int) (hx : l[k] = x) (hy : out[k]'(by omega) = y) (hxb : -32768 ≤ x ∧ x ≤ 32767) (lo : Nat) (hlo : lo ≤ h.length) (D : Rcd) (hD : D = ⟨0, h.length, h.length, 5, duckE h v lev⟩) (ncx : Nat) :
    yieldv (run lib) ⟨lo, ncx, 0, none⟩ (h.length + 0) 1 [.int .i64 k, .int .i64 x] (h ++ duckFR h l.length D .ready last out fl att) =
      some (.bool true, h ++ duckFR h l.length D .ready (if onS lev x = true then 0 else last + 1) (out.set k (min y (rampS fl att (if onS lev x = true then 0 else last + 1)))) fl att) := by
  subst hD
  obtain ⟨D, hD⟩ : ∃ D : Rcd, D = ⟨0, h.length, h.length, 5, duckE h v lev⟩ := ⟨_, rfl⟩
  rw [← hD]
  have hg : (h ++ duckFR h l.length D .ready last out fl att)[h.length + 0]? = some (1, .rcd ⟨0, h.length, h.length, 5, duckE h v lev⟩ .ready) := by rw [get_fr, ← hD]; rfl
  obtain ⟨n, hn⟩ : ∃ n, n = (if onS lev x = true then 0 else last + 1) := ⟨_, rfl⟩
  have hnb : 0 ≤ n ∧ n ≤ 5001 := by rw [hn]; split <;> omega
  have e3 : sidx 1 v (.int .i64 k) = some k := by rw [sidx_sl (hv.sl h) (by omega) (by simp; omega)]; simp
  have e4 := fun off fr => pc_iptr (off := off) ((hv.sl h).elems fr) (show k < (ints l).length by simp; omega)
  simp only [ints_get, hx] at e4
  have f3 : sidx 1 (.ref (h.length + 2) 1 1 0 l.length l.length) (.int .i64 k) = some k := by simp [sidx, zok, slen, idx]; omega
  have so := Sl.refAll (h := h) (fr := duckFR h l.length D .busy n out fl att) (s := 2) (ver := 1) (z := 1) (es := out.map (.int .i64)) rfl
  simp only [List.length_map, ho] at so
  have f4 := fun off => pc_iptr (off := off) so.elems0 (show k < (out.map (AV.int .i64)).length by simp; omega)
  simp only [List.getElem_map, hy] at f4
  have e5 := fun m => ps_iptr (cx := ⟨h.length, h.length, 5, some (h.length + 0, 1)⟩) (h := h ++ duckFR h l.length D .busy n out fl att) (id := h.length + 2) (ver := 1) (o := 0) (len := l.length) (fill := l.length) (i := k) (k := .i64) (l := out) (n := m) (by rw [get_fr]; rfl) ho (by omega) hk (by simp only []; omega)
  simp only [Nat.zero_add, set_fr] at e5
  have hb : ∃ env2, runC lib ⟨h.length, h.length, 5, some (h.length + 0, 1)⟩ r0.body ([(5, .cptr [v]), (6, .cptr [.int .i64 lev]), (14, .bptr (h.length + 4) 1 0), (16, .bptr (h.length + 3) 1 0), (17, .bptr (h.length + 1) 1 0), (19, .int .i64 k)], (h ++ duckFR h l.length D .ready last out fl att).set (h.length + 0) (1, .rcd D .busy)) =
      some (.norm, (env2, h ++ duckFR h l.length D .busy n (out.set k (min y (rampS fl att n))) fl att)) := by
    refine ⟨[], ?_⟩
    rw [set_fr]
    simp only [duckFR, List.set_cons_succ, List.set_cons_zero] at f4 e5 ⊢
    cases hon : onS lev x with
    | true =>
      have c2 : lev ≤ max x (-x) := by simpa [onS] using hon
      simp only [hon, if_true] at hn
      subst hn
      simp (maxSteps := 1000000) (disch := omega) only [go_sem, ↓reduceIte, Nat.reduceEqDiff, Nat.reduceAdd, Nat.reduceSub, Nat.reduceMul, Nat.reduceLT, Nat.reduceLeDiff, reduceCtorEq, Nat.succ_ne_self, ne_eq, not_true_eq_false, not_false_eq_true, and_self, and_true, true_and, Nat.zero_add, Nat.sub_zero, Nat.zero_mul, Nat.one_mul, Nat.le_refl, List.getElem?_cons_zero, List.set_cons_zero, Int.reduceToNat, Int.reduceLT, Int.reduceLE, Int.reduceAdd, Int.reduceSub, Int.reduceMul, Int.reduceEq, Int.reduceNe, Int.toNat_natCast, Int.natCast_zero, wrap_id, wrapu_id, wrapb_id, idx_ok, bin_quo, bin_rem, tdiv_id, tmod_id, ps_bptr, r0, ps_bptr_int, e3, e4, f3, f4, c2, f48_run, e5]
    | false =>
      have c2 : ¬ lev ≤ max x (-x) := by simpa [onS] using hon
      simp only [hon, Bool.false_eq_true, if_false] at hn
      rw [hn] at f4 e5 ⊢
      simp (maxSteps := 1000000) (disch := omega) only [go_sem, ↓reduceIte, Nat.reduceEqDiff, Nat.reduceAdd, Nat.reduceSub, Nat.reduceMul, Nat.reduceLT, Nat.reduceLeDiff, reduceCtorEq, Nat.succ_ne_self, ne_eq, not_true_eq_false, not_false_eq_true, and_self, and_true, true_and, Nat.zero_add, Nat.sub_zero, Nat.zero_mul, Nat.one_mul, Nat.le_refl, List.getElem?_cons_zero, List.set_cons_zero, Int.reduceToNat, Int.reduceLT, Int.reduceLE, Int.reduceAdd, Int.reduceSub, Int.reduceMul, Int.reduceEq, Int.reduceNe, Int.toNat_natCast, Int.natCast_zero, wrap_id, wrapu_id, wrapb_id, idx_ok, bin_quo, bin_rem, tdiv_id, tmod_id, ps_bptr, r0, ps_bptr_int, e3, e4, f3, f4, c2, f48_run, e5]
  obtain ⟨env2, hb⟩ := hb
  have ha : runC lib ⟨h.length, h.length, 5, some (h.length + 0, 1)⟩ r0.asg ((r0.ps.zip [.int .i64 k, .int .i64 x]).foldl (fun e p => e.set p.1 p.2) (duckE h v lev), h ++ duckFR h l.length D .ready last out fl att) =
      some (.norm, ([(5, .cptr [v]), (6, .cptr [.int .i64 lev]), (14, .bptr (h.length + 4) 1 0), (16, .bptr (h.length + 3) 1 0), (17, .bptr (h.length + 1) 1 0), (19, .int .i64 k)], h ++ duckFR h l.length D .ready last out fl att)) := by
    simp (maxSteps := 1000000) (disch := omega) only [go_sem, ↓reduceIte, Nat.reduceEqDiff, Nat.reduceAdd, Nat.reduceSub, Nat.reduceMul, Nat.reduceLT, Nat.reduceLeDiff, reduceCtorEq, Nat.succ_ne_self, ne_eq, not_true_eq_false, not_false_eq_true, and_self, and_true, true_and, Nat.zero_add, Nat.sub_zero, Nat.zero_mul, Nat.one_mul, Nat.le_refl, List.getElem?_cons_zero, List.set_cons_zero, Int.reduceToNat, Int.reduceLT, Int.reduceLE, Int.reduceAdd, Int.reduceSub, Int.reduceMul, Int.reduceEq, Int.reduceNe, Int.toNat_natCast, Int.natCast_zero, wrap_id, wrapu_id, wrapb_id, idx_ok, bin_quo, bin_rem, tdiv_id, tmod_id, ps_bptr, r0, duckE, List.zip_cons_cons, List.zip_nil_right, List.foldl_cons, List.foldl_nil]
  have := yield_round (L := lib) (cx := ⟨lo, ncx, 0, none⟩) hg hlo (by omega) (by omega) (by simp [AV.closedL, AV.closed]) (x := r0) rfl rfl ha (by rw [get_fr]; rfl) hb (by rw [get_fr]; rfl)
  rw [this, set_fr, ← hn]
  rfl
end Go.VI.Mix
