import Derived.Test.YtegokpicloedeaaMixL
namespace Go.VI.Mix
set_option linter.unusedVariables false
set_option linter.unusedSimpArgs false

theorem duck_back {h : Heap} {v : AV} {l : List Int} (hv : PureSl 1 v (ints l)) (hl : l.length ≤ 600) (hx : ∀ x ∈ l, -32768 ≤ x ∧ x ≤ 32767) (lev fl att rel : Int) (hfl : 0 ≤ fl ∧ fl ≤ 1024) (hatt : 1 ≤ att ∧ att ≤ 300) (D : Rcd) (hD : D = ⟨0, h.length, h.length, 5, duckE h v lev⟩) (nb : Nat) :
    ∀ (k : Nat) (j : Int), j = (k : Int) - 1 → k ≤ l.length →
    runC lib ⟨h.length, nb, 0, none⟩ (.loop b56_0) ([(0, .yld (h.length + 0) 1), (1, .cptr [v]), (3, .int .i64 j)], h ++ duckFR h l.length D .ready (lastS 1200 ((l.drop k).map (onS lev)).reverse) ((duck1 lev fl rel l).take k ++ (duckS lev fl att rel l).drop k) fl att) =
      some (.exit 0, ([], h ++ duckFR h l.length D .ready (lastS 1200 (l.map (onS lev)).reverse) (duckS lev fl att rel l) fl att)) := by
  have hdl : (duck1 lev fl rel l).length = l.length := by simp [duck1, run1_len]
  have hsl := duckS_len lev fl att rel l
  intro k
  induction k with
  | zero =>
    intro j hj hk
    have c1 : ¬ (0 : Int) ≤ j := by omega
    rw [w_loop]
    simp only [List.take_zero, List.drop_zero, List.nil_append]
    simp (maxSteps := 1000000) (disch := omega) only [go_sem, ↓reduceIte, Nat.reduceEqDiff, Nat.reduceAdd, Nat.reduceSub, Nat.reduceMul, Nat.reduceLT, Nat.reduceLeDiff, reduceCtorEq, Nat.succ_ne_self, ne_eq, not_true_eq_false, not_false_eq_true, and_self, and_true, true_and, Nat.zero_add, Nat.sub_zero, Nat.zero_mul, Nat.one_mul, Nat.le_refl, List.getElem?_cons_zero, List.set_cons_zero, Int.reduceToNat, Int.reduceLT, Int.reduceLE, Int.reduceAdd, Int.reduceSub, Int.reduceMul, Int.reduceEq, Int.reduceNe, Int.toNat_natCast, Int.natCast_zero, wrap_id, wrapu_id, wrapb_id, idx_ok, bin_quo, bin_rem, tdiv_id, tmod_id, ps_bptr, c1]
  | succ k ih =>
    intro j hj hk
    obtain rfl : j = (k : Int) := by omega
    have hk' : k < l.length := by omega
    have c1 : (0 : Int) ≤ (k : Int) := by omega
    have e3 : sidx 1 v (.int .i64 k) = some k := by rw [sidx_sl (hv.sl h) (by omega) (by simp; omega)]; simp
    have e4 := fun off H => pc_iptr (off := off) ((hv.sl H).elems0) (show k < (ints l).length by simp; omega)
    simp only [ints_get] at e4
    have hb := hx _ (List.getElem_mem hk')
    have hlb := lastS_bd (((l.drop (k + 1)).map (onS lev)).reverse) 1200 (by omega)
    simp only [List.length_reverse, List.length_map, List.length_drop] at hlb
    have hy : ((duck1 lev fl rel l).take (k + 1) ++ (duckS lev fl att rel l).drop (k + 1))[k]'(by simp; omega) = rampS fl rel (lastS 1200 ((l.take (k + 1)).map (onS lev))) := by
      rw [List.getElem_append_left (by simp; omega), List.getElem_take, duck1_get]
    have e := duck_round (h := h) hv hl lev fl att hfl hatt (lastS 1200 (((l.drop (k + 1)).map (onS lev)).reverse)) (by omega) ((duck1 lev fl rel l).take (k + 1) ++ (duckS lev fl att rel l).drop (k + 1)) (by simp; omega) k hk' l[k] _ rfl hy hb h.length (Nat.le_refl _) D hD nb
    have hn : (if onS lev l[k] = true then (0 : Int) else lastS 1200 (((l.drop (k + 1)).map (onS lev)).reverse) + 1) = lastS 1200 ((l.drop k).map (onS lev)).reverse := by
      rw [List.drop_eq_getElem_cons hk', List.map_cons, List.reverse_cons, lastS_snoc]
    rw [hn] at e
    have hs : ((duck1 lev fl rel l).take (k + 1) ++ (duckS lev fl att rel l).drop (k + 1)).set k (min (rampS fl rel (lastS 1200 ((l.take (k + 1)).map (onS lev)))) (rampS fl att (lastS 1200 ((l.drop k).map (onS lev)).reverse))) = (duck1 lev fl rel l).take k ++ (duckS lev fl att rel l).drop k := by
      rw [List.take_succ_eq_append_getElem (by omega), List.append_assoc, List.set_append_right _ _ (by simp; omega)]
      have hz : k - ((duck1 lev fl rel l).take k).length = 0 := by simp; omega
      have hc := List.drop_eq_getElem_cons (l := duckS lev fl att rel l) (i := k) (by omega)
      have hg : (duckS lev fl att rel l)[k]'(by omega) = duckAt lev fl att rel l k := by simp [duckS]
      rw [hz, List.singleton_append, List.set_cons_zero, hc, hg, duckAt, List.map_drop]
    rw [hs] at e
    have ih' := ih ((k : Int) - 1) rfl (by omega)
    rw [w_loop]
    simp (maxSteps := 1000000) (disch := omega) only [go_sem, ↓reduceIte, Nat.reduceEqDiff, Nat.reduceAdd, Nat.reduceSub, Nat.reduceMul, Nat.reduceLT, Nat.reduceLeDiff, reduceCtorEq, Nat.succ_ne_self, ne_eq, not_true_eq_false, not_false_eq_true, and_self, and_true, true_and, Nat.zero_add, Nat.sub_zero, Nat.zero_mul, Nat.one_mul, Nat.le_refl, List.getElem?_cons_zero, List.set_cons_zero, Int.reduceToNat, Int.reduceLT, Int.reduceLE, Int.reduceAdd, Int.reduceSub, Int.reduceMul, Int.reduceEq, Int.reduceNe, Int.toNat_natCast, Int.natCast_zero, wrap_id, wrapu_id, wrapb_id, idx_ok, bin_quo, bin_rem, tdiv_id, tmod_id, ps_bptr, c1, e3, e4, e, ih']
theorem _root_.Go.VI.PureSl.frz2 {z : Nat} {v : AV} {es : List AV} (p : PureSl z v es) : ∃ v', (∀ b k h, frz b k v h = some (v', h)) ∧ (∀ b k h, frz b k v' h = some (v', h)) ∧ v.val = true ∧ v'.val = true ∧ PureSl z v' es ∧ v'.cells = [v'] := by
  rcases p with ⟨rfl, rfl⟩ | ⟨z', rfl | rfl, hz⟩
  · exact ⟨.lst 0 [], fun b k h => by simp [VI.frz], fun b k h => by simp [VI.frz], rfl, rfl, .inr ⟨0, .inl rfl, .inr rfl⟩, rfl⟩
  · exact ⟨.lst z' es, fun b k h => by simp [VI.frz], fun b k h => by simp [VI.frz], rfl, rfl, .inr ⟨z', .inl rfl, hz⟩, rfl⟩
  · exact ⟨.lsf z' es, fun b k h => by simp [VI.frz], fun b k h => by simp [VI.frz], rfl, rfl, .inr ⟨z', .inr rfl, hz⟩, rfl⟩
theorem f49_run (v : AV) (hf : ∀ b k h, frz b k v h = some (v, h)) (hv : v.val = true) (hc : v.cells = [v]) (h : Heap) (lo : Nat) : (run lib).fn 49 [v] h lo = some (.fn 56 [.cptr [v]], h) := by
  rw [run_closed (x := x49) rfl rfl rfl rfl]
  simp (maxSteps := 1000000) (disch := omega) only [go_sem, ↓reduceIte, Nat.reduceEqDiff, Nat.reduceAdd, Nat.reduceSub, Nat.reduceMul, Nat.reduceLT, Nat.reduceLeDiff, reduceCtorEq, Nat.succ_ne_self, ne_eq, not_true_eq_false, not_false_eq_true, and_self, and_true, true_and, Nat.zero_add, Nat.sub_zero, Nat.zero_mul, Nat.one_mul, Nat.le_refl, List.getElem?_cons_zero, List.set_cons_zero, Int.reduceToNat, Int.reduceLT, Int.reduceLE, Int.reduceAdd, Int.reduceSub, Int.reduceMul, Int.reduceEq, Int.reduceNe, Int.toNat_natCast, Int.natCast_zero, wrap_id, wrapu_id, wrapb_id, idx_ok, bin_quo, bin_rem, tdiv_id, tmod_id, ps_bptr, x49, hf, hv, hc]
theorem f56_run {h : Heap} {v : AV} {l : List Int} (hv : PureSl 1 v (ints l)) (hl : l.length ≤ 600) (hx : ∀ x ∈ l, -32768 ≤ x ∧ x ≤ 32767) (lev fl att rel : Int) (hfl : 0 ≤ fl ∧ fl ≤ 1024) (hatt : 1 ≤ att ∧ att ≤ 300) (D : Rcd) (hD : D = ⟨0, h.length, h.length, 5, duckE h v lev⟩) :
    (run lib).fn 56 [.yld (h.length + 0) 1, .cptr [v]] (h ++ duckFR h l.length D .ready 1200 (duck1 lev fl rel l) fl att) h.length =
      some (.tuple [], h ++ duckFR h l.length D .ready (lastS 1200 (l.map (onS lev)).reverse) (duckS lev fl att rel l) fl att) := by
  have hdl : (duck1 lev fl rel l).length = l.length := by simp [duck1, run1_len]
  have hsl := duckS_len lev fl att rel l
  have e := duck_back hv hl hx lev fl att rel hfl hatt D hD (h ++ duckFR h l.length D .ready 1200 (duck1 lev fl rel l) fl att).length l.length _ rfl (by omega)
  rw [List.take_of_length_le (by omega), List.drop_of_length_le (by omega), List.drop_of_length_le (by omega), List.append_nil, List.map_nil, List.reverse_nil, lastS] at e
  have hlen := (hv.sl h).len
  simp only [ints_len] at hlen
  rw [run_open (x := x56) rfl rfl rfl rfl (by simp)]
  have hr : ∀ (H : Heap), H ++ List.replicate x56.ns (0, Blk.dead) = H := fun H => by simp [x56]
  rw [hr]
  simp (maxSteps := 1000000) (disch := omega) only [go_sem, ↓reduceIte, Nat.reduceEqDiff, Nat.reduceAdd, Nat.reduceSub, Nat.reduceMul, Nat.reduceLT, Nat.reduceLeDiff, reduceCtorEq, Nat.succ_ne_self, ne_eq, not_true_eq_false, not_false_eq_true, and_self, and_true, true_and, Nat.zero_add, Nat.sub_zero, Nat.zero_mul, Nat.one_mul, Nat.le_refl, List.getElem?_cons_zero, List.set_cons_zero, Int.reduceToNat, Int.reduceLT, Int.reduceLE, Int.reduceAdd, Int.reduceSub, Int.reduceMul, Int.reduceEq, Int.reduceNe, Int.toNat_natCast, Int.natCast_zero, wrap_id, wrapu_id, wrapb_id, idx_ok, bin_quo, bin_rem, tdiv_id, tmod_id, ps_bptr, x56, lenv_sl hlen, e]
  rw [List.take_of_length_le (by simp [duckFR])]
end Go.VI.Mix
