import Derived.Test.YtdlbiebhkminjaaDoorWeekCa
import Derived.Test.YtdlbiebhkminjaaDoorVIRF
namespace Go.VI
theorem mkAt_r {lo ns s : Nat} {p : Nat × Nat} {b : Blk} {h fr : Heap} (hf : b.fits ⟨lo, h.length, ns, some p⟩ = true) : mkAt ⟨lo, h.length, ns, some p⟩ s b (h ++ fr) = mkF s ns b h fr fr[s]? := by
  rw [← mkAt_fr (lo := lo)]
  have : b.fits ⟨lo, h.length, ns, none⟩ = true := by
    cases b with
    | box cs => simp [Blk.fits, Cx.fit]
    | rcd d st => simp [Blk.fits, Cx.fit]
    | _ => rfl
  simp only [mkAt, hf, this]
theorem appv_r {lo base ns s z lim : Nat} {p : Nat × Nat} {x : AV} {xs : List AV} {h : Heap} : appv ⟨lo, base, ns, some p⟩ s z lim x xs h = appv ⟨lo, base, ns, none⟩ s z lim x xs h := by
  cases x <;> rfl
end Go.VI
namespace Go.VI.Week
set_option linter.unusedVariables false
set_option linter.unusedSimpArgs false

/-! The spells that are yielded, and where the open one begins. -/
def spL (l : List Int) (f : Int) : Nat → Nat → Int → List (Int × Int) × Int
  | 0, _, o => ([], o)
  | d + 1, k, o =>
    if hasS l k then spL l f d (k + 1) (if o < 0 then max f ((k : Int) * 3600) else o)
    else if o < 0 then spL l f d (k + 1) o
    else ((o, max f ((k : Int) * 3600)) :: (spL l f d (k + 1) (-1)).1, (spL l f d (k + 1) (-1)).2)
def spA (l : List Int) (f t : Int) (d k : Nat) : List (Int × Int) :=
  (spL l f d k (-1)).1 ++ (if (spL l f d k (-1)).2 < 0 then [] else [((spL l f d k (-1)).2, t)])
def okP (p : Int × Int) : Prop := 0 ≤ p.1 ∧ p.1 ≤ 10000000 ∧ 0 ≤ p.2 ∧ p.2 ≤ 10000000

section
variable {σ : Type} {H : σ → Heap} {nb lo id : Nat} {step : σ → Int × Int → σ} {Iv : Nat → σ → Prop}
theorem spell_loop {l : List Int} (hl : l.length = 7) (hv : vW l = true) {f t : Int} (hf : 0 ≤ f ∧ f ≤ 10000000) (hlen : ∀ s, (H s).length = nb) (hlo : lo ≤ nb)
    (hI : ∀ c s p, c ≤ 3000 → Iv c s → okP p → Iv (c + 1) (step s p))
    (hy : ∀ c s p cs, c ≤ 3000 → Iv c s → okP p → yieldv (run lib) ⟨lo, nb, 1, none⟩ id 1 [.agg [.int .i64 p.1, .int .i64 p.2]] (H s ++ [(1, .box cs)]) = some (.bool true, H (step s p) ++ [(1, .box cs)]))
    (K : Nat) (hK1 : t ≤ (K : Int) * 3600) (hK2 : ((K : Int) - 1) * 3600 < t) (hK3 : K ≤ 2778) (d : Nat) : ∀ (k : Nat) (o x : Int) (s : σ) (c : Nat), k + d = K → c ≤ k → Iv c s → -1 ≤ o → o ≤ 10000000 →
    ∃ c' x', c' ≤ K ∧ Iv c' ((spL l f d k o).1.foldl step s) ∧ -1 ≤ (spL l f d k o).2 ∧ (spL l f d k o).2 ≤ 10000000 ∧
    runC lib ⟨lo, nb, 1, none⟩ (.loop b41_0) ([(0, .yld id 1), (1, .cptr [.int .i64 f, .int .i64 t]), (2, .cptr (ints l)), (4, .bptr (nb + 0) 1 0), (5, .int .i64 k)], H s ++ [(1, .box [.int .i64 o, .int .i64 x])]) =
      some (.exit 0, ([(0, .yld id 1), (1, .cptr [.int .i64 f, .int .i64 t]), (4, .bptr (nb + 0) 1 0)], H ((spL l f d k o).1.foldl step s) ++ [(1, .box [.int .i64 (spL l f d k o).2, .int .i64 x'])])) := by
  have ht : (ints l).take 7 = ints l := List.take_of_length_le (by simp [hl])
  have hn : 7 ≤ (ints l).length := by simp [hl]
  have L0 : ∀ s cs off, pcells (H s ++ [(1, Blk.box cs)]) (.bptr (nb + 0) 1 off) = some (cs.drop off) := fun s cs off => by
    rw [← hlen s, pc_bptr_fr]; simp [pcF]
  have S0 : ∀ s a b n, pstore ⟨lo, nb, 1, none⟩ (H s ++ [(1, Blk.box [.int .i64 a, .int .i64 b])]) 1 (.bptr (nb + 0) 1 0) (.int .i64 n) = some (H s ++ [(1, Blk.box [.int .i64 n, .int .i64 b])]) := fun s a b n => by
    have := hlen s
    subst this
    simp (maxSteps := 1000000) (disch := omega) only [go_sem, ↓reduceIte, Nat.reduceEqDiff, Nat.reduceAdd, Nat.reduceSub, Nat.reduceMul, Nat.reduceLT, Nat.reduceLeDiff, reduceCtorEq, Nat.succ_ne_self, ne_eq, not_true_eq_false, not_false_eq_true, and_self, and_true, true_and, Nat.zero_add, Nat.sub_zero, Nat.zero_mul, Nat.one_mul, Nat.le_refl, List.getElem?_cons_zero, List.set_cons_zero, Int.reduceToNat, Int.reduceLT, Int.reduceLE, Int.reduceAdd, Int.reduceSub, Int.reduceMul, Int.reduceEq, Int.reduceNe, Int.toNat_natCast, Int.natCast_zero, wrap_id, wrapu_id, wrapb_id, idx_ok, bin_quo, bin_rem, tdiv_id, tmod_id, ps_bptr]
  have S1 : ∀ s a b n, pstore ⟨lo, nb, 1, none⟩ (H s ++ [(1, Blk.box [.int .i64 a, .int .i64 b])]) 1 (.bptr (nb + 0) 1 1) (.int .i64 n) = some (H s ++ [(1, Blk.box [.int .i64 a, .int .i64 n])]) := fun s a b n => by
    have := hlen s
    subst this
    simp (maxSteps := 1000000) (disch := omega) only [go_sem, ↓reduceIte, Nat.reduceEqDiff, Nat.reduceAdd, Nat.reduceSub, Nat.reduceMul, Nat.reduceLT, Nat.reduceLeDiff, reduceCtorEq, Nat.succ_ne_self, ne_eq, not_true_eq_false, not_false_eq_true, and_self, and_true, true_and, Nat.zero_add, Nat.sub_zero, Nat.zero_mul, Nat.one_mul, Nat.le_refl, List.getElem?_cons_zero, List.set_cons_zero, Int.reduceToNat, Int.reduceLT, Int.reduceLE, Int.reduceAdd, Int.reduceSub, Int.reduceMul, Int.reduceEq, Int.reduceNe, Int.toNat_natCast, Int.natCast_zero, wrap_id, wrapu_id, wrapb_id, idx_ok, bin_quo, bin_rem, tdiv_id, tmod_id, ps_bptr]
  induction d with
  | zero =>
    intro k o x s c hk hc hi ho1 ho2
    have c1 : ¬ (k : Int) * 3600 < t := by omega
    refine ⟨c, x, by omega, hi, ho1, ho2, ?_⟩
    rw [w_loop]
    simp (maxSteps := 1000000) (disch := omega) only [go_sem, ↓reduceIte, Nat.reduceEqDiff, Nat.reduceAdd, Nat.reduceSub, Nat.reduceMul, Nat.reduceLT, Nat.reduceLeDiff, reduceCtorEq, Nat.succ_ne_self, ne_eq, not_true_eq_false, not_false_eq_true, and_self, and_true, true_and, Nat.zero_add, Nat.sub_zero, Nat.zero_mul, Nat.one_mul, Nat.le_refl, List.getElem?_cons_zero, List.set_cons_zero, Int.reduceToNat, Int.reduceLT, Int.reduceLE, Int.reduceAdd, Int.reduceSub, Int.reduceMul, Int.reduceEq, Int.reduceNe, Int.toNat_natCast, Int.natCast_zero, wrap_id, wrapu_id, wrapb_id, idx_ok, bin_quo, bin_rem, tdiv_id, tmod_id, ps_bptr, c1, spL, List.foldl_nil]
  | succ d ih =>
    intro k o x s c hk hc hi ho1 ho2
    have c1 : (k : Int) * 3600 < t := by omega
    have e := has_run hl hv k (by omega)
    cases hb : hasS l k
    · rw [hb] at e
      by_cases c2 : o < 0
      · obtain ⟨c', x', i1, i2, i3, i4, i5⟩ := ih (k + 1) o x s c (by omega) (by omega) hi ho1 ho2
        rw [cast1] at i5
        simp only [spL, hb, Bool.false_eq_true, if_false, c2, if_true]
        refine ⟨c', x', i1, i2, i3, i4, ?_⟩
        have c3 : ¬ 0 ≤ o := by omega
        rw [w_loop]
        simp (maxSteps := 1000000) (disch := omega) only [go_sem, ↓reduceIte, Nat.reduceEqDiff, Nat.reduceAdd, Nat.reduceSub, Nat.reduceMul, Nat.reduceLT, Nat.reduceLeDiff, reduceCtorEq, Nat.succ_ne_self, ne_eq, not_true_eq_false, not_false_eq_true, and_self, and_true, true_and, Nat.zero_add, Nat.sub_zero, Nat.zero_mul, Nat.one_mul, Nat.le_refl, List.getElem?_cons_zero, List.set_cons_zero, Int.reduceToNat, Int.reduceLT, Int.reduceLE, Int.reduceAdd, Int.reduceSub, Int.reduceMul, Int.reduceEq, Int.reduceNe, Int.toNat_natCast, Int.natCast_zero, wrap_id, wrapu_id, wrapb_id, idx_ok, bin_quo, bin_rem, tdiv_id, tmod_id, ps_bptr, c1, ht, hn, L0, e, c2, c3, i5]
      · have hp : okP (o, max f ((k : Int) * 3600)) := by refine ⟨by simp only []; omega, by simp only []; omega, by simp only []; omega, by simp only []; omega⟩
        obtain ⟨c', x', i1, i2, i3, i4, i5⟩ := ih (k + 1) (-1) (max f ((k : Int) * 3600)) (step s (o, max f ((k : Int) * 3600))) (c + 1) (by omega) (by omega) (hI c s _ (by omega) hi hp) (by omega) (by omega)
        rw [cast1] at i5
        simp only [spL, hb, Bool.false_eq_true, if_false, c2, List.foldl_cons]
        refine ⟨c', x', i1, i2, i3, i4, ?_⟩
        have c3 : 0 ≤ o := by omega
        have y := fun cs => hy c s (o, max f ((k : Int) * 3600)) cs (by omega) hi hp
        simp only [] at y
        rw [w_loop]
        simp (maxSteps := 1000000) (disch := omega) only [go_sem, ↓reduceIte, Nat.reduceEqDiff, Nat.reduceAdd, Nat.reduceSub, Nat.reduceMul, Nat.reduceLT, Nat.reduceLeDiff, reduceCtorEq, Nat.succ_ne_self, ne_eq, not_true_eq_false, not_false_eq_true, and_self, and_true, true_and, Nat.zero_add, Nat.sub_zero, Nat.zero_mul, Nat.one_mul, Nat.le_refl, List.getElem?_cons_zero, List.set_cons_zero, Int.reduceToNat, Int.reduceLT, Int.reduceLE, Int.reduceAdd, Int.reduceSub, Int.reduceMul, Int.reduceEq, Int.reduceNe, Int.toNat_natCast, Int.natCast_zero, wrap_id, wrapu_id, wrapb_id, idx_ok, bin_quo, bin_rem, tdiv_id, tmod_id, ps_bptr, c1, ht, hn, L0, S0, S1, e, c2, c3, y, i5]
    · rw [hb] at e
      by_cases c2 : o < 0
      · obtain ⟨c', x', i1, i2, i3, i4, i5⟩ := ih (k + 1) (max f ((k : Int) * 3600)) x s c (by omega) (by omega) hi (by omega) (by omega)
        rw [cast1] at i5
        simp only [spL, hb, if_true, c2]
        refine ⟨c', x', i1, i2, i3, i4, ?_⟩
        have c3 : ¬ 0 ≤ o := by omega
        rw [w_loop]
        simp (maxSteps := 1000000) (disch := omega) only [go_sem, ↓reduceIte, Nat.reduceEqDiff, Nat.reduceAdd, Nat.reduceSub, Nat.reduceMul, Nat.reduceLT, Nat.reduceLeDiff, reduceCtorEq, Nat.succ_ne_self, ne_eq, not_true_eq_false, not_false_eq_true, and_self, and_true, true_and, Nat.zero_add, Nat.sub_zero, Nat.zero_mul, Nat.one_mul, Nat.le_refl, List.getElem?_cons_zero, List.set_cons_zero, Int.reduceToNat, Int.reduceLT, Int.reduceLE, Int.reduceAdd, Int.reduceSub, Int.reduceMul, Int.reduceEq, Int.reduceNe, Int.toNat_natCast, Int.natCast_zero, wrap_id, wrapu_id, wrapb_id, idx_ok, bin_quo, bin_rem, tdiv_id, tmod_id, ps_bptr, c1, ht, hn, L0, S0, e, c2, c3, i5]
      · obtain ⟨c', x', i1, i2, i3, i4, i5⟩ := ih (k + 1) o x s c (by omega) (by omega) hi ho1 ho2
        rw [cast1] at i5
        simp only [spL, hb, if_true, c2, if_false]
        refine ⟨c', x', i1, i2, i3, i4, ?_⟩
        have c3 : 0 ≤ o := by omega
        rw [w_loop]
        simp (maxSteps := 1000000) (disch := omega) only [go_sem, ↓reduceIte, Nat.reduceEqDiff, Nat.reduceAdd, Nat.reduceSub, Nat.reduceMul, Nat.reduceLT, Nat.reduceLeDiff, reduceCtorEq, Nat.succ_ne_self, ne_eq, not_true_eq_false, not_false_eq_true, and_self, and_true, true_and, Nat.zero_add, Nat.sub_zero, Nat.zero_mul, Nat.one_mul, Nat.le_refl, List.getElem?_cons_zero, List.set_cons_zero, Int.reduceToNat, Int.reduceLT, Int.reduceLE, Int.reduceAdd, Int.reduceSub, Int.reduceMul, Int.reduceEq, Int.reduceNe, Int.toNat_natCast, Int.natCast_zero, wrap_id, wrapu_id, wrapb_id, idx_ok, bin_quo, bin_rem, tdiv_id, tmod_id, ps_bptr, c1, ht, hn, L0, e, c2, c3, i5]
theorem f41_run {l : List Int} (hl : l.length = 7) (hv : vW l = true) {f t : Int} (hf : 0 ≤ f ∧ f < t ∧ t ≤ 10000000) (hlen : ∀ s, (H s).length = nb) (hlo : lo ≤ nb)
    (hI : ∀ c s p, c ≤ 3000 → Iv c s → okP p → Iv (c + 1) (step s p))
    (hy : ∀ c s p cs, c ≤ 3000 → Iv c s → okP p → yieldv (run lib) ⟨lo, nb, 1, none⟩ id 1 [.agg [.int .i64 p.1, .int .i64 p.2]] (H s ++ [(1, .box cs)]) = some (.bool true, H (step s p) ++ [(1, .box cs)]))
    (k K : Nat) (hk : (k : Int) = f / 3600) (hK1 : t ≤ (K : Int) * 3600) (hK2 : ((K : Int) - 1) * 3600 < t) (s : σ) (hi : Iv 0 s) :
    (∃ c, c ≤ 2779 ∧ Iv c ((spA l f t (K - k) k).foldl step s)) ∧ (run lib).fn 41 [.yld id 1, .cptr [.int .i64 f, .int .i64 t], .cptr (ints l)] (H s) lo = some (.tuple [], H ((spA l f t (K - k) k).foldl step s)) := by
  obtain ⟨c', x', i1, i2, i3, i4, i5⟩ := spell_loop hl hv (f := f) (t := t) (by omega) hlen hlo hI hy K hK1 hK2 (by omega) (K - k) k (-1) 0 s 0 (by omega) (by omega) hi (by omega) (by omega)
  have ho := run_open (L := lib) (f := 41) (x := x41) (args := [.yld id 1, .cptr [.int .i64 f, .int .i64 t], .cptr (ints l)]) (h := H s) (lo := lo) rfl rfl rfl rfl (by rw [hlen]; exact hlo)
  have e1 := hlen s
  have e2 : ∀ s' (X : Heap), (H s' ++ X).take (H s).length = H s' := fun s' X => by rw [hlen s, ← hlen s', List.take_left]
  rw [ho]
  rw [hk, ← e1] at i5
  have L0 : ∀ s' cs off, pcells (H s' ++ [(1, Blk.box cs)]) (.bptr ((H s).length + 0) 1 off) = some (cs.drop off) := fun s' cs off => by
    rw [e1, ← hlen s', pc_bptr_fr]; simp [pcF]
  have hr : List.replicate x41.ns (0, Blk.dead) = [(0, Blk.dead)] := rfl
  unfold spA
  by_cases c2 : (spL l f (K - k) k (-1)).2 < 0
  · have c3 : ¬ 0 ≤ (spL l f (K - k) k (-1)).2 := by omega
    rw [if_pos c2, List.append_nil]
    refine ⟨⟨c', by omega, i2⟩, ?_⟩
    simp (maxSteps := 1000000) (disch := omega) only [go_sem, ↓reduceIte, Nat.reduceEqDiff, Nat.reduceAdd, Nat.reduceSub, Nat.reduceMul, Nat.reduceLT, Nat.reduceLeDiff, reduceCtorEq, Nat.succ_ne_self, ne_eq, not_true_eq_false, not_false_eq_true, and_self, and_true, true_and, Nat.zero_add, Nat.sub_zero, Nat.zero_mul, Nat.one_mul, Nat.le_refl, List.getElem?_cons_zero, List.set_cons_zero, Int.reduceToNat, Int.reduceLT, Int.reduceLE, Int.reduceAdd, Int.reduceSub, Int.reduceMul, Int.reduceEq, Int.reduceNe, Int.toNat_natCast, Int.natCast_zero, wrap_id, wrapu_id, wrapb_id, idx_ok, bin_quo, bin_rem, tdiv_id, tmod_id, ps_bptr, x41, hr, i5, L0, c3, e2]
  · have c3 : 0 ≤ (spL l f (K - k) k (-1)).2 := by omega
    have hp : okP ((spL l f (K - k) k (-1)).2, t) := by refine ⟨by simp only []; omega, by simp only []; omega, by simp only []; omega, by simp only []; omega⟩
    rw [if_neg c2, List.foldl_append, List.foldl_cons, List.foldl_nil]
    have y := fun cs => hy c' _ _ cs (by omega) i2 hp
    rw [← e1] at y
    refine ⟨⟨c' + 1, by omega, hI c' _ _ (by omega) i2 hp⟩, ?_⟩
    simp only [] at y
    simp (maxSteps := 1000000) (disch := omega) only [go_sem, ↓reduceIte, Nat.reduceEqDiff, Nat.reduceAdd, Nat.reduceSub, Nat.reduceMul, Nat.reduceLT, Nat.reduceLeDiff, reduceCtorEq, Nat.succ_ne_self, ne_eq, not_true_eq_false, not_false_eq_true, and_self, and_true, true_and, Nat.zero_add, Nat.sub_zero, Nat.zero_mul, Nat.one_mul, Nat.le_refl, List.getElem?_cons_zero, List.set_cons_zero, Int.reduceToNat, Int.reduceLT, Int.reduceLE, Int.reduceAdd, Int.reduceSub, Int.reduceMul, Int.reduceEq, Int.reduceNe, Int.toNat_natCast, Int.natCast_zero, wrap_id, wrapu_id, wrapb_id, idx_ok, bin_quo, bin_rem, tdiv_id, tmod_id, ps_bptr, x41, hr, i5, L0, c3, y, e2]
end
theorem f30_run (l : List Int) (hl : l.length = 7) (f t : Int) (h : Heap) (lo : Nat) : (run lib).fn 30 [.agg (ints l), .agg [.int .i64 f, .int .i64 t]] h lo = some (.fn 41 [.cptr [.int .i64 f, .int .i64 t], .cptr (ints l)], h) := by
  rw [run_closed (x := x30) rfl rfl rfl rfl]
  simp (maxSteps := 1000000) (disch := omega) only [go_sem, ↓reduceIte, Nat.reduceEqDiff, Nat.reduceAdd, Nat.reduceSub, Nat.reduceMul, Nat.reduceLT, Nat.reduceLeDiff, reduceCtorEq, Nat.succ_ne_self, ne_eq, not_true_eq_false, not_false_eq_true, and_self, and_true, true_and, Nat.zero_add, Nat.sub_zero, Nat.zero_mul, Nat.one_mul, Nat.le_refl, List.getElem?_cons_zero, List.set_cons_zero, Int.reduceToNat, Int.reduceLT, Int.reduceLE, Int.reduceAdd, Int.reduceSub, Int.reduceMul, Int.reduceEq, Int.reduceNe, Int.toNat_natCast, Int.natCast_zero, wrap_id, wrapu_id, wrapb_id, idx_ok, bin_quo, bin_rem, tdiv_id, tmod_id, ps_bptr, x30, frzL_ints]
end Go.VI.Week
namespace Go.VI.Week
set_option linter.unusedVariables false
set_option linter.unusedSimpArgs false

def capsE (l : List Int) (f t : Int) : List AV := [.cptr [.int .i64 f, .int .i64 t], .cptr (ints l)]
def secE (h : Heap) (l : List Int) (f t : Int) : Env := [(4, .int .i64 0), (5, .int .i64 0), (6, .bptr (h.length + 2) 1 0), (14, .fn 41 (capsE l f t))]
def secH (h : Heap) (l : List Int) (f t : Int) (st : RS) (s : Int × Nat × Blk) : Heap := h ++ [(1, .rcd ⟨1, h.length, h.length, 3, secE h l f t⟩ st), s.2, (1, .box [.int .i64 s.1])]
def secT (s : Int × Nat × Blk) (p : Int × Int) : Int × Nat × Blk := (s.1 + (p.2 - p.1), s.2.1 + 1, .box [.int .i64 p.1, .int .i64 p.2])
def secI (c : Nat) (s : Int × Nat × Blk) : Prop := -((c : Int) * 10000000) ≤ s.1 ∧ s.1 ≤ (c : Int) * 10000000
theorem closedL_ints (l : List Int) : AV.closedL (ints l) = true := by
  unfold ints
  induction l with
  | nil => rfl
  | cons a l ih => simp [AV.closedL, AV.closed, ih]
theorem sec_yield (h : Heap) (l : List Int) (f t : Int) (lo : Nat) (hlo : lo ≤ h.length) (c : Nat) (s : Int × Nat × Blk) (p : Int × Int) (cs : List AV) (hc : c ≤ 3000) (hi : secI c s) (hp : okP p) :
    yieldv (run lib) ⟨lo, h.length + 3, 1, none⟩ (h.length + 0) 1 [.agg [.int .i64 p.1, .int .i64 p.2]] (secH h l f t .ready s ++ [(1, .box cs)]) = some (.bool true, secH h l f t .ready (secT s p) ++ [(1, .box cs)]) := by
  obtain ⟨n, v, b⟩ := s
  obtain ⟨p1, p2⟩ := p
  obtain ⟨q1, q2, q3, q4⟩ := hp
  obtain ⟨i1, i2⟩ := hi
  simp only [] at q1 q2 q3 q4 i1 i2
  obtain ⟨D, hD⟩ : ∃ D : Rcd, D = ⟨1, h.length, h.length, 3, secE h l f t⟩ := ⟨_, rfl⟩
  simp only [secH, secT, List.append_assoc, List.cons_append, List.nil_append, ← hD]
  have ha : runC lib ⟨h.length, h.length, 3, some (h.length + 0, 1)⟩ r1.asg ((r1.ps.zip [.agg [.int .i64 p1, .int .i64 p2]]).foldl (fun e p => e.set p.1 p.2) (secE h l f t), h ++ [(1, .rcd D .ready), (v, b), (1, .box [.int .i64 n]), (1, .box cs)]) =
      some (.norm, ([(6, .bptr (h.length + 2) 1 0), (7, .bptr (h.length + 1) (v + 1) 0)], h ++ [(1, .rcd D .ready), (v + 1, .box [.int .i64 p1, .int .i64 p2]), (1, .box [.int .i64 n]), (1, .box cs)])) := by
    have em : mkAt ⟨h.length, h.length, 3, some (h.length + 0, 1)⟩ 1 (.box [.int .i64 0, .int .i64 0]) (h ++ [(1, .rcd D .ready), (v, b), (1, .box [.int .i64 n]), (1, .box cs)]) = some (v + 1, h ++ [(1, .rcd D .ready), (v + 1, .box [.int .i64 0, .int .i64 0]), (1, .box [.int .i64 n]), (1, .box cs)]) := by
      rw [mkAt_r (by rfl)]
      simp (maxSteps := 1000000) (disch := omega) only [go_sem, ↓reduceIte, Nat.reduceEqDiff, Nat.reduceAdd, Nat.reduceSub, Nat.reduceMul, Nat.reduceLT, Nat.reduceLeDiff, reduceCtorEq, Nat.succ_ne_self, ne_eq, not_true_eq_false, not_false_eq_true, and_self, and_true, true_and, Nat.zero_add, Nat.sub_zero, Nat.zero_mul, Nat.one_mul, Nat.le_refl, List.getElem?_cons_zero, List.set_cons_zero, Int.reduceToNat, Int.reduceLT, Int.reduceLE, Int.reduceAdd, Int.reduceSub, Int.reduceMul, Int.reduceEq, Int.reduceNe, Int.toNat_natCast, Int.natCast_zero, wrap_id, wrapu_id, wrapb_id, idx_ok, bin_quo, bin_rem, tdiv_id, tmod_id, ps_bptr]
    have es : pstore ⟨h.length, h.length, 3, some (h.length + 0, 1)⟩ (h ++ [(1, .rcd D .ready), (v + 1, .box [.int .i64 0, .int .i64 0]), (1, .box [.int .i64 n]), (1, .box cs)]) 2 (.bptr (h.length + 1) (v + 1) 0) (.agg [.int .i64 p1, .int .i64 p2]) = some (h ++ [(1, .rcd D .ready), (v + 1, .box [.int .i64 p1, .int .i64 p2]), (1, .box [.int .i64 n]), (1, .box cs)]) := by
      rw [ps_bptr_r (by omega) (by rfl)]
      simp (maxSteps := 1000000) (disch := omega) only [go_sem, ↓reduceIte, Nat.reduceEqDiff, Nat.reduceAdd, Nat.reduceSub, Nat.reduceMul, Nat.reduceLT, Nat.reduceLeDiff, reduceCtorEq, Nat.succ_ne_self, ne_eq, not_true_eq_false, not_false_eq_true, and_self, and_true, true_and, Nat.zero_add, Nat.sub_zero, Nat.zero_mul, Nat.one_mul, Nat.le_refl, List.getElem?_cons_zero, List.set_cons_zero, Int.reduceToNat, Int.reduceLT, Int.reduceLE, Int.reduceAdd, Int.reduceSub, Int.reduceMul, Int.reduceEq, Int.reduceNe, Int.toNat_natCast, Int.natCast_zero, wrap_id, wrapu_id, wrapb_id, idx_ok, bin_quo, bin_rem, tdiv_id, tmod_id, ps_bptr]
    simp (maxSteps := 1000000) (disch := omega) only [go_sem, ↓reduceIte, Nat.reduceEqDiff, Nat.reduceAdd, Nat.reduceSub, Nat.reduceMul, Nat.reduceLT, Nat.reduceLeDiff, reduceCtorEq, Nat.succ_ne_self, ne_eq, not_true_eq_false, not_false_eq_true, and_self, and_true, true_and, Nat.zero_add, Nat.sub_zero, Nat.zero_mul, Nat.one_mul, Nat.le_refl, List.getElem?_cons_zero, List.set_cons_zero, Int.reduceToNat, Int.reduceLT, Int.reduceLE, Int.reduceAdd, Int.reduceSub, Int.reduceMul, Int.reduceEq, Int.reduceNe, Int.toNat_natCast, Int.natCast_zero, wrap_id, wrapu_id, wrapb_id, idx_ok, bin_quo, bin_rem, tdiv_id, tmod_id, ps_bptr, r1, secE, em, es, List.zip_cons_cons, List.zip_nil_right, List.foldl_cons, List.foldl_nil]
  have hb : ∃ env2, runC lib ⟨h.length, h.length, 3, some (h.length + 0, 1)⟩ r1.body ([(6, .bptr (h.length + 2) 1 0), (7, .bptr (h.length + 1) (v + 1) 0)], (h ++ [(1, Blk.rcd D .ready), (v + 1, Blk.box [.int .i64 p1, .int .i64 p2]), (1, Blk.box [.int .i64 n]), (1, Blk.box cs)]).set (h.length + 0) (1, .rcd D .busy)) =
      some (.norm, (env2, h ++ [(1, .rcd D .busy), (v + 1, .box [.int .i64 p1, .int .i64 p2]), (1, .box [.int .i64 (n + (p2 - p1))]), (1, .box cs)])) := by
    refine ⟨[], ?_⟩
    rw [set_fr]
    simp (maxSteps := 1000000) (disch := omega) only [go_sem, ↓reduceIte, Nat.reduceEqDiff, Nat.reduceAdd, Nat.reduceSub, Nat.reduceMul, Nat.reduceLT, Nat.reduceLeDiff, reduceCtorEq, Nat.succ_ne_self, ne_eq, not_true_eq_false, not_false_eq_true, and_self, and_true, true_and, Nat.zero_add, Nat.sub_zero, Nat.zero_mul, Nat.one_mul, Nat.le_refl, List.getElem?_cons_zero, List.set_cons_zero, Int.reduceToNat, Int.reduceLT, Int.reduceLE, Int.reduceAdd, Int.reduceSub, Int.reduceMul, Int.reduceEq, Int.reduceNe, Int.toNat_natCast, Int.natCast_zero, wrap_id, wrapu_id, wrapb_id, idx_ok, bin_quo, bin_rem, tdiv_id, tmod_id, ps_bptr, r1, ps_bptr_int]
  obtain ⟨env2, hb⟩ := hb
  have hg : (h ++ [(1, Blk.rcd D .ready), (v, b), (1, .box [.int .i64 n]), (1, .box cs)])[h.length + 0]? = some (1, .rcd ⟨1, h.length, h.length, 3, secE h l f t⟩ .ready) := by rw [get_fr, ← hD]; rfl
  have := yield_round (L := lib) (cx := ⟨lo, h.length + 3, 1, none⟩) hg hlo (by omega) (by omega) (by simp [AV.closedL, AV.closed]) (x := r1) rfl rfl ha (by rw [get_fr]; rfl) hb (by rw [get_fr]; rfl)
  rw [this, set_fr]
  rfl
theorem secT_I (c : Nat) (s : Int × Nat × Blk) (p : Int × Int) (hc : c ≤ 3000) (hi : secI c s) (hp : okP p) : secI (c + 1) (secT s p) := by
  obtain ⟨q1, q2, q3, q4⟩ := hp
  obtain ⟨i1, i2⟩ := hi
  simp only [secI, secT]
  omega
def sumP (l : List (Int × Int)) : Int := l.foldl (fun n p => n + (p.2 - p.1)) 0
theorem secT_fst (L : List (Int × Int)) : ∀ s : Int × Nat × Blk, (L.foldl secT s).1 = L.foldl (fun n p => n + (p.2 - p.1)) s.1 := by
  induction L with
  | nil => intro s; rfl
  | cons p L ih => intro s; rw [List.foldl_cons, ih]; rfl
def hr (t : Int) : Nat := (t / 3600).toNat
def hrU (t : Int) : Nat := ((t + 3599) / 3600).toNat
def spells (l : List Int) (f t : Int) : List (Int × Int) := spA l f t (hrU t - hr f) (hr f)
theorem seconds_run {l : List Int} (hl : l.length = 7) (hv : vW l = true) {f t : Int} (hf : 0 ≤ f ∧ f < t ∧ t ≤ 10000000) (h : Heap) (lo : Nat) :
    (run lib).fn 16 [.agg (ints l), .agg [.int .i64 f, .int .i64 t]] h lo = some (.tuple [.int .i64 (sumP (spells l f t)), .int .i64 0], h) := by
  have ht : (ints l).take 7 = ints l := List.take_of_length_le (by simp [hl])
  have hn : 7 ≤ (ints l).length := by simp [hl]
  have hrs : rS f t = true := by simp [rS]; omega
  have hrr := fun h lo => right_run hl hv f t h lo
  rw [hrs] at hrr
  obtain ⟨_, g2⟩ := f41_run (lo := h.length) (id := h.length + 0) (H := secH h l f t .ready) (nb := h.length + 3) (step := secT) (Iv := secI) hl hv hf (fun s => by simp [secH]) (by omega) secT_I (fun c s p cs hc hi hp => sec_yield h l f t h.length (Nat.le_refl _) c s p cs hc hi hp) (hr f) (hrU t) (by unfold hr; omega) (by unfold hrU; omega) (by unfold hrU; omega) (0, 0, .dead) (by simp [secI])
  obtain ⟨s', hs'⟩ : ∃ s', s' = (spA l f t (hrU t - hr f) (hr f)).foldl secT (0, 0, .dead) := ⟨_, rfl⟩
  have hs1 : s'.1 = sumP (spells l f t) := by rw [hs', secT_fst]; rfl
  rw [← hs'] at g2
  obtain ⟨n, vb⟩ := s'
  simp only [] at hs1
  subst hs1
  have g3 := w_rfn (L := lib) (lo := h.length) (ns := 3) (s := 0) (g := 1) (it := 41) (v := 0) (caps := capsE l f t) (env := secE h l f t) (h := h) (b := .dead)
    (fr := [(0, .dead), (0, .dead), (1, .box [.int .i64 0])])
    (fr' := [(1, .rcd ⟨1, h.length, h.length, 3, secE h l f t⟩ .ready), vb, (1, .box [.int .i64 (sumP (spells l f t))])])
    (f := .t 14) rfl (by omega) rfl g2 rfl
  simp only [secE, capsE, List.set_cons_zero] at g3
  rw [run_closed (x := x16) rfl rfl rfl rfl]
  simp (maxSteps := 1000000) (disch := omega) only [go_sem, ↓reduceIte, Nat.reduceEqDiff, Nat.reduceAdd, Nat.reduceSub, Nat.reduceMul, Nat.reduceLT, Nat.reduceLeDiff, reduceCtorEq, Nat.succ_ne_self, ne_eq, not_true_eq_false, not_false_eq_true, and_self, and_true, true_and, Nat.zero_add, Nat.sub_zero, Nat.zero_mul, Nat.one_mul, Nat.le_refl, List.getElem?_cons_zero, List.set_cons_zero, Int.reduceToNat, Int.reduceLT, Int.reduceLE, Int.reduceAdd, Int.reduceSub, Int.reduceMul, Int.reduceEq, Int.reduceNe, Int.toNat_natCast, Int.natCast_zero, wrap_id, wrapu_id, wrapb_id, idx_ok, bin_quo, bin_rem, tdiv_id, tmod_id, ps_bptr, x16, frzL_ints, ht, hn, hrr, f30_run l hl, g3]
end Go.VI.Week
namespace Go.VI
theorem ps_bptr_f {lo ns s ver off : Nat} {h fr : Heap} {v : AV} {p : Nat × Nat} (hlo : lo ≤ h.length) (hc : (Cx.mk lo h.length ns (some p)).fit v = true) (hv : v.cells.length = 1 ∧ v.val = true) :
    pstore ⟨lo, h.length, ns, some p⟩ (h ++ fr) 1 (.bptr (h.length + s) ver off) v = psB s lo ns ver off h fr v fr[s]? := by
  simp only [pstore, hv, and_self, if_true, get_fr]
  cases fr[s]? with
  | none => rfl
  | some x =>
    obtain ⟨w, b⟩ := x
    cases b with
    | box cs =>
      have hle : lo ≤ h.length + s := by omega
      by_cases hw : w = ver
      · simp [psB, hw, hle, hc, set_fr]
      · simp [psB, hw]
    | _ => rfl
end Go.VI
namespace Go.VI.Week
set_option linter.unusedVariables false
set_option linter.unusedSimpArgs false

def pt (p : Int × Int) : AV := .agg [.int .i64 p.1, .int .i64 p.2]
def pts (l : List (Int × Int)) : List AV := l.map pt
@[simp] theorem pts_len (l : List (Int × Int)) : (pts l).length = l.length := by simp [pts]
def splE (h : Heap) (l : List Int) (f t : Int) : Env := [(4, .nilSl), (5, .int .i64 0), (6, .bptr (h.length + 3) 1 0), (14, .fn 41 (capsE l f t))]
def splH (h : Heap) (l : List Int) (f t : Int) (st : RS) (s : List (Int × Int) × Nat × Blk) : Heap :=
  h ++ [(1, .rcd ⟨0, h.length, h.length, 4, splE h l f t⟩ st), s.2, accB (0, .dead) 2 (pts s.1), (1, .box [accV (h.length + 2) (0, .dead) 2 (pts s.1)])]
def splT (s : List (Int × Int) × Nat × Blk) (p : Int × Int) : List (Int × Int) × Nat × Blk := (s.1 ++ [p], s.2.1 + 1, .box [.int .i64 p.1, .int .i64 p.2])
def splI (c : Nat) (s : List (Int × Int) × Nat × Blk) : Prop := s.1.length = c
theorem accV_cells (id : Nat) (b0 : Nat × Blk) (z : Nat) (es : List AV) : (accV id b0 z es).cells = [accV id b0 z es] := by unfold accV; split <;> rfl
theorem accV_fit {lo base ns s : Nat} {p : Nat × Nat} {b0 : Nat × Blk} {z : Nat} {es : List AV} (h : s < ns) : (Cx.mk lo base ns (some p)).fit (accV (base + s) b0 z es) = true := by
  unfold accV
  split
  · rfl
  · simp [Cx.fit, AV.lowB, h]
theorem spl_yield (h : Heap) (l : List Int) (f t : Int) (lo : Nat) (hlo : lo ≤ h.length) (c : Nat) (s : List (Int × Int) × Nat × Blk) (p : Int × Int) (cs : List AV) (hc : c ≤ 3000) (hi : splI c s) (hp : okP p) :
    yieldv (run lib) ⟨lo, h.length + 4, 1, none⟩ (h.length + 0) 1 [.agg [.int .i64 p.1, .int .i64 p.2]] (splH h l f t .ready s ++ [(1, .box cs)]) = some (.bool true, splH h l f t .ready (splT s p) ++ [(1, .box cs)]) := by
  obtain ⟨out, v, b⟩ := s
  obtain ⟨p1, p2⟩ := p
  simp only [splI] at hi
  obtain ⟨D, hD⟩ : ∃ D : Rcd, D = ⟨0, h.length, h.length, 4, splE h l f t⟩ := ⟨_, rfl⟩
  have hpt : pts (out ++ [(p1, p2)]) = pts out ++ [.agg [.int .i64 p1, .int .i64 p2]] := by simp [pts, pt]
  simp only [splH, splT, List.append_assoc, List.cons_append, List.nil_append, ← hD, hpt]
  obtain ⟨es, hes⟩ : ∃ es, es = pts out := ⟨_, rfl⟩
  have hel : es.length = c := by rw [hes, pts_len, hi]
  rw [← hes]
  have ha : runC lib ⟨h.length, h.length, 4, some (h.length + 0, 1)⟩ r0.asg ((r0.ps.zip [.agg [.int .i64 p1, .int .i64 p2]]).foldl (fun e p => e.set p.1 p.2) (splE h l f t), h ++ [(1, .rcd D .ready), (v, b), accB (0, .dead) 2 es, (1, .box [accV (h.length + 2) (0, .dead) 2 es]), (1, .box cs)]) =
      some (.norm, ([(6, .bptr (h.length + 3) 1 0), (7, .bptr (h.length + 1) (v + 1) 0)], h ++ [(1, .rcd D .ready), (v + 1, .box [.int .i64 p1, .int .i64 p2]), accB (0, .dead) 2 es, (1, .box [accV (h.length + 2) (0, .dead) 2 es]), (1, .box cs)])) := by
    have em : mkAt ⟨h.length, h.length, 4, some (h.length + 0, 1)⟩ 1 (.box [.int .i64 0, .int .i64 0]) (h ++ [(1, .rcd D .ready), (v, b), accB (0, .dead) 2 es, (1, .box [accV (h.length + 2) (0, .dead) 2 es]), (1, .box cs)]) = some (v + 1, h ++ [(1, .rcd D .ready), (v + 1, .box [.int .i64 0, .int .i64 0]), accB (0, .dead) 2 es, (1, .box [accV (h.length + 2) (0, .dead) 2 es]), (1, .box cs)]) := by
      rw [mkAt_r (by rfl)]
      simp (maxSteps := 1000000) (disch := omega) only [go_sem, ↓reduceIte, Nat.reduceEqDiff, Nat.reduceAdd, Nat.reduceSub, Nat.reduceMul, Nat.reduceLT, Nat.reduceLeDiff, reduceCtorEq, Nat.succ_ne_self, ne_eq, not_true_eq_false, not_false_eq_true, and_self, and_true, true_and, Nat.zero_add, Nat.sub_zero, Nat.zero_mul, Nat.one_mul, Nat.le_refl, List.getElem?_cons_zero, List.set_cons_zero, Int.reduceToNat, Int.reduceLT, Int.reduceLE, Int.reduceAdd, Int.reduceSub, Int.reduceMul, Int.reduceEq, Int.reduceNe, Int.toNat_natCast, Int.natCast_zero, wrap_id, wrapu_id, wrapb_id, idx_ok, bin_quo, bin_rem, tdiv_id, tmod_id, ps_bptr]
    have es : pstore ⟨h.length, h.length, 4, some (h.length + 0, 1)⟩ (h ++ [(1, .rcd D .ready), (v + 1, .box [.int .i64 0, .int .i64 0]), accB (0, .dead) 2 es, (1, .box [accV (h.length + 2) (0, .dead) 2 es]), (1, .box cs)]) 2 (.bptr (h.length + 1) (v + 1) 0) (.agg [.int .i64 p1, .int .i64 p2]) = some (h ++ [(1, .rcd D .ready), (v + 1, .box [.int .i64 p1, .int .i64 p2]), accB (0, .dead) 2 es, (1, .box [accV (h.length + 2) (0, .dead) 2 es]), (1, .box cs)]) := by
      rw [ps_bptr_r (by omega) (by rfl)]
      simp (maxSteps := 1000000) (disch := omega) only [go_sem, ↓reduceIte, Nat.reduceEqDiff, Nat.reduceAdd, Nat.reduceSub, Nat.reduceMul, Nat.reduceLT, Nat.reduceLeDiff, reduceCtorEq, Nat.succ_ne_self, ne_eq, not_true_eq_false, not_false_eq_true, and_self, and_true, true_and, Nat.zero_add, Nat.sub_zero, Nat.zero_mul, Nat.one_mul, Nat.le_refl, List.getElem?_cons_zero, List.set_cons_zero, Int.reduceToNat, Int.reduceLT, Int.reduceLE, Int.reduceAdd, Int.reduceSub, Int.reduceMul, Int.reduceEq, Int.reduceNe, Int.toNat_natCast, Int.natCast_zero, wrap_id, wrapu_id, wrapb_id, idx_ok, bin_quo, bin_rem, tdiv_id, tmod_id, ps_bptr]
    simp (maxSteps := 1000000) (disch := omega) only [go_sem, ↓reduceIte, Nat.reduceEqDiff, Nat.reduceAdd, Nat.reduceSub, Nat.reduceMul, Nat.reduceLT, Nat.reduceLeDiff, reduceCtorEq, Nat.succ_ne_self, ne_eq, not_true_eq_false, not_false_eq_true, and_self, and_true, true_and, Nat.zero_add, Nat.sub_zero, Nat.zero_mul, Nat.one_mul, Nat.le_refl, List.getElem?_cons_zero, List.set_cons_zero, Int.reduceToNat, Int.reduceLT, Int.reduceLE, Int.reduceAdd, Int.reduceSub, Int.reduceMul, Int.reduceEq, Int.reduceNe, Int.toNat_natCast, Int.natCast_zero, wrap_id, wrapu_id, wrapb_id, idx_ok, bin_quo, bin_rem, tdiv_id, tmod_id, ps_bptr, r0, splE, em, es, List.zip_cons_cons, List.zip_nil_right, List.foldl_cons, List.foldl_nil]
  have hb : ∃ env2, runC lib ⟨h.length, h.length, 4, some (h.length + 0, 1)⟩ r0.body ([(6, .bptr (h.length + 3) 1 0), (7, .bptr (h.length + 1) (v + 1) 0)], (h ++ [(1, Blk.rcd D .ready), (v + 1, Blk.box [.int .i64 p1, .int .i64 p2]), accB (0, .dead) 2 es, (1, Blk.box [accV (h.length + 2) (0, .dead) 2 es]), (1, Blk.box cs)]).set (h.length + 0) (1, .rcd D .busy)) =
      some (.norm, (env2, h ++ [(1, .rcd D .busy), (v + 1, .box [.int .i64 p1, .int .i64 p2]), accB (0, .dead) 2 (es ++ [.agg [.int .i64 p1, .int .i64 p2]]), (1, .box [accV (h.length + 2) (0, .dead) 2 (es ++ [.agg [.int .i64 p1, .int .i64 p2]])]), (1, .box cs)])) := by
    refine ⟨[], ?_⟩
    rw [set_fr]
    have ea := app_acc (lo := h.length) (ns := 4) (s := 2) (z := 2) (lim := 8796093022208) (h := h) (fr := [(1, .rcd D .busy), (v + 1, .box [.int .i64 p1, .int .i64 p2]), accB (0, .dead) 2 es, (1, .box [accV (h.length + 2) (0, .dead) 2 es]), (1, .box cs)]) (b0 := (0, .dead)) (es := es) (xs := [.agg [.int .i64 p1, .int .i64 p2]]) (by omega) (by omega) rfl (by simp; omega)
    rw [← appv_r (p := (h.length + 0, 1))] at ea
    have es := ps_bptr_f (lo := h.length) (ns := 4) (s := 3) (ver := 1) (off := 0) (h := h) (p := (h.length + 0, 1)) (fr := [(1, .rcd D .busy), (v + 1, .box [.int .i64 p1, .int .i64 p2]), accB (0, .dead) 2 (es ++ [.agg [.int .i64 p1, .int .i64 p2]]), (1, .box [accV (h.length + 2) (0, .dead) 2 es]), (1, .box cs)]) (v := accV (h.length + 2) (0, .dead) 2 (es ++ [.agg [.int .i64 p1, .int .i64 p2]])) (by omega) (accV_fit (by omega)) ⟨by rw [accV_cells]; rfl, accV_val _ _ _ _⟩
    simp (maxSteps := 1000000) (disch := omega) only [go_sem, ↓reduceIte, Nat.reduceEqDiff, Nat.reduceAdd, Nat.reduceSub, Nat.reduceMul, Nat.reduceLT, Nat.reduceLeDiff, reduceCtorEq, Nat.succ_ne_self, ne_eq, not_true_eq_false, not_false_eq_true, and_self, and_true, true_and, Nat.zero_add, Nat.sub_zero, Nat.zero_mul, Nat.one_mul, Nat.le_refl, List.getElem?_cons_zero, List.set_cons_zero, Int.reduceToNat, Int.reduceLT, Int.reduceLE, Int.reduceAdd, Int.reduceSub, Int.reduceMul, Int.reduceEq, Int.reduceNe, Int.toNat_natCast, Int.natCast_zero, wrap_id, wrapu_id, wrapb_id, idx_ok, bin_quo, bin_rem, tdiv_id, tmod_id, ps_bptr, r0, ea, es, accV_cells]
  obtain ⟨env2, hb⟩ := hb
  have hg : (h ++ [(1, Blk.rcd D .ready), (v, b), accB (0, .dead) 2 es, (1, .box [accV (h.length + 2) (0, .dead) 2 es]), (1, .box cs)])[h.length + 0]? = some (1, .rcd ⟨0, h.length, h.length, 4, splE h l f t⟩ .ready) := by rw [get_fr, ← hD]; rfl
  have := yield_round (L := lib) (cx := ⟨lo, h.length + 4, 1, none⟩) hg hlo (by omega) (by omega) (by simp [AV.closedL, AV.closed]) (x := r0) rfl rfl ha (by rw [get_fr]; rfl) hb (by rw [get_fr]; rfl)
  rw [this, set_fr]
  rfl
theorem splT_I (c : Nat) (s : List (Int × Int) × Nat × Blk) (p : Int × Int) (hc : c ≤ 3000) (hi : splI c s) (hp : okP p) : splI (c + 1) (splT s p) := by
  simp only [splI, splT, List.length_append, List.length_singleton] at *
  omega
theorem splT_fst (L : List (Int × Int)) : ∀ s : List (Int × Int) × Nat × Blk, (L.foldl splT s).1 = s.1 ++ L := by
  induction L with
  | nil => intro s; simp
  | cons p L ih => intro s; rw [List.foldl_cons, ih]; simp [splT]
theorem spells_run {l : List Int} (hl : l.length = 7) (hv : vW l = true) {f t : Int} (hf : 0 ≤ f ∧ f < t ∧ t ≤ 10000000) (h : Heap) (lo : Nat) :
    (spells l f t).length ≤ 2779 ∧ (run lib).fn 15 [.agg (ints l), .agg [.int .i64 f, .int .i64 t]] h lo = some (.tuple [ownV 2 (pts (spells l f t)), .int .i64 0], h) := by
  have ht : (ints l).take 7 = ints l := List.take_of_length_le (by simp [hl])
  have hn : 7 ≤ (ints l).length := by simp [hl]
  have hrs : rS f t = true := by simp [rS]; omega
  have hrr := fun h lo => right_run hl hv f t h lo
  rw [hrs] at hrr
  obtain ⟨⟨c, hc1, hc2⟩, g2⟩ := f41_run (lo := h.length) (id := h.length + 0) (H := splH h l f t .ready) (nb := h.length + 4) (step := splT) (Iv := splI) hl hv hf (fun s => by simp [splH]) (by omega) splT_I (fun c s p cs hc hi hp => spl_yield h l f t h.length (Nat.le_refl _) c s p cs hc hi hp) (hr f) (hrU t) (by unfold hr; omega) (by unfold hrU; omega) (by unfold hrU; omega) ([], 0, .dead) (by simp [splI])
  obtain ⟨s', hs'⟩ : ∃ s', s' = (spA l f t (hrU t - hr f) (hr f)).foldl splT ([], 0, .dead) := ⟨_, rfl⟩
  have hs1 : s'.1 = spells l f t := by rw [hs', splT_fst]; rfl
  rw [← hs'] at g2 hc2
  obtain ⟨n, vb⟩ := s'
  simp only [splI] at hs1 hc2
  subst hs1
  refine ⟨by omega, ?_⟩
  have g3 := w_rfn (L := lib) (lo := h.length) (ns := 4) (s := 0) (g := 0) (it := 41) (v := 0) (caps := capsE l f t) (env := splE h l f t) (h := h) (b := .dead)
    (fr := [(0, .dead), (0, .dead), (0, .dead), (1, .box [.nilSl])])
    (fr' := [(1, .rcd ⟨0, h.length, h.length, 4, splE h l f t⟩ .ready), vb, accB (0, .dead) 2 (pts (spells l f t)), (1, .box [accV (h.length + 2) (0, .dead) 2 (pts (spells l f t))])])
    (f := .t 14) rfl (by omega) rfl g2 rfl
  simp only [splE, capsE, List.set_cons_zero] at g3
  have g4 := give_acc (s := 2) (z := 2) (h := h) (b0 := (0, .dead)) (es := pts (spells l f t)) (fr := [(1 + 0, .dead), vb, accB (0, .dead) 2 (pts (spells l f t)), (1, .box [accV (h.length + 2) (0, .dead) 2 (pts (spells l f t))])]) rfl
  rw [run_closed (x := x15) rfl rfl rfl rfl]
  simp (maxSteps := 1000000) (disch := omega) only [go_sem, ↓reduceIte, Nat.reduceEqDiff, Nat.reduceAdd, Nat.reduceSub, Nat.reduceMul, Nat.reduceLT, Nat.reduceLeDiff, reduceCtorEq, Nat.succ_ne_self, ne_eq, not_true_eq_false, not_false_eq_true, and_self, and_true, true_and, Nat.zero_add, Nat.sub_zero, Nat.zero_mul, Nat.one_mul, Nat.le_refl, List.getElem?_cons_zero, List.set_cons_zero, Int.reduceToNat, Int.reduceLT, Int.reduceLE, Int.reduceAdd, Int.reduceSub, Int.reduceMul, Int.reduceEq, Int.reduceNe, Int.toNat_natCast, Int.natCast_zero, wrap_id, wrapu_id, wrapb_id, idx_ok, bin_quo, bin_rem, tdiv_id, tmod_id, ps_bptr, x15, frzL_ints, ht, hn, hrr, f30_run l hl, g3, g4]
end Go.VI.Week
