import Derived.Test.YtegokpicloedeaaMixP
namespace Go.VI.Mix
set_option linter.unusedVariables false
set_option linter.unusedSimpArgs false

/-! Ducking is monotone. -/
def LeB (p q : List Bool) : Prop := p.length = q.length ∧ ∀ i : Nat, p[i]? = some true → q[i]? = some true
theorem LeB.tail {b c : Bool} {p q : List Bool} (h : LeB (b :: p) (c :: q)) : (b = true → c = true) ∧ LeB p q :=
  ⟨fun hb => by simpa using h.2 0 (by simp [hb]), by simpa using h.1, fun i hi => by simpa using h.2 (i + 1) (by simpa using hi)⟩
theorem LeB.take {p q : List Bool} (h : LeB p q) (n : Nat) : LeB (p.take n) (q.take n) :=
  ⟨by simp [h.1], fun i hi => by
    rw [List.getElem?_take] at hi ⊢
    split at hi
    · rename_i c; rw [if_pos c]; exact h.2 i hi
    · simp at hi⟩
theorem LeB.drop {p q : List Bool} (h : LeB p q) (n : Nat) : LeB (p.drop n) (q.drop n) :=
  ⟨by simp [h.1], fun i hi => by
    rw [List.getElem?_drop] at hi ⊢
    exact h.2 _ hi⟩
theorem LeB.rev {p q : List Bool} (h : LeB p q) : LeB p.reverse q.reverse :=
  ⟨by simp [h.1], fun i hi => by
    have hl : i < p.length := by
      have := (List.getElem?_eq_some_iff.mp hi).1
      simpa using this
    rw [List.getElem?_reverse hl] at hi
    rw [List.getElem?_reverse (by rw [← h.1]; exact hl), ← h.1]
    exact h.2 _ hi⟩
theorem lastS_mono : ∀ (p q : List Bool) (a a' : Int), LeB p q → a' ≤ a → 0 ≤ a → lastS a' q ≤ lastS a p
  | [], [], a, a', _, h, _ => h
  | [], c :: q, a, a', h, _, _ => by simp [LeB] at h
  | b :: p, [], a, a', h, _, _ => by simp [LeB] at h
  | b :: p, c :: q, a, a', h, h1, h2 => by
    obtain ⟨h3, h4⟩ := h.tail
    rw [lastS, lastS]
    refine lastS_mono p q _ _ h4 ?_ ?_
    · cases b <;> cases c <;> simp_all <;> omega
    · split <;> omega
theorem rampS_mono {fl fl' long d d' : Int} (h0 : 0 ≤ fl' ∧ fl' ≤ fl ∧ fl ≤ 1024) (h1 : 1 ≤ long) (h2 : 0 ≤ d') (h3 : d' ≤ d) : rampS fl' long d' ≤ rampS fl long d := by
  unfold rampS
  obtain ⟨m, hm⟩ : ∃ m, m = min d long := ⟨_, rfl⟩
  obtain ⟨m', hm'⟩ : ∃ m', m' = min d' long := ⟨_, rfl⟩
  rw [← hm, ← hm']
  have a1 : m' ≤ m := by omega
  have a2 : 0 ≤ m' := by omega
  have a3 : m ≤ long := by omega
  have k1 : (1024 - fl) * m' ≤ (1024 - fl) * m := Int.mul_le_mul_of_nonneg_left a1 (by omega)
  have k2 : (fl - fl') * m' ≤ (fl - fl') * long := Int.mul_le_mul_of_nonneg_left (by omega) (by omega)
  have k3 : (1024 - fl') * m' = (1024 - fl) * m' + (fl - fl') * m' := by rw [← Int.add_mul]; congr 1; omega
  have k4 : (1024 - fl') * m' ≤ (1024 - fl) * m + (fl - fl') * long := by omega
  have k5 := Int.ediv_le_ediv (show 0 < long by omega) k4
  rw [Int.add_mul_ediv_right _ _ (by omega)] at k5
  omega
theorem duckAt_mono {lev lev' fl fl' att rel : Int} {l l' : List Int} (h : LeB (l.map (onS lev)) (l'.map (onS lev'))) (h0 : 0 ≤ fl' ∧ fl' ≤ fl ∧ fl ≤ 1024) (ha : 1 ≤ att) (hr : 1 ≤ rel) (i : Nat) :
    duckAt lev' fl' att rel l' i ≤ duckAt lev fl att rel l i := by
  have e1 := lastS_mono _ _ 1200 1200 (h.take (i + 1)) (by omega) (by omega)
  have e2 := lastS_mono _ _ 1200 1200 (h.drop i).rev (by omega) (by omega)
  rw [← List.map_take, ← List.map_take] at e1
  rw [← List.map_drop, ← List.map_drop] at e2
  have b1 := lastS_bd ((l'.take (i + 1)).map (onS lev')) 1200 (by omega)
  have b2 := lastS_bd ((l'.drop i).map (onS lev')).reverse 1200 (by omega)
  have r1 := rampS_mono (d := lastS 1200 ((l.take (i + 1)).map (onS lev))) h0 hr b1.1 e1
  have r2 := rampS_mono (d := lastS 1200 ((l.drop i).map (onS lev)).reverse) h0 ha b2.1 e2
  unfold duckAt; omega
theorem leB_map {lev lev' : Int} {l l' : List Int} (hl : l.length = l'.length) (h : ∀ i (h1 : i < l.length) (h2 : i < l'.length), max l[i] (-l[i]) - lev ≤ max l'[i] (-l'[i]) - lev') : LeB (l.map (onS lev)) (l'.map (onS lev')) := by
  refine ⟨by simp [hl], fun i hi => ?_⟩
  rw [List.getElem?_map] at hi ⊢
  obtain ⟨x, hx, hon⟩ := Option.map_eq_some_iff.mp hi
  obtain ⟨h1, rfl⟩ := List.getElem?_eq_some_iff.mp hx
  have h2 : i < l'.length := by omega
  rw [List.getElem?_eq_getElem h2]
  have := h i h1 h2
  simp only [onS, decide_eq_true_eq] at hon
  simp only [Option.map_some, Option.some.injEq, onS, decide_eq_true_eq]
  omega

theorem law9_loop {H : Heap} {cx : Cx} {u0 u1 u2 u3 : AV} {g0 g1 g2 g3 : List Int} (n : Nat) (s0 : Sl H 1 u0 (ints g0)) (s1 : Sl H 1 u1 (ints g1)) (s2 : Sl H 1 u2 (ints g2)) (s3 : Sl H 1 u3 (ints g3)) (hn : n ≤ 600)
    (l0 : g0.length = n) (l1 : g1.length = n) (l2 : g2.length = n) (l3 : g3.length = n)
    (hg : ∀ i (h : i < n), g1[i] ≤ g0[i] ∧ g2[i] ≤ g0[i] ∧ g3[i] ≤ g0[i]) (d : Nat) :
    ∀ k : Nat, d = n - k → k ≤ n →
    runC lib cx (.loop b9_0) ([(11, .bool true), (17, u0), (19, u1), (21, u2), (24, u3), (26, .int .i64 k)], H) = some (.exit 0, ([(11, .bool true)], H)) := by
  have hul := s0.len
  rw [ints_len, l0] at hul
  induction d with
  | zero =>
    intro k hd hk
    have c1 : ¬ (k : Int) < n := by omega
    rw [w_loop]
    simp (maxSteps := 1000000) (disch := omega) only [go_sem, ↓reduceIte, Nat.reduceEqDiff, Nat.reduceAdd, Nat.reduceSub, Nat.reduceMul, Nat.reduceLT, Nat.reduceLeDiff, reduceCtorEq, Nat.succ_ne_self, ne_eq, not_true_eq_false, not_false_eq_true, and_self, and_true, true_and, Nat.zero_add, Nat.sub_zero, Nat.zero_mul, Nat.one_mul, Nat.le_refl, List.getElem?_cons_zero, List.set_cons_zero, Int.reduceToNat, Int.reduceLT, Int.reduceLE, Int.reduceAdd, Int.reduceSub, Int.reduceMul, Int.reduceEq, Int.reduceNe, Int.toNat_natCast, Int.natCast_zero, wrap_id, wrapu_id, wrapb_id, idx_ok, bin_quo, bin_rem, tdiv_id, tmod_id, ps_bptr, lenv_sl hul, c1]
  | succ d ih =>
    intro k hd hk
    have hk' : k < n := by omega
    have c1 : (k : Int) < n := by omega
    have x0 : sidx 1 u0 (.int .i64 k) = some k := by rw [sidx_sl s0 (by omega) (by simp; omega)]; simp
    have x1 : sidx 1 u1 (.int .i64 k) = some k := by rw [sidx_sl s1 (by omega) (by simp; omega)]; simp
    have x2 : sidx 1 u2 (.int .i64 k) = some k := by rw [sidx_sl s2 (by omega) (by simp; omega)]; simp
    have x3 : sidx 1 u3 (.int .i64 k) = some k := by rw [sidx_sl s3 (by omega) (by simp; omega)]; simp
    have p0 := fun off => pc_iptr (off := off) s0.elems0 (show k < (ints g0).length by simp; omega)
    have p1 := fun off => pc_iptr (off := off) s1.elems0 (show k < (ints g1).length by simp; omega)
    have p2 := fun off => pc_iptr (off := off) s2.elems0 (show k < (ints g2).length by simp; omega)
    have p3 := fun off => pc_iptr (off := off) s3.elems0 (show k < (ints g3).length by simp; omega)
    simp only [ints_get] at p0 p1 p2 p3
    obtain ⟨q1, q2, q3⟩ := hg k hk'
    have e := ih (k + 1) (by omega) (by omega)
    rw [cast1] at e
    have r1 : ¬ g0[k] < g1[k] := by omega
    have r2 : ¬ g0[k] < g2[k] := by omega
    have r3 : ¬ g0[k] < g3[k] := by omega
    clear hg ih s0 s1 s2 s3
    rw [w_loop]
    simp (maxSteps := 1000000) (disch := omega) only [go_sem, ↓reduceIte, Nat.reduceEqDiff, Nat.reduceAdd, Nat.reduceSub, Nat.reduceMul, Nat.reduceLT, Nat.reduceLeDiff, reduceCtorEq, Nat.succ_ne_self, ne_eq, not_true_eq_false, not_false_eq_true, and_self, and_true, true_and, Nat.zero_add, Nat.sub_zero, Nat.zero_mul, Nat.one_mul, Nat.le_refl, List.getElem?_cons_zero, List.set_cons_zero, Int.reduceToNat, Int.reduceLT, Int.reduceLE, Int.reduceAdd, Int.reduceSub, Int.reduceMul, Int.reduceEq, Int.reduceNe, Int.toNat_natCast, Int.natCast_zero, wrap_id, wrapu_id, wrapb_id, idx_ok, bin_quo, bin_rem, tdiv_id, tmod_id, ps_bptr, lenv_sl hul, c1, x0, x1, x2, x3, p0, p1, p2, p3, r1, r2, r3, e]
end Go.VI.Mix
