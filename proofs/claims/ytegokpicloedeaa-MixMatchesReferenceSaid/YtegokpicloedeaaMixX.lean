import Derived.Test.YtegokpicloedeaaMixK
import Derived.Test.YtegokpicloedeaaMixH
namespace Go.VI.Mix
set_option linter.unusedVariables false
set_option linter.unusedSimpArgs false

/-- A faded sample. -/
def fadeV (n : Nat) (x y : Int) (i : Nat) : Int := (x * (2 * n - 2 * i - 1) + y * (2 * i + 1) + n) / (2 * n)
def fadeAt (a b : List Int) (n i : Nat) : Int := fadeV n (a.getD (a.length - n + i) 0) (b.getD i 0) i
def fadeS (a b : List Int) (n : Nat) : List Int := a.take (a.length - n) ++ (List.range n).map (fadeAt a b n) ++ b.drop n
def fadeK (a b : List Int) (n k : Nat) : List Int := a.take (a.length - n) ++ (List.range k).map (fadeAt a b n) ++ b.drop k
theorem fadeK_len {a b : List Int} {n k : Nat} (h1 : n ≤ a.length) (h2 : n ≤ b.length) (h3 : k ≤ n) : (fadeK a b n k).length = a.length - n + b.length := by
  simp [fadeK]; omega
theorem fadeK_set {a b : List Int} {n k : Nat} (h1 : n ≤ a.length) (h2 : n ≤ b.length) (h3 : k < n) : (fadeK a b n k).set (a.length - n + k) (fadeAt a b n k) = fadeK a b n (k + 1) := by
  have hl : (a.take (a.length - n) ++ (List.range k).map (fadeAt a b n)).length = a.length - n + k := by simp
  rw [fadeK, List.set_append_right _ _ (by omega), hl, Nat.sub_self, List.drop_eq_getElem_cons (show k < b.length by omega), List.set_cons_zero, fadeK, List.range_succ, List.map_append, List.map_singleton]
  simp
theorem fadeV_bd {n : Nat} {x y : Int} {i : Nat} (hi : i < n) (hn : n ≤ 600) (hx : -32768 ≤ x ∧ x ≤ 32767) (hy : -32768 ≤ y ∧ y ≤ 32767) : -39321600 ≤ x * (2 * n - 2 * i - 1) ∧ x * (2 * n - 2 * i - 1) ≤ 39321600 ∧ -39321600 ≤ y * (2 * i + 1) ∧ y * (2 * i + 1) ≤ 39321600 := by
  have a := mul_bd (A := 32768) (B := 1200) (x := x) (y := 2 * n - 2 * i - 1) (by omega) (by omega) (by omega) (by omega)
  have b := mul_bd (A := 32768) (B := 1200) (x := y) (y := 2 * i + 1) (by omega) (by omega) (by omega) (by omega)
  omega
theorem fade_loop {h : Heap} {v u : AV} {a b : List Int} (hv : Sl h 1 v (ints a)) (hu : Sl h 1 u (ints b)) (ha : a.length ≤ 600) (hb : b.length ≤ 600) (hax : ∀ x ∈ a, -32768 ≤ x ∧ x ≤ 32767) (hbx : ∀ x ∈ b, -32768 ≤ x ∧ x ≤ 32767) (n N f : Nat) (hna : n ≤ a.length) (hnb : n ≤ b.length) (hf : f = a.length - n) (hN : N = a.length - n + b.length) (ver : Nat) (d : Nat) :
    ∀ k : Nat, d = n - k → k ≤ n →
    runC lib ⟨h.length, h.length, 1, none⟩ (.loop b25_0) ([(0, v), (1, u), (2, .int .i64 n), (8, .int .i64 f), (9, .ref (h.length + 0) ver 1 0 N N), (58, .int .i64 n), (59, .int .i64 k)], h ++ [(ver, .arr 1 (ints (fadeK a b n k)))]) =
      some (.exit 0, ([(9, .ref (h.length + 0) ver 1 0 N N)], h ++ [(ver, .arr 1 (ints (fadeS a b n)))])) := by
  induction d with
  | zero =>
    intro k hd hk
    obtain ⟨m, hm⟩ : ∃ m, m = n := ⟨_, rfl⟩
    have hkm : k = m := by omega
    have : fadeK a b n k = fadeS a b n := by rw [hkm, hm]; rfl
    have c1 : ¬ (k : Int) < n := by omega
    rw [this, w_loop]
    simp (maxSteps := 1000000) (disch := omega) only [go_sem, ↓reduceIte, Nat.reduceEqDiff, Nat.reduceAdd, Nat.reduceSub, Nat.reduceMul, Nat.reduceLT, Nat.reduceLeDiff, reduceCtorEq, Nat.succ_ne_self, ne_eq, not_true_eq_false, not_false_eq_true, and_self, and_true, true_and, Nat.zero_add, Nat.sub_zero, Nat.zero_mul, Nat.one_mul, Nat.le_refl, List.getElem?_cons_zero, List.set_cons_zero, Int.reduceToNat, Int.reduceLT, Int.reduceLE, Int.reduceAdd, Int.reduceSub, Int.reduceMul, Int.reduceEq, Int.reduceNe, Int.toNat_natCast, Int.natCast_zero, wrap_id, wrapu_id, wrapb_id, idx_ok, bin_quo, bin_rem, tdiv_id, tmod_id, ps_bptr, c1]
  | succ d ih =>
    intro k hd hk
    have hk' : k < n := by omega
    have c1 : (k : Int) < n := by omega
    have hcl : (fadeK a b n k).length = N := by rw [fadeK_len hna hnb (by omega), hN]
    have hr := Sl.refAll (h := h) (fr := [(ver, .arr 1 (ints (fadeK a b n k)))]) (s := 0) (ver := ver) (z := 1) (es := ints (fadeK a b n k)) rfl
    rw [ints_len, hcl] at hr
    have s0 : sidx 1 (.ref (h.length + 0) ver 1 0 N N) (.int .i64 ((f : Int) + k)) = some (f + k) := by rw [sidx_sl hr (by omega) (by simp; omega)]; congr 1
    have s1 : sidx 1 v (.int .i64 ((f : Int) + k)) = some (f + k) := by rw [sidx_sl hv (by omega) (by simp; omega)]; congr 1
    have s2 : sidx 1 u (.int .i64 k) = some k := by rw [sidx_sl hu (by omega) (by simp; omega)]; simp
    have p1 := fun off fr => pc_iptr (off := off) (hv.elems fr) (show f + k < (ints a).length by simp; omega)
    have p2 := fun off fr => pc_iptr (off := off) (hu.elems fr) (show k < (ints b).length by simp; omega)
    simp only [ints_get] at p1 p2
    have b1 := hax _ (List.getElem_mem (show f + k < a.length by omega))
    have b2 := hbx _ (List.getElem_mem (show k < b.length by omega))
    have hfa : fadeAt a b n k = fadeV n (a[f + k]'(by omega)) (b[k]'(by omega)) k := by
      have e1 : a.getD (a.length - n + k) 0 = a[f + k]'(by omega) := by
        rw [← hf, List.getD_eq_getElem?_getD, List.getElem?_eq_getElem (by omega)]; rfl
      have e2 : b.getD k 0 = b[k]'(by omega) := by rw [List.getD_eq_getElem?_getD, List.getElem?_eq_getElem (by omega)]; rfl
      rw [fadeAt, e1, e2]
    obtain ⟨x, hx⟩ : ∃ x, x = a[f + k]'(by omega) := ⟨_, rfl⟩
    obtain ⟨y, hy⟩ : ∃ y, y = b[k]'(by omega) := ⟨_, rfl⟩
    rw [← hx] at p1 b1 hfa
    rw [← hy] at p2 b2 hfa
    obtain ⟨b3, b4, b5, b6⟩ := fadeV_bd hk' (by omega) b1 b2
    have e5 := ps_iptr_fr (lo := h.length) (ns := 1) (h := h) (fr := [(ver, .arr 1 ((fadeK a b n k).map (.int .i64)))]) (s := 0) (ver := ver) (o := 0) (len := N) (fill := N) (i := f + k) (k := .i64) (l := fadeK a b n k) (n := fadeAt a b n k) rfl hcl (by omega) (by omega) (by omega)
    have hset := fadeK_set hna hnb hk'
    rw [← hf] at hset
    rw [Nat.zero_add, hset, hfa, fadeV] at e5
    have e := ih (k + 1) (by omega) (by omega)
    rw [cast1] at e
    obtain ⟨p, hp⟩ : ∃ p, p = x * (2 * (n : Int) - 2 * k - 1) := ⟨_, rfl⟩
    obtain ⟨q, hq⟩ : ∃ q, q = y * (2 * (k : Int) + 1) := ⟨_, rfl⟩
    rw [← hp] at b3 b4
    rw [← hq] at b5 b6
    rw [← hp, ← hq] at e5
    rw [w_loop]
    simp only [ints] at e5 e ⊢
    clear hax hbx ih hr hset
    simp (maxSteps := 1000000) (disch := omega) only [go_sem, ↓reduceIte, Nat.reduceEqDiff, Nat.reduceAdd, Nat.reduceSub, Nat.reduceMul, Nat.reduceLT, Nat.reduceLeDiff, reduceCtorEq, Nat.succ_ne_self, ne_eq, not_true_eq_false, not_false_eq_true, and_self, and_true, true_and, Nat.zero_add, Nat.sub_zero, Nat.zero_mul, Nat.one_mul, Nat.le_refl, List.getElem?_cons_zero, List.set_cons_zero, Int.reduceToNat, Int.reduceLT, Int.reduceLE, Int.reduceAdd, Int.reduceSub, Int.reduceMul, Int.reduceEq, Int.reduceNe, Int.toNat_natCast, Int.natCast_zero, wrap_id, wrapu_id, wrapb_id, idx_ok, bin_quo, bin_rem, tdiv_id, tmod_id, ps_bptr, c1, s0, s1, p1, s2, p2, ← hp, ← hq, down_run, e5, e]
def fadeOk (a b : List Int) (n : Int) : Bool := soundB a && soundB b && inB n 0 (min (a.length : Int) (b.length : Int)) && decide ((a.length : Int) + b.length - n ≤ 600)
theorem fade_run {h : Heap} {v u : AV} {a b : List Int} (hv : Sl h 1 v (ints a)) (hu : Sl h 1 u (ints b)) (ha : a.length ≤ 9223372036854775807) (hb : b.length ≤ 9223372036854775807) (n : Int) (lo : Nat) :
    (run lib).fn 25 [v, u, .int .i64 n] h lo = some (if fadeOk a b n = true then .tuple [.own 1 (ints (fadeS a b n.toNat)), .int .i64 0] else .tuple [.own 0 [], .int .i64 170], h) := by
  have e1 := fun fr lo => sound_run (hv.app fr) ha lo
  have e2 := fun fr lo => sound_run (hu.app fr) hb lo
  have e3 : ∀ n a b (hh : Heap) lo, (run lib).fn 35 [.int .i64 n, .int .i64 a, .int .i64 b] hh lo = some (.bool (inB n a b), hh) := fun n a b hh lo => between_run n a b hh lo
  have hvl := hv.len
  have hul := hu.len
  simp only [ints_len] at hvl hul
  rw [run_closed (x := x25) rfl rfl rfl rfl]
  unfold fadeOk
  cases h1 : soundB a with
  | false => rw [h1] at e1; simp (maxSteps := 1000000) (disch := omega) only [go_sem, ↓reduceIte, Nat.reduceEqDiff, Nat.reduceAdd, Nat.reduceSub, Nat.reduceMul, Nat.reduceLT, Nat.reduceLeDiff, reduceCtorEq, Nat.succ_ne_self, ne_eq, not_true_eq_false, not_false_eq_true, and_self, and_true, true_and, Nat.zero_add, Nat.sub_zero, Nat.zero_mul, Nat.one_mul, Nat.le_refl, List.getElem?_cons_zero, List.set_cons_zero, Int.reduceToNat, Int.reduceLT, Int.reduceLE, Int.reduceAdd, Int.reduceSub, Int.reduceMul, Int.reduceEq, Int.reduceNe, Int.toNat_natCast, Int.natCast_zero, wrap_id, wrapu_id, wrapb_id, idx_ok, bin_quo, bin_rem, tdiv_id, tmod_id, ps_bptr, x25, e1]
  | true =>
  rw [h1] at e1
  cases h2 : soundB b with
  | false => rw [h2] at e2; simp (maxSteps := 1000000) (disch := omega) only [go_sem, ↓reduceIte, Nat.reduceEqDiff, Nat.reduceAdd, Nat.reduceSub, Nat.reduceMul, Nat.reduceLT, Nat.reduceLeDiff, reduceCtorEq, Nat.succ_ne_self, ne_eq, not_true_eq_false, not_false_eq_true, and_self, and_true, true_and, Nat.zero_add, Nat.sub_zero, Nat.zero_mul, Nat.one_mul, Nat.le_refl, List.getElem?_cons_zero, List.set_cons_zero, Int.reduceToNat, Int.reduceLT, Int.reduceLE, Int.reduceAdd, Int.reduceSub, Int.reduceMul, Int.reduceEq, Int.reduceNe, Int.toNat_natCast, Int.natCast_zero, wrap_id, wrapu_id, wrapb_id, idx_ok, bin_quo, bin_rem, tdiv_id, tmod_id, ps_bptr, x25, e1, e2]
  | true =>
  rw [h2] at e2
  cases h3 : inB n 0 (min (a.length : Int) (b.length : Int)) with
  | false => simp (maxSteps := 1000000) (disch := omega) only [go_sem, ↓reduceIte, Nat.reduceEqDiff, Nat.reduceAdd, Nat.reduceSub, Nat.reduceMul, Nat.reduceLT, Nat.reduceLeDiff, reduceCtorEq, Nat.succ_ne_self, ne_eq, not_true_eq_false, not_false_eq_true, and_self, and_true, true_and, Nat.zero_add, Nat.sub_zero, Nat.zero_mul, Nat.one_mul, Nat.le_refl, List.getElem?_cons_zero, List.set_cons_zero, Int.reduceToNat, Int.reduceLT, Int.reduceLE, Int.reduceAdd, Int.reduceSub, Int.reduceMul, Int.reduceEq, Int.reduceNe, Int.toNat_natCast, Int.natCast_zero, wrap_id, wrapu_id, wrapb_id, idx_ok, bin_quo, bin_rem, tdiv_id, tmod_id, ps_bptr, x25, e1, e2, e3, h3, lenv_sl hvl, lenv_sl hul]
  | true =>
  have b1 := soundB_le h1
  have b2 := soundB_le h2
  have b3 := inB_iff.mp h3
  by_cases h4 : (a.length : Int) + b.length - n ≤ 600
  · obtain ⟨m, hm⟩ : ∃ m : Nat, (m : Int) = n := ⟨n.toNat, by omega⟩
    have hm' : n.toNat = m := by omega
    rw [hm']
    rw [← hm] at h3 b3 h4 ⊢
    have c4 : ¬ 600 < (a.length : Int) + b.length - m := by omega
    obtain ⟨f, hf⟩ : ∃ f, f = a.length - m := ⟨_, rfl⟩
    obtain ⟨N, hN⟩ : ∃ N, N = a.length - m + b.length := ⟨_, rfl⟩
    have hf' : (a.length : Int) - m = f := by omega
    have hN' : (f : Int) + b.length = N := by omega
    have hmk := fun hh => mks_ok (h := hh) (cx := ⟨h.length, h.length, 1, none⟩) (s := 0) (z := 1) (zero := .int .i64 0) (lim := 17592186044416) (k := .i64) (k' := .i64) (a := (N : Int)) (b := (N : Int)) (by omega) (by omega) (by omega)
    have c1 := copy_fr (lo := h.length) (ns := 1) (h := h) (fr := [(0 + 1, .arr 1 (List.replicate N (.int .i64 0)))]) (s := 0) (ver := 0 + 1) (z := 1) (off := 0 + f) (len := N - f) (fill := N) (es := List.replicate N (.int .i64 0)) (ys := ints b) rfl (by simp) (by omega) (by omega)
    have g1 : (List.replicate N (AV.int .i64 0)).take (0 + f) ++ (ints b).take (min (ints b).length (N - f)) ++ (List.replicate N (AV.int .i64 0)).drop (0 + f + min (ints b).length (N - f)) = List.replicate f (AV.int .i64 0) ++ ints b := by
      rw [List.take_of_length_le (l := ints b) (by simp; omega), List.drop_of_length_le (by simp; omega), List.append_nil, List.take_replicate]
      congr 2; omega
    rw [g1, Nat.zero_add f] at c1
    obtain ⟨v', w1, w2, w3⟩ := slicev_sl (hv.app [(0 + 1, .arr 1 (List.replicate f (AV.int .i64 0) ++ ints b))]) (lo := none) (hi := some (.int .i64 f)) (a := 0) (b := f) (by rw [bnd_ok (by omega) (by simp; omega)]; simp) (by simp [bnd]) (by omega) (by simp; omega)
    have w4 := w3.list0
    rw [List.drop_zero] at w4
    have c2 := copy_fr (lo := h.length) (ns := 1) (h := h) (fr := [(0 + 1, .arr 1 (List.replicate f (AV.int .i64 0) ++ ints b))]) (s := 0) (ver := 0 + 1) (z := 1) (off := 0) (len := N) (fill := N) (es := List.replicate f (.int .i64 0) ++ ints b) (ys := (ints a).take f) rfl (by simp; omega) (by omega) (by omega)
    have g2 : (List.replicate f (AV.int .i64 0) ++ ints b).take 0 ++ ((ints a).take f).take (min ((ints a).take f).length N) ++ (List.replicate f (AV.int .i64 0) ++ ints b).drop (0 + min ((ints a).take f).length N) = ints (fadeK a b m 0) := by
      have e : min ((ints a).take f).length N = f := by simp; omega
      rw [e, List.take_zero, List.nil_append, List.take_take, Nat.min_self, Nat.zero_add, List.drop_append_of_le_length (by simp)]
      simp [fadeK, ints, ← hf]
    rw [g2] at c2
    have el := fade_loop (h := h) hv hu b1 b2 (soundB_in h1) (soundB_in h2) m N f (by omega) (by omega) hf hN (0 + 1) _ 0 rfl (by omega)
    rw [Int.natCast_zero] at el
    have hfl : (fadeS a b m).length = N := by
      have := fadeK_len (a := a) (b := b) (n := m) (k := m) (by omega) (by omega) (by omega)
      rw [hN]; exact this
    have hgv := give_fr (s := 0) (ver := 0 + 1) (z := 1) (h := h) (es := ints (fadeS a b m)) (fr := [(0 + 1, .arr 1 (ints (fadeS a b m)))]) rfl
    rw [ints_len, hfl] at hgv
    have b5 : bnd (some (.int .i64 f)) N 0 = some f := by rw [bnd_ok (by omega) (by omega)]; simp
    have b6 : bnd none N N = some N := rfl
    simp (maxSteps := 1000000) (disch := omega) only [go_sem, ↓reduceIte, Nat.reduceEqDiff, Nat.reduceAdd, Nat.reduceSub, Nat.reduceMul, Nat.reduceLT, Nat.reduceLeDiff, reduceCtorEq, Nat.succ_ne_self, ne_eq, not_true_eq_false, not_false_eq_true, and_self, and_true, true_and, Nat.zero_add, Nat.sub_zero, Nat.zero_mul, Nat.one_mul, Nat.le_refl, List.getElem?_cons_zero, List.set_cons_zero, Int.reduceToNat, Int.reduceLT, Int.reduceLE, Int.reduceAdd, Int.reduceSub, Int.reduceMul, Int.reduceEq, Int.reduceNe, Int.toNat_natCast, Int.natCast_zero, wrap_id, wrapu_id, wrapb_id, idx_ok, bin_quo, bin_rem, tdiv_id, tmod_id, ps_bptr, x25, e1, e2, e3, h3, lenv_sl hvl, lenv_sl hul, c4, h4, hf', hN', hmk, mkr, Int.toNat_natCast, slicev_ref, b5, b6, hu.list, c1, w1, w4, c2, el, hgv]
  · have c4 : 600 < (a.length : Int) + b.length - n := by omega
    simp (maxSteps := 1000000) (disch := omega) only [go_sem, ↓reduceIte, Nat.reduceEqDiff, Nat.reduceAdd, Nat.reduceSub, Nat.reduceMul, Nat.reduceLT, Nat.reduceLeDiff, reduceCtorEq, Nat.succ_ne_self, ne_eq, not_true_eq_false, not_false_eq_true, and_self, and_true, true_and, Nat.zero_add, Nat.sub_zero, Nat.zero_mul, Nat.one_mul, Nat.le_refl, List.getElem?_cons_zero, List.set_cons_zero, Int.reduceToNat, Int.reduceLT, Int.reduceLE, Int.reduceAdd, Int.reduceSub, Int.reduceMul, Int.reduceEq, Int.reduceNe, Int.toNat_natCast, Int.natCast_zero, wrap_id, wrapu_id, wrapb_id, idx_ok, bin_quo, bin_rem, tdiv_id, tmod_id, ps_bptr, x25, e1, e2, e3, h3, lenv_sl hvl, lenv_sl hul, c4, h4]
end Go.VI.Mix
namespace Go.VI.Mix
set_option linter.unusedVariables false
set_option linter.unusedSimpArgs false

theorem fadeS_len {a b : List Int} {n : Nat} (h1 : n ≤ a.length) (h2 : n ≤ b.length) : (fadeS a b n).length = a.length - n + b.length := fadeK_len h1 h2 (Nat.le_refl _)
theorem fadeV_comm (n : Nat) (x y : Int) (i j : Nat) (h : i + j + 1 = n) : fadeV n x y i = fadeV n y x j := by
  unfold fadeV
  have e1 : (2 * (n : Int) - 2 * i - 1) = 2 * j + 1 := by omega
  have e2 : (2 * (n : Int) - 2 * j - 1) = 2 * i + 1 := by omega
  rw [e1, e2]
  congr 1
  omega
theorem fadeV_bnd {n : Nat} {x y : Int} {i : Nat} (h : i < n) : min x y ≤ fadeV n x y i ∧ fadeV n x y i ≤ max x y := by
  unfold fadeV
  have hp : (0 : Int) ≤ 2 * n - 2 * i - 1 := by omega
  have hq : (0 : Int) ≤ 2 * i + 1 := by omega
  have a1 := Int.mul_le_mul_of_nonneg_right (show min x y ≤ x by omega) hp
  have a2 := Int.mul_le_mul_of_nonneg_right (show min x y ≤ y by omega) hq
  have b1 := Int.mul_le_mul_of_nonneg_right (show x ≤ max x y by omega) hp
  have b2 := Int.mul_le_mul_of_nonneg_right (show y ≤ max x y by omega) hq
  have s1 : min x y * (2 * n - 2 * i - 1) + min x y * (2 * i + 1) = min x y * (2 * n) := by rw [← Int.mul_add]; congr 1; omega
  have s2 : max x y * (2 * n - 2 * i - 1) + max x y * (2 * i + 1) = max x y * (2 * n) := by rw [← Int.mul_add]; congr 1; omega
  have hn : (0 : Int) < 2 * n := by omega
  constructor
  · refine Int.le_ediv_of_mul_le hn ?_
    omega
  · refine Int.le_of_lt_add_one (Int.ediv_lt_of_lt_mul hn ?_)
    rw [Int.add_mul, Int.one_mul]
    omega
theorem fadeV_self {n : Nat} {x : Int} {i : Nat} (h : i < n) : fadeV n x x i = x := by
  have := fadeV_bnd (x := x) (y := x) h
  omega
theorem fade_self (a : List Int) : fadeS a a a.length = a := by
  refine List.ext_getElem (by rw [fadeS_len (by omega) (by omega)]; omega) fun i h1 h2 => ?_
  simp only [fadeS, Nat.sub_self, List.take_zero, List.nil_append, List.drop_length, List.append_nil, List.getElem_map, List.getElem_range, fadeAt, Nat.zero_add]
  exact (fadeV_self h2).trans (by simp [List.getD_eq_getElem?_getD, h2])
theorem fade_rev {a b : List Int} {n : Nat} (h1 : n ≤ a.length) (h2 : n ≤ b.length) : fadeS b.reverse a.reverse n = (fadeS a b n).reverse := by
  unfold fadeS
  rw [List.reverse_append, List.reverse_append, List.append_assoc, List.length_reverse, List.take_reverse, List.drop_reverse]
  have e : b.length - (b.length - n) = n := by omega
  rw [e]
  congr 2
  refine List.ext_getElem (by simp) fun i g1 g2 => ?_
  have hi : i < n := by simpa using g1
  rw [List.getElem_reverse]
  simp only [List.getElem_map, List.getElem_range, List.length_map, List.length_range, fadeAt, List.length_reverse]
  rw [fadeV_comm n _ _ i (n - 1 - i) (by omega)]
  have x1 : b.reverse.getD (b.length - n + i) 0 = b.getD (n - 1 - i) 0 := by
    rw [List.getD_eq_getElem?_getD, List.getD_eq_getElem?_getD, List.getElem?_reverse (by omega)]
    congr 2; omega
  have x2 : a.reverse.getD i 0 = a.getD (a.length - n + (n - 1 - i)) 0 := by
    rw [List.getD_eq_getElem?_getD, List.getD_eq_getElem?_getD, List.getElem?_reverse (by omega)]
    congr 2; omega
  rw [x1, x2]
theorem fade_parts {a b : List Int} {n f : Nat} (h1 : n ≤ a.length) (h2 : n ≤ b.length) (hf : f = a.length - n) (i : Nat) (hi : i < (fadeS a b n).length) :
    (i < f → (fadeS a b n)[i] = a.getD i 0) ∧ (a.length ≤ i → (fadeS a b n)[i] = b.getD (i - f) 0) ∧ (f ≤ i → i < a.length → min (a.getD i 0) (b.getD (i - f) 0) ≤ (fadeS a b n)[i] ∧ (fadeS a b n)[i] ≤ max (a.getD i 0) (b.getD (i - f) 0)) := by
  have hl := fadeS_len h1 h2
  refine ⟨fun c => ?_, fun c => ?_, fun c1 c2 => ?_⟩
  · simp only [fadeS]
    rw [List.getElem_append_left (by simp; omega), List.getElem_append_left (by simp; omega), List.getElem_take, List.getD_eq_getElem?_getD, List.getElem?_eq_getElem (by omega)]; rfl
  · simp only [fadeS]
    rw [List.getElem_append_right (by simp; omega), List.getElem_drop, List.getD_eq_getElem?_getD, List.getElem?_eq_getElem (by omega), Option.getD_some]
    congr 1
    simp; omega
  · have e : (fadeS a b n)[i] = fadeV n (a.getD i 0) (b.getD (i - f) 0) (i - f) := by
      simp only [fadeS]
      rw [List.getElem_append_left (by simp; omega), List.getElem_append_right (by simp; omega)]
      simp only [List.getElem_map, List.getElem_range, fadeAt, List.length_take]
      have k1 : i - min (a.length - n) a.length = i - f := by omega
      rw [k1]
      have k2 : a.length - n + (i - f) = i := by omega
      rw [k2]
    rw [e]
    exact fadeV_bnd (by omega)

theorem law7_loop {H : Heap} {cx : Cx} {v u t : AV} {a b g : List Int} {f N : Nat} (hv : Sl H 1 v (ints a)) (hu : Sl H 1 u (ints b)) (ht : Sl H 1 t (ints g)) (hg : g.length = N) (hN : N = f + b.length) (hfa : f ≤ a.length) (hab : a.length ≤ N) (hN6 : N ≤ 600)
    (hp : ∀ i (hi : i < g.length), (i < f → g[i] = a.getD i 0) ∧ (a.length ≤ i → g[i] = b.getD (i - f) 0) ∧ (f ≤ i → i < a.length → min (a.getD i 0) (b.getD (i - f) 0) ≤ g[i] ∧ g[i] ≤ max (a.getD i 0) (b.getD (i - f) 0))) (d : Nat) :
    ∀ k : Nat, d = N - k → k ≤ N →
    runC lib cx (.loop b7_0) ([(7, .bool true), (8, v), (9, u), (13, t), (17, .int .i64 f), (18, .int .i64 k)], H) = some (.exit 0, ([(7, .bool true)], H)) := by
  have hvl := hv.len
  have htl := ht.len
  rw [ints_len] at hvl htl
  rw [hg] at htl
  induction d with
  | zero =>
    intro k hd hk
    have c1 : ¬ (k : Int) < N := by omega
    rw [w_loop]
    simp (maxSteps := 1000000) (disch := omega) only [go_sem, ↓reduceIte, Nat.reduceEqDiff, Nat.reduceAdd, Nat.reduceSub, Nat.reduceMul, Nat.reduceLT, Nat.reduceLeDiff, reduceCtorEq, Nat.succ_ne_self, ne_eq, not_true_eq_false, not_false_eq_true, and_self, and_true, true_and, Nat.zero_add, Nat.sub_zero, Nat.zero_mul, Nat.one_mul, Nat.le_refl, List.getElem?_cons_zero, List.set_cons_zero, Int.reduceToNat, Int.reduceLT, Int.reduceLE, Int.reduceAdd, Int.reduceSub, Int.reduceMul, Int.reduceEq, Int.reduceNe, Int.toNat_natCast, Int.natCast_zero, wrap_id, wrapu_id, wrapb_id, idx_ok, bin_quo, bin_rem, tdiv_id, tmod_id, ps_bptr, lenv_sl htl, c1]
  | succ d ih =>
    intro k hd hk
    have hk' : k < N := by omega
    have c1 : (k : Int) < N := by omega
    have t3 : sidx 1 t (.int .i64 k) = some k := by rw [sidx_sl ht (by omega) (by simp; omega)]; simp
    have t4 := fun off => pc_iptr (off := off) ht.elems0 (show k < (ints g).length by simp; omega)
    simp only [ints_get] at t4
    obtain ⟨q1, q2, q3⟩ := hp k (by omega)
    have e := ih (k + 1) (by omega) (by omega)
    rw [cast1] at e
    obtain ⟨z, hz⟩ : ∃ z, z = g[k]'(by omega) := ⟨_, rfl⟩
    rw [← hz] at t4 q1 q2 q3
    rw [w_loop]
    by_cases k1 : k < f
    · have c2 : (k : Int) < f := by omega
      have v3 : sidx 1 v (.int .i64 k) = some k := by rw [sidx_sl hv (by omega) (by simp; omega)]; simp
      have v4 := fun off => pc_iptr (off := off) hv.elems0 (show k < (ints a).length by simp; omega)
      simp only [ints_get] at v4
      have q := q1 k1
      have ea : a.getD k 0 = a[k]'(by omega) := by rw [List.getD_eq_getElem?_getD, List.getElem?_eq_getElem (by omega)]; rfl
      rw [ea] at q
      rw [← q] at v4
      simp (maxSteps := 1000000) (disch := omega) only [go_sem, ↓reduceIte, Nat.reduceEqDiff, Nat.reduceAdd, Nat.reduceSub, Nat.reduceMul, Nat.reduceLT, Nat.reduceLeDiff, reduceCtorEq, Nat.succ_ne_self, ne_eq, not_true_eq_false, not_false_eq_true, and_self, and_true, true_and, Nat.zero_add, Nat.sub_zero, Nat.zero_mul, Nat.one_mul, Nat.le_refl, List.getElem?_cons_zero, List.set_cons_zero, Int.reduceToNat, Int.reduceLT, Int.reduceLE, Int.reduceAdd, Int.reduceSub, Int.reduceMul, Int.reduceEq, Int.reduceNe, Int.toNat_natCast, Int.natCast_zero, wrap_id, wrapu_id, wrapb_id, idx_ok, bin_quo, bin_rem, tdiv_id, tmod_id, ps_bptr, lenv_sl htl, c1, c2, t3, t4, v3, v4, e]
    · have c2 : ¬ (k : Int) < f := by omega
      have u3 : sidx 1 u (.int .i64 ((k : Int) - f)) = some (k - f) := by rw [sidx_sl hu (by omega) (by simp; omega)]; congr 1; omega
      have u4 := fun off => pc_iptr (off := off) hu.elems0 (show k - f < (ints b).length by simp; omega)
      simp only [ints_get] at u4
      have eb : b.getD (k - f) 0 = b[k - f]'(by omega) := by rw [List.getD_eq_getElem?_getD, List.getElem?_eq_getElem (by omega)]; rfl
      rw [eb] at q2 q3
      by_cases k2 : a.length ≤ k
      · have c3 : ((a.length : Nat) : Int) ≤ k := by omega
        have q := q2 k2
        rw [← q] at u4
        simp (maxSteps := 1000000) (disch := omega) only [go_sem, ↓reduceIte, Nat.reduceEqDiff, Nat.reduceAdd, Nat.reduceSub, Nat.reduceMul, Nat.reduceLT, Nat.reduceLeDiff, reduceCtorEq, Nat.succ_ne_self, ne_eq, not_true_eq_false, not_false_eq_true, and_self, and_true, true_and, Nat.zero_add, Nat.sub_zero, Nat.zero_mul, Nat.one_mul, Nat.le_refl, List.getElem?_cons_zero, List.set_cons_zero, Int.reduceToNat, Int.reduceLT, Int.reduceLE, Int.reduceAdd, Int.reduceSub, Int.reduceMul, Int.reduceEq, Int.reduceNe, Int.toNat_natCast, Int.natCast_zero, wrap_id, wrapu_id, wrapb_id, idx_ok, bin_quo, bin_rem, tdiv_id, tmod_id, ps_bptr, lenv_sl htl, lenv_sl hvl, c1, c2, c3, t3, t4, u3, u4, e]
      · have c3 : ¬ ((a.length : Nat) : Int) ≤ k := by omega
        have v3 : sidx 1 v (.int .i64 k) = some k := by rw [sidx_sl hv (by omega) (by simp; omega)]; simp
        have v4 := fun off => pc_iptr (off := off) hv.elems0 (show k < (ints a).length by simp; omega)
        simp only [ints_get] at v4
        have ea : a.getD k 0 = a[k]'(by omega) := by rw [List.getD_eq_getElem?_getD, List.getElem?_eq_getElem (by omega)]; rfl
        rw [ea] at q3
        obtain ⟨r1, r2⟩ := q3 (by omega) (by omega)
        obtain ⟨x, hx⟩ : ∃ x, x = a[k]'(by omega) := ⟨_, rfl⟩
        obtain ⟨y, hy⟩ : ∃ y, y = b[k - f]'(by omega) := ⟨_, rfl⟩
        rw [← hx] at v4 r1 r2
        rw [← hy] at u4 r1 r2
        have d1 : ¬ z < min x y := by omega
        have d2 : ¬ max x y < z := by omega
        simp (maxSteps := 1000000) (disch := omega) only [go_sem, ↓reduceIte, Nat.reduceEqDiff, Nat.reduceAdd, Nat.reduceSub, Nat.reduceMul, Nat.reduceLT, Nat.reduceLeDiff, reduceCtorEq, Nat.succ_ne_self, ne_eq, not_true_eq_false, not_false_eq_true, and_self, and_true, true_and, Nat.zero_add, Nat.sub_zero, Nat.zero_mul, Nat.one_mul, Nat.le_refl, List.getElem?_cons_zero, List.set_cons_zero, Int.reduceToNat, Int.reduceLT, Int.reduceLE, Int.reduceAdd, Int.reduceSub, Int.reduceMul, Int.reduceEq, Int.reduceNe, Int.toNat_natCast, Int.natCast_zero, wrap_id, wrapu_id, wrapb_id, idx_ok, bin_quo, bin_rem, tdiv_id, tmod_id, ps_bptr, lenv_sl htl, lenv_sl hvl, c1, c2, c3, t3, t4, u3, u4, v3, v4, d1, d2, e]

theorem law7 {h : Heap} {v u : AV} {a b : List Int} (hv : Sl h 1 v (ints a)) (hu : Sl h 1 u (ints b)) (hl : a.length ≤ 9223372036854775807) (hm : b.length ≤ 9223372036854775807) (hai : ∀ n ∈ a, okI n) (hbi : ∀ n ∈ b, okI n) (n : Int) (on : okI n)
    (hs : (run lib).fn 11 [] h h.length = some (.bool true, h)) (lo : Nat) : (run lib).fn 7 [v, u, .int .i64 n] h lo = some (.bool true, h) := by
  obtain ⟨a1, a2⟩ := madeS_bd a
  obtain ⟨b1, b2⟩ := madeS_bd b
  have e1 := made_run hv hl hai h.length
  have e2 := made_run hu hm hbi h.length
  obtain ⟨one, h1⟩ : ∃ x, x = madeS a := ⟨_, rfl⟩
  obtain ⟨two, h2⟩ : ∃ x, x = madeS b := ⟨_, rfl⟩
  rw [← h1] at a1 a2 e1
  rw [← h2] at b1 b2 e2
  have s1 := Sl.lstV h 1 (ints one)
  have s2 := Sl.lstV h 1 (ints two)
  have l1 := s1.len
  have l2 := s2.len
  rw [ints_len] at l1 l2
  have p1 := fun hh lo => pick13 n (min (one.length : Int) (two.length : Int) + 1) hh lo on.1 on.2 (by omega)
  have p2 := pickS_bd (c := n) (n := min (one.length : Int) (two.length : Int) + 1) (by omega)
  obtain ⟨m, hmm⟩ : ∃ m : Nat, (m : Int) = pickS n (min (one.length : Int) (two.length : Int) + 1) := ⟨(pickS n (min (one.length : Int) (two.length : Int) + 1)).toNat, by omega⟩
  simp only [← hmm] at p1
  have so := soundB_of a1 (show one.length ≤ 600 by omega)
  have st := soundB_of b1 (show two.length ≤ 600 by omega)
  have ok1 : fadeOk one one (one.length : Nat) = true := by
    simp only [fadeOk, Bool.and_eq_true, inB_iff, decide_eq_true_eq]
    exact ⟨⟨⟨so, so⟩, by omega⟩, by omega⟩
  have ok2 : fadeOk one two (m : Nat) = true := by
    simp only [fadeOk, Bool.and_eq_true, inB_iff, decide_eq_true_eq]
    exact ⟨⟨⟨so, st⟩, by omega⟩, by omega⟩
  have so' := soundB_of (l := one.reverse) (fun x hx => a1 x (by simpa using hx)) (by simp; omega)
  have st' := soundB_of (l := two.reverse) (fun x hx => b1 x (by simpa using hx)) (by simp; omega)
  have ok3 : fadeOk two.reverse one.reverse (m : Nat) = true := by
    simp only [fadeOk, Bool.and_eq_true, inB_iff, decide_eq_true_eq, List.length_reverse]
    exact ⟨⟨⟨st', so'⟩, by omega⟩, by omega⟩
  have f1 := fade_run s1 s1 (by omega) (by omega) (one.length : Nat) h.length
  have f2 := fade_run s1 s2 (by omega) (by omega) (m : Nat) h.length
  have f3 := fade_run (Sl.lstV h 1 (ints two.reverse)) (Sl.lstV h 1 (ints one.reverse)) (by simp; omega) (by simp; omega) (m : Nat) h.length
  rw [if_pos ok1, Int.toNat_natCast, fade_self] at f1
  rw [if_pos ok2, Int.toNat_natCast] at f2
  rw [if_pos ok3, Int.toNat_natCast, fade_rev (by omega) (by omega)] at f3
  have k1 := back_run s1 (by omega) h.length
  have k2 := back_run s2 (by omega) h.length
  obtain ⟨g, hg⟩ : ∃ g, g = fadeS one two m := ⟨_, rfl⟩
  have gl : g.length = one.length - m + two.length := by rw [hg, fadeS_len (by omega) (by omega)]
  have hp := fade_parts (a := one) (b := two) (n := m) (f := one.length - m) (by omega) (by omega) rfl
  rw [← hg] at f2 f3
  simp only [← hg] at hp
  have k3 := back_run (Sl.lst h 1 (ints g)) (by omega) h.length
  have i1 := Ints_run (Sl.lst h 1 (ints one)) s1 (by omega) h.length
  have i2 := Ints_run (Sl.lst h 1 (ints g.reverse)) (Sl.lstV h 1 (ints g.reverse)) (by simp; omega) h.length
  have l3 := (Sl.lst h 1 (ints g)).len
  rw [ints_len] at l3
  have c1 : (one.length : Int) + two.length - m = g.length := by omega
  obtain ⟨f, hf⟩ : ∃ f, f = one.length - m := ⟨_, rfl⟩
  have c2 : (one.length : Int) - m = f := by omega
  rw [← hf] at hp
  have el := law7_loop (cx := ⟨h.length, h.length, 0, none⟩) (f := f) s1 s2 (Sl.lst h 1 (ints g)) rfl (by omega) (by omega) (by omega) (by omega) hp _ 0 rfl (by omega)
  rw [Int.natCast_zero] at el
  rw [run_closed (x := x7) rfl rfl rfl rfl]
  clear hai hbi a1 b1 hp
  simp (maxSteps := 1000000) (disch := omega) only [go_sem, ↓reduceIte, Nat.reduceEqDiff, Nat.reduceAdd, Nat.reduceSub, Nat.reduceMul, Nat.reduceLT, Nat.reduceLeDiff, reduceCtorEq, Nat.succ_ne_self, ne_eq, not_true_eq_false, not_false_eq_true, and_self, and_true, true_and, Nat.zero_add, Nat.sub_zero, Nat.zero_mul, Nat.one_mul, Nat.le_refl, List.getElem?_cons_zero, List.set_cons_zero, Int.reduceToNat, Int.reduceLT, Int.reduceLE, Int.reduceAdd, Int.reduceSub, Int.reduceMul, Int.reduceEq, Int.reduceNe, Int.toNat_natCast, Int.natCast_zero, wrap_id, wrapu_id, wrapb_id, idx_ok, bin_quo, bin_rem, tdiv_id, tmod_id, ps_bptr, x7, hs, e1, e2, lenv_sl l1, lenv_sl l2, lenv_sl l3, p1, f1, f2, f3, k1, k2, k3, i1, i2, c1, c2, el]
end Go.VI.Mix
