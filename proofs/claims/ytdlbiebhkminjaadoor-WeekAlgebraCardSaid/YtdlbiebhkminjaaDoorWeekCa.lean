import Derived.Test.YtdlbiebhkminjaaDoorWeekTab
namespace Go.VI.Week
set_option linter.unusedVariables false
set_option linter.unusedSimpArgs false

def ints (l : List Int) : List AV := l.map (.int .i64)
def pickS (c n : Int) : Int := (if c < 0 then -(c + 1) else c) % n
def okI (c : Int) : Prop := -9223372036854775808 ≤ c ∧ c ≤ 9223372036854775807
@[simp] theorem ints_len (l : List Int) : (ints l).length = l.length := by simp [ints]
theorem ints_drop (l : List Int) (k : Nat) (h : k < l.length) : (ints l).drop k = .int .i64 l[k] :: (ints l).drop (k + 1) := by
  rw [List.drop_eq_getElem_cons (by simpa using h)]
  simp [ints]
theorem ints_ne {l : List Int} (h : l.length = 7) : ints l ≠ [] := by
  intro e; have := ints_len l; rw [e] at this; simp at this; omega
theorem frzL_ints (b : Nat) (k : Bool) (l : List Int) (h : Heap) : frzL b k (ints l) h = some (ints l, h) := by
  unfold ints
  induction l with
  | nil => simp [frzL]
  | cons a l ih => simp only [go_sem, ↓reduceIte, Nat.reduceEqDiff, Nat.reduceAdd, Nat.reduceSub, Nat.reduceMul, Nat.reduceLT, Nat.reduceLeDiff, reduceCtorEq, Nat.succ_ne_self, ne_eq, not_true_eq_false, not_false_eq_true, and_self, and_true, true_and, Nat.zero_add, Nat.sub_zero, Nat.zero_mul, Nat.one_mul, Nat.le_refl, List.getElem?_cons_zero, List.set_cons_zero, Int.reduceToNat, Int.reduceLT, Int.reduceLE, Int.reduceAdd, Int.reduceSub, Int.reduceMul, Int.reduceEq, Int.reduceNe, Int.toNat_natCast, Int.natCast_zero, List.map_cons, ih, Option.map_some]
theorem cast1 (k : Nat) : ((k + 1 : Nat) : Int) = (k : Int) + 1 := by simp
theorem pickS_bd {c n : Int} (hn : 0 < n) : 0 ≤ pickS c n ∧ pickS c n < n := ⟨Int.emod_nonneg _ (by omega), Int.emod_lt_of_pos _ hn⟩
theorem pick24 (c n : Int) (h : Heap) (lo : Nat) (hc : okI c) (hn : 0 < n) : (run lib).fn 24 [.int .i64 c, .int .i64 n] h lo = some (.int .i64 (pickS c n), h) := by
  obtain ⟨h1, h2⟩ := hc
  rw [run_closed (x := x24) rfl rfl rfl rfl]
  unfold pickS
  by_cases hc : c < 0
  · simp (maxSteps := 1000000) (disch := omega) only [go_sem, ↓reduceIte, Nat.reduceEqDiff, Nat.reduceAdd, Nat.reduceSub, Nat.reduceMul, Nat.reduceLT, Nat.reduceLeDiff, reduceCtorEq, Nat.succ_ne_self, ne_eq, not_true_eq_false, not_false_eq_true, and_self, and_true, true_and, Nat.zero_add, Nat.sub_zero, Nat.zero_mul, Nat.one_mul, Nat.le_refl, List.getElem?_cons_zero, List.set_cons_zero, Int.reduceToNat, Int.reduceLT, Int.reduceLE, Int.reduceAdd, Int.reduceSub, Int.reduceMul, Int.reduceEq, Int.reduceNe, Int.toNat_natCast, Int.natCast_zero, wrap_id, wrapu_id, wrapb_id, idx_ok, bin_quo, bin_rem, tdiv_id, tmod_id, ps_bptr, x24, hc]
  · simp (maxSteps := 1000000) (disch := omega) only [go_sem, ↓reduceIte, Nat.reduceEqDiff, Nat.reduceAdd, Nat.reduceSub, Nat.reduceMul, Nat.reduceLT, Nat.reduceLeDiff, reduceCtorEq, Nat.succ_ne_self, ne_eq, not_true_eq_false, not_false_eq_true, and_self, and_true, true_and, Nat.zero_add, Nat.sub_zero, Nat.zero_mul, Nat.one_mul, Nat.le_refl, List.getElem?_cons_zero, List.set_cons_zero, Int.reduceToNat, Int.reduceLT, Int.reduceLE, Int.reduceAdd, Int.reduceSub, Int.reduceMul, Int.reduceEq, Int.reduceNe, Int.toNat_natCast, Int.natCast_zero, wrap_id, wrapu_id, wrapb_id, idx_ok, bin_quo, bin_rem, tdiv_id, tmod_id, ps_bptr, x24, hc]
theorem pick13 (c n : Int) (h : Heap) (lo : Nat) (hc : okI c) (hn : 0 < n) : (run lib).fn 13 [.int .i64 c, .int .i64 n] h lo = some (.int .i64 (pickS c n), h) := by
  obtain ⟨h1, h2⟩ := hc
  rw [run_closed (x := x13) rfl rfl rfl rfl]
  unfold pickS
  by_cases hc : c < 0
  · simp (maxSteps := 1000000) (disch := omega) only [go_sem, ↓reduceIte, Nat.reduceEqDiff, Nat.reduceAdd, Nat.reduceSub, Nat.reduceMul, Nat.reduceLT, Nat.reduceLeDiff, reduceCtorEq, Nat.succ_ne_self, ne_eq, not_true_eq_false, not_false_eq_true, and_self, and_true, true_and, Nat.zero_add, Nat.sub_zero, Nat.zero_mul, Nat.one_mul, Nat.le_refl, List.getElem?_cons_zero, List.set_cons_zero, Int.reduceToNat, Int.reduceLT, Int.reduceLE, Int.reduceAdd, Int.reduceSub, Int.reduceMul, Int.reduceEq, Int.reduceNe, Int.toNat_natCast, Int.natCast_zero, wrap_id, wrapu_id, wrapb_id, idx_ok, bin_quo, bin_rem, tdiv_id, tmod_id, ps_bptr, x13, hc]
  · simp (maxSteps := 1000000) (disch := omega) only [go_sem, ↓reduceIte, Nat.reduceEqDiff, Nat.reduceAdd, Nat.reduceSub, Nat.reduceMul, Nat.reduceLT, Nat.reduceLeDiff, reduceCtorEq, Nat.succ_ne_self, ne_eq, not_true_eq_false, not_false_eq_true, and_self, and_true, true_and, Nat.zero_add, Nat.sub_zero, Nat.zero_mul, Nat.one_mul, Nat.le_refl, List.getElem?_cons_zero, List.set_cons_zero, Int.reduceToNat, Int.reduceLT, Int.reduceLE, Int.reduceAdd, Int.reduceSub, Int.reduceMul, Int.reduceEq, Int.reduceNe, Int.toNat_natCast, Int.natCast_zero, wrap_id, wrapu_id, wrapb_id, idx_ok, bin_quo, bin_rem, tdiv_id, tmod_id, ps_bptr, x13, hc]

/-! Valid -/
def vW (l : List Int) : Bool := l.all fun x => !decide (x < 0) && !decide (16777215 < x)
theorem vW_iff {l : List Int} : vW l = true ↔ ∀ x ∈ l, 0 ≤ x ∧ x ≤ 16777215 := by
  simp only [vW, List.all_eq_true, Bool.and_eq_true, Bool.not_eq_true', decide_eq_false_iff_not, Int.not_lt]
theorem valid_loop {l : List Int} (hl : l.length = 7) (cx : Cx) (H : Heap) (d : Nat) : ∀ k : Nat, d = 7 - k → k ≤ 7 →
    runC lib cx (.loop b22_0) ([(5, .agg (ints l)), (6, .int .i64 k)], H) = if vW (l.drop k) = true then some (.exit 0, ([], H)) else some (.ret, ([(2, .bool false)], H)) := by
  induction d with
  | zero =>
    intro k hd hk
    have : k = 7 := by omega
    subst this
    have c1 : ¬ (((7 : Nat) : Int) < 7) := by omega
    rw [List.drop_of_length_le (by omega), w_loop]
    simp (maxSteps := 1000000) (disch := omega) only [go_sem, ↓reduceIte, Nat.reduceEqDiff, Nat.reduceAdd, Nat.reduceSub, Nat.reduceMul, Nat.reduceLT, Nat.reduceLeDiff, reduceCtorEq, Nat.succ_ne_self, ne_eq, not_true_eq_false, not_false_eq_true, and_self, and_true, true_and, Nat.zero_add, Nat.sub_zero, Nat.zero_mul, Nat.one_mul, Nat.le_refl, List.getElem?_cons_zero, List.set_cons_zero, Int.reduceToNat, Int.reduceLT, Int.reduceLE, Int.reduceAdd, Int.reduceSub, Int.reduceMul, Int.reduceEq, Int.reduceNe, Int.toNat_natCast, Int.natCast_zero, wrap_id, wrapu_id, wrapb_id, idx_ok, bin_quo, bin_rem, tdiv_id, tmod_id, ps_bptr, vW, List.all_nil, c1]
  | succ d ih =>
    intro k hd hk
    have c1 : (k : Int) < 7 := by omega
    have hd := ints_drop l k (by omega)
    have e := ih (k + 1) (by omega) (by omega)
    rw [cast1] at e
    rw [List.drop_eq_getElem_cons (by omega)]
    have hv : vW (l[k] :: l.drop (k + 1)) = ((!decide (l[k] < 0) && !decide (16777215 < l[k])) && vW (l.drop (k + 1))) := rfl
    rw [hv, w_loop]
    obtain ⟨x, hx⟩ : ∃ x, x = l[k] := ⟨_, rfl⟩
    rw [← hx] at hd ⊢
    by_cases h1 : x < 0
    · simp (maxSteps := 1000000) (disch := omega) only [go_sem, ↓reduceIte, Nat.reduceEqDiff, Nat.reduceAdd, Nat.reduceSub, Nat.reduceMul, Nat.reduceLT, Nat.reduceLeDiff, reduceCtorEq, Nat.succ_ne_self, ne_eq, not_true_eq_false, not_false_eq_true, and_self, and_true, true_and, Nat.zero_add, Nat.sub_zero, Nat.zero_mul, Nat.one_mul, Nat.le_refl, List.getElem?_cons_zero, List.set_cons_zero, Int.reduceToNat, Int.reduceLT, Int.reduceLE, Int.reduceAdd, Int.reduceSub, Int.reduceMul, Int.reduceEq, Int.reduceNe, Int.toNat_natCast, Int.natCast_zero, wrap_id, wrapu_id, wrapb_id, idx_ok, bin_quo, bin_rem, tdiv_id, tmod_id, ps_bptr, c1, hd, h1, Nat.mul_one]
    · by_cases h2 : 16777215 < x
      · simp (maxSteps := 1000000) (disch := omega) only [go_sem, ↓reduceIte, Nat.reduceEqDiff, Nat.reduceAdd, Nat.reduceSub, Nat.reduceMul, Nat.reduceLT, Nat.reduceLeDiff, reduceCtorEq, Nat.succ_ne_self, ne_eq, not_true_eq_false, not_false_eq_true, and_self, and_true, true_and, Nat.zero_add, Nat.sub_zero, Nat.zero_mul, Nat.one_mul, Nat.le_refl, List.getElem?_cons_zero, List.set_cons_zero, Int.reduceToNat, Int.reduceLT, Int.reduceLE, Int.reduceAdd, Int.reduceSub, Int.reduceMul, Int.reduceEq, Int.reduceNe, Int.toNat_natCast, Int.natCast_zero, wrap_id, wrapu_id, wrapb_id, idx_ok, bin_quo, bin_rem, tdiv_id, tmod_id, ps_bptr, c1, hd, h1, h2, Nat.mul_one]
      · simp (maxSteps := 1000000) (disch := omega) only [go_sem, ↓reduceIte, Nat.reduceEqDiff, Nat.reduceAdd, Nat.reduceSub, Nat.reduceMul, Nat.reduceLT, Nat.reduceLeDiff, reduceCtorEq, Nat.succ_ne_self, ne_eq, not_true_eq_false, not_false_eq_true, and_self, and_true, true_and, Nat.zero_add, Nat.sub_zero, Nat.zero_mul, Nat.one_mul, Nat.le_refl, List.getElem?_cons_zero, List.set_cons_zero, Int.reduceToNat, Int.reduceLT, Int.reduceLE, Int.reduceAdd, Int.reduceSub, Int.reduceMul, Int.reduceEq, Int.reduceNe, Int.toNat_natCast, Int.natCast_zero, wrap_id, wrapu_id, wrapb_id, idx_ok, bin_quo, bin_rem, tdiv_id, tmod_id, ps_bptr, c1, hd, h1, h2, e, Nat.mul_one]
theorem valid_run {l : List Int} (hl : l.length = 7) (h : Heap) (lo : Nat) : (run lib).fn 22 [.agg (ints l)] h lo = some (.bool (vW l), h) := by
  have e := fun cx H => valid_loop hl cx H 7 0 rfl (by omega)
  simp only [Int.natCast_zero, List.drop_zero] at e
  have ht : (ints l).take 7 = ints l := List.take_of_length_le (by simp [hl])
  have hn : 7 ≤ (ints l).length := by simp [hl]
  rw [run_closed (x := x22) rfl rfl rfl rfl]
  cases hv : vW l <;> rw [hv] at e <;> simp (maxSteps := 1000000) (disch := omega) only [go_sem, ↓reduceIte, Nat.reduceEqDiff, Nat.reduceAdd, Nat.reduceSub, Nat.reduceMul, Nat.reduceLT, Nat.reduceLeDiff, reduceCtorEq, Nat.succ_ne_self, ne_eq, not_true_eq_false, not_false_eq_true, and_self, and_true, true_and, Nat.zero_add, Nat.sub_zero, Nat.zero_mul, Nat.one_mul, Nat.le_refl, List.getElem?_cons_zero, List.set_cons_zero, Int.reduceToNat, Int.reduceLT, Int.reduceLE, Int.reduceAdd, Int.reduceSub, Int.reduceMul, Int.reduceEq, Int.reduceNe, Int.toNat_natCast, Int.natCast_zero, wrap_id, wrapu_id, wrapb_id, idx_ok, bin_quo, bin_rem, tdiv_id, tmod_id, ps_bptr, x22, e, frzL_ints, ht, hn]
end Go.VI.Week
namespace Go.VI.Week
set_option linter.unusedVariables false
set_option linter.unusedSimpArgs false

theorem ofInt_toNat {a : Int} (h0 : 0 ≤ a) (h1 : a < 9223372036854775808) : (BitVec.ofInt 64 a).toNat = a.toNat := by
  rw [BitVec.toNat_ofInt]
  congr 1
  omega
theorem bin_andI {a b : Int} (h0 : 0 ≤ a) (h1 : a < 9223372036854775808) (h2 : 0 ≤ b) (h3 : b < 9223372036854775808) : binv .and (.int .i64 a) (.int .i64 b) = some (.int .i64 ((a.toNat &&& b.toNat : Nat) : Int)) := by
  have e : (BitVec.ofInt IntKind.i64.bits a &&& BitVec.ofInt IntKind.i64.bits b).toNat = a.toNat &&& b.toNat := by
    rw [BitVec.toNat_and]; exact congr (congrArg _ (ofInt_toNat h0 h1)) (ofInt_toNat h2 h3)
  have hle : a.toNat &&& b.toNat ≤ a.toNat := Nat.and_le_left
  simp only [binv, if_true, e]
  rw [wrap_id (by omega) (by omega)]
theorem bin_orI {a b : Int} (h0 : 0 ≤ a) (h1 : a < 4294967296) (h2 : 0 ≤ b) (h3 : b < 4294967296) : binv .or (.int .i64 a) (.int .i64 b) = some (.int .i64 ((a.toNat ||| b.toNat : Nat) : Int)) := by
  have e : (BitVec.ofInt IntKind.i64.bits a ||| BitVec.ofInt IntKind.i64.bits b).toNat = a.toNat ||| b.toNat := by
    rw [BitVec.toNat_or]; exact congr (congrArg _ (ofInt_toNat h0 (by omega))) (ofInt_toNat h2 (by omega))
  have hle : a.toNat ||| b.toNat < 2 ^ 32 := Nat.or_lt_two_pow (by omega) (by omega)
  simp only [binv, if_true, e]
  rw [wrap_id (by omega) (by omega)]
theorem bin_xorI {a b : Int} (h0 : 0 ≤ a) (h1 : a < 4294967296) (h2 : 0 ≤ b) (h3 : b < 4294967296) : binv .xor (.int .i64 a) (.int .i64 b) = some (.int .i64 ((a.toNat ^^^ b.toNat : Nat) : Int)) := by
  have e : (BitVec.ofInt IntKind.i64.bits a ^^^ BitVec.ofInt IntKind.i64.bits b).toNat = a.toNat ^^^ b.toNat := by
    rw [BitVec.toNat_xor]; exact congr (congrArg _ (ofInt_toNat h0 (by omega))) (ofInt_toNat h2 (by omega))
  have hle : a.toNat ^^^ b.toNat < 2 ^ 32 := Nat.xor_lt_two_pow (by omega) (by omega)
  simp only [binv, if_true, e]
  rw [wrap_id (by omega) (by omega)]

/-! has, In, right -/
def hasS (l : List Int) (k : Nat) : Bool := (l.getD (k / 24 % 7) 0).toNat.testBit (k % 24)
theorem has_run {l : List Int} (hl : l.length = 7) (hv : vW l = true) (k : Nat) (hk : k ≤ 1000000000) (h : Heap) (lo : Nat) : (run lib).fn 31 [.agg (ints l), .int .i64 k] h lo = some (.bool (hasS l k), h) := by
  obtain ⟨b, hb⟩ : ∃ b, b = k % 24 := ⟨_, rfl⟩
  obtain ⟨d, hd⟩ : ∃ d, d = k / 24 % 7 := ⟨_, rfl⟩
  have eb : (k : Int) % 24 = (b : Int) := by omega
  have ed : (k : Int) / 24 % 7 = (d : Int) := by omega
  have hdr := ints_drop l d (by omega)
  have hx := vW_iff.mp hv l[d] (List.getElem_mem _)
  have hg : l.getD d 0 = l[d] := by rw [List.getD_eq_getElem?_getD, List.getElem?_eq_getElem (by omega)]; rfl
  unfold hasS
  rw [← hb, ← hd, hg]
  obtain ⟨x, hxx⟩ : ∃ x, x = l[d] := ⟨_, rfl⟩
  rw [← hxx] at hdr hx ⊢
  have hm : min ((b : Int)).toNat IntKind.i64.bits = b := by simp [IntKind.bits]; omega
  obtain ⟨y, hy⟩ : ∃ y, y = x.toNat / 2 ^ b := ⟨_, rfl⟩
  have hle : y ≤ x.toNat := hy ▸ Nat.div_le_self _ _
  have e1 : binv .shr (.int .i64 x) (.int .i64 b) = some (.int .i64 (y : Int)) := by
    rw [bin_shr (by omega), hm, hy, Int.natCast_ediv, Int.toNat_of_nonneg hx.1]; simp
  have e2 : binv .and (.int .i64 (y : Int)) (.int .i64 1) = some (.int .i64 ((y % 2 : Nat) : Int)) := by
    rw [bin_andI (by omega) (by omega) (by omega) (by omega), Int.toNat_natCast]
    exact congrArg (fun n : Nat => some (AV.int .i64 n)) (Nat.and_one_is_mod _)
  have e3 : decide (((y % 2 : Nat) : Int) = 1) = x.toNat.testBit b := by
    rw [Nat.testBit_eq_decide_div_mod_eq, ← hy, decide_eq_decide]; omega
  have ht : (ints l).take 7 = ints l := List.take_of_length_le (by simp [hl])
  have hn : 7 ≤ (ints l).length := by simp [hl]
  rw [run_closed (x := x31) rfl rfl rfl rfl]
  simp (maxSteps := 1000000) (disch := omega) only [go_sem, ↓reduceIte, Nat.reduceEqDiff, Nat.reduceAdd, Nat.reduceSub, Nat.reduceMul, Nat.reduceLT, Nat.reduceLeDiff, reduceCtorEq, Nat.succ_ne_self, ne_eq, not_true_eq_false, not_false_eq_true, and_self, and_true, true_and, Nat.zero_add, Nat.sub_zero, Nat.zero_mul, Nat.one_mul, Nat.le_refl, List.getElem?_cons_zero, List.set_cons_zero, Int.reduceToNat, Int.reduceLT, Int.reduceLE, Int.reduceAdd, Int.reduceSub, Int.reduceMul, Int.reduceEq, Int.reduceNe, Int.toNat_natCast, Int.natCast_zero, wrap_id, wrapu_id, wrapb_id, idx_ok, bin_quo, bin_rem, tdiv_id, tmod_id, ps_bptr, x31, eb, ed, hdr, frzL_ints, ht, hn, e1, e2, e3, Nat.mul_one]
theorem in_run {l : List Int} (hl : l.length = 7) (hv : vW l = true) (t : Int) (h : Heap) (lo : Nat) : (run lib).fn 17 [.agg (ints l), .int .i64 t] h lo = some (.bool (decide (0 ≤ t) && decide (t < 10000000) && hasS l (t / 3600).toNat), h) := by
  have ht : (ints l).take 7 = ints l := List.take_of_length_le (by simp [hl])
  have hn : 7 ≤ (ints l).length := by simp [hl]
  rw [run_closed (x := x17) rfl rfl rfl rfl]
  by_cases h1 : 0 ≤ t
  · by_cases h2 : t < 10000000
    · have e := has_run hl hv (t / 3600).toNat (by omega)
      have ec : (((t / 3600).toNat : Nat) : Int) = t / 3600 := by omega
      rw [ec] at e
      simp (maxSteps := 1000000) (disch := omega) only [go_sem, ↓reduceIte, Nat.reduceEqDiff, Nat.reduceAdd, Nat.reduceSub, Nat.reduceMul, Nat.reduceLT, Nat.reduceLeDiff, reduceCtorEq, Nat.succ_ne_self, ne_eq, not_true_eq_false, not_false_eq_true, and_self, and_true, true_and, Nat.zero_add, Nat.sub_zero, Nat.zero_mul, Nat.one_mul, Nat.le_refl, List.getElem?_cons_zero, List.set_cons_zero, Int.reduceToNat, Int.reduceLT, Int.reduceLE, Int.reduceAdd, Int.reduceSub, Int.reduceMul, Int.reduceEq, Int.reduceNe, Int.toNat_natCast, Int.natCast_zero, wrap_id, wrapu_id, wrapb_id, idx_ok, bin_quo, bin_rem, tdiv_id, tmod_id, ps_bptr, x17, h1, h2, frzL_ints, ht, hn, valid_run hl, hv, e]
    · simp (maxSteps := 1000000) (disch := omega) only [go_sem, ↓reduceIte, Nat.reduceEqDiff, Nat.reduceAdd, Nat.reduceSub, Nat.reduceMul, Nat.reduceLT, Nat.reduceLeDiff, reduceCtorEq, Nat.succ_ne_self, ne_eq, not_true_eq_false, not_false_eq_true, and_self, and_true, true_and, Nat.zero_add, Nat.sub_zero, Nat.zero_mul, Nat.one_mul, Nat.le_refl, List.getElem?_cons_zero, List.set_cons_zero, Int.reduceToNat, Int.reduceLT, Int.reduceLE, Int.reduceAdd, Int.reduceSub, Int.reduceMul, Int.reduceEq, Int.reduceNe, Int.toNat_natCast, Int.natCast_zero, wrap_id, wrapu_id, wrapb_id, idx_ok, bin_quo, bin_rem, tdiv_id, tmod_id, ps_bptr, x17, h1, h2, frzL_ints, ht, hn, valid_run hl, hv]
  · simp (maxSteps := 1000000) (disch := omega) only [go_sem, ↓reduceIte, Nat.reduceEqDiff, Nat.reduceAdd, Nat.reduceSub, Nat.reduceMul, Nat.reduceLT, Nat.reduceLeDiff, reduceCtorEq, Nat.succ_ne_self, ne_eq, not_true_eq_false, not_false_eq_true, and_self, and_true, true_and, Nat.zero_add, Nat.sub_zero, Nat.zero_mul, Nat.one_mul, Nat.le_refl, List.getElem?_cons_zero, List.set_cons_zero, Int.reduceToNat, Int.reduceLT, Int.reduceLE, Int.reduceAdd, Int.reduceSub, Int.reduceMul, Int.reduceEq, Int.reduceNe, Int.toNat_natCast, Int.natCast_zero, wrap_id, wrapu_id, wrapb_id, idx_ok, bin_quo, bin_rem, tdiv_id, tmod_id, ps_bptr, x17, h1, frzL_ints, ht, hn, valid_run hl, hv]
def sp (p : Int × Int) : List AV := [.int .i64 p.1, .int .i64 p.2]
def rS (a b : Int) : Bool := decide (0 ≤ a) && (decide (a < b) && decide (b ≤ 10000000))
theorem right_run {l : List Int} (hl : l.length = 7) (hv : vW l = true) (a b : Int) (h : Heap) (lo : Nat) : (run lib).fn 29 [.agg (ints l), .agg [.int .i64 a, .int .i64 b]] h lo = some (.bool (rS a b), h) := by
  have ht : (ints l).take 7 = ints l := List.take_of_length_le (by simp [hl])
  have hn : 7 ≤ (ints l).length := by simp [hl]
  rw [run_closed (x := x29) rfl rfl rfl rfl]
  unfold rS
  by_cases h1 : 0 ≤ a
  · by_cases h2 : a < b
    · by_cases h3 : b ≤ 10000000 <;> simp (maxSteps := 1000000) (disch := omega) only [go_sem, ↓reduceIte, Nat.reduceEqDiff, Nat.reduceAdd, Nat.reduceSub, Nat.reduceMul, Nat.reduceLT, Nat.reduceLeDiff, reduceCtorEq, Nat.succ_ne_self, ne_eq, not_true_eq_false, not_false_eq_true, and_self, and_true, true_and, Nat.zero_add, Nat.sub_zero, Nat.zero_mul, Nat.one_mul, Nat.le_refl, List.getElem?_cons_zero, List.set_cons_zero, Int.reduceToNat, Int.reduceLT, Int.reduceLE, Int.reduceAdd, Int.reduceSub, Int.reduceMul, Int.reduceEq, Int.reduceNe, Int.toNat_natCast, Int.natCast_zero, wrap_id, wrapu_id, wrapb_id, idx_ok, bin_quo, bin_rem, tdiv_id, tmod_id, ps_bptr, x29, h1, h2, h3, frzL_ints, ht, hn, valid_run hl, hv]
    · simp (maxSteps := 1000000) (disch := omega) only [go_sem, ↓reduceIte, Nat.reduceEqDiff, Nat.reduceAdd, Nat.reduceSub, Nat.reduceMul, Nat.reduceLT, Nat.reduceLeDiff, reduceCtorEq, Nat.succ_ne_self, ne_eq, not_true_eq_false, not_false_eq_true, and_self, and_true, true_and, Nat.zero_add, Nat.sub_zero, Nat.zero_mul, Nat.one_mul, Nat.le_refl, List.getElem?_cons_zero, List.set_cons_zero, Int.reduceToNat, Int.reduceLT, Int.reduceLE, Int.reduceAdd, Int.reduceSub, Int.reduceMul, Int.reduceEq, Int.reduceNe, Int.toNat_natCast, Int.natCast_zero, wrap_id, wrapu_id, wrapb_id, idx_ok, bin_quo, bin_rem, tdiv_id, tmod_id, ps_bptr, x29, h1, h2, frzL_ints, ht, hn, valid_run hl, hv]
  · simp (maxSteps := 1000000) (disch := omega) only [go_sem, ↓reduceIte, Nat.reduceEqDiff, Nat.reduceAdd, Nat.reduceSub, Nat.reduceMul, Nat.reduceLT, Nat.reduceLeDiff, reduceCtorEq, Nat.succ_ne_self, ne_eq, not_true_eq_false, not_false_eq_true, and_self, and_true, true_and, Nat.zero_add, Nat.sub_zero, Nat.zero_mul, Nat.one_mul, Nat.le_refl, List.getElem?_cons_zero, List.set_cons_zero, Int.reduceToNat, Int.reduceLT, Int.reduceLE, Int.reduceAdd, Int.reduceSub, Int.reduceMul, Int.reduceEq, Int.reduceNe, Int.toNat_natCast, Int.natCast_zero, wrap_id, wrapu_id, wrapb_id, idx_ok, bin_quo, bin_rem, tdiv_id, tmod_id, ps_bptr, x29, h1, frzL_ints, ht, hn, valid_run hl, hv]

/-! Next -/
def nextS (l : List Int) (t : Int) : Nat → Nat → Option Int
  | 0, _ => none
  | d + 1, k => if hasS l k then some (max t ((k : Int) * 3600)) else nextS l t d (k + 1)
theorem next_loop {l : List Int} (hl : l.length = 7) (hv : vW l = true) (t : Int) (cx : Cx) (H : Heap) (d : Nat) : ∀ k : Nat, k + d = 2778 →
    runC lib cx (.loop b19_0) ([(1, .int .i64 t), (2, .cptr (ints l)), (6, .int .i64 k)], H) = match nextS l t d k with
      | some n => some (.ret, ([(4, .int .i64 n), (5, .bool true)], H))
      | none => some (.exit 0, ([], H)) := by
  have ht : (ints l).take 7 = ints l := List.take_of_length_le (by simp [hl])
  have hn : 7 ≤ (ints l).length := by simp [hl]
  induction d with
  | zero =>
    intro k hk
    have c1 : ¬ (k : Int) * 3600 < 10000000 := by omega
    rw [w_loop]
    simp (maxSteps := 1000000) (disch := omega) only [go_sem, ↓reduceIte, Nat.reduceEqDiff, Nat.reduceAdd, Nat.reduceSub, Nat.reduceMul, Nat.reduceLT, Nat.reduceLeDiff, reduceCtorEq, Nat.succ_ne_self, ne_eq, not_true_eq_false, not_false_eq_true, and_self, and_true, true_and, Nat.zero_add, Nat.sub_zero, Nat.zero_mul, Nat.one_mul, Nat.le_refl, List.getElem?_cons_zero, List.set_cons_zero, Int.reduceToNat, Int.reduceLT, Int.reduceLE, Int.reduceAdd, Int.reduceSub, Int.reduceMul, Int.reduceEq, Int.reduceNe, Int.toNat_natCast, Int.natCast_zero, wrap_id, wrapu_id, wrapb_id, idx_ok, bin_quo, bin_rem, tdiv_id, tmod_id, ps_bptr, c1, nextS]
  | succ d ih =>
    intro k hk
    have c1 : (k : Int) * 3600 < 10000000 := by omega
    have e := has_run hl hv k (by omega)
    have e2 := ih (k + 1) (by omega)
    rw [cast1] at e2
    rw [w_loop, nextS]
    cases hb : hasS l k
    · rw [hb] at e; simp (maxSteps := 1000000) (disch := omega) only [go_sem, ↓reduceIte, Nat.reduceEqDiff, Nat.reduceAdd, Nat.reduceSub, Nat.reduceMul, Nat.reduceLT, Nat.reduceLeDiff, reduceCtorEq, Nat.succ_ne_self, ne_eq, not_true_eq_false, not_false_eq_true, and_self, and_true, true_and, Nat.zero_add, Nat.sub_zero, Nat.zero_mul, Nat.one_mul, Nat.le_refl, List.getElem?_cons_zero, List.set_cons_zero, Int.reduceToNat, Int.reduceLT, Int.reduceLE, Int.reduceAdd, Int.reduceSub, Int.reduceMul, Int.reduceEq, Int.reduceNe, Int.toNat_natCast, Int.natCast_zero, wrap_id, wrapu_id, wrapb_id, idx_ok, bin_quo, bin_rem, tdiv_id, tmod_id, ps_bptr, c1, ht, hn, e, e2, Bool.false_eq_true]
    · rw [hb] at e; simp (maxSteps := 1000000) (disch := omega) only [go_sem, ↓reduceIte, Nat.reduceEqDiff, Nat.reduceAdd, Nat.reduceSub, Nat.reduceMul, Nat.reduceLT, Nat.reduceLeDiff, reduceCtorEq, Nat.succ_ne_self, ne_eq, not_true_eq_false, not_false_eq_true, and_self, and_true, true_and, Nat.zero_add, Nat.sub_zero, Nat.zero_mul, Nat.one_mul, Nat.le_refl, List.getElem?_cons_zero, List.set_cons_zero, Int.reduceToNat, Int.reduceLT, Int.reduceLE, Int.reduceAdd, Int.reduceSub, Int.reduceMul, Int.reduceEq, Int.reduceNe, Int.toNat_natCast, Int.natCast_zero, wrap_id, wrapu_id, wrapb_id, idx_ok, bin_quo, bin_rem, tdiv_id, tmod_id, ps_bptr, c1, ht, hn, e]
theorem next_run {l : List Int} (hl : l.length = 7) (hv : vW l = true) (t : Int) (h0 : 0 ≤ t) (h1 : t < 10000000) (h : Heap) (lo : Nat) :
    (run lib).fn 19 [.agg (ints l), .int .i64 t] h lo = some (match nextS l t (2778 - (t / 3600).toNat) (t / 3600).toNat with | some n => .tuple [.int .i64 n, .bool true] | none => .tuple [.int .i64 0, .bool false], h) := by
  have ht : (ints l).take 7 = ints l := List.take_of_length_le (by simp [hl])
  have hn : 7 ≤ (ints l).length := by simp [hl]
  have e := fun cx H => next_loop hl hv t cx H (2778 - (t / 3600).toNat) (t / 3600).toNat (by omega)
  have ec : (((t / 3600).toNat : Nat) : Int) = t / 3600 := by omega
  rw [ec] at e
  have c1 : ¬ t < 0 := by omega
  have c2 : ¬ 10000000 ≤ t := by omega
  rw [run_closed (x := x19) rfl rfl rfl rfl]
  cases hb : nextS l t (2778 - (t / 3600).toNat) (t / 3600).toNat with
  | none => simp only [hb] at e; simp (maxSteps := 1000000) (disch := omega) only [go_sem, ↓reduceIte, Nat.reduceEqDiff, Nat.reduceAdd, Nat.reduceSub, Nat.reduceMul, Nat.reduceLT, Nat.reduceLeDiff, reduceCtorEq, Nat.succ_ne_self, ne_eq, not_true_eq_false, not_false_eq_true, and_self, and_true, true_and, Nat.zero_add, Nat.sub_zero, Nat.zero_mul, Nat.one_mul, Nat.le_refl, List.getElem?_cons_zero, List.set_cons_zero, Int.reduceToNat, Int.reduceLT, Int.reduceLE, Int.reduceAdd, Int.reduceSub, Int.reduceMul, Int.reduceEq, Int.reduceNe, Int.toNat_natCast, Int.natCast_zero, wrap_id, wrapu_id, wrapb_id, idx_ok, bin_quo, bin_rem, tdiv_id, tmod_id, ps_bptr, x19, c1, c2, frzL_ints, ht, hn, valid_run hl, hv, e]
  | some n => simp only [hb] at e; simp (maxSteps := 1000000) (disch := omega) only [go_sem, ↓reduceIte, Nat.reduceEqDiff, Nat.reduceAdd, Nat.reduceSub, Nat.reduceMul, Nat.reduceLT, Nat.reduceLeDiff, reduceCtorEq, Nat.succ_ne_self, ne_eq, not_true_eq_false, not_false_eq_true, and_self, and_true, true_and, Nat.zero_add, Nat.sub_zero, Nat.zero_mul, Nat.one_mul, Nat.le_refl, List.getElem?_cons_zero, List.set_cons_zero, Int.reduceToNat, Int.reduceLT, Int.reduceLE, Int.reduceAdd, Int.reduceSub, Int.reduceMul, Int.reduceEq, Int.reduceNe, Int.toNat_natCast, Int.natCast_zero, wrap_id, wrapu_id, wrapb_id, idx_ok, bin_quo, bin_rem, tdiv_id, tmod_id, ps_bptr, x19, c1, c2, frzL_ints, ht, hn, valid_run hl, hv, e]
end Go.VI.Week
namespace Go.VI.Week
set_option linter.unusedVariables false
set_option linter.unusedSimpArgs false

theorem set_ints (l : List Int) (k : Nat) (x : Int) (h : k < l.length) : (ints l).take k ++ [.int .i64 x] ++ (ints l).drop (k + 1) = ints (l.set k x) := by
  have e : ints (l.set k x) = (ints l).set k (.int .i64 x) := by simp [ints, List.map_set]
  rw [e, List.set_eq_take_append_cons_drop, if_pos (by simpa using h)]
  simp
theorem cur_at {r l : List Int} (k : Nat) (hr : k < r.length) (hl : k < l.length) : (r.take k ++ l.drop k)[k]'(by simp; omega) = l[k] := by
  rw [List.getElem_append_right (by simp; omega)]
  simp only [List.getElem_drop, List.length_take]
  congr 1; omega
theorem cur_set {r l : List Int} (k : Nat) (hr : k < r.length) (hl : k < l.length) : (r.take k ++ l.drop k).set k r[k] = r.take (k + 1) ++ l.drop (k + 1) := by
  rw [List.take_succ_eq_append_getElem hr, List.drop_eq_getElem_cons hl, List.append_assoc, List.set_append_right _ _ (by simp; omega)]
  have hz : k - (r.take k).length = 0 := by simp; omega
  rw [hz, List.set_cons_zero]; simp
theorem cur_len {r l : List Int} (k : Nat) (hr : r.length = 7) (hl : l.length = 7) (hk : k ≤ 7) : (r.take k ++ l.drop k).length = 7 := by simp; omega
def z7 : List AV := [.int .i64 0, .int .i64 0, .int .i64 0, .int .i64 0, .int .i64 0, .int .i64 0, .int .i64 0]
theorem splice7 {l : List Int} (hl : l.length = 7) : splice [.int .i64 0, .int .i64 0, .int .i64 0, .int .i64 0, .int .i64 0, .int .i64 0, .int .i64 0] 0 (ints l) = some (ints l) := by
  simp [splice, hl]

def notS (l : List Int) : List Int := l.map fun x => ((x.toNat ^^^ 16777215 : Nat) : Int)
theorem notS_len (l : List Int) : (notS l).length = l.length := by simp [notS]
theorem not_loop {l : List Int} (hl : l.length = 7) (hv : vW l = true) (h : Heap) (v : Nat) (b : Blk) (d : Nat) : ∀ k : Nat, d = 7 - k → k ≤ 7 →
    runC lib ⟨h.length, h.length, 2, none⟩ (.loop b18_0) ([(1, .bptr (h.length + 0) 1 0), (2, .bptr (h.length + 1) 1 0), (9, .int .i64 k)], h ++ [(1, .box (ints ((notS l).take k ++ l.drop k))), (v, b)]) =
      some (.exit 0, ([(1, .bptr (h.length + 0) 1 0), (2, .bptr (h.length + 1) 1 0)], h ++ [(1, .box (ints (notS l))), (v, b)])) := by
  have hr : (notS l).length = 7 := by simp [notS, hl]
  induction d with
  | zero =>
    intro k hd hk
    have : k = 7 := by omega
    subst this
    have c1 : ¬ (((7 : Nat) : Int) < 7) := by omega
    rw [List.drop_of_length_le (by omega), List.take_of_length_le (by omega), List.append_nil, w_loop]
    simp (maxSteps := 1000000) (disch := omega) only [go_sem, ↓reduceIte, Nat.reduceEqDiff, Nat.reduceAdd, Nat.reduceSub, Nat.reduceMul, Nat.reduceLT, Nat.reduceLeDiff, reduceCtorEq, Nat.succ_ne_self, ne_eq, not_true_eq_false, not_false_eq_true, and_self, and_true, true_and, Nat.zero_add, Nat.sub_zero, Nat.zero_mul, Nat.one_mul, Nat.le_refl, List.getElem?_cons_zero, List.set_cons_zero, Int.reduceToNat, Int.reduceLT, Int.reduceLE, Int.reduceAdd, Int.reduceSub, Int.reduceMul, Int.reduceEq, Int.reduceNe, Int.toNat_natCast, Int.natCast_zero, wrap_id, wrapu_id, wrapb_id, idx_ok, bin_quo, bin_rem, tdiv_id, tmod_id, ps_bptr, c1]
  | succ d ih =>
    intro k hd hk
    have c1 : (k : Int) < 7 := by omega
    have e := ih (k + 1) (by omega) (by omega)
    rw [cast1, ← cur_set k (by omega) (by omega)] at e
    have hx := vW_iff.mp hv l[k] (List.getElem_mem _)
    have hg : (notS l)[k]'(by omega) = ((l[k].toNat ^^^ 16777215 : Nat) : Int) := by simp [notS]
    rw [hg] at e
    have hdr := ints_drop ((notS l).take k ++ l.drop k) k (by rw [cur_len k hr hl hk]; omega)
    rw [cur_at k (by omega) (by omega)] at hdr
    have hle : k + 1 ≤ (ints ((notS l).take k ++ l.drop k)).length := by rw [ints_len, cur_len k hr hl hk]; omega
    have hs := set_ints ((notS l).take k ++ l.drop k) k ((l[k].toNat ^^^ 16777215 : Nat) : Int) (by rw [cur_len k hr hl hk]; omega)
    obtain ⟨c, hc⟩ : ∃ c, c = (notS l).take k ++ l.drop k := ⟨_, rfl⟩
    obtain ⟨x, hxx⟩ : ∃ x, x = l[k] := ⟨_, rfl⟩
    rw [← hc, ← hxx] at hdr hs e
    rw [← hc] at hle
    rw [← hc]
    rw [← hxx] at hx
    have eb := bin_xorI (a := x) (b := 16777215) (by omega) (by omega) (by omega) (by omega)
    have et : (16777215 : Int).toNat = 16777215 := rfl
    rw [et] at eb
    rw [w_loop]
    simp (maxSteps := 1000000) (disch := omega) only [go_sem, ↓reduceIte, Nat.reduceEqDiff, Nat.reduceAdd, Nat.reduceSub, Nat.reduceMul, Nat.reduceLT, Nat.reduceLeDiff, reduceCtorEq, Nat.succ_ne_self, ne_eq, not_true_eq_false, not_false_eq_true, and_self, and_true, true_and, Nat.zero_add, Nat.sub_zero, Nat.zero_mul, Nat.one_mul, Nat.le_refl, List.getElem?_cons_zero, List.set_cons_zero, Int.reduceToNat, Int.reduceLT, Int.reduceLE, Int.reduceAdd, Int.reduceSub, Int.reduceMul, Int.reduceEq, Int.reduceNe, Int.toNat_natCast, Int.natCast_zero, wrap_id, wrapu_id, wrapb_id, idx_ok, bin_quo, bin_rem, tdiv_id, tmod_id, ps_bptr, c1, hdr, eb, hle, hs, e, Nat.mul_one]
theorem not_run {l : List Int} (hl : l.length = 7) (hv : vW l = true) (h : Heap) (lo : Nat) : (run lib).fn 18 [.agg (ints l)] h lo = some (.tuple [.agg (ints (notS l)), .int .i64 0], h) := by
  have hr : (notS l).length = 7 := by simp [notS, hl]
  have ht : ∀ a : List Int, a.length = 7 → (ints a).take 7 = ints a := fun a ha => List.take_of_length_le (by simp [ha])
  have hn : ∀ a : List Int, a.length = 7 → 7 ≤ (ints a).length := fun a ha => by simp [ha]
  have e := not_loop hl hv h 1 (.box [.int .i64 0, .int .i64 0, .int .i64 0, .int .i64 0, .int .i64 0, .int .i64 0, .int .i64 0]) 7 0 rfl (by omega)
  simp only [Int.natCast_zero, List.take_zero, List.nil_append, List.drop_zero] at e
  rw [run_closed (x := x18) rfl rfl rfl rfl]
  simp (maxSteps := 1000000) (disch := omega) only [go_sem, ↓reduceIte, Nat.reduceEqDiff, Nat.reduceAdd, Nat.reduceSub, Nat.reduceMul, Nat.reduceLT, Nat.reduceLeDiff, reduceCtorEq, Nat.succ_ne_self, ne_eq, not_true_eq_false, not_false_eq_true, and_self, and_true, true_and, Nat.zero_add, Nat.sub_zero, Nat.zero_mul, Nat.one_mul, Nat.le_refl, List.getElem?_cons_zero, List.set_cons_zero, Int.reduceToNat, Int.reduceLT, Int.reduceLE, Int.reduceAdd, Int.reduceSub, Int.reduceMul, Int.reduceEq, Int.reduceNe, Int.toNat_natCast, Int.natCast_zero, wrap_id, wrapu_id, wrapb_id, idx_ok, bin_quo, bin_rem, tdiv_id, tmod_id, ps_bptr, x18, frzL_ints, ht l hl, hn l hl, ht (notS l) hr, hn (notS l) hr, valid_run hl, hv, e, hl, hr, ints_len, splice7 hr, List.drop_zero]

def andS (a b : List Int) : List Int := List.zipWith (fun x y => ((x.toNat &&& y.toNat : Nat) : Int)) a b
theorem and_loop {l b : List Int} (hl : l.length = 7) (hb : b.length = 7) (hv : vW l = true) (hvb : vW b = true) (h : Heap) (v : Nat) (bl : Blk) (d : Nat) : ∀ k : Nat, d = 7 - k → k ≤ 7 →
    runC lib ⟨h.length, h.length, 2, none⟩ (.loop b20_0) ([(2, .bptr (h.length + 0) 1 0), (3, .cptr (ints b)), (4, .bptr (h.length + 1) 1 0), (16, .int .i64 k)], h ++ [(1, .box (ints ((andS l b).take k ++ l.drop k))), (v, bl)]) =
      some (.exit 0, ([(2, .bptr (h.length + 0) 1 0), (4, .bptr (h.length + 1) 1 0)], h ++ [(1, .box (ints (andS l b))), (v, bl)])) := by
  have hr : (andS l b).length = 7 := by simp [andS, hl, hb]
  induction d with
  | zero =>
    intro k hd hk
    have : k = 7 := by omega
    subst this
    have c1 : ¬ (((7 : Nat) : Int) < 7) := by omega
    rw [List.drop_of_length_le (by omega), List.take_of_length_le (by omega), List.append_nil, w_loop]
    simp (maxSteps := 1000000) (disch := omega) only [go_sem, ↓reduceIte, Nat.reduceEqDiff, Nat.reduceAdd, Nat.reduceSub, Nat.reduceMul, Nat.reduceLT, Nat.reduceLeDiff, reduceCtorEq, Nat.succ_ne_self, ne_eq, not_true_eq_false, not_false_eq_true, and_self, and_true, true_and, Nat.zero_add, Nat.sub_zero, Nat.zero_mul, Nat.one_mul, Nat.le_refl, List.getElem?_cons_zero, List.set_cons_zero, Int.reduceToNat, Int.reduceLT, Int.reduceLE, Int.reduceAdd, Int.reduceSub, Int.reduceMul, Int.reduceEq, Int.reduceNe, Int.toNat_natCast, Int.natCast_zero, wrap_id, wrapu_id, wrapb_id, idx_ok, bin_quo, bin_rem, tdiv_id, tmod_id, ps_bptr, c1]
  | succ d ih =>
    intro k hd hk
    have c1 : (k : Int) < 7 := by omega
    have e := ih (k + 1) (by omega) (by omega)
    rw [cast1, ← cur_set k (by omega) (by omega)] at e
    have hx := vW_iff.mp hv l[k] (List.getElem_mem _)
    have hy := vW_iff.mp hvb b[k] (List.getElem_mem _)
    have hg : (andS l b)[k]'(by omega) = ((l[k].toNat &&& b[k].toNat : Nat) : Int) := by simp [andS]
    rw [hg] at e
    have hdb := ints_drop b k (by omega)
    have hdr := ints_drop ((andS l b).take k ++ l.drop k) k (by rw [cur_len k hr hl hk]; omega)
    rw [cur_at k (by omega) (by omega)] at hdr
    have hle : k + 1 ≤ (ints ((andS l b).take k ++ l.drop k)).length := by rw [ints_len, cur_len k hr hl hk]; omega
    have hs := set_ints ((andS l b).take k ++ l.drop k) k ((l[k].toNat &&& b[k].toNat : Nat) : Int) (by rw [cur_len k hr hl hk]; omega)
    obtain ⟨c, hc⟩ : ∃ c, c = (andS l b).take k ++ l.drop k := ⟨_, rfl⟩
    obtain ⟨x, hxx⟩ : ∃ x, x = l[k] := ⟨_, rfl⟩
    obtain ⟨y, hyy⟩ : ∃ y, y = b[k] := ⟨_, rfl⟩
    rw [← hc, ← hxx] at hdr hs e
    rw [← hc] at hle
    rw [← hc]
    rw [← hxx] at hx
    rw [← hyy] at hy hdb e hs
    have eb := bin_andI (a := x) (b := y) (by omega) (by omega) (by omega) (by omega)
    rw [w_loop]
    simp (maxSteps := 1000000) (disch := omega) only [go_sem, ↓reduceIte, Nat.reduceEqDiff, Nat.reduceAdd, Nat.reduceSub, Nat.reduceMul, Nat.reduceLT, Nat.reduceLeDiff, reduceCtorEq, Nat.succ_ne_self, ne_eq, not_true_eq_false, not_false_eq_true, and_self, and_true, true_and, Nat.zero_add, Nat.sub_zero, Nat.zero_mul, Nat.one_mul, Nat.le_refl, List.getElem?_cons_zero, List.set_cons_zero, Int.reduceToNat, Int.reduceLT, Int.reduceLE, Int.reduceAdd, Int.reduceSub, Int.reduceMul, Int.reduceEq, Int.reduceNe, Int.toNat_natCast, Int.natCast_zero, wrap_id, wrapu_id, wrapb_id, idx_ok, bin_quo, bin_rem, tdiv_id, tmod_id, ps_bptr, c1, hdr, hdb, eb, hle, hs, e, Nat.mul_one]
theorem and_run {l b : List Int} (hl : l.length = 7) (hb : b.length = 7) (hv : vW l = true) (hvb : vW b = true) (h : Heap) (lo : Nat) : (run lib).fn 20 [.agg (ints l), .agg (ints b)] h lo = some (.tuple [.agg (ints (andS l b)), .int .i64 0], h) := by
  have hr : (andS l b).length = 7 := by simp [andS, hl, hb]
  have ht : ∀ a : List Int, a.length = 7 → (ints a).take 7 = ints a := fun a ha => List.take_of_length_le (by simp [ha])
  have hn : ∀ a : List Int, a.length = 7 → 7 ≤ (ints a).length := fun a ha => by simp [ha]
  have e := and_loop hl hb hv hvb h 1 (.box [.int .i64 0, .int .i64 0, .int .i64 0, .int .i64 0, .int .i64 0, .int .i64 0, .int .i64 0]) 7 0 rfl (by omega)
  simp only [Int.natCast_zero, List.take_zero, List.nil_append, List.drop_zero] at e
  rw [run_closed (x := x20) rfl rfl rfl rfl]
  simp (maxSteps := 1000000) (disch := omega) only [go_sem, ↓reduceIte, Nat.reduceEqDiff, Nat.reduceAdd, Nat.reduceSub, Nat.reduceMul, Nat.reduceLT, Nat.reduceLeDiff, reduceCtorEq, Nat.succ_ne_self, ne_eq, not_true_eq_false, not_false_eq_true, and_self, and_true, true_and, Nat.zero_add, Nat.sub_zero, Nat.zero_mul, Nat.one_mul, Nat.le_refl, List.getElem?_cons_zero, List.set_cons_zero, Int.reduceToNat, Int.reduceLT, Int.reduceLE, Int.reduceAdd, Int.reduceSub, Int.reduceMul, Int.reduceEq, Int.reduceNe, Int.toNat_natCast, Int.natCast_zero, wrap_id, wrapu_id, wrapb_id, idx_ok, bin_quo, bin_rem, tdiv_id, tmod_id, ps_bptr, x20, frzL_ints, ht l hl, hn l hl, ht b hb, hn b hb, ht (andS l b) hr, hn (andS l b) hr, valid_run hl, valid_run hb, hv, hvb, e, hl, hb, hr, ints_len, splice7 hr, List.drop_zero]

def orS (a b : List Int) : List Int := List.zipWith (fun x y => ((x.toNat ||| y.toNat : Nat) : Int)) a b
theorem or_loop {l b : List Int} (hl : l.length = 7) (hb : b.length = 7) (hv : vW l = true) (hvb : vW b = true) (h : Heap) (v : Nat) (bl : Blk) (d : Nat) : ∀ k : Nat, d = 7 - k → k ≤ 7 →
    runC lib ⟨h.length, h.length, 2, none⟩ (.loop b21_0) ([(2, .bptr (h.length + 0) 1 0), (3, .cptr (ints b)), (4, .bptr (h.length + 1) 1 0), (16, .int .i64 k)], h ++ [(1, .box (ints ((orS l b).take k ++ l.drop k))), (v, bl)]) =
      some (.exit 0, ([(2, .bptr (h.length + 0) 1 0), (4, .bptr (h.length + 1) 1 0)], h ++ [(1, .box (ints (orS l b))), (v, bl)])) := by
  have hr : (orS l b).length = 7 := by simp [orS, hl, hb]
  induction d with
  | zero =>
    intro k hd hk
    have : k = 7 := by omega
    subst this
    have c1 : ¬ (((7 : Nat) : Int) < 7) := by omega
    rw [List.drop_of_length_le (by omega), List.take_of_length_le (by omega), List.append_nil, w_loop]
    simp (maxSteps := 1000000) (disch := omega) only [go_sem, ↓reduceIte, Nat.reduceEqDiff, Nat.reduceAdd, Nat.reduceSub, Nat.reduceMul, Nat.reduceLT, Nat.reduceLeDiff, reduceCtorEq, Nat.succ_ne_self, ne_eq, not_true_eq_false, not_false_eq_true, and_self, and_true, true_and, Nat.zero_add, Nat.sub_zero, Nat.zero_mul, Nat.one_mul, Nat.le_refl, List.getElem?_cons_zero, List.set_cons_zero, Int.reduceToNat, Int.reduceLT, Int.reduceLE, Int.reduceAdd, Int.reduceSub, Int.reduceMul, Int.reduceEq, Int.reduceNe, Int.toNat_natCast, Int.natCast_zero, wrap_id, wrapu_id, wrapb_id, idx_ok, bin_quo, bin_rem, tdiv_id, tmod_id, ps_bptr, c1]
  | succ d ih =>
    intro k hd hk
    have c1 : (k : Int) < 7 := by omega
    have e := ih (k + 1) (by omega) (by omega)
    rw [cast1, ← cur_set k (by omega) (by omega)] at e
    have hx := vW_iff.mp hv l[k] (List.getElem_mem _)
    have hy := vW_iff.mp hvb b[k] (List.getElem_mem _)
    have hg : (orS l b)[k]'(by omega) = ((l[k].toNat ||| b[k].toNat : Nat) : Int) := by simp [orS]
    rw [hg] at e
    have hdb := ints_drop b k (by omega)
    have hdr := ints_drop ((orS l b).take k ++ l.drop k) k (by rw [cur_len k hr hl hk]; omega)
    rw [cur_at k (by omega) (by omega)] at hdr
    have hle : k + 1 ≤ (ints ((orS l b).take k ++ l.drop k)).length := by rw [ints_len, cur_len k hr hl hk]; omega
    have hs := set_ints ((orS l b).take k ++ l.drop k) k ((l[k].toNat ||| b[k].toNat : Nat) : Int) (by rw [cur_len k hr hl hk]; omega)
    obtain ⟨c, hc⟩ : ∃ c, c = (orS l b).take k ++ l.drop k := ⟨_, rfl⟩
    obtain ⟨x, hxx⟩ : ∃ x, x = l[k] := ⟨_, rfl⟩
    obtain ⟨y, hyy⟩ : ∃ y, y = b[k] := ⟨_, rfl⟩
    rw [← hc, ← hxx] at hdr hs e
    rw [← hc] at hle
    rw [← hc]
    rw [← hxx] at hx
    rw [← hyy] at hy hdb e hs
    have eb := bin_orI (a := x) (b := y) (by omega) (by omega) (by omega) (by omega)
    rw [w_loop]
    simp (maxSteps := 1000000) (disch := omega) only [go_sem, ↓reduceIte, Nat.reduceEqDiff, Nat.reduceAdd, Nat.reduceSub, Nat.reduceMul, Nat.reduceLT, Nat.reduceLeDiff, reduceCtorEq, Nat.succ_ne_self, ne_eq, not_true_eq_false, not_false_eq_true, and_self, and_true, true_and, Nat.zero_add, Nat.sub_zero, Nat.zero_mul, Nat.one_mul, Nat.le_refl, List.getElem?_cons_zero, List.set_cons_zero, Int.reduceToNat, Int.reduceLT, Int.reduceLE, Int.reduceAdd, Int.reduceSub, Int.reduceMul, Int.reduceEq, Int.reduceNe, Int.toNat_natCast, Int.natCast_zero, wrap_id, wrapu_id, wrapb_id, idx_ok, bin_quo, bin_rem, tdiv_id, tmod_id, ps_bptr, c1, hdr, hdb, eb, hle, hs, e, Nat.mul_one]
theorem or_run {l b : List Int} (hl : l.length = 7) (hb : b.length = 7) (hv : vW l = true) (hvb : vW b = true) (h : Heap) (lo : Nat) : (run lib).fn 21 [.agg (ints l), .agg (ints b)] h lo = some (.tuple [.agg (ints (orS l b)), .int .i64 0], h) := by
  have hr : (orS l b).length = 7 := by simp [orS, hl, hb]
  have ht : ∀ a : List Int, a.length = 7 → (ints a).take 7 = ints a := fun a ha => List.take_of_length_le (by simp [ha])
  have hn : ∀ a : List Int, a.length = 7 → 7 ≤ (ints a).length := fun a ha => by simp [ha]
  have e := or_loop hl hb hv hvb h 1 (.box [.int .i64 0, .int .i64 0, .int .i64 0, .int .i64 0, .int .i64 0, .int .i64 0, .int .i64 0]) 7 0 rfl (by omega)
  simp only [Int.natCast_zero, List.take_zero, List.nil_append, List.drop_zero] at e
  rw [run_closed (x := x21) rfl rfl rfl rfl]
  simp (maxSteps := 1000000) (disch := omega) only [go_sem, ↓reduceIte, Nat.reduceEqDiff, Nat.reduceAdd, Nat.reduceSub, Nat.reduceMul, Nat.reduceLT, Nat.reduceLeDiff, reduceCtorEq, Nat.succ_ne_self, ne_eq, not_true_eq_false, not_false_eq_true, and_self, and_true, true_and, Nat.zero_add, Nat.sub_zero, Nat.zero_mul, Nat.one_mul, Nat.le_refl, List.getElem?_cons_zero, List.set_cons_zero, Int.reduceToNat, Int.reduceLT, Int.reduceLE, Int.reduceAdd, Int.reduceSub, Int.reduceMul, Int.reduceEq, Int.reduceNe, Int.toNat_natCast, Int.natCast_zero, wrap_id, wrapu_id, wrapb_id, idx_ok, bin_quo, bin_rem, tdiv_id, tmod_id, ps_bptr, x21, frzL_ints, ht l hl, hn l hl, ht b hb, hn b hb, ht (orS l b) hr, hn (orS l b) hr, valid_run hl, valid_run hb, hv, hvb, e, hl, hb, hr, ints_len, splice7 hr, List.drop_zero]
end Go.VI.Week
namespace Go.VI.Week
set_option linter.unusedVariables false
set_option linter.unusedSimpArgs false

def stepM (c : List Int) (k : Nat) (x : Int) : List Int :=
  if pickS x 5 = 0 ∧ 0 < k then (c.set k (pickS x 16777216)).set k ((c.set k (pickS x 16777216)).getD (k - 1) 0) else if pickS x 7 = 0 then (c.set k (pickS x 16777216)).set k 0 else c.set k (pickS x 16777216)
def madeF (xs : List Int) : Nat → Nat → List Int → List Int
  | 0, _, c => c
  | d + 1, k, c => madeF xs d (k + 1) (stepM c k (xs.getD k 0))
def madeS (xs : List Int) : List Int := madeF xs 7 0 [0, 0, 0, 0, 0, 0, 0]
theorem stepM_len (c : List Int) (k : Nat) (x : Int) : (stepM c k x).length = c.length := by
  unfold stepM
  split
  · simp
  · split <;> simp
theorem vW_set {c : List Int} {k : Nat} {x : Int} (h : vW c = true) (hx : 0 ≤ x ∧ x ≤ 16777215) : vW (c.set k x) = true := by
  rw [vW_iff] at h ⊢
  intro y hy
  rcases List.mem_or_eq_of_mem_set hy with h1 | h1
  · exact h y h1
  · subst h1; exact hx
theorem stepM_v {c : List Int} {k : Nat} {x : Int} (hk : k < c.length) (h : vW c = true) : vW (stepM c k x) = true := by
  have p := pickS_bd (c := x) (n := 16777216) (by omega)
  have h1 := vW_set (k := k) h (x := pickS x 16777216) (by omega)
  unfold stepM
  split
  · refine vW_set h1 ?_
    have hm : k - 1 < (c.set k (pickS x 16777216)).length := by simp; omega
    rw [List.getD_eq_getElem?_getD, List.getElem?_eq_getElem hm]
    exact vW_iff.mp h1 _ (List.getElem_mem _)
  · split
    · exact vW_set h1 (by omega)
    · exact h1
theorem madeF_ok (xs : List Int) (d : Nat) : ∀ (k : Nat) (c : List Int), k + d = 7 → c.length = 7 → vW c = true → (madeF xs d k c).length = 7 ∧ vW (madeF xs d k c) = true := by
  induction d with
  | zero => intro k c _ h1 h2; exact ⟨h1, h2⟩
  | succ d ih => intro k c h0 h1 h2; exact ih (k + 1) _ (by omega) (by rw [stepM_len, h1]) (stepM_v (by omega) h2)
theorem madeS_len (xs : List Int) : (madeS xs).length = 7 := (madeF_ok xs 7 0 [0, 0, 0, 0, 0, 0, 0] rfl rfl rfl).1
theorem madeS_v (xs : List Int) : vW (madeS xs) = true := (madeF_ok xs 7 0 [0, 0, 0, 0, 0, 0, 0] rfl rfl rfl).2
theorem made_loop {xs : List Int} (hx : xs.length = 7) (hi : ∀ x ∈ xs, okI x) (h : Heap) (v : Nat) (b : Blk) (d : Nat) : ∀ (k : Nat) (c : List Int), k + d = 7 → c.length = 7 →
    runC lib ⟨h.length, h.length, 2, none⟩ (.loop b10_0) ([(1, .cptr (ints xs)), (2, .bptr (h.length + 1) 1 0), (3, .bptr (h.length + 0) 1 0), (4, .int .i64 k)], h ++ [(1, .box (ints c)), (v, b)]) =
      some (.exit 0, ([(2, .bptr (h.length + 1) 1 0), (3, .bptr (h.length + 0) 1 0)], h ++ [(1, .box (ints (madeF xs d k c))), (v, b)])) := by
  induction d with
  | zero =>
    intro k c hk hc
    have c1 : ¬ (k : Int) < 7 := by omega
    rw [w_loop]
    simp (maxSteps := 1000000) (disch := omega) only [go_sem, ↓reduceIte, Nat.reduceEqDiff, Nat.reduceAdd, Nat.reduceSub, Nat.reduceMul, Nat.reduceLT, Nat.reduceLeDiff, reduceCtorEq, Nat.succ_ne_self, ne_eq, not_true_eq_false, not_false_eq_true, and_self, and_true, true_and, Nat.zero_add, Nat.sub_zero, Nat.zero_mul, Nat.one_mul, Nat.le_refl, List.getElem?_cons_zero, List.set_cons_zero, Int.reduceToNat, Int.reduceLT, Int.reduceLE, Int.reduceAdd, Int.reduceSub, Int.reduceMul, Int.reduceEq, Int.reduceNe, Int.toNat_natCast, Int.natCast_zero, wrap_id, wrapu_id, wrapb_id, idx_ok, bin_quo, bin_rem, tdiv_id, tmod_id, ps_bptr, c1, madeF]
  | succ d ih =>
    intro k c hk hc
    have c1 : (k : Int) < 7 := by omega
    have hdx := ints_drop xs k (by omega)
    have hix := hi xs[k] (List.getElem_mem _)
    have hg : xs.getD k 0 = xs[k] := by rw [List.getD_eq_getElem?_getD, List.getElem?_eq_getElem (by omega)]; rfl
    have e := ih (k + 1) (stepM c k xs[k]) (by omega) (by rw [stepM_len, hc])
    rw [cast1] at e
    obtain ⟨x, hxx⟩ : ∃ x, x = xs[k] := ⟨_, rfl⟩
    rw [madeF, hg]
    rw [← hxx] at hdx hix e ⊢
    clear hg hxx
    have p0 := fun n hn h lo => pick24 x n h lo hix hn
    have p1 := p0 16777216 (by omega)
    have p2 := p0 5 (by omega)
    have p3 := p0 7 (by omega)
    have hle1 : k + 1 ≤ (ints c).length := by rw [ints_len]; omega
    have hs1 := set_ints c k (pickS x 16777216) (by omega)
    obtain ⟨g, hgg⟩ : ∃ g, g = c.set k (pickS x 16777216) := ⟨_, rfl⟩
    have hgl : g.length = 7 := by rw [hgg]; simp [hc]
    have hle2 : k + 1 ≤ (ints g).length := by rw [ints_len]; omega
    have hst : stepM c k x = if pickS x 5 = 0 ∧ 0 < k then g.set k (g.getD (k - 1) 0) else if pickS x 7 = 0 then g.set k 0 else g := by rw [hgg]; rfl
    rw [← hgg] at hs1
    rw [w_loop]
    by_cases a1 : pickS x 5 = 0
    · by_cases a2 : 0 < k
      · have hd2 := ints_drop g (k - 1) (by omega)
        have hg2 : g.getD (k - 1) 0 = g[k - 1] := by rw [List.getD_eq_getElem?_getD, List.getElem?_eq_getElem (by omega)]; rfl
        rw [hst, if_pos ⟨a1, a2⟩, hg2] at e ⊢
        have hs2 := set_ints g k (g[k - 1]) (by omega)
        obtain ⟨y, hy⟩ : ∃ y, y = g[k - 1] := ⟨_, rfl⟩
        rw [← hy] at hd2 hs2 e ⊢
        have c2 : (0 : Int) < k := by omega
        have c3 : max ((k : Int) - 1) 0 = ((k - 1 : Nat) : Int) := by omega
        simp (maxSteps := 1000000) (disch := omega) only [go_sem, ↓reduceIte, Nat.reduceEqDiff, Nat.reduceAdd, Nat.reduceSub, Nat.reduceMul, Nat.reduceLT, Nat.reduceLeDiff, reduceCtorEq, Nat.succ_ne_self, ne_eq, not_true_eq_false, not_false_eq_true, and_self, and_true, true_and, Nat.zero_add, Nat.sub_zero, Nat.zero_mul, Nat.one_mul, Nat.le_refl, List.getElem?_cons_zero, List.set_cons_zero, Int.reduceToNat, Int.reduceLT, Int.reduceLE, Int.reduceAdd, Int.reduceSub, Int.reduceMul, Int.reduceEq, Int.reduceNe, Int.toNat_natCast, Int.natCast_zero, wrap_id, wrapu_id, wrapb_id, idx_ok, bin_quo, bin_rem, tdiv_id, tmod_id, ps_bptr, c1, hdx, p1, p2, hle1, hs1, hle2, a1, c2, c3, hd2, hs2, e, Nat.mul_one]
      · have c2 : ¬ (0 : Int) < k := by omega
        rw [hst, if_neg (by omega)] at e ⊢
        by_cases a3 : pickS x 7 = 0
        · rw [if_pos a3] at e ⊢
          have hs2 := set_ints g k 0 (by omega)
          simp (maxSteps := 1000000) (disch := omega) only [go_sem, ↓reduceIte, Nat.reduceEqDiff, Nat.reduceAdd, Nat.reduceSub, Nat.reduceMul, Nat.reduceLT, Nat.reduceLeDiff, reduceCtorEq, Nat.succ_ne_self, ne_eq, not_true_eq_false, not_false_eq_true, and_self, and_true, true_and, Nat.zero_add, Nat.sub_zero, Nat.zero_mul, Nat.one_mul, Nat.le_refl, List.getElem?_cons_zero, List.set_cons_zero, Int.reduceToNat, Int.reduceLT, Int.reduceLE, Int.reduceAdd, Int.reduceSub, Int.reduceMul, Int.reduceEq, Int.reduceNe, Int.toNat_natCast, Int.natCast_zero, wrap_id, wrapu_id, wrapb_id, idx_ok, bin_quo, bin_rem, tdiv_id, tmod_id, ps_bptr, c1, hdx, p1, p2, p3, hle1, hs1, hle2, a1, a3, c2, hs2, e, Nat.mul_one]
        · rw [if_neg a3] at e ⊢
          simp (maxSteps := 1000000) (disch := omega) only [go_sem, ↓reduceIte, Nat.reduceEqDiff, Nat.reduceAdd, Nat.reduceSub, Nat.reduceMul, Nat.reduceLT, Nat.reduceLeDiff, reduceCtorEq, Nat.succ_ne_self, ne_eq, not_true_eq_false, not_false_eq_true, and_self, and_true, true_and, Nat.zero_add, Nat.sub_zero, Nat.zero_mul, Nat.one_mul, Nat.le_refl, List.getElem?_cons_zero, List.set_cons_zero, Int.reduceToNat, Int.reduceLT, Int.reduceLE, Int.reduceAdd, Int.reduceSub, Int.reduceMul, Int.reduceEq, Int.reduceNe, Int.toNat_natCast, Int.natCast_zero, wrap_id, wrapu_id, wrapb_id, idx_ok, bin_quo, bin_rem, tdiv_id, tmod_id, ps_bptr, c1, hdx, p1, p2, p3, hle1, hs1, hle2, a1, a3, c2, e, Nat.mul_one]
    · rw [hst, if_neg (fun q => a1 q.1)] at e ⊢
      by_cases a3 : pickS x 7 = 0
      · rw [if_pos a3] at e ⊢
        have hs2 := set_ints g k 0 (by omega)
        simp (maxSteps := 1000000) (disch := omega) only [go_sem, ↓reduceIte, Nat.reduceEqDiff, Nat.reduceAdd, Nat.reduceSub, Nat.reduceMul, Nat.reduceLT, Nat.reduceLeDiff, reduceCtorEq, Nat.succ_ne_self, ne_eq, not_true_eq_false, not_false_eq_true, and_self, and_true, true_and, Nat.zero_add, Nat.sub_zero, Nat.zero_mul, Nat.one_mul, Nat.le_refl, List.getElem?_cons_zero, List.set_cons_zero, Int.reduceToNat, Int.reduceLT, Int.reduceLE, Int.reduceAdd, Int.reduceSub, Int.reduceMul, Int.reduceEq, Int.reduceNe, Int.toNat_natCast, Int.natCast_zero, wrap_id, wrapu_id, wrapb_id, idx_ok, bin_quo, bin_rem, tdiv_id, tmod_id, ps_bptr, c1, hdx, p1, p2, p3, hle1, hs1, hle2, a1, a3, hs2, e, Nat.mul_one]
      · rw [if_neg a3] at e ⊢
        simp (maxSteps := 1000000) (disch := omega) only [go_sem, ↓reduceIte, Nat.reduceEqDiff, Nat.reduceAdd, Nat.reduceSub, Nat.reduceMul, Nat.reduceLT, Nat.reduceLeDiff, reduceCtorEq, Nat.succ_ne_self, ne_eq, not_true_eq_false, not_false_eq_true, and_self, and_true, true_and, Nat.zero_add, Nat.sub_zero, Nat.zero_mul, Nat.one_mul, Nat.le_refl, List.getElem?_cons_zero, List.set_cons_zero, Int.reduceToNat, Int.reduceLT, Int.reduceLE, Int.reduceAdd, Int.reduceSub, Int.reduceMul, Int.reduceEq, Int.reduceNe, Int.toNat_natCast, Int.natCast_zero, wrap_id, wrapu_id, wrapb_id, idx_ok, bin_quo, bin_rem, tdiv_id, tmod_id, ps_bptr, c1, hdx, p1, p2, p3, hle1, hs1, hle2, a1, a3, e, Nat.mul_one]
theorem made_run {xs : List Int} (hx : xs.length = 7) (hi : ∀ x ∈ xs, okI x) (h : Heap) (lo : Nat) : (run lib).fn 10 [.agg (ints xs)] h lo = some (.agg (ints (madeS xs)), h) := by
  have hr := madeS_len xs
  have ht : ∀ a : List Int, a.length = 7 → (ints a).take 7 = ints a := fun a ha => List.take_of_length_le (by simp [ha])
  have e := made_loop hx hi h 1 (.box [.int .i64 0, .int .i64 0, .int .i64 0, .int .i64 0, .int .i64 0, .int .i64 0, .int .i64 0]) 7 0 [0, 0, 0, 0, 0, 0, 0] rfl rfl
  have e0 : ints [0, 0, 0, 0, 0, 0, 0] = [.int .i64 0, .int .i64 0, .int .i64 0, .int .i64 0, .int .i64 0, .int .i64 0, .int .i64 0] := rfl
  have e1 : madeF xs 7 0 [0, 0, 0, 0, 0, 0, 0] = madeS xs := rfl
  simp only [Int.natCast_zero, e0, e1] at e
  rw [run_closed (x := x10) rfl rfl rfl rfl]
  simp (maxSteps := 1000000) (disch := omega) only [go_sem, ↓reduceIte, Nat.reduceEqDiff, Nat.reduceAdd, Nat.reduceSub, Nat.reduceMul, Nat.reduceLT, Nat.reduceLeDiff, reduceCtorEq, Nat.succ_ne_self, ne_eq, not_true_eq_false, not_false_eq_true, and_self, and_true, true_and, Nat.zero_add, Nat.sub_zero, Nat.zero_mul, Nat.one_mul, Nat.le_refl, List.getElem?_cons_zero, List.set_cons_zero, Int.reduceToNat, Int.reduceLT, Int.reduceLE, Int.reduceAdd, Int.reduceSub, Int.reduceMul, Int.reduceEq, Int.reduceNe, Int.toNat_natCast, Int.natCast_zero, wrap_id, wrapu_id, wrapb_id, idx_ok, bin_quo, bin_rem, tdiv_id, tmod_id, ps_bptr, x10, frzL_ints, ht xs hx, ht (madeS xs) hr, e, hx, hr, ints_len, splice7 hr, List.drop_zero]
theorem spell_run (a b : Int) (ha : okI a) (hb : okI b) (h : Heap) (lo : Nat) : (run lib).fn 14 [.int .i64 a, .int .i64 b] h lo = some (.agg [.int .i64 (pickS a 10000000), .int .i64 (pickS a 10000000 + 1 + pickS b (10000000 - pickS a 10000000))], h) := by
  have p1 := pickS_bd (c := a) (n := 10000000) (by omega)
  have p2 := pickS_bd (c := b) (n := 10000000 - pickS a 10000000) (by omega)
  have g1 := fun h lo => pick24 a 10000000 h lo ha (by omega)
  have g2 := fun h lo => pick24 b (10000000 - pickS a 10000000) h lo hb (by omega)
  rw [run_closed (x := x14) rfl rfl rfl rfl]
  obtain ⟨f, hf⟩ : ∃ f, f = pickS a 10000000 := ⟨_, rfl⟩
  rw [← hf] at p1 p2 g1 g2 ⊢
  obtain ⟨g, hg⟩ : ∃ g, g = pickS b (10000000 - f) := ⟨_, rfl⟩
  rw [← hg] at p2 g2 ⊢
  simp (maxSteps := 1000000) (disch := omega) only [go_sem, ↓reduceIte, Nat.reduceEqDiff, Nat.reduceAdd, Nat.reduceSub, Nat.reduceMul, Nat.reduceLT, Nat.reduceLeDiff, reduceCtorEq, Nat.succ_ne_self, ne_eq, not_true_eq_false, not_false_eq_true, and_self, and_true, true_and, Nat.zero_add, Nat.sub_zero, Nat.zero_mul, Nat.one_mul, Nat.le_refl, List.getElem?_cons_zero, List.set_cons_zero, Int.reduceToNat, Int.reduceLT, Int.reduceLE, Int.reduceAdd, Int.reduceSub, Int.reduceMul, Int.reduceEq, Int.reduceNe, Int.toNat_natCast, Int.natCast_zero, wrap_id, wrapu_id, wrapb_id, idx_ok, bin_quo, bin_rem, tdiv_id, tmod_id, ps_bptr, x14, g1, g2]
end Go.VI.Week
