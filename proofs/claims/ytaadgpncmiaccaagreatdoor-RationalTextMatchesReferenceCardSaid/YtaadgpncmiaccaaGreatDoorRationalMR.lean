/- What the functions on integers compute, part MR. -/
import Derived.Test.YtaadgpncmiaccaaGreatDoorRationalMA
import Derived.Test.YtaadgpncmiaccaaGreatDoorRationalMC
set_option linter.unusedVariables false
set_option linter.unusedSimpArgs false
/- Digits: comparing, adding, subtracting. -/
namespace Go.VI.Num
theorem cmpK_dq {a b : List Int} (ha : Dg a) (hb : Dg b) : ∀ k, k ≤ a.length → k ≤ b.length → cmpK a b k = cmpN (dq (a.take k)) (dq (b.take k))
 | 0, _, _ => rfl
 | k + 1, h1, h2 => by
  have ih := cmpK_dq ha hb k (by omega) (by omega)
  have da : Dg (a.take k) := fun x hx => ha x (List.mem_of_mem_take hx)
  have db : Dg (b.take k) := fun x hx => hb x (List.mem_of_mem_take hx)
  have la := dq_lt da
  have lb := dq_lt db
  have na := dq_nn da
  have nb := dq_nn db
  have ea : (a.take k).length = k := by simp; omega
  have eb : (b.take k).length = k := by simp; omega
  rw [ea] at la
  rw [eb] at lb
  have ga : a.getD k 0 = a[k] := by rw [List.getD_eq_getElem?_getD, List.getElem?_eq_getElem (by omega)]; rfl
  have gb : b.getD k 0 = b[k] := by rw [List.getD_eq_getElem?_getD, List.getElem?_eq_getElem (by omega)]; rfl
  rw [List.take_succ_eq_append_getElem (by omega), List.take_succ_eq_append_getElem (by omega), dq_app, dq_app, ea, eb]
  simp only [cmpK, ga, gb, dq, Int.mul_zero, Int.add_zero]
  rw [ih]
  generalize dq (a.take k) = A at *
  generalize dq (b.take k) = B at *
  generalize (10 : Int) ^ k = X at *
  generalize a[k] = x at *
  generalize b[k] = y at *
  by_cases c1 : x = y
  ·subst c1
   rw [if_pos rfl]
   unfold cmpN
   have e1 : (A + X * x < B + X * x) ↔ A < B := by omega
   have e2 : (A + X * x = B + X * x) ↔ A = B := by omega
   simp only [e1, e2]
  ·rw [if_neg c1]
   by_cases c2 : x < y
   ·rw [if_pos c2]
    have : X * (x + 1) ≤ X * y := Int.mul_le_mul_of_nonneg_left (by omega) (by omega)
    rw [Int.mul_add, Int.mul_one] at this
    unfold cmpN
    rw [if_pos (by omega)]
   ·rw [if_neg c2]
    have : X * (y + 1) ≤ X * x := Int.mul_le_mul_of_nonneg_left (by omega) (by omega)
    rw [Int.mul_add, Int.mul_one] at this
    unfold cmpN
    rw [if_neg (by omega), if_neg (by omega)]
theorem d10_len_lt {a b : Nat} (h : (d10 a).length < (d10 b).length) : a < b := by
 have h1 := dq_lt (dg_d10 a)
 rw [dq_d10] at h1
 have hb : d10 b ≠ [] := by intro e; rw [e] at h; simp at h
 -- the last group of b is at least one
 obtain ⟨i, x, e⟩ : ∃ (i : List Int) (x : Int), d10 b = i ++ [x] := ⟨(d10 b).dropLast, (d10 b).getLast hb, (List.dropLast_concat_getLast hb).symm⟩
 have hx : x ≠ 0 := by
  have := trm_d10 b hb
  simp only [e, List.getLast_append_of_ne_nil, ne_eq, List.cons_ne_nil, not_false_eq_true, List.getLast_singleton] at this
  exact this
 have hd := dg_d10 b
 rw [e] at hd
 have hx2 := hd x (by simp)
 have hi : Dg i := fun y hy => hd y (by simp [hy])
 have h3 := dq_nn hi
 have h2 := dq_d10 b
 rw [e, dq_app] at h2
 simp only [dq, Int.mul_zero, Int.add_zero] at h2
 have hl : (d10 a).length ≤ i.length := by rw [e] at h; simp at h; omega
 have h4 : (10 : Int) ^ (d10 a).length ≤ 10 ^ i.length := ipow_le (by omega) hl
 have h5 : (10 : Int) ^ i.length * 1 ≤ 10 ^ i.length * x := Int.mul_le_mul_of_nonneg_left (by omega) (Int.pow_nonneg (by omega))
 rw [Int.mul_one] at h5
 omega
theorem d10_len_le {a b : Nat} (h : a ≤ b) : (d10 a).length ≤ (d10 b).length := by
 rcases Nat.lt_or_ge (d10 b).length (d10 a).length with h1 | h1
 ·have := d10_len_lt h1; omega
 ·exact h1
theorem cmpL_d10 (a b : Nat) : cmpL (d10 a) (d10 b) = cmpN a b := by
 unfold cmpL
 by_cases h : (d10 a).length = (d10 b).length
 ·rw [if_pos h, cmpK_dq (dg_d10 a) (dg_d10 b) _ (Nat.le_refl _) (by omega), List.take_length, h, List.take_length, dq_d10, dq_d10]
 ·rw [if_neg h]
  by_cases h2 : (d10 a).length < (d10 b).length
  ·have := d10_len_lt h2
   rw [if_pos h2]; unfold cmpN; rw [if_pos (by omega)]
  ·have := d10_len_lt (a := b) (b := a) (by omega)
   rw [if_neg h2]; unfold cmpN; rw [if_neg (by omega), if_neg (by omega)]
theorem dr_lt {l : List Int} {i A : Nat} (h : l.drop i = d10 A) : i < l.length ↔ A ≠ 0 := by
 constructor
 ·intro hi h0
  subst h0
  have := congrArg List.length h
  rw [d10_zero] at this
  simp at this; omega
 ·intro h0
  rcases Nat.lt_or_ge i l.length with c | c
  ·exact c
  ·rw [List.drop_of_length_le c] at h
   exact absurd (d10_nil.mp h.symm) h0
theorem dr_get {l : List Int} {i A : Nat} (h : l.drop i = d10 A) (h0 : A ≠ 0) (hi : i < l.length) : l[i] = ((A % 10 : Nat) : Int) ∧ l.drop (i + 1) = d10 (A / 10) := by
 rw [List.drop_eq_getElem_cons hi, d10_pos h0] at h
 exact ⟨(List.cons.inj h).1, (List.cons.inj h).2⟩
theorem dr_next {l : List Int} {i A : Nat} (h : l.drop i = d10 A) : l.drop (i + 1) = d10 (A / 10) := by
 by_cases h0 : A = 0
 ·subst h0
  rw [d10_zero] at h
  have : l.length ≤ i := by have := congrArg List.length h; simp at this; omega
  rw [List.drop_of_length_le (by omega)]; rfl
 ·exact (dr_get h h0 ((dr_lt h).mpr h0)).2
def plF : Nat → Nat → Nat → Nat → List Int
 | 0, _, _, _ => []
 | f + 1, A, B, c => if A = 0 ∧ B = 0 ∧ c = 0 then [] else (((A % 10 + B % 10 + c) % 10 : Nat) : Int) :: plF f (A / 10) (B / 10) ((A % 10 + B % 10 + c) / 10)
theorem pl_ok : ∀ (f A B c : Nat), A + B + c ≤ f → plF f A B c = d10 (A + B + c)
 | 0, A, B, c, h => by
  have : A + B + c = 0 := by omega
  rw [this]; rfl
 | f + 1, A, B, c, h => by
  simp only [plF]
  by_cases h0 : A = 0 ∧ B = 0 ∧ c = 0
  ·rw [if_pos h0, show A + B + c = 0 by omega]; rfl
  ·rw [if_neg h0, pl_ok f _ _ _ (by omega), d10_pos (n := A + B + c) (by omega)]
   have e1 : (A % 10 + B % 10 + c) % 10 = (A + B + c) % 10 := by omega
   have e2 : A / 10 + B / 10 + (A % 10 + B % 10 + c) / 10 = (A + B + c) / 10 := by omega
   rw [e1, e2]
def mnF : Nat → Nat → Nat → Nat → List Int
 | 0, _, _, _ => []
 | f + 1, A, B, w => if A = 0 then [] else if A % 10 < w + B % 10 then ((A % 10 + 10 - w - B % 10 : Nat) : Int) :: mnF f (A / 10) (B / 10) 1 else ((A % 10 - w - B % 10 : Nat) : Int) :: mnF f (A / 10) (B / 10) 0
theorem mn_ok : ∀ (f A B w : Nat), A ≤ f → w ≤ 1 → B + w ≤ A → dq (mnF f A B w) = (A - B - w : Nat) ∧ Dg (mnF f A B w)
 | 0, A, B, w, h, hw, hb => by
  have e : A - B - w = 0 := by omega
  rw [e]; exact ⟨rfl, Dg.nil⟩
 | f + 1, A, B, w, h, hw, hb => by
  simp only [mnF]
  by_cases h0 : A = 0
  ·rw [if_pos h0, show A - B - w = 0 by omega]; exact ⟨rfl, Dg.nil⟩
  ·rw [if_neg h0]
   by_cases c : A % 10 < w + B % 10
   ·obtain ⟨k1, k2⟩ := mn_ok f (A / 10) (B / 10) 1 (by omega) (by omega) (by omega)
    rw [if_pos c, dq, k1]
    exact ⟨by omega, Dg.cons.mpr ⟨by omega, k2⟩⟩
   ·obtain ⟨k1, k2⟩ := mn_ok f (A / 10) (B / 10) 0 (by omega) (by omega) (by omega)
    rw [if_neg c, dq, k1]
    exact ⟨by omega, Dg.cons.mpr ⟨by omega, k2⟩⟩
theorem mnF_len : ∀ (f A B w : Nat), (mnF f A B w).length ≤ (d10 A).length
 | 0, A, B, w => by simp [mnF]
 | f + 1, A, B, w => by
  simp only [mnF]
  by_cases h0 : A = 0
  ·rw [if_pos h0]; simp
  ·rw [if_neg h0, d10_pos h0]
   split
   ·have := mnF_len f (A / 10) (B / 10) 1; simp; omega
   ·have := mnF_len f (A / 10) (B / 10) 0; simp; omega
end Go.VI.Num
/- Digits: multiplying row by row, dividing. -/
namespace Go.VI.Num
def rowF (d : Int) : List Int → List Int → Int → List Int
 | [], _, _ => []
 | o0 :: o, b0 :: m, c => ((o0 + c + d * b0) % 10) :: rowF d o m ((o0 + c + d * b0) / 10)
 | o0 :: o, [], c => if 0 < c then ((o0 + c) % 10) :: rowF d o [] ((o0 + c) / 10) else o0 :: o
end Go.VI.Num
namespace Go.VI.Rational
open Go.VI.Num
theorem getD_at {l : List Int} {k : Nat} (h : k < l.length) : l.getD k 0 = l[k] := by rw [List.getD_eq_getElem?_getD, List.getElem?_eq_getElem h]; rfl
theorem rord_loop {v u : AV} {l m : List Int} (hv : PureSl 1 v (ints l)) (hu : PureSl 1 u (ints m)) (hl : l.length = m.length) (hm : m.length ≤ 1000000) (cx : Cx) (H : Heap) : ∀ k : Nat, k ≤ l.length →
  (cmpK l m k = 0 ∧ runC lib cx (.loop b95_0) ([(0, v), (1, u), (5, .int .i64 ((k : Int) - 1))], H) = some (.exit 0, ([], H))) ∨
  runC lib cx (.loop b95_0) ([(0, v), (1, u), (5, .int .i64 ((k : Int) - 1))], H) = some (.ret, ([(4, .int .i64 (cmpK l m k))], H)) := by
 intro k
 induction k with
 | zero =>
  intro hk
  have c1 : ¬ (0 : Int) ≤ -1 := by omega
  refine .inl ⟨rfl, ?_⟩
  rw [w_loop]
  simp (maxSteps := 1000000) (disch := omega) only [go_sem, c1, Int.zero_sub, Int.reduceNeg]
 | succ k ih =>
  intro hk
  have c1 : (0 : Int) ≤ (k : Int) := by omega
  have e0 : (k : Int) + 1 - 1 = k := by omega
  have hkl : k < l.length := by omega
  have hkm : k < m.length := by omega
  have a3 : sidx 1 v (.int .i64 k) = some k := by rw [sidx_sl (hv.sl H) (by omega) (by simp; omega)]; simp
  have b3 : sidx 1 u (.int .i64 k) = some k := by rw [sidx_sl (hu.sl H) (by omega) (by simp; omega)]; simp
  have a4 := fun off => pc_iptr (off := off) (hv.sl H).elems0 (show k < (ints l).length by simp; omega)
  have b4 := fun off => pc_iptr (off := off) (hu.sl H).elems0 (show k < (ints m).length by simp; omega)
  simp only [ints_get] at a4 b4
  have ih' := ih (by omega)
  simp only [cmpK, getD_at hkl, getD_at hkm]
  generalize l[k] = x at *
  generalize m[k] = y at *
  by_cases c : x = y
  ·rw [if_pos c]
   subst c
   have st : runC lib cx (.loop b95_0) ([(0, v), (1, u), (5, .int .i64 (((k + 1 : Nat) : Int) - 1))], H) = runC lib cx (.loop b95_0) ([(0, v), (1, u), (5, .int .i64 ((k : Int) - 1))], H) := by
    rw [w_loop]
    simp (maxSteps := 1000000) (disch := omega) only [go_sem, cast1, e0, c1, a3, b3, a4, b4, ne_eq, not_true_eq_false]
   rw [st]
   exact ih'
  ·rw [if_neg c]
   right
   by_cases c2 : x < y
   ·rw [if_pos c2, w_loop]
    simp (maxSteps := 1000000) (disch := omega) only [go_sem, cast1, e0, c1, a3, b3, a4, b4, c, c2]
   ·rw [if_neg c2, w_loop]
    simp (maxSteps := 1000000) (disch := omega) only [go_sem, cast1, e0, c1, a3, b3, a4, b4, c, c2]
theorem rorder_run {v u : AV} {a b : Nat} (hv : PureSl 1 v (ints (d10 a))) (hu : PureSl 1 u (ints (d10 b))) (ha : (d10 a).length ≤ 100000) (hb : (d10 b).length ≤ 100000) (h : Heap) (lo : Nat) :
  (run lib).fn 95 [v, u] h lo = some (.int .i64 (cmpN a b), h) := by
 rw [← cmpL_d10]
 have s1 := lenv_sl (hv.sl []).len
 have s2 := lenv_sl (hu.sl []).len
 rw [ints_len] at s1 s2
 unfold cmpL
 rw [run_closed (x := x95) rfl rfl rfl rfl]
 by_cases hl : (d10 a).length = (d10 b).length
 ·have c1 : ((d10 a).length : Int) = (d10 b).length := by omega
  rw [if_pos hl]
  rcases rord_loop hv hu hl (by omega) ⟨h.length, h.length, 0, none⟩ h (d10 a).length (Nat.le_refl _) with ⟨k1, k2⟩ | k2
  ·rw [k1]
   rw [c1] at k2 s1
   simp (maxSteps := 1000000) (disch := omega) only [go_sem, x95, s1, s2, c1, ne_eq, not_true_eq_false, k2]
  ·rw [c1] at k2 s1
   simp (maxSteps := 1000000) (disch := omega) only [go_sem, x95, s1, s2, c1, ne_eq, not_true_eq_false, k2]
 ·have c1 : ¬ ((d10 a).length : Int) = (d10 b).length := by omega
  rw [if_neg hl]
  by_cases c2 : (d10 a).length < (d10 b).length
  ·have c3 : ((d10 a).length : Int) < (d10 b).length := by omega
   rw [if_pos c2]
   simp (maxSteps := 1000000) (disch := omega) only [go_sem, x95, s1, s2, c1, c3]
  ·have c3 : ¬ ((d10 a).length : Int) < (d10 b).length := by omega
   rw [if_neg c2]
   simp (maxSteps := 1000000) (disch := omega) only [go_sem, x95, s1, s2, c1, c3]
theorem rplus_loop {v u : AV} {l m : List Int} (hv : PureSl 1 v (ints l)) (hu : PureSl 1 u (ints m)) (hl : l.length ≤ 100000) (hm : m.length ≤ 100000) (h : Heap) : ∀ (f A B c i : Nat) (acc : List Int), A + B + c ≤ f → c ≤ 1 → l.drop i = d10 A → m.drop i = d10 B → acc.length = i → (c ≠ 0 → i ≤ max l.length m.length) →
  runC lib ⟨h.length, h.length, 1, none⟩ (.loop b93_0) ([(0, v), (1, u), (5, accV (h.length + 0) (0, .dead) 1 (ints acc)), (6, .int .i64 c), (7, .int .i64 i)], h ++ [accB (0, .dead) 1 (ints acc)]) =
   some (.exit 0, ([(5, accV (h.length + 0) (0, .dead) 1 (ints (acc ++ plF f A B c)))], h ++ [accB (0, .dead) 1 (ints (acc ++ plF f A B c))])) := by
 have s1 := lenv_sl (hv.sl []).len
 have s2 := lenv_sl (hu.sl []).len
 rw [ints_len] at s1 s2
 intro f
 induction f with
 | zero =>
  intro A B c i acc h1 h2 h3 h4 h5 h6
  have a1 : ¬ (i : Int) < l.length := by have := dr_lt h3; omega
  have a2 : ¬ (i : Int) < m.length := by have := dr_lt h4; omega
  have a3 : c = 0 := by omega
  subst a3
  rw [w_loop]
  simp only [plF, List.append_nil]
  simp (maxSteps := 1000000) (disch := omega) only [go_sem, s1, s2, a1, a2, Int.lt_irrefl]
 | succ f ih =>
  intro A B c i acc h1 h2 h3 h4 h5 h6
  by_cases hst : A = 0 ∧ B = 0 ∧ c = 0
  ·have a1 : ¬ (i : Int) < l.length := by have := dr_lt h3; omega
   have a2 : ¬ (i : Int) < m.length := by have := dr_lt h4; omega
   have a3 : c = 0 := hst.2.2
   subst a3
   rw [w_loop]
   simp only [plF, hst, and_self, if_true, List.append_nil]
   simp (maxSteps := 1000000) (disch := omega) only [go_sem, s1, s2, a1, a2, Int.lt_irrefl]
  ·have hil : A ≠ 0 → i < l.length := (dr_lt h3).mpr
   have him : B ≠ 0 → i < m.length := (dr_lt h4).mpr
   have hi : i ≤ 100000 := by
    by_cases cA : A = 0
    ·by_cases cB : B = 0
     ·have := h6 (by omega); omega
     ·have := him cB; omega
    ·have := hil cA; omega
   have key : ∀ (x y : Int), x = ((A % 10 + B % 10 + c) % 10 : Nat) → y = ((A % 10 + B % 10 + c) / 10 : Nat) → runC lib ⟨h.length, h.length, 1, none⟩ (.loop b93_0) ([(0, v), (1, u), (5, accV (h.length + 0) (0, .dead) 1 (ints acc ++ [.int .i64 x])), (6, .int .i64 y), (7, .int .i64 ((i : Int) + 1))], h ++ [accB (0, .dead) 1 (ints acc ++ [.int .i64 x])]) =
     some (.exit 0, ([(5, accV (h.length + 0) (0, .dead) 1 (ints (acc ++ plF (f + 1) A B c)))], h ++ [accB (0, .dead) 1 (ints (acc ++ plF (f + 1) A B c))])) := fun x y hx hy => by
    have k := ih (A / 10) (B / 10) ((A % 10 + B % 10 + c) / 10) (i + 1) (acc ++ [x]) (by omega) (by omega) (dr_next h3) (dr_next h4) (by simp [h5]) (fun hc => by
     by_cases cA : A = 0
     ·by_cases cB : B = 0
      ·omega
      ·have := him cB; omega
     ·have := hil cA; omega)
    have e : acc ++ plF (f + 1) A B c = acc ++ [x] ++ plF f (A / 10) (B / 10) ((A % 10 + B % 10 + c) / 10) := by simp only [plF, hst, if_false, hx]; simp
    rw [e]
    rw [ints_app acc [x], ints_one, cast1, ← hy] at k
    exact k
   have ea := fun x : Int => app_acc (lo := h.length) (ns := 1) (s := 0) (z := 1) (lim := 17592186044416) (h := h) (fr := [accB (0, .dead) 1 (ints acc)]) (b0 := (0, .dead)) (es := ints acc) (xs := [.int .i64 x]) (by omega) (Nat.le_refl _) rfl (by simp; omega)
   simp only [List.set_cons_zero] at ea
   rw [w_loop]
   by_cases cA : A = 0
   ·have a1 : ¬ (i : Int) < l.length := by have := dr_lt h3; omega
    by_cases cB : B = 0
    ·have a2 : ¬ (i : Int) < m.length := by have := dr_lt h4; omega
     have a3 : (0 : Int) < (c : Int) := by omega
     have k := key ((c : Int) % 10) ((c : Int) / 10) (by omega) (by omega)
     simp (maxSteps := 1000000) (disch := omega) only [go_sem, s1, s2, a1, a2, a3, ea, k]
    ·have hi2 := him cB
     have a2 : (i : Int) < m.length := by omega
     have e3 : sidx 1 u (.int .i64 i) = some i := by rw [sidx_sl (hu.sl []) (by omega) (by simp; omega)]; simp
     have e4 := fun off H => pc_iptr (off := off) (hu.sl H).elems0 (show i < (ints m).length by simp; omega)
     simp only [ints_get, (dr_get h4 cB hi2).1] at e4
     have k := key (((c : Int) + ((B % 10 : Nat) : Int)) % 10) (((c : Int) + ((B % 10 : Nat) : Int)) / 10) (by omega) (by omega)
     have hq : B % 10 ≤ 9 := by omega
     generalize B % 10 = q at *
     simp (maxSteps := 1000000) (disch := omega) only [go_sem, s1, s2, a1, a2, e3, e4, ea, k]
   ·have hi1 := hil cA
    have a1 : (i : Int) < l.length := by omega
    have e3 : sidx 1 v (.int .i64 i) = some i := by rw [sidx_sl (hv.sl []) (by omega) (by simp; omega)]; simp
    have e4 := fun off H => pc_iptr (off := off) (hv.sl H).elems0 (show i < (ints l).length by simp; omega)
    simp only [ints_get, (dr_get h3 cA hi1).1] at e4
    by_cases cB : B = 0
    ·have a2 : ¬ (i : Int) < m.length := by have := dr_lt h4; omega
     have k := key (((c : Int) + ((A % 10 : Nat) : Int)) % 10) (((c : Int) + ((A % 10 : Nat) : Int)) / 10) (by omega) (by omega)
     have hp : A % 10 ≤ 9 := by omega
     generalize A % 10 = p at *
     simp (maxSteps := 1000000) (disch := omega) only [go_sem, s1, s2, a1, a2, e3, e4, ea, k]
    ·have hi2 := him cB
     have a2 : (i : Int) < m.length := by omega
     have b3 : sidx 1 u (.int .i64 i) = some i := by rw [sidx_sl (hu.sl []) (by omega) (by simp; omega)]; simp
     have b4 := fun off H => pc_iptr (off := off) (hu.sl H).elems0 (show i < (ints m).length by simp; omega)
     simp only [ints_get, (dr_get h4 cB hi2).1] at b4
     have k := key (((c : Int) + ((A % 10 : Nat) : Int) + ((B % 10 : Nat) : Int)) % 10) (((c : Int) + ((A % 10 : Nat) : Int) + ((B % 10 : Nat) : Int)) / 10) (by omega) (by omega)
     have hp : A % 10 ≤ 9 := by omega
     have hq : B % 10 ≤ 9 := by omega
     generalize A % 10 = p at *
     generalize B % 10 = q at *
     simp (maxSteps := 1000000) (disch := omega) only [go_sem, s1, s2, a1, a2, e3, e4, b3, b4, ea, k]
theorem rplus_run {v u : AV} {a b : Nat} (hv : PureSl 1 v (ints (d10 a))) (hu : PureSl 1 u (ints (d10 b))) (ha : (d10 a).length ≤ 100000) (hb : (d10 b).length ≤ 100000) (h : Heap) (lo : Nat) :
  (run lib).fn 93 [v, u] h lo = some (ownV 1 (ints (d10 (a + b))), h) := by
 have lp := rplus_loop hv hu ha hb h (a + b + 0) a b 0 0 [] (Nat.le_refl _) (by omega) (List.drop_zero) (List.drop_zero) rfl (fun h => absurd rfl h)
 rw [pl_ok _ _ _ _ (Nat.le_refl _), show a + b + 0 = a + b from rfl, List.nil_append] at lp
 have i0 : accV (h.length + 0) (0, .dead) 1 (ints []) = .nilSl := rfl
 have j0 : accB (0, .dead) 1 (ints []) = (0, .dead) := rfl
 rw [i0, j0] at lp
 simp only [Int.natCast_zero] at lp
 have hg := giveRes_acc (h := h) (fr := [accB (0, .dead) 1 (ints (d10 (a + b)))]) (s := 0) (z := 1) (b0 := (0, .dead)) (es := ints (d10 (a + b))) rfl
 rw [run_closed (x := x93) rfl rfl rfl rfl]
 simp (maxSteps := 1000000) (disch := omega) only [go_sem, x93, lp, hg, Option.map_some]
theorem own_pure (l : List Int) : PureSl 1 (weak1 (ownV 1 (ints l))) (ints l) := by
 rw [weak1_ownV]
 unfold lstV
 split
 ·rename_i h; rw [h]; exact .inr ⟨0, .inl rfl, .inr rfl⟩
 ·exact lst_pure l
end Go.VI.Rational
namespace Go.VI.Rational
open Go.VI.Num
theorem rminus_loop {v u : AV} {l m : List Int} (hv : PureSl 1 v (ints l)) (hu : PureSl 1 u (ints m)) (hl : l.length ≤ 100000) (hm : m.length ≤ 100000) (h : Heap) (D : Nat × Blk) : ∀ (f A B c i : Nat) (acc : List Int), A ≤ f → c ≤ 1 → l.drop i = d10 A → m.drop i = d10 B → acc.length = i → i ≤ l.length →
  runC lib ⟨h.length, h.length, 2, none⟩ (.loop b94_0) ([(0, v), (1, u), (5, accV (h.length + 1) (0, .dead) 1 (ints acc)), (6, .int .i64 c), (7, .int .i64 i)], h ++ [D, accB (0, .dead) 1 (ints acc)]) =
   some (.exit 0, ([(5, accV (h.length + 1) (0, .dead) 1 (ints (acc ++ mnF f A B c)))], h ++ [D, accB (0, .dead) 1 (ints (acc ++ mnF f A B c))])) := by
 have s1 := lenv_sl (hv.sl []).len
 have s2 := lenv_sl (hu.sl []).len
 rw [ints_len] at s1 s2
 intro f
 induction f with
 | zero =>
  intro A B c i acc h1 h2 h3 h4 h5 h6
  have a1 : ¬ (i : Int) < l.length := by have := dr_lt h3; omega
  rw [w_loop]
  simp only [mnF, List.append_nil]
  simp (maxSteps := 1000000) (disch := omega) only [go_sem, s1, a1]
 | succ f ih =>
  intro A B c i acc h1 h2 h3 h4 h5 h6
  by_cases cA : A = 0
  ·have a1 : ¬ (i : Int) < l.length := by have := dr_lt h3; omega
   rw [w_loop]
   simp only [mnF, cA, if_true, List.append_nil]
   simp (maxSteps := 1000000) (disch := omega) only [go_sem, s1, a1]
  ·have hi1 := (dr_lt h3).mpr cA
   have him : B ≠ 0 → i < m.length := (dr_lt h4).mpr
   have a1 : (i : Int) < l.length := by omega
   have e3 : sidx 1 v (.int .i64 i) = some i := by rw [sidx_sl (hv.sl []) (by omega) (by simp; omega)]; simp
   have e4 := fun off H => pc_iptr (off := off) (hv.sl H).elems0 (show i < (ints l).length by simp; omega)
   simp only [ints_get, (dr_get h3 cA hi1).1] at e4
   have hp : A % 10 ≤ 9 := by omega
   have hq : B % 10 ≤ 9 := by omega
   have keyL : ∀ (x : Int), A % 10 < c + B % 10 → x = (A % 10 + 10 - c - B % 10 : Nat) → runC lib ⟨h.length, h.length, 2, none⟩ (.loop b94_0) ([(0, v), (1, u), (5, accV (h.length + 1) (0, .dead) 1 (ints acc ++ [.int .i64 x])), (6, .int .i64 1), (7, .int .i64 ((i : Int) + 1))], h ++ [D, accB (0, .dead) 1 (ints acc ++ [.int .i64 x])]) =
     some (.exit 0, ([(5, accV (h.length + 1) (0, .dead) 1 (ints (acc ++ mnF (f + 1) A B c)))], h ++ [D, accB (0, .dead) 1 (ints (acc ++ mnF (f + 1) A B c))])) := fun x hc hx => by
    have k := ih (A / 10) (B / 10) 1 (i + 1) (acc ++ [x]) (by omega) (by omega) (dr_next h3) (dr_next h4) (by simp [h5]) (by omega)
    have e : acc ++ mnF (f + 1) A B c = acc ++ [x] ++ mnF f (A / 10) (B / 10) 1 := by simp only [mnF, cA, hc, if_false, if_true, hx]; simp
    rw [e]
    rw [ints_app acc [x], ints_one, cast1] at k
    exact k
   have keyG : ∀ (x : Int), ¬ A % 10 < c + B % 10 → x = (A % 10 - c - B % 10 : Nat) → runC lib ⟨h.length, h.length, 2, none⟩ (.loop b94_0) ([(0, v), (1, u), (5, accV (h.length + 1) (0, .dead) 1 (ints acc ++ [.int .i64 x])), (6, .int .i64 0), (7, .int .i64 ((i : Int) + 1))], h ++ [D, accB (0, .dead) 1 (ints acc ++ [.int .i64 x])]) =
     some (.exit 0, ([(5, accV (h.length + 1) (0, .dead) 1 (ints (acc ++ mnF (f + 1) A B c)))], h ++ [D, accB (0, .dead) 1 (ints (acc ++ mnF (f + 1) A B c))])) := fun x hc hx => by
    have k := ih (A / 10) (B / 10) 0 (i + 1) (acc ++ [x]) (by omega) (by omega) (dr_next h3) (dr_next h4) (by simp [h5]) (by omega)
    have e : acc ++ mnF (f + 1) A B c = acc ++ [x] ++ mnF f (A / 10) (B / 10) 0 := by simp only [mnF, cA, hc, if_false, hx]; simp
    rw [e]
    rw [ints_app acc [x], ints_one, cast1] at k
    exact k
   have ea := fun x : Int => app_acc (lo := h.length) (ns := 2) (s := 1) (z := 1) (lim := 17592186044416) (h := h) (fr := [D, accB (0, .dead) 1 (ints acc)]) (b0 := (0, .dead)) (es := ints acc) (xs := [.int .i64 x]) (by omega) (Nat.le_refl _) rfl (by simp; omega)
   simp only [List.set_cons_zero, List.set_cons_succ] at ea
   rw [w_loop]
   by_cases cB : B = 0
   ·have a2 : ¬ (i : Int) < m.length := by have := dr_lt h4; omega
    have b0 : B % 10 = 0 := by omega
    rw [b0] at keyL keyG
    generalize A % 10 = p at *
    by_cases cc : p < c + 0
    ·have c2 : (p : Int) - c < 0 := by omega
     have k := keyL ((p : Int) - c + 10) cc (by omega)
     simp (maxSteps := 1000000) (disch := omega) only [go_sem, s1, s2, a1, a2, e3, e4, c2, ea, k]
    ·have c2 : ¬ (p : Int) - c < 0 := by omega
     have k := keyG ((p : Int) - c) cc (by omega)
     simp (maxSteps := 1000000) (disch := omega) only [go_sem, s1, s2, a1, a2, e3, e4, c2, ea, k]
   ·have hi2 := him cB
    have a2 : (i : Int) < m.length := by omega
    have b3 : sidx 1 u (.int .i64 i) = some i := by rw [sidx_sl (hu.sl []) (by omega) (by simp; omega)]; simp
    have b4 := fun off H => pc_iptr (off := off) (hu.sl H).elems0 (show i < (ints m).length by simp; omega)
    simp only [ints_get, (dr_get h4 cB hi2).1] at b4
    generalize A % 10 = p at *
    generalize B % 10 = q at *
    by_cases cc : p < c + q
    ·have c2 : (p : Int) - c - q < 0 := by omega
     have k := keyL ((p : Int) - c - q + 10) cc (by omega)
     simp (maxSteps := 1000000) (disch := omega) only [go_sem, s1, s2, a1, a2, e3, e4, b3, b4, c2, ea, k]
    ·have c2 : ¬ (p : Int) - c - q < 0 := by omega
     have k := keyG ((p : Int) - c - q) cc (by omega)
     simp (maxSteps := 1000000) (disch := omega) only [go_sem, s1, s2, a1, a2, e3, e4, b3, b4, c2, ea, k]
def trX (l : List Int) : AV := if (trimL l).length = l.length then .own 1 (ints (trimL l)) else .lst 1 (ints (trimL l))
theorem trX_weak1 (l : List Int) : weak1 (trX l) = .lst 1 (ints (trimL l)) := by unfold trX; split <;> rfl
theorem trX_weak (l : List Int) : weak (trX l) = .lst 1 (ints (trimL l)) := by unfold trX; split <;> rfl
theorem trim_take (l : List Int) : l.take (trimL l).length = trimL l := by
 unfold trimL
 rw [List.length_take, Nat.min_eq_left (trimK_le _ _)]
theorem trim_le (l : List Int) : (trimL l).length ≤ l.length := by simp [trimL]; omega
theorem give_trim {h fr : Heap} {s ver : Nat} {l : List Int} (hf : fr[s]? = some (ver, .arr 1 (ints l))) :
  give h.length (.ref (h.length + s) ver 1 0 (trimL l).length l.length) (h ++ fr) = some (trX l, h ++ fr.set s (ver, .dead)) := by
 have hg : (h ++ fr)[h.length + s]? = some (ver, .arr 1 (ints l)) := by rw [get_fr]; exact hf
 have ht := trim_le l
 have ha : asList0 (h ++ fr) (.ref (h.length + s) ver 1 0 (trimL l).length l.length) = some (ints (trimL l)) := by
  have e : (ints l).take (trimL l).length = ints (trimL l) := by simp only [ints, ← List.map_take, trim_take]
  simp [asList0, hg, ht, e]
 unfold trX
 by_cases c : (trimL l).length = l.length
 ·rw [if_pos c]
  rw [c] at ha ⊢
  simp only [give, ha]
  simp [set_fr]
 ·rw [if_neg c]
  simp only [give]
  rw [if_neg (by omega)]
  simp [frz, ha, set_fr]
theorem giveRes_trim {h fr : Heap} {s ver : Nat} {l : List Int} (hf : fr[s]? = some (ver, .arr 1 (ints l))) :
  giveRes h.length (.ref (h.length + s) ver 1 0 (trimL l).length l.length) (h ++ fr) = some (trX l) := by
 have := give_trim (h := h) hf
 simp only [giveRes]
 rw [this]; rfl
theorem rtrim_at {h fr : Heap} {s : Nat} {l : List Int} (hl : l.length ≤ 1000000) (hf : fr[s]? = some (1, .arr 1 (ints l))) (lo : Nat) : (run lib).fn 83 [.ref (h.length + s) 1 1 0 l.length l.length] (h ++ fr) lo = some (.ref (h.length + s) 1 1 0 (trimL l).length l.length, h ++ fr) :=
 rtrim_run hl _ (h.length + s) (by rw [get_fr]; exact hf) l.length rfl lo
theorem rminus_run {v u : AV} {a b : Nat} (hv : PureSl 1 v (ints (d10 a))) (hu : PureSl 1 u (ints (d10 b))) (hab : b ≤ a) (ha : (d10 a).length ≤ 100000) (hb : (d10 b).length ≤ 100000) :
  ∃ X : AV, PureSl 1 (weak1 X) (ints (d10 (a - b))) ∧ weak X = weak1 X ∧ ∀ (h : Heap) (lo : Nat), (run lib).fn 94 [v, u] h lo = some (X, h) := by
 obtain ⟨k1, k2⟩ := mn_ok a a b 0 (Nat.le_refl _) (by omega) (by omega)
 have htr := trim10_eq k2
 rw [k1, Int.toNat_natCast, Nat.sub_zero] at htr
 have hml := mnF_len a a b 0
 have lp := fun h D => rminus_loop hv hu ha hb h D a a b 0 0 [] (Nat.le_refl _) (by omega) (List.drop_zero) (List.drop_zero) rfl (Nat.zero_le _)
 simp only [List.nil_append, Int.natCast_zero] at lp
 have i0 : ∀ h : Heap, accV (h.length + 1) (0, .dead) 1 (ints []) = .nilSl := fun _ => rfl
 have j0 : accB (0, .dead) 1 (ints []) = (0, .dead) := rfl
 simp only [i0, j0] at lp
 generalize mnF a a b 0 = M at *
 by_cases hM : M = []
 ·subst hM
  refine ⟨.lst 0 [], ?_, rfl, fun h lo => ?_⟩
  ·rw [← htr]
   exact .inr ⟨0, .inl rfl, .inr rfl⟩
  ·have wk : weak (.own 0 []) = .lst 0 [] := rfl
   have lp1 := lp h (0, .dead)
   rw [i0, j0] at lp1
   rw [run_closed (x := x94) rfl rfl rfl rfl]
   simp (maxSteps := 1000000) (disch := omega) only [go_sem, x94, lp1, rtrim_nil, wk]
 ·have hMne : ints M ≠ [] := by intro e; exact hM (by simpa [ints] using e)
  refine ⟨trX M, by rw [trX_weak1, htr]; exact lst_pure _, by rw [trX_weak, trX_weak1], fun h lo => ?_⟩
  have lp1 := lp h (0, .dead)
  simp only [accV_ne hMne, accB_ne hMne, ints_len] at lp1
  have tr := fun lo => rtrim_at (h := h) (fr := [(0, .dead), (0 + 1, .arr 1 (ints M))]) (s := 1) (l := M) (by omega) rfl lo
  have gv := giveRes_trim (h := h) (fr := [(0, .dead), (0 + 1, .arr 1 (ints M))]) (s := 1) (ver := 1) (l := M) rfl
  rw [run_closed (x := x94) rfl rfl rfl rfl]
  simp (maxSteps := 1000000) (disch := omega) only [go_sem, x94, lp1, tr, gv, Option.map_some]
end Go.VI.Rational
namespace Go.VI.Num
def allD (l : List UInt8) : Bool := l.all fun c => decide (48 ≤ c.toNat) && decide (c.toNat ≤ 57)
theorem allD_iff {l : List UInt8} : allD l = true ↔ Digs l := by
 unfold allD Digs IsD
 simp
theorem trim_allD (l : List UInt8) : (Lib.trimS l ds).isEmpty = allD l := by
 rw [Bool.eq_iff_iff, allD_iff, List.isEmpty_iff, trim_digs]
end Go.VI.Num
namespace Go.VI.Rational
open Go.VI.Num
theorem rval_loop {d : List UInt8} (hl : d.length ≤ 9223372036854775807) (cx : Cx) (H : Heap) : ∀ (k i : Nat), d.length - i ≤ k → i ≤ d.length →
  runC lib cx (.loop b53_0) ([(0, .str d), (3, .int .i64 i)], H) = if allD (d.drop i) = true then some (.exit 0, ([(0, .str d)], H)) else some (.ret, ([(2, .bool false)], H)) := by
 intro k
 induction k with
 | zero =>
  intro i h1 h2
  obtain rfl : i = d.length := by omega
  rw [List.drop_of_length_le (Nat.le_refl _), if_pos (show allD [] = true from rfl), w_loop]
  simp (maxSteps := 1000000) (disch := omega) only [go_sem, Int.lt_irrefl]
 | succ k ih =>
  intro i h1 h2
  rcases Nat.lt_or_eq_of_le h2 with c | rfl
  ·have c1 : (i : Int) < d.length := by omega
   have hx := ixst_at (k := .i64) c
   have ih' := ih (i + 1) (by omega) (by omega)
   rw [cast1] at ih'
   have e : allD (d.drop i) = ((decide (48 ≤ d[i].toNat) && decide (d[i].toNat ≤ 57)) && allD (d.drop (i + 1))) := by
    rw [List.drop_eq_getElem_cons c]; rfl
   rw [e]
   generalize d[i].toNat = x at *
   by_cases g1 : 48 ≤ x
   ·have n1 : ¬ (x : Int) < 48 := by omega
    rw [decide_eq_true g1]
    by_cases g2 : x ≤ 57
    ·have n2 : ¬ (57 : Int) < x := by omega
     rw [decide_eq_true g2, w_loop]
     simp (maxSteps := 1000000) (disch := omega) only [go_sem, c1, hx, n1, n2, ih']
    ·have n2 : (57 : Int) < x := by omega
     rw [decide_eq_false g2, w_loop]
     simp (maxSteps := 1000000) (disch := omega) only [go_sem, c1, hx, n1, n2]
   ·have n1 : (x : Int) < 48 := by omega
    rw [decide_eq_false g1, w_loop]
    simp (maxSteps := 1000000) (disch := omega) only [go_sem, c1, hx, n1]
  ·rw [List.drop_of_length_le (Nat.le_refl _), if_pos (show allD [] = true from rfl), w_loop]
   simp (maxSteps := 1000000) (disch := omega) only [go_sem, Int.lt_irrefl]
theorem rvalid_run {s : List UInt8} (hs : s.length ≤ 9223372036854775807) (h : Heap) (lo : Nat) : (run lib).fn 53 [.str s] h lo = some (.bool (validS s), h) := by
 have lp := fun (d : List UInt8) (hd : d.length ≤ 9223372036854775807) => rval_loop hd ⟨h.length, h.length, 0, none⟩ h d.length 0 (by omega) (Nat.zero_le _)
 simp only [List.drop_zero, Int.natCast_zero] at lp
 unfold validS
 rw [trim_allD]
 cases s with
 | nil =>
  have e : body [] = [] := rfl
  have lp1 := lp [] (by simp)
  have e2 : allD [] = true := rfl
  rw [e2, if_pos rfl] at lp1
  rw [e, run_closed (x := x53) rfl rfl rfl rfl]
  simp (maxSteps := 1000000) (disch := omega) only [go_sem, x53, Int.lt_irrefl, lp1, List.isEmpty_nil]
 | cons c r =>
  have hx := fun H => ixst0 (k := .i64) c r H
  have p1 : (0 : Int) < (r.length : Int) + 1 := by omega
  simp only [List.length_cons] at hs
  by_cases hc : c = 45
  ·subst hc
   rw [body_neg]
   have e45 : ((45 : UInt8).toNat : Int) = 45 := rfl
   have sl : slicev none (.str (45 :: r)) (some (.int .i64 1)) none = some (.str r) := by
    have := sstr_from (k := .i64) (l := 45 :: r) (i := 1) (by simp)
    exact this
   have hne : ((45 :: r) == [48]) = false := rfl
   rw [hne, Bool.false_or]
   have lp1 := lp r (by omega)
   rw [run_closed (x := x53) rfl rfl rfl rfl]
   by_cases h0 : r = [48]
   ·subst h0
    simp (maxSteps := 1000000) (disch := omega) only [go_sem, x53, cast1, p1, hx, e45, sl]
    rfl
   ·cases hA : allD r with
    | false =>
     rw [hA, if_neg (by simp)] at lp1
     simp (maxSteps := 1000000) (disch := omega) only [go_sem, x53, cast1, p1, hx, e45, sl, h0, lp1]
    | true =>
     rw [hA, if_pos rfl] at lp1
     cases r with
     | nil =>
      simp (maxSteps := 1000000) (disch := omega) only [go_sem, x53, cast1, p1, hx, e45, sl, h0, lp1, Int.lt_irrefl, List.isEmpty_nil]
     | cons a b =>
      have hx2 := fun H => ixst0 (k := .i64) a b H
      have p2 : (0 : Int) < (b.length : Int) + 1 := by omega
      have p3 : (0 : Int) < (b.length : Int) + 1 + 1 := by omega
      have e3 : ((a :: b).head? == some 48) = decide (a = 48) := by rw [beq_dec]; simp
      have e4 : decide (((a.toNat : Nat) : Int) = 48) = decide (a = 48) := by
       rw [decide_eq_decide, ← UInt8.toNat_inj]
       have : (48 : UInt8).toNat = 48 := rfl
       omega
      have ie : (a :: b).isEmpty = false := rfl
      have dl : decide ((b.length : Int) + 1 ≤ 200) = decide (b.length + 1 ≤ 200) := by rw [decide_eq_decide]; omega
      rw [e3, ie]
      by_cases g : b.length + 1 ≤ 200
      ·have g1 : (b.length : Int) + 1 ≤ 200 := by omega
       simp (maxSteps := 1000000) (disch := omega) only [go_sem, x53, cast1, p1, hx, e45, sl, h0, lp1, p2, p3, hx2, g1, g]
       simp [← e4]
      ·have g1 : ¬ (b.length : Int) + 1 ≤ 200 := by omega
       simp (maxSteps := 1000000) (disch := omega) only [go_sem, x53, cast1, p1, hx, e45, sl, h0, lp1, p2, p3, hx2, g1, g]
  ·have hb : body (c :: r) = c :: r := body_pos (by simpa using hc)
   have e45 : ¬ ((c.toNat : Nat) : Int) = 45 := by
    intro e
    apply hc
    rw [← UInt8.toNat_inj]
    have : (45 : UInt8).toNat = 45 := rfl
    omega
   have lp1 := lp (c :: r) (by simpa using hs)
   have hsx : ((c :: r) == [48]) = decide (c :: r = [48]) := beq_dec _ _
   rw [hb, hsx, run_closed (x := x53) rfl rfl rfl rfl]
   cases hA : allD (c :: r) with
   | false =>
    rw [hA, if_neg (by simp)] at lp1
    simp (maxSteps := 1000000) (disch := omega) only [go_sem, x53, cast1, p1, hx, e45, lp1]
   | true =>
    rw [hA, if_pos rfl] at lp1
    have e3 : ((c :: r).head? == some 48) = decide (c = 48) := by rw [beq_dec]; simp
    have e4 : decide (((c.toNat : Nat) : Int) = 48) = decide (c = 48) := by
     rw [decide_eq_decide, ← UInt8.toNat_inj]
     have : (48 : UInt8).toNat = 48 := rfl
     omega
    have ie : (c :: r).isEmpty = false := rfl
    rw [e3, ie]
    by_cases g : r.length + 1 ≤ 200
    ·have g1 : (r.length : Int) + 1 ≤ 200 := by omega
     by_cases h0 : c :: r = [48]
     ·obtain ⟨rfl, rfl⟩ := List.cons.inj h0
      have lz : ¬ (200 : Int) < 0 := by omega
      simp (maxSteps := 1000000) (disch := omega) only [go_sem, x53, cast1, p1, hx, e45, lp1, Int.zero_add]
     ·simp (maxSteps := 1000000) (disch := omega) only [go_sem, x53, cast1, p1, hx, e45, lp1, g1, g, h0]
      simp [← e4]
    ·have g1 : ¬ (r.length : Int) + 1 ≤ 200 := by omega
     simp (maxSteps := 1000000) (disch := omega) only [go_sem, x53, cast1, p1, hx, e45, lp1, g1, g]
end Go.VI.Rational
namespace Go.VI.Num
theorem chrs_len (l : List Int) : (chrs l).length = l.length := by simp [chrs]
theorem chrs_get {l : List Int} {i : Nat} (hi : i < (chrs l).length) (hj : l.length - 1 - i < l.length) : (chrs l)[i] = UInt8.ofNat (48 + l[l.length - 1 - i].toNat) := by
 simp only [chrs, List.getElem_map, List.getElem_reverse]
end Go.VI.Num
namespace Go.VI.Rational
open Go.VI.Num
theorem rdig_loop {l : List Int} (hd : Dg l) (hl : l.length ≤ 1000) (b : Bool) (hne : ¬ chrs l = [48]) (h : Heap) : ∀ k : Nat, k ≤ l.length →
  runC lib ⟨h.length, h.length, 1, none⟩ (.loop b54_0) ([(0, .str (chrs l)), (4, .bool b), (5, accV (h.length + 0) (0, .dead) 1 (ints (l.take (l.length - k)))), (6, .int .i64 ((k : Int) - 1))], h ++ [accB (0, .dead) 1 (ints (l.take (l.length - k)))]) =
   some (.exit 0, ([(4, .bool b), (5, accV (h.length + 0) (0, .dead) 1 (ints l))], h ++ [accB (0, .dead) 1 (ints l)])) := by
 intro k
 induction k with
 | zero =>
  intro hk
  have c1 : ¬ (0 : Int) ≤ -1 := by omega
  rw [Nat.sub_zero, List.take_length, w_loop]
  simp (maxSteps := 1000000) (disch := omega) only [go_sem, c1, Int.zero_sub, Int.reduceNeg]
 | succ k ih =>
  intro hk
  have c1 : (0 : Int) ≤ (k : Int) := by omega
  have e0 : (k : Int) + 1 - 1 = k := by omega
  have hkc : k < (chrs l).length := by rw [chrs_len]; omega
  have hj : l.length - 1 - k < l.length := by omega
  have hx := ixst_at (k := .i64) hkc
  have ih' := ih (by omega)
  have hdj := hd l[l.length - 1 - k] (List.getElem_mem hj)
  have e1 : l.length - k = (l.length - (k + 1)) + 1 := by omega
  have e2 : l.take (l.length - k) = l.take (l.length - (k + 1)) ++ [l[l.length - 1 - k]] := by
   rw [e1, List.take_succ_eq_append_getElem (by omega)]
   congr 2
   have : l.length - (k + 1) = l.length - 1 - k := by omega
   simp only [this]
  rw [e2, ints_app, ints_one] at ih'
  have hv : ((chrs l)[k].toNat : Int) = 48 + l[l.length - 1 - k] := by
   rw [chrs_get hkc hj, UInt8.toNat_ofNat']; omega
  simp only [hv] at hx
  have hal : (ints (l.take (l.length - (k + 1)))).length ≤ 1000 := by simp; omega
  generalize ints (l.take (l.length - (k + 1))) = W at *
  generalize l[l.length - 1 - k] = x at *
  have ea := fun y : AV => app_acc (lo := h.length) (ns := 1) (s := 0) (z := 1) (lim := 17592186044416) (h := h) (fr := [accB (0, .dead) 1 W]) (b0 := (0, .dead)) (es := W) (xs := [y]) (by omega) (Nat.le_refl _) rfl (by simp; omega)
  simp only [List.set_cons_zero] at ea
  have e3 : 48 + x - 48 = x := by omega
  generalize chrs l = S at *
  rw [w_loop]
  simp (maxSteps := 1000000) (disch := omega) only [go_sem, cast1, e0, c1, hne, hx, e3, ea, ih']
theorem rdig_run {z : Int} (hz : Fit z) (h : Heap) (lo : Nat) : (run lib).fn 54 [.str (itxt z)] h lo = some (.tuple [.bool (decide (z < 0)), ownV 1 (ints (d10 z.natAbs))], h) := by
 have hl := (dec_len (n := z.natAbs) (k := 200) (by omega)).mpr hz
 -- what the loop does behind the sign
 have lp : runC lib ⟨h.length, h.length, 1, none⟩ (.loop b54_0) ([(0, .str (dec z.natAbs)), (4, .bool (decide (z < 0))), (5, .nilSl), (6, .int .i64 (((dec z.natAbs).length : Int) - 1))], h ++ [(0, .dead)]) =
   some (.exit 0, ([(4, .bool (decide (z < 0))), (5, accV (h.length + 0) (0, .dead) 1 (ints (d10 z.natAbs)))], h ++ [accB (0, .dead) 1 (ints (d10 z.natAbs))])) := by
  by_cases h0 : z.natAbs = 0
  ·rw [h0]
   have e1 : dec 0 = [48] := rfl
   have i0 : accV (h.length + 0) (0, .dead) 1 (ints (d10 0)) = .nilSl := rfl
   have j0 : accB (0, .dead) 1 (ints (d10 0)) = (0, .dead) := rfl
   have e10 : (([48] : List UInt8).length : Int) - 1 = 0 := rfl
   rw [e1, i0, j0, e10, w_loop]
   simp (maxSteps := 1000000) (disch := omega) only [go_sem]
  ·have hne : ¬ chrs (d10 z.natAbs) = [48] := by
    rw [chrs_d10 h0]
    intro e
    have := dv_dec z.natAbs
    rw [e] at this
    exact h0 (by rw [← this]; rfl)
   have lp := rdig_loop (dg_d10 z.natAbs) (by rw [d10_len h0]; omega) (decide (z < 0)) hne h (d10 z.natAbs).length (Nat.le_refl _)
   rw [Nat.sub_self, List.take_zero, chrs_d10 h0, d10_len h0] at lp
   exact lp
 have hg : give h.length (accV (h.length + 0) (0, .dead) 1 (ints (d10 z.natAbs))) (h ++ [accB (0, .dead) 1 (ints (d10 z.natAbs))]) = some (ownV 1 (ints (d10 z.natAbs)), h ++ [accD (0, .dead) (ints (d10 z.natAbs))]) :=
  give_acc (h := h) (fr := [accB (0, .dead) 1 (ints (d10 z.natAbs))]) (s := 0) (z := 1) (b0 := (0, .dead)) rfl
 obtain ⟨c, r, hd⟩ := List.exists_cons_of_ne_nil (dec_ne z.natAbs)
 rw [run_closed (x := x54) rfl rfl rfl rfl]
 by_cases c0 : z < 0
 ·have e : itxt z = 45 :: dec z.natAbs := if_pos c0
  rw [decide_eq_true c0] at lp ⊢
  have hx := fun H => ixst0 (k := .i64) 45 (dec z.natAbs) H
  have e45 : ((45 : UInt8).toNat : Int) = 45 := rfl
  have sl : slicev none (.str (45 :: dec z.natAbs)) (some (.int .i64 1)) none = some (.str (dec z.natAbs)) := sstr_from (k := .i64) (l := 45 :: dec z.natAbs) (i := 1) (by simp)
  rw [e]
  simp (maxSteps := 1000000) (disch := omega) only [go_sem, x54, hx, e45, sl, lp, hg, giveRes, giveL]
 ·have e : itxt z = dec z.natAbs := if_neg c0
  rw [decide_eq_false c0] at lp ⊢
  have hh := dec_head z.natAbs
  rw [e]
  rw [hd] at lp hh ⊢
  have hx := fun H => ixst0 (k := .i64) c r H
  have e45 : ¬ ((c.toNat : Nat) : Int) = 45 := by
   intro e
   apply hh
   have : c = 45 := by
    rw [← UInt8.toNat_inj]
    have : (45 : UInt8).toNat = 45 := rfl
    omega
   rw [this]; rfl
  simp only [List.length_cons, cast1] at lp
  have hrl : r.length ≤ 200 := by rw [hd] at hl; simp at hl; omega
  simp (maxSteps := 1000000) (disch := omega) only [go_sem, x54, cast1, hx, e45, lp, hg, giveRes, giveL]
theorem d10_fit {n : Nat} : (d10 n).length ≤ 200 ↔ n < 10 ^ 200 := by
 by_cases h0 : n = 0
 ·subst h0
  constructor
  ·intro _; exact Nat.pos_of_ne_zero (by simp)
  ·intro _; rw [d10_zero]; simp
 ·rw [d10_len h0]; exact dec_len (by omega)
theorem d10_len_pow {n k : Nat} (h : n < 10 ^ k) : (d10 n).length ≤ k := by
 by_cases h0 : n = 0
 ·subst h0; rw [d10_zero]; simp
 ·rw [d10_len h0]
  refine (dec_len ?_).mpr h
  rcases Nat.eq_zero_or_pos k with hk | hk
  ·subst hk; simp at h; omega
  ·exact hk
theorem rchk_run {v : AV} {n : Nat} (neg : Bool) (hv : PureSl 1 v (ints (d10 n))) (hl : (d10 n).length ≤ 100000) (h : Heap) (lo : Nat) : (run lib).fn 55 [.bool neg, v] h lo = some (outT (sgn neg n), h) := by
 have tx := fun H lo => rtext_run (h := H) neg (hv.sl H) hl lo
 unfold outT
 rw [sgn_abs, run_closed (x := x55) rfl rfl rfl rfl]
 by_cases c : n < 10 ^ 200
 ·have c1 := d10_fit.mpr c
  rw [if_pos c]
  rw [decide_eq_true c1] at tx
  simp (maxSteps := 1000000) (disch := omega) only [go_sem, x55, tx]
 ·have c1 : ¬ (d10 n).length ≤ 200 := fun h => c (d10_fit.mp h)
  rw [if_neg c]
  rw [decide_eq_false c1] at tx
  simp (maxSteps := 1000000) (disch := omega) only [go_sem, x55, tx]
theorem rsum_run {v u : AV} {n m : Nat} (a b : Bool) (hv : PureSl 1 v (ints (d10 n))) (hu : PureSl 1 u (ints (d10 m))) (hn : (d10 n).length ≤ 10000) (hm : (d10 m).length ≤ 10000) (h : Heap) (lo : Nat) :
  (run lib).fn 91 [.bool a, v, .bool b, u] h lo = some (outT (sgn a n + sgn b m), h) := by
 have pv := plS_val a n b m
 have pl := fun H lo => rplus_run hv hu (by omega) (by omega) H lo
 have ord := fun H lo => rorder_run hv hu (by omega) (by omega) H lo
 have ge := cmpN_ge (n : Int) (m : Int)
 generalize cmpN (n : Int) (m : Int) = q at *
 have eb : (a == b) = decide (a = b) := beq_dec a b
 rw [← pv]
 unfold plS
 have hnm : ∀ k, k ≤ n + m → (d10 k).length ≤ 100000 := fun k hk => by
  obtain ⟨L, hL⟩ : ∃ L, L = max (d10 n).length (d10 m).length := ⟨_, rfl⟩
  have lt : ∀ j : Nat, j < 10 ^ (d10 j).length := fun j => by
   have := dq_lt (dg_d10 j)
   rw [dq_d10] at this
   have e : ((10 ^ (d10 j).length : Nat) : Int) = (10 : Int) ^ (d10 j).length := by rw [Int.natCast_pow]; rfl
   rw [← e] at this
   exact Int.ofNat_lt.mp this
  have h1 : n < 10 ^ L := Nat.lt_of_lt_of_le (lt n) (Nat.pow_le_pow_right (by omega) (by omega))
  have h2 : m < 10 ^ L := Nat.lt_of_lt_of_le (lt m) (Nat.pow_le_pow_right (by omega) (by omega))
  have h3 : k < 10 ^ (L + 1) := by
   rw [Nat.pow_succ]
   generalize 10 ^ L = X at *
   omega
  have := d10_len_pow h3
  omega
 rw [run_closed (x := x91) rfl rfl rfl rfl]
 by_cases c : a = b
 ·rw [decide_eq_true c] at eb
  rw [if_pos c]
  have hp := own_pure (d10 (n + m))
  rw [weak1_ownV] at hp
  have ck := fun H lo => rchk_run a hp (hnm _ (Nat.le_refl _)) H lo
  rw [outT_eq] at ck ⊢
  simp (maxSteps := 1000000) (disch := omega) only [go_sem, x91, eb, pl, ck]
 ·rw [decide_eq_false c] at eb
  rw [if_neg c]
  by_cases c2 : m ≤ n
  ·obtain ⟨X, x1, x2, x3⟩ := rminus_run hv hu c2 (by omega) (by omega)
   have c3 : (0 : Int) ≤ q := by omega
   have ck := fun H lo => rchk_run a x1 (hnm _ (by omega)) H lo
   rw [if_pos c2]
   rw [outT_eq] at ck ⊢
   simp (maxSteps := 1000000) (disch := omega) only [go_sem, x91, eb, ord, c3, x3, x2, ck]
  ·obtain ⟨X, x1, x2, x3⟩ := rminus_run hu hv (by omega) (by omega) (by omega)
   have c3 : ¬ (0 : Int) ≤ q := by omega
   have ck := fun H lo => rchk_run b x1 (hnm _ (by omega)) H lo
   rw [if_neg c2]
   rw [outT_eq] at ck ⊢
   simp (maxSteps := 1000000) (disch := omega) only [go_sem, x91, eb, ord, c3, x3, x2, ck]
theorem fit_d10 {z : Int} (h : Fit z) : (d10 z.natAbs).length ≤ 200 := d10_len_pow h
theorem rdig_pure (z : Int) : PureSl 1 (lstV 1 (ints (d10 z.natAbs))) (ints (d10 z.natAbs)) := by
 have := own_pure (d10 z.natAbs)
 rwa [weak1_ownV] at this
theorem fit_str {z : Int} (h : Fit z) : (itxt z).length ≤ 9223372036854775807 := by have := itxt_len h; omega
theorem rsub_run {x y : Int} (hx : Fit x) (hy : Fit y) (h : Heap) (lo : Nat) : (run lib).fn 65 [.str (itxt x), .str (itxt y)] h lo = some (outT (x - y), h) := by
 have v1 := fun H lo => rvalid_run (fit_str hx) H lo
 have v2 := fun H lo => rvalid_run (fit_str hy) H lo
 rw [validS_itxt hx] at v1
 rw [validS_itxt hy] at v2
 have d1 := fun H lo => rdig_run hx H lo
 have d2 := fun H lo => rdig_run hy H lo
 have fx := fit_d10 hx
 have fy := fit_d10 hy
 have sm := fun H lo => rsum_run (decide (x < 0)) (!decide (y < 0)) (rdig_pure x) (rdig_pure y) (by omega) (by omega) H lo
 have hneg : sgn (!decide (y < 0)) y.natAbs = -y := by
  unfold sgn
  by_cases c : y < 0
  ·rw [decide_eq_true c, Bool.not_true, if_neg (by simp)]; omega
  ·rw [decide_eq_false c, Bool.not_false, if_pos rfl]; omega
 rw [sgn_self, hneg, ← Int.sub_eq_add_neg, outT_eq] at sm
 rw [outT_eq, run_closed (x := x65) rfl rfl rfl rfl]
 simp (maxSteps := 1000000) (disch := omega) only [go_sem, x65, v1, v2, d1, d2, sm]
theorem rcompare_run {x y : Int} (hx : Fit x) (hy : Fit y) (h : Heap) (lo : Nat) : (run lib).fn 67 [.str (itxt x), .str (itxt y)] h lo = some (.int .i64 (cmpN x y), h) := by
 have v1 := fun H lo => rvalid_run (fit_str hx) H lo
 have v2 := fun H lo => rvalid_run (fit_str hy) H lo
 rw [validS_itxt hx] at v1
 rw [validS_itxt hy] at v2
 have d1 := fun H lo => rdig_run hx H lo
 have d2 := fun H lo => rdig_run hy H lo
 have fx := fit_d10 hx
 have fy := fit_d10 hy
 have cm := fun H lo => rorder_run (rdig_pure x) (rdig_pure y) (by omega) (by omega) H lo
 have cn := fun H lo => rorder_run (rdig_pure y) (rdig_pure x) (by omega) (by omega) H lo
 have tf : (true == false) = false := rfl
 have ft : (false == true) = false := rfl
 rw [run_closed (x := x67) rfl rfl rfl rfl]
 by_cases c1 : x < 0
 ·rw [decide_eq_true c1] at d1
  by_cases c2 : y < 0
  ·rw [decide_eq_true c2] at d2
   have e : cmpN (y.natAbs : Int) (x.natAbs : Int) = cmpN x y := by
    unfold cmpN
    have e1 : (y.natAbs : Int) = -y := by omega
    have e2 : (x.natAbs : Int) = -x := by omega
    rw [e1, e2]
    simp only [show (-y < -x) = (x < y) by simp, show (-y = -x) = (x = y) by rw [eq_iff_iff]; omega]
   rw [e] at cn
   simp (maxSteps := 1000000) (disch := omega) only [go_sem, x67, v1, v2, d1, d2, cn, beq_self_eq_true]
  ·rw [decide_eq_false c2] at d2
   have e : cmpN x y = -1 := if_pos (by omega)
   rw [e]
   simp (maxSteps := 1000000) (disch := omega) only [go_sem, x67, v1, v2, d1, d2, tf]
 ·rw [decide_eq_false c1] at d1
  by_cases c2 : y < 0
  ·rw [decide_eq_true c2] at d2
   have e : cmpN x y = 1 := by unfold cmpN; rw [if_neg (by omega), if_neg (by omega)]
   rw [e]
   simp (maxSteps := 1000000) (disch := omega) only [go_sem, x67, v1, v2, d1, d2, ft]
  ·rw [decide_eq_false c2] at d2
   have e1 : (y.natAbs : Int) = y := by omega
   have e2 : (x.natAbs : Int) = x := by omega
   rw [e1, e2] at cm
   simp (maxSteps := 1000000) (disch := omega) only [go_sem, x67, v1, v2, d1, d2, cm, beq_self_eq_true]
end Go.VI.Rational
namespace Go.VI.Rational
open Go.VI.Num
theorem d10_lt (j : Nat) : j < 10 ^ (d10 j).length := by
 have := dq_lt (dg_d10 j)
 rw [dq_d10] at this
 have e : ((10 ^ (d10 j).length : Nat) : Int) = (10 : Int) ^ (d10 j).length := by rw [Int.natCast_pow]; rfl
 rw [← e] at this
 exact Int.ofNat_lt.mp this
end Go.VI.Rational
namespace Go.VI.Rational
open Go.VI.Num
theorem rtrimL_run {l : List Int} (hl : l.length ≤ 1000000) (h : Heap) (lo : Nat) : (run lib).fn 83 [.lst 1 (ints l)] h lo = some (.lst 1 (ints (trimL l)), h) := by
 have lp : ∀ (cx : Cx) (H : Heap) (k : Nat), k ≤ l.length → runC lib cx (.loop b83_0) ([(0, .lst 1 (ints (l.take k)))], H) = some (.exit 0, ([(0, .lst 1 (ints (l.take (trimK l k))))], H)) := by
  intro cx H k
  induction k with
  | zero =>
   intro hk
   rw [w_loop]
   have s3 : lenv false (.lst 1 (ints [])) = some (.int .i64 0) := rfl
   simp only [List.take_zero, trimK]
   simp (maxSteps := 1000000) (disch := omega) only [go_sem, s3, Int.lt_irrefl]
  | succ k ih =>
   intro hk
   have hs := Sl.lst H 1 (ints (l.take (k + 1)))
   have s3 := lenv_sl hs.len
   rw [ints_len, List.length_take, Nat.min_eq_left hk, cast1] at s3
   have hlen : (ints (l.take (k + 1))).length = k + 1 := by simp; omega
   have c1 : (0 : Int) < (k : Int) + 1 := by omega
   have e0 : (k : Int) + 1 - 1 = k := by omega
   have e3 : sidx 1 (.lst 1 (ints (l.take (k + 1)))) (.int .i64 k) = some k := by rw [sidx_sl hs (by omega) (by rw [hlen]; omega)]; simp
   have e4 := fun off => pc_iptr (off := off) hs.elems0 (show k < (ints (l.take (k + 1))).length by rw [hlen]; omega)
   simp only [ints_get, List.getElem_take] at e4
   have hg : l.getD k 0 = l[k] := by rw [List.getD_eq_getElem?_getD, List.getElem?_eq_getElem (by omega)]; rfl
   have hsl : slicev (some 1) (.lst 1 (ints (l.take (k + 1)))) none (some (.int .i64 k)) = some (.lst 1 (ints (l.take k))) := by
    have hb : bnd (some (.int .i64 k)) (k + 1) (k + 1) = some k := by rw [bnd_ok (by omega) (by omega)]; simp
    simp only [slicev, zok, beq_self_eq_true, Bool.true_or, if_true, hlen, hb, Option.bind_some]
    simp [bnd, ints, List.take_take]
   have ih' := ih (by omega)
   simp only [trimK, hg]
   rw [w_loop]
   by_cases c2 : l[k] = 0
   ·rw [if_pos c2]
    simp (maxSteps := 1000000) (disch := omega) only [go_sem, s3, c1, e0, e3, e4, c2, hsl, ih']
   ·rw [if_neg c2]
    simp (maxSteps := 1000000) (disch := omega) only [go_sem, s3, c1, e0, e3, e4, c2]
 have e := fun cx H => lp cx H l.length (Nat.le_refl _)
 simp only [List.take_length] at e
 rw [run_closed (x := x83) rfl rfl rfl rfl]
 unfold trimL
 simp (maxSteps := 1000000) (disch := omega) only [go_sem, x83, e]
theorem rtrim1_run (d : Nat) (hd : d ≤ 9) : ∃ X : AV, PureSl 1 X (ints (d10 d)) ∧ weak X = X ∧ ∀ h lo, (run lib).fn 83 [.lsf 1 [.int .i64 d]] h lo = some (X, h) := by
 have s1 : lenv false (.lsf 1 [.int .i64 d]) = some (.int .i64 1) := rfl
 have e3 : sidx 1 (.lsf 1 [.int .i64 d]) (.int .i64 0) = some 0 := rfl
 have e4 : ∀ off H, pcells H (.iptr (.lsf 1 [.int .i64 d]) 0 off) = some ([AV.int .i64 d].drop off) := fun off H => rfl
 by_cases h0 : d = 0
 ·subst h0
  have hs : slicev (some 1) (.lsf 1 [.int .i64 ((0 : Nat) : Int)]) none (some (.int .i64 0)) = some (.lst 1 []) := rfl
  refine ⟨.lst 1 [], .inr ⟨1, .inl rfl, .inl rfl⟩, rfl, fun h lo => ?_⟩
  have s3 : lenv false (.lst 1 []) = some (.int .i64 0) := rfl
  have ez : ((0 : Nat) : Int) = 0 := rfl
  rw [ez] at s1 e3 e4 hs ⊢
  have t : runC lib ⟨h.length, h.length, 0, none⟩ (.loop b83_0) ([(0, .lst 1 [])], h) = some (.exit 0, ([(0, .lst 1 [])], h)) := by
   rw [w_loop]
   simp (maxSteps := 1000000) (disch := omega) only [go_sem, s3, Int.lt_irrefl]
  have w : runC lib ⟨h.length, h.length, 0, none⟩ (.loop b83_0) ([(0, .lsf 1 [.int .i64 0])], h) = some (.exit 0, ([(0, .lst 1 [])], h)) := by
   rw [w_loop]
   simp (maxSteps := 1000000) (disch := omega) only [go_sem, s1, e3, e4, hs, t]
  rw [run_closed (x := x83) rfl rfl rfl rfl]
  simp (maxSteps := 1000000) (disch := omega) only [go_sem, x83, w]
 ·have hg : d10 d = [(d : Int)] := by
   rw [d10_pos h0, Nat.mod_eq_of_lt (by omega), show d / 10 = 0 by omega]; rfl
  have c : ¬ (d : Int) = 0 := by omega
  refine ⟨.lsf 1 [.int .i64 d], by rw [hg]; exact .inr ⟨1, .inr rfl, .inl rfl⟩, rfl, fun h lo => ?_⟩
  have w : runC lib ⟨h.length, h.length, 0, none⟩ (.loop b83_0) ([(0, .lsf 1 [.int .i64 d])], h) = some (.exit 0, ([(0, .lsf 1 [.int .i64 d])], h)) := by
   rw [w_loop]
   simp (maxSteps := 1000000) (disch := omega) only [go_sem, s1, e3, e4, c]
  rw [run_closed (x := x83) rfl rfl rfl rfl]
  have hg2 : giveRes h.length (.lsf 1 [.int .i64 d]) h = some (.lsf 1 [.int .i64 d]) := rfl
  simp (maxSteps := 1000000) (disch := omega) only [go_sem, x83, w, hg2, Option.map_some]
theorem d10_shift {n : Nat} (h : n ≠ 0) (d : Nat) (hd : d ≤ 9) : ((d : Nat) : Int) :: d10 n = d10 (d + 10 * n) := by
 rw [d10_pos (n := d + 10 * n) (by omega)]
 have e1 : (d + 10 * n) % 10 = d := by omega
 have e2 : (d + 10 * n) / 10 = n := by omega
 rw [e1, e2]
theorem rdv_reg1 {rv : AV} {R d : Nat} (hr : PureSl 1 rv (ints (d10 R))) (hR : (d10 R).length ≤ 20000) (hd : d ≤ 9) : ∃ X : AV, PureSl 1 X (ints (d10 (d + 10 * R))) ∧ weak X = X ∧
  ∀ (h fr : Heap) (ns w : Nat), 2 < ns → fr[2]? = some (w, .dead) → ∃ (Y : AV) (w' : Nat), (appv ⟨h.length, h.length, ns, none⟩ 2 1 17592186044416 (.lsf 1 [.int .i64 d]) (ints (d10 R)) (h ++ fr)).bind (fun r => frz h.length false r.1 r.2) = some (Y, h ++ fr.set 2 (w', .dead)) ∧
   ∀ H lo, (run lib).fn 83 [Y] H lo = some (X, H) := by
 by_cases h0 : R = 0
 ·subst h0
  obtain ⟨X, x1, x2, x3⟩ := rtrim1_run d hd
  refine ⟨X, by rw [Nat.mul_zero, Nat.add_zero]; exact x1, x2, fun h fr ns w hns hf => ⟨.lsf 1 [.int .i64 d], w, ?_, x3⟩⟩
  rw [set_same hf]
  simp [appv, d10_zero, ints, frz]
 ·have hne : d10 R ≠ [] := fun e => h0 (d10_nil.mp e)
  have hdig : Dg ((d : Int) :: d10 R) := Dg.cons.mpr ⟨by omega, dg_d10 R⟩
  have ht : trimL ((d : Int) :: d10 R) = d10 (d + 10 * R) := by
   rw [trim10_eq hdig, dq, dq_d10]
   congr 1
  have t := rtrimL_run (l := (d : Int) :: d10 R) (by simp; omega)
  rw [ht] at t
  refine ⟨.lst 1 (ints (d10 (d + 10 * R))), lst_pure _, rfl, fun h fr ns w hns hf => ⟨.lst 1 (ints ((d : Int) :: d10 R)), w + 1, ?_, t⟩⟩
  have hx : ints (d10 R) ≠ [] := by intro e; exact hne (by simpa [ints] using e)
  have hlt : 2 < fr.length := (List.getElem?_eq_some_iff.mp hf).1
  have hm : mkAt ⟨h.length, h.length, ns, none⟩ 2 (.arr 1 ([.int .i64 d] ++ ints (d10 R))) (h ++ fr) = some (w + 1, h ++ fr.set 2 (w + 1, .arr 1 ([.int .i64 d] ++ ints (d10 R)))) := by
   rw [mkAt_fr, hf, mkF_some, if_pos hns]
  have hg : (h ++ fr.set 2 (w + 1, Blk.arr 1 ([.int .i64 d] ++ ints (d10 R))))[h.length + 2]? = some (w + 1, .arr 1 ([.int .i64 d] ++ ints (d10 R))) := by rw [get_fr]; simp [hlt]
  have hle : ([AV.int .i64 d] ++ ints (d10 R)).length ≤ 17592186044416 := by simp; omega
  simp only [appv, beq_self_eq_true, Bool.true_or, if_true, if_neg hx, if_pos hle, hm, Option.map_some, Option.bind_some]
  simp only [frz]
  rw [if_pos (by omega)]
  simp only [asList0, hg]
  simp [set_fr, ints, List.take_of_length_le]
end Go.VI.Rational
namespace Go.VI.Rational
open Go.VI.Num
def dvF (q : List Int) (w : Nat) : Heap := [(0, .dead), (0, .dead), (w, .dead), (0, .dead), (1, .arr 1 (ints q))]
theorem rdv_inner {v u : AV} {m : Nat} (hm0 : m ≠ 0) (hu : PureSl 1 u (ints (d10 m))) (hm : (d10 m).length ≤ 20000) (h : Heap) (w N i : Nat) (hN : N ≤ 100000) (hi : i < N) :
  ∀ (t T : Nat) (rv : AV) (q : List Int) (x : Int), T / m = t → PureSl 1 rv (ints (d10 T)) → (d10 T).length ≤ 30000 → q.length = N → q[i]? = some x → 0 ≤ x → x + t ≤ 100 →
  ∃ rv', PureSl 1 rv' (ints (d10 (T % m))) ∧ runC lib ⟨h.length, h.length, 5, none⟩ (.loop b92_1) ([(0, v), (1, u), (6, .ref (h.length + 4) 1 1 0 N N), (7, rv), (8, .int .i64 i)], h ++ dvF q w) =
   some (.exit 2, ([(0, v), (1, u), (6, .ref (h.length + 4) 1 1 0 N N), (7, rv'), (8, .int .i64 i)], h ++ dvF (q.set i (x + t)) w)) := by
 intro t
 induction t with
 | zero =>
  intro T rv q x hT hr hl hq hx h1 h2
  have hlt : T < m := by
   rcases Nat.lt_or_ge T m with g | g
   ·exact g
   ·have := (Nat.le_div_iff_mul_le (show 0 < m by omega)).mpr (show 1 * m ≤ T by omega); omega
  have ord := fun H lo => rorder_run hr hu (by omega) (by omega) H lo
  have ge := cmpN_ge (T : Int) (m : Int)
  generalize cmpN (T : Int) (m : Int) = g at *
  have c1 : ¬ (0 : Int) ≤ g := by omega
  have hs : q.set i (x + ((0 : Nat) : Int)) = q := by
   have : x + ((0 : Nat) : Int) = x := by omega
   rw [this]; exact set_same hx
  refine ⟨rv, by rw [Nat.mod_eq_of_lt hlt]; exact hr, ?_⟩
  rw [hs, w_loop]
  simp (maxSteps := 1000000) (disch := omega) only [go_sem, dvF, ord, c1]
 | succ t ih =>
  intro T rv q x hT hr hl hq hx h1 h2
  have hle : m ≤ T := by
   rcases Nat.lt_or_ge T m with g | g
   ·rw [Nat.div_eq_of_lt g] at hT; omega
   ·exact g
  have ord := fun H lo => rorder_run hr hu (by omega) (by omega) H lo
  have ge := cmpN_ge (T : Int) (m : Int)
  generalize cmpN (T : Int) (m : Int) = g at *
  have c1 : (0 : Int) ≤ g := by omega
  obtain ⟨X, x1, x2, x3⟩ := rminus_run hr hu hle (by omega) (by omega)
  have hdv : (T - m) / m = t := by
   have := Nat.sub_mul_div T m 1
   rw [Nat.mul_one] at this
   rw [this, hT]; rfl
  have hmd : (T - m) % m = T % m := (Nat.mod_eq_sub_mod hle).symm
  have hql : i < q.length := by omega
  have hxi : q[i] = x := by rw [List.getElem?_eq_getElem hql] at hx; exact Option.some.inj hx
  obtain ⟨rv', r1, r2⟩ := ih (T - m) (weak1 X) (q.set i (x + 1)) (x + 1) hdv x1 (Nat.le_trans (d10_len_le (by omega)) hl) (by simp [hq]) (by simp [hql]) (by omega) (by omega)
  rw [hmd] at r1
  refine ⟨rv', r1, ?_⟩
  have hss : (q.set i (x + 1)).set i (x + 1 + (t : Int)) = q.set i (x + ((t + 1 : Nat) : Int)) := by
   rw [List.set_set]
   congr 1; omega
  rw [hss] at r2
  have q1 : sidx 1 (.ref (h.length + 4) 1 1 0 N N) (.int .i64 i) = some i := by simp [sidx, zok, slen, idx]; omega
  have q2 : pcells (h ++ dvF q w) (.iptr (.ref (h.length + 4) 1 1 0 N N) i 0) = some [.int .i64 x] := by
   have so := Sl.refAll (h := h) (fr := dvF q w) (s := 4) (ver := 1) (z := 1) (es := ints q) rfl
   rw [ints_len, hq] at so
   have := pc_iptr (off := 0) so.elems0 (show i < (ints q).length by simpa using hql)
   rw [this, ints_get, hxi]; rfl
  have st := fun y : Int => ps_iptr_fr (lo := h.length) (ns := 5) (h := h) (fr := dvF q w) (s := 4) (ver := 1) (o := 0) (len := N) (fill := N) (i := i) (k := .i64) (l := q) (n := y) rfl hq (by omega) hi (Nat.le_refl _)
  have hints : ∀ l : List Int, l.map (AV.int .i64) = ints l := fun _ => rfl
  simp only [Nat.zero_add, hints, dvF, List.set_cons_succ, List.set_cons_zero] at st q2 r2
  rw [w_loop]
  simp (maxSteps := 1000000) (disch := omega) only [go_sem, dvF, ord, c1, x3, x2, q1, q2, st, r2]
theorem div_step10 {d T m R : Nat} (hm : m ≠ 0) (hR : R = T % m) : (d + 10 * T) / m = (d + 10 * R) / m + 10 * (T / m) ∧ (d + 10 * T) % m = (d + 10 * R) % m := by
 have h := Nat.div_add_mod T m
 have e : d + 10 * T = (d + 10 * R) + m * (10 * (T / m)) := by
  have e1 : m * (10 * (T / m)) = 10 * (m * (T / m)) := by rw [← Nat.mul_assoc, Nat.mul_comm m 10, Nat.mul_assoc]
  rw [e1, hR]
  generalize m * (T / m) = X at *
  omega
 rw [e]
 exact ⟨Nat.add_mul_div_left _ _ (by omega), Nat.add_mul_mod_self_left _ _ _⟩
theorem d10_len_dig {n : Nat} (d : Nat) (hd : d ≤ 9) : (d10 (d + 10 * n)).length ≤ (d10 n).length + 1 := by
 refine d10_len_pow ?_
 have := d10_lt n
 rw [Nat.pow_succ]
 generalize 10 ^ (d10 n).length = X at *
 omega
theorem rdv_loop {v u : AV} {a m : Nat} (hm0 : m ≠ 0) (hv : PureSl 1 v (ints (d10 a))) (hu : PureSl 1 u (ints (d10 m))) (ha : (d10 a).length ≤ 20000) (hm : (d10 m).length ≤ 20000) (h : Heap) (N : Nat) (hN : N = (d10 a).length) :
  ∀ (k : Nat) (w T : Nat) (rv : AV) (q : List Int), k ≤ N → (d10 a).drop k = d10 T → PureSl 1 rv (ints (d10 (T % m))) → q.length = N → (∀ j, j < k → q[j]? = some 0) → dq (q.drop k) = (T / m : Nat) → Dg (q.drop k) →
  ∃ (rv' : AV) (w' : Nat) (q' : List Int), PureSl 1 rv' (ints (d10 (a % m))) ∧ q'.length = N ∧ dq q' = (a / m : Nat) ∧ Dg q' ∧
   runC lib ⟨h.length, h.length, 5, none⟩ (.loop b92_0) ([(0, v), (1, u), (6, .ref (h.length + 4) 1 1 0 N N), (7, rv), (8, .int .i64 ((k : Int) - 1))], h ++ dvF q w) =
   some (.exit 0, ([(6, .ref (h.length + 4) 1 1 0 N N), (7, rv')], h ++ dvF q' w')) := by
 intro k
 induction k with
 | zero =>
  intro w T rv q hk hT hr hq hz hQ hD
  have c1 : ¬ (0 : Int) ≤ -1 := by omega
  have e : T = a := by
   rw [List.drop_zero] at hT
   have h1 := dq_d10 a
   have h2 := dq_d10 T
   rw [hT] at h1
   omega
  subst e
  rw [List.drop_zero] at hQ hD
  refine ⟨rv, w, q, hr, hq, hQ, hD, ?_⟩
  rw [w_loop]
  simp (maxSteps := 1000000) (disch := omega) only [go_sem, c1, Int.zero_sub, Int.reduceNeg]
 | succ k ih =>
  intro w T rv q hk hT hr hq hz hQ hD
  have c1 : (0 : Int) ≤ (k : Int) := by omega
  have e0 : (k : Int) + 1 - 1 = k := by omega
  have hka : k < (d10 a).length := by omega
  have hdk := dg_d10 a (d10 a)[k] (List.getElem_mem hka)
  obtain ⟨d, hd⟩ : ∃ d : Nat, (d10 a)[k] = (d : Int) := ⟨((d10 a)[k]).toNat, by omega⟩
  have hd9 : d ≤ 9 := by omega
  have a3 : sidx 1 v (.int .i64 k) = some k := by rw [sidx_sl (hv.sl []) (by omega) (by simp; omega)]; simp
  have a4 := fun off H => pc_iptr (off := off) (hv.sl H).elems0 (show k < (ints (d10 a)).length by simp; omega)
  simp only [ints_get, hd] at a4
  have hRm : T % m < m := Nat.mod_lt _ (by omega)
  have hRl : (d10 (T % m)).length ≤ 20000 := Nat.le_trans (d10_len_le (Nat.le_of_lt hRm)) hm
  obtain ⟨X, x1, x2, x3⟩ := rdv_reg1 (d := d) hr hRl hd9
  obtain ⟨Y, w', y1, y2⟩ := x3 h (dvF q w) 5 w (by omega) rfl
  have src := fun H : Heap => appSrc_sl (hr.sl H)
  have hnl := d10_len_dig (n := T % m) d hd9
  have hx0 : q[k]? = some 0 := hz k (by omega)
  have ht9 : (d + 10 * (T % m)) / m ≤ 9 := by
   have : d + 10 * (T % m) < m * 10 := by omega
   have := Nat.div_lt_of_lt_mul this
   omega
  obtain ⟨rv', r1, r2⟩ := rdv_inner (v := v) hm0 hu hm h w' N k (by omega) (by omega) ((d + 10 * (T % m)) / m) (d + 10 * (T % m)) X q 0 rfl x1 (by omega) hq hx0 (by omega) (by omega)
  obtain ⟨g1, g2⟩ := div_step10 (d := d) hm0 (show T % m = T % m from rfl)
  rw [Int.zero_add] at r2
  have hT' : (d10 a).drop k = d10 (d + 10 * T) := by
   rw [List.drop_eq_getElem_cons hka, hT, hd]
   by_cases hT0 : T = 0
   ·subst hT0
    -- the highest digit is not zero
    have hne : d ≠ 0 := by
     intro h0
     have htr := trm_d10 a (by intro e; rw [e] at hka; simp at hka)
     have hlast : (d10 a).drop k = [(d : Int)] := by rw [List.drop_eq_getElem_cons hka, hT, hd]; rfl
     have hsp := List.take_append_drop k (d10 a)
     rw [hlast] at hsp
     have hl2 : (d10 a).getLast? = some (d : Int) := by rw [← hsp]; simp
     rw [List.getLast?_eq_some_getLast (by intro e; rw [e] at hka; simp at hka)] at hl2
     exact htr (by rw [Option.some.inj hl2, h0]; rfl)
    rw [Nat.mul_zero, Nat.add_zero, d10_pos hne, Nat.mod_eq_of_lt (by omega), show d / 10 = 0 by omega]
   ·exact d10_shift hT0 d hd9
  have hkq : k < q.length := by omega
  obtain ⟨rv2, w2, q2, s1, s2, s3, s4, s5⟩ := ih w' (d + 10 * T) rv' (q.set k (((d + 10 * (T % m)) / m : Nat) : Int)) (by omega) hT' (by rw [g2]; exact r1) (by simp [hq])
   (fun j hj => by rw [List.getElem?_set_ne (by omega)]; exact hz j (by omega))
   (by rw [drop_set_self hkq, dq, hQ, g1, Int.natCast_add, Int.natCast_mul]; rfl)
   (by rw [drop_set_self hkq]; exact Dg.cons.mpr ⟨⟨Int.natCast_nonneg _, Int.ofNat_le.mpr ht9⟩, hD⟩)
  refine ⟨rv2, w2, q2, s1, s2, s3, s4, ?_⟩
  simp only [dvF, List.set_cons_succ, List.set_cons_zero] at y1 r2 s5
  rw [w_loop]
  simp only [dvF]
  simp (maxSteps := 1000000) (disch := omega) only [go_sem, cast1, e0, c1, a3, a4, src, y1, y2, x2, r2, s5]
theorem give_pure {v : AV} {l : List Int} (p : PureSl 1 v (ints l)) : ∃ Y : AV, (∀ b h, give b v h = some (Y, h)) ∧ PureSl 1 (weak1 Y) (ints l) := by
 rcases p with ⟨rfl, hl⟩ | ⟨z', rfl | rfl, hz⟩
 ·exact ⟨.own 0 [], fun _ _ => rfl, by rw [hl]; exact .inr ⟨0, .inl rfl, .inr rfl⟩⟩
 ·exact ⟨.lst z' (ints l), fun b h => by simp [give, frz], .inr ⟨z', .inl rfl, hz⟩⟩
 ·exact ⟨.lsf z' (ints l), fun b h => by simp [give, frz], .inr ⟨z', .inr rfl, hz⟩⟩
theorem rdiv_run {v u : AV} {a m : Nat} (hm0 : m ≠ 0) (hv : PureSl 1 v (ints (d10 a))) (hu : PureSl 1 u (ints (d10 m))) (ha : (d10 a).length ≤ 20000) (hm : (d10 m).length ≤ 20000) (h : Heap) (lo : Nat) :
  ∃ X Y : AV, PureSl 1 (weak1 X) (ints (d10 (a / m))) ∧ PureSl 1 (weak1 Y) (ints (d10 (a % m))) ∧ (run lib).fn 92 [v, u] h lo = some (.tuple [X, Y], h) := by
 have s1 := lenv_sl (hv.sl []).len
 rw [ints_len] at s1
 obtain ⟨N, hN⟩ : ∃ N, N = (d10 a).length := ⟨_, rfl⟩
 rw [← hN] at s1
 obtain ⟨rv, w, q, r1, r2, r3, r4, r5⟩ := rdv_loop hm0 hv hu ha hm h N hN N 0 0 .nilSl (List.replicate N 0) (Nat.le_refl _) (by rw [hN, List.drop_of_length_le (Nat.le_refl _)]; rfl)
  (by rw [Nat.zero_mod]; exact .inl ⟨rfl, rfl⟩) (by simp) (fun j hj => by simp [hj]) (by rw [List.drop_of_length_le (by simp), Nat.zero_div]; rfl) (by rw [List.drop_of_length_le (by simp)]; exact Dg.nil)
 have htr := trim10_eq r4
 rw [r3, Int.toNat_natCast] at htr
 obtain ⟨Y, y1, y2⟩ := give_pure r1
 refine ⟨trX q, Y, by rw [trX_weak1, htr]; exact lst_pure _, y2, ?_⟩
 have hmk := fun hh => mks_ok (h := hh) (cx := ⟨h.length, h.length, 5, none⟩) (s := 4) (z := 1) (zero := .int .i64 0) (lim := 17592186044416) (k := .i64) (k' := .i64) (a := (N : Int)) (b := (N : Int)) (by omega) (by omega) (by omega)
 have rep : ints (List.replicate N 0) = List.replicate N (AV.int .i64 0) := by simp [ints]
 simp only [dvF, rep] at r5
 have tr := fun lo => rtrim_at (h := h) (fr := [(0, .dead), (0, .dead), (w, .dead), (0, .dead), (1, .arr 1 (ints q))]) (s := 4) (l := q) (by omega) rfl lo
 have gv := give_trim (h := h) (fr := [(0, .dead), (0, .dead), (w, .dead), (0, .dead), (1, .arr 1 (ints q))]) (s := 4) (ver := 1) (l := q) rfl
 rw [r2] at tr gv
 have gr : giveRes h.length (.tuple [.ref (h.length + 4) 1 1 0 (trimL q).length N, rv]) (h ++ [(0, .dead), (0, .dead), (w, .dead), (0, .dead), (1, .arr 1 (ints q))]) = some (.tuple [trX q, Y]) := by
  simp only [giveRes, giveL, gv, y1, Option.bind_some, Option.map_some]
 rw [run_closed (x := x92) rfl rfl rfl rfl]
 simp (maxSteps := 1000000) (disch := omega) only [go_sem, x92, s1, hmk, mkr, r5, tr, gr, Option.map_some]
end Go.VI.Rational
namespace Go.VI.Rational
open Go.VI.Num
theorem rdivE_run {x y : Int} (hx : Fit x) (hy : Fit y) (hy0 : y ≠ 0) (h : Heap) (lo : Nat) : (run lib).fn 66 [.str (itxt x), .str (itxt y)] h lo = some (divT x y, h) := by
 have v1 := fun H lo => rvalid_run (fit_str hx) H lo
 have v2 := fun H lo => rvalid_run (fit_str hy) H lo
 rw [validS_itxt hx] at v1
 rw [validS_itxt hy] at v2
 have d1 := fun H lo => rdig_run hx H lo
 have d2 := fun H lo => rdig_run hy H lo
 have fx := fit_d10 hx
 have fy := fit_d10 hy
 have hm0 : y.natAbs ≠ 0 := by omega
 have i0 : itxt 0 = [48] := rfl
 have hne : ¬ itxt y = [48] := by rw [← i0, str_iff]; exact hy0
 obtain ⟨X, Y, x1, y1, dv⟩ := rdiv_run hm0 (rdig_pure x) (rdig_pure y) (by omega) (by omega) h h.length
 obtain ⟨q1, q2⟩ := dv_eq (x := x) hy0
 have hql := dvQ_le (x := x) hy0
 have fq := ediv_fit (y := y) hx hy0
 have fr := emod_fit (x := x) hy hy0
 have s1 := lenv_sl (y1.sl []).len
 rw [ints_len] at s1
 have hrl : (d10 (x.natAbs % y.natAbs)).length ≤ 200 := Nat.le_trans (d10_len_le (Nat.le_of_lt (Nat.mod_lt _ (by omega)))) fy
 have es : sgn false (dvR x y) = x % y := by rw [← q2]; rfl
 have tr := fun v (hv : PureSl 1 v (ints (d10 (dvR x y)))) H lo => rtext_run (v := v) (n := dvR x y) false (h := H) (hv.sl H) (by
  have e : (x % y).natAbs = dvR x y := by omega
  have := fit_d10 fr
  rw [e] at this; omega) lo
 simp only [es] at tr
 have tq := fun v (hv : PureSl 1 v (ints (d10 (dvQ x y)))) H lo => rchk_run (v := v) (n := dvQ x y) (!(decide (x < 0) == decide (y < 0))) hv (by have := d10_len_le hql; omega) H lo
 simp only [q1, outT_fit fq] at tq
 unfold divT
 rw [run_closed (x := x66) rfl rfl rfl rfl]
 by_cases c : x < 0 ∧ x.natAbs % y.natAbs ≠ 0
 ·obtain ⟨c1, c2⟩ := c
  have c3 : (0 : Int) < (d10 (x.natAbs % y.natAbs)).length := by
   have : d10 (x.natAbs % y.natAbs) ≠ [] := fun e => c2 (d10_nil.mp e)
   have := List.length_pos_iff.mpr this
   omega
  have pl := fun H lo => rplus_run (u := .lsf 1 [.int .i64 1]) (b := 1) x1 (.inr ⟨1, .inr rfl, .inl rfl⟩) (by have := d10_len_le (Nat.div_le_self x.natAbs y.natAbs); omega) (by decide) H lo
  obtain ⟨Z, z1, z2, mi⟩ := rminus_run (rdig_pure y) y1 (Nat.le_of_lt (Nat.mod_lt _ (by omega))) (by omega) (by omega)
  have eq : dvQ x y = x.natAbs / y.natAbs + 1 := if_pos ⟨c1, c2⟩
  have er : dvR x y = y.natAbs - x.natAbs % y.natAbs := if_pos ⟨c1, c2⟩
  have hp := own_pure (d10 (x.natAbs / y.natAbs + 1))
  rw [weak1_ownV, ← eq] at hp
  rw [← er] at z1
  have tq1 := tq _ hp
  have tr1 := tr _ z1
  rw [eq] at tq1
  rw [decide_eq_true c1] at d1 tq1
  simp (maxSteps := 1000000) (disch := omega) only [go_sem, x66, v1, v2, d1, d2, hne, dv, s1, c3, pl, mi, z2, tq1, tr1]
 ·have eq : dvQ x y = x.natAbs / y.natAbs := if_neg c
  have er : dvR x y = x.natAbs % y.natAbs := if_neg c
  rw [← eq] at x1
  rw [← er] at y1
  have tq1 := tq _ x1
  have tr1 := tr _ y1
  by_cases c1 : x < 0
  ·have c2 : x.natAbs % y.natAbs = 0 := by omega
   have c3 : ¬ (0 : Int) < (d10 (x.natAbs % y.natAbs)).length := by rw [c2, d10_zero]; simp
   rw [decide_eq_true c1] at d1 tq1
   simp (maxSteps := 1000000) (disch := omega) only [go_sem, x66, v1, v2, d1, d2, hne, dv, s1, c3, tq1, tr1]
  ·rw [decide_eq_false c1] at d1 tq1
   simp (maxSteps := 1000000) (disch := omega) only [go_sem, x66, v1, v2, d1, d2, hne, dv, s1, tq1, tr1]
theorem rgcd_loop (cx : Cx) (H : Heap) : ∀ (b a : Nat) (v u : AV), PureSl 1 v (ints (d10 a)) → PureSl 1 u (ints (d10 b)) → (d10 a).length ≤ 1000 → (d10 b).length ≤ 1000 →
  ∃ w, PureSl 1 w (ints (d10 (Nat.gcd a b))) ∧ runC lib cx (.loop b71_0) ([(7, v), (9, u)], H) = some (.exit 0, ([(7, w)], H)) := by
 intro b
 induction b using Nat.strongRecOn with
 | _ b ih =>
  intro a v u hv hu ha hb
  have s1 := lenv_sl (hu.sl []).len
  rw [ints_len] at s1
  by_cases h0 : b = 0
  ·subst h0
   refine ⟨v, by rw [Nat.gcd_zero_right]; exact hv, ?_⟩
   have c1 : ¬ (0 : Int) < (d10 0).length := by simp [d10_zero]
   rw [w_loop]
   simp (maxSteps := 1000000) (disch := omega) only [go_sem, s1, c1]
  ·have hpos : 0 < b := by omega
   have hlt := Nat.mod_lt a hpos
   have hl2 : (d10 (a % b)).length ≤ 1000 := Nat.le_trans (d10_len_le (Nat.le_of_lt hlt)) hb
   obtain ⟨X, Y, x1, y1, dv⟩ := rdiv_run h0 hv hu (by omega) (by omega) H cx.lo
   obtain ⟨w, w1, w2⟩ := ih (a % b) hlt b u (weak1 Y) hu y1 hb hl2
   refine ⟨w, ?_, ?_⟩
   ·have e : Nat.gcd a b = Nat.gcd b (a % b) := by rw [Nat.gcd_comm a b, Nat.gcd_rec, Nat.gcd_comm]
    rw [e]; exact w1
   ·have c1 : (0 : Int) < (d10 b).length := by
     have : d10 b ≠ [] := fun e => h0 (d10_nil.mp e)
     have := List.length_pos_iff.mpr this
     omega
    rw [w_loop]
    simp (maxSteps := 1000000) (disch := omega) only [go_sem, s1, c1, dv, w2]
theorem rgcd_run {x y : Int} (hx : Fit x) (hy : Fit y) (h : Heap) (lo : Nat) : (run lib).fn 71 [.str (itxt x), .str (itxt y)] h lo = some (.tuple [.str (itxt (Int.gcd x y : Nat)), .int .i64 0], h) := by
 have v1 := fun H lo => rvalid_run (fit_str hx) H lo
 have v2 := fun H lo => rvalid_run (fit_str hy) H lo
 rw [validS_itxt hx] at v1
 rw [validS_itxt hy] at v2
 have d1 := fun H lo => rdig_run hx H lo
 have d2 := fun H lo => rdig_run hy H lo
 have fx := fit_d10 hx
 have fy := fit_d10 hy
 have fg := gcd_fit hx hy
 obtain ⟨w, w1, w2⟩ := rgcd_loop ⟨h.length, h.length, 0, none⟩ h y.natAbs x.natAbs _ _ (rdig_pure x) (rdig_pure y) (by omega) (by omega)
 have ck := fun H lo => rchk_run false w1 (by have := fit_d10 fg; rw [Int.natAbs_natCast] at this; unfold Int.gcd at this; omega) H lo
 have es : sgn false (Nat.gcd x.natAbs y.natAbs) = ((Int.gcd x y : Nat) : Int) := rfl
 rw [es, outT_fit fg] at ck
 rw [run_closed (x := x71) rfl rfl rfl rfl]
 simp (maxSteps := 1000000) (disch := omega) only [go_sem, x71, v1, v2, d1, d2, w2, ck]
end Go.VI.Rational
