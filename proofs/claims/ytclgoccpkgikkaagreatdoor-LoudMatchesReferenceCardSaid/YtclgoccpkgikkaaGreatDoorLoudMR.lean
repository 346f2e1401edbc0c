/- What the functions on integers compute, part MR. -/
import Derived.Test.YtclgoccpkgikkaaGreatDoorLoudMA
import Derived.Test.YtclgoccpkgikkaaGreatDoorLoudMC
import Derived.Test.YtclgoccpkgikkaaGreatDoorVIU2
import Derived.Test.YtclgoccpkgikkaaGreatDoorLoudMS
import Derived.Test.YtclgoccpkgikkaaGreatDoorLoudML
import Derived.Test.YtclgoccpkgikkaaGreatDoorLoudMG
set_option linter.unusedVariables false
set_option linter.unusedSimpArgs false
/- Numbers as digits, the lowest one first. -/
namespace Go.VI.Num
def dq : List Int → Int
 | [] => 0
 | d :: r => d + 10 * dq r
def Dg (l : List Int) : Prop := ∀ x ∈ l, 0 ≤ x ∧ x ≤ 9
theorem Dg.cons {d : Int} {r : List Int} : Dg (d :: r) ↔ (0 ≤ d ∧ d ≤ 9) ∧ Dg r := by simp [Dg]
theorem Dg.nil : Dg [] := by simp [Dg]
theorem dq_nn : ∀ {l : List Int}, Dg l → 0 ≤ dq l
 | [], _ => by simp [dq]
 | d :: r, h => by
  have := dq_nn (Dg.cons.mp h).2
  have := (Dg.cons.mp h).1
  simp only [dq]; omega
theorem dq_lt : ∀ {l : List Int}, Dg l → dq l < 10 ^ l.length
 | [], _ => by simp [dq]
 | d :: r, h => by
  have h1 := dq_lt (Dg.cons.mp h).2
  have h2 := (Dg.cons.mp h).1
  simp only [dq, List.length_cons, Int.pow_succ]
  generalize (10 : Int) ^ r.length = X at *
  omega
theorem dq_app (a b : List Int) : dq (a ++ b) = dq a + 10 ^ a.length * dq b := by
 induction a with
 | nil => simp [dq]
 | cons d r ih =>
  simp only [List.cons_append, dq, ih, List.length_cons, Int.pow_succ]
  rw [Int.mul_add, Int.add_assoc, Int.mul_comm ((10 : Int) ^ r.length) 10, Int.mul_assoc]
theorem dq_zeros (n : Nat) : dq (List.replicate n 0) = 0 := by
 induction n with
 | zero => rfl
 | succ n ih => simp [List.replicate_succ, dq, ih]
def d10F : Nat → Nat → List Int
 | 0, _ => []
 | f + 1, n => if n = 0 then [] else ((n % 10 : Nat) : Int) :: d10F f (n / 10)
def d10 (n : Nat) : List Int := d10F n n
theorem d10F_eq : ∀ (f f' n : Nat), n ≤ f → n ≤ f' → d10F f n = d10F f' n
 | 0, 0, n, _, _ => rfl
 | 0, f' + 1, n, h, _ => by
  have : n = 0 := by omega
  subst this; rfl
 | f + 1, 0, n, _, h => by
  have : n = 0 := by omega
  subst this; rfl
 | f + 1, f' + 1, n, h, h' => by
  simp only [d10F]
  split
  ·rfl
  ·rw [d10F_eq f f' (n / 10) (by omega) (by omega)]
theorem d10_zero : d10 0 = [] := rfl
theorem d10_pos {n : Nat} (h : n ≠ 0) : d10 n = ((n % 10 : Nat) : Int) :: d10 (n / 10) := by
 obtain ⟨m, rfl⟩ : ∃ m, n = m + 1 := ⟨n - 1, by omega⟩
 show d10F (m + 1) (m + 1) = _
 simp only [d10F, h, if_false]
 rw [d10F_eq m ((m + 1) / 10) _ (by omega) (Nat.le_refl _)]
 rfl
theorem dq_d10 (n : Nat) : dq (d10 n) = n := by
 induction n using Nat.strongRecOn with
 | _ n ih =>
  by_cases h : n = 0
  ·subst h; rfl
  ·rw [d10_pos h, dq, ih (n / 10) (by omega)]; omega
theorem dg_d10 (n : Nat) : Dg (d10 n) := by
 induction n using Nat.strongRecOn with
 | _ n ih =>
  by_cases h : n = 0
  ·subst h; exact Dg.nil
  ·rw [d10_pos h]
   exact Dg.cons.mpr ⟨by omega, ih (n / 10) (by omega)⟩
theorem d10_nil {n : Nat} : d10 n = [] ↔ n = 0 := by
 constructor
 ·intro h
  have := dq_d10 n
  rw [h] at this
  simp [dq] at this
  omega
 ·rintro rfl; rfl
theorem trm_d10 (n : Nat) : Trm (d10 n) := by
 induction n using Nat.strongRecOn with
 | _ n ih =>
  by_cases h : n = 0
  ·subst h; intro h; exact absurd rfl h
  ·intro hne
   by_cases h2 : n / 10 = 0
   ·have : d10 n = [((n % 10 : Nat) : Int)] := by rw [d10_pos h, h2]; rfl
    simp only [this, List.getLast_singleton]
    omega
   ·have h3 : d10 (n / 10) ≠ [] := fun e => h2 (d10_nil.mp e)
    have := ih (n / 10) (by omega) h3
    simp only [d10_pos h, List.getLast_cons h3]
    exact this
theorem d10_dq : ∀ {l : List Int}, Dg l → Trm l → d10 (dq l).toNat = l
 | [], _, _ => rfl
 | d :: r, hd, ht => by
  have h1 := Dg.cons.mp hd
  have h2 := dq_nn h1.2
  have ih := d10_dq h1.2 ht.cons
  have e : (dq (d :: r)).toNat = d.toNat + 10 * (dq r).toNat := by simp only [dq]; omega
  have hne : (dq (d :: r)).toNat ≠ 0 := by
   intro h0
   have hd0 : d = 0 := by omega
   have hr0 : (dq r).toNat = 0 := by omega
   rw [hr0] at ih
   have : r = [] := ih.symm
   subst this
   exact ht (by simp) (by simpa using hd0)
  rw [d10_pos hne, e]
  have e1 : (d.toNat + 10 * (dq r).toNat) % 10 = d.toNat := by omega
  have e2 : (d.toNat + 10 * (dq r).toNat) / 10 = (dq r).toNat := by omega
  rw [e1, e2, ih]
  congr 1
  omega
theorem trimK_dq (l : List Int) : ∀ k, k ≤ l.length → dq (l.take (trimK l k)) = dq (l.take k)
 | 0, _ => rfl
 | k + 1, h => by
  simp only [trimK]
  split
  ·rename_i h0
   rw [trimK_dq l k (by omega), List.take_succ_eq_append_getElem (by omega), dq_app]
   rw [List.getD_eq_getElem?_getD, List.getElem?_eq_getElem (by omega)] at h0
   have h1 : l[k] = 0 := h0
   simp [h1, dq]
  ·rfl
theorem trim10_eq {l : List Int} (h : Dg l) : trimL l = d10 (dq l).toNat := by
 have h1 := trimK_dq l l.length (Nat.le_refl _)
 rw [List.take_length] at h1
 have h2 : Dg (trimL l) := fun x hx => h x (List.mem_of_mem_take hx)
 have h3 := d10_dq h2 (trimK_trm l l.length (Nat.le_refl _))
 rw [← h3]
 unfold trimL
 rw [h1]
def chrs (l : List Int) : List UInt8 := l.reverse.map fun d => UInt8.ofNat (48 + d.toNat)
theorem chrs_d10 {n : Nat} (h : n ≠ 0) : chrs (d10 n) = dec n := by
 induction n using Nat.strongRecOn with
 | _ n ih =>
  rw [d10_pos h]
  simp only [chrs, List.reverse_cons, List.map_append, List.map_cons, List.map_nil, Int.toNat_natCast]
  rcases Nat.lt_or_ge n 10 with h1 | h1
  ·rw [show n / 10 = 0 by omega, d10_zero, dec_small h1, Nat.mod_eq_of_lt h1]; rfl
  ·have e := ih (n / 10) (by omega) (by omega)
   simp only [chrs] at e
   rw [e, dec_big h1]
theorem d10_len {n : Nat} (h : n ≠ 0) : (d10 n).length = (dec n).length := by
 rw [← chrs_d10 h]; simp [chrs]
def madeL (s : List UInt8) (k : Nat) : List Int := (s.take k).map fun c => ((c.toNat % 10 : Nat) : Int)
def madeB (s : List UInt8) : Bool := match s with | [] => false | c :: _ => decide (128 ≤ c.toNat)
def madeN (s : List UInt8) (k : Nat) : Nat := (dq (madeL s k)).toNat
def madeZ (s : List UInt8) (k : Nat) : Int := if madeB s then -(madeN s k : Int) else madeN s k
end Go.VI.Num
/- Digits: comparing, adding, subtracting. -/
namespace Go.VI.Num
theorem cmpK_dq {a b : List Int} (ha : Dg a) (hb : Dg b) : ∀ k, k ≤ a.length → k ≤ b.length → cmpK a b k = cmpN (dq (a.take k)) (dq (b.take k))
 | 0, _, _ => rfl
 | k + 1, h1, h2 => by
  have ih := cmpK_dq ha hb k (by omega) (by omega)
  have da : Dg (a.take k) := fun x hx => ha x (List.mem_of_mem_take hx)
  have db : Dg (b.take k) := fun x hx => hb x (List.mem_of_mem_take hx)
  have la := dq_lt da
  have lb := dq_lt db
  have na := dq_nn da
  have nb := dq_nn db
  have ea : (a.take k).length = k := by simp; omega
  have eb : (b.take k).length = k := by simp; omega
  rw [ea] at la
  rw [eb] at lb
  have ga : a.getD k 0 = a[k] := by rw [List.getD_eq_getElem?_getD, List.getElem?_eq_getElem (by omega)]; rfl
  have gb : b.getD k 0 = b[k] := by rw [List.getD_eq_getElem?_getD, List.getElem?_eq_getElem (by omega)]; rfl
  rw [List.take_succ_eq_append_getElem (by omega), List.take_succ_eq_append_getElem (by omega), dq_app, dq_app, ea, eb]
  simp only [cmpK, ga, gb, dq, Int.mul_zero, Int.add_zero]
  rw [ih]
  generalize dq (a.take k) = A at *
  generalize dq (b.take k) = B at *
  generalize (10 : Int) ^ k = X at *
  generalize a[k] = x at *
  generalize b[k] = y at *
  by_cases c1 : x = y
  ·subst c1
   rw [if_pos rfl]
   unfold cmpN
   have e1 : (A + X * x < B + X * x) ↔ A < B := by omega
   have e2 : (A + X * x = B + X * x) ↔ A = B := by omega
   simp only [e1, e2]
  ·rw [if_neg c1]
   by_cases c2 : x < y
   ·rw [if_pos c2]
    have : X * (x + 1) ≤ X * y := Int.mul_le_mul_of_nonneg_left (by omega) (by omega)
    rw [Int.mul_add, Int.mul_one] at this
    unfold cmpN
    rw [if_pos (by omega)]
   ·rw [if_neg c2]
    have : X * (y + 1) ≤ X * x := Int.mul_le_mul_of_nonneg_left (by omega) (by omega)
    rw [Int.mul_add, Int.mul_one] at this
    unfold cmpN
    rw [if_neg (by omega), if_neg (by omega)]
theorem d10_len_lt {a b : Nat} (h : (d10 a).length < (d10 b).length) : a < b := by
 have h1 := dq_lt (dg_d10 a)
 rw [dq_d10] at h1
 have hb : d10 b ≠ [] := by intro e; rw [e] at h; simp at h
 -- the last group of b is at least one
 obtain ⟨i, x, e⟩ : ∃ (i : List Int) (x : Int), d10 b = i ++ [x] := ⟨(d10 b).dropLast, (d10 b).getLast hb, (List.dropLast_concat_getLast hb).symm⟩
 have hx : x ≠ 0 := by
  have := trm_d10 b hb
  simp only [e, List.getLast_append_of_ne_nil, ne_eq, List.cons_ne_nil, not_false_eq_true, List.getLast_singleton] at this
  exact this
 have hd := dg_d10 b
 rw [e] at hd
 have hx2 := hd x (by simp)
 have hi : Dg i := fun y hy => hd y (by simp [hy])
 have h3 := dq_nn hi
 have h2 := dq_d10 b
 rw [e, dq_app] at h2
 simp only [dq, Int.mul_zero, Int.add_zero] at h2
 have hl : (d10 a).length ≤ i.length := by rw [e] at h; simp at h; omega
 have h4 : (10 : Int) ^ (d10 a).length ≤ 10 ^ i.length := ipow_le (by omega) hl
 have h5 : (10 : Int) ^ i.length * 1 ≤ 10 ^ i.length * x := Int.mul_le_mul_of_nonneg_left (by omega) (Int.pow_nonneg (by omega))
 rw [Int.mul_one] at h5
 omega
theorem d10_len_le {a b : Nat} (h : a ≤ b) : (d10 a).length ≤ (d10 b).length := by
 rcases Nat.lt_or_ge (d10 b).length (d10 a).length with h1 | h1
 ·have := d10_len_lt h1; omega
 ·exact h1
theorem cmpL_d10 (a b : Nat) : cmpL (d10 a) (d10 b) = cmpN a b := by
 unfold cmpL
 by_cases h : (d10 a).length = (d10 b).length
 ·rw [if_pos h, cmpK_dq (dg_d10 a) (dg_d10 b) _ (Nat.le_refl _) (by omega), List.take_length, h, List.take_length, dq_d10, dq_d10]
 ·rw [if_neg h]
  by_cases h2 : (d10 a).length < (d10 b).length
  ·have := d10_len_lt h2
   rw [if_pos h2]; unfold cmpN; rw [if_pos (by omega)]
  ·have := d10_len_lt (a := b) (b := a) (by omega)
   rw [if_neg h2]; unfold cmpN; rw [if_neg (by omega), if_neg (by omega)]
theorem dr_lt {l : List Int} {i A : Nat} (h : l.drop i = d10 A) : i < l.length ↔ A ≠ 0 := by
 constructor
 ·intro hi h0
  subst h0
  have := congrArg List.length h
  rw [d10_zero] at this
  simp at this; omega
 ·intro h0
  rcases Nat.lt_or_ge i l.length with c | c
  ·exact c
  ·rw [List.drop_of_length_le c] at h
   exact absurd (d10_nil.mp h.symm) h0
theorem dr_get {l : List Int} {i A : Nat} (h : l.drop i = d10 A) (h0 : A ≠ 0) (hi : i < l.length) : l[i] = ((A % 10 : Nat) : Int) ∧ l.drop (i + 1) = d10 (A / 10) := by
 rw [List.drop_eq_getElem_cons hi, d10_pos h0] at h
 exact ⟨(List.cons.inj h).1, (List.cons.inj h).2⟩
theorem dr_next {l : List Int} {i A : Nat} (h : l.drop i = d10 A) : l.drop (i + 1) = d10 (A / 10) := by
 by_cases h0 : A = 0
 ·subst h0
  rw [d10_zero] at h
  have : l.length ≤ i := by have := congrArg List.length h; simp at this; omega
  rw [List.drop_of_length_le (by omega)]; rfl
 ·exact (dr_get h h0 ((dr_lt h).mpr h0)).2
def plF : Nat → Nat → Nat → Nat → List Int
 | 0, _, _, _ => []
 | f + 1, A, B, c => if A = 0 ∧ B = 0 ∧ c = 0 then [] else (((A % 10 + B % 10 + c) % 10 : Nat) : Int) :: plF f (A / 10) (B / 10) ((A % 10 + B % 10 + c) / 10)
theorem pl_ok : ∀ (f A B c : Nat), A + B + c ≤ f → plF f A B c = d10 (A + B + c)
 | 0, A, B, c, h => by
  have : A + B + c = 0 := by omega
  rw [this]; rfl
 | f + 1, A, B, c, h => by
  simp only [plF]
  by_cases h0 : A = 0 ∧ B = 0 ∧ c = 0
  ·rw [if_pos h0, show A + B + c = 0 by omega]; rfl
  ·rw [if_neg h0, pl_ok f _ _ _ (by omega), d10_pos (n := A + B + c) (by omega)]
   have e1 : (A % 10 + B % 10 + c) % 10 = (A + B + c) % 10 := by omega
   have e2 : A / 10 + B / 10 + (A % 10 + B % 10 + c) / 10 = (A + B + c) / 10 := by omega
   rw [e1, e2]
def mnF : Nat → Nat → Nat → Nat → List Int
 | 0, _, _, _ => []
 | f + 1, A, B, w => if A = 0 then [] else if A % 10 < w + B % 10 then ((A % 10 + 10 - w - B % 10 : Nat) : Int) :: mnF f (A / 10) (B / 10) 1 else ((A % 10 - w - B % 10 : Nat) : Int) :: mnF f (A / 10) (B / 10) 0
theorem mn_ok : ∀ (f A B w : Nat), A ≤ f → w ≤ 1 → B + w ≤ A → dq (mnF f A B w) = (A - B - w : Nat) ∧ Dg (mnF f A B w)
 | 0, A, B, w, h, hw, hb => by
  have e : A - B - w = 0 := by omega
  rw [e]; exact ⟨rfl, Dg.nil⟩
 | f + 1, A, B, w, h, hw, hb => by
  simp only [mnF]
  by_cases h0 : A = 0
  ·rw [if_pos h0, show A - B - w = 0 by omega]; exact ⟨rfl, Dg.nil⟩
  ·rw [if_neg h0]
   by_cases c : A % 10 < w + B % 10
   ·obtain ⟨k1, k2⟩ := mn_ok f (A / 10) (B / 10) 1 (by omega) (by omega) (by omega)
    rw [if_pos c, dq, k1]
    exact ⟨by omega, Dg.cons.mpr ⟨by omega, k2⟩⟩
   ·obtain ⟨k1, k2⟩ := mn_ok f (A / 10) (B / 10) 0 (by omega) (by omega) (by omega)
    rw [if_neg c, dq, k1]
    exact ⟨by omega, Dg.cons.mpr ⟨by omega, k2⟩⟩
theorem mnF_len : ∀ (f A B w : Nat), (mnF f A B w).length ≤ (d10 A).length
 | 0, A, B, w => by simp [mnF]
 | f + 1, A, B, w => by
  simp only [mnF]
  by_cases h0 : A = 0
  ·rw [if_pos h0]; simp
  ·rw [if_neg h0, d10_pos h0]
   split
   ·have := mnF_len f (A / 10) (B / 10) 1; simp; omega
   ·have := mnF_len f (A / 10) (B / 10) 0; simp; omega
end Go.VI.Num
/- Digits: multiplying row by row, dividing. -/
namespace Go.VI.Num
def rowF (d : Int) : List Int → List Int → Int → List Int
 | [], _, _ => []
 | o0 :: o, b0 :: m, c => ((o0 + c + d * b0) % 10) :: rowF d o m ((o0 + c + d * b0) / 10)
 | o0 :: o, [], c => if 0 < c then ((o0 + c) % 10) :: rowF d o [] ((o0 + c) / 10) else o0 :: o
theorem dq_zero : ∀ {l : List Int}, (∀ x ∈ l, x = 0) → dq l = 0
 | [], _ => rfl
 | x :: l, h => by
  have h1 := h x (by simp)
  have h2 := dq_zero (l := l) fun y hy => h y (by simp [hy])
  rw [dq, h1, h2]; rfl
theorem row_len (d : Int) : ∀ (o m : List Int) (c : Int), (rowF d o m c).length = o.length
 | [], _, _ => by simp [rowF]
 | o0 :: o, b0 :: m, c => by simp [rowF, row_len d o m]
 | o0 :: o, [], c => by
  simp only [rowF]
  split
  ·simp [row_len d o []]
  ·rfl
theorem row_ok {d : Int} (hd : 0 ≤ d ∧ d ≤ 9) : ∀ (m o : List Int) (c : Int), Dg o → Dg m → 0 ≤ c → c ≤ 9 → m.length + 1 ≤ o.length → (∀ x ∈ o.drop m.length, x = 0) →
  Dg (rowF d o m c) ∧ dq (rowF d o m c) = dq o + d * dq m + c ∧ ∀ x ∈ (rowF d o m c).drop (m.length + 1), x = 0
 | [], [], c, _, _, _, _, hl, _ => by simp at hl
 | [], o0 :: o, c, ho, hm, h1, h2, hl, hz => by
  have z0 : o0 = 0 := hz o0 (by simp)
  have zo : ∀ x ∈ o, x = 0 := fun x hx => hz x (by simp [hx])
  subst z0
  have ho' := (Dg.cons.mp ho).2
  have q := dq_zero zo
  by_cases hc : 0 < c
  ·have e1 : (0 + c) % 10 = c := by omega
   have e2 : (0 + c) / 10 = 0 := by omega
   have e3 : rowF d o [] 0 = o := by cases o <;> simp [rowF]
   simp only [rowF, hc, if_true, e1, e2, e3]
   exact ⟨Dg.cons.mpr ⟨by omega, ho'⟩, by simp only [dq, q]; omega, by simpa using zo⟩
  ·simp only [rowF, hc, if_false]
   exact ⟨ho, by simp only [dq, q]; omega, by simpa using zo⟩
 | b0 :: m, [], c, _, _, _, _, hl, _ => by simp at hl
 | b0 :: m, o0 :: o, c, ho, hm, h1, h2, hl, hz => by
  obtain ⟨g1, g2⟩ := Dg.cons.mp ho
  obtain ⟨k1, k2⟩ := Dg.cons.mp hm
  have p0 : 0 ≤ d * b0 := Int.mul_nonneg hd.1 k1.1
  have p1 : d * b0 ≤ 9 * 9 := Int.mul_le_mul hd.2 k1.2 k1.1 (by omega)
  have hn0 : 0 ≤ (o0 + c + d * b0) / 10 := by omega
  have hn9 : (o0 + c + d * b0) / 10 ≤ 9 := by omega
  obtain ⟨r1, r2, r3⟩ := row_ok hd m o _ g2 k2 hn0 hn9 (by simp at hl; omega) (fun x hx => hz x (by simpa using hx))
  simp only [rowF]
  refine ⟨Dg.cons.mpr ⟨by omega, r1⟩, ?_, fun x hx => r3 x (by simpa using hx)⟩
  simp only [dq, r2]
  rw [Int.mul_add d, ← Int.mul_assoc d 10, Int.mul_comm d 10, Int.mul_assoc 10 d]
  generalize d * b0 = P at *
  generalize d * dq m = Q at *
  omega
theorem set_app {pre : List Int} {o0 x : Int} {o : List Int} {n : Nat} (h : pre.length = n) : (pre ++ o0 :: o).set n x = pre ++ x :: o := by
 subst h
 rw [List.set_append_right _ _ (Nat.le_refl _), Nat.sub_self]; rfl
theorem get_app {pre : List Int} {o0 : Int} {o : List Int} {n : Nat} (h : pre.length = n) (hn : n < (pre ++ o0 :: o).length) : (pre ++ o0 :: o)[n] = o0 := by
 subst h
 simp
end Go.VI.Num
namespace Go.VI
theorem bytesOf_map : ∀ l : List UInt8, bytesOf (l.map AV.byte) = some l
 | [] => rfl
 | b :: r => by
  have hb := b.toNat_lt
  simp only [List.map_cons, AV.byte, bytesOf]
  have ih := bytesOf_map r
  rw [if_pos (by omega), ih]
  simp
theorem byte_of {n : Nat} (h : n < 256) : AV.byte (UInt8.ofNat n) = .int .u8 n := by
 simp [AV.byte, UInt8.toNat_ofNat']; omega
end Go.VI
namespace Go.VI.Loud
open Go.VI.Num
theorem rtrim_loop {l : List Int} (hl : l.length ≤ 1000000) (cx : Cx) (H : Heap) (id : Nat) (hid : H[id]? = some (1, .arr 1 (ints l))) : ∀ k : Nat, k ≤ l.length →
  runC lib cx (.loop b117_0) ([(0, .ref id 1 1 0 k l.length)], H) = some (.exit 0, ([(0, .ref id 1 1 0 (trimK l k) l.length)], H)) := by
 intro k
 induction k with
 | zero =>
  intro hk
  rw [w_loop]
  have s3 : lenv false (.ref id 1 1 0 0 l.length) = some (.int .i64 0) := rfl
  simp only [trimK]
  simp (maxSteps := 1000000) (disch := omega) only [go_sem, s3, Int.lt_irrefl]
 | succ k ih =>
  intro hk
  have s3 : lenv false (.ref id 1 1 0 (k + 1) l.length) = some (.int .i64 ((k : Int) + 1)) := rfl
  have c1 : (0 : Int) < (k : Int) + 1 := by omega
  have e0 : (k : Int) + 1 - 1 = k := by omega
  have e3 : sidx 1 (.ref id 1 1 0 (k + 1) l.length) (.int .i64 k) = some k := by simp [sidx, zok, slen, idx]
  have hg : l.getD k 0 = l[k] := by rw [List.getD_eq_getElem?_getD, List.getElem?_eq_getElem (by omega)]; rfl
  have e4 : pcells H (.iptr (.ref id 1 1 0 (k + 1) l.length) k 0) = some [.int .i64 l[k]] := by
   have hb : k + 1 ≤ l.length := hk
   have hk' : k < l.length := by omega
   simp only [pcells, asList0, hid, ints_len]
   simp [hb, ints, List.getElem?_take, hk', AV.cells]
  have hsl : slicev (some 1) (.ref id 1 1 0 (k + 1) l.length) none (some (.int .i64 k)) = some (.ref id 1 1 0 k l.length) := by
   have hb : bnd (some (.int .i64 k)) (k + 1) (k + 1) = some k := by rw [bnd_ok (by omega) (by omega)]; simp
   rw [slicev_ref, hb]
   simp [bnd]
  have ih' := ih (by omega)
  simp only [trimK, hg]
  rw [w_loop]
  by_cases c2 : l[k] = 0
  ·rw [if_pos c2]
   simp (maxSteps := 1000000) (disch := omega) only [go_sem, s3, c1, e0, e3, e4, c2, hsl, ih']
  ·rw [if_neg c2]
   simp (maxSteps := 1000000) (disch := omega) only [go_sem, s3, c1, e0, e3, e4, c2]
theorem rtrim_run {l : List Int} (hl : l.length ≤ 1000000) (h : Heap) (id : Nat) (hid : h[id]? = some (1, .arr 1 (ints l))) (N : Nat) (hN : l.length = N) (lo : Nat) : (run lib).fn 117 [.ref id 1 1 0 N N] h lo = some (.ref id 1 1 0 (trimL l).length N, h) := by
 subst hN
 have e := fun cx => rtrim_loop hl cx h id hid l.length (Nat.le_refl _)
 have hlt : id < h.length := (List.getElem?_eq_some_iff.mp hid).1
 have hg : ∀ t N, giveRes h.length (.ref id 1 1 0 t N) h = some (.ref id 1 1 0 t N) := fun t N => by
  simp [giveRes, give, frz, show ¬ h.length ≤ id by omega]
 have ht : (trimL l).length = trimK l l.length := by
  have := trimK_le l l.length
  simp [trimL]; omega
 rw [run_closed (x := x117) rfl rfl rfl rfl, ht]
 simp (maxSteps := 1000000) (disch := omega) only [go_sem, x117, e, hg, Option.map_some]
theorem rtrim_nil (h : Heap) (lo : Nat) : (run lib).fn 117 [.nilSl] h lo = some (.own 0 [], h) := by
 have s3 : lenv false .nilSl = some (.int .i64 0) := rfl
 have e : runC lib ⟨h.length, h.length, 0, none⟩ (.loop b117_0) ([(0, .nilSl)], h) = some (.exit 0, ([(0, .nilSl)], h)) := by
  rw [w_loop]
  simp (maxSteps := 1000000) (disch := omega) only [go_sem, s3, Int.lt_irrefl]
 rw [run_closed (x := x117) rfl rfl rfl rfl]
 simp (maxSteps := 1000000) (disch := omega) only [go_sem, x117, e]
theorem chrs_step {l : List Int} {k : Nat} (hk : k < l.length) : chrs (l.drop k) = chrs (l.drop (k + 1)) ++ [UInt8.ofNat (48 + l[k].toNat)] := by
 rw [List.drop_eq_getElem_cons hk]; simp only [chrs, List.reverse_cons, List.map_append, List.map_singleton]
theorem rtext_loop {v : AV} {l : List Int} {h : Heap} (hs : Sl h 1 v (ints l)) (hd : Dg l) (hl : l.length ≤ 100000) (pre : List UInt8) (V : List AV → AV) (F : List AV → Heap)
  (hF : ∀ (C : List UInt8) (x : AV), C.length ≤ 100000 → appv ⟨h.length, h.length, 2, none⟩ 0 1 140737488355328 (V ((pre ++ C).map AV.byte)) [x] (h ++ F ((pre ++ C).map AV.byte)) = some (V ((pre ++ C).map AV.byte ++ [x]), h ++ F ((pre ++ C).map AV.byte ++ [x]))) : ∀ (k : Nat), k ≤ l.length →
  runC lib ⟨h.length, h.length, 2, none⟩ (.loop b84_0) ([(1, v), (6, V ((pre ++ chrs (l.drop k)).map AV.byte)), (7, .int .i64 ((k : Int) - 1))], h ++ F ((pre ++ chrs (l.drop k)).map AV.byte)) =
   some (.exit 0, ([(1, v), (6, V ((pre ++ chrs l).map AV.byte))], h ++ F ((pre ++ chrs l).map AV.byte))) := by
 intro k
 induction k with
 | zero =>
  intro hk
  have c1 : ¬ (0 : Int) ≤ -1 := by omega
  rw [w_loop]
  simp (maxSteps := 1000000) (disch := omega) only [go_sem, c1, Int.zero_sub, Int.reduceNeg]
 | succ k ih =>
  intro hk
  have c1 : (0 : Int) ≤ (k : Int) := by omega
  have e0 : (k : Int) + 1 - 1 = k := by omega
  have hkl : k < l.length := by omega
  have hs2 := fun fr => hs.app fr
  have e3 : sidx 1 v (.int .i64 k) = some k := by rw [sidx_sl hs (by omega) (by simp; omega)]; simp
  have e4 := fun off fr => pc_iptr (off := off) (hs2 fr).elems0 (show k < (ints l).length by simp; omega)
  simp only [ints_get] at e4
  have hx := hd l[k] (List.getElem_mem hkl)
  have k1 := ih (by omega)
  rw [chrs_step hkl, ← List.append_assoc, List.map_append, List.map_singleton, byte_of (by omega)] at k1
  have hcl : (chrs (l.drop (k + 1))).length ≤ 100000 := by simp [chrs]; omega
  generalize chrs (l.drop (k + 1)) = C at *
  have ea := fun x : AV => hF C x hcl
  generalize (pre ++ C).map AV.byte = W at *
  generalize l[k] = d at *
  have ed : ((48 + d.toNat : Nat) : Int) = 48 + d := by omega
  rw [ed] at k1
  rw [w_loop]
  simp (maxSteps := 1000000) (disch := omega) only [go_sem, cast1, e0, c1, e3, e4, ea, k1]
def rtS (neg : Bool) (n : Nat) : List UInt8 := if n = 0 then [48] else if neg then 45 :: dec n else dec n
theorem rtS_itxt (neg : Bool) (n : Nat) : rtS neg n = itxt (sgn neg n) := by
 unfold rtS
 by_cases h0 : n = 0
 ·subst h0; cases neg <;> rfl
 ·rw [if_neg h0]
  cases neg with
  | true =>
   unfold itxt sgn
   rw [if_pos rfl, if_pos rfl, if_pos (by omega)]
   have : (-(n : Int)).natAbs = n := by omega
   rw [this]
  | false =>
   unfold sgn
   rw [if_neg (by simp), if_neg (by simp), itxt_nat]
theorem rtext_run {v : AV} {n : Nat} (neg : Bool) {h : Heap} (hs : Sl h 1 v (ints (d10 n))) (hl : (d10 n).length ≤ 100000) (lo : Nat) :
  (run lib).fn 84 [.bool neg, v] h lo = some (.tuple [.str (itxt (sgn neg n)), .bool (decide ((d10 n).length ≤ 200))], h) := by
 have s1 := lenv_sl hs.len
 rw [ints_len] at s1
 rw [← rtS_itxt]
 unfold rtS
 by_cases h0 : n = 0
 ·subst h0
  have e : ((d10 0).length : Int) = 0 := rfl
  have e2 : decide ((d10 0).length ≤ 200) = true := rfl
  rw [e] at s1
  rw [e2, if_pos rfl, run_closed (x := x84) rfl rfl rfl rfl]
  simp (maxSteps := 1000000) (disch := omega) only [go_sem, x84, s1]
 ·have hne : d10 n ≠ [] := fun e => h0 (d10_nil.mp e)
  have hpos := List.length_pos_iff.mpr hne
  have c0 : ¬ ((d10 n).length : Int) = 0 := by omega
  have ce : decide (((d10 n).length : Int) ≤ 200) = decide ((d10 n).length ≤ 200) := by rw [decide_eq_decide]; omega
  have hd := dg_d10 n
  rw [if_neg h0, run_closed (x := x84) rfl rfl rfl rfl]
  cases neg with
  | true =>
   have lp := rtext_loop hs hd hl [45] (fun W => .ref (h.length + 1) 1 1 0 W.length W.length) (fun W => [(0, .dead), (1, .arr 1 W)]) (fun C x hC => by
    have ea := app_ref (cx := ⟨h.length, h.length, 2, none⟩) (s := 0) (z := 1) (lim := 140737488355328) (id := h.length + 1) (ver := 1) (h := h ++ [(0, .dead), (1, .arr 1 (([45] ++ C).map AV.byte))]) (es := ([45] ++ C).map AV.byte) (xs := [x]) (by rw [get_fr]; rfl) (by simp) (by simp; omega)
    rw [ea, set_fr]; simp) (d10 n).length (Nat.le_refl _)
   rw [List.drop_of_length_le (Nat.le_refl _), chrs_d10 h0] at lp
   have hap : appv ⟨h.length, h.length, 2, none⟩ 1 1 140737488355328 .nilSl [.int .u8 45] (h ++ [(0, .dead), (0, .dead)]) = some (.ref (h.length + 1) 1 1 0 1 1, h ++ [(0, .dead), (1, .arr 1 [.int .u8 45])]) := by
    have := app_acc (lo := h.length) (ns := 2) (s := 1) (z := 1) (lim := 140737488355328) (h := h) (fr := [(0, .dead), (0, .dead)]) (b0 := (0, .dead)) (es := []) (xs := [.int .u8 45]) (by omega) (Nat.le_refl _) rfl (by simp)
    exact this
   have hc0 : ([45] ++ chrs []).map AV.byte = [AV.int .u8 45] := rfl
   rw [hc0] at lp
   simp only [List.length_singleton] at lp
   have ts : asList (h ++ [(0, .dead), (1, .arr 1 (([45] ++ dec n).map AV.byte))]) 1 (.ref (h.length + 1) 1 1 0 (([45] ++ dec n).map AV.byte).length (([45] ++ dec n).map AV.byte).length) = some (([45] ++ dec n).map AV.byte) :=
    (Sl.refAll (h := h) (fr := [(0, .dead), (1, .arr 1 (([45] ++ dec n).map AV.byte))]) (s := 1) rfl).list0
   have hb := bytesOf_map ([45] ++ dec n)
   have e45 : [45] ++ dec n = 45 :: dec n := rfl
   rw [e45] at lp ts hb
   rw [if_pos rfl]
   generalize (45 :: dec n).map AV.byte = W at *
   simp (maxSteps := 1000000) (disch := omega) only [go_sem, x84, s1, c0, hap, lp, ts, hb, ce]
  | false =>
   have lp := rtext_loop hs hd hl [] (fun W => accV (h.length + 0) (0, .dead) 1 W) (fun W => [accB (0, .dead) 1 W, (0, .dead)]) (fun C x hC =>
    app_acc (lo := h.length) (ns := 2) (s := 0) (z := 1) (lim := 140737488355328) (h := h) (fr := [accB (0, .dead) 1 (([] ++ C).map AV.byte), (0, .dead)]) (b0 := (0, .dead)) (es := ([] ++ C).map AV.byte) (xs := [x]) (by omega) (Nat.le_refl _) rfl (by simp; omega)) (d10 n).length (Nat.le_refl _)
   rw [List.drop_of_length_le (Nat.le_refl _), chrs_d10 h0] at lp
   have hc0 : ([] ++ chrs []).map AV.byte = [] := rfl
   rw [hc0] at lp
   simp only [accV_nil, accB_nil, List.nil_append] at lp
   have ts : asList (h ++ [accB (0, .dead) 1 ((dec n).map AV.byte), (0, .dead)]) 1 (accV (h.length + 0) (0, .dead) 1 ((dec n).map AV.byte)) = some ((dec n).map AV.byte) :=
    (Sl.acc (h := h) (fr := [accB (0, .dead) 1 ((dec n).map AV.byte), (0, .dead)]) (s := 0) rfl).list0
   have hb := bytesOf_map (dec n)
   rw [if_neg (by simp)]
   generalize (dec n).map AV.byte = W at *
   simp (maxSteps := 1000000) (disch := omega) only [go_sem, x84, s1, c0, lp, ts, hb, ce]
end Go.VI.Loud
namespace Go.VI.Loud
open Go.VI.Num
def Bd (k : Nat) (z : Int) : Prop := z.natAbs < 10 ^ k
theorem Bd.fit {k : Nat} {z : Int} (h : Bd k z) (hk : k ≤ 200) : Fit z := Nat.lt_of_lt_of_le h (Nat.pow_le_pow_right (by omega) hk)
theorem Bd.mono {k l : Nat} {z : Int} (h : Bd k z) (hk : k ≤ l) : Bd l z := Nat.lt_of_lt_of_le h (Nat.pow_le_pow_right (by omega) hk)
theorem Bd.mul {j k : Nat} {x y : Int} (hx : Bd j x) (hy : Bd k y) : Bd (j + k) (x * y) := by
 unfold Bd at *
 rw [Int.natAbs_mul, Nat.pow_add]
 exact Nat.mul_lt_mul'' hx hy
theorem Bd.add {k : Nat} {x y : Int} (hx : Bd k x) (hy : Bd k y) : Bd (k + 1) (x + y) := by
 unfold Bd at *
 rw [Nat.pow_succ]
 generalize 10 ^ k = X at *
 omega
theorem Bd.sub {k : Nat} {x y : Int} (hx : Bd k x) (hy : Bd k y) : Bd (k + 1) (x - y) := by
 unfold Bd at *
 rw [Nat.pow_succ]
 generalize 10 ^ k = X at *
 omega
theorem str_iff (a b : Int) : (itxt a = itxt b) = (a = b) := by rw [eq_iff_iff]; exact ⟨itxt_inj, fun e => by rw [e]⟩
instance (z : Int) : Decidable (Fit z) := inferInstanceAs (Decidable (_ < _))
def sh3 : List Shp := [.str, .str, .str]
def sh4 : List Shp := [.str, .str]
end Go.VI.Loud
namespace Go.VI.Loud
open Go.VI.Num
theorem getD_at {l : List Int} {k : Nat} (h : k < l.length) : l.getD k 0 = l[k] := by rw [List.getD_eq_getElem?_getD, List.getElem?_eq_getElem h]; rfl
theorem rord_loop {v u : AV} {l m : List Int} (hv : PureSl 1 v (ints l)) (hu : PureSl 1 u (ints m)) (hl : l.length = m.length) (hm : m.length ≤ 1000000) (cx : Cx) (H : Heap) : ∀ k : Nat, k ≤ l.length →
  (cmpK l m k = 0 ∧ runC lib cx (.loop b112_0) ([(0, v), (1, u), (5, .int .i64 ((k : Int) - 1))], H) = some (.exit 0, ([], H))) ∨
  runC lib cx (.loop b112_0) ([(0, v), (1, u), (5, .int .i64 ((k : Int) - 1))], H) = some (.ret, ([(4, .int .i64 (cmpK l m k))], H)) := by
 intro k
 induction k with
 | zero =>
  intro hk
  have c1 : ¬ (0 : Int) ≤ -1 := by omega
  refine .inl ⟨rfl, ?_⟩
  rw [w_loop]
  simp (maxSteps := 1000000) (disch := omega) only [go_sem, c1, Int.zero_sub, Int.reduceNeg]
 | succ k ih =>
  intro hk
  have c1 : (0 : Int) ≤ (k : Int) := by omega
  have e0 : (k : Int) + 1 - 1 = k := by omega
  have hkl : k < l.length := by omega
  have hkm : k < m.length := by omega
  have a3 : sidx 1 v (.int .i64 k) = some k := by rw [sidx_sl (hv.sl H) (by omega) (by simp; omega)]; simp
  have b3 : sidx 1 u (.int .i64 k) = some k := by rw [sidx_sl (hu.sl H) (by omega) (by simp; omega)]; simp
  have a4 := fun off => pc_iptr (off := off) (hv.sl H).elems0 (show k < (ints l).length by simp; omega)
  have b4 := fun off => pc_iptr (off := off) (hu.sl H).elems0 (show k < (ints m).length by simp; omega)
  simp only [ints_get] at a4 b4
  have ih' := ih (by omega)
  simp only [cmpK, getD_at hkl, getD_at hkm]
  generalize l[k] = x at *
  generalize m[k] = y at *
  by_cases c : x = y
  ·rw [if_pos c]
   subst c
   have st : runC lib cx (.loop b112_0) ([(0, v), (1, u), (5, .int .i64 (((k + 1 : Nat) : Int) - 1))], H) = runC lib cx (.loop b112_0) ([(0, v), (1, u), (5, .int .i64 ((k : Int) - 1))], H) := by
    rw [w_loop]
    simp (maxSteps := 1000000) (disch := omega) only [go_sem, cast1, e0, c1, a3, b3, a4, b4, ne_eq, not_true_eq_false]
   rw [st]
   exact ih'
  ·rw [if_neg c]
   right
   by_cases c2 : x < y
   ·rw [if_pos c2, w_loop]
    simp (maxSteps := 1000000) (disch := omega) only [go_sem, cast1, e0, c1, a3, b3, a4, b4, c, c2]
   ·rw [if_neg c2, w_loop]
    simp (maxSteps := 1000000) (disch := omega) only [go_sem, cast1, e0, c1, a3, b3, a4, b4, c, c2]
theorem rorder_run {v u : AV} {a b : Nat} (hv : PureSl 1 v (ints (d10 a))) (hu : PureSl 1 u (ints (d10 b))) (ha : (d10 a).length ≤ 100000) (hb : (d10 b).length ≤ 100000) (h : Heap) (lo : Nat) :
  (run lib).fn 112 [v, u] h lo = some (.int .i64 (cmpN a b), h) := by
 rw [← cmpL_d10]
 have s1 := lenv_sl (hv.sl []).len
 have s2 := lenv_sl (hu.sl []).len
 rw [ints_len] at s1 s2
 unfold cmpL
 rw [run_closed (x := x112) rfl rfl rfl rfl]
 by_cases hl : (d10 a).length = (d10 b).length
 ·have c1 : ((d10 a).length : Int) = (d10 b).length := by omega
  rw [if_pos hl]
  rcases rord_loop hv hu hl (by omega) ⟨h.length, h.length, 0, none⟩ h (d10 a).length (Nat.le_refl _) with ⟨k1, k2⟩ | k2
  ·rw [k1]
   rw [c1] at k2 s1
   simp (maxSteps := 1000000) (disch := omega) only [go_sem, x112, s1, s2, c1, ne_eq, not_true_eq_false, k2]
  ·rw [c1] at k2 s1
   simp (maxSteps := 1000000) (disch := omega) only [go_sem, x112, s1, s2, c1, ne_eq, not_true_eq_false, k2]
 ·have c1 : ¬ ((d10 a).length : Int) = (d10 b).length := by omega
  rw [if_neg hl]
  by_cases c2 : (d10 a).length < (d10 b).length
  ·have c3 : ((d10 a).length : Int) < (d10 b).length := by omega
   rw [if_pos c2]
   simp (maxSteps := 1000000) (disch := omega) only [go_sem, x112, s1, s2, c1, c3]
  ·have c3 : ¬ ((d10 a).length : Int) < (d10 b).length := by omega
   rw [if_neg c2]
   simp (maxSteps := 1000000) (disch := omega) only [go_sem, x112, s1, s2, c1, c3]
theorem rplus_loop {v u : AV} {l m : List Int} (hv : PureSl 1 v (ints l)) (hu : PureSl 1 u (ints m)) (hl : l.length ≤ 100000) (hm : m.length ≤ 100000) (h : Heap) : ∀ (f A B c i : Nat) (acc : List Int), A + B + c ≤ f → c ≤ 1 → l.drop i = d10 A → m.drop i = d10 B → acc.length = i → (c ≠ 0 → i ≤ max l.length m.length) →
  runC lib ⟨h.length, h.length, 1, none⟩ (.loop b115_0) ([(0, v), (1, u), (5, accV (h.length + 0) (0, .dead) 1 (ints acc)), (6, .int .i64 c), (7, .int .i64 i)], h ++ [accB (0, .dead) 1 (ints acc)]) =
   some (.exit 0, ([(5, accV (h.length + 0) (0, .dead) 1 (ints (acc ++ plF f A B c)))], h ++ [accB (0, .dead) 1 (ints (acc ++ plF f A B c))])) := by
 have s1 := lenv_sl (hv.sl []).len
 have s2 := lenv_sl (hu.sl []).len
 rw [ints_len] at s1 s2
 intro f
 induction f with
 | zero =>
  intro A B c i acc h1 h2 h3 h4 h5 h6
  have a1 : ¬ (i : Int) < l.length := by have := dr_lt h3; omega
  have a2 : ¬ (i : Int) < m.length := by have := dr_lt h4; omega
  have a3 : c = 0 := by omega
  subst a3
  rw [w_loop]
  simp only [plF, List.append_nil]
  simp (maxSteps := 1000000) (disch := omega) only [go_sem, s1, s2, a1, a2, Int.lt_irrefl]
 | succ f ih =>
  intro A B c i acc h1 h2 h3 h4 h5 h6
  by_cases hst : A = 0 ∧ B = 0 ∧ c = 0
  ·have a1 : ¬ (i : Int) < l.length := by have := dr_lt h3; omega
   have a2 : ¬ (i : Int) < m.length := by have := dr_lt h4; omega
   have a3 : c = 0 := hst.2.2
   subst a3
   rw [w_loop]
   simp only [plF, hst, and_self, if_true, List.append_nil]
   simp (maxSteps := 1000000) (disch := omega) only [go_sem, s1, s2, a1, a2, Int.lt_irrefl]
  ·have hil : A ≠ 0 → i < l.length := (dr_lt h3).mpr
   have him : B ≠ 0 → i < m.length := (dr_lt h4).mpr
   have hi : i ≤ 100000 := by
    by_cases cA : A = 0
    ·by_cases cB : B = 0
     ·have := h6 (by omega); omega
     ·have := him cB; omega
    ·have := hil cA; omega
   have key : ∀ (x y : Int), x = ((A % 10 + B % 10 + c) % 10 : Nat) → y = ((A % 10 + B % 10 + c) / 10 : Nat) → runC lib ⟨h.length, h.length, 1, none⟩ (.loop b115_0) ([(0, v), (1, u), (5, accV (h.length + 0) (0, .dead) 1 (ints acc ++ [.int .i64 x])), (6, .int .i64 y), (7, .int .i64 ((i : Int) + 1))], h ++ [accB (0, .dead) 1 (ints acc ++ [.int .i64 x])]) =
     some (.exit 0, ([(5, accV (h.length + 0) (0, .dead) 1 (ints (acc ++ plF (f + 1) A B c)))], h ++ [accB (0, .dead) 1 (ints (acc ++ plF (f + 1) A B c))])) := fun x y hx hy => by
    have k := ih (A / 10) (B / 10) ((A % 10 + B % 10 + c) / 10) (i + 1) (acc ++ [x]) (by omega) (by omega) (dr_next h3) (dr_next h4) (by simp [h5]) (fun hc => by
     by_cases cA : A = 0
     ·by_cases cB : B = 0
      ·omega
      ·have := him cB; omega
     ·have := hil cA; omega)
    have e : acc ++ plF (f + 1) A B c = acc ++ [x] ++ plF f (A / 10) (B / 10) ((A % 10 + B % 10 + c) / 10) := by simp only [plF, hst, if_false, hx]; simp
    rw [e]
    rw [ints_app acc [x], ints_one, cast1, ← hy] at k
    exact k
   have ea := fun x : Int => app_acc (lo := h.length) (ns := 1) (s := 0) (z := 1) (lim := 17592186044416) (h := h) (fr := [accB (0, .dead) 1 (ints acc)]) (b0 := (0, .dead)) (es := ints acc) (xs := [.int .i64 x]) (by omega) (Nat.le_refl _) rfl (by simp; omega)
   simp only [List.set_cons_zero] at ea
   rw [w_loop]
   by_cases cA : A = 0
   ·have a1 : ¬ (i : Int) < l.length := by have := dr_lt h3; omega
    by_cases cB : B = 0
    ·have a2 : ¬ (i : Int) < m.length := by have := dr_lt h4; omega
     have a3 : (0 : Int) < (c : Int) := by omega
     have k := key ((c : Int) % 10) ((c : Int) / 10) (by omega) (by omega)
     simp (maxSteps := 1000000) (disch := omega) only [go_sem, s1, s2, a1, a2, a3, ea, k]
    ·have hi2 := him cB
     have a2 : (i : Int) < m.length := by omega
     have e3 : sidx 1 u (.int .i64 i) = some i := by rw [sidx_sl (hu.sl []) (by omega) (by simp; omega)]; simp
     have e4 := fun off H => pc_iptr (off := off) (hu.sl H).elems0 (show i < (ints m).length by simp; omega)
     simp only [ints_get, (dr_get h4 cB hi2).1] at e4
     have k := key (((c : Int) + ((B % 10 : Nat) : Int)) % 10) (((c : Int) + ((B % 10 : Nat) : Int)) / 10) (by omega) (by omega)
     have hq : B % 10 ≤ 9 := by omega
     generalize B % 10 = q at *
     simp (maxSteps := 1000000) (disch := omega) only [go_sem, s1, s2, a1, a2, e3, e4, ea, k]
   ·have hi1 := hil cA
    have a1 : (i : Int) < l.length := by omega
    have e3 : sidx 1 v (.int .i64 i) = some i := by rw [sidx_sl (hv.sl []) (by omega) (by simp; omega)]; simp
    have e4 := fun off H => pc_iptr (off := off) (hv.sl H).elems0 (show i < (ints l).length by simp; omega)
    simp only [ints_get, (dr_get h3 cA hi1).1] at e4
    by_cases cB : B = 0
    ·have a2 : ¬ (i : Int) < m.length := by have := dr_lt h4; omega
     have k := key (((c : Int) + ((A % 10 : Nat) : Int)) % 10) (((c : Int) + ((A % 10 : Nat) : Int)) / 10) (by omega) (by omega)
     have hp : A % 10 ≤ 9 := by omega
     generalize A % 10 = p at *
     simp (maxSteps := 1000000) (disch := omega) only [go_sem, s1, s2, a1, a2, e3, e4, ea, k]
    ·have hi2 := him cB
     have a2 : (i : Int) < m.length := by omega
     have b3 : sidx 1 u (.int .i64 i) = some i := by rw [sidx_sl (hu.sl []) (by omega) (by simp; omega)]; simp
     have b4 := fun off H => pc_iptr (off := off) (hu.sl H).elems0 (show i < (ints m).length by simp; omega)
     simp only [ints_get, (dr_get h4 cB hi2).1] at b4
     have k := key (((c : Int) + ((A % 10 : Nat) : Int) + ((B % 10 : Nat) : Int)) % 10) (((c : Int) + ((A % 10 : Nat) : Int) + ((B % 10 : Nat) : Int)) / 10) (by omega) (by omega)
     have hp : A % 10 ≤ 9 := by omega
     have hq : B % 10 ≤ 9 := by omega
     generalize A % 10 = p at *
     generalize B % 10 = q at *
     simp (maxSteps := 1000000) (disch := omega) only [go_sem, s1, s2, a1, a2, e3, e4, b3, b4, ea, k]
theorem rplus_run {v u : AV} {a b : Nat} (hv : PureSl 1 v (ints (d10 a))) (hu : PureSl 1 u (ints (d10 b))) (ha : (d10 a).length ≤ 100000) (hb : (d10 b).length ≤ 100000) (h : Heap) (lo : Nat) :
  (run lib).fn 115 [v, u] h lo = some (ownV 1 (ints (d10 (a + b))), h) := by
 have lp := rplus_loop hv hu ha hb h (a + b + 0) a b 0 0 [] (Nat.le_refl _) (by omega) (List.drop_zero) (List.drop_zero) rfl (fun h => absurd rfl h)
 rw [pl_ok _ _ _ _ (Nat.le_refl _), show a + b + 0 = a + b from rfl, List.nil_append] at lp
 have i0 : accV (h.length + 0) (0, .dead) 1 (ints []) = .nilSl := rfl
 have j0 : accB (0, .dead) 1 (ints []) = (0, .dead) := rfl
 rw [i0, j0] at lp
 simp only [Int.natCast_zero] at lp
 have hg := giveRes_acc (h := h) (fr := [accB (0, .dead) 1 (ints (d10 (a + b)))]) (s := 0) (z := 1) (b0 := (0, .dead)) (es := ints (d10 (a + b))) rfl
 rw [run_closed (x := x115) rfl rfl rfl rfl]
 simp (maxSteps := 1000000) (disch := omega) only [go_sem, x115, lp, hg, Option.map_some]
theorem own_pure (l : List Int) : PureSl 1 (weak1 (ownV 1 (ints l))) (ints l) := by
 rw [weak1_ownV]
 unfold lstV
 split
 ·rename_i h; rw [h]; exact .inr ⟨0, .inl rfl, .inr rfl⟩
 ·exact lst_pure l
end Go.VI.Loud
namespace Go.VI.Loud
open Go.VI.Num
theorem rminus_loop {v u : AV} {l m : List Int} (hv : PureSl 1 v (ints l)) (hu : PureSl 1 u (ints m)) (hl : l.length ≤ 100000) (hm : m.length ≤ 100000) (h : Heap) (D : Nat × Blk) : ∀ (f A B c i : Nat) (acc : List Int), A ≤ f → c ≤ 1 → l.drop i = d10 A → m.drop i = d10 B → acc.length = i → i ≤ l.length →
  runC lib ⟨h.length, h.length, 2, none⟩ (.loop b116_0) ([(0, v), (1, u), (5, accV (h.length + 1) (0, .dead) 1 (ints acc)), (6, .int .i64 c), (7, .int .i64 i)], h ++ [D, accB (0, .dead) 1 (ints acc)]) =
   some (.exit 0, ([(5, accV (h.length + 1) (0, .dead) 1 (ints (acc ++ mnF f A B c)))], h ++ [D, accB (0, .dead) 1 (ints (acc ++ mnF f A B c))])) := by
 have s1 := lenv_sl (hv.sl []).len
 have s2 := lenv_sl (hu.sl []).len
 rw [ints_len] at s1 s2
 intro f
 induction f with
 | zero =>
  intro A B c i acc h1 h2 h3 h4 h5 h6
  have a1 : ¬ (i : Int) < l.length := by have := dr_lt h3; omega
  rw [w_loop]
  simp only [mnF, List.append_nil]
  simp (maxSteps := 1000000) (disch := omega) only [go_sem, s1, a1]
 | succ f ih =>
  intro A B c i acc h1 h2 h3 h4 h5 h6
  by_cases cA : A = 0
  ·have a1 : ¬ (i : Int) < l.length := by have := dr_lt h3; omega
   rw [w_loop]
   simp only [mnF, cA, if_true, List.append_nil]
   simp (maxSteps := 1000000) (disch := omega) only [go_sem, s1, a1]
  ·have hi1 := (dr_lt h3).mpr cA
   have him : B ≠ 0 → i < m.length := (dr_lt h4).mpr
   have a1 : (i : Int) < l.length := by omega
   have e3 : sidx 1 v (.int .i64 i) = some i := by rw [sidx_sl (hv.sl []) (by omega) (by simp; omega)]; simp
   have e4 := fun off H => pc_iptr (off := off) (hv.sl H).elems0 (show i < (ints l).length by simp; omega)
   simp only [ints_get, (dr_get h3 cA hi1).1] at e4
   have hp : A % 10 ≤ 9 := by omega
   have hq : B % 10 ≤ 9 := by omega
   have keyL : ∀ (x : Int), A % 10 < c + B % 10 → x = (A % 10 + 10 - c - B % 10 : Nat) → runC lib ⟨h.length, h.length, 2, none⟩ (.loop b116_0) ([(0, v), (1, u), (5, accV (h.length + 1) (0, .dead) 1 (ints acc ++ [.int .i64 x])), (6, .int .i64 1), (7, .int .i64 ((i : Int) + 1))], h ++ [D, accB (0, .dead) 1 (ints acc ++ [.int .i64 x])]) =
     some (.exit 0, ([(5, accV (h.length + 1) (0, .dead) 1 (ints (acc ++ mnF (f + 1) A B c)))], h ++ [D, accB (0, .dead) 1 (ints (acc ++ mnF (f + 1) A B c))])) := fun x hc hx => by
    have k := ih (A / 10) (B / 10) 1 (i + 1) (acc ++ [x]) (by omega) (by omega) (dr_next h3) (dr_next h4) (by simp [h5]) (by omega)
    have e : acc ++ mnF (f + 1) A B c = acc ++ [x] ++ mnF f (A / 10) (B / 10) 1 := by simp only [mnF, cA, hc, if_false, if_true, hx]; simp
    rw [e]
    rw [ints_app acc [x], ints_one, cast1] at k
    exact k
   have keyG : ∀ (x : Int), ¬ A % 10 < c + B % 10 → x = (A % 10 - c - B % 10 : Nat) → runC lib ⟨h.length, h.length, 2, none⟩ (.loop b116_0) ([(0, v), (1, u), (5, accV (h.length + 1) (0, .dead) 1 (ints acc ++ [.int .i64 x])), (6, .int .i64 0), (7, .int .i64 ((i : Int) + 1))], h ++ [D, accB (0, .dead) 1 (ints acc ++ [.int .i64 x])]) =
     some (.exit 0, ([(5, accV (h.length + 1) (0, .dead) 1 (ints (acc ++ mnF (f + 1) A B c)))], h ++ [D, accB (0, .dead) 1 (ints (acc ++ mnF (f + 1) A B c))])) := fun x hc hx => by
    have k := ih (A / 10) (B / 10) 0 (i + 1) (acc ++ [x]) (by omega) (by omega) (dr_next h3) (dr_next h4) (by simp [h5]) (by omega)
    have e : acc ++ mnF (f + 1) A B c = acc ++ [x] ++ mnF f (A / 10) (B / 10) 0 := by simp only [mnF, cA, hc, if_false, hx]; simp
    rw [e]
    rw [ints_app acc [x], ints_one, cast1] at k
    exact k
   have ea := fun x : Int => app_acc (lo := h.length) (ns := 2) (s := 1) (z := 1) (lim := 17592186044416) (h := h) (fr := [D, accB (0, .dead) 1 (ints acc)]) (b0 := (0, .dead)) (es := ints acc) (xs := [.int .i64 x]) (by omega) (Nat.le_refl _) rfl (by simp; omega)
   simp only [List.set_cons_zero, List.set_cons_succ] at ea
   rw [w_loop]
   by_cases cB : B = 0
   ·have a2 : ¬ (i : Int) < m.length := by have := dr_lt h4; omega
    have b0 : B % 10 = 0 := by omega
    rw [b0] at keyL keyG
    generalize A % 10 = p at *
    by_cases cc : p < c + 0
    ·have c2 : (p : Int) - c < 0 := by omega
     have k := keyL ((p : Int) - c + 10) cc (by omega)
     simp (maxSteps := 1000000) (disch := omega) only [go_sem, s1, s2, a1, a2, e3, e4, c2, ea, k]
    ·have c2 : ¬ (p : Int) - c < 0 := by omega
     have k := keyG ((p : Int) - c) cc (by omega)
     simp (maxSteps := 1000000) (disch := omega) only [go_sem, s1, s2, a1, a2, e3, e4, c2, ea, k]
   ·have hi2 := him cB
    have a2 : (i : Int) < m.length := by omega
    have b3 : sidx 1 u (.int .i64 i) = some i := by rw [sidx_sl (hu.sl []) (by omega) (by simp; omega)]; simp
    have b4 := fun off H => pc_iptr (off := off) (hu.sl H).elems0 (show i < (ints m).length by simp; omega)
    simp only [ints_get, (dr_get h4 cB hi2).1] at b4
    generalize A % 10 = p at *
    generalize B % 10 = q at *
    by_cases cc : p < c + q
    ·have c2 : (p : Int) - c - q < 0 := by omega
     have k := keyL ((p : Int) - c - q + 10) cc (by omega)
     simp (maxSteps := 1000000) (disch := omega) only [go_sem, s1, s2, a1, a2, e3, e4, b3, b4, c2, ea, k]
    ·have c2 : ¬ (p : Int) - c - q < 0 := by omega
     have k := keyG ((p : Int) - c - q) cc (by omega)
     simp (maxSteps := 1000000) (disch := omega) only [go_sem, s1, s2, a1, a2, e3, e4, b3, b4, c2, ea, k]
def trX (l : List Int) : AV := if (trimL l).length = l.length then .own 1 (ints (trimL l)) else .lst 1 (ints (trimL l))
theorem trX_weak1 (l : List Int) : weak1 (trX l) = .lst 1 (ints (trimL l)) := by unfold trX; split <;> rfl
theorem trX_weak (l : List Int) : weak (trX l) = .lst 1 (ints (trimL l)) := by unfold trX; split <;> rfl
theorem trim_take (l : List Int) : l.take (trimL l).length = trimL l := by
 unfold trimL
 rw [List.length_take, Nat.min_eq_left (trimK_le _ _)]
theorem trim_le (l : List Int) : (trimL l).length ≤ l.length := by simp [trimL]; omega
theorem give_trim {h fr : Heap} {s ver : Nat} {l : List Int} (hf : fr[s]? = some (ver, .arr 1 (ints l))) :
  give h.length (.ref (h.length + s) ver 1 0 (trimL l).length l.length) (h ++ fr) = some (trX l, h ++ fr.set s (ver, .dead)) := by
 have hg : (h ++ fr)[h.length + s]? = some (ver, .arr 1 (ints l)) := by rw [get_fr]; exact hf
 have ht := trim_le l
 have ha : asList0 (h ++ fr) (.ref (h.length + s) ver 1 0 (trimL l).length l.length) = some (ints (trimL l)) := by
  have e : (ints l).take (trimL l).length = ints (trimL l) := by simp only [ints, ← List.map_take, trim_take]
  simp [asList0, hg, ht, e]
 unfold trX
 by_cases c : (trimL l).length = l.length
 ·rw [if_pos c]
  rw [c] at ha ⊢
  simp only [give, ha]
  simp [set_fr]
 ·rw [if_neg c]
  simp only [give]
  rw [if_neg (by omega)]
  simp [frz, ha, set_fr]
theorem giveRes_trim {h fr : Heap} {s ver : Nat} {l : List Int} (hf : fr[s]? = some (ver, .arr 1 (ints l))) :
  giveRes h.length (.ref (h.length + s) ver 1 0 (trimL l).length l.length) (h ++ fr) = some (trX l) := by
 have := give_trim (h := h) hf
 simp only [giveRes]
 rw [this]; rfl
theorem rtrim_at {h fr : Heap} {s : Nat} {l : List Int} (hl : l.length ≤ 1000000) (hf : fr[s]? = some (1, .arr 1 (ints l))) (lo : Nat) : (run lib).fn 117 [.ref (h.length + s) 1 1 0 l.length l.length] (h ++ fr) lo = some (.ref (h.length + s) 1 1 0 (trimL l).length l.length, h ++ fr) :=
 rtrim_run hl _ (h.length + s) (by rw [get_fr]; exact hf) l.length rfl lo
theorem rminus_run {v u : AV} {a b : Nat} (hv : PureSl 1 v (ints (d10 a))) (hu : PureSl 1 u (ints (d10 b))) (hab : b ≤ a) (ha : (d10 a).length ≤ 100000) (hb : (d10 b).length ≤ 100000) :
  ∃ X : AV, PureSl 1 (weak1 X) (ints (d10 (a - b))) ∧ weak X = weak1 X ∧ ∀ (h : Heap) (lo : Nat), (run lib).fn 116 [v, u] h lo = some (X, h) := by
 obtain ⟨k1, k2⟩ := mn_ok a a b 0 (Nat.le_refl _) (by omega) (by omega)
 have htr := trim10_eq k2
 rw [k1, Int.toNat_natCast, Nat.sub_zero] at htr
 have hml := mnF_len a a b 0
 have lp := fun h D => rminus_loop hv hu ha hb h D a a b 0 0 [] (Nat.le_refl _) (by omega) (List.drop_zero) (List.drop_zero) rfl (Nat.zero_le _)
 simp only [List.nil_append, Int.natCast_zero] at lp
 have i0 : ∀ h : Heap, accV (h.length + 1) (0, .dead) 1 (ints []) = .nilSl := fun _ => rfl
 have j0 : accB (0, .dead) 1 (ints []) = (0, .dead) := rfl
 simp only [i0, j0] at lp
 generalize mnF a a b 0 = M at *
 by_cases hM : M = []
 ·subst hM
  refine ⟨.lst 0 [], ?_, rfl, fun h lo => ?_⟩
  ·rw [← htr]
   exact .inr ⟨0, .inl rfl, .inr rfl⟩
  ·have wk : weak (.own 0 []) = .lst 0 [] := rfl
   have lp1 := lp h (0, .dead)
   rw [i0, j0] at lp1
   rw [run_closed (x := x116) rfl rfl rfl rfl]
   simp (maxSteps := 1000000) (disch := omega) only [go_sem, x116, lp1, rtrim_nil, wk]
 ·have hMne : ints M ≠ [] := by intro e; exact hM (by simpa [ints] using e)
  refine ⟨trX M, by rw [trX_weak1, htr]; exact lst_pure _, by rw [trX_weak, trX_weak1], fun h lo => ?_⟩
  have lp1 := lp h (0, .dead)
  simp only [accV_ne hMne, accB_ne hMne, ints_len] at lp1
  have tr := fun lo => rtrim_at (h := h) (fr := [(0, .dead), (0 + 1, .arr 1 (ints M))]) (s := 1) (l := M) (by omega) rfl lo
  have gv := giveRes_trim (h := h) (fr := [(0, .dead), (0 + 1, .arr 1 (ints M))]) (s := 1) (ver := 1) (l := M) rfl
  rw [run_closed (x := x116) rfl rfl rfl rfl]
  simp (maxSteps := 1000000) (disch := omega) only [go_sem, x116, lp1, tr, gv, Option.map_some]
end Go.VI.Loud
namespace Go.VI.Num
def allD (l : List UInt8) : Bool := l.all fun c => decide (48 ≤ c.toNat) && decide (c.toNat ≤ 57)
theorem allD_iff {l : List UInt8} : allD l = true ↔ Digs l := by
 unfold allD Digs IsD
 simp
theorem trim_allD (l : List UInt8) : (Lib.trimS l ds).isEmpty = allD l := by
 rw [Bool.eq_iff_iff, allD_iff, List.isEmpty_iff, trim_digs]
end Go.VI.Num
namespace Go.VI.Loud
open Go.VI.Num
theorem rval_loop {d : List UInt8} (hl : d.length ≤ 9223372036854775807) (cx : Cx) (H : Heap) : ∀ (k i : Nat), d.length - i ≤ k → i ≤ d.length →
  runC lib cx (.loop b79_0) ([(0, .str d), (3, .int .i64 i)], H) = if allD (d.drop i) = true then some (.exit 0, ([(0, .str d)], H)) else some (.ret, ([(2, .bool false)], H)) := by
 intro k
 induction k with
 | zero =>
  intro i h1 h2
  obtain rfl : i = d.length := by omega
  rw [List.drop_of_length_le (Nat.le_refl _), if_pos (show allD [] = true from rfl), w_loop]
  simp (maxSteps := 1000000) (disch := omega) only [go_sem, Int.lt_irrefl]
 | succ k ih =>
  intro i h1 h2
  rcases Nat.lt_or_eq_of_le h2 with c | rfl
  ·have c1 : (i : Int) < d.length := by omega
   have hx := ixst_at (k := .i64) c
   have ih' := ih (i + 1) (by omega) (by omega)
   rw [cast1] at ih'
   have e : allD (d.drop i) = ((decide (48 ≤ d[i].toNat) && decide (d[i].toNat ≤ 57)) && allD (d.drop (i + 1))) := by
    rw [List.drop_eq_getElem_cons c]; rfl
   rw [e]
   generalize d[i].toNat = x at *
   by_cases g1 : 48 ≤ x
   ·have n1 : ¬ (x : Int) < 48 := by omega
    rw [decide_eq_true g1]
    by_cases g2 : x ≤ 57
    ·have n2 : ¬ (57 : Int) < x := by omega
     rw [decide_eq_true g2, w_loop]
     simp (maxSteps := 1000000) (disch := omega) only [go_sem, c1, hx, n1, n2, ih']
    ·have n2 : (57 : Int) < x := by omega
     rw [decide_eq_false g2, w_loop]
     simp (maxSteps := 1000000) (disch := omega) only [go_sem, c1, hx, n1, n2]
   ·have n1 : (x : Int) < 48 := by omega
    rw [decide_eq_false g1, w_loop]
    simp (maxSteps := 1000000) (disch := omega) only [go_sem, c1, hx, n1]
  ·rw [List.drop_of_length_le (Nat.le_refl _), if_pos (show allD [] = true from rfl), w_loop]
   simp (maxSteps := 1000000) (disch := omega) only [go_sem, Int.lt_irrefl]
theorem rvalid_run {s : List UInt8} (hs : s.length ≤ 9223372036854775807) (h : Heap) (lo : Nat) : (run lib).fn 79 [.str s] h lo = some (.bool (validS s), h) := by
 have lp := fun (d : List UInt8) (hd : d.length ≤ 9223372036854775807) => rval_loop hd ⟨h.length, h.length, 0, none⟩ h d.length 0 (by omega) (Nat.zero_le _)
 simp only [List.drop_zero, Int.natCast_zero] at lp
 unfold validS
 rw [trim_allD]
 cases s with
 | nil =>
  have e : body [] = [] := rfl
  have lp1 := lp [] (by simp)
  have e2 : allD [] = true := rfl
  rw [e2, if_pos rfl] at lp1
  rw [e, run_closed (x := x79) rfl rfl rfl rfl]
  simp (maxSteps := 1000000) (disch := omega) only [go_sem, x79, Int.lt_irrefl, lp1, List.isEmpty_nil]
 | cons c r =>
  have hx := fun H => ixst0 (k := .i64) c r H
  have p1 : (0 : Int) < (r.length : Int) + 1 := by omega
  simp only [List.length_cons] at hs
  by_cases hc : c = 45
  ·subst hc
   rw [body_neg]
   have e45 : ((45 : UInt8).toNat : Int) = 45 := rfl
   have sl : slicev none (.str (45 :: r)) (some (.int .i64 1)) none = some (.str r) := by
    have := sstr_from (k := .i64) (l := 45 :: r) (i := 1) (by simp)
    exact this
   have hne : ((45 :: r) == [48]) = false := rfl
   rw [hne, Bool.false_or]
   have lp1 := lp r (by omega)
   rw [run_closed (x := x79) rfl rfl rfl rfl]
   by_cases h0 : r = [48]
   ·subst h0
    simp (maxSteps := 1000000) (disch := omega) only [go_sem, x79, cast1, p1, hx, e45, sl]
    rfl
   ·cases hA : allD r with
    | false =>
     rw [hA, if_neg (by simp)] at lp1
     simp (maxSteps := 1000000) (disch := omega) only [go_sem, x79, cast1, p1, hx, e45, sl, h0, lp1]
    | true =>
     rw [hA, if_pos rfl] at lp1
     cases r with
     | nil =>
      simp (maxSteps := 1000000) (disch := omega) only [go_sem, x79, cast1, p1, hx, e45, sl, h0, lp1, Int.lt_irrefl, List.isEmpty_nil]
     | cons a b =>
      have hx2 := fun H => ixst0 (k := .i64) a b H
      have p2 : (0 : Int) < (b.length : Int) + 1 := by omega
      have p3 : (0 : Int) < (b.length : Int) + 1 + 1 := by omega
      have e3 : ((a :: b).head? == some 48) = decide (a = 48) := by rw [beq_dec]; simp
      have e4 : decide (((a.toNat : Nat) : Int) = 48) = decide (a = 48) := by
       rw [decide_eq_decide, ← UInt8.toNat_inj]
       have : (48 : UInt8).toNat = 48 := rfl
       omega
      have ie : (a :: b).isEmpty = false := rfl
      have dl : decide ((b.length : Int) + 1 ≤ 200) = decide (b.length + 1 ≤ 200) := by rw [decide_eq_decide]; omega
      rw [e3, ie]
      by_cases g : b.length + 1 ≤ 200
      ·have g1 : (b.length : Int) + 1 ≤ 200 := by omega
       simp (maxSteps := 1000000) (disch := omega) only [go_sem, x79, cast1, p1, hx, e45, sl, h0, lp1, p2, p3, hx2, g1, g]
       simp [← e4]
      ·have g1 : ¬ (b.length : Int) + 1 ≤ 200 := by omega
       simp (maxSteps := 1000000) (disch := omega) only [go_sem, x79, cast1, p1, hx, e45, sl, h0, lp1, p2, p3, hx2, g1, g]
  ·have hb : body (c :: r) = c :: r := body_pos (by simpa using hc)
   have e45 : ¬ ((c.toNat : Nat) : Int) = 45 := by
    intro e
    apply hc
    rw [← UInt8.toNat_inj]
    have : (45 : UInt8).toNat = 45 := rfl
    omega
   have lp1 := lp (c :: r) (by simpa using hs)
   have hsx : ((c :: r) == [48]) = decide (c :: r = [48]) := beq_dec _ _
   rw [hb, hsx, run_closed (x := x79) rfl rfl rfl rfl]
   cases hA : allD (c :: r) with
   | false =>
    rw [hA, if_neg (by simp)] at lp1
    simp (maxSteps := 1000000) (disch := omega) only [go_sem, x79, cast1, p1, hx, e45, lp1]
   | true =>
    rw [hA, if_pos rfl] at lp1
    have e3 : ((c :: r).head? == some 48) = decide (c = 48) := by rw [beq_dec]; simp
    have e4 : decide (((c.toNat : Nat) : Int) = 48) = decide (c = 48) := by
     rw [decide_eq_decide, ← UInt8.toNat_inj]
     have : (48 : UInt8).toNat = 48 := rfl
     omega
    have ie : (c :: r).isEmpty = false := rfl
    rw [e3, ie]
    by_cases g : r.length + 1 ≤ 200
    ·have g1 : (r.length : Int) + 1 ≤ 200 := by omega
     by_cases h0 : c :: r = [48]
     ·obtain ⟨rfl, rfl⟩ := List.cons.inj h0
      have lz : ¬ (200 : Int) < 0 := by omega
      simp (maxSteps := 1000000) (disch := omega) only [go_sem, x79, cast1, p1, hx, e45, lp1, Int.zero_add]
     ·simp (maxSteps := 1000000) (disch := omega) only [go_sem, x79, cast1, p1, hx, e45, lp1, g1, g, h0]
      simp [← e4]
    ·have g1 : ¬ (r.length : Int) + 1 ≤ 200 := by omega
     simp (maxSteps := 1000000) (disch := omega) only [go_sem, x79, cast1, p1, hx, e45, lp1, g1, g]
end Go.VI.Loud
namespace Go.VI.Num
theorem chrs_len (l : List Int) : (chrs l).length = l.length := by simp [chrs]
theorem chrs_get {l : List Int} {i : Nat} (hi : i < (chrs l).length) (hj : l.length - 1 - i < l.length) : (chrs l)[i] = UInt8.ofNat (48 + l[l.length - 1 - i].toNat) := by
 simp only [chrs, List.getElem_map, List.getElem_reverse]
end Go.VI.Num
namespace Go.VI.Loud
open Go.VI.Num
theorem rdig_loop {l : List Int} (hd : Dg l) (hl : l.length ≤ 1000) (b : Bool) (hne : ¬ chrs l = [48]) (h : Heap) : ∀ k : Nat, k ≤ l.length →
  runC lib ⟨h.length, h.length, 1, none⟩ (.loop b85_0) ([(0, .str (chrs l)), (4, .bool b), (5, accV (h.length + 0) (0, .dead) 1 (ints (l.take (l.length - k)))), (6, .int .i64 ((k : Int) - 1))], h ++ [accB (0, .dead) 1 (ints (l.take (l.length - k)))]) =
   some (.exit 0, ([(4, .bool b), (5, accV (h.length + 0) (0, .dead) 1 (ints l))], h ++ [accB (0, .dead) 1 (ints l)])) := by
 intro k
 induction k with
 | zero =>
  intro hk
  have c1 : ¬ (0 : Int) ≤ -1 := by omega
  rw [Nat.sub_zero, List.take_length, w_loop]
  simp (maxSteps := 1000000) (disch := omega) only [go_sem, c1, Int.zero_sub, Int.reduceNeg]
 | succ k ih =>
  intro hk
  have c1 : (0 : Int) ≤ (k : Int) := by omega
  have e0 : (k : Int) + 1 - 1 = k := by omega
  have hkc : k < (chrs l).length := by rw [chrs_len]; omega
  have hj : l.length - 1 - k < l.length := by omega
  have hx := ixst_at (k := .i64) hkc
  have ih' := ih (by omega)
  have hdj := hd l[l.length - 1 - k] (List.getElem_mem hj)
  have e1 : l.length - k = (l.length - (k + 1)) + 1 := by omega
  have e2 : l.take (l.length - k) = l.take (l.length - (k + 1)) ++ [l[l.length - 1 - k]] := by
   rw [e1, List.take_succ_eq_append_getElem (by omega)]
   congr 2
   have : l.length - (k + 1) = l.length - 1 - k := by omega
   simp only [this]
  rw [e2, ints_app, ints_one] at ih'
  have hv : ((chrs l)[k].toNat : Int) = 48 + l[l.length - 1 - k] := by
   rw [chrs_get hkc hj, UInt8.toNat_ofNat']; omega
  simp only [hv] at hx
  have hal : (ints (l.take (l.length - (k + 1)))).length ≤ 1000 := by simp; omega
  generalize ints (l.take (l.length - (k + 1))) = W at *
  generalize l[l.length - 1 - k] = x at *
  have ea := fun y : AV => app_acc (lo := h.length) (ns := 1) (s := 0) (z := 1) (lim := 17592186044416) (h := h) (fr := [accB (0, .dead) 1 W]) (b0 := (0, .dead)) (es := W) (xs := [y]) (by omega) (Nat.le_refl _) rfl (by simp; omega)
  simp only [List.set_cons_zero] at ea
  have e3 : 48 + x - 48 = x := by omega
  generalize chrs l = S at *
  rw [w_loop]
  simp (maxSteps := 1000000) (disch := omega) only [go_sem, cast1, e0, c1, hne, hx, e3, ea, ih']
theorem rdig_run {z : Int} (hz : Fit z) (h : Heap) (lo : Nat) : (run lib).fn 85 [.str (itxt z)] h lo = some (.tuple [.bool (decide (z < 0)), ownV 1 (ints (d10 z.natAbs))], h) := by
 have hl := (dec_len (n := z.natAbs) (k := 200) (by omega)).mpr hz
 -- what the loop does behind the sign
 have lp : runC lib ⟨h.length, h.length, 1, none⟩ (.loop b85_0) ([(0, .str (dec z.natAbs)), (4, .bool (decide (z < 0))), (5, .nilSl), (6, .int .i64 (((dec z.natAbs).length : Int) - 1))], h ++ [(0, .dead)]) =
   some (.exit 0, ([(4, .bool (decide (z < 0))), (5, accV (h.length + 0) (0, .dead) 1 (ints (d10 z.natAbs)))], h ++ [accB (0, .dead) 1 (ints (d10 z.natAbs))])) := by
  by_cases h0 : z.natAbs = 0
  ·rw [h0]
   have e1 : dec 0 = [48] := rfl
   have i0 : accV (h.length + 0) (0, .dead) 1 (ints (d10 0)) = .nilSl := rfl
   have j0 : accB (0, .dead) 1 (ints (d10 0)) = (0, .dead) := rfl
   have e10 : (([48] : List UInt8).length : Int) - 1 = 0 := rfl
   rw [e1, i0, j0, e10, w_loop]
   simp (maxSteps := 1000000) (disch := omega) only [go_sem]
  ·have hne : ¬ chrs (d10 z.natAbs) = [48] := by
    rw [chrs_d10 h0]
    intro e
    have := dv_dec z.natAbs
    rw [e] at this
    exact h0 (by rw [← this]; rfl)
   have lp := rdig_loop (dg_d10 z.natAbs) (by rw [d10_len h0]; omega) (decide (z < 0)) hne h (d10 z.natAbs).length (Nat.le_refl _)
   rw [Nat.sub_self, List.take_zero, chrs_d10 h0, d10_len h0] at lp
   exact lp
 have hg : give h.length (accV (h.length + 0) (0, .dead) 1 (ints (d10 z.natAbs))) (h ++ [accB (0, .dead) 1 (ints (d10 z.natAbs))]) = some (ownV 1 (ints (d10 z.natAbs)), h ++ [accD (0, .dead) (ints (d10 z.natAbs))]) :=
  give_acc (h := h) (fr := [accB (0, .dead) 1 (ints (d10 z.natAbs))]) (s := 0) (z := 1) (b0 := (0, .dead)) rfl
 obtain ⟨c, r, hd⟩ := List.exists_cons_of_ne_nil (dec_ne z.natAbs)
 rw [run_closed (x := x85) rfl rfl rfl rfl]
 by_cases c0 : z < 0
 ·have e : itxt z = 45 :: dec z.natAbs := if_pos c0
  rw [decide_eq_true c0] at lp ⊢
  have hx := fun H => ixst0 (k := .i64) 45 (dec z.natAbs) H
  have e45 : ((45 : UInt8).toNat : Int) = 45 := rfl
  have sl : slicev none (.str (45 :: dec z.natAbs)) (some (.int .i64 1)) none = some (.str (dec z.natAbs)) := sstr_from (k := .i64) (l := 45 :: dec z.natAbs) (i := 1) (by simp)
  rw [e]
  simp (maxSteps := 1000000) (disch := omega) only [go_sem, x85, hx, e45, sl, lp, hg, giveRes, giveL]
 ·have e : itxt z = dec z.natAbs := if_neg c0
  rw [decide_eq_false c0] at lp ⊢
  have hh := dec_head z.natAbs
  rw [e]
  rw [hd] at lp hh ⊢
  have hx := fun H => ixst0 (k := .i64) c r H
  have e45 : ¬ ((c.toNat : Nat) : Int) = 45 := by
   intro e
   apply hh
   have : c = 45 := by
    rw [← UInt8.toNat_inj]
    have : (45 : UInt8).toNat = 45 := rfl
    omega
   rw [this]; rfl
  simp only [List.length_cons, cast1] at lp
  have hrl : r.length ≤ 200 := by rw [hd] at hl; simp at hl; omega
  simp (maxSteps := 1000000) (disch := omega) only [go_sem, x85, cast1, hx, e45, lp, hg, giveRes, giveL]
theorem d10_fit {n : Nat} : (d10 n).length ≤ 200 ↔ n < 10 ^ 200 := by
 by_cases h0 : n = 0
 ·subst h0
  constructor
  ·intro _; exact Nat.pos_of_ne_zero (by simp)
  ·intro _; rw [d10_zero]; simp
 ·rw [d10_len h0]; exact dec_len (by omega)
theorem d10_len_pow {n k : Nat} (h : n < 10 ^ k) : (d10 n).length ≤ k := by
 by_cases h0 : n = 0
 ·subst h0; rw [d10_zero]; simp
 ·rw [d10_len h0]
  refine (dec_len ?_).mpr h
  rcases Nat.eq_zero_or_pos k with hk | hk
  ·subst hk; simp at h; omega
  ·exact hk
theorem rchk_run {v : AV} {n : Nat} (neg : Bool) (hv : PureSl 1 v (ints (d10 n))) (hl : (d10 n).length ≤ 100000) (h : Heap) (lo : Nat) : (run lib).fn 86 [.bool neg, v] h lo = some (outT (sgn neg n), h) := by
 have tx := fun H lo => rtext_run (h := H) neg (hv.sl H) hl lo
 unfold outT
 rw [sgn_abs, run_closed (x := x86) rfl rfl rfl rfl]
 by_cases c : n < 10 ^ 200
 ·have c1 := d10_fit.mpr c
  rw [if_pos c]
  rw [decide_eq_true c1] at tx
  simp (maxSteps := 1000000) (disch := omega) only [go_sem, x86, tx]
 ·have c1 : ¬ (d10 n).length ≤ 200 := fun h => c (d10_fit.mp h)
  rw [if_neg c]
  rw [decide_eq_false c1] at tx
  simp (maxSteps := 1000000) (disch := omega) only [go_sem, x86, tx]
theorem rsum_run {v u : AV} {n m : Nat} (a b : Bool) (hv : PureSl 1 v (ints (d10 n))) (hu : PureSl 1 u (ints (d10 m))) (hn : (d10 n).length ≤ 10000) (hm : (d10 m).length ≤ 10000) (h : Heap) (lo : Nat) :
  (run lib).fn 113 [.bool a, v, .bool b, u] h lo = some (outT (sgn a n + sgn b m), h) := by
 have pv := plS_val a n b m
 have pl := fun H lo => rplus_run hv hu (by omega) (by omega) H lo
 have ord := fun H lo => rorder_run hv hu (by omega) (by omega) H lo
 have ge := cmpN_ge (n : Int) (m : Int)
 generalize cmpN (n : Int) (m : Int) = q at *
 have eb : (a == b) = decide (a = b) := beq_dec a b
 rw [← pv]
 unfold plS
 have hnm : ∀ k, k ≤ n + m → (d10 k).length ≤ 100000 := fun k hk => by
  obtain ⟨L, hL⟩ : ∃ L, L = max (d10 n).length (d10 m).length := ⟨_, rfl⟩
  have lt : ∀ j : Nat, j < 10 ^ (d10 j).length := fun j => by
   have := dq_lt (dg_d10 j)
   rw [dq_d10] at this
   have e : ((10 ^ (d10 j).length : Nat) : Int) = (10 : Int) ^ (d10 j).length := by rw [Int.natCast_pow]; rfl
   rw [← e] at this
   exact Int.ofNat_lt.mp this
  have h1 : n < 10 ^ L := Nat.lt_of_lt_of_le (lt n) (Nat.pow_le_pow_right (by omega) (by omega))
  have h2 : m < 10 ^ L := Nat.lt_of_lt_of_le (lt m) (Nat.pow_le_pow_right (by omega) (by omega))
  have h3 : k < 10 ^ (L + 1) := by
   rw [Nat.pow_succ]
   generalize 10 ^ L = X at *
   omega
  have := d10_len_pow h3
  omega
 rw [run_closed (x := x113) rfl rfl rfl rfl]
 by_cases c : a = b
 ·rw [decide_eq_true c] at eb
  rw [if_pos c]
  have hp := own_pure (d10 (n + m))
  rw [weak1_ownV] at hp
  have ck := fun H lo => rchk_run a hp (hnm _ (Nat.le_refl _)) H lo
  rw [outT_eq] at ck ⊢
  simp (maxSteps := 1000000) (disch := omega) only [go_sem, x113, eb, pl, ck]
 ·rw [decide_eq_false c] at eb
  rw [if_neg c]
  by_cases c2 : m ≤ n
  ·obtain ⟨X, x1, x2, x3⟩ := rminus_run hv hu c2 (by omega) (by omega)
   have c3 : (0 : Int) ≤ q := by omega
   have ck := fun H lo => rchk_run a x1 (hnm _ (by omega)) H lo
   rw [if_pos c2]
   rw [outT_eq] at ck ⊢
   simp (maxSteps := 1000000) (disch := omega) only [go_sem, x113, eb, ord, c3, x3, x2, ck]
  ·obtain ⟨X, x1, x2, x3⟩ := rminus_run hu hv (by omega) (by omega) (by omega)
   have c3 : ¬ (0 : Int) ≤ q := by omega
   have ck := fun H lo => rchk_run b x1 (hnm _ (by omega)) H lo
   rw [if_neg c2]
   rw [outT_eq] at ck ⊢
   simp (maxSteps := 1000000) (disch := omega) only [go_sem, x113, eb, ord, c3, x3, x2, ck]
theorem fit_d10 {z : Int} (h : Fit z) : (d10 z.natAbs).length ≤ 200 := d10_len_pow h
theorem rdig_pure (z : Int) : PureSl 1 (lstV 1 (ints (d10 z.natAbs))) (ints (d10 z.natAbs)) := by
 have := own_pure (d10 z.natAbs)
 rwa [weak1_ownV] at this
theorem fit_str {z : Int} (h : Fit z) : (itxt z).length ≤ 9223372036854775807 := by have := itxt_len h; omega
theorem rsub_run {x y : Int} (hx : Fit x) (hy : Fit y) (h : Heap) (lo : Nat) : (run lib).fn 81 [.str (itxt x), .str (itxt y)] h lo = some (outT (x - y), h) := by
 have v1 := fun H lo => rvalid_run (fit_str hx) H lo
 have v2 := fun H lo => rvalid_run (fit_str hy) H lo
 rw [validS_itxt hx] at v1
 rw [validS_itxt hy] at v2
 have d1 := fun H lo => rdig_run hx H lo
 have d2 := fun H lo => rdig_run hy H lo
 have fx := fit_d10 hx
 have fy := fit_d10 hy
 have sm := fun H lo => rsum_run (decide (x < 0)) (!decide (y < 0)) (rdig_pure x) (rdig_pure y) (by omega) (by omega) H lo
 have hneg : sgn (!decide (y < 0)) y.natAbs = -y := by
  unfold sgn
  by_cases c : y < 0
  ·rw [decide_eq_true c, Bool.not_true, if_neg (by simp)]; omega
  ·rw [decide_eq_false c, Bool.not_false, if_pos rfl]; omega
 rw [sgn_self, hneg, ← Int.sub_eq_add_neg, outT_eq] at sm
 rw [outT_eq, run_closed (x := x81) rfl rfl rfl rfl]
 simp (maxSteps := 1000000) (disch := omega) only [go_sem, x81, v1, v2, d1, d2, sm]
theorem rcompare_run {x y : Int} (hx : Fit x) (hy : Fit y) (h : Heap) (lo : Nat) : (run lib).fn 80 [.str (itxt x), .str (itxt y)] h lo = some (.int .i64 (cmpN x y), h) := by
 have v1 := fun H lo => rvalid_run (fit_str hx) H lo
 have v2 := fun H lo => rvalid_run (fit_str hy) H lo
 rw [validS_itxt hx] at v1
 rw [validS_itxt hy] at v2
 have d1 := fun H lo => rdig_run hx H lo
 have d2 := fun H lo => rdig_run hy H lo
 have fx := fit_d10 hx
 have fy := fit_d10 hy
 have cm := fun H lo => rorder_run (rdig_pure x) (rdig_pure y) (by omega) (by omega) H lo
 have cn := fun H lo => rorder_run (rdig_pure y) (rdig_pure x) (by omega) (by omega) H lo
 have tf : (true == false) = false := rfl
 have ft : (false == true) = false := rfl
 rw [run_closed (x := x80) rfl rfl rfl rfl]
 by_cases c1 : x < 0
 ·rw [decide_eq_true c1] at d1
  by_cases c2 : y < 0
  ·rw [decide_eq_true c2] at d2
   have e : cmpN (y.natAbs : Int) (x.natAbs : Int) = cmpN x y := by
    unfold cmpN
    have e1 : (y.natAbs : Int) = -y := by omega
    have e2 : (x.natAbs : Int) = -x := by omega
    rw [e1, e2]
    simp only [show (-y < -x) = (x < y) by simp, show (-y = -x) = (x = y) by rw [eq_iff_iff]; omega]
   rw [e] at cn
   simp (maxSteps := 1000000) (disch := omega) only [go_sem, x80, v1, v2, d1, d2, cn, beq_self_eq_true]
  ·rw [decide_eq_false c2] at d2
   have e : cmpN x y = -1 := if_pos (by omega)
   rw [e]
   simp (maxSteps := 1000000) (disch := omega) only [go_sem, x80, v1, v2, d1, d2, tf]
 ·rw [decide_eq_false c1] at d1
  by_cases c2 : y < 0
  ·rw [decide_eq_true c2] at d2
   have e : cmpN x y = 1 := by unfold cmpN; rw [if_neg (by omega), if_neg (by omega)]
   rw [e]
   simp (maxSteps := 1000000) (disch := omega) only [go_sem, x80, v1, v2, d1, d2, ft]
  ·rw [decide_eq_false c2] at d2
   have e1 : (y.natAbs : Int) = y := by omega
   have e2 : (x.natAbs : Int) = x := by omega
   rw [e1, e2] at cm
   simp (maxSteps := 1000000) (disch := omega) only [go_sem, x80, v1, v2, d1, d2, cm, beq_self_eq_true]
end Go.VI.Loud
namespace Go.VI.Loud
open Go.VI.Num
theorem rrow_loop {v u : AV} {l b : List Int} (hv : PureSl 1 v (ints l)) (hu : PureSl 1 u (ints b)) (hl : l.length ≤ 100000) (hb : b.length ≤ 100000) (db : Dg b) (h : Heap) (D : Nat × Blk) (i : Nat) (hi : i < l.length) (dl : Dg l) (L : Nat) (hL : L ≤ 200000) :
  ∀ (o pre : List Int) (c : Int) (k : Nat), pre.length = i + k → (pre ++ o).length = L → Dg o → 0 ≤ c → c ≤ 9 → k ≤ b.length + 1 → (k ≤ b.length → (b.drop k).length + 1 ≤ o.length ∧ ∀ x ∈ o.drop (b.drop k).length, x = 0) → (b.length < k → c = 0) →
  runC lib ⟨h.length, h.length, 2, none⟩ (.loop b87_1) ([(0, v), (1, u), (5, .ref (h.length + 1) 1 1 0 L L), (6, .int .i64 i), (7, .int .i64 c), (8, .int .i64 k)], h ++ [D, (1, .arr 1 (ints (pre ++ o)))]) =
   some (.exit 2, ([(0, v), (1, u), (5, .ref (h.length + 1) 1 1 0 L L), (6, .int .i64 i)], h ++ [D, (1, .arr 1 (ints (pre ++ rowF l[i] o (b.drop k) c)))])) := by
 have s2 := lenv_sl (hu.sl []).len
 rw [ints_len] at s2
 have dli := dl l[i] (List.getElem_mem hi)
 have i3 : sidx 1 v (.int .i64 i) = some i := by rw [sidx_sl (hv.sl []) (by omega) (by simp; omega)]; simp
 have i4 := fun off H => pc_iptr (off := off) (hv.sl H).elems0 (show i < (ints l).length by simp; omega)
 simp only [ints_get] at i4
 generalize l[i] = d at *
 intro o
 induction o with
 | nil =>
  intro pre c k h1 h2 h3 h4 h5 h6 h7 h8
  have hk : b.length < k := by
   rcases Nat.lt_or_ge b.length k with g | g
   ·exact g
   ·have := (h7 g).1; simp at this
  have c0 := h8 hk
  have c1 : ¬ (k : Int) < b.length := by omega
  subst c0
  have e : rowF d [] (b.drop k) 0 = [] := by simp [rowF]
  rw [e, w_loop]
  simp (maxSteps := 1000000) (disch := omega) only [go_sem, s2, c1, Int.lt_irrefl]
 | cons o0 o ih =>
  intro pre c k h1 h2 h3 h4 h5 h6 h7 h8
  obtain ⟨g1, g2⟩ := Dg.cons.mp h3
  have hin : i + k < (pre ++ o0 :: o).length := by simp; omega
  have hik : (i : Int) + (k : Int) = ((i + k : Nat) : Int) := by omega
  have hil : i + k < L := by omega
  have q1 : sidx 1 (.ref (h.length + 1) 1 1 0 L L) (.int .i64 ((i + k : Nat) : Int)) = some (i + k) := by simp [sidx, zok, slen, idx]; omega
  have q2 : pcells (h ++ [D, (1, .arr 1 (ints (pre ++ o0 :: o)))]) (.iptr (.ref (h.length + 1) 1 1 0 L L) (i + k) 0) = some [.int .i64 o0] := by
   have so := Sl.refAll (h := h) (fr := [D, (1, .arr 1 (ints (pre ++ o0 :: o)))]) (s := 1) (ver := 1) (z := 1) (es := ints (pre ++ o0 :: o)) rfl
   rw [ints_len, h2] at so
   have := pc_iptr (off := 0) so.elems0 (show i + k < (ints (pre ++ o0 :: o)).length by simpa using hin)
   rw [this, ints_get, get_app h1]; rfl
  have st := fun x : Int => ps_iptr_fr (lo := h.length) (ns := 2) (h := h) (fr := [D, (1, .arr 1 (ints (pre ++ o0 :: o)))]) (s := 1) (ver := 1) (o := 0) (len := L) (fill := L) (i := i + k) (k := .i64) (l := pre ++ o0 :: o) (n := x) rfl h2 (by omega) hil (Nat.le_refl _)
  simp only [Nat.zero_add, set_app h1, List.set_cons_succ, List.set_cons_zero] at st
  have hints : ∀ l : List Int, l.map (AV.int .i64) = ints l := fun _ => rfl
  simp only [hints] at st
  by_cases hk : k < b.length
  ·have c1 : (k : Int) < b.length := by omega
   have hbd := db b[k] (List.getElem_mem hk)
   have k3 : sidx 1 u (.int .i64 k) = some k := by rw [sidx_sl (hu.sl []) (by omega) (by simp; omega)]; simp
   have k4 := fun off H => pc_iptr (off := off) (hu.sl H).elems0 (show k < (ints b).length by simp; omega)
   simp only [ints_get] at k4
   have ed : b.drop k = b[k] :: b.drop (k + 1) := List.drop_eq_getElem_cons hk
   obtain ⟨w1, w2⟩ := h7 (by omega)
   rw [ed] at w1 w2 ⊢
   have p0 : 0 ≤ d * b[k] := Int.mul_nonneg dli.1 hbd.1
   have p1 : d * b[k] ≤ 9 * 9 := Int.mul_le_mul dli.2 hbd.2 hbd.1 (by omega)
   have k1 := ih (pre ++ [(o0 + c + d * b[k]) % 10]) ((o0 + c + d * b[k]) / 10) (k + 1) (by simp; omega) (by simp at h2 ⊢; omega) g2 (by omega) (by omega) (by omega) (fun _ => ⟨by simp at w1 ⊢; omega, fun x hx => w2 x (by rw [List.length_cons, List.drop_succ_cons]; exact hx)⟩) (fun hh => by omega)
   simp only [rowF]
   rw [List.append_assoc, List.append_assoc, List.singleton_append, List.singleton_append, cast1] at k1
   generalize b[k] = y at *
   have wm : IntKind.i64.wrap (d * y) = d * y := wrap_id (by omega) (by omega)
   rw [w_loop]
   simp (maxSteps := 1000000) (disch := omega) only [go_sem, s2, c1, hik, q1, q2, i3, i4, k3, k4, wm, st, k1]
  ·have c1 : ¬ (k : Int) < b.length := by omega
   have eb : b.drop k = [] := List.drop_of_length_le (by omega)
   rw [eb] at h7 ⊢
   by_cases hc : 0 < c
   ·have hkb : k = b.length := by
     rcases Nat.lt_or_ge b.length k with g | g
     ·have := h8 g; omega
     ·omega
    obtain ⟨w1, w2⟩ := h7 (by omega)
    have z0 : o0 = 0 := w2 o0 (by simp)
    subst z0
    have k1 := ih (pre ++ [(0 + c) % 10]) ((0 + c) / 10) (k + 1) (by simp; omega) (by simp at h2 ⊢; omega) g2 (by omega) (by omega) (by omega) (fun hh => by omega) (fun _ => by omega)
    have eb2 : b.drop (k + 1) = [] := List.drop_of_length_le (by omega)
    rw [eb2, List.append_assoc, List.append_assoc, List.singleton_append, List.singleton_append, cast1] at k1
    simp only [rowF, hc, if_true]
    simp only [Int.zero_add] at *
    rw [w_loop]
    simp (maxSteps := 1000000) (disch := omega) only [go_sem, s2, c1, hc, hik, q1, q2, Int.zero_add, st, k1]
   ·have c0 : c = 0 := by omega
    subst c0
    simp only [rowF, Int.lt_irrefl, if_false]
    rw [w_loop]
    simp (maxSteps := 1000000) (disch := omega) only [go_sem, s2, c1, Int.lt_irrefl]
theorem rtimes_loop {v u : AV} {l b : List Int} (hv : PureSl 1 v (ints l)) (hu : PureSl 1 u (ints b)) (hl : l.length ≤ 100000) (hb : b.length ≤ 100000) (dl : Dg l) (db : Dg b) (h : Heap) (D : Nat × Blk) (L : Nat) (hL : L = l.length + b.length) :
  ∀ (m i : Nat) (out : List Int), l.length - i ≤ m → i ≤ l.length → out.length = L → Dg out → dq out = dq (l.take i) * dq b → (∀ x ∈ out.drop (i + b.length), x = 0) →
  ∃ out' : List Int, out'.length = L ∧ Dg out' ∧ dq out' = dq l * dq b ∧ runC lib ⟨h.length, h.length, 2, none⟩ (.loop b87_0) ([(0, v), (1, u), (5, .ref (h.length + 1) 1 1 0 L L), (6, .int .i64 i)], h ++ [D, (1, .arr 1 (ints out))]) =
   some (.exit 0, ([(5, .ref (h.length + 1) 1 1 0 L L)], h ++ [D, (1, .arr 1 (ints out'))])) := by
 have s1 := lenv_sl (hv.sl []).len
 rw [ints_len] at s1
 intro m
 induction m with
 | zero =>
  intro i out h1 h2 h3 h4 h5 h6
  obtain rfl : i = l.length := by omega
  rw [List.take_length] at h5
  refine ⟨out, h3, h4, h5, ?_⟩
  rw [w_loop]
  simp (maxSteps := 1000000) (disch := omega) only [go_sem, s1, Int.lt_irrefl]
 | succ m ih =>
  intro i out h1 h2 h3 h4 h5 h6
  rcases Nat.lt_or_eq_of_le h2 with c | rfl
  ·have c1 : (i : Int) < l.length := by omega
   have dli := dl l[i] (List.getElem_mem c)
   have hsplit := (List.take_append_drop i out).symm
   have hpl : (out.take i).length = i := by simp; omega
   have hol : (out.drop i).length = L - i := by simp; omega
   have hdo : Dg (out.drop i) := fun x hx => h4 x (List.mem_of_mem_drop hx)
   have hdt : Dg (out.take i) := fun x hx => h4 x (List.mem_of_mem_take hx)
   have hz : ∀ x ∈ (out.drop i).drop b.length, x = 0 := fun x hx => h6 x (by rwa [List.drop_drop] at hx)
   have rl := rrow_loop hv hu hl hb db h D i c dl L (by omega) (out.drop i) (out.take i) 0 0 (by omega) (by rw [← hsplit]; exact h3) hdo (by omega) (by omega) (by omega) (fun _ => ⟨by rw [List.drop_zero]; omega, by rw [List.drop_zero]; exact hz⟩) (fun hh => by omega)
   rw [← hsplit, List.drop_zero] at rl
   obtain ⟨r1, r2, r3⟩ := row_ok dli b (out.drop i) 0 hdo db (by omega) (by omega) (by omega) hz
   have rlen := row_len l[i] (out.drop i) b 0
   obtain ⟨out', o1, o2, o3, o4⟩ := ih (i + 1) (out.take i ++ rowF l[i] (out.drop i) b 0) (by omega) (by omega) (by rw [List.length_append, rlen]; omega)
    (fun x hx => by rcases List.mem_append.mp hx with hx | hx; exact hdt x hx; exact r1 x hx) (by
     have e0 : dq out = dq (out.take i) + 10 ^ i * dq (out.drop i) := by
      conv => lhs; rw [hsplit]
      rw [dq_app, hpl]
     rw [dq_app, hpl, r2, List.take_succ_eq_append_getElem c, dq_app]
     have e1 : (l.take i).length = i := by simp; omega
     rw [e1]
     simp only [dq, Int.mul_zero, Int.add_zero]
     rw [Int.mul_add, ← Int.add_assoc, ← e0, h5, Int.add_mul, Int.mul_assoc]) (by
     intro x hx
     have e2 : i + 1 + b.length = (out.take i).length + (b.length + 1) := by omega
     rw [e2, List.drop_length_add_append] at hx
     exact r3 x hx)
   refine ⟨out', o1, o2, o3, ?_⟩
   rw [cast1] at o4
   simp only [Int.natCast_zero] at rl
   rw [w_loop]
   simp (maxSteps := 1000000) (disch := omega) only [go_sem, s1, c1, rl, o4]
  ·rw [List.take_length] at h5
   refine ⟨out, h3, h4, h5, ?_⟩
   rw [w_loop]
   simp (maxSteps := 1000000) (disch := omega) only [go_sem, s1, Int.lt_irrefl]
theorem rtimes_run {v u : AV} {a b : Nat} (hv : PureSl 1 v (ints (d10 a))) (hu : PureSl 1 u (ints (d10 b))) (ha : (d10 a).length ≤ 10000) (hb : (d10 b).length ≤ 10000) (h : Heap) (lo : Nat) :
  ∃ X : AV, PureSl 1 (weak1 X) (ints (d10 (a * b))) ∧ weak X = weak1 X ∧ (run lib).fn 87 [v, u] h lo = some (X, h) := by
 have s1 := lenv_sl (hv.sl []).len
 have s2 := lenv_sl (hu.sl []).len
 rw [ints_len] at s1 s2
 obtain ⟨L, hL⟩ : ∃ L, L = (d10 a).length + (d10 b).length := ⟨_, rfl⟩
 obtain ⟨out, o1, o2, o3, o4⟩ := rtimes_loop hv hu (by omega) (by omega) (dg_d10 a) (dg_d10 b) h (0, .dead) L hL _ 0 (List.replicate L 0) (Nat.le_refl _) (Nat.zero_le _) (by simp)
  (fun x hx => by have := List.eq_of_mem_replicate hx; omega) (by rw [dq_zeros, List.take_zero]; simp [dq]) (fun x hx => List.eq_of_mem_replicate (List.mem_of_mem_drop hx))
 rw [dq_d10, dq_d10, ← Int.natCast_mul] at o3
 have htr := trim10_eq o2
 rw [o3, Int.toNat_natCast] at htr
 refine ⟨trX out, by rw [trX_weak1, htr]; exact lst_pure _, by rw [trX_weak, trX_weak1], ?_⟩
 have eL : ((d10 a).length : Int) + ((d10 b).length : Int) = (L : Int) := by omega
 have hmk := fun hh => mks_ok (h := hh) (cx := ⟨h.length, h.length, 2, none⟩) (s := 1) (z := 1) (zero := .int .i64 0) (lim := 17592186044416) (k := .i64) (k' := .i64) (a := (L : Int)) (b := (L : Int)) (by omega) (by omega) (by omega)
 have rep : ints (List.replicate L 0) = List.replicate L (AV.int .i64 0) := by simp [ints]
 rw [rep] at o4
 simp only [Int.natCast_zero] at o4
 have tr := fun lo => rtrim_at (h := h) (fr := [(0, .dead), (1, .arr 1 (ints out))]) (s := 1) (l := out) (by omega) rfl lo
 have gv := giveRes_trim (h := h) (fr := [(0, .dead), (1, .arr 1 (ints out))]) (s := 1) (ver := 1) (l := out) rfl
 rw [o1] at tr gv
 rw [run_closed (x := x87) rfl rfl rfl rfl]
 simp (maxSteps := 1000000) (disch := omega) only [go_sem, x87, s1, s2, eL, hmk, mkr, o4, tr, gv, Option.map_some]
theorem d10_lt (j : Nat) : j < 10 ^ (d10 j).length := by
 have := dq_lt (dg_d10 j)
 rw [dq_d10] at this
 have e : ((10 ^ (d10 j).length : Nat) : Int) = (10 : Int) ^ (d10 j).length := by rw [Int.natCast_pow]; rfl
 rw [← e] at this
 exact Int.ofNat_lt.mp this
theorem d10_len_mul (a b : Nat) : (d10 (a * b)).length ≤ (d10 a).length + (d10 b).length := by
 refine d10_len_pow ?_
 rw [Nat.pow_add]
 exact Nat.mul_lt_mul'' (d10_lt a) (d10_lt b)
theorem rmul_run {x y : Int} (hx : Fit x) (hy : Fit y) (h : Heap) (lo : Nat) : (run lib).fn 63 [.str (itxt x), .str (itxt y)] h lo = some (outT (x * y), h) := by
 have v1 := fun H lo => rvalid_run (fit_str hx) H lo
 have v2 := fun H lo => rvalid_run (fit_str hy) H lo
 rw [validS_itxt hx] at v1
 rw [validS_itxt hy] at v2
 have d1 := fun H lo => rdig_run hx H lo
 have d2 := fun H lo => rdig_run hy H lo
 have fx := fit_d10 hx
 have fy := fit_d10 hy
 obtain ⟨X, x1, x2, x3⟩ := rtimes_run (rdig_pure x) (rdig_pure y) (by omega) (by omega) h h.length
 have hn : (d10 (x.natAbs * y.natAbs)).length ≤ 400 := by have := d10_len_mul x.natAbs y.natAbs; omega
 have ck := fun H lo => rchk_run (!(decide (x < 0) == decide (y < 0))) x1 (by omega) H lo
 rw [sgn_mul, outT_eq] at ck
 rw [outT_eq, run_closed (x := x63) rfl rfl rfl rfl]
 simp (maxSteps := 1000000) (disch := omega) only [go_sem, x63, v1, v2, d1, d2, x3, x2, ck]
end Go.VI.Loud
namespace Go.VI.Loud
open Go.VI.Num
theorem rtrimL_run {l : List Int} (hl : l.length ≤ 1000000) (h : Heap) (lo : Nat) : (run lib).fn 117 [.lst 1 (ints l)] h lo = some (.lst 1 (ints (trimL l)), h) := by
 have lp : ∀ (cx : Cx) (H : Heap) (k : Nat), k ≤ l.length → runC lib cx (.loop b117_0) ([(0, .lst 1 (ints (l.take k)))], H) = some (.exit 0, ([(0, .lst 1 (ints (l.take (trimK l k))))], H)) := by
  intro cx H k
  induction k with
  | zero =>
   intro hk
   rw [w_loop]
   have s3 : lenv false (.lst 1 (ints [])) = some (.int .i64 0) := rfl
   simp only [List.take_zero, trimK]
   simp (maxSteps := 1000000) (disch := omega) only [go_sem, s3, Int.lt_irrefl]
  | succ k ih =>
   intro hk
   have hs := Sl.lst H 1 (ints (l.take (k + 1)))
   have s3 := lenv_sl hs.len
   rw [ints_len, List.length_take, Nat.min_eq_left hk, cast1] at s3
   have hlen : (ints (l.take (k + 1))).length = k + 1 := by simp; omega
   have c1 : (0 : Int) < (k : Int) + 1 := by omega
   have e0 : (k : Int) + 1 - 1 = k := by omega
   have e3 : sidx 1 (.lst 1 (ints (l.take (k + 1)))) (.int .i64 k) = some k := by rw [sidx_sl hs (by omega) (by rw [hlen]; omega)]; simp
   have e4 := fun off => pc_iptr (off := off) hs.elems0 (show k < (ints (l.take (k + 1))).length by rw [hlen]; omega)
   simp only [ints_get, List.getElem_take] at e4
   have hg : l.getD k 0 = l[k] := by rw [List.getD_eq_getElem?_getD, List.getElem?_eq_getElem (by omega)]; rfl
   have hsl : slicev (some 1) (.lst 1 (ints (l.take (k + 1)))) none (some (.int .i64 k)) = some (.lst 1 (ints (l.take k))) := by
    have hb : bnd (some (.int .i64 k)) (k + 1) (k + 1) = some k := by rw [bnd_ok (by omega) (by omega)]; simp
    simp only [slicev, zok, beq_self_eq_true, Bool.true_or, if_true, hlen, hb, Option.bind_some]
    simp [bnd, ints, List.take_take]
   have ih' := ih (by omega)
   simp only [trimK, hg]
   rw [w_loop]
   by_cases c2 : l[k] = 0
   ·rw [if_pos c2]
    simp (maxSteps := 1000000) (disch := omega) only [go_sem, s3, c1, e0, e3, e4, c2, hsl, ih']
   ·rw [if_neg c2]
    simp (maxSteps := 1000000) (disch := omega) only [go_sem, s3, c1, e0, e3, e4, c2]
 have e := fun cx H => lp cx H l.length (Nat.le_refl _)
 simp only [List.take_length] at e
 rw [run_closed (x := x117) rfl rfl rfl rfl]
 unfold trimL
 simp (maxSteps := 1000000) (disch := omega) only [go_sem, x117, e]
theorem rtrim1_run (d : Nat) (hd : d ≤ 9) : ∃ X : AV, PureSl 1 X (ints (d10 d)) ∧ weak X = X ∧ ∀ h lo, (run lib).fn 117 [.lsf 1 [.int .i64 d]] h lo = some (X, h) := by
 have s1 : lenv false (.lsf 1 [.int .i64 d]) = some (.int .i64 1) := rfl
 have e3 : sidx 1 (.lsf 1 [.int .i64 d]) (.int .i64 0) = some 0 := rfl
 have e4 : ∀ off H, pcells H (.iptr (.lsf 1 [.int .i64 d]) 0 off) = some ([AV.int .i64 d].drop off) := fun off H => rfl
 by_cases h0 : d = 0
 ·subst h0
  have hs : slicev (some 1) (.lsf 1 [.int .i64 ((0 : Nat) : Int)]) none (some (.int .i64 0)) = some (.lst 1 []) := rfl
  refine ⟨.lst 1 [], .inr ⟨1, .inl rfl, .inl rfl⟩, rfl, fun h lo => ?_⟩
  have s3 : lenv false (.lst 1 []) = some (.int .i64 0) := rfl
  have ez : ((0 : Nat) : Int) = 0 := rfl
  rw [ez] at s1 e3 e4 hs ⊢
  have t : runC lib ⟨h.length, h.length, 0, none⟩ (.loop b117_0) ([(0, .lst 1 [])], h) = some (.exit 0, ([(0, .lst 1 [])], h)) := by
   rw [w_loop]
   simp (maxSteps := 1000000) (disch := omega) only [go_sem, s3, Int.lt_irrefl]
  have w : runC lib ⟨h.length, h.length, 0, none⟩ (.loop b117_0) ([(0, .lsf 1 [.int .i64 0])], h) = some (.exit 0, ([(0, .lst 1 [])], h)) := by
   rw [w_loop]
   simp (maxSteps := 1000000) (disch := omega) only [go_sem, s1, e3, e4, hs, t]
  rw [run_closed (x := x117) rfl rfl rfl rfl]
  simp (maxSteps := 1000000) (disch := omega) only [go_sem, x117, w]
 ·have hg : d10 d = [(d : Int)] := by
   rw [d10_pos h0, Nat.mod_eq_of_lt (by omega), show d / 10 = 0 by omega]; rfl
  have c : ¬ (d : Int) = 0 := by omega
  refine ⟨.lsf 1 [.int .i64 d], by rw [hg]; exact .inr ⟨1, .inr rfl, .inl rfl⟩, rfl, fun h lo => ?_⟩
  have w : runC lib ⟨h.length, h.length, 0, none⟩ (.loop b117_0) ([(0, .lsf 1 [.int .i64 d])], h) = some (.exit 0, ([(0, .lsf 1 [.int .i64 d])], h)) := by
   rw [w_loop]
   simp (maxSteps := 1000000) (disch := omega) only [go_sem, s1, e3, e4, c]
  rw [run_closed (x := x117) rfl rfl rfl rfl]
  have hg2 : giveRes h.length (.lsf 1 [.int .i64 d]) h = some (.lsf 1 [.int .i64 d]) := rfl
  simp (maxSteps := 1000000) (disch := omega) only [go_sem, x117, w, hg2, Option.map_some]
theorem d10_shift {n : Nat} (h : n ≠ 0) (d : Nat) (hd : d ≤ 9) : ((d : Nat) : Int) :: d10 n = d10 (d + 10 * n) := by
 rw [d10_pos (n := d + 10 * n) (by omega)]
 have e1 : (d + 10 * n) % 10 = d := by omega
 have e2 : (d + 10 * n) / 10 = n := by omega
 rw [e1, e2]
theorem rdv_reg1 {rv : AV} {R d : Nat} (hr : PureSl 1 rv (ints (d10 R))) (hR : (d10 R).length ≤ 20000) (hd : d ≤ 9) : ∃ X : AV, PureSl 1 X (ints (d10 (d + 10 * R))) ∧ weak X = X ∧
  ∀ (h fr : Heap) (ns w : Nat), 2 < ns → fr[2]? = some (w, .dead) → ∃ (Y : AV) (w' : Nat), (appv ⟨h.length, h.length, ns, none⟩ 2 1 17592186044416 (.lsf 1 [.int .i64 d]) (ints (d10 R)) (h ++ fr)).bind (fun r => frz h.length false r.1 r.2) = some (Y, h ++ fr.set 2 (w', .dead)) ∧
   ∀ H lo, (run lib).fn 117 [Y] H lo = some (X, H) := by
 by_cases h0 : R = 0
 ·subst h0
  obtain ⟨X, x1, x2, x3⟩ := rtrim1_run d hd
  refine ⟨X, by rw [Nat.mul_zero, Nat.add_zero]; exact x1, x2, fun h fr ns w hns hf => ⟨.lsf 1 [.int .i64 d], w, ?_, x3⟩⟩
  rw [set_same hf]
  simp [appv, d10_zero, ints, frz]
 ·have hne : d10 R ≠ [] := fun e => h0 (d10_nil.mp e)
  have hdig : Dg ((d : Int) :: d10 R) := Dg.cons.mpr ⟨by omega, dg_d10 R⟩
  have ht : trimL ((d : Int) :: d10 R) = d10 (d + 10 * R) := by
   rw [trim10_eq hdig, dq, dq_d10]
   congr 1
  have t := rtrimL_run (l := (d : Int) :: d10 R) (by simp; omega)
  rw [ht] at t
  refine ⟨.lst 1 (ints (d10 (d + 10 * R))), lst_pure _, rfl, fun h fr ns w hns hf => ⟨.lst 1 (ints ((d : Int) :: d10 R)), w + 1, ?_, t⟩⟩
  have hx : ints (d10 R) ≠ [] := by intro e; exact hne (by simpa [ints] using e)
  have hlt : 2 < fr.length := (List.getElem?_eq_some_iff.mp hf).1
  have hm : mkAt ⟨h.length, h.length, ns, none⟩ 2 (.arr 1 ([.int .i64 d] ++ ints (d10 R))) (h ++ fr) = some (w + 1, h ++ fr.set 2 (w + 1, .arr 1 ([.int .i64 d] ++ ints (d10 R)))) := by
   rw [mkAt_fr, hf, mkF_some, if_pos hns]
  have hg : (h ++ fr.set 2 (w + 1, Blk.arr 1 ([.int .i64 d] ++ ints (d10 R))))[h.length + 2]? = some (w + 1, .arr 1 ([.int .i64 d] ++ ints (d10 R))) := by rw [get_fr]; simp [hlt]
  have hle : ([AV.int .i64 d] ++ ints (d10 R)).length ≤ 17592186044416 := by simp; omega
  simp only [appv, beq_self_eq_true, Bool.true_or, if_true, if_neg hx, if_pos hle, hm, Option.map_some, Option.bind_some]
  simp only [frz]
  rw [if_pos (by omega)]
  simp only [asList0, hg]
  simp [set_fr, ints, List.take_of_length_le]
end Go.VI.Loud
namespace Go.VI.Loud
open Go.VI.Num
def dvF (q : List Int) (w : Nat) : Heap := [(0, .dead), (0, .dead), (w, .dead), (0, .dead), (1, .arr 1 (ints q))]
theorem rdv_inner {v u : AV} {m : Nat} (hm0 : m ≠ 0) (hu : PureSl 1 u (ints (d10 m))) (hm : (d10 m).length ≤ 20000) (h : Heap) (w N i : Nat) (hN : N ≤ 100000) (hi : i < N) :
  ∀ (t T : Nat) (rv : AV) (q : List Int) (x : Int), T / m = t → PureSl 1 rv (ints (d10 T)) → (d10 T).length ≤ 30000 → q.length = N → q[i]? = some x → 0 ≤ x → x + t ≤ 100 →
  ∃ rv', PureSl 1 rv' (ints (d10 (T % m))) ∧ runC lib ⟨h.length, h.length, 5, none⟩ (.loop b114_1) ([(0, v), (1, u), (6, .ref (h.length + 4) 1 1 0 N N), (7, rv), (8, .int .i64 i)], h ++ dvF q w) =
   some (.exit 2, ([(0, v), (1, u), (6, .ref (h.length + 4) 1 1 0 N N), (7, rv'), (8, .int .i64 i)], h ++ dvF (q.set i (x + t)) w)) := by
 intro t
 induction t with
 | zero =>
  intro T rv q x hT hr hl hq hx h1 h2
  have hlt : T < m := by
   rcases Nat.lt_or_ge T m with g | g
   ·exact g
   ·have := (Nat.le_div_iff_mul_le (show 0 < m by omega)).mpr (show 1 * m ≤ T by omega); omega
  have ord := fun H lo => rorder_run hr hu (by omega) (by omega) H lo
  have ge := cmpN_ge (T : Int) (m : Int)
  generalize cmpN (T : Int) (m : Int) = g at *
  have c1 : ¬ (0 : Int) ≤ g := by omega
  have hs : q.set i (x + ((0 : Nat) : Int)) = q := by
   have : x + ((0 : Nat) : Int) = x := by omega
   rw [this]; exact set_same hx
  refine ⟨rv, by rw [Nat.mod_eq_of_lt hlt]; exact hr, ?_⟩
  rw [hs, w_loop]
  simp (maxSteps := 1000000) (disch := omega) only [go_sem, dvF, ord, c1]
 | succ t ih =>
  intro T rv q x hT hr hl hq hx h1 h2
  have hle : m ≤ T := by
   rcases Nat.lt_or_ge T m with g | g
   ·rw [Nat.div_eq_of_lt g] at hT; omega
   ·exact g
  have ord := fun H lo => rorder_run hr hu (by omega) (by omega) H lo
  have ge := cmpN_ge (T : Int) (m : Int)
  generalize cmpN (T : Int) (m : Int) = g at *
  have c1 : (0 : Int) ≤ g := by omega
  obtain ⟨X, x1, x2, x3⟩ := rminus_run hr hu hle (by omega) (by omega)
  have hdv : (T - m) / m = t := by
   have := Nat.sub_mul_div T m 1
   rw [Nat.mul_one] at this
   rw [this, hT]; rfl
  have hmd : (T - m) % m = T % m := (Nat.mod_eq_sub_mod hle).symm
  have hql : i < q.length := by omega
  have hxi : q[i] = x := by rw [List.getElem?_eq_getElem hql] at hx; exact Option.some.inj hx
  obtain ⟨rv', r1, r2⟩ := ih (T - m) (weak1 X) (q.set i (x + 1)) (x + 1) hdv x1 (Nat.le_trans (d10_len_le (by omega)) hl) (by simp [hq]) (by simp [hql]) (by omega) (by omega)
  rw [hmd] at r1
  refine ⟨rv', r1, ?_⟩
  have hss : (q.set i (x + 1)).set i (x + 1 + (t : Int)) = q.set i (x + ((t + 1 : Nat) : Int)) := by
   rw [List.set_set]
   congr 1; omega
  rw [hss] at r2
  have q1 : sidx 1 (.ref (h.length + 4) 1 1 0 N N) (.int .i64 i) = some i := by simp [sidx, zok, slen, idx]; omega
  have q2 : pcells (h ++ dvF q w) (.iptr (.ref (h.length + 4) 1 1 0 N N) i 0) = some [.int .i64 x] := by
   have so := Sl.refAll (h := h) (fr := dvF q w) (s := 4) (ver := 1) (z := 1) (es := ints q) rfl
   rw [ints_len, hq] at so
   have := pc_iptr (off := 0) so.elems0 (show i < (ints q).length by simpa using hql)
   rw [this, ints_get, hxi]; rfl
  have st := fun y : Int => ps_iptr_fr (lo := h.length) (ns := 5) (h := h) (fr := dvF q w) (s := 4) (ver := 1) (o := 0) (len := N) (fill := N) (i := i) (k := .i64) (l := q) (n := y) rfl hq (by omega) hi (Nat.le_refl _)
  have hints : ∀ l : List Int, l.map (AV.int .i64) = ints l := fun _ => rfl
  simp only [Nat.zero_add, hints, dvF, List.set_cons_succ, List.set_cons_zero] at st q2 r2
  rw [w_loop]
  simp (maxSteps := 1000000) (disch := omega) only [go_sem, dvF, ord, c1, x3, x2, q1, q2, st, r2]
theorem div_step10 {d T m R : Nat} (hm : m ≠ 0) (hR : R = T % m) : (d + 10 * T) / m = (d + 10 * R) / m + 10 * (T / m) ∧ (d + 10 * T) % m = (d + 10 * R) % m := by
 have h := Nat.div_add_mod T m
 have e : d + 10 * T = (d + 10 * R) + m * (10 * (T / m)) := by
  have e1 : m * (10 * (T / m)) = 10 * (m * (T / m)) := by rw [← Nat.mul_assoc, Nat.mul_comm m 10, Nat.mul_assoc]
  rw [e1, hR]
  generalize m * (T / m) = X at *
  omega
 rw [e]
 exact ⟨Nat.add_mul_div_left _ _ (by omega), Nat.add_mul_mod_self_left _ _ _⟩
theorem d10_len_dig {n : Nat} (d : Nat) (hd : d ≤ 9) : (d10 (d + 10 * n)).length ≤ (d10 n).length + 1 := by
 refine d10_len_pow ?_
 have := d10_lt n
 rw [Nat.pow_succ]
 generalize 10 ^ (d10 n).length = X at *
 omega
theorem rdv_loop {v u : AV} {a m : Nat} (hm0 : m ≠ 0) (hv : PureSl 1 v (ints (d10 a))) (hu : PureSl 1 u (ints (d10 m))) (ha : (d10 a).length ≤ 20000) (hm : (d10 m).length ≤ 20000) (h : Heap) (N : Nat) (hN : N = (d10 a).length) :
  ∀ (k : Nat) (w T : Nat) (rv : AV) (q : List Int), k ≤ N → (d10 a).drop k = d10 T → PureSl 1 rv (ints (d10 (T % m))) → q.length = N → (∀ j, j < k → q[j]? = some 0) → dq (q.drop k) = (T / m : Nat) → Dg (q.drop k) →
  ∃ (rv' : AV) (w' : Nat) (q' : List Int), PureSl 1 rv' (ints (d10 (a % m))) ∧ q'.length = N ∧ dq q' = (a / m : Nat) ∧ Dg q' ∧
   runC lib ⟨h.length, h.length, 5, none⟩ (.loop b114_0) ([(0, v), (1, u), (6, .ref (h.length + 4) 1 1 0 N N), (7, rv), (8, .int .i64 ((k : Int) - 1))], h ++ dvF q w) =
   some (.exit 0, ([(6, .ref (h.length + 4) 1 1 0 N N), (7, rv')], h ++ dvF q' w')) := by
 intro k
 induction k with
 | zero =>
  intro w T rv q hk hT hr hq hz hQ hD
  have c1 : ¬ (0 : Int) ≤ -1 := by omega
  have e : T = a := by
   rw [List.drop_zero] at hT
   have h1 := dq_d10 a
   have h2 := dq_d10 T
   rw [hT] at h1
   omega
  subst e
  rw [List.drop_zero] at hQ hD
  refine ⟨rv, w, q, hr, hq, hQ, hD, ?_⟩
  rw [w_loop]
  simp (maxSteps := 1000000) (disch := omega) only [go_sem, c1, Int.zero_sub, Int.reduceNeg]
 | succ k ih =>
  intro w T rv q hk hT hr hq hz hQ hD
  have c1 : (0 : Int) ≤ (k : Int) := by omega
  have e0 : (k : Int) + 1 - 1 = k := by omega
  have hka : k < (d10 a).length := by omega
  have hdk := dg_d10 a (d10 a)[k] (List.getElem_mem hka)
  obtain ⟨d, hd⟩ : ∃ d : Nat, (d10 a)[k] = (d : Int) := ⟨((d10 a)[k]).toNat, by omega⟩
  have hd9 : d ≤ 9 := by omega
  have a3 : sidx 1 v (.int .i64 k) = some k := by rw [sidx_sl (hv.sl []) (by omega) (by simp; omega)]; simp
  have a4 := fun off H => pc_iptr (off := off) (hv.sl H).elems0 (show k < (ints (d10 a)).length by simp; omega)
  simp only [ints_get, hd] at a4
  have hRm : T % m < m := Nat.mod_lt _ (by omega)
  have hRl : (d10 (T % m)).length ≤ 20000 := Nat.le_trans (d10_len_le (Nat.le_of_lt hRm)) hm
  obtain ⟨X, x1, x2, x3⟩ := rdv_reg1 (d := d) hr hRl hd9
  obtain ⟨Y, w', y1, y2⟩ := x3 h (dvF q w) 5 w (by omega) rfl
  have src := fun H : Heap => appSrc_sl (hr.sl H)
  have hnl := d10_len_dig (n := T % m) d hd9
  have hx0 : q[k]? = some 0 := hz k (by omega)
  have ht9 : (d + 10 * (T % m)) / m ≤ 9 := by
   have : d + 10 * (T % m) < m * 10 := by omega
   have := Nat.div_lt_of_lt_mul this
   omega
  obtain ⟨rv', r1, r2⟩ := rdv_inner (v := v) hm0 hu hm h w' N k (by omega) (by omega) ((d + 10 * (T % m)) / m) (d + 10 * (T % m)) X q 0 rfl x1 (by omega) hq hx0 (by omega) (by omega)
  obtain ⟨g1, g2⟩ := div_step10 (d := d) hm0 (show T % m = T % m from rfl)
  rw [Int.zero_add] at r2
  have hT' : (d10 a).drop k = d10 (d + 10 * T) := by
   rw [List.drop_eq_getElem_cons hka, hT, hd]
   by_cases hT0 : T = 0
   ·subst hT0
    -- the highest digit is not zero
    have hne : d ≠ 0 := by
     intro h0
     have htr := trm_d10 a (by intro e; rw [e] at hka; simp at hka)
     have hlast : (d10 a).drop k = [(d : Int)] := by rw [List.drop_eq_getElem_cons hka, hT, hd]; rfl
     have hsp := List.take_append_drop k (d10 a)
     rw [hlast] at hsp
     have hl2 : (d10 a).getLast? = some (d : Int) := by rw [← hsp]; simp
     rw [List.getLast?_eq_some_getLast (by intro e; rw [e] at hka; simp at hka)] at hl2
     exact htr (by rw [Option.some.inj hl2, h0]; rfl)
    rw [Nat.mul_zero, Nat.add_zero, d10_pos hne, Nat.mod_eq_of_lt (by omega), show d / 10 = 0 by omega]
   ·exact d10_shift hT0 d hd9
  have hkq : k < q.length := by omega
  obtain ⟨rv2, w2, q2, s1, s2, s3, s4, s5⟩ := ih w' (d + 10 * T) rv' (q.set k (((d + 10 * (T % m)) / m : Nat) : Int)) (by omega) hT' (by rw [g2]; exact r1) (by simp [hq])
   (fun j hj => by rw [List.getElem?_set_ne (by omega)]; exact hz j (by omega))
   (by rw [drop_set_self hkq, dq, hQ, g1, Int.natCast_add, Int.natCast_mul]; rfl)
   (by rw [drop_set_self hkq]; exact Dg.cons.mpr ⟨⟨Int.natCast_nonneg _, Int.ofNat_le.mpr ht9⟩, hD⟩)
  refine ⟨rv2, w2, q2, s1, s2, s3, s4, ?_⟩
  simp only [dvF, List.set_cons_succ, List.set_cons_zero] at y1 r2 s5
  rw [w_loop]
  simp only [dvF]
  simp (maxSteps := 1000000) (disch := omega) only [go_sem, cast1, e0, c1, a3, a4, src, y1, y2, x2, r2, s5]
theorem give_pure {v : AV} {l : List Int} (p : PureSl 1 v (ints l)) : ∃ Y : AV, (∀ b h, give b v h = some (Y, h)) ∧ PureSl 1 (weak1 Y) (ints l) := by
 rcases p with ⟨rfl, hl⟩ | ⟨z', rfl | rfl, hz⟩
 ·exact ⟨.own 0 [], fun _ _ => rfl, by rw [hl]; exact .inr ⟨0, .inl rfl, .inr rfl⟩⟩
 ·exact ⟨.lst z' (ints l), fun b h => by simp [give, frz], .inr ⟨z', .inl rfl, hz⟩⟩
 ·exact ⟨.lsf z' (ints l), fun b h => by simp [give, frz], .inr ⟨z', .inr rfl, hz⟩⟩
theorem rdiv_run {v u : AV} {a m : Nat} (hm0 : m ≠ 0) (hv : PureSl 1 v (ints (d10 a))) (hu : PureSl 1 u (ints (d10 m))) (ha : (d10 a).length ≤ 20000) (hm : (d10 m).length ≤ 20000) (h : Heap) (lo : Nat) :
  ∃ X Y : AV, PureSl 1 (weak1 X) (ints (d10 (a / m))) ∧ PureSl 1 (weak1 Y) (ints (d10 (a % m))) ∧ (run lib).fn 114 [v, u] h lo = some (.tuple [X, Y], h) := by
 have s1 := lenv_sl (hv.sl []).len
 rw [ints_len] at s1
 obtain ⟨N, hN⟩ : ∃ N, N = (d10 a).length := ⟨_, rfl⟩
 rw [← hN] at s1
 obtain ⟨rv, w, q, r1, r2, r3, r4, r5⟩ := rdv_loop hm0 hv hu ha hm h N hN N 0 0 .nilSl (List.replicate N 0) (Nat.le_refl _) (by rw [hN, List.drop_of_length_le (Nat.le_refl _)]; rfl)
  (by rw [Nat.zero_mod]; exact .inl ⟨rfl, rfl⟩) (by simp) (fun j hj => by simp [hj]) (by rw [List.drop_of_length_le (by simp), Nat.zero_div]; rfl) (by rw [List.drop_of_length_le (by simp)]; exact Dg.nil)
 have htr := trim10_eq r4
 rw [r3, Int.toNat_natCast] at htr
 obtain ⟨Y, y1, y2⟩ := give_pure r1
 refine ⟨trX q, Y, by rw [trX_weak1, htr]; exact lst_pure _, y2, ?_⟩
 have hmk := fun hh => mks_ok (h := hh) (cx := ⟨h.length, h.length, 5, none⟩) (s := 4) (z := 1) (zero := .int .i64 0) (lim := 17592186044416) (k := .i64) (k' := .i64) (a := (N : Int)) (b := (N : Int)) (by omega) (by omega) (by omega)
 have rep : ints (List.replicate N 0) = List.replicate N (AV.int .i64 0) := by simp [ints]
 simp only [dvF, rep] at r5
 have tr := fun lo => rtrim_at (h := h) (fr := [(0, .dead), (0, .dead), (w, .dead), (0, .dead), (1, .arr 1 (ints q))]) (s := 4) (l := q) (by omega) rfl lo
 have gv := give_trim (h := h) (fr := [(0, .dead), (0, .dead), (w, .dead), (0, .dead), (1, .arr 1 (ints q))]) (s := 4) (ver := 1) (l := q) rfl
 rw [r2] at tr gv
 have gr : giveRes h.length (.tuple [.ref (h.length + 4) 1 1 0 (trimL q).length N, rv]) (h ++ [(0, .dead), (0, .dead), (w, .dead), (0, .dead), (1, .arr 1 (ints q))]) = some (.tuple [trX q, Y]) := by
  simp only [giveRes, giveL, gv, y1, Option.bind_some, Option.map_some]
 rw [run_closed (x := x114) rfl rfl rfl rfl]
 simp (maxSteps := 1000000) (disch := omega) only [go_sem, x114, s1, hmk, mkr, r5, tr, gr, Option.map_some]
end Go.VI.Loud
namespace Go.VI.Loud
open Go.VI.Num
theorem rdivE_run {x y : Int} (hx : Fit x) (hy : Fit y) (hy0 : y ≠ 0) (h : Heap) (lo : Nat) : (run lib).fn 83 [.str (itxt x), .str (itxt y)] h lo = some (divT x y, h) := by
 have v1 := fun H lo => rvalid_run (fit_str hx) H lo
 have v2 := fun H lo => rvalid_run (fit_str hy) H lo
 rw [validS_itxt hx] at v1
 rw [validS_itxt hy] at v2
 have d1 := fun H lo => rdig_run hx H lo
 have d2 := fun H lo => rdig_run hy H lo
 have fx := fit_d10 hx
 have fy := fit_d10 hy
 have hm0 : y.natAbs ≠ 0 := by omega
 have i0 : itxt 0 = [48] := rfl
 have hne : ¬ itxt y = [48] := by rw [← i0, str_iff]; exact hy0
 obtain ⟨X, Y, x1, y1, dv⟩ := rdiv_run hm0 (rdig_pure x) (rdig_pure y) (by omega) (by omega) h h.length
 obtain ⟨q1, q2⟩ := dv_eq (x := x) hy0
 have hql := dvQ_le (x := x) hy0
 have fq := ediv_fit (y := y) hx hy0
 have fr := emod_fit (x := x) hy hy0
 have s1 := lenv_sl (y1.sl []).len
 rw [ints_len] at s1
 have hrl : (d10 (x.natAbs % y.natAbs)).length ≤ 200 := Nat.le_trans (d10_len_le (Nat.le_of_lt (Nat.mod_lt _ (by omega)))) fy
 have es : sgn false (dvR x y) = x % y := by rw [← q2]; rfl
 have tr := fun v (hv : PureSl 1 v (ints (d10 (dvR x y)))) H lo => rtext_run (v := v) (n := dvR x y) false (h := H) (hv.sl H) (by
  have e : (x % y).natAbs = dvR x y := by omega
  have := fit_d10 fr
  rw [e] at this; omega) lo
 simp only [es] at tr
 have tq := fun v (hv : PureSl 1 v (ints (d10 (dvQ x y)))) H lo => rchk_run (v := v) (n := dvQ x y) (!(decide (x < 0) == decide (y < 0))) hv (by have := d10_len_le hql; omega) H lo
 simp only [q1, outT_fit fq] at tq
 unfold divT
 rw [run_closed (x := x83) rfl rfl rfl rfl]
 by_cases c : x < 0 ∧ x.natAbs % y.natAbs ≠ 0
 ·obtain ⟨c1, c2⟩ := c
  have c3 : (0 : Int) < (d10 (x.natAbs % y.natAbs)).length := by
   have : d10 (x.natAbs % y.natAbs) ≠ [] := fun e => c2 (d10_nil.mp e)
   have := List.length_pos_iff.mpr this
   omega
  have pl := fun H lo => rplus_run (u := .lsf 1 [.int .i64 1]) (b := 1) x1 (.inr ⟨1, .inr rfl, .inl rfl⟩) (by have := d10_len_le (Nat.div_le_self x.natAbs y.natAbs); omega) (by decide) H lo
  obtain ⟨Z, z1, z2, mi⟩ := rminus_run (rdig_pure y) y1 (Nat.le_of_lt (Nat.mod_lt _ (by omega))) (by omega) (by omega)
  have eq : dvQ x y = x.natAbs / y.natAbs + 1 := if_pos ⟨c1, c2⟩
  have er : dvR x y = y.natAbs - x.natAbs % y.natAbs := if_pos ⟨c1, c2⟩
  have hp := own_pure (d10 (x.natAbs / y.natAbs + 1))
  rw [weak1_ownV, ← eq] at hp
  rw [← er] at z1
  have tq1 := tq _ hp
  have tr1 := tr _ z1
  rw [eq] at tq1
  rw [decide_eq_true c1] at d1 tq1
  simp (maxSteps := 1000000) (disch := omega) only [go_sem, x83, v1, v2, d1, d2, hne, dv, s1, c3, pl, mi, z2, tq1, tr1]
 ·have eq : dvQ x y = x.natAbs / y.natAbs := if_neg c
  have er : dvR x y = x.natAbs % y.natAbs := if_neg c
  rw [← eq] at x1
  rw [← er] at y1
  have tq1 := tq _ x1
  have tr1 := tr _ y1
  by_cases c1 : x < 0
  ·have c2 : x.natAbs % y.natAbs = 0 := by omega
   have c3 : ¬ (0 : Int) < (d10 (x.natAbs % y.natAbs)).length := by rw [c2, d10_zero]; simp
   rw [decide_eq_true c1] at d1 tq1
   simp (maxSteps := 1000000) (disch := omega) only [go_sem, x83, v1, v2, d1, d2, hne, dv, s1, c3, tq1, tr1]
  ·rw [decide_eq_false c1] at d1 tq1
   simp (maxSteps := 1000000) (disch := omega) only [go_sem, x83, v1, v2, d1, d2, hne, dv, s1, tq1, tr1]
theorem rgcd_loop (cx : Cx) (H : Heap) : ∀ (b a : Nat) (v u : AV), PureSl 1 v (ints (d10 a)) → PureSl 1 u (ints (d10 b)) → (d10 a).length ≤ 1000 → (d10 b).length ≤ 1000 →
  ∃ w, PureSl 1 w (ints (d10 (Nat.gcd a b))) ∧ runC lib cx (.loop b82_0) ([(7, v), (9, u)], H) = some (.exit 0, ([(7, w)], H)) := by
 intro b
 induction b using Nat.strongRecOn with
 | _ b ih =>
  intro a v u hv hu ha hb
  have s1 := lenv_sl (hu.sl []).len
  rw [ints_len] at s1
  by_cases h0 : b = 0
  ·subst h0
   refine ⟨v, by rw [Nat.gcd_zero_right]; exact hv, ?_⟩
   have c1 : ¬ (0 : Int) < (d10 0).length := by simp [d10_zero]
   rw [w_loop]
   simp (maxSteps := 1000000) (disch := omega) only [go_sem, s1, c1]
  ·have hpos : 0 < b := by omega
   have hlt := Nat.mod_lt a hpos
   have hl2 : (d10 (a % b)).length ≤ 1000 := Nat.le_trans (d10_len_le (Nat.le_of_lt hlt)) hb
   obtain ⟨X, Y, x1, y1, dv⟩ := rdiv_run h0 hv hu (by omega) (by omega) H cx.lo
   obtain ⟨w, w1, w2⟩ := ih (a % b) hlt b u (weak1 Y) hu y1 hb hl2
   refine ⟨w, ?_, ?_⟩
   ·have e : Nat.gcd a b = Nat.gcd b (a % b) := by rw [Nat.gcd_comm a b, Nat.gcd_rec, Nat.gcd_comm]
    rw [e]; exact w1
   ·have c1 : (0 : Int) < (d10 b).length := by
     have : d10 b ≠ [] := fun e => h0 (d10_nil.mp e)
     have := List.length_pos_iff.mpr this
     omega
    rw [w_loop]
    simp (maxSteps := 1000000) (disch := omega) only [go_sem, s1, c1, dv, w2]
theorem rgcd_run {x y : Int} (hx : Fit x) (hy : Fit y) (h : Heap) (lo : Nat) : (run lib).fn 82 [.str (itxt x), .str (itxt y)] h lo = some (.tuple [.str (itxt (Int.gcd x y : Nat)), .int .i64 0], h) := by
 have v1 := fun H lo => rvalid_run (fit_str hx) H lo
 have v2 := fun H lo => rvalid_run (fit_str hy) H lo
 rw [validS_itxt hx] at v1
 rw [validS_itxt hy] at v2
 have d1 := fun H lo => rdig_run hx H lo
 have d2 := fun H lo => rdig_run hy H lo
 have fx := fit_d10 hx
 have fy := fit_d10 hy
 have fg := gcd_fit hx hy
 obtain ⟨w, w1, w2⟩ := rgcd_loop ⟨h.length, h.length, 0, none⟩ h y.natAbs x.natAbs _ _ (rdig_pure x) (rdig_pure y) (by omega) (by omega)
 have ck := fun H lo => rchk_run false w1 (by have := fit_d10 fg; rw [Int.natAbs_natCast] at this; unfold Int.gcd at this; omega) H lo
 have es : sgn false (Nat.gcd x.natAbs y.natAbs) = ((Int.gcd x y : Nat) : Int) := rfl
 rw [es, outT_fit fg] at ck
 rw [run_closed (x := x82) rfl rfl rfl rfl]
 simp (maxSteps := 1000000) (disch := omega) only [go_sem, x82, v1, v2, d1, d2, w2, ck]
theorem d10_lenS {n : Nat} (h : n < 10000000000000000000) : (d10 n).length ≤ 19 := d10_len_pow (by have : (10 : Nat) ^ 19 = 10000000000000000000 := (by decide); omega)
theorem rfrom_loop (n0 : Int) (h : Heap) : ∀ (f : Nat) (m : Int) (acc : List Int), m.natAbs ≤ f → -9223372036854775808 ≤ m → m ≤ 9223372036854775807 → acc.length + (d10 m.natAbs).length ≤ 100 →
  runC lib ⟨h.length, h.length, 1, none⟩ (.loop b61_0) ([(0, .int .i64 n0), (3, accV (h.length + 0) (0, .dead) 1 (ints acc)), (4, .int .i64 m)], h ++ [accB (0, .dead) 1 (ints acc)]) =
   some (.exit 0, ([(0, .int .i64 n0), (3, accV (h.length + 0) (0, .dead) 1 (ints (acc ++ d10 m.natAbs)))], h ++ [accB (0, .dead) 1 (ints (acc ++ d10 m.natAbs))])) := by
 intro f
 induction f with
 | zero =>
  intro m acc h1 h2 h3 h4
  obtain rfl : m = 0 := by omega
  have e : d10 (Int.natAbs 0) = [] := rfl
  rw [e, List.append_nil, w_loop]
  simp (maxSteps := 1000000) (disch := omega) only [go_sem, ne_eq, not_true_eq_false]
 | succ f ih =>
  intro m acc h1 h2 h3 h4
  by_cases h0 : m = 0
  ·subst h0
   have e : d10 (Int.natAbs 0) = [] := rfl
   rw [e, List.append_nil, w_loop]
   simp (maxSteps := 1000000) (disch := omega) only [go_sem, ne_eq, not_true_eq_false]
  ·have e1 := Int.tmod_add_mul_tdiv m 10
   have n1 : (m.tdiv 10).natAbs = m.natAbs / 10 := by rw [Int.natAbs_tdiv]; rfl
   have n2 : (m.tmod 10).natAbs = m.natAbs % 10 := by rw [Int.natAbs_tmod]; rfl
   have hd : d10 m.natAbs = ((m.natAbs % 10 : Nat) : Int) :: d10 (m.natAbs / 10) := d10_pos (by omega)
   have hdl := congrArg List.length hd
   simp only [List.length_cons] at hdl
   have k := ih (m.tdiv 10) (acc ++ [((m.natAbs % 10 : Nat) : Int)]) (by omega) (by omega) (by omega) (by rw [n1]; simp; omega)
   rw [n1, ints_app acc, ints_one, List.append_assoc, List.singleton_append, ← hd] at k
   have wq : IntKind.i64.wrap (m.tdiv 10) = m.tdiv 10 := wrap_id (by omega) (by omega)
   have b1 : binv .rem (.int .i64 m) (.int .i64 10) = some (.int .i64 (m.tmod 10)) := bin_rem (by omega)
   have b2 : binv .quo (.int .i64 m) (.int .i64 10) = some (.int .i64 (m.tdiv 10)) := by rw [bin_quo (by omega), wq]
   have ea := fun x : Int => app_acc (lo := h.length) (ns := 1) (s := 0) (z := 1) (lim := 17592186044416) (h := h) (fr := [accB (0, .dead) 1 (ints acc)]) (b0 := (0, .dead)) (es := ints acc) (xs := [.int .i64 x]) (by omega) (Nat.le_refl _) rfl (by simp; omega)
   simp only [List.set_cons_zero] at ea
   rw [w_loop]
   by_cases hneg : m.tmod 10 < 0
   ·have e2 : -(m.tmod 10) = ((m.natAbs % 10 : Nat) : Int) := by omega
    have hp9 : m.natAbs % 10 ≤ 9 := by omega
    generalize m.natAbs % 10 = p at *
    generalize m.tmod 10 = r at *
    generalize m.tdiv 10 = q at *
    simp (maxSteps := 1000000) (disch := omega) only [go_sem, h0, b1, b2, hneg, e2, ea, k]
   ·have e2 : m.tmod 10 = ((m.natAbs % 10 : Nat) : Int) := by omega
    rw [e2] at b1 hneg
    generalize m.natAbs % 10 = p at *
    generalize m.tdiv 10 = q at *
    simp (maxSteps := 1000000) (disch := omega) only [go_sem, h0, b1, b2, hneg, ea, k]
theorem rfromint_run {n : Int} (h0 : -9223372036854775808 ≤ n) (h1 : n ≤ 9223372036854775807) (h : Heap) (lo : Nat) : (run lib).fn 61 [.int .i64 n] h lo = some (.str (itxt n), h) := by
 have hl := d10_lenS (n := n.natAbs) (by omega)
 have lp := rfrom_loop n h n.natAbs n [] (Nat.le_refl _) h0 h1 (by simp; omega)
 rw [List.nil_append] at lp
 have i0 : accV (h.length + 0) (0, .dead) 1 (ints []) = .nilSl := rfl
 have j0 : accB (0, .dead) 1 (ints []) = (0, .dead) := rfl
 rw [i0, j0] at lp
 have sl := Sl.acc (h := h) (fr := [accB (0, .dead) 1 (ints (d10 n.natAbs))]) (s := 0) (z := 1) (b0 := (0, .dead)) (es := ints (d10 n.natAbs)) rfl
 have tx := rtext_run (decide (n < 0)) sl (by omega) h.length
 rw [sgn_self] at tx
 rw [run_closed (x := x61) rfl rfl rfl rfl]
 simp (maxSteps := 1000000) (disch := omega) only [go_sem, x61, lp, tx]
end Go.VI.Loud
namespace Go.VI.Loud
open Go.VI.Num
theorem svalid_run {s t : List UInt8} (hs : s.length ≤ 9223372036854775807) (ht : t.length ≤ 9223372036854775807) (h : Heap) (lo : Nat) : (run lib).fn 62 [frV s t] h lo = some (.bool (rvalid s t), h) := by
 have v1 := fun H lo => rvalid_run hs H lo
 have v2 := fun H lo => rvalid_run ht H lo
 unfold frV rvalid
 rw [run_closed (x := x62) rfl rfl rfl rfl]
 cases c1 : validS s with
 | false =>
  rw [c1] at v1
  simp (maxSteps := 1000000) (disch := omega) only [go_sem, x62, v1, v2]
 | true =>
  rw [c1] at v1
  cases c2 : validS t with
  | false =>
   rw [c2] at v2
   simp (maxSteps := 1000000) (disch := omega) only [go_sem, x62, v1, v2]
  | true =>
   rw [c2] at v2
   obtain ⟨e1, f1⟩ := valid_txt c1
   obtain ⟨e2, f2⟩ := valid_txt c2
   have cm := fun H lo => rcompare_run (x := zv t) (y := 0) f2 fit_zero H lo
   rw [zero_txt, ← e2] at cm
   have gc := fun H lo => rgcd_run f1 f2 H lo
   rw [← e1, ← e2] at gc
   have cl := cmpN_le (zv t)
   have g1 := txt_one ((Int.gcd (zv s) (zv t) : Nat) : Int)
   generalize itxt ((Int.gcd (zv s) (zv t) : Nat) : Int) = G at *
   generalize cmpN (zv t) 0 = q at *
   by_cases c3 : 0 < zv t
   ·rw [decide_eq_true c3] at cl ⊢
    have cl' : ¬ q ≤ 0 := by simpa using cl
    by_cases c4 : G = [49]
    ·have c5 : (Int.gcd (zv s) (zv t) == 1) = true := by
      rw [decide_eq_true c4] at g1
      have := of_decide_eq_true g1.symm
      simp only [beq_iff_eq]; omega
     rw [c5]
     simp (maxSteps := 1000000) (disch := omega) only [go_sem, x62, v1, v2, cm, cl', gc, c4]
    ·have c5 : (Int.gcd (zv s) (zv t) == 1) = false := by
      rw [decide_eq_false c4] at g1
      have := of_decide_eq_false g1.symm
      simp only [beq_eq_false_iff_ne, ne_eq]; omega
     rw [c5]
     simp (maxSteps := 1000000) (disch := omega) only [go_sem, x62, v1, v2, cm, cl', gc, c4]
   ·rw [decide_eq_false c3] at cl ⊢
    have cl' : q ≤ 0 := by simpa using cl
    simp (maxSteps := 1000000) (disch := omega) only [go_sem, x62, v1, v2, cm, cl']
theorem smake_run {n d : Int} (hn : Fit n) (hd : Fit d) (h : Heap) (lo : Nat) : (run lib).fn 60 [.str (itxt n), .str (itxt d)] h lo = some (resO (makeQ n d), h) := by
 have v1 := fun H lo => rvalid_run (fit_str hn) H lo
 have v2 := fun H lo => rvalid_run (fit_str hd) H lo
 rw [validS_itxt hn] at v1
 rw [validS_itxt hd] at v2
 unfold makeQ
 rw [run_closed (x := x60) rfl rfl rfl rfl]
 by_cases c : d = 0
 ·subst c
  rw [if_pos rfl, zero_txt] at *
  simp (maxSteps := 1000000) (disch := omega) only [go_sem, x60, v1, v2, resO, frV]
 ·have hz := txt_nz c
  have cm := fun H lo => rcompare_run hd fit_zero H lo
  rw [zero_txt] at cm
  have cl := cmpN_lt0 d
  rw [if_neg c]
  have fin : ∀ {N D : Int}, Fit N → Fit D → 0 < D → Rat.divInt N D = Rat.divInt n d → ∃ G R1 R2 : Int, (∀ H lo, (run lib).fn 82 [.str (itxt N), .str (itxt D)] H lo = some (.tuple [.str (itxt G), .int .i64 0], H)) ∧
    (∀ H lo, (run lib).fn 83 [.str (itxt N), .str (itxt G)] H lo = some (.tuple [.str (itxt (Rat.divInt n d).num), .str (itxt R1), .int .i64 0], H)) ∧
    (∀ H lo, (run lib).fn 83 [.str (itxt D), .str (itxt G)] H lo = some (.tuple [.str (itxt ((Rat.divInt n d).den : Int)), .str (itxt R2), .int .i64 0], H)) := by
   intro N D hN hD hp he
   have hG := gcd_fit hN hD
   have hG0 := gcd_ne (n := N) (d := D) (by omega)
   refine ⟨(Int.gcd N D : Nat), N % (Int.gcd N D : Nat), D % (Int.gcd N D : Nat), fun H lo => rgcd_run hN hD H lo, fun H lo => ?_, fun H lo => ?_⟩
   ·rw [← he, divInt_num hp]
    exact rdivE_run hN hG hG0 H lo
   ·rw [← he, divInt_den hp]
    exact rdivE_run hD hG hG0 H lo
  generalize cmpN d 0 = q at *
  by_cases c2 : d < 0
  ·obtain ⟨G, R1, R2, g1, g2, g3⟩ := fin (neg_fit hn) (neg_fit hd) (by omega) (Rat.neg_divInt_neg n d)
   have s1 := fun H lo => rsub_run fit_zero hn H lo
   have s2 := fun H lo => rsub_run fit_zero hd H lo
   rw [zero_txt, Int.zero_sub, outT_fit (neg_fit hn)] at s1
   rw [zero_txt, Int.zero_sub, outT_fit (neg_fit hd)] at s2
   have cl' : q < 0 := cl.mpr c2
   clear fin
   simp (maxSteps := 1000000) (disch := omega) only [go_sem, x60, v1, v2, hz, cm, cl', s1, s2, g1, g2, g3, resO, rt, frV]
  ·obtain ⟨G, R1, R2, g1, g2, g3⟩ := fin hn hd (by omega) rfl
   have cl' : ¬ q < 0 := fun h => c2 (cl.mp h)
   clear fin
   simp (maxSteps := 1000000) (disch := omega) only [go_sem, x60, v1, v2, hz, cm, cl', g1, g2, g3, resO, rt, frV]
theorem sof_run {n d : Int} (hn : Fit n) (hd : Fit d) (hn1 : -9223372036854775808 ≤ n ∧ n ≤ 9223372036854775807) (hd1 : -9223372036854775808 ≤ d ∧ d ≤ 9223372036854775807) (h : Heap) (lo : Nat) : (run lib).fn 43 [.int .i64 n, .int .i64 d] h lo = some (resO (makeQ n d), h) := by
 have f1 := fun H lo => rfromint_run hn1.1 hn1.2 H lo
 have f2 := fun H lo => rfromint_run hd1.1 hd1.2 H lo
 have m := fun H lo => smake_run hn hd H lo
 obtain ⟨s1, s2, e, he⟩ := resO_cells (makeQ n d)
 rw [he] at m ⊢
 rw [run_closed (x := x43) rfl rfl rfl rfl]
 simp (maxSteps := 1000000) (disch := omega) only [go_sem, x43, f1, f2, m]
theorem sval_ok {a : Rat} (ha : FitQ a) (H : Heap) (lo : Nat) : (run lib).fn 62 [.agg [.str (itxt a.num), .str (itxt (a.den : Int))]] H lo = some (.bool true, H) := by
 have := svalid_run (fit_str ha.1) (fit_str (den_fit ha)) H lo
 rw [rvalid_itxt ha] at this; exact this
theorem outT_bad {z : Int} (h : ¬ Fit z) : outT z = .tuple [.str [], .int .i64 30] := if_neg h
theorem smul_run {a b : Rat} (ha : FitQ a) (hb : FitQ b) (h : Heap) (lo : Nat) : (run lib).fn 44 [rt a, rt b] h lo = some (resO (mulQ a b), h) := by
 have v1 := fun H lo => sval_ok ha H lo
 have v2 := fun H lo => sval_ok hb H lo
 have m1 := fun H lo => rmul_run ha.1 hb.1 H lo
 have m2 := fun H lo => rmul_run (den_fit ha) (den_fit hb) H lo
 have hd := den2_ne a b
 have q := q_mul a b
 unfold mulQ rt frV
 generalize a.num * b.num = x at *
 generalize (a.den : Int) * b.den = y at *
 rw [run_closed (x := x44) rfl rfl rfl rfl]
 by_cases c1 : Fit x
 ·rw [outT_fit c1] at m1
  rw [fitZ_t c1]
  by_cases c2 : Fit y
  ·rw [outT_fit c2] at m2
   have r := fun H lo => smake_run c1 c2 H lo
   unfold makeQ at r
   rw [if_neg hd, q] at r
   simp only [resO, rt, frV] at r
   rw [fitZ_t c2]
   generalize a * b = Q at *
   simp (maxSteps := 1000000) (disch := omega) only [go_sem, x44, v1, v2, m1, m2, r, resO, rt, frV]
  ·rw [outT_bad c2] at m2
   rw [fitZ_f c2]
   simp (maxSteps := 1000000) (disch := omega) only [go_sem, x44, v1, v2, m1, m2, resO, rt, frV]
 ·rw [outT_bad c1] at m1
  rw [fitZ_f c1]
  by_cases c2 : Fit y
  ·rw [outT_fit c2] at m2
   simp (maxSteps := 1000000) (disch := omega) only [go_sem, x44, v1, v2, m1, m2, resO, rt, frV]
  ·rw [outT_bad c2] at m2
   simp (maxSteps := 1000000) (disch := omega) only [go_sem, x44, v1, v2, m1, m2, resO, rt, frV]
end Go.VI.Loud
namespace Go.VI.Loud
open Go.VI.Num
/- BIGSTEPS -/
def okX (s : Int) : Bool := decide (-32768 ≤ s) && decide (s ≤ 32767)
theorem vvalid_loop (cx : Cx) {H : Heap} {v : AV} {l : List Int} (hv : Sl H 1 v (ints l)) (hl : l.length ≤ 9223372036854775807) : ∀ (d k : Nat), k + d = l.length →
  runC lib cx (.loop b18_0) ([(0, v), (3, .int .i64 k)], H) = if (l.drop k).all okX then some (.exit 0, ([], H)) else some (.ret, ([(2, .bool false)], H)) := by
 have lv := lenv_sl hv.len
 rw [ints_len] at lv
 intro d
 induction d with
 | zero =>
  intro k hd
  obtain rfl : k = l.length := by omega
  rw [List.drop_length, w_loop]
  simp (maxSteps := 30000000) (disch := omega) only [go_sem, lv, Int.lt_irrefl, List.all_nil]
 | succ d ih =>
  intro k hd
  have hk' : k < l.length := by omega
  have h1 : (k : Int) < l.length := by omega
  have e3 : sidx 1 v (.int .i64 k) = some k := by rw [sidx_sl hv (by omega) (by simp; omega)]; simp
  have e4 := fun off => pc_iptr (off := off) hv.elems0 (show k < (ints l).length by simp; omega)
  simp only [ints_get] at e4
  have e := ih (k + 1) (by omega)
  rw [cast1] at e
  rw [List.drop_eq_getElem_cons hk', List.all_cons]
  generalize l[k] = x at *
  generalize (l.drop (k + 1)).all okX = q at *
  rw [w_loop]
  by_cases c1 : x < -32768
  ·have o : okX x = false := by unfold okX; rw [decide_eq_false (by omega)]; rfl
   rw [o, Bool.false_and, if_neg Bool.false_ne_true]
   simp (maxSteps := 30000000) (disch := omega) only [go_sem, lv, h1, e3, e4, c1]
  ·by_cases c2 : 32767 < x
   ·have o : okX x = false := by unfold okX; rw [decide_eq_false (show ¬ x ≤ 32767 by omega), Bool.and_false]
    rw [o, Bool.false_and, if_neg Bool.false_ne_true]
    simp (maxSteps := 30000000) (disch := omega) only [go_sem, lv, h1, e3, e4, c1, c2]
   ·have o : okX x = true := by unfold okX; rw [decide_eq_true (by omega), decide_eq_true (by omega)]; rfl
    rw [o, Bool.true_and]
    simp (maxSteps := 30000000) (disch := omega) only [go_sem, lv, h1, e3, e4, c1, c2, e]
theorem vvalid_run {h : Heap} {v : AV} {l : List Int} (hv : Sl h 1 v (ints l)) (hl : l.length ≤ 9223372036854775807) (lo : Nat) : (run lib).fn 18 [v] h lo = some (.bool (okS l), h) := by
 have lv := lenv_sl hv.len
 rw [ints_len] at lv
 obtain ⟨vv, vc⟩ := Sl_val hv
 have lp := vvalid_loop ⟨h.length, h.length, 0, none⟩ hv hl l.length 0 (by omega)
 rw [List.drop_zero] at lp
 have eo : okS l = (decide (l.length ≤ 600) && l.all okX) := rfl
 rw [eo]
 have z0 : ((0 : Nat) : Int) = 0 := rfl
 rw [z0] at lp
 rw [run_closed (x := x18) rfl rfl rfl rfl]
 by_cases c : (600 : Int) < l.length
 ·rw [decide_eq_false (show ¬ l.length ≤ 600 by omega), Bool.false_and]
  simp (maxSteps := 30000000) (disch := omega) only [go_sem, x18, vv, vc, lv, c]
 ·rw [decide_eq_true (show l.length ≤ 600 by omega), Bool.true_and]
  cases q : l.all okX with
  | true =>
   rw [q, if_pos rfl] at lp
   simp (maxSteps := 30000000) (disch := omega) only [go_sem, x18, vv, vc, lv, c, lp]
  | false =>
   rw [q, if_neg Bool.false_ne_true] at lp
   simp (maxSteps := 30000000) (disch := omega) only [go_sem, x18, vv, vc, lv, c, lp]
theorem vbl_in {h : Heap} {v : AV} {l : List Int} (hv : Sl h 1 v (ints l)) (hk : okS l = true) {a : Nat} (ha : a + 32 ≤ l.length) (A : AV) (fr : Heap) : ∀ (d j : Nat), j + d = 32 →
  runC lib ⟨h.length, h.length, 1, none⟩ (.loop b14_1) ([(0, v), (4, A), (5, .int .i64 a), (6, .int .i64 (enL ((l.drop a).take j))), (7, .int .i64 ((a + j : Nat) : Int))], h ++ fr) =
   some (.exit 2, ([(0, v), (4, A), (5, .int .i64 a), (6, .int .i64 (enL ((l.drop a).take 32)))], h ++ fr)) := by
 have h600 := (okS_mem hk).1
 intro d
 induction d with
 | zero =>
  intro j hj
  obtain rfl : j = 32 := by omega
  have n1 : ¬ ((a + 32 : Nat) : Int) < (a : Int) + 32 := by omega
  rw [w_loop]
  simp (maxSteps := 30000000) (disch := omega) only [go_sem, n1]
 | succ d ih =>
  intro j hj
  have h1 : ((a + j : Nat) : Int) < (a : Int) + 32 := by omega
  have hlt : a + j < l.length := by omega
  have e3 : sidx 1 v (.int .i64 ((a + j : Nat) : Int)) = some (a + j) := by rw [sidx_sl hv (by omega) (by simp; omega), Int.toNat_natCast]
  have e4 := fun off => pc_iptr (off := off) (hv.elems fr) (show a + j < (ints l).length by simp; omega)
  simp only [ints_get] at e4
  have e := ih (j + 1) (by omega)
  have et : (l.drop a).take (j + 1) = (l.drop a).take j ++ [l[a + j]] := by
   rw [List.take_succ_eq_append_getElem (by rw [List.length_drop]; omega), List.getElem_drop]
  have e1 : ∀ x : Int, enL [x] = x * x := fun x => by simp [enL]
  rw [et, enL_append, e1, ← Nat.add_assoc, cast1] at e
  have b1 := enL_le ((l.drop a).take j) fun s hs => (okS_mem hk).2 s (List.mem_of_mem_drop (List.mem_of_mem_take hs))
  have b2 : ((l.drop a).take j).length ≤ 32 := by rw [List.length_take]; omega
  have b3 := (okS_mem hk).2 l[a + j] (List.getElem_mem _)
  have b4 := lsq_le b3.1 b3.2
  generalize l[a + j] = x at *
  generalize enL ((l.drop a).take j) = E at *
  generalize (a + j : Nat) = P at *
  rw [w_loop]
  simp (maxSteps := 30000000) (disch := omega) only [go_sem, h1, e3, e4, e]
theorem vbl_out {h : Heap} {v : AV} {l : List Int} (hv : Sl h 1 v (ints l)) (hk : okS l = true) : ∀ (d i : Nat), i + d = nbL l.length →
  runC lib ⟨h.length, h.length, 1, none⟩ (.loop b14_0) ([(0, v), (4, accV (h.length + 0) (0, .dead) 1 (ints ((blocksL l).take i))), (5, .int .i64 ((8 * i : Nat) : Int))], h ++ [accB (0, .dead) 1 (ints ((blocksL l).take i))]) =
   some (.exit 0, ([(4, accV (h.length + 0) (0, .dead) 1 (ints (blocksL l)))], h ++ [accB (0, .dead) 1 (ints (blocksL l))])) := by
 obtain ⟨vv, vc⟩ := Sl_val hv
 have ll := lenv_sl hv.len
 rw [ints_len] at ll
 have h600 := (okS_mem hk).1
 intro d
 induction d with
 | zero =>
  intro i hi
  have hn : ¬ ((8 * i : Nat) : Int) + 32 ≤ l.length := by
   unfold nbL at hi; split at hi <;> omega
  have hb : 8 * i ≤ 1000 := by have := nbL_le h600; omega
  have ht : (blocksL l).take i = blocksL l := List.take_of_length_le (by simp [blocksL]; omega)
  rw [ht, w_loop]
  simp (maxSteps := 30000000) (disch := omega) only [go_sem, ll, hn]
 | succ d ih =>
  intro i hi
  have hlt : i < nbL l.length := by omega
  have h32 : 8 * i + 32 ≤ l.length := by unfold nbL at hlt; split at hlt <;> omega
  have h1 : ((8 * i : Nat) : Int) + 32 ≤ l.length := by omega
  have e := ih (i + 1) (by omega)
  have e8 : ((8 * (i + 1) : Nat) : Int) = ((8 * i : Nat) : Int) + 8 := by omega
  rw [blocks_take hlt, lint_app, lint_one, e8] at e
  have inn := vbl_in hv hk (a := 8 * i) h32 (accV (h.length + 0) (0, .dead) 1 (ints ((blocksL l).take i))) [accB (0, .dead) 1 (ints ((blocksL l).take i))] 32 0 (by omega)
  rw [List.take_zero, show 8 * i + 0 = 8 * i from rfl, show enL [] = 0 from rfl, show enL ((l.drop (8 * i)).take 32) = blkL l i from rfl] at inn
  have hbl : ((blocksL l).take i).length ≤ 100 := by
   have := nbL_le h600
   rw [List.length_take]; simp [blocksL]; omega
  have e5 := app_acc (lo := h.length) (ns := 1) (s := 0) (z := 1) (lim := 17592186044416) (h := h) (fr := [accB (0, .dead) 1 (ints ((blocksL l).take i))]) (b0 := (0, .dead)) (es := ints ((blocksL l).take i)) (xs := [.int .i64 (blkL l i)]) (by omega) (by omega) rfl (by simp; omega)
  generalize (8 * i : Nat) = P at *
  generalize blkL l i = X at *
  rw [w_loop]
  simp (maxSteps := 30000000) (disch := omega) only [go_sem, ll, h1, inn, e5, e]
theorem vblocks_run {h : Heap} {v : AV} {l : List Int} (hv : Sl h 1 v (ints l)) (hl : l.length ≤ 9223372036854775807) (lo : Nat) :
  (run lib).fn 14 [v] h lo = some (if okS l then .tuple [ownV 1 (ints (blocksL l)), .int .i64 0] else .tuple [.own 0 [], .int .i64 180], h) := by
 obtain ⟨vv, vc⟩ := Sl_val hv
 have va := fun fr lo => vvalid_run (hv.app fr) hl lo
 cases hk : okS l with
 | false =>
  rw [hk] at va
  rw [run_closed (x := x14) rfl rfl rfl rfl]
  simp (maxSteps := 30000000) (disch := omega) only [go_sem, x14, vv, vc, va]
 | true =>
  rw [hk] at va
  have e2 := vbl_out hv hk (nbL l.length) 0 (by omega)
  simp only [List.take_zero, show ints [] = [] from rfl, accV_nil, accB_nil, Nat.mul_zero, Int.natCast_zero] at e2
  have e3 := give_acc (s := 0) (z := 1) (h := h) (fr := [accB (0, .dead) 1 (ints (blocksL l))]) (b0 := (0, .dead)) (es := ints (blocksL l)) rfl
  rw [run_closed (x := x14) rfl rfl rfl rfl]
  simp (maxSteps := 30000000) (disch := omega) only [go_sem, x14, vv, vc, va, e2, e3]
theorem visgain_run (g : Int) (h : Heap) (lo : Nat) : (run lib).fn 41 [.int .i64 g] h lo = some (.bool (inB g 0 4096), h) := by
 unfold inB
 rw [run_closed (x := x41) rfl rfl rfl rfl]
 by_cases c : 0 ≤ g
 ·simp (maxSteps := 30000000) (disch := omega) only [go_sem, x41, c]
 ·simp (maxSteps := 30000000) (disch := omega) only [go_sem, x41, c]
theorem audL_tk {g : Int} {es : List Int} {k : Nat} (h : k < es.length) : audL g (es.take (k + 1)) = if audB g es[k] then audL g (es.take k) ++ [es[k]] else audL g (es.take k) := by
 unfold audL
 rw [List.take_succ_eq_append_getElem h, List.filter_append]
 cases c : audB g es[k] <;> simp [c]
theorem vgate1 (cx : Cx) {H : Heap} {v : AV} {es : List Int} (hv : Sl H 1 v (ints es)) (h72 : es.length ≤ 72) {g : Int} (hg : 0 ≤ g ∧ g ≤ 4096) : ∀ (d k : Nat), k + d = es.length → okE (es.take k) →
  runC lib cx (.loop b23_1) ([(0, v), (1, .int .i64 g), (6, .int .i64 (audL g (es.take k)).length), (7, .int .i64 (sumL (audL g (es.take k)))), (8, .int .i64 k)], H) =
   if (es.drop k).all (fun x => inB x 0 34359738368) then some (.exit 0, ([(0, v), (1, .int .i64 g), (6, .int .i64 (audL g es).length), (7, .int .i64 (sumL (audL g es)))], H)) else some (.ret, ([(4, .nilSl), (5, .int .i64 180)], H)) := by
 have lv := lenv_sl hv.len
 rw [ints_len] at lv
 intro d
 induction d with
 | zero =>
  intro k hd _
  obtain rfl : k = es.length := by omega
  rw [List.drop_length, List.take_length, w_loop]
  simp (maxSteps := 30000000) (disch := omega) only [go_sem, lv, Int.lt_irrefl, List.all_nil]
 | succ d ih =>
  intro k hd hE
  have hk' : k < es.length := by omega
  have h1 : (k : Int) < es.length := by omega
  have e3 : sidx 1 v (.int .i64 k) = some k := by rw [sidx_sl hv (by omega) (by simp; omega)]; simp
  have e4 := fun off => pc_iptr (off := off) hv.elems0 (show k < (ints es).length by simp; omega)
  simp only [ints_get] at e4
  rw [List.drop_eq_getElem_cons hk', List.all_cons]
  by_cases c1 : es[k] < 0
  ·rw [inB_f (by omega), Bool.false_and, if_neg Bool.false_ne_true, w_loop]
   generalize es[k] = x at *
   simp (maxSteps := 30000000) (disch := omega) only [go_sem, lv, h1, e3, e4, c1]
  ·by_cases c2 : 34359738368 < es[k]
   ·rw [inB_f (by omega), Bool.false_and, if_neg Bool.false_ne_true, w_loop]
    generalize es[k] = x at *
    simp (maxSteps := 30000000) (disch := omega) only [go_sem, lv, h1, e3, e4, c1, c2]
   ·have eb : 0 ≤ es[k] ∧ es[k] ≤ 34359738368 := by omega
    rw [inB_t eb, Bool.true_and]
    have hE2 : okE (es.take (k + 1)) := by
     refine ⟨by rw [List.length_take]; omega, fun e he => ?_⟩
     rw [List.take_succ_eq_append_getElem hk'] at he
     rcases List.mem_append.mp he with h | h
     ·exact hE.2 e h
     ·rw [List.mem_singleton] at h; rw [h]; exact eb
    have e := ih (k + 1) (by omega) hE2
    rw [audL_tk hk', cast1] at e
    have sb := aud_sum hE g
    generalize (es.drop (k + 1)).all (fun x => inB x 0 34359738368) = q at *
    clear hE hE2 ih
    generalize es[k] = x at *
    generalize audL g (es.take k) = T at *
    have a1 := fun lo => vaud_run (e := x) (g := g) eb hg H lo
    cases c : audB g x with
    | false =>
     rw [c] at e a1
     rw [if_neg Bool.false_ne_true] at e
     rw [w_loop]
     simp (maxSteps := 30000000) (disch := omega) only [go_sem, lv, h1, e3, e4, c1, c2, a1, e]
    | true =>
     rw [c] at e a1
     have es : sumL [x] = x := by simp [sumL]
     rw [if_pos rfl, List.length_append, List.length_singleton, sumL_append, es, cast1] at e
     rw [w_loop]
     simp (maxSteps := 30000000) (disch := omega) only [go_sem, lv, h1, e3, e4, c1, c2, a1, e]
theorem vgate0 {h : Heap} {v : AV} {es : List Int} (hv : Sl h 1 v (ints es)) (hE : okE es) {g : Int} (hg : 0 ≤ g ∧ g ≤ 4096) : ∀ (d k : Nat), k + d = es.length →
  runC lib ⟨h.length, h.length, 1, none⟩ (.loop b23_0) ([(0, v), (1, .int .i64 g), (6, .int .i64 (audL g es).length), (7, .int .i64 (sumL (audL g es))), (9, accV (h.length + 0) (0, .dead) 1 (ints (iL (idxF (gateB g es) (es.take k) 0)))), (10, .int .i64 k)], h ++ [accB (0, .dead) 1 (ints (iL (idxF (gateB g es) (es.take k) 0)))]) =
   some (.exit 2, ([(9, accV (h.length + 0) (0, .dead) 1 (ints (iL (gateL g es))))], h ++ [accB (0, .dead) 1 (ints (iL (gateL g es)))])) := by
 have lv := lenv_sl hv.len
 rw [ints_len] at lv
 have h72 := hE.1
 have sb := aud_sum hE g
 have hgb : ∀ x, gateB g es x = (audB g x && !decide (10 * ((audL g es).length : Int) * x < sumL (audL g es))) := fun x => rfl
 intro d
 induction d with
 | zero =>
  intro k hd
  obtain rfl : k = es.length := by omega
  rw [List.take_length, w_loop]
  have eg : idxF (gateB g es) es 0 = gateL g es := rfl
  rw [eg]
  simp (maxSteps := 30000000) (disch := omega) only [go_sem, lv, Int.lt_irrefl]
 | succ d ih =>
  intro k hd
  have hk' : k < es.length := by omega
  have h1 : (k : Int) < es.length := by omega
  have e3 : sidx 1 v (.int .i64 k) = some k := by rw [sidx_sl hv (by omega) (by simp; omega)]; simp
  have e4 := fun off fr => pc_iptr (off := off) (hv.elems fr) (show k < (ints es).length by simp; omega)
  simp only [ints_get] at e4
  have eb := hE.2 es[k] (List.getElem_mem _)
  have e := ih (k + 1) (by omega)
  rw [idxF_take hk', hgb es[k], cast1] at e
  have al : (iL (idxF (gateB g es) (es.take k) 0)).length ≤ 72 := by
   rw [iL_len, idxF_len]; have := List.length_filter_le (gateB g es) (es.take k); rw [List.length_take] at this; omega
  generalize es[k] = x at *
  generalize hA : iL (idxF (gateB g es) (es.take k) 0) = A at *
  generalize hn : ((audL g es).length : Int) = n at *
  generalize sumL (audL g es) = S at *
  have a1 := fun H lo => vaud_run (e := x) (g := g) eb hg H lo
  have m1 := mul_bd (a := 10 * n) (b := x) (A := 720) (B := 34359738368) (by omega) eb
  cases c : audB g x with
  | false =>
   rw [c] at e a1
   simp only [Bool.false_and, Bool.false_eq_true, if_false, List.append_nil] at e
   rw [hA] at e
   rw [w_loop]
   simp (maxSteps := 30000000) (disch := omega) only [go_sem, lv, h1, e3, e4, a1, e]
  | true =>
   rw [c] at e a1
   by_cases c2 : 10 * n * x < S
   ·rw [decide_eq_true c2] at e
    simp only [Bool.not_true, Bool.and_false, Bool.false_eq_true, if_false, List.append_nil] at e
    rw [hA] at e
    have c3 : ¬ S ≤ 10 * n * x := by omega
    rw [w_loop]
    simp (maxSteps := 30000000) (disch := omega) only [go_sem, lv, h1, e3, e4, a1, c3, e]
   ·rw [decide_eq_false c2] at e
    simp only [Bool.not_false, Bool.and_self, if_true] at e
    have ei : iL (idxF (gateB g es) (es.take k) 0 ++ [k]) = A ++ [(k : Int)] := by rw [← hA]; simp [iL]
    rw [ei, lint_app, lint_one] at e
    have c3 : S ≤ 10 * n * x := by omega
    have e5 := app_acc (lo := h.length) (ns := 1) (s := 0) (z := 1) (lim := 17592186044416) (h := h) (fr := [accB (0, .dead) 1 (ints A)]) (b0 := (0, .dead)) (es := ints A) (xs := [.int .i64 k]) (by omega) (by omega) rfl (by simp; omega)
    rw [w_loop]
    simp (maxSteps := 30000000) (disch := omega) only [go_sem, lv, h1, e3, e4, a1, c3, e5, e]
theorem vgate_run {h : Heap} {v : AV} {es : List Int} (hv : Sl h 1 v (ints es)) (hl : es.length ≤ 9223372036854775807) (g : Int) (lo : Nat) :
  (run lib).fn 23 [v, .int .i64 g] h lo = some (if okEB es && inB g 0 4096 then .tuple [ownV 1 (ints (iL (gateL g es))), .int .i64 0] else .tuple [.own 0 [], .int .i64 180], h) := by
 obtain ⟨vv, vc⟩ := Sl_val hv
 have lv := lenv_sl hv.len
 rw [ints_len] at lv
 have ig := fun H lo => visgain_run g H lo
 rw [run_closed (x := x23) rfl rfl rfl rfl]
 unfold okEB
 by_cases c : (72 : Int) < es.length
 ·rw [decide_eq_false (show ¬ es.length ≤ 72 by omega), Bool.false_and, Bool.false_and]
  simp (maxSteps := 30000000) (disch := omega) only [go_sem, x23, vv, vc, lv, c]
 ·rw [decide_eq_true (show es.length ≤ 72 by omega), Bool.true_and]
  cases hg : inB g 0 4096 with
  | false =>
   rw [hg] at ig
   rw [Bool.and_false]
   simp (maxSteps := 30000000) (disch := omega) only [go_sem, x23, vv, vc, lv, c, ig]
  | true =>
   rw [hg] at ig
   rw [Bool.and_true]
   have hgb : 0 ≤ g ∧ g ≤ 4096 := by unfold inB at hg; simpa using hg
   have l1 := fun fr => vgate1 ⟨h.length, h.length, 1, none⟩ (hv.app fr) (by omega) hgb es.length 0 (by omega) ⟨by simp, by simp⟩
   simp only [List.take_zero, List.drop_zero, show audL g [] = [] from rfl, List.length_nil, show sumL [] = 0 from rfl, Int.natCast_zero] at l1
   cases hq : es.all (fun x => inB x 0 34359738368) with
   | false =>
    rw [hq] at l1
    simp only [Bool.false_eq_true, if_false] at l1
    simp (maxSteps := 30000000) (disch := omega) only [go_sem, x23, vv, vc, lv, c, ig, l1]
   | true =>
    rw [hq] at l1
    simp only [if_true] at l1
    have hE : okE es := okEB_E.mp (by unfold okEB; rw [hq, decide_eq_true (show es.length ≤ 72 by omega)]; rfl)
    have l0 := vgate0 hv hE hgb es.length 0 (by omega)
    simp only [List.take_zero, show iL (idxF (gateB g es) [] 0) = [] from rfl, show ints [] = [] from rfl, accV_nil, accB_nil, Int.natCast_zero] at l0
    have e3 := give_acc (s := 0) (z := 1) (h := h) (fr := [accB (0, .dead) 1 (ints (iL (gateL g es)))]) (b0 := (0, .dead)) (es := ints (iL (gateL g es))) rfl
    simp (maxSteps := 30000000) (disch := omega) only [go_sem, x23, vv, vc, lv, c, ig, l1, l0, e3]
theorem sG_bd {es : List Int} (hE : okE es) : ∀ L : List Nat, (∀ i ∈ L, i < es.length) → 0 ≤ sumG es L ∧ sumG es L ≤ 34359738368 * L.length := by
 intro L
 induction L with
 | nil => intro _; simp [sumG, sumL]
 | cons x L ih =>
  intro hL
  have h2 := ih fun i hi => hL i (List.mem_cons_of_mem _ hi)
  have h3 := hL x (by simp)
  have h4 := hE.2 es[x] (List.getElem_mem _)
  have e : sumG es (x :: L) = es[x] + sumG es L := by unfold sumG; rw [List.map_cons, sumL_cons, List.getElem?_eq_getElem h3]; rfl
  rw [e, List.length_cons]; omega
theorem vcnt_loop (cx : Cx) {H : Heap} {v W : AV} {es : List Int} (hv : Sl H 1 v (ints es)) (hE : okE es) {G : List Nat} (hs : Sl H 1 W (ints (iL G))) (hG : ∀ i ∈ G, i < es.length) (hl : G.length ≤ 72) : ∀ (d k : Nat), k + d = G.length →
  runC lib cx (.loop b42_0) ([(0, v), (6, W), (8, .int .i64 (sumG es (G.take k))), (9, .int .i64 k)], H) =
   some (.exit 0, ([(6, W), (8, .int .i64 (sumG es G))], H)) := by
 have lw := lenv_sl hs.len
 rw [ints_len, iL_len] at lw
 have h72 := hE.1
 intro d
 induction d with
 | zero =>
  intro k hk
  obtain rfl : k = G.length := by omega
  rw [List.take_length, w_loop]
  simp (maxSteps := 30000000) (disch := omega) only [go_sem, lw, Int.lt_irrefl]
 | succ d ih =>
  intro k hk
  have hk' : k < G.length := by omega
  have h1 : (k : Int) < G.length := by omega
  have e3 : sidx 1 W (.int .i64 k) = some k := by rw [sidx_sl hs (by omega) (by simp [iL_len]; omega)]; simp
  have e4 := fun off => pc_iptr (off := off) hs.elems0 (show k < (ints (iL G)).length by simp [iL_len]; omega)
  have eg : (iL G)[k]'(by simpa [iL_len] using hk') = (G[k] : Int) := by simp [iL]
  simp only [ints_get, eg] at e4
  have hi := hG G[k] (List.getElem_mem _)
  have f3 : sidx 1 v (.int .i64 (G[k] : Nat)) = some G[k] := by rw [sidx_sl hv (by omega) (by simp; omega)]; simp
  have f4 := fun off => pc_iptr (off := off) hv.elems0 (show G[k] < (ints es).length by simp; omega)
  simp only [ints_get] at f4
  have e := ih (k + 1) (by omega)
  have et : sumG es (G.take (k + 1)) = sumG es (G.take k) + es[G[k]] := by
   unfold sumG
   rw [List.take_succ_eq_append_getElem hk', List.map_append, sumL_append]
   congr 1
   simp [sumL, hi]
  rw [et, cast1] at e
  have eb := hE.2 es[G[k]] (List.getElem_mem _)
  have sb := sG_bd hE (G.take k) fun i hi => hG i (List.mem_of_mem_take hi)
  have tl : (G.take k).length ≤ 72 := by rw [List.length_take]; omega
  generalize es[G[k]] = x at *
  generalize sumG es (G.take k) = S at *
  rw [w_loop]
  simp (maxSteps := 30000000) (disch := omega) only [go_sem, lw, h1, e3, e4, f3, f4, e]
theorem vcounted_run {h : Heap} {v : AV} {es : List Int} (hv : Sl h 1 v (ints es)) (hE : okE es) {g : Int} (hg : 0 ≤ g ∧ g ≤ 4096) (lo : Nat) :
  (run lib).fn 42 [v, .int .i64 g] h lo = some (.tuple [.int .i64 (cntL g es).length, .int .i64 (sumL (cntL g es))], h) := by
 obtain ⟨vv, vc⟩ := Sl_val hv
 have gt := fun lo => vgate_run hv (by have := hE.1; omega) g lo
 rw [okEB_E.mpr hE, inB_t hg] at gt
 have hm : ∀ i ∈ gateL g es, i < es.length := fun i hi => by
  obtain ⟨_, h2, _⟩ := idxF_mem (gateB g es) es 0 i hi
  omega
 have hlen := gate_len g es
 have cb := cnt_bound hE g
 have sW := Sl.lstV h 1 (ints (iL (gateL g es)))
 have lp := vcnt_loop ⟨h.length, h.length, 0, none⟩ hv hE sW hm (by omega) (gateL g es).length 0 (by omega)
 have eS : sumG es (gateL g es) = sumL (cntL g es) := by unfold sumG; rw [gate_map]
 have e0 : sumG es ((gateL g es).take 0) = 0 := rfl
 have z0 : ((0 : Nat) : Int) = 0 := rfl
 rw [eS, e0, z0] at lp
 have ll := lenv_sl sW.len
 rw [ints_len, iL_len, hlen] at ll
 rw [run_closed (x := x42) rfl rfl rfl rfl]
 simp (maxSteps := 30000000) (disch := omega) only [go_sem, x42, vv, vc, gt, lp, ll, Bool.and_self]
end Go.VI.Loud
namespace Go.VI.Loud
open Go.VI.Num
/- BIGSTEPS -/
theorem vof_run {n d : Int} (hd : d ≠ 0) (hn : -10000000000000 ≤ n ∧ n ≤ 10000000000000) (hd1 : -1000000000 ≤ d ∧ d ≤ 1000000000) (H : Heap) (lo : Nat) : (run lib).fn 43 [.int .i64 n, .int .i64 d] H lo = some (.tuple [rt (Rat.divInt n d), .int .i64 0], H) := by
 have := sof_run (n := n) (d := d) (sm21 (by omega)) (sm21 (by omega)) ⟨by omega, by omega⟩ ⟨by omega, by omega⟩ H lo
 unfold makeQ at this
 rw [if_neg hd] at this
 exact this
theorem vmeas_ok {h : Heap} {v : AV} {l : List Int} (hv : Sl h 1 v (ints l)) (hk : okS l = true) {g : Int} (hg : 0 ≤ g ∧ g ≤ 4096) (lo : Nat) : (run lib).fn 21 [v, .int .i64 g] h lo = some (.tuple [rt (measQ (blocksL l) g), .int .i64 0], h) := by
 obtain ⟨vv, vc⟩ := Sl_val hv
 have hl : l.length ≤ 9223372036854775807 := by have := (okS_mem hk).1; omega
 have hE := blocks_okE hk
 have bl := fun fr lo => vblocks_run (hv.app fr) hl lo
 rw [hk] at bl
 have ig := fun H lo => visgain_run g H lo
 rw [inB_t hg] at ig
 have ct := fun H lo => vcounted_run (Sl.lstV H 1 (ints (blocksL l))) hE hg lo
 have cb := cnt_bound hE g
 have gg := mul_bd hg hg
 have em : measQ (blocksL l) g = Rat.divInt (sumL (cntL g (blocksL l))) (32 * max (cntL g (blocksL l)).length 1) * Rat.divInt (g * g) 1048576 := rfl
 have e00 : (cntL g (blocksL l)).length = 0 → sumL (cntL g (blocksL l)) = 0 := cnt_nil
 rw [em]
 generalize blocksL l = B at *
 generalize (cntL g B).length = N at *
 generalize sumL (cntL g B) = S at *
 have o1 := fun H lo => vof_run (n := 0) (d := 1) (by decide) (by decide) (by decide) H lo
 have o3 := fun H lo => vof_run (n := g * g) (d := 1048576) (by decide) (by omega) (by decide) H lo
 simp only [if_true] at bl
 rw [run_closed (x := x21) rfl rfl rfl rfl]
 by_cases hN : N = 0
 ·subst hN
  have z0 : ((0 : Nat) : Int) = 0 := rfl
  have ez : Rat.divInt S (32 * ((max 0 1 : Nat) : Int)) * Rat.divInt (g * g) 1048576 = Rat.divInt 0 1 := by
   rw [e00 rfl]
   have e1 : Rat.divInt 0 (32 * ((max 0 1 : Nat) : Int)) = 0 := by simp
   have e2 : Rat.divInt 0 1 = 0 := by simp
   rw [e1, e2, Rat.zero_mul]
  rw [ez]
  simp only [rt, frV] at o1 ⊢
  rw [z0] at ct
  simp (maxSteps := 30000000) (disch := omega) only [go_sem, x21, vv, vc, bl, ig, ct, o1]
 ·have e1 : ((max N 1 : Nat) : Int) = N := by omega
  rw [e1]
  have n0 : ¬ (N : Int) = 0 := by omega
  have o2 := fun H lo => vof_run (n := S) (d := 32 * (N : Int)) (by omega) (by omega) (by omega) H lo
  have f1 : FitQ (Rat.divInt S (32 * (N : Int))) := fitQ21 (by omega) (by omega) (by omega)
  have f2 : FitQ (Rat.divInt (g * g) 1048576) := fitQ21 (by decide) (by omega) (by decide)
  have mu := fun H lo => smul_run f1 f2 H lo
  have d1 : (Rat.divInt S (32 * (N : Int))).num.natAbs ≤ S.natAbs ∧ (Rat.divInt S (32 * (N : Int))).den ≤ (32 * (N : Int)).natAbs := divInt_abs (by omega)
  have d2 : (Rat.divInt (g * g) 1048576).num.natAbs ≤ (g * g).natAbs ∧ (Rat.divInt (g * g) 1048576).den ≤ (1048576 : Int).natAbs := divInt_abs (by decide)
  obtain ⟨m1, m2⟩ := mulQ_small (a := Rat.divInt S (32 * (N : Int))) (b := Rat.divInt (g * g) 1048576) (A := 2473901162496) (B := 16777216) (C := 2304) (D := 1048576) (by omega) (by omega) (by omega) (by have := d2.2; simp at this; omega) (by decide) (by decide)
  rw [m1] at mu
  clear m1 m2 d1 d2 f1 f2 em e00 o1
  generalize Rat.divInt S (32 * (N : Int)) = Q at *
  generalize Rat.divInt (g * g) 1048576 = R at *
  generalize Q * R = X at *
  simp only [resO, rt, frV] at o2 o3 mu ⊢
  simp (maxSteps := 30000000) (disch := omega) only [go_sem, x21, vv, vc, bl, ig, ct, n0, o2, o3, mu]
theorem vmeas_bad {h : Heap} {v : AV} {l : List Int} (hv : Sl h 1 v (ints l)) (hl : l.length ≤ 9223372036854775807) {g : Int} (hb : (okS l && inB g 0 4096) = false) (lo : Nat) : (run lib).fn 21 [v, .int .i64 g] h lo = some (.tuple [.agg [.str [], .str []], .int .i64 180], h) := by
 obtain ⟨vv, vc⟩ := Sl_val hv
 have bl := fun fr lo => vblocks_run (hv.app fr) hl lo
 have ig := fun H lo => visgain_run g H lo
 rw [run_closed (x := x21) rfl rfl rfl rfl]
 cases hk : okS l with
 | false =>
  rw [hk] at bl
  simp only [Bool.false_eq_true, if_false] at bl
  simp (maxSteps := 30000000) (disch := omega) only [go_sem, x21, vv, vc, bl]
 | true =>
  rw [hk, Bool.true_and] at hb
  rw [hk] at bl
  rw [hb] at ig
  simp only [if_true] at bl
  simp (maxSteps := 30000000) (disch := omega) only [go_sem, x21, vv, vc, bl, ig]
theorem vat_run {H : Heap} {v : AV} {l : List Int} (hv : Sl H 1 v (ints l)) (hl : l.length ≤ 600) (i : Int) (lo : Nat) : (run lib).fn 35 [v, .int .i64 i] H lo = some (.int .i64 (atL l i), H) := by
 obtain ⟨vv, vc⟩ := Sl_val hv
 have ll := lenv_sl hv.len
 rw [ints_len] at ll
 rw [run_closed (x := x35) rfl rfl rfl rfl]
 by_cases c1 : i < 0
 ·rw [atL_out (.inl c1)]
  simp (maxSteps := 30000000) (disch := omega) only [go_sem, x35, vv, vc, ll, c1]
 ·by_cases c2 : (l.length : Int) ≤ i
  ·rw [atL_out (.inr c2)]
   simp (maxSteps := 30000000) (disch := omega) only [go_sem, x35, vv, vc, ll, c1, c2]
  ·have e3 : sidx 1 v (.int .i64 i) = some i.toNat := sidx_sl hv (by omega) (by simp; omega)
   have e4 := fun off => pc_iptr (off := off) hv.elems0 (show i.toNat < (ints l).length by simp; omega)
   simp only [ints_get] at e4
   have ea : atL l i = l[i.toNat]'(by omega) := by unfold atL; rw [if_pos (by omega), List.getElem?_eq_getElem (by omega)]; rfl
   rw [ea]
   simp (maxSteps := 30000000) (disch := omega) only [go_sem, x35, vv, vc, ll, c1, c2, e3, e4]
theorem vrow_loop (cx : Cx) {H : Heap} {vs : List Int} (hb : ∀ x ∈ vs, -6000000 ≤ x ∧ x ≤ 6000000) (hl : vs.length ≤ 100) (u : AV) (i : Int) : ∀ (d k : Nat), k + d = vs.length → ∀ o : Int,
  runC lib cx (.loop b16_1) ([(0, u), (4, .int .i64 o), (5, .int .i64 i), (72, .lsf 1 (ints vs)), (73, .int .i64 vs.length), (74, .int .i64 k)], H) = some (.exit 2, ([(0, u), (4, .int .i64 ((vs.drop k).foldl mx3 o)), (5, .int .i64 i)], H)) := by
 have hv := Sl.lsf H 1 (ints vs)
 intro d
 induction d with
 | zero =>
  intro k hk o
  obtain rfl : k = vs.length := by omega
  rw [List.drop_length, w_loop]
  simp (maxSteps := 30000000) (disch := omega) only [go_sem, Int.lt_irrefl, List.foldl_nil]
 | succ d ih =>
  intro k hk o
  have hk' : k < vs.length := by omega
  have h1 : (k : Int) < vs.length := by omega
  have e3 : sidx 1 (.lsf 1 (ints vs)) (.int .i64 k) = some k := by rw [sidx_sl hv (by omega) (by simp; omega)]; simp
  have e4 := fun off => pc_iptr (off := off) hv.elems0 (show k < (ints vs).length by simp; omega)
  simp only [ints_get] at e4
  have bx := hb vs[k] (List.getElem_mem _)
  have e := ih (k + 1) (by omega) (mx3 o vs[k])
  rw [List.drop_eq_getElem_cons hk', List.foldl_cons]
  rw [cast1] at e
  generalize vs[k] = x at *
  have em : mx3 o x = max (max o x) (-x) := rfl
  rw [em] at e ⊢
  rw [w_loop]
  simp (maxSteps := 30000000) (disch := omega) only [go_sem, h1, e3, e4, e]
theorem vpeak_loop {h : Heap} {v : AV} {l : List Int} (hv : Sl h 1 v (ints l)) (hk : okS l = true) (lo : Nat) : ∀ (n : Nat) (i o : Int), i + n = l.length + 3 → -3 ≤ i → 0 ≤ o ∧ o ≤ 5242880 →
  runC lib ⟨lo, h.length, 0, none⟩ (.loop b16_0) ([(0, v), (4, .int .i64 o), (5, .int .i64 i)], h) = some (.exit 0, ([(4, .int .i64 (pkF l n i o))], h)) := by
 have ll := lenv_sl hv.len
 rw [ints_len] at ll
 have h600 := (okS_mem hk).1
 have at1 := fun i lo => vat_run hv h600 i lo
 intro n
 induction n with
 | zero =>
  intro i o hi _ ho
  have c1 : ¬ i < (l.length : Int) + 3 := by omega
  unfold pkF
  rw [w_loop]
  simp (maxSteps := 30000000) (disch := omega) only [go_sem, ll, c1]
 | succ n ih =>
  intro i o hi hi2 ho
  have c1 : i < (l.length : Int) + 3 := by omega
  have e := ih (i + 1) (oneL l o i) (by omega) (by omega) (oneL_bd hk ho)
  have a0 := atL_bd hk (i - 1)
  have a1 := atL_bd hk i
  have a2 := atL_bd hk (i + 1)
  have a3 := atL_bd hk (i + 2)
  have eo : oneL l o i = mx3 (mx3 (mx3 (mx3 o (128 * atL l i)) (-9 * atL l (i - 1) + 111 * atL l i + 29 * atL l (i + 1) - 3 * atL l (i + 2))) (-8 * atL l (i - 1) + 72 * atL l i + 72 * atL l (i + 1) - 8 * atL l (i + 2))) (-3 * atL l (i - 1) + 29 * atL l i + 111 * atL l (i + 1) - 9 * atL l (i + 2)) := by
   unfold oneL
   congr 1
   ·congr 1
    ·congr 1
     ·congr 1
      unfold valL; omega
     ·unfold valL; omega
    ·unfold valL; omega
   ·unfold valL; omega
  unfold pkF
  rw [eo] at e ⊢
  have t0 := fun lo => at1 (i - 1) lo
  have t1 := fun lo => at1 i lo
  have t2 := fun lo => at1 (i + 1) lo
  have t3 := fun lo => at1 (i + 2) lo
  clear at1
  generalize atL l (i - 1) = A at *
  generalize atL l (i + 1) = C at *
  generalize atL l (i + 2) = D at *
  generalize atL l i = B at *
  have rw4 := fun o => vrow_loop ⟨lo, h.length, 0, none⟩ (H := h) (vs := [128 * B, -9 * A + 111 * B + 29 * C - 3 * D, -8 * A + 72 * B + 72 * C - 8 * D, -3 * A + 29 * B + 111 * C - 9 * D]) (fun x hx => by
   simp only [List.mem_cons, List.mem_nil_iff, or_false] at hx
   rcases hx with rfl | rfl | rfl | rfl <;> omega) (by simp) v i 4 0 rfl o
  simp only [List.drop_zero, List.foldl_cons, List.foldl_nil, ints, List.map_cons, List.map_nil, List.length_cons, List.length_nil, Int.natCast_zero] at rw4
  have c4 : ((0 + 1 + 1 + 1 + 1 : Nat) : Int) = 4 := rfl
  have l4 : ∀ a b c d : AV, lenv false (.lsf 1 [a, b, c, d]) = some (.int .i64 4) := fun _ _ _ _ => rfl
  rw [c4] at rw4
  rw [w_loop]
  simp (maxSteps := 30000000) (disch := omega) only [go_sem, ll, c1, t0, t1, t2, t3, l4, rw4, e]
theorem peakR_is (l : List Int) : pkF l (l.length + 6) (-3) 0 = peakL l := by
 have h : IsPk l (pkF l (l.length + 6) (-3) 0) := by
  obtain ⟨h1, h2, h3⟩ := pkF_spec l (l.length + 6) (-3) 0
  refine ⟨h1, fun i x hx => ?_, h3⟩
  by_cases c : i < -2 ∨ (l.length : Int) < i
  ·rw [hit_out c hx]; exact h1
  ·exact h2 i x (by omega) (by omega) hx
 exact h.same (peakL_is l) (fun i x hx => ⟨i, hx⟩) (fun i x hx => ⟨i, hx⟩)
theorem vpeak_run {h : Heap} {v : AV} {l : List Int} (hv : Sl h 1 v (ints l)) (hl : l.length ≤ 9223372036854775807) (lo : Nat) :
  (run lib).fn 16 [v] h lo = some (.tuple [.int .i64 (if okS l then peakL l else 0), .int .i64 (if okS l then 0 else 180)], h) := by
 obtain ⟨vv, vc⟩ := Sl_val hv
 have va := fun lo => vvalid_run hv hl lo
 cases hk : okS l with
 | false =>
  rw [hk] at va
  rw [run_closed (x := x16) rfl rfl rfl rfl]
  simp (maxSteps := 30000000) (disch := omega) only [go_sem, x16, vv, vc, va]
 | true =>
  rw [hk] at va
  have lp := vpeak_loop hv hk h.length (l.length + 6) (-3) 0 (by omega) (by omega) (by omega)
  rw [peakR_is] at lp
  rw [run_closed (x := x16) rfl rfl rfl rfl]
  simp (maxSteps := 30000000) (disch := omega) only [go_sem, x16, vv, vc, va, lp]
theorem gFind_stop {es : List Int} {pk m c : Int} {k : Nat} : ∀ n : Nat, k ≤ n → (∀ j : Nat, k < j → j ≤ n → okG es pk m c (j : Nat) = false) → gFind es pk m c n = gFind es pk m c k
 | 0, h, _ => by
  obtain rfl : k = 0 := by omega
  rfl
 | n + 1, h, ho => by
  by_cases e : k = n + 1
  ·subst e; rfl
  ·have o := ho (n + 1) (by omega) (by omega)
   have i := gFind_stop n (by omega) fun j h1 h2 => ho j h1 (by omega)
   rw [← i]
   show (if okG es pk m c ((n + 1 : Nat) : Int) then n + 1 else gFind es pk m c n) = _
   rw [o]; rfl
theorem vgain_loop {h : Heap} {E : AV} {es : List Int} (hv : Sl h 1 E (ints es)) (hE : okE es) {pk most c : Int} (hp : 0 ≤ pk ∧ pk ≤ 5242880) (hm : 0 ≤ most ∧ most ≤ 1073741824) (hc : 0 ≤ c ∧ c ≤ 8388608) (lo : Nat) : ∀ d k : Nat, k + d = 4096 →
  runC lib ⟨lo, h.length, 0, none⟩ (.loop b25_0) ([(1, .int .i64 most), (2, .int .i64 c), (8, E), (10, .int .i64 pk), (12, .int .i64 (gFind es pk most c k : Nat)), (13, .int .i64 ((k + 1 : Nat) : Int))], h) = some (.exit 0, ([(12, .int .i64 (gFind es pk most c 4096 : Nat))], h)) := by
 intro d
 induction d with
 | zero =>
  intro k hk
  obtain rfl : k = 4096 := by omega
  have n1 : ¬ ((4096 + 1 : Nat) : Int) ≤ 4096 := by decide
  rw [w_loop]
  simp (maxSteps := 30000000) (disch := omega) only [go_sem, n1]
 | succ d ih =>
  intro k hn
  have e := ih (k + 1) (by omega)
  obtain ⟨G, hG⟩ : ∃ G : Int, ((k + 1 : Nat) : Int) = G := ⟨_, rfl⟩
  have eG : ((k + 1 + 1 : Nat) : Int) = G + 1 := by omega
  have g0 : 0 < G := by omega
  have g1 : 0 ≤ G ∧ G ≤ 4096 := by omega
  have g4 : G ≤ 4096 := g1.2
  have ct := fun lo => vcounted_run hv hE g1 lo
  have cb := cnt_bound hE G
  have p1 := mul_bd hp g1
  have p2 := mul_bd ⟨cb.2.1, cb.2.2⟩ g1
  have p3 := mul_bd (a := most * 32) (A := 34359738368) (b := ((cntL G es).length : Int)) (B := 72) (by omega) (by omega)
  have ok := okG_split es pk most c G
  have gf : gFind es pk most c (k + 1) = if okG es pk most c G then k + 1 else gFind es pk most c k := by rw [← hG]; rfl
  have st : c * 1024 < pk * G → gFind es pk most c 4096 = gFind es pk most c k := fun hx => gFind_stop 4096 (by omega) fun j h1 h2 => by
   have q : pk * G ≤ pk * (j : Int) := Int.mul_le_mul_of_nonneg_left (by omega) hp.1
   unfold okG
   rw [decide_eq_false (show ¬ pk * (j : Int) ≤ c * 1024 by omega), Bool.false_and]
  rw [hG]
  rw [eG, gf, ok] at e
  clear ok gf ih
  generalize ((cntL G es).length : Int) = N at *
  generalize sumL (cntL G es) = S at *
  have q0 : 0 ≤ most * 32 * N * 1048576 := by omega
  have q1 : 0 ≤ most * 32 * N * 1048576 / G := Int.ediv_nonneg q0 (by omega)
  have q2 : most * 32 * N * 1048576 / G ≤ most * 32 * N * 1048576 := Int.ediv_le_self _ q0
  have q3 : most * 32 * N * 1024 * 1024 = most * 32 * N * 1048576 := by omega
  rw [w_loop]
  by_cases c1 : c * 1024 < pk * G
  ·have c1' : ¬ pk * G ≤ c * 1024 := by omega
   rw [st c1]
   clear st e
   simp (maxSteps := 30000000) (disch := omega) only [go_sem, g4, c1']
  ·have c1' : pk * G ≤ c * 1024 := by omega
   rw [decide_eq_true c1', Bool.true_and] at e
   clear st
   by_cases c2 : S * G ≤ most * 32 * N * 1048576 / G
   ·rw [decide_eq_true c2, if_pos rfl, hG] at e
    simp (maxSteps := 30000000) (disch := omega) only [go_sem, g4, c1', ct, q3, c2, e]
   ·rw [decide_eq_false c2, if_neg Bool.false_ne_true] at e
    simp (maxSteps := 30000000) (disch := omega) only [go_sem, g4, c1', ct, q3, c2, e]
theorem vgain_ok {h : Heap} {v : AV} {l : List Int} (hv : Sl h 1 v (ints l)) (hk : okS l = true) {most c : Int} (hm : 0 ≤ most ∧ most ≤ 1073741824) (hc : 0 ≤ c ∧ c ≤ 8388608) (lo : Nat) :
  (run lib).fn 25 [v, .int .i64 most, .int .i64 c] h lo = some (.tuple [.int .i64 (gainL l most c : Nat), .int .i64 0], h) := by
 obtain ⟨vv, vc⟩ := Sl_val hv
 have hl : l.length ≤ 9223372036854775807 := by have := (okS_mem hk).1; omega
 have hE := blocks_okE hk
 have bl := fun lo => vblocks_run hv hl lo
 have pe := fun lo => vpeak_run hv hl lo
 rw [hk] at bl pe
 simp only [if_true] at bl pe
 have lp := vgain_loop (Sl.lstV h 1 (ints (blocksL l))) hE (peak_bd hk) hm hc h.length 4096 0 rfl
 have e0 : gFind (blocksL l) (peakL l) most c 0 = 0 := rfl
 have eg : gFind (blocksL l) (peakL l) most c 4096 = gainL l most c := rfl
 have z0 : ((0 : Nat) : Int) = 0 := rfl
 have z1 : ((0 + 1 : Nat) : Int) = 1 := rfl
 rw [e0, eg, z0, z1] at lp
 have m0 : ¬ most < 0 := by omega
 have m1 : ¬ 1073741824 < most := by omega
 have c0 : ¬ c < 0 := by omega
 have c1 : ¬ 8388608 < c := by omega
 generalize gainL l most c = G at *
 rw [run_closed (x := x25) rfl rfl rfl rfl]
 simp (maxSteps := 30000000) (disch := omega) only [go_sem, x25, vv, vc, bl, pe, m0, m1, c0, c1, lp]
theorem vgain_bad {h : Heap} {v : AV} {l : List Int} (hv : Sl h 1 v (ints l)) (hl : l.length ≤ 9223372036854775807) {most c : Int} (hb : (okS l && (inB most 0 1073741824 && inB c 0 8388608)) = false) (lo : Nat) :
  (run lib).fn 25 [v, .int .i64 most, .int .i64 c] h lo = some (.tuple [.int .i64 0, .int .i64 180], h) := by
 obtain ⟨vv, vc⟩ := Sl_val hv
 have bl := fun lo => vblocks_run hv hl lo
 have pe := fun lo => vpeak_run hv hl lo
 rw [run_closed (x := x25) rfl rfl rfl rfl]
 cases hk : okS l with
 | false =>
  rw [hk] at bl pe
  simp only [Bool.false_eq_true, if_false] at bl pe
  simp (maxSteps := 30000000) (disch := omega) only [go_sem, x25, vv, vc, bl, pe]
 | true =>
  rw [hk] at bl pe
  rw [hk, Bool.true_and] at hb
  simp only [if_true] at bl pe
  by_cases m0 : most < 0
  ·simp (maxSteps := 30000000) (disch := omega) only [go_sem, x25, vv, vc, bl, pe, m0]
  ·by_cases m1 : 1073741824 < most
   ·simp (maxSteps := 30000000) (disch := omega) only [go_sem, x25, vv, vc, bl, pe, m0, m1]
   ·rw [inB_t ⟨by omega, by omega⟩, Bool.true_and] at hb
    by_cases c0 : c < 0
    ·simp (maxSteps := 30000000) (disch := omega) only [go_sem, x25, vv, vc, bl, pe, m0, m1, c0]
    ·by_cases c1 : 8388608 < c
     ·simp (maxSteps := 30000000) (disch := omega) only [go_sem, x25, vv, vc, bl, pe, m0, m1, c0, c1]
     ·rw [inB_t ⟨by omega, by omega⟩] at hb
      cases hb
end Go.VI.Loud
namespace Go.VI.Loud
open Go.VI.Num
/- BIGSTEPS -/
theorem meas_same {s : AV} {l : List Int} (hs : ∀ H, Sl H 1 s (ints l)) (hl : l.length ≤ 1000) (g : Int) : ∃ a b e, (∀ H lo, (run lib).fn 20 [s, .int .i64 g] H lo = some (.tuple [.agg [.str a, .str b], .int .i64 e], H)) ∧ ∀ H lo, (run lib).fn 21 [s, .int .i64 g] H lo = some (.tuple [.agg [.str a, .str b], .int .i64 e], H) := by
 cases c : okS l && inB g 0 4096 with
 | false => exact ⟨[], [], 180, fun H lo => umeas_bad (hs H) (by omega) c lo, fun H lo => vmeas_bad (hs H) (by omega) c lo⟩
 | true =>
  simp only [Bool.and_eq_true] at c
  have hg : 0 ≤ g ∧ g ≤ 4096 := by have := c.2; unfold inB at this; simpa using this
  exact ⟨_, _, 0, fun H lo => umeas_ok (hs H) c.1 hg lo, fun H lo => vmeas_ok (hs H) c.1 hg lo⟩
theorem gain_same {s : AV} {l : List Int} (hs : ∀ H, Sl H 1 s (ints l)) (hl : l.length ≤ 1000) (m c : Int) : ∃ r e, (∀ H lo, (run lib).fn 24 [s, .int .i64 m, .int .i64 c] H lo = some (.tuple [.int .i64 r, .int .i64 e], H)) ∧ ∀ H lo, (run lib).fn 25 [s, .int .i64 m, .int .i64 c] H lo = some (.tuple [.int .i64 r, .int .i64 e], H) := by
 cases q : okS l && (inB m 0 1073741824 && inB c 0 8388608) with
 | false => exact ⟨0, 180, fun H lo => ugain_bad (hs H) (by omega) q lo, fun H lo => vgain_bad (hs H) (by omega) q lo⟩
 | true =>
  simp only [Bool.and_eq_true] at q
  have hm : 0 ≤ m ∧ m ≤ 1073741824 := by have := q.2.1; unfold inB at this; simpa using this
  have hc : 0 ≤ c ∧ c ≤ 8388608 := by have := q.2.2; unfold inB at this; simpa using this
  exact ⟨_, 0, fun H lo => ugain_ok (hs H) q.1 hm hc lo, fun H lo => vgain_ok (hs H) q.1 hm hc lo⟩
theorem weak1_ownV' (z : Nat) (es : List AV) : weak1 (ownV z es) = lstV z es := by unfold ownV lstV; split <;> rfl
theorem gate_same {E : AV} {es : List Int} (hE : ∀ H, Sl H 1 E (ints es)) (hl : es.length ≤ 1000) (g : Int) (H : Heap) (lo : Nat) : ∃ V W X Y e, (run lib).fn 22 [E, .int .i64 g] H lo = some (.tuple [V, .int .i64 e], H) ∧ weak1 V = W ∧
  (run lib).fn 23 [E, .int .i64 g] H lo = some (.tuple [X, .int .i64 e], H) ∧ weak1 X = Y ∧ ∀ H lo, (run lib).fn 19 [W, Y] H lo = some (.bool true, H) := by
 have v := vgate_run (hE H) (by omega) g lo
 cases c : okEB es && inB g 0 4096 with
 | false =>
  rw [c] at v
  refine ⟨.own 0 [], .lst 0 [], .own 0 [], .lst 0 [], 180, ugate_bad (hE H) (by omega) c lo, rfl, v, rfl, fun H lo => ?_⟩
  have := vints_run (Sl.lst0 H 1 0) (Sl.lst0 H 1 0) (l := []) (m := []) (by simp) lo
  rw [this]; rfl
 | true =>
  rw [c] at v
  simp only [Bool.and_eq_true] at c
  have hg : 0 ≤ g ∧ g ≤ 4096 := by have := c.2; unfold inB at this; simpa using this
  have hO := okEB_E.mp c.1
  obtain ⟨V, W, a1, a2, a3⟩ := ugate_ok (hE H) hO hg lo
  refine ⟨V, W, _, _, 0, a1, a2, v, weak1_ownV' _ _, fun H lo => ?_⟩
  have gl : (iL (gateL g es)).length ≤ 9223372036854775807 := by
   rw [iL_len, gate_len]
   have := (cnt_bound hO g).1
   omega
  have := vints_run (a3.sl H) (Sl.lstV H 1 (ints (iL (gateL g es)))) gl lo
  rw [this, decide_eq_true rfl]
theorem blocks_same {s : AV} {l : List Int} (hs : ∀ H, Sl H 1 s (ints l)) (hl : l.length ≤ 1000) : ∃ X Y e, (∀ H lo, (run lib).fn 13 [s] H lo = some (.tuple [X, .int .i64 e], H)) ∧ (∀ H lo, (run lib).fn 14 [s] H lo = some (.tuple [X, .int .i64 e], H)) ∧ weak1 X = Y ∧ ∀ H lo, (run lib).fn 19 [Y, Y] H lo = some (.bool true, H) := by
 have a := fun H lo => ublocks_run (hs H) (by omega) lo
 have b := fun H lo => vblocks_run (hs H) (by omega) lo
 cases c : okS l with
 | false =>
  rw [c] at a b
  refine ⟨.own 0 [], .lst 0 [], 180, a, b, rfl, fun H lo => ?_⟩
  have := vints_run (Sl.lst0 H 1 0) (Sl.lst0 H 1 0) (l := []) (m := []) (by simp) lo
  rw [this]; rfl
 | true =>
  rw [c] at a b
  refine ⟨_, _, 0, a, b, weak1_ownV' _ _, fun H lo => ?_⟩
  have hb := (blocks_okE c).1
  have := vints_run (Sl.lstV H 1 (ints (blocksL l))) (Sl.lstV H 1 (ints (blocksL l))) (by omega) lo
  rw [this, decide_eq_true rfl]
theorem eq_idn (s t : List UInt8) : eqvv true [.s, .s] (.agg [.str s, .str t]) (.agg [.str s, .str t]) = some (.bool false) := by
 rw [eq_fr]; simp
theorem m_round {h : Heap} {s E SL : AV} {l es gs ms cs : List Int} (hs : ∀ H, Sl H 1 s (ints l)) (hl : l.length ≤ 1000) (hE : ∀ H, Sl H 1 E (ints es)) (hel : es.length ≤ 1000) (hg : gs.length = 2) (hm : ms.length = 2) (hc : cs.length = 2) (i : Int) (w0 w1 : Nat) (b0 b1 : Blk) {k : Nat} (hk : k < 2) : ∃ p q,
  runC lib ⟨h.length, h.length, 2, none⟩ (.loop b3_1) ([(2, E), (13, .bool true), (14, SL), (15, .lsf 1 (ints gs)), (16, .lsf 1 (ints ms)), (17, .lsf 1 (ints cs)), (18, .int .i64 i), (19, s), (28, .int .i64 k)], h ++ [(w0, b0), (w1, b1)]) =
   runC lib ⟨h.length, h.length, 2, none⟩ (.loop b3_1) ([(2, E), (13, .bool true), (14, SL), (15, .lsf 1 (ints gs)), (16, .lsf 1 (ints ms)), (17, .lsf 1 (ints cs)), (18, .int .i64 i), (19, s), (28, .int .i64 ((k : Int) + 1))], h ++ [p, q]) := by
 have h1 : (k : Int) < 2 := by omega
 have e1 : sidx 1 (.lsf 1 (ints gs)) (.int .i64 k) = some k := by rw [sidx_sl (Sl.lsf h 1 (ints gs)) (by omega) (by simp; omega)]; simp
 have e2 : sidx 1 (.lsf 1 (ints ms)) (.int .i64 k) = some k := by rw [sidx_sl (Sl.lsf h 1 (ints ms)) (by omega) (by simp; omega)]; simp
 have e3 : sidx 1 (.lsf 1 (ints cs)) (.int .i64 k) = some k := by rw [sidx_sl (Sl.lsf h 1 (ints cs)) (by omega) (by simp; omega)]; simp
 have f1 := fun off H => pc_iptr (off := off) (Sl.lsf H 1 (ints gs)).elems0 (show k < (ints gs).length by simp; omega)
 have f2 := fun off H => pc_iptr (off := off) (Sl.lsf H 1 (ints ms)).elems0 (show k < (ints ms).length by simp; omega)
 have f3 := fun off H => pc_iptr (off := off) (Sl.lsf H 1 (ints cs)).elems0 (show k < (ints cs).length by simp; omega)
 simp only [ints_get] at f1 f2 f3
 obtain ⟨a, b, e, m1, m2⟩ := meas_same hs hl (gs[k]'(by omega))
 obtain ⟨r, u, n1, n2⟩ := gain_same hs hl (ms[k]'(by omega)) (cs[k]'(by omega))
 obtain ⟨V, W, X, Y, x, g1, g2, g3, g4, g5⟩ := gate_same hE hel (gs[k]'(by omega)) (h ++ [(w0 + 1, .box [.str a, .str b]), (w1 + 1, .box [.str a, .str b])]) h.length
 refine ⟨(w0 + 1, .box [.str a, .str b]), (w1 + 1, .box [.str a, .str b]), ?_⟩
 generalize gs[k]'(by omega) = g at *
 generalize ms[k]'(by omega) = m at *
 generalize cs[k]'(by omega) = c at *
 rw [w_loop]
 simp (maxSteps := 30000000) (disch := omega) only [go_sem, h1, e1, e2, e3, f1, f2, f3, m1, m2, n1, n2, g1, g2, g3, g4, g5, eq_idn]
theorem m_inner {h : Heap} {s E SL : AV} {l es gs ms cs : List Int} (hs : ∀ H, Sl H 1 s (ints l)) (hl : l.length ≤ 1000) (hE : ∀ H, Sl H 1 E (ints es)) (hel : es.length ≤ 1000) (hg : gs.length = 2) (hm : ms.length = 2) (hc : cs.length = 2) (i : Int) (w0 w1 : Nat) (b0 b1 : Blk) : ∃ p q,
  runC lib ⟨h.length, h.length, 2, none⟩ (.loop b3_1) ([(2, E), (13, .bool true), (14, SL), (15, .lsf 1 (ints gs)), (16, .lsf 1 (ints ms)), (17, .lsf 1 (ints cs)), (18, .int .i64 i), (19, s), (28, .int .i64 0)], h ++ [(w0, b0), (w1, b1)]) =
   some (.exit 2, ([(2, E), (13, .bool true), (14, SL), (15, .lsf 1 (ints gs)), (16, .lsf 1 (ints ms)), (17, .lsf 1 (ints cs)), (18, .int .i64 i)], h ++ [p, q])) := by
 obtain ⟨⟨w2, b2⟩, ⟨w3, b3⟩, e1⟩ := m_round (h := h) (SL := SL) hs hl hE hel hg hm hc i w0 w1 b0 b1 (k := 0) (by omega)
 obtain ⟨p, q, e2⟩ := m_round (h := h) (SL := SL) hs hl hE hel hg hm hc i w2 w3 b2 b3 (k := 1) (by omega)
 refine ⟨p, q, ?_⟩
 have z0 : ((0 : Nat) : Int) = 0 := rfl
 have z1 : ((1 : Nat) : Int) = 0 + 1 := rfl
 rw [z0] at e1
 rw [z1] at e2
 rw [e1, e2, w_loop]
 have n2 : ¬ ((0 : Int) + 1 + 1 < 2) := by decide
 simp (maxSteps := 30000000) (disch := omega) only [go_sem, n2]
theorem m_out {h : Heap} {E : AV} {es gs ms cs : List Int} {xs : List AV} {ls : List (List Int)} (hx : ∀ k (h1 : k < xs.length), ∃ l, (∀ H, Sl H 1 xs[k] (ints l)) ∧ l.length ≤ 1000 ∧ xs[k].cells = [xs[k]]) (hxl : xs.length = 2) (hE : ∀ H, Sl H 1 E (ints es)) (hel : es.length ≤ 1000) (hg : gs.length = 2) (hm : ms.length = 2) (hc : cs.length = 2) (w0 w1 : Nat) (b0 b1 : Blk) {k : Nat} (hk : k < 2) : ∃ p q,
  runC lib ⟨h.length, h.length, 2, none⟩ (.loop b3_0) ([(2, E), (13, .bool true), (14, .lsf 1 xs), (15, .lsf 1 (ints gs)), (16, .lsf 1 (ints ms)), (17, .lsf 1 (ints cs)), (18, .int .i64 k)], h ++ [(w0, b0), (w1, b1)]) =
   runC lib ⟨h.length, h.length, 2, none⟩ (.loop b3_0) ([(2, E), (13, .bool true), (14, .lsf 1 xs), (15, .lsf 1 (ints gs)), (16, .lsf 1 (ints ms)), (17, .lsf 1 (ints cs)), (18, .int .i64 ((k : Int) + 1))], h ++ [p, q]) := by
 have h1 : (k : Int) < 2 := by omega
 have e1 : sidx 1 (.lsf 1 xs) (.int .i64 k) = some k := by rw [sidx_sl (Sl.lsf h 1 xs) (by omega) (by omega)]; simp
 have f1 := fun off H => pc_iptr (off := off) (Sl.lsf H 1 xs).elems0 (show k < xs.length by omega)
 obtain ⟨l, hs, hl, hcl⟩ := hx k (by omega)
 rw [hcl] at f1
 obtain ⟨X, Y, e, m1, m2, m3, m4⟩ := blocks_same hs hl
 have p1 := fun H lo => upeak_run (hs H) (by omega) lo
 have p2 := fun H lo => vpeak_run (hs H) (by omega) lo
 have v1 := fun H lo => uvalid_run (hs H) (by omega) lo
 have v2 := fun H lo => vvalid_run (hs H) (by omega) lo
 obtain ⟨p, q, inn⟩ := m_inner (h := h) (SL := .lsf 1 xs) hs hl hE hel hg hm hc k w0 w1 b0 b1
 refine ⟨p, q, ?_⟩
 have bb : ∀ a : Bool, (a == a) = true := fun a => by cases a <;> rfl
 generalize (if okS l then peakL l else 0) = P at *
 generalize (if okS l then (0 : Int) else 180) = Q at *
 generalize okS l = O at *
 generalize xs[k]'(by omega) = s at *
 rw [w_loop]
 simp (maxSteps := 30000000) (disch := omega) only [go_sem, h1, e1, f1, m1, m2, m3, m4, p1, p2, v1, v2, inn, bb]
end Go.VI.Loud
namespace Go.VI.Loud
open Go.VI.Num
/- BIGSTEPS -/
def Arg (v : AV) (xs : List Int) : Prop := (v = .nilSl ∧ xs = []) ∨ v = .lst 1 (ints xs)
theorem arg_of {t : List AV} (h : TyL (.slice 1 (.int .i64)) t) : ∃ xs : List Int, Arg (Shp.mk (.slice 1 (.int .i64)) t) xs ∧ xs.length ≤ 9223372036854775807 ∧ ∀ x ∈ xs, I64 x := by
 have h0 := h
 simp only [TyL] at h
 rcases h with rfl | ⟨es, rfl, h1, h2⟩
 ·exact ⟨[], .inl ⟨rfl, rfl⟩, by simp, by simp⟩
 ·obtain ⟨l, rfl, hQ⟩ := list_of (f := AV.int .i64) (Q := I64) (es := es) fun x hx => by
   obtain ⟨c, rfl, hc⟩ := h2 x hx
   obtain ⟨n, rfl, g1, g2⟩ := i64_of hc
   exact ⟨n, rfl, g1, g2⟩
  exact ⟨l, .inr rfl, by have q : (l.map (AV.int .i64)).length ≤ 9223372036854775807 := h1; rwa [List.length_map] at q, hQ⟩
theorem Arg.sl {v : AV} {xs : List Int} (h : Arg v xs) (H : Heap) : Sl H 1 v (ints xs) := by
 rcases h with ⟨rfl, rfl⟩ | rfl
 ·exact Sl.nil H 1
 ·exact Sl.lst H 1 _
theorem Arg.cut {v : AV} {xs : List Int} (h : Arg v xs) {n : Nat} (hn : n ≤ xs.length) : ∃ v1 x0, slicev (some 1) v none (some (.int .i64 n)) = some v1 ∧ (∀ b k H, frz b k v1 H = some (x0, H)) ∧ (∀ H, Sl H 1 v1 (ints (xs.take n))) ∧ (∀ H, Sl H 1 x0 (ints (xs.take n))) ∧ v1.val = true ∧ v1.cells = [v1] ∧ x0.val = true ∧ x0.cells = [x0] := by
 rcases h with ⟨rfl, rfl⟩ | rfl
 ·obtain rfl : n = 0 := by simpa using hn
  exact ⟨.nilSl, .lst 0 [], by simp [slicev, zok, bnd], fun b k H => by simp [frz], fun H => Sl.nil H 1, fun H => Sl.lst0 H 1 0, rfl, rfl, rfl, rfl⟩
 ·refine ⟨.lst 1 (ints (xs.take n)), .lst 1 (ints (xs.take n)), ?_, fun b k H => by simp [frz], fun H => Sl.lst H 1 _, fun H => Sl.lst H 1 _, rfl, rfl, rfl, rfl⟩
  have hb : bnd (some (.int .i64 n)) (ints xs).length (ints xs).length = some n := by simp [bnd, hn]
  simp only [slicev, zok, beq_self_eq_true, Bool.true_or, if_true, hb, Option.bind_some]
  simp [bnd, ints]
theorem matches_run {h : Heap} {v w u : AV} {R xs es : List Int} (hv : Arg v R) (hvl : R.length ≤ 9223372036854775807) (hw : Arg w xs) (hwl : xs.length ≤ 9223372036854775807) (hwi : ∀ x ∈ xs, I64 x) (hu : Arg u es) (hul : es.length ≤ 9223372036854775807)
  {g m c : Int} (hg : I64 g) (hm : I64 m) (hc : I64 c) (lo : Nat) : ∃ h', (run lib).fn 3 [v, w, u, .int .i64 g, .int .i64 m, .int .i64 c] h lo = some (.bool true, h') := by
 refine ⟨h, ?_⟩
 obtain ⟨vv, vc⟩ := Sl_val (hv.sl h)
 obtain ⟨wv, wc⟩ := Sl_val (hw.sl h)
 obtain ⟨uv, uc⟩ := Sl_val (hu.sl h)
 have sn := fun H lo => ksane_run H lo
 have md := fun H lo => made_run (hw.sl H) hwl hwi lo
 have msl := sound_len xs
 have lv := lenv_sl (hv.sl h).len
 have lu := lenv_sl (hu.sl h).len
 rw [ints_len] at lv lu
 obtain ⟨v1, x0, a1, a2, a3, a4, a5, a6, a7, a8⟩ := hv.cut (n := min R.length 601) (by omega)
 obtain ⟨u1, y0, b1, b2, b3, b4, b5, b6, b7, b8⟩ := hu.cut (n := min es.length 73) (by omega)
 have em1 : ((min R.length 601 : Nat) : Int) = min (R.length : Int) 601 := by omega
 have em2 : ((min es.length 73 : Nat) : Int) = min (es.length : Int) 73 := by omega
 rw [em1] at a1
 rw [em2] at b1
 have tl1 : (R.take (min R.length 601)).length ≤ 1000 := by rw [List.length_take]; omega
 have tl2 : (es.take (min es.length 73)).length ≤ 1000 := by rw [List.length_take]; omega
 generalize R.take (min R.length 601) = R1 at *
 generalize es.take (min es.length 73) = es1 at *
 generalize soundL xs = S at *
 have p1 := fun H lo => kpick_run (n := 4097) (by decide) hg H lo
 have p2 := fun H lo => kpick_run (n := 100000) (by decide) hm H lo
 have p3 := fun H lo => kpick_run (n := 600000) (by decide) hc H lo
 generalize pkI g 4097 = g1 at *
 generalize pkI m 100000 = m1 at *
 generalize pkI c 600000 = c1 at *
 have hx : ∀ k (h1 : k < [x0, lstV 1 (ints S)].length), ∃ l, (∀ H, Sl H 1 [x0, lstV 1 (ints S)][k] (ints l)) ∧ l.length ≤ 1000 ∧ [x0, lstV 1 (ints S)][k].cells = [[x0, lstV 1 (ints S)][k]] := fun k h1 => by
  match k, h1 with
  | 0, _ => exact ⟨R1, a4, tl1, a8⟩
  | 1, _ => exact ⟨S, fun H => Sl.lstV H 1 (ints S), by omega, lstV_cells 1 (ints S)⟩
 obtain ⟨⟨w2, d2⟩, ⟨w3, d3⟩, o1⟩ := m_out (h := h) (ls := []) hx rfl b3 tl2 (gs := [g, g1]) (ms := [m, m1]) (cs := [c, c1]) rfl rfl rfl 0 0 .dead .dead (k := 0) (by omega)
 obtain ⟨p, q, o2⟩ := m_out (h := h) (ls := []) hx rfl b3 tl2 (gs := [g, g1]) (ms := [m, m1]) (cs := [c, c1]) rfl rfl rfl w2 w3 d2 d3 (k := 1) (by omega)
 have z0 : ((0 : Nat) : Int) = 0 := rfl
 have z1 : ((1 : Nat) : Int) = 0 + 1 := rfl
 rw [z0] at o1
 rw [z1] at o2
 have n2 : ¬ ((0 : Int) + 1 + 1 < 2) := by decide
 have lp : runC lib ⟨h.length, h.length, 2, none⟩ (.loop b3_0) ([(2, u1), (13, .bool true), (14, .lsf 1 [x0, lstV 1 (ints S)]), (15, .lsf 1 (ints [g, g1])), (16, .lsf 1 (ints [m, m1])), (17, .lsf 1 (ints [c, c1])), (18, .int .i64 0)], h ++ [(0, .dead), (0, .dead)]) =
   some (.exit 0, ([(13, .bool true)], h ++ [p, q])) := by
  rw [o1, o2, w_loop]
  simp (maxSteps := 30000000) (disch := omega) only [go_sem, n2]
 simp only [ints, List.map_cons, List.map_nil] at lp
 clear o1 o2 hx
 have eS : lstV 1 (ints S) = lstV 1 (S.map (AV.int .i64)) := rfl
 rw [run_closed (x := x3) rfl rfl rfl rfl]
 simp (maxSteps := 30000000) (disch := omega) only [go_sem, x3, vv, vc, wv, wc, uv, uc, sn, md, lv, lu, a1, a2, a5, a6, a7, a8, b1, b5, b6, p1, p2, p3, eS, lp]
def shMatches : List Shp := [.slice 1 (.int .i64), .slice 1 (.int .i64), .slice 1 (.int .i64), .int .i64, .int .i64, .int .i64]
theorem walkMatches (xs : List AV) (ht : TyA shMatches xs) : ∃ h', (run lib).fn 3 xs [] 0 = some (.bool true, h') := by
 simp only [shMatches, TyA] at ht
 obtain ⟨c0, r0, rfl, t0, c1, r1, rfl, t1, c2, r2, rfl, t2, c3, r3, rfl, t3, c4, r4, rfl, t4, c5, r5, rfl, t5, rfl⟩ := ht
 obtain ⟨l0, s0, k0, i0⟩ := arg_of t0
 obtain ⟨l1, s1, k1, i1⟩ := arg_of t1
 obtain ⟨l2, s2, k2, i2⟩ := arg_of t2
 obtain ⟨g, e3, hg⟩ := lint_of' t3
 obtain ⟨m, e4, hm⟩ := lint_of' t4
 obtain ⟨c, e5, hc⟩ := lint_of' t5
 rw [e3, e4, e5]
 exact matches_run s0 k0 s1 k1 i1 s2 k2 hg hm hc 0
end Go.VI.Loud
