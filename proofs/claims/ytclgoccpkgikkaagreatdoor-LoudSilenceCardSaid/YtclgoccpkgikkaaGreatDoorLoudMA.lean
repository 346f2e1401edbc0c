/- What the functions on integers compute, part MA. -/
import Derived.Test.YtclgoccpkgikkaaGreatDoorVSL
set_option linter.unusedVariables false
set_option linter.unusedSimpArgs false
/- Numbers as groups of four digits: what the operations on them come to, plainly. -/
namespace Go.VI.Num
def gv : List Int → Int
 | [] => 0
 | d :: r => d + 10000 * gv r
def Dig (l : List Int) : Prop := ∀ x ∈ l, 0 ≤ x ∧ x ≤ 9999
theorem Dig.cons {d : Int} {r : List Int} : Dig (d :: r) ↔ (0 ≤ d ∧ d ≤ 9999) ∧ Dig r := by simp [Dig]
theorem Dig.nil : Dig [] := by simp [Dig]
theorem gv_nn : ∀ {l : List Int}, Dig l → 0 ≤ gv l
 | [], _ => by simp [gv]
 | d :: r, h => by
  have := gv_nn (Dig.cons.mp h).2
  have := (Dig.cons.mp h).1
  simp only [gv]; omega
theorem gv_lt : ∀ {l : List Int}, Dig l → gv l < 10000 ^ l.length
 | [], _ => by simp [gv]
 | d :: r, h => by
  have h1 := gv_lt (Dig.cons.mp h).2
  have h2 := (Dig.cons.mp h).1
  simp only [gv, List.length_cons, Int.pow_succ]
  generalize (10000 : Int) ^ r.length = X at *
  omega
theorem gv_app (a b : List Int) : gv (a ++ b) = gv a + 10000 ^ a.length * gv b := by
 induction a with
 | nil => simp [gv]
 | cons d r ih =>
  simp only [List.cons_append, gv, ih, List.length_cons, Int.pow_succ]
  rw [Int.mul_add, Int.add_assoc, Int.mul_comm ((10000 : Int) ^ r.length) 10000, Int.mul_assoc]
def grpF : Nat → Nat → List Int
 | 0, _ => []
 | f + 1, n => if n = 0 then [] else ((n % 10000 : Nat) : Int) :: grpF f (n / 10000)
def grp (n : Nat) : List Int := grpF n n
theorem grpF_eq : ∀ (f f' n : Nat), n ≤ f → n ≤ f' → grpF f n = grpF f' n
 | 0, 0, n, _, _ => rfl
 | 0, f' + 1, n, h, _ => by
  have : n = 0 := by omega
  subst this; rfl
 | f + 1, 0, n, _, h => by
  have : n = 0 := by omega
  subst this; rfl
 | f + 1, f' + 1, n, h, h' => by
  simp only [grpF]
  split
  ·rfl
  ·rw [grpF_eq f f' (n / 10000) (by omega) (by omega)]
theorem grp_zero : grp 0 = [] := rfl
theorem grp_pos {n : Nat} (h : n ≠ 0) : grp n = ((n % 10000 : Nat) : Int) :: grp (n / 10000) := by
 obtain ⟨m, rfl⟩ : ∃ m, n = m + 1 := ⟨n - 1, by omega⟩
 show grpF (m + 1) (m + 1) = _
 simp only [grpF, h, if_false]
 rw [grpF_eq m ((m + 1) / 10000) _ (by omega) (Nat.le_refl _)]
 rfl
theorem gv_grp (n : Nat) : gv (grp n) = n := by
 induction n using Nat.strongRecOn with
 | _ n ih =>
  by_cases h : n = 0
  ·subst h; rfl
  ·rw [grp_pos h, gv, ih (n / 10000) (by omega)]; omega
theorem dig_grp (n : Nat) : Dig (grp n) := by
 induction n using Nat.strongRecOn with
 | _ n ih =>
  by_cases h : n = 0
  ·subst h; exact Dig.nil
  ·rw [grp_pos h]
   exact Dig.cons.mpr ⟨by omega, ih (n / 10000) (by omega)⟩
theorem grp_nil {n : Nat} : grp n = [] ↔ n = 0 := by
 constructor
 ·intro h
  have := gv_grp n
  rw [h] at this
  simp [gv] at this
  omega
 ·rintro rfl; rfl
def Trm (l : List Int) : Prop := ∀ h : l ≠ [], l.getLast h ≠ 0
theorem trm_grp (n : Nat) : Trm (grp n) := by
 induction n using Nat.strongRecOn with
 | _ n ih =>
  by_cases h : n = 0
  ·subst h; intro h; exact absurd rfl h
  ·intro hne
   by_cases h2 : n / 10000 = 0
   ·have : grp n = [((n % 10000 : Nat) : Int)] := by rw [grp_pos h, h2]; rfl
    simp only [this, List.getLast_singleton]
    omega
   ·have h3 : grp (n / 10000) ≠ [] := fun e => h2 (grp_nil.mp e)
    have := ih (n / 10000) (by omega) h3
    simp only [grp_pos h, List.getLast_cons h3]
    exact this
theorem Trm.cons {d : Int} {r : List Int} (h : Trm (d :: r)) : Trm r := fun hr => by
 have := h (by simp)
 rwa [List.getLast_cons hr] at this
theorem grp_gv : ∀ {l : List Int}, Dig l → Trm l → grp (gv l).toNat = l
 | [], _, _ => rfl
 | d :: r, hd, ht => by
  have h1 := Dig.cons.mp hd
  have h2 := gv_nn h1.2
  have ih := grp_gv h1.2 ht.cons
  have e : (gv (d :: r)).toNat = d.toNat + 10000 * (gv r).toNat := by simp only [gv]; omega
  have hne : (gv (d :: r)).toNat ≠ 0 := by
   intro h0
   have hd0 : d = 0 := by omega
   have hr0 : (gv r).toNat = 0 := by omega
   rw [hr0] at ih
   have : r = [] := ih.symm
   subst this
   exact ht (by simp) (by simpa using hd0)
  rw [grp_pos hne, e]
  have e1 : (d.toNat + 10000 * (gv r).toNat) % 10000 = d.toNat := by omega
  have e2 : (d.toNat + 10000 * (gv r).toNat) / 10000 = (gv r).toNat := by omega
  rw [e1, e2, ih]
  congr 1
  omega
def trimK (l : List Int) : Nat → Nat
 | 0 => 0
 | k + 1 => if l.getD k 0 = 0 then trimK l k else k + 1
theorem trimK_le (l : List Int) : ∀ k, trimK l k ≤ k
 | 0 => Nat.le_refl _
 | k + 1 => by
  simp only [trimK]
  split
  ·have := trimK_le l k; omega
  ·omega
def trimL (l : List Int) : List Int := l.take (trimK l l.length)
theorem trimK_gv (l : List Int) : ∀ k, k ≤ l.length → gv (l.take (trimK l k)) = gv (l.take k)
 | 0, _ => rfl
 | k + 1, h => by
  simp only [trimK]
  split
  ·rename_i h0
   rw [trimK_gv l k (by omega), List.take_succ_eq_append_getElem (by omega), gv_app]
   rw [List.getD_eq_getElem?_getD, List.getElem?_eq_getElem (by omega)] at h0
   have h1 : l[k] = 0 := h0
   simp [h1, gv]
  ·rfl
theorem trimK_trm (l : List Int) : ∀ k, k ≤ l.length → Trm (l.take (trimK l k))
 | 0, _ => fun h => absurd rfl h
 | k + 1, h => by
  simp only [trimK]
  split
  ·exact trimK_trm l k (by omega)
  ·rename_i h0
   intro hne
   rw [List.getD_eq_getElem?_getD, List.getElem?_eq_getElem (by omega)] at h0
   have h1 : ¬ l[k] = 0 := h0
   simp only [List.take_succ_eq_append_getElem (show k < l.length by omega), List.getLast_append_of_ne_nil, ne_eq, List.cons_ne_nil, not_false_eq_true, List.getLast_singleton]
   exact h1
theorem trimL_eq {l : List Int} (h : Dig l) : trimL l = grp (gv l).toNat := by
 have h1 := trimK_gv l l.length (Nat.le_refl _)
 rw [List.take_length] at h1
 have h2 : Dig (trimL l) := fun x hx => h x (List.mem_of_mem_take hx)
 have h3 := grp_gv h2 (trimK_trm l l.length (Nat.le_refl _))
 rw [← h3]
 unfold trimL
 rw [h1]
def foldS (g : Nat → Int) (n : Nat) : Nat → Nat → Int → List Int
 | 0, _, _ => []
 | f + 1, i, c =>
  if i < n ∨ c ≠ 0 then
   if g i + c < 0 then (g i + c + 10000) :: foldS g n f (i + 1) (-1)
   else if 10000 ≤ g i + c then ((g i + c) % 10000) :: foldS g n f (i + 1) ((g i + c) / 10000)
   else (g i + c) :: foldS g n f (i + 1) 0
  else []
def foldEnd (g : Nat → Int) (n : Nat) : Nat → Nat → Int → Bool
 | 0, i, c => decide (¬ (i < n ∨ c ≠ 0))
 | f + 1, i, c =>
  if i < n ∨ c ≠ 0 then
   if g i + c < 0 then foldEnd g n f (i + 1) (-1)
   else if 10000 ≤ g i + c then foldEnd g n f (i + 1) ((g i + c) / 10000)
   else foldEnd g n f (i + 1) 0
  else true
def gs (g : Nat → Int) : Nat → Nat → Int
 | 0, _ => 0
 | d + 1, i => g i + 10000 * gs g d (i + 1)
theorem fold_ok {g : Nat → Int} {n : Nat} (hg : ∀ i, -9999 ≤ g i ∧ g i ≤ 100000000) (hz : ∀ i, n ≤ i → g i = 0) : ∀ (f i : Nat) (c : Int), -1 ≤ c → c ≤ 20000 → (i ≤ n → n - i + 3 ≤ f) → (n < i → (c ≠ 0 → 2 ≤ f) ∧ (10000 ≤ c → 3 ≤ f)) → 0 ≤ gs g (n - i) i + c →
  gv (foldS g n f i c) = gs g (n - i) i + c ∧ Dig (foldS g n f i c) := by
 intro f
 induction f with
 | zero =>
  intro i c h1 h2 h3 h4 h5
  by_cases hi : i ≤ n
  ·have := h3 hi; omega
  ·have e : n - i = 0 := by omega
   rw [e] at h5 ⊢
   have := (h4 (by omega)).1
   have hc : c = 0 := by
    rcases Decidable.em (c = 0) with h | h
    ·exact h
    ·have := this h; omega
   subst hc
   exact ⟨by simp [foldS, gv, gs], Dig.nil⟩
 | succ f ih =>
  intro i c h1 h2 h3 h4 h5
  by_cases hstop : i < n ∨ c ≠ 0
  ·have hgi := hg i
   have hstep : gs g (n - i) i = g i + 10000 * gs g (n - (i + 1)) (i + 1) := by
    by_cases hi : i < n
    ·have e : n - i = (n - (i + 1)) + 1 := by omega
     rw [e]; rfl
    ·have e1 : n - i = 0 := by omega
     have e2 : n - (i + 1) = 0 := by omega
     rw [e1, e2, hz i (by omega)]; rfl
   rw [hstep] at h5 ⊢
   have hin : ¬ i < n → g i = 0 := fun h => hz i (by omega)
   generalize hX : gs g (n - (i + 1)) (i + 1) = X at *
   have hX0 : n ≤ i + 1 → X = 0 := fun h => by
    rw [← hX, show n - (i + 1) = 0 by omega]; rfl
   simp only [foldS, hstop, if_true]
   by_cases c1 : g i + c < 0
   ·have hin2 : i < n := by
     rcases Nat.lt_or_ge i n with h | h
     ·exact h
     ·have := hin (by omega); have := hX0 (by omega); omega
    obtain ⟨k1, k2⟩ := ih (i + 1) (-1) (by omega) (by omega) (fun h => by have := h3 (by omega); omega) (fun h => ⟨fun _ => by have := h3 (by omega); omega, fun h => by omega⟩) (by rw [hX]; omega)
    rw [hX] at k1
    simp only [c1, if_true, gv]
    exact ⟨by rw [k1]; omega, Dig.cons.mpr ⟨by omega, k2⟩⟩
   ·by_cases c2 : 10000 ≤ g i + c
    ·obtain ⟨k1, k2⟩ := ih (i + 1) ((g i + c) / 10000) (by omega) (by omega) (fun h => by have := h3 (by omega); omega) (fun h => by
      rcases Nat.lt_or_ge i n with h6 | h6
      ·have := h3 (by omega); exact ⟨fun _ => by omega, fun _ => by omega⟩
      ·have := hin (by omega)
       rcases Nat.lt_or_ge n i with h7 | h7
       ·have := (h4 h7).2 (by omega); exact ⟨fun _ => by omega, fun h => by omega⟩
       ·have := h3 h7; exact ⟨fun _ => by omega, fun h => by omega⟩) (by rw [hX]; omega)
     rw [hX] at k1
     simp only [c1, c2, if_true, if_false, gv]
     exact ⟨by rw [k1]; omega, Dig.cons.mpr ⟨by omega, k2⟩⟩
    ·obtain ⟨k1, k2⟩ := ih (i + 1) 0 (by omega) (by omega) (fun h => by have := h3 (by omega); omega) (fun h => ⟨fun h => absurd rfl h, fun h => by omega⟩) (by rw [hX]; omega)
     rw [hX] at k1
     simp only [c1, c2, if_false, gv]
     exact ⟨by rw [k1]; omega, Dig.cons.mpr ⟨by omega, k2⟩⟩
  ·have hc : c = 0 := by omega
   have hi : n - i = 0 := by omega
   subst hc
   simp only [foldS, hstop, if_false, hi]
   exact ⟨by simp [gv, gs], Dig.nil⟩
theorem fold_end {g : Nat → Int} {n : Nat} (hg : ∀ i, -9999 ≤ g i ∧ g i ≤ 100000000) (hz : ∀ i, n ≤ i → g i = 0) : ∀ (f i : Nat) (c : Int), -1 ≤ c → c ≤ 20000 → (i ≤ n → n - i + 3 ≤ f) → (n < i → (c ≠ 0 → 2 ≤ f) ∧ (10000 ≤ c → 3 ≤ f)) → 0 ≤ gs g (n - i) i + c →
  foldEnd g n f i c = true := by
 intro f
 induction f with
 | zero =>
  intro i c h1 h2 h3 h4 h5
  by_cases hi : i ≤ n
  ·have := h3 hi; omega
  ·have e : n - i = 0 := by omega
   rw [e] at h5
   have := (h4 (by omega)).1
   have hc : c = 0 := by
    rcases Decidable.em (c = 0) with h | h
    ·exact h
    ·have := this h; omega
   subst hc
   simp only [foldEnd, decide_eq_true_eq]; omega
 | succ f ih =>
  intro i c h1 h2 h3 h4 h5
  by_cases hstop : i < n ∨ c ≠ 0
  ·have hgi := hg i
   have hstep : gs g (n - i) i = g i + 10000 * gs g (n - (i + 1)) (i + 1) := by
    by_cases hi : i < n
    ·have e : n - i = (n - (i + 1)) + 1 := by omega
     rw [e]; rfl
    ·have e1 : n - i = 0 := by omega
     have e2 : n - (i + 1) = 0 := by omega
     rw [e1, e2, hz i (by omega)]; rfl
   rw [hstep] at h5
   have hin : ¬ i < n → g i = 0 := fun h => hz i (by omega)
   generalize hX : gs g (n - (i + 1)) (i + 1) = X at *
   have hX0 : n ≤ i + 1 → X = 0 := fun h => by
    rw [← hX, show n - (i + 1) = 0 by omega]; rfl
   simp only [foldEnd, hstop, if_true]
   by_cases c1 : g i + c < 0
   ·have hin2 : i < n := by
     rcases Nat.lt_or_ge i n with h | h
     ·exact h
     ·have := hin (by omega); have := hX0 (by omega); omega
    have k1 := ih (i + 1) (-1) (by omega) (by omega) (fun h => by have := h3 (by omega); omega) (fun h => ⟨fun _ => by have := h3 (by omega); omega, fun h => by omega⟩) (by rw [hX]; omega)
    rw [if_pos c1]
    exact k1
   ·by_cases c2 : 10000 ≤ g i + c
    ·have k1 := ih (i + 1) ((g i + c) / 10000) (by omega) (by omega) (fun h => by have := h3 (by omega); omega) (fun h => by
      rcases Nat.lt_or_ge i n with h6 | h6
      ·have := h3 (by omega); exact ⟨fun _ => by omega, fun _ => by omega⟩
      ·have := hin (by omega)
       rcases Nat.lt_or_ge n i with h7 | h7
       ·have := (h4 h7).2 (by omega); exact ⟨fun _ => by omega, fun h => by omega⟩
       ·have := h3 h7; exact ⟨fun _ => by omega, fun h => by omega⟩) (by rw [hX]; omega)
     rw [if_neg c1, if_pos c2]
     exact k1
    ·have k1 := ih (i + 1) 0 (by omega) (by omega) (fun h => by have := h3 (by omega); omega) (fun h => ⟨fun h => absurd rfl h, fun h => by omega⟩) (by rw [hX]; omega)
     rw [if_neg c1, if_neg c2]
     exact k1
  ·have hc : c = 0 := by omega
   have hi : n - i = 0 := by omega
   subst hc
   simp only [foldEnd, hstop, if_false]
theorem gs_getD (l : List Int) : ∀ (d i : Nat), l.length ≤ i + d → gs (fun j => l.getD j 0) d i = gv (l.drop i)
 | 0, i, h => by rw [List.drop_of_length_le (by omega)]; rfl
 | d + 1, i, h => by
  have ih := gs_getD l d (i + 1) (by omega)
  simp only [gs, ih]
  by_cases c : i < l.length
  ·rw [List.drop_eq_getElem_cons c, gv, List.getD_eq_getElem?_getD, List.getElem?_eq_getElem c]; rfl
  ·rw [List.drop_of_length_le (by omega), List.drop_of_length_le (by omega), List.getD_eq_getElem?_getD, List.getElem?_eq_none (by omega)]; rfl
theorem gs_add (f g : Nat → Int) : ∀ (d i : Nat), gs (fun j => f j + g j) d i = gs f d i + gs g d i
 | 0, _ => rfl
 | d + 1, i => by simp only [gs, gs_add f g d (i + 1)]; omega
theorem gs_sub (f g : Nat → Int) : ∀ (d i : Nat), gs (fun j => f j - g j) d i = gs f d i - gs g d i
 | 0, _ => rfl
 | d + 1, i => by simp only [gs, gs_sub f g d (i + 1)]; omega
theorem gs_mul (f : Nat → Int) (k : Int) : ∀ (d i : Nat), gs (fun j => f j * k) d i = gs f d i * k
 | 0, _ => by simp [gs]
 | d + 1, i => by simp only [gs, gs_mul f k d (i + 1)]; rw [Int.add_mul, Int.mul_assoc]
theorem getD_dig {l : List Int} (h : Dig l) (i : Nat) : 0 ≤ l.getD i 0 ∧ l.getD i 0 ≤ 9999 := by
 by_cases c : i < l.length
 ·rw [List.getD_eq_getElem?_getD, List.getElem?_eq_getElem c]; exact h _ (List.getElem_mem c)
 ·rw [List.getD_eq_getElem?_getD, List.getElem?_eq_none (by omega)]; simp
theorem getD_out {l : List Int} {i : Nat} (h : l.length ≤ i) : l.getD i 0 = 0 := by
 rw [List.getD_eq_getElem?_getD, List.getElem?_eq_none h]; rfl
theorem plus_ok {a b : List Int} (ha : Dig a) (hb : Dig b) : trimL (foldS (fun i => a.getD i 0 + b.getD i 0) (max a.length b.length) (max a.length b.length + 3) 0 0) = grp (gv a + gv b).toNat := by
 have h := fold_ok (g := fun i => a.getD i 0 + b.getD i 0) (n := max a.length b.length) (fun i => by have := getD_dig ha i; have := getD_dig hb i; omega) (fun i hi => by rw [getD_out (by omega), getD_out (by omega)]; rfl)
  (max a.length b.length + 3) 0 0 (by omega) (by omega) (fun _ => by omega) (fun h => by omega) (by
   rw [gs_add, gs_getD a _ _ (by omega), gs_getD b _ _ (by omega)]
   have := gv_nn ha; have := gv_nn hb; simp only [List.drop_zero]; omega)
 rw [trimL_eq h.2, h.1, gs_add, gs_getD a _ _ (by omega), gs_getD b _ _ (by omega), List.drop_zero, List.drop_zero, Int.add_zero]
theorem minus_ok {a b : List Int} (ha : Dig a) (hb : Dig b) (hl : b.length ≤ a.length) (hle : gv b ≤ gv a) : trimL (foldS (fun i => a.getD i 0 - b.getD i 0) a.length (a.length + 3) 0 0) = grp (gv a - gv b).toNat := by
 have h := fold_ok (g := fun i => a.getD i 0 - b.getD i 0) (n := a.length) (fun i => by have := getD_dig ha i; have := getD_dig hb i; omega) (fun i hi => by rw [getD_out (by omega), getD_out (by omega)]; rfl)
  (a.length + 3) 0 0 (by omega) (by omega) (fun _ => by omega) (fun h => by omega) (by
   rw [gs_sub, gs_getD a _ _ (by omega), gs_getD b _ _ (by omega)]
   simp only [List.drop_zero]; omega)
 rw [trimL_eq h.2, h.1, gs_sub, gs_getD a _ _ (by omega), gs_getD b _ _ (by omega), List.drop_zero, List.drop_zero, Int.add_zero]
theorem by_ok {a : List Int} (ha : Dig a) {k : Int} (hk : 0 ≤ k ∧ k ≤ 10000) : trimL (foldS (fun i => a.getD i 0 * k) a.length (a.length + 3) 0 0) = grp (gv a * k).toNat := by
 have h := fold_ok (g := fun i => a.getD i 0 * k) (n := a.length) (fun i => by
   have h1 := getD_dig ha i
   have h2 : 0 ≤ a.getD i 0 * k := Int.mul_nonneg h1.1 hk.1
   have h3 : a.getD i 0 * k ≤ 9999 * 10000 := Int.mul_le_mul h1.2 hk.2 hk.1 (by omega)
   omega) (fun i hi => by rw [getD_out (by omega), Int.zero_mul])
  (a.length + 3) 0 0 (by omega) (by omega) (fun _ => by omega) (fun h => by omega) (by
   rw [gs_mul, gs_getD a _ _ (by omega), List.drop_zero, Int.add_zero]
   exact Int.mul_nonneg (gv_nn ha) hk.1)
 rw [trimL_eq h.2, h.1, gs_mul, gs_getD a _ _ (by omega), List.drop_zero, Int.add_zero]
def cmpK (a b : List Int) : Nat → Int
 | 0 => 0
 | k + 1 => if a.getD k 0 = b.getD k 0 then cmpK a b k else if a.getD k 0 < b.getD k 0 then -1 else 1
def cmpN (a b : Int) : Int := if a < b then -1 else if a = b then 0 else 1
theorem cmpK_ok {a b : List Int} (ha : Dig a) (hb : Dig b) : ∀ k, k ≤ a.length → k ≤ b.length → cmpK a b k = cmpN (gv (a.take k)) (gv (b.take k))
 | 0, _, _ => rfl
 | k + 1, h1, h2 => by
  have ih := cmpK_ok ha hb k (by omega) (by omega)
  have da : Dig (a.take k) := fun x hx => ha x (List.mem_of_mem_take hx)
  have db : Dig (b.take k) := fun x hx => hb x (List.mem_of_mem_take hx)
  have la := gv_lt da
  have lb := gv_lt db
  have na := gv_nn da
  have nb := gv_nn db
  have ea : (a.take k).length = k := by simp; omega
  have eb : (b.take k).length = k := by simp; omega
  rw [ea] at la
  rw [eb] at lb
  have ga : a.getD k 0 = a[k] := by rw [List.getD_eq_getElem?_getD, List.getElem?_eq_getElem (by omega)]; rfl
  have gb : b.getD k 0 = b[k] := by rw [List.getD_eq_getElem?_getD, List.getElem?_eq_getElem (by omega)]; rfl
  rw [List.take_succ_eq_append_getElem (by omega), List.take_succ_eq_append_getElem (by omega), gv_app, gv_app, ea, eb]
  simp only [cmpK, ga, gb, gv, Int.mul_zero, Int.add_zero]
  rw [ih]
  generalize gv (a.take k) = A at *
  generalize gv (b.take k) = B at *
  generalize (10000 : Int) ^ k = X at *
  generalize a[k] = x at *
  generalize b[k] = y at *
  by_cases c1 : x = y
  ·subst c1
   rw [if_pos rfl]
   unfold cmpN
   have e1 : (A + X * x < B + X * x) ↔ A < B := by omega
   have e2 : (A + X * x = B + X * x) ↔ A = B := by omega
   simp only [e1, e2]
  ·rw [if_neg c1]
   by_cases c2 : x < y
   ·rw [if_pos c2]
    have : X * (x + 1) ≤ X * y := Int.mul_le_mul_of_nonneg_left (by omega) (by omega)
    rw [Int.mul_add, Int.mul_one] at this
    unfold cmpN
    rw [if_pos (by omega)]
   ·rw [if_neg c2]
    have : X * (y + 1) ≤ X * x := Int.mul_le_mul_of_nonneg_left (by omega) (by omega)
    rw [Int.mul_add, Int.mul_one] at this
    unfold cmpN
    rw [if_neg (by omega), if_neg (by omega)]
theorem ipow_le {a : Int} (h : 1 ≤ a) {m n : Nat} (hmn : m ≤ n) : a ^ m ≤ a ^ n := by
 obtain ⟨k, rfl⟩ : ∃ k, n = m + k := ⟨n - m, by omega⟩
 clear hmn
 induction k with
 | zero => exact Int.le_refl _
 | succ k ih =>
  have h0 : 0 ≤ a ^ (m + k) := Int.pow_nonneg (by omega)
  have h1 : a ^ (m + k) * 1 ≤ a ^ (m + k) * a := Int.mul_le_mul_of_nonneg_left h h0
  rw [Int.mul_one] at h1
  rw [show m + (k + 1) = m + k + 1 from rfl, Int.pow_succ]
  exact Int.le_trans ih h1
theorem grp_len_lt {a b : Nat} (h : (grp a).length < (grp b).length) : a < b := by
 have h1 := gv_lt (dig_grp a)
 rw [gv_grp] at h1
 have hb : grp b ≠ [] := by intro e; rw [e] at h; simp at h
 -- the last group of b is at least one
 obtain ⟨i, x, e⟩ : ∃ (i : List Int) (x : Int), grp b = i ++ [x] := ⟨(grp b).dropLast, (grp b).getLast hb, (List.dropLast_concat_getLast hb).symm⟩
 have hx : x ≠ 0 := by
  have := trm_grp b hb
  simp only [e, List.getLast_append_of_ne_nil, ne_eq, List.cons_ne_nil, not_false_eq_true, List.getLast_singleton] at this
  exact this
 have hd := dig_grp b
 rw [e] at hd
 have hx2 := hd x (by simp)
 have hi : Dig i := fun y hy => hd y (by simp [hy])
 have h3 := gv_nn hi
 have h2 := gv_grp b
 rw [e, gv_app] at h2
 simp only [gv, Int.mul_zero, Int.add_zero] at h2
 have hl : (grp a).length ≤ i.length := by rw [e] at h; simp at h; omega
 have h4 : (10000 : Int) ^ (grp a).length ≤ 10000 ^ i.length := ipow_le (by omega) hl
 have h5 : (10000 : Int) ^ i.length * 1 ≤ 10000 ^ i.length * x := Int.mul_le_mul_of_nonneg_left (by omega) (Int.pow_nonneg (by omega))
 rw [Int.mul_one] at h5
 omega
theorem grp_len_le {a b : Nat} (h : a ≤ b) : (grp a).length ≤ (grp b).length := by
 rcases Nat.lt_or_ge (grp b).length (grp a).length with h1 | h1
 ·have := grp_len_lt h1; omega
 ·exact h1
def cmpL (a b : List Int) : Int := if a.length = b.length then cmpK a b a.length else if a.length < b.length then -1 else 1
theorem cmpL_grp (a b : Nat) : cmpL (grp a) (grp b) = cmpN a b := by
 unfold cmpL
 by_cases h : (grp a).length = (grp b).length
 ·rw [if_pos h, cmpK_ok (dig_grp a) (dig_grp b) _ (Nat.le_refl _) (by omega), List.take_length, h, List.take_length, gv_grp, gv_grp]
 ·rw [if_neg h]
  by_cases h2 : (grp a).length < (grp b).length
  ·have := grp_len_lt h2
   rw [if_pos h2]; unfold cmpN; rw [if_pos (by omega)]
  ·have := grp_len_lt (a := b) (b := a) (by omega)
   rw [if_neg h2]; unfold cmpN; rw [if_neg (by omega), if_neg (by omega)]
end Go.VI.Num
/- Decimal texts of numbers of any size. -/
namespace Go.VI.Num
def IsD (c : UInt8) : Prop := 48 ≤ c.toNat ∧ c.toNat ≤ 57
def Digs (l : List UInt8) : Prop := ∀ c ∈ l, IsD c
def dv (acc : Nat) (l : List UInt8) : Nat := l.foldl (fun a c => a * 10 + (c.toNat - 48)) acc
theorem dv_nil (acc : Nat) : dv acc [] = acc := rfl
theorem dv_cons (acc : Nat) (c : UInt8) (r : List UInt8) : dv acc (c :: r) = dv (acc * 10 + (c.toNat - 48)) r := by unfold dv; rw [List.foldl_cons]
theorem dv_app (a b : List UInt8) (acc : Nat) : dv acc (a ++ b) = dv (dv acc a) b := List.foldl_append
theorem dv_lin (l : List UInt8) : ∀ acc, dv acc l = acc * 10 ^ l.length + dv 0 l := by
 induction l with
 | nil => intro acc; rw [dv_nil, dv_nil, List.length_nil, Nat.pow_zero, Nat.mul_one, Nat.add_zero]
 | cons c r ih =>
  intro acc
  rw [dv_cons, dv_cons, ih, ih (0 * 10 + (c.toNat - 48)), Nat.zero_mul, Nat.zero_add, List.length_cons, Nat.pow_succ, Nat.add_mul, Nat.add_assoc, Nat.mul_comm (10 ^ r.length) 10, Nat.mul_assoc]
theorem dv_lt {l : List UInt8} (h : Digs l) : dv 0 l < 10 ^ l.length := by
 induction l with
 | nil => rw [dv_nil]; exact Nat.one_pos
 | cons c r ih =>
  have h1 := ih fun x hx => h x (by simp [hx])
  have h2 := h c (by simp)
  unfold IsD at h2
  rw [dv_cons, dv_lin, List.length_cons, Nat.pow_succ, Nat.zero_mul, Nat.zero_add]
  have h3 : (c.toNat - 48) * 10 ^ r.length ≤ 9 * 10 ^ r.length := Nat.mul_le_mul_right _ (by omega)
  generalize (c.toNat - 48) * 10 ^ r.length = Y at *
  generalize 10 ^ r.length = X at *
  omega
def dec (n : Nat) : List UInt8 := decF (n + 1) n
theorem lt_pow10 (n : Nat) : n < 10 ^ (n + 1) := by
 induction n with
 | zero => decide
 | succ n ih =>
  rw [Nat.pow_succ]
  generalize 10 ^ (n + 1) = X at *
  omega
theorem decF_eq : ∀ (f f' u : Nat), u < 10 ^ f → u < 10 ^ f' → 0 < f → 0 < f' → decF f u = decF f' u
 | 0, _, _, _, _, h, _ => by omega
 | _ + 1, 0, _, _, _, _, h => by omega
 | f + 1, f' + 1, u, h1, h2, _, _ => by
  simp only [decF]
  split
  ·rfl
  ·rename_i h3
   have hf : 0 < f := by
    rcases Nat.eq_zero_or_pos f with h | h
    ·subst h; simp at h1; omega
    ·exact h
   have hf' : 0 < f' := by
    rcases Nat.eq_zero_or_pos f' with h | h
    ·subst h; simp at h2; omega
    ·exact h
   rw [Nat.pow_succ, Nat.mul_comm] at h1 h2
   rw [decF_eq f f' (u / 10) (Nat.div_lt_of_lt_mul h1) (Nat.div_lt_of_lt_mul h2) hf hf']
theorem dec_eq {f u : Nat} (h : u < 10 ^ f) (hf : 0 < f) : decF f u = dec u := decF_eq _ _ _ h (lt_pow10 u) hf (by omega)
theorem dec_small {u : Nat} (h : u < 10) : dec u = [UInt8.ofNat (48 + u)] := by simp [dec, decF, h]
theorem dec_big {u : Nat} (h : 10 ≤ u) : dec u = dec (u / 10) ++ [UInt8.ofNat (48 + u % 10)] := by
 have h1 : ¬ u < 10 := by omega
 have : dec u = decF u (u / 10) ++ [UInt8.ofNat (48 + u % 10)] := by simp only [dec, decF, h1, if_false]
 rw [this, dec_eq _ (by omega)]
 have := lt_pow10 (u / 10)
 exact Nat.lt_of_lt_of_le this (Nat.pow_le_pow_right (by omega) (by omega))
theorem ofNat_digit {d : Nat} (h : d < 10) : (UInt8.ofNat (48 + d)).toNat = 48 + d := by
 rw [UInt8.toNat_ofNat']; omega
theorem digs_dec (n : Nat) : Digs (dec n) := by
 induction n using Nat.strongRecOn with
 | _ n ih =>
  intro c hc
  rcases Nat.lt_or_ge n 10 with h | h
  ·rw [dec_small h, List.mem_singleton] at hc
   subst hc
   unfold IsD
   rw [ofNat_digit h]; omega
  ·rw [dec_big h, List.mem_append, List.mem_singleton] at hc
   rcases hc with hc | hc
   ·exact ih (n / 10) (by omega) c hc
   ·subst hc
    unfold IsD
    rw [ofNat_digit (by omega)]; omega
theorem dv_dec (n : Nat) : dv 0 (dec n) = n := by
 induction n using Nat.strongRecOn with
 | _ n ih =>
  rcases Nat.lt_or_ge n 10 with h | h
  ·rw [dec_small h, dv_cons, dv_nil, ofNat_digit h]; omega
  ·rw [dec_big h, dv_app, ih (n / 10) (by omega), dv_cons, dv_nil, ofNat_digit (by omega)]; omega
theorem dec_ne (n : Nat) : dec n ≠ [] := by
 rcases Nat.lt_or_ge n 10 with h | h
 ·rw [dec_small h]; simp
 ·rw [dec_big h]; simp
def NoLead (l : List UInt8) : Prop := l ≠ [] ∧ (l = [48] ∨ l.head? ≠ some 48)
theorem nolead_dec (n : Nat) : NoLead (dec n) := by
 refine ⟨dec_ne n, ?_⟩
 induction n using Nat.strongRecOn with
 | _ n ih =>
  rcases Nat.lt_or_ge n 10 with h | h
  ·rw [dec_small h]
   by_cases h0 : n = 0
   ·subst h0; exact .inl rfl
   ·refine .inr fun e => ?_
    simp only [List.head?_cons, Option.some.injEq] at e
    have := congrArg UInt8.toNat e
    rw [ofNat_digit h] at this
    simp at this; omega
  ·right
   rw [dec_big h]
   have h1 := dec_ne (n / 10)
   rw [List.head?_append]
   obtain ⟨c, r, hc⟩ := List.exists_cons_of_ne_nil h1
   rcases ih (n / 10) (by omega) with h2 | h2
   ·have := dv_dec (n / 10)
    rw [h2, dv_cons, dv_nil] at this
    have e48 : (48 : UInt8).toNat = 48 := rfl
    rw [e48] at this
    omega
   ·rw [hc] at h2 ⊢
    simpa using h2
theorem dec_dv : ∀ (k : Nat) (l : List UInt8), l.length = k → Digs l → NoLead l → dec (dv 0 l) = l := by
 intro k
 induction k with
 | zero => intro l hl _ h; exact absurd (List.length_eq_zero_iff.mp hl) h.1
 | succ k ih =>
  intro l hl hd hn
  obtain ⟨i, c, rfl⟩ : ∃ i c, l = i ++ [c] := ⟨l.dropLast, l.getLast hn.1, (List.dropLast_concat_getLast hn.1).symm⟩
  have hc := hd c (by simp)
  unfold IsD at hc
  have hu : UInt8.ofNat (48 + (c.toNat - 48)) = c := by
   rw [show 48 + (c.toNat - 48) = c.toNat by omega]
   exact UInt8.ofNat_toNat
  rw [dv_app]
  by_cases hi : i = []
  ·subst hi
   rw [List.nil_append, dv_nil, dv_cons, dv_nil, Nat.zero_mul, Nat.zero_add, dec_small (by omega), hu]
  ·have hni : NoLead i := by
    refine ⟨hi, ?_⟩
    obtain ⟨x, r, rfl⟩ := List.exists_cons_of_ne_nil hi
    rcases hn.2 with h | h
    ·simp at h
    ·right; simpa using h
   have hdi : Digs i := fun x hx => hd x (by simp [hx])
   have e := ih i (by simp at hl; omega) hdi hni
   rw [dv_cons, dv_nil]
   have hpos : 1 ≤ dv 0 i := by
    rcases Nat.eq_zero_or_pos (dv 0 i) with h | h
    ·rw [h, dec_small (by omega)] at e
     rcases hn.2 with h2 | h2
     ·rw [← e] at h2; simp at h2
     ·rw [← e] at h2; simp at h2
    ·exact h
   rw [dec_big (by omega)]
   have e1 : (dv 0 i * 10 + (c.toNat - 48)) / 10 = dv 0 i := by omega
   have e2 : (dv 0 i * 10 + (c.toNat - 48)) % 10 = c.toNat - 48 := by omega
   rw [e1, e2, e, hu]
theorem dec_len {n k : Nat} (hk : 0 < k) : (dec n).length ≤ k ↔ n < 10 ^ k := by
 constructor
 ·intro h
  have := dv_lt (digs_dec n)
  rw [dv_dec] at this
  exact Nat.lt_of_lt_of_le this (Nat.pow_le_pow_right (by omega) h)
 ·intro h
  induction k generalizing n with
  | zero => omega
  | succ k ih =>
   rcases Nat.lt_or_ge n 10 with h1 | h1
   ·rw [dec_small h1]; simp
   ·rw [dec_big h1, List.length_append, List.length_singleton]
    rw [Nat.pow_succ, Nat.mul_comm] at h
    have hk : 0 < k := by
     rcases Nat.eq_zero_or_pos k with h0 | h0
     ·subst h0; simp at h; omega
     ·exact h0
    have := ih (n := n / 10) hk (Nat.div_lt_of_lt_mul h)
    omega
def pad4 (d : Nat) : List UInt8 := [UInt8.ofNat (48 + d / 1000), UInt8.ofNat (48 + d / 100 % 10), UInt8.ofNat (48 + d / 10 % 10), UInt8.ofNat (48 + d % 10)]
theorem dec_pad {n : Nat} (h : 10000 ≤ n) : dec n = dec (n / 10000) ++ pad4 (n % 10000) := by
 rw [dec_big (by omega), dec_big (u := n / 10) (by omega), dec_big (u := n / 10 / 10) (by omega), dec_big (u := n / 10 / 10 / 10) (by omega)]
 have e0 : n / 10 / 10 / 10 / 10 = n / 10000 := by omega
 have e1 : n / 10 / 10 / 10 % 10 = n % 10000 / 1000 := by omega
 have e2 : n / 10 / 10 % 10 = n % 10000 / 100 % 10 := by omega
 have e3 : n / 10 % 10 = n % 10000 / 10 % 10 := by omega
 have e4 : n % 10 = n % 10000 % 10 := by omega
 rw [e0, e1, e2, e3, e4]
 simp [pad4]
theorem pad_dec {d : Nat} (h : d < 10000) : List.replicate (4 - (dec d).length) 48 ++ dec d = pad4 d := by
 have z : (48 : UInt8) = UInt8.ofNat (48 + 0) := rfl
 unfold pad4
 rcases Nat.lt_or_ge d 10 with h1 | h1
 ·rw [dec_small h1]
  have e1 : d / 1000 = 0 := by omega
  have e2 : d / 100 % 10 = 0 := by omega
  have e3 : d / 10 % 10 = 0 := by omega
  have e4 : d % 10 = d := by omega
  rw [e1, e2, e3, e4]; rfl
 ·rcases Nat.lt_or_ge d 100 with h2 | h2
  ·rw [dec_big h1, dec_small (u := d / 10) (by omega)]
   have e1 : d / 1000 = 0 := by omega
   have e2 : d / 100 % 10 = 0 := by omega
   have e3 : d / 10 % 10 = d / 10 := by omega
   rw [e1, e2, e3]; rfl
  ·rcases Nat.lt_or_ge d 1000 with h3 | h3
   ·rw [dec_big h1, dec_big (u := d / 10) (by omega), dec_small (u := d / 10 / 10) (by omega)]
    have e1 : d / 1000 = 0 := by omega
    have e2 : d / 100 % 10 = d / 10 / 10 := by omega
    rw [e1, e2]; rfl
   ·rw [dec_big h1, dec_big (u := d / 10) (by omega), dec_big (u := d / 10 / 10) (by omega), dec_small (u := d / 10 / 10 / 10) (by omega)]
    have e1 : d / 1000 = d / 10 / 10 / 10 := by omega
    have e2 : d / 100 % 10 = d / 10 / 10 % 10 := by omega
    rw [e1, e2]; rfl
def txtK (l : List Int) : Nat → List UInt8
 | 0 => []
 | k + 1 => txtK l k
def txtG : List Int → List UInt8
 | [] => []
 | d :: r => if r = [] then dec d.toNat else txtG r ++ pad4 d.toNat
theorem txt_grp {n : Nat} (h : n ≠ 0) : txtG (grp n) = dec n := by
 induction n using Nat.strongRecOn with
 | _ n ih =>
  rw [grp_pos h]
  simp only [txtG, grp_nil, Int.toNat_natCast]
  rcases Nat.lt_or_ge n 10000 with h1 | h1
  ·rw [if_pos (by omega), Nat.mod_eq_of_lt h1]
  ·rw [if_neg (by omega), ih (n / 10000) (by omega) (by omega), ← dec_pad h1]
theorem parse_digits : ∀ (l : List UInt8) (acc : Nat), Digs l → (acc + 1) * 10 ^ l.length ≤ 10 ^ 18 → Lib.parseUint10 acc l = .ok (dv acc l)
 | [], acc, _, _ => rfl
 | c :: r, acc, h, hb => by
  have hc := h c (by simp)
  have hc2 := hc
  unfold IsD at hc2
  rw [List.length_cons, Nat.pow_succ] at hb
  have h10 : 1 ≤ 10 ^ r.length := Nat.pos_of_ne_zero (by simp)
  have hb2 : (acc + 1) * 10 * 10 ^ r.length ≤ 10 ^ 18 := by rw [Nat.mul_assoc, Nat.mul_comm 10]; exact hb
  have h1 : (acc + 1) * 10 ≤ 10 ^ 18 := Nat.le_trans (Nat.le_mul_of_pos_right _ h10) hb2
  have e18 : (10 : Nat) ^ 18 = 1000000000000000000 := by decide
  rw [e18] at h1
  simp only [Lib.parseUint10, hc2, and_self, if_true]
  rw [if_neg (by omega), if_neg (by omega), dv_cons]
  refine parse_digits r _ (fun x hx => h x (by simp [hx])) (Nat.le_trans (Nat.mul_le_mul_right _ ?_) hb2)
  omega
theorem atoi_digits {l : List UInt8} (h : Digs l) (hl : l ≠ []) (hn : l.length ≤ 18) : Lib.atoiAll l = .ok ((dv 0 l : Nat) : Int) := by
 obtain ⟨c, r, rfl⟩ := List.exists_cons_of_ne_nil hl
 have hc := h c (by simp)
 unfold IsD at hc
 have hp : Lib.parseMag (c :: r) = .ok (dv 0 (c :: r)) := by
  unfold Lib.parseMag
  rw [if_neg (by simp), parse_digits _ _ h]
  rw [Nat.zero_add, Nat.one_mul]
  exact Nat.pow_le_pow_right (by omega) hn
 have hlt := dv_lt h
 have hle : 10 ^ (c :: r).length ≤ 10 ^ 18 := Nat.pow_le_pow_right (by omega) hn
 have e18 : (10 : Nat) ^ 18 = 1000000000000000000 := by decide
 have n1 : ¬ (c.toNat = 43 ∨ c.toNat = 45) := by omega
 have n2 : ¬ c.toNat = 45 := by omega
 have hb : ¬ 9223372036854775808 ≤ dv 0 (c :: r) := by
  rw [e18] at hle
  generalize 10 ^ (c :: r).length = X at *
  omega
 unfold Lib.atoiAll
 simp only []
 rw [if_neg n1, hp]
 simp only [n2, if_false, not_false_eq_true, true_and, false_and, hb]
end Go.VI.Num
/- Integers as texts: which texts are integers, and what they are worth. -/
namespace Go.VI.Num
def ds : List UInt8 := [48, 49, 50, 51, 52, 53, 54, 55, 56, 57]
theorem ds_mem (b : UInt8) : ds.contains b = true ↔ IsD b := by
 unfold ds IsD
 simp only [List.contains_cons, List.contains_nil, Bool.or_eq_true, beq_iff_eq, ← UInt8.toNat_inj, Bool.or_false]
 simp only [UInt8.reduceToNat]
 omega
theorem dropWhile_nil {α : Type} {p : α → Bool} : ∀ {l : List α}, l.dropWhile p = [] → ∀ x ∈ l, p x = true
 | [], _, x, hx => by simp at hx
 | a :: l, h, x, hx => by
  rw [List.dropWhile_cons] at h
  split at h
  ·rename_i ha
   rcases List.mem_cons.mp hx with rfl | hx
   ·exact ha
   ·exact dropWhile_nil h x hx
  ·cases h
theorem dropWhile_all {α : Type} {p : α → Bool} : ∀ {l : List α}, (∀ x ∈ l, p x = true) → l.dropWhile p = []
 | [], _ => rfl
 | a :: l, h => by rw [List.dropWhile_cons, if_pos (h a (by simp))]; exact dropWhile_all fun x hx => h x (by simp [hx])
theorem takeWhile_mem {α : Type} {p : α → Bool} : ∀ {l : List α} {x : α}, x ∈ l.takeWhile p → p x = true
 | [], x, h => by simp at h
 | a :: l, x, h => by
  rw [List.takeWhile_cons] at h
  split at h
  ·rename_i ha
   rcases List.mem_cons.mp h with rfl | h
   ·exact ha
   ·exact takeWhile_mem h
  ·simp at h
theorem trim_digs {l : List UInt8} : Lib.trimS l ds = [] ↔ Digs l := by
 unfold Lib.trimS Lib.trimLeftS Lib.trimRightS
 constructor
 ·intro h c hc
  have h1 := dropWhile_nil h
  have h2 : c ∈ l.reverse := by simpa using hc
  rw [← List.takeWhile_append_dropWhile (p := fun b => ds.contains b) (l := l.reverse), List.mem_append] at h2
  rcases h2 with h2 | h2
  ·exact (ds_mem c).mp (takeWhile_mem (p := fun b => ds.contains b) h2)
  ·exact (ds_mem c).mp (h1 c (by simpa using h2))
 ·intro h
  have : l.reverse.dropWhile (fun b => ds.contains b) = [] := dropWhile_all fun x hx => (ds_mem x).mpr (h x (by simpa using hx))
  rw [this]; rfl
def itxt (z : Int) : List UInt8 := if z < 0 then 45 :: dec z.natAbs else dec z.natAbs
def body (s : List UInt8) : List UInt8 := Lib.trimPrefix s [45]
theorem body_neg (r : List UInt8) : body (45 :: r) = r := by simp [body, Lib.trimPrefix, Lib.hasPrefix]
theorem body_pos {s : List UInt8} (h : s.head? ≠ some 45) : body s = s := by
 cases s with
 | nil => rfl
 | cons c r =>
  have : c ≠ 45 := fun e => h (by rw [e]; rfl)
  have h2 : ¬ (45 : UInt8) = c := fun e => this e.symm
  simp [body, Lib.trimPrefix, Lib.hasPrefix, List.isPrefixOf, h2]
theorem dec_head (n : Nat) : (dec n).head? ≠ some 45 := by
 intro h
 have h1 := digs_dec n
 obtain ⟨c, r, e⟩ := List.exists_cons_of_ne_nil (dec_ne n)
 rw [e] at h h1
 simp only [List.head?_cons, Option.some.injEq] at h
 subst h
 have := h1 45 (by simp)
 unfold IsD at this
 simp at this
theorem body_itxt (z : Int) : body (itxt z) = dec z.natAbs := by
 unfold itxt
 split
 ·exact body_neg _
 ·exact body_pos (dec_head _)
def validS (s : List UInt8) : Bool := !(body s).isEmpty && decide ((body s).length ≤ 200) && (Lib.trimS (body s) ds).isEmpty && (s == [48] || !((body s).head? == some 48))
theorem validS_itxt {z : Int} (h : z.natAbs < 10 ^ 200) : validS (itxt z) = true := by
 have h1 : Lib.trimS (dec z.natAbs) ds = [] := trim_digs.mpr (digs_dec _)
 have h2 := (dec_len (n := z.natAbs) (k := 200) (by omega)).mpr h
 have h3 : (dec z.natAbs).isEmpty = false := by
  cases hd : dec z.natAbs with
  | nil => exact absurd hd (dec_ne _)
  | cons => rfl
 unfold validS
 rw [body_itxt, h1, h3, decide_eq_true h2]
 simp only [Bool.not_false, List.isEmpty_nil, Bool.true_and]
 rcases (nolead_dec z.natAbs).2 with h4 | h4
 ·have : z = 0 := by
   have h5 := dv_dec z.natAbs
   rw [h4, dv_cons, dv_nil] at h5
   have e48 : (48 : UInt8).toNat = 48 := rfl
   rw [e48] at h5
   omega
  subst this
  rfl
 ·rw [Bool.or_eq_true]
  right
  simpa using h4
def zv (s : List UInt8) : Int := if s.head? = some 45 then -(dv 0 (body s) : Int) else dv 0 (body s)
theorem zv_itxt (z : Int) : zv (itxt z) = z := by
 unfold zv
 rw [body_itxt, dv_dec]
 by_cases h : z < 0
 ·have : (itxt z).head? = some 45 := by unfold itxt; rw [if_pos h]; rfl
  rw [if_pos this]; omega
 ·have : (itxt z).head? ≠ some 45 := by unfold itxt; rw [if_neg h]; exact dec_head _
  rw [if_neg this]; omega
theorem valid_txt {s : List UInt8} (h : validS s = true) : s = itxt (zv s) ∧ (zv s).natAbs < 10 ^ 200 := by
 unfold validS at h
 simp only [Bool.and_eq_true, Bool.not_eq_true', decide_eq_true_eq, List.isEmpty_iff, List.isEmpty_eq_false_iff] at h
 obtain ⟨⟨⟨h1, h2⟩, h3⟩, h4⟩ := h
 have hd := trim_digs.mp h3
 have hlead : NoLead (body s) := by
  refine ⟨h1, ?_⟩
  simp only [Bool.or_eq_true, beq_iff_eq, Bool.not_eq_true', beq_eq_false_iff_ne] at h4
  rcases h4 with h4 | h4
  ·subst h4; left; rfl
  ·exact .inr h4
 have e := dec_dv _ _ rfl hd hlead
 have hlt : dv 0 (body s) < 10 ^ 200 := by
  refine (dec_len (by omega)).mp ?_
  rw [e]; exact h2
 by_cases hs : s.head? = some 45
 ·obtain ⟨c, r, rfl⟩ : ∃ c r, s = c :: r := by cases s with | nil => cases hs | cons c r => exact ⟨c, r, rfl⟩
  simp only [List.head?_cons, Option.some.injEq] at hs
  subst hs
  rw [body_neg] at *
  have hz : zv (45 :: r) = -(dv 0 r : Int) := by unfold zv; rw [body_neg, if_pos (show (45 :: r).head? = some (45 : UInt8) from rfl)]
  have hpos : dv 0 r ≠ 0 := by
   intro h0
   rw [h0] at e
   simp only [Bool.or_eq_true, beq_iff_eq, Bool.not_eq_true', beq_eq_false_iff_ne] at h4
   rcases h4 with h4 | h4
   ·simp at h4
   ·rw [← e] at h4; exact h4 rfl
  rw [hz]
  refine ⟨?_, by omega⟩
  unfold itxt
  rw [if_pos (by omega)]
  have : (-(dv 0 r : Int)).natAbs = dv 0 r := by omega
  rw [this, e]
 ·have hb := body_pos hs
  rw [hb] at e hlt
  have hz : zv s = (dv 0 s : Int) := by unfold zv; rw [if_neg hs, hb]
  rw [hz]
  refine ⟨?_, by omega⟩
  unfold itxt
  rw [if_neg (by omega), Int.natAbs_natCast, e]
theorem itxt_inj {a b : Int} (h : itxt a = itxt b) : a = b := by rw [← zv_itxt a, h, zv_itxt]
def parseG : Nat → List UInt8 → List Int
 | 0, _ => []
 | f + 1, l => if l = [] then [] else (dv 0 (l.drop (l.length - 4)) : Int) :: parseG f (l.take (l.length - 4))
theorem parseG_ok : ∀ (f : Nat) (l : List UInt8), l.length ≤ f → Digs l → gv (parseG f l) = dv 0 l ∧ Dig (parseG f l)
 | 0, l, h, _ => by
  have : l = [] := List.length_eq_zero_iff.mp (by omega)
  subst this
  exact ⟨rfl, Dig.nil⟩
 | f + 1, l, h, hd => by
  by_cases h0 : l = []
  ·subst h0; exact ⟨rfl, Dig.nil⟩
  ·have hlen : 0 < l.length := List.length_pos_iff.mpr h0
   have hd1 : Digs (l.take (l.length - 4)) := fun x hx => hd x (List.mem_of_mem_take hx)
   have hd2 : Digs (l.drop (l.length - 4)) := fun x hx => hd x (List.mem_of_mem_drop hx)
   obtain ⟨k1, k2⟩ := parseG_ok f (l.take (l.length - 4)) (by simp; omega) hd1
   have hlt := dv_lt hd2
   have hl4 : (l.drop (l.length - 4)).length ≤ 4 := by simp; omega
   have h4 : 10 ^ (l.drop (l.length - 4)).length ≤ 10 ^ 4 := Nat.pow_le_pow_right (by omega) hl4
   have e4 : (10 : Nat) ^ 4 = 10000 := by decide
   rw [e4] at h4
   simp only [parseG, h0, if_false, gv, k1]
   refine ⟨?_, Dig.cons.mpr ⟨⟨by omega, by omega⟩, k2⟩⟩
   conv => rhs; rw [← List.take_append_drop (l.length - 4) l]
   rw [dv_app, dv_lin (l.drop (l.length - 4)) (dv 0 (l.take (l.length - 4)))]
   rcases Nat.lt_or_ge l.length 4 with h5 | h5
   ·have : l.length - 4 = 0 := by omega
    rw [this, List.take_zero, List.drop_zero, dv_nil, Nat.zero_mul, Nat.zero_add]
    simp
   ·have : (l.drop (l.length - 4)).length = 4 := by simp; omega
    rw [this, e4]
    omega
end Go.VI.Num
/- The whole root of a number, and steps that fall until they stop at it. -/
namespace Go.VI.Num
def rootF (n : Nat) : Nat → Nat
 | 0 => 0
 | f + 1 => if (f + 1) * (f + 1) ≤ n then f + 1 else rootF n f
def rootN (n : Nat) : Nat := rootF n n
end Go.VI.Num
namespace Go.VI.Num
def FitQ (q : Rat) : Prop := q.num.natAbs < 10 ^ 200 ∧ q.den < 10 ^ 200
theorem divInt_num {n d : Int} (hd : 0 < d) : (Rat.divInt n d).num = n / (Int.gcd n d : Nat) := by
 rw [Rat.num_divInt, Int.sign_eq_one_of_pos hd, Int.one_mul, Int.gcd_comm]
theorem divInt_den {n d : Int} (hd : 0 < d) : ((Rat.divInt n d).den : Int) = d / (Int.gcd n d : Nat) := by
 rw [Rat.den_divInt, if_neg (by omega), Int.gcd_comm]
 have : (d.natAbs : Int) = d := by omega
 rw [Int.natCast_ediv, this]
theorem natAbs_ediv_le (n : Int) (g : Nat) (hg : (g : Int) ∣ n) : (n / (g : Int)).natAbs ≤ n.natAbs := by
 rw [Int.natAbs_ediv_of_dvd hg]
 exact Nat.div_le_self _ _
theorem divInt_fit {n d : Int} (hd : d ≠ 0) (hn : n.natAbs < 10 ^ 200) (hf : d.natAbs < 10 ^ 200) : FitQ (Rat.divInt n d) := by
 refine ⟨?_, ?_⟩
 ·rw [Rat.num_divInt]
  refine Nat.lt_of_le_of_lt (natAbs_ediv_le _ _ ?_) ?_
  ·exact Int.dvd_trans (Int.gcd_dvd_right ..) (Int.dvd_mul_left ..)
  ·rw [Int.natAbs_mul, Int.natAbs_sign_of_ne_zero hd, Nat.one_mul]; exact hn
 ·rw [Rat.den_divInt, if_neg hd]
  exact Nat.lt_of_le_of_lt (Nat.div_le_self _ _) hf
def rvalid (s t : List UInt8) : Bool := validS s && validS t && decide (0 < zv t) && (Int.gcd (zv s) (zv t) == 1)
theorem rvalid_itxt {q : Rat} (h : FitQ q) : rvalid (itxt q.num) (itxt (q.den : Int)) = true := by
 unfold rvalid
 have hd := q.den_pos
 have hr := q.reduced
 rw [validS_itxt h.1, validS_itxt (z := (q.den : Int)) (by rw [Int.natAbs_natCast]; exact h.2), zv_itxt, zv_itxt, decide_eq_true (by omega)]
 simp only [Bool.true_and, beq_iff_eq]
 unfold Int.gcd
 rw [Int.natAbs_natCast]
 exact hr
def cmpQ (a b : Rat) : Int := cmpN (a.num * b.den) (b.num * a.den)
end Go.VI.Num
namespace Go.VI.Num
theorem q_mul (a b : Rat) : Rat.divInt (a.num * b.num) ((a.den : Int) * b.den) = a * b := by
 rw [Rat.mul_def', ← Rat.divInt_ofNat, Int.natCast_mul]
def makeQ (n d : Int) : Option Rat := if d = 0 then none else some (Rat.divInt n d)
def fitZ (z : Int) : Bool := decide (z.natAbs < 10 ^ 200)
def addQ (a b : Rat) : Option Rat := if fitZ (a.num * b.den) && fitZ (b.num * a.den) && fitZ (a.num * b.den + b.num * a.den) && fitZ ((a.den : Int) * b.den) then some (a + b) else none
def subQ (a b : Rat) : Option Rat := if fitZ (a.num * b.den) && fitZ (b.num * a.den) && fitZ (a.num * b.den - b.num * a.den) && fitZ ((a.den : Int) * b.den) then some (a - b) else none
def mulQ (a b : Rat) : Option Rat := if fitZ (a.num * b.num) && fitZ ((a.den : Int) * b.den) then some (a * b) else none
def divQ (a b : Rat) : Option Rat := if fitZ (a.num * b.den) && fitZ ((a.den : Int) * b.num) && decide (b ≠ 0) then some (a / b) else none
def okO {α : Type} (o : Option α) : Bool := o.isSome
def dnZ (r : Rat) (p : Nat) : Int := r.num * 10 ^ p / r.den
def upZ (r : Rat) (p : Nat) : Int := if r.num * 10 ^ p % r.den = 0 then r.num * 10 ^ p / r.den else r.num * 10 ^ p / r.den + 1
def dnQ (r : Rat) (p : Nat) : Rat := Rat.divInt (dnZ r p) (10 ^ p)
def upQ (r : Rat) (p : Nat) : Rat := Rat.divInt (upZ r p) (10 ^ p)
end Go.VI.Num
namespace Go.VI.Num
theorem divInt_abs {n d : Int} (hd : d ≠ 0) : (Rat.divInt n d).num.natAbs ≤ n.natAbs ∧ (Rat.divInt n d).den ≤ d.natAbs := by
 constructor
 ·rw [Rat.num_divInt]
  refine Nat.le_trans (natAbs_ediv_le _ _ ?_) ?_
  ·exact Int.dvd_trans (Int.gcd_dvd_right ..) (Int.dvd_mul_left ..)
  ·rw [Int.natAbs_mul, Int.natAbs_sign_of_ne_zero hd, Nat.one_mul]; exact Nat.le_refl _
 ·rw [Rat.den_divInt, if_neg hd]
  exact Nat.div_le_self _ _
end Go.VI.Num
namespace Go.VI.Num
end Go.VI.Num
namespace Go.VI.Num
open Go.VI
def printS (n d : List UInt8) : List UInt8 := if rvalid n d then (if d = [49] then n else n ++ 47 :: d) else []
def pairL (s : List UInt8) : List UInt8 × List UInt8 := match findL [47] s with | some i => (s.take i, s.drop (i + 1)) | none => (s, [49])
def parseOk (s : List UInt8) : Bool := printS (pairL s).1 (pairL s).2 == s && !(s == [])
theorem itxt_one : itxt 1 = [49] := rfl
end Go.VI.Num
namespace Go.VI.Num
open Go.VI
def genC (c : Int) : Int := (c * 48271 + 11) % 2147483647
def genL : Nat → Int → List UInt8
 | 0, _ => []
 | k + 1, c => UInt8.ofNat (48 + (genC c / 65536 % 10)).toNat :: genL k (genC c)
def strip0 : List UInt8 → List UInt8
 | b :: c :: l => if b = 48 then strip0 (c :: l) else b :: c :: l
 | l => l
def longV (c : Int) (k : Nat) : Nat := dv 0 (genL k c)
def FitL (q : Rat) : Prop := q.num.natAbs < 10 ^ 100 ∧ q.den < 10 ^ 100
theorem pow_100_200 : (10 : Nat) ^ 100 ≤ 10 ^ 200 := Nat.pow_le_pow_right (by decide) (by decide)
theorem FitL.fit {q : Rat} (h : FitL q) : FitQ q := ⟨Nat.lt_of_lt_of_le h.1 pow_100_200, Nat.lt_of_lt_of_le h.2 pow_100_200⟩
end Go.VI.Num
namespace Go.VI.Num
def okS (l : List Int) : Bool := decide (l.length ≤ 600) && l.all fun s => decide (-32768 ≤ s) && decide (s ≤ 32767)
def enL (l : List Int) : Int := l.foldr (fun x a => x * x + a) 0
def nbL (n : Nat) : Nat := if n < 32 then 0 else (n - 32) / 8 + 1
def blkL (l : List Int) (i : Nat) : Int := enL ((l.drop (8 * i)).take 32)
def blocksL (l : List Int) : List Int := (List.range (nbL l.length)).map (blkL l)
def audB (g e : Int) : Bool := decide (335544320 ≤ e * g * g)
def sumL (l : List Int) : Int := l.foldr (fun x a => x + a) 0
def keepB (n s e : Int) : Bool := !decide (10 * n * e < s)
def audL (g : Int) (es : List Int) : List Int := es.filter (audB g)
def cntL (g : Int) (es : List Int) : List Int := (audL g es).filter (keepB (audL g es).length (sumL (audL g es)))
def idxF (p : Int → Bool) : List Int → Nat → List Nat
 | [], _ => []
 | e :: r, k => if p e then k :: idxF p r (k + 1) else idxF p r (k + 1)
def gateB (g : Int) (es : List Int) (e : Int) : Bool := audB g e && keepB (audL g es).length (sumL (audL g es)) e
def gateL (g : Int) (es : List Int) : List Nat := idxF (gateB g es) es 0
theorem sumL_cons (x : Int) (l : List Int) : sumL (x :: l) = x + sumL l := rfl
theorem sumL_append (a b : List Int) : sumL (a ++ b) = sumL a + sumL b := by
 induction a with
 | nil => simp [sumL]
 | cons x l ih => rw [List.cons_append, sumL_cons, sumL_cons, ih]; omega
theorem enL_cons (x : Int) (l : List Int) : enL (x :: l) = x * x + enL l := rfl
theorem enL_append (a b : List Int) : enL (a ++ b) = enL a + enL b := by
 induction a with
 | nil => simp [enL]
 | cons x l ih => rw [List.cons_append, enL_cons, enL_cons, ih]; omega
theorem lsq_le {s : Int} (h1 : -32768 ≤ s) (h2 : s ≤ 32767) : 0 ≤ s * s ∧ s * s ≤ 1073741824 := by
 have h3 : (s.natAbs * s.natAbs : Nat) ≤ 32768 * 32768 := Nat.mul_le_mul (by omega) (by omega)
 have h4 : s * s = ((s.natAbs * s.natAbs : Nat) : Int) := by rw [Int.natAbs_mul_self]
 omega
theorem enL_le : ∀ (l : List Int), (∀ s ∈ l, -32768 ≤ s ∧ s ≤ 32767) → 0 ≤ enL l ∧ enL l ≤ 1073741824 * l.length
 | [], _ => by simp [enL]
 | x :: l, h => by
  have h1 := enL_le l fun s hs => h s (List.mem_cons_of_mem _ hs)
  have h2 := lsq_le (h x (by simp)).1 (h x (by simp)).2
  rw [enL_cons, List.length_cons]
  omega
theorem okS_mem {l : List Int} (h : okS l = true) : l.length ≤ 600 ∧ ∀ s ∈ l, -32768 ≤ s ∧ s ≤ 32767 := by
 unfold okS at h
 simp only [Bool.and_eq_true, decide_eq_true_eq, List.all_eq_true] at h
 exact ⟨h.1, fun s hs => h.2 s hs⟩
def okE (es : List Int) : Prop := es.length ≤ 72 ∧ ∀ e ∈ es, 0 ≤ e ∧ e ≤ 34359738368
theorem nbL_le {n : Nat} (h : n ≤ 600) : nbL n ≤ 72 := by unfold nbL; split <;> omega
theorem blocks_okE {l : List Int} (h : okS l = true) : okE (blocksL l) := by
 obtain ⟨h1, h2⟩ := okS_mem h
 refine ⟨by unfold blocksL; rw [List.length_map, List.length_range]; exact nbL_le h1, fun e he => ?_⟩
 unfold blocksL at he
 obtain ⟨i, _, rfl⟩ := List.mem_map.mp he
 unfold blkL
 have h3 := enL_le ((l.drop (8 * i)).take 32) fun s hs => h2 s (List.mem_of_mem_drop (List.mem_of_mem_take hs))
 have h4 : ((l.drop (8 * i)).take 32).length ≤ 32 := by rw [List.length_take]; omega
 omega
theorem sum_filter_le {p : Int → Bool} : ∀ {es : List Int}, (∀ e ∈ es, 0 ≤ e ∧ e ≤ 34359738368) → 0 ≤ sumL (es.filter p) ∧ sumL (es.filter p) ≤ 34359738368 * es.length
 | [], _ => by simp [sumL]
 | x :: l, h => by
  have h1 := sum_filter_le (p := p) (es := l) fun s hs => h s (List.mem_cons_of_mem _ hs)
  have h2 := h x (by simp)
  rw [List.filter_cons, List.length_cons]
  split
  ·rw [sumL_cons]; omega
  ·omega
theorem aud_bound {e g : Int} (h1 : 0 ≤ e ∧ e ≤ 34359738368) (h2 : 0 ≤ g ∧ g ≤ 4096) : 0 ≤ e * g ∧ e * g ≤ 140737488355328 ∧ 0 ≤ e * g * g ∧ e * g * g ≤ 576460752303423488 := by
 have k1 : e * g ≤ 34359738368 * g := Int.mul_le_mul_of_nonneg_right h1.2 h2.1
 have k2 : 0 ≤ e * g := Int.mul_nonneg h1.1 h2.1
 have k3 : e * g * g ≤ 140737488355328 * g := Int.mul_le_mul_of_nonneg_right (by omega) h2.1
 have k4 : 0 ≤ e * g * g := Int.mul_nonneg k2 h2.1
 exact ⟨k2, by omega, k4, by omega⟩
def atL (l : List Int) (i : Int) : Int := if 0 ≤ i ∧ i < l.length then (l[i.toNat]?).getD 0 else 0
def kerL : List (List Int) := [[0, 128, 0, 0], [-9, 111, 29, -3], [-8, 72, 72, -8], [-3, 29, 111, -9]]
def valL (l : List Int) (i a b c d : Int) : Int := a * atL l (i - 1) + b * atL l i + c * atL l (i + 1) + d * atL l (i + 2)
def mx3 (o v : Int) : Int := max (max o v) (-v)
def oneL (l : List Int) (o i : Int) : Int := mx3 (mx3 (mx3 (mx3 o (valL l i 0 128 0 0)) (valL l i (-9) 111 29 (-3))) (valL l i (-8) 72 72 (-8))) (valL l i (-3) 29 111 (-9))
def pkF (l : List Int) : Nat → Int → Int → Int
 | 0, _, o => o
 | n + 1, i, o => pkF l n (i + 1) (oneL l o i)
def peakL (l : List Int) : Int := pkF l (l.length + 3) (-2) 0
def okG (es : List Int) (pk most c g : Int) : Bool := decide (pk * g ≤ c * 1024) && decide (sumL (cntL g es) * g ≤ most * 32 * (cntL g es).length * 1048576 / g)
def gFind (es : List Int) (pk most c : Int) : Nat → Nat
 | 0 => 0
 | g + 1 => if okG es pk most c ((g + 1 : Nat) : Int) then g + 1 else gFind es pk most c g
def gainL (l : List Int) (most c : Int) : Nat := gFind (blocksL l) (peakL l) most c 4096
def measQ (es : List Int) (g : Int) : Rat := Rat.divInt (sumL (cntL g es)) (32 * max (cntL g es).length 1) * Rat.divInt (g * g) 1048576
end Go.VI.Num
namespace Go.VI.Num
theorem idxF_map (p : Int → Bool) : ∀ (l : List Int) (k : Nat), (idxF p l k).map (fun i => (l[i - k]?).getD 0) = l.filter p
 | [], k => rfl
 | x :: l, k => by
  have ih := idxF_map p l (k + 1)
  have hm : ∀ i ∈ idxF p l (k + 1), k + 1 ≤ i := idxF_ge p l (k + 1)
  have e : (idxF p l (k + 1)).map (fun i => ((x :: l)[i - k]?).getD 0) = (idxF p l (k + 1)).map (fun i => (l[i - (k + 1)]?).getD 0) := by
   refine List.map_congr_left fun i hi => ?_
   have := hm i hi
   have e2 : i - k = (i - (k + 1)) + 1 := by omega
   rw [e2, List.getElem?_cons_succ]
  unfold idxF
  rw [List.filter_cons]
  split
  ·rw [List.map_cons, e, ih]; simp
  ·rw [e, ih]
where
 idxF_ge (p : Int → Bool) : ∀ (l : List Int) (k : Nat), ∀ i ∈ idxF p l k, k ≤ i
  | [], k, i, h => by simp [idxF] at h
  | x :: l, k, i, h => by
   unfold idxF at h
   split at h
   ·rcases List.mem_cons.mp h with rfl | h
    ·exact Nat.le_refl _
    ·have := idxF_ge p l (k + 1) i h; omega
   ·have := idxF_ge p l (k + 1) i h; omega
theorem idxF_mem (p : Int → Bool) : ∀ (l : List Int) (k : Nat), ∀ i ∈ idxF p l k, k ≤ i ∧ ∃ h : i - k < l.length, p (l[i - k]) = true
 | [], k, i, h => by simp [idxF] at h
 | x :: l, k, i, h => by
  unfold idxF at h
  have tail : i ∈ idxF p l (k + 1) → k ≤ i ∧ ∃ h : i - k < (x :: l).length, p ((x :: l)[i - k]) = true := fun h => by
   obtain ⟨h1, h2, h3⟩ := idxF_mem p l (k + 1) i h
   have e2 : i - k = (i - (k + 1)) + 1 := by omega
   refine ⟨by omega, by simp; omega, ?_⟩
   simp only [e2, List.getElem_cons_succ]
   exact h3
  split at h
  ·rename_i hp
   rcases List.mem_cons.mp h with rfl | h
   ·exact ⟨Nat.le_refl _, by simp, by simpa using hp⟩
   ·exact tail h
  ·exact tail h
theorem idxF_len (p : Int → Bool) (l : List Int) (k : Nat) : (idxF p l k).length = (l.filter p).length := by rw [← idxF_map p l k, List.length_map]
theorem cnt_filter (g : Int) (es : List Int) : cntL g es = es.filter (gateB g es) := by
 unfold cntL audL gateB
 rw [List.filter_filter]
 congr 1
 funext e
 rw [Bool.and_comm]
 rfl
theorem gate_len (g : Int) (es : List Int) : (gateL g es).length = (cntL g es).length := by rw [cnt_filter]; exact idxF_len _ _ _
theorem gate_map (g : Int) (es : List Int) : (gateL g es).map (fun i => (es[i]?).getD 0) = cntL g es := by
 rw [cnt_filter]; exact idxF_map _ es 0
theorem cnt_bound {es : List Int} (h : okE es) (g : Int) : (cntL g es).length ≤ 72 ∧ 0 ≤ sumL (cntL g es) ∧ sumL (cntL g es) ≤ 2473901162496 := by
 rw [cnt_filter]
 have h1 := sum_filter_le (p := gateB g es) h.2
 have h2 := List.length_filter_le (gateB g es) es
 have h3 := h.1
 omega
theorem aud_sum {es : List Int} (h : okE es) (g : Int) : (audL g es).length ≤ 72 ∧ 0 ≤ sumL (audL g es) ∧ sumL (audL g es) ≤ 2473901162496 := by
 have h1 := sum_filter_le (p := audB g) h.2
 have h2 := List.length_filter_le (audB g) es
 have h3 := h.1
 unfold audL
 omega
end Go.VI.Num
namespace Go.VI.Num
end Go.VI.Num
namespace Go.VI.Num
def R4 (P : Int → Prop) (l : List Int) (i : Int) : Prop := P (valL l i 0 128 0 0) ∧ P (valL l i (-9) 111 29 (-3)) ∧ P (valL l i (-8) 72 72 (-8)) ∧ P (valL l i (-3) 29 111 (-9))
def Hit (l : List Int) (i x : Int) : Prop := (valL l i 0 128 0 0 = x ∨ -valL l i 0 128 0 0 = x) ∨ (valL l i (-9) 111 29 (-3) = x ∨ -valL l i (-9) 111 29 (-3) = x) ∨ (valL l i (-8) 72 72 (-8) = x ∨ -valL l i (-8) 72 72 (-8) = x) ∨ (valL l i (-3) 29 111 (-9) = x ∨ -valL l i (-3) 29 111 (-9) = x)
theorem mx3_spec (o v : Int) : o ≤ mx3 o v ∧ v ≤ mx3 o v ∧ -v ≤ mx3 o v ∧ (mx3 o v = o ∨ mx3 o v = v ∨ mx3 o v = -v) := by unfold mx3; omega
theorem oneL_spec (l : List Int) (o i : Int) : o ≤ oneL l o i ∧ (∀ x, Hit l i x → x ≤ oneL l o i) ∧ (oneL l o i = o ∨ Hit l i (oneL l o i)) := by
 unfold oneL Hit
 generalize valL l i 0 128 0 0 = a
 generalize valL l i (-9) 111 29 (-3) = b
 generalize valL l i (-8) 72 72 (-8) = c
 generalize valL l i (-3) 29 111 (-9) = d
 have h1 := mx3_spec o a
 generalize mx3 o a = p at *
 have h2 := mx3_spec p b
 generalize mx3 p b = q at *
 have h3 := mx3_spec q c
 generalize mx3 q c = r at *
 have h4 := mx3_spec r d
 generalize mx3 r d = s at *
 refine ⟨by omega, fun x hx => by omega, by omega⟩
theorem pkF_spec (l : List Int) : ∀ (n : Nat) (i o : Int), o ≤ pkF l n i o ∧ (∀ j x, i ≤ j → j < i + n → Hit l j x → x ≤ pkF l n i o) ∧ (pkF l n i o = o ∨ ∃ j, Hit l j (pkF l n i o))
 | 0, i, o => ⟨Int.le_refl _, fun j x h1 h2 => by omega, .inl rfl⟩
 | n + 1, i, o => by
  obtain ⟨h1, h2, h3⟩ := oneL_spec l o i
  obtain ⟨k1, k2, k3⟩ := pkF_spec l n (i + 1) (oneL l o i)
  unfold pkF
  refine ⟨by omega, fun j x g1 g2 hx => ?_, ?_⟩
  ·by_cases c : j = i
   ·subst c; have := h2 x hx; omega
   ·exact k2 j x (by omega) (by omega) hx
  ·rcases k3 with e | e
   ·rcases h3 with e' | e'
    ·exact .inl (by rw [e, e'])
    ·exact .inr ⟨i, by rw [e]; exact e'⟩
   ·exact .inr e
theorem atL_out {l : List Int} {i : Int} (h : i < 0 ∨ l.length ≤ i) : atL l i = 0 := by unfold atL; rw [if_neg (by omega)]
theorem hit_out {l : List Int} {i x : Int} (h : i < -2 ∨ (l.length : Int) < i) (hx : Hit l i x) : x = 0 := by
 have a := atL_out (l := l) (i := i - 1) (by omega)
 have b := atL_out (l := l) (i := i) (by omega)
 have c := atL_out (l := l) (i := i + 1) (by omega)
 have d := atL_out (l := l) (i := i + 2) (by omega)
 unfold Hit valL at hx
 rw [a, b, c, d] at hx
 omega
def IsPk (l : List Int) (p : Int) : Prop := 0 ≤ p ∧ (∀ i x, Hit l i x → x ≤ p) ∧ (p = 0 ∨ ∃ i, Hit l i p)
theorem peakL_is (l : List Int) : IsPk l (peakL l) := by
 obtain ⟨h1, h2, h3⟩ := pkF_spec l (l.length + 3) (-2) 0
 refine ⟨h1, fun i x hx => ?_, h3⟩
 by_cases c : i < -2 ∨ (l.length : Int) < i
 ·rw [hit_out c hx]; exact h1
 ·exact h2 i x (by omega) (by omega) hx
theorem IsPk.same {l m : List Int} {p q : Int} (h1 : IsPk l p) (h2 : IsPk m q) (f : ∀ i x, Hit l i x → ∃ j, Hit m j x) (g : ∀ i x, Hit m i x → ∃ j, Hit l j x) : p = q := by
 obtain ⟨a1, a2, a3⟩ := h1
 obtain ⟨b1, b2, b3⟩ := h2
 refine Int.le_antisymm ?_ ?_
 ·rcases a3 with rfl | ⟨i, hi⟩
  ·exact b1
  ·obtain ⟨j, hj⟩ := f i p hi; exact b2 j p hj
 ·rcases b3 with rfl | ⟨i, hi⟩
  ·exact a1
  ·obtain ⟨j, hj⟩ := g i q hi; exact a2 j q hj
theorem atL_get {l : List Int} {i : Nat} (h : i < l.length) : atL l i = l[i] := by
 unfold atL
 rw [if_pos (by omega), Int.toNat_natCast, List.getElem?_eq_getElem h]; rfl
theorem atL_shift (a b : Nat) (l : List Int) (i : Int) : atL (List.replicate a 0 ++ l ++ List.replicate b 0) i = atL l (i - a) := by
 by_cases h : 0 ≤ i ∧ i < a + l.length + b
 ·obtain ⟨n, rfl⟩ : ∃ n : Nat, i = n := ⟨i.toNat, by omega⟩
  rw [atL_get (by simp; omega)]
  by_cases h1 : n < a
  ·rw [atL_out (by omega), List.getElem_append_left (by simp; omega), List.getElem_append_left (by simpa using h1), List.getElem_replicate]
  ·by_cases h2 : n < a + l.length
   ·have e : (n : Int) - a = ((n - a : Nat) : Int) := by omega
    rw [e, atL_get (by omega), List.getElem_append_left (by simp; omega), List.getElem_append_right (by simp; omega)]
    simp
   ·rw [atL_out (by omega), List.getElem_append_right (by simp; omega), List.getElem_replicate]
 ·rw [atL_out (by simp; omega), atL_out (by omega)]
theorem peak_shift (a b : Nat) (l : List Int) : peakL (List.replicate a 0 ++ l ++ List.replicate b 0) = peakL l := by
 have key : ∀ i x, Hit (List.replicate a 0 ++ l ++ List.replicate b 0) i x ↔ Hit l (i - a) x := fun i x => by
  unfold Hit valL
  rw [atL_shift, atL_shift, atL_shift, atL_shift]
  have e1 : i - 1 - (a : Int) = i - a - 1 := by omega
  have e2 : i + 1 - (a : Int) = i - a + 1 := by omega
  have e3 : i + 2 - (a : Int) = i - a + 2 := by omega
  rw [e1, e2, e3]
 refine (peakL_is _).same (peakL_is l) (fun i x h => ⟨i - a, (key i x).mp h⟩) fun i x h => ⟨i + a, (key (i + a) x).mpr ?_⟩
 have e : i + (a : Int) - a = i := by omega
 rw [e]; exact h
def mostL (l : List Int) : Int := l.foldl mx3 0
end Go.VI.Num
namespace Go.VI.Num
def enA (l : List Int) : Int → Nat → Int
 | _, 0 => 0
 | k, n + 1 => atL l k * atL l k + enA l (k + 1) n
theorem enA_eq (l : List Int) : ∀ (n k : Nat), enL ((l.drop k).take n) = enA l k n
 | 0, k => by simp [enL, enA]
 | n + 1, k => by
  unfold enA
  have e : (k : Int) + 1 = ((k + 1 : Nat) : Int) := by omega
  rw [e]
  by_cases h : k < l.length
  ·rw [List.drop_eq_getElem_cons h, List.take_succ_cons, enL_cons, enA_eq l n (k + 1), atL_get h]
  ·rw [← enA_eq l n (k + 1), List.drop_of_length_le (by omega), List.drop_of_length_le (by omega), atL_out (by omega)]
   simp [enL]
theorem enA_zero (l : List Int) : ∀ (n : Nat) (k : Int), (∀ j, k ≤ j → j < k + n → atL l j = 0) → enA l k n = 0
 | 0, k, _ => rfl
 | n + 1, k, h => by
  unfold enA
  rw [h k (by omega) (by omega), enA_zero l n (k + 1) fun j h1 h2 => h j (by omega) (by omega)]; rfl
theorem enA_shift (a b : Nat) (l : List Int) : ∀ (n : Nat) (k : Int), enA (List.replicate a 0 ++ l ++ List.replicate b 0) k n = enA l (k - a) n
 | 0, k => rfl
 | n + 1, k => by
  unfold enA
  rw [atL_shift, enA_shift a b l n (k + 1)]
  have e : k + 1 - (a : Int) = k - a + 1 := by omega
  rw [e]
theorem blk_eq (l : List Int) (i : Nat) : blkL l i = enA l ((8 * i : Nat) : Int) 32 := enA_eq l 32 (8 * i)
theorem filter_skip {p : Int → Bool} {f : Nat → Int} : ∀ {L : List Nat}, (∀ i ∈ L, p (f i) = false) → (L.map f).filter p = []
 | L, h => by rw [List.filter_eq_nil_iff]; intro x hx; obtain ⟨i, hi, rfl⟩ := List.mem_map.mp hx; rw [h i hi]; simp
theorem aud0 (g : Int) : audB g 0 = false := by unfold audB; simp
theorem aud_silence {m : List Int} (hm : m.length % 8 = 0) (a b : Nat) (g : Int) :
  audL g (blocksL (List.replicate (8 * a) 0 ++ (List.replicate 24 0 ++ m ++ List.replicate 24 0) ++ List.replicate b 0)) = audL g (blocksL (List.replicate 24 0 ++ m ++ List.replicate 24 0)) := by
 obtain ⟨s, hs⟩ : ∃ s, s = List.replicate 24 (0 : Int) ++ m ++ List.replicate 24 0 := ⟨_, rfl⟩
 have hsl : s.length = m.length + 48 := by rw [hs]; simp
 have hz : ∀ j : Int, j < 24 ∨ (s.length : Int) - 24 ≤ j → atL s j = 0 := fun j hj => by
  rw [hs, atL_shift, atL_out (by omega)]
 rw [← hs]
 obtain ⟨L, hL⟩ : ∃ L, L = List.replicate (8 * a) (0 : Int) ++ s ++ List.replicate b 0 := ⟨_, rfl⟩
 have hLl : L.length = 8 * a + s.length + b := by rw [hL]; simp; omega
 have bk : ∀ i, blkL L i = enA s (((8 * i : Nat) : Int) - (8 * a : Nat)) 32 := fun i => by rw [blk_eq, hL, enA_shift]
 rw [← hL]
 obtain ⟨n, hn⟩ : ∃ n, n = nbL s.length := ⟨_, rfl⟩
 have hn8 : 8 * n = s.length - 24 := by rw [hn]; unfold nbL; split <;> omega
 obtain ⟨r, hr⟩ : ∃ r, nbL L.length = a + n + r := ⟨nbL L.length - (a + n), by unfold nbL; split <;> omega⟩
 unfold audL blocksL
 rw [hr, ← hn, List.range_add, List.range_add, List.map_append, List.map_append, List.filter_append, List.filter_append]
 have p1 : ((List.range a).map (blkL L)).filter (audB g) = [] := filter_skip fun i hi => by
  have := List.mem_range.mp hi
  rw [bk, enA_zero s 32 _ fun j h1 h2 => hz j (.inl (by omega))]
  exact aud0 g
 have p3 : ((List.map (fun x => a + n + x) (List.range r)).map (blkL L)).filter (audB g) = [] := filter_skip fun i hi => by
  obtain ⟨k, hk, rfl⟩ := List.mem_map.mp hi
  rw [bk, enA_zero s 32 _ fun j h1 h2 => hz j (.inr (by omega))]
  exact aud0 g
 rw [p1, p3, List.nil_append, List.append_nil, List.map_map]
 congr 1
 refine List.map_congr_left fun i hi => ?_
 have : ((8 * (a + i) : Nat) : Int) - ((8 * a : Nat) : Int) = ((8 * i : Nat) : Int) := by omega
 show blkL L (a + i) = blkL s i
 rw [bk, this, blk_eq]
theorem cnt_congr {g : Int} {es fs : List Int} (h : audL g es = audL g fs) : cntL g es = cntL g fs := by unfold cntL; rw [h]
theorem okG_congr {es fs : List Int} (h : ∀ g, cntL g es = cntL g fs) (pk m c g : Int) : okG es pk m c g = okG fs pk m c g := by unfold okG; rw [h]
theorem gFind_congr {es fs : List Int} (h : ∀ g, cntL g es = cntL g fs) (pk m c : Int) : ∀ n, gFind es pk m c n = gFind fs pk m c n
 | 0 => rfl
 | n + 1 => by unfold gFind; rw [okG_congr h, gFind_congr h pk m c n]
end Go.VI.Num
namespace Go.VI.Num
theorem idxF_append (p : Int → Bool) : ∀ (a b : List Int) (k : Nat), idxF p (a ++ b) k = idxF p a k ++ idxF p b (k + a.length)
 | [], b, k => by simp [idxF]
 | x :: a, b, k => by
  have ih := idxF_append p a b (k + 1)
  have e : k + 1 + a.length = k + (x :: a).length := by rw [List.length_cons]; omega
  show (if p x then k :: idxF p (a ++ b) (k + 1) else idxF p (a ++ b) (k + 1)) = (if p x then k :: idxF p a (k + 1) else idxF p a (k + 1)) ++ idxF p b (k + (x :: a).length)
  rw [ih, e]
  split <;> rfl
theorem idxF_take {p : Int → Bool} {l : List Int} {k : Nat} (hk : k < l.length) : idxF p (l.take (k + 1)) 0 = idxF p (l.take k) 0 ++ (if p l[k] then [k] else []) := by
 rw [List.take_succ_eq_append_getElem hk, idxF_append]
 congr 1
 have : (l.take k).length = k := by rw [List.length_take]; omega
 rw [this]
 unfold idxF
 simp [idxF]
theorem sum_take {p : Int → Bool} {l : List Int} {k : Nat} (hk : k < l.length) : sumL ((l.take (k + 1)).filter p) = sumL ((l.take k).filter p) + (if p l[k] then l[k] else 0) := by
 rw [List.take_succ_eq_append_getElem hk, List.filter_append, sumL_append]
 congr 1
 cases h : p l[k] <;> simp [h, sumL]
theorem idxF_and (p q : Int → Bool) : ∀ (l : List Int) (k : Nat), idxF (fun e => p e && q e) l k = (idxF p l k).filter (fun i => q ((l[i - k]?).getD 0))
 | [], k => rfl
 | x :: l, k => by
  have ih := idxF_and p q l (k + 1)
  have e : (idxF p l (k + 1)).filter (fun i => q (((x :: l)[i - k]?).getD 0)) = (idxF p l (k + 1)).filter (fun i => q ((l[i - (k + 1)]?).getD 0)) := by
   refine List.filter_congr fun i hi => ?_
   have := idxF_map.idxF_ge p l (k + 1) i hi
   have e2 : i - k = (i - (k + 1)) + 1 := by omega
   rw [e2, List.getElem?_cons_succ]
  unfold idxF
  rw [ih]
  cases hp : p x with
  | true =>
   rw [if_pos rfl, List.filter_cons, e]
   cases hq : q x with
   | true => simp [hq]
   | false => simp [hq]
  | false => simp only [Bool.false_and, Bool.false_eq_true, if_false]; exact e.symm
def iL (l : List Nat) : List Int := l.map fun i : Nat => (i : Int)
theorem iL_len (l : List Nat) : (iL l).length = l.length := by simp [iL]
theorem gate_filter (g : Int) (es : List Int) : iL (gateL g es) = (iL (idxF (audB g) es 0)).filter (fun x => !decide (10 * ((audL g es).length : Int) * ((es[x.toNat]?).getD 0) < sumL (audL g es))) := by
 unfold gateL gateB iL
 rw [idxF_and, List.filter_map]
 congr 1
theorem idx_aud_len (g : Int) (es : List Int) : (idxF (audB g) es 0).length = (audL g es).length := idxF_len _ _ _
theorem idx_lt {p : Int → Bool} {es : List Int} {x : Int} (h : x ∈ iL (idxF p es 0)) : 0 ≤ x ∧ x.toNat < es.length := by
 obtain ⟨i, hi, rfl⟩ := List.mem_map.mp h
 obtain ⟨_, h2, _⟩ := idxF_mem p es 0 i hi
 constructor
 ·omega
 ·rw [Int.toNat_natCast]; omega
end Go.VI.Num
namespace Go.VI.Num
def I64 (c : Int) : Prop := -9223372036854775808 ≤ c ∧ c ≤ 9223372036854775807
def pkI (c n : Int) : Int := (if c < 0 then -(c + 1) else c) % n
theorem pkI_range (c : Int) {n : Int} (hn : 0 < n) : 0 ≤ pkI c n ∧ pkI c n < n := ⟨Int.emod_nonneg _ (by omega), Int.emod_lt_of_pos _ hn⟩
theorem tdiv_small {c n b : Int} (h : -b ≤ c ∧ c ≤ b) (hn : 1 < n) : -b ≤ c.tdiv n ∧ c.tdiv n ≤ b := by
 rcases Int.lt_or_le c 0 with h0 | h0
 ·have e : c.tdiv n = -((-c) / n) := by rw [← Int.tdiv_eq_ediv_of_nonneg (by omega), Int.neg_tdiv, Int.neg_neg]
  have g1 : 0 ≤ (-c) / n := Int.ediv_nonneg (by omega) (by omega)
  have g2 : (-c) / n ≤ -c := Int.ediv_le_self n (by omega)
  omega
 ·rw [Int.tdiv_eq_ediv_of_nonneg h0]
  have g1 : 0 ≤ c / n := Int.ediv_nonneg h0 (by omega)
  have g2 : c / n ≤ c := Int.ediv_le_self n h0
  omega
theorem tdiv64 {c n : Int} (h : I64 c) (hn : 1 < n) : I64 (c.tdiv n) := by
 obtain ⟨h1, h2⟩ := h
 rcases Int.lt_or_le c 0 with h | h
 ·have e : c.tdiv n = -((-c) / n) := by rw [← Int.tdiv_eq_ediv_of_nonneg (by omega), Int.neg_tdiv, Int.neg_neg]
  have g1 : 0 ≤ (-c) / n := Int.ediv_nonneg (by omega) (by omega)
  have g2 : (-c) / n ≤ -c := Int.ediv_le_self n (by omega)
  unfold I64; omega
 ·rw [Int.tdiv_eq_ediv_of_nonneg h]
  have g1 : 0 ≤ c / n := Int.ediv_nonneg h (by omega)
  have g2 : c / n ≤ c := Int.ediv_le_self n h
  unfold I64; omega
def madeA (x : Int) : Int := if pkI (x.tdiv 4001) 3 = 0 then (pkI x 4001 - 2000).tdiv 200 else pkI x 4001 - 2000
def madeP (x : Int) : Int := 1 + pkI (x.tdiv 12003) 5
def madeAt (a p : Int) (k : Nat) : Int := if (k : Int) / p % 2 = 1 then -a else a
def mkL (a p : Int) (n : Nat) : List Int := (List.range n).map (madeAt a p)
def soundL (xs : List Int) : List Int := ((xs.take 12).map fun x => mkL (madeA x) (madeP x) 16).flatten
theorem madeA_bd (x : Int) : -2000 ≤ madeA x ∧ madeA x ≤ 2000 := by
 have h := pkI_range x (n := 4001) (by decide)
 unfold madeA
 generalize pkI x 4001 = a at *
 split
 ·exact tdiv_small (by omega) (by decide)
 ·omega
theorem madeP_bd (x : Int) : 1 ≤ madeP x ∧ madeP x ≤ 5 := by
 have h := pkI_range (x.tdiv 12003) (n := 5) (by decide)
 unfold madeP; omega
theorem mkL_len (a p : Int) (n : Nat) : (mkL a p n).length = n := by simp [mkL]
theorem mkL_succ (a p : Int) (n : Nat) : mkL a p (n + 1) = mkL a p n ++ [madeAt a p n] := by
 unfold mkL; rw [List.range_succ, List.map_append]; rfl
theorem flat_len {α β : Type} {f : α → List β} {n : Nat} : ∀ (l : List α), (∀ x, (f x).length = n) → (l.map f).flatten.length = n * l.length
 | [], _ => by simp
 | x :: l, h => by rw [List.map_cons, List.flatten_cons, List.length_append, h, flat_len l h, List.length_cons, Nat.mul_add]; omega
theorem sound_len (xs : List Int) : (soundL xs).length = 16 * min 12 xs.length := by
 unfold soundL
 rw [flat_len (n := 16) _ fun x => mkL_len _ _ _, List.length_take]
theorem sound_mem {xs : List Int} {s : Int} (h : s ∈ soundL xs) : -2000 ≤ s ∧ s ≤ 2000 := by
 unfold soundL at h
 obtain ⟨l, hl, hs⟩ := List.mem_flatten.mp h
 obtain ⟨x, _, rfl⟩ := List.mem_map.mp hl
 obtain ⟨k, _, rfl⟩ := List.mem_map.mp hs
 have := madeA_bd x
 unfold madeAt
 split <;> omega
theorem ok_of {l : List Int} (h1 : l.length ≤ 600) (h2 : ∀ s ∈ l, -32768 ≤ s ∧ s ≤ 32767) : okS l = true := by
 unfold okS
 simp only [Bool.and_eq_true, decide_eq_true_eq, List.all_eq_true]
 exact ⟨h1, h2⟩
theorem sound_take {xs : List Int} {i : Nat} (h : i < xs.length) (h2 : i < 12) : soundL (xs.take (i + 1)) = soundL (xs.take i) ++ mkL (madeA xs[i]) (madeP xs[i]) 16 := by
 unfold soundL
 rw [List.take_take, List.take_take, Nat.min_eq_right (by omega), Nat.min_eq_right (by omega), List.take_succ_eq_append_getElem h, List.map_append, List.flatten_append]
 simp
theorem sound_all (xs : List Int) : soundL (xs.take (min 12 xs.length)) = soundL xs := by
 unfold soundL
 rw [List.take_take]
 congr 2
 rw [List.take_eq_take_iff]; omega
end Go.VI.Num
