/- What the functions on integers compute, part MA. -/
import Derived.Test.YtfpoegnmeoghpaaGreatDoorVSL
set_option linter.unusedVariables false
set_option linter.unusedSimpArgs false
/- Numbers as groups of four digits: what the operations on them come to, plainly. -/
namespace Go.VI.Num
def gv : List Int → Int
 | [] => 0
 | d :: r => d + 10000 * gv r
def Dig (l : List Int) : Prop := ∀ x ∈ l,0 ≤ x ∧ x ≤ 9999
theorem Dig.cons {d : Int} {r : List Int} : Dig (d :: r) ↔ (0 ≤ d ∧ d ≤ 9999) ∧ Dig r := by simp [Dig]
theorem Dig.nil : Dig [] := by simp [Dig]
theorem gv_nn : ∀ {l : List Int},Dig l → 0 ≤ gv l
 | [],_ => by simp [gv]
 | d :: r,h => by
  have := gv_nn (Dig.cons.mp h).2
  have := (Dig.cons.mp h).1
  simp only [gv]; omega
theorem gv_lt : ∀ {l : List Int},Dig l → gv l < 10000 ^ l.length
 | [],_ => by simp [gv]
 | d :: r,h => by
  have h1 := gv_lt (Dig.cons.mp h).2
  have h2 := (Dig.cons.mp h).1
  simp only [gv,List.length_cons,Int.pow_succ]
  generalize (10000 : Int) ^ r.length = X at *
  omega
theorem gv_app (a b : List Int) : gv (a ++ b) = gv a + 10000 ^ a.length * gv b := by
 induction a with
 | nil => simp [gv]
 | cons d r ih =>
  simp only [List.cons_append,gv,ih,List.length_cons,Int.pow_succ]
  rw [Int.mul_add,Int.add_assoc,Int.mul_comm ((10000 : Int) ^ r.length) 10000,Int.mul_assoc]
def grpF : Nat → Nat → List Int
 | 0,_ => []
 | f + 1,n => if n = 0 then [] else ((n % 10000 : Nat) : Int) :: grpF f (n / 10000)
def grp (n : Nat) : List Int := grpF n n
theorem grpF_eq : ∀ (f f' n : Nat),n ≤ f → n ≤ f' → grpF f n = grpF f' n
 | 0,0,n,_,_ => rfl
 | 0,f' + 1,n,h,_ => by
  have : n = 0 := by omega
  subst this; rfl
 | f + 1,0,n,_,h => by
  have : n = 0 := by omega
  subst this; rfl
 | f + 1,f' + 1,n,h,h' => by
  simp only [grpF]
  split
  ·rfl
  ·rw [grpF_eq f f' (n / 10000) (by omega) (by omega)]
theorem grp_zero : grp 0 = [] := rfl
theorem grp_pos {n : Nat} (h : n ≠ 0) : grp n = ((n % 10000 : Nat) : Int) :: grp (n / 10000) := by
 obtain ⟨m,rfl⟩ : ∃ m,n = m + 1 := ⟨n - 1,by omega⟩
 show grpF (m + 1) (m + 1) = _
 simp only [grpF,h,if_false]
 rw [grpF_eq m ((m + 1) / 10000) _ (by omega) (Nat.le_refl _)]
 rfl
theorem gv_grp (n : Nat) : gv (grp n) = n := by
 induction n using Nat.strongRecOn with
 | _ n ih =>
  by_cases h : n = 0
  ·subst h; rfl
  ·rw [grp_pos h,gv,ih (n / 10000) (by omega)]; omega
theorem dig_grp (n : Nat) : Dig (grp n) := by
 induction n using Nat.strongRecOn with
 | _ n ih =>
  by_cases h : n = 0
  ·subst h; exact Dig.nil
  ·rw [grp_pos h]
   exact Dig.cons.mpr ⟨by omega,ih (n / 10000) (by omega)⟩
theorem grp_nil {n : Nat} : grp n = [] ↔ n = 0 := by
 constructor
 ·intro h
  have := gv_grp n
  rw [h] at this
  simp [gv] at this
  omega
 ·rintro rfl; rfl
def Trm (l : List Int) : Prop := ∀ h : l ≠ [],l.getLast h ≠ 0
theorem trm_grp (n : Nat) : Trm (grp n) := by
 induction n using Nat.strongRecOn with
 | _ n ih =>
  by_cases h : n = 0
  ·subst h; intro h; exact absurd rfl h
  ·intro hne
   by_cases h2 : n / 10000 = 0
   ·have : grp n = [((n % 10000 : Nat) : Int)] := by rw [grp_pos h,h2]; rfl
    simp only [this,List.getLast_singleton]
    omega
   ·have h3 : grp (n / 10000) ≠ [] := fun e => h2 (grp_nil.mp e)
    have := ih (n / 10000) (by omega) h3
    simp only [grp_pos h,List.getLast_cons h3]
    exact this
theorem Trm.cons {d : Int} {r : List Int} (h : Trm (d :: r)) : Trm r := fun hr => by
 have := h (by simp)
 rwa [List.getLast_cons hr] at this
theorem grp_gv : ∀ {l : List Int},Dig l → Trm l → grp (gv l).toNat = l
 | [],_,_ => rfl
 | d :: r,hd,ht => by
  have h1 := Dig.cons.mp hd
  have h2 := gv_nn h1.2
  have ih := grp_gv h1.2 ht.cons
  have e : (gv (d :: r)).toNat = d.toNat + 10000 * (gv r).toNat := by simp only [gv]; omega
  have hne : (gv (d :: r)).toNat ≠ 0 := by
   intro h0
   have hd0 : d = 0 := by omega
   have hr0 : (gv r).toNat = 0 := by omega
   rw [hr0] at ih
   have : r = [] := ih.symm
   subst this
   exact ht (by simp) (by simpa using hd0)
  rw [grp_pos hne,e]
  have e1 : (d.toNat + 10000 * (gv r).toNat) % 10000 = d.toNat := by omega
  have e2 : (d.toNat + 10000 * (gv r).toNat) / 10000 = (gv r).toNat := by omega
  rw [e1,e2,ih]
  congr 1
  omega
def trimK (l : List Int) : Nat → Nat
 | 0 => 0
 | k + 1 => if l.getD k 0 = 0 then trimK l k else k + 1
theorem trimK_le (l : List Int) : ∀ k,trimK l k ≤ k
 | 0 => Nat.le_refl _
 | k + 1 => by
  simp only [trimK]
  split
  ·have := trimK_le l k; omega
  ·omega
def trimL (l : List Int) : List Int := l.take (trimK l l.length)
theorem trimK_gv (l : List Int) : ∀ k,k ≤ l.length → gv (l.take (trimK l k)) = gv (l.take k)
 | 0,_ => rfl
 | k + 1,h => by
  simp only [trimK]
  split
  ·rename_i h0
   rw [trimK_gv l k (by omega),List.take_succ_eq_append_getElem (by omega),gv_app]
   rw [List.getD_eq_getElem?_getD,List.getElem?_eq_getElem (by omega)] at h0
   have h1 : l[k] = 0 := h0
   simp [h1,gv]
  ·rfl
theorem trimK_trm (l : List Int) : ∀ k,k ≤ l.length → Trm (l.take (trimK l k))
 | 0,_ => fun h => absurd rfl h
 | k + 1,h => by
  simp only [trimK]
  split
  ·exact trimK_trm l k (by omega)
  ·rename_i h0
   intro hne
   rw [List.getD_eq_getElem?_getD,List.getElem?_eq_getElem (by omega)] at h0
   have h1 : ¬ l[k] = 0 := h0
   simp only [List.take_succ_eq_append_getElem (show k < l.length by omega),List.getLast_append_of_ne_nil,ne_eq,List.cons_ne_nil,not_false_eq_true,List.getLast_singleton]
   exact h1
theorem trimL_eq {l : List Int} (h : Dig l) : trimL l = grp (gv l).toNat := by
 have h1 := trimK_gv l l.length (Nat.le_refl _)
 rw [List.take_length] at h1
 have h2 : Dig (trimL l) := fun x hx => h x (List.mem_of_mem_take hx)
 have h3 := grp_gv h2 (trimK_trm l l.length (Nat.le_refl _))
 rw [← h3]
 unfold trimL
 rw [h1]
def foldS (g : Nat → Int) (n : Nat) : Nat → Nat → Int → List Int
 | 0,_,_ => []
 | f + 1,i,c =>
  if i < n ∨ c ≠ 0 then
   if g i + c < 0 then (g i + c + 10000) :: foldS g n f (i + 1) (-1)
   else if 10000 ≤ g i + c then ((g i + c) % 10000) :: foldS g n f (i + 1) ((g i + c) / 10000)
   else (g i + c) :: foldS g n f (i + 1) 0
  else []
def foldEnd (g : Nat → Int) (n : Nat) : Nat → Nat → Int → Bool
 | 0,i,c => decide (¬ (i < n ∨ c ≠ 0))
 | f + 1,i,c =>
  if i < n ∨ c ≠ 0 then
   if g i + c < 0 then foldEnd g n f (i + 1) (-1)
   else if 10000 ≤ g i + c then foldEnd g n f (i + 1) ((g i + c) / 10000)
   else foldEnd g n f (i + 1) 0
  else true
def gs (g : Nat → Int) : Nat → Nat → Int
 | 0,_ => 0
 | d + 1,i => g i + 10000 * gs g d (i + 1)
theorem fold_ok {g : Nat → Int} {n : Nat} (hg : ∀ i,-9999 ≤ g i ∧ g i ≤ 100000000) (hz : ∀ i,n ≤ i → g i = 0) : ∀ (f i : Nat) (c : Int),-1 ≤ c → c ≤ 20000 → (i ≤ n → n - i + 3 ≤ f) → (n < i → (c ≠ 0 → 2 ≤ f) ∧ (10000 ≤ c → 3 ≤ f)) → 0 ≤ gs g (n - i) i + c →
  gv (foldS g n f i c) = gs g (n - i) i + c ∧ Dig (foldS g n f i c) := by
 intro f
 induction f with
 | zero =>
  intro i c h1 h2 h3 h4 h5
  by_cases hi : i ≤ n
  ·have := h3 hi; omega
  ·have e : n - i = 0 := by omega
   rw [e] at h5 ⊢
   have := (h4 (by omega)).1
   have hc : c = 0 := by
    rcases Decidable.em (c = 0) with h | h
    ·exact h
    ·have := this h; omega
   subst hc
   exact ⟨by simp [foldS,gv,gs],Dig.nil⟩
 | succ f ih =>
  intro i c h1 h2 h3 h4 h5
  by_cases hstop : i < n ∨ c ≠ 0
  ·have hgi := hg i
   have hstep : gs g (n - i) i = g i + 10000 * gs g (n - (i + 1)) (i + 1) := by
    by_cases hi : i < n
    ·have e : n - i = (n - (i + 1)) + 1 := by omega
     rw [e]; rfl
    ·have e1 : n - i = 0 := by omega
     have e2 : n - (i + 1) = 0 := by omega
     rw [e1,e2,hz i (by omega)]; rfl
   rw [hstep] at h5 ⊢
   have hin : ¬ i < n → g i = 0 := fun h => hz i (by omega)
   generalize hX : gs g (n - (i + 1)) (i + 1) = X at *
   have hX0 : n ≤ i + 1 → X = 0 := fun h => by
    rw [← hX,show n - (i + 1) = 0 by omega]; rfl
   simp only [foldS,hstop,if_true]
   by_cases c1 : g i + c < 0
   ·have hin2 : i < n := by
     rcases Nat.lt_or_ge i n with h | h
     ·exact h
     ·have := hin (by omega); have := hX0 (by omega); omega
    obtain ⟨k1,k2⟩ := ih (i + 1) (-1) (by omega) (by omega) (fun h => by have := h3 (by omega); omega) (fun h => ⟨fun _ => by have := h3 (by omega); omega,fun h => by omega⟩) (by rw [hX]; omega)
    rw [hX] at k1
    simp only [c1,if_true,gv]
    exact ⟨by rw [k1]; omega,Dig.cons.mpr ⟨by omega,k2⟩⟩
   ·by_cases c2 : 10000 ≤ g i + c
    ·obtain ⟨k1,k2⟩ := ih (i + 1) ((g i + c) / 10000) (by omega) (by omega) (fun h => by have := h3 (by omega); omega) (fun h => by
      rcases Nat.lt_or_ge i n with h6 | h6
      ·have := h3 (by omega); exact ⟨fun _ => by omega,fun _ => by omega⟩
      ·have := hin (by omega)
       rcases Nat.lt_or_ge n i with h7 | h7
       ·have := (h4 h7).2 (by omega); exact ⟨fun _ => by omega,fun h => by omega⟩
       ·have := h3 h7; exact ⟨fun _ => by omega,fun h => by omega⟩) (by rw [hX]; omega)
     rw [hX] at k1
     simp only [c1,c2,if_true,if_false,gv]
     exact ⟨by rw [k1]; omega,Dig.cons.mpr ⟨by omega,k2⟩⟩
    ·obtain ⟨k1,k2⟩ := ih (i + 1) 0 (by omega) (by omega) (fun h => by have := h3 (by omega); omega) (fun h => ⟨fun h => absurd rfl h,fun h => by omega⟩) (by rw [hX]; omega)
     rw [hX] at k1
     simp only [c1,c2,if_false,gv]
     exact ⟨by rw [k1]; omega,Dig.cons.mpr ⟨by omega,k2⟩⟩
  ·have hc : c = 0 := by omega
   have hi : n - i = 0 := by omega
   subst hc
   simp only [foldS,hstop,if_false,hi]
   exact ⟨by simp [gv,gs],Dig.nil⟩
theorem fold_end {g : Nat → Int} {n : Nat} (hg : ∀ i,-9999 ≤ g i ∧ g i ≤ 100000000) (hz : ∀ i,n ≤ i → g i = 0) : ∀ (f i : Nat) (c : Int),-1 ≤ c → c ≤ 20000 → (i ≤ n → n - i + 3 ≤ f) → (n < i → (c ≠ 0 → 2 ≤ f) ∧ (10000 ≤ c → 3 ≤ f)) → 0 ≤ gs g (n - i) i + c →
  foldEnd g n f i c = true := by
 intro f
 induction f with
 | zero =>
  intro i c h1 h2 h3 h4 h5
  by_cases hi : i ≤ n
  ·have := h3 hi; omega
  ·have e : n - i = 0 := by omega
   rw [e] at h5
   have := (h4 (by omega)).1
   have hc : c = 0 := by
    rcases Decidable.em (c = 0) with h | h
    ·exact h
    ·have := this h; omega
   subst hc
   simp only [foldEnd,decide_eq_true_eq]; omega
 | succ f ih =>
  intro i c h1 h2 h3 h4 h5
  by_cases hstop : i < n ∨ c ≠ 0
  ·have hgi := hg i
   have hstep : gs g (n - i) i = g i + 10000 * gs g (n - (i + 1)) (i + 1) := by
    by_cases hi : i < n
    ·have e : n - i = (n - (i + 1)) + 1 := by omega
     rw [e]; rfl
    ·have e1 : n - i = 0 := by omega
     have e2 : n - (i + 1) = 0 := by omega
     rw [e1,e2,hz i (by omega)]; rfl
   rw [hstep] at h5
   have hin : ¬ i < n → g i = 0 := fun h => hz i (by omega)
   generalize hX : gs g (n - (i + 1)) (i + 1) = X at *
   have hX0 : n ≤ i + 1 → X = 0 := fun h => by
    rw [← hX,show n - (i + 1) = 0 by omega]; rfl
   simp only [foldEnd,hstop,if_true]
   by_cases c1 : g i + c < 0
   ·have hin2 : i < n := by
     rcases Nat.lt_or_ge i n with h | h
     ·exact h
     ·have := hin (by omega); have := hX0 (by omega); omega
    have k1 := ih (i + 1) (-1) (by omega) (by omega) (fun h => by have := h3 (by omega); omega) (fun h => ⟨fun _ => by have := h3 (by omega); omega,fun h => by omega⟩) (by rw [hX]; omega)
    rw [if_pos c1]
    exact k1
   ·by_cases c2 : 10000 ≤ g i + c
    ·have k1 := ih (i + 1) ((g i + c) / 10000) (by omega) (by omega) (fun h => by have := h3 (by omega); omega) (fun h => by
      rcases Nat.lt_or_ge i n with h6 | h6
      ·have := h3 (by omega); exact ⟨fun _ => by omega,fun _ => by omega⟩
      ·have := hin (by omega)
       rcases Nat.lt_or_ge n i with h7 | h7
       ·have := (h4 h7).2 (by omega); exact ⟨fun _ => by omega,fun h => by omega⟩
       ·have := h3 h7; exact ⟨fun _ => by omega,fun h => by omega⟩) (by rw [hX]; omega)
     rw [if_neg c1,if_pos c2]
     exact k1
    ·have k1 := ih (i + 1) 0 (by omega) (by omega) (fun h => by have := h3 (by omega); omega) (fun h => ⟨fun h => absurd rfl h,fun h => by omega⟩) (by rw [hX]; omega)
     rw [if_neg c1,if_neg c2]
     exact k1
  ·have hc : c = 0 := by omega
   have hi : n - i = 0 := by omega
   subst hc
   simp only [foldEnd,hstop,if_false]
theorem gs_getD (l : List Int) : ∀ (d i : Nat),l.length ≤ i + d → gs (fun j => l.getD j 0) d i = gv (l.drop i)
 | 0,i,h => by rw [List.drop_of_length_le (by omega)]; rfl
 | d + 1,i,h => by
  have ih := gs_getD l d (i + 1) (by omega)
  simp only [gs,ih]
  by_cases c : i < l.length
  ·rw [List.drop_eq_getElem_cons c,gv,List.getD_eq_getElem?_getD,List.getElem?_eq_getElem c]; rfl
  ·rw [List.drop_of_length_le (by omega),List.drop_of_length_le (by omega),List.getD_eq_getElem?_getD,List.getElem?_eq_none (by omega)]; rfl
theorem gs_add (f g : Nat → Int) : ∀ (d i : Nat),gs (fun j => f j + g j) d i = gs f d i + gs g d i
 | 0,_ => rfl
 | d + 1,i => by simp only [gs,gs_add f g d (i + 1)]; omega
theorem gs_sub (f g : Nat → Int) : ∀ (d i : Nat),gs (fun j => f j - g j) d i = gs f d i - gs g d i
 | 0,_ => rfl
 | d + 1,i => by simp only [gs,gs_sub f g d (i + 1)]; omega
theorem gs_mul (f : Nat → Int) (k : Int) : ∀ (d i : Nat),gs (fun j => f j * k) d i = gs f d i * k
 | 0,_ => by simp [gs]
 | d + 1,i => by simp only [gs,gs_mul f k d (i + 1)]; rw [Int.add_mul,Int.mul_assoc]
theorem getD_dig {l : List Int} (h : Dig l) (i : Nat) : 0 ≤ l.getD i 0 ∧ l.getD i 0 ≤ 9999 := by
 by_cases c : i < l.length
 ·rw [List.getD_eq_getElem?_getD,List.getElem?_eq_getElem c]; exact h _ (List.getElem_mem c)
 ·rw [List.getD_eq_getElem?_getD,List.getElem?_eq_none (by omega)]; simp
theorem getD_out {l : List Int} {i : Nat} (h : l.length ≤ i) : l.getD i 0 = 0 := by
 rw [List.getD_eq_getElem?_getD,List.getElem?_eq_none h]; rfl
theorem plus_ok {a b : List Int} (ha : Dig a) (hb : Dig b) : trimL (foldS (fun i => a.getD i 0 + b.getD i 0) (max a.length b.length) (max a.length b.length + 3) 0 0) = grp (gv a + gv b).toNat := by
 have h := fold_ok (g := fun i => a.getD i 0 + b.getD i 0) (n := max a.length b.length) (fun i => by have := getD_dig ha i; have := getD_dig hb i; omega) (fun i hi => by rw [getD_out (by omega),getD_out (by omega)]; rfl)
  (max a.length b.length + 3) 0 0 (by omega) (by omega) (fun _ => by omega) (fun h => by omega) (by
   rw [gs_add,gs_getD a _ _ (by omega),gs_getD b _ _ (by omega)]
   have := gv_nn ha; have := gv_nn hb; simp only [List.drop_zero]; omega)
 rw [trimL_eq h.2,h.1,gs_add,gs_getD a _ _ (by omega),gs_getD b _ _ (by omega),List.drop_zero,List.drop_zero,Int.add_zero]
theorem minus_ok {a b : List Int} (ha : Dig a) (hb : Dig b) (hl : b.length ≤ a.length) (hle : gv b ≤ gv a) : trimL (foldS (fun i => a.getD i 0 - b.getD i 0) a.length (a.length + 3) 0 0) = grp (gv a - gv b).toNat := by
 have h := fold_ok (g := fun i => a.getD i 0 - b.getD i 0) (n := a.length) (fun i => by have := getD_dig ha i; have := getD_dig hb i; omega) (fun i hi => by rw [getD_out (by omega),getD_out (by omega)]; rfl)
  (a.length + 3) 0 0 (by omega) (by omega) (fun _ => by omega) (fun h => by omega) (by
   rw [gs_sub,gs_getD a _ _ (by omega),gs_getD b _ _ (by omega)]
   simp only [List.drop_zero]; omega)
 rw [trimL_eq h.2,h.1,gs_sub,gs_getD a _ _ (by omega),gs_getD b _ _ (by omega),List.drop_zero,List.drop_zero,Int.add_zero]
theorem by_ok {a : List Int} (ha : Dig a) {k : Int} (hk : 0 ≤ k ∧ k ≤ 10000) : trimL (foldS (fun i => a.getD i 0 * k) a.length (a.length + 3) 0 0) = grp (gv a * k).toNat := by
 have h := fold_ok (g := fun i => a.getD i 0 * k) (n := a.length) (fun i => by
   have h1 := getD_dig ha i
   have h2 : 0 ≤ a.getD i 0 * k := Int.mul_nonneg h1.1 hk.1
   have h3 : a.getD i 0 * k ≤ 9999 * 10000 := Int.mul_le_mul h1.2 hk.2 hk.1 (by omega)
   omega) (fun i hi => by rw [getD_out (by omega),Int.zero_mul])
  (a.length + 3) 0 0 (by omega) (by omega) (fun _ => by omega) (fun h => by omega) (by
   rw [gs_mul,gs_getD a _ _ (by omega),List.drop_zero,Int.add_zero]
   exact Int.mul_nonneg (gv_nn ha) hk.1)
 rw [trimL_eq h.2,h.1,gs_mul,gs_getD a _ _ (by omega),List.drop_zero,Int.add_zero]
def cmpK (a b : List Int) : Nat → Int
 | 0 => 0
 | k + 1 => if a.getD k 0 = b.getD k 0 then cmpK a b k else if a.getD k 0 < b.getD k 0 then -1 else 1
def cmpN (a b : Int) : Int := if a < b then -1 else if a = b then 0 else 1
theorem cmpK_ok {a b : List Int} (ha : Dig a) (hb : Dig b) : ∀ k,k ≤ a.length → k ≤ b.length → cmpK a b k = cmpN (gv (a.take k)) (gv (b.take k))
 | 0,_,_ => rfl
 | k + 1,h1,h2 => by
  have ih := cmpK_ok ha hb k (by omega) (by omega)
  have da : Dig (a.take k) := fun x hx => ha x (List.mem_of_mem_take hx)
  have db : Dig (b.take k) := fun x hx => hb x (List.mem_of_mem_take hx)
  have la := gv_lt da
  have lb := gv_lt db
  have na := gv_nn da
  have nb := gv_nn db
  have ea : (a.take k).length = k := by simp; omega
  have eb : (b.take k).length = k := by simp; omega
  rw [ea] at la
  rw [eb] at lb
  have ga : a.getD k 0 = a[k] := by rw [List.getD_eq_getElem?_getD,List.getElem?_eq_getElem (by omega)]; rfl
  have gb : b.getD k 0 = b[k] := by rw [List.getD_eq_getElem?_getD,List.getElem?_eq_getElem (by omega)]; rfl
  rw [List.take_succ_eq_append_getElem (by omega),List.take_succ_eq_append_getElem (by omega),gv_app,gv_app,ea,eb]
  simp only [cmpK,ga,gb,gv,Int.mul_zero,Int.add_zero]
  rw [ih]
  generalize gv (a.take k) = A at *
  generalize gv (b.take k) = B at *
  generalize (10000 : Int) ^ k = X at *
  generalize a[k] = x at *
  generalize b[k] = y at *
  by_cases c1 : x = y
  ·subst c1
   rw [if_pos rfl]
   unfold cmpN
   have e1 : (A + X * x < B + X * x) ↔ A < B := by omega
   have e2 : (A + X * x = B + X * x) ↔ A = B := by omega
   simp only [e1,e2]
  ·rw [if_neg c1]
   by_cases c2 : x < y
   ·rw [if_pos c2]
    have : X * (x + 1) ≤ X * y := Int.mul_le_mul_of_nonneg_left (by omega) (by omega)
    rw [Int.mul_add,Int.mul_one] at this
    unfold cmpN
    rw [if_pos (by omega)]
   ·rw [if_neg c2]
    have : X * (y + 1) ≤ X * x := Int.mul_le_mul_of_nonneg_left (by omega) (by omega)
    rw [Int.mul_add,Int.mul_one] at this
    unfold cmpN
    rw [if_neg (by omega),if_neg (by omega)]
theorem ipow_le {a : Int} (h : 1 ≤ a) {m n : Nat} (hmn : m ≤ n) : a ^ m ≤ a ^ n := by
 obtain ⟨k,rfl⟩ : ∃ k,n = m + k := ⟨n - m,by omega⟩
 clear hmn
 induction k with
 | zero => exact Int.le_refl _
 | succ k ih =>
  have h0 : 0 ≤ a ^ (m + k) := Int.pow_nonneg (by omega)
  have h1 : a ^ (m + k) * 1 ≤ a ^ (m + k) * a := Int.mul_le_mul_of_nonneg_left h h0
  rw [Int.mul_one] at h1
  rw [show m + (k + 1) = m + k + 1 from rfl,Int.pow_succ]
  exact Int.le_trans ih h1
theorem grp_len_lt {a b : Nat} (h : (grp a).length < (grp b).length) : a < b := by
 have h1 := gv_lt (dig_grp a)
 rw [gv_grp] at h1
 have hb : grp b ≠ [] := by intro e; rw [e] at h; simp at h
 -- the last group of b is at least one
 obtain ⟨i,x,e⟩ : ∃ (i : List Int) (x : Int),grp b = i ++ [x] := ⟨(grp b).dropLast,(grp b).getLast hb,(List.dropLast_concat_getLast hb).symm⟩
 have hx : x ≠ 0 := by
  have := trm_grp b hb
  simp only [e,List.getLast_append_of_ne_nil,ne_eq,List.cons_ne_nil,not_false_eq_true,List.getLast_singleton] at this
  exact this
 have hd := dig_grp b
 rw [e] at hd
 have hx2 := hd x (by simp)
 have hi : Dig i := fun y hy => hd y (by simp [hy])
 have h3 := gv_nn hi
 have h2 := gv_grp b
 rw [e,gv_app] at h2
 simp only [gv,Int.mul_zero,Int.add_zero] at h2
 have hl : (grp a).length ≤ i.length := by rw [e] at h; simp at h; omega
 have h4 : (10000 : Int) ^ (grp a).length ≤ 10000 ^ i.length := ipow_le (by omega) hl
 have h5 : (10000 : Int) ^ i.length * 1 ≤ 10000 ^ i.length * x := Int.mul_le_mul_of_nonneg_left (by omega) (Int.pow_nonneg (by omega))
 rw [Int.mul_one] at h5
 omega
theorem grp_len_le {a b : Nat} (h : a ≤ b) : (grp a).length ≤ (grp b).length := by
 rcases Nat.lt_or_ge (grp b).length (grp a).length with h1 | h1
 ·have := grp_len_lt h1; omega
 ·exact h1
def cmpL (a b : List Int) : Int := if a.length = b.length then cmpK a b a.length else if a.length < b.length then -1 else 1
theorem cmpL_grp (a b : Nat) : cmpL (grp a) (grp b) = cmpN a b := by
 unfold cmpL
 by_cases h : (grp a).length = (grp b).length
 ·rw [if_pos h,cmpK_ok (dig_grp a) (dig_grp b) _ (Nat.le_refl _) (by omega),List.take_length,h,List.take_length,gv_grp,gv_grp]
 ·rw [if_neg h]
  by_cases h2 : (grp a).length < (grp b).length
  ·have := grp_len_lt h2
   rw [if_pos h2]; unfold cmpN; rw [if_pos (by omega)]
  ·have := grp_len_lt (a := b) (b := a) (by omega)
   rw [if_neg h2]; unfold cmpN; rw [if_neg (by omega),if_neg (by omega)]
end Go.VI.Num
/- Decimal texts of numbers of any size. -/
namespace Go.VI.Num
def IsD (c : UInt8) : Prop := 48 ≤ c.toNat ∧ c.toNat ≤ 57
def Digs (l : List UInt8) : Prop := ∀ c ∈ l,IsD c
def dv (acc : Nat) (l : List UInt8) : Nat := l.foldl (fun a c => a * 10 + (c.toNat - 48)) acc
theorem dv_nil (acc : Nat) : dv acc [] = acc := rfl
theorem dv_cons (acc : Nat) (c : UInt8) (r : List UInt8) : dv acc (c :: r) = dv (acc * 10 + (c.toNat - 48)) r := by unfold dv; rw [List.foldl_cons]
theorem dv_app (a b : List UInt8) (acc : Nat) : dv acc (a ++ b) = dv (dv acc a) b := List.foldl_append
theorem dv_lin (l : List UInt8) : ∀ acc,dv acc l = acc * 10 ^ l.length + dv 0 l := by
 induction l with
 | nil => intro acc; rw [dv_nil,dv_nil,List.length_nil,Nat.pow_zero,Nat.mul_one,Nat.add_zero]
 | cons c r ih =>
  intro acc
  rw [dv_cons,dv_cons,ih,ih (0 * 10 + (c.toNat - 48)),Nat.zero_mul,Nat.zero_add,List.length_cons,Nat.pow_succ,Nat.add_mul,Nat.add_assoc,Nat.mul_comm (10 ^ r.length) 10,Nat.mul_assoc]
theorem dv_lt {l : List UInt8} (h : Digs l) : dv 0 l < 10 ^ l.length := by
 induction l with
 | nil => rw [dv_nil]; exact Nat.one_pos
 | cons c r ih =>
  have h1 := ih fun x hx => h x (by simp [hx])
  have h2 := h c (by simp)
  unfold IsD at h2
  rw [dv_cons,dv_lin,List.length_cons,Nat.pow_succ,Nat.zero_mul,Nat.zero_add]
  have h3 : (c.toNat - 48) * 10 ^ r.length ≤ 9 * 10 ^ r.length := Nat.mul_le_mul_right _ (by omega)
  generalize (c.toNat - 48) * 10 ^ r.length = Y at *
  generalize 10 ^ r.length = X at *
  omega
def dec (n : Nat) : List UInt8 := decF (n + 1) n
theorem lt_pow10 (n : Nat) : n < 10 ^ (n + 1) := by
 induction n with
 | zero => decide
 | succ n ih =>
  rw [Nat.pow_succ]
  generalize 10 ^ (n + 1) = X at *
  omega
theorem decF_eq : ∀ (f f' u : Nat),u < 10 ^ f → u < 10 ^ f' → 0 < f → 0 < f' → decF f u = decF f' u
 | 0,_,_,_,_,h,_ => by omega
 | _ + 1,0,_,_,_,_,h => by omega
 | f + 1,f' + 1,u,h1,h2,_,_ => by
  simp only [decF]
  split
  ·rfl
  ·rename_i h3
   have hf : 0 < f := by
    rcases Nat.eq_zero_or_pos f with h | h
    ·subst h; simp at h1; omega
    ·exact h
   have hf' : 0 < f' := by
    rcases Nat.eq_zero_or_pos f' with h | h
    ·subst h; simp at h2; omega
    ·exact h
   rw [Nat.pow_succ,Nat.mul_comm] at h1 h2
   rw [decF_eq f f' (u / 10) (Nat.div_lt_of_lt_mul h1) (Nat.div_lt_of_lt_mul h2) hf hf']
theorem dec_eq {f u : Nat} (h : u < 10 ^ f) (hf : 0 < f) : decF f u = dec u := decF_eq _ _ _ h (lt_pow10 u) hf (by omega)
theorem dec_small {u : Nat} (h : u < 10) : dec u = [UInt8.ofNat (48 + u)] := by simp [dec,decF,h]
theorem dec_big {u : Nat} (h : 10 ≤ u) : dec u = dec (u / 10) ++ [UInt8.ofNat (48 + u % 10)] := by
 have h1 : ¬ u < 10 := by omega
 have : dec u = decF u (u / 10) ++ [UInt8.ofNat (48 + u % 10)] := by simp only [dec,decF,h1,if_false]
 rw [this,dec_eq _ (by omega)]
 have := lt_pow10 (u / 10)
 exact Nat.lt_of_lt_of_le this (Nat.pow_le_pow_right (by omega) (by omega))
theorem ofNat_digit {d : Nat} (h : d < 10) : (UInt8.ofNat (48 + d)).toNat = 48 + d := by
 rw [UInt8.toNat_ofNat']; omega
theorem digs_dec (n : Nat) : Digs (dec n) := by
 induction n using Nat.strongRecOn with
 | _ n ih =>
  intro c hc
  rcases Nat.lt_or_ge n 10 with h | h
  ·rw [dec_small h,List.mem_singleton] at hc
   subst hc
   unfold IsD
   rw [ofNat_digit h]; omega
  ·rw [dec_big h,List.mem_append,List.mem_singleton] at hc
   rcases hc with hc | hc
   ·exact ih (n / 10) (by omega) c hc
   ·subst hc
    unfold IsD
    rw [ofNat_digit (by omega)]; omega
theorem dv_dec (n : Nat) : dv 0 (dec n) = n := by
 induction n using Nat.strongRecOn with
 | _ n ih =>
  rcases Nat.lt_or_ge n 10 with h | h
  ·rw [dec_small h,dv_cons,dv_nil,ofNat_digit h]; omega
  ·rw [dec_big h,dv_app,ih (n / 10) (by omega),dv_cons,dv_nil,ofNat_digit (by omega)]; omega
theorem dec_ne (n : Nat) : dec n ≠ [] := by
 rcases Nat.lt_or_ge n 10 with h | h
 ·rw [dec_small h]; simp
 ·rw [dec_big h]; simp
def NoLead (l : List UInt8) : Prop := l ≠ [] ∧ (l = [48] ∨ l.head? ≠ some 48)
theorem nolead_dec (n : Nat) : NoLead (dec n) := by
 refine ⟨dec_ne n, ?_⟩
 induction n using Nat.strongRecOn with
 | _ n ih =>
  rcases Nat.lt_or_ge n 10 with h | h
  ·rw [dec_small h]
   by_cases h0 : n = 0
   ·subst h0; exact .inl rfl
   ·refine .inr fun e => ?_
    simp only [List.head?_cons,Option.some.injEq] at e
    have := congrArg UInt8.toNat e
    rw [ofNat_digit h] at this
    simp at this; omega
  ·right
   rw [dec_big h]
   have h1 := dec_ne (n / 10)
   rw [List.head?_append]
   obtain ⟨c,r,hc⟩ := List.exists_cons_of_ne_nil h1
   rcases ih (n / 10) (by omega) with h2 | h2
   ·have := dv_dec (n / 10)
    rw [h2,dv_cons,dv_nil] at this
    have e48 : (48 : UInt8).toNat = 48 := rfl
    rw [e48] at this
    omega
   ·rw [hc] at h2 ⊢
    simpa using h2
theorem dec_dv : ∀ (k : Nat) (l : List UInt8),l.length = k → Digs l → NoLead l → dec (dv 0 l) = l := by
 intro k
 induction k with
 | zero => intro l hl _ h; exact absurd (List.length_eq_zero_iff.mp hl) h.1
 | succ k ih =>
  intro l hl hd hn
  obtain ⟨i,c,rfl⟩ : ∃ i c,l = i ++ [c] := ⟨l.dropLast,l.getLast hn.1,(List.dropLast_concat_getLast hn.1).symm⟩
  have hc := hd c (by simp)
  unfold IsD at hc
  have hu : UInt8.ofNat (48 + (c.toNat - 48)) = c := by
   rw [show 48 + (c.toNat - 48) = c.toNat by omega]
   exact UInt8.ofNat_toNat
  rw [dv_app]
  by_cases hi : i = []
  ·subst hi
   rw [List.nil_append,dv_nil,dv_cons,dv_nil,Nat.zero_mul,Nat.zero_add,dec_small (by omega),hu]
  ·have hni : NoLead i := by
    refine ⟨hi, ?_⟩
    obtain ⟨x,r,rfl⟩ := List.exists_cons_of_ne_nil hi
    rcases hn.2 with h | h
    ·simp at h
    ·right; simpa using h
   have hdi : Digs i := fun x hx => hd x (by simp [hx])
   have e := ih i (by simp at hl; omega) hdi hni
   rw [dv_cons,dv_nil]
   have hpos : 1 ≤ dv 0 i := by
    rcases Nat.eq_zero_or_pos (dv 0 i) with h | h
    ·rw [h,dec_small (by omega)] at e
     rcases hn.2 with h2 | h2
     ·rw [← e] at h2; simp at h2
     ·rw [← e] at h2; simp at h2
    ·exact h
   rw [dec_big (by omega)]
   have e1 : (dv 0 i * 10 + (c.toNat - 48)) / 10 = dv 0 i := by omega
   have e2 : (dv 0 i * 10 + (c.toNat - 48)) % 10 = c.toNat - 48 := by omega
   rw [e1,e2,e,hu]
theorem dec_len {n k : Nat} (hk : 0 < k) : (dec n).length ≤ k ↔ n < 10 ^ k := by
 constructor
 ·intro h
  have := dv_lt (digs_dec n)
  rw [dv_dec] at this
  exact Nat.lt_of_lt_of_le this (Nat.pow_le_pow_right (by omega) h)
 ·intro h
  induction k generalizing n with
  | zero => omega
  | succ k ih =>
   rcases Nat.lt_or_ge n 10 with h1 | h1
   ·rw [dec_small h1]; simp
   ·rw [dec_big h1,List.length_append,List.length_singleton]
    rw [Nat.pow_succ,Nat.mul_comm] at h
    have hk : 0 < k := by
     rcases Nat.eq_zero_or_pos k with h0 | h0
     ·subst h0; simp at h; omega
     ·exact h0
    have := ih (n := n / 10) hk (Nat.div_lt_of_lt_mul h)
    omega
def pad4 (d : Nat) : List UInt8 := [UInt8.ofNat (48 + d / 1000),UInt8.ofNat (48 + d / 100 % 10),UInt8.ofNat (48 + d / 10 % 10),UInt8.ofNat (48 + d % 10)]
theorem dec_pad {n : Nat} (h : 10000 ≤ n) : dec n = dec (n / 10000) ++ pad4 (n % 10000) := by
 rw [dec_big (by omega),dec_big (u := n / 10) (by omega),dec_big (u := n / 10 / 10) (by omega),dec_big (u := n / 10 / 10 / 10) (by omega)]
 have e0 : n / 10 / 10 / 10 / 10 = n / 10000 := by omega
 have e1 : n / 10 / 10 / 10 % 10 = n % 10000 / 1000 := by omega
 have e2 : n / 10 / 10 % 10 = n % 10000 / 100 % 10 := by omega
 have e3 : n / 10 % 10 = n % 10000 / 10 % 10 := by omega
 have e4 : n % 10 = n % 10000 % 10 := by omega
 rw [e0,e1,e2,e3,e4]
 simp [pad4]
theorem pad_dec {d : Nat} (h : d < 10000) : List.replicate (4 - (dec d).length) 48 ++ dec d = pad4 d := by
 have z : (48 : UInt8) = UInt8.ofNat (48 + 0) := rfl
 unfold pad4
 rcases Nat.lt_or_ge d 10 with h1 | h1
 ·rw [dec_small h1]
  have e1 : d / 1000 = 0 := by omega
  have e2 : d / 100 % 10 = 0 := by omega
  have e3 : d / 10 % 10 = 0 := by omega
  have e4 : d % 10 = d := by omega
  rw [e1,e2,e3,e4]; rfl
 ·rcases Nat.lt_or_ge d 100 with h2 | h2
  ·rw [dec_big h1,dec_small (u := d / 10) (by omega)]
   have e1 : d / 1000 = 0 := by omega
   have e2 : d / 100 % 10 = 0 := by omega
   have e3 : d / 10 % 10 = d / 10 := by omega
   rw [e1,e2,e3]; rfl
  ·rcases Nat.lt_or_ge d 1000 with h3 | h3
   ·rw [dec_big h1,dec_big (u := d / 10) (by omega),dec_small (u := d / 10 / 10) (by omega)]
    have e1 : d / 1000 = 0 := by omega
    have e2 : d / 100 % 10 = d / 10 / 10 := by omega
    rw [e1,e2]; rfl
   ·rw [dec_big h1,dec_big (u := d / 10) (by omega),dec_big (u := d / 10 / 10) (by omega),dec_small (u := d / 10 / 10 / 10) (by omega)]
    have e1 : d / 1000 = d / 10 / 10 / 10 := by omega
    have e2 : d / 100 % 10 = d / 10 / 10 % 10 := by omega
    rw [e1,e2]; rfl
def txtG : List Int → List UInt8
 | [] => []
 | d :: r => if r = [] then dec d.toNat else txtG r ++ pad4 d.toNat
theorem txt_grp {n : Nat} (h : n ≠ 0) : txtG (grp n) = dec n := by
 induction n using Nat.strongRecOn with
 | _ n ih =>
  rw [grp_pos h]
  simp only [txtG,grp_nil,Int.toNat_natCast]
  rcases Nat.lt_or_ge n 10000 with h1 | h1
  ·rw [if_pos (by omega),Nat.mod_eq_of_lt h1]
  ·rw [if_neg (by omega),ih (n / 10000) (by omega) (by omega),← dec_pad h1]
theorem parse_digits : ∀ (l : List UInt8) (acc : Nat),Digs l → (acc + 1) * 10 ^ l.length ≤ 10 ^ 18 → Lib.parseUint10 acc l = .ok (dv acc l)
 | [],acc,_,_ => rfl
 | c :: r,acc,h,hb => by
  have hc := h c (by simp)
  have hc2 := hc
  unfold IsD at hc2
  rw [List.length_cons,Nat.pow_succ] at hb
  have h10 : 1 ≤ 10 ^ r.length := Nat.pos_of_ne_zero (by simp)
  have hb2 : (acc + 1) * 10 * 10 ^ r.length ≤ 10 ^ 18 := by rw [Nat.mul_assoc,Nat.mul_comm 10]; exact hb
  have h1 : (acc + 1) * 10 ≤ 10 ^ 18 := Nat.le_trans (Nat.le_mul_of_pos_right _ h10) hb2
  have e18 : (10 : Nat) ^ 18 = 1000000000000000000 := by decide
  rw [e18] at h1
  simp only [Lib.parseUint10,hc2,and_self,if_true]
  rw [if_neg (by omega),if_neg (by omega),dv_cons]
  refine parse_digits r _ (fun x hx => h x (by simp [hx])) (Nat.le_trans (Nat.mul_le_mul_right _ ?_) hb2)
  omega
theorem atoi_digits {l : List UInt8} (h : Digs l) (hl : l ≠ []) (hn : l.length ≤ 18) : Lib.atoiAll l = .ok ((dv 0 l : Nat) : Int) := by
 obtain ⟨c,r,rfl⟩ := List.exists_cons_of_ne_nil hl
 have hc := h c (by simp)
 unfold IsD at hc
 have hp : Lib.parseMag (c :: r) = .ok (dv 0 (c :: r)) := by
  unfold Lib.parseMag
  rw [if_neg (by simp),parse_digits _ _ h]
  rw [Nat.zero_add,Nat.one_mul]
  exact Nat.pow_le_pow_right (by omega) hn
 have hlt := dv_lt h
 have hle : 10 ^ (c :: r).length ≤ 10 ^ 18 := Nat.pow_le_pow_right (by omega) hn
 have e18 : (10 : Nat) ^ 18 = 1000000000000000000 := by decide
 have n1 : ¬ (c.toNat = 43 ∨ c.toNat = 45) := by omega
 have n2 : ¬ c.toNat = 45 := by omega
 have hb : ¬ 9223372036854775808 ≤ dv 0 (c :: r) := by
  rw [e18] at hle
  generalize 10 ^ (c :: r).length = X at *
  omega
 unfold Lib.atoiAll
 simp only []
 rw [if_neg n1,hp]
 simp only [n2,if_false,not_false_eq_true,true_and,false_and,hb]
end Go.VI.Num
/- Integers as texts: which texts are integers, and what they are worth. -/
namespace Go.VI.Num
def ds : List UInt8 := [48,49,50,51,52,53,54,55,56,57]
theorem ds_mem (b : UInt8) : ds.contains b = true ↔ IsD b := by
 unfold ds IsD
 simp only [List.contains_cons,List.contains_nil,Bool.or_eq_true,beq_iff_eq,← UInt8.toNat_inj,Bool.or_false]
 simp only [UInt8.reduceToNat]
 omega
theorem dropWhile_nil {α : Type} {p : α → Bool} : ∀ {l : List α},l.dropWhile p = [] → ∀ x ∈ l,p x = true
 | [],_,x,hx => by simp at hx
 | a :: l,h,x,hx => by
  rw [List.dropWhile_cons] at h
  split at h
  ·rename_i ha
   rcases List.mem_cons.mp hx with rfl | hx
   ·exact ha
   ·exact dropWhile_nil h x hx
  ·cases h
theorem dropWhile_all {α : Type} {p : α → Bool} : ∀ {l : List α},(∀ x ∈ l,p x = true) → l.dropWhile p = []
 | [],_ => rfl
 | a :: l,h => by rw [List.dropWhile_cons,if_pos (h a (by simp))]; exact dropWhile_all fun x hx => h x (by simp [hx])
theorem takeWhile_mem {α : Type} {p : α → Bool} : ∀ {l : List α} {x : α},x ∈ l.takeWhile p → p x = true
 | [],x,h => by simp at h
 | a :: l,x,h => by
  rw [List.takeWhile_cons] at h
  split at h
  ·rename_i ha
   rcases List.mem_cons.mp h with rfl | h
   ·exact ha
   ·exact takeWhile_mem h
  ·simp at h
theorem trim_digs {l : List UInt8} : Lib.trimS l ds = [] ↔ Digs l := by
 unfold Lib.trimS Lib.trimLeftS Lib.trimRightS
 constructor
 ·intro h c hc
  have h1 := dropWhile_nil h
  have h2 : c ∈ l.reverse := by simpa using hc
  rw [← List.takeWhile_append_dropWhile (p := fun b => ds.contains b) (l := l.reverse),List.mem_append] at h2
  rcases h2 with h2 | h2
  ·exact (ds_mem c).mp (takeWhile_mem (p := fun b => ds.contains b) h2)
  ·exact (ds_mem c).mp (h1 c (by simpa using h2))
 ·intro h
  have : l.reverse.dropWhile (fun b => ds.contains b) = [] := dropWhile_all fun x hx => (ds_mem x).mpr (h x (by simpa using hx))
  rw [this]; rfl
def itxt (z : Int) : List UInt8 := if z < 0 then 45 :: dec z.natAbs else dec z.natAbs
def body (s : List UInt8) : List UInt8 := Lib.trimPrefix s [45]
theorem body_neg (r : List UInt8) : body (45 :: r) = r := by simp [body,Lib.trimPrefix,Lib.hasPrefix]
theorem body_pos {s : List UInt8} (h : s.head? ≠ some 45) : body s = s := by
 cases s with
 | nil => rfl
 | cons c r =>
  have : c ≠ 45 := fun e => h (by rw [e]; rfl)
  have h2 : ¬ (45 : UInt8) = c := fun e => this e.symm
  simp [body,Lib.trimPrefix,Lib.hasPrefix,List.isPrefixOf,h2]
theorem dec_head (n : Nat) : (dec n).head? ≠ some 45 := by
 intro h
 have h1 := digs_dec n
 obtain ⟨c,r,e⟩ := List.exists_cons_of_ne_nil (dec_ne n)
 rw [e] at h h1
 simp only [List.head?_cons,Option.some.injEq] at h
 subst h
 have := h1 45 (by simp)
 unfold IsD at this
 simp at this
theorem body_itxt (z : Int) : body (itxt z) = dec z.natAbs := by
 unfold itxt
 split
 ·exact body_neg _
 ·exact body_pos (dec_head _)
def validS (s : List UInt8) : Bool := !(body s).isEmpty && decide ((body s).length ≤ 200) && (Lib.trimS (body s) ds).isEmpty && (s == [48] || !((body s).head? == some 48))
theorem validS_itxt {z : Int} (h : z.natAbs < 10 ^ 200) : validS (itxt z) = true := by
 have h1 : Lib.trimS (dec z.natAbs) ds = [] := trim_digs.mpr (digs_dec _)
 have h2 := (dec_len (n := z.natAbs) (k := 200) (by omega)).mpr h
 have h3 : (dec z.natAbs).isEmpty = false := by
  cases hd : dec z.natAbs with
  | nil => exact absurd hd (dec_ne _)
  | cons => rfl
 unfold validS
 rw [body_itxt,h1,h3,decide_eq_true h2]
 simp only [Bool.not_false,List.isEmpty_nil,Bool.true_and]
 rcases (nolead_dec z.natAbs).2 with h4 | h4
 ·have : z = 0 := by
   have h5 := dv_dec z.natAbs
   rw [h4,dv_cons,dv_nil] at h5
   have e48 : (48 : UInt8).toNat = 48 := rfl
   rw [e48] at h5
   omega
  subst this
  rfl
 ·rw [Bool.or_eq_true]
  right
  simpa using h4
def zv (s : List UInt8) : Int := if s.head? = some 45 then -(dv 0 (body s) : Int) else dv 0 (body s)
theorem zv_itxt (z : Int) : zv (itxt z) = z := by
 unfold zv
 rw [body_itxt,dv_dec]
 by_cases h : z < 0
 ·have : (itxt z).head? = some 45 := by unfold itxt; rw [if_pos h]; rfl
  rw [if_pos this]; omega
 ·have : (itxt z).head? ≠ some 45 := by unfold itxt; rw [if_neg h]; exact dec_head _
  rw [if_neg this]; omega
theorem valid_txt {s : List UInt8} (h : validS s = true) : s = itxt (zv s) ∧ (zv s).natAbs < 10 ^ 200 := by
 unfold validS at h
 simp only [Bool.and_eq_true,Bool.not_eq_true',decide_eq_true_eq,List.isEmpty_iff,List.isEmpty_eq_false_iff] at h
 obtain ⟨⟨⟨h1,h2⟩,h3⟩,h4⟩ := h
 have hd := trim_digs.mp h3
 have hlead : NoLead (body s) := by
  refine ⟨h1, ?_⟩
  simp only [Bool.or_eq_true,beq_iff_eq,Bool.not_eq_true',beq_eq_false_iff_ne] at h4
  rcases h4 with h4 | h4
  ·subst h4; left; rfl
  ·exact .inr h4
 have e := dec_dv _ _ rfl hd hlead
 have hlt : dv 0 (body s) < 10 ^ 200 := by
  refine (dec_len (by omega)).mp ?_
  rw [e]; exact h2
 by_cases hs : s.head? = some 45
 ·obtain ⟨c,r,rfl⟩ : ∃ c r,s = c :: r := by cases s with | nil => cases hs | cons c r => exact ⟨c,r,rfl⟩
  simp only [List.head?_cons,Option.some.injEq] at hs
  subst hs
  rw [body_neg] at *
  have hz : zv (45 :: r) = -(dv 0 r : Int) := by unfold zv; rw [body_neg,if_pos (show (45 :: r).head? = some (45 : UInt8) from rfl)]
  have hpos : dv 0 r ≠ 0 := by
   intro h0
   rw [h0] at e
   simp only [Bool.or_eq_true,beq_iff_eq,Bool.not_eq_true',beq_eq_false_iff_ne] at h4
   rcases h4 with h4 | h4
   ·simp at h4
   ·rw [← e] at h4; exact h4 rfl
  rw [hz]
  refine ⟨?_,by omega⟩
  unfold itxt
  rw [if_pos (by omega)]
  have : (-(dv 0 r : Int)).natAbs = dv 0 r := by omega
  rw [this,e]
 ·have hb := body_pos hs
  rw [hb] at e hlt
  have hz : zv s = (dv 0 s : Int) := by unfold zv; rw [if_neg hs,hb]
  rw [hz]
  refine ⟨?_,by omega⟩
  unfold itxt
  rw [if_neg (by omega),Int.natAbs_natCast,e]
theorem itxt_inj {a b : Int} (h : itxt a = itxt b) : a = b := by rw [← zv_itxt a,h,zv_itxt]
def parseG : Nat → List UInt8 → List Int
 | 0,_ => []
 | f + 1,l => if l = [] then [] else (dv 0 (l.drop (l.length - 4)) : Int) :: parseG f (l.take (l.length - 4))
theorem parseG_ok : ∀ (f : Nat) (l : List UInt8),l.length ≤ f → Digs l → gv (parseG f l) = dv 0 l ∧ Dig (parseG f l)
 | 0,l,h,_ => by
  have : l = [] := List.length_eq_zero_iff.mp (by omega)
  subst this
  exact ⟨rfl,Dig.nil⟩
 | f + 1,l,h,hd => by
  by_cases h0 : l = []
  ·subst h0; exact ⟨rfl,Dig.nil⟩
  ·have hlen : 0 < l.length := List.length_pos_iff.mpr h0
   have hd1 : Digs (l.take (l.length - 4)) := fun x hx => hd x (List.mem_of_mem_take hx)
   have hd2 : Digs (l.drop (l.length - 4)) := fun x hx => hd x (List.mem_of_mem_drop hx)
   obtain ⟨k1,k2⟩ := parseG_ok f (l.take (l.length - 4)) (by simp; omega) hd1
   have hlt := dv_lt hd2
   have hl4 : (l.drop (l.length - 4)).length ≤ 4 := by simp; omega
   have h4 : 10 ^ (l.drop (l.length - 4)).length ≤ 10 ^ 4 := Nat.pow_le_pow_right (by omega) hl4
   have e4 : (10 : Nat) ^ 4 = 10000 := by decide
   rw [e4] at h4
   simp only [parseG,h0,if_false,gv,k1]
   refine ⟨?_,Dig.cons.mpr ⟨⟨by omega,by omega⟩,k2⟩⟩
   conv => rhs; rw [← List.take_append_drop (l.length - 4) l]
   rw [dv_app,dv_lin (l.drop (l.length - 4)) (dv 0 (l.take (l.length - 4)))]
   rcases Nat.lt_or_ge l.length 4 with h5 | h5
   ·have : l.length - 4 = 0 := by omega
    rw [this,List.take_zero,List.drop_zero,dv_nil,Nat.zero_mul,Nat.zero_add]
    simp
   ·have : (l.drop (l.length - 4)).length = 4 := by simp; omega
    rw [this,e4]
    omega
end Go.VI.Num
/- The whole root of a number, and steps that fall until they stop at it. -/
namespace Go.VI.Num
end Go.VI.Num
namespace Go.VI.Num
def FitQ (q : Rat) : Prop := q.num.natAbs < 10 ^ 200 ∧ q.den < 10 ^ 200
theorem divInt_num {n d : Int} (hd : 0 < d) : (Rat.divInt n d).num = n / (Int.gcd n d : Nat) := by
 rw [Rat.num_divInt,Int.sign_eq_one_of_pos hd,Int.one_mul,Int.gcd_comm]
theorem divInt_den {n d : Int} (hd : 0 < d) : ((Rat.divInt n d).den : Int) = d / (Int.gcd n d : Nat) := by
 rw [Rat.den_divInt,if_neg (by omega),Int.gcd_comm]
 have : (d.natAbs : Int) = d := by omega
 rw [Int.natCast_ediv,this]
theorem natAbs_ediv_le (n : Int) (g : Nat) (hg : (g : Int) ∣ n) : (n / (g : Int)).natAbs ≤ n.natAbs := by
 rw [Int.natAbs_ediv_of_dvd hg]
 exact Nat.div_le_self _ _
theorem divInt_fit {n d : Int} (hd : d ≠ 0) (hn : n.natAbs < 10 ^ 200) (hf : d.natAbs < 10 ^ 200) : FitQ (Rat.divInt n d) := by
 refine ⟨?_, ?_⟩
 ·rw [Rat.num_divInt]
  refine Nat.lt_of_le_of_lt (natAbs_ediv_le _ _ ?_) ?_
  ·exact Int.dvd_trans (Int.gcd_dvd_right ..) (Int.dvd_mul_left ..)
  ·rw [Int.natAbs_mul,Int.natAbs_sign_of_ne_zero hd,Nat.one_mul]; exact hn
 ·rw [Rat.den_divInt,if_neg hd]
  exact Nat.lt_of_le_of_lt (Nat.div_le_self _ _) hf
def rvalid (s t : List UInt8) : Bool := validS s && validS t && decide (0 < zv t) && (Int.gcd (zv s) (zv t) == 1)
theorem rvalid_itxt {q : Rat} (h : FitQ q) : rvalid (itxt q.num) (itxt (q.den : Int)) = true := by
 unfold rvalid
 have hd := q.den_pos
 have hr := q.reduced
 rw [validS_itxt h.1,validS_itxt (z := (q.den : Int)) (by rw [Int.natAbs_natCast]; exact h.2),zv_itxt,zv_itxt,decide_eq_true (by omega)]
 simp only [Bool.true_and,beq_iff_eq]
 unfold Int.gcd
 rw [Int.natAbs_natCast]
 exact hr
def cmpQ (a b : Rat) : Int := cmpN (a.num * b.den) (b.num * a.den)
theorem cmpQ_lt {a b : Rat} : cmpQ a b = -1 ↔ a < b := by
 rw [Rat.lt_iff]; unfold cmpQ cmpN; split <;> (try split) <;> omega
theorem cmpQ_eq {a b : Rat} : cmpQ a b = 0 ↔ a = b := by
 rw [Rat.eq_iff_mul_eq_mul]; unfold cmpQ cmpN; split <;> (try split) <;> omega
theorem cmpQ_gt {a b : Rat} : cmpQ a b = 1 ↔ b < a := by
 rw [Rat.lt_iff]; unfold cmpQ cmpN; split <;> (try split) <;> omega
theorem cmpQ_cases (a b : Rat) : (cmpQ a b = -1 ∧ a < b) ∨ (cmpQ a b = 0 ∧ a = b) ∨ (cmpQ a b = 1 ∧ b < a) := by
 have h : cmpQ a b = -1 ∨ cmpQ a b = 0 ∨ cmpQ a b = 1 := by unfold cmpQ cmpN; split <;> (try split) <;> simp
 rcases h with h | h | h
 ·exact .inl ⟨h,cmpQ_lt.mp h⟩
 ·exact .inr (.inl ⟨h,cmpQ_eq.mp h⟩)
 ·exact .inr (.inr ⟨h,cmpQ_gt.mp h⟩)
theorem cmpN_neg (a b : Int) : cmpN a b = -cmpN b a := by unfold cmpN; split <;> split <;> (try split) <;> omega
theorem round_ne {n d m c : Int} (hd : 0 < d) (hc : 0 < c) (h : n / d ≠ m / c) : cmpN (n / d) (m / c) = cmpN (n * c) (m * d) := by
 have e1 := Int.mul_ediv_add_emod n d
 have e2 := Int.mul_ediv_add_emod m c
 have l1 := Int.emod_nonneg n (by omega : d ≠ 0)
 have l2 := Int.emod_nonneg m (by omega : c ≠ 0)
 have u1 := Int.emod_lt_of_pos n hd
 have u2 := Int.emod_lt_of_pos m hc
 have key : ∀ {n d m c : Int},0 < d → 0 < c → n / d < m / c → n * c < m * d := fun {n d m c} hd hc h => by
  have u1 := Int.lt_ediv_add_one_mul_self n hd
  have u2 := Int.ediv_mul_le m (by omega : c ≠ 0)
  have h1 : (n / d + 1) * d * c ≤ (m / c) * d * c := Int.mul_le_mul_of_nonneg_right (Int.mul_le_mul_of_nonneg_right (by omega) (by omega)) (by omega)
  have h2 : n * c < (n / d + 1) * d * c := Int.mul_lt_mul_of_pos_right u1 hc
  have h3 : m / c * c * d ≤ m * d := Int.mul_le_mul_of_nonneg_right u2 (by omega)
  have h4 : (m / c) * d * c = m / c * c * d := by rw [Int.mul_assoc,Int.mul_comm d c,← Int.mul_assoc]
  omega
 by_cases h1 : n / d < m / c
 ·have := key hd hc h1
  unfold cmpN
  rw [if_pos h1,if_pos this]
 ·have := key hc hd (by omega : m / c < n / d)
  unfold cmpN
  rw [if_neg h1,if_neg h,if_neg (by omega),if_neg (by omega)]
theorem round_eq {n d m c : Int} (h : n / d = m / c) : cmpN (n * c) (m * d) = cmpN ((n % d) * c) ((m % c) * d) := by
 have e1 := Int.mul_ediv_add_emod n d
 have e2 := Int.mul_ediv_add_emod m c
 have k1 : n * c = d * (n / d) * c + (n % d) * c := by rw [← Int.add_mul,e1]
 have k2 : m * d = c * (m / c) * d + (m % c) * d := by rw [← Int.add_mul,e2]
 have k3 : d * (n / d) * c = c * (m / c) * d := by
  rw [h,Int.mul_assoc,Int.mul_comm d,Int.mul_comm (m / c) c]
 unfold cmpN
 rw [k1,k2,k3]
 simp only [Int.add_lt_add_iff_left,Int.add_right_inj]
theorem round_swap {d r c s : Int} : cmpN (d * s) (c * r) = -cmpN (r * c) (s * d) := by
 rw [cmpN_neg,Int.mul_comm d s,Int.mul_comm c r]
end Go.VI.Num
namespace Go.VI.Num
theorem q_sub (a b : Rat) : Rat.divInt (a.num * b.den - b.num * a.den) ((a.den : Int) * b.den) = a - b := by
 rw [Rat.sub_def',← Rat.divInt_ofNat,Int.natCast_mul]
theorem q_div (a b : Rat) : Rat.divInt (a.num * b.den) ((a.den : Int) * b.num) = a / b := by
 rw [Rat.div_def,Rat.inv_def,← Rat.divInt_mul_divInt,Rat.num_divInt_den]
theorem q_div_zero {a b : Rat} : (a.den : Int) * b.num = 0 ↔ b = 0 := by
 have := a.den_pos
 rw [Int.mul_eq_zero,Rat.num_eq_zero]
 constructor
 ·rintro (h | h)
  ·omega
  ·exact h
 ·exact .inr
def makeQ (n d : Int) : Option Rat := if d = 0 then none else some (Rat.divInt n d)
def fitZ (z : Int) : Bool := decide (z.natAbs < 10 ^ 200)
def subQ (a b : Rat) : Option Rat := if fitZ (a.num * b.den) && fitZ (b.num * a.den) && fitZ (a.num * b.den - b.num * a.den) && fitZ ((a.den : Int) * b.den) then some (a - b) else none
def divQ (a b : Rat) : Option Rat := if fitZ (a.num * b.den) && fitZ ((a.den : Int) * b.num) && decide (b ≠ 0) then some (a / b) else none
end Go.VI.Num
namespace Go.VI.Num
end Go.VI.Num
namespace Go.VI.Num
end Go.VI.Num
namespace Go.VI.Num
open Go.VI
theorem itxt_one : itxt 1 = [49] := rfl
end Go.VI.Num
namespace Go.VI.Num
open Go.VI
end Go.VI.Num
/- A delay unit: the course of a live programme, what is on the air, and what the laws say of it, plainly. -/
namespace Go.VI.Num
def I64 (c : Int) : Prop := -9223372036854775808 ≤ c ∧ c ≤ 9223372036854775807
def pkI (c n : Int) : Int := (if c < 0 then -(c + 1) else c) % n
theorem pkI_range (c : Int) {n : Int} (hn : 0 < n) : 0 ≤ pkI c n ∧ pkI c n < n := ⟨Int.emod_nonneg _ (by omega),Int.emod_lt_of_pos _ hn⟩
abbrev Pr := Int × Int
structure Liv where
 L : Int
 D : Int
 E : Int
 P : List Pr
 C : List Pr
def hasB (l : List Pr) (s : Int) : Bool := l.any fun x => decide (x.1 ≤ s) && decide (s < x.2)
def meetB (l : List Pr) (a b : Int) : Bool := l.any fun x => decide (x.1 < b) && decide (a < x.2)
def ordB (L : Int) : Int → List Pr → Bool
 | _,[] => true
 | last,x :: l => decide (last < x.1) && (decide (x.1 < x.2) && (decide (x.2 ≤ L) && ordB L x.2 l))
structure okLiv (l : Liv) : Prop where
 L : 1 ≤ l.L ∧ l.L ≤ 600
 D : 0 ≤ l.D ∧ l.D ≤ 60
 E : 1 ≤ l.E ∧ l.E ≤ 60
 P : ordB l.L (-1) l.P = true
 C : ordB l.L (-1) l.C = true
 p4 : l.P.length ≤ 4
 c4 : l.C.length ≤ 4
 dis : ∀ p ∈ l.P,meetB l.C p.1 p.2 = false
theorem hasB_false {l : List Pr} {s : Int} : hasB l s = false ↔ ∀ x ∈ l,x.1 ≤ s → x.2 ≤ s := by
 simp [hasB]
theorem meetB_false {l : List Pr} {a b : Int} : meetB l a b = false ↔ ∀ x ∈ l,x.1 < b → x.2 ≤ a := by
 simp [meetB]
theorem meet_has {l : List Pr} {a b k : Int} (h : meetB l a b = false) (h1 : a ≤ k) (h2 : k < b) : hasB l k = false := by
 rw [hasB_false]; rw [meetB_false] at h
 intro x hx h3
 have := h x hx (by omega)
 omega
theorem ordB_mem {L : Int} : ∀ {l : List Pr} {a : Int},ordB L a l = true → ∀ x ∈ l,a < x.1 ∧ x.1 < x.2 ∧ x.2 ≤ L
 | [],_,_ => by simp
 | y :: l,a,h => by
  simp only [ordB,Bool.and_eq_true,decide_eq_true_eq] at h
  intro x hx
  rcases List.mem_cons.mp hx with rfl | hx
  ·exact ⟨h.1,h.2.1,h.2.2.1⟩
  ·have := ordB_mem h.2.2.2 x hx
   omega
structure Stp where
 fr : Int
 to : Int
 be : Int
 af : Int
 de : Int
 cut : Bool
 str : Bool
def strB (l : Liv) (s d : Int) : Bool := decide (d < l.D) && (decide (s + l.E ≤ l.L) && (!meetB l.C s (s + l.E) && !meetB l.P s (s + l.E)))
inductive Ch (l : Liv) : Int → Int → List Stp → Int → Prop
 | nil (d : Int) : Ch l l.L d [] d
 | cutd {s d e : Int} {xs : List Stp} : s < l.L → hasB l.C s = true → 0 < d → Ch l (s + 1) (d - 1) xs e → Ch l s d (⟨s,s + 1,s + d,s + d,d,true,false⟩ :: xs) e
 | cut0 {s d e : Int} {xs : List Stp} : s < l.L → hasB l.C s = true → d = 0 → Ch l (s + 1) d xs e → Ch l s d (⟨s,s + 1,s + d,s + d + 1,d,true,false⟩ :: xs) e
 | str {s d e : Int} {xs : List Stp} : s < l.L → hasB l.C s = false → d < l.D → s + l.E ≤ l.L → meetB l.C s (s + l.E) = false → meetB l.P s (s + l.E) = false → Ch l (s + l.E) (d + 1) xs e → Ch l s d (⟨s,s + l.E,s + d,s + d + l.E + 1,d,false,true⟩ :: xs) e
 | pl {s d e : Int} {xs : List Stp} : s < l.L → hasB l.C s = false → strB l s d = false → Ch l (s + 1) d xs e → Ch l s d (⟨s,s + 1,s + d,s + d + 1,d,false,false⟩ :: xs) e
def rng (s : Int) (n : Nat) : List Int := (List.range n).map fun (k : Nat) => s + (k : Int)
@[simp] theorem rng_len (s : Int) (n : Nat) : (rng s n).length = n := by simp [rng]
theorem rng_mem {s y : Int} {n : Nat} : y ∈ rng s n ↔ s ≤ y ∧ y < s + n := by
 simp only [rng,List.mem_map,List.mem_range]
 constructor
 ·rintro ⟨k,h,rfl⟩; omega
 ·intro h; exact ⟨(y - s).toNat,by omega,by omega⟩
theorem rng_get {s : Int} {n k : Nat} (h : k < (rng s n).length) : (rng s n)[k] = s + k := by simp [rng]
theorem rng_succ (s : Int) (n : Nat) : rng s (n + 1) = s :: rng (s + 1) n := by
 unfold rng
 rw [List.range_succ_eq_map,List.map_cons,List.map_map]
 congr 1
 ·omega
 ·apply List.map_congr_left; intro k _; simp only [Function.comp]; omega
def airS (x : Stp) : List Int := (List.range (x.af - x.be).toNat).map fun (k : Nat) => if x.cut then -1 else max (x.to - (x.af - (x.be + (k : Int)))) x.fr
def airX (xs : List Stp) : List Int := xs.flatMap airS
theorem airS_cutd (s a d : Int) : airS ⟨s,s + 1,a,a,d,true,false⟩ = [] := by simp [airS]
theorem airS_cut0 (s a d : Int) : airS ⟨s,s + 1,a,a + 1,d,true,false⟩ = [-1] := by
 simp only [airS,show (a + 1 - a).toNat = 1 by omega]; rfl
theorem airS_pl (s a d : Int) : airS ⟨s,s + 1,a,a + 1,d,false,false⟩ = [s] := by
 simp only [airS,show (a + 1 - a).toNat = 1 by omega,List.range_one,List.map_cons,List.map_nil,Bool.false_eq_true,if_false]
 congr 1
 omega
theorem airS_str {E : Int} (hE : 1 ≤ E) (s a d : Int) : airS ⟨s,s + E,a,a + E + 1,d,false,true⟩ = s :: rng s E.toNat := by
 simp only [airS,show (a + E + 1 - a).toNat = E.toNat + 1 by omega,Bool.false_eq_true,if_false]
 rw [List.range_succ_eq_map,List.map_cons,List.map_map]
 congr 1
 ·omega
 ·unfold rng; apply List.map_congr_left; intro k _; simp only [Function.comp]; omega
def delX (xs : List Stp) : List Int := xs.flatMap fun x => List.replicate (x.to - x.fr).toNat x.de
section
variable {l : Liv}
theorem Ch.le (hE : 1 ≤ l.E) {s d e : Int} {xs : List Stp} (h : Ch l s d xs e) : s ≤ l.L := by cases h <;> omega
theorem Ch.dl {s d e : Int} {xs : List Stp} (h : Ch l s d xs e) : 0 ≤ d → d ≤ l.D → 0 ≤ e ∧ e ≤ l.D := by
 induction h with
 | nil d => intro h1 h2; exact ⟨h1,h2⟩
 | cutd _ _ _ _ ih => intro h1 h2; exact ih (by omega) (by omega)
 | cut0 _ _ _ _ ih => intro h1 h2; exact ih (by omega) (by omega)
 | str _ _ _ _ _ _ _ ih => intro h1 h2; exact ih (by omega) (by omega)
 | pl _ _ _ _ ih => intro h1 h2; exact ih (by omega) (by omega)
theorem Ch.air_len (hE : 1 ≤ l.E) {s d e : Int} {xs : List Stp} (h : Ch l s d xs e) : ((airX xs).length : Int) = (l.L - s) + (e - d) := by
 induction h with
 | nil d => simp [airX]
 | cutd _ _ _ _ ih => rw [airX,List.flatMap_cons,airS_cutd,List.nil_append]; rw [airX] at ih; omega
 | cut0 _ _ _ _ ih => rw [airX,List.flatMap_cons,airS_cut0,List.length_append,List.length_singleton]; rw [airX] at ih; omega
 | str _ _ _ _ _ _ _ ih => rw [airX,List.flatMap_cons,airS_str hE,List.length_append,List.length_cons,rng_len]; rw [airX] at ih; omega
 | pl _ _ _ _ ih => rw [airX,List.flatMap_cons,airS_pl,List.length_append,List.length_singleton]; rw [airX] at ih; omega
theorem airX_cons (x : Stp) (xs : List Stp) : airX (x :: xs) = airS x ++ airX xs := rfl
theorem Ch.mem (hE : 1 ≤ l.E) {s d e : Int} {xs : List Stp} (h : Ch l s d xs e) : ∀ y ∈ airX xs,y = -1 ∨ s ≤ y ∧ y < l.L ∧ hasB l.C y = false := by
 induction h with
 | nil d => simp [airX]
 | cutd _ _ _ _ ih =>
  intro y hy; rw [airX_cons,airS_cutd,List.nil_append] at hy
  exact (ih y hy).imp id fun h => ⟨by omega,h.2⟩
 | cut0 _ _ _ _ ih =>
  intro y hy; rw [airX_cons,airS_cut0,List.singleton_append,List.mem_cons] at hy
  rcases hy with h | hy
  ·exact .inl h
  ·exact (ih y hy).imp id fun h => ⟨by omega,h.2⟩
 | str h1 h2 h3 h4 h5 h6 _ ih =>
  intro y hy; rw [airX_cons,airS_str hE,List.cons_append,List.mem_cons,List.mem_append,rng_mem] at hy
  rcases hy with rfl | hy | hy
  ·exact .inr ⟨by omega,by omega,h2⟩
  ·exact .inr ⟨by omega,by omega,meet_has h5 (by omega) (by omega)⟩
  ·exact (ih y hy).imp id fun h => ⟨by omega,h.2⟩
 | pl h1 h2 h3 _ ih =>
  intro y hy; rw [airX_cons,airS_pl,List.singleton_append,List.mem_cons] at hy
  rcases hy with rfl | hy
  ·exact .inr ⟨by omega,by omega,h2⟩
  ·exact (ih y hy).imp id fun h => ⟨by omega,h.2⟩
theorem Ch.split (hE : 1 ≤ l.E) {b : Int} (hb : ∀ s,s < b → meetB l.C s (s + l.E) = false → meetB l.P s (s + l.E) = false → s + l.E ≤ b) {s d e : Int} {xs : List Stp} (h : Ch l s d xs e) : s ≤ b → b ≤ l.L →
  ∃ pre ys d',xs = pre ++ ys ∧ Ch l b d' ys e ∧ (∀ y ∈ airX pre,y = -1 ∨ s ≤ y ∧ y < b) ∧ (∀ x ∈ pre,s ≤ x.fr ∧ x.to ≤ b ∧ x.fr < b) ∧ ((delX pre).length : Int) = b - s := by
 induction h with
 | nil d => intro h1 h2; exact ⟨[],[],d,rfl,by rw [show b = l.L by omega]; exact .nil d,by simp [airX],by simp,by simp [delX]; omega⟩
 | @cutd s d e xs g1 g2 g3 g ih =>
  intro h1 h2
  by_cases c : s = b
  ·subst c; exact ⟨[],_,d,rfl,.cutd g1 g2 g3 g,by simp [airX],by simp,by simp [delX]⟩
  ·obtain ⟨pre,ys,d',rfl,k1,k2,k3,k4⟩ := ih (by omega) h2
   refine ⟨_ :: pre,ys,d',rfl,k1,fun y hy => ?_,fun x hx => ?_, ?_⟩
   ·rw [airX_cons,airS_cutd,List.nil_append] at hy
    have := k2 y hy; omega
   ·rcases List.mem_cons.mp hx with rfl | hx
    ·simp only []; omega
    ·have := k3 x hx; omega
   ·simp only [delX,List.flatMap_cons,List.length_append,List.length_replicate] at k4 ⊢; omega
 | @cut0 s d e xs g1 g2 g3 g ih =>
  intro h1 h2
  by_cases c : s = b
  ·subst c; exact ⟨[],_,d,rfl,.cut0 g1 g2 g3 g,by simp [airX],by simp,by simp [delX]⟩
  ·obtain ⟨pre,ys,d',rfl,k1,k2,k3,k4⟩ := ih (by omega) h2
   refine ⟨_ :: pre,ys,d',rfl,k1,fun y hy => ?_,fun x hx => ?_, ?_⟩
   ·rw [airX_cons,airS_cut0,List.singleton_append,List.mem_cons] at hy
    rcases hy with h | hy
    ·exact .inl h
    ·have := k2 y hy; omega
   ·rcases List.mem_cons.mp hx with rfl | hx
    ·simp only []; omega
    ·have := k3 x hx; omega
   ·simp only [delX,List.flatMap_cons,List.length_append,List.length_replicate] at k4 ⊢; omega
 | @str s d e xs g1 g2 g3 g4 g5 g6 g ih =>
  intro h1 h2
  by_cases c : s = b
  ·subst c; exact ⟨[],_,d,rfl,.str g1 g2 g3 g4 g5 g6 g,by simp [airX],by simp,by simp [delX]⟩
  ·have hs := hb s (by omega) g5 g6
   obtain ⟨pre,ys,d',rfl,k1,k2,k3,k4⟩ := ih hs h2
   refine ⟨_ :: pre,ys,d',rfl,k1,fun y hy => ?_,fun x hx => ?_, ?_⟩
   ·rw [airX_cons,airS_str hE,List.cons_append,List.mem_cons,List.mem_append,rng_mem] at hy
    rcases hy with h | hy | hy
    ·exact .inr (by omega)
    ·exact .inr (by omega)
    ·have := k2 y hy; omega
   ·rcases List.mem_cons.mp hx with rfl | hx
    ·simp only []; omega
    ·have := k3 x hx; omega
   ·simp only [delX,List.flatMap_cons,List.length_append,List.length_replicate] at k4 ⊢; omega
 | @pl s d e xs g1 g2 g3 g ih =>
  intro h1 h2
  by_cases c : s = b
  ·subst c; exact ⟨[],_,d,rfl,.pl g1 g2 g3 g,by simp [airX],by simp,by simp [delX]⟩
  ·obtain ⟨pre,ys,d',rfl,k1,k2,k3,k4⟩ := ih (by omega) h2
   refine ⟨_ :: pre,ys,d',rfl,k1,fun y hy => ?_,fun x hx => ?_, ?_⟩
   ·rw [airX_cons,airS_pl,List.singleton_append,List.mem_cons] at hy
    rcases hy with h | hy
    ·exact .inr (by omega)
    ·have := k2 y hy; omega
   ·rcases List.mem_cons.mp hx with rfl | hx
    ·simp only []; omega
    ·have := k3 x hx; omega
   ·simp only [delX,List.flatMap_cons,List.length_append,List.length_replicate] at k4 ⊢; omega
theorem bd_cut {p : Pr} (hp : p ∈ l.C) {b : Int} (h1 : p.1 ≤ b) (h2 : b ≤ p.2) : ∀ s,s < b → meetB l.C s (s + l.E) = false → meetB l.P s (s + l.E) = false → s + l.E ≤ b := by
 intro s hs h _
 have := meetB_false.mp h p hp
 omega
def airL (l : Liv) (xs : List Stp) : List Int := List.replicate l.D.toNat (-1) ++ airX xs
theorem delX_cons (x : Stp) (xs : List Stp) : delX (x :: xs) = List.replicate (x.to - x.fr).toNat x.de ++ delX xs := rfl
theorem Ch.del_bd {s d e : Int} {xs : List Stp} (h : Ch l s d xs e) : 0 ≤ d → d ≤ l.D → ∀ y ∈ delX xs,0 ≤ y ∧ y ≤ l.D := by
 induction h with
 | nil d => simp [delX]
 | cutd _ _ _ _ ih =>
  intro h1 h2 y hy; rw [delX_cons,List.mem_append,List.mem_replicate] at hy
  rcases hy with ⟨_,rfl⟩ | hy
  ·exact ⟨h1,h2⟩
  ·exact ih (by omega) (by omega) y hy
 | cut0 _ _ _ _ ih =>
  intro h1 h2 y hy; rw [delX_cons,List.mem_append,List.mem_replicate] at hy
  rcases hy with ⟨_,rfl⟩ | hy
  ·exact ⟨h1,h2⟩
  ·exact ih (by omega) (by omega) y hy
 | str _ _ _ _ _ _ _ ih =>
  intro h1 h2 y hy; rw [delX_cons,List.mem_append,List.mem_replicate] at hy
  rcases hy with ⟨_,rfl⟩ | hy
  ·exact ⟨h1,h2⟩
  ·exact ih (by omega) (by omega) y hy
 | pl _ _ _ _ ih =>
  intro h1 h2 y hy; rw [delX_cons,List.mem_append,List.mem_replicate] at hy
  rcases hy with ⟨_,rfl⟩ | hy
  ·exact ⟨h1,h2⟩
  ·exact ih (by omega) (by omega) y hy
def fulX (l : Liv) (t : Int) : List Stp → Int
 | [] => l.L
 | x :: xs => if t ≤ x.fr ∧ x.de = l.D then x.fr else fulX l t xs
def fulT (l : Liv) (t acc : Int) (x : Stp) : Int := if acc = l.L ∧ t ≤ x.fr ∧ x.de = l.D then x.fr else acc
theorem ful_keep {t : Int} : ∀ (xs : List Stp) {a : Int},a ≠ l.L → xs.foldl (fulT l t) a = a
 | [],a,_ => rfl
 | x :: xs,a,h => by
  rw [List.foldl_cons,show fulT l t a x = a from if_neg fun e => h e.1]
  exact ful_keep xs h
theorem ful_fold {t : Int} : ∀ (xs : List Stp),(∀ x ∈ xs,x.fr ≠ l.L) → xs.foldl (fulT l t) l.L = fulX l t xs
 | [],_ => rfl
 | x :: xs,h => by
  rw [List.foldl_cons,fulX]
  by_cases c : t ≤ x.fr ∧ x.de = l.D
  ·rw [if_pos c,show fulT l t l.L x = x.fr from if_pos ⟨rfl,c⟩]
   exact ful_keep xs (h x (by simp))
  ·rw [if_neg c,show fulT l t l.L x = l.L from if_neg fun e => c e.2]
   exact ful_fold xs fun y hy => h y (by simp [hy])
theorem Ch.fr (hE : 1 ≤ l.E) {s d e : Int} {xs : List Stp} (h : Ch l s d xs e) : ∀ x ∈ xs,s ≤ x.fr ∧ x.fr < x.to ∧ x.to ≤ l.L := by
 induction h with
 | nil d => simp
 | cutd g1 _ _ g ih => intro x hx; rcases List.mem_cons.mp hx with rfl | hx; (· simp only []; omega); (· have := ih x hx; omega)
 | cut0 g1 _ _ g ih => intro x hx; rcases List.mem_cons.mp hx with rfl | hx; (· simp only []; omega); (· have := ih x hx; omega)
 | str g1 _ _ g4 _ _ g ih => intro x hx; rcases List.mem_cons.mp hx with rfl | hx; (· simp only []; omega); (· have := ih x hx; omega)
 | pl g1 _ _ g ih => intro x hx; rcases List.mem_cons.mp hx with rfl | hx; (· simp only []; omega); (· have := ih x hx; omega)
theorem Ch.de0 (hE : 1 ≤ l.E) {s d e : Int} {xs : List Stp} (h : Ch l s d xs e) (hs : s < l.L) : (delX xs)[0]? = some d := by
 cases h with
 | nil => omega
 | cutd => rw [delX_cons]; simp only [show (s + 1 - s).toNat = 1 by omega]; rfl
 | cut0 => rw [delX_cons]; simp only [show (s + 1 - s).toNat = 1 by omega]; rfl
 | str => rw [delX_cons]; simp only [show (s + l.E - s).toNat = (l.E.toNat - 1) + 1 by omega]; rfl
 | pl => rw [delX_cons]; simp only [show (s + 1 - s).toNat = 1 by omega]; rfl
theorem Ch.whole (hE : 1 ≤ l.E) (hC : l.C = []) {s d e : Int} {xs : List Stp} (h : Ch l s d xs e) : d = l.D → airX xs = rng s (l.L - s).toNat ∧ e = l.D := by
 induction h with
 | nil d => intro h; exact ⟨by rw [Int.sub_self]; rfl,h⟩
 | cutd _ g => rw [hC] at g; cases g
 | cut0 _ g => rw [hC] at g; cases g
 | str _ _ g => intro h; omega
 | @pl s d e xs g1 g2 g3 g ih =>
  intro h
  obtain ⟨i1,i2⟩ := ih h
  refine ⟨?_,i2⟩
  rw [airX_cons,airS_pl,i1,show (l.L - s).toNat = (l.L - (s + 1)).toNat + 1 by omega,rng_succ]
  rfl
theorem ch_ex (hE : 1 ≤ l.E) : ∀ (n : Nat) (s d : Int),l.L - s ≤ n → s ≤ l.L → 0 ≤ d → ∃ xs e,Ch l s d xs e
 | 0,s,d,h1,h2,h3 => by
  obtain rfl : s = l.L := by omega
  exact ⟨_,_,.nil d⟩
 | n + 1,s,d,h1,h2,h3 => by
  by_cases c : s = l.L
  ·subst c; exact ⟨_,_,.nil d⟩
  ·cases hc : hasB l.C s
   ·cases hs : strB l s d
    ·obtain ⟨xs,e,h⟩ := ch_ex hE n (s + 1) d (by omega) (by omega) h3
     exact ⟨_,_,.pl (by omega) hc hs h⟩
    ·simp only [strB,Bool.and_eq_true,decide_eq_true_eq,Bool.not_eq_true'] at hs
     obtain ⟨a1,a2,a3,a4⟩ := hs
     obtain ⟨xs,e,h⟩ := ch_ex hE n (s + l.E) (d + 1) (by omega) (by omega) (by omega)
     exact ⟨_,_,.str (by omega) hc a1 a2 a3 a4 h⟩
   ·by_cases hd : 0 < d
    ·obtain ⟨xs,e,h⟩ := ch_ex hE n (s + 1) (d - 1) (by omega) (by omega) (by omega)
     exact ⟨_,_,.cutd (by omega) hc hd h⟩
    ·obtain ⟨xs,e,h⟩ := ch_ex hE n (s + 1) d (by omega) (by omega) h3
     exact ⟨_,_,.cut0 (by omega) hc (by omega) h⟩
end
end Go.VI.Num
/- A delay unit: runs, and the map of a run, plainly. -/
namespace Go.VI.Num
def runsF (L : Int) : Int → List Pr → List Pr
 | f,[] => if f < L then [(f,L)] else []
 | f,c :: cs => (if f < c.1 then [(f,c.1)] else []) ++ runsF L c.2 cs
theorem ordB_head {L a : Int} {cs : List Pr} (h : ordB L a cs = true) : ∀ c ∈ cs.head?,a < c.1 := by
 cases cs with
 | nil => simp
 | cons c cs =>
  simp only [ordB,Bool.and_eq_true,decide_eq_true_eq] at h
  intro x hx
  obtain rfl : c = x := by simpa using hx
  exact h.1
theorem runs_mem {L : Int} : ∀ (cs : List Pr) {a f : Int},ordB L a cs = true → 0 ≤ f → (∀ c ∈ cs.head?,f ≤ c.1) → ∀ r ∈ runsF L f cs,f ≤ r.1 ∧ r.1 < r.2 ∧ r.2 ≤ L ∧ (r.1 = f ∨ ∃ c ∈ cs,c.2 = r.1) ∧ (r.2 = L ∨ ∃ c ∈ cs,c.1 = r.2) ∧ ∀ c ∈ cs,r.2 ≤ c.1 ∨ c.2 ≤ r.1
 | [],a,f,_,h0,_,r,hr => by
  unfold runsF at hr
  split at hr
  ·simp only [List.mem_singleton] at hr
   subst hr
   exact ⟨Int.le_refl _,by assumption,Int.le_refl _,.inl rfl,.inl rfl,by simp⟩
  ·simp at hr
 | c :: cs,a,f,h,h0,hh,r,hr => by
  have hfc := hh c (by simp)
  simp only [ordB,Bool.and_eq_true,decide_eq_true_eq] at h
  rw [runsF,List.mem_append] at hr
  rcases hr with hr | hr
  ·split at hr
   ·simp only [List.mem_singleton] at hr
    subst hr
    refine ⟨Int.le_refl _,by assumption,by simp only []; omega,.inl rfl,.inr ⟨c,by simp,rfl⟩,fun x hx => ?_⟩
    rcases List.mem_cons.mp hx with rfl | hx
    ·exact .inl (Int.le_refl _)
    ·have := ordB_mem h.2.2.2 x hx; left; simp only []; omega
   ·simp at hr
  ·obtain ⟨i1,i2,i3,i4,i5,i6⟩ := runs_mem cs h.2.2.2 (f := c.2) (by omega) (fun x hx => by have := ordB_head h.2.2.2 x hx; omega) r hr
   refine ⟨by omega,i2,i3, ?_, ?_,fun x hx => ?_⟩
   ·rcases i4 with i4 | ⟨x,hx,e⟩
    ·exact .inr ⟨c,by simp,i4.symm⟩
    ·exact .inr ⟨x,by simp [hx],e⟩
   ·rcases i5 with i5 | ⟨x,hx,e⟩
    ·exact .inl i5
    ·exact .inr ⟨x,by simp [hx],e⟩
   ·rcases List.mem_cons.mp hx with rfl | hx
    ·exact .inr i1
    ·exact i6 x hx
def runsL (l : Liv) : List Pr := runsF l.L 0 l.C
structure Run (l : Liv) (r : Pr) : Prop where
 lo : 0 ≤ r.1
 lt : r.1 < r.2
 hi : r.2 ≤ l.L
 fr : r.1 = 0 ∨ ∃ c ∈ l.C,c.2 = r.1
 to : r.2 = l.L ∨ ∃ c ∈ l.C,c.1 = r.2
 no : ∀ c ∈ l.C,r.2 ≤ c.1 ∨ c.2 ≤ r.1
theorem run_of {l : Liv} (ok : okLiv l) {r : Pr} (h : r ∈ runsL l) : Run l r := by
 obtain ⟨i1,i2,i3,i4,i5,i6⟩ := runs_mem l.C ok.C (f := 0) (by omega) (fun x hx => by have := ordB_head ok.C x hx; omega) r h
 exact ⟨i1,i2,i3,i4,i5,i6⟩
def mapT (r : Pr) (st : Bool × List Pr) (x : Stp) : Bool × List Pr :=
 if x.fr < r.1 ∨ r.2 ≤ x.fr then st
 else (x.str,(st.2 ++ if x.fr = r.1 ∨ x.str ≠ st.1 then [(x.fr,x.be)] else []) ++ if x.to = r.2 then [(x.to,x.af)] else [])
def mapR (r : Pr) (st : Bool × List Pr) (x : Stp) : Bool × List Pr := (x.str,(mapT r st x).2)
def mapL (r : Pr) (xs : List Stp) : List Pr := (xs.foldl (mapT r) (false,[])).2
def kmap (b : Int) : Bool → List Stp → List Pr
 | _,[] => []
 | f,x :: xs => if x.fr < b then ((if x.str ≠ f then [(x.fr,x.be)] else []) ++ if x.to = b then [(x.to,x.af)] else []) ++ kmap b x.str xs else []
section
variable {l : Liv}
theorem Ch.tail (hE : 1 ≤ l.E) {s d e : Int} {x : Stp} {xs : List Stp} (h : Ch l s d (x :: xs) e) : x.fr = s ∧ x.be = s + d ∧ x.de = d ∧ s < x.to ∧ x.be ≤ x.af ∧ ∃ d',Ch l x.to d' xs e ∧ x.af = x.to + d' := by
 cases h with
 | cutd g1 g2 g3 g => exact ⟨rfl,rfl,rfl,by simp only []; omega,by simp only []; omega,_,g,by simp only []; omega⟩
 | cut0 g1 g2 g3 g => exact ⟨rfl,rfl,rfl,by simp only []; omega,by simp only []; omega,_,g,by simp only []; omega⟩
 | str g1 g2 g3 g4 g5 g6 g => exact ⟨rfl,rfl,rfl,by simp only []; omega,by simp only []; omega,_,g,by simp only []; omega⟩
 | pl g1 g2 g3 g => exact ⟨rfl,rfl,rfl,by simp only []; omega,by simp only []; omega,_,g,by simp only []; omega⟩
theorem kmap_out (hE : 1 ≤ l.E) {b : Int} {f : Bool} {s d e : Int} {xs : List Stp} (h : Ch l s d xs e) (hb : b ≤ s) : kmap b f xs = [] := by
 cases xs with
 | nil => rfl
 | cons x xs =>
  have := h.tail hE
  rw [kmap,if_neg (by omega)]
theorem mapT_out {r : Pr} : ∀ (xs : List Stp) {f : Bool} {K : List Pr},(∀ x ∈ xs,x.fr < r.1 ∨ r.2 ≤ x.fr) → xs.foldl (mapT r) (f,K) = (f,K)
 | [],f,K,_ => rfl
 | x :: xs,f,K,h => by
  rw [List.foldl_cons,mapT,if_pos (h x (by simp))]
  exact mapT_out xs fun y hy => h y (by simp [hy])
theorem mapR_out {r : Pr} : ∀ (xs : List Stp) {f : Bool} {K : List Pr},(∀ x ∈ xs,x.fr < r.1 ∨ r.2 ≤ x.fr) → (xs.foldl (mapR r) (f,K)).2 = K
 | [],f,K,_ => rfl
 | x :: xs,f,K,h => by
  rw [List.foldl_cons,mapR,mapT,if_pos (h x (by simp))]
  exact mapR_out xs fun y hy => h y (by simp [hy])
theorem mapT_in (hE : 1 ≤ l.E) {r : Pr} : ∀ (xs : List Stp) {s d e : Int} {f : Bool} {K : List Pr},Ch l s d xs e → r.1 < s → (xs.foldl (mapT r) (f,K)).2 = K ++ kmap r.2 f xs
 | [],s,d,e,f,K,_,_ => by simp [kmap]
 | x :: xs,s,d,e,f,K,h,hs => by
  obtain ⟨t1,t2,t3,t4,_,d',t5,t6⟩ := h.tail hE
  by_cases c : x.fr < r.2
  ·rw [List.foldl_cons,mapT,if_neg (by omega),mapT_in hE xs t5 (by omega),kmap,if_pos c]
   have : (x.fr = r.1 ∨ x.str ≠ f) ↔ x.str ≠ f := ⟨fun h => h.resolve_left (by omega),.inr⟩
   simp only [this,List.append_assoc]
  ·rw [mapT_out _ fun y hy => by have := h.fr hE y hy; omega,kmap,if_neg c,List.append_nil]
theorem mapR_in (hE : 1 ≤ l.E) {r : Pr} : ∀ (xs : List Stp) {s d e : Int} {f : Bool} {K : List Pr},Ch l s d xs e → r.1 < s → (xs.foldl (mapR r) (f,K)).2 = K ++ kmap r.2 f xs
 | [],s,d,e,f,K,_,_ => by simp [kmap]
 | x :: xs,s,d,e,f,K,h,hs => by
  obtain ⟨t1,t2,t3,t4,_,d',t5,t6⟩ := h.tail hE
  by_cases c : x.fr < r.2
  ·rw [List.foldl_cons,mapR,mapT,if_neg (by omega),mapR_in hE xs t5 (by omega),kmap,if_pos c]
   have : (x.fr = r.1 ∨ x.str ≠ f) ↔ x.str ≠ f := ⟨fun h => h.resolve_left (by omega),.inr⟩
   simp only [this,List.append_assoc]
  ·rw [mapR_out _ fun y hy => by have := h.fr hE y hy; omega,kmap,if_neg c,List.append_nil]
def kall (b : Int) (xs : List Stp) : List Pr := match xs with | [] => [] | x :: xs => (x.fr,x.be) :: ((if x.to = b then [(x.to,x.af)] else []) ++ kmap b x.str xs)
theorem map_all (hE : 1 ≤ l.E) {r : Pr} (hr : r.1 < r.2) {pre ys : List Stp} {d e : Int} (h : Ch l r.1 d ys e) (hp : ∀ x ∈ pre,x.fr < r.1) (f : Bool) :
  ((pre ++ ys).foldl (mapT r) (f,[])).2 = kall r.2 ys ∧ ((pre ++ ys).foldl (mapR r) (f,[])).2 = kall r.2 ys := by
 rw [List.foldl_append,List.foldl_append,mapT_out pre fun x hx => .inl (hp x hx)]
 have h2 := mapR_out (r := r) pre (f := f) (K := []) fun x hx => .inl (hp x hx)
 obtain ⟨g,K⟩ : ∃ g,pre.foldl (mapR r) (f,[]) = (g,[]) := ⟨_,Prod.ext rfl h2⟩
 rw [K]
 cases ys with
 | nil => exact ⟨rfl,rfl⟩
 | cons x xs =>
  obtain ⟨t1,t2,t3,t4,_,d',t5,t6⟩ := h.tail hE
  constructor
  ·rw [List.foldl_cons,mapT,if_neg (by omega),if_pos (.inl t1),mapT_in hE xs t5 (by omega)]
   simp [kall]
  ·rw [List.foldl_cons,mapR,mapT,if_neg (by omega),if_pos (.inl t1),mapR_in hE xs t5 (by omega)]
   simp [kall]
theorem run_split (ok : okLiv l) {r : Pr} (hr : Run l r) {xs : List Stp} {e : Int} (h : Ch l 0 l.D xs e) :
  ∃ pre ys d,xs = pre ++ ys ∧ Ch l r.1 d ys e ∧ (∀ y ∈ airX pre,y = -1 ∨ 0 ≤ y ∧ y < r.1) ∧ (∀ x ∈ pre,x.fr < r.1 ∧ x.to ≤ r.1) ∧ 0 ≤ d ∧ d ≤ l.D ∧ ((airX pre).length : Int) = r.1 + d - l.D := by
 have hD := ok.D
 rcases hr.fr with h0 | ⟨c,hc,h0⟩
 ·exact ⟨[],xs,l.D,rfl,by rw [h0]; exact h,by simp [airX],by simp,hD.1,Int.le_refl _,by rw [h0]; simp [airX]⟩
 ·have hL := ordB_mem ok.C c hc
  have hl := h.air_len ok.E.1
  have hb := h.del_bd hD.1 (Int.le_refl _)
  obtain ⟨pre,ys,d',rfl,k1,k2,k3,k4⟩ := h.split ok.E.1 (bd_cut hc (b := r.1) (by omega) (by omega)) hr.lo (by have := hr.lt; have := hr.hi; omega)
  have e0 := k1.de0 ok.E.1 (by have := hr.lt; have := hr.hi; omega)
  have hd := hb d' (by rw [delX,List.flatMap_append]; exact List.mem_append_right _ (List.mem_of_getElem? e0))
  have hl2 := k1.air_len ok.E.1
  rw [airX,List.flatMap_append,List.length_append] at hl
  rw [airX] at hl2
  exact ⟨pre,ys,d',rfl,k1,k2,fun x hx => ⟨(k3 x hx).2.2,(k3 x hx).2.1⟩,hd.1,hd.2,by rw [airX]; omega⟩
def chg (b : Int) : Bool → List Stp → Nat
 | _,[] => 0
 | f,x :: xs => if x.fr < b then (if x.str ≠ f then 1 else 0) + chg b x.str xs else 0
def uP (l : Liv) (s : Int) : Nat := l.P.countP fun p => decide (s < p.2)
theorem cnt_mono {s t : Int} (h : s ≤ t) (P : List Pr) : P.countP (fun p => decide (t < p.2)) ≤ P.countP fun p => decide (s < p.2) :=
 List.countP_mono_left fun x _ hx => by simp at hx ⊢; omega
theorem cnt_lt {s t : Int} : ∀ {P : List Pr} {p : Pr},p ∈ P → s < p.2 → p.2 ≤ t → s ≤ t → P.countP (fun p => decide (t < p.2)) < P.countP fun p => decide (s < p.2)
 | q :: P,p,hp,h1,h2,h3 => by
  rw [List.countP_cons,List.countP_cons]
  rcases List.mem_cons.mp hp with rfl | hp
  ·have := cnt_mono h3 P
   rw [if_neg (by simp; omega),if_pos (by simp; omega)]
   omega
  ·have := cnt_lt hp h1 h2 h3
   by_cases c : t < q.2
   ·rw [if_pos (by simp; omega),if_pos (by simp; omega)]; omega
   ·rw [if_neg (by simp; omega)]; omega
theorem chg_out (hE : 1 ≤ l.E) {b : Int} {f : Bool} {s d e : Int} {xs : List Stp} (h : Ch l s d xs e) (hb : b ≤ s) : chg b f xs = 0 := by
 cases xs with
 | nil => rfl
 | cons x xs =>
  have := h.tail hE
  rw [chg,if_neg (by omega)]
theorem Ch.few (ok : okLiv l) {b : Int} {s d e : Int} {xs : List Stp} (h : Ch l s d xs e) : d ≤ l.D → (∀ k,s ≤ k → k < b → hasB l.C k = false) →
  chg b false xs ≤ 2 * uP l s + 2 ∧ chg b true xs ≤ 2 * uP l s + 1 ∧ ((d = l.D ∨ l.L < s + l.E ∨ ∃ c ∈ l.C,c.1 < s + l.E ∧ s < c.2) → chg b false xs = 0) ∧ ∀ p ∈ l.P,p.1 < s + l.E → s < p.2 → chg b false xs ≤ 2 * uP l s := by
 have hE := ok.E.1
 have mono := fun (s t : Int) (h : s ≤ t) => show uP l t ≤ uP l s from cnt_mono h l.P
 induction h with
 | nil d => intro _ _; simp [chg]
 | @cutd s d e xs g1 g2 g3 g ih =>
  intro hd hc
  have hb : b ≤ s := by
   rcases Int.lt_or_le s b with h | h
   ·have := hc s (Int.le_refl _) h; rw [this] at g2; cases g2
   ·exact h
  rw [chg_out hE (.cutd g1 g2 g3 g) hb,chg_out hE (.cutd g1 g2 g3 g) hb]
  exact ⟨by omega,by omega,fun _ => rfl,fun _ _ _ _ => by omega⟩
 | @cut0 s d e xs g1 g2 g3 g ih =>
  intro hd hc
  have hb : b ≤ s := by
   rcases Int.lt_or_le s b with h | h
   ·have := hc s (Int.le_refl _) h; rw [this] at g2; cases g2
   ·exact h
  rw [chg_out hE (.cut0 g1 g2 g3 g) hb,chg_out hE (.cut0 g1 g2 g3 g) hb]
  exact ⟨by omega,by omega,fun _ => rfl,fun _ _ _ _ => by omega⟩
 | @str s d e xs g1 g2 g3 g4 g5 g6 g ih =>
  intro hd hc
  obtain ⟨i1,i2,i3,i4⟩ := ih (by omega) fun k a c => hc k (by omega) c
  have m := mono s (s + l.E) (by omega)
  by_cases hb : s < b
  ·simp only [chg]
   rw [if_pos hb,if_pos hb,if_pos (by simp),if_neg (by simp)]
   refine ⟨by omega,by omega,fun h => ?_,fun p hp h1 h2 => ?_⟩
   ·rcases h with h | h | ⟨c,hc,h1,h2⟩
    ·omega
    ·omega
    ·have := meetB_false.mp g5 c hc h1; omega
   ·have := meetB_false.mp g6 p hp h1; omega
  ·rw [chg_out hE (.str g1 g2 g3 g4 g5 g6 g) (by omega),chg_out hE (.str g1 g2 g3 g4 g5 g6 g) (by omega)]
   exact ⟨by omega,by omega,fun _ => rfl,fun _ _ _ _ => by omega⟩
 | @pl s d e xs g1 g2 g3 g ih =>
  intro hd hc
  obtain ⟨i1,i2,i3,i4⟩ := ih (by omega) fun k a c => hc k (by omega) c
  have m := mono s (s + 1) (by omega)
  have p3 : ∀ c ∈ l.C,c.1 < s + l.E → s < c.2 → chg b false xs = 0 := fun c hc h1 h2 => i3 (.inr (.inr ⟨c,hc,by omega,by
   have := ordB_mem ok.C c hc
   have := hasB_false.mp g2 c hc
   omega⟩))
  have p4 : ∀ p ∈ l.P,p.1 < s + l.E → s < p.2 → chg b false xs ≤ 2 * uP l s := fun p hp h1 h2 => by
   by_cases c : s + 1 < p.2
   ·have := i4 p hp (by omega) c; omega
   ·have : uP l (s + 1) < uP l s := cnt_lt hp h2 (by omega) (by omega)
    omega
  have p5 : (d = l.D ∨ l.L < s + l.E ∨ ∃ c ∈ l.C,c.1 < s + l.E ∧ s < c.2) → chg b false xs = 0 := fun h => by
   rcases h with h | h | ⟨c,hc,h1,h2⟩
   ·exact i3 (.inl h)
   ·exact i3 (.inr (.inl (by omega)))
   ·exact p3 c hc h1 h2
  have p6 : chg b false xs ≤ 2 * uP l s := by
   simp only [strB,Bool.and_eq_false_iff,decide_eq_false_iff_not,Bool.not_eq_false'] at g3
   rcases g3 with g3 | g3 | g3 | g3
   ·rw [p5 (.inl (by omega))]; omega
   ·rw [p5 (.inr (.inl (by omega)))]; omega
   ·simp only [meetB,List.any_eq_true,Bool.and_eq_true,decide_eq_true_eq] at g3
    obtain ⟨c,hc,h1,h2⟩ := g3
    rw [p3 c hc h1 h2]; omega
   ·simp only [meetB,List.any_eq_true,Bool.and_eq_true,decide_eq_true_eq] at g3
    obtain ⟨p,hp,h1,h2⟩ := g3
    exact p4 p hp h1 h2
  by_cases hb : s < b
  ·simp only [chg]
   rw [if_pos hb,if_pos hb,if_neg (by simp),if_pos (by simp),Nat.zero_add]
   exact ⟨by omega,by omega,p5,p4⟩
  ·rw [chg_out hE (.pl g1 g2 g3 g) (by omega),chg_out hE (.pl g1 g2 g3 g) (by omega)]
   exact ⟨by omega,by omega,fun _ => rfl,fun _ _ _ _ => by omega⟩
def vl (l : Liv) (f : Bool) (a : Pr) (t : Int) : Int := a.1 + if f then l.E * (t - a.2) / (l.E + 1) else t - a.2
def Line (l : Liv) (f : Bool) (a : Pr) (s y : Int) : Prop := if f then ∃ q : Nat,s = a.1 + q * l.E ∧ y = a.2 + q * (l.E + 1) else y - a.2 = s - a.1
def AirAt (l : Liv) (A : List Int) (f : Bool) (a : Pr) (y : Int) : Prop := ∀ t,a.2 ≤ t → t < y → A[t.toNat]? = some (vl l f a t)
structure Seg (l : Liv) (A : List Int) (a b : Pr) : Prop where
 x : a.1 < b.1
 y : a.2 < b.2
 ln : ∃ f,Line l f a b.1 b.2 ∧ AirAt l A f a b.2
inductive Kn (l : Liv) (A : List Int) : Pr → List Pr → Prop
 | one (a : Pr) : Kn l A a []
 | cons {a b : Pr} {K : List Pr} : Seg l A a b → Kn l A b K → Kn l A a (b :: K)
theorem line_0 (f : Bool) (a : Pr) : Line l f a a.1 a.2 := by
 unfold Line
 split
 ·exact ⟨0,by simp,by simp⟩
 ·omega
theorem div_str {E : Int} (hE : 1 ≤ E) (q j : Nat) (hj : (j : Int) ≤ E) : E * (q * (E + 1) + j) / (E + 1) = q * E + max ((j : Int) - 1) 0 := by
 have e1 : E * (q * (E + 1) + j) = E * j + q * E * (E + 1) := by rw [Int.mul_add]; rw [Int.add_comm]; congr 1; ac_rfl
 rw [e1,Int.add_mul_ediv_right _ _ (by omega),Int.add_comm]
 congr 1
 rcases Nat.eq_zero_or_pos j with h | h
 ·subst h; rw [show ((0 : Nat) : Int) = 0 from rfl,Int.mul_zero,Int.zero_ediv]; omega
 ·have e2 : E * j = (E + 1 - j) + (j - 1) * (E + 1) := by
   have h1 : ((j : Int) - 1) * (E + 1) = j * E + j - E - 1 := by rw [Int.sub_mul,Int.mul_add]; omega
   rw [h1,Int.mul_comm E j]; omega
  rw [e2,Int.add_mul_ediv_right _ _ (by omega),Int.ediv_eq_zero_of_lt (by omega) (by omega)]
  omega
theorem line_str (hE : 1 ≤ l.E) {a : Pr} {s y : Int} {A B : List Int} (hA : ∃ P,A = P ++ ((s :: rng s l.E.toNat) ++ B) ∧ (P.length : Int) = y) (h : Line l true a s y) (h2 : AirAt l A true a y) : Line l true a (s + l.E) (y + l.E + 1) ∧ AirAt l A true a (y + l.E + 1) := by
 obtain ⟨q,rfl,rfl⟩ := h
 refine ⟨⟨q + 1,by rw [Int.natCast_add,Int.add_mul]; omega,by rw [Int.natCast_add,Int.add_mul]; omega⟩,fun t h3 h4 => ?_⟩
 rcases Int.lt_or_le t (a.2 + q * (l.E + 1)) with h | h
 ·exact h2 t h3 h
 ·obtain ⟨P,rfl,hP⟩ := hA
  obtain ⟨j,hj⟩ : ∃ j : Nat,t = a.2 + q * (l.E + 1) + j := ⟨(t - (a.2 + q * (l.E + 1))).toNat,by omega⟩
  subst hj
  have e1 : a.2 + (q : Int) * (l.E + 1) + j - a.2 = q * (l.E + 1) + j := by omega
  rw [vl,if_pos rfl,e1,div_str hE q j (by omega),← Int.add_assoc]
  have hi : (a.2 + (q : Int) * (l.E + 1) + j).toNat = P.length + j := by omega
  rw [hi,List.getElem?_append_right (by omega),Nat.add_sub_cancel_left,List.getElem?_append_left (by simp; omega)]
  cases j with
  | zero => simp; omega
  | succ j =>
   rw [List.getElem?_cons_succ,List.getElem?_eq_getElem (by simp; omega),rng_get]
   congr 1; omega
theorem line_pl {a : Pr} {s y : Int} {A B : List Int} (hA : ∃ P,A = P ++ ([s] ++ B) ∧ (P.length : Int) = y) (h : Line l false a s y) (h2 : AirAt l A false a y) : Line l false a (s + 1) (y + 1) ∧ AirAt l A false a (y + 1) := by
 simp only [Line,Bool.false_eq_true,if_false] at h
 refine ⟨by simp only [Line,Bool.false_eq_true,if_false]; omega,fun t h3 h4 => ?_⟩
 rcases Int.lt_or_le t y with h5 | h5
 ·exact h2 t h3 h5
 ·obtain rfl : t = y := by omega
  obtain ⟨P,rfl,hP⟩ := hA
  rw [show t.toNat = P.length by omega,List.getElem?_append_right (by omega),Nat.sub_self,List.singleton_append,List.getElem?_cons_zero,vl]
  simp only [Bool.false_eq_true,if_false]
  congr 1; omega
theorem air_0 (f : Bool) (a : Pr) (A : List Int) : AirAt l A f a a.2 := fun t h1 h2 => by omega
theorem Ch.knees (ok : okLiv l) {b : Int} (hb : ∀ s,s < b → meetB l.C s (s + l.E) = false → s + l.E ≤ l.L → s + l.E ≤ b) {A : List Int} {s d e : Int} {xs : List Stp} (h : Ch l s d xs e) : (∀ k,s ≤ k → k < b → hasB l.C k = false) → b ≤ l.L → s < b →
  (∃ P,A = P ++ airX xs ∧ (P.length : Int) = s + d) → ∀ (f : Bool) (a : Pr),a.1 < s → a.2 < s + d → Line l f a s (s + d) → AirAt l A f a (s + d) →
  ∃ y1,Kn l A a (kmap b f xs) ∧ (kmap b f xs).getLast? = some (b,y1) ∧ (kmap b f xs).length = chg b f xs + 1 ∧ ∃ Q B,A = Q ++ B ∧ (Q.length : Int) = y1 ∧ ∀ y ∈ B,y = -1 ∨ b ≤ y := by
 have hE := ok.E.1
 induction h with
 | nil d => intro _ h1 h2; omega
 | @cutd s d e xs g1 g2 g3 g ih => intro hc _ h; have := hc s (Int.le_refl _) h; rw [this] at g2; cases g2
 | @cut0 s d e xs g1 g2 g3 g ih => intro hc _ h; have := hc s (Int.le_refl _) h; rw [this] at g2; cases g2
 | @str s d e xs g1 g2 g3 g4 g5 g6 g ih =>
  intro hc hL hs hA f a h1 h2 h3 h4
  have hto := hb s hs g5 g4
  obtain ⟨P,hA,hP⟩ := hA
  rw [airX_cons,airS_str hE] at hA
  have hA2 : ∃ P',A = P' ++ airX xs ∧ (P'.length : Int) = s + l.E + (d + 1) := ⟨P ++ (s :: rng s l.E.toNat),by rw [hA,List.append_assoc],by simp; omega⟩
  have main : ∀ a : Pr,Line l true a s (s + d) → AirAt l A true a (s + d) → a.1 ≤ s → a.2 ≤ s + d → ∃ y1,Kn l A a ((if s + l.E = b then [(s + l.E,s + d + l.E + 1)] else []) ++ kmap b true xs) ∧ ((if s + l.E = b then [(s + l.E,s + d + l.E + 1)] else []) ++ kmap b true xs).getLast? = some (b,y1) ∧ ((if s + l.E = b then [(s + l.E,s + d + l.E + 1)] else []) ++ kmap b true xs).length = chg b true xs + 1 ∧ ∃ Q B,A = Q ++ B ∧ (Q.length : Int) = y1 ∧ ∀ y ∈ B,y = -1 ∨ b ≤ y := by
   intro a k1 k2 k3 k4
   obtain ⟨m1,m2⟩ := line_str hE ⟨P,hA,hP⟩ k1 k2
   by_cases c : s + l.E = b
   ·rw [if_pos c,kmap_out hE g (by omega),chg_out hE g (by omega)]
    obtain ⟨P',e1,e2⟩ := hA2
    refine ⟨s + d + l.E + 1,.cons ⟨by simp only []; omega,by simp only []; omega,true,m1,m2⟩ (.one _),by rw [← c]; rfl,rfl,P',airX xs,e1,by omega,fun y hy => ?_⟩
    have := g.mem hE y hy; omega
   ·rw [if_neg c,List.nil_append]
    have e1 : s + d + l.E + 1 = s + l.E + (d + 1) := by omega
    rw [e1] at m1 m2
    exact ih (fun k a c => hc k (by omega) c) hL (by omega) hA2 true a (by omega) (by omega) m1 m2
  rw [kmap,if_pos hs]
  simp only [chg,if_pos hs]
  cases f with
  | true =>
   obtain ⟨y1,e1,e2,e3,e4⟩ := main a h3 h4 (by omega) (by omega)
   refine ⟨y1, ?_, ?_, ?_,e4⟩
   ·simpa using e1
   ·simpa using e2
   ·simpa using e3
  | false =>
   obtain ⟨y1,e1,e2,e3,e4⟩ := main (s,s + d) (line_0 true (s,s + d)) (air_0 true (s,s + d) A) (by simp only []; omega) (by simp only []; omega)
   refine ⟨y1, ?_, ?_, ?_,e4⟩
   ·simp only [ne_eq,Bool.true_eq_false,not_false_eq_true,if_true,List.singleton_append,List.cons_append,List.nil_append]
    exact .cons ⟨h1,h2,false,h3,h4⟩ e1
   ·simp only [ne_eq,Bool.true_eq_false,not_false_eq_true,if_true,List.singleton_append,List.cons_append,List.nil_append]
    rw [List.getLast?_cons,e2]; rfl
   ·simp only [ne_eq,Bool.true_eq_false,not_false_eq_true,if_true,List.singleton_append,List.cons_append,List.nil_append]
    rw [List.length_cons,e3]; omega
 | @pl s d e xs g1 g2 g3 g ih =>
  intro hc hL hs hA f a h1 h2 h3 h4
  obtain ⟨P,hA,hP⟩ := hA
  rw [airX_cons,airS_pl] at hA
  have hA2 : ∃ P',A = P' ++ airX xs ∧ (P'.length : Int) = s + 1 + d := ⟨P ++ [s],by rw [hA,List.append_assoc],by simp; omega⟩
  have main : ∀ a : Pr,Line l false a s (s + d) → AirAt l A false a (s + d) → a.1 ≤ s → a.2 ≤ s + d → ∃ y1,Kn l A a ((if s + 1 = b then [(s + 1,s + d + 1)] else []) ++ kmap b false xs) ∧ ((if s + 1 = b then [(s + 1,s + d + 1)] else []) ++ kmap b false xs).getLast? = some (b,y1) ∧ ((if s + 1 = b then [(s + 1,s + d + 1)] else []) ++ kmap b false xs).length = chg b false xs + 1 ∧ ∃ Q B,A = Q ++ B ∧ (Q.length : Int) = y1 ∧ ∀ y ∈ B,y = -1 ∨ b ≤ y := by
   intro a k1 k2 k3 k4
   obtain ⟨m1,m2⟩ := line_pl ⟨P,hA,hP⟩ k1 k2
   by_cases c : s + 1 = b
   ·rw [if_pos c,kmap_out hE g (by omega),chg_out hE g (by omega)]
    obtain ⟨P',e1,e2⟩ := hA2
    refine ⟨s + d + 1,.cons ⟨by simp only []; omega,by simp only []; omega,false,m1,m2⟩ (.one _),by rw [← c]; rfl,rfl,P',airX xs,e1,by omega,fun y hy => ?_⟩
    have := g.mem hE y hy; omega
   ·rw [if_neg c,List.nil_append]
    have e1 : s + d + 1 = s + 1 + d := by omega
    rw [e1] at m1 m2
    exact ih (fun k a c => hc k (by omega) c) hL (by omega) hA2 false a (by omega) (by omega) m1 m2
  rw [kmap,if_pos hs]
  simp only [chg,if_pos hs]
  cases f with
  | false =>
   obtain ⟨y1,e1,e2,e3,e4⟩ := main a h3 h4 (by omega) (by omega)
   refine ⟨y1, ?_, ?_, ?_,e4⟩
   ·simpa using e1
   ·simpa using e2
   ·simpa using e3
  | true =>
   obtain ⟨y1,e1,e2,e3,e4⟩ := main (s,s + d) (line_0 false (s,s + d)) (air_0 false (s,s + d) A) (by simp only []; omega) (by simp only []; omega)
   refine ⟨y1, ?_, ?_, ?_,e4⟩
   ·simp only [ne_eq,Bool.false_eq_true,not_false_eq_true,if_true,List.singleton_append,List.cons_append,List.nil_append]
    exact .cons ⟨h1,h2,true,h3,h4⟩ e1
   ·simp only [ne_eq,Bool.false_eq_true,not_false_eq_true,if_true,List.singleton_append,List.cons_append,List.nil_append]
    rw [List.getLast?_cons,e2]; rfl
   ·simp only [ne_eq,Bool.false_eq_true,not_false_eq_true,if_true,List.singleton_append,List.cons_append,List.nil_append]
    rw [List.length_cons,e3]; omega
theorem Ch.knees0 (ok : okLiv l) {b : Int} (hb : ∀ s,s < b → meetB l.C s (s + l.E) = false → s + l.E ≤ l.L → s + l.E ≤ b) {A : List Int} {s d e : Int} {x : Stp} {xs : List Stp} (h : Ch l s d (x :: xs) e) (hc : ∀ k,s ≤ k → k < b → hasB l.C k = false) (hL : b ≤ l.L) (hs : s < b)
  (hA : ∃ P,A = P ++ airX (x :: xs) ∧ (P.length : Int) = s + d) :
  ∃ y1,Kn l A (s,s + d) ((if x.to = b then [(x.to,x.af)] else []) ++ kmap b x.str xs) ∧ ((if x.to = b then [(x.to,x.af)] else []) ++ kmap b x.str xs).getLast? = some (b,y1) ∧ ((if x.to = b then [(x.to,x.af)] else []) ++ kmap b x.str xs).length = chg b x.str xs + 1 ∧ ∃ Q B,A = Q ++ B ∧ (Q.length : Int) = y1 ∧ ∀ y ∈ B,y = -1 ∨ b ≤ y := by
 have hE := ok.E.1
 obtain ⟨P,hA,hP⟩ := hA
 cases h with
 | cutd g1 g2 => have := hc s (Int.le_refl _) hs; rw [this] at g2; cases g2
 | cut0 g1 g2 => have := hc s (Int.le_refl _) hs; rw [this] at g2; cases g2
 | str g1 g2 g3 g4 g5 g6 g =>
  rw [airX_cons,airS_str hE] at hA
  obtain ⟨m1,m2⟩ := line_str hE ⟨P,hA,hP⟩ (line_0 true (s,s + d)) (air_0 true (s,s + d) A)
  have hA2 : ∃ P',A = P' ++ airX xs ∧ (P'.length : Int) = s + l.E + (d + 1) := ⟨P ++ (s :: rng s l.E.toNat),by rw [hA,List.append_assoc],by simp; omega⟩
  have hto := hb s hs g5 g4
  simp only at m1 m2 ⊢
  by_cases c : s + l.E = b
  ·rw [if_pos c,kmap_out hE g (by omega),chg_out hE g (by omega)]
   obtain ⟨P',e1,e2⟩ := hA2
   refine ⟨s + d + l.E + 1,.cons ⟨by simp only []; omega,by simp only []; omega,true,m1,m2⟩ (.one _),by rw [← c]; rfl,rfl,P',airX xs,e1,by omega,fun y hy => ?_⟩
   exact (g.mem hE y hy).imp id fun h => by omega
  ·rw [if_neg c,List.nil_append]
   have e1 : s + d + l.E + 1 = s + l.E + (d + 1) := by omega
   rw [e1] at m1 m2
   exact g.knees ok hb (fun k a c => hc k (by omega) c) hL (by omega) hA2 true (s,s + d) (by simp only []; omega) (by simp only []; omega) m1 m2
 | pl g1 g2 g3 g =>
  rw [airX_cons,airS_pl] at hA
  obtain ⟨m1,m2⟩ := line_pl ⟨P,hA,hP⟩ (line_0 false (s,s + d)) (air_0 false (s,s + d) A)
  have hA2 : ∃ P',A = P' ++ airX xs ∧ (P'.length : Int) = s + 1 + d := ⟨P ++ [s],by rw [hA,List.append_assoc],by simp; omega⟩
  simp only at m1 m2 ⊢
  by_cases c : s + 1 = b
  ·rw [if_pos c,kmap_out hE g (by omega),chg_out hE g (by omega)]
   obtain ⟨P',e1,e2⟩ := hA2
   refine ⟨s + d + 1,.cons ⟨by simp only []; omega,by simp only []; omega,false,m1,m2⟩ (.one _),by rw [← c]; rfl,rfl,P',airX xs,e1,by omega,fun y hy => ?_⟩
   exact (g.mem hE y hy).imp id fun h => by omega
  ·rw [if_neg c,List.nil_append]
   have e1 : s + d + 1 = s + 1 + d := by omega
   rw [e1] at m1 m2
   exact g.knees ok hb (fun k a c => hc k (by omega) c) hL (by omega) hA2 false (s,s + d) (by simp only []; omega) (by simp only []; omega) m1 m2
structure MapOk (l : Liv) (r : Pr) (xs : List Stp) (a : Pr) (K : List Pr) (y1 : Int) : Prop where
 eq : mapL r xs = a :: K
 ref : ∀ f,(xs.foldl (mapR r) (f,[])).2 = a :: K
 kn : Kn l (airL l xs) a K
 x0 : a.1 = r.1
 y0 : 0 ≤ a.2
 last : K.getLast? = some (r.2,y1)
 len : 1 ≤ K.length ∧ K.length ≤ 11
 pre : ∀ (t : Nat) v,(t : Int) < a.2 → (airL l xs)[t]? = some v → v < r.1
 post : ∀ (t : Nat) v,y1 ≤ t → (airL l xs)[t]? = some v → v = -1 ∨ r.2 ≤ v
 top : y1 ≤ (airL l xs).length
theorem map_ok (ok : okLiv l) {r : Pr} (hr : Run l r) {xs : List Stp} {e : Int} (h : Ch l 0 l.D xs e) : ∃ a K y1,MapOk l r xs a K y1 := by
 obtain ⟨pre,ys,d,rfl,k1,k2,k3,k4,k5,k6⟩ := run_split ok hr h
 have hlo := hr.lo
 have hlt := hr.lt
 have hhi := hr.hi
 have hD := ok.D
 have hb : ∀ s,s < r.2 → meetB l.C s (s + l.E) = false → s + l.E ≤ l.L → s + l.E ≤ r.2 := by
  rcases hr.to with h0 | ⟨c,hc,h0⟩
  ·intro s hs _ h2; omega
  ·intro s hs h1 _
   have hL := ordB_mem ok.C c hc
   have := meetB_false.mp h1 c hc
   omega
 have hno : ∀ k,r.1 ≤ k → k < r.2 → hasB l.C k = false := fun k h1 h2 => by
  rw [hasB_false]
  intro c hc h3
  have := hr.no c hc
  have hL := ordB_mem ok.C c hc
  omega
 have hm := map_all ok.E.1 hlt k1 (fun x hx => (k3 x hx).1)
 cases ys with
 | nil =>
  generalize hz : r.1 = z at k1
  cases k1
  omega
 | cons x ys =>
  have hA : ∃ P,airL l (pre ++ x :: ys) = P ++ airX (x :: ys) ∧ (P.length : Int) = r.1 + d := ⟨List.replicate l.D.toNat (-1) ++ airX pre,by unfold airL; rw [airX,List.flatMap_append,List.append_assoc]; rfl,by rw [List.length_append,List.length_replicate]; omega⟩
  obtain ⟨y1,n1,n2,n3,Q,B,n4,n5,n6⟩ := k1.knees0 ok hb (A := airL l (pre ++ x :: ys)) hno hhi hlt hA
  obtain ⟨t1,t2,t3,t4,t5,d2,t6,t7⟩ := k1.tail ok.E.1
  have hall : kall r.2 (x :: ys) = (r.1,r.1 + d) :: ((if x.to = r.2 then [(x.to,x.af)] else []) ++ kmap r.2 x.str ys) := by
   show (x.fr,x.be) :: _ = _
   rw [t1,t2]
  have hu : uP l x.to ≤ 4 := by
   unfold uP
   exact Nat.le_trans List.countP_le_length ok.p4
  have hdd := t6.dl
  have hfew : chg r.2 x.str ys ≤ 10 := by
   have hd2 : d2 ≤ l.D := by
    generalize hz : r.1 = z at k1 hno
    cases k1 with
    | cutd g1 g2 => have := hno z (Int.le_refl _) (by omega); rw [this] at g2; cases g2
    | cut0 g1 g2 => have := hno z (Int.le_refl _) (by omega); rw [this] at g2; cases g2
    | str g1 g2 g3 => simp only at t7; omega
    | pl g1 g2 g3 => simp only at t7; omega
   obtain ⟨f1,f2,_,_⟩ := t6.few ok (b := r.2) hd2 (fun k h1 h2 => hno k (by omega) h2)
   cases x.str <;> omega
  refine ⟨(r.1,r.1 + d),_,y1, ?_, ?_,n1,rfl,by simp only []; omega,n2,by rw [n3]; omega, ?_, ?_, ?_⟩
  ·unfold mapL; rw [(hm false).1,hall]
  ·intro f; rw [(hm f).2,hall]
  ·intro t v ht hv
   obtain ⟨P,hP,hP2⟩ := hA
   have hv2 : v ∈ List.replicate l.D.toNat (-1) ++ airX pre := by
    have : airL l (pre ++ x :: ys) = (List.replicate l.D.toNat (-1) ++ airX pre) ++ airX (x :: ys) := by unfold airL; rw [airX,List.flatMap_append,List.append_assoc]; rfl
    rw [this,List.getElem?_append_left (by rw [List.length_append,List.length_replicate]; simp only at ht; omega)] at hv
    exact List.mem_of_getElem? hv
   rcases List.mem_append.mp hv2 with h | h
   ·have := (List.mem_replicate.mp h).2; omega
   ·have := k2 v h; omega
  ·intro t v ht hv
   rw [n4,List.getElem?_append_right (by omega)] at hv
   exact n6 v (List.mem_of_getElem? hv)
  ·rw [n4,List.length_append]; omega
end
end Go.VI.Num
/- The map of a run as a map of fractions, plainly. -/
namespace Go.VI.Num
def okZ (z : Int) : Prop := -100000 ≤ z ∧ z ≤ 100000
theorem fitZ_small {z : Int} (h : z.natAbs < 10 ^ 30) : fitZ z = true := decide_eq_true (Nat.lt_of_lt_of_le h (Nat.pow_le_pow_right (by decide) (by decide)))
theorem ten30 : 10 ^ 30 = 1000000000000000000000000000000 := by decide
theorem small_num {z : Int} (h : okZ z) : z.natAbs ≤ 100000 := by unfold okZ at h; omega
theorem cast_num (z : Int) : (z : Rat).num = z := Rat.num_intCast z
theorem cast_den (z : Int) : ((z : Rat).den : Int) = 1 := by rw [Rat.den_intCast]; rfl
theorem fitQ_int {z : Int} (h : okZ z) : FitQ (z : Rat) := by
 refine ⟨?_, ?_⟩
 ·rw [cast_num]; exact of_decide_eq_true (fitZ_small (by have := small_num h; rw [ten30]; omega))
 ·rw [Rat.den_intCast]; exact Nat.one_lt_pow (by decide) (by decide)
theorem sub_int {a b : Int} (ha : okZ a) (hb : okZ b) : subQ (a : Rat) (b : Rat) = some ((a - b : Int) : Rat) := by
 unfold subQ
 rw [cast_num,cast_num,cast_den,cast_den]
 unfold okZ at ha hb
 rw [fitZ_small (by rw [ten30]; omega),fitZ_small (by rw [ten30]; omega),fitZ_small (by rw [ten30]; omega),fitZ_small (by rw [ten30]; omega)]
 simp only [Bool.and_self,if_true,Rat.intCast_sub]
theorem div_int {a b : Int} (ha : okZ a) (hb : okZ b) (h0 : b ≠ 0) : divQ (a : Rat) (b : Rat) = some ((a : Rat) / (b : Rat)) := by
 unfold divQ
 rw [cast_num,cast_num,cast_den,cast_den]
 unfold okZ at ha hb
 have hb0 : (b : Rat) ≠ 0 := fun e => h0 (Rat.intCast_eq_zero_iff.mp e)
 rw [fitZ_small (by rw [ten30]; omega),fitZ_small (by rw [ten30]; omega),decide_eq_true hb0]
 rfl
end Go.VI.Num
