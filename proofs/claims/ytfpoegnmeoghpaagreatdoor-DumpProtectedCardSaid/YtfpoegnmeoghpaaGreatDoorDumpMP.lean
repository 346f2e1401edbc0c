/- What the functions on integers compute, part MP. -/
import Derived.Test.YtfpoegnmeoghpaaGreatDoorDumpMW
set_option linter.unusedVariables false
set_option linter.unusedSimpArgs false
namespace Go.VI.Dump
open Go.VI.Num
/- BIGSTEPS -/
theorem prot_plain {l : Liv} (ok : okLiv l) {xs : List Stp} {e : Int} (h : Ch l 0 l.D xs e) {p : Pr} (hp : p ∈ l.P) :
  ∃ at_ : Nat,fstI p.1 (airL l xs) 0 = at_ ∧ (at_ : Int) + (p.2 - p.1) ≤ (airL l xs).length ∧ (∀ i : Nat,(i : Int) < p.2 - p.1 → (airL l xs)[at_ + i]? = some (p.1 + i)) ∧
   ((at_ : Int) + (p.2 - p.1) < (airL l xs).length → ∀ y,(airL l xs)[at_ + (p.2 - p.1).toNat]? = some y → ¬ y = p.2 - 1) := by
 have hL := ordB_mem ok.P p hp
 obtain ⟨pre,post,e1,e2,e3⟩ := prot_air ok h hp
 rw [e1]
 refine ⟨pre.length, ?_, ?_,fun i hi => ?_,fun hlt y hy => ?_⟩
 ·rw [fstI_app e2,fstI_rng _ _ _ _ (by omega) (by omega)]; omega
 ·rw [List.length_append,List.length_append,rng_len]; omega
 ·rw [List.getElem?_append_right (by omega),Nat.add_sub_cancel_left,List.getElem?_append_left (by rw [rng_len]; omega),List.getElem?_eq_getElem (by rw [rng_len]; omega),rng_get]
 ·rw [List.getElem?_append_right (by omega),Nat.add_sub_cancel_left,List.getElem?_append_right (by rw [rng_len]; omega),rng_len,Nat.sub_self] at hy
  have := e3 y (List.mem_of_getElem? hy)
  omega
theorem pget {A : List Int} {k : Nat} {v y : Int} (h : A[k]? = some y) : ∃ hk : k < A.length,A[k] = y := by
 rw [List.getElem?_eq_some_iff] at h; exact h
theorem prot_in {A : List Int} (hA : A.length ≤ 9223372036854775807) {h : Heap} {B : Blk} {at_ : Nat} {f n k0 : Int} (hn : n ≤ 1000) (hf : 0 ≤ f ∧ f ≤ 1000) (ha : (at_ : Int) + n ≤ A.length) (hk : ∀ i : Nat,(i : Int) < n → A[at_ + i]? = some (f + i)) : ∀ (d k : Nat),(k : Int) + d = n →
  runC lib ⟨h.length,h.length,1,none⟩ (.loop b5_1) ([(9,.bool true),(10,.bptr (h.length + 0) 1 0),(11,.lst 1 (ints A)),(13,.int .i64 k0),(14,.int .i64 f),(15,.int .i64 n),(16,.int .i64 at_),(17,.int .i64 k)],h ++ [(1,B)]) =
   some (.exit 2,([(9,.bool true),(10,.bptr (h.length + 0) 1 0),(11,.lst 1 (ints A)),(13,.int .i64 k0),(14,.int .i64 f),(15,.int .i64 n),(16,.int .i64 at_)],h ++ [(1,B)])) := by
 have sl := fun H => lst_sl H 1 (ints A)
 intro d
 induction d with
 | zero =>
  intro k hk
  obtain rfl : (k : Int) = n := by omega
  rw [w_loop]
  simp (maxSteps := 30000000) (disch := omega) only [go_sem,Int.lt_irrefl]
 | succ d ih =>
  intro k hk0
  have c : (k : Int) < n := by omega
  have e := ih (k + 1) (by omega)
  rw [cast1] at e
  obtain ⟨hk',hv⟩ := pget (v := 0) (hk k c)
  have e3 : sidx 1 (.lst 1 (ints A)) (.int .i64 ((at_ : Int) + k)) = some (at_ + k) := by
   rw [show (at_ : Int) + k = ((at_ + k : Nat) : Int) by omega,sidx_sl (sl h) (by omega) (by simp; omega)]; simp; omega
  have e4 := fun off fr => pc_iptr (off := off) ((sl h).elems fr) (show at_ + k < (ints A).length by simp; omega)
  simp only [ints_get] at e4
  rw [hv] at e4
  rw [w_loop]
  simp (maxSteps := 30000000) (disch := omega) only [go_sem,c,e3,e4,e]
theorem prot_loop {x : LV} (o : okV x) (ok : okLiv x.l) {A : List Int} (hA : A.length ≤ 9223372036854775807) (h : Heap)
  (hp : ∀ p ∈ x.l.P,∃ at_ : Nat,fstI p.1 A 0 = at_ ∧ (at_ : Int) + (p.2 - p.1) ≤ A.length ∧ (∀ i : Nat,(i : Int) < p.2 - p.1 → A[at_ + i]? = some (p.1 + i)) ∧ ((at_ : Int) + (p.2 - p.1) < A.length → ∀ y,A[at_ + (p.2 - p.1).toNat]? = some y → ¬ y = p.2 - 1)) : ∀ (d k : Nat),k + d = x.l.P.length →
  runC lib ⟨h.length,h.length,1,none⟩ (.loop b5_0) ([(9,.bool true),(10,.bptr (h.length + 0) 1 0),(11,.lst 1 (ints A)),(13,.int .i64 k)],h ++ [(1,.box (lvC x))]) =
   some (.exit 0,([(9,.bool true)],h ++ [(1,.box (lvC x))])) := by
 have p4 := ok.p4
 have sl := fun H => lst_sl H 1 (ints A)
 have ll := lenv_sl (sl h).len
 rw [ints_len] at ll
 have lp := lenv_sl (o.sp h).len
 rw [pts_len] at lp
 intro d
 induction d with
 | zero =>
  intro k hk
  obtain rfl : k = x.l.P.length := by omega
  rw [w_loop]
  simp only [lvC]
  simp (maxSteps := 30000000) (disch := omega) only [go_sem,lp,Int.lt_irrefl]
 | succ d ih =>
  intro k hk
  have hk' : k < x.l.P.length := by omega
  have c : (k : Int) < x.l.P.length := by omega
  have e := ih (k + 1) (by omega)
  rw [cast1] at e
  have e3 : sidx 2 (pV x) (.int .i64 k) = some k := by rw [sidx_sl (o.sp h) (by omega) (by simp; omega)]; simp
  have e4 := fun off fr => pc_iptr (off := off) ((o.sp h).elems fr) (show k < (pts x.l.P).length by simp; omega)
  simp only [pts_get,pt] at e4
  have hb := ordB_mem ok.P x.l.P[k] (List.getElem_mem _)
  have hL := ok.L
  obtain ⟨a,f1,f2,f3,f4⟩ := hp x.l.P[k] (List.getElem_mem _)
  generalize x.l.P[k] = q at *
  obtain ⟨q1,q2⟩ := q
  simp only at e4 f1 f2 f3 f4 hb
  have ef := fun H lo => first_run (sl H) hA q1 lo
  rw [f1] at ef
  have ei := fun B => prot_in hA (h := h) (B := B) (at_ := a) (f := q1) (n := q2 - q1) (k0 := k) (by omega) (by omega) f2 f3 (q2 - q1).toNat 0 (by omega)
  simp only [Int.natCast_zero] at ei
  have g1 : ¬ (a : Int) < 0 := by omega
  have g2 : ¬ (A.length : Int) < (a : Int) + (q2 - q1) := by omega
  rw [w_loop]
  simp only [lvC] at e ei ⊢
  by_cases c3 : (a : Int) + (q2 - q1) < A.length
  ·have hk3 : a + (q2 - q1).toNat < A.length := by omega
   have e5 : sidx 1 (.lst 1 (ints A)) (.int .i64 (min ((a : Int) + (q2 - q1)) ((A.length : Int) - 1))) = some (a + (q2 - q1).toNat) := by
    rw [show min ((a : Int) + (q2 - q1)) ((A.length : Int) - 1) = ((a + (q2 - q1).toNat : Nat) : Int) by omega,sidx_sl (sl h) (by omega) (by simp; omega)]; simp; omega
   have e6 := fun off fr => pc_iptr (off := off) ((sl h).elems fr) (show a + (q2 - q1).toNat < (ints A).length by simp; omega)
   simp only [ints_get] at e6
   have g4 := f4 c3 A[a + (q2 - q1).toNat] (List.getElem?_eq_getElem hk3)
   have g5 : ¬ A[a + (q2 - q1).toNat] = q1 + (q2 - q1) - 1 := by omega
   generalize A[a + (q2 - q1).toNat] = y at *
   simp (maxSteps := 30000000) (disch := omega) only [go_sem,lp,ll,c,e3,e4,ef,g1,g2,ei,c3,e5,e6,g5,e]
  ·simp (maxSteps := 30000000) (disch := omega) only [go_sem,lp,ll,c,e3,e4,ef,g1,g2,ei,c3,e]
theorem lprot_run {h : Heap} (hs : ∀ lo,(run lib).fn 11 [] (h ++ [(0,.dead)]) lo = some (.bool true,h ++ [(0,.dead)])) {a b c : Int} (ha : I64 a) (hb : I64 b) (hc : I64 c) {v : AV} {d : List Tr} (hv : ∀ H,Sl H 3 v (tris d)) (hl : d.length ≤ 9223372036854775807) (hi : ∀ x ∈ d,I64 x.1 ∧ I64 x.2.1 ∧ I64 x.2.2) (lo : Nat) :
  (run lib).fn 5 [.int .i64 a,.int .i64 b,.int .i64 c,v] h lo = some (.bool true,h) := by
 have md := fun H lo => made_run ha hb hc (hv H) hl hi lo
 obtain ⟨xs,e,ch⟩ := made_ch a b c d
 have ok := made_ok a b c d
 generalize madeLiv a b c d = l at *
 have o := lvOf_ok ok
 have ar := fun H lo => dair_run o ok (x := lvOf l) ch H lo
 rw [← lvOf_V] at md
 rw [lvOf_l] at ar
 have hlen := air_lenI ok ch
 have hdl := ch.dl ok.D.1 (Int.le_refl _)
 have oL := ok.L
 have oD := ok.D
 have e1 := prot_loop o ok (A := airL l xs) (by omega) h (fun p hp => prot_plain ok ch hp) l.P.length 0 (by rw [lvOf_l]; omega)
 have vv := (hv h).len
 obtain ⟨w1,w2⟩ := Sl_val (hv h)
 unfold lvV at md ar
 simp only [lvC,Int.natCast_zero,lvOf_l] at e1 md ar
 rw [run_closed (x := x5) rfl rfl rfl rfl]
 simp (maxSteps := 30000000) (disch := omega) only [go_sem,x5,hs,md,ar,e1,w1,w2]
theorem walkProtected (xs : List AV) (ht : TyA shMade xs) : ∃ h',(run lib).fn 5 xs [] 0 = some (.bool true,h') :=
 walk_made (fun ha hb hc _ _ hv hl hi => lprot_run (h := []) sane_at ha hb hc hv hl hi 0) xs ht
end Go.VI.Dump
