/- What the functions on integers compute, part MD. -/
import Derived.Test.YtfpoegnmeoghpaaGreatDoorDumpMW
set_option linter.unusedVariables false
set_option linter.unusedSimpArgs false
namespace Go.VI.Dump
open Go.VI.Num
/- BIGSTEPS -/
theorem del_plain {l : Liv} (ok : okLiv l) {xs : List Stp} {e : Int} (h : Ch l 0 l.D xs e) (k : Nat) (hk : k < (delX xs).length) :
  0 ≤ (delX xs)[k] ∧ (delX xs)[k] ≤ l.D ∧ (hasB l.C k = false → (fstI k (airL l xs) 0 = k + (delX xs)[k] ∨ fstI k (airL l xs) 0 = k + (delX xs)[k] + 1 ∧ (delX xs)[k] + 1 ≤ l.D)) := by
 have h1 := h.del_len ok.E.1
 have hD := ok.D
 obtain ⟨b1,b2⟩ := h.del_bd hD.1 (Int.le_refl _) _ (List.getElem_mem hk)
 refine ⟨b1,b2,fun hc => ?_⟩
 obtain ⟨δ,e1,e2⟩ := h.first ok.E.1 hD.1 (Int.le_refl _) (Int.le_refl _) k (by omega) (by omega) hc
 rw [show ((k : Int) - 0).toNat = k by omega,List.getElem?_eq_getElem hk,Option.some.injEq] at e1
 subst e1
 have : fstI (k : Int) (airL l xs) 0 = fstI (k : Int) (airX xs) (0 + l.D) := by
  unfold airL
  rw [fstI_app (by rw [List.mem_replicate]; omega),List.length_replicate]
  congr 1
  omega
 rw [this]
 exact e2
set_option maxHeartbeats 1000000 in
theorem del_loop {x : LV} (o : okV x) (ok : okLiv x.l) {A Dl : List Int} (hA : A.length ≤ 9223372036854775807) (h : Heap) (hD : (Dl.length : Int) = x.l.L)
  (hp : ∀ (k : Nat) (hk : k < Dl.length),0 ≤ Dl[k] ∧ Dl[k] ≤ x.l.D ∧ (hasB x.l.C k = false → (fstI k A 0 = k + Dl[k] ∨ fstI k A 0 = k + Dl[k] + 1 ∧ Dl[k] + 1 ≤ x.l.D))) : ∀ (d k : Nat),k + d = Dl.length →
  runC lib ⟨h.length,h.length,1,none⟩ (.loop b6_0) ([(9,.bool true),(10,.bptr (h.length + 0) 1 0),(11,.lst 1 (ints A)),(13,lstV 1 (ints Dl)),(16,.int .i64 k)],h ++ [(1,.box (lvC x))]) =
   some (.exit 0,([(9,.bool true)],h ++ [(1,.box (lvC x))])) := by
 have oL := ok.L
 have oD := ok.D
 have sl := fun H => lst_sl H 1 (ints A)
 have sd := fun H => lstV_sl 1 (ints Dl) H
 intro d
 induction d with
 | zero =>
  intro k hk
  have c : ¬ (k : Int) < x.l.L := by omega
  rw [w_loop]
  simp only [lvC]
  simp (maxSteps := 30000000) (disch := omega) only [go_sem,c]
 | succ d ih =>
  intro k hk
  have hk' : k < Dl.length := by omega
  have c : (k : Int) < x.l.L := by omega
  have e := ih (k + 1) (by omega)
  rw [cast1] at e
  have e3 : sidx 1 (lstV 1 (ints Dl)) (.int .i64 k) = some k := by rw [sidx_sl (sd h) (by omega) (by simp; omega)]; simp
  have e4 := fun off fr => pc_iptr (off := off) ((sd h).elems fr) (show k < (ints Dl).length by simp; omega)
  simp only [ints_get] at e4
  obtain ⟨b1,b2,b3⟩ := hp k hk'
  generalize Dl[k] = q at *
  have g1 : ¬ q < 0 := by omega
  have g2 : ¬ x.l.D < q := by omega
  have eh := fun n H lo => ehas_run (o.sc H) o.lc n lo
  have ef := fun n H lo => first_run (sl H) hA n lo
  rw [w_loop]
  simp only [lvC] at e ⊢
  cases hc : hasB x.l.C k with
  | true => simp (maxSteps := 30000000) (disch := omega) only [go_sem,c,e3,e4,g1,g2,eh,hc,e]
  | false =>
   have b4 := b3 hc
   have ef := fun H lo => ef (k : Int) H lo
   generalize fstI (k : Int) A 0 = f at *
   have g3 : ¬ f < (k : Int) := by omega
   have g4 : ¬ (k : Int) + x.l.D < f := by omega
   by_cases c4 : f - (k : Int) = q
   ·simp (maxSteps := 30000000) (disch := omega) only [go_sem,c,e3,e4,g1,g2,eh,hc,ef,g3,g4,c4,e]
   ·have c5 : (f - (k : Int) = q + 1) = True := eq_true (by omega)
    simp (maxSteps := 30000000) (disch := omega) only [go_sem,c,e3,e4,g1,g2,eh,hc,ef,g3,g4,c4,c5,e]
set_option maxHeartbeats 1000000 in
theorem ldel_run {h : Heap} (hs : ∀ lo,(run lib).fn 11 [] (h ++ [(0,.dead)]) lo = some (.bool true,h ++ [(0,.dead)])) {a b c : Int} (ha : I64 a) (hb : I64 b) (hc : I64 c) {v : AV} {d : List Tr} (hv : ∀ H,Sl H 3 v (tris d)) (hl : d.length ≤ 9223372036854775807) (hi : ∀ x ∈ d,I64 x.1 ∧ I64 x.2.1 ∧ I64 x.2.2) (lo : Nat) :
  (run lib).fn 6 [.int .i64 a,.int .i64 b,.int .i64 c,v] h lo = some (.bool true,h) := by
 have md := fun H lo => made_run ha hb hc (hv H) hl hi lo
 obtain ⟨xs,e,ch⟩ := made_ch a b c d
 have ok := made_ok a b c d
 generalize madeLiv a b c d = l at *
 have o := lvOf_ok ok
 have ar := fun H lo => dair_run o ok (x := lvOf l) ch H lo
 have dr := fun H lo => ddel_run o ok (x := lvOf l) ch H lo
 rw [← lvOf_V] at md
 rw [lvOf_l] at ar
 have hlen := air_lenI ok ch
 have hdl := ch.dl ok.D.1 (Int.le_refl _)
 have oL := ok.L
 have oD := ok.D
 have dl := ch.del_len ok.E.1
 have e1 := del_loop o ok (A := airL l xs) (Dl := delX xs) (by omega) h (by rw [lvOf_l]; omega) (fun k hk => del_plain ok ch k hk) (delX xs).length 0 (by omega)
 have la := lenv_sl (lst_sl h 1 (ints (airL l xs))).len
 have ld := lenv_sl (lstV_sl 1 (ints (delX xs)) h).len
 rw [ints_len] at la ld
 have n1 : ((delX xs).length : Int) = l.L := by omega
 have n2 : ((airL l xs).length : Int) - l.L = e := by omega
 have n3 : ¬ e < 0 := by omega
 have n4 : ¬ l.D < e := by omega
 obtain ⟨w1,w2⟩ := Sl_val (hv h)
 unfold lvV at md ar dr
 simp only [lvC,Int.natCast_zero,lvOf_l] at e1 md ar dr
 rw [run_closed (x := x6) rfl rfl rfl rfl]
 simp (maxSteps := 30000000) (disch := omega) only [go_sem,x6,hs,md,ar,dr,la,ld,n1,n2,n3,n4,e1,w1,w2]
theorem walkDelays (xs : List AV) (ht : TyA shMade xs) : ∃ h',(run lib).fn 6 xs [] 0 = some (.bool true,h') :=
 walk_made (fun ha hb hc _ _ hv hl hi => ldel_run (h := []) sane_at ha hb hc hv hl hi 0) xs ht
end Go.VI.Dump
