/- What the functions on integers compute, part MK. -/
import Derived.Test.YtfpoegnmeoghpaaGreatDoorDumpMP
set_option linter.unusedVariables false
set_option linter.unusedSimpArgs false
namespace Go.VI.Dump
open Go.VI.Num
/- BIGSTEPS -/
theorem mkO_sl (h : Heap) (es : List AV) : Sl h 1 (weak1 (mkO es)) es := by
 unfold mkO
 by_cases h0 : es = []
 ·rw [if_pos h0,h0]; exact Sl.lsf h 1 []
 ·rw [if_neg h0]; exact lst_sl h 1 es
theorem bk_in {x : LV} (o : okV x) {Dl F : AV} {h : Heap} {k0 p : Int} (hp : p ≤ 9000) : ∀ (d : Nat) (k : Int) (b : Bool),p - k ≤ d → 0 ≤ k →
  ∃ b',(b' = true → b = true ∧ ∀ j,k ≤ j → j < p → hasB x.l.C j = false ∧ hasB x.l.P j = false) ∧
  runC lib ⟨h.length,h.length,1,none⟩ (.loop b7_1) ([(9,.bool true),(10,.bptr (h.length + 0) 1 0),(11,Dl),(13,F),(15,.int .i64 k0),(17,.int .i64 p),(18,.bool b),(19,.int .i64 k)],h ++ [(1,.box (lvC x))]) =
   some (.exit 2,([(9,.bool true),(10,.bptr (h.length + 0) 1 0),(11,Dl),(13,F),(15,.int .i64 k0),(17,.int .i64 p),(18,.bool b')],h ++ [(1,.box (lvC x))])) := by
 intro d
 induction d with
 | zero =>
  intro k b hk h0
  have c : ¬ k < p := by omega
  refine ⟨b,fun hb => ⟨hb,fun j a b => by omega⟩, ?_⟩
  rw [w_loop]
  simp (maxSteps := 30000000) (disch := omega) only [go_sem,c]
 | succ d ih =>
  intro k b hk h0
  by_cases c : k < p
  ·cases b with
   | false =>
    refine ⟨false,fun hb => (by cases hb), ?_⟩
    rw [w_loop]
    simp (maxSteps := 30000000) (disch := omega) only [go_sem,c]
   | true =>
    have eh := fun n H lo => ehas_run (o.sc H) o.lc n lo
    have ep := fun n H lo => ehas_run (o.sp H) o.lp n lo
    cases c1 : hasB x.l.C k with
    | true =>
     obtain ⟨b',h1,e⟩ := ih (k + 1) false (by omega) (by omega)
     refine ⟨b',fun hb => (by cases (h1 hb).1), ?_⟩
     simp only [lvC] at e ⊢
     rw [w_loop]
     simp (maxSteps := 30000000) (disch := omega) only [go_sem,c,eh,c1,e]
    | false =>
     cases c2 : hasB x.l.P k with
     | true =>
      obtain ⟨b',h1,e⟩ := ih (k + 1) false (by omega) (by omega)
      refine ⟨b',fun hb => (by cases (h1 hb).1), ?_⟩
      simp only [lvC] at e ⊢
      rw [w_loop]
      simp (maxSteps := 30000000) (disch := omega) only [go_sem,c,eh,ep,c1,c2,e]
     | false =>
      obtain ⟨b',h1,e⟩ := ih (k + 1) true (by omega) (by omega)
      refine ⟨b',fun hb => ⟨rfl,fun j a b => ?_⟩, ?_⟩
      ·by_cases hj : j = k
       ·rw [hj]; exact ⟨c1,c2⟩
       ·exact (h1 hb).2 j (by omega) b
      ·simp only [lvC] at e ⊢
       rw [w_loop]
       simp (maxSteps := 30000000) (disch := omega) only [go_sem,c,eh,ep,c1,c2,e]
  ·refine ⟨b,fun hb => ⟨hb,fun j a b => by omega⟩, ?_⟩
   rw [w_loop]
   simp (maxSteps := 30000000) (disch := omega) only [go_sem,c]
set_option maxHeartbeats 1000000 in
theorem bk_loop {x : LV} (o : okV x) (ok : okLiv x.l) {Dl F : List Int} {fv : AV} (sf : ∀ H,Sl H 1 fv (ints F)) (h : Heap) (hD : (Dl.length : Int) = x.l.L) (hF : F.length = x.l.C.length)
  (hp : ∀ (k : Nat) (hk : k < x.l.C.length),x.l.C[k].2 ≤ F[k] ∧ F[k] ≤ x.l.L ∧ (x.l.C[k].2 < x.l.L → ∃ δ,Dl[x.l.C[k].2.toNat]? = some δ ∧ 0 ≤ δ ∧ δ ≤ x.l.D ∧ (freeB x.l x.l.C[k].2 (x.l.C[k].2 + x.l.E * (x.l.D - δ)) → F[k] = x.l.C[k].2 + x.l.E * (x.l.D - δ)) ∧ min (x.l.C[k].2 + x.l.E * (x.l.D - δ)) x.l.L ≤ F[k])) : ∀ (d k : Nat),k + d = x.l.C.length →
  runC lib ⟨h.length,h.length,1,none⟩ (.loop b7_0) ([(9,.bool true),(10,.bptr (h.length + 0) 1 0),(11,lstV 1 (ints Dl)),(13,fv),(15,.int .i64 k)],h ++ [(1,.box (lvC x))]) =
   some (.exit 0,([(9,.bool true)],h ++ [(1,.box (lvC x))])) := by
 have oL := ok.L
 have oD := ok.D
 have oE := ok.E
 have c4 := ok.c4
 have sd := fun H => lstV_sl 1 (ints Dl) H
 have lc := lenv_sl (o.sc h).len
 rw [pts_len] at lc
 intro d
 induction d with
 | zero =>
  intro k hk
  obtain rfl : k = x.l.C.length := by omega
  rw [w_loop]
  simp only [lvC]
  simp (maxSteps := 30000000) (disch := omega) only [go_sem,lc,Int.lt_irrefl]
 | succ d ih =>
  intro k hk
  have hk' : k < x.l.C.length := by omega
  have c : (k : Int) < x.l.C.length := by omega
  have e := ih (k + 1) (by omega)
  rw [cast1] at e
  have e1 : sidx 2 (cV x) (.int .i64 k) = some k := by rw [sidx_sl (o.sc h) (by omega) (by simp; omega)]; simp
  have e2 := fun off fr => pc_iptr (off := off) ((o.sc h).elems fr) (show k < (pts x.l.C).length by simp; omega)
  simp only [pts_get,pt] at e2
  have e3 : sidx 1 fv (.int .i64 k) = some k := by rw [sidx_sl (sf h) (by omega) (by simp; omega)]; simp
  have e4 := fun off fr => pc_iptr (off := off) ((sf h).elems fr) (show k < (ints F).length by simp; omega)
  simp only [ints_get] at e4
  obtain ⟨b1,b2,b3⟩ := hp k hk'
  have hb := ordB_mem ok.C x.l.C[k] (List.getElem_mem _)
  generalize F[k] = f at *
  generalize x.l.C[k] = q at *
  obtain ⟨q1,q2⟩ := q
  simp only at e2 b1 b3 hb
  have g1 : ¬ f < q2 := by omega
  have g2 : ¬ x.l.L < f := by omega
  rw [w_loop]
  by_cases c5 : q2 = x.l.L
  ·have c5' : (q2 = x.l.L) = True := eq_true c5
   simp only [lvC] at e ⊢
   simp (maxSteps := 30000000) (disch := omega) only [go_sem,lc,c,e1,e2,e3,e4,g1,g2,c5',e]
  ·obtain ⟨δ,d1,d2,d3,d4,d5⟩ := b3 (by omega)
   obtain ⟨hk5,hv5⟩ := pget (v := 0) d1
   have e5 : sidx 1 (lstV 1 (ints Dl)) (.int .i64 q2) = some q2.toNat := by rw [sidx_sl (sd h) (by omega) (by simp; omega)]
   have e6 := fun off fr => pc_iptr (off := off) ((sd h).elems fr) (show q2.toNat < (ints Dl).length by simp; omega)
   simp only [ints_get] at e6
   rw [hv5] at e6
   have w1 : 0 ≤ x.l.E * (x.l.D - δ) := Int.mul_nonneg (by omega) (by omega)
   have w2 : x.l.E * (x.l.D - δ) ≤ 60 * 60 := Int.mul_le_mul (by omega) (by omega) (by omega) (by omega)
   have hfree : ∀ b',(b' = true → decide (q2 + x.l.E * (x.l.D - δ) ≤ x.l.L) = true ∧ ∀ j,q2 ≤ j → j < q2 + x.l.E * (x.l.D - δ) → hasB x.l.C j = false ∧ hasB x.l.P j = false) → b' = true → f = q2 + x.l.E * (x.l.D - δ) := fun b' hb' ht =>
    d4 ⟨of_decide_eq_true (hb' ht).1,(hb' ht).2⟩
   have ew : IntKind.i64.wrap (x.l.E * (x.l.D - δ)) = x.l.E * (x.l.D - δ) := wrap_id (by omega) (by omega)
   obtain ⟨w,hw⟩ : ∃ w,x.l.E * (x.l.D - δ) = w := ⟨_,rfl⟩
   rw [hw] at ew w1 w2 hfree d5
   have ew2 : IntKind.i64.wrap (q2 + w) = q2 + w := wrap_id (by omega) (by omega)
   obtain ⟨b',hb',ei⟩ := bk_in o (Dl := lstV 1 (ints Dl)) (F := fv) (h := h) (k0 := k) (p := q2 + w) (by omega) w.toNat q2 (decide (q2 + w ≤ x.l.L)) (by omega) (by omega)
   have g7 : ¬ f < min (q2 + w) x.l.L := by omega
   simp only [lvC] at e ei ⊢
   cases b' with
   | false => simp (maxSteps := 30000000) (disch := omega) only [go_sem,lc,c,e1,e2,e3,e4,g1,g2,c5,e5,e6,hw,ew,ew2,ei,g7,e]
   | true =>
    have g8 := hfree true hb' rfl
    have g9 : (f = q2 + w) = True := eq_true g8
    simp (maxSteps := 30000000) (disch := omega) only [go_sem,lc,c,e1,e2,e3,e4,g1,g2,c5,e5,e6,hw,ew,ew2,ei,g7,g9,e]
set_option maxHeartbeats 1000000 in
theorem lback_run {h : Heap} (hs : ∀ lo,(run lib).fn 11 [] (h ++ [(0,.dead)]) lo = some (.bool true,h ++ [(0,.dead)])) {a b c : Int} (ha : I64 a) (hb : I64 b) (hc : I64 c) {v : AV} {d : List Tr} (hv : ∀ H,Sl H 3 v (tris d)) (hl : d.length ≤ 9223372036854775807) (hi : ∀ x ∈ d,I64 x.1 ∧ I64 x.2.1 ∧ I64 x.2.2) (lo : Nat) :
  (run lib).fn 7 [.int .i64 a,.int .i64 b,.int .i64 c,v] h lo = some (.bool true,h) := by
 have md := fun H lo => made_run ha hb hc (hv H) hl hi lo
 obtain ⟨xs,e,ch⟩ := made_ch a b c d
 have ok := made_ok a b c d
 generalize madeLiv a b c d = l at *
 have o := lvOf_ok ok
 have dr := fun H lo => ddel_run o ok (x := lvOf l) ch H lo
 have fr := fun H lo => dfull_run o ok (x := lvOf l) ch H lo
 rw [← lvOf_V] at md
 have oL := ok.L
 have oD := ok.D
 have o4 := ok.c4
 have dl := ch.del_len ok.E.1
 have fl : (fulL l xs).length = l.C.length := by simp [fulL]
 have sf := fun H => mkO_sl H (ints (fulL l xs))
 have e1 := bk_loop o ok (Dl := delX xs) (F := fulL l xs) sf h (by rw [lvOf_l]; omega) (by rw [lvOf_l]; exact fl) (fun k hk => by
  have hk' : k < l.C.length := hk
  have hf : (fulL l xs)[k]'(by rw [fl]; exact hk') = fulX l l.C[k].2 xs := by simp [fulL]
  rw [hf]
  exact back_ok ok ch (List.getElem_mem hk')) l.C.length 0 (by rw [lvOf_l]; omega)
 have ld := lenv_sl (lstV_sl 1 (ints (delX xs)) h).len
 have lf := lenv_sl (sf h).len
 have lc := lenv_sl (o.sc h).len
 rw [ints_len] at ld lf
 rw [pts_len] at lc
 rw [fl] at lf
 have n1 : ((delX xs).length : Int) = l.L := by omega
 obtain ⟨w1,w2⟩ := Sl_val (hv h)
 unfold lvV at md dr fr
 simp only [lvC,Int.natCast_zero,lvOf_l] at e1 md dr fr lc
 rw [run_closed (x := x7) rfl rfl rfl rfl]
 simp (maxSteps := 30000000) (disch := omega) only [go_sem,x7,hs,md,dr,fr,ld,lf,lc,n1,e1,w1,w2]
theorem walkBack (xs : List AV) (ht : TyA shMade xs) : ∃ h',(run lib).fn 7 xs [] 0 = some (.bool true,h') :=
 walk_made (fun ha hb hc _ _ hv hl hi => lback_run (h := []) sane_at ha hb hc hv hl hi 0) xs ht
end Go.VI.Dump
