/- What the functions on integers compute, part MH. -/
import Derived.Test.YtfpoegnmeoghpaaGreatDoorDumpMP
set_option linter.unusedVariables false
set_option linter.unusedSimpArgs false
namespace Go.VI.Dump
open Go.VI.Num
/- BIGSTEPS -/
theorem eq_pt (a b c d : Int) : eqvv true [.i .i64,.i .i64] (.agg [.int .i64 a,.int .i64 b]) (.agg [.int .i64 c,.int .i64 d]) = some (.bool (!decide (((a,b) : Pr) = (c,d)))) := by
 rw [eqv_agg (by simp) rfl rfl,if_pos rfl]
 congr 3
 simp only [eqL,eq1,Bool.and_true,Prod.mk.injEq]
 by_cases h1 : a = c <;> by_cases h2 : b = d <;> simp [h1,h2]
theorem ssp_loop {h : Heap} {v u : AV} {l m : List Pr} (hv : Sl h 2 v (pts l)) (hu : Sl h 2 u (pts m)) (hl : l.length ≤ 9223372036854775807) (hm : l.length = m.length) (lo : Nat) (d : Nat) :
  ∀ k : Nat,d = l.length - k → k ≤ l.length → runC lib ⟨lo,h.length,0,none⟩ (.loop b25_0) ([(0,v),(1,u),(5,.int .i64 k)],h) = if l.drop k = m.drop k then some (.exit 0,([],h)) else some (.ret,([(4,.bool false)],h)) := by
 have lv := lenv_sl hv.len
 rw [pts_len] at lv
 induction d with
 | zero =>
  intro k hd hk
  have : k = l.length := by omega
  subst this
  rw [List.drop_length,hm,List.drop_length,if_pos rfl,← hm,w_loop]
  simp (maxSteps := 30000000) (disch := omega) only [go_sem,lv,Int.lt_irrefl]
 | succ d ih =>
  intro k hd hk
  have hk' : k < l.length := by omega
  have hkm : k < m.length := by omega
  have h1 : (k : Int) < l.length := by omega
  have e3 : sidx 2 v (.int .i64 k) = some k := by rw [sidx_sl hv (by omega) (by simp; omega)]; simp
  have e4 := fun off => pc_iptr (off := off) hv.elems0 (show k < (pts l).length by simp; omega)
  have f3 : sidx 2 u (.int .i64 k) = some k := by rw [sidx_sl hu (by omega) (by simp; omega)]; simp
  have f4 := fun off => pc_iptr (off := off) hu.elems0 (show k < (pts m).length by simp; omega)
  simp only [pts_get,pt] at e4 f4
  rw [List.drop_eq_getElem_cons hk',List.drop_eq_getElem_cons hkm]
  have e := ih (k + 1) (by omega) (by omega)
  rw [cast1] at e
  generalize l[k] = q at *
  generalize m[k] = r at *
  obtain ⟨q1,q2⟩ := q
  obtain ⟨r1,r2⟩ := r
  simp only at e4 f4
  have eq := eq_pt q1 q2 r1 r2
  rw [w_loop]
  by_cases hx : ((q1,q2) : Pr) = (r1,r2)
  ·have hx' : (((q1,q2) : Pr) = (r1,r2)) = True := eq_true hx
   rw [decide_eq_true hx] at eq
   simp only [List.cons.injEq,hx',true_and]
   simp (maxSteps := 30000000) (disch := omega) only [go_sem,lv,h1,e3,e4,f3,f4,eq,e]
  ·have hx' : (((q1,q2) : Pr) = (r1,r2)) = False := eq_false hx
   rw [decide_eq_false hx] at eq
   simp only [List.cons.injEq,hx',false_and,if_false]
   simp (maxSteps := 30000000) (disch := omega) only [go_sem,lv,h1,e3,e4,f3,f4,eq]
theorem ssp_run {h : Heap} {v u : AV} {l m : List Pr} (hv : Sl h 2 v (pts l)) (hu : Sl h 2 u (pts m)) (hl : l.length ≤ 9223372036854775807) (lo : Nat) : (run lib).fn 25 [v,u] h lo = some (.bool (decide (l = m)),h) := by
 have lv := lenv_sl hv.len
 have lu := lenv_sl hu.len
 rw [pts_len] at lv lu
 rw [run_closed (x := x25) rfl rfl rfl rfl]
 by_cases h1 : l.length = m.length
 ·have e := ssp_loop hv hu hl h1 h.length _ 0 rfl (by omega)
  simp only [Int.natCast_zero,List.drop_zero] at e
  have h2 : (l.length : Int) = m.length := by omega
  by_cases h3 : l = m
  ·rw [if_pos h3] at e
   rw [decide_eq_true h3]
   simp (maxSteps := 30000000) (disch := omega) only [go_sem,x25,lv,lu,h2,e]
  ·rw [if_neg h3] at e
   rw [decide_eq_false h3]
   simp (maxSteps := 30000000) (disch := omega) only [go_sem,x25,lv,lu,h2,e]
 ·have h2 : ¬ (l.length : Int) = m.length := by omega
  have h3 : ¬ l = m := fun hh => h1 (by rw [hh])
  rw [decide_eq_false h3]
  simp (maxSteps := 30000000) (disch := omega) only [go_sem,x25,lv,lu,h2]
theorem nil_air (x : LV) (h : Heap) (lo : Nat) : (run lib).fn 14 [.agg [.int .i64 x.l.L,.int .i64 x.l.D,.int .i64 x.l.E,pV x,.nilSl]] h lo = (run lib).fn 14 [.agg [.int .i64 x.l.L,.int .i64 x.l.D,.int .i64 x.l.E,pV x,.lst 0 []]] h lo := by
 rw [run_closed (x := x14) rfl rfl rfl rfl,run_closed (x := x14) rfl rfl rfl rfl]
 simp (maxSteps := 30000000) (disch := omega) only [go_sem,x14]
theorem nil_runs (x : LV) (h : Heap) (lo : Nat) : (run lib).fn 20 [.agg [.int .i64 x.l.L,.int .i64 x.l.D,.int .i64 x.l.E,pV x,.nilSl]] h lo = (run lib).fn 20 [.agg [.int .i64 x.l.L,.int .i64 x.l.D,.int .i64 x.l.E,pV x,.lst 0 []]] h lo := by
 rw [run_closed (x := x20) rfl rfl rfl rfl,run_closed (x := x20) rfl rfl rfl rfl]
 simp (maxSteps := 30000000) (disch := omega) only [go_sem,x20]
theorem nil_full (x : LV) (h : Heap) (lo : Nat) : (run lib).fn 18 [.agg [.int .i64 x.l.L,.int .i64 x.l.D,.int .i64 x.l.E,pV x,.nilSl]] h lo = (run lib).fn 18 [.agg [.int .i64 x.l.L,.int .i64 x.l.D,.int .i64 x.l.E,pV x,.lst 0 []]] h lo := by
 rw [run_closed (x := x18) rfl rfl rfl rfl,run_closed (x := x18) rfl rfl rfl rfl]
 simp (maxSteps := 30000000) (disch := omega) only [go_sem,x18]
theorem wh_loop {L D : Int} (hL : 1 ≤ L ∧ L ≤ 600) (hD : 0 ≤ D ∧ D ≤ 60) {E P C : AV} {R : AV} {A : List Int} (hA : (A.length : Int) = L + D) (hv : ∀ (k : Nat) (hk : k < A.length),A[k] = max ((k : Int) - D) (-1)) (h : Heap) : ∀ (d k : Nat),k + d = A.length →
  runC lib ⟨h.length,h.length,1,none⟩ (.loop b8_0) ([(9,.bool true),(10,.bptr (h.length + 0) 1 0),(11,.lst 1 (ints A)),(13,R),(17,.int .i64 k)],h ++ [(1,.box [.int .i64 L,.int .i64 D,E,P,C])]) =
   some (.exit 0,([(9,.bool true),(10,.bptr (h.length + 0) 1 0),(13,R)],h ++ [(1,.box [.int .i64 L,.int .i64 D,E,P,C])])) := by
 have sl := fun H => lst_sl H 1 (ints A)
 have ll := lenv_sl (sl h).len
 rw [ints_len] at ll
 intro d
 induction d with
 | zero =>
  intro k hk
  obtain rfl : k = A.length := by omega
  rw [w_loop]
  simp (maxSteps := 30000000) (disch := omega) only [go_sem,ll,Int.lt_irrefl]
 | succ d ih =>
  intro k hk
  have hk' : k < A.length := by omega
  have c : (k : Int) < A.length := by omega
  have e := ih (k + 1) (by omega)
  rw [cast1] at e
  have e3 : sidx 1 (.lst 1 (ints A)) (.int .i64 k) = some k := by rw [sidx_sl (sl h) (by omega) (by simp; omega)]; simp
  have e4 := fun off fr => pc_iptr (off := off) ((sl h).elems fr) (show k < (ints A).length by simp; omega)
  simp only [ints_get] at e4
  rw [hv k hk'] at e4
  rw [w_loop]
  simp (maxSteps := 30000000) (disch := omega) only [go_sem,ll,c,e3,e4,e]
theorem ok_nil {l : Liv} (ok : okLiv l) : okLiv { l with C := [] } := ⟨ok.L,ok.D,ok.E,ok.P,rfl,ok.p4,by simp,fun p _ => rfl⟩
set_option maxHeartbeats 1000000 in
theorem lwhole_run {h : Heap} (hs : ∀ lo,(run lib).fn 11 [] (h ++ [(0,.dead)]) lo = some (.bool true,h ++ [(0,.dead)])) {a b c : Int} (ha : I64 a) (hb : I64 b) (hc : I64 c) {v : AV} {d : List Tr} (hv : ∀ H,Sl H 3 v (tris d)) (hl : d.length ≤ 9223372036854775807) (hi : ∀ x ∈ d,I64 x.1 ∧ I64 x.2.1 ∧ I64 x.2.2) (lo : Nat) :
  (run lib).fn 8 [.int .i64 a,.int .i64 b,.int .i64 c,v] h lo = some (.bool true,h) := by
 have md := fun H lo => made_run ha hb hc (hv H) hl hi lo
 have ok0 := made_ok a b c d
 generalize madeLiv a b c d = l0 at *
 have ok := ok_nil ok0
 have o := lvOf_ok ok
 obtain ⟨l,hl'⟩ : ∃ l : Liv,l = { l0 with C := [] } := ⟨_,rfl⟩
 rw [← hl'] at ok o
 have hL : l0.L = l.L := by rw [hl']
 have hD : l0.D = l.D := by rw [hl']
 have hE : l0.E = l.E := by rw [hl']
 have hP : pV (lvOf l0) = pV (lvOf l) := by rw [hl']; rfl
 have hC : l.C = [] := by rw [hl']
 have hcv : cV (lvOf l) = .lst 0 [] := by rw [lvOf_cV,hC]; rfl
 have oL := ok.L
 have oD := ok.D
 obtain ⟨xs,e,ch⟩ := ch_ex ok.E.1 l.L.toNat 0 l.D (by omega) (by omega) oD.1
 obtain ⟨h1,h2⟩ := ch.whole ok.E.1 hC rfl
 rw [Int.sub_zero] at h1
 subst h2
 have ar := fun H lo => dair_run o ok (x := lvOf l) ch H lo
 have rr := fun H lo => druns_run o ok (x := lvOf l) H lo
 have fr := fun H lo => dfull_run o ok (x := lvOf l) ch H lo
 have na := fun H lo => nil_air (lvOf l) H lo
 have nr := fun H lo => nil_runs (lvOf l) H lo
 have nf := fun H lo => nil_full (lvOf l) H lo
 unfold lvV at ar rr fr
 have hr : runsL l = [(0,l.L)] := by
  unfold runsL
  rw [hC,runsF,if_pos (by omega)]
 have hf : fulL l xs = [] := by unfold fulL; rw [hC]; rfl
 simp only [hcv,lvOf_l,hr,hf] at ar rr fr
 simp only [lvOf_l,ar,rr,fr] at na nr nf
 clear ar rr fr
 have hA : airL l xs = List.replicate l.D.toNat (-1) ++ rng 0 l.L.toNat := by unfold airL; rw [h1]
 have hAl : ((airL l xs).length : Int) = l.L + l.D := by rw [hA,List.length_append,List.length_replicate,rng_len]; omega
 have hAv : ∀ (k : Nat) (hk : k < (airL l xs).length),(airL l xs)[k] = max ((k : Int) - l.D) (-1) := by
  intro k hk
  have : (airL l xs)[k]? = some (max ((k : Int) - l.D) (-1)) := by
   rw [hA]
   by_cases c : k < l.D.toNat
   ·rw [List.getElem?_append_left (by rw [List.length_replicate]; exact c),List.getElem?_replicate,if_pos c]
    congr 1; omega
   ·rw [List.getElem?_append_right (by rw [List.length_replicate]; omega),List.length_replicate,List.getElem?_eq_getElem (by rw [rng_len]; omega),rng_get]
    congr 1; omega
  rw [List.getElem?_eq_getElem hk,Option.some.injEq] at this
  exact this
 generalize airL l xs = A at *
 have e1 := wh_loop oL oD (E := .int .i64 l.E) (P := pV (lvOf l)) (C := .nilSl) (R := lstV 2 (pts [(0,l.L)])) hAl hAv h A.length 0 (by omega)
 have la := lenv_sl (lst_sl h 1 (ints A)).len
 rw [ints_len] at la
 have lf := lenv_sl (show Sl h 1 (weak1 (mkO (ints []))) [] from Sl.lsf h 1 []).len
 have ss : ∀ H lo,(run lib).fn 25 [lstV 2 (pts [(0,l.L)]),.lsf 2 [.agg [.int .i64 0,.int .i64 l.L]]] H lo = some (.bool true,H) := fun H lo =>
  (ssp_run (lstV_sl 2 (pts [(0,l.L)]) H) (show Sl H 2 (.lsf 2 [.agg [.int .i64 0,.int .i64 l.L]]) (pts [(0,l.L)]) from Sl.lsf H 2 _) (by simp) lo).trans (by rw [decide_eq_true rfl])
 obtain ⟨w1,w2⟩ := Sl_val (hv h)
 rw [← lvOf_V] at md
 unfold lvV at md
 simp only [lvOf_l,hL,hD,hE,hP] at md
 simp only [Int.natCast_zero] at e1
 rw [run_closed (x := x8) rfl rfl rfl rfl]
 simp (maxSteps := 30000000) (disch := omega) only [go_sem,x8,hs,md,na,nr,nf,la,hAl,lf,e1,ss,w1,w2,lst_cells,lst_val]
theorem walkWhole (xs : List AV) (ht : TyA shMade xs) : ∃ h',(run lib).fn 8 xs [] 0 = some (.bool true,h') :=
 walk_made (fun ha hb hc _ _ hv hl hi => lwhole_run (h := []) sane_at ha hb hc hv hl hi 0) xs ht
end Go.VI.Dump
