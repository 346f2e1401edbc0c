/- Every operation; lists of operations; regions that draw their order. -/
import Derived.Test.YtfpoegnmeoghpaaGreatDoorVISB
set_option linter.unusedVariables false
set_option linter.unusedSimpArgs false
namespace Go.VI
set_option linter.unusedSectionVars false
variable [Globs] [Rounds]
section
variable {w : World} {m : Map} {h : Heap} {P : Program} {env : Env} {a : Act} {o : Oper} {X : Nat → Prop} {clo : Nat → Bool} {call : Callee} {cx : Cx}
def Then (lo : Nat) (w : World) (m : Map) (h : Heap) (v : AV) (h' : Heap) (K : Value → World → Prop) : Prop :=
 ∀ u w' m',Step lo w m h w' m' h' → Inv w' m' h' → R w' (Live m' h') m' h' v u → K u w'
theorem okXI_defer {x : XI} (hk : okXI P o x = true) : ∀ c,o.op ≠ .defer c := by
 intro c hc
 cases x <;> simp [okXI,hc] at hk
theorem owp_value {ro : Option Nat} {u : Value} {w' : World} {K : Act → World → Prop} {Q : Exit → Act → World → Prop} (hd : ∀ c,o.op ≠ .defer c) (h : (execOp a.eval o).run P w = .ok (.value u) w') (hK : K (a.put o.dst u) w') : o.wpIn (fen ro) 0 P a w K Q :=
 ⟨fun _ _ => trivial,by rw [Oper.semAt_eq _ _ _ hd,h]; exact hK⟩
theorem owp_skip {ro : Option Nat} {w' : World} {K : Act → World → Prop} {Q : Exit → Act → World → Prop} (hd : ∀ c,o.op ≠ .defer c) (h : (execOp a.eval o).run P w = .ok .skip w') (hK : K (a.put o.dst undef) w') : o.wpIn (fen ro) 0 P a w K Q :=
 ⟨fun _ _ => trivial,by rw [Oper.semAt_eq _ _ _ hd,h]; exact hK⟩
theorem Reads.wp {ro : Option Nat} {v : AV} {lo : Nat} {K : Act → World → Prop} {Q : Exit → Act → World → Prop} (hr : Reads P w m h a o v) (hd : ∀ c,o.op ≠ .defer c) (hi : Inv w m h) (hK : Then lo w m h v h fun u w' => K (a.put o.dst u) w') : o.wpIn (fen ro) 0 P a w K Q := by
 obtain ⟨u,h1,h2⟩ := hr
 exact owp_value hd h1 (hK u w m (Step.refl _ _ _ _) hi h2)
theorem Made.wp {ro : Option Nat} {v : AV} {h' : Heap} {K : Act → World → Prop} {Q : Exit → Act → World → Prop} (hr : ∃ u w' m',(execOp a.eval o).run P w = .ok (.value u) w' ∧ Step cx.lo w m h w' m' h' ∧ Inv w' m' h' ∧ R w' (Live m' h') m' h' v u) (hd : ∀ c,o.op ≠ .defer c)
  (hK : Then cx.lo w m h v h' fun u w' => K (a.put o.dst u) w') : o.wpIn (fen ro) 0 P a w K Q := by
 obtain ⟨u,w',m',h1,h2,h3,h4⟩ := hr
 exact owp_value hd h1 (hK u w' m' h2 h3 h4)
theorem yield_wp {ro : Option Nat} (hc : CallOk P clo call) (hi : Inv w m h) {id ver : Nat} {args : List AV} {v : AV} {h' : Heap} {vs : List Value} {u0 : Value} (hx : yieldv call cx id ver args h = some (v,h')) (hu : R w (Live m h) m h (.yld id ver) u0) (ra : RL w (Live m h) m h args vs)
  (hd : ∀ c,o.op ≠ .defer c) (hrun : ∀ l r,u0 = .func (.yield l) #[] #[] → w.heap[l]? = some (.loop r) → r.params.size = vs.length → (execOp a.eval o).run P w = .ok (.round l r.fn (rndTmps r vs) r.assign r.body) w)
  {K : Act → World → Prop} {Q : Exit → Act → World → Prop} (hK : Then cx.lo w m h v h' fun u w' => K (a.put o.dst u) w') : o.wpIn (fen ro) 0 P a w K Q := by
 unfold yieldv at hx
 split at hx
 ·rename_i v0 d hid
  split at hx
  ·rename_i hcond
   obtain ⟨rfl,hlo,hlo2,_,hcl⟩ := hcond
   simp only [mE,Prod.mk.injEq] at hx
   obtain ⟨⟨e,h1⟩,hrd,rfl,rfl⟩ := hx
   simp only [R] at hu
   obtain ⟨kn,l,hu,v1,blk1,q1,q2,q3⟩ := hu
   rw [hid] at q1
   cases q1
   obtain ⟨hkn,hml⟩ := q3 rfl d .ready rfl
   simp only [RS.knd] at hkn
   subst hkn
   subst hu
   obtain ⟨b,ob,e1,e2,e3⟩ := hi.rcd id _ d .ready hid
   rw [hml] at e1
   cases e1
   have e3' := e3
   obtain ⟨r,rfl,_⟩ := e3'
   obtain ⟨hps,hround⟩ := hc.rnd hrd hi hid hlo2 hml e2 e3 ra
   refine ⟨fun _ _ => trivial, ?_⟩
   rw [Oper.semAt_eq _ _ _ hd,hrun l r rfl e2 hps,Oper.uponIn_round]
   refine ⟨fun h => by simp [Fence.wide] at h, ?_⟩
   have hround' : RoundIn (fen ro) (0 - 1) P l r.fn (rndTmps r vs) r.assign r.body w fun e' w' => ∃ m',e' = .returned (.bool (e == .norm)) ∧ Step d.lo w m h w' m' h1 ∧ Inv w' m' h1 := hround
   refine hround'.mono ?_
   rintro e' w' ⟨m',rfl,hs,hinv⟩
   exact hK _ w' m' (hs.mono hlo) hinv (by simp [R,RC])
  ·cases hx
 ·cases hx
def mvV (g : Nat) (xs vs : List Value) : List Value := if g < 1000 then xs ++ vs else vs ++ xs
theorem mvA_RL {X : Nat → Prop} {g : Nat} {bs cs : List AV} {xs vs : List Value} (h1 : RL w X m h bs xs) (h2 : RL w X m h cs vs) : RL w X m h (mvA g bs cs) (mvV g xs vs) := by
 unfold mvA mvV
 split
 ·exact RL_append h1 h2
 ·exact RL_append h2 h1
theorem appw_ok {cx : Cx} (hi : Inv w m h) (he : Renv w m h env a) {s z lim : Nat} {x y : Opd} {xs : List AV} {v : AV} {h' : Heap} (hk : okXI P o (.app s z lim x y) = true)
  (hy : appSrc h z (y.ev env) = some xs) (hv : appw cx s z lim (x.ev env) xs h = some (v,h')) (hlo : cx.lo ≤ cx.base) :
  ∃ u w' m',(execOp a.eval o).run P w = .ok (.value u) w' ∧ Step cx.lo w m h w' m' h' ∧ Inv w' m' h' ∧ R w' (Live m' h') m' h' v u := by
 unfold appw at hv
 split at hv
 ·exact app_ok hi he hk hy hv hlo
 ·obtain ⟨⟨v1,h1⟩,h2,h3⟩ := bE.mp hv
  have hk' : okXI P o (.app (s - 1000) z lim x y) = true := by simpa only [okXI] using hk
  obtain ⟨u,w',m',e1,e2,e3,e4⟩ := app_ok hi he hk' hy h2 hlo
  obtain ⟨s2,i2,r2⟩ := frz_ok hlo _ _ _ _ _ e3 e4 h3
  exact ⟨u,w',m',e1,e2.trans s2,i2,R.of_RC _ _ r2⟩
theorem call_wp {ro : Option Nat} (hc : CallOk P clo call) (hi : Inv w m h) (he : Renv w m h env a) (hlo : cx.lo ≤ cx.base) (hb : cx.base ≤ h.length) {f : Opd} {args : List Opd} {own : List (Nat × Nat)} {v : AV} {h' : Heap}
  (hk : okXI P o (.call f args own) = true) (hx : xi call cx env h (.call f args own) = some (v,h')) {K : Act → World → Prop} {Q : Exit → Act → World → Prop} (hK : Then cx.lo w m h v h' fun u w' => K (a.put o.dst u) w') : o.wpIn (fen ro) 0 P a w K Q := by
 have hd := okXI_defer hk
 simp only [okXI] at hk
 split at hk
 ·rename_i g as ts hop
  simp only [Bool.and_eq_true] at hk
  obtain ⟨k1,k2⟩ := hk
  have rf := okOpd_R he k1
  have ra := okOpds_RL he k2
  simp only [xi] at hx
  split at hx
  ·rename_i fid caps hf
   rw [hf] at rf
   simp only [R] at rf
   obtain ⟨vs,ef,rc⟩ := rf
   obtain ⟨⟨r,h1⟩,hcall,hx2⟩ := bE.mp hx
   clear hx
   have hx := hx2
   clear hx2
   dsimp only at hx
   obtain ⟨⟨fn,hfn,hname,hbody⟩,hdoes⟩ := hc.does hcall
   have hcalls := hdoes w m (mvV fid (as.toList.map a.eval) vs) hi (mvA_RL ra rc) (by omega)
   have hrun : (execOp a.eval o).run P w = .ok (.enter (mvF fid) (mvV fid (as.toList.map a.eval) vs).toArray) w := by
    have hb' : fn.body.isNone = false := by cases hfb : fn.body <;> simp_all
    by_cases hg : fid < 1000
    ·have harr : as.map a.eval ++ vs.toArray = (as.toList.map a.eval ++ vs).toArray := by
      apply Array.ext'
      simp
     have e1 : mvF fid = fid := by unfold mvF; rw [if_pos hg]
     have e2 : mvV fid (as.toList.map a.eval) vs = as.toList.map a.eval ++ vs := by unfold mvV; rw [if_pos hg]
     have ef' : a.eval g = .func (.func fid) #[] vs.toArray := by rw [ef]; unfold fnV; rw [if_pos hg]
     rw [e1] at hfn ⊢
     rw [e2]
     simp only [execOp,hop,resolve,Deferred.ofValue,ef',invoke,callFunc,Sem.run_bind,Sem.run_pure,Result.andThen_ok,run_program,hfn]
     simp [hname,hb',harr]
    ·have harr : vs.toArray ++ as.map a.eval = (vs ++ as.toList.map a.eval).toArray := by
      apply Array.ext'
      simp
     have e1 : mvF fid = fid - 1000 := by unfold mvF; rw [if_neg hg]
     have e2 : mvV fid (as.toList.map a.eval) vs = vs ++ as.toList.map a.eval := by unfold mvV; rw [if_neg hg]
     have ef' : a.eval g = .func (.func (fid - 1000)) vs.toArray #[] := by rw [ef]; unfold fnV; rw [if_neg hg]
     rw [e1] at hfn ⊢
     rw [e2]
     generalize fid - 1000 = fid' at *
     simp only [execOp,hop,resolve,Deferred.ofValue,ef',invoke,callFunc,Sem.run_bind,Sem.run_pure,Result.andThen_ok,run_program,hfn]
     simp [hname,hb',harr]
   refine ⟨fun _ _ => trivial, ?_⟩
   rw [Oper.semAt_eq _ _ _ hd,hrun,Oper.uponIn_enter]
   refine ⟨fun h => by simp [Fence.wide] at h, ?_⟩
   have hcalls' : CallsIn (fen ro) (0 - 1) P (mvF fid) (mvV fid (as.toList.map a.eval) vs).toArray w _ := callsIn_wide.mpr hcalls
   refine hcalls'.mono fun e w' hR => ?_
   obtain ⟨u,m',rfl,hs,hinv,hres⟩ := hR
   show K (a.put o.dst u) w'
   split at hx
   ·-- nothing is taken over
    simp only [Option.some.injEq,Prod.mk.injEq] at hx
    obtain ⟨rfl,rfl⟩ := hx
    exact hK u w' m' hs hinv hres.weak
   ·rename_i hne
    obtain ⟨B,hn,hB,hix,hg⟩ := hres
    have hclosed : ∀ {vv : AV} {h2 : Heap},(∃ us cs cs',GiveL w' (fun b => Live m' h1 b ∨ b ∈ B) m' h1 B cs us ∧ takeOver cx own cs h1 = some (cs',h2) ∧
      ∀ m2,RL w' (Live m2 h2) m2 h2 (cs'.map weak1) us → R w' (Live m2 h2) m2 h2 vv u) → h' = h2 → v = vv → K (a.put o.dst u) w' := by
     rintro vv h2 ⟨us,cs,cs',hg,ht,hfin⟩ rfl rfl
     have hover : Over cx.lo w m h w' (fun b => Live m' h1 b ∨ b ∈ B) m' h1 := ⟨hs,hinv.len,hix.blk,hix.rcd,hinv.inj,fun b hb => .inl hb⟩
     obtain ⟨m2,B',ho2,hB',hg'⟩ := takeOver_ok (lo := cx.lo) hlo own B cs cs' us m' h1 h' hover hn (fun b hb => ⟨(hB b hb).1,(hB b hb).2,.inr hb⟩) hg ht
     exact hK u w' m2 ho2.step (ho2.inv hi.glob) (hfin m2 (GiveL.weak ho2.sub hB' hg'))
    split at hx
    ·rename_i cs
     obtain ⟨⟨cs',h2⟩,ht,hx⟩ := mE.mp hx
     simp only [Prod.mk.injEq] at hx
     obtain ⟨rfl,rfl⟩ := hx
     simp only [GiveV] at hg
     obtain ⟨us,rfl,hg⟩ := hg
     refine hclosed ⟨us,cs,cs',hg,ht,fun m2 hl => ?_⟩ rfl rfl
     simp only [weak,R]
     exact ⟨us,rfl,hl⟩
    ·rename_i hnt
     obtain ⟨⟨cs',h2⟩,ht,hx⟩ := bE.mp hx
     simp only [mE,Prod.mk.injEq] at hx
     obtain ⟨v',hv',rfl,rfl⟩ := hx
     have hg1 : GiveR w' (fun b => Live m' h1 b ∨ b ∈ B) m' h1 B r u := by
      unfold GiveV at hg
      split at hg
      ·exact absurd rfl (hnt _)
      ·exact hg
     refine hclosed ⟨[u],[r],cs', ?_,ht,fun m2 hl => ?_⟩ rfl rfl
     ·simp only [GiveL]
      exact ⟨B,[],u,[],by simp,rfl,hg1,rfl,rfl⟩
     ·cases cs' with
      | nil => simp at hv'
      | cons q qs =>
       simp at hv'
       subst hv'
       simp only [List.map_cons,RL] at hl
       obtain ⟨u',us',e,hr,_⟩ := hl
       cases e
       cases q with
       | tuple cs => simp only [weak1] at hr; exact R_weak hr
       | _ => exact hr
  ·rename_i id ver hf
   split at hx
   ·rename_i hown
    rw [hf] at rf
    refine yield_wp (vs := as.toList.map a.eval) (u0 := a.eval g) hc hi hx rf ra hd (fun l r hl hlp hps => ?_) hK
    have harr : as.map a.eval = (as.toList.map a.eval).toArray := by
     apply Array.ext'
     simp
    simp only [List.length_map,Array.length_toList] at hps
    have hy := run_yield (P := P) (args := (as.toList.map a.eval).toArray) hlp (by simp [hps])
    simp only [execOp,hop,resolve,Deferred.ofValue,hl,invoke,callFunc,Sem.run_bind,Sem.run_pure,Result.andThen_ok]
    rw [harr]
    simpa [rndTmps] using hy
   ·cases hx
  ·cases hx
 ·cases hk
theorem enter_wp {ro : Option Nat} {f : FuncId} {vs : List Value} {lo : Nat} {v : AV} {h' : Heap} (hd : ∀ c, o.op ≠ .defer c) (hen : Enters P f) (hrun : ∀ fn, P.funcs[f]? = some fn → fn.name ≠ "runtime.NumGoroutine" → fn.body.isSome = true → (execOp a.eval o).run P w = .ok (.enter f vs.toArray) w)
  (hc : Calls P f vs.toArray w fun e w' => ∃ u m',e = .returned u ∧ Step lo w m h w' m' h' ∧ Inv w' m' h' ∧ R w' (Live m' h') m' h' v u) {K : Act → World → Prop} {Q : Exit → Act → World → Prop} (hK : Then lo w m h v h' fun u w' => K (a.put o.dst u) w') : o.wpIn (fen ro) 0 P a w K Q := by
 obtain ⟨fn,h1,h2,h3⟩ := hen
 refine ⟨fun _ _ => trivial, ?_⟩
 rw [Oper.semAt_eq _ _ _ hd,hrun fn h1 h2 h3,Oper.uponIn_enter]
 refine ⟨fun h => by simp [Fence.wide] at h, ?_⟩
 have hcalls' : CallsIn (fen ro) (0 - 1) P f vs.toArray w _ := callsIn_wide.mpr hc
 refine hcalls'.mono fun e w' hR => ?_
 obtain ⟨u,m',rfl,hs,hinv,hres⟩ := hR
 exact hK u w' m' hs hinv hres
theorem xi_wp {ro : Option Nat} (hc : CallOk P clo call) (hi : Inv w m h) (he : Renv w m h env a) (hlo : cx.lo ≤ cx.base) (hb : cx.base ≤ h.length) {x : XI} {v : AV} {h' : Heap}
  (hk : okXI P o x = true) (hx : xi call cx env h x = some (v,h')) {K : Act → World → Prop} {Q : Exit → Act → World → Prop} (hK : Then cx.lo w m h v h' fun u w' => K (a.put o.dst u) w') : o.wpIn (fen ro) 0 P a w K Q := by
 have hd := okXI_defer hk
 cases x with
 | mov x =>
  simp only [xi,Option.some.injEq,Prod.mk.injEq] at hx
  obtain ⟨rfl,rfl⟩ := hx
  exact (mov_ok he hk).wp hd hi hK
 | isnil neg x =>
  simp only [xi,mE,Prod.mk.injEq] at hx
  obtain ⟨v',hv,rfl,rfl⟩ := hx
  exact (isnil_ok he hk hv).wp hd hi hK
 | nchk x =>
  simp only [xi,mE,Prod.mk.injEq] at hx
  obtain ⟨v',hv,rfl,rfl⟩ := hx
  exact (nchk_ok he hk hv).wp hd hi hK
 | pick c x y =>
  simp only [xi,mE,Prod.mk.injEq] at hx
  obtain ⟨r,hv,rfl,rfl⟩ := hx
  exact (pick_ok he hk hv).wp hd hi hK
 | bin op x y =>
  simp only [xi,mE,Prod.mk.injEq] at hx
  obtain ⟨r,hv,rfl,rfl⟩ := hx
  exact (bin_ok he hk hv).wp hd hi hK
 | un op x =>
  simp only [xi,mE,Prod.mk.injEq] at hx
  obtain ⟨r,hv,rfl,rfl⟩ := hx
  exact (un_ok he hk hv).wp hd hi hK
 | conv k x =>
  simp only [xi,mE,Prod.mk.injEq] at hx
  obtain ⟨r,hv,rfl,rfl⟩ := hx
  exact (conv_ok he hk hv).wp hd hi hK
 | eqv neg ks x y =>
  simp only [xi,mE,Prod.mk.injEq] at hx
  obtain ⟨r,hv,rfl,rfl⟩ := hx
  exact (eqv_ok he hk hv).wp hd hi hK
 | len s x =>
  simp only [xi,mE,Prod.mk.injEq] at hx
  obtain ⟨r,hv,rfl,rfl⟩ := hx
  exact (len_ok he hk hv).wp hd hi hK
 | lenA n x =>
  simp only [xi,Option.some.injEq,Prod.mk.injEq] at hx
  obtain ⟨rfl,rfl⟩ := hx
  exact (lenA_ok hk).wp hd hi hK
 | minmax mx xs =>
  simp only [xi,mE,Prod.mk.injEq] at hx
  obtain ⟨r,hv,rfl,rfl⟩ := hx
  exact (minmax_ok he hk hv).wp hd hi hK
 | ext x i =>
  simp only [xi,mE,Prod.mk.injEq] at hx
  obtain ⟨r,hv,rfl,rfl⟩ := hx
  exact (ext_ok he hk hv).wp hd hi hK
 | build zero parts =>
  simp only [xi,mE,Prod.mk.injEq] at hx
  obtain ⟨r,hv,rfl,rfl⟩ := hx
  exact (build_ok he hk hv).wp hd hi hK
 | bslice z zero n parts =>
  simp only [xi,mE,Prod.mk.injEq] at hx
  obtain ⟨⟨es,h1⟩,hv,rfl,rfl⟩ := hx
  exact Made.wp (bslice_ok hi he hk hv hlo) hd hK
 | padd x k =>
  simp only [xi,mE,Prod.mk.injEq] at hx
  obtain ⟨r,hv,rfl,rfl⟩ := hx
  exact (padd_ok he hk hv).wp hd hi hK
 | ixA n size x i =>
  simp only [xi,bE,mE,Prod.mk.injEq] at hx
  obtain ⟨j,hj,r,hv,rfl,rfl⟩ := hx
  exact (ixA_ok he hk hj hv).wp hd hi hK
 | ixS z x i =>
  simp only [xi] at hx
  split at hx
  ·rename_i hz
   simp only [bE,mE,Prod.mk.injEq] at hx
   obtain ⟨n,hn,j,hj,rfl,rfl⟩ := hx
   exact (ixS_ok hi he hk hz hn hj).wp hd hi hK
  ·cases hx
 | fld x off sh =>
  simp only [xi] at hx
  split at hx
  ·rename_i cs hcs
   simp only [mE,Prod.mk.injEq] at hx
   obtain ⟨r,hv,rfl,rfl⟩ := hx
   exact (fld_ok he hk hcs hv).wp hd hi hK
  ·cases hx
 | ixV n size sh x i =>
  simp only [xi] at hx
  split at hx
  ·rename_i cs hcs
   simp only [bE,mE,Prod.mk.injEq] at hx
   obtain ⟨j,hj,r,hv,rfl,rfl⟩ := hx
   exact (ixV_ok he hk hcs hj hv).wp hd hi hK
  ·cases hx
 | ixStr x i =>
  simp only [xi] at hx
  split at hx
  ·rename_i l hl
   simp only [bE,mE,Prod.mk.injEq] at hx
   obtain ⟨j,hj,b,hb',rfl,rfl⟩ := hx
   exact (ixStr_ok he hk hl hj hb').wp hd hi hK
  ·cases hx
 | slice z x lo hi' =>
  simp only [xi,mE,Prod.mk.injEq] at hx
  obtain ⟨r,hv,rfl,rfl⟩ := hx
  cases z with
  | none =>
   simp only [slicev] at hv
   split at hv
   ·rename_i l hl
    simp only [bE,mE] at hv
    obtain ⟨b,hb',l',hl',rfl⟩ := hv
    exact (slice_str_ok he hk hl hb' hl').wp hd hi hK
   ·cases hv
  | some z => exact (slice_ok hi he hk hv).wp hd hi hK
 | load sh x =>
  simp only [xi,bE,mE,Prod.mk.injEq] at hx
  obtain ⟨cs,hcs,r,hv,rfl,rfl⟩ := hx
  exact (load_ok hi he hk hcs hv).wp hd hi hK
 | store sz x v' =>
  simp only [xi,mE,Prod.mk.injEq] at hx
  obtain ⟨h1,hp,rfl,rfl⟩ := hx
  obtain ⟨w',m',h1,h2,h3⟩ := store_ok hi he hk hp hlo
  exact owp_skip hd h1 (hK undef w' m' h2 h3 (by simp [R]))
 | alloc s zero =>
  simp only [xi,mE,Prod.mk.injEq] at hx
  obtain ⟨⟨ver,h1⟩,hm,rfl,rfl⟩ := hx
  exact Made.wp (alloc_ok hi hk hm hlo) hd hK
 | box s x =>
  simp only [xi] at hx
  split at hx
  ·rename_i hv
   simp only [mE,Prod.mk.injEq] at hx
   obtain ⟨⟨ver,h1⟩,hm,rfl,rfl⟩ := hx
   exact Made.wp (box_ok hi he hk hv hm hlo) hd hK
  ·cases hx
 | boxR x =>
  simp only [xi] at hx
  split at hx
  ·rename_i hv
   simp only [mE,Prod.mk.injEq] at hx
   obtain ⟨⟨v',h1⟩,hf,rfl,rfl⟩ := hx
   exact Made.wp (boxR_ok hi he hk hv hf hlo) hd hK
  ·cases hx
 | mk s z zero lim n c =>
  simp only [xi] at hx
  split at hx
  ·rename_i kn p kc q hn hc'
   split at hx
   ·rename_i hz
    simp only [Option.some.injEq,Prod.mk.injEq] at hx
    obtain ⟨rfl,rfl⟩ := hx
    obtain ⟨_,rfl,rfl⟩ := hz
    exact Made.wp (mk0_ok hi he hk hn hc') hd hK
   split at hx
   ·rename_i hcond
    simp only [mE,Prod.mk.injEq] at hx
    obtain ⟨⟨ver,h1⟩,hm,rfl,rfl⟩ := hx
    exact Made.wp (mk_ok (s := sOf s) hi he hk hn hc' hcond.1 hcond.2.1 hcond.2.2 hm hlo) hd hK
   ·cases hx
  ·cases hx
 | app s z lim x y =>
  simp only [xi,bE] at hx
  obtain ⟨xs,hy,hv⟩ := hx
  exact Made.wp (appw_ok hi he hk hy hv hlo) hd hK
 | copy z x y =>
  simp only [xi,bE] at hx
  obtain ⟨ys,hy,hv⟩ := hx
  exact Made.wp (copy_ok hi he hk hy hv) hd hK
 | apz s z zero lim x y =>
  simp only [xi] at hx
  split at hx
  ·rename_i kn n hy
   split at hx
   ·rename_i hc
    exact Made.wp (apz_ok hi he hk hy hc.1 hc.2 hx hlo) hd hK
   ·cases hx
  ·cases hx
 | pnc x => simp [xi] at hx
 | clr z zero x =>
  simp only [xi,bE,mE,Prod.mk.injEq] at hx
  obtain ⟨n,hn,⟨v1,h1⟩,hv,rfl,rfl⟩ := hx
  obtain ⟨w',h1,h2,h3⟩ := clr_ok hi he hk hn hv
  exact owp_value hd h1 (hK _ w' m h2 h3 (by simp only [R]; exact ⟨[],rfl,rfl⟩))
 | mkfn f caps =>
  simp only [xi,Option.some.injEq,Prod.mk.injEq] at hx
  obtain ⟨rfl,rfl⟩ := hx
  refine Reads.wp ?_ hd hi hK
  simp only [okXI] at hk
  split at hk
  ·rename_i g cs hop
   simp only [Bool.and_eq_true,beq_iff_eq,decide_eq_true_eq] at hk
   obtain ⟨⟨rfl,hlt⟩,hk⟩ := hk
   have ra := okOpds_RL he hk
   refine ⟨.func (.func f) #[] (cs.toList.map a.eval).toArray, ?_, ?_⟩
   ·have harr : cs.map a.eval = (cs.toList.map a.eval).toArray := by rw [← Array.toList_map,Array.toArray_toList]
    have hnil : Array.map a.eval (⟨[]⟩ : Array Operand) = #[] := by simp
    simp only [execOp,hop,Instr.makeFunc,Sem.run_bind,Sem.run_pure,Result.andThen_ok,harr,hnil]
   ·simp only [R]; exact ⟨_,(if_pos hlt).symm,ra⟩
  ·rename_i g cs _ hop
   simp only [Bool.and_eq_true,beq_iff_eq] at hk
   obtain ⟨rfl,hk⟩ := hk
   have ra := okOpds_RL he hk
   refine ⟨.func (.func g) (cs.toList.map a.eval).toArray #[], ?_, ?_⟩
   ·have harr : cs.map a.eval = (cs.toList.map a.eval).toArray := by rw [← Array.toList_map,Array.toArray_toList]
    have hnil : Array.map a.eval (⟨[]⟩ : Array Operand) = #[] := by simp
    simp only [execOp,hop,Instr.makeFunc,Sem.run_bind,Sem.run_pure,Result.andThen_ok,harr,hnil]
   ·simp only [R]
    refine ⟨_, ?_,ra⟩
    unfold fnV
    rw [if_neg (by omega),Nat.add_sub_cancel]
  ·cases hk
 | call f args own => exact call_wp hc hi he hlo hb hk hx hK
 | isnif neg x =>
  simp only [xi,mE,Prod.mk.injEq] at hx
  obtain ⟨v',hv,rfl,rfl⟩ := hx
  exact (isnif_ok he hk hv).wp hd hi hK
 | mkif t x =>
  simp only [xi] at hx
  split at hx
  ·simp only [Option.some.injEq,Prod.mk.injEq] at hx
   obtain ⟨rfl,rfl⟩ := hx
   exact (mkif_ok he hk).wp hd hi hK
  ·cases hx
 | toStr x =>
  simp only [xi,bE,mE,Prod.mk.injEq] at hx
  obtain ⟨es,h1,l,h2,rfl,rfl⟩ := hx
  exact (toStr_ok hi he hk h1 h2).wp hd hi hK
 | mget zero ok x k =>
  simp only [xi,mE,Prod.mk.injEq] at hx
  obtain ⟨v',hv,rfl,rfl⟩ := hx
  exact (mget_ok hi he hk hv).wp hd hi hK
 | mput x k v' =>
  simp only [xi] at hx
  split at hx
  ·rename_i hc
   simp only [mE,Prod.mk.injEq] at hx
   obtain ⟨h1,hp,rfl,rfl⟩ := hx
   obtain ⟨w',h1,h2,h3⟩ := mput_ok hi he hk hc.1 hp
   exact owp_skip hd h1 (hK undef w' m h2 h3 (by simp [R]))
  ·cases hx
 | mdel x k =>
  simp only [xi,mE,Prod.mk.injEq] at hx
  obtain ⟨h1,hp,rfl,rfl⟩ := hx
  obtain ⟨w',h1,h2,h3⟩ := mdel_ok hi he hk hp
  exact owp_value hd h1 (hK _ w' m h2 h3 (by simp only [R]; exact ⟨[],rfl,rfl⟩))
 | mkmap s k =>
  simp only [xi,mE,Prod.mk.injEq] at hx
  obtain ⟨⟨ver,h1⟩,hm,rfl,rfl⟩ := hx
  exact Made.wp (mkmap_ok hi hk hm hlo) hd hK
 | mkbld s =>
  simp only [xi,mE,Prod.mk.injEq] at hx
  obtain ⟨⟨ver,h1⟩,hm,rfl,rfl⟩ := hx
  exact Made.wp (mkbld_ok hi hk hm hlo) hd hK
 | bwr s f x y =>
  simp only [xi] at hx
  obtain ⟨vs,hen,hrun,hcall⟩ := bwr_run hi he hk hx hlo hc.wr
  exact enter_wp hd hen hrun hcall hK
 | bstr f x =>
  simp only [xi,mE,Prod.mk.injEq] at hx
  obtain ⟨v',hv,rfl,rfl⟩ := hx
  obtain ⟨vs,hen,hrun,hcall⟩ := bstr_run hi he hk hv hc.bs
  exact enter_wp hd hen hrun hcall hK
end
end Go.VI
