/- Every operation; lists of operations; regions that draw their order. -/
import Derived.Test.YtfpoegnmeoghpaaGreatDoorVISB
set_option linter.unusedVariables false
set_option linter.unusedSimpArgs false
namespace Go.VI
set_option linter.unusedSectionVars false
variable [bJ][Rounds]
section
variable {w:World}{m:Map}{h:Heap}{P:Program}{env:Env}{a:Act}{o:Oper}{X:Nat->Prop}{aQ:Nat->Bool}{call:Callee}{cx:Cx}
def Then(lo:Nat)(w:World)(m:Map)(h:Heap)(v:AV)(h':Heap)(K:Value->World->Prop):Prop :=
 ∀ u w' m',Step lo w m h w' m' h'->Inv w' m' h'->R w' (Live m' h') m' h' v u->K u w'
theorem Ra{x:XI}(hk:bW P o x=true):∀ c,o.op≠.defer c:=by
 intro c hc;cases x<;>simp[bW,hc]at hk
theorem Rb{ro:Option Nat}{u:Value}{w':World}{K:Act->World->Prop}{Q:Exit->Act->World->Prop}(hd:∀ c,o.op≠.defer c)(h:(execOp a.eval o).run P w=.ok (.value u) w')(hK:K (a.put o.dst u) w'):o.wpIn (iY ro) 0 P a w K Q :=
 ⟨fun _ _=>trivial,by rw[Oper.semAt_eq _ _ _ hd,h];exact hK⟩
theorem aaW{ro:Option Nat}{w':World}{K:Act->World->Prop}{Q:Exit->Act->World->Prop}(hd:∀ c,o.op≠.defer c)(h:(execOp a.eval o).run P w=.ok .skip w')(hK:K (a.put o.dst undef) w'):o.wpIn (iY ro) 0 P a w K Q :=
 ⟨fun _ _=>trivial,by rw[Oper.semAt_eq _ _ _ hd,h];exact hK⟩
theorem Reads.wp{ro:Option Nat}{v:AV}{lo:Nat}{K:Act->World->Prop}{Q:Exit->Act->World->Prop}(hr:Reads P w m h a o v)(hd:∀ c,o.op≠.defer c)(hi:Inv w m h)(hK:Then lo w m h v h fun u w'=>K (a.put o.dst u) w'):o.wpIn (iY ro) 0 P a w K Q:=by
 obtain⟨u,h1,h2⟩:=hr;exact Rb hd h1 (hK u w m (Step.refl _ _ _ _) hi h2)
theorem Made.wp{ro:Option Nat}{v:AV}{h':Heap}{K:Act->World->Prop}{Q:Exit->Act->World->Prop}(hr:∃ u w' m',(execOp a.eval o).run P w=.ok (.value u) w'/\Step cx.lo w m h w' m' h'/\Inv w' m' h'/\R w' (Live m' h') m' h' v u)(hd:∀ c,o.op≠.defer c)
  (hK:Then cx.lo w m h v h' fun u w'=>K (a.put o.dst u) w'):o.wpIn (iY ro) 0 P a w K Q:=by
 obtain⟨u,w',m',h1,h2,h3,h4⟩:=hr;exact Rb hd h1 (hK u w' m' h2 h3 h4)
theorem aaX{ro:Option Nat}(hc:nA P aQ call)(hi:Inv w m h){id aj:Nat}{args:List AV}{v:AV}{h':Heap}{vs:List Value}{u0:Value}(hx:fF call cx id aj args h=some (v,h'))(hu:R w (Live m h) m h (.cZ id aj) u0)(ra:RL w (Live m h) m h args vs)
  (hd:∀ c,o.op≠.defer c) (hrun:∀ l r,u0=.func (.yield l) #[] #[]->w.heap[l]?=some (.loop r)->r.params.size=vs.length->(execOp a.eval o).run P w=.ok (.round l r.fn (vE r vs) r.assign r.body) w)
  {K:Act->World->Prop} {Q:Exit->Act->World->Prop} (hK:Then cx.lo w m h v h' fun u w'=>K (a.put o.dst u) w'):o.wpIn (iY ro) 0 P a w K Q:=by
 unfold fF at hx;split at hx
 ·rename_i v0 d hid;split at hx
  ·rename_i hcond;obtain⟨rfl,hlo,hlo2,_,hcl⟩:=hcond;simp only[mE,ax]at hx;obtain⟨⟨e,h1⟩,hrd,rfl,rfl⟩:=hx;simp only[R]at hu;obtain⟨kn,l,hu,v1,gW,q1,q2,q3⟩:=hu;rw[hid]at q1;cases q1;obtain⟨hkn,hml⟩:=q3 rfl d .ready rfl;simp only[RS.Bd]at hkn;subst hkn;subst hu;obtain⟨b,ob,e1,e2,e3⟩:=hi.ay id _ d .ready hid;rw[hml]at e1;cases e1;have e3':=e3;obtain⟨r,rfl,_⟩:=e3';obtain⟨hps,aaY⟩:=hc.ic hrd hi hid hlo2 hml e2 e3 ra;refine⟨fun _ _=>trivial, ?_⟩;rw[Oper.semAt_eq _ _ _ hd,hrun l r rfl e2 hps,Oper.uponIn_round];refine⟨fun h=>by simp[Fence.wide]at h, ?_⟩
   have aaZ:RoundIn (iY ro) (0-1) P l r.fn (vE r vs) r.assign r.body w fun e' w'=>∃ m',e'=.returned (.bool (e==.norm))/\Step d.lo w m h w' m' h1/\Inv w' m' h1:=aaY;refine aaZ.mono ?_;rintro e' w' ⟨m',rfl,hs,hinv⟩;exact hK _ w' m' (hs.mono hlo) hinv (by simp[R,RC])
  ·cases hx
 ·cases hx
def nD(g:Nat)(xs vs:List Value):List Value:=if g<1000 then xs++vs else vs++xs
theorem Rc{X:Nat->Prop}{g:Nat}{bs cs:List AV}{xs vs:List Value}(h1:RL w X m h bs xs)(h2:RL w X m h cs vs):RL w X m h (pE g bs cs) (nD g xs vs):=by
 unfold pE nD;split
 ·exact GA h1 h2
 ·exact GA h2 h1
theorem aa0{cx:Cx}(hi:Inv w m h)(he:fw w m h env a){s z lim:Nat}{x y:aK}{xs:List AV}{v:AV}{h':Heap}(hk:bW P o (.app s z lim x y)=true)
  (hy:kL h z (y.ev env)=some xs) (hv:xY cx s z lim (x.ev env) xs h=some (v,h')) (hlo:cx.lo<=cx.base) :
  ∃ u w' m',(execOp a.eval o).run P w=.ok (.value u) w'/\Step cx.lo w m h w' m' h'/\Inv w' m' h'/\R w' (Live m' h') m' h' v u:=by
 unfold xY at hv;split at hv
 ·exact QN hi he hk hy hv hlo
 ·obtain⟨⟨v1,h1⟩,h2,h3⟩:=bE.mp hv;have hk':bW P o (.app (s-1000) z lim x y)=true:=by simpa only[bW]using hk
  obtain⟨u,w',m',e1,e2,e3,e4⟩:=QN hi he hk' hy h2 hlo;obtain⟨s2,i2,r2⟩:=zG hlo _ _ _ _ _ e3 e4 h3;exact⟨u,w',m',e1,e2.trans s2,i2,R.rU _ _ r2⟩
theorem aa1{ro:Option Nat}(hc:nA P aQ call)(hi:Inv w m h)(he:fw w m h env a)(hlo:cx.lo<=cx.base)(hb:cx.base<=h.length){f:aK}{args:List aK}{own:List (Nat×Nat)}{v:AV}{h':Heap}
  (hk:bW P o (.call f args own)=true) (hx:xi call cx env h (.call f args own)=some (v,h')) {K:Act->World->Prop} {Q:Exit->Act->World->Prop} (hK:Then cx.lo w m h v h' fun u w'=>K (a.put o.dst u) w'):o.wpIn (iY ro) 0 P a w K Q:=by
 have hd:=Ra hk;simp only[bW]at hk;split at hk
 ·rename_i g as ts hop;simp only[bg]at hk;obtain⟨k1,k2⟩:=hk;have rf:=eX he k1;have ra:=Bn he k2;simp only[xi]at hx;split at hx
  ·rename_i oO caps hf;rw[hf]at rf;simp only[R]at rf;obtain⟨vs,ef,rc⟩:=rf;obtain⟨⟨r,h1⟩,hcall,hx2⟩:=bE.mp hx;clear hx;have hx:=hx2;clear hx2;dsimp only at hx;obtain⟨⟨fn,hfn,hname,hbody⟩,Ky⟩:=hc.does hcall;have Kz:=Ky w m (nD oO (as.toList.map a.eval) vs) hi (Rc ra rc) (by omega)
   have hrun:(execOp a.eval o).run P w=.ok (.enter (iq oO) (nD oO (as.toList.map a.eval) vs).toArray) w:=by
    have hb':fn.body.isNone=false:=by cases zL:fn.body<;>simp_all
    by_cases hg:oO<1000
    ·have harr:as.map a.eval++vs.toArray=(as.toList.map a.eval++vs).toArray:=by
      apply Array.ext';simp
     have e1:iq oO=oO:=by unfold iq;rw[if_pos hg]
     have e2:nD oO (as.toList.map a.eval) vs=as.toList.map a.eval++vs:=by unfold nD;rw[if_pos hg]
     have KA:a.eval g=.func (.func oO) #[] vs.toArray:=by rw[ef];unfold wP;rw[if_pos hg]
     rw[e1]at hfn⊢;rw[e2];simp only[execOp,hop,resolve,Deferred.ofValue,KA,invoke,callFunc,Sem.run_bind,Sem.run_pure,Result.andThen_ok,run_program,hfn];simp[hname,hb',harr]
    ·have harr:vs.toArray++as.map a.eval=(vs++as.toList.map a.eval).toArray:=by
      apply Array.ext';simp
     have e1:iq oO=oO-1000:=by unfold iq;rw[if_neg hg]
     have e2:nD oO (as.toList.map a.eval) vs=vs++as.toList.map a.eval:=by unfold nD;rw[if_neg hg]
     have KA:a.eval g=.func (.func (oO-1000)) vs.toArray #[]:=by rw[ef];unfold wP;rw[if_neg hg]
     rw[e1]at hfn⊢;rw[e2];generalize oO-1000=akH at*;simp only[execOp,hop,resolve,Deferred.ofValue,KA,invoke,callFunc,Sem.run_bind,Sem.run_pure,Result.andThen_ok,run_program,hfn];simp[hname,hb',harr]
   refine⟨fun _ _=>trivial, ?_⟩;rw[Oper.semAt_eq _ _ _ hd,hrun,Oper.uponIn_enter];refine⟨fun h=>by simp[Fence.wide]at h, ?_⟩
   have D5:CallsIn (iY ro) (0-1) P (iq oO) (nD oO (as.toList.map a.eval) vs).toArray w _:=callsIn_wide.mpr Kz;refine D5.mono fun e w' hR=>?_;obtain⟨u,m',rfl,hs,hinv,hres⟩:=hR
   show K (a.put o.dst u) w'
   split at hx
   ·-- nothing is taken over
    simp only[aP,ax]at hx;obtain⟨rfl,rfl⟩:=hx;exact hK u w' m' hs hinv hres.weak
   ·rename_i hne;obtain⟨B,hn,hB,hix,hg⟩:=hres
    have hclosed:∀{vv:AV} {h2:Heap},(∃ us cs cs',fM w' (fun b=>Live m' h1 b\/b∈B) m' h1 B cs us/\iN cx own cs h1=some (cs',h2) /\
      ∀ m2,RL w' (Live m2 h2) m2 h2 (cs'.map dw) us->R w' (Live m2 h2) m2 h2 vv u)->h'=h2->v=vv->K (a.put o.dst u) w':=by
     rintro vv h2 ⟨us,cs,cs',hg,ht,hfin⟩ rfl rfl;have aa2:Over cx.lo w m h w' (fun b=>Live m' h1 b\/b∈B) m' h1:=⟨hs,hinv.len,hix.blk,hix.ay,hinv.inj,fun b hb=>.inl hb⟩;obtain⟨m2,B',ho2,hB',hg'⟩:=DZ (lo:=cx.lo) hlo own B cs cs' us m' h1 h' aa2 hn (fun b hb=>⟨(hB b hb).1,(hB b hb).2,.inr hb⟩) hg ht;exact hK u w' m2 ho2.step (ho2.inv hi.gV) (hfin m2 (fM.weak ho2.sub hB' hg'))
    split at hx
    ·rename_i cs;obtain⟨⟨cs',h2⟩,ht,hx⟩:=mE.mp hx;simp only[ax]at hx;obtain⟨rfl,rfl⟩:=hx;simp only[oq]at hg;obtain⟨us,rfl,hg⟩:=hg;refine hclosed ⟨us,cs,cs',hg,ht,fun m2 hl=>?_⟩ rfl rfl;simp only[weak,R];exact⟨us,rfl,hl⟩
    ·rename_i hnt;obtain⟨⟨cs',h2⟩,ht,hx⟩:=bE.mp hx;simp only[mE,ax]at hx;obtain⟨v',hv',rfl,rfl⟩:=hx
     have hg1:iB w' (fun b=>Live m' h1 b\/b∈B) m' h1 B r u:=by
      unfold oq at hg;split at hg
      ·exact absurd rfl (hnt _)
      ·exact hg
     refine hclosed ⟨[u],[r],cs', ?_,ht,fun m2 hl=>?_⟩ rfl rfl
     ·simp only[fM];exact⟨B,[],u,[],by simp,rfl,hg1,rfl,rfl⟩
     ·cases cs' with
      |nil=>simp at hv'
      |cons q qs =>
       simp at hv';subst hv';simp only[List.map_cons,RL]at hl;obtain⟨u',fB,e,hr,_⟩:=hl;cases e
       cases q with
       |tuple cs=>simp only[dw]at hr;exact aaJ hr
       |_=>exact hr
  ·rename_i id aj hf;split at hx
   ·rename_i hown;rw[hf]at rf;refine aaX (vs:=as.toList.map a.eval) (u0:=a.eval g) hc hi hx rf ra hd (fun l r hl hlp hps=>?_) hK
    have harr:as.map a.eval=(as.toList.map a.eval).toArray:=by
     apply Array.ext';simp
    simp only[uq,Array.length_toList]at hps;have hy:=run_yield (P:=P) (args:=(as.toList.map a.eval).toArray) hlp (by simp[hps])
    simp only[execOp,hop,resolve,Deferred.ofValue,hl,invoke,callFunc,Sem.run_bind,Sem.run_pure,Result.andThen_ok];rw[harr];simpa[vE]using hy
   ·cases hx
  ·cases hx
 ·cases hk
theorem Rf {ro : Option Nat} {f : FuncId} {vs : List Value} {lo : Nat} {v : AV} {h' : Heap} (hd : ∀ c, o.op ≠ .defer c) (hen : Enters P f) (hrun : ∀ fn, P.funcs[f]? = some fn → fn.name ≠ "runtime.NumGoroutine" → fn.body.isSome = true → (execOp a.eval o).run P w = .ok (.enter f vs.toArray) w)
  (hc:Calls P f vs.toArray w fun e w'=>∃ u m',e=.returned u/\Step lo w m h w' m' h'/\Inv w' m' h'/\R w' (Live m' h') m' h' v u) {K:Act->World->Prop} {Q:Exit->Act->World->Prop} (hK:Then lo w m h v h' fun u w'=>K (a.put o.dst u) w'):o.wpIn (iY ro) 0 P a w K Q:=by
 obtain⟨fn,h1,h2,h3⟩:=hen;refine⟨fun _ _=>trivial, ?_⟩;rw[Oper.semAt_eq _ _ _ hd,hrun fn h1 h2 h3,Oper.uponIn_enter];refine⟨fun h=>by simp[Fence.wide]at h, ?_⟩
 have D5:CallsIn (iY ro) (0-1) P f vs.toArray w _:=callsIn_wide.mpr hc;refine D5.mono fun e w' hR=>?_;obtain⟨u,m',rfl,hs,hinv,hres⟩:=hR;exact hK u w' m' hs hinv hres
theorem Rh{ro:Option Nat}(hc:nA P aQ call)(hi:Inv w m h)(he:fw w m h env a)(hlo:cx.lo<=cx.base)(hb:cx.base<=h.length){x:XI}{v:AV}{h':Heap}
  (hk:bW P o x=true) (hx:xi call cx env h x=some (v,h')) {K:Act->World->Prop} {Q:Exit->Act->World->Prop} (hK:Then cx.lo w m h v h' fun u w'=>K (a.put o.dst u) w'):o.wpIn (iY ro) 0 P a w K Q:=by
 have hd:=Ra hk
 cases x with
 |aL x =>
  simp only[xi,aP,ax]at hx;obtain⟨rfl,rfl⟩:=hx
  exact(ZN he hk).wp hd hi hK
 |nV x =>
  simp only[xi,mE,ax]at hx;obtain⟨v',hv,rfl,rfl⟩:=hx
  exact(ZO he hk hv).wp hd hi hK
 |pick c x y =>
  simp only[xi,mE,ax]at hx;obtain⟨r,hv,rfl,rfl⟩:=hx
  exact(ZP he hk hv).wp hd hi hK
 |bin op x y =>
  simp only[xi,mE,ax]at hx;obtain⟨r,hv,rfl,rfl⟩:=hx
  exact(ZQ he hk hv).wp hd hi hK
 |un op x =>
  simp only[xi,mE,ax]at hx;obtain⟨r,hv,rfl,rfl⟩:=hx
  exact(ZR he hk hv).wp hd hi hK
 |conv k x =>
  simp only[xi,mE,ax]at hx;obtain⟨r,hv,rfl,rfl⟩:=hx
  exact(ZT he hk hv).wp hd hi hK
 |eqv neg ks x y =>
  simp only[xi,mE,ax]at hx;obtain⟨r,hv,rfl,rfl⟩:=hx
  exact(ZV he hk hv).wp hd hi hK
 |len s x =>
  simp only[xi,mE,ax]at hx;obtain⟨r,hv,rfl,rfl⟩:=hx
  exact(ZW he hk hv).wp hd hi hK
 |lJ mx xs =>
  simp only[xi,mE,ax]at hx;obtain⟨r,hv,rfl,rfl⟩:=hx
  exact(ZY he hk hv).wp hd hi hK
 |ext x i =>
  simp only[xi,mE,ax]at hx;obtain⟨r,hv,rfl,rfl⟩:=hx
  exact(Z0 he hk hv).wp hd hi hK
 |build zero parts =>
  simp only[xi,mE,ax]at hx;obtain⟨r,hv,rfl,rfl⟩:=hx
  exact(aaF he hk hv).wp hd hi hK
 |bY z zero n parts =>
  simp only[xi,mE,ax]at hx;obtain⟨⟨es,h1⟩,hv,rfl,rfl⟩:=hx
  exact Made.wp (aaI hi he hk hv hlo) hd hK
 |j6 x k =>
  simp only[xi,mE,ax]at hx;obtain⟨r,hv,rfl,rfl⟩:=hx
  exact(Z4 he hk hv).wp hd hi hK
 |ng n size x i =>
  simp only[xi,bE,mE,ax]at hx;obtain⟨j,hj,r,hv,rfl,rfl⟩:=hx
  exact(Z6 he hk hj hv).wp hd hi hK
 |qy z x i =>
  simp only[xi]at hx;split at hx
  ·rename_i hz;simp only[bE,mE,ax]at hx;obtain⟨n,hn,j,hj,rfl,rfl⟩:=hx;exact(Z7 hi he hk hz hn hj).wp hd hi hK
  ·cases hx
 |mK x i =>
  simp only[xi]at hx;split at hx
  ·rename_i l hl;simp only[bE,mE,ax]at hx;obtain⟨j,hj,b,hb',rfl,rfl⟩:=hx;exact(Z8 he hk hl hj hb').wp hd hi hK
  ·cases hx
 |slice z x lo hi' =>
  simp only[xi,mE,ax]at hx;obtain⟨r,hv,rfl,rfl⟩:=hx
  cases z with
  |none =>
   simp only[kg]at hv;split at hv
   ·rename_i l hl;simp only[bE,mE]at hv;obtain⟨b,hb',l',hl',rfl⟩:=hv;exact(Z9 he hk hl hb' hl').wp hd hi hK
   ·cases hv
  |some z=>exact(aac hi he hk hv).wp hd hi hK
 |load sh x =>
  simp only[xi,bE,mE,ax]at hx;obtain⟨cs,hcs,r,hv,rfl,rfl⟩:=hx
  exact(aad hi he hk hcs hv).wp hd hi hK
 |store sz x v' =>
  simp only[xi,mE,ax]at hx;obtain⟨h1,hp,rfl,rfl⟩:=hx;obtain⟨w',m',h1,h2,h3⟩:=aao hi he hk hp hlo
  exact aaW hd h1 (hK undef w' m' h2 h3 (by simp[R]))
 |alloc s zero =>
  simp only[xi,mE,ax]at hx;obtain⟨⟨aj,h1⟩,hm,rfl,rfl⟩:=hx
  exact Made.wp (aaf hi hk hm hlo) hd hK
 |box s x =>
  simp only[xi]at hx;split at hx
  ·rename_i hv;simp only[mE,ax]at hx;obtain⟨⟨aj,h1⟩,hm,rfl,rfl⟩:=hx;exact Made.wp (aag hi he hk hv hm hlo) hd hK
  ·cases hx
 |bS x =>
  simp only[xi]at hx;split at hx
  ·rename_i hv;simp only[mE,ax]at hx;obtain⟨⟨v',h1⟩,hf,rfl,rfl⟩:=hx;exact Made.wp (aah hi he hk hv hf hlo) hd hK
  ·cases hx
 |mk s z zero lim n c =>
  simp only[xi]at hx;split at hx
  ·rename_i kn p kc q hn hc';split at hx
   ·rename_i hz;simp only[aP,ax]at hx;obtain⟨rfl,rfl⟩:=hx;obtain⟨_,rfl,rfl⟩:=hz;exact Made.wp (aak hi he hk hn hc') hd hK
   split at hx
   ·rename_i hcond;simp only[mE,ax]at hx;obtain⟨⟨aj,h1⟩,hm,rfl,rfl⟩:=hx;exact Made.wp (aaj (s:=wN s) hi he hk hn hc' hcond.1 hcond.2.1 hcond.2.2 hm hlo) hd hK
   ·cases hx
  ·cases hx
 |app s z lim x y =>
  simp only[xi,bE]at hx;obtain⟨xs,hy,hv⟩:=hx
  exact Made.wp (aa0 hi he hk hy hv hlo) hd hK
 |copy z x y =>
  simp only[xi,bE]at hx;obtain⟨ys,hy,hv⟩:=hx
  exact Made.wp (aaA hi he hk hy hv) hd hK
 |tX x=>simp[xi]at hx
 |l7 f caps =>
  simp only[xi,aP,ax]at hx;obtain⟨rfl,rfl⟩:=hx;refine Reads.wp ?_ hd hi hK;simp only[bW]at hk;split at hk
  ·rename_i g cs hop;simp only[bg,beq_iff_eq,decide_eq_true_eq]at hk;obtain⟨⟨rfl,hlt⟩,hk⟩:=hk;have ra:=Bn he hk;refine⟨.func (.func f) #[] (cs.toList.map a.eval).toArray, ?_, ?_⟩
   ·have harr:cs.map a.eval=(cs.toList.map a.eval).toArray:=by rw[<-Array.toList_map,Array.toArray_toList]
    have hnil:Array.map a.eval (⟨[]⟩:Array Operand)=#[]:=by simp
    simp only[execOp,hop,Instr.makeFunc,Sem.run_bind,Sem.run_pure,Result.andThen_ok,harr,hnil]
   ·simp only[R];exact⟨_,(if_pos hlt).symm,ra⟩
  ·rename_i g cs _ hop;simp only[bg,beq_iff_eq]at hk;obtain⟨rfl,hk⟩:=hk;have ra:=Bn he hk;refine⟨.func (.func g) (cs.toList.map a.eval).toArray #[], ?_, ?_⟩
   ·have harr:cs.map a.eval=(cs.toList.map a.eval).toArray:=by rw[<-Array.toList_map,Array.toArray_toList]
    have hnil:Array.map a.eval (⟨[]⟩:Array Operand)=#[]:=by simp
    simp only[execOp,hop,Instr.makeFunc,Sem.run_bind,Sem.run_pure,Result.andThen_ok,harr,hnil]
   ·simp only[R];refine⟨_, ?_,ra⟩;unfold wP;rw[if_neg (by omega),Nat.add_sub_cancel]
  ·cases hk
 |call f args own=>exact aa1 hc hi he hlo hb hk hx hK
 |tV t x =>
  simp only[xi]at hx;split at hx
  ·simp only[aP,ax]at hx;obtain⟨rfl,rfl⟩:=hx;exact(aaL he hk).wp hd hi hK
  ·cases hx
 |rP x =>
  simp only[xi,bE,mE,ax]at hx;obtain⟨es,h1,l,h2,rfl,rfl⟩:=hx
  exact(aaM hi he hk h1 h2).wp hd hi hK
 |tT s =>
  simp only[xi,mE,ax]at hx;obtain⟨⟨aj,h1⟩,hm,rfl,rfl⟩:=hx
  exact Made.wp (aaS hi hk hm hlo) hd hK
 |rM s f x y =>
  simp only[xi]at hx;obtain⟨vs,hen,hrun,hcall⟩:=aaT hi he hk hx hlo hc.wr
  exact Rf hd hen hrun hcall hK
 |rO f x =>
  simp only[xi,mE,ax]at hx;obtain⟨v',hv,rfl,rfl⟩:=hx;obtain⟨vs,hen,hrun,hcall⟩:=aaV hi he hk hv hc.bs;exact Rf hd hen hrun hcall hK
end
end Go.VI
