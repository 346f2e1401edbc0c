/- Every operation; lists of operations; regions that draw their order. -/
import Derived.Test.YtfpoegnmeoghpaaGreatDoorVISB
set_option linter.unusedVariables false
set_option linter.unusedSimpArgs false
namespace Go.VI
set_option linter.unusedSectionVars false
variable [kH][Rounds]
section
variable {w:World}{m:Map}{h:Heap}{P:Program}{env:Env}{a:Act}{o:Oper}{X:Nat->Prop}{eB:Nat->Bool}{call:Callee}{cx:Cx}
def Then(lo:Nat)(w:World)(m:Map)(h:Heap)(v:AV)(h':Heap)(K:Value->World->Prop):Prop :=
 ∀ u w' m',Step lo w m h w' m' h'->Inv w' m' h'->R w' (Live m' h') m' h' v u->K u w'
theorem ayr{x:XI}(hk:mg P o x=true):∀ c,o.op≠.defer c:=by
 intro c hc;cases x<;>simp[mg,hc]at hk
theorem ays{ro:Option Nat}{u:Value}{w':World}{K:Act->World->Prop}{Q:Exit->Act->World->Prop}(hd:∀ c,o.op≠.defer c)(h:(execOp a.eval o).run P w=.ok (.value u) w')(hK:K (a.put o.dst u) w'):o.wpIn (F8 ro) 0 P a w K Q :=
 ⟨fun _ _=>trivial,by rw[Oper.semAt_eq _ _ _ hd,h];exact hK⟩
theorem aFk{ro:Option Nat}{w':World}{K:Act->World->Prop}{Q:Exit->Act->World->Prop}(hd:∀ c,o.op≠.defer c)(h:(execOp a.eval o).run P w=.ok .skip w')(hK:K (a.put o.dst undef) w'):o.wpIn (F8 ro) 0 P a w K Q :=
 ⟨fun _ _=>trivial,by rw[Oper.semAt_eq _ _ _ hd,h];exact hK⟩
theorem Reads.wp{ro:Option Nat}{v:AV}{lo:Nat}{K:Act->World->Prop}{Q:Exit->Act->World->Prop}(hr:Reads P w m h a o v)(hd:∀ c,o.op≠.defer c)(hi:Inv w m h)(hK:Then lo w m h v h fun u w'=>K (a.put o.dst u) w'):o.wpIn (F8 ro) 0 P a w K Q:=by
 obtain⟨u,h1,h2⟩:=hr;exact ays hd h1 (hK u w m (Step.refl _ _ _ _) hi h2)
theorem Made.wp{ro:Option Nat}{v:AV}{h':Heap}{K:Act->World->Prop}{Q:Exit->Act->World->Prop}(hr:∃ u w' m',(execOp a.eval o).run P w=.ok (.value u) w'/\Step cx.lo w m h w' m' h'/\Inv w' m' h'/\R w' (Live m' h') m' h' v u)(hd:∀ c,o.op≠.defer c)
  (hK:Then cx.lo w m h v h' fun u w'=>K (a.put o.dst u) w'):o.wpIn (F8 ro) 0 P a w K Q:=by
 obtain⟨u,w',m',h1,h2,h3,h4⟩:=hr;exact ays hd h1 (hK u w' m' h2 h3 h4)
theorem aFl{ro:Option Nat}(hc:Rk P eB call)(hi:Inv w m h){id ak:Nat}{args:List AV}{v:AV}{h':Heap}{vs:List Value}{u0:Value}(hx:tK call cx id ak args h=some (v,h'))(hu:R w (Live m h) m h (.lF id ak) u0)(ra:RL w (Live m h) m h args vs)
  (hd:∀ c,o.op≠.defer c) (hrun:∀ l r,u0=.func (.yield l) #[] #[]->w.heap[l]?=some (.loop r)->r.params.size=vs.length->(execOp a.eval o).run P w=.ok (.round l r.fn (abu r vs) r.assign r.body) w)
  {K:Act->World->Prop} {Q:Exit->Act->World->Prop} (hK:Then cx.lo w m h v h' fun u w'=>K (a.put o.dst u) w'):o.wpIn (F8 ro) 0 P a w K Q:=by
 unfold tK at hx;split at hx
 ·rename_i v0 d hid;split at hx
  ·rename_i hcond;obtain⟨rfl,hlo,hlo2,_,hcl⟩:=hcond;simp only[mE,bf]at hx;obtain⟨⟨e,h1⟩,hrd,rfl,rfl⟩:=hx;simp only[R]at hu;obtain⟨kn,l,hu,v1,AU,q1,q2,q3⟩:=hu;rw[hid]at q1;cases q1;obtain⟨hkn,hml⟩:=q3 rfl d .ready rfl;simp only[RS.knd]at hkn;subst hkn;subst hu;obtain⟨b,ob,e1,e2,e3⟩:=hi.aV id _ d .ready hid;rw[hml]at e1;cases e1;have e3':=e3;obtain⟨r,rfl,_⟩:=e3';obtain⟨hps,aFm⟩:=hc.Df hrd hi hid hlo2 hml e2 e3 ra;refine⟨fun _ _=>trivial, ?_⟩;rw[Oper.semAt_eq _ _ _ hd,hrun l r rfl e2 hps,Oper.uponIn_round];refine⟨fun h=>by simp[Fence.wide]at h, ?_⟩
   have aFn:RoundIn (F8 ro) (0-1) P l r.fn (abu r vs) r.assign r.body w fun e' w'=>∃ m',e'=.returned (.bool (e==.norm))/\Step d.lo w m h w' m' h1/\Inv w' m' h1:=aFm;refine aFn.mono ?_;rintro e' w' ⟨m',rfl,hs,hinv⟩;exact hK _ w' m' (hs.mono hlo) hinv (by simp[R,RC])
  ·cases hx
 ·cases hx
def Rl(g:Nat)(xs vs:List Value):List Value:=if g<1000 then xs++vs else vs++xs
theorem ayt{X:Nat->Prop}{g:Nat}{bs cs:List AV}{xs vs:List Value}(h1:RL w X m h bs xs)(h2:RL w X m h cs vs):RL w X m h (II g bs cs) (Rl g xs vs):=by
 unfold II Rl;split
 ·exact anK h1 h2
 ·exact anK h2 h1
theorem aFo{cx:Cx}(hi:Inv w m h)(he:uO w m h env a){s z lim:Nat}{x y:bD}{xs:List AV}{v:AV}{h':Heap}(hk:mg P o (.app s z lim x y)=true)
  (hy:Rf h z (y.ev env)=some xs) (hv:acK cx s z lim (x.ev env) xs h=some (v,h')) (hlo:cx.lo<=cx.base) :
  ∃ u w' m',(execOp a.eval o).run P w=.ok (.value u) w'/\Step cx.lo w m h w' m' h'/\Inv w' m' h'/\R w' (Live m' h') m' h' v u:=by
 unfold acK at hv;split at hv
 ·exact aya hi he hk hy hv hlo
 ·obtain⟨⟨v1,h1⟩,h2,h3⟩:=bE.mp hv;have hk':mg P o (.app (s-1000) z lim x y)=true:=by simpa only[mg]using hk
  obtain⟨u,w',m',e1,e2,e3,e4⟩:=aya hi he hk' hy h2 hlo;obtain⟨s2,i2,r2⟩:=ajS hlo _ _ _ _ _ e3 e4 h3;exact⟨u,w',m',e1,e2.trans s2,i2,R.Zx _ _ r2⟩
theorem ar0{ro:Option Nat}(hc:Rk P eB call)(hi:Inv w m h)(he:uO w m h env a)(hlo:cx.lo<=cx.base)(hb:cx.base<=h.length){f:bD}{args:List bD}{own:List (Nat×Nat)}{v:AV}{h':Heap}
  (hk:mg P o (.call f args own)=true) (hx:xi call cx env h (.call f args own)=some (v,h')) {K:Act->World->Prop} {Q:Exit->Act->World->Prop} (hK:Then cx.lo w m h v h' fun u w'=>K (a.put o.dst u) w'):o.wpIn (F8 ro) 0 P a w K Q:=by
 have hd:=ayr hk;simp only[mg]at hk;split at hk
 ·rename_i g as ts hop;simp only[fw]at hk;obtain⟨k1,k2⟩:=hk;have rf:=tO he k1;have ra:=ajV he k2;simp only[xi]at hx;split at hx
  ·rename_i Sz caps hf;rw[hf]at rf;simp only[R]at rf;obtain⟨vs,ef,rc⟩:=rf;obtain⟨⟨r,h1⟩,hcall,hx2⟩:=bE.mp hx;clear hx;have hx:=hx2;clear hx2;dsimp only at hx;obtain⟨⟨fn,hfn,hname,hbody⟩,ar1⟩:=hc.does hcall;have ar2:=ar1 w m (Rl Sz (as.toList.map a.eval) vs) hi (ayt ra rc) (by omega)
   have hrun:(execOp a.eval o).run P w=.ok (.enter (u7 Sz) (Rl Sz (as.toList.map a.eval) vs).toArray) w:=by
    have hb':fn.body.isNone=false:=by cases hfb:fn.body<;>simp_all
    by_cases hg:Sz<1000
    ·have harr:as.map a.eval++vs.toArray=(as.toList.map a.eval++vs).toArray:=by
      apply Array.ext';simp
     have e1:u7 Sz=Sz:=by unfold u7;rw[if_pos hg]
     have e2:Rl Sz (as.toList.map a.eval) vs=as.toList.map a.eval++vs:=by unfold Rl;rw[if_pos hg]
     have ef':a.eval g=.func (.func Sz) #[] vs.toArray:=by rw[ef];unfold fnV;rw[if_pos hg]
     rw[e1]at hfn⊢;rw[e2];simp only[execOp,hop,resolve,Deferred.ofValue,ef',invoke,callFunc,Sem.run_bind,Sem.run_pure,Result.andThen_ok,run_program,hfn];simp[hname,hb',harr]
    ·have harr:vs.toArray++as.map a.eval=(vs++as.toList.map a.eval).toArray:=by
      apply Array.ext';simp
     have e1:u7 Sz=Sz-1000:=by unfold u7;rw[if_neg hg]
     have e2:Rl Sz (as.toList.map a.eval) vs=vs++as.toList.map a.eval:=by unfold Rl;rw[if_neg hg]
     have ef':a.eval g=.func (.func (Sz-1000)) vs.toArray #[]:=by rw[ef];unfold fnV;rw[if_neg hg]
     rw[e1]at hfn⊢;rw[e2];generalize Sz-1000=aOv at*;simp only[execOp,hop,resolve,Deferred.ofValue,ef',invoke,callFunc,Sem.run_bind,Sem.run_pure,Result.andThen_ok,run_program,hfn];simp[hname,hb',harr]
   refine⟨fun _ _=>trivial, ?_⟩;rw[Oper.semAt_eq _ _ _ hd,hrun,Oper.uponIn_enter];refine⟨fun h=>by simp[Fence.wide]at h, ?_⟩
   have alE:CallsIn (F8 ro) (0-1) P (u7 Sz) (Rl Sz (as.toList.map a.eval) vs).toArray w _:=callsIn_wide.mpr ar2;refine alE.mono fun e w' hR=>?_;obtain⟨u,m',rfl,hs,hinv,hres⟩:=hR
   show K (a.put o.dst u) w'
   split at hx
   ·-- nothing is taken over
    simp only[dz,bf]at hx;obtain⟨rfl,rfl⟩:=hx;exact hK u w' m' hs hinv hres.weak
   ·rename_i hne;obtain⟨B,hn,hB,hix,hg⟩:=hres
    have hclosed:∀{vv:AV} {h2:Heap},(∃ us cs cs',xU w' (fun b=>Live m' h1 b\/b∈B) m' h1 B cs us/\Dz cx own cs h1=some (cs',h2) /\
      ∀ m2,RL w' (Live m2 h2) m2 h2 (cs'.map yY) us->R w' (Live m2 h2) m2 h2 vv u)->h'=h2->v=vv->K (a.put o.dst u) w':=by
     rintro vv h2 ⟨us,cs,cs',hg,ht,hfin⟩ rfl rfl;have aFp:Over cx.lo w m h w' (fun b=>Live m' h1 b\/b∈B) m' h1:=⟨hs,hinv.len,hix.blk,hix.aV,hinv.inj,fun b hb=>.inl hb⟩;obtain⟨m2,B',ho2,hB',hg'⟩:=alD (lo:=cx.lo) hlo own B cs cs' us m' h1 h' aFp hn (fun b hb=>⟨(hB b hb).1,(hB b hb).2,.inr hb⟩) hg ht;exact hK u w' m2 ho2.step (ho2.inv hi.CX) (hfin m2 (xU.weak ho2.sub hB' hg'))
    split at hx
    ·rename_i cs;obtain⟨⟨cs',h2⟩,ht,hx⟩:=mE.mp hx;simp only[bf]at hx;obtain⟨rfl,rfl⟩:=hx;simp only[RD]at hg;obtain⟨us,rfl,hg⟩:=hg;refine hclosed ⟨us,cs,cs',hg,ht,fun m2 hl=>?_⟩ rfl rfl;simp only[weak,R];exact⟨us,rfl,hl⟩
    ·rename_i hnt;obtain⟨⟨cs',h2⟩,ht,hx⟩:=bE.mp hx;simp only[mE,bf]at hx;obtain⟨v',hv',rfl,rfl⟩:=hx
     have hg1:Dj w' (fun b=>Live m' h1 b\/b∈B) m' h1 B r u:=by
      unfold RD at hg;split at hg
      ·exact absurd rfl (hnt _)
      ·exact hg
     refine hclosed ⟨[u],[r],cs', ?_,ht,fun m2 hl=>?_⟩ rfl rfl
     ·simp only[xU];exact⟨B,[],u,[],by simp,rfl,hg1,rfl,rfl⟩
     ·cases cs' with
      |nil=>simp at hv'
      |cons q qs =>
       simp at hv';subst hv';simp only[List.map_cons,RL]at hl;obtain⟨u',vw,e,hr,_⟩:=hl;cases e
       cases q with
       |tuple cs=>simp only[yY]at hr;exact aE8 hr
       |_=>exact hr
  ·rename_i id ak hf;split at hx
   ·rename_i hown;rw[hf]at rf;refine aFl (vs:=as.toList.map a.eval) (u0:=a.eval g) hc hi hx rf ra hd (fun l r hl hlp hps=>?_) hK
    have harr:as.map a.eval=(as.toList.map a.eval).toArray:=by
     apply Array.ext';simp
    simp only[abv,Array.length_toList]at hps;have hy:=run_yield (P:=P) (args:=(as.toList.map a.eval).toArray) hlp (by simp[hps])
    simp only[execOp,hop,resolve,Deferred.ofValue,hl,invoke,callFunc,Sem.run_bind,Sem.run_pure,Result.andThen_ok];rw[harr];simpa[abu]using hy
   ·cases hx
  ·cases hx
 ·cases hk
theorem ayu {ro : Option Nat} {f : FuncId} {vs : List Value} {lo : Nat} {v : AV} {h' : Heap} (hd : ∀ c, o.op ≠ .defer c) (hen : Enters P f) (hrun : ∀ fn, P.funcs[f]? = some fn → fn.name ≠ "runtime.NumGoroutine" → fn.body.isSome = true → (execOp a.eval o).run P w = .ok (.enter f vs.toArray) w)
  (hc:Calls P f vs.toArray w fun e w'=>∃ u m',e=.returned u/\Step lo w m h w' m' h'/\Inv w' m' h'/\R w' (Live m' h') m' h' v u) {K:Act->World->Prop} {Q:Exit->Act->World->Prop} (hK:Then lo w m h v h' fun u w'=>K (a.put o.dst u) w'):o.wpIn (F8 ro) 0 P a w K Q:=by
 obtain⟨fn,h1,h2,h3⟩:=hen;refine⟨fun _ _=>trivial, ?_⟩;rw[Oper.semAt_eq _ _ _ hd,hrun fn h1 h2 h3,Oper.uponIn_enter];refine⟨fun h=>by simp[Fence.wide]at h, ?_⟩
 have alE:CallsIn (F8 ro) (0-1) P f vs.toArray w _:=callsIn_wide.mpr hc;refine alE.mono fun e w' hR=>?_;obtain⟨u,m',rfl,hs,hinv,hres⟩:=hR;exact hK u w' m' hs hinv hres
theorem ayv{ro:Option Nat}(hc:Rk P eB call)(hi:Inv w m h)(he:uO w m h env a)(hlo:cx.lo<=cx.base)(hb:cx.base<=h.length){x:XI}{v:AV}{h':Heap}
  (hk:mg P o x=true) (hx:xi call cx env h x=some (v,h')) {K:Act->World->Prop} {Q:Exit->Act->World->Prop} (hK:Then cx.lo w m h v h' fun u w'=>K (a.put o.dst u) w'):o.wpIn (F8 ro) 0 P a w K Q:=by
 have hd:=ayr hk
 cases x with
 |dx x =>
  simp only[xi,dz,bf]at hx;obtain⟨rfl,rfl⟩:=hx
  exact(aEj he hk).wp hd hi hK
 |JO x =>
  simp only[xi,mE,bf]at hx;obtain⟨v',hv,rfl,rfl⟩:=hx
  exact(aEk he hk hv).wp hd hi hK
 |pick c x y =>
  simp only[xi,mE,bf]at hx;obtain⟨r,hv,rfl,rfl⟩:=hx
  exact(aEl he hk hv).wp hd hi hK
 |bin op x y =>
  simp only[xi,mE,bf]at hx;obtain⟨r,hv,rfl,rfl⟩:=hx
  exact(aEm he hk hv).wp hd hi hK
 |un op x =>
  simp only[xi,mE,bf]at hx;obtain⟨r,hv,rfl,rfl⟩:=hx
  exact(aEn he hk hv).wp hd hi hK
 |conv k x =>
  simp only[xi,mE,bf]at hx;obtain⟨r,hv,rfl,rfl⟩:=hx
  exact(aEo he hk hv).wp hd hi hK
 |eqv neg ks x y =>
  simp only[xi,mE,bf]at hx;obtain⟨r,hv,rfl,rfl⟩:=hx
  exact(aEq he hk hv).wp hd hi hK
 |len s x =>
  simp only[xi,mE,bf]at hx;obtain⟨r,hv,rfl,rfl⟩:=hx
  exact(aEr he hk hv).wp hd hi hK
 |NM mx xs =>
  simp only[xi,mE,bf]at hx;obtain⟨r,hv,rfl,rfl⟩:=hx
  exact(aEt he hk hv).wp hd hi hK
 |ext x i =>
  simp only[xi,mE,bf]at hx;obtain⟨r,hv,rfl,rfl⟩:=hx
  exact(aEu he hk hv).wp hd hi hK
 |build zero parts =>
  simp only[xi,mE,bf]at hx;obtain⟨r,hv,rfl,rfl⟩:=hx
  exact(aE4 he hk hv).wp hd hi hK
 |pF z zero n parts =>
  simp only[xi,mE,bf]at hx;obtain⟨⟨es,h1⟩,hv,rfl,rfl⟩:=hx
  exact Made.wp (aE7 hi he hk hv hlo) hd hK
 |JI x k =>
  simp only[xi,mE,bf]at hx;obtain⟨r,hv,rfl,rfl⟩:=hx
  exact(aEv he hk hv).wp hd hi hK
 |SS n size x i =>
  simp only[xi,bE,mE,bf]at hx;obtain⟨j,hj,r,hv,rfl,rfl⟩:=hx
  exact(aEx he hk hj hv).wp hd hi hK
 |TT z x i =>
  simp only[xi]at hx;split at hx
  ·rename_i hz;simp only[bE,mE,bf]at hx;obtain⟨n,hn,j,hj,rfl,rfl⟩:=hx;exact(aEy hi he hk hz hn hj).wp hd hi hK
  ·cases hx
 |Oa x i =>
  simp only[xi]at hx;split at hx
  ·rename_i l hl;simp only[bE,mE,bf]at hx;obtain⟨j,hj,b,hb',rfl,rfl⟩:=hx;exact(aEz he hk hl hj hb').wp hd hi hK
  ·cases hx
 |slice z x lo hi' =>
  simp only[xi,mE,bf]at hx;obtain⟨r,hv,rfl,rfl⟩:=hx
  cases z with
  |none =>
   simp only[Rc]at hv;split at hv
   ·rename_i l hl;simp only[bE,mE]at hv;obtain⟨b,hb',l',hl',rfl⟩:=hv;exact(aEA he hk hl hb' hl').wp hd hi hK
   ·cases hv
  |some z=>exact(aEB hi he hk hv).wp hd hi hK
 |load sh x =>
  simp only[xi,bE,mE,bf]at hx;obtain⟨cs,hcs,r,hv,rfl,rfl⟩:=hx
  exact(aEC hi he hk hcs hv).wp hd hi hK
 |store sz x v' =>
  simp only[xi,mE,bf]at hx;obtain⟨h1,hp,rfl,rfl⟩:=hx;obtain⟨w',m',h1,h2,h3⟩:=aEN hi he hk hp hlo
  exact aFk hd h1 (hK undef w' m' h2 h3 (by simp[R]))
 |alloc s zero =>
  simp only[xi,mE,bf]at hx;obtain⟨⟨ak,h1⟩,hm,rfl,rfl⟩:=hx
  exact Made.wp (aEE hi hk hm hlo) hd hK
 |box s x =>
  simp only[xi]at hx;split at hx
  ·rename_i hv;simp only[mE,bf]at hx;obtain⟨⟨ak,h1⟩,hm,rfl,rfl⟩:=hx;exact Made.wp (aEF hi he hk hv hm hlo) hd hK
  ·cases hx
 |nK x =>
  simp only[xi]at hx;split at hx
  ·rename_i hv;simp only[mE,bf]at hx;obtain⟨⟨v',h1⟩,hf,rfl,rfl⟩:=hx;exact Made.wp (aEG hi he hk hv hf hlo) hd hK
  ·cases hx
 |mk s z zero lim n c =>
  simp only[xi]at hx;split at hx
  ·rename_i kn p kc q hn hc';split at hx
   ·rename_i hz;simp only[dz,bf]at hx;obtain⟨rfl,rfl⟩:=hx;obtain⟨_,rfl,rfl⟩:=hz;exact Made.wp (aEJ hi he hk hn hc') hd hK
   split at hx
   ·rename_i hcond;simp only[mE,bf]at hx;obtain⟨⟨ak,h1⟩,hm,rfl,rfl⟩:=hx;exact Made.wp (aEI (s:=sOf s) hi he hk hn hc' hcond.1 hcond.2.1 hcond.2.2 hm hlo) hd hK
   ·cases hx
  ·cases hx
 |app s z lim x y =>
  simp only[xi,bE]at hx;obtain⟨xs,hy,hv⟩:=hx
  exact Made.wp (aFo hi he hk hy hv hlo) hd hK
 |copy z x y =>
  simp only[xi,bE]at hx;obtain⟨ys,hy,hv⟩:=hx
  exact Made.wp (aEZ hi he hk hy hv) hd hK
 |Zq x=>simp[xi]at hx
 |LM f caps =>
  simp only[xi,dz,bf]at hx;obtain⟨rfl,rfl⟩:=hx;refine Reads.wp ?_ hd hi hK;simp only[mg]at hk;split at hk
  ·rename_i g cs hop;simp only[fw,beq_iff_eq,decide_eq_true_eq]at hk;obtain⟨⟨rfl,hlt⟩,hk⟩:=hk;have ra:=ajV he hk;refine⟨.func (.func f) #[] (cs.toList.map a.eval).toArray, ?_, ?_⟩
   ·have harr:cs.map a.eval=(cs.toList.map a.eval).toArray:=by rw[<-Array.toList_map,Array.toArray_toList]
    have hnil:Array.map a.eval (⟨[]⟩:Array Operand)=#[]:=by simp
    simp only[execOp,hop,Instr.makeFunc,Sem.run_bind,Sem.run_pure,Result.andThen_ok,harr,hnil]
   ·simp only[R];exact⟨_,(if_pos hlt).symm,ra⟩
  ·rename_i g cs _ hop;simp only[fw,beq_iff_eq]at hk;obtain⟨rfl,hk⟩:=hk;have ra:=ajV he hk;refine⟨.func (.func g) (cs.toList.map a.eval).toArray #[], ?_, ?_⟩
   ·have harr:cs.map a.eval=(cs.toList.map a.eval).toArray:=by rw[<-Array.toList_map,Array.toArray_toList]
    have hnil:Array.map a.eval (⟨[]⟩:Array Operand)=#[]:=by simp
    simp only[execOp,hop,Instr.makeFunc,Sem.run_bind,Sem.run_pure,Result.andThen_ok,harr,hnil]
   ·simp only[R];refine⟨_, ?_,ra⟩;unfold fnV;rw[if_neg (by omega),Nat.add_sub_cancel]
  ·cases hk
 |call f args own=>exact ar0 hc hi he hlo hb hk hx hK
 |Rb t f args =>
  obtain⟨id,v,o',g,caps,_,_,hc1,hx1⟩:=arB hx
  exact ar0 (cx:=⟨cx.lo,id-1,1,none⟩) (own:=[(0,0)]) hc hi he (by show cx.lo<=id-1;omega) (by show id-1<=h.length;omega) (by simpa only[mg]using hk) hx1 hK
 |FH ts f args=>exact ar0 (own:=[]) hc hi he hlo hb (by simpa only[mg]using hk) (alc hx).1 hK
 |Zp t x =>
  simp only[xi]at hx;split at hx
  ·simp only[dz,bf]at hx;obtain⟨rfl,rfl⟩:=hx;exact(aE' he hk).wp hd hi hK
  ·cases hx
 |YX x =>
  simp only[xi,bE,mE,bf]at hx;obtain⟨es,h1,l,h2,rfl,rfl⟩:=hx
  exact(aFa hi he hk h1 h2).wp hd hi hK
 |Zo s =>
  simp only[xi,mE,bf]at hx;obtain⟨⟨ak,h1⟩,hm,rfl,rfl⟩:=hx
  exact Made.wp (aFg hi hk hm hlo) hd hK
 |YV s f x y =>
  simp only[xi]at hx;obtain⟨vs,hen,hrun,hcall⟩:=aFh hi he hk hx hlo hc.wr
  exact ayu hd hen hrun hcall hK
 |YW f x =>
  simp only[xi,mE,bf]at hx;obtain⟨v',hv,rfl,rfl⟩:=hx;obtain⟨vs,hen,hrun,hcall⟩:=aFj hi he hk hv hc.bs;exact ayu hd hen hrun hcall hK
end
end Go.VI
