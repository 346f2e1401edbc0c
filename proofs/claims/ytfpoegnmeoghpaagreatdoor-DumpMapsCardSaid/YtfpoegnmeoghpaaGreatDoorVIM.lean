/- Every operation; lists of operations; regions that draw their order. -/
import Derived.Test.YtfpoegnmeoghpaaGreatDoorVISB
set_option linter.unusedVariables false
set_option linter.unusedSimpArgs false
namespace Go.VI
set_option linter.unusedSectionVars false
variable [dH][Rounds]
section
variable {w:World}{m:Map}{h:Heap}{P:Program}{env:Env}{a:Act}{o:Oper}{X:Nat->Prop}{aZ:Nat->Bool}{call:Callee}{cx:Cx}
def Then(lo:Nat)(w:World)(m:Map)(h:Heap)(v:AV)(h':Heap)(K:Value->World->Prop):Prop :=
 ∀ u w' m',Step lo w m h w' m' h'->Inv w' m' h'->R w' (Live m' h') m' h' v u->K u w'
theorem X9{x:XI}(hk:fw P o x=true):∀ c,o.op≠.defer c:=by
 intro c hc;cases x<;>simp[fw,hc]at hk
theorem Ya{ro:Option Nat}{u:Value}{w':World}{K:Act->World->Prop}{Q:Exit->Act->World->Prop}(hd:∀ c,o.op≠.defer c)(h:(execOp a.eval o).run P w=.ok (.value u) w')(hK:K (a.put o.dst u) w'):o.wpIn (mQ ro) 0 P a w K Q :=
 ⟨fun _ _=>trivial,by rw[Oper.semAt_eq _ _ _ hd,h];exact hK⟩
theorem agh{ro:Option Nat}{w':World}{K:Act->World->Prop}{Q:Exit->Act->World->Prop}(hd:∀ c,o.op≠.defer c)(h:(execOp a.eval o).run P w=.ok .skip w')(hK:K (a.put o.dst undef) w'):o.wpIn (mQ ro) 0 P a w K Q :=
 ⟨fun _ _=>trivial,by rw[Oper.semAt_eq _ _ _ hd,h];exact hK⟩
theorem Reads.wp{ro:Option Nat}{v:AV}{lo:Nat}{K:Act->World->Prop}{Q:Exit->Act->World->Prop}(hr:Reads P w m h a o v)(hd:∀ c,o.op≠.defer c)(hi:Inv w m h)(hK:Then lo w m h v h fun u w'=>K (a.put o.dst u) w'):o.wpIn (mQ ro) 0 P a w K Q:=by
 obtain⟨u,h1,h2⟩:=hr;exact Ya hd h1 (hK u w m (Step.refl _ _ _ _) hi h2)
theorem Made.wp{ro:Option Nat}{v:AV}{h':Heap}{K:Act->World->Prop}{Q:Exit->Act->World->Prop}(hr:∃ u w' m',(execOp a.eval o).run P w=.ok (.value u) w'/\Step cx.lo w m h w' m' h'/\Inv w' m' h'/\R w' (Live m' h') m' h' v u)(hd:∀ c,o.op≠.defer c)
  (hK:Then cx.lo w m h v h' fun u w'=>K (a.put o.dst u) w'):o.wpIn (mQ ro) 0 P a w K Q:=by
 obtain⟨u,w',m',h1,h2,h3,h4⟩:=hr;exact Ya hd h1 (hK u w' m' h2 h3 h4)
theorem agi{ro:Option Nat}(hc:sV P aZ call)(hi:Inv w m h){id ai:Nat}{args:List AV}{v:AV}{h':Heap}{vs:List Value}{u0:Value}(hx:iY call cx id ai args h=some (v,h'))(hu:R w (Live m h) m h (.dY id ai) u0)(ra:RL w (Live m h) m h args vs)
  (hd:∀ c,o.op≠.defer c) (hrun:∀ l r,u0=.func (.yield l) #[] #[]->w.heap[l]?=some (.loop r)->r.params.size=vs.length->(execOp a.eval o).run P w=.ok (.round l r.fn (AB r vs) r.assign r.body) w)
  {K:Act->World->Prop} {Q:Exit->Act->World->Prop} (hK:Then cx.lo w m h v h' fun u w'=>K (a.put o.dst u) w'):o.wpIn (mQ ro) 0 P a w K Q:=by
 unfold iY at hx;split at hx
 ·rename_i v0 d hid;split at hx
  ·rename_i hcond;obtain⟨rfl,hlo,hlo2,_,hcl⟩:=hcond;simp only[mE,aB]at hx;obtain⟨⟨e,h1⟩,hrd,rfl,rfl⟩:=hx;simp only[R]at hu;obtain⟨kn,l,hu,v1,kJ,q1,q2,q3⟩:=hu;rw[hid]at q1;cases q1;obtain⟨hkn,hml⟩:=q3 rfl d .ready rfl;simp only[RS.Gp]at hkn;subst hkn;subst hu;obtain⟨b,ob,e1,e2,e3⟩:=hi.ax id _ d .ready hid;rw[hml]at e1;cases e1;have e3':=e3;obtain⟨r,rfl,_⟩:=e3';obtain⟨hps,agj⟩:=hc.kW hrd hi hid hlo2 hml e2 e3 ra;refine⟨fun _ _=>trivial, ?_⟩;rw[Oper.semAt_eq _ _ _ hd,hrun l r rfl e2 hps,Oper.uponIn_round];refine⟨fun h=>by simp[Fence.wide]at h, ?_⟩
   have agk:RoundIn (mQ ro) (0-1) P l r.fn (AB r vs) r.assign r.body w fun e' w'=>∃ m',e'=.returned (.bool (e==.norm))/\Step d.lo w m h w' m' h1/\Inv w' m' h1:=agj;refine agk.mono ?_;rintro e' w' ⟨m',rfl,hs,hinv⟩;exact hK _ w' m' (hs.mono hlo) hinv (by simp[R,RC])
  ·cases hx
 ·cases hx
def sW(g:Nat)(xs vs:List Value):List Value:=if g<1000 then xs++vs else vs++xs
theorem Yd{X:Nat->Prop}{g:Nat}{bs cs:List AV}{xs vs:List Value}(h1:RL w X m h bs xs)(h2:RL w X m h cs vs):RL w X m h (pO g bs cs) (sW g xs vs):=by
 unfold pO sW;split
 ·exact NJ h1 h2
 ·exact NJ h2 h1
theorem agl{cx:Cx}(hi:Inv w m h)(he:jb w m h env a){s z lim:Nat}{x y:aL}{xs:List AV}{v:AV}{h':Heap}(hk:fw P o (.app s z lim x y)=true)
  (hy:sP h z (y.ev env)=some xs) (hv:Db cx s z lim (x.ev env) xs h=some (v,h')) (hlo:cx.lo<=cx.base) :
  ∃ u w' m',(execOp a.eval o).run P w=.ok (.value u) w'/\Step cx.lo w m h w' m' h'/\Inv w' m' h'/\R w' (Live m' h') m' h' v u:=by
 unfold Db at hv;split at hv
 ·exact XG hi he hk hy hv hlo
 ·obtain⟨⟨v1,h1⟩,h2,h3⟩:=bE.mp hv;have hk':fw P o (.app (s-1000) z lim x y)=true:=by simpa only[fw]using hk
  obtain⟨u,w',m',e1,e2,e3,e4⟩:=XG hi he hk' hy h2 hlo;obtain⟨s2,i2,r2⟩:=EO hlo _ _ _ _ _ e3 e4 h3;exact⟨u,w',m',e1,e2.trans s2,i2,R.yu _ _ r2⟩
theorem Ye{ro:Option Nat}(hc:sV P aZ call)(hi:Inv w m h)(he:jb w m h env a)(hlo:cx.lo<=cx.base)(hb:cx.base<=h.length){f:aL}{args:List aL}{own:List (Nat×Nat)}{v:AV}{h':Heap}
  (hk:fw P o (.call f args own)=true) (hx:xi call cx env h (.call f args own)=some (v,h')) {K:Act->World->Prop} {Q:Exit->Act->World->Prop} (hK:Then cx.lo w m h v h' fun u w'=>K (a.put o.dst u) w'):o.wpIn (mQ ro) 0 P a w K Q:=by
 have hd:=X9 hk;simp only[fw]at hk;split at hk
 ·rename_i g as ts hop;simp only[bM]at hk;obtain⟨k1,k2⟩:=hk;have rf:=iQ he k1;have ra:=Gw he k2;simp only[xi]at hx;split at hx
  ·rename_i vw caps hf;rw[hf]at rf;simp only[R]at rf;obtain⟨vs,ef,rc⟩:=rf;obtain⟨⟨r,h1⟩,hcall,hx2⟩:=bE.mp hx;clear hx;have hx:=hx2;clear hx2;dsimp only at hx;obtain⟨⟨fn,hfn,hname,hbody⟩,RF⟩:=hc.does hcall;have RG:=RF w m (sW vw (as.toList.map a.eval) vs) hi (Yd ra rc) (by omega)
   have hrun:(execOp a.eval o).run P w=.ok (.enter (jr vw) (sW vw (as.toList.map a.eval) vs).toArray) w:=by
    have hb':fn.body.isNone=false:=by cases ET:fn.body<;>simp_all
    by_cases hg:vw<1000
    ·have harr:as.map a.eval++vs.toArray=(as.toList.map a.eval++vs).toArray:=by
      apply Array.ext';simp
     have e1:jr vw=vw:=by unfold jr;rw[if_pos hg]
     have e2:sW vw (as.toList.map a.eval) vs=as.toList.map a.eval++vs:=by unfold sW;rw[if_pos hg]
     have RH:a.eval g=.func (.func vw) #[] vs.toArray:=by rw[ef];unfold Aw;rw[if_pos hg]
     rw[e1]at hfn⊢;rw[e2];simp only[execOp,hop,resolve,Deferred.ofValue,RH,invoke,callFunc,Sem.run_bind,Sem.run_pure,Result.andThen_ok,run_program,hfn];simp[hname,hb',harr]
    ·have harr:vs.toArray++as.map a.eval=(vs++as.toList.map a.eval).toArray:=by
      apply Array.ext';simp
     have e1:jr vw=vw-1000:=by unfold jr;rw[if_neg hg]
     have e2:sW vw (as.toList.map a.eval) vs=vs++as.toList.map a.eval:=by unfold sW;rw[if_neg hg]
     have RH:a.eval g=.func (.func (vw-1000)) vs.toArray #[]:=by rw[ef];unfold Aw;rw[if_neg hg]
     rw[e1]at hfn⊢;rw[e2];generalize vw-1000=arJ at*;simp only[execOp,hop,resolve,Deferred.ofValue,RH,invoke,callFunc,Sem.run_bind,Sem.run_pure,Result.andThen_ok,run_program,hfn];simp[hname,hb',harr]
   refine⟨fun _ _=>trivial, ?_⟩;rw[Oper.semAt_eq _ _ _ hd,hrun,Oper.uponIn_enter];refine⟨fun h=>by simp[Fence.wide]at h, ?_⟩
   have Kj:CallsIn (mQ ro) (0-1) P (jr vw) (sW vw (as.toList.map a.eval) vs).toArray w _:=callsIn_wide.mpr RG;refine Kj.mono fun e w' hR=>?_;obtain⟨u,m',rfl,hs,hinv,hres⟩:=hR
   show K (a.put o.dst u) w'
   split at hx
   ·-- nothing is taken over
    simp only[aS,aB]at hx;obtain⟨rfl,rfl⟩:=hx;exact hK u w' m' hs hinv hres.weak
   ·rename_i hne;obtain⟨B,hn,hB,hix,hg⟩:=hres
    have hclosed:∀{vv:AV} {h2:Heap},(∃ us cs cs',jH w' (fun b=>Live m' h1 b\/b∈B) m' h1 B cs us/\qB cx own cs h1=some (cs',h2) /\
      ∀ m2,RL w' (Live m2 h2) m2 h2 (cs'.map kg) us->R w' (Live m2 h2) m2 h2 vv u)->h'=h2->v=vv->K (a.put o.dst u) w':=by
     rintro vv h2 ⟨us,cs,cs',hg,ht,hfin⟩ rfl rfl;have agm:Over cx.lo w m h w' (fun b=>Live m' h1 b\/b∈B) m' h1:=⟨hs,hinv.len,hix.blk,hix.ax,hinv.inj,fun b hb=>.inl hb⟩;obtain⟨m2,B',ho2,hB',hg'⟩:=Ki (lo:=cx.lo) hlo own B cs cs' us m' h1 h' agm hn (fun b hb=>⟨(hB b hb).1,(hB b hb).2,.inr hb⟩) hg ht;exact hK u w' m2 ho2.step (ho2.inv hi.kI) (hfin m2 (jH.weak ho2.sub hB' hg'))
    split at hx
    ·rename_i cs;obtain⟨⟨cs',h2⟩,ht,hx⟩:=mE.mp hx;simp only[aB]at hx;obtain⟨rfl,rfl⟩:=hx;simp only[uL]at hg;obtain⟨us,rfl,hg⟩:=hg;refine hclosed ⟨us,cs,cs',hg,ht,fun m2 hl=>?_⟩ rfl rfl;simp only[weak,R];exact⟨us,rfl,hl⟩
    ·rename_i hnt;obtain⟨⟨cs',h2⟩,ht,hx⟩:=bE.mp hx;simp only[mE,aB]at hx;obtain⟨v',hv',rfl,rfl⟩:=hx
     have hg1:lI w' (fun b=>Live m' h1 b\/b∈B) m' h1 B r u:=by
      unfold uL at hg;split at hg
      ·exact absurd rfl (hnt _)
      ·exact hg
     refine hclosed ⟨[u],[r],cs', ?_,ht,fun m2 hl=>?_⟩ rfl rfl
     ·simp only[jH];exact⟨B,[],u,[],by simp,rfl,hg1,rfl,rfl⟩
     ·cases cs' with
      |nil=>simp at hv'
      |cons q qs =>
       simp at hv';subst hv';simp only[List.map_cons,RL]at hl;obtain⟨u',jg,e,hr,_⟩:=hl;cases e
       cases q with
       |tuple cs=>simp only[kg]at hr;exact af0 hr
       |_=>exact hr
  ·rename_i id ai hf;split at hx
   ·rename_i hown;rw[hf]at rf;refine agi (vs:=as.toList.map a.eval) (u0:=a.eval g) hc hi hx rf ra hd (fun l r hl hlp hps=>?_) hK
    have harr:as.map a.eval=(as.toList.map a.eval).toArray:=by
     apply Array.ext';simp
    simp only[List.length_map,Array.length_toList]at hps;have hy:=run_yield (P:=P) (args:=(as.toList.map a.eval).toArray) hlp (by simp[hps])
    simp only[execOp,hop,resolve,Deferred.ofValue,hl,invoke,callFunc,Sem.run_bind,Sem.run_pure,Result.andThen_ok];rw[harr];simpa[AB]using hy
   ·cases hx
  ·cases hx
 ·cases hk
theorem Yj {ro : Option Nat} {f : FuncId} {vs : List Value} {lo : Nat} {v : AV} {h' : Heap} (hd : ∀ c, o.op ≠ .defer c) (hen : Enters P f) (hrun : ∀ fn, P.funcs[f]? = some fn → fn.name ≠ "runtime.NumGoroutine" → fn.body.isSome = true → (execOp a.eval o).run P w = .ok (.enter f vs.toArray) w)
  (hc:Calls P f vs.toArray w fun e w'=>∃ u m',e=.returned u/\Step lo w m h w' m' h'/\Inv w' m' h'/\R w' (Live m' h') m' h' v u) {K:Act->World->Prop} {Q:Exit->Act->World->Prop} (hK:Then lo w m h v h' fun u w'=>K (a.put o.dst u) w'):o.wpIn (mQ ro) 0 P a w K Q:=by
 obtain⟨fn,h1,h2,h3⟩:=hen;refine⟨fun _ _=>trivial, ?_⟩;rw[Oper.semAt_eq _ _ _ hd,hrun fn h1 h2 h3,Oper.uponIn_enter];refine⟨fun h=>by simp[Fence.wide]at h, ?_⟩
 have Kj:CallsIn (mQ ro) (0-1) P f vs.toArray w _:=callsIn_wide.mpr hc;refine Kj.mono fun e w' hR=>?_;obtain⟨u,m',rfl,hs,hinv,hres⟩:=hR;exact hK u w' m' hs hinv hres
theorem Yl{ro:Option Nat}(hc:sV P aZ call)(hi:Inv w m h)(he:jb w m h env a)(hlo:cx.lo<=cx.base)(hb:cx.base<=h.length){x:XI}{v:AV}{h':Heap}
  (hk:fw P o x=true) (hx:xi call cx env h x=some (v,h')) {K:Act->World->Prop} {Q:Exit->Act->World->Prop} (hK:Then cx.lo w m h v h' fun u w'=>K (a.put o.dst u) w'):o.wpIn (mQ ro) 0 P a w K Q:=by
 have hd:=X9 hk
 cases x with
 |bf x =>
  simp only[xi,aS,aB]at hx;obtain⟨rfl,rfl⟩:=hx
  exact(ae' he hk).wp hd hi hK
 |BO neg x =>
  simp only[xi,mE,aB]at hx;obtain⟨v',hv,rfl,rfl⟩:=hx
  exact(afa he hk hv).wp hd hi hK
 |qQ x =>
  simp only[xi,mE,aB]at hx;obtain⟨v',hv,rfl,rfl⟩:=hx
  exact(afb he hk hv).wp hd hi hK
 |pick c x y =>
  simp only[xi,mE,aB]at hx;obtain⟨r,hv,rfl,rfl⟩:=hx
  exact(afc he hk hv).wp hd hi hK
 |bin op x y =>
  simp only[xi,mE,aB]at hx;obtain⟨r,hv,rfl,rfl⟩:=hx
  exact(afd he hk hv).wp hd hi hK
 |un op x =>
  simp only[xi,mE,aB]at hx;obtain⟨r,hv,rfl,rfl⟩:=hx
  exact(afe he hk hv).wp hd hi hK
 |conv k x =>
  simp only[xi,mE,aB]at hx;obtain⟨r,hv,rfl,rfl⟩:=hx
  exact(aff he hk hv).wp hd hi hK
 |eqv neg ks x y =>
  simp only[xi,mE,aB]at hx;obtain⟨r,hv,rfl,rfl⟩:=hx
  exact(afh he hk hv).wp hd hi hK
 |len s x =>
  simp only[xi,mE,aB]at hx;obtain⟨r,hv,rfl,rfl⟩:=hx
  exact(afi he hk hv).wp hd hi hK
 |u6 mx xs =>
  simp only[xi,mE,aB]at hx;obtain⟨r,hv,rfl,rfl⟩:=hx
  exact(afk he hk hv).wp hd hi hK
 |ext x i =>
  simp only[xi,mE,aB]at hx;obtain⟨r,hv,rfl,rfl⟩:=hx
  exact(afl he hk hv).wp hd hi hK
 |build zero parts =>
  simp only[xi,mE,aB]at hx;obtain⟨r,hv,rfl,rfl⟩:=hx
  exact(afW he hk hv).wp hd hi hK
 |gW z zero n parts =>
  simp only[xi,mE,aB]at hx;obtain⟨⟨es,h1⟩,hv,rfl,rfl⟩:=hx
  exact Made.wp (afZ hi he hk hv hlo) hd hK
 |pM x k =>
  simp only[xi,mE,aB]at hx;obtain⟨r,hv,rfl,rfl⟩:=hx
  exact(afm he hk hv).wp hd hi hK
 |zi n size x i =>
  simp only[xi,bE,mE,aB]at hx;obtain⟨j,hj,r,hv,rfl,rfl⟩:=hx
  exact(afo he hk hj hv).wp hd hi hK
 |u7 z x i =>
  simp only[xi]at hx;split at hx
  ·rename_i hz;simp only[bE,mE,aB]at hx;obtain⟨n,hn,j,hj,rfl,rfl⟩:=hx;exact(afp hi he hk hz hn hj).wp hd hi hK
  ·cases hx
 |rY x i =>
  simp only[xi]at hx;split at hx
  ·rename_i l hl;simp only[bE,mE,aB]at hx;obtain⟨j,hj,b,hb',rfl,rfl⟩:=hx;exact(afq he hk hl hj hb').wp hd hi hK
  ·cases hx
 |slice z x lo hi' =>
  simp only[xi,mE,aB]at hx;obtain⟨r,hv,rfl,rfl⟩:=hx
  cases z with
  |none =>
   simp only[pQ]at hv;split at hv
   ·rename_i l hl;simp only[bE,mE]at hv;obtain⟨b,hb',l',hl',rfl⟩:=hv;exact(afr he hk hl hb' hl').wp hd hi hK
   ·cases hv
  |some z=>exact(afs hi he hk hv).wp hd hi hK
 |load sh x =>
  simp only[xi,bE,mE,aB]at hx;obtain⟨cs,hcs,r,hv,rfl,rfl⟩:=hx
  exact(aft hi he hk hcs hv).wp hd hi hK
 |store sz x v' =>
  simp only[xi,mE,aB]at hx;obtain⟨h1,hp,rfl,rfl⟩:=hx;obtain⟨w',m',h1,h2,h3⟩:=afF hi he hk hp hlo
  exact agh hd h1 (hK undef w' m' h2 h3 (by simp[R]))
 |alloc s zero =>
  simp only[xi,mE,aB]at hx;obtain⟨⟨ai,h1⟩,hm,rfl,rfl⟩:=hx
  exact Made.wp (afv hi hk hm hlo) hd hK
 |box s x =>
  simp only[xi]at hx;split at hx
  ·rename_i hv;simp only[mE,aB]at hx;obtain⟨⟨ai,h1⟩,hm,rfl,rfl⟩:=hx;exact Made.wp (afw hi he hk hv hm hlo) hd hK
  ·cases hx
 |dV x =>
  simp only[xi]at hx;split at hx
  ·rename_i hv;simp only[mE,aB]at hx;obtain⟨⟨v',h1⟩,hf,rfl,rfl⟩:=hx;exact Made.wp (afx hi he hk hv hf hlo) hd hK
  ·cases hx
 |mk s z zero lim n c =>
  simp only[xi]at hx;split at hx
  ·rename_i kn p kc q hn hc';split at hx
   ·rename_i hz;simp only[aS,aB]at hx;obtain⟨rfl,rfl⟩:=hx;obtain⟨_,rfl,rfl⟩:=hz;exact Made.wp (afA hi he hk hn hc') hd hK
   split at hx
   ·rename_i hcond;simp only[mE,aB]at hx;obtain⟨⟨ai,h1⟩,hm,rfl,rfl⟩:=hx;exact Made.wp (afz (s:=BR s) hi he hk hn hc' hcond.1 hcond.2.1 hcond.2.2 hm hlo) hd hK
   ·cases hx
  ·cases hx
 |app s z lim x y =>
  simp only[xi,bE]at hx;obtain⟨xs,hy,hv⟩:=hx
  exact Made.wp (agl hi he hk hy hv hlo) hd hK
 |copy z x y =>
  simp only[xi,bE]at hx;obtain⟨ys,hy,hv⟩:=hx
  exact Made.wp (afR hi he hk hy hv) hd hK
 |zw x=>simp[xi]at hx
 |qA f caps =>
  simp only[xi,aS,aB]at hx;obtain⟨rfl,rfl⟩:=hx;refine Reads.wp ?_ hd hi hK;simp only[fw]at hk;split at hk
  ·rename_i g cs hop;simp only[bM,beq_iff_eq,decide_eq_true_eq]at hk;obtain⟨⟨rfl,hlt⟩,hk⟩:=hk;have ra:=Gw he hk;refine⟨.func (.func f) #[] (cs.toList.map a.eval).toArray, ?_, ?_⟩
   ·have harr:cs.map a.eval=(cs.toList.map a.eval).toArray:=by rw[<-Array.toList_map,Array.toArray_toList]
    have hnil:Array.map a.eval (⟨[]⟩:Array Operand)=#[]:=by simp
    simp only[execOp,hop,Instr.makeFunc,Sem.run_bind,Sem.run_pure,Result.andThen_ok,harr,hnil]
   ·simp only[R];exact⟨_,(if_pos hlt).symm,ra⟩
  ·rename_i g cs _ hop;simp only[bM,beq_iff_eq]at hk;obtain⟨rfl,hk⟩:=hk;have ra:=Gw he hk;refine⟨.func (.func g) (cs.toList.map a.eval).toArray #[], ?_, ?_⟩
   ·have harr:cs.map a.eval=(cs.toList.map a.eval).toArray:=by rw[<-Array.toList_map,Array.toArray_toList]
    have hnil:Array.map a.eval (⟨[]⟩:Array Operand)=#[]:=by simp
    simp only[execOp,hop,Instr.makeFunc,Sem.run_bind,Sem.run_pure,Result.andThen_ok,harr,hnil]
   ·simp only[R];refine⟨_, ?_,ra⟩;unfold Aw;rw[if_neg (by omega),Nat.add_sub_cancel]
  ·cases hk
 |call f args own=>exact Ye hc hi he hlo hb hk hx hK
 |mH ts f args=>exact Ye (own:=[]) hc hi he hlo hb (by simpa only[fw]using hk) (Jw hx).1 hK
 |zl t x =>
  simp only[xi]at hx;split at hx
  ·simp only[aS,aB]at hx;obtain⟨rfl,rfl⟩:=hx;exact(af5 he hk).wp hd hi hK
  ·cases hx
 |yh x =>
  simp only[xi,bE,mE,aB]at hx;obtain⟨es,h1,l,h2,rfl,rfl⟩:=hx
  exact(af6 hi he hk h1 h2).wp hd hi hK
 |zk s =>
  simp only[xi,mE,aB]at hx;obtain⟨⟨ai,h1⟩,hm,rfl,rfl⟩:=hx
  exact Made.wp (agb hi hk hm hlo) hd hK
 |yc s f x y =>
  simp only[xi]at hx;obtain⟨vs,hen,hrun,hcall⟩:=agc hi he hk hx hlo hc.wr
  exact Yj hd hen hrun hcall hK
 |yg f x =>
  simp only[xi,mE,aB]at hx;obtain⟨v',hv,rfl,rfl⟩:=hx;obtain⟨vs,hen,hrun,hcall⟩:=agf hi he hk hv hc.bs;exact Yj hd hen hrun hcall hK
end
end Go.VI
