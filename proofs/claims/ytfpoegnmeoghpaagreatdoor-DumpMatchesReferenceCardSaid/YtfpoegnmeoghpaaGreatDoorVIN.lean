/- Lists of operations, and regions in whatever order their edges allow. -/
import Derived.Test.YtfpoegnmeoghpaaGreatDoorVIM
set_option linter.unusedVariables false
set_option linter.unusedSimpArgs false
namespace Go.VI
set_option linter.unusedSectionVars false
variable [bJ][Rounds]
theorem Env.KC(e:Env)(d:Nat)(v:AV)(t:Nat):(e.set d v).get t=if d=t then v else e.get t:=rfl
theorem Env.get_put(e:Env)(d:Option Nat)(v:AV)(t:Nat):(e.put d v).get t=if d=some t then v else e.get t:=by
 cases d with
 |none=>simp[Env.put]
 |some d=>simp[Env.put,Env.KC]
theorem Env.aa3(ps:List Nat)(e:Env)(t:Nat):(e.keep ps).get t=if ps.contains t then e.get t else .undef:=by
 unfold Env.keep
 induction ps with
 |nil=>simp[Env.get]
 |cons p r ih =>
  simp only[List.map_cons,Env.get,ih];by_cases h1:p=t
  ·subst h1;simp
  ·rw[if_neg h1];by_cases h2:r.contains t=true
   ·have h3:(p::r).contains t=true:=by simp at h2⊢;exact .inr h2
    rw[if_pos h2,if_pos h3]
   ·have h3:¬ (p::r).contains t=true:=by simp at h2⊢;exact⟨fun h=>h1 h.symm,h2⟩
    rw[if_neg h2,if_neg h3]
def pM(e e':Env):Prop:=∀ t,e.get t=e'.get t
def aK.tmps:aK->List Nat
 |.t i=>[i]
 |.c _=>[]
def KD:Option aK->List Nat
 |none=>[]
 |some x=>x.tmps
def XI.tmps:XI->List Nat
 |.aL x|.nV x|.un _ x|.conv _ x|.len _ x|.ext x _|.j6 x _|.load _ x|.box _ x|.bS x|.tV _ x|.rP x|.rO _ x|.tX x=>x.tmps
 |.pick c a b=>c.tmps++a.tmps++b.tmps
 |.bin _ x y|.eqv _ _ x y|.ng _ _ x y|.qy _ x y|.mK x y|.store _ x y|.copy _ x y|.mk _ _ _ _ x y|.app _ _ _ x y|.rM _ _ x y=>x.tmps++y.tmps
 |.alloc ..|.tT ..=>[]
 |.lJ _ xs|.l7 _ xs=>xs.flatMap aK.tmps
 |.build _ ps=>ps.flatMap fun p=>p.2.2.tmps
 |.bY _ _ _ ps=>ps.flatMap fun p=>p.2.tmps
 |.slice _ x lo hi=>x.tmps++KD lo++KD hi
 |.call f args _=>f.tmps++args.flatMap aK.tmps
theorem aK.fO{e e':Env}{x:aK}(h:∀ t∈x.tmps,e.get t=e'.get t):x.ev e=x.ev e':=by
 cases x with
 |t i=>exact h i (by simp[aK.tmps])
 |c v=>rfl
theorem KE{e e':Env}{xs:List aK}(h:∀ t∈xs.flatMap aK.tmps,e.get t=e'.get t):evs e xs=evs e' xs:=by
 unfold evs;refine List.map_congr_left fun x hx=>aK.fO fun t ht=>h t (List.mem_flatMap.mpr ⟨x,hx,ht⟩)
theorem Ri{e e':Env}{x:Option aK}(h:∀ t∈KD x,e.get t=e'.get t):x.map (·.ev e)=x.map (·.ev e'):=by
 cases x with
 |none=>rfl
 |some x=>simp only[Option.map_some];rw[aK.fO h]
theorem Rj{e e':Env}:∀{ps:List (Nat×Nat×aK)} {cs:List AV},(∀ t∈ps.flatMap (fun p=>p.2.2.tmps),e.get t=e'.get t)->lay e ps cs=lay e' ps cs
 |[],_,_=>rfl
 |(off,n,x)::ps,cs,h=>by
  simp only[List.flatMap_cons,iJ]at h;simp only[lay];rw[aK.fO (x:=x) (fun t ht=>h t (.inl ht))];have:lay e ps=lay e' ps:=funext fun cs=>Rj fun t ht=>h t (.inr ht);rw[this]
theorem Rk{e e':Env}{base z:Nat}:∀{ps:List (Nat×aK)} {es:List AV} {h:Heap},(∀ t∈ps.flatMap (fun p=>p.2.tmps),e.get t=e'.get t)->iV e base z ps es h=iV e' base z ps es h
 |[],_,_,_=>rfl
 |(i,x)::ps,es,h,hh=>by
  simp only[List.flatMap_cons,iJ]at hh;simp only[iV];rw[aK.fO (x:=x) (fun t ht=>hh t (.inl ht))];congr 1;funext p;obtain⟨v,h1⟩:=p;dsimp only;rw[Rk fun t ht=>hh t (.inr ht)]
theorem aa4{call:Callee}{cx:Cx}{e e':Env}{h:Heap}{o:XI}(hh:∀ t∈o.tmps,e.get t=e'.get t):xi call cx e h o=xi call cx e' h o:=by
 cases o<;>simp only[XI.tmps,iJ]at hh<;>simp only[xi]
 case aL x=>rw[aK.fO hh]
 case nV x=>rw[aK.fO hh]
 case un o x=>rw[aK.fO hh]
 case conv k x=>rw[aK.fO hh]
 case len s x=>rw[aK.fO hh]
 case ext x i=>rw[aK.fO hh]
 case j6 x k=>rw[aK.fO hh]
 case load sh x=>rw[aK.fO hh]
 case box s x=>rw[aK.fO hh]
 case bS x=>rw[aK.fO hh]
 case tV t x=>rw[aK.fO hh]
 case rP x=>rw[aK.fO hh]
 case rO f x=>rw[aK.fO hh]
 case rM s f x y=>rw[aK.fO (x:=x) (fun t ht=>hh t (.inl ht)),aK.fO (x:=y) (fun t ht=>hh t (.inr ht))]
 case pick c a b=>rw[aK.fO (x:=c) (fun t ht=>hh t (.inl (.inl ht))),aK.fO (x:=a) (fun t ht=>hh t (.inl (.inr ht))),aK.fO (x:=b) (fun t ht=>hh t (.inr ht))]
 case bin o x y=>rw[aK.fO (x:=x) (fun t ht=>hh t (.inl ht)),aK.fO (x:=y) (fun t ht=>hh t (.inr ht))]
 case eqv o ks x y=>rw[aK.fO (x:=x) (fun t ht=>hh t (.inl ht)),aK.fO (x:=y) (fun t ht=>hh t (.inr ht))]
 case ng n s x y=>rw[aK.fO (x:=x) (fun t ht=>hh t (.inl ht)),aK.fO (x:=y) (fun t ht=>hh t (.inr ht))]
 case qy z x y=>rw[aK.fO (x:=x) (fun t ht=>hh t (.inl ht)),aK.fO (x:=y) (fun t ht=>hh t (.inr ht))]
 case mK x y=>rw[aK.fO (x:=x) (fun t ht=>hh t (.inl ht)),aK.fO (x:=y) (fun t ht=>hh t (.inr ht))]
 case store sz x y=>rw[aK.fO (x:=x) (fun t ht=>hh t (.inl ht)),aK.fO (x:=y) (fun t ht=>hh t (.inr ht))]
 case copy z x y=>rw[aK.fO (x:=x) (fun t ht=>hh t (.inl ht)),aK.fO (x:=y) (fun t ht=>hh t (.inr ht))]
 case mk s z zero lim x y=>rw[aK.fO (x:=x) (fun t ht=>hh t (.inl ht)),aK.fO (x:=y) (fun t ht=>hh t (.inr ht))]
 case app s z lim x y=>rw[aK.fO (x:=x) (fun t ht=>hh t (.inl ht)),aK.fO (x:=y) (fun t ht=>hh t (.inr ht))]
 case lJ mx xs=>rw[KE hh]
 case l7 f xs=>rw[KE hh]
 case build zero ps=>rw[Rj hh]
 case bY z zero n ps=>rw[Rk hh]
 case slice z x lo hi=>rw[aK.fO (x:=x) (fun t ht=>hh t (.inl (.inl ht))),Ri (x:=lo) (fun t ht=>hh t (.inl (.inr ht))),Ri (x:=hi) (fun t ht=>hh t (.inr ht))]
 case call f args own=>rw[aK.fO (x:=f) (fun t ht=>hh t (.inl ht)),KE (xs:=args) (fun t ht=>hh t (.inr ht))]
def bC.elem(x:bC)(p:aK):Bool:=match p with|.t t=>x.jR.any (fun c=>match c with|.elem t'=>t==t'|_=>false)|_=>false
def bC.Bv(x:bC)(p:aK):Bool:=match p with|.t t=>x.jR.any (fun c=>match c with|.box t'=>t==t'|_=>false)|_=>false
def bC.shut(x:bC)(p:aK):Bool:=match p with|.t t=>x.jR.any (fun c=>match c with|.closed t'=>t==t'|_=>false)|.c v=>v.closed
def bC.oneOf(aQ:Nat->Bool)(x:bC)(p:aK):Bool:=match p with|.t t=>x.jR.any (fun c=>match c with|.fn t' gs=>t==t'&&gs.all (fun g=>aQ (iq g))|_=>false)|.c (.fn g _)=>aQ (iq g)|.c _=>false
def calm(aQ:Nat->Bool)(f:aK):Bool:=match f with|.c (.fn g _)=>aQ (iq g+5000)|_=>false
def bC.still(aQ:Nat->Bool)(x:bC):Bool:=match x.op with
 |.call f _ own=>own.isEmpty&&(x.oneOf aQ f||calm aQ f)
 |.aL ..|.pick ..|.bin ..|.un ..|.conv ..|.eqv ..|.nV ..|.len ..|.lJ ..|.ext ..|.build ..|.j6 ..|.ng ..|.qy ..|.mK ..|.load ..|.alloc ..|.store ..|.box ..|.bS ..=>true
 |_=>false
def XC.still(aQ:Nat->Bool):XC->Bool
 |.reg _ _ _ ops=>ops.all (bC.still aQ)
 |.seq a b|.cond _ a b=>a.still aQ&&b.still aQ
 |.blk _ c|.loop c|.pre _ c=>c.still aQ
 |.jG ..|.fz ..=>false
 |.skip|.exit _|.ret=>true
def bC.GL(x:bC)(s:Nat):Bool:=x.jR.any (fun c=>match c with|.dead s'=>s==s'|_=>false)
def bC.Bw(x:bC)(s:Nat):Bool:=x.jR.any (fun c=>match c with|.kX s'=>s==s'|.dead s'=>s==s'|_=>false)
def bC.plain(x:bC):Bool:=x.jR.all (fun c=>match c with|.dead _|.kX _=>false|_=>true)
def bC.only(x:bC)(s:Nat):Bool:=x.jR.all (fun c=>match c with|.dead s'|.kX s'=>s==s'|_=>true)
def bC.gu(aQ:Nat->Bool)(x:bC):Nat :=
 match x.op with
 |.load _ p=>if x.plain then(if x.shut p then 0 else if x.elem p then 3 else if x.Bv p then 4 else 1)else 2
 |.call f _ own=>if own.isEmpty&&x.oneOf aQ f&&x.plain then 1 else if own.isEmpty&&calm aQ f&&x.plain then 8 else 2
 |.bY _ _ _ ps=>if ps.all (fun p=>x.shut p.2)&&x.plain then 0 else 2
 |.bS p=>if x.shut p&&x.plain then 0 else 2
 |.alloc s _|.box s _=>if x.GL s&&x.only s then 5 else 2
 |.store _ p v=>if x.plain then(if x.Bv p then 7 else if x.elem p&&x.shut v then 6 else 2)else 2
 |.mk s ..=>if decide (s<1000)&&x.Bw s&&x.only s then 6 else 2
 |.app s ..=>if decide (s<1000)&&x.Bw s&&x.only s then 6 else 2
 |.copy ..|.tT ..|.rM ..|.tX ..=>2
 |.rP _|.rO ..=>if x.plain then 1 else 2
 |_=>if x.plain then 0 else 2
def dn.tmps:dn->List Nat
 |.elem t|.box t|.fn t _|.closed t=>[t]
 |.dead _|.kX _=>[]
 |.ne a b=>[a,b]
def bC.tmps(x:bC):List Nat:=(match x.guard with|some (g,_)=>[g]|none=>[])++(x.jR.flatMap dn.tmps++x.op.tmps)
def bC.writes(x:bC)(t:Nat):Bool:=x.dst==some t
def GN(a b:Nat):Bool :=
 a==0||b==0 ||
 match a,b with
 |1,1|1,3|1,4|3,1|3,3|3,4|4,1|4,3|4,4=>true
 |1,5|3,5|4,5=>true
 |3,7|7,3|5,3|5,5=>true
 |4,6|6,4|8,5=>true
 |5,6|6,7|7,6|7,5=>true
 |_,_=>false
def bC.neq(x:bC)(p q:aK):Bool:=match p,q with
 |.t a,.t b=>x.jR.any (fun c=>match c with|.ne a' b'=>(a==a'&&b==b')||(a==b'&&b==a')|_=>false)
 |_,_=>false
def GQ(x y:bC):Bool:=x.plain&&y.plain&&match x.op,y.op with
 |.load _ p,.store _ q _=>x.neq p q||y.neq p q
 |.store _ q _,.load _ p=>x.neq p q||y.neq p q
 |_,_=>false
def D6(aQ:Nat->Bool)(x y:bC):Bool :=
 (y.tmps.all fun t=>!x.writes t)&&(x.tmps.all fun t=>!y.writes t)&&(match x.dst with|some d=>!y.writes d|none=>true)&&(GN (x.gu aQ) (y.gu aQ)||GQ x y)
theorem Rl{cx:Cx}{e e':Env}{h:Heap}:∀{l:List dn},(∀ t∈l.flatMap dn.tmps,e.get t=e'.get t)->l.all (dn.ok cx e h)=l.all (dn.ok cx e' h)
 |[],_=>rfl
 |c::l,hh=>by
  simp only[List.flatMap_cons,iJ]at hh;simp only[uw];rw[Rl fun t ht=>hh t (.inr ht)];congr 1;cases c<;>simp only[dn.ok,dn.tmps]at hh⊢<;>(try rw[hh _ (.inl (by simp))])<;>(try rw[hh _ (.inl (by simp))])
theorem Rm{call:Callee}{cx:Cx}{e e':Env}{h:Heap}{x:bC}(hh:∀ t∈x.jR.flatMap dn.tmps++x.op.tmps,e.get t=e'.get t):cO call cx e h x=cO call cx e' h x:=by
 unfold cO;rw[Rl fun t ht=>hh t (iJ.mpr (.inl ht)),aa4 fun t ht=>hh t (iJ.mpr (.inr ht))]
omit [bJ] [Rounds] in
theorem lQ{call:Callee}{cx:Cx}{env:Env}{h:Heap}{x:bC}{r:AV×Heap}(hx:cO call cx env h x=some r):xi call cx env h x.op=some r/\x.jR.all (dn.ok cx env h)=true:=by
 unfold cO at hx;split at hx
 ·exact⟨hx,by assumption⟩
 ·cases hx
theorem GR{call:Callee}{cx:Cx}{x:bC}{e e':Env}{h h1:Heap}{e1:Env}(hh:∀ t∈x.tmps,e.get t=e'.get t)(hx:iA call cx x e h=some (e1,h1)) :
  ∃ v,e1=e.put x.dst v/\iA call cx x e' h=some (e'.put x.dst v,h1):=by
 unfold iA at hx⊢;have hop:∀ t∈x.jR.flatMap dn.tmps++x.op.tmps,e.get t=e'.get t:=fun t ht=>hh t (by unfold bC.tmps;exact iJ.mpr (.inr ht))
 split at hx
 ·rename_i hg;simp only[mE,ax]at hx;obtain⟨⟨v,h2⟩,hx,rfl,rfl⟩:=hx;exact⟨v,rfl,by simp[<-Rm hop,hx]⟩
 ·rename_i g want hg;obtain⟨b,hb,hy⟩:=bE.mp hx;clear hx;have hgg:e.get g=e'.get g:=hh g (by simp[bC.tmps,hg])
  split at hy
  ·rename_i hbw;simp only[mE,ax]at hy;obtain⟨⟨v,h2⟩,hx,rfl,rfl⟩:=hy;exact⟨v,rfl,by simp[<-hgg,hb,hbw,<-Rm hop,hx]⟩
  ·rename_i hbw;simp only[aP,ax]at hy;obtain⟨rfl,rfl⟩:=hy;exact⟨.tuple [],rfl,by simp[<-hgg,hb,hbw]⟩
theorem pM.put{e e':Env}(h:pM e e')(d:Option Nat)(v:AV):pM (e.put d v) (e'.put d v):=fun t=>by rw[Env.get_put,Env.get_put,h t]
theorem pM.trans{a b c:Env}(h:pM a b)(h':pM b c):pM a c:=fun t=>(h t).trans (h' t)
theorem Rn{call:Callee}{cx:Cx}:∀{xs:List bC} {e e' e1:Env} {h h1:Heap},pM e e'->fQ call cx xs e h=some (e1,h1)->∃ wY,fQ call cx xs e' h=some (wY,h1)/\pM e1 wY
 |[],e,e',e1,h,h1,he,hx=>by
  simp only[fQ,aP,ax]at hx;obtain⟨rfl,rfl⟩:=hx
  exact⟨e',rfl,he⟩
 |x::xs,e,e',e1,h,h1,he,hx=>by
  obtain⟨⟨e2,h2⟩,hx,hxs⟩:=bE.mp hx;obtain⟨v,rfl,hx'⟩:=GR (fun t _=>he t) hx;obtain⟨e3,h3,h4⟩:=Rn (he.put x.dst v) hxs;exact⟨e3,bE.mpr ⟨_,hx',h3⟩,h4⟩
end Go.VI
