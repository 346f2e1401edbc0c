/- Lists of operations, and regions in whatever order their edges allow. -/
import Derived.Test.YtfpoegnmeoghpaaGreatDoorVIM
set_option linter.unusedVariables false
set_option linter.unusedSimpArgs false
namespace Go.VI
set_option linter.unusedSectionVars false
variable [dH][Rounds]
theorem Env.RI(e:Env)(d:Nat)(v:AV)(t:Nat):(e.set d v).get t=if d=t then v else e.get t:=rfl
theorem Env.get_put(e:Env)(d:Option Nat)(v:AV)(t:Nat):(e.put d v).get t=if d=some t then v else e.get t:=by
 cases d with
 |none=>simp[Env.put]
 |some d=>simp[Env.put,Env.RI]
theorem Env.agn(ps:List Nat)(e:Env)(t:Nat):(e.keep ps).get t=if ps.contains t then e.get t else .undef:=by
 unfold Env.keep
 induction ps with
 |nil=>simp[Env.get]
 |cons p r ih =>
  simp only[List.map_cons,Env.get,ih];by_cases h1:p=t
  ·subst h1;simp
  ·rw[if_neg h1];by_cases h2:r.contains t=true
   ·have h3:(p::r).contains t=true:=by simp at h2⊢;exact .inr h2
    rw[if_pos h2,if_pos h3]
   ·have h3:¬ (p::r).contains t=true:=by simp at h2⊢;exact⟨fun h=>h1 h.symm,h2⟩
    rw[if_neg h2,if_neg h3]
def vW(e e':Env):Prop:=∀ t,e.get t=e'.get t
def aL.tmps:aL->List Nat
 |.t i=>[i]
 |.c _=>[]
def RJ:Option aL->List Nat
 |none=>[]
 |some x=>x.tmps
def XI.tmps:XI->List Nat
 |.bf x|.qQ x|.BO _ x|.un _ x|.conv _ x|.len _ x|.ext x _|.pM x _|.load _ x|.box _ x|.dV x|.zl _ x|.yh x|.yg _ x|.zw x=>x.tmps
 |.pick c a b=>c.tmps++a.tmps++b.tmps
 |.bin _ x y|.eqv _ _ x y|.zi _ _ x y|.u7 _ x y|.rY x y|.store _ x y|.copy _ x y|.mk _ _ _ _ x y|.app _ _ _ x y|.yc _ _ x y=>x.tmps++y.tmps
 |.alloc ..|.zk ..=>[]
 |.u6 _ xs|.qA _ xs=>xs.flatMap aL.tmps
 |.build _ ps=>ps.flatMap fun p=>p.2.2.tmps
 |.gW _ _ _ ps=>ps.flatMap fun p=>p.2.tmps
 |.slice _ x lo hi=>x.tmps++RJ lo++RJ hi
 |.call f args _=>f.tmps++args.flatMap aL.tmps
 |.mH ts f args=>ts++(f.tmps++args.flatMap aL.tmps)
theorem aL.jB{e e':Env}{x:aL}(h:∀ t∈x.tmps,e.get t=e'.get t):x.ev e=x.ev e':=by
 cases x with
 |t i=>exact h i (by simp[aL.tmps])
 |c v=>rfl
theorem NQ{e e':Env}{xs:List aL}(h:∀ t∈xs.flatMap aL.tmps,e.get t=e'.get t):evs e xs=evs e' xs:=by
 unfold evs;refine List.map_congr_left fun x hx=>aL.jB fun t ht=>h t (List.mem_flatMap.mpr ⟨x,hx,ht⟩)
theorem Yn{e e':Env}{x:Option aL}(h:∀ t∈RJ x,e.get t=e'.get t):x.map (·.ev e)=x.map (·.ev e'):=by
 cases x with
 |none=>rfl
 |some x=>simp only[Option.map_some];rw[aL.jB h]
theorem YW{e e':Env}:∀{ps:List (Nat×Nat×aL)} {cs:List AV},(∀ t∈ps.flatMap (fun p=>p.2.2.tmps),e.get t=e'.get t)->lay e ps cs=lay e' ps cs
 |[],_,_=>rfl
 |(off,n,x)::ps,cs,h=>by
  simp only[List.flatMap_cons,lX]at h;simp only[lay];rw[aL.jB (x:=x) (fun t ht=>h t (.inl ht))];have:lay e ps=lay e' ps:=funext fun cs=>YW fun t ht=>h t (.inr ht);rw[this]
theorem Y2{e e':Env}{base z:Nat}:∀{ps:List (Nat×aL)} {es:List AV} {h:Heap},(∀ t∈ps.flatMap (fun p=>p.2.tmps),e.get t=e'.get t)->mK e base z ps es h=mK e' base z ps es h
 |[],_,_,_=>rfl
 |(i,x)::ps,es,h,hh=>by
  simp only[List.flatMap_cons,lX]at hh;simp only[mK];rw[aL.jB (x:=x) (fun t ht=>hh t (.inl ht))];congr 1;funext p;obtain⟨v,h1⟩:=p;dsimp only;rw[Y2 fun t ht=>hh t (.inr ht)]
theorem Y3{e e':Env}{h h':Heap}:∀{ts:List Nat},(∀ t∈ts,e.get t=e'.get t)->keeps e h h' ts=keeps e' h h' ts
 |[],_=>rfl
 |t::ts,hh=>by
  have:=Y3 (h:=h) (h':=h') fun t ht=>hh t (Du _ ht);unfold keeps at this⊢;rw[vY,vY,this,hh t List.mem_cons_self]
theorem agp{call:Callee}{cx:Cx}{e e':Env}{h:Heap}{o:XI}(hh:∀ t∈o.tmps,e.get t=e'.get t):xi call cx e h o=xi call cx e' h o:=by
 cases o<;>simp only[XI.tmps,lX]at hh<;>simp only[xi]
 case bf x=>rw[aL.jB hh]
 case qQ x=>rw[aL.jB hh]
 case BO neg x=>rw[aL.jB hh]
 case un o x=>rw[aL.jB hh]
 case conv k x=>rw[aL.jB hh]
 case len s x=>rw[aL.jB hh]
 case ext x i=>rw[aL.jB hh]
 case pM x k=>rw[aL.jB hh]
 case load sh x=>rw[aL.jB hh]
 case box s x=>rw[aL.jB hh]
 case dV x=>rw[aL.jB hh]
 case zl t x=>rw[aL.jB hh]
 case yh x=>rw[aL.jB hh]
 case yg f x=>rw[aL.jB hh]
 case yc s f x y=>rw[aL.jB (x:=x) (fun t ht=>hh t (.inl ht)),aL.jB (x:=y) (fun t ht=>hh t (.inr ht))]
 case pick c a b=>rw[aL.jB (x:=c) (fun t ht=>hh t (.inl (.inl ht))),aL.jB (x:=a) (fun t ht=>hh t (.inl (.inr ht))),aL.jB (x:=b) (fun t ht=>hh t (.inr ht))]
 case bin o x y=>rw[aL.jB (x:=x) (fun t ht=>hh t (.inl ht)),aL.jB (x:=y) (fun t ht=>hh t (.inr ht))]
 case eqv o ks x y=>rw[aL.jB (x:=x) (fun t ht=>hh t (.inl ht)),aL.jB (x:=y) (fun t ht=>hh t (.inr ht))]
 case zi n s x y=>rw[aL.jB (x:=x) (fun t ht=>hh t (.inl ht)),aL.jB (x:=y) (fun t ht=>hh t (.inr ht))]
 case u7 z x y=>rw[aL.jB (x:=x) (fun t ht=>hh t (.inl ht)),aL.jB (x:=y) (fun t ht=>hh t (.inr ht))]
 case rY x y=>rw[aL.jB (x:=x) (fun t ht=>hh t (.inl ht)),aL.jB (x:=y) (fun t ht=>hh t (.inr ht))]
 case store sz x y=>rw[aL.jB (x:=x) (fun t ht=>hh t (.inl ht)),aL.jB (x:=y) (fun t ht=>hh t (.inr ht))]
 case copy z x y=>rw[aL.jB (x:=x) (fun t ht=>hh t (.inl ht)),aL.jB (x:=y) (fun t ht=>hh t (.inr ht))]
 case mk s z zero lim x y=>rw[aL.jB (x:=x) (fun t ht=>hh t (.inl ht)),aL.jB (x:=y) (fun t ht=>hh t (.inr ht))]
 case app s z lim x y=>rw[aL.jB (x:=x) (fun t ht=>hh t (.inl ht)),aL.jB (x:=y) (fun t ht=>hh t (.inr ht))]
 case u6 mx xs=>rw[NQ hh]
 case qA f xs=>rw[NQ hh]
 case build zero ps=>rw[YW hh]
 case gW z zero n ps=>rw[Y2 hh]
 case slice z x lo hi=>rw[aL.jB (x:=x) (fun t ht=>hh t (.inl (.inl ht))),Yn (x:=lo) (fun t ht=>hh t (.inl (.inr ht))),Yn (x:=hi) (fun t ht=>hh t (.inr ht))]
 case mH ts f args =>
  have hk:∀ h',keeps e h h' ts=keeps e' h h' ts:=fun h'=>Y3 fun t ht=>hh t (.inl ht);rw[aL.jB (x:=f) (fun t ht=>hh t (.inr (.inl ht))),NQ (xs:=args) (fun t ht=>hh t (.inr (.inr ht)))];simp only[hk]
 case call f args own=>rw[aL.jB (x:=f) (fun t ht=>hh t (.inl ht)),NQ (xs:=args) (fun t ht=>hh t (.inr ht))]
def bT.elem(x:bT)(p:aL):Bool:=match p with|.t t=>x.nV.any (fun c=>match c with|.elem t'=>t==t'|_=>false)|_=>false
def bT.GH(x:bT)(p:aL):Bool:=match p with|.t t=>x.nV.any (fun c=>match c with|.box t'=>t==t'|_=>false)|_=>false
def bT.shut(x:bT)(p:aL):Bool:=match p with|.t t=>x.nV.any (fun c=>match c with|.closed t'=>t==t'|_=>false)|.c v=>v.closed
def bT.oneOf(aZ:Nat->Bool)(x:bT)(p:aL):Bool:=match p with|.t t=>x.nV.any (fun c=>match c with|.fn t' gs=>t==t'&&gs.all (fun g=>aZ (jr g))|_=>false)|.c (.fn g _)=>aZ (jr g)|.c _=>false
def calm(aZ:Nat->Bool)(f:aL):Bool:=match f with|.c (.fn g _)=>aZ (jr g+5000)|_=>false
def bT.still(aZ:Nat->Bool)(x:bT):Bool:=match x.op with
 |.call f _ own=>own.isEmpty&&(x.oneOf aZ f||calm aZ f)
 |.bf ..|.pick ..|.bin ..|.un ..|.conv ..|.eqv ..|.qQ ..|.BO ..|.len ..|.u6 ..|.ext ..|.build ..|.pM ..|.zi ..|.u7 ..|.rY ..|.load ..|.alloc ..|.store ..|.box ..|.dV ..=>true
 |_=>false
def XC.still(aZ:Nat->Bool):XC->Bool
 |.reg _ _ _ ops=>ops.all (bT.still aZ)
 |.seq a b|.cond _ a b=>a.still aZ&&b.still aZ
 |.blk _ c|.loop c|.pre _ c=>c.still aZ
 |.mI ..|.fz ..=>false
 |.skip|.exit _|.ret=>true
def bT.NR(x:bT)(s:Nat):Bool:=x.nV.any (fun c=>match c with|.dead s'=>s==s'|_=>false)
def bT.GI(x:bT)(s:Nat):Bool:=x.nV.any (fun c=>match c with|.wV s'=>s==s'|.dead s'=>s==s'|_=>false)
def bT.plain(x:bT):Bool:=x.nV.all (fun c=>match c with|.dead _|.wV _=>false|_=>true)
def bT.only(x:bT)(s:Nat):Bool:=x.nV.all (fun c=>match c with|.dead s'|.wV s'=>s==s'|_=>true)
def bT.jS(aZ:Nat->Bool)(x:bT):Nat :=
 match x.op with
 |.load _ p=>if x.plain then(if x.shut p then 0 else if x.elem p then 3 else if x.GH p then 4 else 1)else 2
 |.call f _ own=>if own.isEmpty&&x.oneOf aZ f&&x.plain then 1 else if own.isEmpty&&calm aZ f&&x.plain then 8 else 2
 |.gW _ _ _ ps=>if ps.all (fun p=>x.shut p.2)&&x.plain then 0 else 2
 |.dV p=>if x.shut p&&x.plain then 0 else 2
 |.alloc s _|.box s _=>if x.NR s&&x.only s then 5 else 2
 |.store _ p v=>if x.plain then(if x.GH p then 7 else if x.elem p&&x.shut v then 6 else 2)else 2
 |.mk s ..=>if decide (s<1000)&&x.GI s&&x.only s then 6 else 2
 |.app s ..=>if decide (s<1000)&&x.GI s&&x.only s then 6 else 2
 |.copy ..|.zk ..|.yc ..|.zw ..=>2
 |.mH ..=>if x.plain then 9 else 2
 |.yh _|.yg ..=>if x.plain then 1 else 2
 |_=>if x.plain then 0 else 2
def fQ.tmps:fQ->List Nat
 |.elem t|.box t|.fn t _|.closed t=>[t]
 |.dead _|.wV _=>[]
 |.ne a b|.of a b=>[a,b]
def bT.tmps(x:bT):List Nat:=(match x.guard with|some (g,_)=>[g]|none=>[])++(x.nV.flatMap fQ.tmps++x.op.tmps)
def bT.writes(x:bT)(t:Nat):Bool:=x.dst==some t
def NS(a b:Nat):Bool :=
 a==0||b==0 ||
 match a,b with
 |1,1|1,3|1,4|3,1|3,3|3,4|4,1|4,3|4,4=>true
 |1,5|3,5|4,5=>true
 |3,7|7,3|5,3|5,5=>true
 |4,6|6,4|8,5=>true
 |5,6|6,7|7,6|7,5=>true
 |_,_=>false
def bT.neq(x:bT)(p q:aL):Bool:=match p,q with
 |.t a,.t b=>x.nV.any (fun c=>match c with|.ne a' b'=>(a==a'&&b==b')||(a==b'&&b==a')|_=>false)
 |_,_=>false
def NT(x y:bT):Bool:=x.plain&&y.plain&&match x.op,y.op with
 |.load _ p,.store _ q _=>x.neq p q||y.neq p q
 |.store _ q _,.load _ p=>x.neq p q||y.neq p q
 |_,_=>false
def bT.NU(x:bT)(p:Nat)(ts:List Nat):Bool:=ts.contains p||x.nV.any (fun c=>match c with|.of p' t=>p'==p&&ts.contains t|_=>false)
def NV(x y:bT):Bool:=x.plain&&y.plain&&match x.op,y.op with
 |.load _ (.t p),.mH ts _ _=>x.NU p ts
 |.mH ts _ _,.load _ (.t p)=>y.NU p ts
 |_,_=>false
def Kk(aZ:Nat->Bool)(x y:bT):Bool :=
 (y.tmps.all fun t=>!x.writes t)&&(x.tmps.all fun t=>!y.writes t)&&(match x.dst with|some d=>!y.writes d|none=>true)&&(NS (x.jS aZ) (y.jS aZ)||NT x y||NV x y)
theorem Y4{cx:Cx}{e e':Env}{h:Heap}:∀{l:List fQ},(∀ t∈l.flatMap fQ.tmps,e.get t=e'.get t)->l.all (fQ.ok cx e h)=l.all (fQ.ok cx e' h)
 |[],_=>rfl
 |c::l,hh=>by
  simp only[List.flatMap_cons,lX]at hh;simp only[vY];rw[Y4 fun t ht=>hh t (.inr ht)];congr 1;cases c<;>simp only[fQ.ok,fQ.tmps]at hh⊢<;>(try rw[hh _ (.inl (by simp))])<;>(try rw[hh _ (.inl (by simp))])
theorem Y5{call:Callee}{cx:Cx}{e e':Env}{h:Heap}{x:bT}(hh:∀ t∈x.nV.flatMap fQ.tmps++x.op.tmps,e.get t=e'.get t):fI call cx e h x=fI call cx e' h x:=by
 unfold fI;rw[Y4 fun t ht=>hh t (lX.mpr (.inl ht)),agp fun t ht=>hh t (lX.mpr (.inr ht))]
omit [dH] [Rounds] in
theorem oQ{call:Callee}{cx:Cx}{env:Env}{h:Heap}{x:bT}{r:AV×Heap}(hx:fI call cx env h x=some r):xi call cx env h x.op=some r/\x.nV.all (fQ.ok cx env h)=true:=by
 unfold fI at hx;split at hx
 ·exact⟨hx,by assumption⟩
 ·cases hx
theorem N7{call:Callee}{cx:Cx}{x:bT}{e e':Env}{h h1:Heap}{e1:Env}(hh:∀ t∈x.tmps,e.get t=e'.get t)(hx:lG call cx x e h=some (e1,h1)) :
  ∃ v,e1=e.put x.dst v/\lG call cx x e' h=some (e'.put x.dst v,h1):=by
 unfold lG at hx⊢;have hop:∀ t∈x.nV.flatMap fQ.tmps++x.op.tmps,e.get t=e'.get t:=fun t ht=>hh t (by unfold bT.tmps;exact lX.mpr (.inr ht))
 split at hx
 ·rename_i hg;simp only[mE,aB]at hx;obtain⟨⟨v,h2⟩,hx,rfl,rfl⟩:=hx;exact⟨v,rfl,by simp[hg,<-Y5 hop,hx]⟩
 ·rename_i g want hg;obtain⟨b,hb,hy⟩:=bE.mp hx;clear hx;have hgg:e.get g=e'.get g:=hh g (by simp[bT.tmps,hg])
  split at hy
  ·rename_i hbw;simp only[mE,aB]at hy;obtain⟨⟨v,h2⟩,hx,rfl,rfl⟩:=hy;exact⟨v,rfl,by simp[hg,<-hgg,hb,hbw,<-Y5 hop,hx]⟩
  ·rename_i hbw;simp only[aS,aB]at hy;obtain⟨rfl,rfl⟩:=hy;exact⟨.tuple [],rfl,by simp[hg,<-hgg,hb,hbw]⟩
theorem vW.put{e e':Env}(h:vW e e')(d:Option Nat)(v:AV):vW (e.put d v) (e'.put d v):=fun t=>by rw[Env.get_put,Env.get_put,h t]
theorem vW.trans{a b c:Env}(h:vW a b)(h':vW b c):vW a c:=fun t=>(h t).trans (h' t)
theorem Y6{call:Callee}{cx:Cx}:∀{xs:List bT} {e e' e1:Env} {h h1:Heap},vW e e'->jN call cx xs e h=some (e1,h1)->∃ Ci,jN call cx xs e' h=some (Ci,h1)/\vW e1 Ci
 |[],e,e',e1,h,h1,he,hx=>by
  simp only[jN,aS,aB]at hx;obtain⟨rfl,rfl⟩:=hx
  exact⟨e',rfl,he⟩
 |x::xs,e,e',e1,h,h1,he,hx=>by
  obtain⟨⟨e2,h2⟩,hx,hxs⟩:=bE.mp hx;obtain⟨v,rfl,hx'⟩:=N7 (fun t _=>he t) hx;obtain⟨e3,h3,h4⟩:=Y6 (he.put x.dst v) hxs;exact⟨e3,bE.mpr ⟨_,hx',h3⟩,h4⟩
end Go.VI
