/- Lists of operations, and regions in whatever order their edges allow. -/
import Derived.Test.YtfpoegnmeoghpaaGreatDoorVIM
set_option linter.unusedVariables false
set_option linter.unusedSimpArgs false
namespace Go.VI
set_option linter.unusedSectionVars false
variable [kH][Rounds]
theorem Env.ayw(e:Env)(d:Nat)(v:AV)(t:Nat):(e.set d v).get t=if d=t then v else e.get t:=rfl
theorem Env.get_put(e:Env)(d:Option Nat)(v:AV)(t:Nat):(e.put d v).get t=if d=some t then v else e.get t:=by
 cases d with
 |none=>simp[Env.put]
 |some d=>simp[Env.put,Env.ayw]
theorem Env.aFq(ps:List Nat)(e:Env)(t:Nat):(e.keep ps).get t=if ps.contains t then e.get t else .undef:=by
 unfold Env.keep
 induction ps with
 |nil=>simp[Env.get]
 |cons p r ih =>
  simp only[List.map_cons,Env.get,ih];by_cases h1:p=t
  ·subst h1;simp
  ·rw[if_neg h1];by_cases h2:r.contains t=true
   ·have h3:(p::r).contains t=true:=by simp at h2⊢;exact .inr h2
    rw[if_pos h2,if_pos h3]
   ·have h3:¬ (p::r).contains t=true:=by simp at h2⊢;exact⟨fun h=>h1 h.symm,h2⟩
    rw[if_neg h2,if_neg h3]
def Te(e e':Env):Prop:=∀ t,e.get t=e'.get t
def bD.tmps:bD->List Nat
 |.t i=>[i]
 |.c _=>[]
def ar4:Option bD->List Nat
 |none=>[]
 |some x=>x.tmps
def XI.tmps:XI->List Nat
 |.dx x|.JO x|.un _ x|.conv _ x|.len _ x|.ext x _|.JI x _|.load _ x|.box _ x|.nK x|.Zp _ x|.YX x|.YW _ x|.Zq x=>x.tmps
 |.pick c a b=>c.tmps++a.tmps++b.tmps
 |.bin _ x y|.eqv _ _ x y|.SS _ _ x y|.TT _ x y|.Oa x y|.store _ x y|.copy _ x y|.mk _ _ _ _ x y|.app _ _ _ x y|.YV _ _ x y=>x.tmps++y.tmps
 |.alloc ..|.Zo ..=>[]
 |.NM _ xs|.LM _ xs=>xs.flatMap bD.tmps
 |.build _ ps=>ps.flatMap fun p=>p.2.2.tmps
 |.pF _ _ _ ps=>ps.flatMap fun p=>p.2.tmps
 |.slice _ x lo hi=>x.tmps++ar4 lo++ar4 hi
 |.call f args _=>f.tmps++args.flatMap bD.tmps
 |.FH ts f args=>ts++(f.tmps++args.flatMap bD.tmps)
 |.Rb t f args=>[t]++(f.tmps++args.flatMap bD.tmps)
theorem bD.xD{e e':Env}{x:bD}(h:∀ t∈x.tmps,e.get t=e'.get t):x.ev e=x.ev e':=by
 cases x with
 |t i=>exact h i (by simp[bD.tmps])
 |c v=>rfl
theorem alF{e e':Env}{xs:List bD}(h:∀ t∈xs.flatMap bD.tmps,e.get t=e'.get t):evs e xs=evs e' xs:=by
 unfold evs;refine List.map_congr_left fun x hx=>bD.xD fun t ht=>h t (List.mem_flatMap.mpr ⟨x,hx,ht⟩)
theorem ayx{e e':Env}{x:Option bD}(h:∀ t∈ar4 x,e.get t=e'.get t):x.map (·.ev e)=x.map (·.ev e'):=by
 cases x with
 |none=>rfl
 |some x=>simp only[Option.map_some];rw[bD.xD h]
theorem ayy{e e':Env}:∀{ps:List (Nat×Nat×bD)} {cs:List AV},(∀ t∈ps.flatMap (fun p=>p.2.2.tmps),e.get t=e'.get t)->lay e ps cs=lay e' ps cs
 |[],_,_=>rfl
 |(off,n,x)::ps,cs,h=>by
  simp only[List.flatMap_cons,Di]at h;simp only[lay];rw[bD.xD (x:=x) (fun t ht=>h t (.inl ht))];have:lay e ps=lay e' ps:=funext fun cs=>ayy fun t ht=>h t (.inr ht);rw[this]
theorem ayz{e e':Env}{base z:Nat}:∀{ps:List (Nat×bD)} {es:List AV} {h:Heap},(∀ t∈ps.flatMap (fun p=>p.2.tmps),e.get t=e'.get t)->FI e base z ps es h=FI e' base z ps es h
 |[],_,_,_=>rfl
 |(i,x)::ps,es,h,hh=>by
  simp only[List.flatMap_cons,Di]at hh;simp only[FI];rw[bD.xD (x:=x) (fun t ht=>hh t (.inl ht))];congr 1;funext p;obtain⟨v,h1⟩:=p;dsimp only;rw[ayz fun t ht=>hh t (.inr ht)]
theorem ayA{e e':Env}{h h':Heap}:∀{ts:List Nat},(∀ t∈ts,e.get t=e'.get t)->keeps e h h' ts=keeps e' h h' ts
 |[],_=>rfl
 |t::ts,hh=>by
  have:=ayA (h:=h) (h':=h') fun t ht=>hh t (List.mem_cons_of_mem _ ht);unfold keeps at this⊢;rw[YL,YL,this,hh t List.mem_cons_self]
theorem aFr{call:Callee}{cx:Cx}{e e':Env}{h:Heap}{o:XI}(hh:∀ t∈o.tmps,e.get t=e'.get t):xi call cx e h o=xi call cx e' h o:=by
 cases o<;>simp only[XI.tmps,Di]at hh<;>simp only[xi]
 case dx x=>rw[bD.xD hh]
 case JO x=>rw[bD.xD hh]
 case un o x=>rw[bD.xD hh]
 case conv k x=>rw[bD.xD hh]
 case len s x=>rw[bD.xD hh]
 case ext x i=>rw[bD.xD hh]
 case JI x k=>rw[bD.xD hh]
 case load sh x=>rw[bD.xD hh]
 case box s x=>rw[bD.xD hh]
 case nK x=>rw[bD.xD hh]
 case Zp t x=>rw[bD.xD hh]
 case YX x=>rw[bD.xD hh]
 case YW f x=>rw[bD.xD hh]
 case YV s f x y=>rw[bD.xD (x:=x) (fun t ht=>hh t (.inl ht)),bD.xD (x:=y) (fun t ht=>hh t (.inr ht))]
 case pick c a b=>rw[bD.xD (x:=c) (fun t ht=>hh t (.inl (.inl ht))),bD.xD (x:=a) (fun t ht=>hh t (.inl (.inr ht))),bD.xD (x:=b) (fun t ht=>hh t (.inr ht))]
 case bin o x y=>rw[bD.xD (x:=x) (fun t ht=>hh t (.inl ht)),bD.xD (x:=y) (fun t ht=>hh t (.inr ht))]
 case eqv o ks x y=>rw[bD.xD (x:=x) (fun t ht=>hh t (.inl ht)),bD.xD (x:=y) (fun t ht=>hh t (.inr ht))]
 case SS n s x y=>rw[bD.xD (x:=x) (fun t ht=>hh t (.inl ht)),bD.xD (x:=y) (fun t ht=>hh t (.inr ht))]
 case TT z x y=>rw[bD.xD (x:=x) (fun t ht=>hh t (.inl ht)),bD.xD (x:=y) (fun t ht=>hh t (.inr ht))]
 case Oa x y=>rw[bD.xD (x:=x) (fun t ht=>hh t (.inl ht)),bD.xD (x:=y) (fun t ht=>hh t (.inr ht))]
 case store sz x y=>rw[bD.xD (x:=x) (fun t ht=>hh t (.inl ht)),bD.xD (x:=y) (fun t ht=>hh t (.inr ht))]
 case copy z x y=>rw[bD.xD (x:=x) (fun t ht=>hh t (.inl ht)),bD.xD (x:=y) (fun t ht=>hh t (.inr ht))]
 case mk s z zero lim x y=>rw[bD.xD (x:=x) (fun t ht=>hh t (.inl ht)),bD.xD (x:=y) (fun t ht=>hh t (.inr ht))]
 case app s z lim x y=>rw[bD.xD (x:=x) (fun t ht=>hh t (.inl ht)),bD.xD (x:=y) (fun t ht=>hh t (.inr ht))]
 case NM mx xs=>rw[alF hh]
 case LM f xs=>rw[alF hh]
 case build zero ps=>rw[ayy hh]
 case pF z zero n ps=>rw[ayz hh]
 case slice z x lo hi=>rw[bD.xD (x:=x) (fun t ht=>hh t (.inl (.inl ht))),ayx (x:=lo) (fun t ht=>hh t (.inl (.inr ht))),ayx (x:=hi) (fun t ht=>hh t (.inr ht))]
 case Rb t f args =>
  rw[hh t (.inl (by simp)),bD.xD (x:=f) (fun t ht=>hh t (.inr (.inl ht))),alF (xs:=args) (fun t ht=>hh t (.inr (.inr ht)))]
 case FH ts f args =>
  have hk:∀ h',keeps e h h' ts=keeps e' h h' ts:=fun h'=>ayA fun t ht=>hh t (.inl ht);rw[bD.xD (x:=f) (fun t ht=>hh t (.inr (.inl ht))),alF (xs:=args) (fun t ht=>hh t (.inr (.inr ht)))];simp only[hk]
 case call f args own=>rw[bD.xD (x:=f) (fun t ht=>hh t (.inl ht)),alF (xs:=args) (fun t ht=>hh t (.inr ht))]
def jc.elem(x:jc)(p:bD):Bool:=match p with|.t t=>x.GI.any (fun c=>match c with|.elem t'=>t==t'|_=>false)|_=>false
def jc.aj3(x:jc)(p:bD):Bool:=match p with|.t t=>x.GI.any (fun c=>match c with|.box t'=>t==t'|_=>false)|_=>false
def jc.shut(x:jc)(p:bD):Bool:=match p with|.t t=>x.GI.any (fun c=>match c with|.closed t'=>t==t'|_=>false)|.c v=>v.closed
def jc.oneOf(eB:Nat->Bool)(x:jc)(p:bD):Bool:=match p with|.t t=>x.GI.any (fun c=>match c with|.fn t' gs=>t==t'&&gs.all (fun g=>eB (u7 g))|_=>false)|.c (.fn g _)=>eB (u7 g)|.c _=>false
def calm(eB:Nat->Bool)(f:bD):Bool:=match f with|.c (.fn g _)=>eB (u7 g+5000)|_=>false
def jc.still(eB:Nat->Bool)(x:jc):Bool:=match x.op with
 |.call f _ own=>own.isEmpty&&(x.oneOf eB f||calm eB f)
 |.dx ..|.pick ..|.bin ..|.un ..|.conv ..|.eqv ..|.JO ..|.len ..|.NM ..|.ext ..|.build ..|.JI ..|.SS ..|.TT ..|.Oa ..|.load ..|.alloc ..|.store ..|.box ..|.nK ..=>true
 |_=>false
def XC.still(eB:Nat->Bool):XC->Bool
 |.reg _ _ _ ops=>ops.all (jc.still eB)
 |.seq a b|.cond _ a b=>a.still eB&&b.still eB
 |.blk _ c|.loop c|.pre _ c=>c.still eB
 |.Gm ..=>false
 |.skip|.exit _|.ret=>true
def jc.anR(x:jc)(s:Nat):Bool:=x.GI.any (fun c=>match c with|.dead s'=>s==s'|_=>false)
def jc.aj4(x:jc)(s:Nat):Bool:=x.GI.any (fun c=>match c with|.SV s'=>s==s'|.dead s'=>s==s'|_=>false)
def jc.plain(x:jc):Bool:=x.GI.all (fun c=>match c with|.dead _|.SV _=>false|_=>true)
def jc.only(x:jc)(s:Nat):Bool:=x.GI.all (fun c=>match c with|.dead s'|.SV s'=>s==s'|_=>true)
def jc.yZ(eB:Nat->Bool)(x:jc):Nat :=
 match x.op with
 |.load _ p=>if x.plain then(if x.shut p then 0 else if x.elem p then 3 else if x.aj3 p then 4 else 1)else 2
 |.call f _ own=>if own.isEmpty&&x.oneOf eB f&&x.plain then 1 else if own.isEmpty&&calm eB f&&x.plain then 8 else 2
 |.pF _ _ _ ps=>if ps.all (fun p=>x.shut p.2)&&x.plain then 0 else 2
 |.nK p=>if x.shut p&&x.plain then 0 else 2
 |.alloc s _|.box s _=>if x.anR s&&x.only s then 5 else 2
 |.store _ p v=>if x.plain then(if x.aj3 p then 7 else if x.elem p&&x.shut v then 6 else 2)else 2
 |.mk s ..=>if decide (s<1000)&&x.aj4 s&&x.only s then 6 else 2
 |.app s ..=>if decide (s<1000)&&x.aj4 s&&x.only s then 6 else 2
 |.copy ..|.Zo ..|.YV ..|.Zq ..|.Rb ..=>2
 |.FH ..=>if x.plain then 9 else 2
 |.YX _|.YW ..=>if x.plain then 1 else 2
 |_=>if x.plain then 0 else 2
def ou.tmps:ou->List Nat
 |.elem t|.box t|.fn t _|.closed t=>[t]
 |.dead _|.SV _=>[]
 |.ne a b|.of a b=>[a,b]
def jc.tmps(x:jc):List Nat:=(match x.guard with|some (g,_)=>[g]|none=>[])++(x.GI.flatMap ou.tmps++x.op.tmps)
def jc.writes(x:jc)(t:Nat):Bool:=x.dst==some t
def anS(a b:Nat):Bool :=
 a==0||b==0 ||
 match a,b with
 |1,1|1,3|1,4|3,1|3,3|3,4|4,1|4,3|4,4=>true
 |1,5|3,5|4,5=>true
 |3,7|7,3|5,3|5,5=>true
 |4,6|6,4|8,5=>true
 |5,6|6,7|7,6|7,5=>true
 |_,_=>false
def jc.neq(x:jc)(p q:bD):Bool:=match p,q with
 |.t a,.t b=>x.GI.any (fun c=>match c with|.ne a' b'=>(a==a'&&b==b')||(a==b'&&b==a')|_=>false)
 |_,_=>false
def anT(x y:jc):Bool:=x.plain&&y.plain&&match x.op,y.op with
 |.load _ p,.store _ q _=>x.neq p q||y.neq p q
 |.store _ q _,.load _ p=>x.neq p q||y.neq p q
 |_,_=>false
def jc.anU(x:jc)(p:Nat)(ts:List Nat):Bool:=ts.contains p||x.GI.any (fun c=>match c with|.of p' t=>p'==p&&ts.contains t|_=>false)
def anV(x y:jc):Bool:=x.plain&&y.plain&&match x.op,y.op with
 |.load _ (.t p),.FH ts _ _=>x.anU p ts
 |.FH ts _ _,.load _ (.t p)=>y.anU p ts
 |_,_=>false
def alG(eB:Nat->Bool)(x y:jc):Bool :=
 (y.tmps.all fun t=>!x.writes t)&&(x.tmps.all fun t=>!y.writes t)&&(match x.dst with|some d=>!y.writes d|none=>true)&&(anS (x.yZ eB) (y.yZ eB)||anT x y||anV x y)
theorem ayB{cx:Cx}{e e':Env}{h:Heap}:∀{l:List ou},(∀ t∈l.flatMap ou.tmps,e.get t=e'.get t)->l.all (ou.ok cx e h)=l.all (ou.ok cx e' h)
 |[],_=>rfl
 |c::l,hh=>by
  simp only[List.flatMap_cons,Di]at hh;simp only[YL];rw[ayB fun t ht=>hh t (.inr ht)];congr 1;cases c<;>simp only[ou.ok,ou.tmps]at hh⊢<;>(try rw[hh _ (.inl (by simp))])<;>(try rw[hh _ (.inl (by simp))])
theorem ayC{call:Callee}{cx:Cx}{e e':Env}{h:Heap}{x:jc}(hh:∀ t∈x.GI.flatMap ou.tmps++x.op.tmps,e.get t=e'.get t):l6 call cx e h x=l6 call cx e' h x:=by
 unfold l6;rw[ayB fun t ht=>hh t (Di.mpr (.inl ht)),aFr fun t ht=>hh t (Di.mpr (.inr ht))]
omit [kH] [Rounds] in
theorem IQ{call:Callee}{cx:Cx}{env:Env}{h:Heap}{x:jc}{r:AV×Heap}(hx:l6 call cx env h x=some r):xi call cx env h x.op=some r/\x.GI.all (ou.ok cx env h)=true:=by
 unfold l6 at hx;split at hx
 ·exact⟨hx,by assumption⟩
 ·cases hx
theorem anW{call:Callee}{cx:Cx}{x:jc}{e e':Env}{h h1:Heap}{e1:Env}(hh:∀ t∈x.tmps,e.get t=e'.get t)(hx:Dh call cx x e h=some (e1,h1)) :
  ∃ v,e1=e.put x.dst v/\Dh call cx x e' h=some (e'.put x.dst v,h1):=by
 unfold Dh at hx⊢;have hop:∀ t∈x.GI.flatMap ou.tmps++x.op.tmps,e.get t=e'.get t:=fun t ht=>hh t (by unfold jc.tmps;exact Di.mpr (.inr ht))
 split at hx
 ·rename_i hg;simp only[mE,bf]at hx;obtain⟨⟨v,h2⟩,hx,rfl,rfl⟩:=hx;exact⟨v,rfl,by simp[hg,<-ayC hop,hx]⟩
 ·rename_i g want hg;obtain⟨b,hb,hy⟩:=bE.mp hx;clear hx;have hgg:e.get g=e'.get g:=hh g (by simp[jc.tmps,hg])
  split at hy
  ·rename_i hbw;simp only[mE,bf]at hy;obtain⟨⟨v,h2⟩,hx,rfl,rfl⟩:=hy;exact⟨v,rfl,by simp[hg,<-hgg,hb,hbw,<-ayC hop,hx]⟩
  ·rename_i hbw;simp only[dz,bf]at hy;obtain⟨rfl,rfl⟩:=hy;exact⟨.tuple [],rfl,by simp[hg,<-hgg,hb,hbw]⟩
theorem Te.put{e e':Env}(h:Te e e')(d:Option Nat)(v:AV):Te (e.put d v) (e'.put d v):=fun t=>by rw[Env.get_put,Env.get_put,h t]
theorem Te.trans{a b c:Env}(h:Te a b)(h':Te b c):Te a c:=fun t=>(h t).trans (h' t)
theorem ayD{call:Callee}{cx:Cx}:∀{xs:List jc} {e e' e1:Env} {h h1:Heap},Te e e'->xZ call cx xs e h=some (e1,h1)->∃ e1',xZ call cx xs e' h=some (e1',h1)/\Te e1 e1'
 |[],e,e',e1,h,h1,he,hx=>by
  simp only[xZ,dz,bf]at hx;obtain⟨rfl,rfl⟩:=hx
  exact⟨e',rfl,he⟩
 |x::xs,e,e',e1,h,h1,he,hx=>by
  obtain⟨⟨e2,h2⟩,hx,hxs⟩:=bE.mp hx;obtain⟨v,rfl,hx'⟩:=anW (fun t _=>he t) hx;obtain⟨e3,h3,h4⟩:=ayD (he.put x.dst v) hxs;exact⟨e3,bE.mpr ⟨_,hx',h3⟩,h4⟩
end Go.VI
