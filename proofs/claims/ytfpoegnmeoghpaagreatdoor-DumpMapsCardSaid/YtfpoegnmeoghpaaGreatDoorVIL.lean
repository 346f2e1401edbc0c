/- Calls; every operation; regions, in whatever order they are run. -/
import Derived.Test.YtfpoegnmeoghpaaGreatDoorVIK
import Derived.OrdersIn
import Derived.RangeFuncLeaves
import Derived.RangeFuncOwn
import Derived.Lib.FrozenHead
set_option linter.unusedVariables false
set_option linter.unusedSimpArgs false
namespace Go.VI
set_option linter.unusedSectionVars false
variable [dH][Rounds]
def OwnAt(w:World)(X:Nat->Prop)(z:Nat)(es:List AV)(b:Nat)(u:Value):Prop :=
 ∃ cap,∃ c:Array Value,∃ ty,u=.slice (some ⟨b,0,none⟩) es.length cap/\es.length<=cap/\cap*z<=c.size/\w.heap[b]?=some (Obj.cells c ty (0,0))/\0<z/\jy w X z es c.toList
def lI(w:World)(X:Nat->Prop)(m:Map)(h:Heap)(B:List Nat)(v:AV)(u:Value):Prop :=
 match v with
 |.own z es=>(es=[]/\B=[]/\∃ a cap,u=.slice a 0 cap/\(z=0->cap=0))\/(es≠[]/\∃ b,B=[b]/\OwnAt w X z es b u)
 |v=>B=[]/\R w X m h v u
def jH(w:World)(X:Nat->Prop)(m:Map)(h:Heap):List Nat->List AV->List Value->Prop
 |B,[],us=>B=[]/\us=[]
 |B,c::cs,us=>∃ B1 B2 u jg,B=B1++B2/\us=u::jg/\lI w X m h B1 c u/\jH w X m h B2 cs jg
def uL(w:World)(X:Nat->Prop)(m:Map)(h:Heap)(B:List Nat)(v:AV)(u:Value):Prop :=
 match v with
 |.tuple cs=>∃ us:List Value,u=.tuple us.toArray/\jH w X m h B cs us
 |v=>lI w X m h B v u
structure xk(w:World)(X:Nat->Prop)(m:Map)(h:Heap):Prop where
 inv:Inv w m h
 sub:∀ b,Live m h b->X b
 blk:∀(id ai:Nat) (blk:au),h[id]?=some (ai,blk)->blk.mem=true->∃ b,∃ c:Array Value,∃ ty,m[id]?=some b/\w.heap[b]?=some (Obj.cells c ty (0,0))/\sU w X m h c.toList blk
 ax:∀(id ai:Nat) (d:dO) (st:RS),h[id]?=some (ai,.ax d st)->∃ b o,m[id]?=some b/\w.heap[b]?=some o/\pU w X m h o d st
def zI(w w':World)(m':Map)(h':Heap)(v:AV)(u:Value):Prop :=
 ∃ B:List Nat,B.Nodup/\(∀ b∈B,w.heap.size<=b/\¬ Live m' h' b)/\xk w' (fun b=>Live m' h' b\/b∈B) m' h'/\uL w' (fun b=>Live m' h' b\/b∈B) m' h' B v u
def Enters (P : Program) (f : FuncId) : Prop := ∃ fn, P.funcs[f]? = some fn ∧ fn.name ≠ "runtime.NumGoroutine" ∧ fn.body.isSome = true
abbrev mQ(ro:Option Nat):Fence:={ Fence.wide with round:=ro }
def AB(r:Loop)(vs:List Value):Array Value:=(r.params.zip vs.toArray).foldl (fun tmps (t,a)=>tmps.setIfInBounds t a) r.tmps
structure sG(aZ:Nat->Bool)(call:Callee):Prop where
 fn:∀{f:Nat} {args:List AV} {h:Heap} {lo:Nat} {r:AV} {h':Heap},call.fn f args h lo=some (r,h')->∀{i v:Nat} {b:Nat×au},h[i]?=some (v,.dead)->(i<lo\/aZ f=true\/aZ (f+5000)=true)->h'[i]?=some (v,.dead)/\call.fn f args (h.set i b) lo=some (r,h'.set i b)
 kp:∀{f:Nat} {args:List AV} {h:Heap} {lo:Nat} {r:AV} {h':Heap},call.fn f args h lo=some (r,h')->(aZ f=true\/aZ (f+5000)=true)->∀{i v:Nat},h'[i]?=some (v,.dead)->h[i]?=some (v,.dead)
 rd:∀{d:dO} {id ai:Nat} {args:List AV} {h:Heap} {e:Ex} {h':Heap},call.rd d id ai args h=some (e,h')->∀{i v:Nat} {b:Nat×au},h[i]?=some (v,.dead)->i<d.lo->d.lo<=d.base->d.lo<=id->h'[i]?=some (v,.dead)/\call.rd d id ai args (h.set i b)=some (e,h'.set i b)
structure Ke(w w':World)(b:Nat)(g:Option Nat):Prop where
 os:w'.os=w.os
 tape:w'.tape=w.tape
 output:w'.output=w.output
 size:w.heap.size<=w'.heap.size
 old:∀ k,k<w.heap.size->k≠b->some k≠g->w'.heap[k]?=w.heap[k]?
def Kg(P:Program)(f:FuncId):Prop:=Enters P f/\∀(w:World) (b:Nat) (p v:Value) (bs s:List UInt8),w.heap[b]?=some (.cells #[p,v] dH.rD (0,0))->(p=.pointer none\/p=.pointer (some ⟨b,0,none⟩))->w.ownsRowF 0 dH.yw 1 v bs.length (Lib.byteCells bs) ->
 v.ownBlock≠some b->bs.length+s.length<=zx->Calls P f #[.pointer (some ⟨b,0,none⟩),.string ⟨s.toArray⟩] w fun e w'=>e=.returned (.tuple #[.int .i64 s.length,.nilIface])/\Ke w w' b v.ownBlock /\
  ∃ v',w'.heap[b]?=some (.cells #[.pointer (some ⟨b,0,none⟩),v'] dH.rD (0,0))/\w'.ownsRowF 0 dH.yw 1 v' (bs.length+s.length) (Lib.byteCells (bs++s))/\v'.ownBlock≠some b/\(v'.ownBlock=v.ownBlock\/∀ g,v'.ownBlock=some g->w.heap.size<=g)
def Kh(P:Program)(f:FuncId):Prop:=Enters P f/\∀(w:World) (b:Nat) (p v:Value) (l:List UInt8),w.heap[b]?=some (.cells #[p,v] dH.rD (0,0))->(p=.pointer none\/p=.pointer (some ⟨b,0,none⟩))->w.ownsRowF 0 dH.yw 1 v l.length (Lib.byteCells l) ->
 v.ownBlock≠some b->(l=[]->v=.slice none 0 0)->Calls P f #[.pointer (some ⟨b,0,none⟩)] w fun e w'=>e=.returned (.string ⟨l.toArray⟩)/\Ke w w' b v.ownBlock/\w'.heap[b]?=w.heap[b]?/\w'.ownsRowF 0 dH.yw 1 v l.length (Lib.byteCells l)
structure sV(P:Program)(aZ:Nat->Bool)(call:Callee):Prop where
 does:∀{f:Nat} {args:List AV} {h:Heap} {lo:Nat} {r:AV} {h':Heap},call.fn f args h lo=some (r,h')->Enters P f/\∀(w:World) (m:Map) (vs:List Value),Inv w m h->RL w (Live m h) m h args vs->lo<=h.length ->
  Calls P f vs.toArray w fun e w'=>∃ u m',e=.returned u/\Step lo w m h w' m' h'/\Inv w' m' h'/\zI w w' m' h' r u
 shut:∀{f:Nat} {args:List AV} {h:Heap} {lo:Nat} {r:AV} {h':Heap},aZ f=true->call.fn f args h lo=some (r,h')->h'=h
 kW:∀{d:dO} {id ai:Nat} {args:List AV} {h:Heap} {e:Ex} {h':Heap},call.rd d id ai args h=some (e,h')->∀{w:World} {m:Map} {l:Nat} {r:Loop} {vs:List Value},Inv w m h->h[id]?=some (ai,.ax d .ready)->d.lo<=id->m[id]?=some l->w.heap[l]?=some (.loop r) ->
  pU w (Live m h) m h (.loop r) d .ready->RL w (Live m h) m h args vs->r.params.size=vs.length /\
  RoundIn (mQ none) 0 P l r.fn (AB r vs) r.assign r.body w fun e' w'=>∃ m',e'=.returned (.bool (e==.norm))/\Step d.lo w m h w' m' h'/\Inv w' m' h'
 ext:sG aZ call
 wr:∀ f,dH.Jy f=true->Kg P f
 bs:∀ f,dH.Jz f=true->Kh P f
section
variable {w:World}{m:Map}{h:Heap}{P:Program}{env:Env}{a:Act}{o:Oper}{X:Nat->Prop}
mutual
theorem R.less{X':Nat->Prop}(hx:∀ b,X' b->X b):∀(v:AV) (u:Value),R w X m h v u->R w X' m h v u
 |v,u,hr=>R.step (fun id v blk h=>⟨v,blk,h,bC _,fun _=>rZ.refl _ _ _ _⟩) (Keep.weaken hx) v u hr
end
theorem lI.weak{X':Nat->Prop}(hx:∀ b,X' b->X b){B:List Nat}(hB:∀ b∈B,¬ X' b){v:AV}{u:Value}(hg:lI w X m h B v u) :
  R w X' m h (kg v) u:=by
 unfold lI at hg;split at hg
 ·rename_i z es;simp only[kg,R,RC];rcases hg with⟨rfl,_,a',cap,rfl,_⟩|⟨hne,b,rfl,cap,c,ty,rfl,h1,h2,h3,h4,h5⟩
  ·exact⟨a',cap,rfl,by simp,.inl rfl⟩
  ·refine⟨_,cap,rfl,h1,.inr ⟨b,0,rfl, ?_,hB b (by simp),h4,Ca _ _ _ fun i e he=>?_⟩⟩
   ·rcases kZ b w.heap.size with hl|hl
    ·exact hl
    ·rw[Array.getElem?_eq_none hl]at h3;cases h3
   ·obtain⟨v',k1,k2,k3,k4⟩:=jy.elems h3 h5 he;exact⟨v',RC.less hx k1,k2,k3,by simpa using k4⟩
 ·rename_i hne
  have:kg v=v:=by
   cases v<;>first|rfl|exact absurd rfl (hne _ _)
  rw[this];exact R.less hx _ _ hg.2
theorem jH.weak{X':Nat->Prop}(hx:∀ b,X' b->X b):∀{B:List Nat} {cs:List AV} {us:List Value},(∀ b∈B,¬ X' b)->jH w X m h B cs us ->
  RL w X' m h (cs.map kg) us
 |B,[],us,_,hg=>by simp only[jH]at hg;simp[RL,hg.2]
 |B,c::cs,us,hB,hg=>by
  simp only[jH]at hg;obtain⟨B1,B2,u,jg,rfl,rfl,g1,g2⟩:=hg;simp only[List.map_cons,RL];exact⟨u,jg,rfl,lI.weak hx (fun b hb=>hB b (by simp[hb])) g1,jH.weak hx (fun b hb=>hB b (by simp[hb])) g2⟩
theorem uL.weak{X':Nat->Prop}(hx:∀ b,X' b->X b){B:List Nat}(hB:∀ b∈B,¬ X' b){v:AV}{u:Value}(hg:uL w X m h B v u):R w X' m h (weak v) u:=by
 unfold uL at hg;split at hg
 ·rename_i cs;obtain⟨us,rfl,hl⟩:=hg;simp only[VI.weak,R];exact⟨us,rfl,jH.weak hx hB hl⟩
 ·rename_i hne
  have:VI.weak v=kg v:=by
   cases v<;>first|rfl|exact absurd rfl (hne _)
  rw[this];exact lI.weak hx hB hg
theorem XW:∀{cs:List AV} {us:List Value},RL w X m h cs us->RL w X m h (cs.map kg) us
 |[],us,hr=>by simpa[RL]using hr
 |c::cs,us,hr=>by
  simp only[RL]at hr;obtain⟨u,jg,rfl,h1,h2⟩:=hr;simp only[List.map_cons,RL];refine⟨u,jg,rfl, ?_,XW h2⟩;cases c<;>first|exact h1|(simp[R]at h1)
theorem af0{v:AV}{u:Value}(hr:R w X m h v u):R w X m h (weak v) u:=by
 cases v with
 |tuple cs =>
  simp only[R]at hr;obtain⟨us,rfl,hl⟩:=hr;simp only[weak,R]
  exact⟨us,rfl,XW hl⟩
 |own=>simp[R]at hr
 |_=>exact hr
theorem zI.weak{w':World}{m':Map}{h':Heap}{v:AV}{u:Value}(hr:zI w w' m' h' v u):R w' (Live m' h') m' h' (weak v) u:=by
 obtain⟨B,hn,hB,_,hg⟩:=hr;exact uL.weak (fun b hb=>.inl hb) (fun b hb=>(hB b hb).2) hg
structure Over(lo:Nat)(w:World)(m:Map)(h:Heap)(w':World)(X:Nat->Prop)(m1:Map)(h1:Heap):Prop where
 step:Step lo w m h w' m1 h1
 len:m1.length=h1.length
 blk:∀(id ai:Nat) (blk:au),h1[id]?=some (ai,blk)->blk.mem=true->∃ b,∃ c:Array Value,∃ ty,m1[id]?=some b/\w'.heap[b]?=some (Obj.cells c ty (0,0))/\sU w' X m1 h1 c.toList blk
 ax:∀(id ai:Nat) (d:dO) (st:RS),h1[id]?=some (ai,.ax d st)->∃ b o,m1[id]?=some b/\w'.heap[b]?=some o/\pU w' X m1 h1 o d st
 inj:∀(id id' v v':Nat) (blk gX:au) (b:Nat),h1[id]?=some (v,blk)->blk≠.dead->m1[id]?=some b->h1[id']?=some (v',gX)->gX≠.dead->m1[id']?=some b->id=id'
 sub:∀ b,Live m1 h1 b->X b
theorem sU.less{X':Nat->Prop}(hx:∀ b,X' b->X b){c:List Value}{blk:au}(hb:sU w X m h c blk):sU w X' m h c blk :=
 hb.ids (fun id v blk h=>⟨v,blk,h,bC _,fun _=>rZ.refl _ _ _ _⟩) (Keep.weaken hx)
theorem pU.less{X':Nat->Prop}(hx:∀ b,X' b->X b){o:Obj}{d:dO}{st:RS}(hb:pU w X m h o d st):pU w X' m h o d st :=
 hb.ids (fun id v blk h=>⟨v,blk,h,bC _,fun _=>rZ.refl _ _ _ _⟩) (Keep.weaken hx) (bC _)
theorem Over.inv{lo:Nat}{w':World}{m1:Map}{h1:Heap}(ho:Over lo w m h w' X m1 h1)(hg:yx w (Live m h)):Inv w' m1 h1 :=
 ⟨ho.len,fun id ai blk h1 h2=>let ⟨b,c,ty,e1,e2,e3⟩:=ho.blk id ai blk h1 h2;⟨b,c,ty,e1,e2,e3.less ho.sub⟩,
   fun id ai d st h1=>let ⟨b,o,e1,e2,e3⟩:=ho.ax id ai d st h1;⟨b,o,e1,e2,e3.less ho.sub⟩,ho.inj,hg.keep ho.step.keep⟩
theorem Over.take{lo:Nat}{w':World}{m1:Map}{h1 h2:Heap}(ho:Over lo w m h w' X m1 h1){cx:Cx}{s ai z b:Nat}{es:List AV}{u:Value}(hlo:lo<=cx.base)(hm:fB cx s (.arr z es) h1=some (ai,h2))
  (hb1:w.heap.size<=b) (hb2:¬ Live m1 h1 b) (hx:X b) (hu:OwnAt w' X z es b u) :
  ∃ m2,Over lo w m h w' X m2 h2/\rC w' m1 h1 w' m2 h2/\R w' X m2 h2 (.ref (cx.base+s) ai z 0 es.length es.length) u/\(∀ q,Live m2 h2 q->Live m1 h1 q\/q=b):=by
 have hm:∃ v0 iI,h1[cx.base+s]?=some (v0,iI)/\v0+1=ai/\h1.set (cx.base+s) (v0+1,.arr z es)=h2:=by
  unfold fB at hm;split at hm
  ·split at hm
   ·rename_i v0 iI hid;simp only[aS,aB]at hm;exact⟨v0,iI,hid,hm.1,hm.2⟩
   ·cases hm
  ·cases hm
 obtain⟨v0,iI,hid,rfl,rfl⟩:=hm
 ·obtain⟨cap,c,ty,rfl,g1,g2,g3,g4,g5⟩:=hu;obtain⟨b0,hm0⟩:=Gt ho.len hid;have hlt:cx.base+s<h1.length:=(dQ.mp hid).1;have hset:(h1.set (cx.base+s) (v0+1,au.arr z es))[cx.base+s]?=some (v0+1,au.arr z es):=rJ hlt;have oM:(m1.set (cx.base+s) b)[cx.base+s]?=some b:=rJ (by rw[ho.len];exact hlt)
  have hother:∀{k:Nat},k≠cx.base+s->(h1.set (cx.base+s) (v0+1,au.arr z es))[k]?=h1[k]?:=fun hk=>iH (by omega)
  have xq:∀{k:Nat},k≠cx.base+s->(m1.set (cx.base+s) b)[k]?=m1[k]?:=fun hk=>iH (by omega)
  have hlive:∀ q,Live (m1.set (cx.base+s) b) (h1.set (cx.base+s) (v0+1,au.arr z es)) q->Live m1 h1 q\/q=b:=by
   rintro q ⟨id,v,blk,k1,k2,k3⟩;by_cases hk:id=cx.base+s
   ·subst hk;rw[oM]at k3;cases k3;exact .inr rfl
   ·rw[hother hk]at k1;rw[xq hk]at k3;exact .inl ⟨id,v,blk,k1,k2,k3⟩
  have Cf:rC w' m1 h1 w' (m1.set (cx.base+s) b) (h1.set (cx.base+s) (v0+1,au.arr z es)):=by
   intro id v blk hk;by_cases he:id=cx.base+s
   ·subst he;rw[hid]at hk;cases hk;exact⟨_,_,hset,by omega,fun e=>by omega⟩
   ·refine⟨v,blk,by rw[hother he];exact hk,bC _,fun _=>?_⟩
    cases blk with
    |dead=>exact .inl rfl
    |box cs=>exact .inr (.inl ⟨cs,cs,rfl,rfl,xq he⟩)
    |ax d st=>exact .inr (.inr (.inl ⟨d,st,d,st,rfl,rfl,xq he,rfl,fun l e=>⟨e,fun _ _=>rfl⟩⟩))
    |arr z es=>exact .inr (.inr (.inr ⟨z,es,es,rfl,rfl,bC _,fun _=>⟨xq he,fun _ _=>bC _⟩⟩))
  have kx:Keep w' X w' X:=Keep.refl _ _;refine⟨m1.set (cx.base+s) b,⟨?_,by simp[ho.len], ?_, ?_, ?_, ?_⟩,Cf, ?_,hlive⟩
  ·-- the step
   refine⟨ho.step.os,ho.step.tape,ho.step.output,by simp[ho.step.len],ho.step.old,⟨ho.step.keep.size,ho.step.keep.cell,fun q hq=>?_⟩,fun id hk=>?_,fun id v blk hk=>?_,fun id v blk q k1 k2 k3=>?_⟩
   ·rcases hlive q hq with h|rfl
    ·exact ho.step.keep.live q h
    ·exact .inr hb1
   ·have hne:id≠cx.base+s:=by omega
    obtain⟨e1,e2,e3⟩:=ho.step.low id hk;exact⟨(hother hne).trans e1,(xq hne).trans e2,e3⟩
   ·obtain⟨v1,kJ,e1,e2,e3⟩:=ho.step.ids id v blk hk;by_cases he:id=cx.base+s
    ·subst he;rw[hid]at e1;cases e1;exact⟨_,_,hset,by omega,fun e=>by omega⟩
    ·refine⟨v1,kJ,by rw[hother he];exact e1,e2,fun e=>?_⟩
     have:=e3 e;unfold rZ at this⊢;rw[xq he];exact this
   ·by_cases he:id=cx.base+s
    ·subst he;rw[oM]at k3;cases k3;exact .inr hb1
    ·rw[hother he]at k1;rw[xq he]at k3;exact ho.step.fresh id v blk q k1 k2 k3
  ·intro id v blk k1 k2;by_cases he:id=cx.base+s
   ·subst he;rw[hset]at k1;cases k1;exact⟨b,c,ty,oM,g3,g4,g5⟩
   ·rw[hother he]at k1;obtain⟨b',c',ty',e1,e2,e3⟩:=ho.blk id v blk k1 k2;exact⟨b',c',ty',(xq he).trans e1,e2,e3.ids Cf kx⟩
  ·intro id v d st k1;by_cases he:id=cx.base+s
   ·subst he;rw[hset]at k1;cases k1
   ·rw[hother he]at k1;obtain⟨b',o',e1,e2,e3⟩:=ho.ax id v d st k1;exact⟨b',o',(xq he).trans e1,e2,e3.ids Cf kx (by simp)⟩
  ·intro id id' v v' blk gX q k1 k2 k3 k1' k2' GD;by_cases he:id=cx.base+s
   ·by_cases he':id'=cx.base+s
    ·omega
    ·subst he;rw[oM]at k3;cases k3;rw[hother he']at k1';rw[xq he']at GD;exact absurd ⟨id',v',gX,k1',k2',GD⟩ hb2
   ·by_cases he':id'=cx.base+s
    ·subst he';rw[oM]at GD;cases GD;rw[hother he]at k1;rw[xq he]at k3;exact absurd ⟨id,v,blk,k1,k2,k3⟩ hb2
    ·rw[hother he]at k1;rw[xq he]at k3;rw[hother he']at k1';rw[xq he']at GD;exact ho.inj id id' v v' blk gX q k1 k2 k3 k1' k2' GD
  ·intro q hq;rcases hlive q hq with h|rfl
   ·exact ho.sub q h
   ·exact hx
  ·simp only[R];refine⟨_,cap,rfl,g1,by simp,v0+1,_,hset,bC _,fun _ z' es' hb'=>?_⟩
   cases hb';refine⟨rfl,bC _,fun _=>⟨b,oM,.inr ⟨by simp,by omega, ?_⟩⟩⟩
   simp only[bsize,g3,oO];exact g2
theorem jH.get:∀{B:List Nat} {cs:List AV} {us:List Value},jH w X m h B cs us->∀(j:Nat) c,cs[j]?=some c->∃ B1 B2 B3 u,B=B1++B2++B3/\us[j]?=some u/\lI w X m h B2 c u /\
  ∀{m2:Map} {h2:Heap} (c':AV),(∀ v u,R w X m h v u->R w X m2 h2 v u)->R w X m2 h2 c' u->(∀ z es,c'≠.own z es)->jH w X m2 h2 (B1++B3) (cs.set j c') us
 |B,[],us,_,j,c,hc=>by simp at hc
 |B,x::cs,us,hg,j,c,hc=>by
  simp only[jH]at hg;obtain⟨B1,B2,u,jg,rfl,rfl,g1,g2⟩:=hg
  have lift:∀{m2:Map} {h2:Heap},(∀ v u,R w X m h v u->R w X m2 h2 v u)->∀{B:List Nat} {v:AV} {u:Value},lI w X m h B v u->lI w X m2 h2 B v u:=by
   intro m2 h2 hl B v u hg;unfold lI at hg⊢;split
   ·exact hg
   ·rename_i hne;split at hg
    ·exact absurd rfl (hne _ _)
    ·exact⟨hg.1,hl _ _ hg.2⟩
  have af4:∀{m2:Map} {h2:Heap},(∀ v u,R w X m h v u->R w X m2 h2 v u)->∀{cs:List AV} {B:List Nat} {us:List Value},jH w X m h B cs us->jH w X m2 h2 B cs us:=by
   intro m2 h2 hl cs
   induction cs with
   |nil=>intro B us hg;exact hg
   |cons y ys ih =>
    intro B us hg;simp only[jH]at hg⊢;obtain⟨B1,B2,u,jg,rfl,rfl,g1,g2⟩:=hg;exact⟨B1,B2,u,jg,rfl,rfl,lift hl g1,ih g2⟩
  cases j with
  |zero =>
   simp only[List.getElem?_cons_zero,aS]at hc;subst hc;refine⟨[],B1,B2,u,by simp,rfl,g1,fun{m2} {h2} c' hl hr hno=>?_⟩
   simp only[List.set_cons_zero,jH,List.nil_append];refine⟨[],B2,u,jg,rfl,rfl, ?_,af4 hl g2⟩;unfold lI;split
   ·exact absurd rfl (hno _ _)
   ·exact⟨rfl,hr⟩
  |succ j =>
   simp only[List.getElem?_cons_succ]at hc;obtain⟨C1,C2,C3,u2,rfl,e2,e3,e4⟩:=jH.get g2 j c hc;refine⟨B1++C1,C2,C3,u2,by simp[jO],e2,e3,fun{m2} {h2} c' hl hr hno=>?_⟩
   simp only[List.set_cons_succ,jH];exact⟨B1,C1++C3,u,jg,by simp[jO],rfl,lift hl g1,e4 c' hl hr hno⟩
theorem Ki{lo:Nat}{w':World}{cx:Cx}(hlo:lo<=cx.base):∀(own:List (Nat×Nat)) (B:List Nat) (cs cs':List AV) (us:List Value) (m1:Map) (h1 h2:Heap),Over lo w m h w' X m1 h1->B.Nodup->(∀ b∈B,w.heap.size<=b/\¬ Live m1 h1 b/\X b) ->
  jH w' X m1 h1 B cs us->qB cx own cs h1=some (cs',h2) ->
  ∃ m2 B',Over lo w m h w' X m2 h2/\(∀ b∈B',¬ Live m2 h2 b)/\jH w' X m2 h2 B' cs' us
 |[],B,cs,cs',us,m1,h1,h2,ho,_,hB,hg,ht=>by
  simp only[qB,aS,aB]at ht;obtain⟨rfl,rfl⟩:=ht
  exact⟨m1,B,ho,fun b hb=>(hB b hb).2.1,hg⟩
 |(j,s)::own,B,cs,cs',us,m1,h1,h2,ho,hn,hB,hg,ht=>by
  simp only[qB]at ht;split at ht
  ·rename_i z es hj;split at ht
   ·rename_i hes;split at ht
    ·rename_i hz;obtain⟨B1,B2,B3,u,rfl,hu,hgr,hset⟩:=jH.get hg j _ hj;simp only[lI]at hgr;rcases hgr with⟨_,rfl,a,cap,rfl,hc⟩|⟨hne,_⟩
     ·obtain rfl:=hc hz;refine Ki hlo own (B1++B3) _ cs' us m1 h1 h2 ho (by simpa using hn) (fun b hb=>hB b (by simpa using hb)) (hset (.bF 0 []) (fun _ _ h=>h) ?_ (fun _ _ h=>by cases h)) ht
      unfold R RC;exact⟨a,rfl,.inl rfl⟩
     ·exact absurd hes hne
    ·exact Ki hlo own B cs cs' us m1 h1 h2 ho hn hB hg ht
   ·rename_i hne;obtain⟨⟨ai,h3⟩,hm,ht⟩:=bE.mp ht;obtain⟨B1,B2,B3,u,rfl,hu,hgr,hset⟩:=jH.get hg j _ hj;simp only[lI]at hgr;obtain⟨_,b,rfl,hown⟩:=hgr.resolve_left (fun h=>hne h.1);obtain⟨k1,k2,k3⟩:=hB b (by simp)
    obtain⟨m3,ho3,Cf,hR,hlv⟩:=ho.take hlo hm k1 k2 k3 hown
    have hnd:(B1++B3).Nodup/\b∉B1++B3:=by
     have h1:=hn;simp only[List.nodup_append,lX,ko,List.not_mem_nil,or_false,List.nodup_cons]at h1⊢;obtain⟨⟨a1,_,a3⟩,a4,a5⟩:=h1;refine⟨⟨a1,a4,fun x hx y hy=>a5 x (.inl hx) y hy⟩, ?_⟩;rintro(hb|hb)
     ·exact a3 b hb b rfl rfl
     ·exact a5 b (.inr rfl) b hb rfl
    refine Ki hlo own (B1++B3) _ cs' us m3 h3 h2 ho3 hnd.1 (fun q hq=>?_) (hset _ (fun v u hr=>R.step Cf (Keep.refl _ _) v u hr) hR (fun _ _ h=>by cases h)) ht
    have hq':q∈B1++[b]++B3:=by
     rcases lX.mp hq with h|h<;>simp[h]
    obtain⟨q1,q2,q3⟩:=hB q hq';refine⟨q1,fun hl=>?_,q3⟩;rcases hlv q hl with h|rfl
    ·exact q2 h
    ·exact hnd.2 hq
  ·exact Ki hlo own B cs cs' us m1 h1 h2 ho hn hB hg ht
end
end Go.VI
