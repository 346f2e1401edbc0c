/- Calls; every operation; regions, in whatever order they are run. -/
import Derived.Test.YtfpoegnmeoghpaaGreatDoorVIK
import Derived.OrdersIn
import Derived.RangeFuncLeaves
import Derived.RangeFuncOwn
import Derived.Lib.FrozenHead
set_option linter.unusedVariables false
set_option linter.unusedSimpArgs false
namespace Go.VI
set_option linter.unusedSectionVars false
variable [kH][Rounds]
def OwnAt(w:World)(X:Nat->Prop)(z:Nat)(es:List AV)(b:Nat)(u:Value):Prop :=
 ∃ cap,∃ c:Array Value,∃ ty,u=.slice (some ⟨b,0,none⟩) es.length cap/\es.length<=cap/\cap*z<=c.size/\w.heap[b]?=some (Obj.cells c ty (0,0))/\0<z/\xC w X z es c.toList
def Dj(w:World)(X:Nat->Prop)(m:Map)(h:Heap)(B:List Nat)(v:AV)(u:Value):Prop :=
 match v with
 |.own z es=>(es=[]/\B=[]/\∃ a cap,u=.slice a 0 cap/\(z=0->cap=0))\/(es≠[]/\∃ b,B=[b]/\OwnAt w X z es b u)
 |v=>B=[]/\R w X m h v u
def xU(w:World)(X:Nat->Prop)(m:Map)(h:Heap):List Nat->List AV->List Value->Prop
 |B,[],us=>B=[]/\us=[]
 |B,c::cs,us=>∃ B1 B2 u vw,B=B1++B2/\us=u::vw/\Dj w X m h B1 c u/\xU w X m h B2 cs vw
def RD(w:World)(X:Nat->Prop)(m:Map)(h:Heap)(B:List Nat)(v:AV)(u:Value):Prop :=
 match v with
 |.tuple cs=>∃ us:List Value,u=.tuple us.toArray/\xU w X m h B cs us
 |v=>Dj w X m h B v u
structure Yt(w:World)(X:Nat->Prop)(m:Map)(h:Heap):Prop where
 inv:Inv w m h
 sub:∀ b,Live m h b->X b
 blk:∀(id ak:Nat) (blk:aU),h[id]?=some (ak,blk)->blk.mem=true->∃ b,∃ c:Array Value,∃ ty,m[id]?=some b/\w.heap[b]?=some (Obj.cells c ty (0,0))/\Rj w X m h c.toList blk
 aV:∀(id ak:Nat) (d:kP) (st:RS),h[id]?=some (ak,.aV d st)->∃ b o,m[id]?=some b/\w.heap[b]?=some o/\JJ w X m h o d st
def ZE(w w':World)(m':Map)(h':Heap)(v:AV)(u:Value):Prop :=
 ∃ B:List Nat,B.Nodup/\(∀ b∈B,w.heap.size<=b/\¬ Live m' h' b)/\Yt w' (fun b=>Live m' h' b\/b∈B) m' h'/\RD w' (fun b=>Live m' h' b\/b∈B) m' h' B v u
def Enters (P : Program) (f : FuncId) : Prop := ∃ fn, P.funcs[f]? = some fn ∧ fn.name ≠ "runtime.NumGoroutine" ∧ fn.body.isSome = true
abbrev F8(ro:Option Nat):Fence:={ Fence.wide with round:=ro }
def abu(r:Loop)(vs:List Value):Array Value:=(r.params.zip vs.toArray).foldl (fun tmps (t,a)=>tmps.setIfInBounds t a) r.tmps
structure Qy(eB:Nat->Bool)(call:Callee):Prop where
 fn:∀{f:Nat} {args:List AV} {h:Heap} {lo:Nat} {r:AV} {h':Heap},call.fn f args h lo=some (r,h')->∀{i v:Nat} {b:Nat×aU},h[i]?=some (v,.dead)->(i<lo\/eB f=true\/eB (f+5000)=true)->h'[i]?=some (v,.dead)/\call.fn f args (h.set i b) lo=some (r,h'.set i b)
 kp:∀{f:Nat} {args:List AV} {h:Heap} {lo:Nat} {r:AV} {h':Heap},call.fn f args h lo=some (r,h')->(eB f=true\/eB (f+5000)=true)->∀{i v:Nat},h'[i]?=some (v,.dead)->h[i]?=some (v,.dead)
 rd:∀{d:kP} {id ak:Nat} {args:List AV} {h:Heap} {e:Ex} {h':Heap},call.rd d id ak args h=some (e,h')->∀{i v:Nat} {b:Nat×aU},h[i]?=some (v,.dead)->i<d.lo->d.lo<=d.base->d.lo<=id->h'[i]?=some (v,.dead)/\call.rd d id ak args (h.set i b)=some (e,h'.set i b)
structure Fr2(w w':World)(b:Nat)(g:Option Nat):Prop where
 os:w'.os=w.os
 tape:w'.tape=w.tape
 output:w'.output=w.output
 size:w.heap.size<=w'.heap.size
 old:∀ k,k<w.heap.size->k≠b->some k≠g->w'.heap[k]?=w.heap[k]?
def alB(P:Program)(f:FuncId):Prop:=Enters P f/\∀(w:World) (b:Nat) (p v:Value) (bs s:List UInt8),w.heap[b]?=some (.cells #[p,v] kH.Nq (0,0))->(p=.pointer none\/p=.pointer (some ⟨b,0,none⟩))->w.ownsRowF 0 kH.Y1 1 v bs.length (Lib.byteCells bs) ->
 v.ownBlock≠some b->bs.length+s.length<=Zr->Calls P f #[.pointer (some ⟨b,0,none⟩),.string ⟨s.toArray⟩] w fun e w'=>e=.returned (.tuple #[.int .i64 s.length,.nilIface])/\Fr2 w w' b v.ownBlock /\
  ∃ v',w'.heap[b]?=some (.cells #[.pointer (some ⟨b,0,none⟩),v'] kH.Nq (0,0))/\w'.ownsRowF 0 kH.Y1 1 v' (bs.length+s.length) (Lib.byteCells (bs++s))/\v'.ownBlock≠some b/\(v'.ownBlock=v.ownBlock\/∀ g,v'.ownBlock=some g->w.heap.size<=g)
def alC(P:Program)(f:FuncId):Prop:=Enters P f/\∀(w:World) (b:Nat) (p v:Value) (l:List UInt8),w.heap[b]?=some (.cells #[p,v] kH.Nq (0,0))->(p=.pointer none\/p=.pointer (some ⟨b,0,none⟩))->w.ownsRowF 0 kH.Y1 1 v l.length (Lib.byteCells l) ->
 v.ownBlock≠some b->(l=[]->v=.slice none 0 0)->Calls P f #[.pointer (some ⟨b,0,none⟩)] w fun e w'=>e=.returned (.string ⟨l.toArray⟩)/\Fr2 w w' b v.ownBlock/\w'.heap[b]?=w.heap[b]?/\w'.ownsRowF 0 kH.Y1 1 v l.length (Lib.byteCells l)
structure Rk(P:Program)(eB:Nat->Bool)(call:Callee):Prop where
 does:∀{f:Nat} {args:List AV} {h:Heap} {lo:Nat} {r:AV} {h':Heap},call.fn f args h lo=some (r,h')->Enters P f/\∀(w:World) (m:Map) (vs:List Value),Inv w m h->RL w (Live m h) m h args vs->lo<=h.length ->
  Calls P f vs.toArray w fun e w'=>∃ u m',e=.returned u/\Step lo w m h w' m' h'/\Inv w' m' h'/\ZE w w' m' h' r u
 shut:∀{f:Nat} {args:List AV} {h:Heap} {lo:Nat} {r:AV} {h':Heap},eB f=true->call.fn f args h lo=some (r,h')->h'=h
 Df:∀{d:kP} {id ak:Nat} {args:List AV} {h:Heap} {e:Ex} {h':Heap},call.rd d id ak args h=some (e,h')->∀{w:World} {m:Map} {l:Nat} {r:Loop} {vs:List Value},Inv w m h->h[id]?=some (ak,.aV d .ready)->d.lo<=id->m[id]?=some l->w.heap[l]?=some (.loop r) ->
  JJ w (Live m h) m h (.loop r) d .ready->RL w (Live m h) m h args vs->r.params.size=vs.length /\
  RoundIn (F8 none) 0 P l r.fn (abu r vs) r.assign r.body w fun e' w'=>∃ m',e'=.returned (.bool (e==.norm))/\Step d.lo w m h w' m' h'/\Inv w' m' h'
 ext:Qy eB call
 wr:∀ f,kH.ald f=true->alB P f
 bs:∀ f,kH.ale f=true->alC P f
section
variable {w:World}{m:Map}{h:Heap}{P:Program}{env:Env}{a:Act}{o:Oper}{X:Nat->Prop}
mutual
theorem R.less{X':Nat->Prop}(hx:∀ b,X' b->X b):∀(v:AV) (u:Value),R w X m h v u->R w X' m h v u
 |v,u,hr=>R.step (fun id v blk h=>⟨v,blk,h,iJ _,fun _=>OY.refl _ _ _ _⟩) (Keep.weaken hx) v u hr
end
theorem Dj.weak{X':Nat->Prop}(hx:∀ b,X' b->X b){B:List Nat}(hB:∀ b∈B,¬ X' b){v:AV}{u:Value}(hg:Dj w X m h B v u) :
  R w X' m h (yY v) u:=by
 unfold Dj at hg;split at hg
 ·rename_i z es;simp only[yY,R,RC];rcases hg with⟨rfl,_,a',cap,rfl,_⟩|⟨hne,b,rfl,cap,c,ty,rfl,h1,h2,h3,h4,h5⟩
  ·exact⟨a',cap,rfl,by simp,.inl rfl⟩
  ·refine⟨_,cap,rfl,h1,.inr ⟨b,0,rfl, ?_,hB b (by simp),h4,ab4 _ _ _ fun i e he=>?_⟩⟩
   ·rcases Fz b w.heap.size with hl|hl
    ·exact hl
    ·rw[Array.getElem?_eq_none hl]at h3;cases h3
   ·obtain⟨v',k1,k2,k3,k4⟩:=xC.elems h3 h5 he;exact⟨v',RC.less hx k1,k2,k3,by simpa using k4⟩
 ·rename_i hne
  have:yY v=v:=by
   cases v<;>first|rfl|exact absurd rfl (hne _ _)
  rw[this];exact R.less hx _ _ hg.2
theorem xU.weak{X':Nat->Prop}(hx:∀ b,X' b->X b):∀{B:List Nat} {cs:List AV} {us:List Value},(∀ b∈B,¬ X' b)->xU w X m h B cs us ->
  RL w X' m h (cs.map yY) us
 |B,[],us,_,hg=>by simp only[xU]at hg;simp[RL,hg.2]
 |B,c::cs,us,hB,hg=>by
  simp only[xU]at hg;obtain⟨B1,B2,u,vw,rfl,rfl,g1,g2⟩:=hg;simp only[List.map_cons,RL];exact⟨u,vw,rfl,Dj.weak hx (fun b hb=>hB b (by simp[hb])) g1,xU.weak hx (fun b hb=>hB b (by simp[hb])) g2⟩
theorem RD.weak{X':Nat->Prop}(hx:∀ b,X' b->X b){B:List Nat}(hB:∀ b∈B,¬ X' b){v:AV}{u:Value}(hg:RD w X m h B v u):R w X' m h (weak v) u:=by
 unfold RD at hg;split at hg
 ·rename_i cs;obtain⟨us,rfl,hl⟩:=hg;simp only[VI.weak,R];exact⟨us,rfl,xU.weak hx hB hl⟩
 ·rename_i hne
  have:VI.weak v=yY v:=by
   cases v<;>first|rfl|exact absurd rfl (hne _)
  rw[this];exact Dj.weak hx hB hg
theorem ayi:∀{cs:List AV} {us:List Value},RL w X m h cs us->RL w X m h (cs.map yY) us
 |[],us,hr=>by simpa[RL]using hr
 |c::cs,us,hr=>by
  simp only[RL]at hr;obtain⟨u,vw,rfl,h1,h2⟩:=hr;simp only[List.map_cons,RL];refine⟨u,vw,rfl, ?_,ayi h2⟩;cases c<;>first|exact h1|(simp[R]at h1)
theorem aE8{v:AV}{u:Value}(hr:R w X m h v u):R w X m h (weak v) u:=by
 cases v with
 |tuple cs =>
  simp only[R]at hr;obtain⟨us,rfl,hl⟩:=hr;simp only[weak,R]
  exact⟨us,rfl,ayi hl⟩
 |own=>simp[R]at hr
 |_=>exact hr
theorem ZE.weak{w':World}{m':Map}{h':Heap}{v:AV}{u:Value}(hr:ZE w w' m' h' v u):R w' (Live m' h') m' h' (weak v) u:=by
 obtain⟨B,hn,hB,_,hg⟩:=hr;exact RD.weak (fun b hb=>.inl hb) (fun b hb=>(hB b hb).2) hg
structure Over(lo:Nat)(w:World)(m:Map)(h:Heap)(w':World)(X:Nat->Prop)(m1:Map)(h1:Heap):Prop where
 step:Step lo w m h w' m1 h1
 len:m1.length=h1.length
 blk:∀(id ak:Nat) (blk:aU),h1[id]?=some (ak,blk)->blk.mem=true->∃ b,∃ c:Array Value,∃ ty,m1[id]?=some b/\w'.heap[b]?=some (Obj.cells c ty (0,0))/\Rj w' X m1 h1 c.toList blk
 aV:∀(id ak:Nat) (d:kP) (st:RS),h1[id]?=some (ak,.aV d st)->∃ b o,m1[id]?=some b/\w'.heap[b]?=some o/\JJ w' X m1 h1 o d st
 inj:∀(id id' v v':Nat) (blk qN:aU) (b:Nat),h1[id]?=some (v,blk)->blk≠.dead->m1[id]?=some b->h1[id']?=some (v',qN)->qN≠.dead->m1[id']?=some b->id=id'
 sub:∀ b,Live m1 h1 b->X b
theorem Rj.less{X':Nat->Prop}(hx:∀ b,X' b->X b){c:List Value}{blk:aU}(hb:Rj w X m h c blk):Rj w X' m h c blk :=
 hb.ids (fun id v blk h=>⟨v,blk,h,iJ _,fun _=>OY.refl _ _ _ _⟩) (Keep.weaken hx)
theorem JJ.less{X':Nat->Prop}(hx:∀ b,X' b->X b){o:Obj}{d:kP}{st:RS}(hb:JJ w X m h o d st):JJ w X' m h o d st :=
 hb.ids (fun id v blk h=>⟨v,blk,h,iJ _,fun _=>OY.refl _ _ _ _⟩) (Keep.weaken hx) (iJ _)
theorem Over.inv{lo:Nat}{w':World}{m1:Map}{h1:Heap}(ho:Over lo w m h w' X m1 h1)(hg:Y2 w (Live m h)):Inv w' m1 h1 :=
 ⟨ho.len,fun id ak blk h1 h2=>let ⟨b,c,ty,e1,e2,e3⟩:=ho.blk id ak blk h1 h2;⟨b,c,ty,e1,e2,e3.less ho.sub⟩,
   fun id ak d st h1=>let ⟨b,o,e1,e2,e3⟩:=ho.aV id ak d st h1;⟨b,o,e1,e2,e3.less ho.sub⟩,ho.inj,hg.keep ho.step.keep⟩
theorem Over.take{lo:Nat}{w':World}{m1:Map}{h1 h2:Heap}(ho:Over lo w m h w' X m1 h1){cx:Cx}{s ak z b:Nat}{es:List AV}{u:Value}(hlo:lo<=cx.base)(hm:mK cx s (.arr z es) h1=some (ak,h2))
  (hb1:w.heap.size<=b) (hb2:¬ Live m1 h1 b) (hx:X b) (hu:OwnAt w' X z es b u) :
  ∃ m2,Over lo w m h w' X m2 h2/\Nl w' m1 h1 w' m2 h2/\R w' X m2 h2 (.ref (cx.base+s) ak z 0 es.length es.length) u/\(∀ q,Live m2 h2 q->Live m1 h1 q\/q=b):=by
 have hm:∃ v0 rY,h1[cx.base+s]?=some (v0,rY)/\v0+1=ak/\h1.set (cx.base+s) (v0+1,.arr z es)=h2:=by
  unfold mK at hm;split at hm
  ·split at hm
   ·rename_i v0 rY hid;simp only[dz,bf]at hm;exact⟨v0,rY,hid,hm.1,hm.2⟩
   ·cases hm
  ·cases hm
 obtain⟨v0,rY,hid,rfl,rfl⟩:=hm
 ·obtain⟨cap,c,ty,rfl,g1,g2,g3,g4,g5⟩:=hu;obtain⟨b0,hm0⟩:=ajR ho.len hid;have hlt:cx.base+s<h1.length:=(kS.mp hid).1;have hset:(h1.set (cx.base+s) (v0+1,aU.arr z es))[cx.base+s]?=some (v0+1,aU.arr z es):=L8 hlt;have IJ:(m1.set (cx.base+s) b)[cx.base+s]?=some b:=L8 (by rw[ho.len];exact hlt)
  have hother:∀{k:Nat},k≠cx.base+s->(h1.set (cx.base+s) (v0+1,aU.arr z es))[k]?=h1[k]?:=fun hk=>tL (by omega)
  have Yu:∀{k:Nat},k≠cx.base+s->(m1.set (cx.base+s) b)[k]?=m1[k]?:=fun hk=>tL (by omega)
  have hlive:∀ q,Live (m1.set (cx.base+s) b) (h1.set (cx.base+s) (v0+1,aU.arr z es)) q->Live m1 h1 q\/q=b:=by
   rintro q ⟨id,v,blk,k1,k2,k3⟩;by_cases hk:id=cx.base+s
   ·subst hk;rw[IJ]at k3;cases k3;exact .inr rfl
   ·rw[hother hk]at k1;rw[Yu hk]at k3;exact .inl ⟨id,v,blk,k1,k2,k3⟩
  have ab8:Nl w' m1 h1 w' (m1.set (cx.base+s) b) (h1.set (cx.base+s) (v0+1,aU.arr z es)):=by
   intro id v blk hk;by_cases he:id=cx.base+s
   ·subst he;rw[hid]at hk;cases hk;exact⟨_,_,hset,by omega,fun e=>by omega⟩
   ·refine⟨v,blk,by rw[hother he];exact hk,iJ _,fun _=>?_⟩
    cases blk with
    |dead=>exact .inl rfl
    |box cs=>exact .inr (.inl ⟨cs,cs,rfl,rfl,Yu he⟩)
    |aV d st=>exact .inr (.inr (.inl ⟨d,st,d,st,rfl,rfl,Yu he,rfl,fun l e=>⟨e,fun _ _=>rfl⟩⟩))
    |arr z es=>exact .inr (.inr (.inr ⟨z,es,es,rfl,rfl,iJ _,fun _=>⟨Yu he,fun _ _=>iJ _⟩⟩))
  have kx:Keep w' X w' X:=Keep.refl _ _;refine⟨m1.set (cx.base+s) b,⟨?_,by simp[ho.len], ?_, ?_, ?_, ?_⟩,ab8, ?_,hlive⟩
  ·-- the step
   refine⟨ho.step.os,ho.step.tape,ho.step.output,by simp[ho.step.len],ho.step.old,⟨ho.step.keep.size,ho.step.keep.cell,fun q hq=>?_⟩,fun id hk=>?_,fun id v blk hk=>?_,fun id v blk q k1 k2 k3=>?_⟩
   ·rcases hlive q hq with h|rfl
    ·exact ho.step.keep.live q h
    ·exact .inr hb1
   ·have hne:id≠cx.base+s:=by omega
    obtain⟨e1,e2,e3⟩:=ho.step.low id hk;exact⟨(hother hne).trans e1,(Yu hne).trans e2,e3⟩
   ·obtain⟨v1,AU,e1,e2,e3⟩:=ho.step.ids id v blk hk;by_cases he:id=cx.base+s
    ·subst he;rw[hid]at e1;cases e1;exact⟨_,_,hset,by omega,fun e=>by omega⟩
    ·refine⟨v1,AU,by rw[hother he];exact e1,e2,fun e=>?_⟩
     have:=e3 e;unfold OY at this⊢;rw[Yu he];exact this
   ·by_cases he:id=cx.base+s
    ·subst he;rw[IJ]at k3;cases k3;exact .inr hb1
    ·rw[hother he]at k1;rw[Yu he]at k3;exact ho.step.fresh id v blk q k1 k2 k3
  ·intro id v blk k1 k2;by_cases he:id=cx.base+s
   ·subst he;rw[hset]at k1;cases k1;exact⟨b,c,ty,IJ,g3,g4,g5⟩
   ·rw[hother he]at k1;obtain⟨b',c',ty',e1,e2,e3⟩:=ho.blk id v blk k1 k2;exact⟨b',c',ty',(Yu he).trans e1,e2,e3.ids ab8 kx⟩
  ·intro id v d st k1;by_cases he:id=cx.base+s
   ·subst he;rw[hset]at k1;cases k1
   ·rw[hother he]at k1;obtain⟨b',o',e1,e2,e3⟩:=ho.aV id v d st k1;exact⟨b',o',(Yu he).trans e1,e2,e3.ids ab8 kx (by simp)⟩
  ·intro id id' v v' blk qN q k1 k2 k3 k1' k2' k3';by_cases he:id=cx.base+s
   ·by_cases he':id'=cx.base+s
    ·omega
    ·subst he;rw[IJ]at k3;cases k3;rw[hother he']at k1';rw[Yu he']at k3';exact absurd ⟨id',v',qN,k1',k2',k3'⟩ hb2
   ·by_cases he':id'=cx.base+s
    ·subst he';rw[IJ]at k3';cases k3';rw[hother he]at k1;rw[Yu he]at k3;exact absurd ⟨id,v,blk,k1,k2,k3⟩ hb2
    ·rw[hother he]at k1;rw[Yu he]at k3;rw[hother he']at k1';rw[Yu he']at k3';exact ho.inj id id' v v' blk qN q k1 k2 k3 k1' k2' k3'
  ·intro q hq;rcases hlive q hq with h|rfl
   ·exact ho.sub q h
   ·exact hx
  ·simp only[R];refine⟨_,cap,rfl,g1,by simp,v0+1,_,hset,iJ _,fun _ z' es' hb'=>?_⟩
   cases hb';refine⟨rfl,iJ _,fun _=>⟨b,IJ,.inr ⟨by simp,by omega, ?_⟩⟩⟩
   simp only[bsize,g3,F6];exact g2
theorem xU.get:∀{B:List Nat} {cs:List AV} {us:List Value},xU w X m h B cs us->∀(j:Nat) c,cs[j]?=some c->∃ B1 B2 B3 u,B=B1++B2++B3/\us[j]?=some u/\Dj w X m h B2 c u /\
  ∀{m2:Map} {h2:Heap} (c':AV),(∀ v u,R w X m h v u->R w X m2 h2 v u)->R w X m2 h2 c' u->(∀ z es,c'≠.own z es)->xU w X m2 h2 (B1++B3) (cs.set j c') us
 |B,[],us,_,j,c,hc=>by simp at hc
 |B,x::cs,us,hg,j,c,hc=>by
  simp only[xU]at hg;obtain⟨B1,B2,u,vw,rfl,rfl,g1,g2⟩:=hg
  have lift:∀{m2:Map} {h2:Heap},(∀ v u,R w X m h v u->R w X m2 h2 v u)->∀{B:List Nat} {v:AV} {u:Value},Dj w X m h B v u->Dj w X m2 h2 B v u:=by
   intro m2 h2 hl B v u hg;unfold Dj at hg⊢;split
   ·exact hg
   ·rename_i hne;split at hg
    ·exact absurd rfl (hne _ _)
    ·exact⟨hg.1,hl _ _ hg.2⟩
  have aE9:∀{m2:Map} {h2:Heap},(∀ v u,R w X m h v u->R w X m2 h2 v u)->∀{cs:List AV} {B:List Nat} {us:List Value},xU w X m h B cs us->xU w X m2 h2 B cs us:=by
   intro m2 h2 hl cs
   induction cs with
   |nil=>intro B us hg;exact hg
   |cons y ys ih =>
    intro B us hg;simp only[xU]at hg⊢;obtain⟨B1,B2,u,vw,rfl,rfl,g1,g2⟩:=hg;exact⟨B1,B2,u,vw,rfl,rfl,lift hl g1,ih g2⟩
  cases j with
  |zero =>
   simp only[List.getElem?_cons_zero,dz]at hc;subst hc;refine⟨[],B1,B2,u,by simp,rfl,g1,fun{m2} {h2} c' hl hr hno=>?_⟩
   simp only[List.set_cons_zero,xU,List.nil_append];refine⟨[],B2,u,vw,rfl,rfl, ?_,aE9 hl g2⟩;unfold Dj;split
   ·exact absurd rfl (hno _ _)
   ·exact⟨rfl,hr⟩
  |succ j =>
   simp only[List.getElem?_cons_succ]at hc;obtain⟨C1,C2,C3,u2,rfl,e2,e3,e4⟩:=xU.get g2 j c hc;refine⟨B1++C1,C2,C3,u2,by simp[sZ],e2,e3,fun{m2} {h2} c' hl hr hno=>?_⟩
   simp only[List.set_cons_succ,xU];exact⟨B1,C1++C3,u,vw,by simp[sZ],rfl,lift hl g1,e4 c' hl hr hno⟩
theorem alD{lo:Nat}{w':World}{cx:Cx}(hlo:lo<=cx.base):∀(own:List (Nat×Nat)) (B:List Nat) (cs cs':List AV) (us:List Value) (m1:Map) (h1 h2:Heap),Over lo w m h w' X m1 h1->B.Nodup->(∀ b∈B,w.heap.size<=b/\¬ Live m1 h1 b/\X b) ->
  xU w' X m1 h1 B cs us->Dz cx own cs h1=some (cs',h2) ->
  ∃ m2 B',Over lo w m h w' X m2 h2/\(∀ b∈B',¬ Live m2 h2 b)/\xU w' X m2 h2 B' cs' us
 |[],B,cs,cs',us,m1,h1,h2,ho,_,hB,hg,ht=>by
  simp only[Dz,dz,bf]at ht;obtain⟨rfl,rfl⟩:=ht
  exact⟨m1,B,ho,fun b hb=>(hB b hb).2.1,hg⟩
 |(j,s)::own,B,cs,cs',us,m1,h1,h2,ho,hn,hB,hg,ht=>by
  simp only[Dz]at ht;split at ht
  ·rename_i z es hj;split at ht
   ·rename_i hes;split at ht
    ·rename_i hz;obtain⟨B1,B2,B3,u,rfl,hu,hgr,hset⟩:=xU.get hg j _ hj;simp only[Dj]at hgr;rcases hgr with⟨_,rfl,a,cap,rfl,hc⟩|⟨hne,_⟩
     ·obtain rfl:=hc hz;refine alD hlo own (B1++B3) _ cs' us m1 h1 h2 ho (by simpa using hn) (fun b hb=>hB b (by simpa using hb)) (hset (.fT 0 []) (fun _ _ h=>h) ?_ (fun _ _ h=>by cases h)) ht
      unfold R RC;exact⟨a,rfl,.inl rfl⟩
     ·exact absurd hes hne
    ·exact alD hlo own B cs cs' us m1 h1 h2 ho hn hB hg ht
   ·rename_i hne;obtain⟨⟨ak,h3⟩,hm,ht⟩:=bE.mp ht;obtain⟨B1,B2,B3,u,rfl,hu,hgr,hset⟩:=xU.get hg j _ hj;simp only[Dj]at hgr;obtain⟨_,b,rfl,hown⟩:=hgr.resolve_left (fun h=>hne h.1);obtain⟨k1,k2,k3⟩:=hB b (by simp)
    obtain⟨m3,ho3,ab8,hR,hlv⟩:=ho.take hlo hm k1 k2 k3 hown
    have hnd:(B1++B3).Nodup/\b∉B1++B3:=by
     have h1:=hn;simp only[List.nodup_append,Di,A9,List.not_mem_nil,or_false,List.nodup_cons]at h1⊢;obtain⟨⟨a1,_,a3⟩,a4,a5⟩:=h1;refine⟨⟨a1,a4,fun x hx y hy=>a5 x (.inl hx) y hy⟩, ?_⟩;rintro(hb|hb)
     ·exact a3 b hb b rfl rfl
     ·exact a5 b (.inr rfl) b hb rfl
    refine alD hlo own (B1++B3) _ cs' us m3 h3 h2 ho3 hnd.1 (fun q hq=>?_) (hset _ (fun v u hr=>R.step ab8 (Keep.refl _ _) v u hr) hR (fun _ _ h=>by cases h)) ht
    have hq':q∈B1++[b]++B3:=by
     rcases Di.mp hq with h|h<;>simp[h]
    obtain⟨q1,q2,q3⟩:=hB q hq';refine⟨q1,fun hl=>?_,q3⟩;rcases hlv q hl with h|rfl
    ·exact q2 h
    ·exact hnd.2 hq
  ·exact alD hlo own B cs cs' us m1 h1 h2 ho hn hB hg ht
end
end Go.VI
