/- The transitions of the abstract memory, each with what it keeps. -/
import Derived.Test.YtfpoegnmeoghpaaGreatDoorVIC
set_option linter.unusedVariables false
set_option linter.unusedSimpArgs false
namespace Go.VI
set_option linter.unusedSectionVars false
variable [kH][Rounds]
section
variable {lo:Nat}{w:World}{m:Map}{h:Heap}{w':World}{m':Map}{h':Heap}{w'':World}{m'':Map}{h'':Heap}
theorem Keep.trans{X X' X'':Nat->Prop}(a:Keep w X w' X')(b:Keep w' X' w'' X''):Keep w X w'' X'' :=
 ⟨Np a.size b.size,fun hq hx=>(b.cell (Zv hq a.size) (a.out hq hx).2).trans (a.cell hq hx),
   fun q hq=>(b.live q hq).elim (fun h=>a.live q h) (fun h=>.inr (Np a.size h))⟩
theorem OY.trans{id:Nat}{x y z:aU}(a:OY w m w' m' id x y)(b:OY w' m' w'' m'' id y z):OY w m w'' m'' id x z:=by
 rcases b with hd|⟨cs,cs',h1,h2,h3⟩|⟨d,st,d',st',h1,h2,h3,h4,h5⟩|⟨q,es,es',h1,h2,h3,h4⟩
 ·exact .inl hd
 ·subst h1;rcases a with hd|⟨ds,ds',g1,g2,g3⟩|⟨_,_,_,_,g1,g2,g3⟩|⟨q,es,es',g1,g2,g3,g4⟩
  ·cases hd
  ·exact .inr (.inl ⟨ds,cs',g1,h2,h3.trans g3⟩)
  ·cases g2
  ·cases g2
 ·subst h1;rcases a with hd|⟨ds,ds',g1,g2,g3⟩|⟨e,su,_,_,g1,g2,g3,g4,g5⟩|⟨q,es,es',g1,g2,g3,g4⟩
  ·cases hd
  ·cases g2
  ·cases g2;refine .inr (.inr (.inl ⟨e,su,d',st',g1,h2,h3.trans g3,h4.trans g4,fun l hl=>?_⟩));obtain⟨q1,q2⟩:=h5 l hl;obtain⟨q3,q4⟩:=g5 l q1;exact⟨q3,fun b hb=>(q2 b (g3.trans hb)).trans (q4 b hb)⟩
  ·cases g2
 ·subst h1;rcases a with hd|⟨ds,ds',g1,g2,g3⟩|⟨_,_,_,_,g1,g2,g3⟩|⟨q',fs,fs',g1,g2,g3,g4⟩
  ·cases hd
  ·cases g2
  ·cases g2
  ·cases g2;refine .inr (.inr (.inr ⟨_,fs,es',g1,h2,by omega,fun he=>?_⟩))
   obtain⟨k1,k2⟩:=g4 (by omega)
   obtain⟨l1,l2⟩:=h4 (by omega)
   exact⟨l1.trans k1,fun b hb=>Np (k2 b hb) (l2 b (k1.trans hb))⟩
theorem Step.refl(lo:Nat)(w:World)(m:Map)(h:Heap):Step lo w m h w m h :=
 ⟨rfl,rfl,rfl,rfl,fun _ _ _=>rfl,Keep.refl _ _,fun _ _=>⟨rfl,rfl,fun _ _ _ _ _ _=>rfl⟩,fun id v blk hi=>⟨v,blk,hi,iJ _,fun _=>OY.refl _ _ _ _⟩,fun id v blk b h1 h2 h3=>.inl ⟨h3,v,blk,h1,h2⟩⟩
theorem Step.trans(a:Step lo w m h w' m' h')(b:Step lo w' m' h' w'' m'' h''):Step lo w m h w'' m'' h'' where
 os:=b.os.trans a.os
 tape:=b.tape.trans a.tape
 output:=b.output.trans a.output
 len:=b.len.trans a.len
 old:=fun q hq hx=>(b.old q (Zv hq a.keep.size) (a.keep.out hq hx).2).trans (a.old q hq hx)
 keep:=a.keep.trans b.keep
 low:=fun id hid=>by
  obtain⟨a1,a2,a3⟩:=a.low id hid;obtain⟨b1,b2,b3⟩:=b.low id hid;exact⟨b1.trans a1,b2.trans a2,fun v blk q h1 h2 h3=>(b3 v blk q (a1.trans h1) h2 (a2.trans h3)).trans (a3 v blk q h1 h2 h3)⟩
 ids:=fun id v blk hi=>by
  obtain⟨v1,AU,h1,l1,e1⟩:=a.ids id v blk hi;obtain⟨v2,aEc,h2,l2,e2⟩:=b.ids id v1 AU h1;exact⟨v2,aEc,h2,by omega,fun he=>(e1 (by omega)).trans (e2 (by omega))⟩
 fresh:=fun id v blk q h1 h2 h3=>by
  rcases b.fresh id v blk q h1 h2 h3 with⟨k1,v0,rY,k2,k3⟩|k
  ·exact a.fresh id v0 rY q k2 k3 k1
  ·exact .inr (Np a.keep.size k)
theorem Step.mono{lo':Nat}(a:Step lo w m h w' m' h')(hl:lo'<=lo):Step lo' w m h w' m' h' :=
 { a with low:=fun id hid=>a.low id (by omega) }
theorem Inv.lt(hi:Inv w m h){id v:Nat}{blk:aU}{b:Nat}(h1:h[id]?=some (v,blk))(h2:blk≠.dead)(h3:m[id]?=some b):b<w.heap.size:=by
 have key:∀{o:Obj},w.heap[b]?=some o->b<w.heap.size:=fun hb=>(aiS.mp hb).1
 cases hb:blk with
 |dead=>exact absurd hb h2
 |aV d st =>
  obtain⟨b',o,e,hb,_⟩:=hi.aV id v d st (hb▸h1);rw[h3]at e;cases e
  exact key hb
 |box cs|arr z es =>
  obtain⟨b',c,ty,e,hb,_⟩:=hi.blk id v blk h1 (by simp[hb])
  rw[h3]at e;cases e;exact key hb
theorem Inv.axC(hi:Inv w m h){b:Nat}(hb:Live m h b):b<w.heap.size:=by
 obtain⟨id,v,blk,h1,h2,h3⟩:=hb;exact hi.lt h1 h2 h3
theorem abq(hi:Inv w m h)(hb:RowKit.Below w.heap.size w w'):Step lo w m h w' m h where
 os:=hb.os
 tape:=hb.tape
 output:=hb.output
 len:=rfl
 old:=fun b hlt _=>hb.block b hlt
 keep:=⟨hb.size,fun hlt _=>World.cell?_of_block (hb.block _ hlt),fun b hb=>.inl hb⟩
 low:=fun id hid=>⟨rfl,rfl,fun v blk b h1 h2 h3=>hb.block b (hi.lt h1 h2 h3)⟩
 ids:=fun id v blk h1=>⟨v,blk,h1,iJ _,fun _=>by
  cases blk with
  |dead=>exact .inl rfl
  |box cs=>exact .inr (.inl ⟨cs,cs,rfl,rfl,rfl⟩)
  |aV d st =>
   refine .inr (.inr (.inl ⟨d,st,d,st,rfl,rfl,rfl,rfl,fun l e=>⟨e,fun b hm=>?_⟩⟩));have:=hb.block b (hi.lt h1 (by simp) hm)
   simp[bsize,this]
  |arr z es =>
   refine .inr (.inr (.inr ⟨z,es,es,rfl,rfl,iJ _,fun _=>⟨rfl,fun b hm=>?_⟩⟩));have:=hb.block b (hi.lt h1 (by simp) hm)
   simp[bsize,this]⟩
 fresh:=fun id v blk b h1 h2 h3=>.inl ⟨h3,v,blk,h1,h2⟩
theorem ab3(hi:Inv w m h)(hb:RowKit.Below w.heap.size w w'):Inv w' m h where
 len:=hi.len
 blk:=fun id v blk h1 h2=>by
  obtain⟨b,c,ty,e,hc,hk⟩:=hi.blk id v blk h1 h2;refine⟨b,c,ty,e,(hb.block b (hi.lt h1 (aU.ajP h2) e)).trans hc, ?_⟩;exact hk.step (abq (lo:=0) hi hb)
 aV:=fun id v d st h1=>by
  obtain⟨b,o,e,hc,hk⟩:=hi.aV id v d st h1;have s:=abq (lo:=0) hi hb;exact⟨b,o,e,(hb.block b (hi.lt h1 (by simp) e)).trans hc,hk.ids s.ids s.keep (iJ _)⟩
 inj:=hi.inj
 CX:=hi.CX.keep (abq (lo:=0) hi hb).keep
structure Put(w:World)(m:Map)(h:Heap)(id v0:Nat)(rY:aU)(b0:Nat)(w':World)(v1:Nat)(AU:aU)(b1:Nat):Prop where
 inv:Inv w m h
 hid:h[id]?=some (v0,rY)
 hm:m[id]?=some b0
 os:w'.os=w.os
 tape:w'.tape=w.tape
 output:w'.output=w.output
 size:w.heap.size<=w'.heap.size
 old:∀ b,b<w.heap.size->(b=b0->rY=.dead)->w'.heap[b]?=w.heap[b]?
 ak:v0<=v1
 new:AU=.dead\/(b1=b0/\rY≠.dead)\/w.heap.size<=b1
 aEd:v0=v1->OY w m w' (m.set id b1) id rY AU
variable {id v0 b0 v1 b1:Nat}{rY AU:aU}
theorem Put.hlt(p:Put w m h id v0 rY b0 w' v1 AU b1):id<h.length:=(kS.mp p.hid).1
theorem Put.hset(p:Put w m h id v0 rY b0 w' v1 AU b1):(h.set id (v1,AU))[id]?=some (v1,AU):=by
 rw[L8 p.hlt]
theorem Put.IJ(p:Put w m h id v0 rY b0 w' v1 AU b1):(m.set id b1)[id]?=some b1:=by
 rw[L8 (by rw[p.inv.len];exact p.hlt)]
theorem Put.other(p:Put w m h id v0 rY b0 w' v1 AU b1){k:Nat}(hk:k≠id):(h.set id (v1,AU))[k]?=h[k]?/\(m.set id b1)[k]?=m[k]? :=
 ⟨tL (by omega),tL (by omega)⟩
theorem Put.same(p:Put w m h id v0 rY b0 w' v1 AU b1){k v:Nat}{blk:aU}{b:Nat}(hk:k≠id)(h1:h[k]?=some (v,blk))(h2:blk≠.dead)(h3:m[k]?=some b):w'.heap[b]?=w.heap[b]?:=by
 refine p.old b (p.inv.lt h1 h2 h3) fun e=>?_;subst e
 cases hb:rY with
 |dead=>rfl
 |box cs|arr z es|aV d st=>exact absurd (p.inv.inj k id v v0 blk rY b h1 h2 h3 p.hid (by simp[hb]) p.hm) hk
theorem Put.step(p:Put w m h id v0 rY b0 w' v1 AU b1)(hlo:lo<=id):Step lo w m h w' (m.set id b1) (h.set id (v1,AU)) where
 os:=p.os
 tape:=p.tape
 output:=p.output
 len:=by simp
 old:=fun b hb hx=>p.old b hb fun e=>by
  subst e
  cases hb0:rY with
  |dead=>rfl
  |box cs|arr z es|aV d st=>exact absurd ⟨id,v0,rY,p.hid,by simp[hb0],p.hm⟩ hx
 keep:=by
  refine⟨p.size,fun{b o} hb hx=>World.cell?_of_block (p.old b hb fun e=>?_),fun b hb=>?_⟩
  ·subst e
   cases hb0:rY with
   |dead=>rfl
   |box cs|arr z es|aV d st=>exact absurd ⟨id,v0,rY,p.hid,by simp[hb0],p.hm⟩ hx
  ·obtain⟨k,v,blk,h1,h2,h3⟩:=hb;by_cases hk:k=id
   ·subst hk;rw[p.hset]at h1;rw[p.IJ]at h3;cases h1;cases h3;rcases p.new with hd|⟨e,hd⟩|hs
    ·exact absurd hd h2
    ·subst e;exact .inl ⟨k,v0,rY,p.hid,hd,p.hm⟩
    ·exact .inr hs
   ·rw[(p.other hk).1]at h1;rw[(p.other hk).2]at h3;exact .inl ⟨k,v,blk,h1,h2,h3⟩
 low:=fun k hk=>by
  have hne:k≠id:=by omega
  exact⟨(p.other hne).1,(p.other hne).2,fun v blk b h1 h2 h3=>p.same hne h1 h2 h3⟩
 ids:=fun k v blk hk=>by
  by_cases hne:k=id
  ·subst hne;rw[p.hid]at hk;cases hk;exact⟨v1,AU,p.hset,p.ak,p.aEd⟩
  ·refine⟨v,blk,by rw[(p.other hne).1];exact hk,iJ _,fun _=>?_⟩
   cases hb:blk with
   |dead=>exact .inl rfl
   |box cs=>exact .inr (.inl ⟨cs,cs,rfl,rfl,(p.other hne).2⟩)
   |aV d st =>
    refine .inr (.inr (.inl ⟨d,st,d,st,rfl,rfl,(p.other hne).2,rfl,fun l e=>⟨e,fun b hm=>?_⟩⟩));have:=p.same hne hk (by simp[hb]) hm
    simp[bsize,this]
   |arr z es =>
    refine .inr (.inr (.inr ⟨z,es,es,rfl,rfl,iJ _,fun _=>⟨(p.other hne).2,fun b hm=>?_⟩⟩));have:=p.same hne hk (by simp[hb]) hm
    simp[bsize,this]
 fresh:=fun k v blk b h1 h2 h3=>by
  by_cases hne:k=id
  ·subst hne;rw[p.hset]at h1;rw[p.IJ]at h3;cases h1;cases h3;rcases p.new with hd|⟨e,hd⟩|hs
   ·exact absurd hd h2
   ·subst e;exact .inl ⟨p.hm,v0,rY,p.hid,hd⟩
   ·exact .inr hs
  ·rw[(p.other hne).1]at h1;rw[(p.other hne).2]at h3;exact .inl ⟨h3,v,blk,h1,h2⟩
theorem Put.aiT(p:Put w m h id v0 rY b0 w' v1 AU b1)
  (hc:AU.mem=true->∃ c:Array Value,∃ ty,w'.heap[b1]?=some (Obj.cells c ty (0,0))/\Rj w' (Live (m.set id b1) (h.set id (v1,AU))) (m.set id b1) (h.set id (v1,AU)) c.toList AU)
  (hr:∀ d st,AU=.aV d st->∃ o,w'.heap[b1]?=some o/\JJ w' (Live (m.set id b1) (h.set id (v1,AU))) (m.set id b1) (h.set id (v1,AU)) o d st) :
  Inv w' (m.set id b1) (h.set id (v1,AU)) where
 len:=by simp[p.inv.len]
 CX:=p.inv.CX.keep (p.step (lo:=0) (Nat.zero_le _)).keep
 blk:=fun k v blk h1 h2=>by
  by_cases hk:k=id
  ·subst hk;rw[p.hset]at h1;cases h1;obtain⟨c,ty,hb,hok⟩:=hc h2;exact⟨b1,c,ty,p.IJ,hb,hok⟩
  ·rw[(p.other hk).1]at h1;obtain⟨b,c,ty,e,hb,hok⟩:=p.inv.blk k v blk h1 h2;exact⟨b,c,ty,(p.other hk).2.trans e,(p.same hk h1 (aU.ajP h2) e).trans hb,hok.step (p.step (lo:=0) (Nat.zero_le _))⟩
 aV:=fun k v d st h1=>by
  by_cases hk:k=id
  ·subst hk;rw[p.hset]at h1;cases h1;obtain⟨o,hb,hok⟩:=hr d st rfl;exact⟨b1,o,p.IJ,hb,hok⟩
  ·rw[(p.other hk).1]at h1;obtain⟨b,o,e,hb,hok⟩:=p.inv.aV k v d st h1;have s:=p.step (lo:=0) (Nat.zero_le _);exact⟨b,o,(p.other hk).2.trans e,(p.same hk h1 (by simp) e).trans hb,hok.ids s.ids s.keep (by simp)⟩
 inj:=by
  have key:∀(k v:Nat) (blk:aU),AU≠.dead->k≠id->h[k]?=some (v,blk)->blk≠.dead->m[k]?=some b1->False:=by
   intro k v blk hd hk h1 h2 h3;rcases p.new with hd'|⟨e,hb0⟩|hs
   ·exact hd hd'
   ·subst e;exact hk (p.inv.inj k id v v0 blk rY b1 h1 h2 h3 p.hid hb0 p.hm)
   ·have:=p.inv.lt h1 h2 h3;omega
  intro k k' v v' blk qN b h1 h2 h3 h1' h2' h3';by_cases hk:k=id
  ·by_cases hk':k'=id
   ·omega
   ·subst hk;rw[p.hset]at h1;rw[p.IJ]at h3;cases h1;cases h3;rw[(p.other hk').1]at h1';rw[(p.other hk').2]at h3';exact(key k' v' qN h2 hk' h1' h2' h3').elim
  ·by_cases hk':k'=id
   ·subst hk';rw[p.hset]at h1';rw[p.IJ]at h3';cases h1';cases h3';rw[(p.other hk).1]at h1;rw[(p.other hk).2]at h3;exact(key k v blk h2' hk h1 h2 h3).elim
   ·rw[(p.other hk).1]at h1;rw[(p.other hk).2]at h3;rw[(p.other hk').1]at h1';rw[(p.other hk').2]at h3';exact p.inv.inj k k' v v' blk qN b h1 h2 h3 h1' h2' h3'
theorem Put.alf(p:Put w m h id v0 rY b0 w' v1 AU b1)(hn:∀ d st,AU≠.aV d st)
  (hc:AU≠.dead->∃ c:Array Value,∃ ty,w'.heap[b1]?=some (Obj.cells c ty (0,0))/\Rj w' (Live (m.set id b1) (h.set id (v1,AU))) (m.set id b1) (h.set id (v1,AU)) c.toList AU) :
  Inv w' (m.set id b1) (h.set id (v1,AU)):=p.aiT (fun h=>hc (aU.ajP h)) (fun d st e=>absurd e (hn d st))
end
theorem ajR{m:Map}{h:Heap}(hl:m.length=h.length){id:Nat}{x:Nat×aU}(hx:h[id]?=some x):∃ b,m[id]?=some b:=by
 have:=(kS.mp hx).1;exact⟨m[id]'(by omega),Fv (by omega)⟩
section
variable {lo:Nat}{w:World}{m:Map}{h:Heap}
theorem alg(hi:Inv w m h){id ak:Nat}{blk:aU}(hid:h[id]?=some (ak,blk))(hlo:lo<=id) :
  Step lo w m h w m (h.set id (ak,.dead))/\Inv w m (h.set id (ak,.dead))/\(∀ b,Live m (h.set id (ak,.dead)) b->Live m h b)/\(∀ b,m[id]?=some b->blk≠.dead->¬ Live m (h.set id (ak,.dead)) b):=by
 obtain⟨b0,hm⟩:=ajR hi.len hid;have p:Put w m h id ak blk b0 w ak .dead b0:=⟨hi,hid,hm,rfl,rfl,rfl,iJ _,fun _ _ _=>rfl,iJ _,.inl rfl,fun _=>.inl rfl⟩
 have hmm:m.set id b0=m:=by
  refine Zy fun j=>?_;by_cases hj:j=id
  ·subst hj;rw[p.IJ,hm]
  ·exact(p.other hj).2
 have h1:=p.step (lo:=lo) hlo;have h2:=p.alf (fun _ _=>by simp) (fun hc=>absurd rfl hc)
 rw[hmm]at h1 h2;refine⟨h1,h2, ?_, ?_⟩
 ·rintro b ⟨k,v,bl,g1,g2,g3⟩;by_cases hk:k=id
  ·subst hk;rw[p.hset]at g1;cases g1;exact absurd rfl g2
  ·rw[(p.other hk).1]at g1;exact⟨k,v,bl,g1,g2,g3⟩
 ·rintro b hb hne ⟨k,v,bl,g1,g2,g3⟩;by_cases hk:k=id
  ·subst hk;rw[p.hset]at g1;cases g1;exact absurd rfl g2
  ·rw[(p.other hk).1]at g1;exact hk (hi.inj k id v ak bl blk b g1 g2 g3 hid hne hb)
end
end Go.VI
