/- The transitions of the abstract memory, each with what it keeps. -/
import Derived.Test.YtfpoegnmeoghpaaGreatDoorVIC
set_option linter.unusedVariables false
set_option linter.unusedSimpArgs false
namespace Go.VI
set_option linter.unusedSectionVars false
variable [dH][Rounds]
section
variable {lo:Nat}{w:World}{m:Map}{h:Heap}{w':World}{m':Map}{h':Heap}{w'':World}{m'':Map}{h'':Heap}
theorem Keep.trans{X X' WV:Nat->Prop}(a:Keep w X w' X')(b:Keep w' X' w'' WV):Keep w X w'' WV :=
 ⟨ng a.size b.size,fun hq hx=>(b.cell (uF hq a.size) (a.out hq hx).2).trans (a.cell hq hx),
   fun q hq=>(b.live q hq).elim (fun h=>a.live q h) (fun h=>.inr (ng a.size h))⟩
theorem rZ.trans{id:Nat}{x y z:au}(a:rZ w m w' m' id x y)(b:rZ w' m' w'' m'' id y z):rZ w m w'' m'' id x z:=by
 rcases b with hd|⟨cs,cs',h1,h2,h3⟩|⟨d,st,d',st',h1,h2,h3,h4,h5⟩|⟨q,es,es',h1,h2,h3,h4⟩
 ·exact .inl hd
 ·subst h1;rcases a with hd|⟨ds,ds',g1,g2,g3⟩|⟨_,_,_,_,g1,g2,g3⟩|⟨q,es,es',g1,g2,g3,g4⟩
  ·cases hd
  ·exact .inr (.inl ⟨ds,cs',g1,h2,h3.trans g3⟩)
  ·cases g2
  ·cases g2
 ·subst h1;rcases a with hd|⟨ds,ds',g1,g2,g3⟩|⟨e,su,_,_,g1,g2,g3,g4,g5⟩|⟨q,es,es',g1,g2,g3,g4⟩
  ·cases hd
  ·cases g2
  ·cases g2;refine .inr (.inr (.inl ⟨e,su,d',st',g1,h2,h3.trans g3,h4.trans g4,fun l hl=>?_⟩));obtain⟨q1,q2⟩:=h5 l hl;obtain⟨q3,q4⟩:=g5 l q1;exact⟨q3,fun b hb=>(q2 b (g3.trans hb)).trans (q4 b hb)⟩
  ·cases g2
 ·subst h1;rcases a with hd|⟨ds,ds',g1,g2,g3⟩|⟨_,_,_,_,g1,g2,g3⟩|⟨q',fs,fs',g1,g2,g3,g4⟩
  ·cases hd
  ·cases g2
  ·cases g2
  ·cases g2;refine .inr (.inr (.inr ⟨_,fs,es',g1,h2,by omega,fun he=>?_⟩))
   obtain⟨k1,k2⟩:=g4 (by omega)
   obtain⟨l1,l2⟩:=h4 (by omega)
   exact⟨l1.trans k1,fun b hb=>ng (k2 b hb) (l2 b (k1.trans hb))⟩
theorem Step.refl(lo:Nat)(w:World)(m:Map)(h:Heap):Step lo w m h w m h :=
 ⟨rfl,rfl,rfl,rfl,fun _ _ _=>rfl,Keep.refl _ _,fun _ _=>⟨rfl,rfl,fun _ _ _ _ _ _=>rfl⟩,fun id v blk hi=>⟨v,blk,hi,bC _,fun _=>rZ.refl _ _ _ _⟩,fun id v blk b h1 h2 h3=>.inl ⟨h3,v,blk,h1,h2⟩⟩
theorem Step.trans(a:Step lo w m h w' m' h')(b:Step lo w' m' h' w'' m'' h''):Step lo w m h w'' m'' h'' where
 os:=b.os.trans a.os
 tape:=b.tape.trans a.tape
 output:=b.output.trans a.output
 len:=b.len.trans a.len
 old:=fun q hq hx=>(b.old q (uF hq a.keep.size) (a.keep.out hq hx).2).trans (a.old q hq hx)
 keep:=a.keep.trans b.keep
 low:=fun id hid=>by
  obtain⟨a1,a2,a3⟩:=a.low id hid;obtain⟨b1,b2,b3⟩:=b.low id hid;exact⟨b1.trans a1,b2.trans a2,fun v blk q h1 h2 h3=>(b3 v blk q (a1.trans h1) h2 (a2.trans h3)).trans (a3 v blk q h1 h2 h3)⟩
 ids:=fun id v blk hi=>by
  obtain⟨v1,kJ,h1,l1,e1⟩:=a.ids id v blk hi;obtain⟨v2,ae3,h2,l2,e2⟩:=b.ids id v1 kJ h1;exact⟨v2,ae3,h2,by omega,fun he=>(e1 (by omega)).trans (e2 (by omega))⟩
 fresh:=fun id v blk q h1 h2 h3=>by
  rcases b.fresh id v blk q h1 h2 h3 with⟨k1,v0,iI,k2,k3⟩|k
  ·exact a.fresh id v0 iI q k2 k3 k1
  ·exact .inr (ng a.keep.size k)
theorem Step.mono{lo':Nat}(a:Step lo w m h w' m' h')(hl:lo'<=lo):Step lo' w m h w' m' h' :=
 { a with low:=fun id hid=>a.low id (by omega) }
theorem Inv.lt(hi:Inv w m h){id v:Nat}{blk:au}{b:Nat}(h1:h[id]?=some (v,blk))(h2:blk≠.dead)(h3:m[id]?=some b):b<w.heap.size:=by
 have key:∀{o:Obj},w.heap[b]?=some o->b<w.heap.size:=fun hb=>(EG.mp hb).1
 cases hb:blk with
 |dead=>exact absurd hb h2
 |ax d st =>
  obtain⟨b',o,e,hb,_⟩:=hi.ax id v d st (hb▸h1);rw[h3]at e;cases e
  exact key hb
 |box cs|arr z es =>
  obtain⟨b',c,ty,e,hb,_⟩:=hi.blk id v blk h1 (by simp[hb])
  rw[h3]at e;cases e;exact key hb
theorem Inv.WW(hi:Inv w m h){b:Nat}(hb:Live m h b):b<w.heap.size:=by
 obtain⟨id,v,blk,h1,h2,h3⟩:=hb;exact hi.lt h1 h2 h3
theorem Ay(hi:Inv w m h)(hb:RowKit.Below w.heap.size w w'):Step lo w m h w' m h where
 os:=hb.os
 tape:=hb.tape
 output:=hb.output
 len:=rfl
 old:=fun b hlt _=>hb.block b hlt
 keep:=⟨hb.size,fun hlt _=>World.cell?_of_block (hb.block _ hlt),fun b hb=>.inl hb⟩
 low:=fun id hid=>⟨rfl,rfl,fun v blk b h1 h2 h3=>hb.block b (hi.lt h1 h2 h3)⟩
 ids:=fun id v blk h1=>⟨v,blk,h1,bC _,fun _=>by
  cases blk with
  |dead=>exact .inl rfl
  |box cs=>exact .inr (.inl ⟨cs,cs,rfl,rfl,rfl⟩)
  |ax d st =>
   refine .inr (.inr (.inl ⟨d,st,d,st,rfl,rfl,rfl,rfl,fun l e=>⟨e,fun b hm=>?_⟩⟩));have:=hb.block b (hi.lt h1 (by simp) hm)
   simp[bsize,this]
  |arr z es =>
   refine .inr (.inr (.inr ⟨z,es,es,rfl,rfl,bC _,fun _=>⟨rfl,fun b hm=>?_⟩⟩));have:=hb.block b (hi.lt h1 (by simp) hm)
   simp[bsize,this]⟩
 fresh:=fun id v blk b h1 h2 h3=>.inl ⟨h3,v,blk,h1,h2⟩
theorem BZ(hi:Inv w m h)(hb:RowKit.Below w.heap.size w w'):Inv w' m h where
 len:=hi.len
 blk:=fun id v blk h1 h2=>by
  obtain⟨b,c,ty,e,hc,hk⟩:=hi.blk id v blk h1 h2;refine⟨b,c,ty,e,(hb.block b (hi.lt h1 (au.Gr h2) e)).trans hc, ?_⟩;exact hk.step (Ay (lo:=0) hi hb)
 ax:=fun id v d st h1=>by
  obtain⟨b,o,e,hc,hk⟩:=hi.ax id v d st h1;have s:=Ay (lo:=0) hi hb;exact⟨b,o,e,(hb.block b (hi.lt h1 (by simp) e)).trans hc,hk.ids s.ids s.keep (bC _)⟩
 inj:=hi.inj
 kI:=hi.kI.keep (Ay (lo:=0) hi hb).keep
structure Put(w:World)(m:Map)(h:Heap)(id v0:Nat)(iI:au)(b0:Nat)(w':World)(v1:Nat)(kJ:au)(b1:Nat):Prop where
 inv:Inv w m h
 hid:h[id]?=some (v0,iI)
 hm:m[id]?=some b0
 os:w'.os=w.os
 tape:w'.tape=w.tape
 output:w'.output=w.output
 size:w.heap.size<=w'.heap.size
 old:∀ b,b<w.heap.size->(b=b0->iI=.dead)->w'.heap[b]?=w.heap[b]?
 ai:v0<=v1
 new:kJ=.dead\/(b1=b0/\iI≠.dead)\/w.heap.size<=b1
 ae4:v0=v1->rZ w m w' (m.set id b1) id iI kJ
variable {id v0 b0 v1 b1:Nat}{iI kJ:au}
theorem Put.hlt(p:Put w m h id v0 iI b0 w' v1 kJ b1):id<h.length:=(dQ.mp p.hid).1
theorem Put.hset(p:Put w m h id v0 iI b0 w' v1 kJ b1):(h.set id (v1,kJ))[id]?=some (v1,kJ):=by
 rw[rJ p.hlt]
theorem Put.oM(p:Put w m h id v0 iI b0 w' v1 kJ b1):(m.set id b1)[id]?=some b1:=by
 rw[rJ (by rw[p.inv.len];exact p.hlt)]
theorem Put.other(p:Put w m h id v0 iI b0 w' v1 kJ b1){k:Nat}(hk:k≠id):(h.set id (v1,kJ))[k]?=h[k]?/\(m.set id b1)[k]?=m[k]? :=
 ⟨iH (by omega),iH (by omega)⟩
theorem Put.same(p:Put w m h id v0 iI b0 w' v1 kJ b1){k v:Nat}{blk:au}{b:Nat}(hk:k≠id)(h1:h[k]?=some (v,blk))(h2:blk≠.dead)(h3:m[k]?=some b):w'.heap[b]?=w.heap[b]?:=by
 refine p.old b (p.inv.lt h1 h2 h3) fun e=>?_;subst e
 cases hb:iI with
 |dead=>rfl
 |box cs|arr z es|ax d st=>exact absurd (p.inv.inj k id v v0 blk iI b h1 h2 h3 p.hid (by simp[hb]) p.hm) hk
theorem Put.step(p:Put w m h id v0 iI b0 w' v1 kJ b1)(hlo:lo<=id):Step lo w m h w' (m.set id b1) (h.set id (v1,kJ)) where
 os:=p.os
 tape:=p.tape
 output:=p.output
 len:=by simp
 old:=fun b hb hx=>p.old b hb fun e=>by
  subst e
  cases hb0:iI with
  |dead=>rfl
  |box cs|arr z es|ax d st=>exact absurd ⟨id,v0,iI,p.hid,by simp[hb0],p.hm⟩ hx
 keep:=by
  refine⟨p.size,fun{b o} hb hx=>World.cell?_of_block (p.old b hb fun e=>?_),fun b hb=>?_⟩
  ·subst e
   cases hb0:iI with
   |dead=>rfl
   |box cs|arr z es|ax d st=>exact absurd ⟨id,v0,iI,p.hid,by simp[hb0],p.hm⟩ hx
  ·obtain⟨k,v,blk,h1,h2,h3⟩:=hb;by_cases hk:k=id
   ·subst hk;rw[p.hset]at h1;rw[p.oM]at h3;cases h1;cases h3;rcases p.new with hd|⟨e,hd⟩|hs
    ·exact absurd hd h2
    ·subst e;exact .inl ⟨k,v0,iI,p.hid,hd,p.hm⟩
    ·exact .inr hs
   ·rw[(p.other hk).1]at h1;rw[(p.other hk).2]at h3;exact .inl ⟨k,v,blk,h1,h2,h3⟩
 low:=fun k hk=>by
  have hne:k≠id:=by omega
  exact⟨(p.other hne).1,(p.other hne).2,fun v blk b h1 h2 h3=>p.same hne h1 h2 h3⟩
 ids:=fun k v blk hk=>by
  by_cases hne:k=id
  ·subst hne;rw[p.hid]at hk;cases hk;exact⟨v1,kJ,p.hset,p.ai,p.ae4⟩
  ·refine⟨v,blk,by rw[(p.other hne).1];exact hk,bC _,fun _=>?_⟩
   cases hb:blk with
   |dead=>exact .inl rfl
   |box cs=>exact .inr (.inl ⟨cs,cs,rfl,rfl,(p.other hne).2⟩)
   |ax d st =>
    refine .inr (.inr (.inl ⟨d,st,d,st,rfl,rfl,(p.other hne).2,rfl,fun l e=>⟨e,fun b hm=>?_⟩⟩));have:=p.same hne hk (by simp[hb]) hm
    simp[bsize,this]
   |arr z es =>
    refine .inr (.inr (.inr ⟨z,es,es,rfl,rfl,bC _,fun _=>⟨(p.other hne).2,fun b hm=>?_⟩⟩));have:=p.same hne hk (by simp[hb]) hm
    simp[bsize,this]
 fresh:=fun k v blk b h1 h2 h3=>by
  by_cases hne:k=id
  ·subst hne;rw[p.hset]at h1;rw[p.oM]at h3;cases h1;cases h3;rcases p.new with hd|⟨e,hd⟩|hs
   ·exact absurd hd h2
   ·subst e;exact .inl ⟨p.hm,v0,iI,p.hid,hd⟩
   ·exact .inr hs
  ·rw[(p.other hne).1]at h1;rw[(p.other hne).2]at h3;exact .inl ⟨h3,v,blk,h1,h2⟩
theorem Put.EM(p:Put w m h id v0 iI b0 w' v1 kJ b1)
  (hc:kJ.mem=true->∃ c:Array Value,∃ ty,w'.heap[b1]?=some (Obj.cells c ty (0,0))/\sU w' (Live (m.set id b1) (h.set id (v1,kJ))) (m.set id b1) (h.set id (v1,kJ)) c.toList kJ)
  (hr:∀ d st,kJ=.ax d st->∃ o,w'.heap[b1]?=some o/\pU w' (Live (m.set id b1) (h.set id (v1,kJ))) (m.set id b1) (h.set id (v1,kJ)) o d st) :
  Inv w' (m.set id b1) (h.set id (v1,kJ)) where
 len:=by simp[p.inv.len]
 kI:=p.inv.kI.keep (p.step (lo:=0) (vM _)).keep
 blk:=fun k v blk h1 h2=>by
  by_cases hk:k=id
  ·subst hk;rw[p.hset]at h1;cases h1;obtain⟨c,ty,hb,hok⟩:=hc h2;exact⟨b1,c,ty,p.oM,hb,hok⟩
  ·rw[(p.other hk).1]at h1;obtain⟨b,c,ty,e,hb,hok⟩:=p.inv.blk k v blk h1 h2;exact⟨b,c,ty,(p.other hk).2.trans e,(p.same hk h1 (au.Gr h2) e).trans hb,hok.step (p.step (lo:=0) (vM _))⟩
 ax:=fun k v d st h1=>by
  by_cases hk:k=id
  ·subst hk;rw[p.hset]at h1;cases h1;obtain⟨o,hb,hok⟩:=hr d st rfl;exact⟨b1,o,p.oM,hb,hok⟩
  ·rw[(p.other hk).1]at h1;obtain⟨b,o,e,hb,hok⟩:=p.inv.ax k v d st h1;have s:=p.step (lo:=0) (vM _);exact⟨b,o,(p.other hk).2.trans e,(p.same hk h1 (by simp) e).trans hb,hok.ids s.ids s.keep (by simp)⟩
 inj:=by
  have key:∀(k v:Nat) (blk:au),kJ≠.dead->k≠id->h[k]?=some (v,blk)->blk≠.dead->m[k]?=some b1->False:=by
   intro k v blk hd hk h1 h2 h3;rcases p.new with hd'|⟨e,hb0⟩|hs
   ·exact hd hd'
   ·subst e;exact hk (p.inv.inj k id v v0 blk iI b1 h1 h2 h3 p.hid hb0 p.hm)
   ·have:=p.inv.lt h1 h2 h3;omega
  intro k k' v v' blk gX b h1 h2 h3 h1' h2' h3';by_cases hk:k=id
  ·by_cases hk':k'=id
   ·omega
   ·subst hk;rw[p.hset]at h1;rw[p.oM]at h3;cases h1;cases h3;rw[(p.other hk').1]at h1';rw[(p.other hk').2]at h3';exact(key k' v' gX h2 hk' h1' h2' h3').elim
  ·by_cases hk':k'=id
   ·subst hk';rw[p.hset]at h1';rw[p.oM]at h3';cases h1';cases h3';rw[(p.other hk).1]at h1;rw[(p.other hk).2]at h3;exact(key k v blk h2' hk h1 h2 h3).elim
   ·rw[(p.other hk).1]at h1;rw[(p.other hk).2]at h3;rw[(p.other hk').1]at h1';rw[(p.other hk').2]at h3';exact p.inv.inj k k' v v' blk gX b h1 h2 h3 h1' h2' h3'
theorem Put.JA(p:Put w m h id v0 iI b0 w' v1 kJ b1)(hn:∀ d st,kJ≠.ax d st)
  (hc:kJ≠.dead->∃ c:Array Value,∃ ty,w'.heap[b1]?=some (Obj.cells c ty (0,0))/\sU w' (Live (m.set id b1) (h.set id (v1,kJ))) (m.set id b1) (h.set id (v1,kJ)) c.toList kJ) :
  Inv w' (m.set id b1) (h.set id (v1,kJ)):=p.EM (fun h=>hc (au.Gr h)) (fun d st e=>absurd e (hn d st))
end
theorem Gt{m:Map}{h:Heap}(hl:m.length=h.length){id:Nat}{x:Nat×au}(hx:h[id]?=some x):∃ b,m[id]?=some b:=by
 have:=(dQ.mp hx).1;exact⟨m[id]'(by omega),kN (by omega)⟩
section
variable {lo:Nat}{w:World}{m:Map}{h:Heap}
theorem JB(hi:Inv w m h){id ai:Nat}{blk:au}(hid:h[id]?=some (ai,blk))(hlo:lo<=id) :
  Step lo w m h w m (h.set id (ai,.dead))/\Inv w m (h.set id (ai,.dead))/\(∀ b,Live m (h.set id (ai,.dead)) b->Live m h b)/\(∀ b,m[id]?=some b->blk≠.dead->¬ Live m (h.set id (ai,.dead)) b):=by
 obtain⟨b0,hm⟩:=Gt hi.len hid;have p:Put w m h id ai blk b0 w ai .dead b0:=⟨hi,hid,hm,rfl,rfl,rfl,bC _,fun _ _ _=>rfl,bC _,.inl rfl,fun _=>.inl rfl⟩
 have hmm:m.set id b0=m:=by
  refine zC fun j=>?_;by_cases hj:j=id
  ·subst hj;rw[p.oM,hm]
  ·exact(p.other hj).2
 have h1:=p.step (lo:=lo) hlo;have h2:=p.JA (fun _ _=>by simp) (fun hc=>absurd rfl hc)
 rw[hmm]at h1 h2;refine⟨h1,h2, ?_, ?_⟩
 ·rintro b ⟨k,v,bl,g1,g2,g3⟩;by_cases hk:k=id
  ·subst hk;rw[p.hset]at g1;cases g1;exact absurd rfl g2
  ·rw[(p.other hk).1]at g1;exact⟨k,v,bl,g1,g2,g3⟩
 ·rintro b hb hne ⟨k,v,bl,g1,g2,g3⟩;by_cases hk:k=id
  ·subst hk;rw[p.hset]at g1;cases g1;exact absurd rfl g2
  ·rw[(p.other hk).1]at g1;exact hk (hi.inj k id v ai bl blk b g1 g2 g3 hid hne hb)
end
end Go.VI
