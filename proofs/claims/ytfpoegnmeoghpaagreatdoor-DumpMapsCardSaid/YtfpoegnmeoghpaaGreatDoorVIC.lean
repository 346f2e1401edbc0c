/- How abstract values and the abstract memory stand to the machine's: the relation, the steps that keep it. -/
import Derived.Test.YtfpoegnmeoghpaaGreatDoorVIB
import Derived.Lib.UnsafeStr
set_option linter.unusedVariables false
set_option linter.unusedSimpArgs false
namespace Go.VI
def Av(w:World)(b o:Nat)(vs:List Value):Prop:=∀ j v,vs[j]?=some v->w.cell? ⟨b,o+j,none⟩=some v
def ones(vs:List Value):Prop:=∀ u∈vs,u.oneCell'=true
def Aw(f:Nat)(vs:List Value):Value:=if f<1000 then .func (.func f) #[] vs.toArray else .func (.func (f-1000)) vs.toArray #[]
mutual
def RC(w:World)(X:Nat->Prop):AV->Value->Prop
 |.undef,_=>True
 |.bool b,v=>v=.bool b
 |.int k n,v=>v=.int k n
 |.str l,v=>v=.string ⟨l.toArray⟩
 |.agg cs,v=>∃ vs:List Value,v=.agg vs.toArray/\ones vs/\gQ w X cs vs
 |.tuple cs,v=>∃ vs:List Value,v=.tuple vs.toArray/\gQ w X cs vs
 |.fn f cs,v=>∃ vs:List Value,v=Aw f vs/\gQ w X cs vs
 |.jR,v=>v=.nilFunc
 |.j6,v=>v=.nilIface
 |.iG t x,v=>∃ u,v=.iface t u/\RC w X x u
 |.aP,v=>v=.slice none 0 0
 |.aW z es,v=>∃ a cap,v=.slice a es.length cap/\es.length<=cap/\(es=[]\/∃ b o,a=some ⟨b,o,none⟩/\b<w.heap.size/\¬ X b/\0<z/\nG w X z es b o)
 |.bF z es,v=>∃ a,v=.slice a es.length es.length/\(es=[]\/∃ b o,a=some ⟨b,o,none⟩/\b<w.heap.size/\¬ X b/\0<z/\nG w X z es b o)
 |.nilPtr,v=>v=.pointer none
 |.bR cs,v=>∃ b o,v=.pointer (some ⟨b,o,none⟩)/\b<w.heap.size/\¬ X b/\l8 w X cs b o
 |.own _ _,_=>False
 |.ref ..,_=>False
 |.aF ..,_=>False
 |.gu ..,_=>False
 |.dY ..,_=>False
def gQ(w:World)(X:Nat->Prop):List AV->List Value->Prop
 |[],vs=>vs=[]
 |c::cs,vs=>∃ u us,vs=u::us/\RC w X c u/\gQ w X cs us
def l8(w:World)(X:Nat->Prop):List AV->Nat->Nat->Prop
 |[],_,_=>True
 |c::cs,b,o=>(∃ u,w.cell? ⟨b,o,none⟩=some u/\u.oneCell'=true/\RC w X c u)/\l8 w X cs b (o+1)
def nG(w:World)(X:Nat->Prop)(z:Nat):List AV->Nat->Nat->Prop
 |[],_,_=>True
 |e::es,b,o=>(∃ v,RC w X e v/\v.cells.size=z/\ones v.cells.toList/\Av w b o v.cells.toList)/\nG w X z es b (o+z)
end
structure Keep(w:World)(X:Nat->Prop)(w':World)(X':Nat->Prop):Prop where
 size:w.heap.size<=w'.heap.size
 cell:∀{b o:Nat},b<w.heap.size->¬ X b->w'.cell? ⟨b,o,none⟩=w.cell? ⟨b,o,none⟩
 live:∀ b,X' b->X b\/w.heap.size<=b
section
variable {w:World}{X:Nat->Prop}{w':World}{X':Nat->Prop}
theorem Keep.Av(hk:Keep w X w' X'){b o:Nat}{vs:List Value}(hb:b<w.heap.size)(hx:¬ X b)(h:Av w b o vs):VI.Av w' b o vs :=
 fun j v hj=>(hk.cell hb hx).trans (h j v hj)
theorem Keep.out(hk:Keep w X w' X'){b:Nat}(hb:b<w.heap.size)(hx:¬ X b):b<w'.heap.size/\¬ X' b :=
 ⟨uF hb hk.size,fun h=>(hk.live b h).elim hx (fun h=>by omega)⟩
mutual
theorem RC.keep(hk:Keep w X w' X'):∀(a:AV) (v:Value),RC w X a v->RC w' X' a v
 |.undef,_,_=>by simp[RC]
 |.bool _,_,h|.int _ _,_,h|.str _,_,h|.jR,_,h|.j6,_,h|.aP,_,h|.nilPtr,_,h=>by simpa[RC]using h
 |.agg cs,v,h=>by
  simp only[RC]at h⊢;obtain⟨vs,e,h1,h2⟩:=h
  exact⟨vs,e,h1,gQ.keep hk cs vs h2⟩
 |.tuple cs,v,h|.fn _ cs,v,h=>by
  simp only[RC]at h⊢;obtain⟨vs,e,h2⟩:=h
  exact⟨vs,e,gQ.keep hk cs vs h2⟩
 |.iG t x,v,h=>by
  simp only[RC]at h⊢;obtain⟨u,e,h2⟩:=h
  exact⟨u,e,RC.keep hk x u h2⟩
 |.aW z es,v,h=>by
  simp only[RC]at h⊢;obtain⟨a,cap,e,hc,h2⟩:=h;refine⟨a,cap,e,hc,h2.imp id ?_⟩;rintro⟨b,o,ea,hb,hx,hz,he⟩
  exact⟨b,o,ea,(hk.out hb hx).1,(hk.out hb hx).2,hz,nG.keep hk z es b o hb hx he⟩
 |.bF z es,v,h=>by
  simp only[RC]at h⊢;obtain⟨a,e,h2⟩:=h;refine⟨a,e,h2.imp id ?_⟩;rintro⟨b,o,ea,hb,hx,hz,he⟩
  exact⟨b,o,ea,(hk.out hb hx).1,(hk.out hb hx).2,hz,nG.keep hk z es b o hb hx he⟩
 |.bR cs,v,h=>by
  simp only[RC]at h⊢;obtain⟨b,o,e,hb,hx,hm⟩:=h
  exact⟨b,o,e,(hk.out hb hx).1,(hk.out hb hx).2,l8.keep hk cs b o hb hx hm⟩
 |.own _ _,_,h|.ref ..,_,h|.aF ..,_,h|.gu ..,_,h|.dY ..,_,h=>by simp[RC]at h
theorem gQ.keep(hk:Keep w X w' X'):∀(cs:List AV) (vs:List Value),gQ w X cs vs->gQ w' X' cs vs
 |[],_,h=>by simpa[gQ]using h
 |c::cs,vs,h=>by
  simp only[gQ]at h⊢;obtain⟨u,us,e,h1,h2⟩:=h;exact⟨u,us,e,RC.keep hk c u h1,gQ.keep hk cs us h2⟩
theorem l8.keep(hk:Keep w X w' X'):∀(cs:List AV) (b o:Nat),b<w.heap.size->¬ X b->l8 w X cs b o->l8 w' X' cs b o
 |[],_,_,_,_,_=>by simp[l8]
 |c::cs,b,o,hb,hx,h=>by
  simp only[l8]at h⊢;obtain⟨⟨u,h1,h2,h3⟩,h4⟩:=h;exact⟨⟨u,(hk.cell hb hx).trans h1,h2,RC.keep hk c u h3⟩,l8.keep hk cs b (o+1) hb hx h4⟩
theorem nG.keep(hk:Keep w X w' X')(z:Nat):∀(es:List AV) (b o:Nat),b<w.heap.size->¬ X b->nG w X z es b o->nG w' X' z es b o
 |[],_,_,_,_,_=>by simp[nG]
 |e::es,b,o,hb,hx,h=>by
  simp only[nG]at h⊢;obtain⟨⟨v,h1,h2,h3,h4⟩,h5⟩:=h;exact⟨⟨v,RC.keep hk e v h1,h2,h3,hk.Av hb hx h4⟩,nG.keep hk z es b (o+z) hb hx h5⟩
end
end
theorem Keep.weaken{w:World}{X X':Nat->Prop}(h:∀ b,X' b->X b):Keep w X w X':=⟨bC _,fun _ _=>rfl,fun b hb=>.inl (h b hb)⟩
theorem Keep.refl(w:World)(X:Nat->Prop):Keep w X w X:=Keep.weaken fun _ h=>h
abbrev Map:=List Nat   -- of each abstract block: the machine's
def Live(m:Map)(h:Heap)(b:Nat):Prop:=∃(id ai:Nat) (blk:au),h[id]?=some (ai,blk)/\blk≠au.dead/\m[id]?=some b
def bsize(w:World)(b:Nat):Nat:=match w.heap[b]? with|some (.cells c _ _)=>c.size|_=>0
def Np(w:World)(m:Map)(h:Heap)(id ai z off fill:Nat)(a:Option Addr)(cap:Nat):Prop :=
 ∃ v0 blk,h[id]?=some (v0,blk)/\ai<=v0/\(ai=v0->∀ z' es,blk=.arr z' es->z'=z/\fill<=es.length/\(fill=es.length->∃ b,m[id]?=some b /\
  (cap=0\/(a=some ⟨b,off*z,none⟩/\fill<=off+cap/\(off+cap)*z<=bsize w b))))
def Nq(m:Map)(h:Heap)(id ai off:Nat)(a:Addr):Prop :=
 ∃ v0 blk,h[id]?=some (v0,blk)/\ai<=v0/\(ai=v0->∀ cs,blk=.box cs->∃ b,m[id]?=some b/\a=⟨b,off,none⟩)
def RS.Gp:RS->Nat
 |.fO (.map ..)=>1
 |.fO _=>2
 |_=>0
def ae1:Nat->Nat->Value
 |0,l=>.func (.yield l) #[] #[]
 |1,l=>.map (some l)
 |_,l=>.pointer (some ⟨l,0,none⟩)
def Gq(m:Map)(h:Heap)(id ai k l:Nat):Prop :=
 ∃ v0 blk,h[id]?=some (v0,blk)/\ai<=v0/\(ai=v0->∀ d st,blk=.ax d st->st.Gp=k/\m[id]?=some l)
def zB(m:Map)(h:Heap)(id ai l:Nat):Prop :=
 ∃ v0 blk,h[id]?=some (v0,blk)/\ai<=v0/\(ai=v0->∀ d st,blk=.ax d st->m[id]?=some l)
def Nr(m:Map)(h:Heap)(id ai z fill:Nat)(i off:Nat)(a:Addr):Prop :=
 ∃ v0 blk,h[id]?=some (v0,blk)/\ai<=v0/\(ai=v0->∀ z' es,blk=.arr z' es->z'=z/\fill<=es.length/\(fill=es.length->∃ b,m[id]?=some b/\a=⟨b,i*z+off,none⟩))
mutual
def R(w:World)(X:Nat->Prop)(m:Map)(h:Heap):AV->Value->Prop
 |.agg cs,v=>∃ vs:List Value,v=.agg vs.toArray/\ones vs/\RL w X m h cs vs
 |.tuple cs,v=>∃ vs:List Value,v=.tuple vs.toArray/\RL w X m h cs vs
 |.fn f cs,v=>∃ vs:List Value,v=Aw f vs/\RL w X m h cs vs
 |.iG t x,v=>∃ u,v=.iface t u/\R w X m h x u
 |.ref id ai z off len fill,v=>∃ a cap,v=.slice a len cap/\len<=cap/\(a=none->cap=0)/\Np w m h id ai z off fill a cap
 |.aF id ai off,v=>∃ a,v=.pointer (some a)/\Nq m h id ai off a
 |.gu (.aW _ es) i off,v=>∃ b o,v=.pointer (some ⟨b,o,none⟩)/\∀ e,es[i]?=some e->b<w.heap.size/\¬ X b/\l8 w X (e.cells.drop off) b o
 |.gu (.bF _ es) i off,v=>∃ b o,v=.pointer (some ⟨b,o,none⟩)/\∀ e,es[i]?=some e->b<w.heap.size/\¬ X b/\l8 w X (e.cells.drop off) b o
 |.gu (.ref id ai z o _ fill) i off,v=>∃ a,v=.pointer (some a)/\Nr m h id ai z fill (o+i) off a
 |.gu _ _ _,_=>False
 |.dY id ai,v=>∃ k l,v=ae1 k l/\Gq m h id ai k l
 |.undef,_=>True
 |.bool b,v=>RC w X (.bool b) v
 |.int k n,v=>RC w X (.int k n) v
 |.str l,v=>RC w X (.str l) v
 |.jR,v=>RC w X .jR v
 |.j6,v=>RC w X .j6 v
 |.aP,v=>RC w X .aP v
 |.aW z es,v=>RC w X (.aW z es) v
 |.bF z es,v=>RC w X (.bF z es) v
 |.nilPtr,v=>RC w X .nilPtr v
 |.bR cs,v=>RC w X (.bR cs) v
 |.own _ _,_=>False
def RL(w:World)(X:Nat->Prop)(m:Map)(h:Heap):List AV->List Value->Prop
 |[],vs=>vs=[]
 |c::cs,vs=>∃ u us,vs=u::us/\R w X m h c u/\RL w X m h cs us
end
def rZ(w:World)(m:Map)(w':World)(m':Map)(id:Nat)(blk gX:au):Prop :=
 gX=.dead\/(∃ cs cs',blk=.box cs/\gX=.box cs'/\m'[id]?=m[id]?)\/(∃ d st d' st',blk=.ax d st/\gX=.ax d' st'/\m'[id]?=m[id]?/\st'.Gp=st.Gp/\∀ l,st'=.fO (.buf l)->st=.fO (.buf l)/\∀ b,m[id]?=some b->bsize w' b=bsize w b) \/
 ∃ z es es',blk=.arr z es/\gX=.arr z es'/\es.length<=es'.length/\(es.length=es'.length->m'[id]?=m[id]?/\∀ b,m[id]?=some b->bsize w b<=bsize w' b)
def rC(w:World)(m:Map)(h:Heap)(w':World)(m':Map)(h':Heap):Prop :=
 ∀(id v:Nat) (blk:au),h[id]?=some (v,blk)->∃ v' gX,h'[id]?=some (v',gX)/\v<=v'/\(v=v'->rZ w m w' m' id blk gX)
structure Step(lo:Nat)(w:World)(m:Map)(h:Heap)(w':World)(m':Map)(h':Heap):Prop where
 os:w'.os=w.os
 tape:w'.tape=w.tape
 output:w'.output=w.output
 len:h'.length=h.length
 old:∀ b,b<w.heap.size->¬ Live m h b->w'.heap[b]?=w.heap[b]?
 keep:Keep w (Live m h) w' (Live m' h')
 low:∀(id:Nat),id<lo->h'[id]?=h[id]?/\m'[id]?=m[id]?/\∀(ai:Nat) (blk:au) (b:Nat),h[id]?=some (ai,blk)->blk≠.dead->m[id]?=some b->w'.heap[b]?=w.heap[b]?
 ids:rC w m h w' m' h'
 fresh:∀(id v:Nat) (blk:au) (b:Nat),h'[id]?=some (v,blk)->blk≠.dead->m'[id]?=some b->(m[id]?=some b/\∃ v0 iI,h[id]?=some (v0,iI)/\iI≠.dead)\/w.heap.size<=b
section
variable {lo:Nat}{w:World}{m:Map}{h:Heap}{w':World}{m':Map}{h':Heap}
theorem rZ.refl(w:World)(m:Map)(id:Nat)(blk:au):rZ w m w m id blk blk:=by
 cases blk with
 |dead=>exact .inl rfl
 |box cs=>exact .inr (.inl ⟨cs,cs,rfl,rfl,rfl⟩)
 |ax d st=>exact .inr (.inr (.inl ⟨d,st,d,st,rfl,rfl,rfl,rfl,fun l e=>⟨e,fun _ _=>rfl⟩⟩))
 |arr z es=>exact .inr (.inr (.inr ⟨z,es,es,rfl,rfl,bC _,fun _=>⟨rfl,fun _ _=>bC _⟩⟩))
theorem Np.step(hs:rC w m h w' m' h'){id ai z off fill:Nat}{a:Option Addr}{cap:Nat}(hr:Np w m h id ai z off fill a cap):Np w' m' h' id ai z off fill a cap:=by
 obtain⟨v0,blk,hi,hv,hr⟩:=hr;obtain⟨v',gX,hi',hle,hev⟩:=hs id v0 blk hi;refine⟨v',gX,hi',by omega,fun he z' es hes=>?_⟩
 have e1:v0=v':=by omega
 have e2:ai=v0:=by omega
 rcases hev e1 with hd|⟨cs,cs',_,hc,_⟩|⟨_,_,_,_,_,hc,_⟩|⟨z0,es0,es',hb,hb',hlen,hsame⟩
 ·rw[hd]at hes;cases hes
 ·rw[hc]at hes;cases hes
 ·rw[hc]at hes;cases hes
 ·rw[hb']at hes;cases hes;obtain⟨hz,h1,h2⟩:=hr e2 z' es0 hb;refine⟨hz,by omega,fun hf=>?_⟩
  obtain⟨b,hm,h3⟩:=h2 (by omega)
  obtain⟨hm',hsz⟩:=hsame (by omega)
  refine⟨b,hm'.trans hm,Or.imp_right ?_ h3⟩;rintro⟨ea,h4,h5⟩;exact⟨ea,h4,ng h5 (hsz b hm)⟩
theorem Nq.step(hs:rC w m h w' m' h'){id ai off:Nat}{a:Addr}(hr:Nq m h id ai off a):Nq m' h' id ai off a:=by
 obtain⟨v0,blk,hi,hv,hr⟩:=hr;obtain⟨v',gX,hi',hle,hev⟩:=hs id v0 blk hi;refine⟨v',gX,hi',by omega,fun he cs hcs=>?_⟩
 have e1:v0=v':=by omega
 have e2:ai=v0:=by omega
 rcases hev e1 with hd|⟨cs0,cs',hb,hc,hm⟩|⟨_,_,_,_,_,hc,_⟩|⟨z0,es0,es',hb,hb',_⟩
 ·rw[hd]at hcs;cases hcs
 ·obtain⟨b,h1,h2⟩:=hr e2 cs0 hb;exact⟨b,hm.trans h1,h2⟩
 ·rw[hc]at hcs;cases hcs
 ·rw[hb']at hcs;cases hcs
theorem zB.step(hs:rC w m h w' m' h'){id ai l:Nat}(hr:zB m h id ai l):zB m' h' id ai l:=by
 obtain⟨v0,blk,hi,hv,hr⟩:=hr;obtain⟨v',gX,hi',hle,hev⟩:=hs id v0 blk hi;refine⟨v',gX,hi',by omega,fun he d st hd=>?_⟩
 have e1:v0=v':=by omega
 have e2:ai=v0:=by omega
 rcases hev e1 with hx|⟨cs0,cs',hb,hc,hm⟩|⟨d0,st0,_,_,hb,hc,hm,_⟩|⟨z0,es0,es',hb,hb',_⟩
 ·rw[hx]at hd;cases hd
 ·rw[hc]at hd;cases hd
 ·exact hm.trans (hr e2 d0 st0 hb)
 ·rw[hb']at hd;cases hd
theorem Gq.step(hs:rC w m h w' m' h'){id ai k l:Nat}(hr:Gq m h id ai k l):Gq m' h' id ai k l:=by
 obtain⟨v0,blk,hi,hv,hr⟩:=hr;obtain⟨v',gX,hi',hle,hev⟩:=hs id v0 blk hi;refine⟨v',gX,hi',by omega,fun he d st hd=>?_⟩
 have e1:v0=v':=by omega
 have e2:ai=v0:=by omega
 rcases hev e1 with hx|⟨cs0,cs',hb,hc,hm⟩|⟨d0,st0,d1,st1,hb,hc,hm,hkn,_⟩|⟨z0,es0,es',hb,hb',_⟩
 ·rw[hx]at hd;cases hd
 ·rw[hc]at hd;cases hd
 ·obtain⟨k1,k2⟩:=hr e2 d0 st0 hb;rw[hc]at hd;cases hd;exact⟨hkn.trans k1,hm.trans k2⟩
 ·rw[hb']at hd;cases hd
def Ns(w:World)(m:Map)(h:Heap)(id ai g n cap:Nat):Prop :=
 ∃ v0 blk,h[id]?=some (v0,blk)/\ai<=v0/\(ai=v0->∀ d l,blk=.ax d (.fO (.buf l))->m[id]?=some g/\n=l.length/\bsize w g=cap)
theorem Ns.step(hs:rC w m h w' m' h'){id ai g n cap:Nat}(hr:Ns w m h id ai g n cap):Ns w' m' h' id ai g n cap:=by
 obtain⟨v0,blk,hi,hv,hr⟩:=hr;obtain⟨v',gX,hi',hle,hev⟩:=hs id v0 blk hi;refine⟨v',gX,hi',by omega,fun he d l hd=>?_⟩
 have e1:v0=v':=by omega
 have e2:ai=v0:=by omega
 rcases hev e1 with hx|⟨cs0,cs',hb,hc,hm⟩|⟨d0,st0,d1,st1,hb,hc,hm,hkn,hbf⟩|⟨z0,es0,es',hb,hb',_⟩
 ·rw[hx]at hd;cases hd
 ·rw[hc]at hd;cases hd
 ·rw[hc]at hd;cases hd;obtain⟨q1,q2⟩:=hbf l rfl;obtain⟨k1,k2,k3⟩:=hr e2 d0 l (by rw[hb,q1])
  exact⟨hm.trans k1,k2,(q2 g k1).trans k3⟩
 ·rw[hb']at hd;cases hd
theorem Nr.step(hs:rC w m h w' m' h'){id ai z fill i off:Nat}{a:Addr}(hr:Nr m h id ai z fill i off a):Nr m' h' id ai z fill i off a:=by
 obtain⟨v0,blk,hi,hv,hr⟩:=hr;obtain⟨v',gX,hi',hle,hev⟩:=hs id v0 blk hi;refine⟨v',gX,hi',by omega,fun he z' es hes=>?_⟩
 have e1:v0=v':=by omega
 have e2:ai=v0:=by omega
 rcases hev e1 with hd|⟨cs,cs',_,hc,_⟩|⟨_,_,_,_,_,hc,_⟩|⟨z0,es0,es',hb,hb',hlen,hsame⟩
 ·rw[hd]at hes;cases hes
 ·rw[hc]at hes;cases hes
 ·rw[hc]at hes;cases hes
 ·rw[hb']at hes;cases hes;obtain⟨hz,h1,h2⟩:=hr e2 z' es0 hb;refine⟨hz,by omega,fun hf=>?_⟩
  obtain⟨b,hm,h3⟩:=h2 (by omega)
  exact⟨b,(hsame (by omega)).1.trans hm,h3⟩
variable {X X':Nat->Prop}
mutual
theorem R.step(hs:rC w m h w' m' h')(hk:Keep w X w' X'):∀(a:AV) (v:Value),R w X m h a v->R w' X' m' h' a v
 |.undef,_,_=>by simp[R]
 |.bool _,v,hr|.int _ _,v,hr|.str _,v,hr|.jR,v,hr|.j6,v,hr|.aP,v,hr|.nilPtr,v,hr|.aW _ _,v,hr|.bF _ _,v,hr|.bR _,v,hr=>by
  simp only[R]at hr⊢
  exact RC.keep hk _ _ hr
 |.agg cs,v,hr=>by
  simp only[R]at hr⊢;obtain⟨vs,e,h1,h2⟩:=hr
  exact⟨vs,e,h1,RL.step hs hk cs vs h2⟩
 |.tuple cs,v,hr|.fn _ cs,v,hr=>by
  simp only[R]at hr⊢;obtain⟨vs,e,h2⟩:=hr
  exact⟨vs,e,RL.step hs hk cs vs h2⟩
 |.iG t x,v,hr=>by
  simp only[R]at hr⊢;obtain⟨u,e,h2⟩:=hr
  exact⟨u,e,R.step hs hk x u h2⟩
 |.ref id ai z off len fill,v,hr=>by
  simp only[R]at hr⊢;obtain⟨a,cap,e,hc,hn,hr⟩:=hr
  exact⟨a,cap,e,hc,hn,hr.step hs⟩
 |.aF id ai off,v,hr=>by
  simp only[R]at hr⊢;obtain⟨a,e,hr⟩:=hr
  exact⟨a,e,hr.step hs⟩
 |.gu u i off,v,hr=>by
  cases u with
  |aW z es|bF z es =>
   simp only[R]at hr⊢;obtain⟨b,o,e,hr⟩:=hr;refine⟨b,o,e,fun q hq=>?_⟩;obtain⟨h1,h2,h3⟩:=hr q hq
   exact⟨(hk.out h1 h2).1,(hk.out h1 h2).2,l8.keep hk _ _ _ h1 h2 h3⟩
  |ref id ai z o len fill =>
   simp only[R]at hr⊢;obtain⟨a,e,hr⟩:=hr
   exact⟨a,e,hr.step hs⟩
  |_=>simp[R]at hr
 |.dY id ai,v,hr=>by
  simp only[R]at hr⊢;obtain⟨k,l,e,hr⟩:=hr
  exact⟨k,l,e,hr.step hs⟩
 |.own _ _,_,hr=>by simp[R]at hr
theorem RL.step(hs:rC w m h w' m' h')(hk:Keep w X w' X'):∀(cs:List AV) (vs:List Value),RL w X m h cs vs->RL w' X' m' h' cs vs
 |[],_,hr=>by simpa[RL]using hr
 |c::cs,vs,hr=>by
  simp only[RL]at hr⊢;obtain⟨u,us,e,h1,h2⟩:=hr;exact⟨u,us,e,R.step hs hk c u h1,RL.step hs hk cs us h2⟩
end
mutual
theorem R.yu:∀(a:AV) (v:Value),RC w X a v->R w X m h a v
 |.undef,_,_=>by simp[R]
 |.bool _,v,hr|.int _ _,v,hr|.str _,v,hr|.jR,v,hr|.j6,v,hr|.aP,v,hr|.nilPtr,v,hr|.aW _ _,v,hr|.bF _ _,v,hr|.bR _,v,hr=>by
  simp only[R];exact hr
 |.agg cs,v,hr=>by
  simp only[R,RC]at hr⊢;obtain⟨vs,e,h1,h2⟩:=hr
  exact⟨vs,e,h1,RL.BV cs vs h2⟩
 |.tuple cs,v,hr|.fn _ cs,v,hr=>by
  simp only[R,RC]at hr⊢;obtain⟨vs,e,h2⟩:=hr
  exact⟨vs,e,RL.BV cs vs h2⟩
 |.iG t x,v,hr=>by
  simp only[R,RC]at hr⊢;obtain⟨u,e,h2⟩:=hr
  exact⟨u,e,R.yu x u h2⟩
 |.own _ _,_,hr|.ref ..,_,hr|.aF ..,_,hr|.gu ..,_,hr|.dY ..,_,hr=>by simp[RC]at hr
theorem RL.BV:∀(cs:List AV) (vs:List Value),gQ w X cs vs->RL w X m h cs vs
 |[],_,hr=>by simpa[RL,gQ]using hr
 |c::cs,vs,hr=>by
  simp only[RL,gQ]at hr⊢;obtain⟨u,us,e,h1,h2⟩:=hr;exact⟨u,us,e,R.yu c u h1,RL.BV cs us h2⟩
end
mutual
theorem R.closed:∀(a:AV) (v:Value),a.closed=true->R w X m h a v->RC w X a v
 |.undef,_,_,_=>by simp[RC]
 |.bool _,v,_,hr|.int _ _,v,_,hr|.str _,v,_,hr|.jR,v,_,hr|.j6,v,_,hr|.aP,v,_,hr|.nilPtr,v,_,hr|.aW _ _,v,_,hr|.bF _ _,v,_,hr|.bR _,v,_,hr=>by
  simpa only[R]using hr
 |.agg cs,v,hc,hr=>by
  simp only[R,RC]at hr⊢;obtain⟨vs,e,h1,h2⟩:=hr
  exact⟨vs,e,h1,RL.closed cs vs (by simpa[AV.closed]using hc) h2⟩
 |.tuple cs,v,hc,hr|.fn _ cs,v,hc,hr=>by
  simp only[R,RC]at hr⊢;obtain⟨vs,e,h2⟩:=hr
  exact⟨vs,e,RL.closed cs vs (by simpa[AV.closed]using hc) h2⟩
 |.iG t x,v,hc,hr=>by
  simp only[R,RC]at hr⊢;obtain⟨u,e,h2⟩:=hr
  exact⟨u,e,R.closed x u (by simpa[AV.closed]using hc) h2⟩
 |.own _ _,_,hc,_|.ref ..,_,hc,_|.aF ..,_,hc,_|.gu ..,_,hc,_|.dY ..,_,hc,_=>by simp[AV.closed]at hc
theorem RL.closed:∀(cs:List AV) (vs:List Value),AV.l5 cs=true->RL w X m h cs vs->gQ w X cs vs
 |[],_,_,hr=>by simpa[RL,gQ]using hr
 |c::cs,vs,hc,hr=>by
  simp only[RL,gQ]at hr⊢;simp only[AV.l5,bM]at hc;obtain⟨u,us,e,h1,h2⟩:=hr;exact⟨u,us,e,R.closed c u hc.1 h1,RL.closed cs us hc.2 h2⟩
end
end
def jy(w:World)(X:Nat->Prop)(z:Nat)(es:List AV)(c:List Value):Prop :=
 es.length*z<=c.length/\∀ i e,es[i]?=some e->∃ v:Value,RC w X e v/\v.cells.size=z/\ones v.cells.toList/\∀ j u,v.cells.toList[j]?=some u->c[i*z+j]?=some u
def sU(w:World)(X:Nat->Prop)(m:Map)(h:Heap)(c:List Value):au->Prop
 |.dead=>True
 |.box cs=>ones c/\RL w X m h cs c
 |.arr z es=>0<z/\jy w X z es c
 |.ax ..=>True
class Rounds where
 ok:Nat->Nat->Array Tmp->Code->Code->Prop
class dH where
 kI:Nat->List AV->Bool
 rD:TypeId:=0
 yw:TypeId:=0
 Jy:Nat->Bool:=fun _=>false
 Jz:Nat->Bool:=fun _=>false
def yx [dH](w:World)(X:Nat->Prop):Prop:=∀ g cs,dH.kI g cs=true->g<w.heap.size/\¬ X g/\l8 w X cs g 0/\w.cell? ⟨g,cs.length,none⟩=none
theorem yx.keep [dH]{w w':World}{X X':Nat->Prop}(h:yx w X)(hk:Keep w X w' X'):yx w' X':=fun g cs hg=>by
 obtain⟨h1,h2,h3,h4⟩:=h g cs hg;refine⟨uF h1 hk.size,fun hx=>?_,l8.keep hk cs g 0 h1 h2 h3,(hk.cell h1 h2).trans h4⟩;rcases hk.live g hx with h4|h4
 ·exact h2 h4
 ·omega
def au.mem:au->Bool
 |.box _|.arr _ _=>true
 |_=>false
@[simp] theorem au.arB (cs:List AV):(au.box cs).mem=true:=rfl
@[simp] theorem au.arC (z:Nat) (es:List AV):(au.arr z es).mem=true:=rfl
theorem au.Gr{b:au}(h:b.mem=true):b≠.dead:=by rintro rfl;cases h
def Gs(i:Nat):Code:=if i<1000 then .exit i else .goto (i-1000)
def RS.is(st:RS)(r:Loop):Prop :=
 match st with
 |.ready=>r.state=.ready/\r.pending=none
 |.busy=>r.state=.busy
 |.done (.exit i)=>r.state=.done/\r.pending=some (Gs i)
 |.done .ret=>r.state=.done/\r.pending=some .ret
 |.done .norm=>False
 |.fO _=>False
def MR(w:World)(X:Nat->Prop)(k:IntKind):List (Int×AV)->List MapEntry->Prop
 |[],es=>es=[]
 |(n,v)::r,es=>∃ e es',es=e::es'/\e.key=.int k n/\RC w X v e.val/\MR w X k r es'
theorem MR.keep{w:World}{X:Nat->Prop}{w':World}{X':Nat->Prop}(hk:Keep w X w' X'){k:IntKind}:∀{vJ:List (Int×AV)} {es:List MapEntry},MR w X k vJ es->MR w' X' k vJ es
 |[],_,h=>h
 |(n,v)::r,_,⟨e,es',h1,h2,h3,h4⟩=>⟨e,es',h1,h2,RC.keep hk _ _ h3,h4.keep hk⟩
def BX(w:World)(m:Map)(h:Heap):Option (Nat×Nat)->Value->Prop
 |none,v=>v=.slice none 0 0
 |some (id2,mY),v=>∃ g n cap,v=.slice (some ⟨g,0,none⟩) n cap/\Ns w m h id2 mY g n cap
theorem BX.step{w:World}{m:Map}{h:Heap}{w':World}{m':Map}{h':Heap}(hs:rC w m h w' m' h'):∀{lk:Option (Nat×Nat)} {v:Value},BX w m h lk v->BX w' m' h' lk v
 |none,_,hr=>hr
 |some (_,_),_,⟨g,n,cap,e,hr⟩=>⟨g,n,cap,e,hr.step hs⟩
def Ez [dH](w:World)(X:Nat->Prop)(m:Map)(h:Heap)(o:Obj):SD->Prop
 |.map k vJ=>∃ es clock,o=.map es clock/\MR w X k vJ es.toList
 |.fM me ai lk=>∃ b p v,o=.cells #[p,v] dH.rD (0,0)/\(p=.pointer none\/p=.pointer (some ⟨b,0,none⟩))/\Gq m h me ai 2 b/\BX w m h lk v
 |.buf l=>∃ cur fz,o=.cells cur dH.yw fz/\fz.2<=l.length/\l.length<=cur.size/\cur.size<=maxLen/\cur.toList.take l.length=Lib.byteCells l
def pU [dH][Rounds](w:World)(X:Nat->Prop)(m:Map)(h:Heap)(o:Obj)(d:dO):RS->Prop
 |.fO sd=>d.base+d.ns<=h.length/\d.env=sd.env/\Ez w X m h o sd
 |st=>∃ r:Loop,o=.loop r/\st.is r/\d.lo<=d.base/\d.base+d.ns<=h.length/\Rounds.ok d.g r.tmps.size r.params r.assign r.body/\∀ t,R w X m h (d.env.get t) (r.tmps.getD t undef)
structure Inv [dH][Rounds](w:World)(m:Map)(h:Heap):Prop where
 len:m.length=h.length
 blk:∀(id ai:Nat) (blk:au),h[id]?=some (ai,blk)->blk.mem=true->∃ b,∃ c:Array Value,∃ ty,m[id]?=some b/\w.heap[b]?=some (Obj.cells c ty (0,0))/\sU w (Live m h) m h c.toList blk
 ax:∀(id ai:Nat) (d:dO) (st:RS),h[id]?=some (ai,.ax d st)->∃ b o,m[id]?=some b/\w.heap[b]?=some o/\pU w (Live m h) m h o d st
 inj:∀(id id' v v':Nat) (blk gX:au) (b:Nat),h[id]?=some (v,blk)->blk≠.dead->m[id]?=some b->h[id']?=some (v',gX)->gX≠.dead->m[id']?=some b->id=id'
 kI:yx w (Live m h)
theorem jy.keep{w w':World}{X X':Nat->Prop}(hk:Keep w X w' X'){z:Nat}{es:List AV}{c:List Value}(h:jy w X z es c):jy w' X' z es c :=
 ⟨h.1,fun i e he=>let ⟨v,h1,h2,h3,h4⟩:=h.2 i e he;⟨v,RC.keep hk e v h1,h2,h3,h4⟩⟩
theorem sU.ids{w:World}{m:Map}{h:Heap}{w':World}{m':Map}{h':Heap}{X X':Nat->Prop}(hs:rC w m h w' m' h')(hk:Keep w X w' X'){c:List Value}{blk:au}
  (hb:sU w X m h c blk):sU w' X' m' h' c blk:=by
 cases blk with
 |dead=>trivial
 |box cs=>exact⟨hb.1,RL.step hs hk cs c hb.2⟩
 |arr z es=>exact⟨hb.1,hb.2.keep hk⟩
 |ax d st=>trivial
theorem sU.step{lo:Nat}{w:World}{m:Map}{h:Heap}{w':World}{m':Map}{h':Heap}(hs:Step lo w m h w' m' h'){c:List Value}{blk:au}
  (hb:sU w (Live m h) m h c blk):sU w' (Live m' h') m' h' c blk:=hb.ids hs.ids hs.keep
theorem pU.mk [dH][Rounds]{w:World}{X:Nat->Prop}{m:Map}{h:Heap}{d:dO}{st:RS}{r:Loop}(h1:st.is r)(h2:d.lo<=d.base)(h3:d.base+d.ns<=h.length)(h4:Rounds.ok d.g r.tmps.size r.params r.assign r.body)(h5:∀ t,R w X m h (d.env.get t) (r.tmps.getD t undef)) :
  pU w X m h (.loop r) d st:=by
 cases st with
 |fO sd=>exact h1.elim
 |_=>exact⟨r,rfl,h1,h2,h3,h4,h5⟩
theorem pU.cases [dH][Rounds]{w:World}{X:Nat->Prop}{m:Map}{h:Heap}{o:Obj}{d:dO}{st:RS}(hb:pU w X m h o d st) :
  (∃ sd,st=.fO sd/\d.base+d.ns<=h.length/\d.env=sd.env/\Ez w X m h o sd)\/((∀ sd,st≠.fO sd)/\∃ r:Loop,o=.loop r/\st.is r/\d.lo<=d.base/\d.base+d.ns<=h.length/\Rounds.ok d.g r.tmps.size r.params r.assign r.body/\∀ t,R w X m h (d.env.get t) (r.tmps.getD t undef)):=by
 cases st with
 |fO sd=>exact .inl ⟨sd,rfl,hb.1,hb.2.1,hb.2.2⟩
 |_=>exact .inr ⟨fun _=>by simp,hb⟩
theorem pU.loop [dH][Rounds]{w:World}{X:Nat->Prop}{m:Map}{h:Heap}{o:Obj}{d:dO}{st:RS}(hb:pU w X m h o d st)(hs:st.loop=true) :
  ∃ r:Loop,o=.loop r/\st.is r/\d.lo<=d.base/\d.base+d.ns<=h.length/\Rounds.ok d.g r.tmps.size r.params r.assign r.body/\∀ t,R w X m h (d.env.get t) (r.tmps.getD t undef):=by
 rcases hb.cases with⟨sd,rfl,_⟩|⟨_,h⟩
 ·cases hs
 ·exact h
theorem RS.WU{st:RS}(h:st.loop=true):st.Gp=0:=by
 cases st with
 |fO=>cases h
 |_=>rfl
theorem Ez.ids [dH]{w:World}{m:Map}{h:Heap}{w':World}{m':Map}{h':Heap}{X X':Nat->Prop}(hs:rC w m h w' m' h')(hk:Keep w X w' X'){o:Obj}:∀{sd:SD},Ez w X m h o sd->Ez w' X' m' h' o sd
 |.map k vJ,⟨es,clock,e,hm⟩=>⟨es,clock,e,hm.keep hk⟩
 |.fM me ai lk,⟨b,p,v,e,hp,h1,h2⟩=>⟨b,p,v,e,hp,h1.step hs,h2.step hs⟩
 |.buf l,hb=>hb
theorem pU.ids [dH][Rounds]{w:World}{m:Map}{h:Heap}{w':World}{m':Map}{h':Heap}{X X':Nat->Prop}(hs:rC w m h w' m' h')(hk:Keep w X w' X')(hl:h.length<=h'.length){o:Obj}{d:dO}{st:RS}
  (hb:pU w X m h o d st):pU w' X' m' h' o d st:=by
 rcases hb.cases with⟨sd,rfl,h0,h1,h2⟩|⟨_,r,rfl,h2,h3,h4,h5,h6⟩
 ·exact⟨by omega,h1,h2.ids hs hk⟩
 ·exact pU.mk h2 h3 (by omega) h5 fun t=>R.step hs hk _ _ (h6 t)
end Go.VI
