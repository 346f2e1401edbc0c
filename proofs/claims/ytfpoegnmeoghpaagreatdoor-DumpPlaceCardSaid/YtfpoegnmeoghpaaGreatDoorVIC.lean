/- How abstract values and the abstract memory stand to the machine's: the relation, the steps that keep it. -/
import Derived.Test.YtfpoegnmeoghpaaGreatDoorVIB
import Derived.Lib.UnsafeStr
set_option linter.unusedVariables false
set_option linter.unusedSimpArgs false
namespace Go.VI
def abo(w:World)(b o:Nat)(vs:List Value):Prop:=∀ j v,vs[j]?=some v->w.cell? ⟨b,o+j,none⟩=some v
def ones(vs:List Value):Prop:=∀ u∈vs,u.oneCell'=true
def fnV(f:Nat)(vs:List Value):Value:=if f<1000 then .func (.func f) #[] vs.toArray else .func (.func (f-1000)) vs.toArray #[]
mutual
def RC(w:World)(X:Nat->Prop):AV->Value->Prop
 |.undef,_=>True
 |.bool b,v=>v=.bool b
 |.int k n,v=>v=.int k n
 |.str l,v=>v=.string ⟨l.toArray⟩
 |.agg cs,v=>∃ vs:List Value,v=.agg vs.toArray/\ones vs/\o9 w X cs vs
 |.tuple cs,v=>∃ vs:List Value,v=.tuple vs.toArray/\o9 w X cs vs
 |.fn f cs,v=>∃ vs:List Value,v=fnV f vs/\o9 w X cs vs
 |.yX,v=>v=.nilFunc
 |.zB,v=>v=.nilIface
 |.rM t x,v=>∃ u,v=.iface t u/\RC w X x u
 |.bO,v=>v=.slice none 0 0
 |.eY z es,v=>∃ a cap,v=.slice a es.length cap/\es.length<=cap/\(es=[]\/∃ b o,a=some ⟨b,o,none⟩/\b<w.heap.size/\¬ X b/\0<z/\Gr w X z es b o)
 |.fT z es,v=>∃ a,v=.slice a es.length es.length/\(es=[]\/∃ b o,a=some ⟨b,o,none⟩/\b<w.heap.size/\¬ X b/\0<z/\Gr w X z es b o)
 |.nilPtr,v=>v=.pointer none
 |.iE cs,v=>∃ b o,v=.pointer (some ⟨b,o,none⟩)/\b<w.heap.size/\¬ X b/\Fu w X cs b o
 |.own _ _,_=>False
 |.ref ..,_=>False
 |.bq ..,_=>False
 |.nS ..,_=>False
 |.lF ..,_=>False
def o9(w:World)(X:Nat->Prop):List AV->List Value->Prop
 |[],vs=>vs=[]
 |c::cs,vs=>∃ u us,vs=u::us/\RC w X c u/\o9 w X cs us
def Fu(w:World)(X:Nat->Prop):List AV->Nat->Nat->Prop
 |[],_,_=>True
 |c::cs,b,o=>(∃ u,w.cell? ⟨b,o,none⟩=some u/\u.oneCell'=true/\RC w X c u)/\Fu w X cs b (o+1)
def Gr(w:World)(X:Nat->Prop)(z:Nat):List AV->Nat->Nat->Prop
 |[],_,_=>True
 |e::es,b,o=>(∃ v,RC w X e v/\v.cells.size=z/\ones v.cells.toList/\abo w b o v.cells.toList)/\Gr w X z es b (o+z)
end
structure Keep(w:World)(X:Nat->Prop)(w':World)(X':Nat->Prop):Prop where
 size:w.heap.size<=w'.heap.size
 cell:∀{b o:Nat},b<w.heap.size->¬ X b->w'.cell? ⟨b,o,none⟩=w.cell? ⟨b,o,none⟩
 live:∀ b,X' b->X b\/w.heap.size<=b
section
variable {w:World}{X:Nat->Prop}{w':World}{X':Nat->Prop}
theorem Keep.abo(hk:Keep w X w' X'){b o:Nat}{vs:List Value}(hb:b<w.heap.size)(hx:¬ X b)(h:abo w b o vs):VI.abo w' b o vs :=
 fun j v hj=>(hk.cell hb hx).trans (h j v hj)
theorem Keep.out(hk:Keep w X w' X'){b:Nat}(hb:b<w.heap.size)(hx:¬ X b):b<w'.heap.size/\¬ X' b :=
 ⟨Zv hb hk.size,fun h=>(hk.live b h).elim hx (fun h=>by omega)⟩
mutual
theorem RC.keep(hk:Keep w X w' X'):∀(a:AV) (v:Value),RC w X a v->RC w' X' a v
 |.undef,_,_=>by simp[RC]
 |.bool _,_,h|.int _ _,_,h|.str _,_,h|.yX,_,h|.zB,_,h|.bO,_,h|.nilPtr,_,h=>by simpa[RC]using h
 |.agg cs,v,h=>by
  simp only[RC]at h⊢;obtain⟨vs,e,h1,h2⟩:=h
  exact⟨vs,e,h1,o9.keep hk cs vs h2⟩
 |.tuple cs,v,h|.fn _ cs,v,h=>by
  simp only[RC]at h⊢;obtain⟨vs,e,h2⟩:=h
  exact⟨vs,e,o9.keep hk cs vs h2⟩
 |.rM t x,v,h=>by
  simp only[RC]at h⊢;obtain⟨u,e,h2⟩:=h
  exact⟨u,e,RC.keep hk x u h2⟩
 |.eY z es,v,h=>by
  simp only[RC]at h⊢;obtain⟨a,cap,e,hc,h2⟩:=h;refine⟨a,cap,e,hc,h2.imp id ?_⟩;rintro⟨b,o,ea,hb,hx,hz,he⟩
  exact⟨b,o,ea,(hk.out hb hx).1,(hk.out hb hx).2,hz,Gr.keep hk z es b o hb hx he⟩
 |.fT z es,v,h=>by
  simp only[RC]at h⊢;obtain⟨a,e,h2⟩:=h;refine⟨a,e,h2.imp id ?_⟩;rintro⟨b,o,ea,hb,hx,hz,he⟩
  exact⟨b,o,ea,(hk.out hb hx).1,(hk.out hb hx).2,hz,Gr.keep hk z es b o hb hx he⟩
 |.iE cs,v,h=>by
  simp only[RC]at h⊢;obtain⟨b,o,e,hb,hx,hm⟩:=h
  exact⟨b,o,e,(hk.out hb hx).1,(hk.out hb hx).2,Fu.keep hk cs b o hb hx hm⟩
 |.own _ _,_,h|.ref ..,_,h|.bq ..,_,h|.nS ..,_,h|.lF ..,_,h=>by simp[RC]at h
theorem o9.keep(hk:Keep w X w' X'):∀(cs:List AV) (vs:List Value),o9 w X cs vs->o9 w' X' cs vs
 |[],_,h=>by simpa[o9]using h
 |c::cs,vs,h=>by
  simp only[o9]at h⊢;obtain⟨u,us,e,h1,h2⟩:=h;exact⟨u,us,e,RC.keep hk c u h1,o9.keep hk cs us h2⟩
theorem Fu.keep(hk:Keep w X w' X'):∀(cs:List AV) (b o:Nat),b<w.heap.size->¬ X b->Fu w X cs b o->Fu w' X' cs b o
 |[],_,_,_,_,_=>by simp[Fu]
 |c::cs,b,o,hb,hx,h=>by
  simp only[Fu]at h⊢;obtain⟨⟨u,h1,h2,h3⟩,h4⟩:=h;exact⟨⟨u,(hk.cell hb hx).trans h1,h2,RC.keep hk c u h3⟩,Fu.keep hk cs b (o+1) hb hx h4⟩
theorem Gr.keep(hk:Keep w X w' X')(z:Nat):∀(es:List AV) (b o:Nat),b<w.heap.size->¬ X b->Gr w X z es b o->Gr w' X' z es b o
 |[],_,_,_,_,_=>by simp[Gr]
 |e::es,b,o,hb,hx,h=>by
  simp only[Gr]at h⊢;obtain⟨⟨v,h1,h2,h3,h4⟩,h5⟩:=h;exact⟨⟨v,RC.keep hk e v h1,h2,h3,hk.abo hb hx h4⟩,Gr.keep hk z es b (o+z) hb hx h5⟩
end
end
theorem Keep.weaken{w:World}{X X':Nat->Prop}(h:∀ b,X' b->X b):Keep w X w X':=⟨iJ _,fun _ _=>rfl,fun b hb=>.inl (h b hb)⟩
theorem Keep.refl(w:World)(X:Nat->Prop):Keep w X w X:=Keep.weaken fun _ h=>h
abbrev Map:=List Nat   -- of each abstract block: the machine's
def Live(m:Map)(h:Heap)(b:Nat):Prop:=∃(id ak:Nat) (blk:aU),h[id]?=some (ak,blk)/\blk≠aU.dead/\m[id]?=some b
def bsize(w:World)(b:Nat):Nat:=match w.heap[b]? with|some (.cells c _ _)=>c.size|_=>0
def anl(w:World)(m:Map)(h:Heap)(id ak z off fill:Nat)(a:Option Addr)(cap:Nat):Prop :=
 ∃ v0 blk,h[id]?=some (v0,blk)/\ak<=v0/\(ak=v0->∀ z' es,blk=.arr z' es->z'=z/\fill<=es.length/\(fill=es.length->∃ b,m[id]?=some b /\
  (cap=0\/(a=some ⟨b,off*z,none⟩/\fill<=off+cap/\(off+cap)*z<=bsize w b))))
def anm(m:Map)(h:Heap)(id ak off:Nat)(a:Addr):Prop :=
 ∃ v0 blk,h[id]?=some (v0,blk)/\ak<=v0/\(ak=v0->∀ cs,blk=.box cs->∃ b,m[id]?=some b/\a=⟨b,off,none⟩)
def RS.knd:RS->Nat
 |.nX (.map ..)=>1
 |.nX _=>2
 |_=>0
def aEa:Nat->Nat->Value
 |0,l=>.func (.yield l) #[] #[]
 |1,l=>.map (some l)
 |_,l=>.pointer (some ⟨l,0,none⟩)
def KAt(m:Map)(h:Heap)(id ak k l:Nat):Prop :=
 ∃ v0 blk,h[id]?=some (v0,blk)/\ak<=v0/\(ak=v0->∀ d st,blk=.aV d st->st.knd=k/\m[id]?=some l)
def Zw(m:Map)(h:Heap)(id ak l:Nat):Prop :=
 ∃ v0 blk,h[id]?=some (v0,blk)/\ak<=v0/\(ak=v0->∀ d st,blk=.aV d st->m[id]?=some l)
def ann(m:Map)(h:Heap)(id ak z fill:Nat)(i off:Nat)(a:Addr):Prop :=
 ∃ v0 blk,h[id]?=some (v0,blk)/\ak<=v0/\(ak=v0->∀ z' es,blk=.arr z' es->z'=z/\fill<=es.length/\(fill=es.length->∃ b,m[id]?=some b/\a=⟨b,i*z+off,none⟩))
mutual
def R(w:World)(X:Nat->Prop)(m:Map)(h:Heap):AV->Value->Prop
 |.agg cs,v=>∃ vs:List Value,v=.agg vs.toArray/\ones vs/\RL w X m h cs vs
 |.tuple cs,v=>∃ vs:List Value,v=.tuple vs.toArray/\RL w X m h cs vs
 |.fn f cs,v=>∃ vs:List Value,v=fnV f vs/\RL w X m h cs vs
 |.rM t x,v=>∃ u,v=.iface t u/\R w X m h x u
 |.ref id ak z off len fill,v=>∃ a cap,v=.slice a len cap/\len<=cap/\(a=none->cap=0)/\anl w m h id ak z off fill a cap
 |.bq id ak off,v=>∃ a,v=.pointer (some a)/\anm m h id ak off a
 |.nS (.eY _ es) i off,v=>∃ b o,v=.pointer (some ⟨b,o,none⟩)/\∀ e,es[i]?=some e->b<w.heap.size/\¬ X b/\Fu w X (e.cells.drop off) b o
 |.nS (.fT _ es) i off,v=>∃ b o,v=.pointer (some ⟨b,o,none⟩)/\∀ e,es[i]?=some e->b<w.heap.size/\¬ X b/\Fu w X (e.cells.drop off) b o
 |.nS (.ref id ak z o _ fill) i off,v=>∃ a,v=.pointer (some a)/\ann m h id ak z fill (o+i) off a
 |.nS _ _ _,_=>False
 |.lF id ak,v=>∃ k l,v=aEa k l/\KAt m h id ak k l
 |.undef,_=>True
 |.bool b,v=>RC w X (.bool b) v
 |.int k n,v=>RC w X (.int k n) v
 |.str l,v=>RC w X (.str l) v
 |.yX,v=>RC w X .yX v
 |.zB,v=>RC w X .zB v
 |.bO,v=>RC w X .bO v
 |.eY z es,v=>RC w X (.eY z es) v
 |.fT z es,v=>RC w X (.fT z es) v
 |.nilPtr,v=>RC w X .nilPtr v
 |.iE cs,v=>RC w X (.iE cs) v
 |.own _ _,_=>False
def RL(w:World)(X:Nat->Prop)(m:Map)(h:Heap):List AV->List Value->Prop
 |[],vs=>vs=[]
 |c::cs,vs=>∃ u us,vs=u::us/\R w X m h c u/\RL w X m h cs us
end
def OY(w:World)(m:Map)(w':World)(m':Map)(id:Nat)(blk qN:aU):Prop :=
 qN=.dead\/(∃ cs cs',blk=.box cs/\qN=.box cs'/\m'[id]?=m[id]?)\/(∃ d st d' st',blk=.aV d st/\qN=.aV d' st'/\m'[id]?=m[id]?/\st'.knd=st.knd/\∀ l,st'=.nX (.buf l)->st=.nX (.buf l)/\∀ b,m[id]?=some b->bsize w' b=bsize w b) \/
 ∃ z es es',blk=.arr z es/\qN=.arr z es'/\es.length<=es'.length/\(es.length=es'.length->m'[id]?=m[id]?/\∀ b,m[id]?=some b->bsize w b<=bsize w' b)
def Nl(w:World)(m:Map)(h:Heap)(w':World)(m':Map)(h':Heap):Prop :=
 ∀(id v:Nat) (blk:aU),h[id]?=some (v,blk)->∃ v' qN,h'[id]?=some (v',qN)/\v<=v'/\(v=v'->OY w m w' m' id blk qN)
structure Step(lo:Nat)(w:World)(m:Map)(h:Heap)(w':World)(m':Map)(h':Heap):Prop where
 os:w'.os=w.os
 tape:w'.tape=w.tape
 output:w'.output=w.output
 len:h'.length=h.length
 old:∀ b,b<w.heap.size->¬ Live m h b->w'.heap[b]?=w.heap[b]?
 keep:Keep w (Live m h) w' (Live m' h')
 low:∀(id:Nat),id<lo->h'[id]?=h[id]?/\m'[id]?=m[id]?/\∀(ak:Nat) (blk:aU) (b:Nat),h[id]?=some (ak,blk)->blk≠.dead->m[id]?=some b->w'.heap[b]?=w.heap[b]?
 ids:Nl w m h w' m' h'
 fresh:∀(id v:Nat) (blk:aU) (b:Nat),h'[id]?=some (v,blk)->blk≠.dead->m'[id]?=some b->(m[id]?=some b/\∃ v0 rY,h[id]?=some (v0,rY)/\rY≠.dead)\/w.heap.size<=b
section
variable {lo:Nat}{w:World}{m:Map}{h:Heap}{w':World}{m':Map}{h':Heap}
theorem OY.refl(w:World)(m:Map)(id:Nat)(blk:aU):OY w m w m id blk blk:=by
 cases blk with
 |dead=>exact .inl rfl
 |box cs=>exact .inr (.inl ⟨cs,cs,rfl,rfl,rfl⟩)
 |aV d st=>exact .inr (.inr (.inl ⟨d,st,d,st,rfl,rfl,rfl,rfl,fun l e=>⟨e,fun _ _=>rfl⟩⟩))
 |arr z es=>exact .inr (.inr (.inr ⟨z,es,es,rfl,rfl,iJ _,fun _=>⟨rfl,fun _ _=>iJ _⟩⟩))
theorem anl.step(hs:Nl w m h w' m' h'){id ak z off fill:Nat}{a:Option Addr}{cap:Nat}(hr:anl w m h id ak z off fill a cap):anl w' m' h' id ak z off fill a cap:=by
 obtain⟨v0,blk,hi,hv,hr⟩:=hr;obtain⟨v',qN,hi',hle,hev⟩:=hs id v0 blk hi;refine⟨v',qN,hi',by omega,fun he z' es hes=>?_⟩
 have e1:v0=v':=by omega
 have e2:ak=v0:=by omega
 rcases hev e1 with hd|⟨cs,cs',_,hc,_⟩|⟨_,_,_,_,_,hc,_⟩|⟨z0,es0,es',hb,hb',hlen,hsame⟩
 ·rw[hd]at hes;cases hes
 ·rw[hc]at hes;cases hes
 ·rw[hc]at hes;cases hes
 ·rw[hb']at hes;cases hes;obtain⟨hz,h1,h2⟩:=hr e2 z' es0 hb;refine⟨hz,by omega,fun hf=>?_⟩
  obtain⟨b,hm,h3⟩:=h2 (by omega)
  obtain⟨hm',hsz⟩:=hsame (by omega)
  refine⟨b,hm'.trans hm,Or.imp_right ?_ h3⟩;rintro⟨ea,h4,h5⟩;exact⟨ea,h4,Np h5 (hsz b hm)⟩
theorem anm.step(hs:Nl w m h w' m' h'){id ak off:Nat}{a:Addr}(hr:anm m h id ak off a):anm m' h' id ak off a:=by
 obtain⟨v0,blk,hi,hv,hr⟩:=hr;obtain⟨v',qN,hi',hle,hev⟩:=hs id v0 blk hi;refine⟨v',qN,hi',by omega,fun he cs hcs=>?_⟩
 have e1:v0=v':=by omega
 have e2:ak=v0:=by omega
 rcases hev e1 with hd|⟨cs0,cs',hb,hc,hm⟩|⟨_,_,_,_,_,hc,_⟩|⟨z0,es0,es',hb,hb',_⟩
 ·rw[hd]at hcs;cases hcs
 ·obtain⟨b,h1,h2⟩:=hr e2 cs0 hb;exact⟨b,hm.trans h1,h2⟩
 ·rw[hc]at hcs;cases hcs
 ·rw[hb']at hcs;cases hcs
theorem Zw.step(hs:Nl w m h w' m' h'){id ak l:Nat}(hr:Zw m h id ak l):Zw m' h' id ak l:=by
 obtain⟨v0,blk,hi,hv,hr⟩:=hr;obtain⟨v',qN,hi',hle,hev⟩:=hs id v0 blk hi;refine⟨v',qN,hi',by omega,fun he d st hd=>?_⟩
 have e1:v0=v':=by omega
 have e2:ak=v0:=by omega
 rcases hev e1 with hx|⟨cs0,cs',hb,hc,hm⟩|⟨d0,st0,_,_,hb,hc,hm,_⟩|⟨z0,es0,es',hb,hb',_⟩
 ·rw[hx]at hd;cases hd
 ·rw[hc]at hd;cases hd
 ·exact hm.trans (hr e2 d0 st0 hb)
 ·rw[hb']at hd;cases hd
theorem KAt.step(hs:Nl w m h w' m' h'){id ak k l:Nat}(hr:KAt m h id ak k l):KAt m' h' id ak k l:=by
 obtain⟨v0,blk,hi,hv,hr⟩:=hr;obtain⟨v',qN,hi',hle,hev⟩:=hs id v0 blk hi;refine⟨v',qN,hi',by omega,fun he d st hd=>?_⟩
 have e1:v0=v':=by omega
 have e2:ak=v0:=by omega
 rcases hev e1 with hx|⟨cs0,cs',hb,hc,hm⟩|⟨d0,st0,d1,st1,hb,hc,hm,hkn,_⟩|⟨z0,es0,es',hb,hb',_⟩
 ·rw[hx]at hd;cases hd
 ·rw[hc]at hd;cases hd
 ·obtain⟨k1,k2⟩:=hr e2 d0 st0 hb;rw[hc]at hd;cases hd;exact⟨hkn.trans k1,hm.trans k2⟩
 ·rw[hb']at hd;cases hd
def ano(w:World)(m:Map)(h:Heap)(id ak g n cap:Nat):Prop :=
 ∃ v0 blk,h[id]?=some (v0,blk)/\ak<=v0/\(ak=v0->∀ d l,blk=.aV d (.nX (.buf l))->m[id]?=some g/\n=l.length/\bsize w g=cap)
theorem ano.step(hs:Nl w m h w' m' h'){id ak g n cap:Nat}(hr:ano w m h id ak g n cap):ano w' m' h' id ak g n cap:=by
 obtain⟨v0,blk,hi,hv,hr⟩:=hr;obtain⟨v',qN,hi',hle,hev⟩:=hs id v0 blk hi;refine⟨v',qN,hi',by omega,fun he d l hd=>?_⟩
 have e1:v0=v':=by omega
 have e2:ak=v0:=by omega
 rcases hev e1 with hx|⟨cs0,cs',hb,hc,hm⟩|⟨d0,st0,d1,st1,hb,hc,hm,hkn,hbf⟩|⟨z0,es0,es',hb,hb',_⟩
 ·rw[hx]at hd;cases hd
 ·rw[hc]at hd;cases hd
 ·rw[hc]at hd;cases hd;obtain⟨q1,q2⟩:=hbf l rfl;obtain⟨k1,k2,k3⟩:=hr e2 d0 l (by rw[hb,q1])
  exact⟨hm.trans k1,k2,(q2 g k1).trans k3⟩
 ·rw[hb']at hd;cases hd
theorem ann.step(hs:Nl w m h w' m' h'){id ak z fill i off:Nat}{a:Addr}(hr:ann m h id ak z fill i off a):ann m' h' id ak z fill i off a:=by
 obtain⟨v0,blk,hi,hv,hr⟩:=hr;obtain⟨v',qN,hi',hle,hev⟩:=hs id v0 blk hi;refine⟨v',qN,hi',by omega,fun he z' es hes=>?_⟩
 have e1:v0=v':=by omega
 have e2:ak=v0:=by omega
 rcases hev e1 with hd|⟨cs,cs',_,hc,_⟩|⟨_,_,_,_,_,hc,_⟩|⟨z0,es0,es',hb,hb',hlen,hsame⟩
 ·rw[hd]at hes;cases hes
 ·rw[hc]at hes;cases hes
 ·rw[hc]at hes;cases hes
 ·rw[hb']at hes;cases hes;obtain⟨hz,h1,h2⟩:=hr e2 z' es0 hb;refine⟨hz,by omega,fun hf=>?_⟩
  obtain⟨b,hm,h3⟩:=h2 (by omega)
  exact⟨b,(hsame (by omega)).1.trans hm,h3⟩
variable {X X':Nat->Prop}
mutual
theorem R.step(hs:Nl w m h w' m' h')(hk:Keep w X w' X'):∀(a:AV) (v:Value),R w X m h a v->R w' X' m' h' a v
 |.undef,_,_=>by simp[R]
 |.bool _,v,hr|.int _ _,v,hr|.str _,v,hr|.yX,v,hr|.zB,v,hr|.bO,v,hr|.nilPtr,v,hr|.eY _ _,v,hr|.fT _ _,v,hr|.iE _,v,hr=>by
  simp only[R]at hr⊢
  exact RC.keep hk _ _ hr
 |.agg cs,v,hr=>by
  simp only[R]at hr⊢;obtain⟨vs,e,h1,h2⟩:=hr
  exact⟨vs,e,h1,RL.step hs hk cs vs h2⟩
 |.tuple cs,v,hr|.fn _ cs,v,hr=>by
  simp only[R]at hr⊢;obtain⟨vs,e,h2⟩:=hr
  exact⟨vs,e,RL.step hs hk cs vs h2⟩
 |.rM t x,v,hr=>by
  simp only[R]at hr⊢;obtain⟨u,e,h2⟩:=hr
  exact⟨u,e,R.step hs hk x u h2⟩
 |.ref id ak z off len fill,v,hr=>by
  simp only[R]at hr⊢;obtain⟨a,cap,e,hc,hn,hr⟩:=hr
  exact⟨a,cap,e,hc,hn,hr.step hs⟩
 |.bq id ak off,v,hr=>by
  simp only[R]at hr⊢;obtain⟨a,e,hr⟩:=hr
  exact⟨a,e,hr.step hs⟩
 |.nS u i off,v,hr=>by
  cases u with
  |eY z es|fT z es =>
   simp only[R]at hr⊢;obtain⟨b,o,e,hr⟩:=hr;refine⟨b,o,e,fun q hq=>?_⟩;obtain⟨h1,h2,h3⟩:=hr q hq
   exact⟨(hk.out h1 h2).1,(hk.out h1 h2).2,Fu.keep hk _ _ _ h1 h2 h3⟩
  |ref id ak z o len fill =>
   simp only[R]at hr⊢;obtain⟨a,e,hr⟩:=hr
   exact⟨a,e,hr.step hs⟩
  |_=>simp[R]at hr
 |.lF id ak,v,hr=>by
  simp only[R]at hr⊢;obtain⟨k,l,e,hr⟩:=hr
  exact⟨k,l,e,hr.step hs⟩
 |.own _ _,_,hr=>by simp[R]at hr
theorem RL.step(hs:Nl w m h w' m' h')(hk:Keep w X w' X'):∀(cs:List AV) (vs:List Value),RL w X m h cs vs->RL w' X' m' h' cs vs
 |[],_,hr=>by simpa[RL]using hr
 |c::cs,vs,hr=>by
  simp only[RL]at hr⊢;obtain⟨u,us,e,h1,h2⟩:=hr;exact⟨u,us,e,R.step hs hk c u h1,RL.step hs hk cs us h2⟩
end
mutual
theorem R.Zx:∀(a:AV) (v:Value),RC w X a v->R w X m h a v
 |.undef,_,_=>by simp[R]
 |.bool _,v,hr|.int _ _,v,hr|.str _,v,hr|.yX,v,hr|.zB,v,hr|.bO,v,hr|.nilPtr,v,hr|.eY _ _,v,hr|.fT _ _,v,hr|.iE _,v,hr=>by
  simp only[R];exact hr
 |.agg cs,v,hr=>by
  simp only[R,RC]at hr⊢;obtain⟨vs,e,h1,h2⟩:=hr
  exact⟨vs,e,h1,RL.acO cs vs h2⟩
 |.tuple cs,v,hr|.fn _ cs,v,hr=>by
  simp only[R,RC]at hr⊢;obtain⟨vs,e,h2⟩:=hr
  exact⟨vs,e,RL.acO cs vs h2⟩
 |.rM t x,v,hr=>by
  simp only[R,RC]at hr⊢;obtain⟨u,e,h2⟩:=hr
  exact⟨u,e,R.Zx x u h2⟩
 |.own _ _,_,hr|.ref ..,_,hr|.bq ..,_,hr|.nS ..,_,hr|.lF ..,_,hr=>by simp[RC]at hr
theorem RL.acO:∀(cs:List AV) (vs:List Value),o9 w X cs vs->RL w X m h cs vs
 |[],_,hr=>by simpa[RL,o9]using hr
 |c::cs,vs,hr=>by
  simp only[RL,o9]at hr⊢;obtain⟨u,us,e,h1,h2⟩:=hr;exact⟨u,us,e,R.Zx c u h1,RL.acO cs us h2⟩
end
mutual
theorem R.closed:∀(a:AV) (v:Value),a.closed=true->R w X m h a v->RC w X a v
 |.undef,_,_,_=>by simp[RC]
 |.bool _,v,_,hr|.int _ _,v,_,hr|.str _,v,_,hr|.yX,v,_,hr|.zB,v,_,hr|.bO,v,_,hr|.nilPtr,v,_,hr|.eY _ _,v,_,hr|.fT _ _,v,_,hr|.iE _,v,_,hr=>by
  simpa only[R]using hr
 |.agg cs,v,hc,hr=>by
  simp only[R,RC]at hr⊢;obtain⟨vs,e,h1,h2⟩:=hr
  exact⟨vs,e,h1,RL.closed cs vs (by simpa[AV.closed]using hc) h2⟩
 |.tuple cs,v,hc,hr|.fn _ cs,v,hc,hr=>by
  simp only[R,RC]at hr⊢;obtain⟨vs,e,h2⟩:=hr
  exact⟨vs,e,RL.closed cs vs (by simpa[AV.closed]using hc) h2⟩
 |.rM t x,v,hc,hr=>by
  simp only[R,RC]at hr⊢;obtain⟨u,e,h2⟩:=hr
  exact⟨u,e,R.closed x u (by simpa[AV.closed]using hc) h2⟩
 |.own _ _,_,hc,_|.ref ..,_,hc,_|.bq ..,_,hc,_|.nS ..,_,hc,_|.lF ..,_,hc,_=>by simp[AV.closed]at hc
theorem RL.closed:∀(cs:List AV) (vs:List Value),AV.EY cs=true->RL w X m h cs vs->o9 w X cs vs
 |[],_,_,hr=>by simpa[RL,o9]using hr
 |c::cs,vs,hc,hr=>by
  simp only[RL,o9]at hr⊢;simp only[AV.EY,fw]at hc;obtain⟨u,us,e,h1,h2⟩:=hr;exact⟨u,us,e,R.closed c u hc.1 h1,RL.closed cs us hc.2 h2⟩
end
end
def xC(w:World)(X:Nat->Prop)(z:Nat)(es:List AV)(c:List Value):Prop :=
 es.length*z<=c.length/\∀ i e,es[i]?=some e->∃ v:Value,RC w X e v/\v.cells.size=z/\ones v.cells.toList/\∀ j u,v.cells.toList[j]?=some u->c[i*z+j]?=some u
def Rj(w:World)(X:Nat->Prop)(m:Map)(h:Heap)(c:List Value):aU->Prop
 |.dead=>True
 |.box cs=>ones c/\RL w X m h cs c
 |.arr z es=>0<z/\xC w X z es c
 |.aV ..=>True
class Rounds where
 ok:Nat->Nat->Array Tmp->Code->Code->Prop
class kH where
 CX:Nat->List AV->Bool
 Nq:TypeId:=0
 Y1:TypeId:=0
 ald:Nat->Bool:=fun _=>false
 ale:Nat->Bool:=fun _=>false
def Y2 [kH](w:World)(X:Nat->Prop):Prop:=∀ g cs,kH.CX g cs=true->g<w.heap.size/\¬ X g/\Fu w X cs g 0/\w.cell? ⟨g,cs.length,none⟩=none
theorem Y2.keep [kH]{w w':World}{X X':Nat->Prop}(h:Y2 w X)(hk:Keep w X w' X'):Y2 w' X':=fun g cs hg=>by
 obtain⟨h1,h2,h3,h4⟩:=h g cs hg;refine⟨Zv h1 hk.size,fun hx=>?_,Fu.keep hk cs g 0 h1 h2 h3,(hk.cell h1 h2).trans h4⟩;rcases hk.live g hx with h4|h4
 ·exact h2 h4
 ·omega
def aU.mem:aU->Bool
 |.box _|.arr _ _=>true
 |_=>false
@[simp] theorem aU.aOn (cs:List AV):(aU.box cs).mem=true:=rfl
@[simp] theorem aU.aOo (z:Nat) (es:List AV):(aU.arr z es).mem=true:=rfl
theorem aU.ajP{b:aU}(h:b.mem=true):b≠.dead:=by rintro rfl;cases h
def ajQ(i:Nat):Code:=if i<1000 then .exit i else .goto (i-1000)
def RS.is(st:RS)(r:Loop):Prop :=
 match st with
 |.ready=>r.state=.ready/\r.pending=none
 |.busy=>r.state=.busy
 |.done (.exit i)=>r.state=.done/\r.pending=some (ajQ i)
 |.done .ret=>r.state=.done/\r.pending=some .ret
 |.done .norm=>False
 |.nX _=>False
def MR(w:World)(X:Nat->Prop)(k:IntKind):List (Int×AV)->List MapEntry->Prop
 |[],es=>es=[]
 |(n,v)::r,es=>∃ e es',es=e::es'/\e.key=.int k n/\RC w X v e.val/\MR w X k r es'
theorem MR.keep{w:World}{X:Nat->Prop}{w':World}{X':Nat->Prop}(hk:Keep w X w' X'){k:IntKind}:∀{SN:List (Int×AV)} {es:List MapEntry},MR w X k SN es->MR w' X' k SN es
 |[],_,h=>h
 |(n,v)::r,_,⟨e,es',h1,h2,h3,h4⟩=>⟨e,es',h1,h2,RC.keep hk _ _ h3,h4.keep hk⟩
def ab2(w:World)(m:Map)(h:Heap):Option (Nat×Nat)->Value->Prop
 |none,v=>v=.slice none 0 0
 |some (id2,Gd),v=>∃ g n cap,v=.slice (some ⟨g,0,none⟩) n cap/\ano w m h id2 Gd g n cap
theorem ab2.step{w:World}{m:Map}{h:Heap}{w':World}{m':Map}{h':Heap}(hs:Nl w m h w' m' h'):∀{lk:Option (Nat×Nat)} {v:Value},ab2 w m h lk v->ab2 w' m' h' lk v
 |none,_,hr=>hr
 |some (_,_),_,⟨g,n,cap,e,hr⟩=>⟨g,n,cap,e,hr.step hs⟩
def aiR [kH](w:World)(X:Nat->Prop)(m:Map)(h:Heap)(o:Obj):SD->Prop
 |.map k SN=>∃ es clock,o=.map es clock/\MR w X k SN es.toList
 |.nV me ak lk=>∃ b p v,o=.cells #[p,v] kH.Nq (0,0)/\(p=.pointer none\/p=.pointer (some ⟨b,0,none⟩))/\KAt m h me ak 2 b/\ab2 w m h lk v
 |.buf l=>∃ cur fz,o=.cells cur kH.Y1 fz/\fz.2<=l.length/\l.length<=cur.size/\cur.size<=maxLen/\cur.toList.take l.length=Lib.byteCells l
def JJ [kH][Rounds](w:World)(X:Nat->Prop)(m:Map)(h:Heap)(o:Obj)(d:kP):RS->Prop
 |.nX sd=>d.base+d.ns<=h.length/\d.env=sd.env/\aiR w X m h o sd
 |st=>∃ r:Loop,o=.loop r/\st.is r/\d.lo<=d.base/\d.base+d.ns<=h.length/\Rounds.ok d.g r.tmps.size r.params r.assign r.body/\∀ t,R w X m h (d.env.get t) (r.tmps.getD t undef)
structure Inv [kH][Rounds](w:World)(m:Map)(h:Heap):Prop where
 len:m.length=h.length
 blk:∀(id ak:Nat) (blk:aU),h[id]?=some (ak,blk)->blk.mem=true->∃ b,∃ c:Array Value,∃ ty,m[id]?=some b/\w.heap[b]?=some (Obj.cells c ty (0,0))/\Rj w (Live m h) m h c.toList blk
 aV:∀(id ak:Nat) (d:kP) (st:RS),h[id]?=some (ak,.aV d st)->∃ b o,m[id]?=some b/\w.heap[b]?=some o/\JJ w (Live m h) m h o d st
 inj:∀(id id' v v':Nat) (blk qN:aU) (b:Nat),h[id]?=some (v,blk)->blk≠.dead->m[id]?=some b->h[id']?=some (v',qN)->qN≠.dead->m[id']?=some b->id=id'
 CX:Y2 w (Live m h)
theorem xC.keep{w w':World}{X X':Nat->Prop}(hk:Keep w X w' X'){z:Nat}{es:List AV}{c:List Value}(h:xC w X z es c):xC w' X' z es c :=
 ⟨h.1,fun i e he=>let ⟨v,h1,h2,h3,h4⟩:=h.2 i e he;⟨v,RC.keep hk e v h1,h2,h3,h4⟩⟩
theorem Rj.ids{w:World}{m:Map}{h:Heap}{w':World}{m':Map}{h':Heap}{X X':Nat->Prop}(hs:Nl w m h w' m' h')(hk:Keep w X w' X'){c:List Value}{blk:aU}
  (hb:Rj w X m h c blk):Rj w' X' m' h' c blk:=by
 cases blk with
 |dead=>trivial
 |box cs=>exact⟨hb.1,RL.step hs hk cs c hb.2⟩
 |arr z es=>exact⟨hb.1,hb.2.keep hk⟩
 |aV d st=>trivial
theorem Rj.step{lo:Nat}{w:World}{m:Map}{h:Heap}{w':World}{m':Map}{h':Heap}(hs:Step lo w m h w' m' h'){c:List Value}{blk:aU}
  (hb:Rj w (Live m h) m h c blk):Rj w' (Live m' h') m' h' c blk:=hb.ids hs.ids hs.keep
theorem JJ.mk [kH][Rounds]{w:World}{X:Nat->Prop}{m:Map}{h:Heap}{d:kP}{st:RS}{r:Loop}(h1:st.is r)(h2:d.lo<=d.base)(h3:d.base+d.ns<=h.length)(h4:Rounds.ok d.g r.tmps.size r.params r.assign r.body)(h5:∀ t,R w X m h (d.env.get t) (r.tmps.getD t undef)) :
  JJ w X m h (.loop r) d st:=by
 cases st with
 |nX sd=>exact h1.elim
 |_=>exact⟨r,rfl,h1,h2,h3,h4,h5⟩
theorem JJ.cases [kH][Rounds]{w:World}{X:Nat->Prop}{m:Map}{h:Heap}{o:Obj}{d:kP}{st:RS}(hb:JJ w X m h o d st) :
  (∃ sd,st=.nX sd/\d.base+d.ns<=h.length/\d.env=sd.env/\aiR w X m h o sd)\/((∀ sd,st≠.nX sd)/\∃ r:Loop,o=.loop r/\st.is r/\d.lo<=d.base/\d.base+d.ns<=h.length/\Rounds.ok d.g r.tmps.size r.params r.assign r.body/\∀ t,R w X m h (d.env.get t) (r.tmps.getD t undef)):=by
 cases st with
 |nX sd=>exact .inl ⟨sd,rfl,hb.1,hb.2.1,hb.2.2⟩
 |_=>exact .inr ⟨fun _=>by simp,hb⟩
theorem JJ.loop [kH][Rounds]{w:World}{X:Nat->Prop}{m:Map}{h:Heap}{o:Obj}{d:kP}{st:RS}(hb:JJ w X m h o d st)(hs:st.loop=true) :
  ∃ r:Loop,o=.loop r/\st.is r/\d.lo<=d.base/\d.base+d.ns<=h.length/\Rounds.ok d.g r.tmps.size r.params r.assign r.body/\∀ t,R w X m h (d.env.get t) (r.tmps.getD t undef):=by
 rcases hb.cases with⟨sd,rfl,_⟩|⟨_,h⟩
 ·cases hs
 ·exact h
theorem RS.axA{st:RS}(h:st.loop=true):st.knd=0:=by
 cases st with
 |nX=>cases h
 |_=>rfl
theorem aiR.ids [kH]{w:World}{m:Map}{h:Heap}{w':World}{m':Map}{h':Heap}{X X':Nat->Prop}(hs:Nl w m h w' m' h')(hk:Keep w X w' X'){o:Obj}:∀{sd:SD},aiR w X m h o sd->aiR w' X' m' h' o sd
 |.map k SN,⟨es,clock,e,hm⟩=>⟨es,clock,e,hm.keep hk⟩
 |.nV me ak lk,⟨b,p,v,e,hp,h1,h2⟩=>⟨b,p,v,e,hp,h1.step hs,h2.step hs⟩
 |.buf l,hb=>hb
theorem JJ.ids [kH][Rounds]{w:World}{m:Map}{h:Heap}{w':World}{m':Map}{h':Heap}{X X':Nat->Prop}(hs:Nl w m h w' m' h')(hk:Keep w X w' X')(hl:h.length<=h'.length){o:Obj}{d:kP}{st:RS}
  (hb:JJ w X m h o d st):JJ w' X' m' h' o d st:=by
 rcases hb.cases with⟨sd,rfl,h0,h1,h2⟩|⟨_,r,rfl,h2,h3,h4,h5,h6⟩
 ·exact⟨by omega,h1,h2.ids hs hk⟩
 ·exact JJ.mk h2 h3 (by omega) h5 fun t=>R.step hs hk _ _ (h6 t)
end Go.VI
