/- Operations that look at different blocks may be exchanged. -/
import Derived.Test.YtfpoegnmeoghpaaGreatDoorVINA
set_option linter.unusedVariables false
set_option linter.unusedSimpArgs false
namespace Go.VI
set_option linter.unusedSectionVars false
variable [kH][Rounds]
def appW(w:Option (Nat×(Nat×aU)))(h:Heap):Heap:=match w with|none=>h|some (i,b)=>h.set i b
structure Loc(S:Nat->Prop)(f:Heap->Option (AV×Heap))(h:Heap)(v:AV)(w:Option (Nat×(Nat×aU))):Prop where
 run:∀ h',(∀ id,S id->h'[id]?=h[id]?)->f h'=some (v,appW w h')
 wr:∀ i b,w=some (i,b)->S i
def aU.kind:aU->Nat
 |.dead=>0
 |.box _=>1
 |.arr ..=>2
 |.aV ..=>3
theorem aU.ar9(b:aU):b.kind<4:=by cases b<;>simp[aU.kind]
def ace(c k:Nat):Bool:=match c with|3=>k==2|6=>k==2||k==0|4=>k==1|_=>false
def ac2(c k:Nat):Bool:=match c with|5=>k==0|6=>k==2||k==0|7=>k==1|_=>false
def gets(c k:Nat):Bool:=match c with|5|7=>k==1|6=>k==2|_=>false
structure Tf(c:Nat)(S:Nat->Prop)(f:Heap->Option (AV×Heap))(h:Heap)(v:AV)(w:Option (Nat×(Nat×aU))):Prop where
 loc:Loc S f h v w
 rd:∀ id,S id->(∀ b,w≠some (id,b))->∃ x,h[id]?=some x/\ace c x.2.kind=true
 wt:∀ id b,w=some (id,b)->(∃ x,h[id]?=some x/\ac2 c x.2.kind=true)/\gets c b.2.kind=true
theorem aFA{a b:Option (Nat×(Nat×aU))}{h:Heap}(hne:∀ i x j y,a=some (i,x)->b=some (j,y)->i≠j):appW a (appW b h)=appW b (appW a h):=by
 cases a with
 |none=>rfl
 |some p =>
  cases b with
  |none=>rfl
  |some q =>
   obtain⟨i,x⟩:=p;obtain⟨j,y⟩:=q;exact QT _ _ (Ne.symm (hne i x j y rfl rfl))
theorem ar'{w:Option (Nat×(Nat×aU))}{h:Heap}{id:Nat}(hne:∀ b,w≠some (id,b)):(appW w h)[id]?=h[id]?:=by
 cases w with
 |none=>rfl
 |some p =>
  obtain⟨i,b⟩:=p
  show (h.set i b)[id]?=_
  exact tL (fun e=>hne b (by rw[e]))
theorem aFB{h:Heap}{id:Nat}{b:Nat×aU}(hlt:id<h.length):(appW (some (id,b)) h)[id]?=some b:=by
 show (h.set id b)[id]?=_
 exact L8 hlt
def aj5:List (Nat×Nat):=[(3,7),(7,3),(5,3),(3,5),(5,5),(4,5),(4,6),(6,4),(5,6),(6,7),(7,6),(7,5),(3,3),(3,4),(4,3),(4,4)]
theorem aFC:∀ p∈aj5,∀ k,k<4->(gets p.1 k&&ace p.2 k)=false:=by decide
theorem aFD:∀ p∈aj5,∀ k,k<4->(gets p.1 k&&ac2 p.2 k)=false:=by decide
theorem aFE:∀ p∈aj5,∀ k,k<4->(ace p.1 k&&ac2 p.2 k)=false:=by decide
theorem aFF{a c:Nat}(hac:(a,c)∈aj5){f g:Heap->Option (AV×Heap)}{h:Heap}{vx vy:AV}{Sx Sy:Nat->Prop}{wx wy:Option (Nat×(Nat×aU))}(hx:Tf a Sx f h vx wx)(hy:Tf c Sy g (appW wx h) vy wy) :
  ∃ h1,g h=some (vy,h1)/\f h1=some (vx,appW wy (appW wx h)):=by
 -- a block that the second looks at is none that the first has written
 have h1:∀ id,Sy id->∀ b,wx≠some (id,b):=by
  intro id hid b hw;subst hw;obtain⟨⟨x,hx1,hx2⟩,hx3⟩:=hx.wt id b rfl;have hself:(appW (some (id,b)) h)[id]?=some b:=aFB (kS.mp hx1).1;by_cases hwy:∀ b',wy≠some (id,b')
  ·obtain⟨y,hy1,hy2⟩:=hy.rd id hid hwy;rw[hself]at hy1;cases hy1;have:=aFC _ hac _ b.2.ar9;simp[hx3,hy2]at this
  ·have⟨b',hb'⟩:∃ b',wy=some (id,b'):=by
    by_cases h:∃ b',wy=some (id,b')
    ·exact h
    ·exact absurd (fun b' hb'=>h ⟨b',hb'⟩) hwy
   obtain⟨⟨y,hy1,hy2⟩,hy3⟩:=hy.wt id b' hb';rw[hself]at hy1;cases hy1;have:=aFD _ hac _ b.2.ar9;simp[hx3,hy2]at this
 -- a block that the first looks at is none that the second writes
 have h2:∀ id,Sx id->∀ b,wy≠some (id,b):=by
  intro id hid b hw;have hS:=hy.loc.wr id b hw;have hnx:=h1 id hS;obtain⟨x,hx1,hx2⟩:=hx.rd id hid hnx;obtain⟨⟨y,hy1,hy2⟩,_⟩:=hy.wt id b hw;rw[ar' hnx,hx1]at hy1;cases hy1;have:=aFE _ hac _ x.2.ar9;simp[hx2,hy2]at this
 refine⟨appW wy h,hy.loc.run h fun id hid=>(ar' (h1 id hid)).symm, ?_⟩;rw[hx.loc.run (appW wy h) fun id hid=>ar' (h2 id hid)];rw[aFA fun i x j y e1 e2 hij=>?_];subst hij;exact h2 i (hx.loc.wr i x e1) y e2
theorem ayM{h:Heap}{x:AV}{es:List AV}(hx:wF h x=some es):∃ S:Nat->Prop,(∀ id,S id->∃ y,h[id]?=some y/\y.2.kind=2)/\∀ h',(∀ id,S id->h'[id]?=h[id]?)->wF h' x=some es:=by
 unfold wF at hx;split at hx
 ·exact⟨fun _=>False,fun _ h=>h.elim,fun h' _=>hx⟩
 ·exact⟨fun _=>False,fun _ h=>h.elim,fun h' _=>hx⟩
 ·exact⟨fun _=>False,fun _ h=>h.elim,fun h' _=>hx⟩
 ·rename_i id ak z off len fill;split at hx
  ·rename_i w z' es' hid;refine⟨fun k=>k=id,fun k hk=>by subst hk;exact⟨_,hid,rfl⟩,fun h' he=>?_⟩
   unfold wF;dsimp only;rw[he id rfl,hid];exact hx
  ·cases hx
 ·cases hx
theorem aFG{h:Heap}{z:Nat}{x:AV}{es:List AV}(hx:Rf h z x=some es):∃ S:Nat->Prop,(∀ id,S id->∃ y,h[id]?=some y/\y.2.kind=2)/\∀ h',(∀ id,S id->h'[id]?=h[id]?)->Rf h' z x=some es:=by
 unfold Rf at hx;split at hx
 ·rename_i l;exact⟨fun _=>False,fun _ h=>h.elim,fun h' _=>by unfold Rf;exact hx⟩
 ·rename_i hne;unfold JH at hx;split at hx
  ·rename_i hz;obtain⟨S,h1,h2⟩:=ayM hx;refine⟨S,h1,fun h' he=>?_⟩;unfold Rf;split
   ·exact absurd rfl (hne _)
   ·unfold JH;rw[if_pos hz];exact h2 h' he
  ·cases hx
theorem Y5{cx:Cx}{e:Env}{h h':Heap}:∀{l:List ou},(l.all (fun c=>match c with|.dead _|.SV _=>false|_=>true))=true->l.all (ou.ok cx e h)=l.all (ou.ok cx e h')
 |[],_=>rfl
 |c::l,hl=>by
  simp only[YL,fw]at hl;simp only[YL];rw[Y5 hl.2];congr 1;cases c<;>first|rfl|(simp at hl)
theorem anX{cx:Cx}{e:Env}{h h':Heap}{s:Nat}(hs:h'[cx.base+s]?=h[cx.base+s]?):∀{l:List ou},(l.all (fun c=>match c with|.dead s'|.SV s'=>s==s'|_=>true))=true->l.all (ou.ok cx e h)=l.all (ou.ok cx e h')
 |[],_=>rfl
 |c::l,hl=>by
  simp only[YL,fw]at hl;simp only[YL];rw[anX hs hl.2];congr 1
  cases c with
  |dead s'=>have:=hl.1;simp only[beq_iff_eq]at this;subst this;simp only[ou.ok,hs]
  |SV s'=>have:=hl.1;simp only[beq_iff_eq]at this;subst this;simp only[ou.ok,hs]
  |_=>rfl
section
variable {call:Callee}{cx:Cx}{e:Env}{h:Heap}{x:jc}
theorem Tg{v:AV}{h1:Heap}(hc:x.GI.all (ou.ok cx e h)=true)(hx:xi call cx e h x.op=some (v,h1)):l6 call cx e h x=some (v,h1):=by
 unfold l6;rw[if_pos hc];exact hx
theorem ayN{p:bD}(he:x.elem p=true)(hc:x.GI.all (ou.ok cx e h)=true):(∃ u i o,p.ev e=.nS u i o)\/∃ cs,p.ev e=.iE cs:=by
 unfold jc.elem at he;split at he
 ·rename_i t;obtain⟨c,hcm,hc2⟩:=YM.mp he;have:=Gq.mp hc c hcm;cases c<;>simp only[uM]at hc2;rename_i t';simp only[beq_iff_eq]at hc2;subst hc2;simp only[ou.ok]at this
  show (∃ u i o,e.get t=.nS u i o)\/∃ cs,e.get t=.iE cs
  split at this
  ·rename_i heq;exact .inl ⟨_,_,_,heq⟩
  ·rename_i heq;exact .inr ⟨_,heq⟩
  ·cases this
 ·cases he
theorem ayO{p:bD}(he:x.aj3 p=true)(hc:x.GI.all (ou.ok cx e h)=true):(∃ u i o,p.ev e=.bq u i o)\/∃ cs,p.ev e=.iE cs:=by
 unfold jc.aj3 at he;split at he
 ·rename_i t;obtain⟨c,hcm,hc2⟩:=YM.mp he;have:=Gq.mp hc c hcm;cases c<;>simp only[uM]at hc2;rename_i t';simp only[beq_iff_eq]at hc2;subst hc2;simp only[ou.ok]at this
  show (∃ u i o,e.get t=.bq u i o)\/∃ cs,e.get t=.iE cs
  split at this
  ·rename_i heq;exact .inl ⟨_,_,_,heq⟩
  ·rename_i heq;exact .inr ⟨_,heq⟩
  ·cases this
 ·cases he
theorem anY{p:bD}(he:x.shut p=true)(hc:x.GI.all (ou.ok cx e h)=true):(p.ev e).closed=true:=by
 unfold jc.shut at he;split at he
 ·rename_i t;obtain⟨c,hcm,hc2⟩:=YM.mp he;have:=Gq.mp hc c hcm;cases c<;>simp only[uM]at hc2;rename_i t';simp only[beq_iff_eq]at hc2;subst hc2;exact this
 ·exact he
theorem aFH{s:Nat}(he:x.anR s=true)(hc:x.GI.all (ou.ok cx e h)=true):∃ v,h[cx.base+s]?=some (v,.dead):=by
 unfold jc.anR at he;obtain⟨c,hcm,hc2⟩:=YM.mp he;have:=Gq.mp hc c hcm;cases c<;>simp only[uM]at hc2;simp only[beq_iff_eq]at hc2;subst hc2;simp only[ou.ok]at this;split at this
 ·rename_i heq;exact⟨_,heq⟩
 ·cases this
theorem ayP{s:Nat}(he:x.aj4 s=true)(hc:x.GI.all (ou.ok cx e h)=true):∃ y,h[cx.base+s]?=some y/\(y.2.kind=2\/y.2.kind=0):=by
 unfold jc.aj4 at he;obtain⟨c,hcm,hc2⟩:=YM.mp he;have:=Gq.mp hc c hcm;cases c<;>simp only[uM]at hc2
 ·simp only[beq_iff_eq]at hc2;subst hc2;simp only[ou.ok]at this;split at this
  ·rename_i heq;exact⟨_,heq,.inr rfl⟩
  ·cases this
 ·simp only[beq_iff_eq]at hc2;subst hc2;simp only[ou.ok]at this;split at this
  ·rename_i heq;exact⟨_,heq,.inr rfl⟩
  ·rename_i heq;exact⟨_,heq,.inl rfl⟩
  ·cases this
theorem ayQ{sh:Sh}{p:bD}(hop:x.op=.load sh p)(hp:x.plain=true){v:AV}{h1:Heap}(hx:l6 call cx e h x=some (v,h1)){c:Nat}(hc:(c=3/\x.elem p=true)\/(c=4/\x.aj3 p=true)) :
  ∃ S,Tf c S (fun h=>l6 call cx e h x) h v none/\h1=h:=by
 obtain⟨hx1,hx2⟩:=IQ hx;rw[hop]at hx1;simp only[xi]at hx1;obtain⟨cs,hcs,hx3⟩:=bE.mp hx1;obtain⟨q,hq,he⟩:=mE.mp hx3;simp only[bf]at he;obtain⟨rfl,rfl⟩:=he
 have fin:∀(S:Nat->Prop),(∀ id,S id->∃ y,h[id]?=some y/\ace c y.2.kind=true)->(∀ h',(∀ id,S id->h'[id]?=h[id]?)->qL h' (p.ev e)=some cs)->∃ S,Tf c S (fun h=>l6 call cx e h x) h q none/\h=h:=by
  intro S h1 h2;refine⟨S,⟨⟨fun h' hh=>?_,fun i b h=>by cases h⟩,fun id hid _=>h1 id hid,fun id b h=>by cases h⟩,rfl⟩
  refine Tg (by rw[<-Y5 hp];exact hx2) ?_
  rw[hop];simp only[xi];exact bE.mpr ⟨cs,h2 h' hh,mE.mpr ⟨q,hq,rfl⟩⟩
 have ayR:∀ cs',p.ev e=.iE cs'->∃ S,Tf c S (fun h=>l6 call cx e h x) h q none/\h=h:=by
  intro cs' hev;refine fin (fun _=>False) (fun _ h=>h.elim) fun h' _=>?_;rw[hev]at hcs⊢;exact hcs
 rcases hc with⟨rfl,hel⟩|⟨rfl,hbx⟩
 ·rcases ayN hel hx2 with⟨u,i,o,hev⟩|⟨cs',hev⟩
  ·rw[hev]at hcs;simp only[qL]at hcs;obtain⟨es,he1,he2⟩:=bE.mp hcs;obtain⟨S,g1,g2⟩:=ayM he1;refine fin S (fun id hid=>by obtain⟨y,y1,y2⟩:=g1 id hid;exact⟨y,y1,by simp[ace,y2]⟩) fun h' hh=>?_
   rw[hev];simp only[qL];exact bE.mpr ⟨es,g2 h' hh,he2⟩
  ·exact ayR cs' hev
 ·rcases ayO hbx hx2 with⟨id,ak,off,hev⟩|⟨cs',hev⟩
  ·rw[hev]at hcs;simp only[qL]at hcs;split at hcs
   ·rename_i w cs0 hid;refine fin (fun k=>k=id) (fun k hk=>by subst hk;exact⟨_,hid,rfl⟩) fun h' hh=>?_
    rw[hev];simp only[qL];rw[hh id rfl,hid];exact hcs
   ·cases hcs
  ·exact ayR cs' hev
theorem anZ{s ak:Nat}{b:aU}{h1:Heap}(hm:mK cx s b h=some (ak,h1)):h1=h.set (cx.base+s) (ak,b)/\∀ h',h'[cx.base+s]?=h[cx.base+s]?->mK cx s b h'=some (ak,h'.set (cx.base+s) (ak,b)):=by
 unfold mK at hm;split at hm
 ·rename_i hc;split at hm
  ·rename_i v0 b0 hid;simp only[dz,bf]at hm;obtain⟨rfl,rfl⟩:=hm;refine⟨rfl,fun h' he=>?_⟩;unfold mK;rw[if_pos hc,he,hid]
  ·cases hm
 ·cases hm
theorem ayS{s:Nat}(hop:(∃ zero,x.op=.alloc s zero)\/∃ y,x.op=.box s y)(hd:x.anR s=true)(ho:x.only s=true){v:AV}{h1:Heap}(hx:l6 call cx e h x=some (v,h1)) :
  ∃ S w,Tf 5 S (fun h=>l6 call cx e h x) h v w/\h1=appW w h:=by
 obtain⟨hx1,hx2⟩:=IQ hx;obtain⟨v0,an0⟩:=aFH hd hx2
 have fin:∀(cs:List AV) (ak:Nat),(∀ h',h'[cx.base+s]?=h[cx.base+s]?->xi call cx e h' x.op=some (v,h'.set (cx.base+s) (ak,.box cs)))->h1=h.set (cx.base+s) (ak,.box cs)->∃ S w,Tf 5 S (fun h=>l6 call cx e h x) h v w/\h1=appW w h:=by
  intro cs ak hrun he;refine⟨fun k=>k=cx.base+s,some (cx.base+s,(ak,.box cs)),⟨⟨fun h' hh=>?_,fun i b hb=>by cases hb;rfl⟩,fun id hid hn=>?_,fun id b hb=>?_⟩,he⟩
  ·have hs:=hh _ rfl;exact Tg (by rw[<-anX hs ho];exact hx2) (hrun h' hs)
  ·subst hid;exact absurd rfl (hn _)
  ·cases hb;exact⟨⟨_,an0,rfl⟩,rfl⟩
 rcases hop with⟨zero,hop⟩|⟨y,hop⟩
 ·rw[hop]at hx1;simp only[xi]at hx1;obtain⟨⟨ak,h2⟩,hm,he⟩:=mE.mp hx1;simp only[bf]at he;obtain⟨rfl,rfl⟩:=he;obtain⟨k1,k2⟩:=anZ hm;refine fin zero ak (fun h' hs=>?_) k1;rw[hop];simp only[xi];exact mE.mpr ⟨_,k2 h' hs,rfl⟩
 ·rw[hop]at hx1;simp only[xi]at hx1;split at hx1
  ·rename_i hval;obtain⟨⟨ak,h2⟩,hm,he⟩:=mE.mp hx1;simp only[bf]at he;obtain⟨rfl,rfl⟩:=he;obtain⟨k1,k2⟩:=anZ hm;refine fin _ ak (fun h' hs=>?_) k1;rw[hop];simp only[xi];rw[if_pos hval];exact mE.mpr ⟨_,k2 h' hs,rfl⟩
  ·cases hx1
theorem aFI{sz:Nat}{p y:bD}(hop:x.op=.store sz p y)(hp:x.plain=true)(hb:x.aj3 p=true){v:AV}{h1:Heap}(hx:l6 call cx e h x=some (v,h1)) :
  ∃ S w,Tf 7 S (fun h=>l6 call cx e h x) h v w/\h1=appW w h:=by
 obtain⟨hx1,hx2⟩:=IQ hx;rw[hop]at hx1;simp only[xi]at hx1;obtain⟨h2,hps,he⟩:=mE.mp hx1;simp only[bf]at he;obtain⟨rfl,rfl⟩:=he;rcases ayO hb hx2 with⟨id,ak,off,hev⟩|⟨cs',hev⟩
 ·rw[hev]at hps;unfold qE at hps;split at hps
  ·rename_i hc0;dsimp only at hps;split at hps
   ·rename_i w cs hid;split at hps
    ·rename_i hc;obtain⟨cs',hsp,rfl⟩:=mE.mp hps;refine⟨fun k=>k=id,some (id,(ak,.box cs')),⟨⟨fun h' hh=>?_,fun i b hb=>by cases hb;rfl⟩,fun k hk hn=>?_,fun k b hb=>?_⟩,rfl⟩
     ·refine Tg (by rw[<-Y5 hp];exact hx2) ?_
      rw[hop];simp only[xi];refine mE.mpr ⟨_, ?_,rfl⟩;rw[hev];unfold qE;rw[if_pos hc0];dsimp only;rw[hh id rfl,hid];dsimp only;rw[if_pos hc];exact mE.mpr ⟨cs',hsp,rfl⟩
     ·subst hk;exact absurd rfl (hn _)
     ·cases hb;exact⟨⟨_,hid,rfl⟩,rfl⟩
    ·cases hps
   ·cases hps
  ·cases hps
 ·rw[hev]at hps;unfold qE at hps;split at hps<;>cases hps
end
mutual
theorem alL{base:Nat}{keep:Bool}:∀(x:AV) (h:Heap) (x':AV) (h':Heap),x.closed=true->gI base keep x h=some (x',h')->h'=h/\∀ h2,gI base keep x h2=some (x',h2)
 |.agg cs,h,x',h',hc,hf|.tuple cs,h,x',h',hc,hf|.fn _ cs,h,x',h',hc,hf=>by
  simp only[AV.closed]at hc;simp only[gI,mE,bf]at hf⊢;obtain⟨⟨cs',h1⟩,hf,rfl,rfl⟩:=hf;obtain⟨rfl,k2⟩:=ayT cs h cs' h1 hc hf
  exact⟨rfl,fun h2=>⟨_,k2 h2,rfl,rfl⟩⟩
 |.rM _ y,h,x',h',hc,hf=>by
  simp only[AV.closed]at hc;simp only[gI,mE,bf]at hf⊢;obtain⟨⟨cs',h1⟩,hf,rfl,rfl⟩:=hf;obtain⟨rfl,k2⟩:=alL y h cs' h1 hc hf
  exact⟨rfl,fun h2=>⟨_,k2 h2,rfl,rfl⟩⟩
 |.ref ..,h,x',h',hc,hf|.own ..,h,x',h',hc,hf|.bq ..,h,x',h',hc,hf|.nS ..,h,x',h',hc,hf|.lF ..,h,x',h',hc,hf=>by simp[AV.closed]at hc
 |.bO,h,x',h',hc,hf|.undef,h,x',h',hc,hf|.bool _,h,x',h',hc,hf|.int _ _,h,x',h',hc,hf|.str _,h,x',h',hc,hf|.yX,h,x',h',hc,hf|.zB,h,x',h',hc,hf|.eY _ _,h,x',h',hc,hf|.fT _ _,h,x',h',hc,hf|.nilPtr,h,x',h',hc,hf|.iE _,h,x',h',hc,hf=>by
  simp only[gI,dz,bf]at hf;obtain⟨rfl,rfl⟩:=hf;exact⟨rfl,fun h2=>by simp[gI]⟩
theorem ayT{base:Nat}{keep:Bool}:∀(cs:List AV) (h:Heap) (cs':List AV) (h':Heap),AV.EY cs=true->zx base keep cs h=some (cs',h')->h'=h/\∀ h2,zx base keep cs h2=some (cs',h2)
 |[],h,cs',h',hc,hf=>by
  simp only[zx,dz,bf]at hf;obtain⟨rfl,rfl⟩:=hf
  exact⟨rfl,fun h2=>by simp[zx]⟩
 |c::cs,h,cs',h',hc,hf=>by
  simp only[AV.EY,fw]at hc;simp only[zx,bE,mE,bf]at hf⊢;obtain⟨⟨c1,h1⟩,f1,⟨cs1,h2⟩,f2,rfl,rfl⟩:=hf;obtain⟨rfl,k2⟩:=alL c h c1 h1 hc.1 f1;obtain⟨rfl,k4⟩:=ayT cs _ cs1 h2 hc.2 f2;exact⟨rfl,fun h2=>⟨_,k2 h2,_,k4 h2,rfl,rfl⟩⟩
end
section
variable {call:Callee}{cx:Cx}{e:Env}{h:Heap}{x:jc}
theorem aFJ{sz:Nat}{p y:bD}(hop:x.op=.store sz p y)(hp:x.plain=true)(hb:x.elem p=true)(hy:x.shut y=true){v:AV}{h1:Heap}(hx:l6 call cx e h x=some (v,h1)) :
  ∃ S w,Tf 6 S (fun h=>l6 call cx e h x) h v w/\h1=appW w h:=by
 obtain⟨hx1,hx2⟩:=IQ hx;rw[hop]at hx1;simp only[xi]at hx1;obtain⟨h2,hps,he⟩:=mE.mp hx1;simp only[bf]at he;obtain⟨rfl,rfl⟩:=he;have hcl:=anY hy hx2;rcases ayN hb hx2 with⟨u,i,off,hev⟩|⟨cs',hev⟩
 ·rw[hev]at hps
  cases u with
  |ref id ak z o len fill =>
   have key:∃ es',h[id]?.map (·.2.kind)=some 2/\h2=h.set id (ak,.arr z es')/\∀ h',h'[id]?=h[id]?->qE cx h' sz (.nS (.ref id ak z o len fill) i off) (y.ev e)=some (h'.set id (ak,.arr z es')):=by
    unfold qE at hps;split at hps
    ·rename_i hc0;dsimp only at hps;obtain⟨⟨x1,h3⟩,hf,Ti⟩:=bE.mp hps;clear hps;obtain⟨rfl,ayU⟩:=alL _ _ _ _ hcl hf;dsimp only at Ti;split at Ti
     ·rename_i w z' es hid;split at Ti
      ·rename_i hc;split at Ti
       ·rename_i cs hes;obtain⟨cs',hsp,rfl⟩:=mE.mp Ti;refine⟨_,by rw[hid];rfl,rfl,fun h' hh=>?_⟩
        unfold qE;rw[if_pos hc0];dsimp only;refine bE.mpr ⟨_,ayU h', ?_⟩;dsimp only;rw[hh,hid];dsimp only;rw[if_pos hc,hes];exact mE.mpr ⟨cs',hsp,rfl⟩
       ·rename_i e0 hna hes;split at Ti
        ·rename_i hc2;split at Ti
         ·cases Ti
         ·rename_i ar6;simp only[dz]at Ti;subst Ti;refine⟨_,by rw[hid];rfl,rfl,fun h' hh=>?_⟩
          unfold qE;rw[if_pos hc0];dsimp only;refine bE.mpr ⟨_,ayU h', ?_⟩;dsimp only;rw[hh,hid];dsimp only;rw[if_pos hc,hes];split
          ·rename_i heq;cases heq;exact absurd rfl (hna _)
          ·rename_i heq;cases heq;rw[if_pos hc2];split
           ·exact absurd rfl (ar6 _)
           ·rfl
          ·rename_i heq;cases heq
        ·cases Ti
       ·cases Ti
      ·cases Ti
     ·cases Ti
    ·cases hps
   obtain⟨es',hk,hset,hall⟩:=key;refine⟨fun k=>k=id,some (id,(ak,.arr z es')),⟨⟨fun h' hh=>?_,fun i b hb=>by cases hb;rfl⟩,fun k hk hn=>?_,fun k b hb=>?_⟩,hset⟩
   ·refine Tg (by rw[<-Y5 hp];exact hx2) ?_
    rw[hop];simp only[xi];rw[hev];exact mE.mpr ⟨_,hall h' (hh id rfl),rfl⟩
   ·subst hk;exact absurd rfl (hn _)
   ·cases hb;obtain⟨y0,hy0,hy1⟩:=mE.mp hk
    exact⟨⟨y0,hy0,by simp[ac2,hy1]⟩,rfl⟩
  |_ =>
   unfold qE at hps;split at hps<;>cases hps
 ·rw[hev]at hps;unfold qE at hps;split at hps<;>cases hps
theorem aFK{s z lim:Nat}{zero:AV}{n c:bD}(hop:x.op=.mk s z zero lim n c)(hs1:s<1000)(hd:x.aj4 s=true)(ho:x.only s=true){v:AV}{h1:Heap}(hx:l6 call cx e h x=some (v,h1)) :
  ∃ S w,Tf 6 S (fun h=>l6 call cx e h x) h v w/\h1=appW w h:=by
 obtain⟨hx1,hx2⟩:=IQ hx;obtain⟨y0,hy0,hy1⟩:=ayP hd hx2;rw[hop]at hx1;simp only[xi]at hx1;split at hx1
 ·rename_i ka a kb b hn hc;have hso:sOf s=s:=if_pos hs1;rw[if_neg (by omega),hso]at hx1
  split at hx1
  ·rename_i hcond;obtain⟨⟨ak,h2⟩,hm,he⟩:=mE.mp hx1;simp only[bf]at he;obtain⟨rfl,rfl⟩:=he;obtain⟨k1,k2⟩:=anZ hm;refine⟨fun k=>k=cx.base+s,some (cx.base+s,(ak,.arr z (List.replicate a.toNat zero))),⟨⟨fun h' hh=>?_,fun i b hb=>by cases hb;rfl⟩,fun k hk hn=>?_,fun k b hb=>?_⟩,k1⟩
   ·refine Tg (by rw[<-anX (hh _ rfl) ho];exact hx2) ?_
    rw[hop];simp only[xi];rw[hn,hc];dsimp only;rw[if_neg (by omega),hso,if_pos hcond]
    exact mE.mpr ⟨_,k2 h' (hh _ rfl),rfl⟩
   ·subst hk;exact absurd rfl (hn _)
   ·cases hb;refine⟨⟨y0,hy0, ?_⟩,rfl⟩;rcases hy1 with hy1|hy1<;>simp[ac2,hy1]
  ·cases hx1
 ·cases hx1
theorem aFL{s z lim:Nat}{p y:bD}(hop:x.op=.app s z lim p y)(hs1:s<1000)(hd:x.aj4 s=true)(ho:x.only s=true){v:AV}{h1:Heap}(hx:l6 call cx e h x=some (v,h1)) :
  ∃ S w,Tf 6 S (fun h=>l6 call cx e h x) h v w/\h1=appW w h:=by
 obtain⟨hx1,hx2⟩:=IQ hx;obtain⟨y0,hy0,hy1⟩:=ayP hd hx2;rw[hop]at hx1;simp only[xi]at hx1;obtain⟨xs,hsrc,happ⟩:=bE.mp hx1;have ayV:∀ h',acK cx s z lim (p.ev e) xs h'=wG cx s z lim (p.ev e) xs h':=fun h'=>if_pos hs1;rw[ayV]at happ;obtain⟨S0,g1,g2⟩:=aFG hsrc
 have fin:∀(w:Option (Nat×(Nat×aU))),(∀ i b,w=some (i,b)->(∃ y,h[i]?=some y/\(y.2.kind=2\/y.2.kind=0))/\b.2.kind=2)->(∀ h',h'[cx.base+s]?=h[cx.base+s]?->(∀ i b,w=some (i,b)->h'[i]?=h[i]?)->wG cx s z lim (p.ev e) xs h'=some (v,appW w h'))->h1=appW w h ->
   ∃ S w,Tf 6 S (fun h=>l6 call cx e h x) h v w/\h1=appW w h:=by
  intro w hw hrun he;refine⟨fun k=>S0 k\/k=cx.base+s\/∃ b,w=some (k,b),w,⟨⟨fun h' hh=>?_,fun i b hb=>.inr (.inr ⟨b,hb⟩)⟩,fun k hk hn=>?_,fun k b hb=>?_⟩,he⟩
  ·have hs:=hh (cx.base+s) (.inr (.inl rfl));refine Tg (by rw[<-anX hs ho];exact hx2) ?_
   rw[hop];simp only[xi];exact bE.mpr ⟨xs,g2 h' fun id hid=>hh id (.inl hid),(ayV h').trans<|hrun h' hs fun i b hb=>hh i (.inr (.inr ⟨b,hb⟩))⟩
  ·rcases hk with hk|rfl|⟨b,hb⟩
   ·obtain⟨q,q1,q2⟩:=g1 k hk;exact⟨q,q1,by simp[ace,q2]⟩
   ·exact⟨y0,hy0,by rcases hy1 with h|h<;>simp[ace,h]⟩
   ·exact absurd hb (hn b)
  ·obtain⟨⟨q,q1,q2⟩,q3⟩:=hw k b hb;exact⟨⟨q,q1,by rcases q2 with h|h<;>simp[ac2,h]⟩,by simp[gets,q3]⟩
 have hmk:∀{es:List AV} {ak:Nat} {h2:Heap},mK cx s (.arr z es) h=some (ak,h2)->v=.ref (cx.base+s) ak z 0 es.length es.length->h1=h2 ->
   (∀ h',mK cx s (.arr z es) h'=some (ak,h'.set (cx.base+s) (ak,.arr z es))->wG cx s z lim (p.ev e) xs h'=some (v,h'.set (cx.base+s) (ak,.arr z es)))->∃ S w,Tf 6 S (fun h=>l6 call cx e h x) h v w/\h1=appW w h:=by
  intro es ak h2 hm hv hh1 hall;obtain⟨k1,k2⟩:=anZ hm;refine fin (some (cx.base+s,(ak,.arr z es))) (fun i b hb=>by cases hb;exact⟨⟨y0,hy0,hy1⟩,rfl⟩) (fun h' hs _=>hall h' (k2 h' hs)) (by rw[hh1,k1];rfl)
 unfold wG at happ;split at happ
 ·rename_i hev;split at happ
  ·rename_i hc;simp only[dz,bf]at happ;obtain⟨rfl,rfl⟩:=happ;exact fin none (fun i b hb=>by cases hb) (fun h' _ _=>by unfold wG;rw[hev];dsimp only;rw[if_pos hc];rfl) rfl
  ·rename_i hc;split at happ
   ·rename_i hc2;obtain⟨⟨ak,h2⟩,hm,he⟩:=mE.mp happ;simp only[bf]at he;obtain⟨rfl,rfl⟩:=he;exact hmk hm rfl rfl fun h' hm'=>by unfold wG;rw[hev];dsimp only;rw[if_neg hc,if_pos hc2];exact mE.mpr ⟨_,hm',rfl⟩
   ·cases happ
 ·rename_i z' es hev;split at happ
  ·rename_i hc0;split at happ
   ·rename_i hc;simp only[dz,bf]at happ;obtain⟨rfl,rfl⟩:=happ;exact fin none (fun i b hb=>by cases hb) (fun h' _ _=>by unfold wG;rw[hev];dsimp only;rw[if_pos hc0,if_pos hc];rfl) rfl
   ·rename_i hc;split at happ
    ·rename_i hc2;obtain⟨⟨ak,h2⟩,hm,he⟩:=mE.mp happ;simp only[bf]at he;obtain⟨rfl,rfl⟩:=he;exact hmk hm rfl rfl fun h' hm'=>by unfold wG;rw[hev];dsimp only;rw[if_pos hc0,if_neg hc,if_pos hc2];exact mE.mpr ⟨_,hm',rfl⟩
    ·cases happ
  ·cases happ
 ·rename_i id ak z' off len fill hev;split at happ
  ·rename_i w z'' es hid;split at happ
   ·rename_i hc;simp only[dz,bf]at happ;obtain⟨rfl,rfl⟩:=happ;refine fin (some (id,(ak,.arr z (es++xs)))) (fun i b hb=>by cases hb;exact⟨⟨_,hid,.inl rfl⟩,rfl⟩) (fun h' _ hw=>?_) rfl
    unfold wG;rw[hev];dsimp only;rw[hw _ _ rfl,hid];dsimp only;rw[if_pos hc];rfl
   ·cases happ
  ·cases happ
 ·cases happ
end
end Go.VI
