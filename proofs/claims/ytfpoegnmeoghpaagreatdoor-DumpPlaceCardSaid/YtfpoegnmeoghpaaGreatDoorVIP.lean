/- Results handed back; code; calls: the evaluator's answers are the machine's. -/
import Derived.Test.YtfpoegnmeoghpaaGreatDoorVIO
set_option linter.unusedVariables false
set_option linter.unusedSimpArgs false
namespace Go.VI
set_option linter.unusedSectionVars false
variable [kH][Rounds]
mutual
def low(base:Nat):AV->Prop
 |.agg cs=>Dk base cs
 |.tuple cs=>Dk base cs
 |.fn _ cs=>Dk base cs
 |.rM _ v=>low base v
 |.ref id _ _ _ _ _=>id<base
 |.bq id _ _=>id<base
 |.nS v _ _=>low base v
 |.lF id _=>id<base
 |_=>True
def Dk(base:Nat):List AV->Prop
 |[]=>True
 |c::cs=>low base c/\Dk base cs
end
section
variable {w:World}{m:Map}{X:Nat->Prop}
mutual
theorem an8{m2:Map}{h h2:Heap}{base:Nat}(hs:∀ id,id<base->h2[id]?=h[id]?/\m2[id]?=m[id]?):∀(a:AV) (u:Value),low base a->R w X m2 h2 a u->R w X m h a u
 |.undef,_,_,_=>by simp[R]
 |.bool _,u,_,hr|.int _ _,u,_,hr|.str _,u,_,hr|.yX,u,_,hr|.zB,u,_,hr|.bO,u,_,hr|.nilPtr,u,_,hr|.eY _ _,u,_,hr|.fT _ _,u,_,hr|.iE _,u,_,hr=>by
  simpa only[R]using hr
 |.agg cs,u,hl,hr=>by
  simp only[R]at hr⊢;simp only[low]at hl;obtain⟨vs,e,h1,h2⟩:=hr
  exact⟨vs,e,h1,an9 hs cs vs hl h2⟩
 |.tuple cs,u,hl,hr|.fn _ cs,u,hl,hr=>by
  simp only[R]at hr⊢;simp only[low]at hl;obtain⟨vs,e,h2⟩:=hr
  exact⟨vs,e,an9 hs cs vs hl h2⟩
 |.rM t x,u,hl,hr=>by
  simp only[R]at hr⊢;simp only[low]at hl;obtain⟨vs,e,h2⟩:=hr
  exact⟨vs,e,an8 hs x vs hl h2⟩
 |.ref id ak z off len fill,u,hl,hr=>by
  simp only[R]at hr⊢;simp only[low]at hl;obtain⟨a,cap,e,h1,h2,v0,blk,h3,h4,h5⟩:=hr;obtain⟨g1,g2⟩:=hs id hl;rw[g1]at h3;rw[g2]at h5
  exact⟨a,cap,e,h1,h2,v0,blk,h3,h4,h5⟩
 |.own _ _,_,_,hr=>by simp[R]at hr
 |.bq id ak off,u,hl,hr=>by
  simp only[R]at hr⊢;simp only[low]at hl;obtain⟨a,e,v0,blk,h3,h4,h5⟩:=hr;obtain⟨g1,g2⟩:=hs id hl;rw[g1]at h3;rw[g2]at h5
  exact⟨a,e,v0,blk,h3,h4,h5⟩
 |.nS v i off,u,hl,hr=>by
  simp only[low]at hl
  cases v with
  |eY z es|fT z es=>simpa only[R]using hr
  |ref id ak z o len fill =>
   simp only[R]at hr⊢;simp only[low]at hl;obtain⟨a,e,v0,blk,h3,h4,h5⟩:=hr;obtain⟨g1,g2⟩:=hs id hl;rw[g1]at h3;rw[g2]at h5
   exact⟨a,e,v0,blk,h3,h4,h5⟩
  |_=>simp[R]at hr
 |.lF id ak,u,hl,hr=>by
  simp only[R]at hr⊢;simp only[low]at hl;obtain⟨k,l,e,v0,blk,h3,h4,h5⟩:=hr;obtain⟨g1,g2⟩:=hs id hl;rw[g1]at h3;rw[g2]at h5;exact⟨k,l,e,v0,blk,h3,h4,h5⟩
theorem an9{m2:Map}{h h2:Heap}{base:Nat}(hs:∀ id,id<base->h2[id]?=h[id]?/\m2[id]?=m[id]?):∀(cs:List AV) (us:List Value),Dk base cs->RL w X m2 h2 cs us->RL w X m h cs us
 |[],_,_,hr=>by simpa[RL]using hr
 |c::cs,us,hl,hr=>by
  simp only[RL]at hr⊢;simp only[Dk]at hl;obtain⟨u,vw,e,h1,h2⟩:=hr;exact⟨u,vw,e,an8 hs c u hl.1 h1,an9 hs cs vw hl.2 h2⟩
end
theorem Yt.arr{h:Heap}(hi:Yt w X m h)(id ak z:Nat)(es:List AV)(hk:h[id]?=some (ak,.arr z es)):∃ b,∃ c:Array Value,∃ ty,m[id]?=some b/\w.heap[b]?=some (Obj.cells c ty (0,0))/\0<z/\xC w X z es c.toList:=by
 obtain⟨b,c,ty,e1,e2,e3⟩:=hi.blk id ak _ hk rfl;exact⟨b,c,ty,e1,e2,e3.1,e3.2⟩
def Xn(X:Nat->Prop)(m:Map)(h h':Heap)(b:Nat):Prop:=X b/\(Live m h b->Live m h' b)
structure Let(base:Nat)(w:World)(X:Nat->Prop)(m:Map)(h:Heap)(X':Nat->Prop)(h':Heap):Prop where
 ZG:Yt w X' m h'
 ids:Nl w m h w m h'
 live:∀ b,Live m h' b->Live m h b
 sub:∀ b,X' b->X b
 kept:∀ b,X b->¬ Live m h b->X' b
 low:∀ id,id<base->h'[id]?=h[id]?
 len:h'.length=h.length
theorem Let.refl{base:Nat}{h:Heap}(hi:Yt w X m h):Let base w X m h X h :=
 ⟨hi,fun id v blk hk=>⟨v,blk,hk,iJ _,fun _=>OY.refl _ _ _ _⟩,fun _ h=>h,fun _ h=>h,fun _ h _=>h,fun _ _=>rfl,rfl⟩
theorem Let.trans{base:Nat}{h h1 h2:Heap}{X1 X2:Nat->Prop}(a:Let base w X m h X1 h1)(b:Let base w X1 m h1 X2 h2):Let base w X m h X2 h2 where
 ZG:=b.ZG
 ids:=fun id v blk hk=>by
  obtain⟨v1,b1,e1,l1,ev1⟩:=a.ids id v blk hk;obtain⟨v2,b2,e2,l2,ev2⟩:=b.ids id v1 b1 e1;exact⟨v2,b2,e2,by omega,fun he=>(ev1 (by omega)).trans (ev2 (by omega))⟩
 live:=fun q hq=>a.live q (b.live q hq)
 sub:=fun q hq=>a.sub q (b.sub q hq)
 kept:=fun q hq hl=>b.kept q (a.kept q hq hl) (fun hl'=>hl (a.live q hl'))
 low:=fun id hid=>(b.low id hid).trans (a.low id hid)
 len:=b.len.trans a.len
theorem Let.R{base:Nat}{h h':Heap}{X':Nat->Prop}(a:Let base w X m h X' h'){v:AV}{u:Value}(hr:R w X m h v u):R w X' m h' v u:=R.step a.ids (Keep.weaken a.sub) v u hr
theorem Let.RL{base:Nat}{h h':Heap}{X':Nat->Prop}(a:Let base w X m h X' h'){v:List AV}{u:List Value}(hr:RL w X m h v u):VI.RL w X' m h' v u:=RL.step a.ids (Keep.weaken a.sub) v u hr
theorem aze{base:Nat}{h:Heap}(hi:Yt w X m h){id ak:Nat}{blk:aU}(hid:h[id]?=some (ak,blk))(hb:base<=id){X':Nat->Prop}(hx1:∀ b,X' b->X b)(hx2:∀ b,X b->(Live m h b->Live m (h.set id (ak,.dead)) b)->X' b) :
  Let base w X m h X' (h.set id (ak,.dead)):=by
 obtain⟨s,i,lv,ld⟩:=alg (lo:=base) hi.inv hid hb;refine⟨⟨i,fun b hl=>hx2 b (hi.sub b (lv b hl)) (fun _=>hl),fun id' abx qN hk hm=>?_,fun id' abx d st hk=>?_⟩,s.ids,lv,hx1,fun b hx hl=>hx2 b hx (fun h=>absurd h hl),fun k hk=>(s.low k hk).1,by simp⟩
 ·by_cases F7:id'=id
  ·subst F7;rw[L8 (kS.mp hid).1]at hk;cases hk;cases hm
  ·rw[tL (by omega)]at hk
   obtain⟨b,c,ty,e1,e2,e3⟩:=hi.blk id' abx qN hk hm;exact⟨b,c,ty,e1,e2,e3.ids s.ids (Keep.weaken hx1)⟩
 ·by_cases F7:id'=id
  ·subst F7;rw[L8 (kS.mp hid).1]at hk;cases hk
  ·rw[tL (by omega)]at hk
   obtain⟨b,o,e1,e2,e3⟩:=hi.aV id' abx d st hk;exact⟨b,o,e1,e2,e3.ids s.ids (Keep.weaken hx1) (by simp)⟩
theorem azf{h:Heap}(hi:Yt w X m h){id ak z off len fill:Nat}{u:Value}{es:List AV}(hr:R w X m h (.ref id ak z off len fill) u)(hl:wF h (.ref id ak z off len fill)=some es) :
  ∃ a cap es0,u=.slice a len cap/\len<=cap/\es.length=len/\h[id]?=some (ak,.arr z es0)/\es0.length=fill/\off+len<=fill/\es=(es0.drop off).take len /\
   (cap=0\/∃ b,m[id]?=some b/\a=some ⟨b,off*z,none⟩/\b<w.heap.size/\0<z/\Gr w X z es b (off*z)/\fill<=off+cap/\(off+cap)*z<=bsize w b):=by
 obtain⟨a,cap,es0,e1,e2,e3,e4,e5,e6,e7,e8⟩:=alk hi.inv (R.less hi.sub _ _ hr) hl;refine⟨a,cap,es0,e1,e2,e3,e4,e5,e6,e7,e8.imp (fun h=>h) ?_⟩;rintro⟨b,g1,g2,g3,g4,_,g6,g7⟩;obtain⟨b',c,ty,k1,k2,k3,k4⟩:=hi.arr id ak z es0 e4;rw[g1]at k1;cases k1;refine⟨b,g1,g2,g3,g4,ab4 _ _ _ fun i e' he'=>?_,g6,g7⟩;subst e7;have hil:i<len:=by have:=(kS.mp he').1;omega
 have:es0[off+i]?=some e':=by rw[IA,if_pos hil,Nr]at he';exact he'
 obtain⟨v,q1,q2,q3,q4⟩:=xC.elems k2 k4 this;exact⟨v,q1,q2,q3,by rw[<-AZ];exact q4⟩
mutual
theorem asf{base:Nat}{keep:Bool}:∀(a:AV) (h:Heap) (X:Nat->Prop) (u:Value) (a':AV) (h':Heap),Yt w X m h->R w X m h a u->gI base keep a h=some (a',h') ->
  ∃ X',Let base w X m h X' h'/\R w X' m h' a' u/\low base a'
 |.agg cs,h,X,u,a',h',hi,hr,hf=>by
  simp only[gI,mE,bf]at hf;obtain⟨⟨cs',h1⟩,hf,rfl,rfl⟩:=hf;simp only[R]at hr;obtain⟨vs,rfl,g1,g2⟩:=hr;obtain⟨X',l,r,lw⟩:=an' cs h X vs cs' _ hi g2 hf
  exact⟨X',l,by simp only[R];exact⟨vs,rfl,g1,r⟩,by simpa only[low]using lw⟩
 |.tuple cs,h,X,u,a',h',hi,hr,hf=>by
  simp only[gI,mE,bf]at hf;obtain⟨⟨cs',h1⟩,hf,rfl,rfl⟩:=hf;simp only[R]at hr;obtain⟨vs,rfl,g2⟩:=hr;obtain⟨X',l,r,lw⟩:=an' cs h X vs cs' _ hi g2 hf
  exact⟨X',l,by simp only[R];exact⟨vs,rfl,r⟩,by simpa only[low]using lw⟩
 |.fn f cs,h,X,u,a',h',hi,hr,hf=>by
  simp only[gI,mE,bf]at hf;obtain⟨⟨cs',h1⟩,hf,rfl,rfl⟩:=hf;simp only[R]at hr;obtain⟨vs,rfl,g2⟩:=hr;obtain⟨X',l,r,lw⟩:=an' cs h X vs cs' _ hi g2 hf
  exact⟨X',l,by simp only[R];exact⟨vs,rfl,r⟩,by simpa only[low]using lw⟩
 |.rM t x,h,X,u,a',h',hi,hr,hf=>by
  simp only[gI,mE,bf]at hf;obtain⟨⟨x',h1⟩,hf,rfl,rfl⟩:=hf;simp only[R]at hr;obtain⟨v,rfl,g2⟩:=hr;obtain⟨X',l,r,lw⟩:=asf x h X v x' _ hi g2 hf
  exact⟨X',l,by simp only[R];exact⟨v,rfl,r⟩,by simpa only[low]using lw⟩
 |.bO,h,X,u,a',h',hi,hr,hf=>by
  simp only[gI,dz,bf]at hf;obtain⟨rfl,rfl⟩:=hf;refine⟨X,Let.refl hi, ?_,by simp[low]⟩
  simp only[R,RC]at hr⊢
  exact⟨none,0,hr,iJ _,by simp⟩
 |.ref id ak z off len fill,h,X,u,a',h',hi,hr,hf=>by
  simp only[gI]at hf;split at hf
  ·rename_i hb;simp only[mE,bf]at hf;obtain⟨es,hl,rfl,rfl⟩:=hf;obtain⟨a,cap,es0,e,hc,hlen,hid,_,_,_,hmem⟩:=azf hi hr hl;obtain⟨_,_,lv,ld⟩:=alg (lo:=base) hi.inv hid hb;refine⟨Xn X m h (h.set id (ak,.dead)),aze hi hid hb (fun _ hx=>hx.1) (fun b h1 h2=>⟨h1,h2⟩), ?_,by simp[low]⟩
   simp only[R,RC];refine⟨a,cap,by rw[hlen];exact e,by rw[hlen];exact hc, ?_⟩
   rcases hmem with h0|⟨b,hm,ea,hb',h0,hE,_⟩
   ·exact .inl (JU (by omega))
   ·refine .inr ⟨b,_,ea,hb',fun hx=>ld b hm (by simp) (hx.2 ⟨id,ak,_,hid,by simp,hm⟩),h0,Gr.less (fun _ hx=>hx.1) hE⟩
  ·rename_i hb;split at hf
   ·simp only[dz,bf]at hf;obtain⟨rfl,rfl⟩:=hf;exact⟨X,Let.refl hi,hr,by simp only[low];omega⟩
   ·cases hf
 |.undef,h,X,u,a',h',hi,hr,hf=>by
  simp only[gI,dz,bf]at hf;obtain⟨rfl,rfl⟩:=hf
  exact⟨X,Let.refl hi,hr,by simp[low]⟩
 |.bool _,h,X,u,a',h',hi,hr,hf|.int _ _,h,X,u,a',h',hi,hr,hf|.str _,h,X,u,a',h',hi,hr,hf|.yX,h,X,u,a',h',hi,hr,hf|.zB,h,X,u,a',h',hi,hr,hf|.nilPtr,h,X,u,a',h',hi,hr,hf
 |.eY _ _,h,X,u,a',h',hi,hr,hf|.fT _ _,h,X,u,a',h',hi,hr,hf|.iE _,h,X,u,a',h',hi,hr,hf=>by
  simp only[gI,dz,bf]at hf;obtain⟨rfl,rfl⟩:=hf
  exact⟨X,Let.refl hi,hr,by simp[low]⟩
 |.own _ _,h,X,u,a',h',hi,hr,hf|.bq _ _ _,h,X,u,a',h',hi,hr,hf|.nS _ _ _,h,X,u,a',h',hi,hr,hf|.lF _ _,h,X,u,a',h',hi,hr,hf=>by simp[gI]at hf
theorem an'{base:Nat}{keep:Bool}:∀(cs:List AV) (h:Heap) (X:Nat->Prop) (us:List Value) (cs':List AV) (h':Heap),Yt w X m h->RL w X m h cs us->zx base keep cs h=some (cs',h') ->
  ∃ X',Let base w X m h X' h'/\RL w X' m h' cs' us/\Dk base cs'
 |[],h,X,us,cs',h',hi,hr,hf=>by
  simp only[zx,dz,bf]at hf;obtain⟨rfl,rfl⟩:=hf
  exact⟨X,Let.refl hi,hr,by simp[Dk]⟩
 |c::cs,h,X,us,cs',h',hi,hr,hf=>by
  simp only[zx,bE,mE,bf]at hf;obtain⟨⟨c1,h1⟩,f1,⟨cs1,h2⟩,f2,rfl,rfl⟩:=hf;simp only[RL]at hr;obtain⟨u,vw,rfl,g1,g2⟩:=hr;obtain⟨X1,l1,r1,w1⟩:=asf c h X u c1 h1 hi g1 f1;obtain⟨X2,l2,r2,w2⟩:=an' cs h1 X1 vw cs1 _ l1.ZG (l1.RL g2) f2;exact⟨X2,l1.trans l2,by simp only[RL];exact⟨u,vw,rfl,l2.R r1,r2⟩,by simp only[Dk];exact⟨w1,w2⟩⟩
end
theorem azg{base:Nat}{c c':AV}{h h':Heap}{u:Value}(hi:Yt w X m h)(hr:R w X m h c u)(hg:give base c h=some (c',h')) :
  ∃ X' B,Let base w X m h X' h'/\Dj w X' m h' B c' u/\B.length<=1/\(∀ b∈B,X' b/\¬ Live m h' b/\∃ id ak blk,base<=id/\h[id]?=some (ak,blk)/\blk≠aU.dead/\m[id]?=some b)/\low base c':=by
 have plain:gI base true c h=some (c',h')->(∃ X' B,Let base w X m h X' h'/\Dj w X' m h' B c' u/\B.length<=1/\(∀ b∈B,X' b/\¬ Live m h' b/\∃ id ak blk,base<=id/\h[id]?=some (ak,blk)/\blk≠aU.dead/\m[id]?=some b)/\low base c'):=by
  intro hf;obtain⟨X',l,r,lw⟩:=asf c h X u c' h' hi hr hf;refine⟨X',[],l, ?_,by simp,fun b hb=>by simp at hb,lw⟩
  unfold Dj;split
  ·simp[R]at r
  ·exact⟨rfl,r⟩
 unfold give at hg;split at hg
 ·simp only[dz,bf]at hg;obtain⟨rfl,rfl⟩:=hg;simp only[R,RC]at hr;exact⟨X,[],Let.refl hi,.inl ⟨rfl,rfl,none,0,hr,fun _=>rfl⟩,by simp,fun b hb=>by simp at hb,by simp[low]⟩
 ·rename_i id ak z off len fill;split at hg
  ·rename_i hcond;obtain⟨hb,rfl,rfl⟩:=hcond;simp only[mE,bf]at hg;obtain⟨es,hl,rfl,rfl⟩:=hg;obtain⟨a,cap,es0,e,hc,hlen,hid,hfl,_,hes,hmem⟩:=azf hi hr hl;have hes':es=es0:=by rw[hes,List.drop_zero,<-hfl,QU]
   subst hes';have l:=aze (X':=X) hi hid hb (fun _ hx=>hx) (fun b h1 _=>h1);obtain⟨_,_,lv,ld⟩:=alg (lo:=base) hi.inv hid hb;by_cases hn:es=[]
   ·refine⟨X,[],l,.inl ⟨hn,rfl,a,cap, ?_,fun hz=>?_⟩,by simp,fun b hb=>by simp at hb,by simp[low]⟩
    ·rw[e,<-hlen,hn];rfl
    ·by_cases hcap:cap=0
     ·exact hcap
     ·obtain⟨_,_,_,_,h0,_⟩:=hmem.resolve_left hcap;omega
   ·have hcap:cap≠0:=fun h0=>hn (JU (by omega))
    obtain⟨b,hm,ea,hb',h0,hE,_,hsz⟩:=hmem.resolve_left hcap;obtain⟨b2,c,ty,k1,k2,k3,k4⟩:=hi.arr id ak z es hid;rw[hm]at k1;cases k1;refine⟨X,[b],l,.inr ⟨hn,b,rfl,cap,c,ty, ?_,by omega, ?_,k2,k3,k4⟩,by simp,fun q hq=>?_,by simp[low]⟩
    ·rw[e,ea,hlen];simp
    ·have:bsize w b=c.size:=by simp[bsize,k2]
     rw[<-this];simpa using hsz
    ·simp only[A9,List.not_mem_nil,or_false]at hq;subst hq;exact⟨hi.sub q ⟨id,ak,_,hid,by simp,hm⟩,ld q hm (by simp),id,ak,_,hb,hid,by simp,hm⟩
  ·exact plain hg
 ·exact plain hg
theorem Dj.let{base:Nat}{h h':Heap}{X':Nat->Prop}(l:Let base w X m h X' h'){B:List Nat}{v:AV}{u:Value}(hg:Dj w X m h B v u):Dj w X' m h' B v u:=by
 unfold Dj at hg⊢;split
 ·rcases hg with h|⟨hn,b,e,cap,c,ty,e1,e2,e3,e4,e5,e6⟩
  ·exact .inl h
  ·exact .inr ⟨hn,b,e,cap,c,ty,e1,e2,e3,e4,e5,e6.keep (Keep.weaken l.sub)⟩
 ·rename_i hne;split at hg
  ·exact absurd rfl (hne _ _)
  ·exact⟨hg.1,l.R hg.2⟩
theorem azh{base:Nat}:∀(cs:List AV) (h:Heap) (X:Nat->Prop) (us:List Value) (cs':List AV) (h':Heap),Yt w X m h->RL w X m h cs us->NH base cs h=some (cs',h') ->
  ∃ X' B,Let base w X m h X' h'/\xU w X' m h' B cs' us/\B.Nodup/\(∀ b∈B,X' b/\¬ Live m h' b/\∃ id ak blk,base<=id/\h[id]?=some (ak,blk)/\blk≠aU.dead/\m[id]?=some b)/\Dk base cs'
 |[],h,X,us,cs',h',hi,hr,hf=>by
  simp only[NH,dz,bf]at hf;obtain⟨rfl,rfl⟩:=hf;simp only[RL]at hr
  exact⟨X,[],Let.refl hi,⟨rfl,hr⟩,List.nodup_nil,fun b hb=>by simp at hb,by simp[Dk]⟩
 |c::cs,h,X,us,cs',h',hi,hr,hf=>by
  simp only[NH,bE,mE,bf]at hf;obtain⟨⟨c1,h1⟩,f1,⟨cs1,h2⟩,f2,rfl,rfl⟩:=hf;simp only[RL]at hr;obtain⟨u,vw,rfl,g1,g2⟩:=hr;obtain⟨X1,B1,l1,r1,n1,q1,w1⟩:=azg hi g1 f1;obtain⟨X2,B2,l2,r2,n2,q2,w2⟩:=azh cs h1 X1 vw cs1 _ l1.ZG (l1.RL g2) f2;refine⟨X2,B1++B2,l1.trans l2, ?_, ?_,fun b hb=>?_,by simp only[Dk];exact⟨w1,w2⟩⟩
  ·simp only[xU];exact⟨B1,B2,u,vw,rfl,rfl,r1.let l2,r2⟩
  ·rw[List.nodup_append];refine⟨?_,n2,fun a ha b hb e=>?_⟩
   ·match B1,n1 with
    |[],_=>exact List.nodup_nil
    |[_],_=>simp
   ·subst e;obtain⟨_,_,id,ak,blk,_,k1,k2,k3⟩:=q2 a hb;exact(q1 a ha).2.1 ⟨id,ak,blk,k1,k2,k3⟩
  ·rcases Di.mp hb with hb|hb
   ·obtain⟨k1,k2,k3⟩:=q1 b hb;exact⟨l2.kept b k1 k2,fun hl=>k2 (l2.live b hl),k3⟩
   ·obtain⟨k1,k2,id,ak,blk,k3,k4,k5,k6⟩:=q2 b hb;refine⟨k1,k2, ?_⟩;obtain⟨id',abx,qN,j1,j2,j3⟩:=l1.live b ⟨id,ak,blk,k4,k5,k6⟩;refine⟨id',abx,qN, ?_,j1,j2,j3⟩;rcases Fz id' base with hlt|hge
    ·-- a block below 'base' is not this one
     have e1:=l1.low id' hlt;have:=l1.ZG.inv.inj id' id abx ak qN blk b (e1.trans j1) j2 j3 k4 k5 k6;omega
    ·exact hge
end
end Go.VI
