/- What the functions on integers compute, part MW. -/
import Derived.Test.YtfpoegnmeoghpaaGreatDoorDumpMU
import Derived.Test.YtfpoegnmeoghpaaGreatDoorDumpMV
set_option linter.unusedVariables false
set_option linter.unusedSimpArgs false
namespace Go.VI.Dump
open Go.VI.Num
/- BIGSTEPS -/
theorem Jl{c n:Int}(hn:0<n)(hc:o6 c)(h:Heap)(lo:Nat):(run lib).fn 64 [.int .i64 c,.int .i64 n] h lo=some (.int .i64 (lQ c n),h):=by
 obtain⟨h1,h2⟩:=hc;unfold lQ;rw[bW (x:=OZ) rfl rfl rfl rfl];by_cases c0:c<0
 ·rw[if_pos c0];simp(maxSteps:=30000000)(disch:=omega)only[go_sem,OZ,c0]
 ·rw[if_neg c0];simp(maxSteps:=30000000)(disch:=omega)only[go_sem,OZ,c0]
abbrev Tr:=Int×Int×Int
def QT(x:Tr):AV:=.agg [.int .i64 x.1,.int .i64 x.2.1,.int .i64 x.2.2]
def BD(l:List Tr):List AV:=l.map QT
@[simp] theorem apv (l:List Tr):(BD l).length=l.length:=by simp [BD]
theorem apw(l:List Tr)(k:Nat)(h:k<(BD l).length):(BD l)[k]=QT (l[k]'(by simpa using h)):=by simp[BD]
def Et(at_:Int)(x:Tr):Int:=at_+lQ x.1 25
def BF(at_:Int)(x:Tr):Int:=Et at_ x+1+lQ x.2.1 9
def vI(L:Int):Int->List Pr->List Pr->List Tr->List Pr×List Pr
 |_,P,C,[]=>(P,C)
 |a,P,C,x::r =>
  if L<BF a x then(P,C)
  else if lQ x.2.2 3=0/\P.length<4 then vI L (BF a x+1) (P++[(Et a x,BF a x)]) C r
  else if C.length<4 then vI L (BF a x+1) P (C++[(Et a x,BF a x)]) r
  else vI L (BF a x+1) P C r
theorem ad8(l:List Pr)(a b:Int):pts (l++[(a,b)])=pts l++[.agg [.int .i64 a,.int .i64 b]]:=by simp[pts,pt]
theorem apy{h:Heap}{v:AV}{xs:List Tr}(hv:Sl h 3 v (BD xs))(hl:xs.length<=9223372036854775807)(hi:∀ x∈xs,o6 x.1/\o6 x.2.1/\o6 x.2.2){L:Int}(hL:1<=L/\L<=120)(D E:Int)(R:Nat×au):∀(d k:Nat) (a:Int) (P C:List Pr) (B:Nat×au),
  k+d=min xs.length 6->0<=a->a<=L+1->P.length<=4->C.length<=4 ->
  ∃ B',aQ lib ⟨h.length,h.length,5,none⟩ (.loop Tv) ([(3,v),(8,.aF (h.length+4) 1 0),(9,.aF (h.length+3) 1 0),(10,.int .i64 a),(11,.int .i64 k)],h++[bX (0,.dead) 2 (pts P),bX (0,.dead) 2 (pts C),B,(1,.box [.int .i64 L,.int .i64 D,.int .i64 E,cu (h.length+0) (0,.dead) 2 (pts P),cu (h.length+1) (0,.dead) 2 (pts C)]),R]) =
   some (.exit 0,([(8,.aF (h.length+4) 1 0),(9,.aF (h.length+3) 1 0)],h++[bX (0,.dead) 2 (pts (vI L a P C ((xs.take 6).drop k)).1),bX (0,.dead) 2 (pts (vI L a P C ((xs.take 6).drop k)).2),B',(1,.box [.int .i64 L,.int .i64 D,.int .i64 E,cu (h.length+0) (0,.dead) 2 (pts (vI L a P C ((xs.take 6).drop k)).1),cu (h.length+1) (0,.dead) 2 (pts (vI L a P C ((xs.take 6).drop k)).2)]),R])):=by
 have ll:=iB hv.len;rw[apv]at ll;have ll':=fun fr=>iB (hv.app fr).len;intro d
 induction d with
 |zero =>
  intro k a P C B hk _ _ _ _;refine⟨B, ?_⟩;rw[List.drop_eq_nil_of_le (by rw[qi];omega),vI,bU]
  by_cases c:(k:Int)<xs.length
  ·have c6:¬ (k:Int)<6:=by omega
   simp(maxSteps:=30000000)(disch:=omega)only[go_sem,ll,c,c6]
  ·simp(maxSteps:=30000000)(disch:=omega)only[go_sem,ll,c]
 |succ d ih =>
  intro k a P C B hk ha1 ha2 hP hC;have hk':k<xs.length:=by omega
  have h1:(k:Int)<xs.length:=by omega
  have h6:(k:Int)<6:=by omega
  have e3:iM 3 v (.int .i64 k)=some k:=by rw[kr hv (by omega) (by simp;omega)];simp
  have e4:=fun off fr=>jV (off:=off) (hv.elems fr) (show k<(BD xs).length by simp;omega)
  simp only[apw,QT]at e4;obtain⟨i1,i2,i3⟩:=hi xs[k] (l9 _)
  have hd:(xs.take 6).drop k=xs[k]::(xs.take 6).drop (k+1):=by
   rw[qH (by rw[qi];omega),List.getElem_take]
  rw[hd];generalize xs[k]=x at*;obtain⟨x1,x2,x3⟩:=x;simp only at e4 i1 i2 i3;have p1:=fun H lo=>Jl (n:=25) (by decide) i1 H lo
  have p2:=fun H lo=>Jl (n:=9) (by decide) i2 H lo
  have p3:=fun H lo=>Jl (n:=3) (by decide) i3 H lo
  have r1:=Bg x1 (n:=25) (by decide)
  have r2:=Bg x2 (n:=9) (by decide)
  obtain⟨v0,b0⟩:=B;have hf:Et a (x1,x2,x3)=a+lQ x1 25:=rfl;have ht:BF a (x1,x2,x3)=a+lQ x1 25+1+lQ x2 9:=rfl;simp only[vI,hf,ht];generalize lQ x1 25=u at*;generalize lQ x2 9=w at*;generalize lQ x3 3=t at*;by_cases c1:L<a+u+1+w
  ·refine⟨(v0+1,.box [.int .i64 (a+u),.int .i64 (a+u+1+w)]), ?_⟩;simp only[if_pos c1];rw[bU];simp(maxSteps:=30000000)(disch:=omega)only[go_sem,ll,h1,h6,e3,e4,p1,p2,c1]
  ·simp only[if_neg c1];by_cases c2:t=0/\P.length<4
   ·simp only[if_pos c2];obtain⟨c2,c3⟩:=c2;subst c2;have lP:=iB (Sl.acc (h:=h) (fr:=[bX (0,.dead) 2 (pts P),bX (0,.dead) 2 (pts C),(v0+1,.box [.int .i64 (a+u),.int .i64 (a+u+1+w)]),(1,.box [.int .i64 L,.int .i64 D,.int .i64 E,cu (h.length+0) (0,.dead) 2 (pts P),cu (h.length+1) (0,.dead) 2 (pts C)]),R]) (s:=0) (z:=2) (b0:=(0,.dead)) (es:=pts P) rfl).len;rw[Bw]at lP;have c3':(P.length:Int)<4:=by omega
    obtain⟨B',e⟩:=ih (k+1) (a+u+1+w+1) (P++[(a+u,a+u+1+w)]) C (v0+1,.box [.int .i64 (a+u),.int .i64 (a+u+1+w)]) (by omega) (by omega) (by omega) (by simp;omega) hC
    rw[jo,ad8]at e;refine⟨B', ?_⟩;have ap:=wD (lo:=h.length) (ns:=5) (s:=0) (z:=2) (lim:=8796093022208) (h:=h) (fr:=[bX (0,.dead) 2 (pts P),bX (0,.dead) 2 (pts C),(v0+1,.box [.int .i64 (a+u),.int .i64 (a+u+1+w)]),(1,.box [.int .i64 L,.int .i64 D,.int .i64 E,cu (h.length+0) (0,.dead) 2 (pts P),cu (h.length+1) (0,.dead) 2 (pts C)]),R]) (b0:=(0,.dead)) (es:=pts P) (xs:=[.agg [.int .i64 (a+u),.int .i64 (a+u+1+w)]]) (by omega) (by omega) rfl (by simp;omega)
    rw[bU];simp(maxSteps:=30000000)(disch:=omega)only[go_sem,ll,h1,h6,e3,e4,p1,p2,p3,c1,lP,c3',ap,tT,Ct,e]
   ·simp only[if_neg c2];have lP:=iB (Sl.acc (h:=h) (fr:=[bX (0,.dead) 2 (pts P),bX (0,.dead) 2 (pts C),(v0+1,.box [.int .i64 (a+u),.int .i64 (a+u+1+w)]),(1,.box [.int .i64 L,.int .i64 D,.int .i64 E,cu (h.length+0) (0,.dead) 2 (pts P),cu (h.length+1) (0,.dead) 2 (pts C)]),R]) (s:=0) (z:=2) (b0:=(0,.dead)) (es:=pts P) rfl).len;have lC:=iB (Sl.acc (h:=h) (fr:=[bX (0,.dead) 2 (pts P),bX (0,.dead) 2 (pts C),(v0+1,.box [.int .i64 (a+u),.int .i64 (a+u+1+w)]),(1,.box [.int .i64 L,.int .i64 D,.int .i64 E,cu (h.length+0) (0,.dead) 2 (pts P),cu (h.length+1) (0,.dead) 2 (pts C)]),R]) (s:=1) (z:=2) (b0:=(0,.dead)) (es:=pts C) rfl).len;rw[Bw]at lP lC;by_cases c4:C.length<4
    ·have MQ:(C.length:Int)<4:=by omega
     simp only[if_pos c4];obtain⟨B',e⟩:=ih (k+1) (a+u+1+w+1) P (C++[(a+u,a+u+1+w)]) (v0+1,.box [.int .i64 (a+u),.int .i64 (a+u+1+w)]) (by omega) (by omega) (by omega) hP (by simp;omega)
     rw[jo,ad8]at e;refine⟨B', ?_⟩;have ap:=wD (lo:=h.length) (ns:=5) (s:=1) (z:=2) (lim:=8796093022208) (h:=h) (fr:=[bX (0,.dead) 2 (pts P),bX (0,.dead) 2 (pts C),(v0+1,.box [.int .i64 (a+u),.int .i64 (a+u+1+w)]),(1,.box [.int .i64 L,.int .i64 D,.int .i64 E,cu (h.length+0) (0,.dead) 2 (pts P),cu (h.length+1) (0,.dead) 2 (pts C)]),R]) (b0:=(0,.dead)) (es:=pts C) (xs:=[.agg [.int .i64 (a+u),.int .i64 (a+u+1+w)]]) (by omega) (by omega) rfl (by simp;omega)
     rw[bU];by_cases c5:t=0
     ·have c3':¬ (P.length:Int)<4:=by omega
      subst c5;simp(maxSteps:=30000000)(disch:=omega)only[go_sem,ll,h1,h6,e3,e4,p1,p2,p3,c1,lP,c3',lC,MQ,ap,tT,Ct,e]
     ·simp(maxSteps:=30000000)(disch:=omega)only[go_sem,ll,h1,h6,e3,e4,p1,p2,p3,c1,c5,lC,MQ,ap,tT,Ct,e]
    ·have MQ:¬ (C.length:Int)<4:=by omega
     simp only[if_neg c4];obtain⟨B',e⟩:=ih (k+1) (a+u+1+w+1) P C (v0+1,.box [.int .i64 (a+u),.int .i64 (a+u+1+w)]) (by omega) (by omega) (by omega) hP hC
     rw[jo]at e;refine⟨B', ?_⟩;rw[bU];by_cases c5:t=0
     ·have c3':¬ (P.length:Int)<4:=by omega
      subst c5;simp(maxSteps:=30000000)(disch:=omega)only[go_sem,ll,h1,h6,e3,e4,p1,p2,p3,c1,lP,c3',lC,MQ,e]
     ·simp(maxSteps:=30000000)(disch:=omega)only[go_sem,ll,h1,h6,e3,e4,p1,p2,p3,c1,c5,lC,MQ,e]
def BG(a b c:Int)(d:List Tr):iD:=⟨1+lQ a 120,lQ b 13,1+lQ c 8,(vI (1+lQ a 120) 0 [] [] (d.take 6)).1,(vI (1+lQ a 120) 0 [] [] (d.take 6)).2⟩
def QU(l:iD):AV:=.agg [.int .i64 l.L,.int .i64 l.D,.int .i64 l.E,jC 2 (pts l.P),jC 2 (pts l.C)]
theorem apz{a b c:Int}(ha:o6 a)(hb:o6 b)(hc:o6 c){h:Heap}{v:AV}{d:List Tr}(hv:Sl h 3 v (BD d))(hl:d.length<=9223372036854775807)(hi:∀ x∈d,o6 x.1/\o6 x.2.1/\o6 x.2.2)(lo:Nat) :
  (run lib).fn 32 [.int .i64 a,.int .i64 b,.int .i64 c,v] h lo=some (QU (BG a b c d),h):=by
 have p1:=fun H lo=>Jl (n:=120) (by decide) ha H lo
 have p2:=fun H lo=>Jl (n:=13) (by decide) hb H lo
 have p3:=fun H lo=>Jl (n:=8) (by decide) hc H lo
 have r1:=Bg a (n:=120) (by decide)
 have r3:=Bg c (n:=8) (by decide)
 obtain⟨B',e⟩:=apy hv hl hi (L:=1+lQ a 120) (by omega) (lQ b 13) (1+lQ c 8) (1,.box [.int .i64 0,.int .i64 0,.int .i64 0,.aP,.aP]) (min d.length 6) 0 0 [] [] (0,.dead) (by omega) (by omega) (by omega) (by simp) (by simp)
 unfold QU BG;simp only[qX,List.drop_zero,show pts []=[]from rfl,KM,OJ]at e
 generalize lQ a 120=u at*;generalize lQ b 13=w at*;generalize lQ c 8=t at*;generalize vI (1+u) 0 [] [] (d.take 6)=PC at*;obtain⟨P,C⟩:=PC;simp only at e⊢;have fP:=fun kk m=>Te (h:=h) (s:=0) (z:=2) (k:=kk) (b0:=(0,.dead)) (es:=pts P) (fr:=[bX (0,.dead) 2 (pts P),bX (0,.dead) 2 (pts C),B',(1,.box [.int .i64 (1+u),.int .i64 w,.int .i64 (1+t),cu (h.length+0) (0,.dead) 2 (pts P),cu (h.length+1) (0,.dead) 2 (pts C)]),m]) rfl;have fC:=fun kk x m=>Te (h:=h) (s:=1) (z:=2) (k:=kk) (b0:=(0,.dead)) (es:=pts C) (fr:=[x,bX (0,.dead) 2 (pts C),B',(1,.box [.int .i64 (1+u),.int .i64 w,.int .i64 (1+t),cu (h.length+0) (0,.dead) 2 (pts P),cu (h.length+1) (0,.dead) 2 (pts C)]),m]) rfl;simp only[List.set_cons_zero,List.set_cons_succ]at fP fC;rw[bW (x:=x32) rfl rfl rfl rfl];simp(maxSteps:=30000000)(disch:=omega)only[go_sem,x32,p1,p2,p3,e,tT,Ct,fP,fC]
end Go.VI.Dump
namespace Go.VI.Dump
open Go.VI.Num
theorem Ws{L:Int}{x:Pr}(h1:x.1<x.2)(h2:x.2<=L):∀{l:List Pr} {a:Int},nY L a l=true->(∀ y∈l,y.2<x.1)->a<x.1->nY L a (l++[x])=true
 |[],a,_,_,h=>by simp[nY,h1,h2,h]
 |y::l,a,ho,hm,h=>by
  simp only[nY,List.cons_append,bM,decide_eq_true_eq]at ho⊢;exact⟨ho.1,ho.2.1,ho.2.2.1,Ws h1 h2 ho.2.2.2 (fun z hz=>hm z (by simp[hz])) (hm y (by simp))⟩
structure Mk(L a:Int)(P C:List Pr):Prop where
 oP:nY L (-1) P=true
 oC:nY L (-1) C=true
 p4:P.length<=4
 c4:C.length<=4
 pe:∀ p∈P,p.2<a
 ce:∀ p∈C,p.2<a
 Ic:∀ p∈P,lM C p.1 p.2=false
theorem QW{L:Int}:∀(d:List Tr) {a:Int} {P C:List Pr},0<=a->Mk L a P C->∃ a',Mk L a' (vI L a P C d).1 (vI L a P C d).2
 |[],a,P,C,_,m=>⟨a,m⟩
 |x::r,a,P,C,h0,m=>by
  have r1:=Bg x.1 (n:=25) (by decide)
  have r2:=Bg x.2.1 (n:=9) (by decide)
  have hf:Et a x=a+lQ x.1 25:=rfl;have ht:BF a x=a+lQ x.1 25+1+lQ x.2.1 9:=rfl;have hF:a<=Et a x:=by omega
  have hT:Et a x<BF a x:=by omega
  unfold vI;clear hf ht;generalize Et a x=f at*;generalize BF a x=t at*;have pe:∀ p∈P,p.2<t+1:=fun p hp=>by have:=m.pe p hp;omega
  have ce:∀ p∈C,p.2<t+1:=fun p hp=>by have:=m.ce p hp;omega
  by_cases c1:L<t
  ·rw[if_pos c1];exact⟨a,m⟩
  ·rw[if_neg c1];by_cases c2:lQ x.2.2 3=0/\P.length<4
   ·rw[if_pos c2];refine QW r (by omega) ⟨Ws hT (by simp only[];omega) m.oP (fun y hy=>by have:=m.pe y hy;simp only[];omega) (by simp only[];omega),m.oC,by simp;omega,m.c4, ?_,ce, ?_⟩
    ·intro p hp;rcases lX.mp hp with hp|hp
     ·exact pe p hp
     ·rw[Cr.mp hp];simp only[];omega
    ·intro p hp;rcases lX.mp hp with hp|hp
     ·exact m.Ic p hp
     ·rw[Cr.mp hp,Bh];intro y hy _;have:=m.ce y hy;simp only[];omega
   ·rw[if_neg c2];by_cases c3:C.length<4
    ·rw[if_pos c3];refine QW r (by omega) ⟨m.oP,Ws hT (by simp only[];omega) m.oC (fun y hy=>by have:=m.ce y hy;simp only[];omega) (by simp only[];omega),m.p4,by simp;omega,pe, ?_, ?_⟩
     ·intro p hp;rcases lX.mp hp with hp|hp
      ·exact ce p hp
      ·rw[Cr.mp hp];simp only[];omega
     ·intro p hp;rw[Bh];intro y hy h;rcases lX.mp hy with hy|hy
      ·exact Bh.mp (m.Ic p hp) y hy h
      ·rw[Cr.mp hy]at h⊢;have:=m.pe p hp;have:=Fz m.oP p hp;simp only[]at h;omega
    ·rw[if_neg c3];exact QW r (by omega) ⟨m.oP,m.oC,m.p4,m.c4,pe,ce,m.Ic⟩
theorem QX(a b c:Int)(d:List Tr):lS (BG a b c d):=by
 have r1:=Bg a (n:=120) (by decide)
 have r2:=Bg b (n:=13) (by decide)
 have r3:=Bg c (n:=8) (by decide)
 obtain⟨a',m⟩:=QW (L:=1+lQ a 120) (d.take 6) (a:=0) (P:=[]) (C:=[]) (by omega) ⟨rfl,rfl,by simp,by simp,by simp,by simp,by simp⟩
 exact⟨by simp only[BG];omega,by simp only[BG];omega,by simp only[BG];omega,m.oP,m.oC,m.p4,m.c4,m.Ic⟩
def Ao(l:iD):LV:=⟨l,false,false,if pts l.P=[]then 0 else 2,if pts l.C=[]then 0 else 2⟩
theorem ad'(l:List Pr):AV.aW (if pts l=[]then 0 else 2) (pts l)=jC 2 (pts l):=by
 unfold jC;by_cases h:pts l=[]
 ·rw[if_pos h,if_pos h,h]
 ·rw[if_neg h,if_neg h]
theorem apA{l:iD}(o:lS l):okV (Ao l):=by
 have h1:=o.p4;have h2:=o.c4;refine⟨?_, ?_,by simp only[Ao];omega,by simp only[Ao];omega⟩
 ·by_cases h:pts l.P=[]
  ·exact .inr h
  ·exact .inl (if_neg h)
 ·by_cases h:pts l.C=[]
  ·exact .inr h
  ·exact .inl (if_neg h)
theorem apB(l:iD):pV (Ao l)=jC 2 (pts l.P):=ad' l.P
theorem apC(l:iD):cV (Ao l)=jC 2 (pts l.C):=ad' l.C
theorem apD(l:iD):nA (Ao l)=QU l:=by unfold nA QU;rw[apB,apC];rfl
theorem MX(l:iD):(Ao l).l=l:=rfl
theorem apE(a b c:Int)(d:List Tr):∃ xs e,Ch (BG a b c d) 0 (BG a b c d).D xs e :=
 Lc (QX a b c d).E.1 (BG a b c d).L.toNat 0 _ (by omega) (by have:=(QX a b c d).L;omega) (QX a b c d).D.1
end Go.VI.Dump
namespace Go.VI.Dump
open Go.VI.Num
/- BIGSTEPS -/
theorem aea(h:Heap)(z:Nat)(es:List AV):Sl h z (.aW z es) es:=abh (.inl rfl)
theorem apF{l:iD}(ok:lS l){xs:List Stp}{e:Int}(hc:Ch l 0 l.D xs e):((nZ l xs).length:Int)=l.L+e:=by
 have h1:=hc.Lb ok.E.1;have h2:=ok.D;unfold nZ;rw[jm,vT];omega
end Go.VI.Dump
namespace Go.VI.Dump
open Go.VI.Num
/- BIGSTEPS -/
def Gd(l:iD):Nat->Int->Int->List Stp
 |0,_,_=>[]
 |n+1,s,d =>
  if l.L<=s then[]
  else if hasB l.C s then(if 0<d then⟨s,s+1,s+d,s+d,d,true,false⟩::Gd l n (s+1) (d-1) else⟨s,s+1,s+d,s+d+1,d,true,false⟩::Gd l n (s+1) d)
  else if zU l s d then⟨s,s+l.E,s+d,s+d+l.E+1,d,false,true⟩::Gd l n (s+l.E) (d+1)
  else⟨s,s+1,s+d,s+d+1,d,false,false⟩::Gd l n (s+1) d
theorem MZ{l:iD}(hE:1<=l.E):∀(n:Nat) (s d:Int),l.L-s<=n->s<=l.L->0<=d->∃ e,Ch l s d (Gd l n s d) e
 |0,s,d,h1,h2,h3=>by
  obtain rfl:s=l.L:=by omega
  exact⟨_,.nil d⟩
 |n+1,s,d,h1,h2,h3=>by
  rw[Gd];by_cases c:l.L<=s
  ·obtain rfl:s=l.L:=by omega
   rw[if_pos c];exact⟨_,.nil d⟩
  ·rw[if_neg c];cases hc:hasB l.C s
   ·rw[if_neg Bool.false_ne_true];cases hs:zU l s d
    ·obtain⟨e,h⟩:=MZ hE n (s+1) d (by omega) (by omega) h3
     rw[if_neg Bool.false_ne_true];exact⟨_,.pl (by omega) hc hs h⟩
    ·simp only[zU,bM,decide_eq_true_eq,sD]at hs;obtain⟨a1,a2,a3,a4⟩:=hs;obtain⟨e,h⟩:=MZ hE n (s+l.E) (d+1) (by omega) (by omega) (by omega)
     rw[if_pos rfl];exact⟨_,.str (by omega) hc a1 a2 a3 a4 h⟩
   ·rw[if_pos rfl];by_cases hd:0<d
    ·obtain⟨e,h⟩:=MZ hE n (s+1) (d-1) (by omega) (by omega) (by omega)
     rw[if_pos hd];exact⟨_,.sH (by omega) hc hd h⟩
    ·obtain⟨e,h⟩:=MZ hE n (s+1) d (by omega) (by omega) h3
     rw[if_neg hd];exact⟨_,.sJ (by omega) hc (by omega) h⟩
def l0:iD:=⟨12,3,2,[(8,9)],[(2,4)]⟩
def x0:LV:=⟨l0,true,true,2,2⟩
theorem Gf:okV x0:=⟨.inl rfl,.inl rfl,by decide,by decide⟩
theorem Jm:lS l0:=⟨by decide,by decide,by decide,by decide,by decide,by decide,by decide,by decide⟩
def M0:List Stp:=Gd l0 12 0 3
theorem ch0:∃ e,Ch l0 0 l0.D M0 e:=MZ (by decide) 12 0 3 (by decide) (by decide) (by decide)
theorem apG:nZ l0 M0=[-1,-1,-1,0,1,4,4,5,6,6,7,8,9,10,11]:=by decide
theorem apH:nJ M0=[3,3,3,2,1,1,2,2,3,3,3,3]:=by decide
theorem apI:vG l0 M0=[8]:=by decide
theorem apJ:kG l0=[(0,2),(4,12)]:=by decide
theorem apK:rQ (4,12) M0=[(4,5),(8,11),(12,15)]:=by decide
end Go.VI.Dump
namespace Go.VI.Dump
open Go.VI.Num
/- BIGSTEPS -/
theorem aeb(z:Nat)(es:List AV):(AV.bF z es).cells=[.bF z es]:=rfl
theorem aec(z:Nat)(es:List AV):(AV.bF z es).val=true:=rfl
theorem apL(z:Nat)(es:List AV):(AV.aW z es).cells=[.aW z es]:=rfl
theorem apM(z:Nat)(es:List AV):(AV.aW z es).val=true:=rfl
abbrev v0:AV:=.agg [.int .i64 12,.int .i64 3,.int .i64 2,pV x0,cV x0]
theorem apN(H:Heap)(lo:Nat):(run lib).fn 45 [] H lo=some (v0,H):=by
 have e1:pV x0=.bF 2 [.agg [.int .i64 8,.int .i64 9]]:=rfl;have e2:cV x0=.bF 2 [.agg [.int .i64 2,.int .i64 4]]:=rfl;unfold v0;rw[e1,e2,bW (x:=TA) rfl rfl rfl rfl];simp(maxSteps:=30000000)(disch:=omega)only[go_sem,TA,aeb,aec]
set_option maxRecDepth 100000
end Go.VI.Dump
namespace Go.VI.Dump
open Go.VI.Num
/- BIGSTEPS -/
end Go.VI.Dump
namespace Go.VI.Dump
open Go.VI.Num
theorem apO{cs:List AV}(h:lK (.slice 3 (.agg [.int .i64,.int .i64,.int .i64])) cs):∃ l:List Tr,(∀ hp,Sl hp 3 (jG.mk (.slice 3 (.agg [.int .i64,.int .i64,.int .i64])) cs) (BD l))/\l.length<=9223372036854775807/\∀ x∈l,o6 x.1/\o6 x.2.1/\o6 x.2.2:=by
 obtain⟨es,h1,h2,h3⟩:=alf h
 obtain⟨l,rfl,h4⟩:=abk (f:=QT) (Q:=fun x=>o6 x.1/\o6 x.2.1/\o6 x.2.2) (es:=es) fun x hx=>by
  obtain⟨c,rfl,hc⟩:=h3 x hx;simp only[lK,Ff]at hc;obtain⟨a,b,rfl,⟨n,rfl,hn⟩,a',b',rfl,⟨n',rfl,hn'⟩,a'',b'',rfl,⟨n'',rfl,apP⟩,rfl⟩:=hc;obtain⟨m,e1,o1⟩:=OP (cs:=[.int .i64 n]) (by simp only[lK];exact⟨n,rfl,hn⟩)
  obtain⟨m',e2,o2⟩:=OP (cs:=[.int .i64 n']) (by simp only[lK];exact⟨n',rfl,hn'⟩)
  obtain⟨m'',e3,o3⟩:=OP (cs:=[.int .i64 n'']) (by simp only[lK];exact⟨n'',rfl,apP⟩)
  simp only[List.cons.injEq,AV.int.injEq,true_and,and_true]at e1 e2 e3;subst e1 e2 e3;exact⟨(n,n',n''),rfl,o1,o2,o3⟩
 exact⟨l,h1,by simpa using h2,h4⟩
theorem QY{t:List AV}(h:lK (.int .i64) t):∃ n,jG.mk (.int .i64) t=.int .i64 n/\o6 n:=by
 obtain⟨n,rfl,h1,h2⟩:=OP h;exact⟨n,rfl,h1,h2⟩
end Go.VI.Dump
namespace Go.VI.Dump
open Go.VI.Num
/- BIGSTEPS -/
end Go.VI.Dump
namespace Go.VI.Dump
open Go.VI.Num
/- BIGSTEPS -/
end Go.VI.Dump
namespace Go.VI.Dump
open Go.VI.Num
/- BIGSTEPS -/
end Go.VI.Dump
