/- What the functions on integers compute, part MW. -/
import Derived.Test.YtfpoegnmeoghpaaGreatDoorDumpMU
import Derived.Test.YtfpoegnmeoghpaaGreatDoorDumpMV
set_option linter.unusedVariables false
set_option linter.unusedSimpArgs false
namespace Go.VI.Dump
open Go.VI.Num
/- BIGSTEPS -/
theorem Db{c n:Int}(hn:0<n)(hc:fA c)(h:Heap)(lo:Nat):(run lib).fn 64 [.int .i64 c,.int .i64 n] h lo=some (.int .i64 (fD c n),h):=by
 obtain⟨h1,h2⟩:=hc;unfold fD;rw[aY (x:=Iu) rfl rfl rfl rfl];by_cases c0:c<0
 ·rw[if_pos c0];simp(maxSteps:=30000000)(disch:=omega)only[go_sem,Iu,c0]
 ·rw[if_neg c0];simp(maxSteps:=30000000)(disch:=omega)only[go_sem,Iu,c0]
theorem ahY{h:Heap}{v:AV}{l:List Pr}(hv:Sl h 2 v (pts l))(hl:l.length<=9223372036854775807)(s:Int):∀(d k:Nat),k+d=l.length ->
  aA lib ⟨h.length,h.length,0,none⟩ (.loop Mh) ([(0,v),(1,.int .i64 s),(5,.int .i64 k)],h) =
   if hasB (l.drop k) s=true then some (.ret,([(4,.bool true)],h))else some (.exit 0,([],h)):=by
 have ll:=bK hv.len;rw[jq]at ll;intro d
 induction d with
 |zero =>
  intro k hk;obtain rfl:k=l.length:=by omega
  rw[kE,aR]
  simp(maxSteps:=30000000)(disch:=omega)only[go_sem,ll,dU,hasB,List.any_nil,fJ]
 |succ d ih =>
  intro k hk;have hk':k<l.length:=by omega
  have h1:(k:Int)<l.length:=by omega
  have e3:bP 2 v (.int .i64 k)=some k:=by rw[dz hv (by omega) (by simp;omega)];simp
  have e4:=fun off=>dx (off:=off) hv.eO (show k<(pts l).length by simp;omega)
  simp only[tC,pt]at e4;have e:=ih (k+1) (by omega)
  rw[dF]at e
  have hd:hasB (l.drop k) s=((decide (l[k].1<=s)&&decide (s<l[k].2))||hasB (l.drop (k+1)) s):=by
   rw[gY hk'];rfl
  rw[hd];generalize l[k]=q at*;obtain⟨q1,q2⟩:=q;simp only at e4⊢;by_cases c1:q1<=s
  ·by_cases c2:s<q2
   ·rw[if_pos (by simp[c1,c2]),aR]
    simp(maxSteps:=30000000)(disch:=omega)only[go_sem,ll,h1,e3,e4,c1,c2]
   ·rw[show (decide (q1<=s)&&decide (s<q2))=false by simp[c2],Bool.false_or,<-e,aR]
    simp(maxSteps:=30000000)(disch:=omega)only[go_sem,ll,h1,e3,e4,c1,c2]
  ·rw[show (decide (q1<=s)&&decide (s<q2))=false by simp[c1],Bool.false_or,<-e,aR]
   simp(maxSteps:=30000000)(disch:=omega)only[go_sem,ll,h1,e3,e4,c1]
theorem Dc{h:Heap}{v:AV}{l:List Pr}(hv:Sl h 2 v (pts l))(hl:l.length<=9223372036854775807)(s:Int)(lo:Nat):(run lib).fn 33 [v,.int .i64 s] h lo=some (.bool (hasB l s),h):=by
 have e:=ahY hv hl s l.length 0 (by omega)
 simp only[fH,List.drop_zero]at e;rw[aY (x:=Ij) rfl rfl rfl rfl];cases c:hasB l s
 ·rw[c,if_neg (by simp)]at e
  simp(maxSteps:=30000000)(disch:=omega)only[go_sem,Ij,e]
 ·rw[c,if_pos rfl]at e;simp(maxSteps:=30000000)(disch:=omega)only[go_sem,Ij,e]
abbrev Tr:=Int×Int×Int
def FT(x:Tr):AV:=.agg [.int .i64 x.1,.int .i64 x.2.1,.int .i64 x.2.2]
def oK(l:List Tr):List AV:=l.map FT
@[simp] theorem Yh (l:List Tr):(oK l).length=l.length:=by simp [oK]
theorem Yi(l:List Tr)(k:Nat)(h:k<(oK l).length):(oK l)[k]=FT (l[k]'(by simpa using h)):=by simp[oK]
def zl(at_:Int)(x:Tr):Int:=at_+fD x.1 25
def wH(at_:Int)(x:Tr):Int:=zl at_ x+1+fD x.2.1 9
def o8(L:Int):Int->List Pr->List Pr->List Tr->List Pr×List Pr
 |_,P,C,[]=>(P,C)
 |a,P,C,x::r =>
  if L<wH a x then(P,C)
  else if fD x.2.2 3=0/\P.length<4 then o8 L (wH a x+1) (P++[(zl a x,wH a x)]) C r
  else if C.length<4 then o8 L (wH a x+1) P (C++[(zl a x,wH a x)]) r
  else o8 L (wH a x+1) P C r
theorem Yj(l:List Pr)(a b:Int):pts (l++[(a,b)])=pts l++[.agg [.int .i64 a,.int .i64 b]]:=by simp[pts,pt]
theorem ahZ{h:Heap}{v:AV}{xs:List Tr}(hv:Sl h 3 v (oK xs))(hl:xs.length<=9223372036854775807)(hi:∀ x∈xs,fA x.1/\fA x.2.1/\fA x.2.2){L:Int}(hL:1<=L/\L<=120)(D E:Int)(R:Nat×av):∀(d k:Nat) (a:Int) (P C:List Pr) (B:Nat×av),
  k+d=min xs.length 6->0<=a->a<=L+1->P.length<=4->C.length<=4 ->
  ∃ B',aA lib ⟨h.length,h.length,5,none⟩ (.loop Mg) ([(3,v),(8,.aJ (h.length+4) 1 0),(9,.aJ (h.length+3) 1 0),(10,.int .i64 a),(11,.int .i64 k)],h++[aX (0,.dead) 2 (pts P),aX (0,.dead) 2 (pts C),B,(1,.box [.int .i64 L,.int .i64 D,.int .i64 E,bq (h.length+0) (0,.dead) 2 (pts P),bq (h.length+1) (0,.dead) 2 (pts C)]),R]) =
   some (.exit 0,([(8,.aJ (h.length+4) 1 0),(9,.aJ (h.length+3) 1 0)],h++[aX (0,.dead) 2 (pts (o8 L a P C ((xs.take 6).drop k)).1),aX (0,.dead) 2 (pts (o8 L a P C ((xs.take 6).drop k)).2),B',(1,.box [.int .i64 L,.int .i64 D,.int .i64 E,bq (h.length+0) (0,.dead) 2 (pts (o8 L a P C ((xs.take 6).drop k)).1),bq (h.length+1) (0,.dead) 2 (pts (o8 L a P C ((xs.take 6).drop k)).2)]),R])):=by
 have ll:=bK hv.len;rw[Yh]at ll;have ll':=fun fr=>bK (hv.app fr).len;intro d
 induction d with
 |zero =>
  intro k a P C B hk _ _ _ _;refine⟨B, ?_⟩;rw[List.drop_eq_nil_of_le (by rw[jA];omega),o8,aR]
  by_cases c:(k:Int)<xs.length
  ·have c6:¬ (k:Int)<6:=by omega
   simp(maxSteps:=30000000)(disch:=omega)only[go_sem,ll,c,c6]
  ·simp(maxSteps:=30000000)(disch:=omega)only[go_sem,ll,c]
 |succ d ih =>
  intro k a P C B hk ha1 ha2 hP hC;have hk':k<xs.length:=by omega
  have h1:(k:Int)<xs.length:=by omega
  have h6:(k:Int)<6:=by omega
  have e3:bP 3 v (.int .i64 k)=some k:=by rw[dz hv (by omega) (by simp;omega)];simp
  have e4:=fun off fr=>dx (off:=off) (hv.elems fr) (show k<(oK xs).length by simp;omega)
  simp only[Yi,FT]at e4;obtain⟨i1,i2,i3⟩:=hi xs[k] (ja _)
  have hd:(xs.take 6).drop k=xs[k]::(xs.take 6).drop (k+1):=by
   rw[gY (by rw[jA];omega),List.getElem_take]
  rw[hd];generalize xs[k]=x at*;obtain⟨x1,x2,x3⟩:=x;simp only at e4 i1 i2 i3;have p1:=fun H lo=>Db (n:=25) (by decide) i1 H lo
  have p2:=fun H lo=>Db (n:=9) (by decide) i2 H lo
  have p3:=fun H lo=>Db (n:=3) (by decide) i3 H lo
  have r1:=qY x1 (n:=25) (by decide)
  have r2:=qY x2 (n:=9) (by decide)
  obtain⟨v0,b0⟩:=B;have hf:zl a (x1,x2,x3)=a+fD x1 25:=rfl;have ht:wH a (x1,x2,x3)=a+fD x1 25+1+fD x2 9:=rfl;simp only[o8,hf,ht];generalize fD x1 25=u at*;generalize fD x2 9=w at*;generalize fD x3 3=t at*;by_cases c1:L<a+u+1+w
  ·refine⟨(v0+1,.box [.int .i64 (a+u),.int .i64 (a+u+1+w)]), ?_⟩;simp only[if_pos c1];rw[aR];simp(maxSteps:=30000000)(disch:=omega)only[go_sem,ll,h1,h6,e3,e4,p1,p2,c1]
  ·simp only[if_neg c1];by_cases c2:t=0/\P.length<4
   ·simp only[if_pos c2];obtain⟨c2,c3⟩:=c2;subst c2;have lP:=bK (Sl.acc (h:=h) (fr:=[aX (0,.dead) 2 (pts P),aX (0,.dead) 2 (pts C),(v0+1,.box [.int .i64 (a+u),.int .i64 (a+u+1+w)]),(1,.box [.int .i64 L,.int .i64 D,.int .i64 E,bq (h.length+0) (0,.dead) 2 (pts P),bq (h.length+1) (0,.dead) 2 (pts C)]),R]) (s:=0) (z:=2) (b0:=(0,.dead)) (es:=pts P) rfl).len;rw[jq]at lP;have c3':(P.length:Int)<4:=by omega
    obtain⟨B',e⟩:=ih (k+1) (a+u+1+w+1) (P++[(a+u,a+u+1+w)]) C (v0+1,.box [.int .i64 (a+u),.int .i64 (a+u+1+w)]) (by omega) (by omega) (by omega) (by simp;omega) hC
    rw[dF,Yj]at e;refine⟨B', ?_⟩;have ap:=jk (lo:=h.length) (ns:=5) (s:=0) (z:=2) (lim:=8796093022208) (h:=h) (fr:=[aX (0,.dead) 2 (pts P),aX (0,.dead) 2 (pts C),(v0+1,.box [.int .i64 (a+u),.int .i64 (a+u+1+w)]),(1,.box [.int .i64 L,.int .i64 D,.int .i64 E,bq (h.length+0) (0,.dead) 2 (pts P),bq (h.length+1) (0,.dead) 2 (pts C)]),R]) (b0:=(0,.dead)) (es:=pts P) (xs:=[.agg [.int .i64 (a+u),.int .i64 (a+u+1+w)]]) (by omega) (by omega) rfl (by simp;omega)
    rw[aR];simp(maxSteps:=30000000)(disch:=omega)only[go_sem,ll,h1,h6,e3,e4,p1,p2,p3,c1,lP,c3',ap,mr,qP,e]
   ·simp only[if_neg c2];have lP:=bK (Sl.acc (h:=h) (fr:=[aX (0,.dead) 2 (pts P),aX (0,.dead) 2 (pts C),(v0+1,.box [.int .i64 (a+u),.int .i64 (a+u+1+w)]),(1,.box [.int .i64 L,.int .i64 D,.int .i64 E,bq (h.length+0) (0,.dead) 2 (pts P),bq (h.length+1) (0,.dead) 2 (pts C)]),R]) (s:=0) (z:=2) (b0:=(0,.dead)) (es:=pts P) rfl).len;have lC:=bK (Sl.acc (h:=h) (fr:=[aX (0,.dead) 2 (pts P),aX (0,.dead) 2 (pts C),(v0+1,.box [.int .i64 (a+u),.int .i64 (a+u+1+w)]),(1,.box [.int .i64 L,.int .i64 D,.int .i64 E,bq (h.length+0) (0,.dead) 2 (pts P),bq (h.length+1) (0,.dead) 2 (pts C)]),R]) (s:=1) (z:=2) (b0:=(0,.dead)) (es:=pts C) rfl).len;rw[jq]at lP lC;by_cases c4:C.length<4
    ·have rE:(C.length:Int)<4:=by omega
     simp only[if_pos c4];obtain⟨B',e⟩:=ih (k+1) (a+u+1+w+1) P (C++[(a+u,a+u+1+w)]) (v0+1,.box [.int .i64 (a+u),.int .i64 (a+u+1+w)]) (by omega) (by omega) (by omega) hP (by simp;omega)
     rw[dF,Yj]at e;refine⟨B', ?_⟩;have ap:=jk (lo:=h.length) (ns:=5) (s:=1) (z:=2) (lim:=8796093022208) (h:=h) (fr:=[aX (0,.dead) 2 (pts P),aX (0,.dead) 2 (pts C),(v0+1,.box [.int .i64 (a+u),.int .i64 (a+u+1+w)]),(1,.box [.int .i64 L,.int .i64 D,.int .i64 E,bq (h.length+0) (0,.dead) 2 (pts P),bq (h.length+1) (0,.dead) 2 (pts C)]),R]) (b0:=(0,.dead)) (es:=pts C) (xs:=[.agg [.int .i64 (a+u),.int .i64 (a+u+1+w)]]) (by omega) (by omega) rfl (by simp;omega)
     rw[aR];by_cases c5:t=0
     ·have c3':¬ (P.length:Int)<4:=by omega
      subst c5;simp(maxSteps:=30000000)(disch:=omega)only[go_sem,ll,h1,h6,e3,e4,p1,p2,p3,c1,lP,c3',lC,rE,ap,mr,qP,e]
     ·simp(maxSteps:=30000000)(disch:=omega)only[go_sem,ll,h1,h6,e3,e4,p1,p2,p3,c1,c5,lC,rE,ap,mr,qP,e]
    ·have rE:¬ (C.length:Int)<4:=by omega
     simp only[if_neg c4];obtain⟨B',e⟩:=ih (k+1) (a+u+1+w+1) P C (v0+1,.box [.int .i64 (a+u),.int .i64 (a+u+1+w)]) (by omega) (by omega) (by omega) hP hC
     rw[dF]at e;refine⟨B', ?_⟩;rw[aR];by_cases c5:t=0
     ·have c3':¬ (P.length:Int)<4:=by omega
      subst c5;simp(maxSteps:=30000000)(disch:=omega)only[go_sem,ll,h1,h6,e3,e4,p1,p2,p3,c1,lP,c3',lC,rE,e]
     ·simp(maxSteps:=30000000)(disch:=omega)only[go_sem,ll,h1,h6,e3,e4,p1,p2,p3,c1,c5,lC,rE,e]
def xS(a b c:Int)(d:List Tr):dI:=⟨1+fD a 120,fD b 13,1+fD c 8,(o8 (1+fD a 120) 0 [] [] (d.take 6)).1,(o8 (1+fD a 120) 0 [] [] (d.take 6)).2⟩
def FU(l:dI):AV:=.agg [.int .i64 l.L,.int .i64 l.D,.int .i64 l.E,dG 2 (pts l.P),dG 2 (pts l.C)]
theorem Yk{a b c:Int}(ha:fA a)(hb:fA b)(hc:fA c){h:Heap}{v:AV}{d:List Tr}(hv:Sl h 3 v (oK d))(hl:d.length<=9223372036854775807)(hi:∀ x∈d,fA x.1/\fA x.2.1/\fA x.2.2)(lo:Nat) :
  (run lib).fn 32 [.int .i64 a,.int .i64 b,.int .i64 c,v] h lo=some (FU (xS a b c d),h):=by
 have p1:=fun H lo=>Db (n:=120) (by decide) ha H lo
 have p2:=fun H lo=>Db (n:=13) (by decide) hb H lo
 have p3:=fun H lo=>Db (n:=8) (by decide) hc H lo
 have r1:=qY a (n:=120) (by decide)
 have r3:=qY c (n:=8) (by decide)
 obtain⟨B',e⟩:=ahZ hv hl hi (L:=1+fD a 120) (by omega) (fD b 13) (1+fD c 8) (1,.box [.int .i64 0,.int .i64 0,.int .i64 0,.aD,.aD]) (min d.length 6) 0 0 [] [] (0,.dead) (by omega) (by omega) (by omega) (by simp) (by simp)
 unfold FU xS;simp only[fH,List.drop_zero,show pts []=[]from rfl,oU,qO]at e
 generalize fD a 120=u at*;generalize fD b 13=w at*;generalize fD c 8=t at*;generalize o8 (1+u) 0 [] [] (d.take 6)=PC at*;obtain⟨P,C⟩:=PC;simp only at e⊢;have fP:=fun kk m=>Ia (h:=h) (s:=0) (z:=2) (k:=kk) (b0:=(0,.dead)) (es:=pts P) (fr:=[aX (0,.dead) 2 (pts P),aX (0,.dead) 2 (pts C),B',(1,.box [.int .i64 (1+u),.int .i64 w,.int .i64 (1+t),bq (h.length+0) (0,.dead) 2 (pts P),bq (h.length+1) (0,.dead) 2 (pts C)]),m]) rfl;have fC:=fun kk x m=>Ia (h:=h) (s:=1) (z:=2) (k:=kk) (b0:=(0,.dead)) (es:=pts C) (fr:=[x,aX (0,.dead) 2 (pts C),B',(1,.box [.int .i64 (1+u),.int .i64 w,.int .i64 (1+t),bq (h.length+0) (0,.dead) 2 (pts P),bq (h.length+1) (0,.dead) 2 (pts C)]),m]) rfl;simp only[List.set_cons_zero,List.set_cons_succ]at fP fC;rw[aY (x:=x32) rfl rfl rfl rfl];simp(maxSteps:=30000000)(disch:=omega)only[go_sem,x32,p1,p2,p3,e,fP,fC]
end Go.VI.Dump
namespace Go.VI.Dump
open Go.VI.Num
theorem O8{L:Int}{x:Pr}(h1:x.1<x.2)(h2:x.2<=L):∀{l:List Pr} {a:Int},eY L a l=true->(∀ y∈l,y.2<x.1)->a<x.1->eY L a (l++[x])=true
 |[],a,_,_,h=>by simp[eY,h1,h2,h]
 |y::l,a,ho,hm,h=>by
  simp only[eY,List.cons_append,bg,decide_eq_true_eq]at ho⊢;exact⟨ho.1,ho.2.1,ho.2.2.1,O8 h1 h2 ho.2.2.2 (fun z hz=>hm z (by simp[hz])) (hm y (by simp))⟩
structure Mk(L a:Int)(P C:List Pr):Prop where
 oP:eY L (-1) P=true
 oC:eY L (-1) C=true
 p4:P.length<=4
 c4:C.length<=4
 pe:∀ p∈P,p.2<a
 ce:∀ p∈C,p.2<a
 Cj:∀ p∈P,gL C p.1 p.2=false
theorem JK{L:Int}:∀(d:List Tr) {a:Int} {P C:List Pr},0<=a->Mk L a P C->∃ a',Mk L a' (o8 L a P C d).1 (o8 L a P C d).2
 |[],a,P,C,_,m=>⟨a,m⟩
 |x::r,a,P,C,h0,m=>by
  have r1:=qY x.1 (n:=25) (by decide)
  have r2:=qY x.2.1 (n:=9) (by decide)
  have hf:zl a x=a+fD x.1 25:=rfl;have ht:wH a x=a+fD x.1 25+1+fD x.2.1 9:=rfl;have hF:a<=zl a x:=by omega
  have hT:zl a x<wH a x:=by omega
  unfold o8;clear hf ht;generalize zl a x=f at*;generalize wH a x=t at*;have pe:∀ p∈P,p.2<t+1:=fun p hp=>by have:=m.pe p hp;omega
  have ce:∀ p∈C,p.2<t+1:=fun p hp=>by have:=m.ce p hp;omega
  by_cases c1:L<t
  ·rw[if_pos c1];exact⟨a,m⟩
  ·rw[if_neg c1];by_cases c2:fD x.2.2 3=0/\P.length<4
   ·rw[if_pos c2];refine JK r (by omega) ⟨O8 hT (by simp only[];omega) m.oP (fun y hy=>by have:=m.pe y hy;simp only[];omega) (by simp only[];omega),m.oC,by simp;omega,m.c4, ?_,ce, ?_⟩
    ·intro p hp;rcases iJ.mp hp with hp|hp
     ·exact pe p hp
     ·rw[xk.mp hp];simp only[];omega
    ·intro p hp;rcases iJ.mp hp with hp|hp
     ·exact m.Cj p hp
     ·rw[xk.mp hp,qb];intro y hy _;have:=m.ce y hy;simp only[];omega
   ·rw[if_neg c2];by_cases c3:C.length<4
    ·rw[if_pos c3];refine JK r (by omega) ⟨m.oP,O8 hT (by simp only[];omega) m.oC (fun y hy=>by have:=m.ce y hy;simp only[];omega) (by simp only[];omega),m.p4,by simp;omega,pe, ?_, ?_⟩
     ·intro p hp;rcases iJ.mp hp with hp|hp
      ·exact ce p hp
      ·rw[xk.mp hp];simp only[];omega
     ·intro p hp;rw[qb];intro y hy h;rcases iJ.mp hy with hy|hy
      ·exact qb.mp (m.Cj p hp) y hy h
      ·rw[xk.mp hy]at h⊢;have:=m.pe p hp;have:=uN m.oP p hp;simp only[]at h;omega
    ·rw[if_neg c3];exact JK r (by omega) ⟨m.oP,m.oC,m.p4,m.c4,pe,ce,m.Cj⟩
theorem Ym(a b c:Int)(d:List Tr):dD (xS a b c d):=by
 have r1:=qY a (n:=120) (by decide)
 have r2:=qY b (n:=13) (by decide)
 have r3:=qY c (n:=8) (by decide)
 obtain⟨a',m⟩:=JK (L:=1+fD a 120) (d.take 6) (a:=0) (P:=[]) (C:=[]) (by omega) ⟨rfl,rfl,by simp,by simp,by simp,by simp,by simp⟩
 exact⟨by simp only[xS];omega,by simp only[xS];omega,by simp only[xS];omega,m.oP,m.oC,m.p4,m.c4,m.Cj⟩
def fU(l:dI):LV:=⟨l,false,false,if pts l.P=[]then 0 else 2,if pts l.C=[]then 0 else 2⟩
theorem Yn(l:List Pr):AV.aN (if pts l=[]then 0 else 2) (pts l)=dG 2 (pts l):=by
 unfold dG;by_cases h:pts l=[]
 ·rw[if_pos h,if_pos h,h]
 ·rw[if_neg h,if_neg h]
theorem ah0{l:dI}(o:dD l):okV (fU l):=by
 have h1:=o.p4;have h2:=o.c4;refine⟨?_, ?_,by simp only[fU];omega,by simp only[fU];omega⟩
 ·by_cases h:pts l.P=[]
  ·exact .inr h
  ·exact .inl (if_neg h)
 ·by_cases h:pts l.C=[]
  ·exact .inr h
  ·exact .inl (if_neg h)
theorem ah1(l:dI):pV (fU l)=dG 2 (pts l.P):=Yn l.P
theorem ah2(l:dI):cV (fU l)=dG 2 (pts l.C):=Yn l.C
theorem Yo(l:dI):bI (fU l)=FU l:=by unfold bI FU;rw[ah1,ah2];rfl
theorem Yp(l:dI):(fU l).l=l:=rfl
end Go.VI.Dump
namespace Go.VI.Dump
open Go.VI.Num
/- BIGSTEPS -/
theorem Df(h:Heap)(z:Nat)(es:List AV):Sl h z (.aN z es) es:=vL (.inl rfl)
theorem AY{l:dI}(ok:dD l){xs:List Stp}{e:Int}(hc:Ch l 0 l.D xs e):((dS l xs).length:Int)=l.L+e:=by
 have h1:=hc.EX ok.E.1;have h2:=ok.D;unfold dS;rw[dZ,mh];omega
end Go.VI.Dump
namespace Go.VI.Dump
open Go.VI.Num
/- BIGSTEPS -/
def AZ(l:dI):Nat->Int->Int->List Stp
 |0,_,_=>[]
 |n+1,s,d =>
  if l.L<=s then[]
  else if hasB l.C s then(if 0<d then⟨s,s+1,s+d,s+d,d,true,false⟩::AZ l n (s+1) (d-1) else⟨s,s+1,s+d,s+d+1,d,true,false⟩::AZ l n (s+1) d)
  else if oW l s d then⟨s,s+l.E,s+d,s+d+l.E+1,d,false,true⟩::AZ l n (s+l.E) (d+1)
  else⟨s,s+1,s+d,s+d+1,d,false,false⟩::AZ l n (s+1) d
theorem FY{l:dI}(hE:1<=l.E):∀(n:Nat) (s d:Int),l.L-s<=n->s<=l.L->0<=d->∃ e,Ch l s d (AZ l n s d) e
 |0,s,d,h1,h2,h3=>by
  obtain rfl:s=l.L:=by omega
  exact⟨_,.nil d⟩
 |n+1,s,d,h1,h2,h3=>by
  rw[AZ];by_cases c:l.L<=s
  ·obtain rfl:s=l.L:=by omega
   rw[if_pos c];exact⟨_,.nil d⟩
  ·rw[if_neg c];cases hc:hasB l.C s
   ·rw[if_neg uZ];cases hs:oW l s d
    ·obtain⟨e,h⟩:=FY hE n (s+1) d (by omega) (by omega) h3
     rw[if_neg uZ];exact⟨_,.pl (by omega) hc hs h⟩
    ·simp only[oW,bg,decide_eq_true_eq,ku]at hs;obtain⟨a1,a2,a3,a4⟩:=hs;obtain⟨e,h⟩:=FY hE n (s+l.E) (d+1) (by omega) (by omega) (by omega)
     rw[if_pos rfl];exact⟨_,.str (by omega) hc a1 a2 a3 a4 h⟩
   ·rw[if_pos rfl];by_cases hd:0<d
    ·obtain⟨e,h⟩:=FY hE n (s+1) (d-1) (by omega) (by omega) (by omega)
     rw[if_pos hd];exact⟨_,.kR (by omega) hc hd h⟩
    ·obtain⟨e,h⟩:=FY hE n (s+1) d (by omega) (by omega) h3
     rw[if_neg hd];exact⟨_,.kS (by omega) hc (by omega) h⟩
def l0:dI:=⟨12,3,2,[(8,9)],[(2,4)]⟩
def x0:LV:=⟨l0,true,true,2,2⟩
theorem A7:okV x0:=⟨.inl rfl,.inl rfl,by decide,by decide⟩
theorem Dh:dD l0:=⟨by decide,by decide,by decide,by decide,by decide,by decide,by decide,by decide⟩
def FZ:List Stp:=AZ l0 12 0 3
theorem ch0:∃ e,Ch l0 0 l0.D FZ e:=FY (by decide) 12 0 3 (by decide) (by decide) (by decide)
theorem ah4:dS l0 FZ=[-1,-1,-1,0,1,4,4,5,6,6,7,8,9,10,11]:=by decide
theorem ah5:dR FZ=[3,3,3,2,1,1,2,2,3,3,3,3]:=by decide
theorem ah6:jK l0 FZ=[8]:=by decide
theorem ah7:gG l0=[(0,2),(4,12)]:=by decide
theorem ah8:jJ (4,12) FZ=[(4,5),(8,11),(12,15)]:=by decide
end Go.VI.Dump
namespace Go.VI.Dump
open Go.VI.Num
/- BIGSTEPS -/
theorem Yq(z:Nat)(es:List AV):(AV.aM z es).cells=[.aM z es]:=rfl
theorem Yr(z:Nat)(es:List AV):(AV.aM z es).val=true:=rfl
abbrev v0:AV:=.agg [.int .i64 12,.int .i64 3,.int .i64 2,pV x0,cV x0]
theorem ah9(H:Heap)(lo:Nat):(run lib).fn 45 [] H lo=some (v0,H):=by
 have e1:pV x0=.aM 2 [.agg [.int .i64 8,.int .i64 9]]:=rfl;have e2:cV x0=.aM 2 [.agg [.int .i64 2,.int .i64 4]]:=rfl;unfold v0;rw[e1,e2,aY (x:=Ml) rfl rfl rfl rfl];simp(maxSteps:=30000000)(disch:=omega)only[go_sem,Ml,Yq,Yr]
set_option maxRecDepth 100000
end Go.VI.Dump
namespace Go.VI.Dump
open Go.VI.Num
/- BIGSTEPS -/
end Go.VI.Dump
namespace Go.VI.Dump
open Go.VI.Num
theorem Yt{cs:List AV}(h:gK (.slice 3 (.agg [.int .i64,.int .i64,.int .i64])) cs):∃ l:List Tr,(∀ hp,Sl hp 3 (fG.mk (.slice 3 (.agg [.int .i64,.int .i64,.int .i64])) cs) (oK l))/\l.length<=9223372036854775807/\∀ x∈l,fA x.1/\fA x.2.1/\fA x.2.2:=by
 obtain⟨es,h1,h2,h3⟩:=ad8 h
 obtain⟨l,rfl,h4⟩:=Ul (f:=FT) (Q:=fun x=>fA x.1/\fA x.2.1/\fA x.2.2) (es:=es) fun x hx=>by
  obtain⟨c,rfl,hc⟩:=h3 x hx;simp only[gK,xA]at hc;obtain⟨a,b,rfl,⟨n,rfl,hn⟩,a',b',rfl,⟨n',rfl,hn'⟩,a'',b'',rfl,⟨n'',rfl,Yu⟩,rfl⟩:=hc;obtain⟨m,e1,o1⟩:=Ie (cs:=[.int .i64 n]) (by simp only[gK];exact⟨n,rfl,hn⟩)
  obtain⟨m',e2,o2⟩:=Ie (cs:=[.int .i64 n']) (by simp only[gK];exact⟨n',rfl,hn'⟩)
  obtain⟨m'',e3,o3⟩:=Ie (cs:=[.int .i64 n'']) (by simp only[gK];exact⟨n'',rfl,Yu⟩)
  simp only[List.cons.injEq,AV.int.injEq,true_and,and_true]at e1 e2 e3;subst e1 e2 e3;exact⟨(n,n',n''),rfl,o1,o2,o3⟩
 exact⟨l,h1,by simpa using h2,h4⟩
theorem F3{t:List AV}(h:gK (.int .i64) t):∃ n,fG.mk (.int .i64) t=.int .i64 n/\fA n:=by
 obtain⟨n,rfl,h1,h2⟩:=Ie h;exact⟨n,rfl,h1,h2⟩
end Go.VI.Dump
namespace Go.VI.Dump
open Go.VI.Num
/- BIGSTEPS -/
end Go.VI.Dump
namespace Go.VI.Dump
open Go.VI.Num
/- BIGSTEPS -/
theorem ah'(h:Heap)(es:List AV):Sl h 1 (dw (CX es)) es:=by
 unfold CX;by_cases h0:es=[]
 ·rw[if_pos h0,h0];exact Sl.aM h 1 []
 ·rw[if_neg h0];exact Df h 1 es
end Go.VI.Dump
namespace Go.VI.Dump
open Go.VI.Num
/- BIGSTEPS -/
theorem aia(a b c d:Int):tY true [.i .i64,.i .i64] (.agg [.int .i64 a,.int .i64 b]) (.agg [.int .i64 c,.int .i64 d])=some (.bool (!decide (((a,b):Pr)=(c,d)))):=by
 rw[Ll (by simp) rfl rfl,if_pos rfl]
 congr 3;simp only[iU,zy,Bool.and_true,ax];by_cases h1:a=c<;>by_cases h2:b=d<;>simp[h1,h2]
theorem aib{h:Heap}{v u:AV}{l m:List Pr}(hv:Sl h 2 v (pts l))(hu:Sl h 2 u (pts m))(hl:l.length<=9223372036854775807)(hm:l.length=m.length)(lo:Nat)(d:Nat) :
  ∀ k:Nat,d=l.length-k->k<=l.length->aA lib ⟨lo,h.length,0,none⟩ (.loop L9) ([(0,v),(1,u),(5,.int .i64 k)],h)=if l.drop k=m.drop k then some (.exit 0,([],h))else some (.ret,([(4,.bool false)],h)):=by
 have lv:=bK hv.len;rw[jq]at lv
 induction d with
 |zero =>
  intro k hd hk;have:k=l.length:=by omega
  subst this;rw[kE,hm,kE,if_pos rfl,<-hm,aR]
  simp(maxSteps:=30000000)(disch:=omega)only[go_sem,lv,dU]
 |succ d ih =>
  intro k hd hk;have hk':k<l.length:=by omega
  have hkm:k<m.length:=by omega
  have h1:(k:Int)<l.length:=by omega
  have e3:bP 2 v (.int .i64 k)=some k:=by rw[dz hv (by omega) (by simp;omega)];simp
  have e4:=fun off=>dx (off:=off) hv.eO (show k<(pts l).length by simp;omega)
  have f3:bP 2 u (.int .i64 k)=some k:=by rw[dz hu (by omega) (by simp;omega)];simp
  have f4:=fun off=>dx (off:=off) hu.eO (show k<(pts m).length by simp;omega)
  simp only[tC,pt]at e4 f4;rw[gY hk',gY hkm];have e:=ih (k+1) (by omega) (by omega)
  rw[dF]at e;generalize l[k]=q at*;generalize m[k]=r at*;obtain⟨q1,q2⟩:=q;obtain⟨r1,r2⟩:=r;simp only at e4 f4;have eq:=aia q1 q2 r1 r2;rw[aR];by_cases hx:((q1,q2):Pr)=(r1,r2)
  ·have hx':(((q1,q2):Pr)=(r1,r2))=True:=eq_true hx;rw[decide_eq_true hx]at eq;simp only[List.cons.injEq,hx',true_and];simp(maxSteps:=30000000)(disch:=omega)only[go_sem,lv,h1,e3,e4,f3,f4,eq,e]
  ·have hx':(((q1,q2):Pr)=(r1,r2))=False:=eq_false hx;rw[decide_eq_false hx]at eq;simp only[List.cons.injEq,hx',false_and,if_false];simp(maxSteps:=30000000)(disch:=omega)only[go_sem,lv,h1,e3,e4,f3,f4,eq]
theorem aic{h:Heap}{v u:AV}{l m:List Pr}(hv:Sl h 2 v (pts l))(hu:Sl h 2 u (pts m))(hl:l.length<=9223372036854775807)(lo:Nat):(run lib).fn 25 [v,u] h lo=some (.bool (decide (l=m)),h):=by
 have lv:=bK hv.len;have lu:=bK hu.len;rw[jq]at lv lu;rw[aY (x:=x25) rfl rfl rfl rfl];by_cases h1:l.length=m.length
 ·have e:=aib hv hu hl h1 h.length _ 0 rfl (by omega)
  simp only[fH,List.drop_zero]at e;have h2:(l.length:Int)=m.length:=by omega
  by_cases h3:l=m
  ·rw[if_pos h3]at e;rw[decide_eq_true h3];simp(maxSteps:=30000000)(disch:=omega)only[go_sem,x25,lv,lu,h2,e]
  ·rw[if_neg h3]at e;rw[decide_eq_false h3];simp(maxSteps:=30000000)(disch:=omega)only[go_sem,x25,lv,lu,h2,e]
 ·have h2:¬ (l.length:Int)=m.length:=by omega
  have h3:¬ l=m:=fun hh=>h1 (by rw[hh])
  rw[decide_eq_false h3];simp(maxSteps:=30000000)(disch:=omega)only[go_sem,x25,lv,lu,h2]
end Go.VI.Dump
