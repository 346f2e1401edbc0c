/- What the functions on integers compute, part MW. -/
import Derived.Test.YtfpoegnmeoghpaaGreatDoorDumpMU
import Derived.Test.YtfpoegnmeoghpaaGreatDoorDumpMV
set_option linter.unusedVariables false
set_option linter.unusedSimpArgs false
namespace Go.VI.Dump
open Go.VI.Num
/- BIGSTEPS -/
theorem ak4{c n:Int}(hn:0<n)(hc:rJ c)(h:Heap)(lo:Nat):(run lib).fn 64 [.int .i64 c,.int .i64 n] h lo=some (.int .i64 (zq c n),h):=by
 obtain⟨h1,h2⟩:=hc;unfold zq;rw[jH (x:=x64) rfl rfl rfl rfl];by_cases c0:c<0
 ·rw[if_pos c0];simp(maxSteps:=30000000)(disch:=omega)only[go_sem,x64,c0]
 ·rw[if_neg c0];simp(maxSteps:=30000000)(disch:=omega)only[go_sem,x64,c0]
theorem aMw{h:Heap}{v:AV}{l:List Pr}(hv:Sl h 2 v (pts l))(hl:l.length<=9223372036854775807)(s:Int):∀(d k:Nat),k+d=l.length ->
  bV lib ⟨h.length,h.length,0,none⟩ (.loop atb) ([(0,v),(1,.int .i64 s),(5,.int .i64 k)],h) =
   if hasB (l.drop k) s=true then some (.ret,([(4,.bool true)],h))else some (.exit 0,([],h)):=by
 have ll:=oW hv.len;rw[Z0]at ll;intro d
 induction d with
 |zero =>
  intro k hk;obtain rfl:k=l.length:=by omega
  rw[RH,jm]
  simp(maxSteps:=30000000)(disch:=omega)only[go_sem,ll,DV,hasB,List.any_nil,uM]
 |succ d ih =>
  intro k hk;have hk':k<l.length:=by omega
  have h1:(k:Int)<l.length:=by omega
  have e3:vJ 2 v (.int .i64 k)=some k:=by rw[Bu hv (by omega) (by simp;omega)];simp
  have e4:=fun off=>Ab (off:=off) hv.DC (show k<(pts l).length by simp;omega)
  simp only[ajx,pt]at e4;have e:=ih (k+1) (by omega)
  rw[Dm]at e
  have hd:hasB (l.drop k) s=((decide (l[k].1<=s)&&decide (s<l[k].2))||hasB (l.drop (k+1)) s):=by
   rw[JB hk'];rfl
  rw[hd];generalize l[k]=q at*;obtain⟨q1,q2⟩:=q;simp only at e4⊢;by_cases c1:q1<=s
  ·by_cases c2:s<q2
   ·rw[if_pos (by simp[c1,c2]),jm]
    simp(maxSteps:=30000000)(disch:=omega)only[go_sem,ll,h1,e3,e4,c1,c2]
   ·rw[show (decide (q1<=s)&&decide (s<q2))=false by simp[c2],Bool.false_or,<-e,jm]
    simp(maxSteps:=30000000)(disch:=omega)only[go_sem,ll,h1,e3,e4,c1,c2]
  ·rw[show (decide (q1<=s)&&decide (s<q2))=false by simp[c1],Bool.false_or,<-e,jm]
   simp(maxSteps:=30000000)(disch:=omega)only[go_sem,ll,h1,e3,e4,c1]
theorem awY{h:Heap}{v:AV}{l:List Pr}(hv:Sl h 2 v (pts l))(hl:l.length<=9223372036854775807)(s:Int)(lo:Nat):(run lib).fn 33 [v,.int .i64 s] h lo=some (.bool (hasB l s),h):=by
 have e:=aMw hv hl s l.length 0 (by omega)
 simp only[Gc,List.drop_zero]at e;rw[jH (x:=x33) rfl rfl rfl rfl];cases c:hasB l s
 ·rw[c,if_neg (by simp)]at e
  simp(maxSteps:=30000000)(disch:=omega)only[go_sem,x33,e]
 ·rw[c,if_pos rfl]at e;simp(maxSteps:=30000000)(disch:=omega)only[go_sem,x33,e]
theorem aMx{h:Heap}{v:AV}{l:List Int}(hv:Sl h 1 v (ints l))(hl:l.length<=9223372036854775807)(s:Int):∀(d k:Nat),k+d=l.length ->
  ∃ o,bV lib ⟨h.length,h.length,0,none⟩ (.loop atc) ([(0,v),(1,.int .i64 s),(5,.int .i64 k)],h)=some o /\
   (o=(.exit 0,([],h))/\ZQ s (l.drop k) k=-1\/o=(.ret,([(4,.int .i64 (ZQ s (l.drop k) k))],h))):=by
 have ll:=oW hv.len;rw[DI]at ll;intro d
 induction d with
 |zero =>
  intro k hk;obtain rfl:k=l.length:=by omega
  refine⟨_, ?_,.inl ⟨rfl,by rw[RH];rfl⟩⟩
  rw[jm]
  simp(maxSteps:=30000000)(disch:=omega)only[go_sem,ll,DV]
 |succ d ih =>
  intro k hk;have hk':k<l.length:=by omega
  have h1:(k:Int)<l.length:=by omega
  have e3:vJ 1 v (.int .i64 k)=some k:=by rw[Bu hv (by omega) (by simp;omega)];simp
  have e4:=fun off=>Ab (off:=off) hv.DC (show k<(ints l).length by simp;omega)
  simp only[acy]at e4;obtain⟨o,e,ho⟩:=ih (k+1) (by omega)
  rw[Dm]at e ho;rw[JB hk',ZQ];by_cases c1:l[k]=s
  ·refine⟨_, ?_,.inr rfl⟩;rw[if_pos c1,jm];simp(maxSteps:=30000000)(disch:=omega)only[go_sem,ll,h1,e3,e4,c1]
  ·refine⟨o, ?_,by rw[if_neg c1];exact ho⟩
   rw[<-e,jm];simp(maxSteps:=30000000)(disch:=omega)only[go_sem,ll,h1,e3,e4,c1]
theorem aMy{h:Heap}{v:AV}{l:List Int}(hv:Sl h 1 v (ints l))(hl:l.length<=9223372036854775807)(s:Int)(lo:Nat):(run lib).fn 34 [v,.int .i64 s] h lo=some (.int .i64 (ZQ s l 0),h):=by
 obtain⟨o,e,ho⟩:=aMx hv hl s l.length 0 (by omega)
 simp only[Gc,List.drop_zero]at e ho;rw[jH (x:=x34) rfl rfl rfl rfl];rcases ho with⟨rfl,ho⟩|rfl
 ·rw[ho];simp(maxSteps:=30000000)(disch:=omega)only[go_sem,x34,e]
 ·simp(maxSteps:=30000000)(disch:=omega)only[go_sem,x34,e]
abbrev Tr:=Int×Int×Int
def tri(x:Tr):AV:=.agg [.int .i64 x.1,.int .i64 x.2.1,.int .i64 x.2.2]
def Sq(l:List Tr):List AV:=l.map tri
@[simp] theorem aC5 (l:List Tr):(Sq l).length=l.length:=by simp [Sq]
theorem aC6(l:List Tr)(k:Nat)(h:k<(Sq l).length):(Sq l)[k]=tri (l[k]'(by simpa using h)):=by simp[Sq]
def trF(at_:Int)(x:Tr):Int:=at_+zq x.1 25
def trT(at_:Int)(x:Tr):Int:=trF at_ x+1+zq x.2.1 9
def SK(L:Int):Int->List Pr->List Pr->List Tr->List Pr×List Pr
 |_,P,C,[]=>(P,C)
 |a,P,C,x::r =>
  if L<trT a x then(P,C)
  else if zq x.2.2 3=0/\P.length<4 then SK L (trT a x+1) (P++[(trF a x,trT a x)]) C r
  else if C.length<4 then SK L (trT a x+1) P (C++[(trF a x,trT a x)]) r
  else SK L (trT a x+1) P C r
theorem aC7(l:List Pr)(a b:Int):pts (l++[(a,b)])=pts l++[.agg [.int .i64 a,.int .i64 b]]:=by simp[pts,pt]
theorem aMz{h:Heap}{v:AV}{xs:List Tr}(hv:Sl h 3 v (Sq xs))(hl:xs.length<=9223372036854775807)(hi:∀ x∈xs,rJ x.1/\rJ x.2.1/\rJ x.2.2){L:Int}(hL:1<=L/\L<=120)(D E:Int)(R:Nat×aU):∀(d k:Nat) (a:Int) (P C:List Pr) (B:Nat×aU),
  k+d=min xs.length 6->0<=a->a<=L+1->P.length<=4->C.length<=4 ->
  ∃ B',bV lib ⟨h.length,h.length,5,none⟩ (.loop ata) ([(3,v),(8,.bq (h.length+4) 1 0),(9,.bq (h.length+3) 1 0),(10,.int .i64 a),(11,.int .i64 k)],h++[jw (0,.dead) 2 (pts P),jw (0,.dead) 2 (pts C),B,(1,.box [.int .i64 L,.int .i64 D,.int .i64 E,jJ (h.length+0) (0,.dead) 2 (pts P),jJ (h.length+1) (0,.dead) 2 (pts C)]),R]) =
   some (.exit 0,([(8,.bq (h.length+4) 1 0),(9,.bq (h.length+3) 1 0)],h++[jw (0,.dead) 2 (pts (SK L a P C ((xs.take 6).drop k)).1),jw (0,.dead) 2 (pts (SK L a P C ((xs.take 6).drop k)).2),B',(1,.box [.int .i64 L,.int .i64 D,.int .i64 E,jJ (h.length+0) (0,.dead) 2 (pts (SK L a P C ((xs.take 6).drop k)).1),jJ (h.length+1) (0,.dead) 2 (pts (SK L a P C ((xs.take 6).drop k)).2)]),R])):=by
 have ll:=oW hv.len;rw[aC5]at ll;have ll':=fun fr=>oW (hv.app fr).len;intro d
 induction d with
 |zero =>
  intro k a P C B hk _ _ _ _;refine⟨B, ?_⟩;rw[List.drop_eq_nil_of_le (by rw[JK];omega),SK,jm]
  by_cases c:(k:Int)<xs.length
  ·have c6:¬ (k:Int)<6:=by omega
   simp(maxSteps:=30000000)(disch:=omega)only[go_sem,ll,c,c6]
  ·simp(maxSteps:=30000000)(disch:=omega)only[go_sem,ll,c]
 |succ d ih =>
  intro k a P C B hk ha1 ha2 hP hC;have hk':k<xs.length:=by omega
  have h1:(k:Int)<xs.length:=by omega
  have h6:(k:Int)<6:=by omega
  have e3:vJ 3 v (.int .i64 k)=some k:=by rw[Bu hv (by omega) (by simp;omega)];simp
  have e4:=fun off fr=>Ab (off:=off) (hv.elems fr) (show k<(Sq xs).length by simp;omega)
  simp only[aC6,tri]at e4;obtain⟨i1,i2,i3⟩:=hi xs[k] (JC _)
  have hd:(xs.take 6).drop k=xs[k]::(xs.take 6).drop (k+1):=by
   rw[JB (by rw[JK];omega),List.getElem_take]
  rw[hd];generalize xs[k]=x at*;obtain⟨x1,x2,x3⟩:=x;simp only at e4 i1 i2 i3;have p1:=fun H lo=>ak4 (n:=25) (by decide) i1 H lo
  have p2:=fun H lo=>ak4 (n:=9) (by decide) i2 H lo
  have p3:=fun H lo=>ak4 (n:=3) (by decide) i3 H lo
  have r1:=Sk x1 (n:=25) (by decide)
  have r2:=Sk x2 (n:=9) (by decide)
  obtain⟨v0,b0⟩:=B;have hf:trF a (x1,x2,x3)=a+zq x1 25:=rfl;have ht:trT a (x1,x2,x3)=a+zq x1 25+1+zq x2 9:=rfl;simp only[SK,hf,ht];generalize zq x1 25=u at*;generalize zq x2 9=w at*;generalize zq x3 3=t at*;by_cases c1:L<a+u+1+w
  ·refine⟨(v0+1,.box [.int .i64 (a+u),.int .i64 (a+u+1+w)]), ?_⟩;simp only[if_pos c1];rw[jm];simp(maxSteps:=30000000)(disch:=omega)only[go_sem,ll,h1,h6,e3,e4,p1,p2,c1]
  ·simp only[if_neg c1];by_cases c2:t=0/\P.length<4
   ·simp only[if_pos c2];obtain⟨c2,c3⟩:=c2;subst c2;have lP:=oW (Sl.acc (h:=h) (fr:=[jw (0,.dead) 2 (pts P),jw (0,.dead) 2 (pts C),(v0+1,.box [.int .i64 (a+u),.int .i64 (a+u+1+w)]),(1,.box [.int .i64 L,.int .i64 D,.int .i64 E,jJ (h.length+0) (0,.dead) 2 (pts P),jJ (h.length+1) (0,.dead) 2 (pts C)]),R]) (s:=0) (z:=2) (b0:=(0,.dead)) (es:=pts P) rfl).len;rw[Z0]at lP;have c3':(P.length:Int)<4:=by omega
    obtain⟨B',e⟩:=ih (k+1) (a+u+1+w+1) (P++[(a+u,a+u+1+w)]) C (v0+1,.box [.int .i64 (a+u),.int .i64 (a+u+1+w)]) (by omega) (by omega) (by omega) (by simp;omega) hC
    rw[Dm,aC7]at e;refine⟨B', ?_⟩;have ap:=RQ (lo:=h.length) (ns:=5) (s:=0) (z:=2) (lim:=8796093022208) (h:=h) (fr:=[jw (0,.dead) 2 (pts P),jw (0,.dead) 2 (pts C),(v0+1,.box [.int .i64 (a+u),.int .i64 (a+u+1+w)]),(1,.box [.int .i64 L,.int .i64 D,.int .i64 E,jJ (h.length+0) (0,.dead) 2 (pts P),jJ (h.length+1) (0,.dead) 2 (pts C)]),R]) (b0:=(0,.dead)) (es:=pts P) (xs:=[.agg [.int .i64 (a+u),.int .i64 (a+u+1+w)]]) (by omega) (by omega) rfl (by simp;omega)
    rw[jm];simp(maxSteps:=30000000)(disch:=omega)only[go_sem,ll,h1,h6,e3,e4,p1,p2,p3,c1,lP,c3',ap,Tt,ai9,e]
   ·simp only[if_neg c2];have lP:=oW (Sl.acc (h:=h) (fr:=[jw (0,.dead) 2 (pts P),jw (0,.dead) 2 (pts C),(v0+1,.box [.int .i64 (a+u),.int .i64 (a+u+1+w)]),(1,.box [.int .i64 L,.int .i64 D,.int .i64 E,jJ (h.length+0) (0,.dead) 2 (pts P),jJ (h.length+1) (0,.dead) 2 (pts C)]),R]) (s:=0) (z:=2) (b0:=(0,.dead)) (es:=pts P) rfl).len;have lC:=oW (Sl.acc (h:=h) (fr:=[jw (0,.dead) 2 (pts P),jw (0,.dead) 2 (pts C),(v0+1,.box [.int .i64 (a+u),.int .i64 (a+u+1+w)]),(1,.box [.int .i64 L,.int .i64 D,.int .i64 E,jJ (h.length+0) (0,.dead) 2 (pts P),jJ (h.length+1) (0,.dead) 2 (pts C)]),R]) (s:=1) (z:=2) (b0:=(0,.dead)) (es:=pts C) rfl).len;rw[Z0]at lP lC;by_cases c4:C.length<4
    ·have c4':(C.length:Int)<4:=by omega
     simp only[if_pos c4];obtain⟨B',e⟩:=ih (k+1) (a+u+1+w+1) P (C++[(a+u,a+u+1+w)]) (v0+1,.box [.int .i64 (a+u),.int .i64 (a+u+1+w)]) (by omega) (by omega) (by omega) hP (by simp;omega)
     rw[Dm,aC7]at e;refine⟨B', ?_⟩;have ap:=RQ (lo:=h.length) (ns:=5) (s:=1) (z:=2) (lim:=8796093022208) (h:=h) (fr:=[jw (0,.dead) 2 (pts P),jw (0,.dead) 2 (pts C),(v0+1,.box [.int .i64 (a+u),.int .i64 (a+u+1+w)]),(1,.box [.int .i64 L,.int .i64 D,.int .i64 E,jJ (h.length+0) (0,.dead) 2 (pts P),jJ (h.length+1) (0,.dead) 2 (pts C)]),R]) (b0:=(0,.dead)) (es:=pts C) (xs:=[.agg [.int .i64 (a+u),.int .i64 (a+u+1+w)]]) (by omega) (by omega) rfl (by simp;omega)
     rw[jm];by_cases c5:t=0
     ·have c3':¬ (P.length:Int)<4:=by omega
      subst c5;simp(maxSteps:=30000000)(disch:=omega)only[go_sem,ll,h1,h6,e3,e4,p1,p2,p3,c1,lP,c3',lC,c4',ap,Tt,ai9,e]
     ·simp(maxSteps:=30000000)(disch:=omega)only[go_sem,ll,h1,h6,e3,e4,p1,p2,p3,c1,c5,lC,c4',ap,Tt,ai9,e]
    ·have c4':¬ (C.length:Int)<4:=by omega
     simp only[if_neg c4];obtain⟨B',e⟩:=ih (k+1) (a+u+1+w+1) P C (v0+1,.box [.int .i64 (a+u),.int .i64 (a+u+1+w)]) (by omega) (by omega) (by omega) hP hC
     rw[Dm]at e;refine⟨B', ?_⟩;rw[jm];by_cases c5:t=0
     ·have c3':¬ (P.length:Int)<4:=by omega
      subst c5;simp(maxSteps:=30000000)(disch:=omega)only[go_sem,ll,h1,h6,e3,e4,p1,p2,p3,c1,lP,c3',lC,c4',e]
     ·simp(maxSteps:=30000000)(disch:=omega)only[go_sem,ll,h1,h6,e3,e4,p1,p2,p3,c1,c5,lC,c4',e]
def Rw(a b c:Int)(d:List Tr):qf:=⟨1+zq a 120,zq b 13,1+zq c 8,(SK (1+zq a 120) 0 [] [] (d.take 6)).1,(SK (1+zq a 120) 0 [] [] (d.take 6)).2⟩
def am3(l:qf):AV:=.agg [.int .i64 l.L,.int .i64 l.D,.int .i64 l.E,zn 2 (pts l.P),zn 2 (pts l.C)]
theorem aMA{a b c:Int}(ha:rJ a)(hb:rJ b)(hc:rJ c){h:Heap}{v:AV}{d:List Tr}(hv:Sl h 3 v (Sq d))(hl:d.length<=9223372036854775807)(hi:∀ x∈d,rJ x.1/\rJ x.2.1/\rJ x.2.2)(lo:Nat) :
  (run lib).fn 32 [.int .i64 a,.int .i64 b,.int .i64 c,v] h lo=some (am3 (Rw a b c d),h):=by
 have p1:=fun H lo=>ak4 (n:=120) (by decide) ha H lo
 have p2:=fun H lo=>ak4 (n:=13) (by decide) hb H lo
 have p3:=fun H lo=>ak4 (n:=8) (by decide) hc H lo
 have r1:=Sk a (n:=120) (by decide)
 have r3:=Sk c (n:=8) (by decide)
 obtain⟨B',e⟩:=aMz hv hl hi (L:=1+zq a 120) (by omega) (zq b 13) (1+zq c 8) (1,.box [.int .i64 0,.int .i64 0,.int .i64 0,.bO,.bO]) (min d.length 6) 0 0 [] [] (0,.dead) (by omega) (by omega) (by omega) (by simp) (by simp)
 unfold am3 Rw;simp only[Gc,List.drop_zero,show pts []=[]from rfl,ai8,al8]at e
 generalize zq a 120=u at*;generalize zq b 13=w at*;generalize zq c 8=t at*;generalize SK (1+u) 0 [] [] (d.take 6)=PC at*;obtain⟨P,C⟩:=PC;simp only at e⊢;have fP:=fun kk m=>asS (h:=h) (s:=0) (z:=2) (k:=kk) (b0:=(0,.dead)) (es:=pts P) (fr:=[jw (0,.dead) 2 (pts P),jw (0,.dead) 2 (pts C),B',(1,.box [.int .i64 (1+u),.int .i64 w,.int .i64 (1+t),jJ (h.length+0) (0,.dead) 2 (pts P),jJ (h.length+1) (0,.dead) 2 (pts C)]),m]) rfl;have fC:=fun kk x m=>asS (h:=h) (s:=1) (z:=2) (k:=kk) (b0:=(0,.dead)) (es:=pts C) (fr:=[x,jw (0,.dead) 2 (pts C),B',(1,.box [.int .i64 (1+u),.int .i64 w,.int .i64 (1+t),jJ (h.length+0) (0,.dead) 2 (pts P),jJ (h.length+1) (0,.dead) 2 (pts C)]),m]) rfl;simp only[List.set_cons_zero,List.set_cons_succ]at fP fC;rw[jH (x:=x32) rfl rfl rfl rfl];simp(maxSteps:=30000000)(disch:=omega)only[go_sem,x32,p1,p2,p3,e,Tt,ai9,fP,fC]
end Go.VI.Dump
namespace Go.VI.Dump
open Go.VI.Num
theorem awZ{L:Int}{x:Pr}(h1:x.1<x.2)(h2:x.2<=L):∀{l:List Pr} {a:Int},Gt L a l=true->(∀ y∈l,y.2<x.1)->a<x.1->Gt L a (l++[x])=true
 |[],a,_,_,h=>by simp[Gt,h1,h2,h]
 |y::l,a,ho,hm,h=>by
  simp only[Gt,List.cons_append,fw,decide_eq_true_eq]at ho⊢;exact⟨ho.1,ho.2.1,ho.2.2.1,awZ h1 h2 ho.2.2.2 (fun z hz=>hm z (by simp[hz])) (hm y (by simp))⟩
structure Mk(L a:Int)(P C:List Pr):Prop where
 oP:Gt L (-1) P=true
 oC:Gt L (-1) C=true
 p4:P.length<=4
 c4:C.length<=4
 pe:∀ p∈P,p.2<a
 ce:∀ p∈C,p.2<a
 dis:∀ p∈P,zu C p.1 p.2=false
theorem aq7{L:Int}:∀(d:List Tr) {a:Int} {P C:List Pr},0<=a->Mk L a P C->∃ a',Mk L a' (SK L a P C d).1 (SK L a P C d).2
 |[],a,P,C,_,m=>⟨a,m⟩
 |x::r,a,P,C,h0,m=>by
  have r1:=Sk x.1 (n:=25) (by decide)
  have r2:=Sk x.2.1 (n:=9) (by decide)
  have hf:trF a x=a+zq x.1 25:=rfl;have ht:trT a x=a+zq x.1 25+1+zq x.2.1 9:=rfl;have hF:a<=trF a x:=by omega
  have hT:trF a x<trT a x:=by omega
  unfold SK;clear hf ht;generalize trF a x=f at*;generalize trT a x=t at*;have pe:∀ p∈P,p.2<t+1:=fun p hp=>by have:=m.pe p hp;omega
  have ce:∀ p∈C,p.2<t+1:=fun p hp=>by have:=m.ce p hp;omega
  by_cases c1:L<t
  ·rw[if_pos c1];exact⟨a,m⟩
  ·rw[if_neg c1];by_cases c2:zq x.2.2 3=0/\P.length<4
   ·rw[if_pos c2];refine aq7 r (by omega) ⟨awZ hT (by simp only[];omega) m.oP (fun y hy=>by have:=m.pe y hy;simp only[];omega) (by simp only[];omega),m.oC,by simp;omega,m.c4, ?_,ce, ?_⟩
    ·intro p hp;rcases Di.mp hp with hp|hp
     ·exact pe p hp
     ·rw[ach.mp hp];simp only[];omega
    ·intro p hp;rcases Di.mp hp with hp|hp
     ·exact m.dis p hp
     ·rw[ach.mp hp,YQ];intro y hy _;have:=m.ce y hy;simp only[];omega
   ·rw[if_neg c2];by_cases c3:C.length<4
    ·rw[if_pos c3];refine aq7 r (by omega) ⟨m.oP,awZ hT (by simp only[];omega) m.oC (fun y hy=>by have:=m.ce y hy;simp only[];omega) (by simp only[];omega),m.p4,by simp;omega,pe, ?_, ?_⟩
     ·intro p hp;rcases Di.mp hp with hp|hp
      ·exact ce p hp
      ·rw[ach.mp hp];simp only[];omega
     ·intro p hp;rw[YQ];intro y hy h;rcases Di.mp hy with hy|hy
      ·exact YQ.mp (m.dis p hp) y hy h
      ·rw[ach.mp hy]at h⊢;have:=m.pe p hp;have:=Zf m.oP p hp;simp only[]at h;omega
    ·rw[if_neg c3];exact aq7 r (by omega) ⟨m.oP,m.oC,m.p4,m.c4,pe,ce,m.dis⟩
theorem am4(a b c:Int)(d:List Tr):yT (Rw a b c d):=by
 have r1:=Sk a (n:=120) (by decide)
 have r2:=Sk b (n:=13) (by decide)
 have r3:=Sk c (n:=8) (by decide)
 obtain⟨a',m⟩:=aq7 (L:=1+zq a 120) (d.take 6) (a:=0) (P:=[]) (C:=[]) (by omega) ⟨rfl,rfl,by simp,by simp,by simp,by simp,by simp⟩
 exact⟨by simp only[Rw];omega,by simp only[Rw];omega,by simp only[Rw];omega,m.oP,m.oC,m.p4,m.c4,m.dis⟩
def ND(l:qf):LV:=⟨l,false,false,if pts l.P=[]then 0 else 2,if pts l.C=[]then 0 else 2⟩
theorem aC8(l:List Pr):AV.eY (if pts l=[]then 0 else 2) (pts l)=zn 2 (pts l):=by
 unfold zn;by_cases h:pts l=[]
 ·rw[if_pos h,if_pos h,h]
 ·rw[if_neg h,if_neg h]
theorem aC9{l:qf}(o:yT l):okV (ND l):=by
 have h1:=o.p4;have h2:=o.c4;refine⟨?_, ?_,by simp only[ND];omega,by simp only[ND];omega⟩
 ·by_cases h:pts l.P=[]
  ·exact .inr h
  ·exact .inl (if_neg h)
 ·by_cases h:pts l.C=[]
  ·exact .inr h
  ·exact .inl (if_neg h)
theorem aMB(l:qf):pV (ND l)=zn 2 (pts l.P):=aC8 l.P
theorem aMC(l:qf):cV (ND l)=zn 2 (pts l.C):=aC8 l.C
theorem aC'(l:qf):FE (ND l)=am3 l:=by unfold FE am3;rw[aMB,aMC];rfl
theorem aq8(l:qf):(ND l).l=l:=rfl
theorem aMD(a b c:Int)(d:List Tr):∃ xs e,Ch (Rw a b c d) 0 (Rw a b c d).D xs e :=
 amv (am4 a b c d).E.1 (Rw a b c d).L.toNat 0 _ (by omega) (by have:=(am4 a b c d).L;omega) (am4 a b c d).D.1
end Go.VI.Dump
namespace Go.VI.Dump
open Go.VI.Num
/- BIGSTEPS -/
theorem abT(h:Heap)(z:Nat)(es:List AV):Sl h z (.eY z es) es:=aAC (.inl rfl)
theorem aDa{l:qf}(ok:yT l){xs:List Stp}{e:Int}(hc:Ch l 0 l.D xs e):((tu l xs).length:Int)=l.L+e:=by
 have h1:=hc.amu ok.E.1;have h2:=ok.D;unfold tu;rw[uG,Tc];omega
end Go.VI.Dump
namespace Go.VI.Dump
open Go.VI.Num
/- BIGSTEPS -/
def stF(l:qf):Nat->Int->Int->List Stp
 |0,_,_=>[]
 |n+1,s,d =>
  if l.L<=s then[]
  else if hasB l.C s then(if 0<d then⟨s,s+1,s+d,s+d,d,true,false⟩::stF l n (s+1) (d-1) else⟨s,s+1,s+d,s+d+1,d,true,false⟩::stF l n (s+1) d)
  else if SE l s d then⟨s,s+l.E,s+d,s+d+l.E+1,d,false,true⟩::stF l n (s+l.E) (d+1)
  else⟨s,s+1,s+d,s+d+1,d,false,false⟩::stF l n (s+1) d
theorem am5{l:qf}(hE:1<=l.E):∀(n:Nat) (s d:Int),l.L-s<=n->s<=l.L->0<=d->∃ e,Ch l s d (stF l n s d) e
 |0,s,d,h1,h2,h3=>by
  obtain rfl:s=l.L:=by omega
  exact⟨_,.nil d⟩
 |n+1,s,d,h1,h2,h3=>by
  rw[stF];by_cases c:l.L<=s
  ·obtain rfl:s=l.L:=by omega
   rw[if_pos c];exact⟨_,.nil d⟩
  ·rw[if_neg c];cases hc:hasB l.C s
   ·rw[if_neg Bool.false_ne_true];cases hs:SE l s d
    ·obtain⟨e,h⟩:=am5 hE n (s+1) d (by omega) (by omega) h3
     rw[if_neg Bool.false_ne_true];exact⟨_,.pl (by omega) hc hs h⟩
    ·simp only[SE,fw,decide_eq_true_eq,IK]at hs;obtain⟨a1,a2,a3,a4⟩:=hs;obtain⟨e,h⟩:=am5 hE n (s+l.E) (d+1) (by omega) (by omega) (by omega)
     rw[if_pos rfl];exact⟨_,.str (by omega) hc a1 a2 a3 a4 h⟩
   ·rw[if_pos rfl];by_cases hd:0<d
    ·obtain⟨e,h⟩:=am5 hE n (s+1) (d-1) (by omega) (by omega) (by omega)
     rw[if_pos hd];exact⟨_,.Mj (by omega) hc hd h⟩
    ·obtain⟨e,h⟩:=am5 hE n (s+1) d (by omega) (by omega) h3
     rw[if_neg hd];exact⟨_,.Ml (by omega) hc (by omega) h⟩
def l0:qf:=⟨12,3,2,[(8,9)],[(2,4)]⟩
def x0:LV:=⟨l0,true,true,2,2⟩
theorem ajF:okV x0:=⟨.inl rfl,.inl rfl,by decide,by decide⟩
theorem ak5:yT l0:=⟨by decide,by decide,by decide,by decide,by decide,by decide,by decide,by decide⟩
def xs0:List Stp:=stF l0 12 0 3
theorem ch0:∃ e,Ch l0 0 l0.D xs0 e:=am5 (by decide) 12 0 3 (by decide) (by decide) (by decide)
theorem aME:tu l0 xs0=[-1,-1,-1,0,1,4,4,5,6,6,7,8,9,10,11]:=by decide
theorem aMF:Gu xs0=[3,3,3,2,1,1,2,2,3,3,3,3]:=by decide
theorem aMG:SI l0 xs0=[8]:=by decide
theorem aMH:QW l0=[(0,2),(4,12)]:=by decide
theorem aMI:Nw (4,12) xs0=[(4,5),(8,11),(12,15)]:=by decide
end Go.VI.Dump
namespace Go.VI.Dump
open Go.VI.Num
/- BIGSTEPS -/
theorem aw0(z:Nat)(es:List AV):(AV.fT z es).cells=[.fT z es]:=rfl
theorem aw1(z:Nat)(es:List AV):(AV.fT z es).val=true:=rfl
theorem aMJ(z:Nat)(es:List AV):(AV.eY z es).cells=[.eY z es]:=rfl
theorem aMK(z:Nat)(es:List AV):(AV.eY z es).val=true:=rfl
abbrev v0:AV:=.agg [.int .i64 12,.int .i64 3,.int .i64 2,pV x0,cV x0]
theorem aML(H:Heap)(lo:Nat):(run lib).fn 45 [] H lo=some (v0,H):=by
 have e1:pV x0=.fT 2 [.agg [.int .i64 8,.int .i64 9]]:=rfl;have e2:cV x0=.fT 2 [.agg [.int .i64 2,.int .i64 4]]:=rfl;unfold v0;rw[e1,e2,jH (x:=x45) rfl rfl rfl rfl];simp(maxSteps:=30000000)(disch:=omega)only[go_sem,x45,aw0,aw1]
set_option maxRecDepth 100000
end Go.VI.Dump
namespace Go.VI.Dump
open Go.VI.Num
/- BIGSTEPS -/
end Go.VI.Dump
namespace Go.VI.Dump
open Go.VI.Num
theorem aDb{cs:List AV}(h:Dl (.slice 3 (.agg [.int .i64,.int .i64,.int .i64])) cs):∃ l:List Tr,(∀ hp,Sl hp 3 (xR.mk (.slice 3 (.agg [.int .i64,.int .i64,.int .i64])) cs) (Sq l))/\l.length<=9223372036854775807/\∀ x∈l,rJ x.1/\rJ x.2.1/\rJ x.2.2:=by
 obtain⟨es,h1,h2,h3⟩:=aIl h
 obtain⟨l,rfl,h4⟩:=aAD (f:=tri) (Q:=fun x=>rJ x.1/\rJ x.2.1/\rJ x.2.2) (es:=es) fun x hx=>by
  obtain⟨c,rfl,hc⟩:=h3 x hx;simp only[Dl,ai6]at hc;obtain⟨a,b,rfl,⟨n,rfl,hn⟩,a',b',rfl,⟨n',rfl,hn'⟩,a'',b'',rfl,⟨n'',rfl,aMM⟩,rfl⟩:=hc;obtain⟨m,e1,o1⟩:=aox (cs:=[.int .i64 n]) (by simp only[Dl];exact⟨n,rfl,hn⟩)
  obtain⟨m',e2,o2⟩:=aox (cs:=[.int .i64 n']) (by simp only[Dl];exact⟨n',rfl,hn'⟩)
  obtain⟨m'',e3,o3⟩:=aox (cs:=[.int .i64 n'']) (by simp only[Dl];exact⟨n'',rfl,aMM⟩)
  simp only[List.cons.injEq,AV.int.injEq,true_and,and_true]at e1 e2 e3;subst e1 e2 e3;exact⟨(n,n',n''),rfl,o1,o2,o3⟩
 exact⟨l,h1,by simpa using h2,h4⟩
theorem aw2{t:List AV}(h:Dl (.int .i64) t):∃ n,xR.mk (.int .i64) t=.int .i64 n/\rJ n:=by
 obtain⟨n,rfl,h1,h2⟩:=aox h;exact⟨n,rfl,h1,h2⟩
end Go.VI.Dump
namespace Go.VI.Dump
open Go.VI.Num
/- BIGSTEPS -/
end Go.VI.Dump
namespace Go.VI.Dump
open Go.VI.Num
/- BIGSTEPS -/
end Go.VI.Dump
namespace Go.VI.Dump
open Go.VI.Num
/- BIGSTEPS -/
end Go.VI.Dump
