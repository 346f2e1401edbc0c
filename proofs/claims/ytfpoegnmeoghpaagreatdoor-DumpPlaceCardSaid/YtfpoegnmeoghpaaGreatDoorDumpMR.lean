/- What the functions on integers compute, part MR. -/
import Derived.Test.YtfpoegnmeoghpaaGreatDoorDumpMV
import Derived.Test.YtfpoegnmeoghpaaGreatDoorDumpMA
import Derived.Test.YtfpoegnmeoghpaaGreatDoorDumpMW
import Derived.Test.YtfpoegnmeoghpaaGreatDoorDumpMB
set_option linter.unusedVariables false
set_option linter.unusedSimpArgs false
namespace Go.VI.Dump
open Go.VI.Num
/- BIGSTEPS -/
def sn(s:Sn):AV:=.agg [.int .i64 s.1,.int .i64 s.2.1,.int .i64 s.2.2]
def bI(l:List Sn):List AV:=l.map sn
@[simp] theorem BO (l:List Sn):(bI l).length=l.length:=by simp [bI]
theorem TP(l:List Sn)(k:Nat)(h:k<(bI l).length):(bI l)[k]=sn (l[k]'(by simpa using h)):=by simp[bI]
theorem acH{l:List Sn}:bI l=[]↔l=[]:=by simp[bI]
theorem aMN(n:Int)(h:Heap)(lo:Nat):(run lib).fn 97 [.int .i64 n] h lo=some (.bool (decide (0<=n)&&decide (n<=2999)),h):=by
 rw[jH (x:=x97) rfl rfl rfl rfl];by_cases c:0<=n<;>simp(maxSteps:=30000000)(disch:=omega)only[go_sem,x97,c]
theorem aMO{h:Heap}{v:AV}{l:List Sn}(hv:Sl h 3 v (bI l))(hl:l.length<=9223372036854775807):∀(d k:Nat) (a w:Int) (B:Nat×aU),k+d=l.length ->
  ∃ B',bV lib ⟨h.length,h.length,1,none⟩ (.loop att) ([(0,v),(3,.int .i64 a),(4,.int .i64 w),(7,v),(8,.int .i64 l.length),(9,.int .i64 k)],h++[B]) =
   if vL a w (l.drop k)=true then some (.exit 0,([(0,v)],h++[B']))else some (.ret,([(2,.bool false)],h++[B'])):=by
 intro d
 induction d with
 |zero =>
  intro k a w B hk;obtain rfl:k=l.length:=by omega
  refine⟨B, ?_⟩;rw[RH,jm]
  simp(maxSteps:=30000000)(disch:=omega)only[go_sem,DV,vL]
 |succ d ih =>
  intro k a w B hk;have hk':k<l.length:=by omega
  have h1:(k:Int)<l.length:=by omega
  have e3:vJ 3 v (.int .i64 k)=some k:=by rw[Bu hv (by omega) (by simp;omega)];simp
  have e4:=fun off fr=>Ab (off:=off) (hv.elems fr) (show k<(bI l).length by simp;omega)
  simp only[TP,sn]at e4;have io:=fun n H lo=>aMN n H lo;obtain⟨v0,b0⟩:=B;obtain⟨B',e⟩:=ih (k+1) l[k].2.1 l[k].2.2 (v0+1,.box [.int .i64 l[k].1,.int .i64 l[k].2.1,.int .i64 l[k].2.2]) (by omega)
  rw[Dm]at e;rw[JB hk'];generalize l[k]=q at*;obtain⟨q1,q2,q3⟩:=q;simp only at e e4⊢;obtain⟨bb,hbb⟩:∃ bb,bb=vL a w ((q1,q2,q3)::l.drop (k+1)):=⟨_,rfl⟩;rw[<-hbb];simp only[vL]at hbb;by_cases c1:q1=a
  ·subst c1;by_cases c2:q1<q2
   ·have c2':¬ q2<=q1:=by omega
    by_cases c3:q2<=10000000
    ·have c3':¬ 10000000<q2:=by omega
     cases c4:(decide (0<=q3)&&decide (q3<=2999))
     ·have:bb=false:=by rw[hbb,c4];simp
      subst this;refine⟨(v0+1,.box [.int .i64 q1,.int .i64 q2,.int .i64 q3]), ?_⟩;rw[if_neg (by simp),jm]
      simp(maxSteps:=30000000)(disch:=omega)only[go_sem,h1,e3,e4,c2',c3',io,c4]
     ·by_cases c5:q3=w
      ·have:bb=false:=by rw[hbb,decide_eq_true c5];simp
       subst this;subst c5;refine⟨(v0+1,.box [.int .i64 q1,.int .i64 q2,.int .i64 q3]), ?_⟩;rw[if_neg (by simp),jm]
       simp(maxSteps:=30000000)(disch:=omega)only[go_sem,h1,e3,e4,c2',c3',io,c4]
      ·have:bb=vL q2 q3 (l.drop (k+1)):=by rw[hbb,c4,decide_eq_false c5,decide_eq_true c2,decide_eq_true c3];simp
       subst this;refine⟨B', ?_⟩;rw[jm];simp(maxSteps:=30000000)(disch:=omega)only[go_sem,h1,e3,e4,c2',c3',io,c4,c5,e]
    ·have c3':10000000<q2:=by omega
     have:bb=false:=by rw[hbb,decide_eq_false c3];simp
     subst this;refine⟨(v0+1,.box [.int .i64 q1,.int .i64 q2,.int .i64 q3]), ?_⟩;rw[if_neg (by simp),jm]
     simp(maxSteps:=30000000)(disch:=omega)only[go_sem,h1,e3,e4,c2',c3']
   ·have c2':q2<=q1:=by omega
    have:bb=false:=by rw[hbb,decide_eq_false c2];simp
    subst this;refine⟨(v0+1,.box [.int .i64 q1,.int .i64 q2,.int .i64 q3]), ?_⟩;rw[if_neg (by simp),jm]
    simp(maxSteps:=30000000)(disch:=omega)only[go_sem,h1,e3,e4,c2']
  ·have:bb=false:=by rw[hbb,decide_eq_false c1];simp
   subst this;refine⟨(v0+1,.box [.int .i64 q1,.int .i64 q2,.int .i64 q3]), ?_⟩;rw[if_neg (by simp),jm]
   simp(maxSteps:=30000000)(disch:=omega)only[go_sem,h1,e3,e4,c1]
theorem ara{h:Heap}{v:AV}{l:List Sn}(hv:Sl h 3 v (bI l))(hl:l.length<=9223372036854775807)(lo:Nat):(run lib).fn 60 [v] h lo=some (.bool (xX l),h):=by
 obtain⟨B',e⟩:=aMO hv hl l.length 0 0 (-1) (0,.dead) (by omega)
 have ll:=oW hv.len;rw[BO]at ll;simp only[Gc,List.drop_zero]at e;unfold xX;rw[jH (x:=x60) rfl rfl rfl rfl];cases c:vL 0 (-1) l
 ·rw[c,if_neg (by simp)]at e
  simp(maxSteps:=30000000)(disch:=omega)only[go_sem,x60,ll,e]
 ·rw[c,if_pos rfl]at e;simp(maxSteps:=30000000)(disch:=omega)only[go_sem,x60,ll,e]
theorem aDc{h:Heap}{v:AV}{l:List Sn}(hv:Sl h 3 v (bI l))(hl:l.length<=9223372036854775807)(lo:Nat):(run lib).fn 65 [v] h lo=some (.int .i64 (u6 l),h):=by
 have ll:=oW hv.len;rw[BO]at ll;unfold u6;rw[jH (x:=x65) rfl rfl rfl rfl];by_cases h0:l=[]
 ·subst h0;simp only[Ma,Gc]at ll;simp(maxSteps:=30000000)(disch:=omega)only[go_sem,x65,ll,List.getLast?_nil]
 ·have hp:=SC.mpr h0;have c:¬ (l.length:Int)=0:=by omega
  have e3:vJ 3 v (.int .i64 ((l.length:Int)-1))=some (l.length-1):=by rw[Bu hv (by omega) (by simp;omega),show ((l.length:Int)-1).toNat=l.length-1 by omega]
  have e4:=fun off=>Ab (off:=off) hv.DC (show l.length-1<(bI l).length by simp;omega)
  simp only[TP,sn]at e4;have eg:l.getLast?=some (l[l.length-1]'(by omega)):=by rw[List.getLast?_eq_getElem?,Fv (by omega)]
  rw[eg];simp(maxSteps:=30000000)(disch:=omega)only[go_sem,x65,ll,c,e3,e4]
theorem aDd{h:Heap}{v:AV}{l:List Sn}(hv:Sl h 3 v (bI l))(hl:l.length<=9223372036854775807)(lo:Nat):(run lib).fn 35 [v] h lo=some (.int .i64 (afO l),h):=by
 have e1:=fun lo=>ara hv hl lo;have e2:=fun lo=>aDc hv hl lo;unfold afO;rw[jH (x:=x35) rfl rfl rfl rfl];cases c:xX l
 ·rw[c]at e1;simp(maxSteps:=30000000)(disch:=omega)only[go_sem,x35,e1]
 ·rw[c]at e1;simp(maxSteps:=30000000)(disch:=omega)only[go_sem,x35,e1,e2]
end Go.VI.Dump
namespace Go.VI.Dump
open Go.VI.Num
/- BIGSTEPS -/
end Go.VI.Dump
namespace Go.VI.Dump
open Go.VI.Num
/- BIGSTEPS -/
end Go.VI.Dump
namespace Go.VI.Dump
open Go.VI.Num
/- BIGSTEPS -/
def C9(p:Nat)(S A:List AV)(B:Nat×aU):Heap:=[jw (0,.dead) 5 S,if p=1 then jw (0,.dead) 1 A else(0,.dead),(0,.dead),if p=3 then jw (0,.dead) 1 A else(0,.dead),B,if p=5 then jw (0,.dead) 1 A else(0,.dead)]
def stE(X:Stp):AV:=.agg [.int .i64 X.fr,.int .i64 X.to,.int .i64 X.be,.int .i64 X.de,.bool X.str]
def DX(xs:List Stp):List AV:=xs.map stE
theorem arb{h:Heap}{p s:Nat}{S A xs:List AV}{B:Nat×aU}(hp:p=1\/p=3\/p=5)(hs:s<6)(h0:A=[]->s=p)(hl:A.length+xs.length<=17592186044416)(hx:xs≠[]) :
  wG ⟨h.length,h.length,6,none⟩ s 1 17592186044416 (jJ (h.length+p) (0,.dead) 1 A) xs (h++C9 p S A B)=some (jJ (h.length+p) (0,.dead) 1 (A++xs),h++C9 p S (A++xs) B):=by
 have hg:∀ A,(C9 p S A B)[p]?=some (jw (0,.dead) 1 A):=fun A=>by rcases hp with rfl|rfl|rfl<;>rfl
 have hset:(C9 p S A B).set p (jw (0,.dead) 1 (A++xs))=C9 p S (A++xs) B:=by rcases hp with rfl|rfl|rfl<;>rfl
 by_cases hA:A=[]
 ·have:=h0 hA;subst this;rw[RQ (lo:=h.length) (ns:=6) (s:=s) (z:=1) hs (iJ _) (hg A) hl,hset]
 ·have hb:(h++C9 p S A B)[h.length+p]?=some (0+1,.arr 1 A):=by rw[ku,hg A,RI hA]
  rw[QV hA,ac7 hb (by simp) hl,<-hset,QV (by simp[hA]),RI (by simp[hA]),o7,uG]
def Tp(l:qf)(k:Int):Nat->Bool
 |0=>true
 |d+1=>(!hasB l.C k&&!hasB l.P k)&&Tp l (k+1) d
theorem aDf{l:qf}:∀(d:Nat) (k:Int),Tp l k d=true↔∀ j:Int,k<=j->j<k+d->hasB l.C j=false/\hasB l.P j=false
 |0,k=>by simp only[Tp,true_iff];intro j h1 h2;omega
 |d+1,k=>by
  rw[Tp,fw,aDf d,fw,IK,IK];constructor
  ·rintro⟨h1,h2⟩ j h3 h4;by_cases hj:j=k
   ·rw[hj];exact h1
   ·exact h2 j (by omega) (by omega)
  ·intro hh;exact⟨hh k (by omega) (by omega),fun j h1 h2=>hh j (by omega) (by omega)⟩
theorem str_eq{l:qf}(ok:yT l)(s d:Int)(N:Nat)(hN:(N:Int)=l.E):((decide (d<l.D)&&decide (s+l.E<=l.L))&&Tp l s N)=SE l s d:=by
 have hE:=ok.E
 have key:Tp l s N=(!zu l.C s (s+l.E)&&!zu l.P s (s+l.E)):=by
  rw[Bool.eq_iff_iff,aDf,fw,IK,IK];constructor
  ·intro hh;exact⟨aBE ok.C (fun k a b=>(hh k a b).1) (Fy s) (show s+l.E<=s+N by omega) (by omega),aBE ok.P (fun k a b=>(hh k a b).2) (Fy s) (show s+l.E<=s+N by omega) (by omega)⟩
  ·rintro⟨h1,h2⟩ j h3 h4;exact⟨aoZ h1 h3 (by omega),aoZ h2 h3 (by omega)⟩
 rw[key];unfold SE;rw[Bool.and_assoc]
theorem aDg{x:LV}(o:okV x){h:Heap}{p:Nat}{S A:List AV}{V5 V7:AV}{v:Nat}{a1 a2 a3 dd:Int}{s:Int}(hs:0<=s/\s<=600)(hE:1<=x.l.E/\x.l.E<=60):∀(d:Nat) (k:Int) (b:Bool),k+d=s+x.l.E->0<=k ->
  bV lib ⟨h.length,h.length,6,none⟩ (.loop atm) ([(1,NC x),(5,V5),(7,V7),(8,.int .i64 dd),(9,.int .i64 s),(10,.bq (h.length+4) v 0),(11,.int .i64 k)],h++C9 p S A (v,.box [.int .i64 a1,.int .i64 a2,.int .i64 a3,.int .i64 dd,.bool b])) =
   some (.exit 4,([(1,NC x),(5,V5),(7,V7),(8,.int .i64 dd),(9,.int .i64 s),(10,.bq (h.length+4) v 0)],h++C9 p S A (v,.box [.int .i64 a1,.int .i64 a2,.int .i64 a3,.int .i64 dd,.bool (b&&Tp x.l k d)]))):=by
 intro d
 induction d with
 |zero =>
  intro k b hk h0;have c:¬ k<s+x.l.E:=by omega
  rw[jm,Tp,Bool.and_true];simp only[C9]
  simp(maxSteps:=30000000)(disch:=omega)only[go_sem,c]
 |succ d ih =>
  intro k b hk h0;have c:k<s+x.l.E:=by omega
  have ec:=fun n H lo=>awY (o.sc H) o.lc n lo;have ep:=fun n H lo=>awY (o.sp H) o.lp n lo;rw[jm]
  cases b with
  |false =>
   simp only[C9,Z5]
   simp(maxSteps:=30000000)(disch:=omega)only[go_sem,c]
  |true =>
   simp only[Tp,Ri]
   cases c1:hasB x.l.C k with
   |true =>
    have e:=ih (k+1) false (by omega) (by omega)
    simp only[C9,Z5,Bool.not_true]at e⊢
    simp(maxSteps:=30000000)(disch:=omega)only[go_sem,c,ec,c1,e]
   |false =>
    cases c2:hasB x.l.P k with
    |true =>
     have e:=ih (k+1) false (by omega) (by omega)
     simp only[C9,Z5,Bool.not_true,Bool.not_false,Ri]at e⊢
     simp(maxSteps:=30000000)(disch:=omega)only[go_sem,c,ec,ep,c1,c2,e]
    |false =>
     have e:=ih (k+1) true (by omega) (by omega)
     simp only[C9,Bool.not_false,Ri]at e⊢;simp(maxSteps:=30000000)(disch:=omega)only[go_sem,c,ec,ep,c1,c2,e]
theorem aMP{x:LV}{h:Heap}{p:Nat}(hp:p=1\/p=3\/p=5){S:List AV}{V7:AV}{v:Nat}{a1 a3 dd d8:Int}{bb:Bool}{t:Int}(ht:t<=700):∀(d:Nat) (k:Int) (A:List Int),k+d=t->0<=k->A≠[]->(A.length:Int)<=1000+k ->
  bV lib ⟨h.length,h.length,6,none⟩ (.loop atl) ([(1,NC x),(5,jJ (h.length+p) (0,.dead) 1 (ints A)),(7,V7),(8,.int .i64 d8),(10,.bq (h.length+4) v 0),(12,.int .i64 k)],h++C9 p S (ints A) (v,.box [.int .i64 a1,.int .i64 t,.int .i64 a3,.int .i64 dd,.bool bb])) =
   some (.exit 6,([(1,NC x),(5,jJ (h.length+p) (0,.dead) 1 (ints (A++DF k d))),(7,V7),(8,.int .i64 d8),(10,.bq (h.length+4) v 0)],h++C9 p S (ints (A++DF k d)) (v,.box [.int .i64 a1,.int .i64 t,.int .i64 a3,.int .i64 dd,.bool bb]))):=by
 intro d
 induction d with
 |zero =>
  intro k A hk _ _ _;have c:¬ k<t:=by omega
  rw[aBy,Gs,jm];simp only[C9]
  simp(maxSteps:=30000000)(disch:=omega)only[go_sem,c]
 |succ d ih =>
  intro k A hk h0 hA hl;have c:k<t:=by omega
  have e:=ih (k+1) (A++[k]) (by omega) (by omega) (by simp) (by simp;omega)
  rw[sZ,List.singleton_append,<-amt,akN]at e;have ap:=arb (h:=h) (p:=p) (s:=2) (S:=S) (A:=ints A) (xs:=[.int .i64 k]) (B:=(v,.box [.int .i64 a1,.int .i64 t,.int .i64 a3,.int .i64 dd,.bool bb])) hp (by omega) (fun hh=>absurd hh (by simp[ints,hA])) (by simp;omega) (by simp)
  rw[jm];simp only[C9]at e ap⊢;simp(maxSteps:=30000000)(disch:=omega)only[go_sem,c,ap,e]
end Go.VI.Dump
namespace Go.VI.Dump
open Go.VI.Num
/- BIGSTEPS -/
theorem ard(S:List Stp)(X:Stp):DX (S++[X])=DX S++[.agg [.int .i64 X.fr,.int .i64 X.to,.int .i64 X.be,.int .i64 X.de,.bool X.str]]:=by simp[DX,stE]
@[simp] theorem aSZ (S:List Stp):(DX S).length=S.length:=by simp [DX]
set_option maxHeartbeats 4000000 in
theorem aS0{x:LV}(o:okV x)(ok:yT x.l)(h:Heap){s d e:Int}{xs:List Stp}(ch:Ch x.l s d xs e):∀(p:Nat) (S:List Stp) (A:List Int) (B:Nat×aU),
  (p=1\/p=3\/p=5)->0<=s->0<=d->d<=x.l.D->(A.length:Int)=s+d->(S.length:Int)<=s->(A=[]->p=if hasB x.l.C s=true then 1 else 3) ->
  ∃ B',bV lib ⟨h.length,h.length,6,none⟩ (.loop atn) ([(1,NC x),(5,jJ (h.length+p) (0,.dead) 1 (ints A)),(7,jJ (h.length+0) (0,.dead) 5 (DX S)),(8,.int .i64 d),(9,.int .i64 s)],h++C9 p (DX S) (ints A) B) =
   some (.exit 2,([(5,jJ (h.length+p) (0,.dead) 1 (ints (A++o5 xs))),(7,jJ (h.length+0) (0,.dead) 5 (DX (S++xs))),(8,.int .i64 e)],h++C9 p (DX (S++xs)) (ints (A++o5 xs)) B')):=by
 have hL:=ok.L;have hD:=ok.D;have hE:=ok.E;have ec:=fun n H lo=>awY (o.sc H) o.lc n lo;obtain⟨N,hN⟩:∃ N:Nat,x.l.E=N:=⟨x.l.E.toNat,by omega⟩
 induction ch with
 |nil d =>
  intro p S A B hp h0 h1 h2 hA hS hz;refine⟨B, ?_⟩;rw[show o5 []=[]from rfl,Gs,Gs,jm]
  simp only[C9]
  simp(maxSteps:=30000000)(disch:=omega)only[go_sem,DV]
 |@Mj s d e xs g1 g2 g3 g ih =>
  intro p S A B hp h0 h1 h2 hA hS hz;obtain⟨v0,b0⟩:=B;obtain⟨B',i⟩:=ih p (S++[⟨s,s+1,s+d,s+d,d,true,false⟩]) A (v0+1,.box [.int .i64 s,.int .i64 (s+1),.int .i64 (s+d),.int .i64 d,.bool false]) hp (by omega) (by omega) (by omega) (by omega) (by simp;omega) (fun hh=>by rw[hh]at hA;simp at hA;omega)
  refine⟨B', ?_⟩;rw[Rt,ao1,List.nil_append,List.append_cons];generalize A++o5 xs=AR at*;generalize S++[Stp.mk s (s+1) (s+d) (s+d) d true false]++xs=SR at*;rw[ard]at i;have la:=oW (Sl.acc (h:=h) (fr:=C9 p (DX S) (ints A) (v0+1,.box [.int .i64 0,.int .i64 0,.int .i64 0,.int .i64 0,.bool false])) (s:=p) (z:=1) (b0:=(0,.dead)) (es:=ints A) (by rcases hp with rfl|rfl|rfl<;>rfl)).len
  have la':=oW (Sl.acc (h:=h) (fr:=C9 p (DX S) (ints A) (v0,b0)) (s:=p) (z:=1) (b0:=(0,.dead)) (es:=ints A) (by rcases hp with rfl|rfl|rfl<;>rfl)).len
  rw[DI,hA]at la la';have ap:=RQ (lo:=h.length) (ns:=6) (s:=0) (z:=5) (lim:=3518437208883) (h:=h) (fr:=C9 p (DX S) (ints A) (v0+1,.box [.int .i64 s,.int .i64 (s+1),.int .i64 (s+d),.int .i64 d,.bool false])) (b0:=(0,.dead)) (es:=DX S) (xs:=[.agg [.int .i64 s,.int .i64 (s+1),.int .i64 (s+d),.int .i64 d,.bool false]]) (by omega) (by omega) rfl (by simp;omega)
  simp only[C9,List.set_cons_zero]at ap i⊢;rw[jm]
  simp(maxSteps:=30000000)(disch:=omega)only[go_sem,g1,g2,g3,ec,la,la',ap,i]
 |@Ml s d e xs g1 g2 g3 g ih =>
  intro p S A B hp h0 h1 h2 hA hS hz;obtain⟨v0,b0⟩:=B;subst g3;obtain⟨B',i⟩:=ih p (S++[⟨s,s+1,s+0,s+0+1,0,true,false⟩]) (A++[-1]) (v0+1,.box [.int .i64 s,.int .i64 (s+1),.int .i64 (s+0),.int .i64 0,.bool false]) hp (by omega) (by omega) (by omega) (by simp;omega) (by simp;omega) (fun hh=>by simp at hh)
  refine⟨B', ?_⟩;rw[Rt,ao3,List.append_cons S];rw[sZ]at i;generalize A++([-1]++o5 xs)=AR at*;generalize S++[Stp.mk s (s+1) (s+0) (s+0+1) 0 true false]++xs=SR at*;rw[ard,akN]at i;simp only[Int.add_zero]at i hA;have la:=oW (Sl.acc (h:=h) (fr:=C9 p (DX S) (ints A) (v0,b0)) (s:=p) (z:=1) (b0:=(0,.dead)) (es:=ints A) (by rcases hp with rfl|rfl|rfl<;>rfl)).len
  rw[DI,hA]at la
  have a1:=arb (h:=h) (p:=p) (s:=1) (S:=DX S) (A:=ints A) (xs:=[.int .i64 (-1)]) (B:=(v0+1,.box [.int .i64 s,.int .i64 (s+1),.int .i64 s,.int .i64 0,.bool false])) hp (by omega) (fun hh=>by
   have h9:A=[]:=by cases A with|nil=>rfl|cons a r=>simp[ints]at hh
   rw[hz h9,g2,if_pos rfl]) (by simp;omega) (by simp)
  have ap:=RQ (lo:=h.length) (ns:=6) (s:=0) (z:=5) (lim:=3518437208883) (h:=h) (fr:=C9 p (DX S) (ints A++[.int .i64 (-1)]) (v0+1,.box [.int .i64 s,.int .i64 (s+1),.int .i64 s,.int .i64 0,.bool false])) (b0:=(0,.dead)) (es:=DX S) (xs:=[.agg [.int .i64 s,.int .i64 (s+1),.int .i64 s,.int .i64 0,.bool false]]) (by omega) (by omega) rfl (by simp;omega)
  simp only[C9,List.set_cons_zero]at ap a1 i⊢;rw[jm]
  simp(maxSteps:=30000000)(disch:=omega)only[go_sem,g1,g2,DV,ec,la,a1,ap,i]
 |@str s d e xs g1 g2 g3 g4 g5 g6 g ih =>
  intro p S A B hp h0 h1 h2 hA hS hz;obtain⟨v0,b0⟩:=B;obtain⟨B',i⟩:=ih p (S++[⟨s,s+x.l.E,s+d,s+d+x.l.E+1,d,false,true⟩]) (A++[s]++DF s N) (v0+1,.box [.int .i64 s,.int .i64 (s+x.l.E),.int .i64 (s+d),.int .i64 d,.bool true]) hp (by omega) (by omega) (by omega) (by simp;omega) (by simp;omega) (fun hh=>by simp at hh)
  refine⟨B', ?_⟩;rw[Rt,akD hE.1,List.append_cons S,show x.l.E.toNat=N by omega]
  have hAR:A++(s::DF s N++o5 xs)=A++[s]++DF s N++o5 xs:=by simp
  rw[hAR];generalize A++[s]++DF s N++o5 xs=AR at*;generalize S++[Stp.mk s (s+x.l.E) (s+d) (s+d+x.l.E+1) d false true]++xs=SR at*;rw[ard]at i;have la:=oW (Sl.acc (h:=h) (fr:=C9 p (DX S) (ints A) (v0,b0)) (s:=p) (z:=1) (b0:=(0,.dead)) (es:=ints A) (by rcases hp with rfl|rfl|rfl<;>rfl)).len
  rw[DI,hA]at la;have hstr:SE x.l s d=true:=by simp[SE,g3,g4,g5,g6]
  have hcl:=str_eq ok s d N hN.symm;rw[hstr,decide_eq_true g3,decide_eq_true g4,Ri,Ri]at hcl;have fr:=aDg o (h:=h) (p:=p) (S:=DX S) (A:=ints A) (V5:=jJ (h.length+p) (0,.dead) 1 (ints A)) (V7:=jJ (h.length+0) (0,.dead) 5 (DX S)) (v:=v0+1) (a1:=s) (a2:=s+1) (a3:=s+d) (dd:=d) (s:=s) (by omega) hE N s true (by omega) h0
  rw[hcl,Ri]at fr
  have a1:=arb (h:=h) (p:=p) (s:=3) (S:=DX S) (A:=ints A) (xs:=[.int .i64 s]) (B:=(v0+1,.box [.int .i64 s,.int .i64 (s+1),.int .i64 (s+d),.int .i64 d,.bool true])) hp (by omega) (fun hh=>by
   have h9:A=[]:=by cases A with|nil=>rfl|cons a r=>simp[ints]at hh
   rw[hz h9,g2,if_neg Bool.false_ne_true]) (by simp;omega) (by simp)
  have es:=aMP (x:=x) (h:=h) hp (S:=DX S) (V7:=jJ (h.length+0) (0,.dead) 5 (DX S)) (v:=v0+1) (a1:=s) (a3:=s+d) (dd:=d) (d8:=d+1) (bb:=true) (t:=s+x.l.E) (by omega) N s (A++[s]) (by omega) h0 (by simp) (by simp;omega)
  rw[akN]at es;have ap:=RQ (lo:=h.length) (ns:=6) (s:=0) (z:=5) (lim:=3518437208883) (h:=h) (fr:=C9 p (DX S) (ints (A++[s]++DF s N)) (v0+1,.box [.int .i64 s,.int .i64 (s+x.l.E),.int .i64 (s+d),.int .i64 d,.bool true])) (b0:=(0,.dead)) (es:=DX S) (xs:=[.agg [.int .i64 s,.int .i64 (s+x.l.E),.int .i64 (s+d),.int .i64 d,.bool true]]) (by omega) (by omega) rfl (by simp;omega)
  generalize A++[s]++DF s N=A2 at*;simp only[C9,List.set_cons_zero]at ap a1 es fr i⊢;rw[jm]
  simp(maxSteps:=30000000)(disch:=omega)only[go_sem,g1,g2,g3,g4,ec,la,fr,a1,es,ap,i]
 |@pl s d e xs g1 g2 g3 g ih =>
  intro p S A B hp h0 h1 h2 hA hS hz;obtain⟨v0,b0⟩:=B;obtain⟨B',i⟩:=ih p (S++[⟨s,s+1,s+d,s+d+1,d,false,false⟩]) (A++[s]) (v0+1,.box [.int .i64 s,.int .i64 (s+1),.int .i64 (s+d),.int .i64 d,.bool false]) hp (by omega) (by omega) (by omega) (by simp;omega) (by simp;omega) (fun hh=>by simp at hh)
  refine⟨B', ?_⟩;rw[Rt,ajn,List.append_cons S];rw[sZ]at i;generalize A++([s]++o5 xs)=AR at*;generalize S++[Stp.mk s (s+1) (s+d) (s+d+1) d false false]++xs=SR at*;rw[ard,akN]at i;have la:=oW (Sl.acc (h:=h) (fr:=C9 p (DX S) (ints A) (v0,b0)) (s:=p) (z:=1) (b0:=(0,.dead)) (es:=ints A) (by rcases hp with rfl|rfl|rfl<;>rfl)).len
  rw[DI,hA]at la;have hcl:=str_eq ok s d N hN.symm;rw[g3]at hcl;have fr:=fun b=>aDg o (h:=h) (p:=p) (S:=DX S) (A:=ints A) (V5:=jJ (h.length+p) (0,.dead) 1 (ints A)) (V7:=jJ (h.length+0) (0,.dead) 5 (DX S)) (v:=v0+1) (a1:=s) (a2:=s+1) (a3:=s+d) (dd:=d) (s:=s) (by omega) hE N s b (by omega) h0
  have a1:=arb (h:=h) (p:=p) (s:=3) (S:=DX S) (A:=ints A) (xs:=[.int .i64 s]) (B:=(v0+1,.box [.int .i64 s,.int .i64 (s+1),.int .i64 (s+d),.int .i64 d,.bool false])) hp (by omega) (fun hh=>by
   have h9:A=[]:=by cases A with|nil=>rfl|cons a r=>simp[ints]at hh
   rw[hz h9,g2,if_neg Bool.false_ne_true]) (by simp;omega) (by simp)
  have ap:=RQ (lo:=h.length) (ns:=6) (s:=0) (z:=5) (lim:=3518437208883) (h:=h) (fr:=C9 p (DX S) (ints A++[.int .i64 s]) (v0+1,.box [.int .i64 s,.int .i64 (s+1),.int .i64 (s+d),.int .i64 d,.bool false])) (b0:=(0,.dead)) (es:=DX S) (xs:=[.agg [.int .i64 s,.int .i64 (s+1),.int .i64 (s+d),.int .i64 d,.bool false]]) (by omega) (by omega) rfl (by simp;omega)
  by_cases c3:d<x.l.D
  ·by_cases c4:s+x.l.E<=x.l.L
   ·rw[decide_eq_true c3,decide_eq_true c4,Ri]at hcl;have fr':=fr true;rw[hcl]at fr';simp only[C9,List.set_cons_zero]at ap a1 fr' i⊢;rw[jm];simp(maxSteps:=30000000)(disch:=omega)only[go_sem,g1,g2,c3,c4,ec,la,fr',a1,ap,i]
   ·have fr':=fr false;rw[Z5]at fr';simp only[C9,List.set_cons_zero]at ap a1 fr' i⊢;rw[jm];simp(maxSteps:=30000000)(disch:=omega)only[go_sem,g1,g2,c3,c4,ec,la,fr',a1,ap,i]
  ·have fr':=fr false;rw[Z5]at fr';simp only[C9,List.set_cons_zero]at ap a1 fr' i⊢;rw[jm];simp(maxSteps:=30000000)(disch:=omega)only[go_sem,g1,g2,c3,ec,la,fr',a1,ap,i]
end Go.VI.Dump
namespace Go.VI.Dump
open Go.VI.Num
/- BIGSTEPS -/
end Go.VI.Dump
namespace Go.VI.Dump
open Go.VI.Num
/- BIGSTEPS -/
end Go.VI.Dump
namespace Go.VI.Dump
open Go.VI.Num
/- BIGSTEPS -/
theorem aiK(z:Nat)(es:List AV):ckN (some (jw (0,.dead) z es))=true:=by unfold jw;split<;>rfl
structure MpH(r:Pr)(xs:List Stp)(n:Nat):Prop where
 r0:0<=r.1
 bd:∀ X∈xs,0<=X.fr/\X.fr<=1000/\0<=X.to/\X.to<=1000/\0<=X.be/\X.be<=1000/\0<=X.af/\X.af<=1000
 nx:∀ i (h:i+1<xs.length),xs[i].af=xs[i+1].be
 la:∀ i (h:i<xs.length),i+1=xs.length->xs[i].af=n
 z0:∀ h:0<xs.length,xs[0].fr=0
 fi:∀ i (h:i<xs.length),r.1<xs[i].fr->∃ j,∃ hj:j<xs.length,j<i/\xs[j].fr=r.1
 len:xs.length<=1000
end Go.VI.Dump
namespace Go.VI.Dump
open Go.VI.Num
/- BIGSTEPS -/
section
variable {l:qf}
end
end Go.VI.Dump
namespace Go.VI.Dump
open Go.VI.Num
/- BIGSTEPS -/
set_option maxHeartbeats 1000000 in
theorem aMQ{h:Heap}{v:AV}{l:List Sn}(hv:Sl h 3 v (bI l))(hl:l.length<=200):∀(d k:Nat) (a w:Int),k+d=l.length->(∀(h0:0<k) (h1:k-1<l.length),l[k-1].2.2=w)->(k=0->w=-1) ->
  bV lib ⟨h.length,h.length,0,none⟩ (.loop atu) ([(0,v),(3,.int .i64 a),(4,.int .i64 k)],h) =
   if vL a w (l.drop k)=true then some (.exit 0,([],h))else some (.ret,([(2,.bool false)],h)):=by
 have ll:=oW hv.len;rw[BO]at ll;intro d
 induction d with
 |zero =>
  intro k a w hk _ _;obtain rfl:k=l.length:=by omega
  rw[RH,jm]
  simp(maxSteps:=30000000)(disch:=omega)only[go_sem,ll,DV,vL]
 |succ d ih =>
  intro k a w hk hp hz;have hk':k<l.length:=by omega
  have h1:(k:Int)<l.length:=by omega
  have e3:vJ 3 v (.int .i64 k)=some k:=by rw[Bu hv (by omega) (by simp;omega)];simp
  have e4:=fun off=>Ab (off:=off) hv.DC (show k<(bI l).length by simp;omega)
  have hk1:k-1<l.length:=by omega
  have e5:0<k->vJ 3 v (.int .i64 ((k:Int)-1))=some (k-1):=fun h0=>by
   rw[show (k:Int)-1=((k-1:Nat):Int) by omega,Bu hv (by omega) (by simp;omega)];simp
  have e6:=fun off=>Ab (off:=off) hv.DC (show k-1<(bI l).length by simp;omega)
  simp only[TP,sn]at e4 e6;have e:=ih (k+1) l[k].2.1 l[k].2.2 (by omega) (fun _ _=>rfl) (fun hh=>by omega)
  rw[Dm]at e;have hq:0<k->l[k-1].2.2=w:=fun h0=>hp h0 hk1;rw[JB hk'];clear ih hp;generalize l[k]=q at*;generalize l[k-1]=r at*;obtain⟨q1,q2,q3⟩:=q;obtain⟨r1,r2,r3⟩:=r;simp only at e e4 e6 hq;obtain⟨bb,hbb⟩:∃ bb,bb=vL a w ((q1,q2,q3)::l.drop (k+1)):=⟨_,rfl⟩;rw[<-hbb];simp only[vL]at hbb;rw[jm];by_cases c1:q1=a
  ·have c1':(q1=a)=True:=eq_true c1;by_cases c2:q2<=a
   ·have:bb=false:=by rw[hbb,decide_eq_false (show ¬ a<q2 by omega)];simp
    subst this;simp(maxSteps:=30000000)(disch:=omega)only[go_sem,ll,h1,e3,e4,c1',c2]
   ·by_cases c3:10000000<q2
    ·have:bb=false:=by rw[hbb,decide_eq_false (show ¬ q2<=10000000 by omega)];simp
     subst this;simp(maxSteps:=30000000)(disch:=omega)only[go_sem,ll,h1,e3,e4,c1',c2,c3]
    ·by_cases c4:q3<0
     ·have:bb=false:=by rw[hbb,decide_eq_false (show ¬ 0<=q3 by omega)];simp
      subst this;simp(maxSteps:=30000000)(disch:=omega)only[go_sem,ll,h1,e3,e4,c1',c2,c3,c4]
     ·by_cases c5:2999<q3
      ·have:bb=false:=by rw[hbb,decide_eq_false (show ¬ q3<=2999 by omega)];simp
       subst this;simp(maxSteps:=30000000)(disch:=omega)only[go_sem,ll,h1,e3,e4,c1',c2,c3,c4,c5]
      ·rw[decide_eq_true c1,decide_eq_true (show a<q2 by omega),decide_eq_true (show q2<=10000000 by omega),decide_eq_true (show 0<=q3 by omega),decide_eq_true (show q3<=2999 by omega)]at hbb
       simp only[Ri]at hbb;by_cases c6:0<(k:Int)
       ·have e5':=e5 (by omega)
        have hq':=hq (by omega)
        subst hq';by_cases c7:q3=r3
        ·have:bb=false:=by rw[hbb,decide_eq_true c7];rfl
         subst this;have c7':(q3=r3)=True:=eq_true c7;simp(maxSteps:=30000000)(disch:=omega)only[go_sem,ll,h1,e3,e4,e5',e6,c1',c2,c3,c4,c5,c6,c7']
        ·have:bb=vL q2 q3 (l.drop (k+1)):=by rw[hbb,decide_eq_false c7];rfl
         subst this;simp(maxSteps:=30000000)(disch:=omega)only[go_sem,ll,h1,e3,e4,e5',e6,c1',c2,c3,c4,c5,c6,c7,e]
       ·have:bb=vL q2 q3 (l.drop (k+1)):=by rw[hbb,decide_eq_false (show ¬ q3=w by have:=hz (by omega);omega)];rfl
        subst this;simp(maxSteps:=30000000)(disch:=omega)only[go_sem,ll,h1,e3,e4,c1',c2,c3,c4,c5,c6,e]
  ·have:bb=false:=by rw[hbb,decide_eq_false c1];rfl
   subst this;simp(maxSteps:=30000000)(disch:=omega)only[go_sem,ll,h1,e3,e4,c1]
theorem aMR{h:Heap}{v:AV}{l:List Sn}(hv:Sl h 3 v (bI l))(hl:l.length<=9223372036854775807)(lo:Nat):(run lib).fn 63 [v] h lo=some (.bool (xX l),h):=by
 have ll:=oW hv.len;rw[BO]at ll;unfold xX;rw[jH (x:=x63) rfl rfl rfl rfl];by_cases c0:200<(l.length:Int)
 ·rw[decide_eq_false (show ¬ (l.length:Int)<=200 by omega),Bool.and_false]
  simp(maxSteps:=30000000)(disch:=omega)only[go_sem,x63,ll,c0]
 ·have e:=aMQ hv (by omega) l.length 0 0 (-1) (by omega) (fun h0=>absurd h0 (by omega)) (fun _=>rfl)
  simp only[Gc,List.drop_zero]at e;rw[decide_eq_true (show (l.length:Int)<=200 by omega),Bool.and_true]
  cases c:vL 0 (-1) l
  ·rw[c,if_neg (by simp)]at e
   simp(maxSteps:=30000000)(disch:=omega)only[go_sem,x63,ll,c0,e]
  ·rw[c,if_pos rfl]at e;simp(maxSteps:=30000000)(disch:=omega)only[go_sem,x63,ll,c0,e]
theorem aMS{h:Heap}{v:AV}{l:List Sn}(hv:Sl h 3 v (bI l))(hl:l.length<=9223372036854775807)(lo:Nat):(run lib).fn 98 [v] h lo=some (.int .i64 (u6 l),h):=by
 have ll:=oW hv.len;rw[BO]at ll;unfold u6;rw[jH (x:=x98) rfl rfl rfl rfl];by_cases h0:l=[]
 ·subst h0;simp only[Ma,Gc]at ll;simp(maxSteps:=30000000)(disch:=omega)only[go_sem,x98,ll,List.getLast?_nil]
 ·have hp:=SC.mpr h0;have c:¬ (l.length:Int)=0:=by omega
  have e3:vJ 3 v (.int .i64 ((l.length:Int)-1))=some (l.length-1):=by rw[Bu hv (by omega) (by simp;omega),show ((l.length:Int)-1).toNat=l.length-1 by omega]
  have e4:=fun off=>Ab (off:=off) hv.DC (show l.length-1<(bI l).length by simp;omega)
  simp only[TP,sn]at e4;have eg:l.getLast?=some (l[l.length-1]'(by omega)):=by rw[List.getLast?_eq_getElem?,Fv (by omega)]
  rw[eg];simp(maxSteps:=30000000)(disch:=omega)only[go_sem,x98,ll,c,e3,e4]
def atV(o:Option Sn):AV:=match o with|some s=>.tuple [.int .i64 s.2.2,.int .i64 0]|none=>.tuple [.int .i64 0,.int .i64 150]
end Go.VI.Dump
namespace Go.VI.Dump
open Go.VI.Num
/- BIGSTEPS -/
theorem aDh(v v':AV)(hf:∀ b k h,gI b k v h=some (v',h))(hv:v.val=true)(hc:v'.cells=[v'])(hv':v'.val=true)(a b:Int)(h:Heap)(lo:Nat):(run lib).fn 66 [v,.int .i64 a,.int .i64 b] h lo=some (.fn 99 [.iE [v'],.iE [.int .i64 a],.iE [.int .i64 b]],h):=by
 rw[jH (x:=x66) rfl rfl rfl rfl];simp(maxSteps:=30000000)(disch:=omega)only[go_sem,x66,hf,hv,hc,hv']
theorem arf(x:Int):(AV.iE [.int .i64 x]).closed=true:=rfl
section
variable {H:Heap}{lo id iv:Nat}{H':Sn->Heap}{t:Int}
set_option maxHeartbeats 1000000 in
theorem aMT{v:AV}{l:List Sn}(hv:oz 3 v (bI l))(hl:l.length<=1000)(hs:∀ s∈l,s.1<s.2.1)(hlo:lo<=H.length)
  (hy:∀ s∈l,FD t s=true->∀ fr,tK (run lib) ⟨lo,H.length,1,none⟩ id iv [.agg [.int .i64 t,.int .i64 (t+1),.int .i64 s.2.2]] (H++fr)=some (.bool false,H' s++fr)):∀(d k:Nat) (B:Nat×aU),k+d=l.length ->
  ∃ B',bV lib ⟨lo,H.length,1,none⟩ (.loop aoL) ([(0,.lF id iv),(2,.iE [.int .i64 t]),(3,.iE [.int .i64 (t+1)]),(7,v),(8,.int .i64 l.length),(9,.int .i64 k)],H++[B]) =
   match (l.drop k).find? (FD t)with|some s=>some (.ret,([],H' s++[B']))|none=>some (.exit 0,([],H++[B'])):=by
 intro d
 induction d with
 |zero =>
  intro k B hk;obtain rfl:k=l.length:=by omega
  refine⟨B, ?_⟩;rw[RH,jm]
  simp(maxSteps:=30000000)(disch:=omega)only[go_sem,DV,List.find?_nil]
 |succ d ih =>
  intro k B hk;obtain⟨v0,b0⟩:=B;have hk':k<l.length:=by omega
  have h1:(k:Int)<l.length:=by omega
  have e3:vJ 3 v (.int .i64 k)=some k:=by rw[Bu (hv.sl H) (by omega) (by simp;omega)];simp
  have e4:=fun off H=>Ab (off:=off) ((hv.sl H).DC) (show k<(bI l).length by simp;omega)
  simp only[TP,sn]at e4;have hsk:=hs l[k] (JC _);have y:=hy l[k] (JC _);have ih':=ih (k+1);rw[JB hk',List.find?_cons];generalize l[k]=q at*;obtain⟨q1,q2,q3⟩:=q;simp only at e4 hsk y;by_cases c:q1<=t/\t<q2
  ·have hin:FD t (q1,q2,q3)=true:=by simp[FD,c.1,c.2]
   rw[hin];simp only[];have y':=y hin;have m1:max q1 t=t:=by omega
   have m2:min q2 (t+1)=t+1:=by omega
   have c3:t<t+1:=by omega
   refine⟨(v0+1,.box [.int .i64 t,.int .i64 (t+1),.int .i64 q3]), ?_⟩;rw[jm];simp(maxSteps:=30000000)(disch:=omega)only[go_sem,h1,e3,e4,m1,m2,c3,y',arf]
  ·have hin:FD t (q1,q2,q3)=false:=by simp[FD];omega
   rw[hin];simp only[];have c3:¬ max q1 t<min q2 (t+1):=by omega
   obtain⟨B',e⟩:=ih' (v0+1,.box [.int .i64 (max q1 t),.int .i64 (min q2 (t+1)),.int .i64 q3]) (by omega)
   rw[Dm]at e;refine⟨B', ?_⟩;rw[<-e,jm];simp(maxSteps:=30000000)(disch:=omega)only[go_sem,h1,e3,e4,c3,arf]
theorem aMU{v:AV}{l:List Sn}(hv:oz 3 v (bI l))(hl:l.length<=1000)(hs:∀ s∈l,s.1<s.2.1)(hlo:lo<=H.length)(hlen:∀ s,(H' s).length=H.length)
  (hy:∀ s∈l,FD t s=true->∀ fr,tK (run lib) ⟨lo,H.length,1,none⟩ id iv [.agg [.int .i64 t,.int .i64 (t+1),.int .i64 s.2.2]] (H++fr)=some (.bool false,H' s++fr)) :
  (run lib).fn 99 [.lF id iv,.iE [v],.iE [.int .i64 t],.iE [.int .i64 (t+1)]] H lo=match l.find? (FD t)with|some s=>some (.tuple [],H' s)|none=>some (.tuple [],H):=by
 obtain⟨B',e⟩:=aMT hv hl hs hlo hy l.length 0 (0,.dead) (by omega)
 have s1:=oW (hv.sl []).len;rw[BO]at s1;simp only[Gc,List.drop_zero]at e;have hp:=YR hv;have YU:∀ fr:Heap,(H++fr).take H.length=H:=fun fr=>by rw[NA]
 have tk2:∀ s (fr:Heap),(H' s++fr).take H.length=H' s:=fun s fr=>by rw[<-hlen s,NA]
 obtain⟨_,hvv⟩:v.val=true/\True:=by
  obtain⟨v',_,_,h3,_⟩:=hp;exact⟨h3,trivial⟩
 rw[AA (x:=x99) rfl rfl rfl rfl hlo]
 cases hf:l.find? (FD t) with
 |none =>
  rw[hf]at e
  simp(maxSteps:=30000000)(disch:=omega)only[go_sem,x99,s1,e,YU]
 |some s =>
  rw[hf]at e;simp(maxSteps:=30000000)(disch:=omega)only[go_sem,x99,s1,e,tk2]
end
end Go.VI.Dump
namespace Go.VI.Dump
open Go.VI.Num
/- BIGSTEPS -/
def aiN(h:Heap)(v:AV)(t:Int):Env:=[(4,.bq (h.length+2) 1 0),(5,.bq (h.length+3) 1 0),(13,.fn 99 [.iE [v],.iE [.int .i64 t],.iE [.int .i64 (t+1)]])]
def atD(h:Heap)(v:AV)(t:Int):kP:=⟨4,h.length,h.length,4,aiN h v t⟩
def atH(h:Heap)(v:AV)(t:Int):Heap:=h++[(1,.aV (atD h v t) .ready),(0,.dead),(1,.box [.int .i64 0]),(1,.box [.int .i64 0])]
def arh(h:Heap)(v:AV)(t:Int)(s:Sn):Heap:=h++[(1,.aV (atD h v t) (.done .ret)),(1,.box [.int .i64 t,.int .i64 (t+1),.int .i64 s.2.2]),(1,.box [.int .i64 s.2.2]),(1,.box [.int .i64 0])]
theorem aMV(h:Heap)(v:AV)(t:Int)(s:Sn)(fr:Heap) :
  tK (run lib) ⟨h.length,h.length+4,1,none⟩ (h.length+0) 1 [.agg [.int .i64 t,.int .i64 (t+1),.int .i64 s.2.2]] (atH h v t++fr)=some (.bool false,arh h v t s++fr):=by
 obtain⟨s1,s2,o⟩:=s;obtain⟨D,hD⟩:∃ D:kP,D=atD h v t:=⟨_,rfl⟩;simp only[atH,arh,sZ,List.cons_append,List.nil_append,<-hD]
 have ha:bV lib ⟨h.length,h.length,4,some (h.length+0,1)⟩ r4.xQ ((r4.ps.zip [.agg [.int .i64 t,.int .i64 (t+1),.int .i64 o]]).foldl (fun e p=>e.set p.1 p.2) (aiN h v t),h++((1,.aV D .ready)::(0,.dead)::(1,.box [.int .i64 0])::(1,.box [.int .i64 0])::fr)) =
   some (.norm,([(4,.bq (h.length+2) 1 0),(5,.bq (h.length+3) 1 0),(6,.bq (h.length+1) 1 0)],h++((1,.aV D .ready)::(1,.box [.int .i64 t,.int .i64 (t+1),.int .i64 o])::(1,.box [.int .i64 0])::(1,.box [.int .i64 0])::fr))):=by
  have em:mK ⟨h.length,h.length,4,some (h.length+0,1)⟩ 1 (.box [.int .i64 0,.int .i64 0,.int .i64 0]) (h++((1,.aV D .ready)::(0,.dead)::(1,.box [.int .i64 0])::(1,.box [.int .i64 0])::fr))=some (1,h++((1,.aV D .ready)::(1,.box [.int .i64 0,.int .i64 0,.int .i64 0])::(1,.box [.int .i64 0])::(1,.box [.int .i64 0])::fr)):=by
   rw[Zk (by rfl)]
   simp(maxSteps:=30000000)(disch:=omega)only[go_sem]
  have es:qE ⟨h.length,h.length,4,some (h.length+0,1)⟩ (h++((1,.aV D .ready)::(1,.box [.int .i64 0,.int .i64 0,.int .i64 0])::(1,.box [.int .i64 0])::(1,.box [.int .i64 0])::fr)) 3 (.bq (h.length+1) 1 0) (.agg [.int .i64 t,.int .i64 (t+1),.int .i64 o])=some (h++((1,.aV D .ready)::(1,.box [.int .i64 t,.int .i64 (t+1),.int .i64 o])::(1,.box [.int .i64 0])::(1,.box [.int .i64 0])::fr)):=by
   rw[Ro (by omega) (by rfl)]
   simp(maxSteps:=30000000)(disch:=omega)only[go_sem]
  simp(maxSteps:=30000000)(disch:=omega)only[go_sem,r4,aiN,em,es,List.zip_cons_cons,ZU,List.foldl_cons,TA]
 have hb:bV lib ⟨h.length,h.length,4,some (h.length+0,1)⟩ r4.body ([(4,.bq (h.length+2) 1 0),(5,.bq (h.length+3) 1 0),(6,.bq (h.length+1) 1 0)],(h++((1,.aV D .ready)::(1,.box [.int .i64 t,.int .i64 (t+1),.int .i64 o])::(1,.box [.int .i64 0])::(1,.box [.int .i64 0])::fr)).set (h.length+0) (1,.aV D .busy)) =
   some (.ret,([],h++((1,.aV D .busy)::(1,.box [.int .i64 t,.int .i64 (t+1),.int .i64 o])::(1,.box [.int .i64 o])::(1,.box [.int .i64 0])::fr))):=by
  rw[o7]
  have s1:qE ⟨h.length,h.length,4,some (h.length+0,1)⟩ (h++((1,.aV D .busy)::(1,.box [.int .i64 t,.int .i64 (t+1),.int .i64 o])::(1,.box [.int .i64 0])::(1,.box [.int .i64 0])::fr)) 1 (.bq (h.length+2) 1 0) (.int .i64 o)=some (h++((1,.aV D .busy)::(1,.box [.int .i64 t,.int .i64 (t+1),.int .i64 o])::(1,.box [.int .i64 o])::(1,.box [.int .i64 0])::fr)):=by
   rw[Ro (by omega) (by rfl)]
   simp(maxSteps:=30000000)(disch:=omega)only[go_sem]
  have s2:qE ⟨h.length,h.length,4,some (h.length+0,1)⟩ (h++((1,.aV D .busy)::(1,.box [.int .i64 t,.int .i64 (t+1),.int .i64 o])::(1,.box [.int .i64 o])::(1,.box [.int .i64 0])::fr)) 1 (.bq (h.length+3) 1 0) (.int .i64 0)=some (h++((1,.aV D .busy)::(1,.box [.int .i64 t,.int .i64 (t+1),.int .i64 o])::(1,.box [.int .i64 o])::(1,.box [.int .i64 0])::fr)):=by
   rw[Ro (by omega) (by rfl)]
   simp(maxSteps:=30000000)(disch:=omega)only[go_sem]
  simp(maxSteps:=30000000)(disch:=omega)only[go_sem,r4,s1,s2]
 have hg:(h++((1,aU.aV D .ready)::(0,.dead)::(1,.box [.int .i64 0])::(1,.box [.int .i64 0])::fr))[h.length+0]?=some (1,.aV ⟨4,h.length,h.length,4,aiN h v t⟩ .ready):=by rw[ku,hD];rfl
 have:=Zb (L:=lib) (cx:=⟨h.length,h.length+4,1,none⟩) hg (iJ _) (by omega) (iJ _) (by simp[AV.EY,AV.closed]) (x:=r4) rfl rfl ha (by rw[ku];rfl) hb (by rw[ku];rfl)
 rw[this,o7];rfl
set_option maxHeartbeats 1000000 in
theorem aw4{v:AV}{l:List Sn}(hv:oz 3 v (bI l))(hl:l.length<=9223372036854775807){t:Int}(ht:-1000<=t/\t<=100000000)(h:Heap)(lo:Nat):(run lib).fn 36 [v,.int .i64 t] h lo=some (atV (Zh l t),h):=by
 have e1:=fun H lo=>ara (hv.sl H) hl lo;obtain⟨v',f1,f2,f3,f4,f5,f6⟩:=YR hv;have e2:=aDh v v' f1 f3 f6 f4 t (t+1);rw[jH (x:=x36) rfl rfl rfl rfl];unfold Zh;cases c:xX l
 ·rw[c]at e1;simp only[if_neg Bool.false_ne_true,atV];simp(maxSteps:=30000000)(disch:=omega)only[go_sem,x36,e1]
 ·rw[c]at e1;simp only[if_true]
  have hlen:l.length<=200:=by
   unfold xX at c;simp only[fw,decide_eq_true_eq]at c;omega
  have hmem:∀ s∈l,s.1<s.2.1:=fun s hs=>by
   unfold xX at c;simp only[fw]at c;exact(amx c.1 s hs).2.1
  have hHl:(atH h v' t).length=h.length+4:=by simp[atH]
  have w:=aMU (H:=atH h v' t) (lo:=h.length) (id:=h.length+0) (iv:=1) (H':=arh h v' t) (t:=t) f5 (by omega) hmem (by rw[hHl];omega) (fun s=>by simp[atH,arh]) (fun s _ _ fr=>by rw[hHl];exact aMV h v' t s fr)
  cases hf:l.find? (FD t) with
  |none =>
   rw[hf]at w;have g:=abE (L:=lib) (lo:=h.length) (ns:=4) (s:=0) (g:=4) (it:=99) (v:=0) (caps:=[.iE [v'],.iE [.int .i64 t],.iE [.int .i64 (t+1)]]) (env:=aiN h v' t) (h:=h) (b:=.dead) (fr:=[(0,.dead),(0,.dead),(1,.box [.int .i64 0]),(1,.box [.int .i64 0])]) (f:=.t 13) rfl (by omega) rfl w rfl
   simp only[aiN,List.set_cons_zero]at g;simp only[atV]
   simp(maxSteps:=30000000)(disch:=omega)only[go_sem,x36,e1,e2,g]
  |some s =>
   rw[hf]at w;have g:=at7 (L:=lib) (lo:=h.length) (ns:=4) (s:=0) (g:=4) (it:=99) (v:=0) (caps:=[.iE [v'],.iE [.int .i64 t],.iE [.int .i64 (t+1)]]) (env:=aiN h v' t) (h:=h) (b:=.dead) (fr:=[(0,.dead),(0,.dead),(1,.box [.int .i64 0]),(1,.box [.int .i64 0])]) (f:=.t 13) rfl (by omega) rfl w rfl
   simp only[aiN,List.set_cons_zero]at g;simp only[atV];simp(maxSteps:=30000000)(disch:=omega)only[go_sem,x36,e1,e2,g]
end Go.VI.Dump
namespace Go.VI.Dump
open Go.VI.Num
/- BIGSTEPS -/
theorem aMW{lo ns:Nat}{h fr:Heap}{s ak len i:Nat}{l:List Sn}{n:Int}(hid:fr[s]?=some (ak,.arr 3 (bI l)))(hl:l.length=len)(hi:i<l.length)(hlo:lo<=h.length) :
  qE ⟨lo,h.length,ns,none⟩ (h++fr) 1 (.nS (.ref (h.length+s) ak 3 0 len len) i 1) (.int .i64 n)=some (h++fr.set s (ak,.arr 3 (bI (l.set i (l[i].1,n,l[i].2.2))))):=by
 have he:(bI l)[i]?=some (.agg [.int .i64 l[i].1,.int .i64 l[i].2.1,.int .i64 l[i].2.2]):=by simp[bI,sn,hi]
 have F7:(h++fr)[h.length+s]?=some (ak,.arr 3 (bI l)):=by rw[ku];exact hid
 subst hl;simp only[qE,gI,AV.cells,AV.val,F7,BO,F6,iJ,hi,and_self,if_true,Option.bind_some,he,List.length_cons,Ma,show lo<=h.length+s by omega,splice]
 simp[o7,bI,sn,List.map_set]
theorem aw5(l:List Sn)(a b c:Int):bI (l++[(a,b,c)])=bI l++[.agg [.int .i64 a,.int .i64 b,.int .i64 c]]:=by simp[bI,sn]
theorem aDj(O:List Sn)(t o:Int):(grow O t o).length<=O.length+1:=by
 unfold grow;split
 ·split
  ·simp
  ·simp
 ·simp
def acI(tl:List Sn)(s:Int):Int:=match Zh tl s with|some u=>u.2.2|none=>0
def Nj(tl:List Sn)(s:Int):Int:=if s=-1 then 0 else acI tl s
theorem aMX(tl:List Sn)(s:Int):∃ e,atV (Zh tl s)=.tuple [.int .i64 (acI tl s),.int .i64 e]:=by
 unfold atV acI
 cases Zh tl s with
 |none=>exact⟨_,rfl⟩
 |some u=>exact⟨_,rfl⟩
set_option maxHeartbeats 4000000 in
theorem aMY{v:AV}{tl:List Sn}(hv:oz 3 v (bI tl))(htl:tl.length<=9223372036854775807)(hvv:v.val=true){A:List Int}(hA:A.length<=1000)(hb:∀ s∈A,-1<=s/\s<=600)(h:Heap):∀(d i:Nat) (out:List Sn),i+d=A.length->out.length<=i ->
  bV lib ⟨h.length,h.length,1,none⟩ (.loop as9) ([(1,v),(8,jJ (h.length+0) (0,.dead) 3 (bI out)),(27,.eY 1 (ints A)),(28,.int .i64 A.length),(29,.int .i64 i)],h++[jw (0,.dead) 3 (bI out)]) =
   some (.exit 0,([(8,jJ (h.length+0) (0,.dead) 3 (bI (SG out i ((A.drop i).map (Nj tl)))))],h++[jw (0,.dead) 3 (bI (SG out i ((A.drop i).map (Nj tl))))])):=by
 have sl:=fun H=>abT H 1 (ints A);intro d
 induction d with
 |zero =>
  intro i out hi _;obtain rfl:i=A.length:=by omega
  rw[RH,List.map_nil,SG,jm]
  simp(maxSteps:=30000000)(disch:=omega)only[go_sem,DV]
 |succ d ih =>
  intro i out hi hn;have hi':i<A.length:=by omega
  have c:(i:Int)<A.length:=by omega
  have e3:vJ 1 (.eY 1 (ints A)) (.int .i64 i)=some i:=by rw[Bu (sl h) (by omega) (by simp;omega)];simp
  have e4:=fun off fr=>Ab (off:=off) ((sl h).elems fr) (show i<(ints A).length by simp;omega)
  simp only[acy]at e4;have hs:=hb A[i] (JC _);have e:=ih (i+1) (grow out i (Nj tl A[i])) (by omega) (by have:=aDj out i (Nj tl A[i]);omega)
  rw[JB hi',List.map_cons,SG,show (i:Int)+1=((i+1:Nat):Int) by omega]
  generalize SG (grow out i (Nj tl A[i])) ((i+1:Nat):Int) ((A.drop (i+1)).map (Nj tl))=R at*;rw[Dm]at e;generalize A[i]=s at*;obtain⟨o,ho⟩:∃ o,o=Nj tl s:=⟨_,rfl⟩;rw[<-ho]at e;obtain⟨err,hat⟩:=aMX tl s;have ta:=fun H lo=>aw4 hv htl (t:=s) (by omega) H lo
  rw[hat]at ta;have s0:=Sl.acc (h:=h) (fr:=[jw (0,.dead) 3 (bI out)]) (s:=0) (z:=3) (b0:=(0,.dead)) (es:=bI out) rfl;have ll:=oW s0.len;rw[BO]at ll;have ap:=RQ (lo:=h.length) (ns:=1) (s:=0) (z:=3) (lim:=5864062014805) (h:=h) (fr:=[jw (0,.dead) 3 (bI out)]) (b0:=(0,.dead)) (es:=bI out) (xs:=[.agg [.int .i64 i,.int .i64 ((i:Int)+1),.int .i64 o]]) (by omega) (by omega) rfl (by simp;omega)
  have hco:s=-1/\o=0\/¬ s=-1/\acI tl s=o:=by
   unfold Nj at ho;by_cases c1:s=-1
   ·rw[if_pos c1]at ho;exact .inl ⟨c1,ho⟩
   ·rw[if_neg c1]at ho;exact .inr ⟨c1,ho.symm⟩
  clear ho hat;rw[jm];rcases List.eq_nil_or_concat out with h0|⟨O,r,h0⟩
  ·subst h0;have hg:grow [] i o=[((i:Int),(i:Int)+1,o)]:=by simp[grow]
   rw[hg]at e;simp only[show bI [((i:Int),(i:Int)+1,o)]=[.agg [.int .i64 i,.int .i64 ((i:Int)+1),.int .i64 o]]from rfl]at e
   simp only[show bI []=[]from rfl,Ma,Gc,List.nil_append]at ll ap e⊢
   rcases hco with⟨c1,c2⟩|⟨c1,c2⟩
   ·have c1':(s=-1)=True:=eq_true c1;subst c2;simp(maxSteps:=30000000)(disch:=omega)only[go_sem,c,e3,e4,c1',ll,DV,ap,e]
   ·rw[c2]at ta;simp(maxSteps:=30000000)(disch:=omega)only[go_sem,c,e3,e4,c1,ta,ll,DV,ap,e]
  ·rw[List.concat_eq_append]at h0;subst h0;obtain⟨ra,rb,rc⟩:=r;have hlen:(O++[((ra,rb,rc):Sn)]).length=O.length+1:=by simp
   have g0:0<((O++[((ra,rb,rc):Sn)]).length:Int):=by omega
   have e5:vJ 3 (jJ (h.length+0) (0,.dead) 3 (bI (O++[(ra,rb,rc)]))) (.int .i64 (((O++[((ra,rb,rc):Sn)]).length:Int)-1))=some O.length:=by
    rw[show ((O++[((ra,rb,rc):Sn)]).length:Int)-1=O.length by omega,Bu s0 (by omega) (by simp;omega)];simp
   have e6:=fun off=>Ab (off:=off) s0.DC (show O.length<(bI (O++[((ra,rb,rc):Sn)])).length by simp)
   have hg:(O++[((ra,rb,rc):Sn)])[O.length]'(by simp)=(ra,rb,rc):=List.getElem_concat_length rfl (by simp)
   simp only[TP,sn,hg]at e6;by_cases c3:rc=o
   ·have hgr:grow (O++[(ra,rb,rc)]) i o=O++[(ra,(i:Int)+1,rc)]:=by simp[grow,c3]
    rw[hgr]at e;have hne:bI (O++[((ra,rb,rc):Sn)])≠[]:=by simp[bI]
    have hne2:bI (O++[((ra,(i:Int)+1,rc):Sn)])≠[]:=by simp[bI]
    have st:=aMW (lo:=h.length) (ns:=1) (h:=h) (fr:=[(0+1,.arr 3 (bI (O++[((ra,rb,rc):Sn)])))]) (s:=0) (ak:=0+1) (len:=(O++[((ra,rb,rc):Sn)]).length) (i:=O.length) (l:=O++[(ra,rb,rc)]) (n:=(i:Int)+1) rfl rfl (by simp) (iJ _)
    simp only[hg,List.set_cons_zero]at st;rw[show (O++[((ra,rb,rc):Sn)]).set O.length (ra,(i:Int)+1,rc)=O++[(ra,(i:Int)+1,rc)] by simp]at st
    rw[QV hne2,RI hne2]at e;rw[QV hne]at e5 e6 ll⊢;rw[RI hne]at e6⊢;simp only[BO]at e5 e6 ll st e⊢;rw[show (O++[((ra,(i:Int)+1,rc):Sn)]).length=(O++[((ra,rb,rc):Sn)]).length by simp]at e
    have c3':(rc=o)=True:=eq_true c3;rcases hco with⟨c1,c2⟩|⟨c1,c2⟩
    ·have c1':(s=-1)=True:=eq_true c1;subst c2;simp(maxSteps:=30000000)(disch:=omega)only[go_sem,c,e3,e4,c1',ll,g0,e5,e6,c3',st,e]
    ·rw[c2]at ta;simp(maxSteps:=30000000)(disch:=omega)only[go_sem,c,e3,e4,c1,ta,ll,g0,e5,e6,c3',st,e]
   ·have hgr:grow (O++[(ra,rb,rc)]) i o=(O++[(ra,rb,rc)])++[((i:Int),(i:Int)+1,o)]:=by simp[grow,c3]
    rw[hgr,aw5]at e;rcases hco with⟨c1,c2⟩|⟨c1,c2⟩
    ·have c1':(s=-1)=True:=eq_true c1;subst c2;simp(maxSteps:=30000000)(disch:=omega)only[go_sem,c,e3,e4,c1',ll,g0,e5,e6,c3,ap,e]
    ·rw[c2]at ta;simp(maxSteps:=30000000)(disch:=omega)only[go_sem,c,e3,e4,c1,ta,ll,g0,e5,e6,c3,ap,e]
end Go.VI.Dump
namespace Go.VI.Dump
open Go.VI.Num
/- BIGSTEPS -/
def Z8(l:qf)(tl:List Sn)(xs:List Stp):List Sn:=SG [] 0 ((tu l xs).map (Nj tl))
theorem aDk:∀(os:List Int) (out:List Sn) (t:Int),(SG out t os).length<=out.length+os.length
 |[],out,t=>by rw[SG];simp
 |o::os,out,t=>by
  rw[SG];have:=aDk os (grow out t o) (t+1);have:=aDj out t o;rw[List.length_cons];omega
theorem aMZ{l:qf}(ok:yT l){xs:List Stp}{e:Int}(hc:Ch l 0 l.D xs e):∀ s∈tu l xs,-1<=s/\s<=600:=by
 intro s hs;have hL:=ok.L;unfold tu at hs;rcases Di.mp hs with h|h
 ·have:=(aeO.mp h).2;omega
 ·have:=hc.mem ok.E.1 s h;omega
def plV(l:qf)(tl:List Sn)(xs:List Stp):AV:=if afO tl=l.L/\xX (Z8 l tl xs)=true then .tuple [BL 3 (bI (Z8 l tl xs)),.int .i64 0]else .tuple [.own 0 [],.int .i64 200]
set_option maxHeartbeats 1000000 in
theorem aM0{x:LV}(o:okV x)(ok:yT x.l){xs:List Stp}{e:Int}(hc:Ch x.l 0 x.l.D xs e){v:AV}{tl:List Sn}(hv:oz 3 v (bI tl))(htl:tl.length<=9223372036854775807)(hvv:v.val=true)(h:Heap)(lo:Nat):(run lib).fn 29 [FE x,v] h lo=some (plV x.l tl xs,h):=by
 have ea:=fun H lo=>awR o ok hc H lo;have ee:=fun H lo=>aDd (hv.sl H) htl lo;have hlen:=aDa ok hc;have hdl:=hc.dl ok.D.1 (Fy _);have hL:=ok.L;have hD:=ok.D;have la:=oW (abT h 1 (ints (tu x.l xs))).len;rw[DI]at la;have el:=aMY hv htl hvv (A:=tu x.l xs) (by omega) (aMZ ok hc) h (tu x.l xs).length 0 [] (by omega) (by simp)
 simp only[Gc,List.drop_zero,show bI []=[]from rfl,ai8,al8]at el
 have hpl:SG [] 0 ((tu x.l xs).map (Nj tl))=Z8 x.l tl xs:=rfl;rw[hpl]at el;have hRl:=aDk ((tu x.l xs).map (Nj tl)) [] 0;rw[hpl,abv]at hRl;simp only[Ma]at hRl;unfold plV;generalize Z8 x.l tl xs=R at*;have ev:=fun lo=>ara (Sl.acc (h:=h) (fr:=[jw (0,.dead) 3 (bI R)]) (s:=0) (z:=3) (b0:=(0,.dead)) (es:=bI R) rfl) (l:=R) (by omega) lo
 have gv:=ZJ (s:=0) (z:=3) (h:=h) (b0:=(0,.dead)) (es:=bI R) (fr:=[jw (0,.dead) 3 (bI R)]) rfl;unfold FE at ea⊢;rw[jH (x:=x29) rfl rfl rfl rfl];by_cases c1:afO tl=x.l.L
 ·have c1':(afO tl=x.l.L)=True:=eq_true c1;cases c2:xX R
  ·rw[c2]at ev;rw[if_neg (fun hh=>by cases hh.2)]
   simp(maxSteps:=30000000)(disch:=omega)only[go_sem,x29,ea,ee,la,c1',el,ev,hvv]
  ·rw[c2]at ev;rw[if_pos ⟨c1,rfl⟩];simp(maxSteps:=30000000)(disch:=omega)only[go_sem,x29,ea,ee,la,c1',el,ev,gv,hvv]
 ·rw[if_neg (fun hh=>c1 hh.1)];simp(maxSteps:=30000000)(disch:=omega)only[go_sem,x29,ea,ee,c1,hvv]
end Go.VI.Dump
namespace Go.VI.Dump
open Go.VI.Num
/- BIGSTEPS -/
theorem aw6{c n:Int}(hn:0<n)(hc:rJ c)(h:Heap)(lo:Nat):(run lib).fn 87 [.int .i64 c,.int .i64 n] h lo=some (.int .i64 (zq c n),h):=by
 obtain⟨h1,h2⟩:=hc;unfold zq;rw[jH (x:=x87) rfl rfl rfl rfl];by_cases c0:c<0
 ·rw[if_pos c0];simp(maxSteps:=30000000)(disch:=omega)only[go_sem,x87,c0]
 ·rw[if_neg c0];simp(maxSteps:=30000000)(disch:=omega)only[go_sem,x87,c0]
end Go.VI.Dump
namespace Go.VI.Dump
open Go.VI.Num
/- BIGSTEPS -/
def DT(l:List Sn)(x:Sn):List Sn:=if x.2.1<=x.1 then l else match l.getLast? with|some s=>if s.2.2=x.2.2 then l.dropLast++[(s.1,x.2.1,s.2.2)]else l++[x]|none=>l++[x]
theorem arj(l:List Sn)(x:Sn):(DT l x).length<=l.length+1:=by
 unfold DT;split
 ·omega
 ·split
  ·split
   ·simp
   ·simp
  ·simp
theorem ark{l:List Sn}(h:l≠[])(x:Sn):DT l x≠[]:=by
 unfold DT;split
 ·exact h
 ·split
  ·split
   ·simp
   ·simp
  ·simp
theorem aw7{H:Heap}{id ak z:Nat}{es:List AV}(hb:H[id]?=some (ak,.arr z es)):Sl H z (.ref id ak z 0 es.length es.length) es:=by
 have hlt:id<H.length:=(kS.mp hb).1;have hs:=Sl.aki (h:=H.take id) (fr:=H.drop id) (s:=0) (ak:=ak) (z:=z) (es:=es) (by rw[Nr];simpa using hb)
 rw[List.take_append_drop,JK,Nat.min_eq_left (Nat.le_of_lt hlt),Nat.add_zero]at hs;exact hs
theorem aM1:LZ false .bO=some (.int .i64 0):=rfl
theorem aDl(a b o:Int){H:Heap}{lo:Nat}(hlo:lo<=H.length):(run lib).fn 127 [.bO,.agg [.int .i64 a,.int .i64 b,.int .i64 o]] H lo=some (if b<=a then .own 0 []else .own 3 [sn (a,b,o)],H):=by
 have YU:∀ fr:Heap,(H++fr).take H.length=H:=fun fr=>by rw[NA]
 have ap:=RQ (lo:=lo) (ns:=1) (s:=0) (z:=3) (lim:=5864062014805) (h:=H) (fr:=[(0,.dead)]) (b0:=(0,.dead)) (es:=[]) (xs:=[.agg [.int .i64 a,.int .i64 b,.int .i64 o]]) (by omega) hlo rfl (by simp)
 have gv:=aos (s:=0) (z:=3) (h:=H) (b0:=(0,.dead)) (es:=[.agg [.int .i64 a,.int .i64 b,.int .i64 o]]) (fr:=[jw (0,.dead) 3 [.agg [.int .i64 a,.int .i64 b,.int .i64 o]]]) rfl;rw[ai8]at ap;simp only[List.nil_append,List.set_cons_zero]at ap;rw[AA (x:=ZL) rfl rfl rfl rfl hlo];by_cases c:b<=a
 ·simp(maxSteps:=30000000)(disch:=omega)only[go_sem,ZL,c,YU]
 ·rw[show BL 3 [AV.agg [.int .i64 a,.int .i64 b,.int .i64 o]]=.own 3 [sn (a,b,o)]from rfl]at gv
  simp(maxSteps:=30000000)(disch:=omega)only[go_sem,ZL,c,aM1,DV,ap,gv,YU]
theorem aDm(a b o:Int){H:Heap}{lo:Nat}(hlo:lo<=H.length):(run lib).fn 127 [.fT 0 [],.agg [.int .i64 a,.int .i64 b,.int .i64 o]] H lo=some (if b<=a then .fT 0 []else .own 3 [sn (a,b,o)],H):=by
 have YU:∀ fr:Heap,(H++fr).take H.length=H:=fun fr=>by rw[NA]
 have l0:LZ false (.fT 0 [])=some (.int .i64 0):=rfl
 have mk:mK ⟨lo,H.length,1,none⟩ 0 (.arr 3 [.agg [.int .i64 a,.int .i64 b,.int .i64 o]]) (H++[(0,.dead)])=some (1,H++[(1,.arr 3 [.agg [.int .i64 a,.int .i64 b,.int .i64 o]])]):=by
  have:=abz (lo:=lo) (ns:=1) (h:=H) (fr:=[(0,.dead)]) (s:=0) (b:=.arr 3 [.agg [.int .i64 a,.int .i64 b,.int .i64 o]]);rw[this];rfl
 have ap:wG ⟨lo,H.length,1,none⟩ 0 3 5864062014805 (.fT 0 []) [.agg [.int .i64 a,.int .i64 b,.int .i64 o]] (H++[(0,.dead)])=some (.ref (H.length+0) 1 3 0 1 1,H++[(1,.arr 3 [.agg [.int .i64 a,.int .i64 b,.int .i64 o]])]):=by
  simp[wG,mk]
 have gv:=aos (s:=0) (z:=3) (h:=H) (b0:=(0,.dead)) (es:=[.agg [.int .i64 a,.int .i64 b,.int .i64 o]]) (fr:=[jw (0,.dead) 3 [.agg [.int .i64 a,.int .i64 b,.int .i64 o]]]) rfl;rw[show jJ (H.length+0) (0,.dead) 3 [AV.agg [.int .i64 a,.int .i64 b,.int .i64 o]]=.ref (H.length+0) 1 3 0 1 1 from rfl,show jw (0,.dead) 3 [AV.agg [.int .i64 a,.int .i64 b,.int .i64 o]]=(1,.arr 3 [.agg [.int .i64 a,.int .i64 b,.int .i64 o]])from rfl]at gv
 rw[AA (x:=ZL) rfl rfl rfl rfl hlo];by_cases c:b<=a
 ·have g0:∀ fr:Heap,tJ H.length (.fT 0 []) (H++fr)=some (.fT 0 []):=fun fr=>rfl;simp(maxSteps:=30000000)(disch:=omega)only[go_sem,ZL,c,YU,g0,aw0,aw1]
 ·rw[show BL 3 [AV.agg [.int .i64 a,.int .i64 b,.int .i64 o]]=.own 3 [sn (a,b,o)]from rfl]at gv
  simp(maxSteps:=30000000)(disch:=omega)only[go_sem,ZL,c,l0,DV,ap,gv,YU]
theorem apd{H fr:Heap}{id:Nat}{x:Nat×aU}(h:id<H.length):(H++fr).set id x=H.set id x++fr:=List.set_append_left _ _ h
set_option maxHeartbeats 1000000 in
theorem aw8{H:Heap}{lo id ak:Nat}{l:List Sn}(hid:H[id]?=some (ak,.arr 3 (bI l)))(hne:l≠[])(hl:l.length<=5000)(hlo:lo<=id)(a b o:Int) :
  (run lib).fn 127 [.ref id ak 3 0 l.length l.length,.agg [.int .i64 a,.int .i64 b,.int .i64 o]] H lo=some (.ref id ak 3 0 (DT l (a,b,o)).length (DT l (a,b,o)).length,H.set id (ak,.arr 3 (bI (DT l (a,b,o))))):=by
 have hlt:id<H.length:=(kS.mp hid).1;have zl:∀ fr:Heap,(H++fr)[id]?=some (ak,.arr 3 (bI l)):=fun fr=>by rw[zy hlt];exact hid
 have s0:∀ fr:Heap,Sl (H++fr) 3 (.ref id ak 3 0 l.length l.length) (bI l):=fun fr=>by
  have:=aw7 (zl fr);rw[BO]at this;exact this
 have ll:=oW (s0 []).len;rw[BO]at ll;have hsame:H.set id (ak,.arr 3 (bI l))=H:=akk hid;have YU:∀ fr:Heap,(H++fr).take H.length=H:=fun fr=>by rw[NA]
 have tk2:∀(x:Nat×aU) (fr:Heap),(H.set id x++fr).take H.length=H.set id x:=fun x fr=>by
  conv=>lhs;rw[<-Td (as:=H) (i:=id) (a:=x)]
  rw[NA]
 have g0:∀(v n:Nat) (h':Heap),tJ H.length (.ref id v 3 0 n n) h'=some (.ref id v 3 0 n n):=fun v n h'=>by
  have:¬ H.length<=id:=by omega
  simp[tJ,give,gI,this]
 rw[AA (x:=ZL) rfl rfl rfl rfl (by omega)]
 by_cases c:b<=a
 ·rw[show DT l (a,b,o)=l from if_pos c,hsame]
  simp(maxSteps:=30000000)(disch:=omega)only[go_sem,ZL,c,YU,g0]
 ·rcases List.eq_nil_or_concat l with h0|⟨O,r,h0⟩
  ·exact absurd h0 hne
  ·rw[List.concat_eq_append]at h0;obtain⟨ra,rb,rc⟩:=r;have hlen:l.length=O.length+1:=by rw[h0];simp
   have gp:0<(l.length:Int):=by omega
   have e5:vJ 3 (.ref id ak 3 0 l.length l.length) (.int .i64 ((l.length:Int)-1))=some O.length:=by
    rw[show (l.length:Int)-1=O.length by omega,Bu (s0 []) (by omega) (by simp;omega)];simp
   have e6:=fun off fr=>Ab (off:=off) (s0 fr).DC (show O.length<(bI l).length by simp;omega)
   have hg:l[O.length]'(by omega)=(ra,rb,rc):=by simp only[h0];exact List.getElem_concat_length rfl (by simp)
   simp only[TP,sn,hg]at e6;by_cases c3:rc=o
   ·have hadd:DT l (a,b,o)=O++[(ra,b,rc)]:=by
     unfold DT;rw[if_neg c,h0];simp[c3]
    rw[hadd]
    have he:(bI l)[0+O.length]?=some (.agg [.int .i64 ra,.int .i64 rb,.int .i64 rc]):=by
     rw[F6,Fv (by simp;omega),TP,sn,hg]
    have hset:(bI l).set (0+O.length) (.agg [.int .i64 ra,.int .i64 b,.int .i64 rc])=bI (O++[(ra,b,rc)]):=by
     rw[h0];simp[bI,sn]
    have st:∀ fr:Heap,qE ⟨lo,H.length,1,none⟩ (H++fr) 1 (.nS (.ref id ak 3 0 l.length l.length) O.length 1) (.int .i64 b)=some (H.set id (ak,.arr 3 (bI (O++[(ra,b,rc)])))++fr):=fun fr=>by
     rw[<-hset,<-apd hlt];simp only[qE,gI,AV.cells,AV.val,zl,BO,F6,iJ,show O.length<l.length by omega,and_self,if_true,Option.bind_some,List.length_cons,Ma,hlo,splice]
     rw[F6]at he;simp[he]
    have c3':(rc=o)=True:=eq_true c3;have hl2:(O++[((ra,b,rc):Sn)]).length=l.length:=by simp;omega
    rw[hl2];simp(maxSteps:=30000000)(disch:=omega)only[go_sem,ZL,c,ll,gp,e5,e6,c3',st,tk2,g0]
   ·have hadd:DT l (a,b,o)=l++[(a,b,o)]:=by
     unfold DT;rw[if_neg c];have:l.getLast?=some (ra,rb,rc):=by rw[h0];simp
     rw[this];simp[c3]
    rw[hadd,aw5]
    have ap:∀ fr:Heap,wG ⟨lo,H.length,1,none⟩ 0 3 5864062014805 (.ref id ak 3 0 l.length l.length) [.agg [.int .i64 a,.int .i64 b,.int .i64 o]] (H++fr)=some (.ref id ak 3 0 (l.length+1) (l.length+1),H.set id (ak,.arr 3 (bI l++[.agg [.int .i64 a,.int .i64 b,.int .i64 o]]))++fr):=fun fr=>by
     have:=ac7 (cx:=⟨lo,H.length,1,none⟩) (s:=0) (z:=3) (lim:=5864062014805) (h:=H++fr) (xs:=[.agg [.int .i64 a,.int .i64 b,.int .i64 o]]) (zl fr) hlo (by simp;omega)
     rw[BO,apd hlt]at this;simpa using this
    have hl2:(l++[((a,b,o):Sn)]).length=l.length+1:=by simp
    rw[hl2];simp(maxSteps:=30000000)(disch:=omega)only[go_sem,ZL,c,ll,gp,e5,e6,c3,ap,tk2,g0]
end Go.VI.Dump
namespace Go.VI.Dump
open Go.VI.Num
/- BIGSTEPS -/
def TR(f t:Int)(s:Sn):Sn:=(max f s.1,min t s.2.1,s.2.2)
def BQ(f t:Int)(l tl:List Sn):List Sn:=tl.foldl (fun l s=>DT l (TR f t s)) l
theorem arl(f t:Int):∀(tl l:List Sn),(BQ f t l tl).length<=l.length+tl.length
 |[],l=>by simp[BQ]
 |s::tl,l=>by
  have:=arl f t tl (DT l (TR f t s));have:=arj l (TR f t s);simp only[BQ,List.foldl_cons,List.length_cons]at *;omega
theorem aw9(f t:Int):∀(tl:List Sn) {l:List Sn},l≠[]->BQ f t l tl≠[]
 |[],l,h=>h
 |s::tl,l,h=>by
  simp only[BQ,List.foldl_cons];exact aw9 f t tl (ark h _)
def PV(n:Nat)(v:AV)(B:Nat×aU)(l:List Sn):Prop:=(l=[]/\(v=.bO\/v=.fT 0 [])/\B=(0,.dead))\/(l≠[]/\v=.ref (n+0) (0+1) 3 0 l.length l.length/\B=(0+1,.arr 3 (bI l)))
theorem aM2(cx:Cx)(h:Heap):F9 cx [(0,0)] (some (.own 0 [],h))=some (.fT 0 [],h):=by simp[F9,Dz,weak,yY]
theorem aM3(cx:Cx)(h:Heap):F9 cx [(0,0)] (some (.fT 0 [],h))=some (.fT 0 [],h):=by simp[F9,Dz,weak,yY]
theorem am7(cx:Cx)(s id ak z a b c:Nat)(h:Heap):F9 cx [(0,s)] (some (.ref id ak z a b c,h))=some (.ref id ak z a b c,h):=by simp[F9,Dz,weak,yY]
theorem aDn(x:Sn):DT [] x=if x.2.1<=x.1 then[] else[x]:=by unfold DT;split<;>rfl
set_option maxHeartbeats 4000000 in
theorem aM4{H:Heap}{lo:Nat}(hlo:lo<=H.length){tv:AV}{tl:List Sn}(hS:∀ fr,Sl (H++fr) 3 tv (bI tl))(htl:tl.length<=1000)(f t:Int):∀(d k:Nat) (v:AV) (B:Nat×aU) (l:List Sn),k+d=tl.length->l.length<=k->PV H.length v B l ->
  ∃ v' B',PV H.length v' B' (BQ f t l (tl.drop k))/\bV lib ⟨lo,H.length,1,none⟩ (.loop aoN) ([(0,v),(1,tv),(2,.int .i64 f),(3,.int .i64 t),(9,.int .i64 k)],H++[B])=some (.exit 0,([(0,v')],H++[B'])):=by
 have ll:=oW (hS []).len;rw[BO]at ll;intro d
 induction d with
 |zero =>
  intro k v B l hk _ hp;obtain rfl:k=tl.length:=by omega
  refine⟨v,B,by rw[RH];exact hp, ?_⟩
  rw[jm]
  simp(maxSteps:=30000000)(disch:=omega)only[go_sem,ll,DV]
 |succ d ih =>
  intro k v B l hk hl hp;have hk':k<tl.length:=by omega
  have c:(k:Int)<tl.length:=by omega
  have e3:vJ 3 tv (.int .i64 k)=some k:=by rw[Bu (hS []) (by omega) (by simp;omega)];simp
  have e4:=fun off fr=>Ab (off:=off) (hS fr).DC (show k<(bI tl).length by simp;omega)
  simp only[TP,sn]at e4
  have hstep:BQ f t l (tl.drop k)=BQ f t (DT l (TR f t tl[k])) (tl.drop (k+1)):=by
   rw[JB hk'];rfl
  rw[hstep];have ih':=fun v B (hp':PV H.length v B (DT l (TR f t (tl[k]'hk'))))=>ih (k+1) v B (DT l (TR f t tl[k])) (by omega) (by have:=arj l (TR f t tl[k]);omega) hp'
  have hcl:TR f t tl[k]=(max f tl[k].1,min t tl[k].2.1,tl[k].2.2):=rfl;rw[hcl]at ih'⊢;generalize tl[k]=q at*;obtain⟨q1,q2,q3⟩:=q;simp only at e4 ih'⊢;rw[jm];rcases hp with⟨h0,hv,hB⟩|⟨hne,hv,hB⟩
  ·subst h0;subst hB;have n1:=aDl (max f q1) (min t q2) q3 (H:=H++[(0,.dead)]) (lo:=lo) (by simp;omega)
   have n2:=aDm (max f q1) (min t q2) q3 (H:=H++[(0,.dead)]) (lo:=lo) (by simp;omega)
   rw[aDn]at ih'⊢;simp only at ih'⊢;by_cases g:min t q2<=max f q1
   ·simp only[if_pos g]at n1 n2 ih'⊢;obtain⟨v',B',p1,e⟩:=ih' (.fT 0 []) (0,.dead) (.inl ⟨rfl,.inr rfl,rfl⟩);refine⟨v',B',p1, ?_⟩;rw[Dm]at e;rcases hv with rfl|rfl
    ·simp(maxSteps:=30000000)(disch:=omega)only[go_sem,ll,c,e3,e4,n1,aM2,e]
    ·simp(maxSteps:=30000000)(disch:=omega)only[go_sem,ll,c,e3,e4,n2,aM3,e]
   ·simp only[if_neg g]at n1 n2 ih'⊢;have tk:=ai' (lo:=lo) (ns:=1) (s:=0) (z:=3) (h:=H) (fr:=[(0,.dead)]) (b0:=(0,.dead)) (es:=[sn (max f q1,min t q2,q3)]) (by omega) rfl (by simp)
    rw[show BL 3 [sn (max f q1,min t q2,q3)]=.own 3 [sn (max f q1,min t q2,q3)]from rfl]at tk
    simp only[List.set_cons_zero]at tk;obtain⟨v',B',p1,e⟩:=ih' (.ref (H.length+0) (0+1) 3 0 1 1) (0+1,.arr 3 [sn (max f q1,min t q2,q3)]) (.inr ⟨by simp,rfl,rfl⟩)
    refine⟨v',B',p1, ?_⟩;rw[Dm]at e;rcases hv with rfl|rfl
    ·simp(maxSteps:=30000000)(disch:=omega)only[go_sem,ll,c,e3,e4,n1,tk,e]
    ·simp(maxSteps:=30000000)(disch:=omega)only[go_sem,ll,c,e3,e4,n2,tk,e]
  ·subst hB;subst hv;have hid:(H++[(0+1,aU.arr 3 (bI l))])[H.length+0]?=some (0+1,.arr 3 (bI l)):=by rw[ku];rfl
   have r1:=aw8 (lo:=lo) hid hne (by omega) (by omega) (max f q1) (min t q2) q3
   rw[o7]at r1;simp only[List.set_cons_zero]at r1;obtain⟨v',B',p1,e⟩:=ih' (.ref (H.length+0) (0+1) 3 0 (DT l (max f q1,min t q2,q3)).length (DT l (max f q1,min t q2,q3)).length) (0+1,.arr 3 (bI (DT l (max f q1,min t q2,q3)))) (.inr ⟨ark hne _,rfl,rfl⟩);refine⟨v',B',p1, ?_⟩;rw[Dm]at e;simp(maxSteps:=30000000)(disch:=omega)only[go_sem,ll,c,e3,e4,r1,am7,e]
def aM5(r:AV):Prop:=r=.own 0 []\/r=.fT 0 []
theorem aM6{H:Heap}{lo:Nat}(hlo:lo<=H.length){tv:AV}{tl:List Sn}(hS:∀ fr,Sl (H++fr) 3 tv (bI tl))(htl:tl.length<=1000)(f t:Int) :
  ∃ r,(run lib).fn 128 [.bO,tv,.int .i64 f,.int .i64 t] H lo=some (r,H)/\(BQ f t [] tl=[]/\aM5 r\/BQ f t [] tl≠[]/\r=.own 3 (bI (BQ f t [] tl))):=by
 obtain⟨v',B',p1,e⟩:=aM4 hlo hS htl f t tl.length 0 .bO (0,.dead) [] (by omega) (by simp) (.inl ⟨rfl,.inl rfl,rfl⟩)
 rw[List.drop_zero]at p1;simp only[Gc]at e;have YU:∀ fr:Heap,(H++fr).take H.length=H:=fun fr=>by rw[NA]
 obtain⟨w1,w2⟩:=acD (hS []);generalize BQ f t [] tl=R at*;rcases p1 with⟨h0,hv,hB⟩|⟨hne,hv,hB⟩
 ·subst hB;rcases hv with rfl|rfl
  ·refine⟨.own 0 [], ?_,.inl ⟨h0,.inl rfl⟩⟩;rw[AA (x:=acn) rfl rfl rfl rfl hlo];simp(maxSteps:=30000000)(disch:=omega)only[go_sem,acn,e,YU,w1,w2]
  ·refine⟨.fT 0 [], ?_,.inl ⟨h0,.inr rfl⟩⟩;have g0:∀ fr:Heap,tJ H.length (.fT 0 []) (H++fr)=some (.fT 0 []):=fun fr=>rfl;rw[AA (x:=acn) rfl rfl rfl rfl hlo];simp(maxSteps:=30000000)(disch:=omega)only[go_sem,acn,e,YU,g0,w1,w2]
 ·subst hB;refine⟨.own 3 (bI R), ?_,.inr ⟨hne,rfl⟩⟩;have hne':bI R≠[]:=fun hh=>hne (acH.mp hh);have gv:=aos (s:=0) (z:=3) (h:=H) (b0:=(0,.dead)) (es:=bI R) (fr:=[jw (0,.dead) 3 (bI R)]) rfl;rw[QV hne',RI hne',show BL 3 (bI R)=.own 3 (bI R)from if_neg hne',BO]at gv
  subst hv;rw[AA (x:=acn) rfl rfl rfl rfl hlo];simp(maxSteps:=30000000)(disch:=omega)only[go_sem,acn,e,YU,gv,w1,w2]
set_option maxHeartbeats 4000000 in
theorem aM7{H:Heap}{lo id ak:Nat}(hid:id<H.length)(hlo:lo<=id){tv:AV}{tl:List Sn}(hS:∀(x:Nat×aU) fr,Sl (H.set id x++fr) 3 tv (bI tl))(htl:tl.length<=1000)(f t:Int):∀(d k:Nat) (l:List Sn),k+d=tl.length->l≠[]->l.length<=2000+k ->
  bV lib ⟨lo,H.length,1,none⟩ (.loop aoN) ([(0,.ref id ak 3 0 l.length l.length),(1,tv),(2,.int .i64 f),(3,.int .i64 t),(9,.int .i64 k)],H.set id (ak,.arr 3 (bI l))++[(0,.dead)]) =
   some (.exit 0,([(0,.ref id ak 3 0 (BQ f t l (tl.drop k)).length (BQ f t l (tl.drop k)).length)],H.set id (ak,.arr 3 (bI (BQ f t l (tl.drop k))))++[(0,.dead)])):=by
 have ll:=oW (hS (0,.dead) []).len;rw[BO]at ll;intro d
 induction d with
 |zero =>
  intro k l hk _ _;obtain rfl:k=tl.length:=by omega
  rw[RH,show BQ f t l []=l from rfl,jm]
  simp(maxSteps:=30000000)(disch:=omega)only[go_sem,ll,DV]
 |succ d ih =>
  intro k l hk hne hl;have hk':k<tl.length:=by omega
  have c:(k:Int)<tl.length:=by omega
  have e3:vJ 3 tv (.int .i64 k)=some k:=by rw[Bu (hS (0,.dead) []) (by omega) (by simp;omega)];simp
  have e4:=fun off x fr=>Ab (off:=off) (hS x fr).DC (show k<(bI tl).length by simp;omega)
  simp only[TP,sn]at e4
  have hstep:BQ f t l (tl.drop k)=BQ f t (DT l (TR f t tl[k])) (tl.drop (k+1)):=by
   rw[JB hk'];rfl
  rw[hstep];have e:=ih (k+1) (DT l (TR f t tl[k])) (by omega) (ark hne _) (by have:=arj l (TR f t tl[k]);omega)
  have hcl:TR f t tl[k]=(max f tl[k].1,min t tl[k].2.1,tl[k].2.2):=rfl;rw[hcl]at e⊢;rw[Dm]at e;generalize tl[k]=q at*;obtain⟨q1,q2,q3⟩:=q;simp only at e4 e⊢;have hlt:id<(H.set id (ak,aU.arr 3 (bI l))).length:=by rw[Td];exact hid
  have aM8:(H.set id (ak,.arr 3 (bI l))++[(0,aU.dead)])[id]?=some (ak,.arr 3 (bI l)):=by
   rw[zy hlt,L8 hid]
  have r1:=aw8 (lo:=lo) aM8 hne (by omega) hlo (max f q1) (min t q2) q3
  rw[apd hlt,List.set_set]at r1;rw[jm];simp(maxSteps:=30000000)(disch:=omega)only[go_sem,ll,c,e3,e4,r1,am7,e]
theorem aDo{H:Heap}{lo id ak:Nat}{l:List Sn}(hid:H[id]?=some (ak,.arr 3 (bI l)))(hlo:lo<=id)(hne:l≠[])(hl:l.length<=2000){tv:AV}{tl:List Sn}(hS:∀(x:Nat×aU) fr,Sl (H.set id x++fr) 3 tv (bI tl))(htl:tl.length<=1000)(f t:Int) :
  (run lib).fn 128 [.ref id ak 3 0 l.length l.length,tv,.int .i64 f,.int .i64 t] H lo=some (.ref id ak 3 0 (BQ f t l tl).length (BQ f t l tl).length,H.set id (ak,.arr 3 (bI (BQ f t l tl)))):=by
 have hlt:id<H.length:=(kS.mp hid).1;have e:=aM7 (ak:=ak) hlt hlo hS htl f t tl.length 0 l (by omega) hne (by omega)
 rw[List.drop_zero,akk hid]at e;simp only[Gc]at e
 have tk2:∀(x:Nat×aU) (fr:Heap),(H.set id x++fr).take H.length=H.set id x:=fun x fr=>by
  conv=>lhs;rw[<-Td (as:=H) (i:=id) (a:=x)]
  rw[NA]
 have g0:∀(v n:Nat) (h':Heap),tJ H.length (.ref id v 3 0 n n) h'=some (.ref id v 3 0 n n):=fun v n h'=>by
  have:¬ H.length<=id:=by omega
  simp[tJ,give,gI,this]
 obtain⟨w1,w2⟩:=acD (hS (0,.dead) []);rw[AA (x:=acn) rfl rfl rfl rfl (by omega)]
 simp(maxSteps:=30000000)(disch:=omega)only[go_sem,acn,e,tk2,g0,w1,w2]
end Go.VI.Dump
namespace Go.VI.Dump
open Go.VI.Num
/- BIGSTEPS -/
theorem aM9(cx:Cx)(s:Nat)(h:Heap):F9 cx [(0,s)] (some (.own 0 [],h))=some (.fT 0 [],h):=by simp[F9,Dz,weak,yY]
theorem aM'(cx:Cx)(s:Nat)(h:Heap):F9 cx [(0,s)] (some (.fT 0 [],h))=some (.fT 0 [],h):=by simp[F9,Dz,weak,yY]
theorem aNa{L:Int}(hL:1<=L/\L<=10000000)(h:Heap)(lo:Nat):(run lib).fn 85 [.int .i64 L,.int .i64 0] h lo=some (.tuple [.own 3 [sn (0,L,0)],.int .i64 0],h):=by
 have c1:¬ L<0:=by omega
 have c2:¬ 10000000<L:=by omega
 have n1:=aDl 0 L 0 (H:=h++[(0,.dead)]) (lo:=h.length) (by simp)
 rw[if_neg (by omega)]at n1
 have tk:=ai' (lo:=h.length) (ns:=1) (s:=0) (z:=3) (h:=h) (fr:=[(0,.dead)]) (b0:=(0,.dead)) (es:=[sn (0,L,0)]) (by omega) rfl (by simp)
 rw[show BL 3 [sn (0,L,0)]=.own 3 [sn (0,L,0)]from rfl]at tk
 have gv:=ZJ (s:=0) (z:=3) (h:=h) (b0:=(0,.dead)) (es:=[sn (0,L,0)]) (fr:=[jw (0,.dead) 3 [sn (0,L,0)]]) rfl;rw[QV (by simp),RI (by simp),show BL 3 [sn (0,L,0)]=.own 3 [sn (0,L,0)]from rfl]at gv
 simp only[List.length_cons,Ma]at gv tk;rw[jH (x:=x85) rfl rfl rfl rfl];simp(maxSteps:=30000000)(disch:=omega)only[go_sem,x85,c1,c2,n1,tk,gv]
end Go.VI.Dump
namespace Go.VI.Dump
open Go.VI.Num
/- BIGSTEPS -/
def spF(L:Int)(x:Tr):Int:=zq x.1 L
def SL(L:Int)(x:Tr):Sn:=(spF L x,spF L x+1+zq x.2.1 (L-spF L x),zq x.2.2 8)
set_option maxHeartbeats 1000000 in
theorem aNb{h:Heap}{v:AV}{xs:List Tr}(hv:Sl h 3 v (Sq xs))(hl:xs.length<=9223372036854775807)(hi:∀ x∈xs,rJ x.1/\rJ x.2.1/\rJ x.2.2){L:Int}(hL:1<=L/\L<=1000):∀(d k:Nat),k+d=min xs.length 20 ->
  bV lib ⟨h.length,h.length,1,none⟩ (.loop ath) ([(0,.int .i64 L),(1,v),(5,jJ (h.length+0) (0,.dead) 3 (bI ((xs.take k).map (SL L)))),(6,.int .i64 k)],h++[jw (0,.dead) 3 (bI ((xs.take k).map (SL L)))]) =
   some (.exit 0,([(5,jJ (h.length+0) (0,.dead) 3 (bI ((xs.take 20).map (SL L))))],h++[jw (0,.dead) 3 (bI ((xs.take 20).map (SL L)))])):=by
 have ll:=oW hv.len;rw[aC5]at ll;intro d
 induction d with
 |zero =>
  intro k hk
  have ht:xs.take k=xs.take 20:=by
   by_cases c:xs.length<=20
   ·rw[ZC (by omega),ZC c]
   ·rw[show k=20 by omega]
  rw[ht,jm];by_cases c:(k:Int)<xs.length
  ·have c6:¬ (k:Int)<20:=by omega
   simp(maxSteps:=30000000)(disch:=omega)only[go_sem,ll,c,c6]
  ·simp(maxSteps:=30000000)(disch:=omega)only[go_sem,ll,c]
 |succ d ih =>
  intro k hk;have hk':k<xs.length:=by omega
  have c:(k:Int)<xs.length:=by omega
  have c6:(k:Int)<20:=by omega
  have e:=ih (k+1) (by omega)
  have e3:vJ 3 v (.int .i64 k)=some k:=by rw[Bu hv (by omega) (by simp;omega)];simp
  have e4:=fun off fr=>Ab (off:=off) (hv.elems fr) (show k<(Sq xs).length by simp;omega)
  simp only[aC6,tri]at e4;obtain⟨i1,i2,i3⟩:=hi xs[k] (JC _);rw[ajj hk',List.map_append,List.map_cons,List.map_nil,SL,aw5,Dm]at e;have hlen:((xs.take k).map (SL L)).length<=20:=by rw[abv,JK];omega
  generalize xs[k]=x at*;obtain⟨x1,x2,x3⟩:=x;simp only[spF]at e4 i1 i2 i3 e;have r1:=Sk x1 (n:=L) (by omega)
  have p1:=fun H lo=>aw6 (n:=L) (by omega) i1 H lo
  have p2:=fun H lo=>aw6 (n:=L-zq x1 L) (by omega) i2 H lo
  have p3:=fun H lo=>aw6 (n:=8) (by decide) i3 H lo
  have r2:=Sk x2 (n:=L-zq x1 L) (by omega)
  generalize zq x1 L=u at*;generalize zq x2 (L-u)=w at*;generalize zq x3 8=t at*;generalize (xs.take k).map (SL L)=P at*;have ap:=RQ (lo:=h.length) (ns:=1) (s:=0) (z:=3) (lim:=5864062014805) (h:=h) (fr:=[jw (0,.dead) 3 (bI P)]) (b0:=(0,.dead)) (es:=bI P) (xs:=[.agg [.int .i64 u,.int .i64 (u+1+w),.int .i64 t]]) (by omega) (by omega) rfl (by simp;omega)
  have ck:∀ es,ckN (some (jw (0,.dead) 3 es))=true:=fun es=>aiK 3 es;rw[jm];simp(maxSteps:=30000000)(disch:=omega)only[go_sem,ll,c,c6,e3,e4,p1,p2,p3,ck,ap,e]
theorem aNc{h:Heap}{v:AV}{xs:List Tr}(hv:Sl h 3 v (Sq xs))(hl:xs.length<=9223372036854775807)(hi:∀ x∈xs,rJ x.1/\rJ x.2.1/\rJ x.2.2){L:Int}(hL:1<=L/\L<=1000)(lo:Nat) :
  (run lib).fn 47 [.int .i64 L,v] h lo=some (BL 3 (bI ((xs.take 20).map (SL L))),h):=by
 have e:=aNb hv hl hi hL (min xs.length 20) 0 (by omega)
 simp only[Gc,List.take_zero,List.map_nil,show bI []=[]from rfl,ai8,al8]at e
 have gv:=aos (s:=0) (z:=3) (h:=h) (b0:=(0,.dead)) (es:=bI ((xs.take 20).map (SL L))) (fr:=[jw (0,.dead) 3 (bI ((xs.take 20).map (SL L)))]) rfl;obtain⟨w1,w2⟩:=acD hv;rw[jH (x:=x47) rfl rfl rfl rfl];simp(maxSteps:=30000000)(disch:=omega)only[go_sem,x47,e,gv,w1,w2]
def PS(h:Heap)(v:AV)(B0 B1:Nat×aU)(R:List Sn):Prop :=
 (R≠[]/\v=.ref (h.length+1) (0+1) 3 0 R.length R.length/\B1=(0+1,.arr 3 (bI R)))\/(R≠[]/\∃ w,v=.ref (h.length+0) w 3 0 R.length R.length/\B0=(w,.arr 3 (bI R)))\/(R=[]/\v=.fT 0 [])
theorem PS.sl{h:Heap}{v:AV}{B0 B1:Nat×aU}{R:List Sn}(p:PS h v B0 B1 R):Sl (h++[B0,B1]) 3 v (bI R):=by
 rcases p with⟨_,rfl,rfl⟩|⟨_,w,rfl,rfl⟩|⟨rfl,rfl⟩
 ·have:=aw7 (H:=h++[B0,(0+1,.arr 3 (bI R))]) (id:=h.length+1) (ak:=0+1) (z:=3) (es:=bI R) (by rw[ku];rfl)
  rw[BO]at this;exact this
 ·have:=aw7 (H:=h++[(w,.arr 3 (bI R)),B1]) (id:=h.length+0) (ak:=w) (z:=3) (es:=bI R) (by rw[ku];rfl)
  rw[BO]at this;exact this
 ·exact⟨by simp[VI.xB],fun _=>rfl,rfl⟩
end Go.VI.Dump
namespace Go.VI.Dump
open Go.VI.Num
/- BIGSTEPS -/
end Go.VI.Dump
namespace Go.VI.Dump
open Go.VI.Num
/- BIGSTEPS -/
def Dy(L:List Sn)(s:Sn):List Sn:=match L.getLast? with
 |some q=>if q.2.2=s.2.2 then L.dropLast++[(q.1,s.2.1,q.2.2)]else L++[s]
 |none=>L++[s]
theorem aNd(s:Sn):Dy [] s=[s]:=rfl
theorem axa(L:List Sn)(q s:Sn):Dy (L++[q]) s=if q.2.2=s.2.2 then L++[(q.1,s.2.1,q.2.2)] else(L++[q])++[s]:=by
 simp[Dy]
theorem aDp(L:List Sn)(s:Sn):Dy L s≠[]:=by
 unfold Dy;split
 ·split<;>simp
 ·simp
def Sr(L:List Sn):Nat×aU:=jw (0,.dead) 3 (bI L)
def Ra(n:Nat)(L:List Sn):Nat×aU:=(1,.box [jJ n (0,.dead) 3 (bI L)])
theorem arn{L:List Sn}(h:L≠[]):Sr L=(1,.arr 3 (bI L)):=by
 unfold Sr;rw[RI (by simpa[bI]using h)]
theorem am8{n:Nat}{L:List Sn}(h:L≠[]):Ra n L=(1,.box [.ref n 1 3 0 L.length L.length]):=by
 unfold Ra;rw[QV (by simpa[bI]using h),BO]
theorem aNe{H:Heap}{L:List Sn}{q s:Sn}{fr:Heap}{lo:Nat}(hlo:lo<=H.length) :
  (run lib).fn 101 [.nS (.ref H.length 1 3 0 (L.length+1) (L.length+1)) L.length 0,sn s] (H++((1,.arr 3 (bI (L++[q])))::fr)) lo =
   some (.bool (decide (q.2.2=s.2.2)),H++((1,.arr 3 (bI (if q.2.2=s.2.2 then L++[(q.1,s.2.1,q.2.2)]else L++[q])))::fr)):=by
 obtain⟨X,hX⟩:∃ X:Sn->Heap,X=fun q=>H++((1,.arr 3 (bI (L++[q])))::fr):=⟨_,rfl⟩;have hlen:∀ q,(X q).length=H.length+(fr.length+1):=fun q=>by rw[hX];simp
 have hg:∀ q,(X q)[H.length]?=some (1,.arr 3 (bI (L++[q]))):=fun q=>by rw[hX];simp
 have hsl:Sl (X q) 3 (.ref H.length 1 3 0 (L.length+1) (L.length+1)) (bI (L++[q])):=by
  have:=Sl.aki (h:=H) (fr:=(1,.arr 3 (bI (L++[q])))::fr) (s:=0) (ak:=1) (z:=3) (es:=bI (L++[q])) rfl;rw[hX];simpa using this
 have hk:L.length<(bI (L++[q])).length:=by simp
 have hel:(bI (L++[q]))[L.length]=sn q:=by rw[TP];simp[sn]
 have pc:=fun off=>Ab (off:=off) hsl.DC hk;simp only[hel,sn]at pc;have nk:∀ i off,Sv (.nS (.ref H.length 1 3 0 (L.length+1) (L.length+1)) i off)=some (.nS (.ref H.length 1 3 0 (L.length+1) (L.length+1)) i off):=fun i off=>rfl
 have st:∀(n:Int),qE ⟨lo,(X q).length,0,none⟩ (X q) 1 (.nS (.ref H.length 1 3 0 (L.length+1) (L.length+1)) L.length 1) (.int .i64 n)=some (X (q.1,n,q.2.2)):=fun n=>by
  have he:(bI (L++[q]))[L.length]?=some (sn q):=by rw[Fv hk,hel]
  simp only[qE,gI,AV.cells,AV.val,hg,BO,uG,List.length_cons,Ma,F6,iJ,and_self,if_true,Option.bind_some,he,sn,splice,hlo,Nat.lt_succ_self];rw[hX];simp[bI,sn,List.map_append]
 rw[show (H++((1,aU.arr 3 (bI (L++[q])))::fr))=X q by rw[hX]]
 have ho:=AA (L:=lib) (f:=101) (x:=x101) (args:=[.nS (.ref H.length 1 3 0 (L.length+1) (L.length+1)) L.length 0,sn s]) (h:=X q) (lo:=lo) rfl rfl rfl rfl (by rw[hlen];omega)
 have hr:List.replicate x101.ns (0,aU.dead)=[]:=rfl;have tk:∀ p,(X p).take (X q).length=X p:=fun p=>by rw[hlen q,<-hlen p,QU]
 rw[ho,hr,Gs];unfold sn;by_cases c:q.2.2=s.2.2
 ·rw[if_pos c,decide_eq_true c];have e:H++((1,aU.arr 3 (bI (L++[(q.1,s.2.1,q.2.2)])))::fr)=X (q.1,s.2.1,q.2.2):=by rw[hX]
  rw[e];simp(maxSteps:=30000000)(disch:=omega)only[go_sem,x101,pc,nk,c,st,tk,Dn]
 ·rw[if_neg c,decide_eq_false c];have e:H++((1,aU.arr 3 (bI (L++[q])))::fr)=X q:=by rw[hX]
  rw[e];simp(maxSteps:=30000000)(disch:=omega)only[go_sem,x101,pc,nk,c,tk,Dn]
theorem aNf{lo:Nat}{h:Heap}{s:Sn}(hlo:lo<=h.length):wG ⟨lo,h.length,1,none⟩ 0 3 5864062014805 .bO [sn s] (h++[(0,.dead)])=some (.ref (h.length+0) 1 3 0 1 1,h++[(1,.arr 3 [sn s])]):=by
 have:=RQ (lo:=lo) (ns:=1) (s:=0) (z:=3) (lim:=5864062014805) (h:=h) (fr:=[(0,.dead)]) (b0:=(0,.dead)) (es:=[]) (xs:=[sn s]) (by omega) hlo rfl (by simp)
 simpa[jJ,jw]using this
theorem ext_nil(s:Sn)(X:Heap){lo:Nat}(hlo:lo<=X.length):(run lib).fn 100 [.bO,sn s,.fn 101 []] X lo=some (.own 3 [sn s],X):=by
 have ap:=aNf (lo:=lo) (h:=X) (s:=s) hlo;have gv:=aja (s:=0) (ak:=1) (z:=3) (h:=X) (fr:=[(1,.arr 3 [sn s])]) (es:=[sn s]) rfl
 have gr:tJ X.length (.ref (X.length+0) 1 3 0 1 1) (X++[(1,.arr 3 [sn s])])=some (.own 3 [sn s]):=by
  simp only[tJ];simpa using congrArg (Option.map (·.1)) gv
 have ln:LZ false .bO=some (.int .i64 0):=rfl;unfold sn at*;rw[AA (x:=x100) rfl rfl rfl rfl hlo];simp(maxSteps:=30000000)(disch:=omega)only[go_sem,x100,ln,ap,gr,Dn,NA]
theorem aNg{H:Heap}{L:List Sn}{q s:Sn}{fr:Heap}{lo:Nat}(hlo:lo<=H.length)(hL:L.length<=100000) :
  (run lib).fn 100 [.ref H.length 1 3 0 (L.length+1) (L.length+1),sn s,.fn 101 []] (H++((1,.arr 3 (bI (L++[q])))::fr)) lo =
   some (.ref H.length 1 3 0 (Dy (L++[q]) s).length (Dy (L++[q]) s).length,H++((1,.arr 3 (bI (Dy (L++[q]) s)))::fr)):=by
 obtain⟨X,hX⟩:∃ X:List Sn->Heap,X=fun M=>H++((1,.arr 3 (bI M))::fr):=⟨_,rfl⟩;have hlen:∀ M,(X M).length=H.length+(fr.length+1):=fun M=>by rw[hX];simp
 have e1:=aNe (L:=L) (q:=q) (s:=s) (fr:=fr++[(0,.dead)]) hlo;have hx:∀ M,H++((1,aU.arr 3 (bI M))::(fr++[(0,.dead)]))=X M++[(0,.dead)]:=fun M=>by rw[hX];simp
 simp only[hx]at e1;rw[show H++((1,aU.arr 3 (bI (L++[q])))::fr)=X (L++[q]) by rw[hX],show H++((1,aU.arr 3 (bI (Dy (L++[q]) s)))::fr)=X (Dy (L++[q]) s) by rw[hX]]
 have hsl:Sl (X (L++[q])++[(0,.dead)]) 3 (.ref H.length 1 3 0 (L.length+1) (L.length+1)) (bI (L++[q])):=by
  have:=Sl.aki (h:=H) (fr:=(1,.arr 3 (bI (L++[q])))::(fr++[(0,.dead)])) (s:=0) (ak:=1) (z:=3) (es:=bI (L++[q])) rfl;rw[hX];simpa using this
 have ln:=oW hsl.len;rw[BO,uG]at ln
 have ix:vJ 3 (.ref H.length 1 3 0 (L.length+1) (L.length+1)) (.int .i64 (((L.length+1:Nat):Int)-1))=some L.length:=by
  rw[Bu hsl (by omega) (by simp;omega)];congr 1;omega
 have gr:∀ a H',tJ (X (L++[q])).length (.ref H.length 1 3 0 a a) H'=some (.ref H.length 1 3 0 a a):=fun a H'=>by
  have:¬ (X (L++[q])).length<=H.length:=by rw[hlen];omega
  simp[tJ,give,gI,this]
 have tk:∀ M (r:Heap),(X M++r).take (X (L++[q])).length=X M:=fun M r=>by rw[hlen,<-hlen M,NA]
 have hc0:(0:Int)<((L.length+1:Nat):Int):=by omega
 have hlX:lo<=(X (L++[q])).length:=by rw[hlen];omega
 rw[axa]at*;rw[AA (x:=x100) rfl rfl rfl rfl hlX];unfold sn at e1⊢;by_cases c:q.2.2=s.2.2
 ·rw[if_pos c,decide_eq_true c]at e1;rw[if_pos c];have hn:(L++[(q.1,s.2.1,q.2.2)]).length=L.length+1:=by simp
  rw[hn];simp(maxSteps:=30000000)(disch:=omega)only[go_sem,x100,ln,ix,hc0,e1,gr,tk,Dn]
 ·rw[if_neg c,decide_eq_false c]at e1;rw[if_neg c];have hb:(X (L++[q])++[(0,aU.dead)])[H.length]?=some (1,.arr 3 (bI (L++[q]))):=by rw[hX];simp
  have ap:=ac7 (cx:=⟨lo,(X (L++[q])).length,1,none⟩) (s:=0) (z:=3) (lim:=5864062014805) (id:=H.length) (ak:=1) (xs:=[sn s]) hb hlo (by simp;omega)
  have hs:(X (L++[q])++[(0,aU.dead)]).set H.length (1,.arr 3 (bI (L++[q])++[sn s]))=X (L++[q]++[s])++[(0,.dead)]:=by rw[hX];simp[bI]
  have hl2:(bI (L++[q])).length=L.length+1:=by simp
  have hl3:(L++[q]++[s]).length=L.length+1+1:=by simp
  rw[hs,hl2]at ap;rw[hl3];unfold sn at ap;simp(maxSteps:=30000000)(disch:=omega)only[go_sem,x100,ln,ix,hc0,e1,ap,gr,tk,Dn]
end Go.VI.Dump
namespace Go.VI.Dump
open Go.VI.Num
/- BIGSTEPS -/
theorem aNi{cx:Cx}{id ak z o a b:Nat}{h:Heap}:F9 cx [(0,0)] (some (.ref id ak z o a b,h))=some (.ref id ak z o a b,h):=rfl
theorem aNj{H:Heap}{L:List Sn}{s:Sn}{fr:Heap}{lo:Nat}(hlo:lo<=H.length)(hL:L.length<=100000) :
  (run lib).fn 69 [.bq (H.length+1) 1 0,sn s] (H++(Sr L::Ra H.length L::fr)) lo=some (.tuple [],H++(Sr (Dy L s)::Ra H.length (Dy L s)::fr)):=by
 obtain⟨X,hX⟩:∃ X:Nat×aU->Nat×aU->Heap,X=fun a b=>H++(a::b::fr):=⟨_,rfl⟩;have hlen:∀ a b,(X a b).length=H.length+(fr.length+1+1):=fun a b=>by rw[hX];simp
 have nk:∀ n,Sv (.bq n 1 0)=some (.bq n 1 0):=fun n=>rfl;have pc:∀ a v,qL (X a (1,.box [v])) (.bq (H.length+1) 1 0)=some [v]:=fun a v=>by rw[hX];simp[qL]
 have st:∀ a v n k,qE ⟨lo,n,0,none⟩ (X a (1,.box [v])) 1 (.bq (H.length+1) 1 0) (.ref H.length 1 3 0 k k)=some (X a (1,.box [.ref H.length 1 3 0 k k])):=fun a v n k=>by
  have:lo<=H.length+1:=by omega
  rw[hX];simp[qE,AV.cells,AV.val,splice,AV.SQ,this]
 have tk:∀ a b a' b',(X a b).take (X a' b').length=X a b:=fun a b a' b'=>by rw[hlen,<-hlen a b,QU]
 have hcd:∀ a b,(lo<H.length+1/\H.length+1<(X a b).length)=True:=fun a b=>eq_true (by rw[hlen];omega)
 have hpos:∀ a b,lo<=(X a b).length:=fun a b=>by rw[hlen];omega
 have hr:List.replicate x69.ns (0,aU.dead)=[]:=rfl;rw[show H++(Sr L::Ra H.length L::fr)=X (Sr L) (Ra H.length L) by rw[hX],show H++(Sr (Dy L s)::Ra H.length (Dy L s)::fr)=X (Sr (Dy L s)) (Ra H.length (Dy L s)) by rw[hX],arn (aDp L s),am8 (aDp L s)]
 rcases List.eq_nil_or_concat L with rfl|⟨M,q,rfl⟩
 ·have e:=ext_nil s (X (Sr []) (Ra H.length [])) (hpos _ _);have ow:=ai' (lo:=lo) (ns:=1) (s:=0) (z:=3) (h:=H) (fr:=Sr []::Ra H.length []::fr) (b0:=(0,.dead)) (es:=[sn s]) (by omega) rfl (by simp)
  rw[show BL 3 [sn s]=.own 3 [sn s]from rfl]at ow
  have e1:H++(Sr []::Ra H.length []::fr)=X (0,.dead) (1,.box [.bO]):=by rw[hX];rfl
  have e2:H++(Sr []::Ra H.length []::fr).set 0 (0+1,.arr 3 [sn s])=X (1,.arr 3 [sn s]) (1,.box [.bO]):=by rw[hX];rfl
  simp only[e1,e2]at ow;rw[show X (Sr []) (Ra H.length [])=X (0,.dead) (1,.box [.bO]) by rw[hX];rfl]at e⊢
  have hl1:(Dy [] s).length=1:=rfl;have hs1:bI (Dy [] s)=[sn s]:=rfl;rw[hl1,hs1,AA (x:=x69) rfl rfl rfl rfl (hpos _ _),hr,Gs];simp only[Nat.add_zero,List.length_singleton,F6]at ow;unfold sn at e ow⊢;simp(maxSteps:=30000000)(disch:=omega)only[go_sem,x69,nk,pc,e,hcd,Nat.add_sub_cancel,ow,st,tk,Dn]
 ·have hne:M++[q]≠[]:=by simp
  have hM:M.length<=100000:=by simp at hL;omega
  have e:=aNg (H:=H) (L:=M) (q:=q) (s:=s) (fr:=Ra H.length (M++[q])::fr) hlo hM
  have e1:∀ K,H++((1,aU.arr 3 (bI K))::Ra H.length (M++[q])::fr)=X (1,.arr 3 (bI K)) (1,.box [.ref H.length 1 3 0 (M.length+1) (M.length+1)]):=fun K=>by
   rw[hX,am8 hne];simp
  simp only[e1]at e;have hl1:(M++[q]).length=M.length+1:=by simp
  rw[List.concat_eq_append,arn hne,am8 hne,hl1,AA (x:=x69) rfl rfl rfl rfl (hpos _ _),hr,Gs];generalize (Dy (M++[q]) s).length=n' at*;generalize bI (Dy (M++[q]) s)=es' at*;unfold sn at e⊢;simp(maxSteps:=30000000)(disch:=omega)only[go_sem,x69,nk,pc,e,hcd,aNi,st,tk,Dn]
end Go.VI.Dump
namespace Go.VI.Dump
open Go.VI.Num
/- BIGSTEPS -/
def gL(H:Heap)(L:List Sn):Heap:=H++[Sr L,Ra H.length L]
theorem axb(H:Heap)(L:List Sn):(gL H L).length=H.length+2:=by simp[gL]
def Z9(H:Heap):Nat×aU:=(1,.box [.fn (1000+69) [.bq (H.length+1) 1 0]])
def ak8(H:Heap)(it:Nat)(caps:List AV):Env:=[(3,.bq (H.length+2+2) 1 0),(5,.fn it caps)]
def eaD(H:Heap)(lo it:Nat)(caps:List AV):kP:=⟨6,lo,H.length+2,3,ak8 H it caps⟩
def eaH(H:Heap)(lo it:Nat)(caps:List AV)(st:List Sn×(Nat×aU)):Heap:=gL H st.1++[(1,.aV (eaD H lo it caps) .ready),st.2,Z9 H]
def snC(s:Sn):List AV:=[.int .i64 s.1,.int .i64 s.2.1,.int .i64 s.2.2]
def eaT(st:List Sn×(Nat×aU))(s:Sn):List Sn×(Nat×aU):=(Dy st.1 s,(st.2.1+1,.box (snC s)))
theorem aNk{H:Heap}{lo it:Nat}{caps:List AV}(hlo:lo<=H.length)(st:List Sn×(Nat×aU))(hL:st.1.length<=100000)(s:Sn)(fr:Heap) :
  tK (run lib) ⟨lo,H.length+5,1,none⟩ (H.length+2+0) 1 [sn s] (eaH H lo it caps st++fr)=some (.bool true,eaH H lo it caps (eaT st s)++fr):=by
 obtain⟨L,v,b⟩:=st;simp only at hL;obtain⟨D,hD⟩:∃ D:kP,D=eaD H lo it caps:=⟨_,rfl⟩;simp only[eaH,eaT,sZ,List.cons_append,List.nil_append,<-hD];have hgl:∀ L,(gL H L).length=H.length+2:=axb H;have hl2:lo<=H.length+2:=by omega
 have em:∀ L (g:Heap),mK ⟨lo,H.length+2,3,some (H.length+2+0,1)⟩ 1 (.box [.int .i64 0,.int .i64 0,.int .i64 0]) (gL H L++g)=mkF 1 3 (.box [.int .i64 0,.int .i64 0,.int .i64 0]) (gL H L) g g[1]?:=fun L g=>by
  have:=Zk (lo:=lo) (ns:=3) (s:=1) (b:=.box [.int .i64 0,.int .i64 0,.int .i64 0]) (h:=gL H L) (fr:=g) (p:=(H.length+2+0,1)) (by rfl)
  rwa [hgl]at this
 have es:=fun L (g:Heap) ak=>Ro (lo:=lo) (ns:=3) (sz:=3) (s:=1) (ak:=ak) (off:=0) (h:=gL H L) (fr:=g) (v:=sn s) (p:=(H.length+2+0,1)) (by rw[hgl];exact hl2) (by rfl)
 simp only[hgl]at es;have pn:=fun L (g:Heap) k ak off=>JM (hgl L) g k ak off
 have ha:bV lib ⟨lo,H.length+2,3,some (H.length+2+0,1)⟩ r6.xQ ((r6.ps.zip [sn s]).foldl (fun e p=>e.set p.1 p.2) (ak8 H it caps),gL H L++((1,.aV D .ready)::(v,b)::Z9 H::fr)) =
   some (.norm,([(3,.bq (H.length+2+2) 1 0),(4,.bq (H.length+2+1) (v+1) 0)],gL H L++((1,.aV D .ready)::(v+1,.box (snC s))::Z9 H::fr))):=by
  simp only[sn]at es⊢;simp(maxSteps:=30000000)(disch:=omega)only[go_sem,r6,ak8,snC,em,es,hgl,List.zip_cons_cons,ZU,List.foldl_cons,TA]
 have ad:=aNj (H:=H) (L:=L) (s:=s) (fr:=(1,.aV D .busy)::(v+1,.box (snC s))::Z9 H::fr) hlo hL;have hg2:∀ L (g:Heap),H++(Sr L::Ra H.length L::g)=gL H L++g:=fun L g=>by simp[gL]
 simp only[hg2]at ad
 have hb:bV lib ⟨lo,H.length+2,3,some (H.length+2+0,1)⟩ r6.body ([(3,.bq (H.length+2+2) 1 0),(4,.bq (H.length+2+1) (v+1) 0)],(gL H L++((1,.aV D .ready)::(v+1,.box (snC s))::Z9 H::fr)).set (H.length+2+0) (1,.aV D .busy)) =
   some (.norm,([],gL H (Dy L s)++((1,.aV D .busy)::(v+1,.box (snC s))::Z9 H::fr))):=by
  rw[awW (hgl L),List.set_cons_zero];simp only[Z9,sn,snC]at ad⊢;simp(maxSteps:=30000000)(disch:=omega)only[go_sem,r6,pn,ad,List.cons_append,List.nil_append]
 have hg:(gL H L++((1,aU.aV D .ready)::(v,b)::Z9 H::fr))[H.length+2+0]?=some (1,.aV ⟨6,lo,H.length+2,3,ak8 H it caps⟩ .ready):=by rw[awh (hgl L),hD];rfl
 have:=Zb (L:=lib) (cx:=⟨lo,H.length+5,1,none⟩) hg (iJ _) (by omega) hl2 (by simp[sn,AV.EY,AV.closed]) (x:=r6) rfl rfl ha (by rw[awh (hgl L)];rfl) hb (by rw[awh (hgl _)];rfl)
 rw[this,awW (hgl _)];rfl
def clip(f t:Int)(s:Sn):Sn:=(max s.1 f,min s.2.1 t,s.2.2)
def clips(f t:Int)(l:List Sn):List Sn:=(l.map (clip f t)).filter fun s=>decide (s.1<s.2.1)
theorem aNl(f t:Int)(s:Sn)(l:List Sn):clips f t (s::l)=if (clip f t s).1<(clip f t s).2.1 then clip f t s::clips f t l else clips f t l:=by
 unfold clips;rw[List.map_cons,List.filter_cons];by_cases c:(clip f t s).1<(clip f t s).2.1
 ·rw[if_pos c,if_pos (by simpa using c)]
 ·rw[if_neg c,if_neg (by simpa using c)]
section
variable {σ:Type}{Hs:σ->Heap}{nb lo id iv:Nat}{step:σ->Sn->σ}{Iv:Nat->σ->Prop}{f t:Int}
set_option maxHeartbeats 1000000 in
theorem aNm{v:AV}{l:List Sn}(hv:oz 3 v (bI l))(hl:l.length<=1000)(hb:∀ s∈l,rJ s.1/\rJ s.2.1)(hlo:lo<=nb)(hlen:∀ st,(Hs st).length=nb)
  (hI:∀ st k s,Iv k st->Iv (k+1) (step st s)) (hI2:∀ st k,Iv k st->Iv (k+1) st)
  (hy:∀ st k s fr,Iv k st->k<=1000->tK (run lib) ⟨lo,nb,1,none⟩ id iv [sn s] (Hs st++fr)=some (.bool true,Hs (step st s)++fr)):∀(d k:Nat) (st:σ) (B:Nat×aU),k+d=l.length->Iv k st ->
  ∃ B',bV lib ⟨lo,nb,1,none⟩ (.loop aoL) ([(0,.lF id iv),(2,.iE [.int .i64 f]),(3,.iE [.int .i64 t]),(7,v),(8,.int .i64 l.length),(9,.int .i64 k)],Hs st++[B]) =
   some (.exit 0,([],Hs ((clips f t (l.drop k)).foldl step st)++[B'])):=by
 have mk:=fun st (fr:Heap) b=>Mt (lo:=lo) (ns:=1) (hlen st) fr 0 b;have ps:=fun st (fr:Heap) sz ak off v=>Ms (ns:=1) (hlen st) hlo fr sz 0 ak off v;have pn:=fun st (g:Heap) ak off=>JM (hlen st) g 0 ak off;intro d
 induction d with
 |zero =>
  intro k st B hk hi;obtain rfl:k=l.length:=by omega
  refine⟨B, ?_⟩;rw[RH,jm];simp(maxSteps:=30000000)(disch:=omega)only[go_sem,DV]
  rfl
 |succ d ih =>
  intro k st B hk hi;obtain⟨v0,b0⟩:=B;have hk':k<l.length:=by omega
  have h1:(k:Int)<l.length:=by omega
  have e3:vJ 3 v (.int .i64 k)=some k:=by rw[Bu (hv.sl []) (by omega) (by simp;omega)];simp
  have e4:=fun off H=>Ab (off:=off) ((hv.sl H).DC) (show k<(bI l).length by simp;omega)
  simp only[TP,sn]at e4;have y:=fun s fr=>hy st k s fr hi (by omega)
  have ih':=ih (k+1);rw[JB hk',aNl];generalize l[k]=q at*;obtain⟨q1,q2,q3⟩:=q;simp only at e4;by_cases c0:(clip f t (q1,q2,q3)).1<(clip f t (q1,q2,q3)).2.1
  ·have c:max q1 f<min q2 t:=c0;simp only[if_pos c0,List.foldl_cons];simp only[clip];have y':=y (max q1 f,min q2 t,q3) [(v0+1,.box [.int .i64 (max q1 f),.int .i64 (min q2 t),.int .i64 q3])];obtain⟨B',e⟩:=ih' (step st (max q1 f,min q2 t,q3)) (v0+1,.box [.int .i64 (max q1 f),.int .i64 (min q2 t),.int .i64 q3]) (by omega) (hI _ _ _ hi)
   rw[Dm]at e;refine⟨B', ?_⟩;simp only[sn]at y';rw[<-e,jm];simp(maxSteps:=30000000)(disch:=omega)only[go_sem,h1,e3,e4,mk,ps,pn,c,y',arf]
  ·have c:¬ max q1 f<min q2 t:=c0;simp only[if_neg c0];obtain⟨B',e⟩:=ih' st (v0+1,.box [.int .i64 (max q1 f),.int .i64 (min q2 t),.int .i64 q3]) (by omega) (hI2 _ _ hi)
   rw[Dm]at e;refine⟨B', ?_⟩;rw[<-e,jm];simp(maxSteps:=30000000)(disch:=omega)only[go_sem,h1,e3,e4,mk,ps,pn,c,arf]
theorem aNn{v:AV}{l:List Sn}(hv:oz 3 v (bI l))(hl:l.length<=1000)(hb:∀ s∈l,rJ s.1/\rJ s.2.1)(hlo:lo<=nb)(hlen:∀ st,(Hs st).length=nb)
  (hI:∀ st k s,Iv k st->Iv (k+1) (step st s)) (hI2:∀ st k,Iv k st->Iv (k+1) st)
  (hy:∀ st k s fr,Iv k st->k<=1000->tK (run lib) ⟨lo,nb,1,none⟩ id iv [sn s] (Hs st++fr)=some (.bool true,Hs (step st s)++fr)) (st:σ) (hi:Iv 0 st) :
  (run lib).fn 99 [.lF id iv,.iE [v],.iE [.int .i64 f],.iE [.int .i64 t]] (Hs st) lo=some (.tuple [],Hs ((clips f t l).foldl step st)):=by
 obtain⟨B',e⟩:=aNm (f:=f) (t:=t) hv hl hb hlo hlen hI hI2 hy l.length 0 st (0,.dead) (by omega) hi
 have s1:=oW (hv.sl []).len;rw[BO]at s1;simp only[Gc,List.drop_zero]at e;have hp:=YR hv;have tk:∀ s (fr:Heap),(Hs s++fr).take (Hs st).length=Hs s:=fun s fr=>by rw[hlen,<-hlen s,NA]
 obtain⟨_,hvv⟩:v.val=true/\True:=by
  obtain⟨v',_,_,h3,_⟩:=hp;exact⟨h3,trivial⟩
 rw[<-hlen st]at e;rw[AA (x:=x99) rfl rfl rfl rfl (by rw[hlen];exact hlo)]
 simp(maxSteps:=30000000)(disch:=omega)only[go_sem,x99,s1,e,tk]
end
end Go.VI.Dump
namespace Go.VI.Dump
open Go.VI.Num
/- BIGSTEPS -/
theorem aDq(L:List Sn)(s:Sn):(Dy L s).length<=L.length+1:=by
 unfold Dy;split
 ·split<;>simp
 ·simp
theorem axd:∀(l L:List Sn),(l.foldl Dy L).length<=L.length+l.length
 |[],L=>by simp
 |s::l,L=>by
  have h1:=axd l (Dy L s);have h2:=aDq L s;rw[List.foldl_cons,List.length_cons];omega
theorem aDr:∀(l:List Sn) (st:List Sn×(Nat×aU)),(l.foldl eaT st).1=l.foldl Dy st.1
 |[],st=>rfl
 |s::l,st=>by rw[List.foldl_cons,aDr l,List.foldl_cons];rfl
theorem aDs(f t:Int)(l:List Sn):(clips f t l).length<=l.length:=by
 unfold clips;exact Np (List.length_filter_le _ _) (by simp)
theorem aNo{v:AV}{l:List Sn}(hv:oz 3 v (bI l))(hl:l.length<=1000)(hb:∀ s∈l,rJ s.1/\rJ s.2.1){f t:Int}(H:Heap){lo:Nat}(hlo:lo<=H.length) :
  (run lib).fn 68 [.fn 99 [.iE [v],.iE [.int .i64 f],.iE [.int .i64 t]],.fn (1000+69) [.bq (H.length+1) 1 0]] (gL H []) lo=some (.tuple [],gL H ((clips f t l).foldl Dy [])):=by
 obtain⟨it,hit⟩:∃ it,it=99:=⟨_,rfl⟩;obtain⟨caps,axe⟩:∃ caps,caps=[AV.iE [v],.iE [.int .i64 f],.iE [.int .i64 t]]:=⟨_,rfl⟩
 have g:=aNn (Hs:=eaH H lo 99 caps) (nb:=H.length+5) (lo:=lo) (id:=H.length+2+0) (iv:=1) (step:=eaT) (Iv:=fun k st=>st.1.length<=k) (f:=f) (t:=t) hv hl hb (by omega) (fun st=>by simp[eaH,gL]) (fun st k s h=>Np (aDq _ _) (by omega)) (fun st k h=>by omega)
  (fun st k s fr h hk=>aNk hlo st (by omega) s fr) ([],(0,.dead)) (iJ _)
 have hf:=aDr (clips f t l) ([],(0,.dead));obtain⟨st,hst⟩:∃ st,st=(clips f t l).foldl eaT ([],(0,.dead)):=⟨_,rfl⟩;rw[<-hst]at g hf;obtain⟨L,B⟩:=st;simp only at hf;rw[<-hf];rw[<-axe];have hgl:∀ L,(gL H L).length=H.length+2:=axb H
 have g3:=aMo (L:=lib) (lo:=lo) (ns:=3) (s:=0) (g:=6) (it:=99) (v:=0) (caps:=caps) (env:=ak8 H 99 caps) (h:=gL H []) (b:=.dead) (h':=gL H L)
  (fr:=[(0,.dead),(0,.dead),Z9 H]) (fr':=[(1,.aV (eaD H lo 99 caps) .ready),B,Z9 H]) (f:=.t 5) (by rw[hgl,hgl]) rfl (by omega) rfl (by rw[hgl,axe];rw[axe]at g;exact g) rfl
 have hgn:=hgl [];have tk:∀(fr:Heap),(gL H L++fr).take (gL H []).length=gL H L:=fun fr=>by rw[hgl,<-hgl L,NA]
 have vf:(AV.fn (1000+69) [.bq (H.length+1) 1 0]).val=true:=rfl;have cf:(AV.fn (1000+69) [.bq (H.length+1) 1 0]).cells=[.fn (1000+69) [.bq (H.length+1) 1 0]]:=rfl;rw[AA (x:=x68) rfl rfl rfl rfl (by rw[hgl];omega)]
 rw[hgn]at g3;have mk:=fun(g:Heap) s b=>Mt (lo:=lo) (ns:=3) hgn g s b;simp only[ak8,Z9,List.set_cons_zero]at g3;rw[hgn]at tk⊢;simp(maxSteps:=30000000)(disch:=omega)only[go_sem,x68,mk,vf,cf,g3,tk,hgn]
theorem aNp{v:AV}{l:List Sn}(hv:∀ H,Sl H 3 v (bI l))(hl:l.length<=9223372036854775807)(f t:Int)(h:Heap)(lo:Nat):(run lib).fn 67 [v,.int .i64 f,.int .i64 t] h lo=some (.bool (decide (0<=f)&&(decide (f<t)&&decide (t<=u6 l))),h):=by
 have e:=fun H lo=>aDc (h:=H) (hv H) hl lo;rw[jH (x:=x67) rfl rfl rfl rfl];by_cases c1:0<=f
 ·by_cases c2:f<t
  ·simp only[c1,c2,decide_true,Ri];simp(maxSteps:=30000000)(disch:=omega)only[go_sem,x67,c1,c2,e]
  ·simp only[c1,c2,decide_true,decide_false,Ri,Z5];simp(maxSteps:=30000000)(disch:=omega)only[go_sem,x67,c1,c2]
 ·simp only[c1,decide_false,Z5];simp(maxSteps:=30000000)(disch:=omega)only[go_sem,x67,c1]
theorem aNq{H:Heap}{L:List Sn}(hn:L≠[])(hL:L.length<=200)(lo:Nat):(run lib).fn 70 [.bq (H.length+1) 1 0] (gL H L) lo=some (.tuple [.ref H.length 1 3 0 L.length L.length,.int .i64 0],gL H L):=by
 have hg:(gL H L)[H.length+1]?=some (1,.box [.ref H.length 1 3 0 L.length L.length]):=by unfold gL;rw[am8 hn];simp
 have nk:∀ n,Sv (.bq n 1 0)=some (.bq n 1 0):=fun n=>rfl;have pc:qL (gL H L) (.bq (H.length+1) 1 0)=some [.ref H.length 1 3 0 L.length L.length]:=by simp[qL,hg]
 have hsl:Sl (gL H L) 3 (.ref H.length 1 3 0 L.length L.length) (bI L):=by
  have:=Sl.aki (h:=H) (fr:=[Sr L,Ra H.length L]) (s:=0) (ak:=1) (z:=3) (es:=bI L) (by rw[arn hn];rfl)
  simpa[gL]using this
 have ln:=oW hsl.len;rw[BO]at ln;have c:¬ (200:Int)<L.length:=by omega
 have gr:∀ H',tJ (gL H L).length (.tuple [.ref H.length 1 3 0 L.length L.length,.int .i64 0]) H'=some (.tuple [.ref H.length 1 3 0 L.length L.length,.int .i64 0]):=fun H'=>by
  have:¬ (gL H L).length<=H.length:=by rw[axb];omega
  simp[tJ,NH,give,gI,this]
 rw[jH (x:=x70) rfl rfl rfl rfl];simp(maxSteps:=30000000)(disch:=omega)only[go_sem,x70,nk,pc,ln,c,gr]
def Nk(l:List Sn)(f t:Int):List Sn:=(clips f t l).foldl Dy []
theorem aDt{v:AV}{l:List Sn}(hv:oz 3 v (bI l))(hl:l.length<=9223372036854775807)(hb:∀ s∈l,rJ s.1/\rJ s.2.1){f t:Int}(hn:xX l=true->0<=f->f<t->t<=u6 l->Nk l f t≠[])(h:Heap)(lo:Nat) :
  (run lib).fn 37 [v,.agg [.int .i64 f,.int .i64 t]] h lo=some (if (xX l&&(decide (0<=f)&&(decide (f<t)&&decide (t<=u6 l))))then .tuple [.own 3 (bI (Nk l f t)),.int .i64 0]else .tuple [.own 0 [],.int .i64 150],h):=by
 have e1:=fun H lo=>ara (hv.sl H) hl lo;have e2:=fun H lo=>aNp (fun H=>hv.sl H) hl f t H lo;obtain⟨v',f1,f2,f3,f4,f5,f6⟩:=YR hv;have e3:=fun H lo=>aDh v v' f1 f3 f6 f4 f t H lo;rw[jH (x:=x37) rfl rfl rfl rfl];cases c:xX l
 ·simp only[c]at e1;simp only[Z5,uM,if_false];simp(maxSteps:=30000000)(disch:=omega)only[go_sem,x37,e1]
 ·simp only[c]at e1;cases c2:(decide (0<=f)&&(decide (f<t)&&decide (t<=u6 l)))
  ·simp only[c2]at e2;simp only[Bool.and_false,uM,if_false];simp(maxSteps:=30000000)(disch:=omega)only[go_sem,x37,e1,e2]
  ·simp only[c2]at e2;simp only[Bool.and_self,if_true]
   have hl2:l.length<=200:=by
    unfold xX at c;simp only[fw,decide_eq_true_eq]at c;omega
   have hne:Nk l f t≠[]:=by
    simp only[fw,decide_eq_true_eq]at c2;exact hn c c2.1 c2.2.1 c2.2.2
   have hW:(Nk l f t).length<=200:=by
    have h1:=axd (clips f t l) [];have h2:=aDs f t l;unfold Nk;simp only[Ma]at h1;omega
   have ea:=aNo f5 (by omega) hb (f:=f) (t:=t) h (lo:=h.length) (iJ _)
   rw[show (clips f t l).foldl Dy []=Nk l f t from rfl]at ea
   have dn:=aNq (H:=h) hne hW h.length;obtain⟨W,hWW⟩:∃ W,W=Nk l f t:=⟨_,rfl⟩;rw[<-hWW]at ea dn hne hW⊢;have g0:gL h []=h++[(0,.dead),(1,.box [.bO])]:=rfl;have g1:gL h W=h++[(1,.arr 3 (bI W)),(1,.box [.ref h.length 1 3 0 W.length W.length])]:=by unfold gL;rw[arn hne,am8 hne]
   rw[g0,g1]at ea;rw[g1]at dn;have bk:∀(cx:Cx) H',F9 cx [(0,0)] (some (.tuple [.ref h.length 1 3 0 W.length W.length,.int .i64 0],H'))=some (.tuple [.ref h.length 1 3 0 W.length W.length,.int .i64 0],H'):=fun cx H'=>rfl;have gv:=aja (s:=0) (ak:=1) (z:=3) (h:=h) (fr:=[(1,.arr 3 (bI W)),(1,.box [.ref h.length 1 3 0 W.length W.length])]) (es:=bI W) rfl;rw[BO,Nat.add_zero]at gv
   have gr:tJ h.length (.tuple [.ref h.length 1 3 0 W.length W.length,.int .i64 0]) (h++[(1,.arr 3 (bI W)),(1,.box [.ref h.length 1 3 0 W.length W.length])])=some (.tuple [.own 3 (bI W),.int .i64 0]):=by
    simp only[tJ,NH,gv,Option.bind_some];simp[give,gI]
   simp(maxSteps:=30000000)(disch:=omega)only[go_sem,x37,e1,e2,e3,ea,dn,bk,gr]
end Go.VI.Dump
namespace Go.VI.Dump
open Go.VI.Num
/- BIGSTEPS -/
def ana:Int->List Sn->Int
 |w,[]=>w
 |_,s::r=>ana s.2.2 r
theorem ajI{a w:Int}{s:Sn}{r:List Sn}:vL a w (s::r)=true↔s.1=a/\a<s.2.1/\s.2.1<=10000000/\(0<=s.2.2/\s.2.2<=2999)/\s.2.2≠w/\vL s.2.1 s.2.2 r=true:=by
 simp only[vL,fw,decide_eq_true_eq,IK,decide_eq_false_iff_not]
theorem aro:∀(L:List Sn) (a w:Int) (s:Sn),vL a w (L++[s])=true↔vL a w L=true/\vL (IV a L) (ana w L) [s]=true
 |[],a,w,s=>⟨fun h=>⟨rfl,h⟩,fun h=>h.2⟩
 |x::L,a,w,s=>by
  rw[List.cons_append,ajI,ajI,aro L]
  show _↔_/\vL (IV x.2.1 L) (ana x.2.2 L) [s]=true
  simp only[and_assoc]
theorem anb:∀(L:List Sn) (a:Int) (s:Sn),IV a (L++[s])=s.2.1
 |[],a,s=>rfl
 |x::L,a,s=>by rw[List.cons_append,IV,anb L]
theorem aDu:∀{L:List Sn} {a w:Int},vL a w L=true->(L.length:Int)<=IV a L-a
 |[],a,w,_=>by simp[IV]
 |x::L,a,w,h=>by
  simp only[vL,fw,decide_eq_true_eq]at h;have:=aDu h.2.2.2.2.2;rw[IV,List.length_cons];omega
def Sto(L:List Sn)(x:Int):Prop:=vL 0 (-1) L=true/\IV 0 L=x
theorem aDv{L:List Sn}{s:Sn}(h:Sto L s.1)(h1:s.1<s.2.1)(h2:s.2.1<=10000000)(h3:0<=s.2.2/\s.2.2<=2999):Sto (Dy L s) s.2.1:=by
 obtain⟨hv,he⟩:=h;rcases List.eq_nil_or_concat L with rfl|⟨M,q,rfl⟩
 ·simp only[IV]at he;refine⟨?_,rfl⟩;rw[aNd];exact ajI.mpr ⟨by omega,by omega,h2,h3,by omega,rfl⟩
 ·rw[List.concat_eq_append]at hv he⊢;rw[anb]at he;rw[axa];by_cases c:q.2.2=s.2.2
  ·rw[if_pos c];refine⟨?_,anb _ _ _⟩;obtain⟨v1,v2⟩:=(aro _ _ _ _).mp hv;refine(aro _ _ _ _).mpr ⟨v1, ?_⟩;obtain⟨k1,k2,k3,k4,k5,_⟩:=ajI.mp v2;exact ajI.mpr ⟨k1,by simp only;omega,h2,k4,k5,rfl⟩
  ·rw[if_neg c];refine⟨(aro _ _ _ _).mpr ⟨hv, ?_⟩,anb _ _ _⟩
   have hl:∀(M:List Sn) (w:Int),ana w (M++[q])=q.2.2:=fun M=>by
    induction M with
    |nil=>intro w;rfl
    |cons x M ih=>intro w;rw[List.cons_append,ana,ih]
   rw[anb,hl];exact ajI.mpr ⟨by omega,by omega,h2,h3,fun e=>c e.symm,rfl⟩
theorem aDw(L:List Sn)(s:Sn):DT L s=if s.2.1<=s.1 then L else Dy L s:=rfl
theorem axf{f t:Int}(h0:0<=f)(hft:f<=t):∀{tl:List Sn} {x w:Int} {L:List Sn},vL x w tl=true->Sto L (max f (min t x))->Sto (BQ f t L tl) (max f (min t (IV x tl)))
 |[],x,w,L,_,h=>h
 |s::tl,x,w,L,h,hL=>by
  simp only[vL,fw,decide_eq_true_eq]at h;obtain⟨e1,e2,e3,e4,e5,e6⟩:=h;unfold BQ;rw[List.foldl_cons,IV];refine axf h0 hft (tl:=tl) (x:=s.2.1) (w:=s.2.2) e6 ?_;rw[aDw];by_cases c0:(TR f t s).2.1<=(TR f t s).1
  ·rw[if_pos c0];have c:min t s.2.1<=max f s.1:=c0;have:max f (min t s.2.1)=max f (min t x):=by omega
   rw[this];exact hL
  ·rw[if_neg c0];have c:¬ min t s.2.1<=max f s.1:=c0;have k1:max f (min t x)=max f s.1:=by omega
   have k2:max f (min t s.2.1)=min t s.2.1:=by omega
   rw[k1]at hL;rw[k2];exact aDv (s:=(max f s.1,min t s.2.1,s.2.2)) hL (by simp only;omega) (by simp only;omega) e4
theorem aNs{tl:List Sn}{a b o:Int}(hv:xX tl=true)(h1:0<=a)(h2:a<b)(h3:b<=u6 tl)(hE:u6 tl<=200)(ho:0<=o/\o<=2999) :
  (xX (BQ b (u6 tl) (DT (BQ 0 a [] tl) (a,b,o)) tl)=true/\u6 (BQ b (u6 tl) (DT (BQ 0 a [] tl) (a,b,o)) tl)=u6 tl)/\((BQ b (u6 tl) (DT (BQ 0 a [] tl) (a,b,o)) tl).length:Int)<=200:=by
 have hs:vL 0 (-1) tl=true:=by
  unfold xX at hv;simp only[fw]at hv;exact hv.1
 have s1:=axf (f:=0) (t:=a) (Fy _) h1 hs (L:=[]) ⟨rfl,by simp only[IV];omega⟩
 rw[<-ajr]at s1
 have s2:Sto (DT (BQ 0 a [] tl) (a,b,o)) b:=by
  rw[aDw,if_neg (by simp only;omega)]
  have e:max 0 (min a (u6 tl))=a:=by omega
  rw[e]at s1;exact aDv (s:=(a,b,o)) s1 h2 (by simp only;omega) ho
 have e0:max b (min (u6 tl) 0)=b:=by omega
 have s3:=axf (f:=b) (t:=u6 tl) (by omega) h3 hs (L:=DT (BQ 0 a [] tl) (a,b,o)) (by rw[e0];exact s2)
 rw[<-ajr]at s3;have e2:max b (min (u6 tl) (u6 tl))=u6 tl:=by omega
 rw[e2]at s3;obtain⟨v1,v2⟩:=s3;have hl:=aDu v1;rw[v2]at hl;have hl2:((BQ b (u6 tl) (DT (BQ 0 a [] tl) (a,b,o)) tl).length:Int)<=200:=by omega
 refine⟨⟨?_,by rw[ajr];exact v2⟩,hl2⟩
 unfold xX;rw[v1,decide_eq_true hl2];rfl
set_option maxHeartbeats 4000000 in
theorem aNt{h:Heap}{v:AV}{tl:List Sn}(hv:Sl h 3 v (bI tl))(c1:xX tl=true){a b o:Int}(h1:0<=a)(h2:a<b)(h3:b<=u6 tl)(hE:u6 tl<=200)(ho:0<=o/\o<=2999)(lo:Nat) :
  ∃ R,R≠[]/\xX R=true/\u6 R=u6 tl/\(run lib).fn 86 [v,.agg [.int .i64 a,.int .i64 b,.int .i64 o]] h lo=some (.tuple [.own 3 (bI R),.int .i64 0],h):=by
 have hP:=aNs c1 h1 h2 h3 hE ho
 have htl:tl.length<=200:=by
  unfold xX at c1;simp only[fw,decide_eq_true_eq]at c1;omega
 have ev:=fun fr lo=>aMR (hv.app fr) (by omega) lo
 have ee:=fun fr lo=>aMS (hv.app fr) (by omega) lo
 obtain⟨w1,w2⟩:=acD hv;rw[c1]at ev;have c2:¬ a<0:=by omega
 have c3:¬ b<=a:=by omega
 have c4:¬ u6 tl<b:=by omega
 have c5:¬ o<0:=by omega
 have c6:¬ 2999<o:=by omega
 obtain⟨r,e1,hr⟩:=aM6 (H:=h++[(0,.dead),(0,.dead),(0,.dead)]) (lo:=h.length) (by simp) (fun fr=>by rw[sZ];exact hv.app _) (by omega) 0 a
 have hpl:=arl 0 a tl [];generalize BQ 0 a [] tl=L1 at*;simp only[Ma]at hpl;rcases hr with⟨h0,hr⟩|⟨hne,hr⟩
 ·rw[h0,aDn,if_neg c3]at hP;have n2:=aDm a b o (H:=h++[(0,.dead),(0,.dead),(0,.dead)]) (lo:=h.length) (by simp)
  rw[if_neg c3]at n2;have tk:=ai' (lo:=h.length) (ns:=3) (s:=1) (z:=3) (h:=h) (fr:=[(0,.dead),(0,.dead),(0,.dead)]) (b0:=(0,.dead)) (es:=[sn (a,b,o)]) (by omega) rfl (by simp)
  rw[show BL 3 [sn (a,b,o)]=.own 3 [sn (a,b,o)]from rfl]at tk
  have p2:=aDo (H:=h++[(0,.dead),(0+1,.arr 3 (bI [(a,b,o)])),(0,.dead)]) (lo:=h.length) (id:=h.length+1) (ak:=0+1) (l:=[(a,b,o)]) (by rw[ku];rfl) (by omega) (by simp) (by simp) (fun x fr=>by rw[o7,sZ];exact hv.app _) (show tl.length<=1000 by omega) b (u6 tl)
  have hne2:=aw9 b (u6 tl) tl (l:=[(a,b,o)]) (by simp)
  have hl2:=arl b (u6 tl) tl [(a,b,o)];generalize BQ b (u6 tl) [(a,b,o)] tl=R at*;rw[o7]at p2;simp only[List.length_cons,Ma,List.set_cons_zero,List.set_cons_succ,show bI [(a,b,o)]=[sn (a,b,o)]from rfl]at p2 hl2 tk
  have sR:=Sl.acc (h:=h) (fr:=[(0,.dead),jw (0,.dead) 3 (bI R),(0,.dead)]) (s:=1) (z:=3) (b0:=(0,.dead)) (es:=bI R) rfl;have hnR:bI R≠[]:=fun hh=>hne2 (acH.mp hh);have lR:=oW sR.len;have gv:=ZJ (s:=1) (z:=3) (h:=h) (b0:=(0,.dead)) (es:=bI R) (fr:=[(0,.dead),jw (0,.dead) 3 (bI R),(0,.dead)]) rfl;rw[QV hnR,BO]at lR;rw[QV hnR,RI hnR,show BL 3 (bI R)=.own 3 (bI R)from if_neg hnR,BO]at gv
  have c7:¬ 200<(R.length:Int):=by have:=hP.2;omega
  refine⟨R,hne2,hP.1.1,hP.1.2, ?_⟩;rw[jH (x:=x86) rfl rfl rfl rfl];rcases hr with rfl|rfl
  ·simp(maxSteps:=30000000)(disch:=omega)only[go_sem,x86,ev,ee,c2,c3,c4,c5,c6,e1,aM9,n2,tk,p2,am7,lR,c7,gv,w1,w2]
  ·simp(maxSteps:=30000000)(disch:=omega)only[go_sem,x86,ev,ee,c2,c3,c4,c5,c6,e1,aM',n2,tk,p2,am7,lR,c7,gv,w1,w2]
 ·subst hr;have hn1:bI L1≠[]:=fun hh=>hne (acH.mp hh);have tk:=ai' (lo:=h.length) (ns:=3) (s:=2) (z:=3) (h:=h) (fr:=[(0,.dead),(0,.dead),(0,.dead)]) (b0:=(0,.dead)) (es:=bI L1) (by omega) rfl hn1
  rw[show BL 3 (bI L1)=.own 3 (bI L1)from if_neg hn1]at tk
  have r1:=aw8 (H:=h++[(0,.dead),(0,.dead),(0+1,.arr 3 (bI L1))]) (lo:=h.length) (id:=h.length+2) (ak:=0+1) (l:=L1) (by rw[ku];rfl) hne (by omega) (by omega) a b o
  have hne1:=ark hne (a,b,o);have hl1:=arj L1 (a,b,o);generalize DT L1 (a,b,o)=L2 at*;rw[o7]at r1;have p2:=aDo (H:=h++[(0,.dead),(0,.dead),(0+1,.arr 3 (bI L2))]) (lo:=h.length) (id:=h.length+2) (ak:=0+1) (l:=L2) (by rw[ku];rfl) (by omega) hne1 (by omega) (fun x fr=>by rw[o7,sZ];exact hv.app _) (show tl.length<=1000 by omega) b (u6 tl)
  have hne2:=aw9 b (u6 tl) tl hne1;have hl2:=arl b (u6 tl) tl L2;generalize BQ b (u6 tl) L2 tl=R at*;rw[o7]at p2;simp only[BO,List.set_cons_zero,List.set_cons_succ]at p2 tk r1;have sR:=Sl.acc (h:=h) (fr:=[(0,.dead),(0,.dead),jw (0,.dead) 3 (bI R)]) (s:=2) (z:=3) (b0:=(0,.dead)) (es:=bI R) rfl;have hnR:bI R≠[]:=fun hh=>hne2 (acH.mp hh);have lR:=oW sR.len;have gv:=ZJ (s:=2) (z:=3) (h:=h) (b0:=(0,.dead)) (es:=bI R) (fr:=[(0,.dead),(0,.dead),jw (0,.dead) 3 (bI R)]) rfl;rw[QV hnR,BO]at lR;rw[QV hnR,RI hnR,show BL 3 (bI R)=.own 3 (bI R)from if_neg hnR,BO]at gv
  have c7:¬ 200<(R.length:Int):=by have:=hP.2;omega
  refine⟨R,hne2,hP.1.1,hP.1.2, ?_⟩;rw[jH (x:=x86) rfl rfl rfl rfl];simp(maxSteps:=30000000)(disch:=omega)only[go_sem,x86,ev,ee,c2,c3,c4,c5,c6,e1,tk,r1,p2,am7,lR,c7,gv,w1,w2]
end Go.VI.Dump
namespace Go.VI.Dump
open Go.VI.Num
/- BIGSTEPS -/
structure Tln(L:Int)(R:List Sn):Prop where
 ne:R≠[]
 v:xX R=true
 e:u6 R=L
theorem Tln.len{L:Int}{R:List Sn}(t:Tln L R):R.length<=200:=by
 have:=t.v;unfold xX at this;simp only[fw,decide_eq_true_eq]at this;omega
def arp(L:Int)(s:Sn):Prop:=(0<=s.1/\s.1<s.2.1/\s.2.1<=L)/\0<=s.2.2/\s.2.2<=2999
set_option maxHeartbeats 1000000 in
theorem aNu{h:Heap}{S:List Sn}{sv:AV}(hS:∀ H,Sl H 3 sv (bI S))(hSl:S.length<=1000){L:Int}(hL:L<=200)(hO:∀ s∈S,arp L s):∀(d k:Nat) (v:AV) (B0 B1:Nat×aU) (R:List Sn),k+d=S.length->PS h v B0 B1 R->Tln L R ->
  ∃ v' B0' B1' R',PS h v' B0' B1' R'/\Tln L R'/\bV lib ⟨h.length,h.length,2,none⟩ (.loop atg) ([(2,sv),(8,v),(9,.int .i64 0),(10,.int .i64 k)],h++[B0,B1])=some (.exit 0,([(8,v'),(9,.int .i64 0)],h++[B0',B1'])):=by
 have ll:=oW (hS h).len;rw[BO]at ll;intro d
 induction d with
 |zero =>
  intro k v B0 B1 R hk hp hR;obtain rfl:k=S.length:=by omega
  refine⟨v,B0,B1,R,hp,hR, ?_⟩;rw[jm]
  simp(maxSteps:=30000000)(disch:=omega)only[go_sem,ll,DV]
 |succ d ih =>
  intro k v B0 B1 R hk hp hR;have hk':k<S.length:=by omega
  have c:(k:Int)<S.length:=by omega
  have e3:vJ 3 sv (.int .i64 k)=some k:=by rw[Bu (hS h) (by omega) (by simp;omega)];simp
  have e4:=fun off H=>Ab (off:=off) (hS H).DC (show k<(bI S).length by simp;omega)
  simp only[TP,sn]at e4;have hok:=hO S[k] (JC _);generalize S[k]=q at*;obtain⟨q1,q2,q3⟩:=q;obtain⟨⟨k1,k2,k3⟩,k4⟩:=hok;simp only at e4 k1 k2 k3 k4;obtain⟨R',hne,hv',he',e1⟩:=aNt hp.sl hR.v k1 k2 (by rw[hR.e];exact k3) (by rw[hR.e];exact hL) k4 h.length
  have hT:Tln L R':=⟨hne,hv',by rw[he',hR.e]⟩
  obtain⟨v0,b0⟩:=B0;have hn':bI R'≠[]:=fun hh=>hne (acH.mp hh);have tk:=asT (lo:=h.length) (ns:=2) (s:=0) (z:=3) (h:=h) (fr:=[(v0,b0),B1]) (b0:=(v0,b0)) (es:=bI R') (r:=[.int .i64 0]) (by omega) rfl hn'
  rw[show BL 3 (bI R')=.own 3 (bI R')from if_neg hn']at tk
  simp only[List.map_cons,List.map_nil,yY,List.set_cons_zero,BO]at tk;obtain⟨v',B0',B1',R'',g1,g2,e⟩:=ih (k+1) (.ref (h.length+0) (v0+1) 3 0 R'.length R'.length) (v0+1,.arr 3 (bI R')) B1 R' (by omega) (.inr (.inl ⟨hne,v0+1,rfl,rfl⟩)) hT
  refine⟨v',B0',B1',R'',g1,g2, ?_⟩;rw[Dm]at e;rw[jm];simp(maxSteps:=30000000)(disch:=omega)only[go_sem,ll,c,e3,e4,e1,tk,e]
set_option maxHeartbeats 1000000 in
theorem aNv{h:Heap}{S:List Sn}{sv:AV}(hS:∀ H,Sl H 3 sv (bI S))(hSl:S.length<=1000){L:Int}(hL:1<=L/\L<=200)(hO:∀ s∈S,arp L s)(lo:Nat):∃ R,Tln L R/\(run lib).fn 46 [.int .i64 L,.int .i64 0,sv] h lo=some (.tuple [.own 3 (bI R),.int .i64 0],h):=by
 have nw:=fun H lo=>aNa (L:=L) (by omega) H lo
 have tk:=asT (lo:=h.length) (ns:=2) (s:=1) (z:=3) (h:=h) (fr:=[(0,.dead),(0,.dead)]) (b0:=(0,.dead)) (es:=[sn (0,L,0)]) (r:=[.int .i64 0]) (by omega) rfl (by simp)
 rw[show BL 3 [sn (0,L,0)]=.own 3 [sn (0,L,0)]from rfl]at tk
 simp only[List.map_cons,List.map_nil,yY,List.set_cons_zero,List.set_cons_succ,List.length_cons,Ma]at tk
 have hT0:Tln L [(0,L,0)]:=by
  refine⟨by simp, ?_,rfl⟩
  unfold xX;have hv0:vL 0 (-1) [(0,L,0)]=true:=ajI.mpr ⟨rfl,by show 0<L;omega,by show L<=_;omega,⟨Fy 0,by show (0:Int)<=2999;decide⟩,by show (0:Int)≠-1;decide,rfl⟩
  rw[hv0];rfl
 obtain⟨v',B0',B1',R',g1,g2,e⟩:=aNu hS hSl (by omega) hO S.length 0 (.ref (h.length+1) (0+1) 3 0 (0+1) (0+1)) (0,.dead) (0+1,.arr 3 [sn (0,L,0)]) [(0,L,0)] (by omega) (.inl ⟨by simp,rfl,rfl⟩) hT0
 simp only[Gc]at e;obtain⟨w1,w2⟩:=acD (hS h);refine⟨R',g2, ?_⟩;rcases g1 with⟨hne,rfl,rfl⟩|⟨hne,w,rfl,rfl⟩|⟨h0,rfl⟩
 ·have hn':bI R'≠[]:=fun hh=>hne (acH.mp hh);have gv:=ZJ (s:=1) (z:=3) (h:=h) (b0:=(0,.dead)) (es:=bI R') (fr:=[B0',jw (0,.dead) 3 (bI R')]) rfl;rw[QV hn',RI hn',show BL 3 (bI R')=.own 3 (bI R')from if_neg hn',BO]at gv
  rw[jH (x:=x46) rfl rfl rfl rfl];simp(maxSteps:=30000000)(disch:=omega)only[go_sem,x46,nw,tk,e,gv,w1,w2]
 ·have hn':bI R'≠[]:=fun hh=>hne (acH.mp hh)
  have gv:give h.length (.ref (h.length+0) w 3 0 R'.length R'.length) (h++[(w,.arr 3 (bI R')),B1'])=some (.own 3 (bI R'),(h++[(w,.arr 3 (bI R')),B1']).set (h.length+0) (w,.dead)):=by
   have hg:(h++[(w,aU.arr 3 (bI R')),B1'])[h.length+0]?=some (w,.arr 3 (bI R')):=by rw[ku];rfl
   simp only[Nat.add_zero]at hg⊢;simp[give,wF];exact ZC (by simp)
  rw[jH (x:=x46) rfl rfl rfl rfl];simp(maxSteps:=30000000)(disch:=omega)only[go_sem,x46,nw,tk,e,gv,w1,w2]
 ·exact absurd h0 g2.ne
theorem aNw{L:Int}(hL:1<=L)(x:Tr):arp L (SL L x):=by
 have h1:=Sk x.1 (show 0<L by omega)
 have h2:=Sk x.2.1 (show 0<L-spF L x by unfold spF;omega)
 have h3:=Sk x.2.2 (show (0:Int)<8 by decide)
 unfold SL;unfold spF at h2⊢;refine⟨⟨by simp only;omega,by simp only;omega,by simp only;omega⟩,by simp only;omega,by simp only;omega⟩
set_option maxHeartbeats 1000000 in
theorem aNx{a b c:Int}(ha:rJ a)(hb:rJ b)(hc:rJ c){h:Heap}{v w:AV}{d g:List Tr}(hv:∀ H,Sl H 3 v (Sq d))(hl:d.length<=9223372036854775807)(hi:∀ x∈d,rJ x.1/\rJ x.2.1/\rJ x.2.2)
  (hw:∀ H,Sl H 3 w (Sq g)) (hgl:g.length<=9223372036854775807) (hgi:∀ x∈g,rJ x.1/\rJ x.2.1/\rJ x.2.2) (lo:Nat) :
  ∃ R,Tln (Rw a b c d).L R/\(run lib).fn 12 [.int .i64 a,.int .i64 b,.int .i64 c,v,w] h lo=some (.tuple [am3 (Rw a b c d),.own 3 (bI R)],h):=by
 have md:=fun H lo=>aMA ha hb hc (hv H) hl hi lo;have ok:=am4 a b c d
 have aDx:(Rw a b c d).L<=120:=by
  have:=Sk a (show (0:Int)<120 by decide)
  unfold Rw;simp only;omega
 generalize Rw a b c d=l at*;have hL:=ok.L;rw[<-aC']at md⊢;have hLx:(ND l).l.L=l.L:=rfl;have sp:=fun H lo=>aNc (hw H) hgl hgi (L:=l.L) (by omega) lo
 have hSl:((g.take 20).map (SL l.L)).length<=20:=by rw[abv,JK];omega
 have hOS:∀ s∈(g.take 20).map (SL l.L),arp l.L s:=fun s hs=>by obtain⟨x,_,rfl⟩:=List.mem_map.mp hs;exact aNw hL.1 x
 generalize (g.take 20).map (SL l.L)=S at*;obtain⟨w1,w2⟩:=acD (hv h);obtain⟨u1,u2⟩:=acD (hw h);have aS3:l.L<=120:=aDx;obtain⟨R,hT,e1⟩:=aNv (h:=(h++[(0,.dead),(1,.box [.int .i64 l.L,.int .i64 l.D,.int .i64 l.E,pV (ND l),cV (ND l)]),(1,.box [.int .i64 0,.int .i64 0,.int .i64 0,.bO,.bO])])) (fun H=>awX 3 (bI S) H) (by omega) (L:=l.L) (by omega) hOS h.length
 unfold FE at md⊢;simp only[aq8]at md⊢;have hn':bI R≠[]:=fun hh=>hT.ne (acH.mp hh);refine⟨R,hT, ?_⟩;have tk:=asT (lo:=h.length) (ns:=3) (s:=0) (z:=3) (h:=h) (fr:=[(0,.dead),(1,.box [.int .i64 l.L,.int .i64 l.D,.int .i64 l.E,pV (ND l),cV (ND l)]),(1,.box [.int .i64 0,.int .i64 0,.int .i64 0,.bO,.bO])]) (b0:=(0,.dead)) (es:=bI R) (r:=[.int .i64 0]) (by omega) rfl hn'
 rw[show BL 3 (bI R)=.own 3 (bI R)from if_neg hn']at tk
 simp only[List.map_cons,List.map_nil,yY,List.set_cons_zero,BO]at tk;have gv:=fun x y=>ZJ (s:=0) (z:=3) (h:=h) (b0:=(0,.dead)) (es:=bI R) (fr:=[jw (0,.dead) 3 (bI R),x,y]) rfl;rw[QV hn',RI hn',show BL 3 (bI R)=.own 3 (bI R)from if_neg hn',BO]at gv
 rw[jH (x:=x12) rfl rfl rfl rfl];simp(maxSteps:=30000000)(disch:=omega)only[go_sem,x12,md,sp,e1,tk,gv,w1,w2,u1,u2]
end Go.VI.Dump
namespace Go.VI.Dump
open Go.VI.Num
/- BIGSTEPS -/
def LJ:Heap:=List.replicate 2 (0,.dead)
abbrev Dc:Heap:=LJ++[(1,.box [.eY 0 []]),(1,.box [.eY 4 (xE [(4,5),(8,11),(12,15)])]),(1,.box [.int .i64 12,.int .i64 3,.int .i64 2,pV x0,cV x0])]
set_option maxRecDepth 100000
theorem aNz:(run lib).fn 14 [.agg [.int .i64 4,.int .i64 1,.int .i64 2,.bO,.fT 2 [.agg [.int .i64 0,.int .i64 3]]]] Dc LJ.length=some (.tuple [.own 1 (ints [-1,-1,-1,3]),.int .i64 0],Dc):=(I5 lib).mpr ⟨3000,by kernel_rfl⟩
theorem aNA:(run lib).fn 14 [.agg [.int .i64 0,.int .i64 0,.int .i64 0,.bO,.bO]] Dc LJ.length=some (.tuple [.own 0 [],.int .i64 200],Dc):=(I5 lib).mpr ⟨3000,by kernel_rfl⟩
theorem aNB:(run lib).fn 22 [.agg [.int .i64 0,.int .i64 0,.int .i64 0,.bO,.bO]] Dc LJ.length=some (.bool false,Dc):=(I5 lib).mpr ⟨3000,by kernel_rfl⟩
theorem aNC:(run lib).fn 29 [v0,.fT 3 [.agg [.int .i64 0,.int .i64 5,.int .i64 7],.agg [.int .i64 5,.int .i64 12,.int .i64 8]]] Dc LJ.length=some (.tuple [.own 3 [.agg [.int .i64 0,.int .i64 3,.int .i64 0],.agg [.int .i64 3,.int .i64 7,.int .i64 7],.agg [.int .i64 7,.int .i64 15,.int .i64 8]],.int .i64 0],Dc):=(I5 lib).mpr ⟨3000,by kernel_rfl⟩
theorem aND:(run lib).fn 24 [.eY 1 (ints [-1,-1,-1,0,1,4,4,5,6,6,7,8,9,10,11]),.fT 1 [.int .i64 (-1),.int .i64 (-1),.int .i64 (-1),.int .i64 0,.int .i64 1,.int .i64 4,.int .i64 4,.int .i64 5,.int .i64 6,.int .i64 6,.int .i64 7,.int .i64 8,.int .i64 9,.int .i64 10,.int .i64 11]] Dc LJ.length=some (.bool true,Dc):=(I5 lib).mpr ⟨3000,by kernel_rfl⟩
theorem aNE:(run lib).fn 24 [.eY 1 (ints [3,3,3,2,1,1,2,2,3,3,3,3]),.fT 1 [.int .i64 3,.int .i64 3,.int .i64 3,.int .i64 2,.int .i64 1,.int .i64 1,.int .i64 2,.int .i64 2,.int .i64 3,.int .i64 3,.int .i64 3,.int .i64 3]] Dc LJ.length=some (.bool true,Dc):=(I5 lib).mpr ⟨3000,by kernel_rfl⟩
theorem aNF:(run lib).fn 24 [.eY 1 (ints [8]),.fT 1 [.int .i64 8]] Dc LJ.length=some (.bool true,Dc):=(I5 lib).mpr ⟨3000,by kernel_rfl⟩
theorem aNG:(run lib).fn 24 [.eY 1 (ints [-1,-1,-1,3]),.fT 1 [.int .i64 (-1),.int .i64 (-1),.int .i64 (-1),.int .i64 3]] Dc LJ.length=some (.bool true,Dc):=(I5 lib).mpr ⟨3000,by kernel_rfl⟩
theorem aNH:(run lib).fn 41 [.int .i64 4] Dc LJ.length=some (.agg [.str [52],.str [49]],Dc):=(I5 lib).mpr ⟨3000,by kernel_rfl⟩
theorem aNI:(run lib).fn 41 [.int .i64 5] Dc LJ.length=some (.agg [.str [53],.str [49]],Dc):=(I5 lib).mpr ⟨3000,by kernel_rfl⟩
theorem aNJ:(run lib).fn 41 [.int .i64 8] Dc LJ.length=some (.agg [.str [56],.str [49]],Dc):=(I5 lib).mpr ⟨3000,by kernel_rfl⟩
theorem aNK:(run lib).fn 41 [.int .i64 11] Dc LJ.length=some (.agg [.str [49,49],.str [49]],Dc):=(I5 lib).mpr ⟨3000,by kernel_rfl⟩
theorem aNL:(run lib).fn 41 [.int .i64 12] Dc LJ.length=some (.agg [.str [49,50],.str [49]],Dc):=(I5 lib).mpr ⟨3000,by kernel_rfl⟩
theorem aNM:(run lib).fn 41 [.int .i64 15] Dc LJ.length=some (.agg [.str [49,53],.str [49]],Dc):=(I5 lib).mpr ⟨3000,by kernel_rfl⟩
theorem aNN:(run lib).fn 28 [.agg [.eY 4 (xE [(4,5),(8,11),(12,15)])],.agg [.fT 4 [.agg [.str [52],.str [49],.str [53],.str [49]],.agg [.str [56],.str [49],.str [49,49],.str [49]],.agg [.str [49,50],.str [49],.str [49,53],.str [49]]]]] Dc LJ.length=some (.bool true,Dc):=(I5 lib).mpr ⟨3000,by kernel_rfl⟩
theorem aNO:(run lib).fn 31 [.eY 3 [.agg [.int .i64 0,.int .i64 3,.int .i64 0],.agg [.int .i64 3,.int .i64 7,.int .i64 7],.agg [.int .i64 7,.int .i64 15,.int .i64 8]],.fT 3 [.agg [.int .i64 0,.int .i64 3,.int .i64 0],.agg [.int .i64 3,.int .i64 7,.int .i64 7],.agg [.int .i64 7,.int .i64 15,.int .i64 8]]] Dc LJ.length=some (.bool true,Dc):=(I5 lib).mpr ⟨3000,by kernel_rfl⟩
theorem aNP:(run lib).fn 25 [.eY 2 (pts [(0,2),(4,12)]),.fT 2 [.agg [.int .i64 0,.int .i64 2],.agg [.int .i64 4,.int .i64 12]]] Dc LJ.length=some (.bool true,Dc):=(I5 lib).mpr ⟨3000,by kernel_rfl⟩
end Go.VI.Dump
namespace Go.VI.Dump
open Go.VI.Num
/- BIGSTEPS -/
set_option pp.maxSteps 200000 in
set_option pp.deepTerms true in
theorem aNQ(lo:Nat):(run lib).fn 11 [] LJ lo=some (.bool true,LJ):=by
 obtain⟨e,ch⟩:=ch0;have a1:∀ H lo,(run lib).fn 14 [FE x0] H lo=_:=fun H lo=>awR ajF ak5 (x:=x0) ch H lo;have a2:∀ H lo,(run lib).fn 16 [FE x0] H lo=_:=fun H lo=>aLP ajF ak5 (x:=x0) ch H lo;have a3:∀ H lo,(run lib).fn 18 [FE x0] H lo=_:=fun H lo=>aLV ajF ak5 (x:=x0) ch H lo;have a4:∀ H lo,(run lib).fn 20 [FE x0] H lo=_:=fun H lo=>awU ajF ak5 (x:=x0) H lo;have a5:∀ H lo,(run lib).fn 26 [FE x0,.int .i64 (1:Nat)] H lo=_:=fun H lo=>aMv ajF ak5 (x:=x0) ch (k:=1) (by decide) H lo
 have a6:∀ H lo,(run lib).fn 26 [FE x0,.int .i64 2] H lo=_:=fun H lo=>aMu ajF ak5 (x:=x0) (k:=2) (.inr (by decide)) H lo
 have a7:∀ H lo,(run lib).fn 22 [FE x0] H lo=some (.bool true,H):=fun H lo=>amT ajF H lo;have r1:(QW x0.l)[1]'(by decide)=((4,12):Pr):=by decide
 rw[r1]at a5;have ev:FE x0=v0:=rfl;simp only[ev,show x0.l=l0 from rfl,aME,aMF,aMG,aMH,aMI]at a1 a2 a3 a4 a5 a6 a7
 rw[show BL 1 (ints [3,3,3,2,1,1,2,2,3,3,3,3])=.own 1 (ints [3,3,3,2,1,1,2,2,3,3,3,3])from rfl]at a2
 rw[show mkO (ints [8])=.own 1 (ints [8])from rfl]at a3
 rw[show BL 2 (pts [(0,2),(4,12)])=.own 2 (pts [(0,2),(4,12)])from rfl]at a4
 rw[show (((1:Nat):Int))=1 from rfl]at a5
 have a8:=aML;simp only[v0]at a1 a2 a3 a4 a5 a6 a7 a8;obtain⟨h,hh⟩:∃ h,h=LJ:=⟨_,rfl⟩;have b1:=aNz;have b2:=aNA;have b3:=aNB;have b4:=aNC;have b5:=aND;have b6:=aNE;have b7:=aNF;have b8:=aNG;have b9:=aNH;have b10:=aNI;have b11:=aNJ;have b12:=aNK;have b13:=aNL;have b14:=aNM;have b15:=aNN;have b16:=aNO;have b17:=aNP;simp only[Dc,<-hh,v0]at b1 b2 b3 b4 b5 b6 b7 b8 b9 b10 b11 b12 b13 b14 b15 b16 b17;rw[<-hh];rw[jH (x:=x11) rfl rfl rfl rfl];simp(maxSteps:=30000000)(disch:=omega)only[go_sem,x11,b1,b2,b3,b4,b5,b6,b7,b8,b9,b10,b11,b12,b13,b14,b15,b16,b17,a1,a2,a3,a4,a5,a6,a7,a8,aw0,aw1,aMJ,aMK]
end Go.VI.Dump
namespace Go.VI.Dump
open Go.VI.Num
/- BIGSTEPS -/
theorem aNR{x:Sn}{l:List Sn}(h:Alt (x::l)):Alt l:=by
 cases l with
 |nil=>trivial
 |cons y r=>exact h.2
theorem aDy:∀(M:List Sn) (q s:Sn) (r:List Sn),Alt (M++q::s::r)->q.2.2≠s.2.2
 |[],q,s,r,h=>h.1
 |x::M,q,s,r,h=>aDy M q s r (aNR h)
theorem aDz:∀(l pre:List Sn),Alt (pre++l)->l.foldl Dy pre=pre++l
 |[],pre,_=>by simp
 |s::l,pre,h=>by
  have hb:Dy pre s=pre++[s]:=by
   rcases List.eq_nil_or_concat pre with rfl|⟨M,q,rfl⟩
   ·rfl
   ·rw[List.concat_eq_append]at h⊢;rw[axa,if_neg];exact aDy M q s l (by simpa using h)
  rw[List.foldl_cons,hb,aDz l _ (by simpa using h)]
  simp
theorem arq{l:List Sn}{x w:Int}(h:vL x w l=true)(f t:Int):Nk l f t=Num.clip f t l:=by
 unfold Nk;rw[show clips f t l=Num.clip f t l from rfl,aDz _ [] (by simpa using(apb h).1)]
 rfl
theorem Zn{l:List Sn}(h:xX l=true):vL 0 (-1) l=true:=by
 unfold xX at h;simp only[fw]at h;exact h.1
theorem aDA(f t:Int)(l:List Sn):∀ s∈Num.clip f t l,s.1<s.2.1:=fun s hs=>by
 have:=(List.mem_filter.mp hs).2;simpa using this
theorem axh{l:List Sn}(h:xX l=true){f t:Int}(h1:0<=f)(h2:f<t)(h3:t<=u6 l):SH (Nk l f t)=(DF f (t-f).toNat).map (SF l):=by
 rw[arq (Zn h)];exact apc (Zn h) h1 (by omega) (by rw[<-ajr];exact h3)
theorem aDB{l:List Sn}(h:xX l=true){f t:Int}(h1:0<=f)(h2:f<t)(h3:t<=u6 l):Nk l f t≠[]:=fun e=>by
 have:=congrArg List.length (axh h h1 h2 h3);rw[e]at this;simp[SH]at this;omega
theorem aNS{l m:List Sn}(hl:xX l=true)(hm:xX m=true){f g:Int}{n:Nat}(hn:0<n)(h1:0<=f)(h2:f+n<=u6 l)(h3:0<=g)(h4:g+n<=u6 m)(ho:∀ i:Nat,i<n->SF l (f+i)=SF m (g+i)) :
  (Nk l f (f+n)).map Tz=(Nk m g (g+n)).map Tz:=by
 have e1:=axh hl h1 (show f<f+n by omega) h2
 have e2:=axh hm h3 (show g<g+n by omega) h4
 rw[arq (Zn hl)]at e1⊢;rw[arq (Zn hm)]at e2⊢;refine aBQ (apb (Zn hl)).1 (apb (Zn hm)).1 (aDA _ _ _) (aDA _ _ _) ?_;rw[e1,e2,show (f+n-f).toNat=n by omega,show (g+n-g).toNat=n by omega]
 refine List.ext_getElem (by simp) fun i hi1 hi2=>?_
 simp only[abv,auk]at hi1;rw[List.getElem_map,List.getElem_map,ao0,ao0];exact ho i hi1
structure PL(l:qf)(A:List Int)(tl out:List Sn):Prop where
 tv:Tln l.L tl
 ov:xX out=true
 oe:u6 out=A.length
 own:∀(k:Nat) (h:k<A.length),∃ s,out.find? (FD k)=some s/\s.2.2=Nj tl A[k]
 mem:∀ s∈A,-1<=s/\s<l.L
 len:A.length<=200
 hL:1<=l.L/\l.L<=600
theorem aDC{l:qf}{tl:List Sn}(h:Tln l.L tl){s:Int}(h1:0<=s)(h2:s<l.L):atV (Zh tl s)=.tuple [.int .i64 (acI tl s),.int .i64 0]/\acI tl s=SF tl s:=by
 obtain⟨u,_,hu⟩:=auo (Zn h.v) h1 (by rw[<-ajr,h.e];exact h2)
 have ha:Zh tl s=some u:=by unfold Zh;rw[h.v,if_pos rfl,hu]
 unfold acI SF;rw[ha,hu];exact⟨rfl,rfl⟩
theorem aDD{l:List Sn}(h:xX l=true):∀ s∈l,rJ s.1/\rJ s.2.1:=fun s hs=>by
 have:=amx (Zn h) s hs;unfold rJ;omega
set_option maxHeartbeats 2000000 in
theorem aNT{l:qf}{A:List Int}{tl out:List Sn}(p:PL l A tl out)(h:Heap)(B0 B1:Nat×aU):∀(d k:Nat),k+d=A.length ->
  bV lib ⟨h.length,h.length,2,none⟩ (.loop as0) ([(11,.bool true),(12,.bq (h.length+1) 1 0),(13,.eY 3 (bI tl)),(14,.eY 1 (ints A)),(16,.eY 3 (bI out)),(18,.int .i64 k)],h++[B0,B1]) =
   some (.exit 0,([(11,.bool true),(12,.bq (h.length+1) 1 0),(13,.eY 3 (bI tl)),(14,.eY 1 (ints A)),(16,.eY 3 (bI out))],h++[B0,B1])):=by
 have sl:=fun H=>abT H 1 (ints A);have la:=oW (sl h).len;rw[DI]at la;have hlen:=p.len;have ptl:oz 3 (.eY 3 (bI tl)) (bI tl):=.inr ⟨3,.inl rfl,.inl rfl⟩;have pou:oz 3 (.eY 3 (bI out)) (bI out):=.inr ⟨3,.inl rfl,.inl rfl⟩;have htl:=p.tv.len
 have hou:out.length<=200:=by
  have:=p.ov;unfold xX at this;simp only[fw,decide_eq_true_eq]at this;omega
 intro d
 induction d with
 |zero =>
  intro k hk;have c:¬ (k:Int)<A.length:=by omega
  rw[jm]
  simp(maxSteps:=30000000)(disch:=omega)only[go_sem,la,c]
 |succ d ih =>
  intro k hk;have hk':k<A.length:=by omega
  have c:(k:Int)<A.length:=by omega
  have e:=ih (k+1) (by omega)
  rw[Dm]at e;have f3:vJ 1 (.eY 1 (ints A)) (.int .i64 k)=some k:=by rw[Bu (sl h) (by omega) (by simp;omega)];simp
  have f4:=fun off H=>Ab (off:=off) (sl H).DC (show k<(ints A).length by simp;omega)
  simp only[acy]at f4;obtain⟨s,s1,s2⟩:=p.own k hk';have hm:=p.mem A[k] (JC _);have hL:=p.hL;have ao:=fun H lo=>aw4 pou (by omega) (t:=(k:Int)) (by omega) H lo
  have ha:Zh out k=some s:=by unfold Zh;rw[p.ov,if_pos rfl,s1]
  rw[ha]at ao;simp only[atV,s2]at ao;have at1:=fun H lo=>aw4 ptl (by omega) (t:=max A[k] 0) (by omega) H lo
  rw[(aDC p.tv (s:=max A[k] 0) (by omega) (by omega)).1]at at1
  generalize A[k]=q at*;rw[jm];by_cases cq:q=-1
  ·subst cq;have ow:Nj tl (-1)=0:=rfl;rw[ow]at ao;simp(maxSteps:=30000000)(disch:=omega)only[go_sem,la,c,ao,f3,f4,at1,e]
  ·have ow:Nj tl q=acI tl (max q 0):=by unfold Nj;rw[if_neg cq,show max q 0=q by omega]
   rw[ow]at ao;simp(maxSteps:=30000000)(disch:=omega)only[go_sem,la,c,ao,f3,f4,at1,cq,e]
set_option maxHeartbeats 2000000 in
theorem aNU{A:List Int}{tl out W N:List Sn}(hW:W.length<=200)(hN:N.length<=200)(hs:W.map Tz=N.map Tz)(hb:∀ s∈W,-10000000<=s.1/\s.1<=10000000/\-10000000<=s.2.1/\s.2.1<=10000000)(hb2:∀ s∈N,-10000000<=s.1/\s.1<=10000000/\-10000000<=s.2.1/\s.2.1<=10000000)(h:Heap)(i:Nat)(B0 B1:Nat×aU):∀(d k:Nat),k+d=W.length ->
  bV lib ⟨h.length,h.length,2,none⟩ (.loop asY) ([(11,.bool true),(12,.bq (h.length+1) 1 0),(13,.eY 3 (bI tl)),(14,.eY 1 (ints A)),(16,.eY 3 (bI out)),(23,.int .i64 i),(26,.eY 3 (bI W)),(28,.eY 3 (bI N)),(30,.int .i64 k)],h++[B0,B1]) =
   some (.exit 4,([(11,.bool true),(12,.bq (h.length+1) 1 0),(13,.eY 3 (bI tl)),(14,.eY 1 (ints A)),(16,.eY 3 (bI out)),(23,.int .i64 i)],h++[B0,B1])):=by
 have sw:=fun H=>abT H 3 (bI W);have sn':=fun H=>abT H 3 (bI N);have lw:=oW (sw h).len;rw[BO]at lw;have hl:W.length=N.length:=by have:=congrArg List.length hs;simpa using this
 intro d
 induction d with
 |zero =>
  intro k hk;have c:¬ (k:Int)<W.length:=by omega
  rw[jm]
  simp(maxSteps:=30000000)(disch:=omega)only[go_sem,lw,c]
 |succ d ih =>
  intro k hk;have hk':k<W.length:=by omega
  have hk2:k<N.length:=by omega
  have c:(k:Int)<W.length:=by omega
  have e:=ih (k+1) (by omega)
  rw[Dm]at e;have f3:vJ 3 (.eY 3 (bI W)) (.int .i64 k)=some k:=by rw[Bu (sw h) (by omega) (by simp;omega)];simp
  have f4:=fun off H=>Ab (off:=off) (sw H).DC (show k<(bI W).length by simp;omega)
  have g3:vJ 3 (.eY 3 (bI N)) (.int .i64 k)=some k:=by rw[Bu (sn' h) (by omega) (by simp;omega)];simp
  have g4:=fun off H=>Ab (off:=off) (sn' H).DC (show k<(bI N).length by simp;omega)
  simp only[TP,sn]at f4 g4
  have hsame:Tz W[k]=Tz N[k]:=by
   have h1:(W.map Tz)[k]?=(N.map Tz)[k]?:=by rw[hs]
   simpa[hk',hk2]using h1
  have b1:=hb W[k] (JC _);have b2:=hb2 N[k] (JC _);generalize W[k]=q at*;generalize N[k]=r at*;obtain⟨q1,q2,q3⟩:=q;obtain⟨r1,r2,r3⟩:=r;simp only[Tz,bf]at hsame f4 g4 b1 b2;obtain⟨hd,rfl⟩:=hsame;rw[jm];simp(maxSteps:=30000000)(disch:=omega)only[go_sem,lw,c,f3,f4,g3,g4,hd,e]
theorem aDF{l:List Sn}(h:xX l=true){f t:Int}(hf:0<=f/\f<=10000)(ht:0<=t/\t<=10000):∀ s∈Nk l f t,-10000000<=s.1/\s.1<=10000000/\-10000000<=s.2.1/\s.2.1<=10000000:=by
 rw[arq (Zn h)];intro s hs;obtain⟨u,hu,rfl⟩:=List.mem_map.mp (List.mem_filter.mp hs).1;have:=amx (Zn h) u hu;simp only[abK];omega
theorem aDG{l:List Sn}(h:l.length<=200)(f t:Int):(Nk l f t).length<=200:=by
 have h1:=axd (clips f t l) [];have h2:=aDs f t l;unfold Nk;simp only[Ma]at h1;omega
theorem aDH{l:List Sn}(h:xX l=true):l.length<=200:=by
 unfold xX at h;simp only[fw,decide_eq_true_eq]at h;omega
theorem aNV{l:qf}(ok:yT l){xs:List Stp}{e:Int}(h:Ch l 0 l.D xs e){p:Pr}(hp:p∈l.P) :
  ∃ a:Nat,ZQ p.1 (tu l xs) 0=a/\a+(p.2-p.1).toNat<=(tu l xs).length/\∀ i:Nat,i<(p.2-p.1).toNat->(tu l xs)[a+i]?=some (p.1+i):=by
 obtain⟨pre,post,e1,e2,_⟩:=aJX ok h hp;have hb:=Zf ok.P p hp;refine⟨pre.length, ?_, ?_,fun i hi=>?_⟩
 ·rw[e1,aBA e2,aBB _ _ _ _ (Fy _) (by omega)]
  omega
 ·rw[e1];simp only[uG,auk];omega
 ·rw[e1,Fx (by omega),Nat.add_sub_cancel_left,zy (by simpa using hi),Fv (by simpa using hi),ao0]
set_option maxHeartbeats 4000000 in
theorem aNW{l:qf}(ok:yT l){xs:List Stp}{e0:Int}(hc:Ch l 0 l.D xs e0){tl out:List Sn}(p:PL l (tu l xs) tl out)(h:Heap):∀(d i:Nat),i+d=l.P.length->∀ B0:Nat×aU,∃ C0:Nat×aU,
  bV lib ⟨h.length,h.length,2,none⟩ (.loop asZ) ([(11,.bool true),(12,.bq (h.length+1) 1 0),(13,.eY 3 (bI tl)),(14,.eY 1 (ints (tu l xs))),(16,.eY 3 (bI out)),(23,.int .i64 i)],h++[B0,(1,.box (lvC (ND l)))]) =
   some (.exit 2,([(11,.bool true)],h++[C0,(1,.box (lvC (ND l)))])):=by
 have o:=aC9 ok;have sp:=fun H=>o.sp H;have lp:=o.lp;simp only[aq8]at sp lp;have ll:=oW (sp h).len;rw[Z0]at ll;have hlen:=p.len;have hL:=p.hL;have ptl:oz 3 (.eY 3 (bI tl)) (bI tl):=.inr ⟨3,.inl rfl,.inl rfl⟩;have pou:oz 3 (.eY 3 (bI out)) (bI out):=.inr ⟨3,.inl rfl,.inl rfl⟩;have htl:=p.tv.len;have hou:=aDH p.ov;have sA:=fun H=>abT H 1 (ints (tu l xs));intro d
 induction d with
 |zero =>
  intro i hi B0;have c:¬ (i:Int)<l.P.length:=by omega
  refine⟨B0, ?_⟩;rw[jm];simp only[lvC]
  simp(maxSteps:=30000000)(disch:=omega)only[go_sem,ll,c]
 |succ d ih =>
  intro i hi B0;obtain⟨v0,c0⟩:=B0;have hi':i<l.P.length:=by omega
  have c:(i:Int)<l.P.length:=by omega
  have e3:vJ 2 (pV (ND l)) (.int .i64 i)=some i:=by rw[Bu (sp h) (by omega) (by simp;omega)];simp
  have e4:=fun off H=>Ab (off:=off) (sp H).DC (show i<(pts l.P).length by simp;omega)
  simp only[ajx,pt]at e4;have hmem:l.P[i]∈l.P:=JC _;have hbd:=Zf ok.P l.P[i] hmem;obtain⟨a,a1,a2,a3⟩:=aNV ok hc hmem;have ef:=fun H lo=>aMy (sA H) (by omega) l.P[i].1 lo
  rw[a1]at ef
  have hw:∀ n:Nat,l.P[i].1+n=l.P[i].2->(Nk tl l.P[i].1 l.P[i].2).map Tz=(Nk out a (a+n)).map Tz:=fun n hn=>by
   rw[<-hn];refine aNS p.tv.v p.ov (by omega) (by omega) (by rw[p.tv.e];omega) (by omega) (by rw[p.oe];omega) fun j hj=>?_
   have ha:=a3 j (by omega)
   obtain⟨ha1,ha2⟩:=kS.mp ha;obtain⟨s,s1,s2⟩:=p.own (a+j) ha1;rw[ha2]at s2;have t1:=(aDC p.tv (s:=l.P[i].1+j) (by omega) (by omega)).2
   have ho:SF out ((a:Int)+j)=s.2.2:=by
    unfold SF;rw[show ((a:Int)+j)=((a+j:Nat):Int) by omega,s1]
   rw[ho,s2,<-t1];unfold Nj;rw[if_neg (by omega)]
  generalize l.P[i]=q at*;obtain⟨q1,q2⟩:=q;simp only at e4 hbd a1 a2 a3 ef hw;have hn:=hw (q2-q1).toNat (by omega)
  rw[show (a:Int)+((q2-q1).toNat:Nat)=a+q2-q1 by omega]at hn
  have t1:=fun H lo=>aDt ptl (by omega) (aDD p.tv.v) (f:=q1) (t:=q2) (fun h a b c=>aDB h a b c) H lo
  have t2:=fun H lo=>aDt pou (by omega) (aDD p.ov) (f:=(a:Int)) (t:=(a:Int)+q2-q1) (fun h a b c=>aDB h a b c) H lo
  have k1:(xX tl&&(decide (0<=q1)&&(decide (q1<q2)&&decide (q2<=u6 tl))))=true:=by
   rw[p.tv.v,p.tv.e];simp only[fw,decide_eq_true_eq,true_and];omega
  have k2:(xX out&&(decide (0<=(a:Int))&&(decide ((a:Int)<(a:Int)+q2-q1)&&decide ((a:Int)+q2-q1<=u6 out))))=true:=by
   rw[p.ov,p.oe];simp only[fw,decide_eq_true_eq,true_and];omega
  simp only[k1,if_true]at t1;simp only[k2,if_true]at t2;have bW:=aDF p.tv.v (f:=q1) (t:=q2) (by omega) (by omega)
  have bN:=aDF p.ov (f:=(a:Int)) (t:=(a:Int)+q2-q1) (by omega) (by omega)
  have lW:=aDG htl q1 q2;have lN:=aDG hou (a:Int) ((a:Int)+q2-q1);generalize Nk tl q1 q2=W at*;generalize Nk out (a:Int) ((a:Int)+q2-q1)=N at*;have hl:W.length=N.length:=by have:=congrArg List.length hn;simpa using this
  have nW:=oW (abT h 3 (bI W)).len;have nN:=oW (abT h 3 (bI N)).len;rw[BO]at nW nN;rw[<-hl]at nN;have e5:=aNU (A:=tu l xs) (tl:=tl) (out:=out) lW lN hn bW bN h i (v0+1,.box [.int .i64 q1,.int .i64 q2]) (1,.box (lvC (ND l))) W.length 0 (by omega)
  have z0:((0:Nat):Int)=0:=rfl;rw[z0]at e5;obtain⟨C0,e⟩:=ih (i+1) (by omega) (v0+1,.box [.int .i64 q1,.int .i64 q2])
  rw[Dm]at e;refine⟨C0, ?_⟩;have g1:¬ (a:Int)<0:=by omega
  rw[jm];simp only[lvC]at e e5⊢;simp(maxSteps:=30000000)(disch:=omega)only[go_sem,ll,c,e3,e4,ef,g1,t1,t2,nW,nN,e5,e]
end Go.VI.Dump
namespace Go.VI.Dump
open Go.VI.Num
/- BIGSTEPS -/
theorem aN0{l:qf}(ok:yT l){xs:List Stp}{e:Int}(hc:Ch l 0 l.D xs e){tl:List Sn}(ht:Tln l.L tl)(hA:(tu l xs).length<=200):PL l (tu l xs) tl (Z8 l tl xs):=by
 have hmem:∀ s∈tu l xs,-1<=s/\s<l.L:=fun v hv=>by
  have hL:=ok.L;unfold tu at hv;rcases Di.mp hv with hv|hv
  ·have:=(aeO.mp hv).2;omega
  ·have:=hc.mem ok.E.1 v hv;omega
 have hr:Z8 l tl xs=rle ((tu l xs).map (Nj tl)):=aJ6 _
 have ho:∀ p∈(tu l xs).map (Nj tl),0<=p/\p<=2999:=fun p hp=>by
  obtain⟨s,hs,rfl⟩:=List.mem_map.mp hp;have hm:=hmem s hs;unfold Nj;by_cases c:s=-1
  ·rw[if_pos c];decide
  ·rw[if_neg c];obtain⟨u,hu,he⟩:=auo (Zn ht.v) (t:=s) (by omega) (by rw[<-ajr,ht.e];omega)
   have ha:Zh tl s=some u:=by unfold Zh;rw[ht.v,if_pos rfl,he]
   unfold acI;rw[ha];have:=amx (Zn ht.v) u hu;simp only;omega
 refine⟨ht, ?_, ?_,fun k hk=>?_,hmem,hA,ok.L⟩
 ·rw[hr];exact aJ7 (by simpa using hA) ho
 ·rw[hr,aJ8,abv]
 ·obtain⟨s,s1,s2⟩:=aJ9 (l:=(tu l xs).map (Nj tl)) (k:=k) (by simpa using hk)
  rw[List.getElem_map]at s2;exact⟨s,by rw[hr];exact s1,s2⟩
set_option maxHeartbeats 4000000 in
theorem aN1{h:Heap}(hs:∀ lo,(run lib).fn 11 [] (h++[(0,.dead),(0,.dead)]) lo=some (.bool true,h++[(0,.dead),(0,.dead)])){a b c:Int}(ha:rJ a)(hb:rJ b)(hc:rJ c){v w:AV}{d g:List Tr}(hv:∀ H,Sl H 3 v (Sq d))(hl:d.length<=9223372036854775807)(hi:∀ x∈d,rJ x.1/\rJ x.2.1/\rJ x.2.2)
  (hw:∀ H,Sl H 3 w (Sq g)) (hgl:g.length<=9223372036854775807) (hgi:∀ x∈g,rJ x.1/\rJ x.2.1/\rJ x.2.2) (lo:Nat) :
  (run lib).fn 9 [.int .i64 a,.int .i64 b,.int .i64 c,v,w] h lo=some (.bool true,h):=by
 obtain⟨tl,hT,md⟩:=aNx ha hb hc (h:=h++[(0,.dead),(0,.dead)]) hv hl hi hw hgl hgi h.length;obtain⟨xs,e,ch⟩:=aMD a b c d;have ok:=am4 a b c d
 have aDx:(Rw a b c d).L<=120:=by
  have:=Sk a (show (0:Int)<120 by decide)
  unfold Rw;simp only;omega
 generalize Rw a b c d=l at*;have o:=aC9 ok;have ar:=fun H lo=>awR o ok (x:=ND l) ch H lo;have ptl:oz 3 (.eY 3 (bI tl)) (bI tl):=.inr ⟨3,.inl rfl,.inl rfl⟩;have htl:=hT.len;have dp:=fun H lo=>aM0 o ok (x:=ND l) ch ptl (by omega) rfl H lo
 rw[<-aC']at md;rw[aq8]at ar dp;have hlen:=aDa ok ch;have hdl:=ch.dl ok.D.1 (Fy _);have oL:=ok.L;have oD:=ok.D;have hA:(tu l xs).length<=200:=by omega
 have p:=aN0 ok ch hT hA
 have hpv:plV l tl xs=.tuple [.own 3 (bI (Z8 l tl xs)),.int .i64 0]:=by
  have hne:bI (Z8 l tl xs)≠[]:=fun hh=>by
   have hn:=acH.mp hh;have:=p.oe;rw[hn]at this;have h0:u6 ([]:List Sn)=0:=rfl;omega
  unfold plV;rw[if_pos ⟨by unfold afO;rw[hT.v,if_pos rfl];exact hT.e,p.ov⟩,show BL 3 (bI (Z8 l tl xs))=.own 3 (bI (Z8 l tl xs))from if_neg hne]
 rw[hpv]at dp;generalize Z8 l tl xs=out at*;have hou:=aDH p.ov;have te:=fun H lo=>aDd (h:=H) (abT H 3 (bI out)) (by omega) lo
 have hev:afO out=(tu l xs).length:=by unfold afO;rw[p.ov,if_pos rfl];exact p.oe
 rw[hev]at te;have la:=oW (abT h 1 (ints (tu l xs))).len;rw[DI]at la;obtain⟨w1,w2⟩:=acD (hv h);obtain⟨u1,u2⟩:=acD (hw h);have e1:=aNT p h (0,.dead) (1,.box (lvC (ND l))) (tu l xs).length 0 (by omega)
 obtain⟨C0,e2⟩:=aNW ok ch p h l.P.length 0 (by omega) (0,.dead)
 have z0:((0:Nat):Int)=0:=rfl;rw[z0]at e1 e2;unfold FE at md ar dp;simp only[lvC,aq8]at e1 e2 md ar dp;rw[jH (x:=x9) rfl rfl rfl rfl];simp(maxSteps:=30000000)(disch:=omega)only[go_sem,x9,hs,md,ar,dp,te,la,e1,e2,w1,w2,u1,u2]
def axl:List xR:=[.int .i64,.int .i64,.int .i64,.slice 3 (.agg [.int .i64,.int .i64,.int .i64]),.slice 3 (.agg [.int .i64,.int .i64,.int .i64])]
theorem aN2(xs:List AV)(ht:TyA axl xs):∃ h',(run lib).fn 9 xs [] 0=some (.bool true,h'):=by
 simp only[axl,TyA]at ht;obtain⟨c0,r0,rfl,t0,c1,r1,rfl,t1,c2,r2,rfl,t2,c3,r3,rfl,t3,c4,r4,rfl,t4,rfl⟩:=ht;obtain⟨a,e0,h0⟩:=aw2 t0;obtain⟨b,e1,h1⟩:=aw2 t1;obtain⟨c,e2,h2⟩:=aw2 t2;obtain⟨d,s3,l3,h3⟩:=aDb t3;obtain⟨g,s4,l4,h4⟩:=aDb t4;rw[e0,e1,e2];exact⟨_,aN1 (h:=[]) aNQ h0 h1 h2 s3 l3 h3 s4 l4 h4 0⟩
end Go.VI.Dump
