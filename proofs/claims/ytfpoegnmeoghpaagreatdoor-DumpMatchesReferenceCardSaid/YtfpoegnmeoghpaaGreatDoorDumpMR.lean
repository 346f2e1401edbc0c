/- What the functions on integers compute, part MR. -/
import Derived.Test.YtfpoegnmeoghpaaGreatDoorDumpMV
import Derived.Test.YtfpoegnmeoghpaaGreatDoorDumpMA
import Derived.Test.YtfpoegnmeoghpaaGreatDoorDumpMW
import Derived.Test.YtfpoegnmeoghpaaGreatDoorDumpMB
set_option linter.unusedVariables false
set_option linter.unusedSimpArgs false
namespace Go.VI.Dump
open Go.VI.Num
/- BIGSTEPS -/
def sn(s:Sn):AV:=.agg [.int .i64 s.1,.int .i64 s.2.1,.int .i64 s.2.2]
def aG(l:List Sn):List AV:=l.map sn
@[simp] theorem gI (l:List Sn):(aG l).length=l.length:=by simp [aG]
theorem o9(l:List Sn)(k:Nat)(h:k<(aG l).length):(aG l)[k]=sn (l[k]'(by simpa using h)):=by simp[aG]
theorem zm{l:List Sn}:aG l=[]↔l=[]:=by simp[aG]
theorem aid(n:Int)(h:Heap)(lo:Nat):(run lib).fn 97 [.int .i64 n] h lo=some (.bool (decide (0<=n)&&decide (n<=2999)),h):=by
 rw[aY (x:=MU) rfl rfl rfl rfl];by_cases c:0<=n<;>simp(maxSteps:=30000000)(disch:=omega)only[go_sem,MU,c]
theorem aie{h:Heap}{v:AV}{l:List Sn}(hv:Sl h 3 v (aG l))(hl:l.length<=9223372036854775807):∀(d k:Nat) (a w:Int) (B:Nat×av),k+d=l.length ->
  ∃ B',aA lib ⟨h.length,h.length,1,none⟩ (.loop MK) ([(0,v),(3,.int .i64 a),(4,.int .i64 w),(7,v),(8,.int .i64 l.length),(9,.int .i64 k)],h++[B]) =
   if nO a w (l.drop k)=true then some (.exit 0,([(0,v)],h++[B']))else some (.ret,([(2,.bool false)],h++[B'])):=by
 intro d
 induction d with
 |zero =>
  intro k a w B hk;obtain rfl:k=l.length:=by omega
  refine⟨B, ?_⟩;rw[kE,aR]
  simp(maxSteps:=30000000)(disch:=omega)only[go_sem,dU,nO]
 |succ d ih =>
  intro k a w B hk;have hk':k<l.length:=by omega
  have h1:(k:Int)<l.length:=by omega
  have e3:bP 3 v (.int .i64 k)=some k:=by rw[dz hv (by omega) (by simp;omega)];simp
  have e4:=fun off fr=>dx (off:=off) (hv.elems fr) (show k<(aG l).length by simp;omega)
  simp only[o9,sn]at e4;have io:=fun n H lo=>aid n H lo;obtain⟨v0,b0⟩:=B;obtain⟨B',e⟩:=ih (k+1) l[k].2.1 l[k].2.2 (v0+1,.box [.int .i64 l[k].1,.int .i64 l[k].2.1,.int .i64 l[k].2.2]) (by omega)
  rw[dF]at e;rw[gY hk'];generalize l[k]=q at*;obtain⟨q1,q2,q3⟩:=q;simp only at e e4⊢;obtain⟨bb,hbb⟩:∃ bb,bb=nO a w ((q1,q2,q3)::l.drop (k+1)):=⟨_,rfl⟩;rw[<-hbb];simp only[nO]at hbb;by_cases c1:q1=a
  ·subst c1;by_cases c2:q1<q2
   ·have c2':¬ q2<=q1:=by omega
    by_cases c3:q2<=10000000
    ·have c3':¬ 10000000<q2:=by omega
     cases c4:(decide (0<=q3)&&decide (q3<=2999))
     ·have:bb=false:=by rw[hbb,c4];simp
      subst this;refine⟨(v0+1,.box [.int .i64 q1,.int .i64 q2,.int .i64 q3]), ?_⟩;rw[if_neg (by simp),aR]
      simp(maxSteps:=30000000)(disch:=omega)only[go_sem,h1,e3,e4,c2',c3',io,c4]
     ·by_cases c5:q3=w
      ·have:bb=false:=by rw[hbb,decide_eq_true c5];simp
       subst this;subst c5;refine⟨(v0+1,.box [.int .i64 q1,.int .i64 q2,.int .i64 q3]), ?_⟩;rw[if_neg (by simp),aR]
       simp(maxSteps:=30000000)(disch:=omega)only[go_sem,h1,e3,e4,c2',c3',io,c4]
      ·have:bb=nO q2 q3 (l.drop (k+1)):=by rw[hbb,c4,decide_eq_false c5,decide_eq_true c2,decide_eq_true c3];simp
       subst this;refine⟨B', ?_⟩;rw[aR];simp(maxSteps:=30000000)(disch:=omega)only[go_sem,h1,e3,e4,c2',c3',io,c4,c5,e]
    ·have c3':10000000<q2:=by omega
     have:bb=false:=by rw[hbb,decide_eq_false c3];simp
     subst this;refine⟨(v0+1,.box [.int .i64 q1,.int .i64 q2,.int .i64 q3]), ?_⟩;rw[if_neg (by simp),aR]
     simp(maxSteps:=30000000)(disch:=omega)only[go_sem,h1,e3,e4,c2',c3']
   ·have c2':q2<=q1:=by omega
    have:bb=false:=by rw[hbb,decide_eq_false c2];simp
    subst this;refine⟨(v0+1,.box [.int .i64 q1,.int .i64 q2,.int .i64 q3]), ?_⟩;rw[if_neg (by simp),aR]
    simp(maxSteps:=30000000)(disch:=omega)only[go_sem,h1,e3,e4,c2']
  ·have:bb=false:=by rw[hbb,decide_eq_false c1];simp
   subst this;refine⟨(v0+1,.box [.int .i64 q1,.int .i64 q2,.int .i64 q3]), ?_⟩;rw[if_neg (by simp),aR]
   simp(maxSteps:=30000000)(disch:=omega)only[go_sem,h1,e3,e4,c1]
theorem O9{h:Heap}{v:AV}{l:List Sn}(hv:Sl h 3 v (aG l))(hl:l.length<=9223372036854775807)(lo:Nat):(run lib).fn 60 [v] h lo=some (.bool (mU l),h):=by
 obtain⟨B',e⟩:=aie hv hl l.length 0 0 (-1) (0,.dead) (by omega)
 have ll:=bK hv.len;rw[gI]at ll;simp only[fH,List.drop_zero]at e;unfold mU;rw[aY (x:=Iq) rfl rfl rfl rfl];cases c:nO 0 (-1) l
 ·rw[c,if_neg (by simp)]at e
  simp(maxSteps:=30000000)(disch:=omega)only[go_sem,Iq,ll,e]
 ·rw[c,if_pos rfl]at e;simp(maxSteps:=30000000)(disch:=omega)only[go_sem,Iq,ll,e]
theorem aif{h:Heap}{v:AV}{l:List Sn}(hv:Sl h 3 v (aG l))(hl:l.length<=9223372036854775807)(lo:Nat):(run lib).fn 65 [v] h lo=some (.int .i64 (qc l),h):=by
 have ll:=bK hv.len;rw[gI]at ll;unfold qc;rw[aY (x:=Iw) rfl rfl rfl rfl];by_cases h0:l=[]
 ·subst h0;simp only[kz,fH]at ll;simp(maxSteps:=30000000)(disch:=omega)only[go_sem,Iw,ll,List.getLast?_nil]
 ·have hp:=mR.mpr h0;have c:¬ (l.length:Int)=0:=by omega
  have e3:bP 3 v (.int .i64 ((l.length:Int)-1))=some (l.length-1):=by rw[dz hv (by omega) (by simp;omega),show ((l.length:Int)-1).toNat=l.length-1 by omega]
  have e4:=fun off=>dx (off:=off) hv.eO (show l.length-1<(aG l).length by simp;omega)
  simp only[o9,sn]at e4;have eg:l.getLast?=some (l[l.length-1]'(by omega)):=by rw[List.getLast?_eq_getElem?,gM (by omega)]
  rw[eg];simp(maxSteps:=30000000)(disch:=omega)only[go_sem,Iw,ll,c,e3,e4]
theorem aii{h:Heap}{v:AV}{l:List Sn}(hv:Sl h 3 v (aG l))(hl:l.length<=9223372036854775807)(lo:Nat):(run lib).fn 35 [v] h lo=some (.int .i64 (vU l),h):=by
 have e1:=fun lo=>O9 hv hl lo;have e2:=fun lo=>aif hv hl lo;unfold vU;rw[aY (x:=Ik) rfl rfl rfl rfl];cases c:mU l
 ·rw[c]at e1;simp(maxSteps:=30000000)(disch:=omega)only[go_sem,Ik,e1]
 ·rw[c]at e1;simp(maxSteps:=30000000)(disch:=omega)only[go_sem,Ik,e1,e2]
end Go.VI.Dump
namespace Go.VI.Dump
open Go.VI.Num
/- BIGSTEPS -/
theorem aij(a b c:Int)(h:Heap)(lo:Nat):(run lib).fn 55 [.int .i64 a,.int .i64 b,.int .i64 c] h lo=some (.bool (decide (b<=a)&&decide (a<=c)),h):=by
 rw[aY (x:=x55) rfl rfl rfl rfl];by_cases c1:b<=a<;>simp(maxSteps:=30000000)(disch:=omega)only[go_sem,x55,c1]
theorem aik{h:Heap}{v:AV}{l:List Pr}(hv:Sl h 2 v (pts l))(hl:l.length<=9223372036854775807)(L m:Int):∀(d k:Nat) (last:Int),k+d=l.length->-1<=last->(k=0\/0<k/\∀ hk:k-1<l.length,l[k-1].2=last)->(k=0->last=-1) ->
  aA lib ⟨h.length,h.length,0,none⟩ (.loop MH) ([(0,v),(1,.int .i64 L),(2,.int .i64 m),(7,.int .i64 k)],h) =
   if eY L last (l.drop k)=true then some (.exit 0,([(0,v),(2,.int .i64 m)],h))else some (.ret,([(6,.bool false)],h)):=by
 have ll:=bK hv.len;rw[jq]at ll;intro d
 induction d with
 |zero =>
  intro k last hk _ _ _;obtain rfl:k=l.length:=by omega
  rw[kE,aR]
  simp(maxSteps:=30000000)(disch:=omega)only[go_sem,ll,dU,eY]
 |succ d ih =>
  intro k last hk h0 hp hz;have hk':k<l.length:=by omega
  have h1:(k:Int)<l.length:=by omega
  have e3:bP 2 v (.int .i64 k)=some k:=by rw[dz hv (by omega) (by simp;omega)];simp
  have e4:=fun off=>dx (off:=off) hv.eO (show k<(pts l).length by simp;omega)
  have hk1:k-1<l.length:=by omega
  have e5:bP 2 v (.int .i64 (max ((k:Int)-1) 0))=some (k-1):=by
   rw[show max ((k:Int)-1) 0=((k-1:Nat):Int) by omega,dz hv (by omega) (by simp;omega)];simp
  have e6:=fun off=>dx (off:=off) hv.eO (show k-1<(pts l).length by simp;omega)
  simp only[tC,pt]at e4 e6;have e:=ih (k+1) l[k].2 (by omega)
  have hq:0<k->l[k-1].2=last:=fun h=>by rcases hp with h2|h2;(· omega);(· exact h2.2 hk1)
  rw[gY hk'];have e':-1<=l[k].2->_:=fun hh=>e hh (.inr ⟨by omega,fun hx=>rfl⟩) (fun hx=>by omega)
  rw[dF]at e';clear e ih hp;generalize l[k]=q at*;generalize l[k-1]=r at*;obtain⟨q1,q2⟩:=q;obtain⟨r1,r2⟩:=r;simp only at e4 e6 hq e';obtain⟨bb,hbb⟩:∃ bb,bb=eY L last ((q1,q2)::l.drop (k+1)):=⟨_,rfl⟩;rw[<-hbb];simp only[eY]at hbb;rw[aR];by_cases c1:q1<0
  ·have:bb=false:=by rw[hbb];simp;omega
   subst this;simp(maxSteps:=30000000)(disch:=omega)only[go_sem,ll,h1,e3,e4,c1]
  ·by_cases c2:q2<=q1
   ·have:bb=false:=by rw[hbb];simp;omega
    subst this;simp(maxSteps:=30000000)(disch:=omega)only[go_sem,ll,h1,e3,e4,c1,c2]
   ·by_cases c3:L<q2
    ·have:bb=false:=by rw[hbb];simp;omega
     subst this;simp(maxSteps:=30000000)(disch:=omega)only[go_sem,ll,h1,e3,e4,c1,c2,c3]
    ·have Eh:=e' (by omega)
     have h3:decide (q1<q2)=true:=decide_eq_true (by omega)
     have h4:decide (q2<=L)=true:=decide_eq_true (by omega)
     rw[h3,h4]at hbb;simp only[nK]at hbb;by_cases c5:0<(k:Int)
     ·have hq':=hq (by omega)
      subst hq';by_cases c4:q1<=r2
      ·have:bb=false:=by rw[hbb];simp;omega
       subst this;simp(maxSteps:=30000000)(disch:=omega)only[go_sem,ll,h1,e3,e4,e5,e6,c1,c2,c3,c5,c4]
      ·have:bb=eY L q2 (l.drop (k+1)):=by rw[hbb,decide_eq_true (by omega)];simp
       subst this;simp(maxSteps:=30000000)(disch:=omega)only[go_sem,ll,h1,e3,e4,e5,e6,c1,c2,c3,c5,c4,Eh]
     ·have:bb=eY L q2 (l.drop (k+1)):=by rw[hbb,decide_eq_true (by have:=hz (by omega);omega)];simp
      subst this;simp(maxSteps:=30000000)(disch:=omega)only[go_sem,ll,h1,e3,e4,c1,c2,c3,c5,Eh]
theorem Yv{h:Heap}{v:AV}{l:List Pr}(hv:Sl h 2 v (pts l))(hl:l.length<=9223372036854775807)(L m:Int)(lo:Nat):(run lib).fn 56 [v,.int .i64 L,.int .i64 m] h lo=some (.bool (eY L (-1) l&&decide ((l.length:Int)<=m)),h):=by
 have e:=aik hv hl L m l.length 0 (-1) (by omega) (by omega) (.inl rfl) (fun _=>rfl)
 have ll:=bK hv.len;rw[jq]at ll;simp only[fH,List.drop_zero]at e;rw[aY (x:=Ip) rfl rfl rfl rfl];cases c:eY L (-1) l
 ·rw[c,if_neg (by simp)]at e
  simp(maxSteps:=30000000)(disch:=omega)only[go_sem,Ip,e]
 ·rw[c,if_pos rfl]at e;simp(maxSteps:=30000000)(disch:=omega)only[go_sem,Ip,ll,e]
def rF(l:dI)(s:Int):Bool:=hasB l.P s&&hasB l.C s
theorem ail{l:dI}(hP:eY l.L (-1) l.P=true)(hC:eY l.L (-1) l.C=true):(∀ k:Nat,(k:Int)<l.L->rF l k=false)↔(∀ p∈l.P,gL l.C p.1 p.2=false):=by
 constructor
 ·intro h p hp;rw[qb];intro c hc h1;have b1:=uN hP p hp;have b2:=uN hC c hc;rcases Int.lt_or_le p.1 c.2 with h2|h2
  ·have h3:=h (max p.1 c.1).toNat (by omega)
   rw[show (((max p.1 c.1).toNat:Nat):Int)=max p.1 c.1 by omega,rF,Bool.and_eq_false_iff,Al,Al]at h3
   rcases h3 with h3|h3
   ·have:=h3 p hp (by omega);omega
   ·have:=h3 c hc (by omega);omega
  ·omega
 ·intro h k hk;rw[rF,Bool.and_eq_false_iff];cases hb:hasB l.P k
  ·exact .inl rfl
  ·right;obtain⟨p,hp,h1,h2⟩:=VK.mp hb;exact IZ (h p hp) h1 h2
def zn(l:dI)(k:Nat):Nat->Bool
 |0=>true
 |d+1=>!rF l k&&zn l (k+1) d
theorem Yw{l:dI}:∀(d k:Nat),zn l k d=true↔∀ j:Nat,k<=j->j<k+d->rF l j=false
 |0,k=>by simp only[zn,true_iff];intro j h1 h2;omega
 |d+1,k=>by
  rw[zn,bg,Yw d,ku];constructor
  ·rintro⟨h1,h2⟩ j h3 h4;by_cases hj:j=k
   ·rw[hj];exact h1
   ·exact h2 j (by omega) (by omega)
  ·intro hh;exact⟨hh k (by omega) (by omega),fun j h1 h2=>hh j (by omega) (by omega)⟩
theorem aim{x:LV}(o:okV x)(h:Heap):∀(d k:Nat),(k:Int)+d=x.l.L->x.l.L<=600 ->
  aA lib ⟨h.length,h.length,0,none⟩ (.loop L6) ([(1,jF x),(3,.int .i64 k)],h) =
   if zn x.l k d=true then some (.exit 0,([],h))else some (.ret,([(2,.bool false)],h)):=by
 intro d
 induction d with
 |zero =>
  intro k hk hL;have c:¬ (k:Int)<x.l.L:=by omega
  rw[show zn x.l k 0=true from rfl,if_pos rfl,aR]
  simp(maxSteps:=30000000)(disch:=omega)only[go_sem,c]
 |succ d ih =>
  intro k hk hL;have e:=ih (k+1) (by omega) hL
  rw[dF]at e;have ep:=fun n H lo=>Dc (o.sp H) o.lp n lo;have ec:=fun n H lo=>Dc (o.sc H) o.lc n lo;have c:(k:Int)<x.l.L:=by omega
  rw[aR,zn]
  cases c1:hasB x.l.P k with
  |false =>
   rw[show rF x.l k=false by unfold rF;rw[c1];rfl,vR,nK]
   simp(maxSteps:=30000000)(disch:=omega)only[go_sem,c,ep,c1,e]
  |true =>
   cases c2:hasB x.l.C k with
   |false =>
    rw[show rF x.l k=false by unfold rF;rw[c1,c2];rfl,vR,nK]
    simp(maxSteps:=30000000)(disch:=omega)only[go_sem,c,ep,ec,c1,c2,e]
   |true =>
    rw[show rF x.l k=true by unfold rF;rw[c1,c2];rfl,vH,qp,if_neg uZ]
    simp(maxSteps:=30000000)(disch:=omega)only[go_sem,c,ep,ec,c1,c2]
theorem A8{x:LV}(o:okV x)(h:Heap)(lo:Nat):(run lib).fn 23 [bI x] h lo=some (.bool (lF x.l),h):=by
 have ei:=fun a b c H lo=>aij a b c H lo;have ep:=fun L m H lo=>Yv (o.sp H) o.lp L m lo;have ec:=fun L m H lo=>Yv (o.sc H) o.lc L m lo;unfold bI
 have hv:lF x.l=((decide (1<=x.l.L)&&decide (x.l.L<=600))&&((decide (0<=x.l.D)&&decide (x.l.D<=60))&&((decide (1<=x.l.E)&&decide (x.l.E<=60))&&((eY x.l.L (-1) x.l.P&&decide ((x.l.P.length:Int)<=4))&&((eY x.l.L (-1) x.l.C&&decide ((x.l.C.length:Int)<=4))&&!x.l.P.any fun p=>x.l.C.any fun c=>decide (p.1<c.2)&&decide (c.1<p.2)))))):=by
  unfold lF;simp only[Bool.and_assoc]
 cases c1:(decide (1<=x.l.L)&&decide (x.l.L<=600))
 ·rw[hv,c1,qp,aY (x:=x23) rfl rfl rfl rfl];simp(maxSteps:=30000000)(disch:=omega)only[go_sem,x23,ei,c1]
 ·cases c2:(decide (0<=x.l.D)&&decide (x.l.D<=60))
  ·rw[hv,c2,qp,qZ,aY (x:=x23) rfl rfl rfl rfl];simp(maxSteps:=30000000)(disch:=omega)only[go_sem,x23,ei,c1,c2]
  ·cases c3:(decide (1<=x.l.E)&&decide (x.l.E<=60))
   ·rw[hv,c3,qp,qZ,qZ,aY (x:=x23) rfl rfl rfl rfl];simp(maxSteps:=30000000)(disch:=omega)only[go_sem,x23,ei,c1,c2,c3]
   ·cases c4:(eY x.l.L (-1) x.l.P&&decide ((x.l.P.length:Int)<=4))
    ·rw[hv,c4,qp,qZ,qZ,qZ,aY (x:=x23) rfl rfl rfl rfl];simp(maxSteps:=30000000)(disch:=omega)only[go_sem,x23,ei,ep,c1,c2,c3,c4]
    ·cases c5:(eY x.l.L (-1) x.l.C&&decide ((x.l.C.length:Int)<=4))
     ·rw[hv,c5,qp,qZ,qZ,qZ,qZ,aY (x:=x23) rfl rfl rfl rfl];simp(maxSteps:=30000000)(disch:=omega)only[go_sem,x23,ei,ep,ec,c1,c2,c3,c4,c5]
     ·have hL:x.l.L<=600:=by simp only[bg,decide_eq_true_eq]at c1;exact c1.2
      have hP:eY x.l.L (-1) x.l.P=true:=by simp only[bg]at c4;exact c4.1
      have hC:eY x.l.L (-1) x.l.C=true:=by simp only[bg]at c5;exact c5.1
      have hL1:1<=x.l.L:=by simp only[bg,decide_eq_true_eq]at c1;exact c1.1
      have el:=aim o h x.l.L.toNat 0 (by omega) hL
      have hb:zn x.l 0 x.l.L.toNat=true↔lF x.l=true:=by
       rw[Yw,hv,c1,c2,c3,c4,c5];have hd:=ail hP hC;have hd2:(∀ j:Nat,0<=j->j<0+x.l.L.toNat->rF x.l j=false)↔(∀ k:Nat,(k:Int)<x.l.L->rF x.l k=false):=⟨fun hh k h1=>hh k (by omega) (by omega),fun hh k h1 h2=>hh k (by omega)⟩
       rw[hd2,hd];simp only[nK,ku,List.any_eq_false,Bool.not_eq_true];constructor
       ·intro hh p hp c hc;have:=qb.mp (hh p hp) c hc;simp;omega
       ·intro hh p hp;rw[qb];intro c hc h1;have:=hh p hp c hc;simp at this;omega
      simp only[hb,fH]at el;rw[aY (x:=x23) rfl rfl rfl rfl];cases c6:lF x.l
      ·rw[c6,if_neg uZ]at el;simp(maxSteps:=30000000)(disch:=omega)only[go_sem,x23,ei,ep,ec,c1,c2,c3,c4,c5,el]
      ·rw[c6,if_pos rfl]at el;simp(maxSteps:=30000000)(disch:=omega)only[go_sem,x23,ei,ep,ec,c1,c2,c3,c4,c5,el]
end Go.VI.Dump
namespace Go.VI.Dump
open Go.VI.Num
/- BIGSTEPS -/
theorem ain{lo ns:Nat}{h fr:Heap}{s aj len i:Nat}{l:List Pr}{n:Int}(hid:fr[s]?=some (aj,.arr 2 (pts l)))(hl:l.length=len)(hi:i<l.length)(hlo:lo<=h.length) :
  dK ⟨lo,h.length,ns,none⟩ (h++fr) 1 (.di (.ref (h.length+s) aj 2 0 len len) i 1) (.int .i64 n)=some (h++fr.set s (aj,.arr 2 (pts (l.set i (l[i].1,n))))):=by
 have he:(pts l)[i]?=some (.agg [.int .i64 l[i].1,.int .i64 l[i].2]):=by simp[pts,pt,hi]
 have iL:(h++fr)[h.length+s]?=some (aj,.arr 2 (pts l)):=by rw[bH];exact hid
 subst hl;simp only[dK,aU,AV.cells,AV.val,iL,jq,je,aV,hi,and_self,if_true,Option.bind_some,he,List.length_cons,kz,show lo<=h.length+s by omega,splice]
 simp[pts,pt,List.map_set]
theorem aio(C O:List Pr)(s:Int):(Num.runT C O s).length<=O.length+1:=by
 unfold Num.runT;split
 ·omega
 ·split
  ·simp
  ·simp
set_option maxHeartbeats 1000000 in
theorem aip{x:LV}(o:okV x)(hL:x.l.L<=600)(h:Heap):∀(d k:Nat) (out:List Pr),(k:Int)+d=x.l.L->out.length<=k ->
  aA lib ⟨h.length,h.length,1,none⟩ (.loop LZ) ([(1,jF x),(4,bq (h.length+0) (0,.dead) 2 (pts out)),(5,.int .i64 k)],h++[aX (0,.dead) 2 (pts out)]) =
   some (.exit 0,([(4,bq (h.length+0) (0,.dead) 2 (pts ((iE k d).foldl (Num.runT x.l.C) out)))],h++[aX (0,.dead) 2 (pts ((iE k d).foldl (Num.runT x.l.C) out))])):=by
 intro d
 induction d with
 |zero =>
  intro k out hk _;have c:¬ (k:Int)<x.l.L:=by omega
  rw[I5,nN,aR]
  simp(maxSteps:=30000000)(disch:=omega)only[go_sem,c]
 |succ d ih =>
  intro k out hk hn;have c:(k:Int)<x.l.L:=by omega
  have ec:=fun n H lo=>Dc (o.sc H) o.lc n lo;rw[I4,List.foldl_cons,show (k:Int)+1=((k+1:Nat):Int) by omega]
  have e:=ih (k+1) (Num.runT x.l.C out k) (by omega) (by have:=aio x.l.C out k;omega)
  generalize ((iE ((k+1:Nat):Int) d).foldl (Num.runT x.l.C) (Num.runT x.l.C out k))=R at*;rw[dF]at e;have s0:=Sl.acc (h:=h) (fr:=[aX (0,.dead) 2 (pts out)]) (s:=0) (z:=2) (b0:=(0,.dead)) (es:=pts out) rfl;have ll:=bK s0.len;rw[jq]at ll;rw[aR]
  cases c1:hasB x.l.C k with
  |true =>
   have hr:Num.runT x.l.C out k=out:=by unfold Num.runT;rw[c1,if_pos rfl]
   rw[hr]at e
   simp(maxSteps:=30000000)(disch:=omega)only[go_sem,c,ec,c1,e]
  |false =>
   have ap:=jk (lo:=h.length) (ns:=1) (s:=0) (z:=2) (lim:=8796093022208) (h:=h) (fr:=[aX (0,.dead) 2 (pts out)]) (b0:=(0,.dead)) (es:=pts out) (xs:=[.agg [.int .i64 k,.int .i64 ((k:Int)+1)]]) (by omega) (by omega) rfl (by simp;omega)
   rcases List.eq_nil_or_concat out with h0|⟨O,r,h0⟩
   ·subst h0;have hr:Num.runT x.l.C [] k=[((k:Int),(k:Int)+1)]:=by unfold Num.runT;rw[c1];rfl
    rw[hr]at e;simp only[show pts [((k:Int),(k:Int)+1)]=[.agg [.int .i64 k,.int .i64 ((k:Int)+1)]]from rfl]at e
    simp only[show pts []=[]from rfl,kz,fH,List.nil_append]at ll ap e⊢
    simp(maxSteps:=30000000)(disch:=omega)only[go_sem,c,ec,c1,ll,dU,ap,e]
   ·rw[List.concat_eq_append]at h0;subst h0;have hlen:(O++[r]).length=O.length+1:=by simp
    have g0:0<((O++[r]).length:Int):=by omega
    have ei:∀ g:Int,g=O.length->bP 2 (bq (h.length+0) (0,.dead) 2 (pts (O++[r]))) (.int .i64 g)=some O.length:=by
     intro g hg;rw[hg,dz s0 (by omega) (by simp;omega)];simp
    have e5:=ei (max (((O++[r]).length:Int)-1) 0) (by omega)
    have e6:=fun off=>dx (off:=off) s0.eO (show O.length<(pts (O++[r])).length by simp)
    simp only[tC,pt]at e6;have hg:(O++[r])[O.length]'(by simp)=r:=List.getElem_concat_length rfl (by simp)
    simp only[hg]at e6;by_cases c2:r.2=k
    ·have hr:Num.runT x.l.C (O++[r]) k=O++[(r.1,(k:Int)+1)]:=by
      unfold Num.runT;rw[c1,if_neg uZ,NW,if_pos (by simp[c2])]
      simp
     rw[hr]at e;have e7:=ei (((O++[r]).length:Int)-1) (by omega)
     have hne:pts (O++[r])≠[]:=by simp[pts]
     have hne2:pts (O++[(r.1,(k:Int)+1)])≠[]:=by simp[pts]
     have st:=ain (lo:=h.length) (ns:=1) (h:=h) (fr:=[(0+1,.arr 2 (pts (O++[r])))]) (s:=0) (aj:=0+1) (len:=(O++[r]).length) (i:=O.length) (l:=O++[r]) (n:=(k:Int)+1) rfl rfl (by simp) (aV _)
     simp only[hg,List.set_cons_zero]at st;rw[show (O++[r]).set O.length (r.1,(k:Int)+1)=O++[(r.1,(k:Int)+1)] by simp]at st
     rw[kF hne2,lq hne2]at e;rw[kF hne]at e5 e7 e6 ll⊢;rw[lq hne]at e6⊢;simp only[jq]at e5 e6 e7 ll st e⊢;rw[show (O++[(r.1,(k:Int)+1)]).length=(O++[r]).length by simp]at e
     have c2':(r.2=(k:Int))=True:=eq_true c2;simp(maxSteps:=30000000)(disch:=omega)only[go_sem,c,ec,c1,ll,g0,e5,e6,e7,c2',st,e]
    ·have hr:Num.runT x.l.C (O++[r]) k=(O++[r])++[((k:Int),(k:Int)+1)]:=by
      unfold Num.runT;rw[c1,if_neg uZ,NW,if_neg (by simp[c2])]
     rw[hr,FL]at e;simp(maxSteps:=30000000)(disch:=omega)only[go_sem,c,ec,c1,ll,g0,e5,e6,c2,ap,e]
theorem Yx{x:LV}(o:okV x)(hv:¬ dD x.l)(h:Heap)(lo:Nat):(run lib).fn 21 [bI x] h lo=some (.tuple [.own 0 [],.int .i64 200],h):=by
 have e:=fun H lo=>A8 o H lo
 have:lF x.l=false:=by
  cases hb:lF x.l
  ·rfl
  ·exact absurd (qh.mp hb) hv
 rw[this]at e;unfold bI at e⊢;rw[aY (x:=x21) rfl rfl rfl rfl];simp(maxSteps:=30000000)(disch:=omega)only[go_sem,x21,e]
theorem Pb{x:LV}(o:okV x)(ok:dD x.l)(h:Heap)(lo:Nat):(run lib).fn 21 [bI x] h lo=some (.tuple [eP 2 (pts (gG x.l)),.int .i64 0],h):=by
 have ev:=fun H lo=>A8 o H lo;rw[qh.mpr ok]at ev;have hL:=ok.L;obtain⟨N,hN⟩:∃ N:Nat,x.l.L=N:=⟨x.l.L.toNat,by omega⟩
 have e:=aip o hL.2 h N 0 [] (by omega) (by simp)
 have hr:=VU ok N;simp only[fH]at e;rw[hr,<-hN,VR x.l.C ok.C]at e;simp only[show pts []=[]from rfl,oU,qO]at e
 have g4:=mq (s:=0) (z:=2) (h:=h) (b0:=(0,.dead)) (es:=pts (gG x.l)) (fr:=[aX (0,.dead) 2 (pts (gG x.l))]) rfl;unfold gG at*;unfold bI at ev⊢;rw[aY (x:=x21) rfl rfl rfl rfl];simp(maxSteps:=30000000)(disch:=omega)only[go_sem,x21,ev,e,g4]
end Go.VI.Dump
namespace Go.VI.Dump
open Go.VI.Num
/- BIGSTEPS -/
def fV(p:Nat)(S A:List AV)(B:Nat×av):Heap:=[aX (0,.dead) 5 S,if p=1 then aX (0,.dead) 1 A else(0,.dead),(0,.dead),if p=3 then aX (0,.dead) 1 A else(0,.dead),B,if p=5 then aX (0,.dead) 1 A else(0,.dead)]
def xU(X:Stp):AV:=.agg [.int .i64 X.fr,.int .i64 X.to,.int .i64 X.be,.int .i64 X.de,.bool X.str]
def dh(xs:List Stp):List AV:=xs.map xU
theorem JL{h:Heap}{p s:Nat}{S A xs:List AV}{B:Nat×av}(hp:p=1\/p=3\/p=5)(hs:s<6)(h0:A=[]->s=p)(hl:A.length+xs.length<=17592186044416)(hx:xs≠[]) :
  dP ⟨h.length,h.length,6,none⟩ s 1 17592186044416 (bq (h.length+p) (0,.dead) 1 A) xs (h++fV p S A B)=some (bq (h.length+p) (0,.dead) 1 (A++xs),h++fV p S (A++xs) B):=by
 have hg:∀ A,(fV p S A B)[p]?=some (aX (0,.dead) 1 A):=fun A=>by rcases hp with rfl|rfl|rfl<;>rfl
 have hset:(fV p S A B).set p (aX (0,.dead) 1 (A++xs))=fV p S (A++xs) B:=by rcases hp with rfl|rfl|rfl<;>rfl
 by_cases hA:A=[]
 ·have:=h0 hA;subst this;rw[jk (lo:=h.length) (ns:=6) (s:=s) (z:=1) hs (aV _) (hg A) hl,hset]
 ·have hb:(h++fV p S A B)[h.length+p]?=some (0+1,.arr 1 A):=by rw[bH,hg A,lq hA]
  rw[kF hA,xB hb (by simp) hl,<-hset,kF (by simp[hA]),lq (by simp[hA]),eB,dZ]
theorem aiq{x:LV}(hD:x.l.D<=60)(h:Heap):∀(d k:Nat),(k:Int)+d=x.l.D ->
  aA lib ⟨h.length,h.length,6,none⟩ (.loop MB) ([(1,jF x),(5,bq (h.length+5) (0,.dead) 1 (ints (List.replicate k (-1)))),(6,.int .i64 k)],h++[(0,.dead),(0,.dead),(0,.dead),(0,.dead),(0,.dead),aX (0,.dead) 1 (ints (List.replicate k (-1)))]) =
   some (.exit 0,([(1,jF x),(5,bq (h.length+5) (0,.dead) 1 (ints (List.replicate x.l.D.toNat (-1))))],h++[(0,.dead),(0,.dead),(0,.dead),(0,.dead),(0,.dead),aX (0,.dead) 1 (ints (List.replicate x.l.D.toNat (-1)))])):=by
 intro d
 induction d with
 |zero =>
  intro k hk;have c:¬ (k:Int)<x.l.D:=by omega
  rw[show x.l.D.toNat=k by omega,aR]
  simp(maxSteps:=30000000)(disch:=omega)only[go_sem,c]
 |succ d ih =>
  intro k hk;have c:(k:Int)<x.l.D:=by omega
  have e:=ih (k+1) (by omega)
  rw[XL,xO,dF]at e;have ap:=jk (lo:=h.length) (ns:=6) (s:=5) (z:=1) (lim:=17592186044416) (h:=h) (fr:=[(0,.dead),(0,.dead),(0,.dead),(0,.dead),(0,.dead),aX (0,.dead) 1 (ints (List.replicate k (-1)))]) (b0:=(0,.dead)) (es:=ints (List.replicate k (-1))) (xs:=[.int .i64 (-1)]) (by omega) (by omega) rfl (by simp;omega)
  rw[aR];simp(maxSteps:=30000000)(disch:=omega)only[go_sem,c,ap,e]
def xV(l:dI)(k:Int):Nat->Bool
 |0=>true
 |d+1=>(!hasB l.C k&&!hasB l.P k)&&xV l (k+1) d
theorem Yy{l:dI}:∀(d:Nat) (k:Int),xV l k d=true↔∀ j:Int,k<=j->j<k+d->hasB l.C j=false/\hasB l.P j=false
 |0,k=>by simp only[xV,true_iff];intro j h1 h2;omega
 |d+1,k=>by
  rw[xV,bg,Yy d,bg,ku,ku];constructor
  ·rintro⟨h1,h2⟩ j h3 h4;by_cases hj:j=k
   ·rw[hj];exact h1
   ·exact h2 j (by omega) (by omega)
  ·intro hh;exact⟨hh k (by omega) (by omega),fun j h1 h2=>hh j (by omega) (by omega)⟩
theorem str_eq{l:dI}(ok:dD l)(s d:Int)(N:Nat)(hN:(N:Int)=l.E):((decide (d<l.D)&&decide (s+l.E<=l.L))&&xV l s N)=oW l s d:=by
 have hE:=ok.E
 have key:xV l s N=(!gL l.C s (s+l.E)&&!gL l.P s (s+l.E)):=by
  rw[Bool.eq_iff_iff,Yy,bg,ku,ku];constructor
  ·intro hh;exact⟨VQ ok.C (fun k a b=>(hh k a b).1) (iK s) (show s+l.E<=s+N by omega) (by omega),VQ ok.P (fun k a b=>(hh k a b).2) (iK s) (show s+l.E<=s+N by omega) (by omega)⟩
  ·rintro⟨h1,h2⟩ j h3 h4;exact⟨IZ h1 h3 (by omega),IZ h2 h3 (by omega)⟩
 rw[key];unfold oW;rw[Bool.and_assoc]
theorem Yz{x:LV}(o:okV x){h:Heap}{p:Nat}{S A:List AV}{V5 V7:AV}{v:Nat}{a1 a2 a3 dd:Int}{s:Int}(hs:0<=s/\s<=600)(hE:1<=x.l.E/\x.l.E<=60):∀(d:Nat) (k:Int) (b:Bool),k+d=s+x.l.E->0<=k ->
  aA lib ⟨h.length,h.length,6,none⟩ (.loop Mw) ([(1,jF x),(5,V5),(7,V7),(8,.int .i64 dd),(9,.int .i64 s),(10,.aJ (h.length+4) v 0),(11,.int .i64 k)],h++fV p S A (v,.box [.int .i64 a1,.int .i64 a2,.int .i64 a3,.int .i64 dd,.bool b])) =
   some (.exit 4,([(1,jF x),(5,V5),(7,V7),(8,.int .i64 dd),(9,.int .i64 s),(10,.aJ (h.length+4) v 0)],h++fV p S A (v,.box [.int .i64 a1,.int .i64 a2,.int .i64 a3,.int .i64 dd,.bool (b&&xV x.l k d)]))):=by
 intro d
 induction d with
 |zero =>
  intro k b hk h0;have c:¬ k<s+x.l.E:=by omega
  rw[aR,xV,Bool.and_true];simp only[fV]
  simp(maxSteps:=30000000)(disch:=omega)only[go_sem,c]
 |succ d ih =>
  intro k b hk h0;have c:k<s+x.l.E:=by omega
  have ec:=fun n H lo=>Dc (o.sc H) o.lc n lo;have ep:=fun n H lo=>Dc (o.sp H) o.lp n lo;rw[aR]
  cases b with
  |false =>
   simp only[fV,qp]
   simp(maxSteps:=30000000)(disch:=omega)only[go_sem,c]
  |true =>
   simp only[xV,nK]
   cases c1:hasB x.l.C k with
   |true =>
    have e:=ih (k+1) false (by omega) (by omega)
    simp only[fV,qp,vH]at e⊢
    simp(maxSteps:=30000000)(disch:=omega)only[go_sem,c,ec,c1,e]
   |false =>
    cases c2:hasB x.l.P k with
    |true =>
     have e:=ih (k+1) false (by omega) (by omega)
     simp only[fV,qp,vH,vR,nK]at e⊢
     simp(maxSteps:=30000000)(disch:=omega)only[go_sem,c,ec,ep,c1,c2,e]
    |false =>
     have e:=ih (k+1) true (by omega) (by omega)
     simp only[fV,vR,nK]at e⊢;simp(maxSteps:=30000000)(disch:=omega)only[go_sem,c,ec,ep,c1,c2,e]
theorem air{x:LV}{h:Heap}{p:Nat}(hp:p=1\/p=3\/p=5){S:List AV}{V7:AV}{v:Nat}{a1 a3 dd d8:Int}{bb:Bool}{t:Int}(ht:t<=700):∀(d:Nat) (k:Int) (A:List Int),k+d=t->0<=k->A≠[]->(A.length:Int)<=1000+k ->
  aA lib ⟨h.length,h.length,6,none⟩ (.loop Mv) ([(1,jF x),(5,bq (h.length+p) (0,.dead) 1 (ints A)),(7,V7),(8,.int .i64 d8),(10,.aJ (h.length+4) v 0),(12,.int .i64 k)],h++fV p S (ints A) (v,.box [.int .i64 a1,.int .i64 t,.int .i64 a3,.int .i64 dd,.bool bb])) =
   some (.exit 6,([(1,jF x),(5,bq (h.length+p) (0,.dead) 1 (ints (A++iE k d))),(7,V7),(8,.int .i64 d8),(10,.aJ (h.length+4) v 0)],h++fV p S (ints (A++iE k d)) (v,.box [.int .i64 a1,.int .i64 t,.int .i64 a3,.int .i64 dd,.bool bb]))):=by
 intro d
 induction d with
 |zero =>
  intro k A hk _ _ _;have c:¬ k<t:=by omega
  rw[I5,gP,aR];simp only[fV]
  simp(maxSteps:=30000000)(disch:=omega)only[go_sem,c]
 |succ d ih =>
  intro k A hk h0 hA hl;have c:k<t:=by omega
  have e:=ih (k+1) (A++[k]) (by omega) (by omega) (by simp) (by simp;omega)
  rw[eH,List.singleton_append,<-I4,xO]at e;have ap:=JL (h:=h) (p:=p) (s:=2) (S:=S) (A:=ints A) (xs:=[.int .i64 k]) (B:=(v,.box [.int .i64 a1,.int .i64 t,.int .i64 a3,.int .i64 dd,.bool bb])) hp (by omega) (fun hh=>absurd hh (by simp[ints,hA])) (by simp;omega) (by simp)
  rw[aR];simp only[fV]at e ap⊢;simp(maxSteps:=30000000)(disch:=omega)only[go_sem,c,ap,e]
end Go.VI.Dump
namespace Go.VI.Dump
open Go.VI.Num
/- BIGSTEPS -/
theorem JN(S:List Stp)(X:Stp):dh (S++[X])=dh S++[.agg [.int .i64 X.fr,.int .i64 X.to,.int .i64 X.be,.int .i64 X.de,.bool X.str]]:=by simp[dh,xU]
@[simp] theorem Pf (S:List Stp):(dh S).length=S.length:=by simp [dh]
set_option maxHeartbeats 4000000 in
theorem ais{x:LV}(o:okV x)(ok:dD x.l)(h:Heap){s d e:Int}{xs:List Stp}(ch:Ch x.l s d xs e):∀(p:Nat) (S:List Stp) (A:List Int) (B:Nat×av),
  (p=1\/p=3\/p=5)->0<=s->0<=d->d<=x.l.D->(A.length:Int)=s+d->(S.length:Int)<=s->(A=[]->p=if hasB x.l.C s=true then 1 else 3) ->
  ∃ B',aA lib ⟨h.length,h.length,6,none⟩ (.loop Mx) ([(1,jF x),(5,bq (h.length+p) (0,.dead) 1 (ints A)),(7,bq (h.length+0) (0,.dead) 5 (dh S)),(8,.int .i64 d),(9,.int .i64 s)],h++fV p (dh S) (ints A) B) =
   some (.exit 2,([(5,bq (h.length+p) (0,.dead) 1 (ints (A++dJ xs))),(7,bq (h.length+0) (0,.dead) 5 (dh (S++xs))),(8,.int .i64 e)],h++fV p (dh (S++xs)) (ints (A++dJ xs)) B')):=by
 have hL:=ok.L;have hD:=ok.D;have hE:=ok.E;have ec:=fun n H lo=>Dc (o.sc H) o.lc n lo;obtain⟨N,hN⟩:∃ N:Nat,x.l.E=N:=⟨x.l.E.toNat,by omega⟩
 induction ch with
 |nil d =>
  intro p S A B hp h0 h1 h2 hA hS hz;refine⟨B, ?_⟩;rw[show dJ []=[]from rfl,gP,gP,aR]
  simp only[fV]
  simp(maxSteps:=30000000)(disch:=omega)only[go_sem,dU]
 |@kR s d e xs g1 g2 g3 g ih =>
  intro p S A B hp h0 h1 h2 hA hS hz;obtain⟨v0,b0⟩:=B;obtain⟨B',i⟩:=ih p (S++[⟨s,s+1,s+d,s+d,d,true,false⟩]) A (v0+1,.box [.int .i64 s,.int .i64 (s+1),.int .i64 (s+d),.int .i64 d,.bool false]) hp (by omega) (by omega) (by omega) (by omega) (by simp;omega) (fun hh=>by rw[hh]at hA;simp at hA;omega)
  refine⟨B', ?_⟩;rw[oI,I6,List.nil_append,List.append_cons];generalize A++dJ xs=AR at*;generalize S++[Stp.mk s (s+1) (s+d) (s+d) d true false]++xs=SR at*;rw[JN]at i;have la:=bK (Sl.acc (h:=h) (fr:=fV p (dh S) (ints A) (v0+1,.box [.int .i64 0,.int .i64 0,.int .i64 0,.int .i64 0,.bool false])) (s:=p) (z:=1) (b0:=(0,.dead)) (es:=ints A) (by rcases hp with rfl|rfl|rfl<;>rfl)).len
  have la':=bK (Sl.acc (h:=h) (fr:=fV p (dh S) (ints A) (v0,b0)) (s:=p) (z:=1) (b0:=(0,.dead)) (es:=ints A) (by rcases hp with rfl|rfl|rfl<;>rfl)).len
  rw[fE,hA]at la la';have ap:=jk (lo:=h.length) (ns:=6) (s:=0) (z:=5) (lim:=3518437208883) (h:=h) (fr:=fV p (dh S) (ints A) (v0+1,.box [.int .i64 s,.int .i64 (s+1),.int .i64 (s+d),.int .i64 d,.bool false])) (b0:=(0,.dead)) (es:=dh S) (xs:=[.agg [.int .i64 s,.int .i64 (s+1),.int .i64 (s+d),.int .i64 d,.bool false]]) (by omega) (by omega) rfl (by simp;omega)
  simp only[fV,List.set_cons_zero]at ap i⊢;rw[aR]
  simp(maxSteps:=30000000)(disch:=omega)only[go_sem,g1,g2,g3,ec,la,ap,i]
 |@kS s d e xs g1 g2 g3 g ih =>
  intro p S A B hp h0 h1 h2 hA hS hz;obtain⟨v0,b0⟩:=B;subst g3;obtain⟨B',i⟩:=ih p (S++[⟨s,s+1,s+0,s+0+1,0,true,false⟩]) (A++[-1]) (v0+1,.box [.int .i64 s,.int .i64 (s+1),.int .i64 (s+0),.int .i64 0,.bool false]) hp (by omega) (by omega) (by omega) (by simp;omega) (by simp;omega) (fun hh=>by simp at hh)
  refine⟨B', ?_⟩;rw[oI,I7,List.append_cons S];rw[eH]at i;generalize A++([-1]++dJ xs)=AR at*;generalize S++[Stp.mk s (s+1) (s+0) (s+0+1) 0 true false]++xs=SR at*;rw[JN,xO]at i;simp only[sI]at i hA;have la:=bK (Sl.acc (h:=h) (fr:=fV p (dh S) (ints A) (v0,b0)) (s:=p) (z:=1) (b0:=(0,.dead)) (es:=ints A) (by rcases hp with rfl|rfl|rfl<;>rfl)).len
  rw[fE,hA]at la
  have a1:=JL (h:=h) (p:=p) (s:=1) (S:=dh S) (A:=ints A) (xs:=[.int .i64 (-1)]) (B:=(v0+1,.box [.int .i64 s,.int .i64 (s+1),.int .i64 s,.int .i64 0,.bool false])) hp (by omega) (fun hh=>by
   have h9:A=[]:=by cases A with|nil=>rfl|cons a r=>simp[ints]at hh
   rw[hz h9,g2,if_pos rfl]) (by simp;omega) (by simp)
  have ap:=jk (lo:=h.length) (ns:=6) (s:=0) (z:=5) (lim:=3518437208883) (h:=h) (fr:=fV p (dh S) (ints A++[.int .i64 (-1)]) (v0+1,.box [.int .i64 s,.int .i64 (s+1),.int .i64 s,.int .i64 0,.bool false])) (b0:=(0,.dead)) (es:=dh S) (xs:=[.agg [.int .i64 s,.int .i64 (s+1),.int .i64 s,.int .i64 0,.bool false]]) (by omega) (by omega) rfl (by simp;omega)
  simp only[fV,List.set_cons_zero]at ap a1 i⊢;rw[aR]
  simp(maxSteps:=30000000)(disch:=omega)only[go_sem,g1,g2,dU,ec,la,a1,ap,i]
 |@str s d e xs g1 g2 g3 g4 g5 g6 g ih =>
  intro p S A B hp h0 h1 h2 hA hS hz;obtain⟨v0,b0⟩:=B;obtain⟨B',i⟩:=ih p (S++[⟨s,s+x.l.E,s+d,s+d+x.l.E+1,d,false,true⟩]) (A++[s]++iE s N) (v0+1,.box [.int .i64 s,.int .i64 (s+x.l.E),.int .i64 (s+d),.int .i64 d,.bool true]) hp (by omega) (by omega) (by omega) (by simp;omega) (by simp;omega) (fun hh=>by simp at hh)
  refine⟨B', ?_⟩;rw[oI,Cm hE.1,List.append_cons S,show x.l.E.toNat=N by omega]
  have hAR:A++(s::iE s N++dJ xs)=A++[s]++iE s N++dJ xs:=by simp
  rw[hAR];generalize A++[s]++iE s N++dJ xs=AR at*;generalize S++[Stp.mk s (s+x.l.E) (s+d) (s+d+x.l.E+1) d false true]++xs=SR at*;rw[JN]at i;have la:=bK (Sl.acc (h:=h) (fr:=fV p (dh S) (ints A) (v0,b0)) (s:=p) (z:=1) (b0:=(0,.dead)) (es:=ints A) (by rcases hp with rfl|rfl|rfl<;>rfl)).len
  rw[fE,hA]at la;have hstr:oW x.l s d=true:=by simp[oW,g3,g4,g5,g6]
  have hcl:=str_eq ok s d N hN.symm;rw[hstr,decide_eq_true g3,decide_eq_true g4,nK,nK]at hcl;have fr:=Yz o (h:=h) (p:=p) (S:=dh S) (A:=ints A) (V5:=bq (h.length+p) (0,.dead) 1 (ints A)) (V7:=bq (h.length+0) (0,.dead) 5 (dh S)) (v:=v0+1) (a1:=s) (a2:=s+1) (a3:=s+d) (dd:=d) (s:=s) (by omega) hE N s true (by omega) h0
  rw[hcl,nK]at fr
  have a1:=JL (h:=h) (p:=p) (s:=3) (S:=dh S) (A:=ints A) (xs:=[.int .i64 s]) (B:=(v0+1,.box [.int .i64 s,.int .i64 (s+1),.int .i64 (s+d),.int .i64 d,.bool true])) hp (by omega) (fun hh=>by
   have h9:A=[]:=by cases A with|nil=>rfl|cons a r=>simp[ints]at hh
   rw[hz h9,g2,if_neg uZ]) (by simp;omega) (by simp)
  have es:=air (x:=x) (h:=h) hp (S:=dh S) (V7:=bq (h.length+0) (0,.dead) 5 (dh S)) (v:=v0+1) (a1:=s) (a3:=s+d) (dd:=d) (d8:=d+1) (bb:=true) (t:=s+x.l.E) (by omega) N s (A++[s]) (by omega) h0 (by simp) (by simp;omega)
  rw[xO]at es;have ap:=jk (lo:=h.length) (ns:=6) (s:=0) (z:=5) (lim:=3518437208883) (h:=h) (fr:=fV p (dh S) (ints (A++[s]++iE s N)) (v0+1,.box [.int .i64 s,.int .i64 (s+x.l.E),.int .i64 (s+d),.int .i64 d,.bool true])) (b0:=(0,.dead)) (es:=dh S) (xs:=[.agg [.int .i64 s,.int .i64 (s+x.l.E),.int .i64 (s+d),.int .i64 d,.bool true]]) (by omega) (by omega) rfl (by simp;omega)
  generalize A++[s]++iE s N=A2 at*;simp only[fV,List.set_cons_zero]at ap a1 es fr i⊢;rw[aR]
  simp(maxSteps:=30000000)(disch:=omega)only[go_sem,g1,g2,g3,g4,ec,la,fr,a1,es,ap,i]
 |@pl s d e xs g1 g2 g3 g ih =>
  intro p S A B hp h0 h1 h2 hA hS hz;obtain⟨v0,b0⟩:=B;obtain⟨B',i⟩:=ih p (S++[⟨s,s+1,s+d,s+d+1,d,false,false⟩]) (A++[s]) (v0+1,.box [.int .i64 s,.int .i64 (s+1),.int .i64 (s+d),.int .i64 d,.bool false]) hp (by omega) (by omega) (by omega) (by simp;omega) (by simp;omega) (fun hh=>by simp at hh)
  refine⟨B', ?_⟩;rw[oI,Ck,List.append_cons S];rw[eH]at i;generalize A++([s]++dJ xs)=AR at*;generalize S++[Stp.mk s (s+1) (s+d) (s+d+1) d false false]++xs=SR at*;rw[JN,xO]at i;have la:=bK (Sl.acc (h:=h) (fr:=fV p (dh S) (ints A) (v0,b0)) (s:=p) (z:=1) (b0:=(0,.dead)) (es:=ints A) (by rcases hp with rfl|rfl|rfl<;>rfl)).len
  rw[fE,hA]at la;have hcl:=str_eq ok s d N hN.symm;rw[g3]at hcl;have fr:=fun b=>Yz o (h:=h) (p:=p) (S:=dh S) (A:=ints A) (V5:=bq (h.length+p) (0,.dead) 1 (ints A)) (V7:=bq (h.length+0) (0,.dead) 5 (dh S)) (v:=v0+1) (a1:=s) (a2:=s+1) (a3:=s+d) (dd:=d) (s:=s) (by omega) hE N s b (by omega) h0
  have a1:=JL (h:=h) (p:=p) (s:=3) (S:=dh S) (A:=ints A) (xs:=[.int .i64 s]) (B:=(v0+1,.box [.int .i64 s,.int .i64 (s+1),.int .i64 (s+d),.int .i64 d,.bool false])) hp (by omega) (fun hh=>by
   have h9:A=[]:=by cases A with|nil=>rfl|cons a r=>simp[ints]at hh
   rw[hz h9,g2,if_neg uZ]) (by simp;omega) (by simp)
  have ap:=jk (lo:=h.length) (ns:=6) (s:=0) (z:=5) (lim:=3518437208883) (h:=h) (fr:=fV p (dh S) (ints A++[.int .i64 s]) (v0+1,.box [.int .i64 s,.int .i64 (s+1),.int .i64 (s+d),.int .i64 d,.bool false])) (b0:=(0,.dead)) (es:=dh S) (xs:=[.agg [.int .i64 s,.int .i64 (s+1),.int .i64 (s+d),.int .i64 d,.bool false]]) (by omega) (by omega) rfl (by simp;omega)
  by_cases c3:d<x.l.D
  ·by_cases c4:s+x.l.E<=x.l.L
   ·rw[decide_eq_true c3,decide_eq_true c4,nK]at hcl;have fr':=fr true;rw[hcl]at fr';simp only[fV,List.set_cons_zero]at ap a1 fr' i⊢;rw[aR];simp(maxSteps:=30000000)(disch:=omega)only[go_sem,g1,g2,c3,c4,ec,la,fr',a1,ap,i]
   ·have fr':=fr false;rw[qp]at fr';simp only[fV,List.set_cons_zero]at ap a1 fr' i⊢;rw[aR];simp(maxSteps:=30000000)(disch:=omega)only[go_sem,g1,g2,c3,c4,ec,la,fr',a1,ap,i]
  ·have fr':=fr false;rw[qp]at fr';simp only[fV,List.set_cons_zero]at ap a1 fr' i⊢;rw[aR];simp(maxSteps:=30000000)(disch:=omega)only[go_sem,g1,g2,c3,ec,la,fr',a1,ap,i]
end Go.VI.Dump
namespace Go.VI.Dump
open Go.VI.Num
/- BIGSTEPS -/
theorem Di(l:List Stp)(k:Nat)(h:k<(dh l).length):(dh l)[k]=xU (l[k]'(by simpa using h)):=by simp[dh]
set_option maxHeartbeats 1000000 in
theorem JO{x:LV}(o:okV x)(ok:dD x.l){xs:List Stp}{e:Int}(hc:Ch x.l 0 x.l.D xs e)(h:Heap)(lo:Nat) :
  (run lib).fn 50 [bI x] h lo=some (.tuple [eP 5 (dh xs),eP 1 (ints (dS x.l xs)),.int .i64 e],h):=by
 have hD:=ok.D;obtain⟨N,hN⟩:∃ N:Nat,x.l.D=N:=⟨x.l.D.toNat,by omega⟩
 have i0:=aiq (x:=x) hD.2 h N 0 (by omega)
 rw[show x.l.D.toNat=N by omega]at i0
 simp only[fH,List.replicate_zero,ints,List.map_nil,oU,qO]at i0
 obtain⟨p,hp,hA,hz⟩:∃ p,(p=1\/p=3\/p=5)/\(bq (h.length+5) (0,.dead) 1 (ints (List.replicate N (-1)))=bq (h.length+p) (0,.dead) 1 (ints (List.replicate N (-1)))/\([(0,.dead),(0,.dead),(0,.dead),(0,.dead),(0,.dead),aX (0,.dead) 1 (ints (List.replicate N (-1)))]:Heap)=fV p (dh []) (ints (List.replicate N (-1))) (0,.dead))/\(List.replicate N (-1:Int)=[]->p=if hasB x.l.C 0=true then 1 else 3):=by
  by_cases h0:N=0
  ·subst h0;refine⟨if hasB x.l.C 0=true then 1 else 3,by split<;>simp,⟨rfl, ?_⟩,fun _=>rfl⟩
   simp only[List.replicate_zero,ints,List.map_nil,dh,fV,qO];split<;>rfl
  ·exact⟨5,.inr (.inr rfl),⟨rfl,rfl⟩,fun hh=>absurd hh (by simp[h0])⟩
 obtain⟨hA1,hA2⟩:=hA;obtain⟨B',lp⟩:=ais o ok h hc p [] (List.replicate N (-1)) (0,.dead) hp (iK _) (by omega) (iK _) (by rw[mh];omega) (by simp) hz
 simp only[ints]at hA1 hA2;rw[hA1,hA2]at i0;have hAL:List.replicate N (-1)++dJ xs=dS x.l xs:=by unfold dS;rw[show x.l.D.toNat=N by omega]
 rw[hAL,List.nil_append]at lp;rw[show bq (h.length+0) (0,.dead) 5 (dh [])=.aD from oU _ _ _]at lp
 have g1:=mq (s:=0) (z:=5) (h:=h) (b0:=(0,.dead)) (es:=dh xs) (fr:=fV p (dh xs) (ints (dS x.l xs)) B') rfl;have g2:=fun y=>mq (s:=p) (z:=1) (h:=h) (b0:=(0,.dead)) (es:=ints (dS x.l xs)) (fr:=(fV p (dh xs) (ints (dS x.l xs)) B').set 0 y) (by rcases hp with rfl|rfl|rfl<;>rfl)
 simp only[ints]at lp g1 g2 i0⊢;generalize fV p (dh xs) (List.map (AV.int .i64) (dS x.l xs)) B'=F at*;generalize fV p (dh []) (List.map (AV.int .i64) (List.replicate N (-1))) (0,.dead)=F0 at*;unfold bI;rw[aY (x:=MC) rfl rfl rfl rfl];simp(maxSteps:=30000000)(disch:=omega)only[go_sem,MC,i0,lp,g1,g2]
theorem aiv{lo ns s z:Nat}{h fr:Heap}{b0:Nat×av}{es:List AV}{a c:AV}(hs:s<ns)(hb:fr[s]?=some b0)(h0:es≠[]) :
  iZ ⟨lo,h.length,ns,none⟩ [(1,s)] (some (.tuple [a,eP z es,c],h++fr))=some (.tuple [dw a,.ref (h.length+s) (b0.1+1) z 0 es.length es.length,dw c],h++fr.set s (b0.1+1,.arr z es)):=by
 have h3:bV ⟨lo,h.length,ns,none⟩ s (.arr z es) (h++fr)=some (b0.1+1,h++fr.set s (b0.1+1,.arr z es)):=by
  rw[qN,hb];obtain⟨v0,bl⟩:=b0;rw[sF,if_pos hs]
 simp[eP,h0,iZ,iN,h3,weak,dw]
theorem Ph{x:LV}(o:okV x)(hv:¬ dD x.l)(H:Heap)(lo:Nat):(run lib).fn 23 [bI x] H lo=some (.bool false,H):=by
 have e:=A8 o H lo
 have:lF x.l=false:=by
  cases hb:lF x.l
  ·rfl
  ·exact absurd (qh.mp hb) hv
 rw[this]at e;exact e
theorem YA{x:LV}(o:okV x)(hv:¬ dD x.l)(h:Heap)(lo:Nat):(run lib).fn 15 [bI x] h lo=some (.tuple [.own 0 [],.int .i64 200],h):=by
 have e:=fun H lo=>Ph o hv H lo;unfold bI at e⊢;rw[aY (x:=EF) rfl rfl rfl rfl];simp(maxSteps:=30000000)(disch:=omega)only[go_sem,EF,e]
theorem aiw{x:LV}(o:okV x)(hv:¬ dD x.l)(h:Heap)(lo:Nat):(run lib).fn 17 [bI x] h lo=some (.tuple [.own 0 [],.int .i64 200],h):=by
 have e:=fun H lo=>Ph o hv H lo;unfold bI at e⊢;rw[aY (x:=EH) rfl rfl rfl rfl];simp(maxSteps:=30000000)(disch:=omega)only[go_sem,EH,e]
theorem aix{x:LV}(o:okV x)(hv:¬ dD x.l)(h:Heap)(lo:Nat):(run lib).fn 19 [bI x] h lo=some (.tuple [.own 0 [],.int .i64 200],h):=by
 have e:=fun H lo=>Ph o hv H lo;unfold bI at e⊢;rw[aY (x:=EI) rfl rfl rfl rfl];simp(maxSteps:=30000000)(disch:=omega)only[go_sem,EI,e]
theorem YB{x:LV}(o:okV x)(ok:dD x.l){xs:List Stp}{e:Int}(hc:Ch x.l 0 x.l.D xs e)(h:Heap)(lo:Nat) :
  (run lib).fn 15 [bI x] h lo=some (.tuple [.own 1 (ints (dS x.l xs)),.int .i64 0],h):=by
 have ev:=fun H lo=>A8 o H lo;rw[qh.mpr ok]at ev;have ec:=fun H lo=>JO o ok hc H lo
 have hne:ints (dS x.l xs)≠[]:=by
  intro h0;have h1:=AY ok hc;have h2:=hc.dl ok.D.1 (iK _);have h3:=ok.L;rw[<-fE,h0]at h1;simp at h1;omega
 have tk:=fun a c=>aiv (lo:=h.length) (ns:=1) (s:=0) (z:=1) (h:=h) (fr:=[(0,.dead)]) (b0:=(0,.dead)) (es:=ints (dS x.l xs)) (a:=a) (c:=c) (by omega) rfl hne
 have gv:=mq (s:=0) (z:=1) (h:=h) (b0:=(0,.dead)) (es:=ints (dS x.l xs)) (fr:=[aX (0,.dead) 1 (ints (dS x.l xs))]) rfl;rw[kF hne,lq hne,show eP 1 (ints (dS x.l xs))=.own 1 (ints (dS x.l xs))from if_neg hne]at gv
 simp only[List.set_cons_zero]at tk;unfold bI at ev ec⊢;rw[aY (x:=EF) rfl rfl rfl rfl];simp(maxSteps:=30000000)(disch:=omega)only[go_sem,EF,ev,ec,tk,gv]
end Go.VI.Dump
namespace Go.VI.Dump
open Go.VI.Num
/- BIGSTEPS -/
theorem aiy{h:Heap}{xs:List Stp}(hx:xs.length<=1000){k:Nat}(hk:k<xs.length)(hb:0<=xs[k].fr/\xs[k].to<=600):∀(d:Nat) (t:Int) (es:List Int),t+d=xs[k].to->0<=t->(es.length:Int)<=1000+t ->
  aA lib ⟨h.length,h.length,1,none⟩ (.loop LM) ([(4,dG 5 (dh xs)),(7,bq (h.length+0) (0,.dead) 1 (ints es)),(8,.int .i64 k),(9,.int .i64 t)],h++[aX (0,.dead) 1 (ints es)]) =
   some (.exit 2,([(4,dG 5 (dh xs)),(7,bq (h.length+0) (0,.dead) 1 (ints (es++List.replicate d xs[k].de))),(8,.int .i64 k)],h++[aX (0,.dead) 1 (ints (es++List.replicate d xs[k].de))])):=by
 have sl:=fun H=>mZ 5 (dh xs) H;have e3:bP 5 (dG 5 (dh xs)) (.int .i64 k)=some k:=by rw[dz (sl h) (by omega) (by simp;omega)];simp
 have e4:=fun off fr=>dx (off:=off) ((sl h).elems fr) (show k<(dh xs).length by simp;omega)
 simp only[Di,xU]at e4;generalize xs[k]=X at*;intro d
 induction d with
 |zero =>
  intro t es ht _ _;have c:¬ t<X.to:=by omega
  rw[List.replicate_zero,gP,aR]
  simp(maxSteps:=30000000)(disch:=omega)only[go_sem,e3,e4,c]
 |succ d ih =>
  intro t es ht h0 hl;have c:t<X.to:=by omega
  have e:=ih (t+1) (es++[X.de]) (by omega) (by omega) (by simp;omega)
  rw[eH,List.singleton_append,<-List.replicate_succ,xO]at e;have ap:=jk (lo:=h.length) (ns:=1) (s:=0) (z:=1) (lim:=17592186044416) (h:=h) (fr:=[aX (0,.dead) 1 (ints es)]) (b0:=(0,.dead)) (es:=ints es) (xs:=[.int .i64 X.de]) (by omega) (by omega) rfl (by simp;omega)
  rw[aR];simp(maxSteps:=30000000)(disch:=omega)only[go_sem,e3,e4,c,ap,e]
theorem aiz{h:Heap}{xs:List Stp}(hx:xs.length<=1000)(hb:∀ X∈xs,0<=X.fr/\X.fr<X.to/\X.to<=600)(hl:(dR xs).length<=1000):∀(d k:Nat),k+d=xs.length ->
  aA lib ⟨h.length,h.length,1,none⟩ (.loop LQ) ([(4,dG 5 (dh xs)),(7,bq (h.length+0) (0,.dead) 1 (ints (dR (xs.take k)))),(8,.int .i64 k)],h++[aX (0,.dead) 1 (ints (dR (xs.take k)))]) =
   some (.exit 0,([(7,bq (h.length+0) (0,.dead) 1 (ints (dR xs)))],h++[aX (0,.dead) 1 (ints (dR xs))])):=by
 have sl:=fun H=>mZ 5 (dh xs) H;have ll:=bK (sl h).len;rw[Pf]at ll;intro d
 induction d with
 |zero =>
  intro k hk;obtain rfl:k=xs.length:=by omega
  rw[kP,aR]
  simp(maxSteps:=30000000)(disch:=omega)only[go_sem,ll,dU]
 |succ d ih =>
  intro k hk;have hk':k<xs.length:=by omega
  have c:(k:Int)<xs.length:=by omega
  have e:=ih (k+1) (by omega)
  have e3:bP 5 (dG 5 (dh xs)) (.int .i64 k)=some k:=by rw[dz (sl h) (by omega) (by simp;omega)];simp
  have e4:=fun off fr=>dx (off:=off) ((sl h).elems fr) (show k<(dh xs).length by simp;omega)
  simp only[Di,xU]at e4;have hX:=hb xs[k] (ja _)
  have hpre:(dR (xs.take k)).length<=1000:=by
   have:(dR xs).length=(dR (xs.take k)).length+(dR (xs.drop k)).length:=by
    rw[<-dZ,dR,dR,dR,<-List.flatMap_append,zY]
   omega
  have ei:=aiy (h:=h) hx hk' ⟨hX.1,hX.2.2⟩ (xs[k].to-xs[k].fr).toNat xs[k].fr (dR (xs.take k)) (by omega) hX.1 (by omega)
  have hd:dR (xs.take (k+1))=dR (xs.take k)++List.replicate (xs[k].to-xs[k].fr).toNat xs[k].de:=by
   rw[qU hk',dR,List.flatMap_append];simp[dR]
  rw[hd,dF]at e;generalize dR (xs.take k)++List.replicate (xs[k].to-xs[k].fr).toNat xs[k].de=Q at*;generalize dR (xs.take k)=P at*;generalize xs[k]=X at*;rw[aR];simp(maxSteps:=30000000)(disch:=omega)only[go_sem,ll,c,e3,e4,ei,e]
theorem Pj{l:dI}{s d e:Int}{xs:List Stp}(hE:1<=l.E)(h:Ch l s d xs e):(xs.length:Int)<=l.L-s:=by
 induction h with
 |nil d=>simp
 |kR _ _ _ _ ih=>rw[List.length_cons];omega
 |kS _ _ _ _ ih=>rw[List.length_cons];omega
 |str _ _ _ _ _ _ _ ih=>rw[List.length_cons];omega
 |pl _ _ _ _ ih=>rw[List.length_cons];omega
theorem aiA{x:LV}(o:okV x)(ok:dD x.l){xs:List Stp}{e:Int}(hc:Ch x.l 0 x.l.D xs e)(h:Heap)(lo:Nat) :
  (run lib).fn 17 [bI x] h lo=some (.tuple [eP 1 (ints (dR xs)),.int .i64 0],h):=by
 have ev:=fun H lo=>A8 o H lo;rw[qh.mpr ok]at ev;have ec:=fun H lo=>JO o ok hc H lo;have hL:=ok.L;have hlen:=Pj ok.E.1 hc;have hdl:=hc.VN ok.E.1;have el:=aiz (h:=h) (xs:=xs) (by omega) (fun X hX=>by have:=hc.fr ok.E.1 X hX;omega) (by omega) xs.length 0 (by omega)
 simp only[fH,xC,show ints (dR [])=[]from rfl,oU,qO]at el
 have gv:=mq (s:=0) (z:=1) (h:=h) (b0:=(0,.dead)) (es:=ints (dR xs)) (fr:=[aX (0,.dead) 1 (ints (dR xs))]) rfl;unfold bI at ev ec⊢;rw[aY (x:=EH) rfl rfl rfl rfl];simp(maxSteps:=30000000)(disch:=omega)only[go_sem,EH,ev,ec,el,gv]
theorem aiB{x:LV}(o:okV x){h:Heap}{xs:List Stp}(hx:xs.length<=1000){k:Nat}(hk:k<x.l.C.length)(h4:x.l.C.length<=4){V7:AV}{B:Nat×av}(hf:∀ X∈xs,X.fr≠x.l.L):∀(d i:Nat),i+d=xs.length ->
  aA lib ⟨h.length,h.length,1,none⟩ (.loop LW) ([(1,jF x),(4,dG 5 (dh xs)),(7,V7),(8,.int .i64 k),(9,.int .i64 x.l.L),(10,.int .i64 i)],h++[B]) =
   some (.exit 2,([(1,jF x),(4,dG 5 (dh xs)),(7,V7),(8,.int .i64 k),(9,.int .i64 (sN x.l x.l.C[k].2 (xs.drop i)))],h++[B])):=by
 have sl:=fun H=>mZ 5 (dh xs) H;have ll:=bK (sl h).len;rw[Pf]at ll;have c1:bP 2 (cV x) (.int .i64 k)=some k:=by rw[dz (o.sc h) (by omega) (by simp;omega)];simp
 have c2:=fun off fr=>dx (off:=off) ((o.sc h).elems fr) (show k<(pts x.l.C).length by simp;omega)
 simp only[tC,pt]at c2;generalize x.l.C[k]=q at*;obtain⟨q1,q2⟩:=q;simp only at c2⊢;intro d
 induction d with
 |zero =>
  intro i hi;obtain rfl:i=xs.length:=by omega
  rw[kE,sN,aR]
  simp(maxSteps:=30000000)(disch:=omega)only[go_sem,ll,dU]
 |succ d ih =>
  intro i hi;have hi':i<xs.length:=by omega
  have c:(i:Int)<xs.length:=by omega
  have e:=ih (i+1) (by omega)
  rw[dF]at e;have e3:bP 5 (dG 5 (dh xs)) (.int .i64 i)=some i:=by rw[dz (sl h) (by omega) (by simp;omega)];simp
  have e4:=fun off fr=>dx (off:=off) ((sl h).elems fr) (show i<(dh xs).length by simp;omega)
  simp only[Di,xU]at e4;have hfX:=hf xs[i] (ja _);rw[gY hi',sN];generalize xs[i]=X at*;rw[aR];by_cases g1:q2<=X.fr
  ·by_cases g2:X.de=x.l.D
   ·rw[if_pos ⟨g1,g2⟩];have g2':(X.de=x.l.D)=True:=eq_true g2;by_cases g3:(i:Int)+1<xs.length
    ·simp(maxSteps:=30000000)(disch:=omega)only[go_sem,ll,c,e3,e4,c1,c2,g1,g2',g3,hfX,aR]
    ·simp(maxSteps:=30000000)(disch:=omega)only[go_sem,ll,c,e3,e4,c1,c2,g1,g2',g3,aR]
   ·rw[if_neg fun hh=>g2 hh.2];simp(maxSteps:=30000000)(disch:=omega)only[go_sem,ll,c,e3,e4,c1,c2,g1,g2,e]
  ·rw[if_neg fun hh=>g1 hh.1];simp(maxSteps:=30000000)(disch:=omega)only[go_sem,ll,c,e3,e4,c1,c2,g1,e]
theorem aiC{x:LV}(o:okV x){h:Heap}{xs:List Stp}(hx:xs.length<=1000)(h4:x.l.C.length<=4)(hf:∀ X∈xs,X.fr≠x.l.L):∀(d k:Nat),k+d=x.l.C.length ->
  aA lib ⟨h.length,h.length,1,none⟩ (.loop LX) ([(1,jF x),(4,dG 5 (dh xs)),(7,bq (h.length+0) (0,.dead) 1 (ints ((x.l.C.take k).map fun c=>sN x.l c.2 xs))),(8,.int .i64 k)],h++[aX (0,.dead) 1 (ints ((x.l.C.take k).map fun c=>sN x.l c.2 xs))]) =
   some (.exit 0,([(7,bq (h.length+0) (0,.dead) 1 (ints (jK x.l xs)))],h++[aX (0,.dead) 1 (ints (jK x.l xs))])):=by
 have lc:=bK (o.sc h).len;rw[jq]at lc;intro d
 induction d with
 |zero =>
  intro k hk;obtain rfl:k=x.l.C.length:=by omega
  rw[kP,aR];unfold jK
  simp(maxSteps:=30000000)(disch:=omega)only[go_sem,lc,dU]
 |succ d ih =>
  intro k hk;have hk':k<x.l.C.length:=by omega
  have c:(k:Int)<x.l.C.length:=by omega
  have e:=ih (k+1) (by omega)
  have ei:=fun V7 B=>aiB o (h:=h) (V7:=V7) (B:=B) hx hk' h4 hf xs.length 0 (by omega)
  simp only[List.drop_zero,fH]at ei;rw[qU hk',List.map_append,List.map_cons,List.map_nil,xO,dF]at e;have hpl:((x.l.C.take k).map fun c=>sN x.l c.2 xs).length<=4:=by rw[uq,jA];omega
  generalize sN x.l x.l.C[k].2 xs=q at*;generalize (x.l.C.take k).map (fun c=>sN x.l c.2 xs)=P at*;have ap:=jk (lo:=h.length) (ns:=1) (s:=0) (z:=1) (lim:=17592186044416) (h:=h) (fr:=[aX (0,.dead) 1 (ints P)]) (b0:=(0,.dead)) (es:=ints P) (xs:=[.int .i64 q]) (by omega) (by omega) rfl (by simp;omega)
  rw[aR];simp(maxSteps:=30000000)(disch:=omega)only[go_sem,lc,c,ei,ap,e]
theorem aiD{x:LV}(o:okV x)(ok:dD x.l){xs:List Stp}{e:Int}(hc:Ch x.l 0 x.l.D xs e)(h:Heap)(lo:Nat) :
  (run lib).fn 19 [bI x] h lo=some (.tuple [eP 1 (ints (jK x.l xs)),.int .i64 0],h):=by
 have ev:=fun H lo=>A8 o H lo;rw[qh.mpr ok]at ev;have ec:=fun H lo=>JO o ok hc H lo;have hL:=ok.L;have hlen:=Pj ok.E.1 hc;have el:=aiC o (h:=h) (xs:=xs) (by omega) ok.c4 (fun X hX=>by have:=hc.fr ok.E.1 X hX;omega) x.l.C.length 0 (by omega)
 simp only[fH,xC,List.map_nil,show ints []=[]from rfl,oU,qO]at el
 have gv:=mq (s:=0) (z:=1) (h:=h) (b0:=(0,.dead)) (es:=ints (jK x.l xs)) (fr:=[aX (0,.dead) 1 (ints (jK x.l xs))]) rfl;unfold bI at ev ec⊢;rw[aY (x:=EI) rfl rfl rfl rfl];simp(maxSteps:=30000000)(disch:=omega)only[go_sem,EI,ev,ec,el,gv]
end Go.VI.Dump
namespace Go.VI.Dump
open Go.VI.Num
/- BIGSTEPS -/
theorem aiE{z:Int}(hz:z.natAbs<100000)(h:Heap)(lo:Nat):(run lib).fn 80 [.int .i64 z,.int .i64 1] h lo=some (.tuple [.agg [.str (aO z),.str [49]],.int .i64 0],h):=by
 have:=agD (n:=z) (d:=1) (JH hz) (JH (by decide)) (by omega) (by decide) h lo
 rw[Yc]at this;exact this
theorem JP{z:Int}(hz:z.natAbs<100000)(h:Heap)(lo:Nat):(run lib).fn 59 [.int .i64 z] h lo=some (.agg [.str (aO z),.str [49]],h):=by
 have e1:=fun H lo=>aiE hz H lo;rw[aY (x:=MJ) rfl rfl rfl rfl];simp(maxSteps:=30000000)(disch:=omega)only[go_sem,MJ,e1]
theorem tH(z:Nat)(es:List AV):zV (some (aX (0,.dead) z es))=true:=by unfold aX;split<;>rfl
def wI(K:List Pr)(B:Nat×av)(h:Heap):Heap:=h++[(0,.dead),aX (0,.dead) 4 (bZ K),B,(1,.box [bq (h.length+1) (0,.dead) 4 (bZ K)]),(1,.box [.aD])]
structure YC(r:Pr)(xs:List Stp)(n:Nat):Prop where
 r0:0<=r.1
 bd:∀ X∈xs,0<=X.fr/\X.fr<=1000/\0<=X.to/\X.to<=1000/\0<=X.be/\X.be<=1000/\0<=X.af/\X.af<=1000
 nx:∀ i (h:i+1<xs.length),xs[i].af=xs[i+1].be
 la:∀ i (h:i<xs.length),i+1=xs.length->xs[i].af=n
 z0:∀ h:0<xs.length,xs[0].fr=0
 fi:∀ i (h:i<xs.length),r.1<xs[i].fr->∃ j,∃ hj:j<xs.length,j<i/\xs[j].fr=r.1
 len:xs.length<=1000
set_option maxHeartbeats 4000000 in
theorem aiF{h:Heap}{xs:List Stp}{A:List Int}(hA:A.length<=1000){R:List Pr}{k:Nat}(hk:k<R.length)(hR:R.length<=1000)(hr:(R[k]).1<(R[k]).2)(m:YC R[k] xs A.length):∀(d i:Nat) (f:Bool) (K:List Pr) (B:Nat×av),i+d=xs.length->K.length<=2*i ->
  (∀(h0:0<i) (h1:i-1<xs.length),f=xs[i-1].str)->((∃ j,∃ hj:j<xs.length,j<i/\xs[j].fr=(R[k]).1)->K≠[]) ->
  ∃ B',aA lib ⟨h.length,h.length,5,none⟩ (.loop Ma) ([(1,.int .i64 k),(4,.aJ (h.length+4) 1 0),(6,dG 2 (pts R)),(8,dG 5 (dh xs)),(9,dG 1 (ints A)),(11,.aJ (h.length+3) 1 0),(12,.int .i64 i)],wI K B h) =
   some (.exit 0,([(4,.aJ (h.length+4) 1 0),(11,.aJ (h.length+3) 1 0)],wI ((xs.drop i).foldl (uQ R[k]) (f,K)).2 B' h)):=by
 have sl:=fun H=>mZ 5 (dh xs) H;have ll:=bK (sl h).len;rw[Pf]at ll;have la:=bK (mZ 1 (ints A) h).len;rw[fE]at la;have sr:=fun H=>mZ 2 (pts R) H;have r1:bP 2 (dG 2 (pts R)) (.int .i64 k)=some k:=by rw[dz (sr h) (by omega) (by simp;omega)];simp
 have r2:=fun off fr=>dx (off:=off) ((sr h).elems fr) (show k<(pts R).length by simp;omega)
 simp only[tC,pt]at r2;generalize R[k]=r at*;obtain⟨ra,rb⟩:=r;simp only at r2 hr;intro d
 induction d with
 |zero =>
  intro i f K B hi _ _ _;obtain rfl:i=xs.length:=by omega
  refine⟨B, ?_⟩;rw[kE,nN,aR];unfold wI
  simp(maxSteps:=30000000)(disch:=omega)only[go_sem,ll,dU]
 |succ d ih =>
  intro i f K B hi hKl hf hK;obtain⟨v0,b0⟩:=B;have hi':i<xs.length:=by omega
  have c:(i:Int)<xs.length:=by omega
  have hlen:=m.len;have e3:bP 5 (dG 5 (dh xs)) (.int .i64 i)=some i:=by rw[dz (sl h) (by omega) (by simp;omega)];simp
  have e4:=fun off fr=>dx (off:=off) ((sl h).elems fr) (show i<(dh xs).length by simp;omega)
  have hi1:i-1<xs.length:=by omega
  have e5:bP 5 (dG 5 (dh xs)) (.int .i64 (max ((i:Int)-1) 0))=some (i-1):=by
   rw[show max ((i:Int)-1) 0=((i-1:Nat):Int) by omega,dz (sl h) (by omega) (by simp;omega)];simp
  have e6:=fun off fr=>dx (off:=off) ((sl h).elems fr) (show i-1<(dh xs).length by simp;omega)
  simp only[Di,xU]at e4 e6;rw[gY hi',List.foldl_cons];have hbd:=m.bd xs[i] (ja _);have hz0:i=0->xs[i].fr=0:=fun hh=>by subst hh;exact m.z0 hi'
  have hfi:=m.fi i hi';have hnx:∀ hh:i+1<xs.length,xs[i].af=xs[i+1].be:=fun hh=>m.nx i hh;have hla:=m.la i hi';have hf':0<i->f=xs[i-1].str:=fun hh=>hf hh hi1;have e:=fun K' B' (hk1:K'.length<=2*(i+1)) (hk2:(∃ j,∃ hj:j<xs.length,j<i+1/\xs[j].fr=ra)->K'≠[])=>ih (i+1) xs[i].str K' B' (by omega) hk1 (fun _ _=>rfl) hk2
  have hpast:xs[i].fr≠ra->(∃ j,∃ hj:j<xs.length,j<i+1/\xs[j].fr=ra)->K≠[]:=fun hne ⟨j,hj,h1,h2⟩=>hK ⟨j,hj,by
   rcases gJ j i with h3|h3
   ·exact h3
   ·have h4:j=i:=by omega
    subst h4;exact absurd h2 hne,h2⟩
  simp only[dF]at e;clear ih;have hm:uQ (ra,rb) (f,K) xs[i]=(xs[i].str,(jX (ra,rb) (f,K) xs[i]).2):=rfl;rw[hm];generalize xs[i]=X at*;simp only[jX];have w1:=fun H lo=>JP (z:=X.fr) (by omega) H lo
  have w2:=fun H lo=>JP (z:=X.be) (by omega) H lo
  have w3:=fun H lo=>JP (z:=X.to) (by omega) H lo
  have w4:=fun H lo=>JP (z:=X.af) (by omega) H lo
  by_cases c1:X.fr<ra
  ·obtain⟨B',e⟩:=e K (v0+1,.box [.int .i64 X.fr,.int .i64 X.to,.int .i64 X.be,.int .i64 X.de,.bool X.str]) (by omega) (hpast (by omega))
   refine⟨B', ?_⟩;rw[if_pos (.inl c1),aR];unfold wI at e⊢;simp(maxSteps:=30000000)(disch:=omega)only[go_sem,ll,c,e3,e4,r1,r2,c1,e]
  ·by_cases c2:rb<=X.fr
   ·obtain⟨B',e⟩:=e K (v0+1,.box [.int .i64 X.fr,.int .i64 X.to,.int .i64 X.be,.int .i64 X.de,.bool X.str]) (by omega) (hpast (by omega))
    refine⟨B', ?_⟩;rw[if_pos (.inr c2),aR];unfold wI at e⊢;simp(maxSteps:=30000000)(disch:=omega)only[go_sem,ll,c,e3,e4,r1,r2,c1,c2,e]
   ·rw[if_neg (by omega)]
    have a1:=jk (lo:=h.length) (ns:=5) (s:=1) (z:=4) (lim:=2199023255552) (h:=h) (fr:=[(0,.dead),aX (0,.dead) 4 (bZ K),(v0+1,.box [.int .i64 X.fr,.int .i64 X.to,.int .i64 X.be,.int .i64 X.de,.bool X.str]),(1,.box [bq (h.length+1) (0,.dead) 4 (bZ K)]),(1,.box [.aD])]) (b0:=(0,.dead)) (es:=bZ K) (xs:=[.agg [.str (aO X.fr),.str [49],.str (aO X.be),.str [49]]]) (by omega) (by omega) rfl (by rw[AQ];simp;omega)
    have a2:=fun K' (hne:K'≠[]) (hl:K'.length<=5000)=>X6 (cx:=⟨h.length,h.length,5,none⟩) (s:=0) (t:=1) (z:=4) (lim:=2199023255552) (h:=h) (fr:=[(0,.dead),aX (0,.dead) 4 (bZ K'),(v0+1,.box [.int .i64 X.fr,.int .i64 X.to,.int .i64 X.be,.int .i64 X.de,.bool X.str]),(1,.box [bq (h.length+1) (0,.dead) 4 (bZ K')]),(1,.box [.aD])]) (b0:=(0,.dead)) (es:=bZ K') (xs:=[.agg [.str (aO X.to),.str [49],.str (aO X.af),.str [49]]]) (fun hh=>hne (Yb.mp hh)) (by simp only[];omega) rfl (by rw[AQ];simp;omega)
    have hadd:X.fr=ra\/¬ X.str=f->((X.fr=ra)=True)\/((X.fr=ra)=False/\¬ X.str=f/\0<i):=fun hh=>by
     by_cases c3:X.fr=ra
     ·exact .inl (eq_true c3)
     ·refine .inr ⟨eq_false c3,hh.resolve_left c3, ?_⟩;rcases oN i with h9|h9
      ·have:=hz0 h9;have:=m.r0;simp only at this;omega
      ·exact h9
    by_cases c3:X.fr=ra\/X.str≠f
    ·rw[if_pos c3];by_cases c4:X.to=rb
     ·rw[if_pos c4];obtain⟨B',e⟩:=e (K++[(X.fr,X.be)]++[(X.to,X.af)]) (v0+1,.box [.int .i64 X.fr,.int .i64 X.to,.int .i64 X.be,.int .i64 X.de,.bool X.str]) (by simp;omega) (fun _=>by simp)
      have tL:=a2 (K++[(X.fr,X.be)]) (by simp) (by simp;omega)
      refine⟨B', ?_⟩;have rE:(X.to=rb)=True:=eq_true c4;unfold wI at e⊢;rw[tJ,tJ]at e;rw[tJ]at tL;rw[aR];by_cases c5:(i:Int)+1<xs.length
      ·have e7:bP 5 (dG 5 (dh xs)) (.int .i64 ((i:Int)+1))=some (i+1):=by rw[show (i:Int)+1=((i+1:Nat):Int) by omega,dz (sl h) (by omega) (by simp;omega)];simp
       have e8:=fun off fr=>dx (off:=off) ((sl h).elems fr) (show i+1<(dh xs).length by simp;omega)
       simp only[Di,xU]at e8;have hq:=hnx (by omega)
       rw[hq]at w4 tL e⊢;rcases hadd c3 with c3'|⟨c3',c6,c7⟩
       ·simp(maxSteps:=30000000)(disch:=omega)only[go_sem,ll,la,c,e3,e4,r1,r2,c1,c2,c3',rE,c5,e7,e8,w1,w2,w3,w4,a1,tL,mr,qP,tH,e]
       ·have rG:(f==X.str)=false:=by cases f<;>cases hs:X.str<;>simp_all
        rw[hf' c7]at rG;simp(maxSteps:=30000000)(disch:=omega)only[go_sem,ll,la,c,e3,e4,e5,e6,r1,r2,c1,c2,c3',rG,rE,c5,e7,e8,w1,w2,w3,w4,a1,tL,mr,qP,tH,e]
      ·have hq:=hla (by omega)
       rw[hq]at w4 tL e⊢;rcases hadd c3 with c3'|⟨c3',c6,c7⟩
       ·simp(maxSteps:=30000000)(disch:=omega)only[go_sem,ll,la,c,e3,e4,r1,r2,c1,c2,c3',rE,c5,w1,w2,w3,w4,a1,tL,mr,qP,tH,e]
       ·have rG:(f==X.str)=false:=by cases f<;>cases hs:X.str<;>simp_all
        rw[hf' c7]at rG;simp(maxSteps:=30000000)(disch:=omega)only[go_sem,ll,la,c,e3,e4,e5,e6,r1,r2,c1,c2,c3',rG,rE,c5,w1,w2,w3,w4,a1,tL,mr,qP,tH,e]
     ·rw[if_neg c4,gP];obtain⟨B',e⟩:=e (K++[(X.fr,X.be)]) (v0+1,.box [.int .i64 X.fr,.int .i64 X.to,.int .i64 X.be,.int .i64 X.de,.bool X.str]) (by simp;omega) (fun _=>by simp)
      refine⟨B', ?_⟩;unfold wI at e⊢;rw[tJ]at e;rw[aR];rcases hadd c3 with c3'|⟨c3',c6,c7⟩
      ·simp(maxSteps:=30000000)(disch:=omega)only[go_sem,ll,c,e3,e4,r1,r2,c1,c2,c3',c4,w1,w2,a1,mr,qP,tH,e]
      ·have rG:(f==X.str)=false:=by cases f<;>cases hs:X.str<;>simp_all
       rw[hf' c7]at rG;simp(maxSteps:=30000000)(disch:=omega)only[go_sem,ll,c,e3,e4,e5,e6,r1,r2,c1,c2,c3',rG,c4,w1,w2,a1,mr,qP,tH,e]
    ·rw[if_neg c3,gP];have Pk:(X.fr=ra)=False:=eq_false fun hh=>c3 (.inl hh);have c3b:X.str=f:=Classical.byContradiction fun hh=>c3 (.inr hh)
     have h9:0<i:=by
      rcases oN i with h9|h9
      ·have:=hz0 h9;have:=m.r0;simp only at this;have:¬ X.fr=ra:=fun hh=>c3 (.inl hh);omega
      ·exact h9
     have rG:(f==X.str)=true:=by rw[c3b];simp
     rw[hf' h9]at rG
     have hne:K≠[]:=hK (by
      obtain⟨j,hj,h1,h2⟩:=hfi (by have:¬ X.fr=ra:=fun hh=>c3 (.inl hh);omega)
      exact⟨j,hj,h1,h2⟩)
     by_cases c4:X.to=rb
     ·rw[if_pos c4];obtain⟨B',e⟩:=e (K++[(X.to,X.af)]) (v0+1,.box [.int .i64 X.fr,.int .i64 X.to,.int .i64 X.be,.int .i64 X.de,.bool X.str]) (by simp;omega) (fun _=>by simp)
      have tL:=a2 K hne (by omega)
      refine⟨B', ?_⟩;have rE:(X.to=rb)=True:=eq_true c4;unfold wI at e⊢;rw[tJ]at e;rw[aR];by_cases c5:(i:Int)+1<xs.length
      ·have e7:bP 5 (dG 5 (dh xs)) (.int .i64 ((i:Int)+1))=some (i+1):=by rw[show (i:Int)+1=((i+1:Nat):Int) by omega,dz (sl h) (by omega) (by simp;omega)];simp
       have e8:=fun off fr=>dx (off:=off) ((sl h).elems fr) (show i+1<(dh xs).length by simp;omega)
       simp only[Di,xU]at e8;have hq:=hnx (by omega)
       rw[hq]at w4 tL e⊢;simp(maxSteps:=30000000)(disch:=omega)only[go_sem,ll,la,c,e3,e4,e5,e6,r1,r2,c1,c2,Pk,rG,rE,c5,e7,e8,w3,w4,tL,mr,qP,e]
      ·have hq:=hla (by omega)
       rw[hq]at w4 tL e⊢;simp(maxSteps:=30000000)(disch:=omega)only[go_sem,ll,la,c,e3,e4,e5,e6,r1,r2,c1,c2,Pk,rG,rE,c5,w3,w4,tL,mr,qP,e]
     ·rw[if_neg c4,gP];obtain⟨B',e⟩:=e K (v0+1,.box [.int .i64 X.fr,.int .i64 X.to,.int .i64 X.be,.int .i64 X.de,.bool X.str]) (by omega) (fun _=>hne)
      refine⟨B', ?_⟩;unfold wI at e⊢;rw[aR];simp(maxSteps:=30000000)(disch:=omega)only[go_sem,ll,c,e3,e4,e5,e6,r1,r2,c1,c2,Pk,rG,c4,e]
end Go.VI.Dump
namespace Go.VI.Dump
open Go.VI.Num
/- BIGSTEPS -/
section
variable {l:dI}
theorem aiH(ok:dD l){s d e:Int}{xs:List Stp}(h:Ch l s d xs e):0<=s->0<=d->d<=l.D->∀ X∈xs,0<=X.fr/\X.fr<=1000/\0<=X.to/\X.to<=1000/\0<=X.be/\X.be<=1000/\0<=X.af/\X.af<=1000:=by
 have hL:=ok.L;have hD:=ok.D;have hE:=ok.E
 induction h with
 |nil d=>intro _ _ _ X hX;simp at hX
 |kR _ _ _ _ ih =>
  intro h0 h1 h2 X hX;rcases gq.mp hX with rfl|hX
  ·simp only[];omega
  ·exact ih (by omega) (by omega) (by omega) X hX
 |kS _ _ _ _ ih =>
  intro h0 h1 h2 X hX;rcases gq.mp hX with rfl|hX
  ·simp only[];omega
  ·exact ih (by omega) (by omega) (by omega) X hX
 |str _ _ _ _ _ _ _ ih =>
  intro h0 h1 h2 X hX;rcases gq.mp hX with rfl|hX
  ·simp only[];omega
  ·exact ih (by omega) (by omega) (by omega) X hX
 |pl _ _ _ _ ih =>
  intro h0 h1 h2 X hX;rcases gq.mp hX with rfl|hX
  ·simp only[];omega
  ·exact ih (by omega) (by omega) (by omega) X hX
theorem YD(hE:1<=l.E):∀(xs:List Stp) {s d e:Int},Ch l s d xs e->(∀ i (h:i+1<xs.length),xs[i].af=xs[i+1].be)/\(∀ i (h:i<xs.length),i+1=xs.length->xs[i].af=l.L+e)
 |[],s,d,e,_=>⟨fun i h=>by simp at h,fun i h=>by simp at h⟩
 |x::xs,s,d,e,h=>by
  obtain⟨t1,t2,t3,t4,_,d',t5,t6⟩:=h.tail hE;obtain⟨i1,i2⟩:=YD hE xs t5;constructor
  ·intro i hi
   cases i with
   |zero =>
    cases xs with
    |nil=>simp at hi
    |cons y ys =>
     obtain⟨u1,u2,_⟩:=t5.tail hE;simp only[List.getElem_cons_zero,List.getElem_cons_succ]
     omega
   |succ i =>
    simp only[List.getElem_cons_succ];exact i1 i (by simp at hi;omega)
  ·intro i hi he
   cases i with
   |zero =>
    have:xs=[]:=by simp at he;exact he
    subst this;have t7:=t5.le hE;simp only[List.getElem_cons_zero];generalize hs:x.to=z at*
    cases t5 with
    |nil=>omega
   |succ i =>
    simp only[List.getElem_cons_succ];exact i2 i (by simp at hi;omega) (by simp at he;omega)
theorem aiI(ok:dD l){r:Pr}(hr:Run l r){xs:List Stp}{e:Int}(h:Ch l 0 l.D xs e):YC r xs (dS l xs).length:=by
 obtain⟨n1,n2⟩:=YD ok.E.1 xs h;have hlen:=AY ok h;refine⟨hr.lo,aiH ok h (by omega) ok.D.1 (iK _),n1,fun i hi he=>by rw[n2 i hi he];omega,fun h0=>?_,fun i hi hlt=>?_,by have:=Pj ok.E.1 h;have:=ok.L;omega⟩
 ·cases xs with
  |nil=>simp at h0
  |cons x xs =>
   obtain⟨t1,_⟩:=h.tail ok.E.1;simpa using t1
 ·obtain⟨pre,ys,d,hxs,k1,_,k3,_⟩:=I9 ok hr h
  have hp:∀ j (hj:j<pre.length),xs[j]'(by rw[hxs,dZ];omega)=pre[j]:=fun j hj=>by
   simp only[hxs];rw[List.getElem_append_left hj]
  have hge:pre.length<=i:=by
   rcases gJ i pre.length with h1|h1
   ·have:=k3 pre[i] (ja _);rw[hp i h1]at hlt;omega
   ·exact h1
  have hpl:pre.length<xs.length:=by omega
  cases ys with
  |nil=>rw[gP]at hxs;rw[hxs]at hpl;omega
  |cons y ys =>
   obtain⟨t1,_⟩:=k1.tail ok.E.1;have hy:xs[pre.length]=y:=by simp only[hxs];rw[List.getElem_append_right (aV _)];simp
   refine⟨pre.length,hpl, ?_,by rw[hy];exact t1⟩
   rcases gJ pre.length i with h1|h1
   ·exact h1
   ·have:i=pre.length:=by omega
    subst this;rw[hy]at hlt;omega
theorem aiJ(ok:dD l){r:Pr}(hr:Run l r){xs:List Stp}{e:Int}(h:Ch l 0 l.D xs e):(xs.foldl (uQ r) (false,[])).2=jJ r xs:=by
 obtain⟨pre,ys,d,hxs,k1,_,k3,_⟩:=I9 ok hr h;obtain⟨m1,m2⟩:=VZ ok.E.1 hr.lt (pre:=pre) k1 (fun x hx=>(k3 x hx).1) false;unfold jJ;rw[hxs,m1,m2]
end
theorem aiK{x:LV}(o:okV x)(hv:¬ dD x.l)(k:Int)(h:Heap)(lo:Nat):(run lib).fn 27 [bI x,.int .i64 k] h lo=some (.tuple [.agg [.aN 0 []],.int .i64 200],h):=by
 have e:=fun H lo=>Yx o hv H lo;unfold bI at e⊢;rw[aY (x:=x27) rfl rfl rfl rfl];simp(maxSteps:=30000000)(disch:=omega)only[go_sem,x27,e]
theorem aiL{x:LV}(o:okV x)(ok:dD x.l){k:Int}(hk:k<0\/(gG x.l).length<=k)(h:Heap)(lo:Nat):(run lib).fn 27 [bI x,.int .i64 k] h lo=some (.tuple [.agg [.aN 0 []],.int .i64 200],h):=by
 have e:=fun H lo=>Pb o ok H lo;have ll:=bK (mZ 2 (pts (gG x.l)) h).len;rw[jq]at ll;unfold bI at e⊢;rw[aY (x:=x27) rfl rfl rfl rfl];by_cases c:k<0
 ·simp(maxSteps:=30000000)(disch:=omega)only[go_sem,x27,e,c]
 ·have c2:((gG x.l).length:Int)<=k:=by omega
  simp(maxSteps:=30000000)(disch:=omega)only[go_sem,x27,e,ll,c,c2]
set_option maxHeartbeats 1000000 in
theorem aiM{x:LV}(o:okV x)(ok:dD x.l){xs:List Stp}{e:Int}(hc:Ch x.l 0 x.l.D xs e){k:Nat}(hk:k<(gG x.l).length)(h:Heap)(lo:Nat) :
  (run lib).fn 27 [bI x,.int .i64 k] h lo=some (.tuple [.agg [.aN 4 (bZ (jJ (gG x.l)[k] xs))],.int .i64 0],h):=by
 have er:=fun H lo=>Pb o ok H lo;have ec:=fun H lo=>JO o ok hc H lo;have hrn:=NZ ok (ja hk);obtain⟨a,K,y1,m⟩:=map_ok ok hrn hc;have hq:bZ (jJ (gG x.l)[k] xs)=jL ((a::K).map qk):=by rw[m.eq];rfl
 have hne:bZ (jJ (gG x.l)[k] xs)≠[]:=by rw[hq];simp[jL]
 have ll:=bK (mZ 2 (pts (gG x.l)) h).len;rw[jq]at ll;have hlen:=AY ok hc;have hdl:=hc.dl ok.D.1 (iK _);have hL:=ok.L;have hD:=ok.D;have hrl:=NY (L:=x.l.L) x.l.C 0;have c4:=ok.c4;have hRl:(gG x.l).length<=5:=by unfold gG;omega
 obtain⟨B',el⟩:=aiF (h:=h) (xs:=xs) (A:=dS x.l xs) (by omega) hk (by omega) hrn.lt (aiI ok hrn hc) xs.length 0 false [] (0,.dead) (by omega) (by simp) (fun h0=>absurd h0 (by omega)) (fun⟨j,_,h1,_⟩=>absurd h1 (by omega))
 rw[List.drop_zero,aiJ ok hrn hc]at el;have k1:¬ (k:Int)<0:=by omega
 have k2:¬ ((gG x.l).length:Int)<=(k:Int):=by omega
 generalize jJ (gG x.l)[k] xs=M at*;unfold wI at el;simp only[fH,show bZ []=[]from rfl,oU,qO]at el
 have fz:=fun kk m=>Ia (h:=h) (s:=1) (z:=4) (k:=kk) (b0:=(0,.dead)) (es:=bZ M) (fr:=[(0,.dead),aX (0,.dead) 4 (bZ M),B',(1,.box [bq (h.length+1) (0,.dead) 4 (bZ M)]),m]) rfl;rw[show dG 4 (bZ M)=.aN 4 (bZ M)from if_neg hne]at fz
 unfold bI at er ec⊢;rw[aY (x:=x27) rfl rfl rfl rfl];simp(maxSteps:=30000000)(disch:=omega)only[go_sem,x27,er,ec,ll,k1,k2,el,fz]
theorem aiN(a b c d:List UInt8):tY true [.s,.s,.s,.s] (.agg [.str a,.str b,.str c,.str d]) (.agg [.str a,.str b,.str c,.str d])=some (.bool false):=by
 rw[Ll (by simp) rfl rfl];simp[iU,zy]
theorem aiO{h:Heap}{K:List Pr}(hl:K.length<=100000):∀(d k:Nat),k+d=K.length ->
  aA lib ⟨h.length,h.length,0,none⟩ (.loop Mc) ([(2,.bD [.aN 4 (bZ K)]),(3,.bD [.aN 4 (bZ K)]),(5,.int .i64 k)],h)=some (.exit 0,([],h)):=by
 have sl:=fun H=>vL (h:=H) (z:=4) (z':=4) (es:=bZ K) (.inl rfl);have ll:=bK (sl h).len;rw[AQ]at ll;intro d
 induction d with
 |zero =>
  intro k hk;obtain rfl:k=K.length:=by omega
  rw[aR]
  simp(maxSteps:=30000000)(disch:=omega)only[go_sem,ll,dU]
 |succ d ih =>
  intro k hk;have c:(k:Int)<K.length:=by omega
  have e:=ih (k+1) (by omega)
  rw[dF]at e;have e3:bP 4 (.aN 4 (bZ K)) (.int .i64 k)=some k:=by rw[dz (sl h) (by omega) (by rw[AQ];omega)];simp
  have hk':k<(bZ K).length:=by rw[AQ];omega
  have e4:=fun off=>dx (off:=off) (sl h).eO hk';have hg:(bZ K)[k]=gH (qk (K[k]'(by omega))):=by simp[bZ,jL]
  simp only[hg,gH]at e4;have eq:=aiN;rw[aR];simp(maxSteps:=30000000)(disch:=omega)only[go_sem,ll,c,e3,e4,eq,e]
theorem aiP{K:List Pr}(hl:K.length<=100000)(h:Heap)(lo:Nat):(run lib).fn 28 [.agg [.aN 4 (bZ K)],.agg [.aN 4 (bZ K)]] h lo=some (.bool true,h):=by
 have e:=aiO (h:=h) hl K.length 0 (by omega)
 have ll:=bK (vL (h:=h) (z:=4) (z':=4) (es:=bZ K) (.inl rfl)).len;rw[AQ]at ll;simp only[fH]at e;rw[aY (x:=x28) rfl rfl rfl rfl];simp(maxSteps:=30000000)(disch:=omega)only[go_sem,x28,ll,e]
end Go.VI.Dump
namespace Go.VI.Dump
open Go.VI.Num
/- BIGSTEPS -/
set_option maxHeartbeats 1000000 in
theorem aiQ{h:Heap}{v:AV}{l:List Sn}(hv:Sl h 3 v (aG l))(hl:l.length<=200):∀(d k:Nat) (a w:Int),k+d=l.length->(∀(h0:0<k) (h1:k-1<l.length),l[k-1].2.2=w)->(k=0->w=-1) ->
  aA lib ⟨h.length,h.length,0,none⟩ (.loop MN) ([(0,v),(3,.int .i64 a),(4,.int .i64 k)],h) =
   if nO a w (l.drop k)=true then some (.exit 0,([],h))else some (.ret,([(2,.bool false)],h)):=by
 have ll:=bK hv.len;rw[gI]at ll;intro d
 induction d with
 |zero =>
  intro k a w hk _ _;obtain rfl:k=l.length:=by omega
  rw[kE,aR]
  simp(maxSteps:=30000000)(disch:=omega)only[go_sem,ll,dU,nO]
 |succ d ih =>
  intro k a w hk hp hz;have hk':k<l.length:=by omega
  have h1:(k:Int)<l.length:=by omega
  have e3:bP 3 v (.int .i64 k)=some k:=by rw[dz hv (by omega) (by simp;omega)];simp
  have e4:=fun off=>dx (off:=off) hv.eO (show k<(aG l).length by simp;omega)
  have hk1:k-1<l.length:=by omega
  have e5:0<k->bP 3 v (.int .i64 ((k:Int)-1))=some (k-1):=fun h0=>by
   rw[show (k:Int)-1=((k-1:Nat):Int) by omega,dz hv (by omega) (by simp;omega)];simp
  have e6:=fun off=>dx (off:=off) hv.eO (show k-1<(aG l).length by simp;omega)
  simp only[o9,sn]at e4 e6;have e:=ih (k+1) l[k].2.1 l[k].2.2 (by omega) (fun _ _=>rfl) (fun hh=>by omega)
  rw[dF]at e;have hq:0<k->l[k-1].2.2=w:=fun h0=>hp h0 hk1;rw[gY hk'];clear ih hp;generalize l[k]=q at*;generalize l[k-1]=r at*;obtain⟨q1,q2,q3⟩:=q;obtain⟨r1,r2,r3⟩:=r;simp only at e e4 e6 hq;obtain⟨bb,hbb⟩:∃ bb,bb=nO a w ((q1,q2,q3)::l.drop (k+1)):=⟨_,rfl⟩;rw[<-hbb];simp only[nO]at hbb;rw[aR];by_cases c1:q1=a
  ·have c1':(q1=a)=True:=eq_true c1;by_cases c2:q2<=a
   ·have:bb=false:=by rw[hbb,decide_eq_false (show ¬ a<q2 by omega)];simp
    subst this;simp(maxSteps:=30000000)(disch:=omega)only[go_sem,ll,h1,e3,e4,c1',c2]
   ·by_cases c3:10000000<q2
    ·have:bb=false:=by rw[hbb,decide_eq_false (show ¬ q2<=10000000 by omega)];simp
     subst this;simp(maxSteps:=30000000)(disch:=omega)only[go_sem,ll,h1,e3,e4,c1',c2,c3]
    ·by_cases c4:q3<0
     ·have:bb=false:=by rw[hbb,decide_eq_false (show ¬ 0<=q3 by omega)];simp
      subst this;simp(maxSteps:=30000000)(disch:=omega)only[go_sem,ll,h1,e3,e4,c1',c2,c3,c4]
     ·by_cases c5:2999<q3
      ·have:bb=false:=by rw[hbb,decide_eq_false (show ¬ q3<=2999 by omega)];simp
       subst this;simp(maxSteps:=30000000)(disch:=omega)only[go_sem,ll,h1,e3,e4,c1',c2,c3,c4,c5]
      ·rw[decide_eq_true c1,decide_eq_true (show a<q2 by omega),decide_eq_true (show q2<=10000000 by omega),decide_eq_true (show 0<=q3 by omega),decide_eq_true (show q3<=2999 by omega)]at hbb
       simp only[nK]at hbb;by_cases c6:0<(k:Int)
       ·have e5':=e5 (by omega)
        have hq':=hq (by omega)
        subst hq';by_cases c7:q3=r3
        ·have:bb=false:=by rw[hbb,decide_eq_true c7];rfl
         subst this;have c7':(q3=r3)=True:=eq_true c7;simp(maxSteps:=30000000)(disch:=omega)only[go_sem,ll,h1,e3,e4,e5',e6,c1',c2,c3,c4,c5,c6,c7']
        ·have:bb=nO q2 q3 (l.drop (k+1)):=by rw[hbb,decide_eq_false c7];rfl
         subst this;simp(maxSteps:=30000000)(disch:=omega)only[go_sem,ll,h1,e3,e4,e5',e6,c1',c2,c3,c4,c5,c6,c7,e]
       ·have:bb=nO q2 q3 (l.drop (k+1)):=by rw[hbb,decide_eq_false (show ¬ q3=w by have:=hz (by omega);omega)];rfl
        subst this;simp(maxSteps:=30000000)(disch:=omega)only[go_sem,ll,h1,e3,e4,c1',c2,c3,c4,c5,c6,e]
  ·have:bb=false:=by rw[hbb,decide_eq_false c1];rfl
   subst this;simp(maxSteps:=30000000)(disch:=omega)only[go_sem,ll,h1,e3,e4,c1]
theorem JQ{h:Heap}{v:AV}{l:List Sn}(hv:Sl h 3 v (aG l))(hl:l.length<=9223372036854775807)(lo:Nat):(run lib).fn 63 [v] h lo=some (.bool (mU l),h):=by
 have ll:=bK hv.len;rw[gI]at ll;unfold mU;rw[aY (x:=EL) rfl rfl rfl rfl];by_cases c0:200<(l.length:Int)
 ·rw[decide_eq_false (show ¬ (l.length:Int)<=200 by omega),qZ]
  simp(maxSteps:=30000000)(disch:=omega)only[go_sem,EL,ll,c0]
 ·have e:=aiQ hv (by omega) l.length 0 0 (-1) (by omega) (fun h0=>absurd h0 (by omega)) (fun _=>rfl)
  simp only[fH,List.drop_zero]at e;rw[decide_eq_true (show (l.length:Int)<=200 by omega),Bool.and_true]
  cases c:nO 0 (-1) l
  ·rw[c,if_neg (by simp)]at e
   simp(maxSteps:=30000000)(disch:=omega)only[go_sem,EL,ll,c0,e]
  ·rw[c,if_pos rfl]at e;simp(maxSteps:=30000000)(disch:=omega)only[go_sem,EL,ll,c0,e]
theorem YE{h:Heap}{v:AV}{l:List Sn}(hv:Sl h 3 v (aG l))(hl:l.length<=9223372036854775807)(lo:Nat):(run lib).fn 98 [v] h lo=some (.int .i64 (qc l),h):=by
 have ll:=bK hv.len;rw[gI]at ll;unfold qc;rw[aY (x:=x98) rfl rfl rfl rfl];by_cases h0:l=[]
 ·subst h0;simp only[kz,fH]at ll;simp(maxSteps:=30000000)(disch:=omega)only[go_sem,x98,ll,List.getLast?_nil]
 ·have hp:=mR.mpr h0;have c:¬ (l.length:Int)=0:=by omega
  have e3:bP 3 v (.int .i64 ((l.length:Int)-1))=some (l.length-1):=by rw[dz hv (by omega) (by simp;omega),show ((l.length:Int)-1).toNat=l.length-1 by omega]
  have e4:=fun off=>dx (off:=off) hv.eO (show l.length-1<(aG l).length by simp;omega)
  simp only[o9,sn]at e4;have eg:l.getLast?=some (l[l.length-1]'(by omega)):=by rw[List.getLast?_eq_getElem?,gM (by omega)]
  rw[eg];simp(maxSteps:=30000000)(disch:=omega)only[go_sem,x98,ll,c,e3,e4]
theorem aiS{h:Heap}{v:AV}{l:List Sn}(hv:Sl h 3 v (aG l))(hl:l.length<=9223372036854775807)(lo:Nat):(run lib).fn 61 [v] h lo=some (.int .i64 (vU l),h):=by
 have e1:=fun lo=>JQ hv hl lo;have e2:=fun lo=>YE hv hl lo;unfold vU;rw[aY (x:=Ir) rfl rfl rfl rfl];cases c:mU l
 ·rw[c]at e1;simp(maxSteps:=30000000)(disch:=omega)only[go_sem,Ir,e1]
 ·rw[c]at e1;simp(maxSteps:=30000000)(disch:=omega)only[go_sem,Ir,e1,e2]
def zo(o:Option Sn):AV:=match o with|some s=>.tuple [.int .i64 s.2.2,.int .i64 0]|none=>.tuple [.int .i64 0,.int .i64 150]
theorem aiT{h:Heap}{v:AV}{l:List Sn}(hv:Sl h 3 v (aG l))(hl:l.length<=9223372036854775807)(t:Int):∀(d k:Nat),k+d=l.length ->
  aA lib ⟨h.length,h.length,0,none⟩ (.loop ML) ([(0,v),(1,.int .i64 t),(6,.int .i64 k)],h) =
   match (l.drop k).find? (mF t)with|some s=>some (.ret,([(4,.int .i64 s.2.2),(5,.int .i64 0)],h))|none=>some (.exit 0,([],h)):=by
 have ll:=bK hv.len;rw[gI]at ll;intro d
 induction d with
 |zero =>
  intro k hk;obtain rfl:k=l.length:=by omega
  rw[kE,aR]
  simp(maxSteps:=30000000)(disch:=omega)only[go_sem,ll,dU,List.find?_nil]
 |succ d ih =>
  intro k hk;have hk':k<l.length:=by omega
  have h1:(k:Int)<l.length:=by omega
  have e3:bP 3 v (.int .i64 k)=some k:=by rw[dz hv (by omega) (by simp;omega)];simp
  have e4:=fun off=>dx (off:=off) hv.eO (show k<(aG l).length by simp;omega)
  simp only[o9,sn]at e4;have e:=ih (k+1) (by omega)
  rw[dF]at e;rw[gY hk',List.find?_cons];generalize l[k]=q at*;obtain⟨q1,q2,q3⟩:=q;simp only at e4;rw[aR];by_cases c1:q1<=t
  ·by_cases c2:t<q2
   ·rw[show mF t (q1,q2,q3)=true by simp[mF,c1,c2]]
    simp(maxSteps:=30000000)(disch:=omega)only[go_sem,ll,h1,e3,e4,c1,c2]
   ·rw[show mF t (q1,q2,q3)=false by simp[mF,c2]]
    simp only[];rw[<-e];simp(maxSteps:=30000000)(disch:=omega)only[go_sem,ll,h1,e3,e4,c1,c2]
  ·rw[show mF t (q1,q2,q3)=false by simp[mF,c1]]
   simp only[];rw[<-e];simp(maxSteps:=30000000)(disch:=omega)only[go_sem,ll,h1,e3,e4,c1]
theorem aiU{h:Heap}{v:AV}{l:List Sn}(hv:Sl h 3 v (aG l))(hl:l.length<=9223372036854775807)(t:Int)(lo:Nat):(run lib).fn 62 [v,.int .i64 t] h lo=some (zo (Aq l t),h):=by
 have e1:=fun lo=>JQ hv hl lo;have e2:=aiT hv hl t l.length 0 (by omega)
 simp only[fH,List.drop_zero]at e2;unfold Aq zo;rw[aY (x:=EK) rfl rfl rfl rfl];cases c:mU l
 ·rw[c]at e1;simp only[if_neg uZ];simp(maxSteps:=30000000)(disch:=omega)only[go_sem,EK,e1]
 ·rw[c]at e1;simp only[if_true]
  cases hf:l.find? (mF t) with
  |none =>
   rw[hf]at e2
   simp(maxSteps:=30000000)(disch:=omega)only[go_sem,EK,e1,e2]
  |some s =>
   rw[hf]at e2;simp(maxSteps:=30000000)(disch:=omega)only[go_sem,EK,e1,e2]
end Go.VI.Dump
namespace Go.VI.Dump
open Go.VI.Num
/- BIGSTEPS -/
theorem aiV(v v':AV)(hf:∀ b k h,aU b k v h=some (v',h))(hv:v.val=true)(hc:v'.cells=[v'])(hv':v'.val=true)(a b:Int)(h:Heap)(lo:Nat):(run lib).fn 66 [v,.int .i64 a,.int .i64 b] h lo=some (.fn 99 [.bD [v'],.bD [.int .i64 a],.bD [.int .i64 b]],h):=by
 rw[aY (x:=x66) rfl rfl rfl rfl];simp(maxSteps:=30000000)(disch:=omega)only[go_sem,x66,hf,hv,hc]
theorem YF(x:Int):(AV.bD [.int .i64 x]).closed=true:=rfl
section
variable {H:Heap}{lo id iv:Nat}{H':Sn->Heap}{t:Int}
set_option maxHeartbeats 1000000 in
theorem aiW{v:AV}{l:List Sn}(hv:bG 3 v (aG l))(hl:l.length<=1000)(hs:∀ s∈l,s.1<s.2.1)(hlo:lo<=H.length)
  (hy:∀ s∈l,mF t s=true->∀ fr,fF (run lib) ⟨lo,H.length,1,none⟩ id iv [.agg [.int .i64 t,.int .i64 (t+1),.int .i64 s.2.2]] (H++fr)=some (.bool false,H' s++fr)):∀(d k:Nat) (B:Nat×av),k+d=l.length ->
  ∃ B',aA lib ⟨lo,H.length,1,none⟩ (.loop MV) ([(0,.cZ id iv),(2,.bD [.int .i64 t]),(3,.bD [.int .i64 (t+1)]),(7,v),(8,.int .i64 l.length),(9,.int .i64 k)],H++[B]) =
   match (l.drop k).find? (mF t)with|some s=>some (.ret,([],H' s++[B']))|none=>some (.exit 0,([],H++[B'])):=by
 intro d
 induction d with
 |zero =>
  intro k B hk;obtain rfl:k=l.length:=by omega
  refine⟨B, ?_⟩;rw[kE,aR]
  simp(maxSteps:=30000000)(disch:=omega)only[go_sem,dU,List.find?_nil]
 |succ d ih =>
  intro k B hk;obtain⟨v0,b0⟩:=B;have hk':k<l.length:=by omega
  have h1:(k:Int)<l.length:=by omega
  have e3:bP 3 v (.int .i64 k)=some k:=by rw[dz (hv.sl H) (by omega) (by simp;omega)];simp
  have e4:=fun off H=>dx (off:=off) ((hv.sl H).eO) (show k<(aG l).length by simp;omega)
  simp only[o9,sn]at e4;have hsk:=hs l[k] (ja _);have y:=hy l[k] (ja _);have ih':=ih (k+1);rw[gY hk',List.find?_cons];generalize l[k]=q at*;obtain⟨q1,q2,q3⟩:=q;simp only at e4 hsk y;by_cases c:q1<=t/\t<q2
  ·have hin:mF t (q1,q2,q3)=true:=by simp[mF,c.1,c.2]
   rw[hin];simp only[];have y':=y hin;have m1:max q1 t=t:=by omega
   have m2:min q2 (t+1)=t+1:=by omega
   have c3:t<t+1:=by omega
   refine⟨(v0+1,.box [.int .i64 t,.int .i64 (t+1),.int .i64 q3]), ?_⟩;rw[aR];simp(maxSteps:=30000000)(disch:=omega)only[go_sem,h1,e3,e4,m1,m2,c3,y',YF]
  ·have hin:mF t (q1,q2,q3)=false:=by simp[mF];omega
   rw[hin];simp only[];have c3:¬ max q1 t<min q2 (t+1):=by omega
   obtain⟨B',e⟩:=ih' (v0+1,.box [.int .i64 (max q1 t),.int .i64 (min q2 (t+1)),.int .i64 q3]) (by omega)
   rw[dF]at e;refine⟨B', ?_⟩;rw[<-e,aR];simp(maxSteps:=30000000)(disch:=omega)only[go_sem,h1,e3,e4,c3,YF]
theorem aiX{v:AV}{l:List Sn}(hv:bG 3 v (aG l))(hl:l.length<=1000)(hs:∀ s∈l,s.1<s.2.1)(hlo:lo<=H.length)(hlen:∀ s,(H' s).length=H.length)
  (hy:∀ s∈l,mF t s=true->∀ fr,fF (run lib) ⟨lo,H.length,1,none⟩ id iv [.agg [.int .i64 t,.int .i64 (t+1),.int .i64 s.2.2]] (H++fr)=some (.bool false,H' s++fr)) :
  (run lib).fn 99 [.cZ id iv,.bD [v],.bD [.int .i64 t],.bD [.int .i64 (t+1)]] H lo=match l.find? (mF t)with|some s=>some (.tuple [],H' s)|none=>some (.tuple [],H):=by
 obtain⟨B',e⟩:=aiW hv hl hs hlo hy l.length 0 (0,.dead) (by omega)
 have s1:=bK (hv.sl []).len;rw[gI]at s1;simp only[fH,List.drop_zero]at e;have hp:=sS hv;have rH:∀ fr:Heap,(H++fr).take H.length=H:=fun fr=>by rw[o7]
 have Dj:∀ s (fr:Heap),(H' s++fr).take H.length=H' s:=fun s fr=>by rw[<-hlen s,o7]
 obtain⟨_,hvv⟩:v.val=true/\True:=by
  obtain⟨v',_,_,h3,_⟩:=hp;exact⟨h3,trivial⟩
 rw[iP (x:=x99) rfl rfl rfl rfl hlo]
 cases hf:l.find? (mF t) with
 |none =>
  rw[hf]at e
  simp(maxSteps:=30000000)(disch:=omega)only[go_sem,x99,s1,e,rH]
 |some s =>
  rw[hf]at e;simp(maxSteps:=30000000)(disch:=omega)only[go_sem,x99,s1,e,Dj]
end
end Go.VI.Dump
namespace Go.VI.Dump
open Go.VI.Num
/- BIGSTEPS -/
def zq(h:Heap)(v:AV)(t:Int):Env:=[(4,.aJ (h.length+2) 1 0),(5,.aJ (h.length+3) 1 0),(13,.fn 99 [.bD [v],.bD [.int .i64 t],.bD [.int .i64 (t+1)]])]
def Pm(h:Heap)(v:AV)(t:Int):bQ:=⟨4,h.length,h.length,4,zq h v t⟩
def Dk(h:Heap)(v:AV)(t:Int):Heap:=h++[(1,.ay (Pm h v t) .ready),(0,.dead),(1,.box [.int .i64 0]),(1,.box [.int .i64 0])]
def JR(h:Heap)(v:AV)(t:Int)(s:Sn):Heap:=h++[(1,.ay (Pm h v t) (.done .ret)),(1,.box [.int .i64 t,.int .i64 (t+1),.int .i64 s.2.2]),(1,.box [.int .i64 s.2.2]),(1,.box [.int .i64 0])]
theorem aiY(h:Heap)(v:AV)(t:Int)(s:Sn)(fr:Heap) :
  fF (run lib) ⟨h.length,h.length+4,1,none⟩ (h.length+0) 1 [.agg [.int .i64 t,.int .i64 (t+1),.int .i64 s.2.2]] (Dk h v t++fr)=some (.bool false,JR h v t s++fr):=by
 obtain⟨s1,s2,o⟩:=s;obtain⟨D,hD⟩:∃ D:bQ,D=Pm h v t:=⟨_,rfl⟩;simp only[Dk,JR,eH,List.cons_append,List.nil_append,<-hD]
 have ha:aA lib ⟨h.length,h.length,4,some (h.length+0,1)⟩ r4.fZ ((r4.ps.zip [.agg [.int .i64 t,.int .i64 (t+1),.int .i64 o]]).foldl (fun e p=>e.set p.1 p.2) (zq h v t),h++((1,.ay D .ready)::(0,.dead)::(1,.box [.int .i64 0])::(1,.box [.int .i64 0])::fr)) =
   some (.norm,([(4,.aJ (h.length+2) 1 0),(5,.aJ (h.length+3) 1 0),(6,.aJ (h.length+1) 1 0)],h++((1,.ay D .ready)::(1,.box [.int .i64 t,.int .i64 (t+1),.int .i64 o])::(1,.box [.int .i64 0])::(1,.box [.int .i64 0])::fr))):=by
  have em:bV ⟨h.length,h.length,4,some (h.length+0,1)⟩ 1 (.box [.int .i64 0,.int .i64 0,.int .i64 0]) (h++((1,.ay D .ready)::(0,.dead)::(1,.box [.int .i64 0])::(1,.box [.int .i64 0])::fr))=some (1,h++((1,.ay D .ready)::(1,.box [.int .i64 0,.int .i64 0,.int .i64 0])::(1,.box [.int .i64 0])::(1,.box [.int .i64 0])::fr)):=by
   rw[uU (by rfl)]
   simp(maxSteps:=30000000)(disch:=omega)only[go_sem]
  have es:dK ⟨h.length,h.length,4,some (h.length+0,1)⟩ (h++((1,.ay D .ready)::(1,.box [.int .i64 0,.int .i64 0,.int .i64 0])::(1,.box [.int .i64 0])::(1,.box [.int .i64 0])::fr)) 3 (.aJ (h.length+1) 1 0) (.agg [.int .i64 t,.int .i64 (t+1),.int .i64 o])=some (h++((1,.ay D .ready)::(1,.box [.int .i64 t,.int .i64 (t+1),.int .i64 o])::(1,.box [.int .i64 0])::(1,.box [.int .i64 0])::fr)):=by
   rw[oz (by omega) (by rfl)]
   simp(maxSteps:=30000000)(disch:=omega)only[go_sem]
  simp(maxSteps:=30000000)(disch:=omega)only[go_sem,r4,zq,em,es,List.zip_cons_cons,vX,List.foldl_cons,nN]
 have hb:aA lib ⟨h.length,h.length,4,some (h.length+0,1)⟩ r4.body ([(4,.aJ (h.length+2) 1 0),(5,.aJ (h.length+3) 1 0),(6,.aJ (h.length+1) 1 0)],(h++((1,.ay D .ready)::(1,.box [.int .i64 t,.int .i64 (t+1),.int .i64 o])::(1,.box [.int .i64 0])::(1,.box [.int .i64 0])::fr)).set (h.length+0) (1,.ay D .busy)) =
   some (.ret,([],h++((1,.ay D .busy)::(1,.box [.int .i64 t,.int .i64 (t+1),.int .i64 o])::(1,.box [.int .i64 o])::(1,.box [.int .i64 0])::fr))):=by
  rw[eB]
  have s1:dK ⟨h.length,h.length,4,some (h.length+0,1)⟩ (h++((1,.ay D .busy)::(1,.box [.int .i64 t,.int .i64 (t+1),.int .i64 o])::(1,.box [.int .i64 0])::(1,.box [.int .i64 0])::fr)) 1 (.aJ (h.length+2) 1 0) (.int .i64 o)=some (h++((1,.ay D .busy)::(1,.box [.int .i64 t,.int .i64 (t+1),.int .i64 o])::(1,.box [.int .i64 o])::(1,.box [.int .i64 0])::fr)):=by
   rw[oz (by omega) (by rfl)]
   simp(maxSteps:=30000000)(disch:=omega)only[go_sem]
  have s2:dK ⟨h.length,h.length,4,some (h.length+0,1)⟩ (h++((1,.ay D .busy)::(1,.box [.int .i64 t,.int .i64 (t+1),.int .i64 o])::(1,.box [.int .i64 o])::(1,.box [.int .i64 0])::fr)) 1 (.aJ (h.length+3) 1 0) (.int .i64 0)=some (h++((1,.ay D .busy)::(1,.box [.int .i64 t,.int .i64 (t+1),.int .i64 o])::(1,.box [.int .i64 o])::(1,.box [.int .i64 0])::fr)):=by
   rw[oz (by omega) (by rfl)]
   simp(maxSteps:=30000000)(disch:=omega)only[go_sem]
  simp(maxSteps:=30000000)(disch:=omega)only[go_sem,r4,s1,s2]
 have hg:(h++((1,av.ay D .ready)::(0,.dead)::(1,.box [.int .i64 0])::(1,.box [.int .i64 0])::fr))[h.length+0]?=some (1,.ay ⟨4,h.length,h.length,4,zq h v t⟩ .ready):=by rw[bH,hD];rfl
 have:=uI (L:=lib) (cx:=⟨h.length,h.length+4,1,none⟩) hg (aV _) (by omega) (aV _) (by simp[AV.jw,AV.closed]) (x:=r4) rfl rfl ha (by rw[bH];rfl) hb (by rw[bH];rfl)
 rw[this,eB];rfl
set_option maxHeartbeats 1000000 in
theorem aiZ{v:AV}{l:List Sn}(hv:bG 3 v (aG l))(hl:l.length<=9223372036854775807){t:Int}(ht:-1000<=t/\t<=100000000)(h:Heap)(lo:Nat):(run lib).fn 36 [v,.int .i64 t] h lo=some (zo (Aq l t),h):=by
 have e1:=fun H lo=>O9 (hv.sl H) hl lo;obtain⟨v',f1,f2,f3,f4,f5,f6⟩:=sS hv;have e2:=aiV v v' f1 f3 f6 f4 t (t+1);rw[aY (x:=EJ) rfl rfl rfl rfl];unfold Aq;cases c:mU l
 ·rw[c]at e1;simp only[if_neg uZ,zo];simp(maxSteps:=30000000)(disch:=omega)only[go_sem,EJ,e1]
 ·rw[c]at e1;simp only[if_true]
  have hlen:l.length<=200:=by
   unfold mU at c;simp only[bg,decide_eq_true_eq]at c;omega
  have hmem:∀ s∈l,s.1<s.2.1:=fun s hs=>by
   unfold mU at c;simp only[bg]at c;exact(V9 c.1 s hs).2.1
  have YG:(Dk h v' t).length=h.length+4:=by simp[Dk]
  have w:=aiX (H:=Dk h v' t) (lo:=h.length) (id:=h.length+0) (iv:=1) (H':=JR h v' t) (t:=t) f5 (by omega) hmem (by rw[YG];omega) (fun s=>by simp[Dk,JR]) (fun s _ _ fr=>by rw[YG];exact aiY h v' t s fr)
  cases hf:l.find? (mF t) with
  |none =>
   rw[hf]at w;have g:=vN (L:=lib) (lo:=h.length) (ns:=4) (s:=0) (g:=4) (it:=99) (v:=0) (caps:=[.bD [v'],.bD [.int .i64 t],.bD [.int .i64 (t+1)]]) (env:=zq h v' t) (h:=h) (b:=.dead) (fr:=[(0,.dead),(0,.dead),(1,.box [.int .i64 0]),(1,.box [.int .i64 0])]) (f:=.t 13) rfl (by omega) rfl w rfl
   simp only[zq,List.set_cons_zero]at g;simp only[zo]
   simp(maxSteps:=30000000)(disch:=omega)only[go_sem,EJ,e1,e2,g]
  |some s =>
   rw[hf]at w;have g:=NE (L:=lib) (lo:=h.length) (ns:=4) (s:=0) (g:=4) (it:=99) (v:=0) (caps:=[.bD [v'],.bD [.int .i64 t],.bD [.int .i64 (t+1)]]) (env:=zq h v' t) (h:=h) (b:=.dead) (fr:=[(0,.dead),(0,.dead),(1,.box [.int .i64 0]),(1,.box [.int .i64 0])]) (f:=.t 13) rfl (by omega) rfl w rfl
   simp only[zq,List.set_cons_zero]at g;simp only[zo];simp(maxSteps:=30000000)(disch:=omega)only[go_sem,EJ,e1,e2,g]
end Go.VI.Dump
namespace Go.VI.Dump
open Go.VI.Num
/- BIGSTEPS -/
theorem YH{lo ns:Nat}{h fr:Heap}{s aj len i:Nat}{l:List Sn}{n:Int}(hid:fr[s]?=some (aj,.arr 3 (aG l)))(hl:l.length=len)(hi:i<l.length)(hlo:lo<=h.length) :
  dK ⟨lo,h.length,ns,none⟩ (h++fr) 1 (.di (.ref (h.length+s) aj 3 0 len len) i 1) (.int .i64 n)=some (h++fr.set s (aj,.arr 3 (aG (l.set i (l[i].1,n,l[i].2.2))))):=by
 have he:(aG l)[i]?=some (.agg [.int .i64 l[i].1,.int .i64 l[i].2.1,.int .i64 l[i].2.2]):=by simp[aG,sn,hi]
 have iL:(h++fr)[h.length+s]?=some (aj,.arr 3 (aG l)):=by rw[bH];exact hid
 subst hl;simp only[dK,aU,AV.cells,AV.val,iL,gI,je,aV,hi,and_self,if_true,Option.bind_some,he,List.length_cons,kz,show lo<=h.length+s by omega,splice]
 simp[aG,sn,List.map_set]
theorem F4(l:List Sn)(a b c:Int):aG (l++[(a,b,c)])=aG l++[.agg [.int .i64 a,.int .i64 b,.int .i64 c]]:=by simp[aG,sn]
theorem Pn(O:List Sn)(t o:Int):(grow O t o).length<=O.length+1:=by
 unfold grow;split
 ·split
  ·simp
  ·simp
 ·simp
def F5(tl:List Sn)(s:Int):Int:=match Aq tl s with|some u=>u.2.2|none=>0
def kK(tl:List Sn)(s:Int):Int:=if s=-1 then 0 else F5 tl s
theorem YI(tl:List Sn)(s:Int):∃ e,zo (Aq tl s)=.tuple [.int .i64 (F5 tl s),.int .i64 e]:=by
 unfold zo F5
 cases Aq tl s with
 |none=>exact⟨_,rfl⟩
 |some u=>exact⟨_,rfl⟩
set_option maxHeartbeats 4000000 in
theorem ai0{v:AV}{tl:List Sn}(hv:bG 3 v (aG tl))(htl:tl.length<=9223372036854775807)(hvv:v.val=true){A:List Int}(hA:A.length<=1000)(hb:∀ s∈A,-1<=s/\s<=600)(h:Heap):∀(d i:Nat) (out:List Sn),i+d=A.length->out.length<=i ->
  aA lib ⟨h.length,h.length,1,none⟩ (.loop Md) ([(1,v),(8,bq (h.length+0) (0,.dead) 3 (aG out)),(27,.aN 1 (ints A)),(28,.int .i64 A.length),(29,.int .i64 i)],h++[aX (0,.dead) 3 (aG out)]) =
   some (.exit 0,([(8,bq (h.length+0) (0,.dead) 3 (aG (mV out i ((A.drop i).map (kK tl)))))],h++[aX (0,.dead) 3 (aG (mV out i ((A.drop i).map (kK tl))))])):=by
 have sl:=fun H=>Df H 1 (ints A);intro d
 induction d with
 |zero =>
  intro i out hi _;obtain rfl:i=A.length:=by omega
  rw[kE,List.map_nil,mV,aR]
  simp(maxSteps:=30000000)(disch:=omega)only[go_sem,dU]
 |succ d ih =>
  intro i out hi hn;have hi':i<A.length:=by omega
  have c:(i:Int)<A.length:=by omega
  have e3:bP 1 (.aN 1 (ints A)) (.int .i64 i)=some i:=by rw[dz (sl h) (by omega) (by simp;omega)];simp
  have e4:=fun off fr=>dx (off:=off) ((sl h).elems fr) (show i<(ints A).length by simp;omega)
  simp only[lW]at e4;have hs:=hb A[i] (ja _);have e:=ih (i+1) (grow out i (kK tl A[i])) (by omega) (by have:=Pn out i (kK tl A[i]);omega)
  rw[gY hi',List.map_cons,mV,show (i:Int)+1=((i+1:Nat):Int) by omega]
  generalize mV (grow out i (kK tl A[i])) ((i+1:Nat):Int) ((A.drop (i+1)).map (kK tl))=R at*;rw[dF]at e;generalize A[i]=s at*;obtain⟨o,ho⟩:∃ o,o=kK tl s:=⟨_,rfl⟩;rw[<-ho]at e;obtain⟨err,hat⟩:=YI tl s;have ta:=fun H lo=>aiZ hv htl (t:=s) (by omega) H lo
  rw[hat]at ta;have s0:=Sl.acc (h:=h) (fr:=[aX (0,.dead) 3 (aG out)]) (s:=0) (z:=3) (b0:=(0,.dead)) (es:=aG out) rfl;have ll:=bK s0.len;rw[gI]at ll;have ap:=jk (lo:=h.length) (ns:=1) (s:=0) (z:=3) (lim:=5864062014805) (h:=h) (fr:=[aX (0,.dead) 3 (aG out)]) (b0:=(0,.dead)) (es:=aG out) (xs:=[.agg [.int .i64 i,.int .i64 ((i:Int)+1),.int .i64 o]]) (by omega) (by omega) rfl (by simp;omega)
  have hco:s=-1/\o=0\/¬ s=-1/\F5 tl s=o:=by
   unfold kK at ho;by_cases c1:s=-1
   ·rw[if_pos c1]at ho;exact .inl ⟨c1,ho⟩
   ·rw[if_neg c1]at ho;exact .inr ⟨c1,ho.symm⟩
  clear ho hat;rw[aR];rcases List.eq_nil_or_concat out with h0|⟨O,r,h0⟩
  ·subst h0;have hg:grow [] i o=[((i:Int),(i:Int)+1,o)]:=by simp[grow]
   rw[hg]at e;simp only[show aG [((i:Int),(i:Int)+1,o)]=[.agg [.int .i64 i,.int .i64 ((i:Int)+1),.int .i64 o]]from rfl]at e
   simp only[show aG []=[]from rfl,kz,fH,List.nil_append]at ll ap e⊢
   rcases hco with⟨c1,c2⟩|⟨c1,c2⟩
   ·have c1':(s=-1)=True:=eq_true c1;subst c2;simp(maxSteps:=30000000)(disch:=omega)only[go_sem,c,e3,e4,c1',ll,dU,ap,e]
   ·rw[c2]at ta;simp(maxSteps:=30000000)(disch:=omega)only[go_sem,c,e3,e4,c1,ta,ll,dU,ap,e]
  ·rw[List.concat_eq_append]at h0;subst h0;obtain⟨ra,rb,rc⟩:=r;have hlen:(O++[((ra,rb,rc):Sn)]).length=O.length+1:=by simp
   have g0:0<((O++[((ra,rb,rc):Sn)]).length:Int):=by omega
   have e5:bP 3 (bq (h.length+0) (0,.dead) 3 (aG (O++[(ra,rb,rc)]))) (.int .i64 (((O++[((ra,rb,rc):Sn)]).length:Int)-1))=some O.length:=by
    rw[show ((O++[((ra,rb,rc):Sn)]).length:Int)-1=O.length by omega,dz s0 (by omega) (by simp;omega)];simp
   have e6:=fun off=>dx (off:=off) s0.eO (show O.length<(aG (O++[((ra,rb,rc):Sn)])).length by simp)
   have hg:(O++[((ra,rb,rc):Sn)])[O.length]'(by simp)=(ra,rb,rc):=List.getElem_concat_length rfl (by simp)
   simp only[o9,sn,hg]at e6;by_cases c3:rc=o
   ·have hgr:grow (O++[(ra,rb,rc)]) i o=O++[(ra,(i:Int)+1,rc)]:=by simp[grow,c3]
    rw[hgr]at e;have hne:aG (O++[((ra,rb,rc):Sn)])≠[]:=by simp[aG]
    have hne2:aG (O++[((ra,(i:Int)+1,rc):Sn)])≠[]:=by simp[aG]
    have st:=YH (lo:=h.length) (ns:=1) (h:=h) (fr:=[(0+1,.arr 3 (aG (O++[((ra,rb,rc):Sn)])))]) (s:=0) (aj:=0+1) (len:=(O++[((ra,rb,rc):Sn)]).length) (i:=O.length) (l:=O++[(ra,rb,rc)]) (n:=(i:Int)+1) rfl rfl (by simp) (aV _)
    simp only[hg,List.set_cons_zero]at st;rw[show (O++[((ra,rb,rc):Sn)]).set O.length (ra,(i:Int)+1,rc)=O++[(ra,(i:Int)+1,rc)] by simp]at st
    rw[kF hne2,lq hne2]at e;rw[kF hne]at e5 e6 ll⊢;rw[lq hne]at e6⊢;simp only[gI]at e5 e6 ll st e⊢;rw[show (O++[((ra,(i:Int)+1,rc):Sn)]).length=(O++[((ra,rb,rc):Sn)]).length by simp]at e
    have c3':(rc=o)=True:=eq_true c3;rcases hco with⟨c1,c2⟩|⟨c1,c2⟩
    ·have c1':(s=-1)=True:=eq_true c1;subst c2;simp(maxSteps:=30000000)(disch:=omega)only[go_sem,c,e3,e4,c1',ll,g0,e5,e6,c3',st,e]
    ·rw[c2]at ta;simp(maxSteps:=30000000)(disch:=omega)only[go_sem,c,e3,e4,c1,ta,ll,g0,e5,e6,c3',st,e]
   ·have hgr:grow (O++[(ra,rb,rc)]) i o=(O++[(ra,rb,rc)])++[((i:Int),(i:Int)+1,o)]:=by simp[grow,c3]
    rw[hgr,F4]at e;rcases hco with⟨c1,c2⟩|⟨c1,c2⟩
    ·have c1':(s=-1)=True:=eq_true c1;subst c2;simp(maxSteps:=30000000)(disch:=omega)only[go_sem,c,e3,e4,c1',ll,g0,e5,e6,c3,ap,e]
    ·rw[c2]at ta;simp(maxSteps:=30000000)(disch:=omega)only[go_sem,c,e3,e4,c1,ta,ll,g0,e5,e6,c3,ap,e]
end Go.VI.Dump
namespace Go.VI.Dump
open Go.VI.Num
/- BIGSTEPS -/
set_option maxHeartbeats 4000000 in
theorem ai1{v:AV}{tl:List Sn}(hv:bG 3 v (aG tl))(htl:tl.length<=9223372036854775807)(hvv:v.val=true){A:List Int}(hA:A.length<=1000)(hb:∀ s∈A,-1<=s/\s<=600)(h:Heap):∀(d i:Nat) (out:List Sn),i+d=A.length->out.length<=i ->
  aA lib ⟨h.length,h.length,1,none⟩ (.loop Me) ([(1,v),(6,.aN 1 (ints A)),(8,bq (h.length+0) (0,.dead) 3 (aG out)),(9,.int .i64 i)],h++[aX (0,.dead) 3 (aG out)]) =
   some (.exit 0,([(8,bq (h.length+0) (0,.dead) 3 (aG (mV out i ((A.drop i).map (kK tl)))))],h++[aX (0,.dead) 3 (aG (mV out i ((A.drop i).map (kK tl))))])):=by
 have sl:=fun H=>Df H 1 (ints A);have la:=bK (sl h).len;rw[fE]at la;intro d
 induction d with
 |zero =>
  intro i out hi _;obtain rfl:i=A.length:=by omega
  rw[kE,List.map_nil,mV,aR]
  simp(maxSteps:=30000000)(disch:=omega)only[go_sem,la,dU]
 |succ d ih =>
  intro i out hi hn;have hi':i<A.length:=by omega
  have c:(i:Int)<A.length:=by omega
  have e3:bP 1 (.aN 1 (ints A)) (.int .i64 i)=some i:=by rw[dz (sl h) (by omega) (by simp;omega)];simp
  have e4:=fun off fr=>dx (off:=off) ((sl h).elems fr) (show i<(ints A).length by simp;omega)
  simp only[lW]at e4;have hs:=hb A[i] (ja _);have e:=ih (i+1) (grow out i (kK tl A[i])) (by omega) (by have:=Pn out i (kK tl A[i]);omega)
  rw[gY hi',List.map_cons,mV,show (i:Int)+1=((i+1:Nat):Int) by omega]
  generalize mV (grow out i (kK tl A[i])) ((i+1:Nat):Int) ((A.drop (i+1)).map (kK tl))=R at*;rw[dF]at e;generalize A[i]=s at*;obtain⟨o,ho⟩:∃ o,o=kK tl s:=⟨_,rfl⟩;rw[<-ho]at e;obtain⟨err,hat⟩:=YI tl s;have ta:=fun H lo=>aiU (hv.sl H) htl s lo;rw[hat]at ta;have s0:=Sl.acc (h:=h) (fr:=[aX (0,.dead) 3 (aG out)]) (s:=0) (z:=3) (b0:=(0,.dead)) (es:=aG out) rfl;have ll:=bK s0.len;rw[gI]at ll;have ap:=jk (lo:=h.length) (ns:=1) (s:=0) (z:=3) (lim:=5864062014805) (h:=h) (fr:=[aX (0,.dead) 3 (aG out)]) (b0:=(0,.dead)) (es:=aG out) (xs:=[.agg [.int .i64 i,.int .i64 ((i:Int)+1),.int .i64 o]]) (by omega) (by omega) rfl (by simp;omega)
  have hco:s=-1/\o=0\/¬ s=-1/\F5 tl s=o:=by
   unfold kK at ho;by_cases c1:s=-1
   ·rw[if_pos c1]at ho;exact .inl ⟨c1,ho⟩
   ·rw[if_neg c1]at ho;exact .inr ⟨c1,ho.symm⟩
  clear ho hat;rw[aR];rcases List.eq_nil_or_concat out with h0|⟨O,r,h0⟩
  ·subst h0;have hg:grow [] i o=[((i:Int),(i:Int)+1,o)]:=by simp[grow]
   rw[hg]at e;simp only[show aG [((i:Int),(i:Int)+1,o)]=[.agg [.int .i64 i,.int .i64 ((i:Int)+1),.int .i64 o]]from rfl]at e
   simp only[show aG []=[]from rfl,kz,fH,List.nil_append]at ll ap e⊢
   rcases hco with⟨c1,c2⟩|⟨c1,c2⟩
   ·have c1':¬ 0<=s:=by omega
    subst c2;simp(maxSteps:=30000000)(disch:=omega)only[go_sem,la,c,e3,e4,c1',ll,dU,ap,e]
   ·rw[c2]at ta;have c1:0<=s:=by omega
    simp(maxSteps:=30000000)(disch:=omega)only[go_sem,la,c,e3,e4,c1,ta,ll,dU,ap,e]
  ·rw[List.concat_eq_append]at h0;subst h0;obtain⟨ra,rb,rc⟩:=r;have hlen:(O++[((ra,rb,rc):Sn)]).length=O.length+1:=by simp
   have g0:0<((O++[((ra,rb,rc):Sn)]).length:Int):=by omega
   have ei:∀ g:Int,g=O.length->bP 3 (bq (h.length+0) (0,.dead) 3 (aG (O++[(ra,rb,rc)]))) (.int .i64 g)=some O.length:=by
    intro g hg;rw[hg,dz s0 (by omega) (by simp;omega)];simp
   have e5:=ei (max (((O++[((ra,rb,rc):Sn)]).length:Int)-1) 0) (by omega)
   have e7:=ei (((O++[((ra,rb,rc):Sn)]).length:Int)-1) (by omega)
   have e6:=fun off=>dx (off:=off) s0.eO (show O.length<(aG (O++[((ra,rb,rc):Sn)])).length by simp)
   have hg:(O++[((ra,rb,rc):Sn)])[O.length]'(by simp)=(ra,rb,rc):=List.getElem_concat_length rfl (by simp)
   simp only[o9,sn,hg]at e6;by_cases c3:rc=o
   ·have hgr:grow (O++[(ra,rb,rc)]) i o=O++[(ra,(i:Int)+1,rc)]:=by simp[grow,c3]
    rw[hgr]at e;have hne:aG (O++[((ra,rb,rc):Sn)])≠[]:=by simp[aG]
    have hne2:aG (O++[((ra,(i:Int)+1,rc):Sn)])≠[]:=by simp[aG]
    have st:=YH (lo:=h.length) (ns:=1) (h:=h) (fr:=[(0+1,.arr 3 (aG (O++[((ra,rb,rc):Sn)])))]) (s:=0) (aj:=0+1) (len:=(O++[((ra,rb,rc):Sn)]).length) (i:=O.length) (l:=O++[(ra,rb,rc)]) (n:=(i:Int)+1) rfl rfl (by simp) (aV _)
    simp only[hg,List.set_cons_zero]at st;rw[show (O++[((ra,rb,rc):Sn)]).set O.length (ra,(i:Int)+1,rc)=O++[(ra,(i:Int)+1,rc)] by simp]at st
    rw[kF hne2,lq hne2]at e;rw[kF hne]at e5 e6 e7 ll⊢;rw[lq hne]at e6⊢;simp only[gI]at e5 e6 e7 ll st e⊢;rw[show (O++[((ra,(i:Int)+1,rc):Sn)]).length=(O++[((ra,rb,rc):Sn)]).length by simp]at e
    have c3':(rc=o)=True:=eq_true c3;rcases hco with⟨c1,c2⟩|⟨c1,c2⟩
    ·have c1':¬ 0<=s:=by omega
     subst c2;simp(maxSteps:=30000000)(disch:=omega)only[go_sem,la,c,e3,e4,c1',ll,g0,e5,e6,e7,c3',st,e]
    ·rw[c2]at ta;have c1:0<=s:=by omega
     simp(maxSteps:=30000000)(disch:=omega)only[go_sem,la,c,e3,e4,c1,ta,ll,g0,e5,e6,e7,c3',st,e]
   ·have hgr:grow (O++[(ra,rb,rc)]) i o=(O++[(ra,rb,rc)])++[((i:Int),(i:Int)+1,o)]:=by simp[grow,c3]
    rw[hgr,F4]at e;rcases hco with⟨c1,c2⟩|⟨c1,c2⟩
    ·have c1':¬ 0<=s:=by omega
     subst c2;simp(maxSteps:=30000000)(disch:=omega)only[go_sem,la,c,e3,e4,c1',ll,g0,e5,e6,c3,ap,e]
    ·rw[c2]at ta;have c1:0<=s:=by omega
     simp(maxSteps:=30000000)(disch:=omega)only[go_sem,la,c,e3,e4,c1,ta,ll,g0,e5,e6,c3,ap,e]
def wJ(l:dI)(tl:List Sn)(xs:List Stp):List Sn:=mV [] 0 ((dS l xs).map (kK tl))
theorem JS:∀(os:List Int) (out:List Sn) (t:Int),(mV out t os).length<=out.length+os.length
 |[],out,t=>by rw[mV];simp
 |o::os,out,t=>by
  rw[mV];have:=JS os (grow out t o) (t+1);have:=Pn out t o;rw[List.length_cons];omega
theorem YJ{l:dI}(ok:dD l){xs:List Stp}{e:Int}(hc:Ch l 0 l.D xs e):∀ s∈dS l xs,-1<=s/\s<=600:=by
 intro s hs;have hL:=ok.L;unfold dS at hs;rcases iJ.mp hs with h|h
 ·have:=(List.mem_replicate.mp h).2;omega
 ·have:=hc.mem ok.E.1 s h;omega
theorem ai2{x:LV}(o:okV x)(hv:¬ dD x.l){v:AV}(hvv:v.val=true)(h:Heap)(lo:Nat):(run lib).fn 29 [bI x,v] h lo=some (.tuple [.own 0 [],.int .i64 200],h):=by
 have e:=fun H lo=>XJ o hv H lo;unfold bI at e⊢;rw[aY (x:=x29) rfl rfl rfl rfl];simp(maxSteps:=30000000)(disch:=omega)only[go_sem,x29,e]
theorem ai3{x:LV}(o:okV x)(hv:¬ dD x.l){v:AV}(hvv:v.val=true)(h:Heap)(lo:Nat):(run lib).fn 30 [bI x,v] h lo=some (.tuple [.own 0 [],.int .i64 200],h):=by
 have e:=fun H lo=>YA o hv H lo;unfold bI at e⊢;rw[aY (x:=x30) rfl rfl rfl rfl];simp(maxSteps:=30000000)(disch:=omega)only[go_sem,x30,e]
def F6(l:dI)(tl:List Sn)(xs:List Stp):AV:=if vU tl=l.L/\mU (wJ l tl xs)=true then .tuple [eP 3 (aG (wJ l tl xs)),.int .i64 0]else .tuple [.own 0 [],.int .i64 200]
set_option maxHeartbeats 1000000 in
theorem ai4{x:LV}(o:okV x)(ok:dD x.l){xs:List Stp}{e:Int}(hc:Ch x.l 0 x.l.D xs e){v:AV}{tl:List Sn}(hv:bG 3 v (aG tl))(htl:tl.length<=9223372036854775807)(hvv:v.val=true)(h:Heap)(lo:Nat):(run lib).fn 29 [bI x,v] h lo=some (F6 x.l tl xs,h):=by
 have ea:=fun H lo=>O4 o ok hc H lo;have ee:=fun H lo=>aii (hv.sl H) htl lo;have hlen:=AY ok hc;have hdl:=hc.dl ok.D.1 (iK _);have hL:=ok.L;have hD:=ok.D;have la:=bK (Df h 1 (ints (dS x.l xs))).len;rw[fE]at la;have el:=ai0 hv htl hvv (A:=dS x.l xs) (by omega) (YJ ok hc) h (dS x.l xs).length 0 [] (by omega) (by simp)
 simp only[fH,List.drop_zero,show aG []=[]from rfl,oU,qO]at el
 have hpl:mV [] 0 ((dS x.l xs).map (kK tl))=wJ x.l tl xs:=rfl;rw[hpl]at el;have hRl:=JS ((dS x.l xs).map (kK tl)) [] 0;rw[hpl,uq]at hRl;simp only[kz]at hRl;unfold F6;generalize wJ x.l tl xs=R at*;have ev:=fun lo=>O9 (Sl.acc (h:=h) (fr:=[aX (0,.dead) 3 (aG R)]) (s:=0) (z:=3) (b0:=(0,.dead)) (es:=aG R) rfl) (l:=R) (by omega) lo
 have gv:=mq (s:=0) (z:=3) (h:=h) (b0:=(0,.dead)) (es:=aG R) (fr:=[aX (0,.dead) 3 (aG R)]) rfl;unfold bI at ea⊢;rw[aY (x:=x29) rfl rfl rfl rfl];by_cases c1:vU tl=x.l.L
 ·have c1':(vU tl=x.l.L)=True:=eq_true c1;cases c2:mU R
  ·rw[c2]at ev;rw[if_neg (fun hh=>by cases hh.2)]
   simp(maxSteps:=30000000)(disch:=omega)only[go_sem,x29,ea,ee,la,c1',el,ev]
  ·rw[c2]at ev;rw[if_pos ⟨c1,rfl⟩];simp(maxSteps:=30000000)(disch:=omega)only[go_sem,x29,ea,ee,la,c1',el,ev,gv]
 ·rw[if_neg (fun hh=>c1 hh.1)];simp(maxSteps:=30000000)(disch:=omega)only[go_sem,x29,ea,ee,c1]
set_option maxHeartbeats 1000000 in
theorem ai5{x:LV}(o:okV x)(ok:dD x.l){xs:List Stp}{e:Int}(hc:Ch x.l 0 x.l.D xs e){v:AV}{tl:List Sn}(hv:bG 3 v (aG tl))(htl:tl.length<=9223372036854775807)(hvv:v.val=true)(h:Heap)(lo:Nat):(run lib).fn 30 [bI x,v] h lo=some (F6 x.l tl xs,h):=by
 have ea:=fun H lo=>YB o ok hc H lo;have ee:=fun H lo=>aiS (hv.sl H) htl lo;have hlen:=AY ok hc;have hdl:=hc.dl ok.D.1 (iK _);have hL:=ok.L;have hD:=ok.D;have el:=ai1 hv htl hvv (A:=dS x.l xs) (by omega) (YJ ok hc) h (dS x.l xs).length 0 [] (by omega) (by simp)
 simp only[fH,List.drop_zero,show aG []=[]from rfl,oU,qO]at el
 have hpl:mV [] 0 ((dS x.l xs).map (kK tl))=wJ x.l tl xs:=rfl;rw[hpl]at el;have hRl:=JS ((dS x.l xs).map (kK tl)) [] 0;rw[hpl,uq]at hRl;simp only[kz]at hRl;unfold F6;generalize wJ x.l tl xs=R at*;have ev:=fun lo=>JQ (Sl.acc (h:=h) (fr:=[aX (0,.dead) 3 (aG R)]) (s:=0) (z:=3) (b0:=(0,.dead)) (es:=aG R) rfl) (l:=R) (by omega) lo
 have gv:=mq (s:=0) (z:=3) (h:=h) (b0:=(0,.dead)) (es:=aG R) (fr:=[aX (0,.dead) 3 (aG R)]) rfl;unfold bI at ea⊢;rw[aY (x:=x30) rfl rfl rfl rfl];by_cases c1:vU tl=x.l.L
 ·have c1':(vU tl=x.l.L)=True:=eq_true c1;cases c2:mU R
  ·rw[c2]at ev;rw[if_neg (fun hh=>by cases hh.2)]
   simp(maxSteps:=30000000)(disch:=omega)only[go_sem,x30,ea,ee,c1',el,ev]
  ·rw[c2]at ev;rw[if_pos ⟨c1,rfl⟩];simp(maxSteps:=30000000)(disch:=omega)only[go_sem,x30,ea,ee,c1',el,ev,gv]
 ·rw[if_neg (fun hh=>c1 hh.1)];simp(maxSteps:=30000000)(disch:=omega)only[go_sem,x30,ea,ee,c1]
end Go.VI.Dump
namespace Go.VI.Dump
open Go.VI.Num
/- BIGSTEPS -/
theorem Po{c n:Int}(hn:0<n)(hc:fA c)(h:Heap)(lo:Nat):(run lib).fn 13 [.int .i64 c,.int .i64 n] h lo=some (.int .i64 (fD c n),h):=by
 obtain⟨h1,h2⟩:=hc;unfold fD;rw[aY (x:=Ii) rfl rfl rfl rfl];by_cases c0:c<0
 ·rw[if_pos c0];simp(maxSteps:=30000000)(disch:=omega)only[go_sem,Ii,c0]
 ·rw[if_neg c0];simp(maxSteps:=30000000)(disch:=omega)only[go_sem,Ii,c0]
theorem Pp{c n:Int}(hn:0<n)(hc:fA c)(h:Heap)(lo:Nat):(run lib).fn 87 [.int .i64 c,.int .i64 n] h lo=some (.int .i64 (fD c n),h):=by
 obtain⟨h1,h2⟩:=hc;unfold fD;rw[aY (x:=x87) rfl rfl rfl rfl];by_cases c0:c<0
 ·rw[if_pos c0];simp(maxSteps:=30000000)(disch:=omega)only[go_sem,x87,c0]
 ·rw[if_neg c0];simp(maxSteps:=30000000)(disch:=omega)only[go_sem,x87,c0]
theorem ai6{h:Heap}{v u:AV}{l m:List Int}(hv:Sl h 1 v (ints l))(hu:Sl h 1 u (ints m))(hl:l.length<=9223372036854775807)(hm:l.length=m.length)(lo:Nat)(d:Nat) :
  ∀ k:Nat,d=l.length-k->k<=l.length->aA lib ⟨lo,h.length,0,none⟩ (.loop L8) ([(0,v),(1,u),(5,.int .i64 k)],h)=if l.drop k=m.drop k then some (.exit 0,([],h))else some (.ret,([(4,.bool false)],h)):=by
 have lv:=bK hv.len;rw[fE]at lv
 induction d with
 |zero =>
  intro k hd hk;have:k=l.length:=by omega
  subst this;rw[kE,hm,kE,if_pos rfl,<-hm,aR]
  simp(maxSteps:=30000000)(disch:=omega)only[go_sem,lv,dU]
 |succ d ih =>
  intro k hd hk;have hk':k<l.length:=by omega
  have hkm:k<m.length:=by omega
  have h1:(k:Int)<l.length:=by omega
  have e3:bP 1 v (.int .i64 k)=some k:=by rw[dz hv (by omega) (by simp;omega)];simp
  have e4:=fun off=>dx (off:=off) hv.eO (show k<(ints l).length by simp;omega)
  have f3:bP 1 u (.int .i64 k)=some k:=by rw[dz hu (by omega) (by simp;omega)];simp
  have f4:=fun off=>dx (off:=off) hu.eO (show k<(ints m).length by simp;omega)
  simp only[lW]at e4 f4;rw[gY hk',gY hkm];have e:=ih (k+1) (by omega) (by omega)
  rw[dF]at e;rw[aR];by_cases hx:l[k]=m[k]
  ·simp(maxSteps:=30000000)(disch:=omega)only[go_sem,lv,h1,e3,e4,f3,f4,hx,e,List.cons.injEq]
  ·simp(maxSteps:=30000000)(disch:=omega)only[go_sem,lv,h1,e3,e4,f3,f4,hx,List.cons.injEq,false_and]
theorem ai7{h:Heap}{v u:AV}{l m:List Int}(hv:Sl h 1 v (ints l))(hu:Sl h 1 u (ints m))(hl:l.length<=9223372036854775807)(lo:Nat):(run lib).fn 24 [v,u] h lo=some (.bool (decide (l=m)),h):=by
 have lv:=bK hv.len;have lu:=bK hu.len;rw[fE]at lv lu;rw[aY (x:=x24) rfl rfl rfl rfl];by_cases h1:l.length=m.length
 ·have e:=ai6 hv hu hl h1 h.length _ 0 rfl (by omega)
  simp only[fH,List.drop_zero]at e;have h2:(l.length:Int)=m.length:=by omega
  by_cases h3:l=m
  ·rw[if_pos h3]at e;simp(maxSteps:=30000000)(disch:=omega)only[go_sem,x24,lv,lu,e,h3]
  ·rw[if_neg h3]at e;simp(maxSteps:=30000000)(disch:=omega)only[go_sem,x24,lv,lu,h2,e,h3]
 ·have h2:¬ (l.length:Int)=m.length:=by omega
  have h3:¬ l=m:=by rintro rfl;exact h1 rfl
  simp(maxSteps:=30000000)(disch:=omega)only[go_sem,x24,lv,lu,h2,h3]
theorem ai8(a b c:Int):tY true [.i .i64,.i .i64,.i .i64] (.agg [.int .i64 a,.int .i64 b,.int .i64 c]) (.agg [.int .i64 a,.int .i64 b,.int .i64 c])=some (.bool false):=by
 rw[Ll (by simp) rfl rfl];simp[iU,zy]
theorem ai9{h:Heap}{v u:AV}{l:List Sn}(hv:Sl h 3 v (aG l))(hu:Sl h 3 u (aG l))(hl:l.length<=9223372036854775807):∀(d k:Nat),k+d=l.length ->
  aA lib ⟨h.length,h.length,0,none⟩ (.loop Mf) ([(0,v),(1,u),(5,.int .i64 k)],h)=some (.exit 0,([],h)):=by
 have ll:=bK hv.len;rw[gI]at ll;intro d
 induction d with
 |zero =>
  intro k hk;obtain rfl:k=l.length:=by omega
  rw[aR]
  simp(maxSteps:=30000000)(disch:=omega)only[go_sem,ll,dU]
 |succ d ih =>
  intro k hk;have hk':k<l.length:=by omega
  have c:(k:Int)<l.length:=by omega
  have e:=ih (k+1) (by omega)
  rw[dF]at e;have e3:bP 3 v (.int .i64 k)=some k:=by rw[dz hv (by omega) (by simp;omega)];simp
  have e4:=fun off=>dx (off:=off) hv.eO (show k<(aG l).length by simp;omega)
  have f3:bP 3 u (.int .i64 k)=some k:=by rw[dz hu (by omega) (by simp;omega)];simp
  have f4:=fun off=>dx (off:=off) hu.eO (show k<(aG l).length by simp;omega)
  simp only[o9,sn]at e4 f4;have eq:=ai8;rw[aR];simp(maxSteps:=30000000)(disch:=omega)only[go_sem,ll,c,e3,e4,f3,f4,eq,e]
theorem YK{h:Heap}{v u:AV}{l:List Sn}(hv:Sl h 3 v (aG l))(hu:Sl h 3 u (aG l))(hl:l.length<=9223372036854775807)(lo:Nat):(run lib).fn 31 [v,u] h lo=some (.bool true,h):=by
 have e:=ai9 hv hu hl l.length 0 (by omega)
 have lv:=bK hv.len;have lu:=bK hu.len;rw[gI]at lv lu;simp only[fH]at e;rw[aY (x:=x31) rfl rfl rfl rfl];simp(maxSteps:=30000000)(disch:=omega)only[go_sem,x31,lv,lu,e]
theorem YL(h:Heap)(lo:Nat):(run lib).fn 28 [.agg [.aN 0 []],.agg [.aN 0 []]] h lo=some (.bool true,h):=by
 have ll:jc false (.aN 0 [])=some (.int .i64 0):=rfl;rw[aY (x:=x28) rfl rfl rfl rfl];simp(maxSteps:=30000000)(disch:=omega)only[go_sem,x28,ll,aR,dU]
end Go.VI.Dump
namespace Go.VI.Dump
open Go.VI.Num
/- BIGSTEPS -/
def jM(l:List Sn)(x:Sn):List Sn:=if x.2.1<=x.1 then l else match l.getLast? with|some s=>if s.2.2=x.2.2 then l.dropLast++[(s.1,x.2.1,s.2.2)]else l++[x]|none=>l++[x]
theorem JU(l:List Sn)(x:Sn):(jM l x).length<=l.length+1:=by
 unfold jM;split
 ·omega
 ·split
  ·split
   ·simp
   ·simp
  ·simp
theorem JV{l:List Sn}(h:l≠[])(x:Sn):jM l x≠[]:=by
 unfold jM;split
 ·exact h
 ·split
  ·split
   ·simp
   ·simp
  ·simp
theorem F7{H:Heap}{id aj z:Nat}{es:List AV}(hb:H[id]?=some (aj,.arr z es)):Sl H z (.ref id aj z 0 es.length es.length) es:=by
 have hlt:id<H.length:=(bO.mp hb).1;have hs:=Sl.Er (h:=H.take id) (fr:=H.drop id) (s:=0) (aj:=aj) (z:=z) (es:=es) (by rw[mg];simpa using hb)
 rw[zY,jA,ul (Nat.le_of_lt hlt),Nat.add_zero]at hs;exact hs
theorem ai':jc false .aD=some (.int .i64 0):=rfl
theorem YM(a b o:Int){H:Heap}{lo:Nat}(hlo:lo<=H.length):(run lib).fn 127 [.aD,.agg [.int .i64 a,.int .i64 b,.int .i64 o]] H lo=some (if b<=a then .own 0 []else .own 3 [sn (a,b,o)],H):=by
 have rH:∀ fr:Heap,(H++fr).take H.length=H:=fun fr=>by rw[o7]
 have ap:=jk (lo:=lo) (ns:=1) (s:=0) (z:=3) (lim:=5864062014805) (h:=H) (fr:=[(0,.dead)]) (b0:=(0,.dead)) (es:=[]) (xs:=[.agg [.int .i64 a,.int .i64 b,.int .i64 o]]) (by omega) hlo rfl (by simp)
 have gv:=Ev (s:=0) (z:=3) (h:=H) (b0:=(0,.dead)) (es:=[.agg [.int .i64 a,.int .i64 b,.int .i64 o]]) (fr:=[aX (0,.dead) 3 [.agg [.int .i64 a,.int .i64 b,.int .i64 o]]]) rfl;rw[oU]at ap;simp only[List.nil_append,List.set_cons_zero]at ap;rw[iP (x:=uG) rfl rfl rfl rfl hlo];by_cases c:b<=a
 ·simp(maxSteps:=30000000)(disch:=omega)only[go_sem,uG,c,rH]
 ·rw[show eP 3 [AV.agg [.int .i64 a,.int .i64 b,.int .i64 o]]=.own 3 [sn (a,b,o)]from rfl]at gv
  simp(maxSteps:=30000000)(disch:=omega)only[go_sem,uG,c,ai',dU,ap,gv,rH]
theorem YN(a b o:Int){H:Heap}{lo:Nat}(hlo:lo<=H.length):(run lib).fn 127 [.aM 0 [],.agg [.int .i64 a,.int .i64 b,.int .i64 o]] H lo=some (if b<=a then .aM 0 []else .own 3 [sn (a,b,o)],H):=by
 have rH:∀ fr:Heap,(H++fr).take H.length=H:=fun fr=>by rw[o7]
 have l0:jc false (.aM 0 [])=some (.int .i64 0):=rfl
 have mk:bV ⟨lo,H.length,1,none⟩ 0 (.arr 3 [.agg [.int .i64 a,.int .i64 b,.int .i64 o]]) (H++[(0,.dead)])=some (1,H++[(1,.arr 3 [.agg [.int .i64 a,.int .i64 b,.int .i64 o]])]):=by
  have:=qN (lo:=lo) (ns:=1) (h:=H) (fr:=[(0,.dead)]) (s:=0) (b:=.arr 3 [.agg [.int .i64 a,.int .i64 b,.int .i64 o]]);rw[this];rfl
 have ap:dP ⟨lo,H.length,1,none⟩ 0 3 5864062014805 (.aM 0 []) [.agg [.int .i64 a,.int .i64 b,.int .i64 o]] (H++[(0,.dead)])=some (.ref (H.length+0) 1 3 0 1 1,H++[(1,.arr 3 [.agg [.int .i64 a,.int .i64 b,.int .i64 o]])]):=by
  simp[dP,mk]
 have gv:=Ev (s:=0) (z:=3) (h:=H) (b0:=(0,.dead)) (es:=[.agg [.int .i64 a,.int .i64 b,.int .i64 o]]) (fr:=[aX (0,.dead) 3 [.agg [.int .i64 a,.int .i64 b,.int .i64 o]]]) rfl;rw[show bq (H.length+0) (0,.dead) 3 [AV.agg [.int .i64 a,.int .i64 b,.int .i64 o]]=.ref (H.length+0) 1 3 0 1 1 from rfl,show aX (0,.dead) 3 [AV.agg [.int .i64 a,.int .i64 b,.int .i64 o]]=(1,.arr 3 [.agg [.int .i64 a,.int .i64 b,.int .i64 o]])from rfl]at gv
 rw[iP (x:=uG) rfl rfl rfl rfl hlo];by_cases c:b<=a
 ·have g0:∀ fr:Heap,eF H.length (.aM 0 []) (H++fr)=some (.aM 0 []):=fun fr=>rfl;simp(maxSteps:=30000000)(disch:=omega)only[go_sem,uG,c,rH,g0]
 ·rw[show eP 3 [AV.agg [.int .i64 a,.int .i64 b,.int .i64 o]]=.own 3 [sn (a,b,o)]from rfl]at gv
  simp(maxSteps:=30000000)(disch:=omega)only[go_sem,uG,c,l0,dU,ap,gv,rH]
theorem Jf{H fr:Heap}{id:Nat}{x:Nat×av}(h:id<H.length):(H++fr).set id x=H.set id x++fr:=List.set_append_left _ _ h
set_option maxHeartbeats 1000000 in
theorem Pq{H:Heap}{lo id aj:Nat}{l:List Sn}(hid:H[id]?=some (aj,.arr 3 (aG l)))(hne:l≠[])(hl:l.length<=5000)(hlo:lo<=id)(a b o:Int) :
  (run lib).fn 127 [.ref id aj 3 0 l.length l.length,.agg [.int .i64 a,.int .i64 b,.int .i64 o]] H lo=some (.ref id aj 3 0 (jM l (a,b,o)).length (jM l (a,b,o)).length,H.set id (aj,.arr 3 (aG (jM l (a,b,o))))):=by
 have hlt:id<H.length:=(bO.mp hid).1;have gD:∀ fr:Heap,(H++fr)[id]?=some (aj,.arr 3 (aG l)):=fun fr=>by rw[gN hlt];exact hid
 have s0:∀ fr:Heap,Sl (H++fr) 3 (.ref id aj 3 0 l.length l.length) (aG l):=fun fr=>by
  have:=F7 (gD fr);rw[gI]at this;exact this
 have ll:=bK (s0 []).len;rw[gI]at ll;have hsame:H.set id (aj,.arr 3 (aG l))=H:=oV hid;have rH:∀ fr:Heap,(H++fr).take H.length=H:=fun fr=>by rw[o7]
 have Dj:∀(x:Nat×av) (fr:Heap),(H.set id x++fr).take H.length=H.set id x:=fun x fr=>by
  conv=>lhs;rw[<-qJ (as:=H) (i:=id) (a:=x)]
  rw[o7]
 have g0:∀(v n:Nat) (h':Heap),eF H.length (.ref id v 3 0 n n) h'=some (.ref id v 3 0 n n):=fun v n h'=>by
  have:¬ H.length<=id:=by omega
  simp[eF,give,aU,this]
 rw[iP (x:=uG) rfl rfl rfl rfl (by omega)]
 by_cases c:b<=a
 ·rw[show jM l (a,b,o)=l from if_pos c,hsame]
  simp(maxSteps:=30000000)(disch:=omega)only[go_sem,uG,c,rH,g0]
 ·rcases List.eq_nil_or_concat l with h0|⟨O,r,h0⟩
  ·exact absurd h0 hne
  ·rw[List.concat_eq_append]at h0;obtain⟨ra,rb,rc⟩:=r;have hlen:l.length=O.length+1:=by rw[h0];simp
   have gp:0<(l.length:Int):=by omega
   have e5:bP 3 (.ref id aj 3 0 l.length l.length) (.int .i64 ((l.length:Int)-1))=some O.length:=by
    rw[show (l.length:Int)-1=O.length by omega,dz (s0 []) (by omega) (by simp;omega)];simp
   have e6:=fun off fr=>dx (off:=off) (s0 fr).eO (show O.length<(aG l).length by simp;omega)
   have hg:l[O.length]'(by omega)=(ra,rb,rc):=by simp only[h0];exact List.getElem_concat_length rfl (by simp)
   simp only[o9,sn,hg]at e6;by_cases c3:rc=o
   ·have hadd:jM l (a,b,o)=O++[(ra,b,rc)]:=by
     unfold jM;rw[if_neg c,h0];simp[c3]
    rw[hadd]
    have he:(aG l)[0+O.length]?=some (.agg [.int .i64 ra,.int .i64 rb,.int .i64 rc]):=by
     rw[je,gM (by simp;omega),o9,sn,hg]
    have hset:(aG l).set (0+O.length) (.agg [.int .i64 ra,.int .i64 b,.int .i64 rc])=aG (O++[(ra,b,rc)]):=by
     rw[h0];simp[aG,sn]
    have st:∀ fr:Heap,dK ⟨lo,H.length,1,none⟩ (H++fr) 1 (.di (.ref id aj 3 0 l.length l.length) O.length 1) (.int .i64 b)=some (H.set id (aj,.arr 3 (aG (O++[(ra,b,rc)])))++fr):=fun fr=>by
     rw[<-hset,<-Jf hlt];simp only[dK,aU,AV.cells,AV.val,gD,gI,je,aV,show O.length<l.length by omega,and_self,if_true,Option.bind_some,List.length_cons,kz,hlo,splice]
     rw[je]at he;simp[he]
    have c3':(rc=o)=True:=eq_true c3;have hl2:(O++[((ra,b,rc):Sn)]).length=l.length:=by simp;omega
    rw[hl2];simp(maxSteps:=30000000)(disch:=omega)only[go_sem,uG,c,ll,gp,e5,e6,c3',st,Dj,g0]
   ·have hadd:jM l (a,b,o)=l++[(a,b,o)]:=by
     unfold jM;rw[if_neg c];have:l.getLast?=some (ra,rb,rc):=by rw[h0];simp
     rw[this];simp[c3]
    rw[hadd,F4]
    have ap:∀ fr:Heap,dP ⟨lo,H.length,1,none⟩ 0 3 5864062014805 (.ref id aj 3 0 l.length l.length) [.agg [.int .i64 a,.int .i64 b,.int .i64 o]] (H++fr)=some (.ref id aj 3 0 (l.length+1) (l.length+1),H.set id (aj,.arr 3 (aG l++[.agg [.int .i64 a,.int .i64 b,.int .i64 o]]))++fr):=fun fr=>by
     have:=xB (cx:=⟨lo,H.length,1,none⟩) (s:=0) (z:=3) (lim:=5864062014805) (h:=H++fr) (xs:=[.agg [.int .i64 a,.int .i64 b,.int .i64 o]]) (gD fr) hlo (by simp;omega)
     rw[gI,Jf hlt]at this;simpa using this
    have hl2:(l++[((a,b,o):Sn)]).length=l.length+1:=by simp
    rw[hl2];simp(maxSteps:=30000000)(disch:=omega)only[go_sem,uG,c,ll,gp,e5,e6,c3,ap,Dj,g0]
end Go.VI.Dump
namespace Go.VI.Dump
open Go.VI.Num
/- BIGSTEPS -/
def tN(f t:Int)(s:Sn):Sn:=(max f s.1,min t s.2.1,s.2.2)
def jZ(f t:Int)(l tl:List Sn):List Sn:=tl.foldl (fun l s=>jM l (tN f t s)) l
theorem JW(f t:Int):∀(tl l:List Sn),(jZ f t l tl).length<=l.length+tl.length
 |[],l=>by simp[jZ]
 |s::tl,l=>by
  have:=JW f t tl (jM l (tN f t s));have:=JU l (tN f t s);simp only[jZ,List.foldl_cons,List.length_cons]at *;omega
theorem Ps(f t:Int):∀(tl:List Sn) {l:List Sn},l≠[]->jZ f t l tl≠[]
 |[],l,h=>h
 |s::tl,l,h=>by
  simp only[jZ,List.foldl_cons];exact Ps f t tl (JV h _)
def PV(n:Nat)(v:AV)(B:Nat×av)(l:List Sn):Prop:=(l=[]/\(v=.aD\/v=.aM 0 [])/\B=(0,.dead))\/(l≠[]/\v=.ref (n+0) (0+1) 3 0 l.length l.length/\B=(0+1,.arr 3 (aG l)))
theorem aja(cx:Cx)(h:Heap):iZ cx [(0,0)] (some (.own 0 [],h))=some (.aM 0 [],h):=by simp[iZ,iN,weak,dw]
theorem ajb(cx:Cx)(h:Heap):iZ cx [(0,0)] (some (.aM 0 [],h))=some (.aM 0 [],h):=by simp[iZ,iN,weak,dw]
theorem zu(cx:Cx)(s id aj z a b c:Nat)(h:Heap):iZ cx [(0,s)] (some (.ref id aj z a b c,h))=some (.ref id aj z a b c,h):=by simp[iZ,iN,weak,dw]
theorem ajc(x:Sn):jM [] x=if x.2.1<=x.1 then[] else[x]:=by unfold jM;split<;>rfl
set_option maxHeartbeats 4000000 in
theorem ajd{H:Heap}{lo:Nat}(hlo:lo<=H.length){tv:AV}{tl:List Sn}(hS:∀ fr,Sl (H++fr) 3 tv (aG tl))(htl:tl.length<=1000)(f t:Int):∀(d k:Nat) (v:AV) (B:Nat×av) (l:List Sn),k+d=tl.length->l.length<=k->PV H.length v B l ->
  ∃ v' B',PV H.length v' B' (jZ f t l (tl.drop k))/\aA lib ⟨lo,H.length,1,none⟩ (.loop IB) ([(0,v),(1,tv),(2,.int .i64 f),(3,.int .i64 t),(9,.int .i64 k)],H++[B])=some (.exit 0,([(0,v')],H++[B'])):=by
 have ll:=bK (hS []).len;rw[gI]at ll;intro d
 induction d with
 |zero =>
  intro k v B l hk _ hp;obtain rfl:k=tl.length:=by omega
  refine⟨v,B,by rw[kE];exact hp, ?_⟩
  rw[aR]
  simp(maxSteps:=30000000)(disch:=omega)only[go_sem,ll,dU]
 |succ d ih =>
  intro k v B l hk hl hp;have hk':k<tl.length:=by omega
  have c:(k:Int)<tl.length:=by omega
  have e3:bP 3 tv (.int .i64 k)=some k:=by rw[dz (hS []) (by omega) (by simp;omega)];simp
  have e4:=fun off fr=>dx (off:=off) (hS fr).eO (show k<(aG tl).length by simp;omega)
  simp only[o9,sn]at e4
  have hstep:jZ f t l (tl.drop k)=jZ f t (jM l (tN f t tl[k])) (tl.drop (k+1)):=by
   rw[gY hk'];rfl
  rw[hstep];have ih':=fun v B (hp':PV H.length v B (jM l (tN f t (tl[k]'hk'))))=>ih (k+1) v B (jM l (tN f t tl[k])) (by omega) (by have:=JU l (tN f t tl[k]);omega) hp'
  have hcl:tN f t tl[k]=(max f tl[k].1,min t tl[k].2.1,tl[k].2.2):=rfl;rw[hcl]at ih'⊢;generalize tl[k]=q at*;obtain⟨q1,q2,q3⟩:=q;simp only at e4 ih'⊢;rw[aR];rcases hp with⟨h0,hv,hB⟩|⟨hne,hv,hB⟩
  ·subst h0;subst hB;have n1:=YM (max f q1) (min t q2) q3 (H:=H++[(0,.dead)]) (lo:=lo) (by simp;omega)
   have n2:=YN (max f q1) (min t q2) q3 (H:=H++[(0,.dead)]) (lo:=lo) (by simp;omega)
   rw[ajc]at ih'⊢;simp only at ih'⊢;by_cases g:min t q2<=max f q1
   ·simp only[if_pos g]at n1 n2 ih'⊢;obtain⟨v',B',p1,e⟩:=ih' (.aM 0 []) (0,.dead) (.inl ⟨rfl,.inr rfl,rfl⟩);refine⟨v',B',p1, ?_⟩;rw[dF]at e;rcases hv with rfl|rfl
    ·simp(maxSteps:=30000000)(disch:=omega)only[go_sem,ll,c,e3,e4,n1,aja,e]
    ·simp(maxSteps:=30000000)(disch:=omega)only[go_sem,ll,c,e3,e4,n2,ajb,e]
   ·simp only[if_neg g]at n1 n2 ih'⊢;have tk:=BM (lo:=lo) (ns:=1) (s:=0) (z:=3) (h:=H) (fr:=[(0,.dead)]) (b0:=(0,.dead)) (es:=[sn (max f q1,min t q2,q3)]) (by omega) rfl (by simp)
    rw[show eP 3 [sn (max f q1,min t q2,q3)]=.own 3 [sn (max f q1,min t q2,q3)]from rfl]at tk
    simp only[List.set_cons_zero]at tk;obtain⟨v',B',p1,e⟩:=ih' (.ref (H.length+0) (0+1) 3 0 1 1) (0+1,.arr 3 [sn (max f q1,min t q2,q3)]) (.inr ⟨by simp,rfl,rfl⟩)
    refine⟨v',B',p1, ?_⟩;rw[dF]at e;rcases hv with rfl|rfl
    ·simp(maxSteps:=30000000)(disch:=omega)only[go_sem,ll,c,e3,e4,n1,tk,e]
    ·simp(maxSteps:=30000000)(disch:=omega)only[go_sem,ll,c,e3,e4,n2,tk,e]
  ·subst hB;subst hv;have hid:(H++[(0+1,av.arr 3 (aG l))])[H.length+0]?=some (0+1,.arr 3 (aG l)):=by rw[bH];rfl
   have r1:=Pq (lo:=lo) hid hne (by omega) (by omega) (max f q1) (min t q2) q3
   rw[eB]at r1;simp only[List.set_cons_zero]at r1;obtain⟨v',B',p1,e⟩:=ih' (.ref (H.length+0) (0+1) 3 0 (jM l (max f q1,min t q2,q3)).length (jM l (max f q1,min t q2,q3)).length) (0+1,.arr 3 (aG (jM l (max f q1,min t q2,q3)))) (.inr ⟨JV hne _,rfl,rfl⟩);refine⟨v',B',p1, ?_⟩;rw[dF]at e;simp(maxSteps:=30000000)(disch:=omega)only[go_sem,ll,c,e3,e4,r1,zu,e]
def aje(r:AV):Prop:=r=.own 0 []\/r=.aM 0 []
theorem ajf{H:Heap}{lo:Nat}(hlo:lo<=H.length){tv:AV}{tl:List Sn}(hS:∀ fr,Sl (H++fr) 3 tv (aG tl))(htl:tl.length<=1000)(f t:Int) :
  ∃ r,(run lib).fn 128 [.aD,tv,.int .i64 f,.int .i64 t] H lo=some (r,H)/\(jZ f t [] tl=[]/\aje r\/jZ f t [] tl≠[]/\r=.own 3 (aG (jZ f t [] tl))):=by
 obtain⟨v',B',p1,e⟩:=ajd hlo hS htl f t tl.length 0 .aD (0,.dead) [] (by omega) (by simp) (.inl ⟨rfl,.inl rfl,rfl⟩)
 rw[List.drop_zero]at p1;simp only[fH]at e;have rH:∀ fr:Heap,(H++fr).take H.length=H:=fun fr=>by rw[o7]
 obtain⟨w1,w2⟩:=tu (hS []);generalize jZ f t [] tl=R at*;rcases p1 with⟨h0,hv,hB⟩|⟨hne,hv,hB⟩
 ·subst hB;rcases hv with rfl|rfl
  ·refine⟨.own 0 [], ?_,.inl ⟨h0,.inl rfl⟩⟩;rw[iP (x:=xD) rfl rfl rfl rfl hlo];simp(maxSteps:=30000000)(disch:=omega)only[go_sem,xD,e,rH]
  ·refine⟨.aM 0 [], ?_,.inl ⟨h0,.inr rfl⟩⟩;have g0:∀ fr:Heap,eF H.length (.aM 0 []) (H++fr)=some (.aM 0 []):=fun fr=>rfl;rw[iP (x:=xD) rfl rfl rfl rfl hlo];simp(maxSteps:=30000000)(disch:=omega)only[go_sem,xD,e,rH,g0]
 ·subst hB;refine⟨.own 3 (aG R), ?_,.inr ⟨hne,rfl⟩⟩;have hne':aG R≠[]:=fun hh=>hne (zm.mp hh);have gv:=Ev (s:=0) (z:=3) (h:=H) (b0:=(0,.dead)) (es:=aG R) (fr:=[aX (0,.dead) 3 (aG R)]) rfl;rw[kF hne',lq hne',show eP 3 (aG R)=.own 3 (aG R)from if_neg hne',gI]at gv
  subst hv;rw[iP (x:=xD) rfl rfl rfl rfl hlo];simp(maxSteps:=30000000)(disch:=omega)only[go_sem,xD,e,rH,gv]
set_option maxHeartbeats 4000000 in
theorem ajg{H:Heap}{lo id aj:Nat}(hid:id<H.length)(hlo:lo<=id){tv:AV}{tl:List Sn}(hS:∀(x:Nat×av) fr,Sl (H.set id x++fr) 3 tv (aG tl))(htl:tl.length<=1000)(f t:Int):∀(d k:Nat) (l:List Sn),k+d=tl.length->l≠[]->l.length<=2000+k ->
  aA lib ⟨lo,H.length,1,none⟩ (.loop IB) ([(0,.ref id aj 3 0 l.length l.length),(1,tv),(2,.int .i64 f),(3,.int .i64 t),(9,.int .i64 k)],H.set id (aj,.arr 3 (aG l))++[(0,.dead)]) =
   some (.exit 0,([(0,.ref id aj 3 0 (jZ f t l (tl.drop k)).length (jZ f t l (tl.drop k)).length)],H.set id (aj,.arr 3 (aG (jZ f t l (tl.drop k))))++[(0,.dead)])):=by
 have ll:=bK (hS (0,.dead) []).len;rw[gI]at ll;intro d
 induction d with
 |zero =>
  intro k l hk _ _;obtain rfl:k=tl.length:=by omega
  rw[kE,show jZ f t l []=l from rfl,aR]
  simp(maxSteps:=30000000)(disch:=omega)only[go_sem,ll,dU]
 |succ d ih =>
  intro k l hk hne hl;have hk':k<tl.length:=by omega
  have c:(k:Int)<tl.length:=by omega
  have e3:bP 3 tv (.int .i64 k)=some k:=by rw[dz (hS (0,.dead) []) (by omega) (by simp;omega)];simp
  have e4:=fun off x fr=>dx (off:=off) (hS x fr).eO (show k<(aG tl).length by simp;omega)
  simp only[o9,sn]at e4
  have hstep:jZ f t l (tl.drop k)=jZ f t (jM l (tN f t tl[k])) (tl.drop (k+1)):=by
   rw[gY hk'];rfl
  rw[hstep];have e:=ih (k+1) (jM l (tN f t tl[k])) (by omega) (JV hne _) (by have:=JU l (tN f t tl[k]);omega)
  have hcl:tN f t tl[k]=(max f tl[k].1,min t tl[k].2.1,tl[k].2.2):=rfl;rw[hcl]at e⊢;rw[dF]at e;generalize tl[k]=q at*;obtain⟨q1,q2,q3⟩:=q;simp only at e4 e⊢;have hlt:id<(H.set id (aj,av.arr 3 (aG l))).length:=by rw[qJ];exact hid
  have ajh:(H.set id (aj,.arr 3 (aG l))++[(0,av.dead)])[id]?=some (aj,.arr 3 (aG l)):=by
   rw[gN hlt,lN hid]
  have r1:=Pq (lo:=lo) ajh hne (by omega) hlo (max f q1) (min t q2) q3
  rw[Jf hlt,List.set_set]at r1;rw[aR];simp(maxSteps:=30000000)(disch:=omega)only[go_sem,ll,c,e3,e4,r1,zu,e]
theorem YO{H:Heap}{lo id aj:Nat}{l:List Sn}(hid:H[id]?=some (aj,.arr 3 (aG l)))(hlo:lo<=id)(hne:l≠[])(hl:l.length<=2000){tv:AV}{tl:List Sn}(hS:∀(x:Nat×av) fr,Sl (H.set id x++fr) 3 tv (aG tl))(htl:tl.length<=1000)(f t:Int) :
  (run lib).fn 128 [.ref id aj 3 0 l.length l.length,tv,.int .i64 f,.int .i64 t] H lo=some (.ref id aj 3 0 (jZ f t l tl).length (jZ f t l tl).length,H.set id (aj,.arr 3 (aG (jZ f t l tl)))):=by
 have hlt:id<H.length:=(bO.mp hid).1;have e:=ajg (aj:=aj) hlt hlo hS htl f t tl.length 0 l (by omega) hne (by omega)
 rw[List.drop_zero,oV hid]at e;simp only[fH]at e
 have Dj:∀(x:Nat×av) (fr:Heap),(H.set id x++fr).take H.length=H.set id x:=fun x fr=>by
  conv=>lhs;rw[<-qJ (as:=H) (i:=id) (a:=x)]
  rw[o7]
 have g0:∀(v n:Nat) (h':Heap),eF H.length (.ref id v 3 0 n n) h'=some (.ref id v 3 0 n n):=fun v n h'=>by
  have:¬ H.length<=id:=by omega
  simp[eF,give,aU,this]
 obtain⟨w1,w2⟩:=tu (hS (0,.dead) []);rw[iP (x:=xD) rfl rfl rfl rfl (by omega)]
 simp(maxSteps:=30000000)(disch:=omega)only[go_sem,xD,e,Dj,g0]
end Go.VI.Dump
namespace Go.VI.Dump
open Go.VI.Num
/- BIGSTEPS -/
theorem YP(cx:Cx)(s:Nat)(h:Heap):iZ cx [(0,s)] (some (.own 0 [],h))=some (.aM 0 [],h):=by simp[iZ,iN,weak,dw]
theorem YQ(cx:Cx)(s:Nat)(h:Heap):iZ cx [(0,s)] (some (.aM 0 [],h))=some (.aM 0 [],h):=by simp[iZ,iN,weak,dw]
def YR(r:AV):Prop:=r=.tuple [.own 0 [],.int .i64 150]\/∃ R:List Sn,R≠[]/\R.length<=200/\r=.tuple [.own 3 (aG R),.int .i64 0]
set_option maxHeartbeats 4000000 in
theorem YS{h:Heap}{v:AV}{tl:List Sn}(hv:Sl h 3 v (aG tl))(hl:tl.length<=9223372036854775807)(a b o:Int)(lo:Nat) :
  ∃ r,(run lib).fn 86 [v,.agg [.int .i64 a,.int .i64 b,.int .i64 o]] h lo=some (r,h)/\YR r:=by
 have ev:=fun fr lo=>JQ (hv.app fr) hl lo;have ee:=fun fr lo=>YE (hv.app fr) hl lo;obtain⟨w1,w2⟩:=tu hv;cases c1:mU tl
 ·rw[c1]at ev;refine⟨.tuple [.own 0 [],.int .i64 150], ?_,.inl rfl⟩;rw[aY (x:=x86) rfl rfl rfl rfl];simp(maxSteps:=30000000)(disch:=omega)only[go_sem,x86,ev]
 ·rw[c1]at ev
  have htl:tl.length<=200:=by
   unfold mU at c1;simp only[bg,decide_eq_true_eq]at c1;omega
  by_cases c2:a<0
  ·refine⟨.tuple [.own 0 [],.int .i64 150], ?_,.inl rfl⟩;rw[aY (x:=x86) rfl rfl rfl rfl];simp(maxSteps:=30000000)(disch:=omega)only[go_sem,x86,ev,c2]
  ·by_cases c3:b<=a
   ·refine⟨.tuple [.own 0 [],.int .i64 150], ?_,.inl rfl⟩;rw[aY (x:=x86) rfl rfl rfl rfl];simp(maxSteps:=30000000)(disch:=omega)only[go_sem,x86,ev,c2,c3]
   ·by_cases c4:qc tl<b
    ·refine⟨.tuple [.own 0 [],.int .i64 150], ?_,.inl rfl⟩;rw[aY (x:=x86) rfl rfl rfl rfl];simp(maxSteps:=30000000)(disch:=omega)only[go_sem,x86,ev,ee,c2,c3,c4]
    ·by_cases c5:o<0
     ·refine⟨.tuple [.own 0 [],.int .i64 150], ?_,.inl rfl⟩;rw[aY (x:=x86) rfl rfl rfl rfl];simp(maxSteps:=30000000)(disch:=omega)only[go_sem,x86,ev,ee,c2,c3,c4,c5]
     ·by_cases c6:2999<o
      ·refine⟨.tuple [.own 0 [],.int .i64 150], ?_,.inl rfl⟩;rw[aY (x:=x86) rfl rfl rfl rfl];simp(maxSteps:=30000000)(disch:=omega)only[go_sem,x86,ev,ee,c2,c3,c4,c5,c6]
      ·obtain⟨r,e1,hr⟩:=ajf (H:=h++[(0,.dead),(0,.dead),(0,.dead)]) (lo:=h.length) (by simp) (fun fr=>by rw[eH];exact hv.app _) (by omega) 0 a
       have hpl:=JW 0 a tl [];generalize jZ 0 a [] tl=L1 at*;simp only[kz]at hpl;rcases hr with⟨h0,hr⟩|⟨hne,hr⟩
       ·have n2:=YN a b o (H:=h++[(0,.dead),(0,.dead),(0,.dead)]) (lo:=h.length) (by simp)
        rw[if_neg c3]at n2;have tk:=BM (lo:=h.length) (ns:=3) (s:=1) (z:=3) (h:=h) (fr:=[(0,.dead),(0,.dead),(0,.dead)]) (b0:=(0,.dead)) (es:=[sn (a,b,o)]) (by omega) rfl (by simp)
        rw[show eP 3 [sn (a,b,o)]=.own 3 [sn (a,b,o)]from rfl]at tk
        have p2:=YO (H:=h++[(0,.dead),(0+1,.arr 3 (aG [(a,b,o)])),(0,.dead)]) (lo:=h.length) (id:=h.length+1) (aj:=0+1) (l:=[(a,b,o)]) (by rw[bH];rfl) (by omega) (by simp) (by simp) (fun x fr=>by rw[eB,eH];exact hv.app _) (show tl.length<=1000 by omega) b (qc tl)
        have hne2:=Ps b (qc tl) tl (l:=[(a,b,o)]) (by simp)
        have hl2:=JW b (qc tl) tl [(a,b,o)];generalize jZ b (qc tl) [(a,b,o)] tl=R at*;rw[eB]at p2;simp only[List.length_cons,kz,List.set_cons_zero,List.set_cons_succ,show aG [(a,b,o)]=[sn (a,b,o)]from rfl]at p2 hl2 tk
        have sR:=Sl.acc (h:=h) (fr:=[(0,.dead),aX (0,.dead) 3 (aG R),(0,.dead)]) (s:=1) (z:=3) (b0:=(0,.dead)) (es:=aG R) rfl;have hnR:aG R≠[]:=fun hh=>hne2 (zm.mp hh);have lR:=bK sR.len;have gv:=mq (s:=1) (z:=3) (h:=h) (b0:=(0,.dead)) (es:=aG R) (fr:=[(0,.dead),aX (0,.dead) 3 (aG R),(0,.dead)]) rfl;rw[kF hnR,gI]at lR;rw[kF hnR,lq hnR,show eP 3 (aG R)=.own 3 (aG R)from if_neg hnR,gI]at gv
        by_cases c7:200<(R.length:Int)
        ·refine⟨.tuple [.own 0 [],.int .i64 150], ?_,.inl rfl⟩;rw[aY (x:=x86) rfl rfl rfl rfl];rcases hr with rfl|rfl
         ·simp(maxSteps:=30000000)(disch:=omega)only[go_sem,x86,ev,ee,c2,c3,c4,c5,c6,e1,YP,n2,tk,p2,zu,lR,c7]
         ·simp(maxSteps:=30000000)(disch:=omega)only[go_sem,x86,ev,ee,c2,c3,c4,c5,c6,e1,YQ,n2,tk,p2,zu,lR,c7]
        ·refine⟨.tuple [.own 3 (aG R),.int .i64 0], ?_,.inr ⟨R,hne2,by omega,rfl⟩⟩
         rw[aY (x:=x86) rfl rfl rfl rfl];rcases hr with rfl|rfl
         ·simp(maxSteps:=30000000)(disch:=omega)only[go_sem,x86,ev,ee,c2,c3,c4,c5,c6,e1,YP,n2,tk,p2,zu,lR,c7,gv]
         ·simp(maxSteps:=30000000)(disch:=omega)only[go_sem,x86,ev,ee,c2,c3,c4,c5,c6,e1,YQ,n2,tk,p2,zu,lR,c7,gv]
       ·subst hr;have hn1:aG L1≠[]:=fun hh=>hne (zm.mp hh);have tk:=BM (lo:=h.length) (ns:=3) (s:=2) (z:=3) (h:=h) (fr:=[(0,.dead),(0,.dead),(0,.dead)]) (b0:=(0,.dead)) (es:=aG L1) (by omega) rfl hn1
        rw[show eP 3 (aG L1)=.own 3 (aG L1)from if_neg hn1]at tk
        have r1:=Pq (H:=h++[(0,.dead),(0,.dead),(0+1,.arr 3 (aG L1))]) (lo:=h.length) (id:=h.length+2) (aj:=0+1) (l:=L1) (by rw[bH];rfl) hne (by omega) (by omega) a b o
        have hne1:=JV hne (a,b,o);have hl1:=JU L1 (a,b,o);generalize jM L1 (a,b,o)=L2 at*;rw[eB]at r1;have p2:=YO (H:=h++[(0,.dead),(0,.dead),(0+1,.arr 3 (aG L2))]) (lo:=h.length) (id:=h.length+2) (aj:=0+1) (l:=L2) (by rw[bH];rfl) (by omega) hne1 (by omega) (fun x fr=>by rw[eB,eH];exact hv.app _) (show tl.length<=1000 by omega) b (qc tl)
        have hne2:=Ps b (qc tl) tl hne1;have hl2:=JW b (qc tl) tl L2;generalize jZ b (qc tl) L2 tl=R at*;rw[eB]at p2;simp only[gI,List.set_cons_zero,List.set_cons_succ]at p2 tk r1;have sR:=Sl.acc (h:=h) (fr:=[(0,.dead),(0,.dead),aX (0,.dead) 3 (aG R)]) (s:=2) (z:=3) (b0:=(0,.dead)) (es:=aG R) rfl;have hnR:aG R≠[]:=fun hh=>hne2 (zm.mp hh);have lR:=bK sR.len;have gv:=mq (s:=2) (z:=3) (h:=h) (b0:=(0,.dead)) (es:=aG R) (fr:=[(0,.dead),(0,.dead),aX (0,.dead) 3 (aG R)]) rfl;rw[kF hnR,gI]at lR;rw[kF hnR,lq hnR,show eP 3 (aG R)=.own 3 (aG R)from if_neg hnR,gI]at gv
        by_cases c7:200<(R.length:Int)
        ·refine⟨.tuple [.own 0 [],.int .i64 150], ?_,.inl rfl⟩;rw[aY (x:=x86) rfl rfl rfl rfl];simp(maxSteps:=30000000)(disch:=omega)only[go_sem,x86,ev,ee,c2,c3,c4,c5,c6,e1,tk,r1,p2,zu,lR,c7]
        ·refine⟨.tuple [.own 3 (aG R),.int .i64 0], ?_,.inr ⟨R,hne2,by omega,rfl⟩⟩
         rw[aY (x:=x86) rfl rfl rfl rfl];simp(maxSteps:=30000000)(disch:=omega)only[go_sem,x86,ev,ee,c2,c3,c4,c5,c6,e1,tk,r1,p2,zu,lR,c7,gv]
theorem aji{L:Int}(hL:1<=L/\L<=10000000)(h:Heap)(lo:Nat):(run lib).fn 85 [.int .i64 L,.int .i64 0] h lo=some (.tuple [.own 3 [sn (0,L,0)],.int .i64 0],h):=by
 have c1:¬ L<0:=by omega
 have c2:¬ 10000000<L:=by omega
 have n1:=YM 0 L 0 (H:=h++[(0,.dead)]) (lo:=h.length) (by simp)
 rw[if_neg (by omega)]at n1
 have tk:=BM (lo:=h.length) (ns:=1) (s:=0) (z:=3) (h:=h) (fr:=[(0,.dead)]) (b0:=(0,.dead)) (es:=[sn (0,L,0)]) (by omega) rfl (by simp)
 rw[show eP 3 [sn (0,L,0)]=.own 3 [sn (0,L,0)]from rfl]at tk
 have gv:=mq (s:=0) (z:=3) (h:=h) (b0:=(0,.dead)) (es:=[sn (0,L,0)]) (fr:=[aX (0,.dead) 3 [sn (0,L,0)]]) rfl;rw[kF (by simp),lq (by simp),show eP 3 [sn (0,L,0)]=.own 3 [sn (0,L,0)]from rfl]at gv
 simp only[List.length_cons,kz]at gv tk;rw[aY (x:=x85) rfl rfl rfl rfl];simp(maxSteps:=30000000)(disch:=omega)only[go_sem,x85,c1,c2,n1,tk,gv]
end Go.VI.Dump
namespace Go.VI.Dump
open Go.VI.Num
/- BIGSTEPS -/
def JX(L:Int)(x:Tr):Int:=fD x.1 L
def tO(L:Int)(x:Tr):Sn:=(JX L x,JX L x+1+fD x.2.1 (L-JX L x),fD x.2.2 8)
set_option maxHeartbeats 1000000 in
theorem ajj{h:Heap}{v:AV}{xs:List Tr}(hv:Sl h 3 v (oK xs))(hl:xs.length<=9223372036854775807)(hi:∀ x∈xs,fA x.1/\fA x.2.1/\fA x.2.2){L:Int}(hL:1<=L/\L<=1000):∀(d k:Nat),k+d=min xs.length 20 ->
  aA lib ⟨h.length,h.length,1,none⟩ (.loop Mr) ([(0,.int .i64 L),(1,v),(5,bq (h.length+0) (0,.dead) 3 (aG ((xs.take k).map (tO L)))),(6,.int .i64 k)],h++[aX (0,.dead) 3 (aG ((xs.take k).map (tO L)))]) =
   some (.exit 0,([(5,bq (h.length+0) (0,.dead) 3 (aG ((xs.take 20).map (tO L))))],h++[aX (0,.dead) 3 (aG ((xs.take 20).map (tO L)))])):=by
 have ll:=bK hv.len;rw[Yh]at ll;intro d
 induction d with
 |zero =>
  intro k hk
  have ht:xs.take k=xs.take 20:=by
   by_cases c:xs.length<=20
   ·rw[pI (by omega),pI c]
   ·rw[show k=20 by omega]
  rw[ht,aR];by_cases c:(k:Int)<xs.length
  ·have c6:¬ (k:Int)<20:=by omega
   simp(maxSteps:=30000000)(disch:=omega)only[go_sem,ll,c,c6]
  ·simp(maxSteps:=30000000)(disch:=omega)only[go_sem,ll,c]
 |succ d ih =>
  intro k hk;have hk':k<xs.length:=by omega
  have c:(k:Int)<xs.length:=by omega
  have c6:(k:Int)<20:=by omega
  have e:=ih (k+1) (by omega)
  have e3:bP 3 v (.int .i64 k)=some k:=by rw[dz hv (by omega) (by simp;omega)];simp
  have e4:=fun off fr=>dx (off:=off) (hv.elems fr) (show k<(oK xs).length by simp;omega)
  simp only[Yi,FT]at e4;obtain⟨i1,i2,i3⟩:=hi xs[k] (ja _);rw[qU hk',List.map_append,List.map_cons,List.map_nil,tO,F4,dF]at e;have hlen:((xs.take k).map (tO L)).length<=20:=by rw[uq,jA];omega
  generalize xs[k]=x at*;obtain⟨x1,x2,x3⟩:=x;simp only[JX]at e4 i1 i2 i3 e;have r1:=qY x1 (n:=L) (by omega)
  have p1:=fun H lo=>Pp (n:=L) (by omega) i1 H lo
  have p2:=fun H lo=>Pp (n:=L-fD x1 L) (by omega) i2 H lo
  have p3:=fun H lo=>Pp (n:=8) (by decide) i3 H lo
  have r2:=qY x2 (n:=L-fD x1 L) (by omega)
  generalize fD x1 L=u at*;generalize fD x2 (L-u)=w at*;generalize fD x3 8=t at*;generalize (xs.take k).map (tO L)=P at*;have ap:=jk (lo:=h.length) (ns:=1) (s:=0) (z:=3) (lim:=5864062014805) (h:=h) (fr:=[aX (0,.dead) 3 (aG P)]) (b0:=(0,.dead)) (es:=aG P) (xs:=[.agg [.int .i64 u,.int .i64 (u+1+w),.int .i64 t]]) (by omega) (by omega) rfl (by simp;omega)
  have ck:∀ es,zV (some (aX (0,.dead) 3 es))=true:=fun es=>tH 3 es;rw[aR];simp(maxSteps:=30000000)(disch:=omega)only[go_sem,ll,c,c6,e3,e4,p1,p2,p3,ck,ap,e]
theorem ajk{h:Heap}{v:AV}{xs:List Tr}(hv:Sl h 3 v (oK xs))(hl:xs.length<=9223372036854775807)(hi:∀ x∈xs,fA x.1/\fA x.2.1/\fA x.2.2){L:Int}(hL:1<=L/\L<=1000)(lo:Nat) :
  (run lib).fn 47 [.int .i64 L,v] h lo=some (eP 3 (aG ((xs.take 20).map (tO L))),h):=by
 have e:=ajj hv hl hi hL (min xs.length 20) 0 (by omega)
 simp only[fH,xC,List.map_nil,show aG []=[]from rfl,oU,qO]at e
 have gv:=Ev (s:=0) (z:=3) (h:=h) (b0:=(0,.dead)) (es:=aG ((xs.take 20).map (tO L))) (fr:=[aX (0,.dead) 3 (aG ((xs.take 20).map (tO L)))]) rfl;obtain⟨w1,w2⟩:=tu hv;rw[aY (x:=Ms) rfl rfl rfl rfl];simp(maxSteps:=30000000)(disch:=omega)only[go_sem,Ms,e,gv]
def PS(h:Heap)(v:AV)(B0 B1:Nat×av)(R:List Sn):Prop :=
 (R≠[]/\v=.ref (h.length+1) (0+1) 3 0 R.length R.length/\B1=(0+1,.arr 3 (aG R)))\/(R≠[]/\∃ w,v=.ref (h.length+0) w 3 0 R.length R.length/\B0=(w,.arr 3 (aG R)))\/(R=[]/\v=.aM 0 [])
theorem PS.sl{h:Heap}{v:AV}{B0 B1:Nat×av}{R:List Sn}(p:PS h v B0 B1 R):Sl (h++[B0,B1]) 3 v (aG R):=by
 rcases p with⟨_,rfl,rfl⟩|⟨_,w,rfl,rfl⟩|⟨rfl,rfl⟩
 ·have:=F7 (H:=h++[B0,(0+1,.arr 3 (aG R))]) (id:=h.length+1) (aj:=0+1) (z:=3) (es:=aG R) (by rw[bH];rfl)
  rw[gI]at this;exact this
 ·have:=F7 (H:=h++[(w,.arr 3 (aG R)),B1]) (id:=h.length+0) (aj:=w) (z:=3) (es:=aG R) (by rw[bH];rfl)
  rw[gI]at this;exact this
 ·exact⟨by simp[VI.fe],fun _=>rfl,rfl⟩
set_option maxHeartbeats 1000000 in
theorem ajl{h:Heap}{S:List Sn}{sv:AV}(hS:∀ H,Sl H 3 sv (aG S))(Pv:S.length<=1000):∀(d k:Nat) (v:AV) (err:Int) (B0 B1:Nat×av) (R:List Sn),k+d=S.length->PS h v B0 B1 R->R.length<=200 ->
  ∃ v' tQ qx oL R',PS h v' qx oL R'/\R'.length<=200/\aA lib ⟨h.length,h.length,2,none⟩ (.loop Mq) ([(2,sv),(8,v),(9,.int .i64 err),(10,.int .i64 k)],h++[B0,B1])=some (.exit 0,([(8,v'),(9,.int .i64 tQ)],h++[qx,oL])):=by
 have ll:=bK (hS h).len;rw[gI]at ll;intro d
 induction d with
 |zero =>
  intro k v err B0 B1 R hk hp hR;obtain rfl:k=S.length:=by omega
  refine⟨v,err,B0,B1,R,hp,hR, ?_⟩;rw[aR]
  simp(maxSteps:=30000000)(disch:=omega)only[go_sem,ll,dU]
 |succ d ih =>
  intro k v err B0 B1 R hk hp hR;have hk':k<S.length:=by omega
  have c:(k:Int)<S.length:=by omega
  by_cases c2:err=0
  ·have c2':(err=0)=True:=eq_true c2;have e3:bP 3 sv (.int .i64 k)=some k:=by rw[dz (hS h) (by omega) (by simp;omega)];simp
   have e4:=fun off H=>dx (off:=off) (hS H).eO (show k<(aG S).length by simp;omega)
   simp only[o9,sn]at e4;generalize S[k]=q at*;obtain⟨q1,q2,q3⟩:=q;simp only at e4;obtain⟨r,_,hr⟩:=YS hp.sl (by omega) q1 q2 q3 h.length
   have pr:∀ lo,∃ r,(run lib).fn 86 [v,.agg [.int .i64 q1,.int .i64 q2,.int .i64 q3]] (h++[B0,B1]) lo=some (r,h++[B0,B1])/\YR r:=fun lo=>YS hp.sl (by omega) q1 q2 q3 lo
   obtain⟨r,e1,hr⟩:=pr h.length;rcases hr with rfl|⟨R',hne,hR',rfl⟩
   ·obtain⟨v',tQ,qx,oL,R',g1,g2,e⟩:=ih (k+1) (.aM 0 []) 150 B0 B1 [] (by omega) (.inr (.inr ⟨rfl,rfl⟩)) (by simp)
    refine⟨v',tQ,qx,oL,R',g1,g2, ?_⟩;rw[dF]at e;have tk:=fun cx h=>ad6 (cx:=cx) (s:=0) (h:=h) (r:=[.int .i64 150]);simp only[List.map_cons,List.map_nil,dw]at tk;rw[aR];simp(maxSteps:=30000000)(disch:=omega)only[go_sem,ll,c,c2',e3,e4,e1,tk,e]
   ·obtain⟨v0,b0⟩:=B0;have hn':aG R'≠[]:=fun hh=>hne (zm.mp hh);have tk:=LB (lo:=h.length) (ns:=2) (s:=0) (z:=3) (h:=h) (fr:=[(v0,b0),B1]) (b0:=(v0,b0)) (es:=aG R') (r:=[.int .i64 0]) (by omega) rfl hn'
    rw[show eP 3 (aG R')=.own 3 (aG R')from if_neg hn']at tk
    simp only[List.map_cons,List.map_nil,dw,List.set_cons_zero,gI]at tk;obtain⟨v',tQ,qx,oL,R'',g1,g2,e⟩:=ih (k+1) (.ref (h.length+0) (v0+1) 3 0 R'.length R'.length) 0 (v0+1,.arr 3 (aG R')) B1 R' (by omega) (.inr (.inl ⟨hne,v0+1,rfl,rfl⟩)) hR'
    refine⟨v',tQ,qx,oL,R'',g1,g2, ?_⟩;rw[dF]at e;rw[aR];simp(maxSteps:=30000000)(disch:=omega)only[go_sem,ll,c,c2',e3,e4,e1,tk,e]
  ·refine⟨v,err,B0,B1,R,hp,hR, ?_⟩;rw[aR];simp(maxSteps:=30000000)(disch:=omega)only[go_sem,ll,c,c2]
def YT(r:AV):Prop:=∃(R:List Sn) (e:Int),R.length<=200/\(R≠[]/\r=.tuple [.own 3 (aG R),.int .i64 e]\/R=[]/\r=.tuple [.aM 0 [],.int .i64 e])
set_option maxHeartbeats 1000000 in
theorem ajm{h:Heap}{S:List Sn}{sv:AV}(hS:∀ H,Sl H 3 sv (aG S))(Pv:S.length<=1000){L:Int}(hL:1<=L/\L<=10000000)(lo:Nat):∃ r,(run lib).fn 46 [.int .i64 L,.int .i64 0,sv] h lo=some (r,h)/\YT r:=by
 have nw:=fun H lo=>aji hL H lo;have tk:=LB (lo:=h.length) (ns:=2) (s:=1) (z:=3) (h:=h) (fr:=[(0,.dead),(0,.dead)]) (b0:=(0,.dead)) (es:=[sn (0,L,0)]) (r:=[.int .i64 0]) (by omega) rfl (by simp)
 rw[show eP 3 [sn (0,L,0)]=.own 3 [sn (0,L,0)]from rfl]at tk
 simp only[List.map_cons,List.map_nil,dw,List.set_cons_zero,List.set_cons_succ,List.length_cons,kz]at tk;obtain⟨v',tQ,qx,oL,R',g1,g2,e⟩:=ajl hS Pv S.length 0 (.ref (h.length+1) (0+1) 3 0 (0+1) (0+1)) 0 (0,.dead) (0+1,.arr 3 [sn (0,L,0)]) [(0,L,0)] (by omega) (.inl ⟨by simp,rfl,rfl⟩) (by simp)
 simp only[fH]at e;obtain⟨w1,w2⟩:=tu (hS h);rcases g1 with⟨hne,rfl,rfl⟩|⟨hne,w,rfl,rfl⟩|⟨h0,rfl⟩
 ·have hn':aG R'≠[]:=fun hh=>hne (zm.mp hh);have gv:=mq (s:=1) (z:=3) (h:=h) (b0:=(0,.dead)) (es:=aG R') (fr:=[qx,aX (0,.dead) 3 (aG R')]) rfl;rw[kF hn',lq hn',show eP 3 (aG R')=.own 3 (aG R')from if_neg hn',gI]at gv
  refine⟨.tuple [.own 3 (aG R'),.int .i64 tQ], ?_,R',tQ,g2,.inl ⟨hne,rfl⟩⟩;rw[aY (x:=z8) rfl rfl rfl rfl];simp(maxSteps:=30000000)(disch:=omega)only[go_sem,z8,nw,tk,e,gv]
 ·have hn':aG R'≠[]:=fun hh=>hne (zm.mp hh)
  have gv:give h.length (.ref (h.length+0) w 3 0 R'.length R'.length) (h++[(w,.arr 3 (aG R')),oL])=some (.own 3 (aG R'),(h++[(w,.arr 3 (aG R')),oL]).set (h.length+0) (w,.dead)):=by
   have hg:(h++[(w,av.arr 3 (aG R')),oL])[h.length+0]?=some (w,.arr 3 (aG R')):=by rw[bH];rfl
   simp only[Nat.add_zero]at hg⊢;simp[give,dW];exact pI (by simp)
  refine⟨.tuple [.own 3 (aG R'),.int .i64 tQ], ?_,R',tQ,g2,.inl ⟨hne,rfl⟩⟩;rw[aY (x:=z8) rfl rfl rfl rfl];simp(maxSteps:=30000000)(disch:=omega)only[go_sem,z8,nw,tk,e,gv]
 ·have g0:∀(b:Nat) (H:Heap),give b (.aM 0 []) H=some (.aM 0 [],H):=fun b H=>rfl;refine⟨.tuple [.aM 0 [],.int .i64 tQ], ?_,R',tQ,g2,.inr ⟨h0,rfl⟩⟩;rw[aY (x:=z8) rfl rfl rfl rfl];simp(maxSteps:=30000000)(disch:=omega)only[go_sem,z8,nw,tk,e,g0]
end Go.VI.Dump
namespace Go.VI.Dump
open Go.VI.Num
/- BIGSTEPS -/
theorem ajn(cx:Cx)(e:Int)(h:Heap):iZ cx [(0,0)] (some (.tuple [.aM 0 [],.int .i64 e],h))=some (.tuple [.aM 0 [],.int .i64 e],h):=by simp[iZ,iN,weak,dw]
set_option maxHeartbeats 1000000 in
theorem ajo{a b c:Int}(ha:fA a)(hb:fA b)(hc:fA c){h:Heap}{v w:AV}{d g:List Tr}(hv:∀ H,Sl H 3 v (oK d))(hl:d.length<=9223372036854775807)(hi:∀ x∈d,fA x.1/\fA x.2.1/\fA x.2.2)
  (hw:∀ H,Sl H 3 w (oK g)) (hgl:g.length<=9223372036854775807) (hgi:∀ x∈g,fA x.1/\fA x.2.1/\fA x.2.2) (lo:Nat) :
  ∃ r,(run lib).fn 12 [.int .i64 a,.int .i64 b,.int .i64 c,v,w] h lo=some (.tuple [FU (xS a b c d),r],h)/\∃ R:List Sn,R.length<=200/\(R≠[]/\r=.own 3 (aG R)\/R=[]/\r=.aM 0 []):=by
 have md:=fun H lo=>Yk ha hb hc (hv H) hl hi lo;have ok:=Ym a b c d;generalize xS a b c d=l at*;have hL:=ok.L;rw[<-Yo]at md⊢;have hLx:(fU l).l.L=l.L:=rfl;have sp:=fun H lo=>ajk (hw H) hgl hgi (L:=l.L) (by omega) lo
 have Pv:((g.take 20).map (tO l.L)).length<=20:=by rw[uq,jA];omega
 generalize (g.take 20).map (tO l.L)=S at*;obtain⟨w1,w2⟩:=tu (hv h);obtain⟨u1,u2⟩:=tu (hw h)
 have pr:∃ r,(run lib).fn 46 [.int .i64 l.L,.int .i64 0,dG 3 (aG S)] (h++[(0,.dead),(1,.box [.int .i64 l.L,.int .i64 l.D,.int .i64 l.E,pV (fU l),cV (fU l)]),(1,.box [.int .i64 0,.int .i64 0,.int .i64 0,.aD,.aD])]) h.length=some (r,h++[(0,.dead),(1,.box [.int .i64 l.L,.int .i64 l.D,.int .i64 l.E,pV (fU l),cV (fU l)]),(1,.box [.int .i64 0,.int .i64 0,.int .i64 0,.aD,.aD])])/\YT r :=
  ajm (fun H=>mZ 3 (aG S) H) (by omega) (by omega) h.length
 obtain⟨r,e1,R,e,hR,hr⟩:=pr;unfold bI at md⊢;simp only[Yp]at md⊢;rcases hr with⟨hne,rfl⟩|⟨h0,rfl⟩
 ·have hn':aG R≠[]:=fun hh=>hne (zm.mp hh);have tk:=LB (lo:=h.length) (ns:=3) (s:=0) (z:=3) (h:=h) (fr:=[(0,.dead),(1,.box [.int .i64 l.L,.int .i64 l.D,.int .i64 l.E,pV (fU l),cV (fU l)]),(1,.box [.int .i64 0,.int .i64 0,.int .i64 0,.aD,.aD])]) (b0:=(0,.dead)) (es:=aG R) (r:=[.int .i64 e]) (by omega) rfl hn'
  rw[show eP 3 (aG R)=.own 3 (aG R)from if_neg hn']at tk
  simp only[List.map_cons,List.map_nil,dw,List.set_cons_zero,gI]at tk;have gv:=fun x y=>mq (s:=0) (z:=3) (h:=h) (b0:=(0,.dead)) (es:=aG R) (fr:=[aX (0,.dead) 3 (aG R),x,y]) rfl;rw[kF hn',lq hn',show eP 3 (aG R)=.own 3 (aG R)from if_neg hn',gI]at gv
  refine⟨.own 3 (aG R), ?_,R,hR,.inl ⟨hne,rfl⟩⟩;rw[aY (x:=ED) rfl rfl rfl rfl];simp(maxSteps:=30000000)(disch:=omega)only[go_sem,ED,md,sp,e1,tk,gv]
 ·have g0:∀(b:Nat) (H:Heap),give b (.aM 0 []) H=some (.aM 0 [],H):=fun b H=>rfl;refine⟨.aM 0 [], ?_,R,hR,.inr ⟨h0,rfl⟩⟩;rw[aY (x:=ED) rfl rfl rfl rfl];simp(maxSteps:=30000000)(disch:=omega)only[go_sem,ED,md,sp,e1,ajn,g0]
end Go.VI.Dump
namespace Go.VI.Dump
open Go.VI.Num
/- BIGSTEPS -/
def lH:Heap:=List.replicate 13 (0,.dead)
abbrev iy:Heap:=lH++[(1,.box [.aN 0 []]),(1,.box [.aN 4 (bZ [(4,5),(8,11),(12,15)])]),(1,.box [.int .i64 12,.int .i64 3,.int .i64 2,pV x0,cV x0])]
set_option maxRecDepth 100000
theorem ajp:(run lib).fn 14 [.agg [.int .i64 4,.int .i64 1,.int .i64 2,.aD,.aM 2 [.agg [.int .i64 0,.int .i64 3]]]] iy lH.length=some (.tuple [.own 1 (ints [-1,-1,-1,3]),.int .i64 0],iy):=(kM lib).mpr ⟨3000,by kernel_rfl⟩
theorem ajq:(run lib).fn 14 [.agg [.int .i64 0,.int .i64 0,.int .i64 0,.aD,.aD]] iy lH.length=some (.tuple [.own 0 [],.int .i64 200],iy):=(kM lib).mpr ⟨3000,by kernel_rfl⟩
theorem ajr:(run lib).fn 22 [.agg [.int .i64 0,.int .i64 0,.int .i64 0,.aD,.aD]] iy lH.length=some (.bool false,iy):=(kM lib).mpr ⟨3000,by kernel_rfl⟩
theorem ajs:(run lib).fn 29 [v0,.aM 3 [.agg [.int .i64 0,.int .i64 5,.int .i64 7],.agg [.int .i64 5,.int .i64 12,.int .i64 8]]] iy lH.length=some (.tuple [.own 3 [.agg [.int .i64 0,.int .i64 3,.int .i64 0],.agg [.int .i64 3,.int .i64 7,.int .i64 7],.agg [.int .i64 7,.int .i64 15,.int .i64 8]],.int .i64 0],iy):=(kM lib).mpr ⟨3000,by kernel_rfl⟩
theorem ajt:(run lib).fn 24 [.aN 1 (ints [-1,-1,-1,0,1,4,4,5,6,6,7,8,9,10,11]),.aM 1 [.int .i64 (-1),.int .i64 (-1),.int .i64 (-1),.int .i64 0,.int .i64 1,.int .i64 4,.int .i64 4,.int .i64 5,.int .i64 6,.int .i64 6,.int .i64 7,.int .i64 8,.int .i64 9,.int .i64 10,.int .i64 11]] iy lH.length=some (.bool true,iy):=(kM lib).mpr ⟨3000,by kernel_rfl⟩
theorem aju:(run lib).fn 24 [.aN 1 (ints [3,3,3,2,1,1,2,2,3,3,3,3]),.aM 1 [.int .i64 3,.int .i64 3,.int .i64 3,.int .i64 2,.int .i64 1,.int .i64 1,.int .i64 2,.int .i64 2,.int .i64 3,.int .i64 3,.int .i64 3,.int .i64 3]] iy lH.length=some (.bool true,iy):=(kM lib).mpr ⟨3000,by kernel_rfl⟩
theorem ajv:(run lib).fn 24 [.aN 1 (ints [8]),.aM 1 [.int .i64 8]] iy lH.length=some (.bool true,iy):=(kM lib).mpr ⟨3000,by kernel_rfl⟩
theorem ajw:(run lib).fn 24 [.aN 1 (ints [-1,-1,-1,3]),.aM 1 [.int .i64 (-1),.int .i64 (-1),.int .i64 (-1),.int .i64 3]] iy lH.length=some (.bool true,iy):=(kM lib).mpr ⟨3000,by kernel_rfl⟩
theorem ajx:(run lib).fn 41 [.int .i64 4] iy lH.length=some (.agg [.str [52],.str [49]],iy):=(kM lib).mpr ⟨3000,by kernel_rfl⟩
theorem ajy:(run lib).fn 41 [.int .i64 5] iy lH.length=some (.agg [.str [53],.str [49]],iy):=(kM lib).mpr ⟨3000,by kernel_rfl⟩
theorem ajz:(run lib).fn 41 [.int .i64 8] iy lH.length=some (.agg [.str [56],.str [49]],iy):=(kM lib).mpr ⟨3000,by kernel_rfl⟩
theorem ajA:(run lib).fn 41 [.int .i64 11] iy lH.length=some (.agg [.str [49,49],.str [49]],iy):=(kM lib).mpr ⟨3000,by kernel_rfl⟩
theorem ajB:(run lib).fn 41 [.int .i64 12] iy lH.length=some (.agg [.str [49,50],.str [49]],iy):=(kM lib).mpr ⟨3000,by kernel_rfl⟩
theorem ajC:(run lib).fn 41 [.int .i64 15] iy lH.length=some (.agg [.str [49,53],.str [49]],iy):=(kM lib).mpr ⟨3000,by kernel_rfl⟩
theorem ajD:(run lib).fn 28 [.agg [.aN 4 (bZ [(4,5),(8,11),(12,15)])],.agg [.aM 4 [.agg [.str [52],.str [49],.str [53],.str [49]],.agg [.str [56],.str [49],.str [49,49],.str [49]],.agg [.str [49,50],.str [49],.str [49,53],.str [49]]]]] iy lH.length=some (.bool true,iy):=(kM lib).mpr ⟨3000,by kernel_rfl⟩
theorem ajE:(run lib).fn 31 [.aN 3 [.agg [.int .i64 0,.int .i64 3,.int .i64 0],.agg [.int .i64 3,.int .i64 7,.int .i64 7],.agg [.int .i64 7,.int .i64 15,.int .i64 8]],.aM 3 [.agg [.int .i64 0,.int .i64 3,.int .i64 0],.agg [.int .i64 3,.int .i64 7,.int .i64 7],.agg [.int .i64 7,.int .i64 15,.int .i64 8]]] iy lH.length=some (.bool true,iy):=(kM lib).mpr ⟨3000,by kernel_rfl⟩
theorem ajF:(run lib).fn 25 [.aN 2 (pts [(0,2),(4,12)]),.aM 2 [.agg [.int .i64 0,.int .i64 2],.agg [.int .i64 4,.int .i64 12]]] iy lH.length=some (.bool true,iy):=(kM lib).mpr ⟨3000,by kernel_rfl⟩
end Go.VI.Dump
namespace Go.VI.Dump
open Go.VI.Num
/- BIGSTEPS -/
set_option pp.maxSteps 200000 in
set_option pp.deepTerms true in
theorem ajG(lo:Nat):(run lib).fn 11 [] lH lo=some (.bool true,lH):=by
 obtain⟨e,ch⟩:=ch0;have a1:∀ H lo,(run lib).fn 14 [bI x0] H lo=_:=fun H lo=>O4 A7 Dh (x:=x0) ch H lo;have a2:∀ H lo,(run lib).fn 16 [bI x0] H lo=_:=fun H lo=>XM A7 Dh (x:=x0) ch H lo;have a3:∀ H lo,(run lib).fn 18 [bI x0] H lo=_:=fun H lo=>XQ A7 Dh (x:=x0) ch H lo;have a4:∀ H lo,(run lib).fn 20 [bI x0] H lo=_:=fun H lo=>JD A7 Dh (x:=x0) H lo;have a5:∀ H lo,(run lib).fn 26 [bI x0,.int .i64 (1:Nat)] H lo=_:=fun H lo=>Yg A7 Dh (x:=x0) ch (k:=1) (by decide) H lo
 have a6:∀ H lo,(run lib).fn 26 [bI x0,.int .i64 2] H lo=_:=fun H lo=>Yf A7 Dh (x:=x0) (k:=2) (.inr (by decide)) H lo
 have a7:∀ H lo,(run lib).fn 22 [bI x0] H lo=some (.bool true,H):=fun H lo=>wE A7 H lo;have r1:(gG x0.l)[1]'(by decide)=((4,12):Pr):=by decide
 rw[r1]at a5;have ev:bI x0=v0:=rfl;simp only[ev,show x0.l=l0 from rfl,ah4,ah5,ah6,ah7,ah8]at a1 a2 a3 a4 a5 a6 a7
 rw[show eP 1 (ints [3,3,3,2,1,1,2,2,3,3,3,3])=.own 1 (ints [3,3,3,2,1,1,2,2,3,3,3,3])from rfl]at a2
 rw[show CX (ints [8])=.own 1 (ints [8])from rfl]at a3
 rw[show eP 2 (pts [(0,2),(4,12)])=.own 2 (pts [(0,2),(4,12)])from rfl]at a4
 rw[show (((1:Nat):Int))=1 from rfl]at a5
 have a8:=ah9;simp only[v0]at a1 a2 a3 a4 a5 a6 a7 a8;obtain⟨h,hh⟩:∃ h,h=lH:=⟨_,rfl⟩;have b1:=ajp;have b2:=ajq;have b3:=ajr;have b4:=ajs;have b5:=ajt;have b6:=aju;have b7:=ajv;have b8:=ajw;have b9:=ajx;have b10:=ajy;have b11:=ajz;have b12:=ajA;have b13:=ajB;have b14:=ajC;have b15:=ajD;have b16:=ajE;have b17:=ajF;simp only[iy,<-hh,v0]at b1 b2 b3 b4 b5 b6 b7 b8 b9 b10 b11 b12 b13 b14 b15 b16 b17;rw[<-hh];rw[aY (x:=LH) rfl rfl rfl rfl];simp(maxSteps:=30000000)(disch:=omega)only[go_sem,LH,b1,b2,b3,b4,b5,b6,b7,b8,b9,b10,b11,b12,b13,b14,b15,b16,b17,a1,a2,a3,a4,a5,a6,a7,a8,Yq,Yr]
end Go.VI.Dump
namespace Go.VI.Dump
open Go.VI.Num
/- BIGSTEPS -/
theorem Pw{l:dI}(ok:dD l):∃ xs e,Ch l 0 l.D xs e:=EY ok.E.1 l.L.toNat 0 _ (by omega) (by have:=ok.L;omega) ok.D.1
theorem ajH{x:LV}(o:okV x)(j:Int):∃ z es e,(∀ H lo,(run lib).fn 26 [bI x,.int .i64 j] H lo=some (.tuple [.agg [.aN z es],.int .i64 e],H))/\(∀ H lo,(run lib).fn 27 [bI x,.int .i64 j] H lo=some (.tuple [.agg [.aN z es],.int .i64 e],H))/\(∀ H lo,(run lib).fn 28 [.agg [.aN z es],.agg [.aN z es]] H lo=some (.bool true,H)):=by
 by_cases ok:dD x.l
 ·obtain⟨xs,e,ch⟩:=Pw ok;by_cases c:0<=j/\j<(gG x.l).length
  ·obtain⟨k,rfl⟩:∃ k:Nat,j=k:=⟨j.toNat,by omega⟩
   have hk:k<(gG x.l).length:=by omega
   obtain⟨a,K,y1,m⟩:=map_ok ok (NZ ok (ja hk)) ch;refine⟨4,_,0,fun H lo=>Yg o ok ch hk H lo,fun H lo=>aiM o ok ch hk H lo,fun H lo=>aiP ?_ H lo⟩;rw[m.eq];have:=m.len;simp;omega
  ·exact⟨0,[],200,fun H lo=>Yf o ok (by omega) H lo,fun H lo=>aiL o ok (by omega) H lo,fun H lo=>YL H lo⟩
 ·exact⟨0,[],200,fun H lo=>ahX o ok j H lo,fun H lo=>aiK o ok j H lo,fun H lo=>YL H lo⟩
theorem ajI(es:List AV):dw (eP 3 es)=dG 3 es:=by unfold eP dG;split<;>rfl
theorem ajJ{x:LV}(o:okV x){v:AV}{tl:List Sn}(hv:bG 3 v (aG tl))(htl:tl.length<=9223372036854775807)(hvv:v.val=true):∃ r s e,dw r=s/\(∀ H lo,(run lib).fn 29 [bI x,v] H lo=some (.tuple [r,.int .i64 e],H))/\(∀ H lo,(run lib).fn 30 [bI x,v] H lo=some (.tuple [r,.int .i64 e],H))/\(∀ H lo,(run lib).fn 31 [s,s] H lo=some (.bool true,H)):=by
 have bad:∀ H lo,(run lib).fn 31 [.aN 0 [],.aN 0 []] H lo=some (.bool true,H):=fun H lo =>
  YK (l:=[]) (vL (.inr rfl)) (vL (.inr rfl)) (by simp) lo
 by_cases ok:dD x.l
 ·obtain⟨xs,e,ch⟩:=Pw ok;have d1:=fun H lo=>ai4 o ok ch hv htl hvv H lo;have d2:=fun H lo=>ai5 o ok ch hv htl hvv H lo;have hRl:=JS ((dS x.l xs).map (kK tl)) [] 0;have hal:=AY ok ch;have hdl:=ch.dl ok.D.1 (iK _);have hL:=ok.L;have hD:=ok.D;rw[show mV [] 0 ((dS x.l xs).map (kK tl))=wJ x.l tl xs from rfl,uq]at hRl
  simp only[kz]at hRl;unfold F6 at d1 d2;by_cases c:vU tl=x.l.L/\mU (wJ x.l tl xs)=true
  ·rw[if_pos c]at d1 d2;exact⟨_,_,0,ajI _,d1,d2,fun H lo=>YK (mZ 3 (aG (wJ x.l tl xs)) H) (mZ 3 (aG (wJ x.l tl xs)) H) (by omega) lo⟩
  ·rw[if_neg c]at d1 d2;exact⟨_,_,200,rfl,d1,d2,bad⟩
 ·exact⟨_,_,200,rfl,fun H lo=>ai2 o ok hvv H lo,fun H lo=>ai3 o ok hvv H lo,bad⟩
section
variable {h:Heap}{m p i:Int}{tv v27 mJ:AV}{w:Nat}{x:LV}{X:Heap}
set_option maxHeartbeats 1000000 in
theorem YU(o:okV x){k:Nat}{j:Int}(hk:k<2)(hj:[m,p][k]'(by simpa using hk)=j)(B0 B1:Nat×av) :
  ∃ qx oL,aA lib ⟨h.length,h.length,13,none⟩ (.loop EB) ([(8,.int .i64 m),(21,.bool true),(23,tv),(27,v27),(29,.aJ (h.length+2) w 0),(124,mJ),(125,.int .i64 4),(126,.int .i64 i),(222,.aM 1 (ints [m,p])),(223,.int .i64 2),(224,.int .i64 k)],h++(B0::B1::(w,.box (tF x))::X)) =
   aA lib ⟨h.length,h.length,13,none⟩ (.loop EB) ([(8,.int .i64 m),(21,.bool true),(23,tv),(27,v27),(29,.aJ (h.length+2) w 0),(124,mJ),(125,.int .i64 4),(126,.int .i64 i),(222,.aM 1 (ints [m,p])),(223,.int .i64 2),(224,.int .i64 (k+1))],h++(qx::oL::(w,.box (tF x))::X)):=by
 obtain⟨z,es,e,m1,m2,m3⟩:=ajH o j;have sl:=fun H=>Sl.aM H 1 (ints [m,p]);have e3:bP 1 (.aM 1 (ints [m,p])) (.int .i64 k)=some k:=by rw[dz (sl h) (by omega) (by simp;omega)];simp
 have e4:=fun off fr=>dx (off:=off) ((sl h).elems fr) (show k<(ints [m,p]).length by simp;omega)
 simp only[lW,hj]at e4;have c:(k:Int)<2:=by omega
 obtain⟨v0,b0⟩:=B0;obtain⟨v1,b1⟩:=B1;refine⟨(v0+1,.box [.aN z es]),(v1+1,.box [.aN z es]), ?_⟩;unfold bI at m1 m2;simp only[tF]
 conv=>lhs;rw[aR]
 simp(maxSteps:=30000000)(disch:=omega)only[go_sem,c,e3,e4,m1,m2,m3]
set_option maxHeartbeats 1000000 in
theorem YV(o:okV x){v':AV}{k:Nat}{u:AV}{U:List Sn}(hk:k<2)(hj:[tv,v'][k]'(by simpa using hk)=u)(hu:bG 3 u (aG U))(hU:U.length<=9223372036854775807)(B0 B1:Nat×av) :
  aA lib ⟨h.length,h.length,13,none⟩ (.loop EA) ([(8,.int .i64 m),(21,.bool true),(23,tv),(27,v'),(29,.aJ (h.length+2) w 0),(124,mJ),(125,.int .i64 4),(126,.int .i64 i),(252,.aM 1 [tv,v']),(253,.int .i64 2),(254,.int .i64 k)],h++(B0::B1::(w,.box (tF x))::X)) =
   aA lib ⟨h.length,h.length,13,none⟩ (.loop EA) ([(8,.int .i64 m),(21,.bool true),(23,tv),(27,v'),(29,.aJ (h.length+2) w 0),(124,mJ),(125,.int .i64 4),(126,.int .i64 i),(252,.aM 1 [tv,v']),(253,.int .i64 2),(254,.int .i64 (k+1))],h++(B0::B1::(w,.box (tF x))::X)):=by
 obtain⟨vf,f1,f2,f3,f4,f5,f6⟩:=sS hu;obtain⟨r,s,e,hw,m1,m2,m3⟩:=ajJ o hu hU f3;have hcells:u.cells=[u]:=(tu (hu.sl [])).2;have sl:=fun H=>Sl.aM H 1 [tv,v'];have e3:bP 1 (.aM 1 [tv,v']) (.int .i64 k)=some k:=by rw[dz (sl h) (by omega) (by simp;omega)];simp
 have e4:∀ H,eD H (.di (.aM 1 [tv,v']) k 0)=some [u]:=fun H=>by
  have:=dx (off:=0) (sl H).eO (show k<[tv,v'].length by simpa using hk)
  rw[hj]at this;rw[this,hcells];rfl
 have e5:∀ H off,off=0->eD H (.di (.aM 1 [tv,v']) k off)=some [u]:=fun H off ho=>by rw[ho];exact e4 H
 have c:(k:Int)<2:=by omega
 unfold bI at m1 m2;simp only[tF]
 conv=>lhs;rw[aR]
 simp(maxSteps:=30000000)(disch:=omega)only[go_sem,c,e3,e4,m1,m2,m3,hw]
end
end Go.VI.Dump
namespace Go.VI.Dump
open Go.VI.Num
/- BIGSTEPS -/
theorem ajK(a b:AV):jc false (.aM 1 [a,b])=some (.int .i64 2):=rfl
theorem ajL{x:LV}(o:okV x):∃(a1 a2 d1 d2 f1 f2 r1 r2:AV) (ea ed ef er:Int) (b:Bool),
  (∀ H lo,(run lib).fn 14 [bI x] H lo=some (.tuple [a1,.int .i64 ea],H))/\(∀ H lo,(run lib).fn 15 [bI x] H lo=some (.tuple [a2,.int .i64 ea],H)) /\
  (∀ H lo,(run lib).fn 16 [bI x] H lo=some (.tuple [d1,.int .i64 ed],H))/\(∀ H lo,(run lib).fn 17 [bI x] H lo=some (.tuple [d2,.int .i64 ed],H)) /\
  (∀ H lo,(run lib).fn 18 [bI x] H lo=some (.tuple [f1,.int .i64 ef],H))/\(∀ H lo,(run lib).fn 19 [bI x] H lo=some (.tuple [f2,.int .i64 ef],H)) /\
  (∀ H lo,(run lib).fn 20 [bI x] H lo=some (.tuple [r1,.int .i64 er],H))/\(∀ H lo,(run lib).fn 21 [bI x] H lo=some (.tuple [r2,.int .i64 er],H)) /\
  (∀ H lo,(run lib).fn 24 [dw a1,dw a2] H lo=some (.bool true,H))/\(∀ H lo,(run lib).fn 24 [dw d1,dw d2] H lo=some (.bool true,H))/\(∀ H lo,(run lib).fn 24 [dw f1,dw f2] H lo=some (.bool true,H)) /\
  (∀ H lo,(run lib).fn 25 [dw r1,dw r2] H lo=some (.bool true,H)) /\
  (∀ H lo,(run lib).fn 22 [bI x] H lo=some (.bool b,H))/\(∀ H lo,(run lib).fn 23 [bI x] H lo=some (.bool b,H)):=by
 have dv:=fun H lo=>wE o H lo;have ev:=fun H lo=>A8 o H lo
 have ii:∀{v u:AV} {l:List Int},(∀ H,Sl H 1 v (ints l))->(∀ H,Sl H 1 u (ints l))->l.length<=9223372036854775807->∀ H lo,(run lib).fn 24 [v,u] H lo=some (.bool true,H):=fun hv hu hl H lo =>
  (ai7 (hv H) (hu H) hl lo).trans (by rw[decide_eq_true rfl])
 have ss:∀{v u:AV} {l:List Pr},(∀ H,Sl H 2 v (pts l))->(∀ H,Sl H 2 u (pts l))->l.length<=9223372036854775807->∀ H lo,(run lib).fn 25 [v,u] H lo=some (.bool true,H):=fun hv hu hl H lo =>
  (aic (hv H) (hu H) hl lo).trans (by rw[decide_eq_true rfl])
 have w1:∀(z:Nat) (es:List AV),dw (eP z es)=dG z es:=fun z es=>by unfold eP dG;split<;>rfl
 by_cases ok:dD x.l
 ·obtain⟨xs,e,ch⟩:=Pw ok;have hL:=ok.L;have hD:=ok.D;have hal:=AY ok ch;have hdl:=ch.dl ok.D.1 (iK _);have hde:=ch.VN ok.E.1;have hrl:=NY (L:=x.l.L) x.l.C 0;have c4:=ok.c4;have hf:(jK x.l xs).length=x.l.C.length:=by simp[jK]
  refine⟨_,_,_,_,_,_,_,_,0,0,0,0,_,fun H lo=>O4 o ok ch H lo,fun H lo=>YB o ok ch H lo,fun H lo=>XM o ok ch H lo,fun H lo=>aiA o ok ch H lo,fun H lo=>XQ o ok ch H lo,fun H lo=>aiD o ok ch H lo,fun H lo=>JD o ok H lo,fun H lo=>Pb o ok H lo, ?_, ?_, ?_, ?_,dv,ev⟩
  ·exact ii (fun H=>Df H 1 (ints (dS x.l xs))) (fun H=>Df H 1 (ints (dS x.l xs))) (by omega)
  ·rw[w1];exact ii (fun H=>mZ 1 (ints (dR xs)) H) (fun H=>mZ 1 (ints (dR xs)) H) (by omega)
  ·rw[w1];exact ii (fun H=>ah' H (ints (jK x.l xs))) (fun H=>mZ 1 (ints (jK x.l xs)) H) (by omega)
  ·rw[w1];exact ss (fun H=>mZ 2 (pts (gG x.l)) H) (fun H=>mZ 2 (pts (gG x.l)) H) (by unfold gG;omega)
 ·have z1:∀ H lo,(run lib).fn 24 [.aN 0 [],.aN 0 []] H lo=some (.bool true,H):=ii (l:=[]) (fun H=>vL (.inr rfl)) (fun H=>vL (.inr rfl)) (by simp)
  have z2:∀ H lo,(run lib).fn 25 [.aN 0 [],.aN 0 []] H lo=some (.bool true,H):=ss (l:=[]) (fun H=>vL (.inr rfl)) (fun H=>vL (.inr rfl)) (by simp)
  exact⟨_,_,_,_,_,_,_,_,200,200,200,200,_,fun H lo=>XJ o ok H lo,fun H lo=>YA o ok H lo,fun H lo=>ahj o ok H lo,fun H lo=>aiw o ok H lo,fun H lo=>ahp o ok H lo,fun H lo=>aix o ok H lo,fun H lo=>XT o ok H lo,fun H lo=>Yx o ok H lo,z1,z1,z1,z2,dv,ev⟩
section
variable {h:Heap}{m p i:Int}{tv v27 mJ:AV}{w:Nat}{x:LV}{X:Heap}
theorem ajM(o:okV x)(B0 B1:Nat×av) :
  ∃ qx oL,aA lib ⟨h.length,h.length,13,none⟩ (.loop EB) ([(8,.int .i64 m),(21,.bool true),(23,tv),(27,v27),(29,.aJ (h.length+2) w 0),(124,mJ),(125,.int .i64 4),(126,.int .i64 i),(222,.aM 1 [.int .i64 m,.int .i64 p]),(223,.int .i64 2),(224,.int .i64 0)],h++(B0::B1::(w,.box (tF x))::X)) =
   some (.exit 2,([(8,.int .i64 m),(21,.bool true),(23,tv),(27,v27),(29,.aJ (h.length+2) w 0),(124,mJ),(125,.int .i64 4),(126,.int .i64 i)],h++(qx::oL::(w,.box (tF x))::X))):=by
 obtain⟨C0,C1,e1⟩:=YU (h:=h) (m:=m) (p:=p) (i:=i) (tv:=tv) (v27:=v27) (mJ:=mJ) (w:=w) (X:=X) o (k:=0) (j:=m) (by omega) rfl B0 B1
 obtain⟨D0,D1,e2⟩:=YU (h:=h) (m:=m) (p:=p) (i:=i) (tv:=tv) (v27:=v27) (mJ:=mJ) (w:=w) (X:=X) o (k:=1) (j:=p) (by omega) rfl C0 C1
 refine⟨D0,D1, ?_⟩;have i1:((0:Nat):Int)=0:=rfl;have i2:((1:Nat):Int)=0+1:=rfl;have hi:ints [m,p]=[.int .i64 m,.int .i64 p]:=rfl;rw[i1,hi]at e1;rw[i2,hi]at e2;rw[e1,e2];have c:¬ ((0:Int)+1+1<2):=by omega
 rw[aR];simp(maxSteps:=30000000)(disch:=omega)only[go_sem]
theorem ajN(o:okV x){v':AV}{U V:List Sn}(h1:bG 3 tv (aG U))(hU:U.length<=9223372036854775807)(h2:bG 3 v' (aG V))(hV:V.length<=9223372036854775807)(B0 B1:Nat×av) :
  aA lib ⟨h.length,h.length,13,none⟩ (.loop EA) ([(8,.int .i64 m),(21,.bool true),(23,tv),(27,v'),(29,.aJ (h.length+2) w 0),(124,mJ),(125,.int .i64 4),(126,.int .i64 i),(252,.aM 1 [tv,v']),(253,.int .i64 2),(254,.int .i64 0)],h++(B0::B1::(w,.box (tF x))::X)) =
   some (.exit 4,([(8,.int .i64 m),(21,.bool true),(23,tv),(27,v'),(124,mJ),(125,.int .i64 4),(126,.int .i64 i)],h++(B0::B1::(w,.box (tF x))::X))):=by
 have e1:=YV (h:=h) (m:=m) (i:=i) (tv:=tv) (mJ:=mJ) (w:=w) (X:=X) o (v':=v') (k:=0) (u:=tv) (by omega) rfl h1 hU B0 B1
 have e2:=YV (h:=h) (m:=m) (i:=i) (tv:=tv) (mJ:=mJ) (w:=w) (X:=X) o (v':=v') (k:=1) (u:=v') (by omega) rfl h2 hV B0 B1
 have i1:((0:Nat):Int)=0:=rfl;have i2:((1:Nat):Int)=0+1:=rfl;rw[i1]at e1;rw[i2]at e2;rw[e1,e2];have c:¬ ((0:Int)+1+1<2):=by omega
 rw[aR];simp(maxSteps:=30000000)(disch:=omega)only[go_sem]
set_option maxHeartbeats 4000000 in
theorem JZ(o:okV x)(hm:fA m){Ls:List AV}(F8:Ls.length=4){k:Nat}(hk:k<Ls.length)(hx:Ls[k]=bI x){v':AV}{X':Heap}{U V:List Sn}(h1:bG 3 tv (aG U))(hU:U.length<=9223372036854775807)(ft:∀ b kk H,aU b kk tv H=some (tv,H))
  (h2:bG 3 v' (aG V)) (hV:V.length<=9223372036854775807) (fv:∀ b kk H,aU b kk v' H=some (v',H))
  (HF:∀(B0 B1 B2:Nat×av),aU h.length false v27 (h++(B0::B1::B2::X))=some (v',h++(B0::B1::B2::X'))) (B0 B1 B2:Nat×av) :
  ∃ qx oL oJ,aA lib ⟨h.length,h.length,13,none⟩ (.loop EC) ([(8,.int .i64 m),(21,.bool true),(23,tv),(27,v27),(124,.aM 5 Ls),(125,.int .i64 4),(126,.int .i64 k)],h++(B0::B1::B2::X)) =
   aA lib ⟨h.length,h.length,13,none⟩ (.loop EC) ([(8,.int .i64 m),(21,.bool true),(23,tv),(27,v'),(124,.aM 5 Ls),(125,.int .i64 4),(126,.int .i64 (k+1))],h++(qx::oL::oJ::X')):=by
 obtain⟨a1,a2,d1,d2,f1,f2,r1,r2,ea,ed,ef,er,b,q1,q2,q3,q4,q5,q6,q7,q8,q9,q10,q11,q12,YX,YZ⟩:=ajL o;have hbb:(b==b)=true:=by cases b<;>rfl
 obtain⟨u0,b0⟩:=B0;obtain⟨u1,b1⟩:=B1;obtain⟨u2,b2⟩:=B2;have sl:=fun H=>Sl.aM H 5 Ls;have e3:bP 5 (.aM 5 Ls) (.int .i64 k)=some k:=by rw[dz (sl h) (by omega) (by omega)];simp
 have e4:=fun off fr=>dx (off:=off) ((sl h).elems fr) hk;simp only[hx,bI]at e4;have c:(k:Int)<4:=by omega
 have gp:=fun H lo=>Po (c:=m) (n:=6) (by decide) hm H lo
 obtain⟨C0,C1,l2⟩:=ajM (h:=h) (m:=m) (p:=fD m 6) (i:=k) (tv:=tv) (v27:=v27) (mJ:=.aM 5 Ls) (w:=u2+1) (X:=X) o (u0,b0) (u1,b1);have l1:=ajN (h:=h) (m:=m) (i:=k) (mJ:=.aM 5 Ls) (w:=u2+1) (X:=X') o h1 hU h2 hV C0 C1;refine⟨C0,C1,(u2+1,.box (tF x)), ?_⟩;have tvv:tv.val=true/\tv.cells=[tv]:=tu (h1.sl []);have vvv:v'.val=true/\v'.cells=[v']:=tu (h2.sl []);obtain⟨t1,t2⟩:=tvv;obtain⟨t3,t4⟩:=vvv;unfold bI at q1 q2 q3 q4 q5 q6 q7 q8 YX YZ;simp only[tF]at l2 l1⊢
 conv=>lhs;rw[aR]
 simp(maxSteps:=30000000)(disch:=omega)only[go_sem,c,e3,e4,q1,q2,q3,q4,q5,q6,q7,q8,q9,q10,q11,q12,YX,YZ,hbb,gp,ajK,l2,HF,ft,fv,t1,t2,t3,t4,l1]
end
end Go.VI.Dump
namespace Go.VI.Dump
open Go.VI.Num
/- BIGSTEPS -/
def J2(z:Nat)(es:List AV)(n s:Nat):AV:=if es=[]then .aM z []else .ref (n+s) 1 z 0 es.length es.length
def A9(z:Nat)(es:List AV):Nat×av:=if es=[] then(0,.dead) else(1,.arr z es)
def kV(z:Nat)(es:List AV)(n s1 s2:Nat):AV:=if es=[]then .ref (n+s2) 1 z 0 1 1 else .ref (n+s1) 1 z 0 (es.length+1) (es.length+1)
def bA(z:Nat)(es L:List AV):Nat×av:=if es=[] then(0,.dead) else(1,.arr z L)
def bB(z:Nat)(es L:List AV):Nat×av:=if es=[] then(1,.arr z L) else(0,.dead)
def dA(es:List AV):Nat×av:=if es=[] then(0,.dead) else(1,.dead)
def dB(es:List AV):Nat×av:=if es=[] then(1,.dead) else(0,.dead)
theorem FQ{h fr:Heap}{s z lim ns:Nat}{es:List AV}(hs:s<ns)(hb:fr[s]?=some (0,.dead))(hl:es.length<=lim) :
  dP ⟨h.length,h.length,ns,none⟩ s z lim (.aM z []) es (h++fr)=some (J2 z es h.length s,h++fr.set s (A9 z es)):=by
 unfold J2 A9;by_cases h0:es=[]
 ·subst h0;simp[dP,oV hb]
 ·have h3:bV ⟨h.length,h.length,ns,none⟩ s (.arr z es) (h++fr)=some (0+1,h++fr.set s (0+1,.arr z es)):=by
   rw[qN,hb,sF,if_pos hs]
  simp[dP,h0,hl,h3]
theorem Da{h fr:Heap}{s1 s2 z lim ns:Nat}{es:List AV}{x:AV}(h1:s1<ns)(h2:s2<ns)(hb1:fr[s1]?=some (A9 z es))(hb2:fr[s2]?=some (0,.dead))(hl:es.length+1<=lim) :
  dP ⟨h.length,h.length,ns,none⟩ s2 z lim (J2 z es h.length s1) [x] (h++fr)=some (kV z es h.length s1 s2,h++(fr.set s1 (bA z es (es++[x]))).set s2 (bB z es (es++[x]))):=by
 unfold J2 kV bA bB at*;unfold A9 at hb1;by_cases h0:es=[]
 ·subst h0;simp only[if_true]at hb1⊢
  have h3:bV ⟨h.length,h.length,ns,none⟩ s2 (.arr z [x]) (h++fr)=some (0+1,h++fr.set s2 (0+1,.arr z [x])):=by
   rw[qN,hb2,sF,if_pos h2]
  rw[oV hb1];have:1<=lim:=by simpa using hl
  simp[dP,h3,this]
 ·simp only[if_neg h0]at hb1⊢
  have hne:s1≠s2:=by
   rintro rfl;rw[hb1]at hb2;cases hb2
  have hb:(h++fr)[h.length+s1]?=some (1,.arr z es):=by rw[bH];exact hb1
  rw[xB hb (by simp) (by simpa using hl),eB]
  have:(fr.set s1 (1,av.arr z (es++[x]))).set s2 (0,.dead)=fr.set s1 (1,.arr z (es++[x])):=oV (by rw[eG hne];exact hb2)
  rw[this];simp
theorem Y0{h fr:Heap}{s1 s2 z:Nat}{es L:List AV}(hL:L.length=es.length+1)(hb1:fr[s1]?=some (bA z es L))(hb2:fr[s2]?=some (bB z es L)):Sl (h++fr) z (kV z es h.length s1 s2) L:=by
 unfold kV bA bB at*;by_cases h0:es=[]
 ·subst h0;simp only[if_true]at hb2⊢;have:=F7 (H:=h++fr) (id:=h.length+s2) (aj:=1) (z:=z) (es:=L) (by rw[bH];exact hb2)
  rw[hL]at this;exact this
 ·simp only[if_neg h0]at hb1⊢;have:=F7 (H:=h++fr) (id:=h.length+s1) (aj:=1) (z:=z) (es:=L) (by rw[bH];exact hb1)
  rw[hL]at this;exact this
theorem Py{h fr:Heap}{s1 s2 z:Nat}{k:Bool}{es L:List AV}(hL:L.length=es.length+1)(hb1:fr[s1]?=some (bA z es L))(hb2:fr[s2]?=some (bB z es L)) :
  aU h.length k (kV z es h.length s1 s2) (h++fr)=some (.aN z L,h++(fr.set s1 (dA es)).set s2 (dB es)):=by
 unfold kV bA bB dA dB at*;by_cases h0:es=[]
 ·subst h0;simp only[if_true]at hb1 hb2⊢;have hg:(h++fr)[h.length+s2]?=some (1,.arr z L):=by rw[bH];exact hb2
  have h1:L.length=1:=by simpa using hL
  rw[oV hb1];have ht:L.take 1=L:=pI (by omega)
  simp[aU,dW,hg,h1,ht]
 ·simp only[if_neg h0]at hb1 hb2⊢
  have hne:s1≠s2:=by
   rintro rfl;rw[hb1]at hb2;cases hb2
  have hg:(h++fr)[h.length+s1]?=some (1,.arr z L):=by rw[bH];exact hb1
  have ht:L.take (es.length+1)=L:=pI (by omega)
  have:(fr.set s1 (1,av.dead)).set s2 (0,.dead)=fr.set s1 (1,.dead):=oV (by rw[eG hne];exact hb2)
  rw[this];simp[aU,dW,hg,hL,ht]
end Go.VI.Dump
namespace Go.VI.Dump
open Go.VI.Num
/- BIGSTEPS -/
theorem Y1{h fr:Heap}{s1 s2 z ns i:Nat}{es L cs cs':List AV}(hL:L.length=es.length+1)(hb1:fr[s1]?=some (bA z es L))(hb2:fr[s2]?=some (bB z es L))(hi:L[i]?=some (.agg cs'))(hc:cs'.length=cs.length)(hz:∀ H,aU h.length false (.agg cs) H=some (.agg cs,H))(hv:(AV.agg cs).val=true) :
  dK ⟨h.length,h.length,ns,none⟩ (h++fr) cs.length (.di (kV z es h.length s1 s2) i 0) (.agg cs)=some (h++(fr.set s1 (bA z es (L.set i (.agg cs)))).set s2 (bB z es (L.set i (.agg cs)))):=by
 have hlt:i<es.length+1:=by rw[<-hL];exact(bO.mp hi).1
 obtain⟨hiL,hge⟩:=bO.mp hi;have hdr:List.drop cs.length cs'=[]:=kQ (by omega)
 unfold kV bA bB at*;by_cases h0:es=[]
 ·subst h0;simp only[if_true]at hb1 hb2⊢;have hg:(h++fr)[h.length+s2]?=some (1,.arr z L):=by rw[bH];exact hb2
  rw[oV hb1];have h1:L.length=1:=by simpa using hL
  have hi1:i<1:=by simpa using hlt
  simp[dK,hz,AV.cells,hv,hg,h1,hi1,hge,hdr,splice,hc]
 ·simp only[if_neg h0]at hb1 hb2⊢
  have hne:s1≠s2:=by
   rintro rfl;rw[hb1]at hb2;cases hb2
  have hg:(h++fr)[h.length+s1]?=some (1,.arr z L):=by rw[bH];exact hb1
  have:(fr.set s1 (1,av.arr z (L.set i (.agg cs)))).set s2 (0,.dead)=fr.set s1 (1,.arr z (L.set i (.agg cs))):=oV (by rw[eG hne];exact hb2)
  rw[this];simp[dK,hz,AV.cells,hv,hg,hL,hlt,hge,hdr,splice,hc]
theorem ajT{h:Heap}{m:Int}{tv v27:AV}{X:Heap}(hm:fA m){Ls:List AV}(F8:Ls.length=4)(hx:∀ k (hk:k<Ls.length),∃ x,okV x/\Ls[k]=bI x){v':AV}{X':Heap}{U V:List Sn}(h1:bG 3 tv (aG U))(hU:U.length<=9223372036854775807)(ft:∀ b kk H,aU b kk tv H=some (tv,H))
  (h2:bG 3 v' (aG V)) (hV:V.length<=9223372036854775807) (fv:∀ b kk H,aU b kk v' H=some (v',H))
  (HF:∀(B0 B1 B2:Nat×av),aU h.length false v27 (h++(B0::B1::B2::X))=some (v',h++(B0::B1::B2::X'))) (B0 B1 B2:Nat×av) :
  ∃ H',aA lib ⟨h.length,h.length,13,none⟩ (.loop EC) ([(8,.int .i64 m),(21,.bool true),(23,tv),(27,v27),(124,.aM 5 Ls),(125,.int .i64 4),(126,.int .i64 0)],h++(B0::B1::B2::X)) =
   some (.exit 0,([(21,.bool true)],H')):=by
 have i1:((1:Nat):Int)=0+1:=rfl;have i2:((2:Nat):Int)=0+1+1:=rfl;have i3:((3:Nat):Int)=0+1+1+1:=rfl;obtain⟨x0,o0,e0⟩:=hx 0 (by omega)
 obtain⟨x1,o1,e1⟩:=hx 1 (by omega)
 obtain⟨x2,o2,e2⟩:=hx 2 (by omega)
 obtain⟨x3,o3,e3⟩:=hx 3 (by omega)
 obtain⟨B0,B1,B2,r0⟩:=JZ o0 hm F8 (by omega) e0 h1 hU ft h2 hV fv HF B0 B1 B2
 have Pz:∀(B0 B1 B2:Nat×av),aU h.length false v' (h++(B0::B1::B2::X'))=some (v',h++(B0::B1::B2::X')):=fun _ _ _=>fv _ _ _;obtain⟨B0,B1,B2,r1⟩:=JZ o1 hm F8 (by omega) e1 h1 hU ft h2 hV fv Pz B0 B1 B2
 obtain⟨B0,B1,B2,r2⟩:=JZ o2 hm F8 (by omega) e2 h1 hU ft h2 hV fv Pz B0 B1 B2
 obtain⟨B0,B1,B2,r3⟩:=JZ o3 hm F8 (by omega) e3 h1 hU ft h2 hV fv Pz B0 B1 B2
 refine⟨h++(B0::B1::B2::X'), ?_⟩;rw[show ((0:Nat):Int)=0 from rfl]at r0
 rw[i1]at r1;rw[i2]at r2;rw[i3]at r3;rw[r0,r1,r2,r3];have c:¬ ((0:Int)+1+1+1+1<4):=by omega
 rw[aR];simp(maxSteps:=30000000)(disch:=omega)only[go_sem]
end Go.VI.Dump
namespace Go.VI.Dump
open Go.VI.Num
/- BIGSTEPS -/
theorem ajU(z:Nat)(es:List AV)(n s1 s2:Nat):(kV z es n s1 s2).val=true:=by unfold kV;split<;>rfl
theorem ajV(z:Nat)(es:List AV)(n s1 s2:Nat):(kV z es n s1 s2).cells=[kV z es n s1 s2]:=by unfold kV;split<;>rfl
theorem ajW{r:AV}{R:List Sn}(hr:R≠[]/\r=.own 3 (aG R)\/R=[]/\r=.aM 0 []):∃ tv,dw r=tv/\bG 3 tv (aG R)/\(∀ b kk H,aU b kk tv H=some (tv,H)):=by
 rcases hr with⟨_,rfl⟩|⟨rfl,rfl⟩
 ·exact⟨.aN 3 (aG R),rfl,.inr ⟨3,.inl rfl,.inl rfl⟩,fun b kk H=>by simp[VI.aU]⟩
 ·exact⟨.aM 0 [],rfl,.inr ⟨0,.inr rfl,.inr rfl⟩,fun b kk H=>by simp[VI.aU]⟩
theorem yG{h:Heap}{z:Nat}{v:AV}{es:List AV}(s:Sl h z v es):kL h z v=some es:=by
 have hl:=s.zW;unfold kL;split
 ·simp[jv,dW]at hl
 ·exact hl
set_option pp.maxSteps 200000 in
set_option pp.deepTerms true in
set_option maxHeartbeats 4000000 in
theorem ajX{h:Heap}(hs:∀ lo,(run lib).fn 11 [] (h++[(0,.dead),(0,.dead),(0,.dead),(0,.dead),(0,.dead),(0,.dead),(0,.dead),(0,.dead),(0,.dead),(0,.dead),(0,.dead),(0,.dead),(0,.dead)]) lo=some (.bool true,h++[(0,.dead),(0,.dead),(0,.dead),(0,.dead),(0,.dead),(0,.dead),(0,.dead),(0,.dead),(0,.dead),(0,.dead),(0,.dead),(0,.dead),(0,.dead)]))
  {a b c pp m:Int} (ha:fA a) (hb:fA b) (hc:fA c) (hpp:fA pp) (hm:fA m) {v w:AV} {d g:List Tr} (hv:∀ H,Sl H 3 v (oK d)) (hl:d.length<=9223372036854775807) (hi:∀ x∈d,fA x.1/\fA x.2.1/\fA x.2.2)
  (hw:∀ H,Sl H 3 w (oK g)) (hgl:g.length<=9223372036854775807) (hgi:∀ x∈g,fA x.1/\fA x.2.1/\fA x.2.2) (s1 s2 r1 r2 r3 t1 t2 t3:Int) (lo:Nat) :
  (run lib).fn 3 [.int .i64 a,.int .i64 b,.int .i64 c,v,w,.agg [.int .i64 s1,.int .i64 s2],.agg [.int .i64 r1,.int .i64 r2,.int .i64 r3],.int .i64 pp,.int .i64 m,.agg [.int .i64 t1,.int .i64 t2,.int .i64 t3]] h lo=some (.bool true,h):=by
 obtain⟨r,gm,R,hR,hr⟩:=ajo ha hb hc (h:=h++[(0,.dead),(0,.dead),(0,.dead),(0,.dead),(0,.dead),(0,.dead),(0,.dead),(0,.dead),(0,.dead),(0,.dead),(0,.dead),(0,.dead),(0,.dead)]) hv hl hi hw hgl hgi h.length;have ok:=Ym a b c d;generalize xS a b c d=l at*;obtain⟨tv,hwk,h1,ft⟩:=ajW hr;have hmv:=fun H lo=>Yk ha hb hc (hv H) hl hi lo;rw[<-Yo]at gm;unfold bI at gm;simp only[Yp]at gm;have o4:=ok.c4;have p4:=ok.p4;obtain⟨w1,w2⟩:=tu (hv h);obtain⟨u1,u2⟩:=tu (hw h);have ox:=ah0 ok;have alC:∀ fr,kL (h++fr) 2 (cV (fU l))=some (pts l.C):=fun fr=>yG (ox.sc (h++fr));have alP:∀ fr,kL (h++fr) 2 (pV (fU l))=some (pts l.P):=fun fr=>yG (ox.sp (h++fr));have alT:∀ fr,kL (h++fr) 3 tv=some (aG R):=fun fr=>yG (h1.sl (h++fr));have a9:=fun(y0 y1 y2 y3 y4 y5 y6 y7 y8 nU jP jQ:Nat×av)=>FQ (h:=h) (ns:=13) (s:=9) (z:=2) (lim:=8796093022208) (es:=pts l.C) (fr:=[y0,y1,y2,y3,y4,y5,y6,y7,y8,(0,.dead),nU,jP,jQ]) (by decide) rfl (by simp;omega)
 have PD:=fun(y0 y1 y2 y3 y4 y5 y6 y7 y8 jP jQ:Nat×av)=>Da (h:=h) (ns:=13) (s1:=9) (s2:=10) (z:=2) (lim:=8796093022208) (es:=pts l.C) (x:=.agg [.int .i64 s1,.int .i64 s2]) (fr:=[y0,y1,y2,y3,y4,y5,y6,y7,y8,A9 2 (pts l.C),(0,.dead),jP,jQ]) (by decide) (by decide) rfl rfl (by simp;omega)
 have a6:=fun(y0 y1 y2 y3 y4 y5 y7 y8 y9 nU jP jQ:Nat×av)=>FQ (h:=h) (ns:=13) (s:=6) (z:=2) (lim:=8796093022208) (es:=pts l.P) (fr:=[y0,y1,y2,y3,y4,y5,(0,.dead),y7,y8,y9,nU,jP,jQ]) (by decide) rfl (by simp;omega)
 have a7:=fun(y0 y1 y2 y3 y4 y5 y8 y9 nU jP jQ:Nat×av)=>Da (h:=h) (ns:=13) (s1:=6) (s2:=7) (z:=2) (lim:=8796093022208) (es:=pts l.P) (x:=.agg [.int .i64 s1,.int .i64 s2]) (fr:=[y0,y1,y2,y3,y4,y5,A9 2 (pts l.P),(0,.dead),y8,y9,nU,jP,jQ]) (by decide) (by decide) rfl rfl (by simp;omega)
 have a3:=fun(y0 y1 y2 y4 y5 y6 y7 y8 y9 nU jP jQ:Nat×av)=>FQ (h:=h) (ns:=13) (s:=3) (z:=3) (lim:=5864062014805) (es:=aG R) (fr:=[y0,y1,y2,(0,.dead),y4,y5,y6,y7,y8,y9,nU,jP,jQ]) (by decide) rfl (by simp;omega)
 have a4:=fun(y0 y1 y2 y5 y6 y7 y8 y9 nU jP jQ:Nat×av)=>Da (h:=h) (ns:=13) (s1:=3) (s2:=4) (z:=3) (lim:=5864062014805) (es:=aG R) (x:=.agg [.int .i64 t1,.int .i64 t2,.int .i64 t3]) (fr:=[y0,y1,y2,A9 3 (aG R),(0,.dead),y5,y6,y7,y8,y9,nU,jP,jQ]) (by decide) (by decide) rfl rfl (by simp;omega)
 simp only[List.set_cons_zero,List.set_cons_succ]at a9 PD a6 a7 a3 a4;obtain⟨LC,PE⟩:∃ LC,LC=pts l.C++[AV.agg [.int .i64 s1,.int .i64 s2]]:=⟨_,rfl⟩;obtain⟨LP,PG⟩:∃ LP,LP=pts l.P++[AV.agg [.int .i64 s1,.int .i64 s2]]:=⟨_,rfl⟩;obtain⟨LT,PI⟩:∃ LT,LT=aG R++[AV.agg [.int .i64 t1,.int .i64 t2,.int .i64 t3]]:=⟨_,rfl⟩;have nC:LC.length=l.C.length+1:=by rw[PE];simp
 have nP:LP.length=l.P.length+1:=by rw[PG];simp
 have nT:LT.length=R.length+1:=by rw[PI];simp
 rw[<-PE]at PD;rw[<-PG]at a7;rw[<-PI]at a4;have sC:=fun(y0 y1 y2 y3 y4 y5 y6 y7 y8 jP jQ:Nat×av)=>Y0 (h:=h) (s1:=9) (s2:=10) (z:=2) (es:=pts l.C) (L:=LC) (fr:=[y0,y1,y2,y3,y4,y5,y6,y7,y8,bA 2 (pts l.C) LC,bB 2 (pts l.C) LC,jP,jQ]) (by rw[jq];exact nC) rfl rfl
 have lC:=bK (sC (0,.dead) (0,.dead) (0,.dead) (0,.dead) (0,.dead) (0,.dead) (0,.dead) (0,.dead) (0,.dead) (0,.dead) (0,.dead)).len;have sT:=fun(y0 y1 y2 y5 y6 y7 y8 y9 nU jP jQ:Nat×av)=>Y0 (h:=h) (s1:=3) (s2:=4) (z:=3) (es:=aG R) (L:=LT) (fr:=[y0,y1,y2,bA 3 (aG R) LT,bB 3 (aG R) LT,y5,y6,y7,y8,y9,nU,jP,jQ]) (by rw[gI];exact nT) rfl rfl
 have lT:=bK (sT (0,.dead) (0,.dead) (0,.dead) (0,.dead) (0,.dead) (0,.dead) (0,.dead) (0,.dead) (0,.dead) (0,.dead) (0,.dead)).len;have gC:=fun H lo=>Po (c:=pp) (n:=(LC.length:Int)) (by omega) hpp H lo
 have gT:=fun H lo=>Po (c:=pp) (n:=(LT.length:Int)) (by omega) hpp H lo
 have kC:=qY pp (n:=(LC.length:Int)) (by omega)
 have kT:=qY pp (n:=(LT.length:Int)) (by omega)
 obtain⟨iC,hiC⟩:∃ iC:Nat,fD pp (LC.length:Int)=iC:=⟨(fD pp (LC.length:Int)).toNat,by omega⟩
 obtain⟨iT,hiT⟩:∃ iT:Nat,fD pp (LT.length:Int)=iT:=⟨(fD pp (LT.length:Int)).toNat,by omega⟩
 rw[hiC]at gC kC;rw[hiT]at gT kT;have hC2:LC=pts (l.C++[(s1,s2)]):=by rw[PE];exact(FL l.C (s1,s2)).symm
 have hP2:LP=pts (l.P++[(s1,s2)]):=by rw[PG];exact(FL l.P (s1,s2)).symm
 have PK:LT=aG (R++[(t1,t2,t3)]):=by rw[PI];exact(F4 R t1 t2 t3).symm
 have eC:bP 2 (kV 2 (pts l.C) h.length 9 10) (.int .i64 iC)=some iC:=by
  rw[dz (sC (0,.dead) (0,.dead) (0,.dead) (0,.dead) (0,.dead) (0,.dead) (0,.dead) (0,.dead) (0,.dead) (0,.dead) (0,.dead)) (by omega) (by omega)];simp
 have eT:bP 3 (kV 3 (aG R) h.length 3 4) (.int .i64 iT)=some iT:=by
  rw[dz (sT (0,.dead) (0,.dead) (0,.dead) (0,.dead) (0,.dead) (0,.dead) (0,.dead) (0,.dead) (0,.dead) (0,.dead) (0,.dead)) (by omega) (by omega)];simp
 obtain⟨qC,gqC⟩:∃ q:Pr,LC[iC]?=some (.agg [.int .i64 q.1,.int .i64 q.2]):=by
  have hb:iC<(l.C++[(s1,s2)]).length:=by rw[hC2,jq]at kC;omega
  refine⟨(l.C++[(s1,s2)])[iC], ?_⟩;rw[hC2,gM (by rw[jq];exact hb),tC];rfl
 obtain⟨qT,gqT⟩:∃ q:Sn,LT[iT]?=some (.agg [.int .i64 q.1,.int .i64 q.2.1,.int .i64 q.2.2]):=by
  have hb:iT<(R++[(t1,t2,t3)]).length:=by rw[PK,gI]at kT;omega
  refine⟨(R++[(t1,t2,t3)])[iT], ?_⟩;rw[PK,gM (by rw[gI];exact hb),o9];rfl
 have dM:=fun(y0 y1 y2 y3 y4 y5 y6 y7 y8 jP jQ:Nat×av)=>Y1 (h:=h) (ns:=13) (s1:=9) (s2:=10) (z:=2) (i:=iC) (es:=pts l.C) (L:=LC) (cs:=[.int .i64 s1,.int .i64 s2]) (fr:=[y0,y1,y2,y3,y4,y5,y6,y7,y8,bA 2 (pts l.C) LC,bB 2 (pts l.C) LC,jP,jQ]) (by rw[jq];exact nC) rfl rfl gqC rfl (fun H=>by simp[VI.aU,VI.gU]) rfl
 have F9:=fun(y0 y1 y2 y5 y6 y7 y8 y9 nU jP jQ:Nat×av)=>Y1 (h:=h) (ns:=13) (s1:=3) (s2:=4) (z:=3) (i:=iT) (es:=aG R) (L:=LT) (cs:=[.int .i64 t1,.int .i64 t2,.int .i64 t3]) (fr:=[y0,y1,y2,bA 3 (aG R) LT,bB 3 (aG R) LT,y5,y6,y7,y8,y9,nU,jP,jQ]) (by rw[gI];exact nT) rfl rfl gqT rfl (fun H=>by simp[VI.aU,VI.gU]) rfl
 have hCs:LC.set iC (.agg [.int .i64 s1,.int .i64 s2])=pts ((l.C++[(s1,s2)]).set iC (s1,s2)):=by rw[hC2];simp[pts,pt]
 have hTs:LT.set iT (.agg [.int .i64 t1,.int .i64 t2,.int .i64 t3])=aG ((R++[(t1,t2,t3)]).set iT (t1,t2,t3)):=by rw[PK];simp[aG,sn]
 rw[hCs]at dM;rw[hTs]at F9;obtain⟨C2,Y7⟩:∃ C2,C2=(l.C++[(s1,s2)]).set iC (s1,s2):=⟨_,rfl⟩;obtain⟨T2,Y8⟩:∃ T2,T2=(R++[(t1,t2,t3)]).set iT (t1,t2,t3):=⟨_,rfl⟩;have n2C:C2.length=l.C.length+1:=by rw[Y7];simp
 have n2T:T2.length=R.length+1:=by rw[Y8];simp
 rw[<-Y7]at dM;rw[<-Y8]at F9;obtain⟨J3,PL⟩:∃ L,L=pts C2:=⟨_,rfl⟩;obtain⟨Dl,PN⟩:∃ L,L=aG T2:=⟨_,rfl⟩;rw[<-PL]at dM;rw[<-PN]at F9;have fC:=fun(y0 y1 y2 y3 y4 y5 y6 y7 y8 jP jQ:Nat×av)=>Py (h:=h) (k:=false) (s1:=9) (s2:=10) (z:=2) (es:=pts l.C) (L:=J3) (fr:=[y0,y1,y2,y3,y4,y5,y6,y7,y8,bA 2 (pts l.C) J3,bB 2 (pts l.C) J3,jP,jQ]) (by rw[PL,jq,jq];exact n2C) rfl rfl
 have fP:=fun(y0 y1 y2 y3 y4 y5 y8 y9 nU jP jQ:Nat×av)=>Py (h:=h) (k:=false) (s1:=6) (s2:=7) (z:=2) (es:=pts l.P) (L:=LP) (fr:=[y0,y1,y2,y3,y4,y5,bA 2 (pts l.P) LP,bB 2 (pts l.P) LP,y8,y9,nU,jP,jQ]) (by rw[jq];exact nP) rfl rfl
 have fT:=fun(y0 y1 y2 y5 y6 y7 y8 y9 nU jP jQ:Nat×av)=>Py (h:=h) (k:=false) (s1:=3) (s2:=4) (z:=3) (es:=aG R) (L:=Dl) (fr:=[y0,y1,y2,bA 3 (aG R) Dl,bB 3 (aG R) Dl,y5,y6,y7,y8,y9,nU,jP,jQ]) (by rw[PN,gI,gI];exact n2T) rfl rfl
 simp only[List.set_cons_zero,List.set_cons_succ,List.length_cons,kz]at dM F9 fC fP fT
 obtain⟨H',lp⟩:=ajT (h:=h) (m:=m) (tv:=tv) (v27:=kV 3 (aG R) h.length 3 4) (X:=[bA 3 (aG R) Dl,bB 3 (aG R) Dl,(1,.box [.int .i64 r1,.int .i64 r2,.int .i64 r3,pV (fU l),cV (fU l)]),dA (pts l.P),dB (pts l.P),(1,.box [.int .i64 l.L,.int .i64 l.D,.int .i64 l.E,kV 2 (pts l.P) h.length 6 7,cV (fU l)]),dA (pts l.C),dB (pts l.C),(1,.box [.int .i64 l.L,.int .i64 l.D,.int .i64 l.E,pV (fU l),kV 2 (pts l.C) h.length 9 10]),(1,.box [.int .i64 l.L,.int .i64 l.D,.int .i64 l.E,pV (fU l),cV (fU l)])]) hm (Ls:=[.agg [.int .i64 l.L,.int .i64 l.D,.int .i64 l.E,pV (fU l),cV (fU l)],.agg [.int .i64 l.L,.int .i64 l.D,.int .i64 l.E,pV (fU l),.aN 2 J3],.agg [.int .i64 l.L,.int .i64 l.D,.int .i64 l.E,.aN 2 LP,cV (fU l)],.agg [.int .i64 r1,.int .i64 r2,.int .i64 r3,pV (fU l),cV (fU l)]]) rfl (fun k hk=>by
  have c4:=ok.c4;have p4:=ok.p4
  match k,hk with
  |0,_=>exact⟨fU l,ox,rfl⟩
  |1,_=>exact⟨⟨{ l with C:=C2 },false,false,if pts l.P=[]then 0 else 2,2⟩,⟨ox.p,.inl rfl,ox.lp,by simp only[];omega⟩,by rw[PL];rfl⟩
  |2,_=>exact⟨⟨{ l with P:=l.P++[(s1,s2)] },false,false,2,if pts l.C=[]then 0 else 2⟩,⟨.inl rfl,ox.c,by simp;omega,ox.lc⟩,by rw[hP2];rfl⟩
  |3,_=>exact⟨⟨{ l with L:=r1,D:=r2,E:=r3 },false,false,if pts l.P=[]then 0 else 2,if pts l.C=[]then 0 else 2⟩,⟨ox.p,ox.c,ox.lp,ox.lc⟩,rfl⟩)
  h1 (by omega) ft (v':=.aN 3 Dl) (X':=[dA (aG R),dB (aG R),(1,.box [.int .i64 r1,.int .i64 r2,.int .i64 r3,pV (fU l),cV (fU l)]),dA (pts l.P),dB (pts l.P),(1,.box [.int .i64 l.L,.int .i64 l.D,.int .i64 l.E,kV 2 (pts l.P) h.length 6 7,cV (fU l)]),dA (pts l.C),dB (pts l.C),(1,.box [.int .i64 l.L,.int .i64 l.D,.int .i64 l.E,pV (fU l),kV 2 (pts l.C) h.length 9 10]),(1,.box [.int .i64 l.L,.int .i64 l.D,.int .i64 l.E,pV (fU l),cV (fU l)])]) (V:=T2) (by rw[PN];exact .inr ⟨3,.inl rfl,.inl rfl⟩) (by omega) (fun b kk H=>by simp[VI.aU]) (fun B0 B1 B2=>by
   have:=fT B0 B1 B2 (1,.box [.int .i64 r1,.int .i64 r2,.int .i64 r3,pV (fU l),cV (fU l)]) (dA (pts l.P)) (dB (pts l.P)) (1,.box [.int .i64 l.L,.int .i64 l.D,.int .i64 l.E,kV 2 (pts l.P) h.length 6 7,cV (fU l)]) (dA (pts l.C)) (dB (pts l.C)) (1,.box [.int .i64 l.L,.int .i64 l.D,.int .i64 l.E,pV (fU l),kV 2 (pts l.C) h.length 9 10]) (1,.box [.int .i64 l.L,.int .i64 l.D,.int .i64 l.E,pV (fU l),cV (fU l)]);exact this) (0,.dead) (0,.dead) (0,.dead)
 have ln4:∀ a b c d:AV,jc false (.aM 5 [a,b,c,d])=some (.int .i64 4):=fun _ _ _ _=>rfl;rw[aY (x:=x3) rfl rfl rfl rfl];simp(maxSteps:=30000000)(disch:=omega)only[go_sem,x3,hs,gm,hwk,alC,alP,alT,a9,PD,a6,a7,a3,a4,lC,lT,ajU,ajV,gC,gT,eC,eT,dM,F9,fC,fP,ln4,lp]
end Go.VI.Dump
namespace Go.VI.Dump
open Go.VI.Num
theorem akb{cs:List AV}(h:gK (.agg [.int .i64,.int .i64]) cs):∃ a b:Int,fG.mk (.agg [.int .i64,.int .i64]) cs=.agg [.int .i64 a,.int .i64 b]:=by
 simp only[gK,xA]at h;obtain⟨a,b,rfl,⟨n,rfl,hn⟩,a',b',rfl,⟨n',rfl,hn'⟩,rfl⟩:=h;exact⟨n,n',rfl⟩
theorem Za{cs:List AV}(h:gK (.agg [.int .i64,.int .i64,.int .i64]) cs):∃ a b c:Int,fG.mk (.agg [.int .i64,.int .i64,.int .i64]) cs=.agg [.int .i64 a,.int .i64 b,.int .i64 c]:=by
 simp only[gK,xA]at h;obtain⟨a,b,rfl,⟨n,rfl,hn⟩,a',b',rfl,⟨n',rfl,hn'⟩,a'',b'',rfl,⟨n'',rfl,Yu⟩,rfl⟩:=h;exact⟨n,n',n'',rfl⟩
def PO:List fG:=[.int .i64,.int .i64,.int .i64,.slice 3 (.agg [.int .i64,.int .i64,.int .i64]),.slice 3 (.agg [.int .i64,.int .i64,.int .i64]),.agg [.int .i64,.int .i64],.agg [.int .i64,.int .i64,.int .i64],.int .i64,.int .i64,.agg [.int .i64,.int .i64,.int .i64]]
theorem akc(lo:Nat):(run lib).fn 11 [] ([]++[(0,.dead),(0,.dead),(0,.dead),(0,.dead),(0,.dead),(0,.dead),(0,.dead),(0,.dead),(0,.dead),(0,.dead),(0,.dead),(0,.dead),(0,.dead)]) lo=some (.bool true,[]++[(0,.dead),(0,.dead),(0,.dead),(0,.dead),(0,.dead),(0,.dead),(0,.dead),(0,.dead),(0,.dead),(0,.dead),(0,.dead),(0,.dead),(0,.dead)]):=ajG lo
theorem akd(xs:List AV)(ht:BL PO xs):∃ h',(run lib).fn 3 xs [] 0=some (.bool true,h'):=by
 simp only[PO,BL]at ht;obtain⟨c0,r0,rfl,t0,c1,r1,rfl,t1,c2,r2,rfl,t2,c3,r3,rfl,t3,c4,r4,rfl,t4,c5,r5,rfl,t5,c6,r6,rfl,t6,c7,r7,rfl,t7,c8,r8,rfl,t8,c9,r9,rfl,t9,rfl⟩:=ht;obtain⟨a,e0,h0⟩:=F3 t0;obtain⟨b,e1,h1⟩:=F3 t1;obtain⟨c,e2,h2⟩:=F3 t2;obtain⟨d,s3,l3,h3⟩:=Yt t3;obtain⟨g,s4,l4,h4⟩:=Yt t4;obtain⟨p1,p2,e5⟩:=akb t5;obtain⟨q1,q2,q3,e6⟩:=Za t6;obtain⟨pp,e7,h7⟩:=F3 t7;obtain⟨m,e8,h8⟩:=F3 t8;obtain⟨u1,u2,u3,e9⟩:=Za t9;rw[e0,e1,e2,e5,e6,e7,e8,e9];exact⟨_,ajX (h:=[]) akc h0 h1 h2 h7 h8 s3 l3 h3 s4 l4 h4 p1 p2 q1 q2 q3 u1 u2 u3 0⟩
end Go.VI.Dump
