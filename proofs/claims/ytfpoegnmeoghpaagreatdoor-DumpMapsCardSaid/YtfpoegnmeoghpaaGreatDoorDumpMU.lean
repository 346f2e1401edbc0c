/- What the functions on integers compute, part MU. -/
import Derived.Test.YtfpoegnmeoghpaaGreatDoorDumpMB
import Derived.Test.YtfpoegnmeoghpaaGreatDoorDumpMA
import Derived.Test.YtfpoegnmeoghpaaGreatDoorVIRF
set_option linter.unusedVariables false
set_option linter.unusedSimpArgs false
namespace Go.VI.Dump
open Go.VI.Num
theorem aop{h:Heap}{z:Nat}{v:AV}{es:List AV}(s:Sl h z v es):v.val=true/\v.cells=[v]:=by
 have:=s.jW;cases v<;>simp[iV]at this<;>exact⟨rfl,rfl⟩
def pt(p:Pr):AV:=.agg [.int .i64 p.1,.int .i64 p.2]
def pts(l:List Pr):List AV:=l.map pt
@[simp] theorem Bw (l:List Pr):(pts l).length=l.length:=by simp [pts]
theorem FO(l:List Pr)(k:Nat)(h:k<(pts l).length):(pts l)[k]=pt (l[k]'(by simpa using h)):=by simp[pts]
def oh(f:Bool)(z:Nat)(es:List AV):AV:=if f then .bF z es else .aW z es
@[go_sem] theorem L9(f:Bool)(z:Nat)(es:List AV):(oh f z es).val=true:=by unfold oh;split<;>rfl
@[go_sem] theorem Mg(f:Bool)(z:Nat)(es:List AV):(oh f z es).cells=[oh f z es]:=by unfold oh;split<;>rfl
@[go_sem] theorem Mh(f:Bool)(z:Nat)(es:List AV):(oh f z es).closed=true:=by unfold oh;split<;>rfl
@[go_sem] theorem FP(b:Nat)(k:Bool)(f:Bool)(z:Nat)(es:List AV)(h:Heap):bL b k (oh f z es) h=some (oh f z es,h):=by unfold oh;split<;>simp[bL]
theorem FR{z z':Nat}{es:List AV}(hz:z'=z\/es=[])(f:Bool)(h:Heap):Sl h z (oh f z' es) es:=by
 unfold oh;split
 ·rcases hz with rfl|rfl
  ·exact Sl.bF h _ _
  ·exact⟨by simp[VI.jd],fun _=>rfl,rfl⟩
 ·exact abh hz
def qK{α:Type}(l:List α)(p:α->Bool)(k:Nat):Option Nat:=((l.drop k).findIdx? p).map (·+k)
theorem VL{α:Type}{l:List α}{p:α->Bool}:qK l p l.length=none:=by unfold qK;rw[List.drop_length];rfl
theorem VO{α:Type}{l:List α}{p:α->Bool}{k:Nat}(hk:k<l.length)(hp:p l[k]=true):qK l p k=some k:=by
 unfold qK;rw[qH hk,List.findIdx?_cons,if_pos hp];simp
theorem VP{α:Type}{l:List α}{p:α->Bool}{k:Nat}(hk:k<l.length)(hp:p l[k]=false):qK l p k=qK l p (k+1):=by
 unfold qK;rw[qH hk,List.findIdx?_cons,hp,if_neg Bool.false_ne_true,Option.map_map];congr 1;funext x;simp;omega
theorem aoq{h:Heap}{v:AV}{l:List Pr}(hv:Sl h 2 v (pts l))(hl:l.length<=9223372036854775807){g:Nat}(hg:g<1000){caps:List AV}{p:Pr->Bool}
  (hF:∀ x∈l,∀ lo,(run lib).fn g (pt x::caps) h lo=some (.bool (p x),h)) (lo:Nat):∀(d k:Nat),k+d=l.length ->
  aQ lib ⟨lo,h.length,0,none⟩ (.loop TM) ([(0,v),(1,.fn g caps),(7,.int .i64 l.length),(8,.int .i64 k)],h) =
   match qK l p k with|some r=>some (.ret,([(4,.int .i64 r)],h))|none=>some (.exit 0,([],h)):=by
 intro d
 induction d with
 |zero =>
  intro k hk;obtain rfl:k=l.length:=by omega
  rw[VL,bU]
  simp(maxSteps:=1000000)(disch:=omega)only[go_sem,nR]
 |succ d ih =>
  intro k hk;have hk':k<l.length:=by omega
  have h1:(k:Int)<l.length:=by omega
  have e3:iM 2 v (.int .i64 k)=some k:=by rw[kr hv (by omega) (by simp;omega)];simp
  have e4:=fun off=>jV (off:=off) hv.jW (show k<(pts l).length by simp;omega)
  simp only[FO,pt]at e4;have f:=fun lo=>hF l[k] (l9 _) lo;simp only[pt]at f
  cases hp:p l[k] with
  |true =>
   rw[VO hk' hp,bU];rw[hp]at f
   simp(maxSteps:=1000000)(disch:=omega)only[go_sem,h1,e3,e4,f,hg,List.cons_append,List.nil_append]
  |false =>
   rw[VP hk' hp,bU];rw[hp]at f;have e:=ih (k+1) (by omega)
   rw[jo]at e;simp(maxSteps:=1000000)(disch:=omega)only[go_sem,h1,e3,e4,f,hg,List.cons_append,List.nil_append,e]
def za{α:Type}(l:List α)(p:α->Bool):Int:=match qK l p 0 with|some r=>(r:Int)|none=>-1
theorem aor{h:Heap}{v:AV}{l:List Pr}(hv:Sl h 2 v (pts l))(hl:l.length<=9223372036854775807){g:Nat}(hg:g<1000){caps:List AV}{p:Pr->Bool}
  (hF:∀ x∈l,∀ lo,(run lib).fn g (pt x::caps) h lo=some (.bool (p x),h)) (lo:Nat):(run lib).fn 92 [v,.fn g caps] h lo=some (.int .i64 (za l p),h):=by
 have e:=aoq hv hl hg hF h.length l.length 0 (by omega)
 have ll:=iB hv.len;rw[Bw]at ll;unfold za;simp only[qX]at e;rw[bW (x:=O5) rfl rfl rfl rfl]
 cases hr:qK l p 0 with
 |none =>
  rw[hr]at e
  simp(maxSteps:=1000000)(disch:=omega)only[go_sem,O5,ll,e]
 |some r =>
  rw[hr]at e;simp(maxSteps:=1000000)(disch:=omega)only[go_sem,O5,ll,e]
theorem VT{α:Type}{l:List α}{p:α->Bool}:decide (0<=za l p)=l.any p:=by
 unfold za qK
 cases h:l.findIdx? p with
 |none =>
  rw[List.drop_zero,h];rw[List.findIdx?_eq_none_iff]at h;have:l.any p=false:=by rw[List.any_eq_false];intro x hx;rw[h x hx];simp
  rw[this];rfl
 |some r =>
  rw[List.drop_zero,h]
  have:l.any p=true:=by
   cases ha:l.any p with
   |true=>rfl
   |false =>
    rw[List.any_eq_false]at ha;have:l.findIdx? p=none:=List.findIdx?_eq_none_iff.mpr fun x hx=>by simpa using ha x hx
    rw[this]at h;cases h
  rw[this];simp
theorem Am{h:Heap}{v:AV}{l:List Pr}(hv:Sl h 2 v (pts l))(hl:l.length<=9223372036854775807){g:Nat}(hg:g<1000){caps:List AV}{p:Pr->Bool}
  (hF:∀ x∈l,∀ lo,(run lib).fn g (pt x::caps) h lo=some (.bool (p x),h)) (lo:Nat):(run lib).fn 52 [v,.fn g caps] h lo=some (.bool (l.any p),h):=by
 have e:=fun lo=>aor hv hl hg hF lo;have hn:=VT (l:=l) (p:=p);rw[<-hn];rw[bW (x:=TF) rfl rfl rfl rfl];simp(maxSteps:=1000000)(disch:=omega)only[go_sem,TF,e]
theorem aos(x:Pr)(s:Int)(h:Heap)(lo:Nat):(run lib).fn 131 [pt x,.bR [.int .i64 s]] h lo=some (.bool (decide (x.1<=s)&&decide (s<x.2)),h):=by
 unfold pt;rw[bW (x:=Ud) rfl rfl rfl rfl];by_cases c:x.1<=s<;>simp(maxSteps:=1000000)(disch:=omega)only[go_sem,Ud,c]
theorem Ej{h:Heap}{v:AV}{l:List Pr}(hv:Sl h 2 v (pts l))(hl:l.length<=9223372036854775807)(s:Int)(lo:Nat):(run lib).fn 90 [v,.int .i64 s] h lo=some (.bool (hasB l s),h):=by
 have e:=fun lo=>Am (g:=131) hv hl (by decide) (fun x _ lo=>aos x s h lo) lo
 unfold hasB;rw[bW (x:=x90) rfl rfl rfl rfl];simp(maxSteps:=1000000)(disch:=omega)only[go_sem,x90,e]
theorem aot{h:Heap}{v:AV}{l:List Pr}(hv:Sl h 2 v (pts l))(hl:l.length<=9223372036854775807)(L m:Int):∀(d k:Nat) (last:Int) (B:Nat×au),k+d=l.length ->
  ∃ B',aQ lib ⟨h.length,h.length,1,none⟩ (.loop TD) ([(0,v),(1,.int .i64 L),(2,.int .i64 m),(7,.int .i64 last),(10,v),(11,.int .i64 l.length),(12,.int .i64 k)],h++[B]) =
   if nY L last (l.drop k)=true then some (.exit 0,([(0,v),(2,.int .i64 m)],h++[B']))else some (.ret,([(6,.bool false)],h++[B'])):=by
 intro d
 induction d with
 |zero =>
  intro k last B hk;obtain rfl:k=l.length:=by omega
  refine⟨B, ?_⟩;rw[List.drop_length,bU]
  simp(maxSteps:=1000000)(disch:=omega)only[go_sem,nR,nY]
 |succ d ih =>
  intro k last B hk;have hk':k<l.length:=by omega
  have h1:(k:Int)<l.length:=by omega
  have e3:iM 2 v (.int .i64 k)=some k:=by rw[kr hv (by omega) (by simp;omega)];simp
  have e4:=fun off fr=>jV (off:=off) (hv.elems fr) (show k<(pts l).length by simp;omega)
  simp only[FO,pt]at e4;obtain⟨v0,b0⟩:=B;obtain⟨B',e⟩:=ih (k+1) l[k].2 (v0+1,.box [.int .i64 l[k].1,.int .i64 l[k].2]) (by omega)
  rw[jo]at e;rw[qH hk'];simp only[nY,bM,decide_eq_true_eq];by_cases c1:l[k].1<=last
  ·refine⟨(v0+1,.box [.int .i64 l[k].1,.int .i64 l[k].2]), ?_⟩;rw[if_neg (by omega),bU]
   simp(maxSteps:=1000000)(disch:=omega)only[go_sem,h1,e3,e4,c1]
  ·by_cases c2:l[k].2<=l[k].1
   ·refine⟨(v0+1,.box [.int .i64 l[k].1,.int .i64 l[k].2]), ?_⟩;rw[if_neg (by omega),bU]
    simp(maxSteps:=1000000)(disch:=omega)only[go_sem,h1,e3,e4,c1,c2]
   ·by_cases c3:L<l[k].2
    ·refine⟨(v0+1,.box [.int .i64 l[k].1,.int .i64 l[k].2]), ?_⟩;rw[if_neg (by omega),bU]
     simp(maxSteps:=1000000)(disch:=omega)only[go_sem,h1,e3,e4,c1,c2,c3]
    ·refine⟨B', ?_⟩;have hh:(last<l[k].1/\l[k].1<l[k].2/\l[k].2<=L/\nY L l[k].2 (l.drop (k+1))=true)↔nY L l[k].2 (l.drop (k+1))=true:=⟨fun h=>h.2.2.2,fun h=>⟨by omega,by omega,by omega,h⟩⟩
     simp only[hh];rw[bU];simp(maxSteps:=1000000)(disch:=omega)only[go_sem,h1,e3,e4,c1,c2,c3,e]
theorem adH{h:Heap}{v:AV}{l:List Pr}(hv:Sl h 2 v (pts l))(hl:l.length<=9223372036854775807)(L m:Int)(lo:Nat):(run lib).fn 51 [v,.int .i64 L,.int .i64 m] h lo=some (.bool (nY L (-1) l&&decide ((l.length:Int)<=m)),h):=by
 obtain⟨B',e⟩:=aot hv hl L m l.length 0 (-1) (0,.dead) (by omega)
 have ll:=iB hv.len;rw[Bw]at ll;simp only[qX,List.drop_zero]at e;rw[bW (x:=OY) rfl rfl rfl rfl];cases c:nY L (-1) l
 ·rw[c,if_neg (by simp)]at e
  simp(maxSteps:=1000000)(disch:=omega)only[go_sem,OY,ll,e]
 ·rw[c,if_pos rfl]at e;simp(maxSteps:=1000000)(disch:=omega)only[go_sem,OY,ll,e]
structure LV where
 l:iD
 fp:Bool
 fc:Bool
 zp:Nat
 zc:Nat
structure okV(x:LV):Prop where
 p:x.zp=2\/pts x.l.P=[]
 c:x.zc=2\/pts x.l.C=[]
 lp:x.l.P.length<=9223372036854775807
 lc:x.l.C.length<=9223372036854775807
def pV(x:LV):AV:=oh x.fp x.zp (pts x.l.P)
def cV(x:LV):AV:=oh x.fc x.zc (pts x.l.C)
@[go_sem] theorem awu(b:Nat)(k:Bool)(x:LV)(h:Heap):bL b k (pV x) h=some (pV x,h):=FP _ _ _ _ _ _
@[go_sem] theorem awv(b:Nat)(k:Bool)(x:LV)(h:Heap):bL b k (cV x) h=some (cV x,h):=FP _ _ _ _ _ _
theorem okV.sp{x:LV}(o:okV x)(h:Heap):Sl h 2 (pV x) (pts x.l.P):=FR o.p _ h
theorem okV.sc{x:LV}(o:okV x)(h:Heap):Sl h 2 (cV x) (pts x.l.C):=FR o.c _ h
def VW(x:LV):List AV:=[.int .i64 x.l.L,.int .i64 x.l.D,.int .i64 x.l.E,pV x,cV x]
def nA(x:LV):AV:=.agg [.int .i64 x.l.L,.int .i64 x.l.D,.int .i64 x.l.E,pV x,cV x]
theorem aou(c p:Pr)(h:Heap)(lo:Nat):(run lib).fn 54 [pt c,.bR [.int .i64 p.1,.int .i64 p.2]] h lo=some (.bool (decide (p.1<c.2)&&decide (c.1<p.2)),h):=by
 unfold pt;rw[bW (x:=x54) rfl rfl rfl rfl];by_cases c:p.1<c.2<;>simp(maxSteps:=1000000)(disch:=omega)only[go_sem,x54,c]
theorem aov{x:LV}(o:okV x)(p:Pr)(h:Heap)(lo:Nat):(run lib).fn 53 [pt p,.bR [.int .i64 x.l.L,.int .i64 x.l.D,.int .i64 x.l.E,pV x,cV x]] h lo=some (.bool (x.l.C.any fun c=>decide (p.1<c.2)&&decide (c.1<p.2)),h):=by
 have e:=fun H lo=>Am (g:=54) (o.sc H) o.lc (by decide) (fun c _ lo=>aou c p H lo) lo
 unfold pt;rw[bW (x:=TG) rfl rfl rfl rfl];simp(maxSteps:=1000000)(disch:=omega)only[go_sem,TG,e]
def QC(l:iD):Bool:=decide (1<=l.L)&&(decide (l.L<=600)&&(decide (0<=l.D)&&(decide (l.D<=60)&&(decide (1<=l.E)&&(decide (l.E<=60)&&((nY l.L (-1) l.P&&decide ((l.P.length:Int)<=4))&&((nY l.L (-1) l.C&&decide ((l.C.length:Int)<=4))&&!l.P.any fun p=>l.C.any fun c=>decide (p.1<c.2)&&decide (c.1<p.2))))))))
theorem QD{l:iD}:QC l=true↔lS l:=by
 unfold QC;simp only[bM,decide_eq_true_eq,sD,List.any_eq_false,Bool.not_eq_true];constructor
 ·rintro⟨h1,h2,h3,h4,h5,h6,⟨h7,h8⟩,⟨h9,h10⟩,h11⟩;refine⟨⟨h1,h2⟩,⟨h3,h4⟩,⟨h5,h6⟩,h7,h9,by omega,by omega,fun p hp=>?_⟩
  rw[Bh];intro c hc h;have:=h11 p hp c hc;omega
 ·intro o;refine⟨o.L.1,o.L.2,o.D.1,o.D.2,o.E.1,o.E.2,⟨o.P,by have:=o.p4;omega⟩,⟨o.C,by have:=o.c4;omega⟩,fun p hp=>?_⟩
  intro c hc;have:=Bh.mp (o.Ic p hp) c hc;omega
theorem Mi{x:LV}(o:okV x)(h:Heap)(lo:Nat):(run lib).fn 22 [nA x] h lo=some (.bool (QC x.l),h):=by
 have e1:=fun H lo L m=>adH (o.sp H) o.lp L m lo;have e2:=fun H lo L m=>adH (o.sc H) o.lc L m lo;have e3:=fun H lo=>Am (g:=53) (o.sp H) o.lp (by decide) (fun p _ lo=>aov o p H lo) lo
 unfold nA;rw[bW (x:=zO) rfl rfl rfl rfl];unfold QC;by_cases c1:1<=x.l.L
 ·by_cases c2:x.l.L<=600
  ·by_cases c3:0<=x.l.D
   ·by_cases c4:x.l.D<=60
    ·by_cases c5:1<=x.l.E
     ·by_cases c6:x.l.E<=60
      ·have k1:¬ x.l.L<1:=by omega
       have k2:¬ 600<x.l.L:=by omega
       have k3:¬ x.l.D<0:=by omega
       have k4:¬ 60<x.l.D:=by omega
       have k5:¬ x.l.E<1:=by omega
       have k6:¬ 60<x.l.E:=by omega
       simp only[c1,c2,c3,c4,c5,c6,decide_true,Bool.true_and];cases c7:(nY x.l.L (-1) x.l.P&&decide ((x.l.P.length:Int)<=4))
       ·simp(maxSteps:=1000000)(disch:=omega)only[go_sem,zO,k1,k2,k3,k4,k5,k6,e1,e2,e3,c7]
       ·cases c8:(nY x.l.L (-1) x.l.C&&decide ((x.l.C.length:Int)<=4))
        ·simp(maxSteps:=1000000)(disch:=omega)only[go_sem,zO,k1,k2,k3,k4,k5,k6,e1,e2,e3,c7,c8]
        ·simp(maxSteps:=1000000)(disch:=omega)only[go_sem,zO,k1,k2,k3,k4,k5,k6,e1,e2,e3,c7,c8]
      ·have k1:¬ x.l.L<1:=by omega
       have k2:¬ 600<x.l.L:=by omega
       have k3:¬ x.l.D<0:=by omega
       have k4:¬ 60<x.l.D:=by omega
       have k5:¬ x.l.E<1:=by omega
       have k6:60<x.l.E:=by omega
       simp(maxSteps:=1000000)(disch:=omega)only[go_sem,zO,k1,k2,k3,k4,k5,k6,c6]
     ·have k1:¬ x.l.L<1:=by omega
      have k2:¬ 600<x.l.L:=by omega
      have k3:¬ x.l.D<0:=by omega
      have k4:¬ 60<x.l.D:=by omega
      have k5:x.l.E<1:=by omega
      simp(maxSteps:=1000000)(disch:=omega)only[go_sem,zO,k1,k2,k3,k4,k5,c5]
    ·have k1:¬ x.l.L<1:=by omega
     have k2:¬ 600<x.l.L:=by omega
     have k3:¬ x.l.D<0:=by omega
     have k4:60<x.l.D:=by omega
     simp(maxSteps:=1000000)(disch:=omega)only[go_sem,zO,k1,k2,k3,k4,c4]
   ·have k1:¬ x.l.L<1:=by omega
    have k2:¬ 600<x.l.L:=by omega
    have k3:x.l.D<0:=by omega
    simp(maxSteps:=1000000)(disch:=omega)only[go_sem,zO,k1,k2,k3,c3]
  ·have k1:¬ x.l.L<1:=by omega
   have k2:600<x.l.L:=by omega
   simp(maxSteps:=1000000)(disch:=omega)only[go_sem,zO,k1,k2,c2]
 ·have k1:x.l.L<1:=by omega
  simp(maxSteps:=1000000)(disch:=omega)only[go_sem,zO,k1,c1]
end Go.VI.Dump
namespace Go.VI
variable {lo nb ns:Nat}
theorem aow{g:Heap}(hg:g.length=nb)(fr:Heap)(s:Nat):(g++fr)[nb+s]?=fr[s]?:=by subst hg;exact cO g fr s
theorem oq{g:Heap}(hg:g.length=nb)(fr:Heap)(s ai off:Nat):ig (g++fr) (.aF (nb+s) ai off)=KG ai off fr[s]?:=by subst hg;exact aa2 g fr s ai off
theorem rz{g:Heap}(hg:g.length=nb)(hlo:lo<=nb)(fr:Heap)(sz s ai off:Nat)(v:AV):iX ⟨lo,nb,ns,none⟩ (g++fr) sz (.aF (nb+s) ai off) v=if v.cells.length=sz/\v.val=true then yI s lo ns ai off g fr v fr[s]? else none:=by subst hg;exact aa3 hlo
theorem sK{g:Heap}(hg:g.length=nb)(fr:Heap)(s:Nat)(b:au):fB ⟨lo,nb,ns,none⟩ s b (g++fr)=vB s ns b g fr fr[s]?:=by subst hg;exact AP lo ns s b g fr
def klF(cx:Cx)(s:Nat)(ss:List Nat)(g fr:Heap):Option (Nat×au)->Heap
 |some (v,_)=>nD cx ss (g++fr.set s (v,.dead))
 |none=>nD cx ss (g++fr)
theorem wP(cx:Cx)(s:Nat)(ss:List Nat)(g fr:Heap)(v:Nat)(b:au):klF cx s ss g fr (some (v,b))=nD cx ss (g++fr.set s (v,.dead)):=rfl
theorem wQ{g:Heap}(hg:g.length=nb)(fr:Heap)(s:Nat)(ss:List Nat):nD ⟨lo,nb,ns,none⟩ (s::ss) (g++fr)=klF ⟨lo,nb,ns,none⟩ s ss g fr fr[s]?:=by
 subst hg;rw[ak4]
 cases fr[s]? with
 |none=>rfl
 |some p=>rfl
theorem uw{g:Heap}(hg:g.length=nb)(env:Env)(fr:Heap)(s:Nat):fQ.ok ⟨lo,nb,ns,none⟩ env (g++fr) (.dead s)=SV fr[s]?:=by subst hg;exact ak7 lo ns env g fr s
end Go.VI
namespace Go.VI.Dump
open Go.VI.Num
/- BIGSTEPS -/
def iO(x:Stp):List AV:=[.int .i64 x.fr,.int .i64 x.to,.int .i64 x.be,.int .i64 x.af,.int .i64 x.de,.bool x.cut,.bool x.str]
def nS(x:Stp):AV:=.agg [.int .i64 x.fr,.int .i64 x.to,.int .i64 x.be,.int .i64 x.af,.int .i64 x.de,.bool x.cut,.bool x.str]
theorem El{h:Heap}{nb:Nat}(hn:h.length=nb){fr:Heap}{s:Int}{x:LV}{j v:Nat}(hs:fr[j]?=some (v,.box [.int .i64 s]))(h1:0<=s)(h2:s<=600)(h3:1<=x.l.E)(h4:x.l.E<=60)(q:Pr)(lo:Nat) :
  (run lib).fn 91 [pt q,.aF (nb+j) v 0,.bR [.int .i64 x.l.L,.int .i64 x.l.D,.int .i64 x.l.E,pV x,cV x]] (h++fr) lo=some (.bool (decide (q.1<s+x.l.E)&&decide (s<q.2)),h++fr):=by
 subst hn
 have hp:∀ fr2:Heap,ig (h++(fr++fr2)) (.aF (h.length+j) v 0)=some [.int .i64 s]:=fun fr2=>by
  rw[aa2,kY (dQ.mp hs).1,hs];simp[KG]
 have hp0:=hp [];rw[nI]at hp0;unfold pt;rw[bW (x:=x91) rfl rfl rfl rfl];by_cases c:q.1<s+x.l.E<;>simp(maxSteps:=30000000)(disch:=omega)only[go_sem,x91,hp0,c,jO,hp]
section
variable {x:LV}{s d:Int}{h h':Heap}{nb lo id iv:Nat}{v v1:Nat}{b1:au}
@[reducible] def sM(x:LV)(id iv nb j v:Nat)(d a:Int):Env:=[(0,.dY id iv),(1,.bR [.int .i64 x.l.L,.int .i64 x.l.D,.int .i64 x.l.E,pV x,cV x]),(3,.int .i64 d),(4,.int .i64 a),(5,.aF (nb+j) v 0)]
theorem aox(o:okV x)(ok:lS x.l)(hn:h.length=nb)(hn':h'.length=nb)(hlo:lo<=nb)(g1:s<x.l.L)(g2:hasB x.l.C s=true)(g3:0<d)(hs:0<=s)(hd:0<=d/\d<=x.l.D)(B2:Nat×au)
  (hy:iY (run lib) ⟨lo,nb,3,none⟩ id iv [.agg [.int .i64 (s),.int .i64 (s+1),.int .i64 (s+d),.int .i64 (s+d),.int .i64 (d),.bool true,.bool false]] (h++[(v,.box [.int .i64 s]),(v1+1,.box [.int .i64 (s),.int .i64 (s+1),.int .i64 (s+d),.int .i64 (s+d),.int .i64 (d),.bool true,.bool false]),B2])=some (.bool true,h'++[(v,.box [.int .i64 s]),(v1+1,.box [.int .i64 (s),.int .i64 (s+1),.int .i64 (s+d),.int .i64 (s+d),.int .i64 (d),.bool true,.bool false]),B2])) :
  aQ lib ⟨lo,nb,3,none⟩ (.loop rP) (sM x id iv nb 0 v d (s+d),h++[(v,.box [.int .i64 s]),(v1,b1),B2]) =
   aQ lib ⟨lo,nb,3,none⟩ (.loop rP) (sM x id iv nb 0 (v+1) (d-1) (s+d),h'++[(v+1,.box [.int .i64 (s+1)]),(v1+1,.box [.int .i64 (s),.int .i64 (s+1),.int .i64 (s+d),.int .i64 (s+d),.int .i64 (d),.bool true,.bool false]),B2]):=by
 obtain⟨L1,L2⟩:=ok.L;obtain⟨D1,D2⟩:=ok.D;obtain⟨E1,E2⟩:=ok.E;have hc:=fun H lo=>Ej (o.sc H) o.lc s lo;rw[g2]at hc
 conv=>lhs;rw[bU]
 simp(maxSteps:=30000000)(disch:=omega)only[go_sem,mW,hc,g1,hn,hn',hy,oq,rz,sK,wQ,wP,wC,uw,wR,Nat.reduceEqDiff,g3]
theorem aoy(o:okV x)(ok:lS x.l)(hn:h.length=nb)(hn':h'.length=nb)(hlo:lo<=nb)(g1:s<x.l.L)(g2:hasB x.l.C s=true)(g3:0<d)(hs:0<=s)(hd:0<=d/\d<=x.l.D)(v0:Nat)(c0:au)
  (hy:iY (run lib) ⟨lo,nb,3,none⟩ id iv [.agg [.int .i64 (s),.int .i64 (s+1),.int .i64 (s+d),.int .i64 (s+d),.int .i64 (d),.bool true,.bool false]] (h++[(v0,c0),(v1+1,.box [.int .i64 (s),.int .i64 (s+1),.int .i64 (s+d),.int .i64 (s+d),.int .i64 (d),.bool true,.bool false]),(v,.box [.int .i64 s])])=some (.bool true,h'++[(v0,c0),(v1+1,.box [.int .i64 (s),.int .i64 (s+1),.int .i64 (s+d),.int .i64 (s+d),.int .i64 (d),.bool true,.bool false]),(v,.box [.int .i64 s])])) :
  aQ lib ⟨lo,nb,3,none⟩ (.loop rP) (sM x id iv nb 2 v d (s+d),h++[(v0,c0),(v1,b1),(v,.box [.int .i64 s])]) =
   aQ lib ⟨lo,nb,3,none⟩ (.loop rP) (sM x id iv nb 0 (v0+1) (d-1) (s+d),h'++[(v0+1,.box [.int .i64 (s+1)]),(v1+1,.box [.int .i64 (s),.int .i64 (s+1),.int .i64 (s+d),.int .i64 (s+d),.int .i64 (d),.bool true,.bool false]),(v,.box [.int .i64 (s+1)])]):=by
 obtain⟨L1,L2⟩:=ok.L;obtain⟨D1,D2⟩:=ok.D;obtain⟨E1,E2⟩:=ok.E;have hc:=fun H lo=>Ej (o.sc H) o.lc s lo;rw[g2]at hc
 conv=>lhs;rw[bU]
 simp(maxSteps:=30000000)(disch:=omega)only[go_sem,mW,hc,g1,hn,hn',hy,oq,rz,sK,wQ,wP,wC,uw,wR,Nat.reduceEqDiff,g3]
theorem aoz(o:okV x)(ok:lS x.l)(hn:h.length=nb)(hn':h'.length=nb)(hlo:lo<=nb)(g1:s<x.l.L)(g2:hasB x.l.C s=true)(g3:d=0)(hs:0<=s)(hd:0<=d/\d<=x.l.D)(B2:Nat×au)
  (hy:iY (run lib) ⟨lo,nb,3,none⟩ id iv [.agg [.int .i64 (s),.int .i64 (s+1),.int .i64 (s+d),.int .i64 (s+d+1),.int .i64 (d),.bool true,.bool false]] (h++[(v,.box [.int .i64 s]),(v1+1,.box [.int .i64 (s),.int .i64 (s+1),.int .i64 (s+d),.int .i64 (s+d+1),.int .i64 (d),.bool true,.bool false]),B2])=some (.bool true,h'++[(v,.box [.int .i64 s]),(v1+1,.box [.int .i64 (s),.int .i64 (s+1),.int .i64 (s+d),.int .i64 (s+d+1),.int .i64 (d),.bool true,.bool false]),B2])) :
  aQ lib ⟨lo,nb,3,none⟩ (.loop rP) (sM x id iv nb 0 v d (s+d),h++[(v,.box [.int .i64 s]),(v1,b1),B2]) =
   aQ lib ⟨lo,nb,3,none⟩ (.loop rP) (sM x id iv nb 0 (v+1) (d) (s+d+1),h'++[(v+1,.box [.int .i64 (s+1)]),(v1+1,.box [.int .i64 (s),.int .i64 (s+1),.int .i64 (s+d),.int .i64 (s+d+1),.int .i64 (d),.bool true,.bool false]),B2]):=by
 obtain⟨L1,L2⟩:=ok.L;obtain⟨D1,D2⟩:=ok.D;obtain⟨E1,E2⟩:=ok.E;have hc:=fun H lo=>Ej (o.sc H) o.lc s lo;rw[g2]at hc;subst g3
 conv=>lhs;rw[bU]
 simp(maxSteps:=30000000)(disch:=omega)only[go_sem,mW,hc,g1,hn,hn',hy,oq,rz,sK,wQ,wP,wC,uw,wR,Nat.reduceEqDiff,nR]
theorem aoA(o:okV x)(ok:lS x.l)(hn:h.length=nb)(hn':h'.length=nb)(hlo:lo<=nb)(g1:s<x.l.L)(g2:hasB x.l.C s=true)(g3:d=0)(hs:0<=s)(hd:0<=d/\d<=x.l.D)(v0:Nat)(c0:au)
  (hy:iY (run lib) ⟨lo,nb,3,none⟩ id iv [.agg [.int .i64 (s),.int .i64 (s+1),.int .i64 (s+d),.int .i64 (s+d+1),.int .i64 (d),.bool true,.bool false]] (h++[(v0,c0),(v1+1,.box [.int .i64 (s),.int .i64 (s+1),.int .i64 (s+d),.int .i64 (s+d+1),.int .i64 (d),.bool true,.bool false]),(v,.box [.int .i64 s])])=some (.bool true,h'++[(v0,c0),(v1+1,.box [.int .i64 (s),.int .i64 (s+1),.int .i64 (s+d),.int .i64 (s+d+1),.int .i64 (d),.bool true,.bool false]),(v,.box [.int .i64 s])])) :
  aQ lib ⟨lo,nb,3,none⟩ (.loop rP) (sM x id iv nb 2 v d (s+d),h++[(v0,c0),(v1,b1),(v,.box [.int .i64 s])]) =
   aQ lib ⟨lo,nb,3,none⟩ (.loop rP) (sM x id iv nb 0 (v0+1) (d) (s+d+1),h'++[(v0+1,.box [.int .i64 (s+1)]),(v1+1,.box [.int .i64 (s),.int .i64 (s+1),.int .i64 (s+d),.int .i64 (s+d+1),.int .i64 (d),.bool true,.bool false]),(v,.box [.int .i64 (s+1)])]):=by
 obtain⟨L1,L2⟩:=ok.L;obtain⟨D1,D2⟩:=ok.D;obtain⟨E1,E2⟩:=ok.E;have hc:=fun H lo=>Ej (o.sc H) o.lc s lo;rw[g2]at hc;subst g3
 conv=>lhs;rw[bU]
 simp(maxSteps:=30000000)(disch:=omega)only[go_sem,mW,hc,g1,hn,hn',hy,oq,rz,sK,wQ,wP,wC,uw,wR,Nat.reduceEqDiff,nR]
theorem aoB(o:okV x)(ok:lS x.l)(hn:h.length=nb)(hn':h'.length=nb)(hlo:lo<=nb)(g1:s<x.l.L)(g2:hasB x.l.C s=false)(g3:d<x.l.D)(g4:s+x.l.E<=x.l.L)(g5:lM x.l.C s (s+x.l.E)=false)(g6:lM x.l.P s (s+x.l.E)=false)(hs:0<=s)(hd:0<=d/\d<=x.l.D)(B2:Nat×au)
  (hy:iY (run lib) ⟨lo,nb,3,none⟩ id iv [.agg [.int .i64 (s),.int .i64 (s+x.l.E),.int .i64 (s+d),.int .i64 (s+d+x.l.E+1),.int .i64 (d),.bool false,.bool true]] (h++[(v,.box [.int .i64 s]),(v1+1,.box [.int .i64 (s),.int .i64 (s+x.l.E),.int .i64 (s+d),.int .i64 (s+d+x.l.E+1),.int .i64 (d),.bool false,.bool true]),B2])=some (.bool true,h'++[(v,.box [.int .i64 s]),(v1+1,.box [.int .i64 (s),.int .i64 (s+x.l.E),.int .i64 (s+d),.int .i64 (s+d+x.l.E+1),.int .i64 (d),.bool false,.bool true]),B2])) :
  aQ lib ⟨lo,nb,3,none⟩ (.loop rP) (sM x id iv nb 0 v d (s+d),h++[(v,.box [.int .i64 s]),(v1,b1),B2]) =
   aQ lib ⟨lo,nb,3,none⟩ (.loop rP) (sM x id iv nb 0 (v+1) (d+1) (s+d+x.l.E+1),h'++[(v+1,.box [.int .i64 (s+x.l.E)]),(v1+1,.box [.int .i64 (s),.int .i64 (s+x.l.E),.int .i64 (s+d),.int .i64 (s+d+x.l.E+1),.int .i64 (d),.bool false,.bool true]),B2]):=by
 obtain⟨L1,L2⟩:=ok.L;obtain⟨D1,D2⟩:=ok.D;obtain⟨E1,E2⟩:=ok.E;have hc:=fun H lo=>Ej (o.sc H) o.lc s lo;rw[g2]at hc;have m1:=fun fr hf lo=>Am (g:=91) (o.sc (h++fr)) o.lc (by decide) (fun q _ lo=>El (x:=x) (v:=v) (j:=0) hn (fr:=fr) hf hs (by omega) E1 E2 q lo) lo
 have m2:=fun fr hf lo=>Am (g:=91) (o.sp (h++fr)) o.lp (by decide) (fun q _ lo=>El (x:=x) (v:=v) (j:=0) hn (fr:=fr) hf hs (by omega) E1 E2 q lo) lo
 have e1:(x.l.C.any fun q=>decide (q.1<s+x.l.E)&&decide (s<q.2))=lM x.l.C s (s+x.l.E):=rfl;have e2:(x.l.P.any fun q=>decide (q.1<s+x.l.E)&&decide (s<q.2))=lM x.l.P s (s+x.l.E):=rfl;rw[e1]at m1;rw[e2]at m2;have m1:=m1 [(v,.box [.int .i64 s]),(v1+1,.box [.int .i64 s,.int .i64 (s+1),.int .i64 (s+d),.int .i64 (s+d+1),.int .i64 d,.bool false,.bool false]),B2] rfl;have m2:=m2 [(v,.box [.int .i64 s]),(v1+1,.box [.int .i64 s,.int .i64 (s+1),.int .i64 (s+d),.int .i64 (s+d+1),.int .i64 d,.bool false,.bool false]),B2] rfl;rw[g5]at m1;rw[g6]at m2
 conv=>lhs;rw[bU]
 simp(maxSteps:=30000000)(disch:=omega)only[go_sem,mW,hc,g1,hn,hn',hy,oq,rz,sK,wQ,wP,wC,uw,wR,Nat.reduceEqDiff,g3,g4,m1,m2]
theorem aoC(o:okV x)(ok:lS x.l)(hn:h.length=nb)(hn':h'.length=nb)(hlo:lo<=nb)(g1:s<x.l.L)(g2:hasB x.l.C s=false)(g3:d<x.l.D)(g4:s+x.l.E<=x.l.L)(g5:lM x.l.C s (s+x.l.E)=false)(g6:lM x.l.P s (s+x.l.E)=false)(hs:0<=s)(hd:0<=d/\d<=x.l.D)(v0:Nat)(c0:au)
  (hy:iY (run lib) ⟨lo,nb,3,none⟩ id iv [.agg [.int .i64 (s),.int .i64 (s+x.l.E),.int .i64 (s+d),.int .i64 (s+d+x.l.E+1),.int .i64 (d),.bool false,.bool true]] (h++[(v0,c0),(v1+1,.box [.int .i64 (s),.int .i64 (s+x.l.E),.int .i64 (s+d),.int .i64 (s+d+x.l.E+1),.int .i64 (d),.bool false,.bool true]),(v,.box [.int .i64 s])])=some (.bool true,h'++[(v0,c0),(v1+1,.box [.int .i64 (s),.int .i64 (s+x.l.E),.int .i64 (s+d),.int .i64 (s+d+x.l.E+1),.int .i64 (d),.bool false,.bool true]),(v,.box [.int .i64 s])])) :
  aQ lib ⟨lo,nb,3,none⟩ (.loop rP) (sM x id iv nb 2 v d (s+d),h++[(v0,c0),(v1,b1),(v,.box [.int .i64 s])]) =
   aQ lib ⟨lo,nb,3,none⟩ (.loop rP) (sM x id iv nb 0 (v0+1) (d+1) (s+d+x.l.E+1),h'++[(v0+1,.box [.int .i64 (s+x.l.E)]),(v1+1,.box [.int .i64 (s),.int .i64 (s+x.l.E),.int .i64 (s+d),.int .i64 (s+d+x.l.E+1),.int .i64 (d),.bool false,.bool true]),(v,.box [.int .i64 (s+x.l.E)])]):=by
 obtain⟨L1,L2⟩:=ok.L;obtain⟨D1,D2⟩:=ok.D;obtain⟨E1,E2⟩:=ok.E;have hc:=fun H lo=>Ej (o.sc H) o.lc s lo;rw[g2]at hc;have m1:=fun fr hf lo=>Am (g:=91) (o.sc (h++fr)) o.lc (by decide) (fun q _ lo=>El (x:=x) (v:=v) (j:=2) hn (fr:=fr) hf hs (by omega) E1 E2 q lo) lo
 have m2:=fun fr hf lo=>Am (g:=91) (o.sp (h++fr)) o.lp (by decide) (fun q _ lo=>El (x:=x) (v:=v) (j:=2) hn (fr:=fr) hf hs (by omega) E1 E2 q lo) lo
 have e1:(x.l.C.any fun q=>decide (q.1<s+x.l.E)&&decide (s<q.2))=lM x.l.C s (s+x.l.E):=rfl;have e2:(x.l.P.any fun q=>decide (q.1<s+x.l.E)&&decide (s<q.2))=lM x.l.P s (s+x.l.E):=rfl;rw[e1]at m1;rw[e2]at m2;have m1:=m1 [(v0,c0),(v1+1,.box [.int .i64 s,.int .i64 (s+1),.int .i64 (s+d),.int .i64 (s+d+1),.int .i64 d,.bool false,.bool false]),(v,.box [.int .i64 s])] rfl;have m2:=m2 [(v0,c0),(v1+1,.box [.int .i64 s,.int .i64 (s+1),.int .i64 (s+d),.int .i64 (s+d+1),.int .i64 d,.bool false,.bool false]),(v,.box [.int .i64 s])] rfl;rw[g5]at m1;rw[g6]at m2
 conv=>lhs;rw[bU]
 simp(maxSteps:=30000000)(disch:=omega)only[go_sem,mW,hc,g1,hn,hn',hy,oq,rz,sK,wQ,wP,wC,uw,wR,Nat.reduceEqDiff,g3,g4,m1,m2]
theorem aoD(o:okV x)(ok:lS x.l)(hn:h.length=nb)(hn':h'.length=nb)(hlo:lo<=nb)(g1:s<x.l.L)(g2:hasB x.l.C s=false)(g3:zU x.l s d=false)(hs:0<=s)(hd:0<=d/\d<=x.l.D)(B2:Nat×au)
  (hy:iY (run lib) ⟨lo,nb,3,none⟩ id iv [.agg [.int .i64 (s),.int .i64 (s+1),.int .i64 (s+d),.int .i64 (s+d+1),.int .i64 (d),.bool false,.bool false]] (h++[(v,.box [.int .i64 s]),(v1+1,.box [.int .i64 (s),.int .i64 (s+1),.int .i64 (s+d),.int .i64 (s+d+1),.int .i64 (d),.bool false,.bool false]),B2])=some (.bool true,h'++[(v,.box [.int .i64 s]),(v1+1,.box [.int .i64 (s),.int .i64 (s+1),.int .i64 (s+d),.int .i64 (s+d+1),.int .i64 (d),.bool false,.bool false]),B2])) :
  aQ lib ⟨lo,nb,3,none⟩ (.loop rP) (sM x id iv nb 0 v d (s+d),h++[(v,.box [.int .i64 s]),(v1,b1),B2]) =
   aQ lib ⟨lo,nb,3,none⟩ (.loop rP) (sM x id iv nb 0 (v+1) (d) (s+d+1),h'++[(v+1,.box [.int .i64 (s+1)]),(v1+1,.box [.int .i64 (s),.int .i64 (s+1),.int .i64 (s+d),.int .i64 (s+d+1),.int .i64 (d),.bool false,.bool false]),B2]):=by
 obtain⟨L1,L2⟩:=ok.L;obtain⟨D1,D2⟩:=ok.D;obtain⟨E1,E2⟩:=ok.E;have hc:=fun H lo=>Ej (o.sc H) o.lc s lo;rw[g2]at hc;have m1:=fun fr hf lo=>Am (g:=91) (o.sc (h++fr)) o.lc (by decide) (fun q _ lo=>El (x:=x) (v:=v) (j:=0) hn (fr:=fr) hf hs (by omega) E1 E2 q lo) lo
 have m2:=fun fr hf lo=>Am (g:=91) (o.sp (h++fr)) o.lp (by decide) (fun q _ lo=>El (x:=x) (v:=v) (j:=0) hn (fr:=fr) hf hs (by omega) E1 E2 q lo) lo
 have e1:(x.l.C.any fun q=>decide (q.1<s+x.l.E)&&decide (s<q.2))=lM x.l.C s (s+x.l.E):=rfl;have e2:(x.l.P.any fun q=>decide (q.1<s+x.l.E)&&decide (s<q.2))=lM x.l.P s (s+x.l.E):=rfl;rw[e1]at m1;rw[e2]at m2;have m1:=m1 [(v,.box [.int .i64 s]),(v1+1,.box [.int .i64 s,.int .i64 (s+1),.int .i64 (s+d),.int .i64 (s+d+1),.int .i64 d,.bool false,.bool false]),B2] rfl;have m2:=m2 [(v,.box [.int .i64 s]),(v1+1,.box [.int .i64 s,.int .i64 (s+1),.int .i64 (s+d),.int .i64 (s+d+1),.int .i64 d,.bool false,.bool false]),B2] rfl;simp only[zU,Bool.and_eq_false_iff,decide_eq_false_iff_not,Bool.not_eq_false']at g3;by_cases c1:d<x.l.D
 ·by_cases c2:s+x.l.E<=x.l.L
  ·cases c3:lM x.l.C s (s+x.l.E)
   ·have c4:lM x.l.P s (s+x.l.E)=true:=by
     rcases g3 with g3|g3|g3|g3
     ·exact absurd c1 g3
     ·exact absurd c2 g3
     ·rw[c3]at g3;cases g3
     ·exact g3
    rw[c3]at m1;rw[c4]at m2
    conv=>lhs;rw[bU]
    simp(maxSteps:=30000000)(disch:=omega)only[go_sem,mW,hc,g1,hn,hn',hy,oq,rz,sK,wQ,wP,wC,uw,wR,Nat.reduceEqDiff,c1,c2,m1,m2]
   ·rw[c3]at m1
    conv=>lhs;rw[bU]
    simp(maxSteps:=30000000)(disch:=omega)only[go_sem,mW,hc,g1,hn,hn',hy,oq,rz,sK,wQ,wP,wC,uw,wR,Nat.reduceEqDiff,c1,c2,m1]
  ·conv=>lhs;rw[bU]
   simp(maxSteps:=30000000)(disch:=omega)only[go_sem,mW,hc,g1,hn,hn',hy,oq,rz,sK,wQ,wP,wC,uw,wR,Nat.reduceEqDiff,c1,c2]
 ·conv=>lhs;rw[bU]
  simp(maxSteps:=30000000)(disch:=omega)only[go_sem,mW,hc,g1,hn,hn',hy,oq,rz,sK,wQ,wP,wC,uw,wR,Nat.reduceEqDiff,c1]
theorem aoE(o:okV x)(ok:lS x.l)(hn:h.length=nb)(hn':h'.length=nb)(hlo:lo<=nb)(g1:s<x.l.L)(g2:hasB x.l.C s=false)(g3:zU x.l s d=false)(hs:0<=s)(hd:0<=d/\d<=x.l.D)(v0:Nat)(c0:au)
  (hy:iY (run lib) ⟨lo,nb,3,none⟩ id iv [.agg [.int .i64 (s),.int .i64 (s+1),.int .i64 (s+d),.int .i64 (s+d+1),.int .i64 (d),.bool false,.bool false]] (h++[(v0,c0),(v1+1,.box [.int .i64 (s),.int .i64 (s+1),.int .i64 (s+d),.int .i64 (s+d+1),.int .i64 (d),.bool false,.bool false]),(v,.box [.int .i64 s])])=some (.bool true,h'++[(v0,c0),(v1+1,.box [.int .i64 (s),.int .i64 (s+1),.int .i64 (s+d),.int .i64 (s+d+1),.int .i64 (d),.bool false,.bool false]),(v,.box [.int .i64 s])])) :
  aQ lib ⟨lo,nb,3,none⟩ (.loop rP) (sM x id iv nb 2 v d (s+d),h++[(v0,c0),(v1,b1),(v,.box [.int .i64 s])]) =
   aQ lib ⟨lo,nb,3,none⟩ (.loop rP) (sM x id iv nb 0 (v0+1) (d) (s+d+1),h'++[(v0+1,.box [.int .i64 (s+1)]),(v1+1,.box [.int .i64 (s),.int .i64 (s+1),.int .i64 (s+d),.int .i64 (s+d+1),.int .i64 (d),.bool false,.bool false]),(v,.box [.int .i64 (s+1)])]):=by
 obtain⟨L1,L2⟩:=ok.L;obtain⟨D1,D2⟩:=ok.D;obtain⟨E1,E2⟩:=ok.E;have hc:=fun H lo=>Ej (o.sc H) o.lc s lo;rw[g2]at hc;have m1:=fun fr hf lo=>Am (g:=91) (o.sc (h++fr)) o.lc (by decide) (fun q _ lo=>El (x:=x) (v:=v) (j:=2) hn (fr:=fr) hf hs (by omega) E1 E2 q lo) lo
 have m2:=fun fr hf lo=>Am (g:=91) (o.sp (h++fr)) o.lp (by decide) (fun q _ lo=>El (x:=x) (v:=v) (j:=2) hn (fr:=fr) hf hs (by omega) E1 E2 q lo) lo
 have e1:(x.l.C.any fun q=>decide (q.1<s+x.l.E)&&decide (s<q.2))=lM x.l.C s (s+x.l.E):=rfl;have e2:(x.l.P.any fun q=>decide (q.1<s+x.l.E)&&decide (s<q.2))=lM x.l.P s (s+x.l.E):=rfl;rw[e1]at m1;rw[e2]at m2;have m1:=m1 [(v0,c0),(v1+1,.box [.int .i64 s,.int .i64 (s+1),.int .i64 (s+d),.int .i64 (s+d+1),.int .i64 d,.bool false,.bool false]),(v,.box [.int .i64 s])] rfl;have m2:=m2 [(v0,c0),(v1+1,.box [.int .i64 s,.int .i64 (s+1),.int .i64 (s+d),.int .i64 (s+d+1),.int .i64 d,.bool false,.bool false]),(v,.box [.int .i64 s])] rfl;simp only[zU,Bool.and_eq_false_iff,decide_eq_false_iff_not,Bool.not_eq_false']at g3;by_cases c1:d<x.l.D
 ·by_cases c2:s+x.l.E<=x.l.L
  ·cases c3:lM x.l.C s (s+x.l.E)
   ·have c4:lM x.l.P s (s+x.l.E)=true:=by
     rcases g3 with g3|g3|g3|g3
     ·exact absurd c1 g3
     ·exact absurd c2 g3
     ·rw[c3]at g3;cases g3
     ·exact g3
    rw[c3]at m1;rw[c4]at m2
    conv=>lhs;rw[bU]
    simp(maxSteps:=30000000)(disch:=omega)only[go_sem,mW,hc,g1,hn,hn',hy,oq,rz,sK,wQ,wP,wC,uw,wR,Nat.reduceEqDiff,c1,c2,m1,m2]
   ·rw[c3]at m1
    conv=>lhs;rw[bU]
    simp(maxSteps:=30000000)(disch:=omega)only[go_sem,mW,hc,g1,hn,hn',hy,oq,rz,sK,wQ,wP,wC,uw,wR,Nat.reduceEqDiff,c1,c2,m1]
  ·conv=>lhs;rw[bU]
   simp(maxSteps:=30000000)(disch:=omega)only[go_sem,mW,hc,g1,hn,hn',hy,oq,rz,sK,wQ,wP,wC,uw,wR,Nat.reduceEqDiff,c1,c2]
 ·conv=>lhs;rw[bU]
  simp(maxSteps:=30000000)(disch:=omega)only[go_sem,mW,hc,g1,hn,hn',hy,oq,rz,sK,wQ,wP,wC,uw,wR,Nat.reduceEqDiff,c1]
end
structure rT(x:Stp):Prop where
 fr:0<=x.fr
 to:x.fr<x.to
 hi:x.to<=600
 tf:x.to-x.fr<=60
 be:x.be=x.fr+x.de
 af:x.be<=x.af
 af2:x.af<=x.be+61
 af3:x.af<=660
 de:0<=x.de
 de2:x.de<=60
section
variable {σ:Type}{H:σ->Heap}{nb lo id iv:Nat}{step:σ->Stp->σ}{Iv:Int->Int->σ->Prop}
theorem aoG{Q:Stp->Prop}{x:LV}(o:okV x)(ok:lS x.l)(hlen:∀ st,(H st).length=nb)(hlo:lo<=nb)
  (hI:∀ st X,rT X->Q X->Iv X.fr X.be st->Iv X.to X.af (step st X))
  (hy:∀ st X fr,rT X->Q X->Iv X.fr X.be st->iY (run lib) ⟨lo,nb,3,none⟩ id iv [nS X] (H st++fr)=some (.bool true,H (step st X)++fr))
  {s d e:Int} {xs:List Stp} (h:Ch x.l s d xs e):(∀ X∈xs,Q X)->0<=s->0<=d->d<=x.l.D->∀ st,Iv s (s+d) st->∀(j v:Nat) (fr:Heap),((j=0/\∃ v1 b1 B2,fr=[(v,.box [.int .i64 s]),(v1,b1),B2])\/(j=2/\∃ v0 c0 v1 b1,fr=[(v0,c0),(v1,b1),(v,.box [.int .i64 s])])) ->
  Iv x.l.L (x.l.L+e) (xs.foldl step st)/\∃ fr',aQ lib ⟨lo,nb,3,none⟩ (.loop rP) (sM x id iv nb j v d (s+d),H st++fr)=some (.exit 0,([],H (xs.foldl step st)++fr')):=by
 obtain⟨L1,L2⟩:=ok.L;obtain⟨D1,D2⟩:=ok.D;obtain⟨E1,E2⟩:=ok.E
 induction h with
 |nil d =>
  intro hQ hs hd1 hd2 st hi j v fr hj;have hn:=hlen st;refine⟨hi,fr, ?_⟩;rcases hj with⟨rfl,v1,b1,B2,rfl⟩|⟨rfl,v0,c0,v1,b1,rfl⟩
  ·rw[bU];simp(maxSteps:=30000000)(disch:=omega)only[go_sem,hn,oq,nR,wL]
  ·rw[bU]
   simp(maxSteps:=30000000)(disch:=omega)only[go_sem,hn,oq,nR,wL]
 |@sH s d e xs g1 g2 g3 g ih =>
  intro hQ hs hd1 hd2 st hi j v fr hj;have hL:=g.le E1;have hX:rT ⟨s,s+1,s+d,s+d,d,true,false⟩:=⟨by simp only[];omega,by simp only[];omega,by simp only[];omega,by simp only[];omega,by simp only[],by simp only[];omega,by simp only[];omega,by simp only[];omega,by simp only[];omega,by simp only[];omega⟩
  have i1:=hI st _ hX (hQ _ (by simp)) hi
  rw[show (Stp.mk (s) (s+1) (s+d) (s+d) (d) (true) (false)).af=s+1+(d-1) by simp only[];omega]at i1
  have i2:=ih (fun X hx=>hQ X (by simp[hx])) (by omega) (by omega) (by omega) _ i1
  have hy1:=fun fr=>hy st _ fr hX (hQ _ (by simp)) hi
  simp only[nS]at hy1;rw[List.foldl_cons];rcases hj with⟨rfl,v1,b1,B2,rfl⟩|⟨rfl,v0,c0,v1,b1,rfl⟩
  ·obtain⟨k1,fr',k2⟩:=i2 0 (v+1) _ (.inl ⟨rfl,_,_,_,rfl⟩);refine⟨k1,fr', ?_⟩;rw[aox o ok (hlen st) (hlen _) hlo g1 g2 g3 hs ⟨hd1,hd2⟩ B2 (hy1 _),<-k2];congr 3;omega
  ·obtain⟨k1,fr',k2⟩:=i2 0 (v0+1) _ (.inl ⟨rfl,_,_,_,rfl⟩);refine⟨k1,fr', ?_⟩;rw[aoy o ok (hlen st) (hlen _) hlo g1 g2 g3 hs ⟨hd1,hd2⟩ v0 c0 (hy1 _),<-k2];congr 3
   omega
 |@sJ s d e xs g1 g2 g3 g ih =>
  intro hQ hs hd1 hd2 st hi j v fr hj;have hL:=g.le E1;have hX:rT ⟨s,s+1,s+d,s+d+1,d,true,false⟩:=⟨by simp only[];omega,by simp only[];omega,by simp only[];omega,by simp only[];omega,by simp only[],by simp only[];omega,by simp only[];omega,by simp only[];omega,by simp only[];omega,by simp only[];omega⟩
  have i1:=hI st _ hX (hQ _ (by simp)) hi
  rw[show (Stp.mk (s) (s+1) (s+d) (s+d+1) (d) (true) (false)).af=s+1+(d) by simp only[];omega]at i1
  have i2:=ih (fun X hx=>hQ X (by simp[hx])) (by omega) (by omega) (by omega) _ i1
  have hy1:=fun fr=>hy st _ fr hX (hQ _ (by simp)) hi
  simp only[nS]at hy1;rw[List.foldl_cons];rcases hj with⟨rfl,v1,b1,B2,rfl⟩|⟨rfl,v0,c0,v1,b1,rfl⟩
  ·obtain⟨k1,fr',k2⟩:=i2 0 (v+1) _ (.inl ⟨rfl,_,_,_,rfl⟩);refine⟨k1,fr', ?_⟩;rw[aoz o ok (hlen st) (hlen _) hlo g1 g2 g3 hs ⟨hd1,hd2⟩ B2 (hy1 _),<-k2];congr 3;omega
  ·obtain⟨k1,fr',k2⟩:=i2 0 (v0+1) _ (.inl ⟨rfl,_,_,_,rfl⟩);refine⟨k1,fr', ?_⟩;rw[aoA o ok (hlen st) (hlen _) hlo g1 g2 g3 hs ⟨hd1,hd2⟩ v0 c0 (hy1 _),<-k2];congr 3
   omega
 |@str s d e xs g1 g2 g3 g4 g5 g6 g ih =>
  intro hQ hs hd1 hd2 st hi j v fr hj;have hL:=g.le E1;have hX:rT ⟨s,s+x.l.E,s+d,s+d+x.l.E+1,d,false,true⟩:=⟨by simp only[];omega,by simp only[];omega,by simp only[];omega,by simp only[];omega,by simp only[],by simp only[];omega,by simp only[];omega,by simp only[];omega,by simp only[];omega,by simp only[];omega⟩
  have i1:=hI st _ hX (hQ _ (by simp)) hi
  rw[show (Stp.mk (s) (s+x.l.E) (s+d) (s+d+x.l.E+1) (d) (false) (true)).af=s+x.l.E+(d+1) by simp only[];omega]at i1
  have i2:=ih (fun X hx=>hQ X (by simp[hx])) (by omega) (by omega) (by omega) _ i1
  have hy1:=fun fr=>hy st _ fr hX (hQ _ (by simp)) hi
  simp only[nS]at hy1;rw[List.foldl_cons];rcases hj with⟨rfl,v1,b1,B2,rfl⟩|⟨rfl,v0,c0,v1,b1,rfl⟩
  ·obtain⟨k1,fr',k2⟩:=i2 0 (v+1) _ (.inl ⟨rfl,_,_,_,rfl⟩);refine⟨k1,fr', ?_⟩;rw[aoB o ok (hlen st) (hlen _) hlo g1 g2 g3 g4 g5 g6 hs ⟨hd1,hd2⟩ B2 (hy1 _),<-k2];congr 3;omega
  ·obtain⟨k1,fr',k2⟩:=i2 0 (v0+1) _ (.inl ⟨rfl,_,_,_,rfl⟩);refine⟨k1,fr', ?_⟩;rw[aoC o ok (hlen st) (hlen _) hlo g1 g2 g3 g4 g5 g6 hs ⟨hd1,hd2⟩ v0 c0 (hy1 _),<-k2];congr 3
   omega
 |@pl s d e xs g1 g2 g3 g ih =>
  intro hQ hs hd1 hd2 st hi j v fr hj;have hL:=g.le E1;have hX:rT ⟨s,s+1,s+d,s+d+1,d,false,false⟩:=⟨by simp only[];omega,by simp only[];omega,by simp only[];omega,by simp only[];omega,by simp only[],by simp only[];omega,by simp only[];omega,by simp only[];omega,by simp only[];omega,by simp only[];omega⟩
  have i1:=hI st _ hX (hQ _ (by simp)) hi
  rw[show (Stp.mk (s) (s+1) (s+d) (s+d+1) (d) (false) (false)).af=s+1+(d) by simp only[];omega]at i1
  have i2:=ih (fun X hx=>hQ X (by simp[hx])) (by omega) (by omega) (by omega) _ i1
  have hy1:=fun fr=>hy st _ fr hX (hQ _ (by simp)) hi
  simp only[nS]at hy1;rw[List.foldl_cons];rcases hj with⟨rfl,v1,b1,B2,rfl⟩|⟨rfl,v0,c0,v1,b1,rfl⟩
  ·obtain⟨k1,fr',k2⟩:=i2 0 (v+1) _ (.inl ⟨rfl,_,_,_,rfl⟩);refine⟨k1,fr', ?_⟩;rw[aoD o ok (hlen st) (hlen _) hlo g1 g2 g3 hs ⟨hd1,hd2⟩ B2 (hy1 _),<-k2];congr 3;omega
  ·obtain⟨k1,fr',k2⟩:=i2 0 (v0+1) _ (.inl ⟨rfl,_,_,_,rfl⟩);refine⟨k1,fr', ?_⟩;rw[aoE o ok (hlen st) (hlen _) hlo g1 g2 g3 hs ⟨hd1,hd2⟩ v0 c0 (hy1 _),<-k2];congr 3;omega
theorem adK{Q:Stp->Prop}{x:LV}(o:okV x)(ok:lS x.l)(hlen:∀ st,(H st).length=nb)(hlo:lo<=nb)
  (hI:∀ st X,rT X->Q X->Iv X.fr X.be st->Iv X.to X.af (step st X))
  (hy:∀ st X fr,rT X->Q X->Iv X.fr X.be st->iY (run lib) ⟨lo,nb,3,none⟩ id iv [nS X] (H st++fr)=some (.bool true,H (step st X)++fr))
  {e:Int} {xs:List Stp} (h:Ch x.l 0 x.l.D xs e) (hQ:∀ X∈xs,Q X) (st:σ) (hi:Iv 0 x.l.D st) :
  Iv x.l.L (x.l.L+e) (xs.foldl step st)/\(run lib).fn 89 [.dY id iv,.bR [.int .i64 x.l.L,.int .i64 x.l.D,.int .i64 x.l.E,pV x,cV x]] (H st) lo=some (.tuple [],H (xs.foldl step st)):=by
 obtain⟨D1,D2⟩:=ok.D;obtain⟨k1,fr',k2⟩:=aoG o ok hlen hlo hI hy h hQ (pW _) D1 (pW _) st (by rw[Int.zero_add];exact hi) 2 1 [(0,.dead),(0,.dead),(1,.box [.int .i64 0])] (.inr ⟨rfl,_,_,_,_,rfl⟩)
 rw[Int.zero_add]at k2;refine⟨k1, ?_⟩;have hn:=hlen st;have ho:=oZ (L:=lib) (f:=89) (x:=x89) (args:=[.dY id iv,.bR [.int .i64 x.l.L,.int .i64 x.l.D,.int .i64 x.l.E,pV x,cV x]]) (h:=H st) (lo:=lo) rfl rfl rfl rfl (by rw[hn];exact hlo)
 have e2:∀ s' (X:Heap),(H s'++X).take nb=H s':=fun s' X=>by rw[<-hlen s',Bz]
 rw[ho,hn];simp only[sM]at k2;have hr:List.replicate x89.ns (0,au.dead)=[(0,au.dead),(0,au.dead),(0,au.dead)]:=rfl;simp(maxSteps:=30000000)(disch:=omega)only[go_sem,x89,hr,hn,mW,oq,rz,sK,k2,e2]
theorem VX{x:LV}(o:okV x)(ok:lS x.l)(hlen:∀ st,(H st).length=nb)(hlo:lo<=nb)
  (hI:∀ st X,rT X->Iv X.fr X.be st->Iv X.to X.af (step st X))
  (hy:∀ st X fr,rT X->Iv X.fr X.be st->iY (run lib) ⟨lo,nb,3,none⟩ id iv [nS X] (H st++fr)=some (.bool true,H (step st X)++fr))
  {e:Int} {xs:List Stp} (h:Ch x.l 0 x.l.D xs e) (st:σ) (hi:Iv 0 x.l.D st) :
  Iv x.l.L (x.l.L+e) (xs.foldl step st)/\(run lib).fn 89 [.dY id iv,.bR [.int .i64 x.l.L,.int .i64 x.l.D,.int .i64 x.l.E,pV x,cV x]] (H st) lo=some (.tuple [],H (xs.foldl step st)) :=
 adK (Q:=fun _=>True) o ok hlen hlo (fun st X h1 _ h2=>hI st X h1 h2) (fun st X fr h1 _ h2=>hy st X fr h1 h2) h (fun _ _=>trivial) st hi
theorem QE(x:LV)(h:Heap)(lo:Nat):(run lib).fn 49 [nA x] h lo=some (.fn 89 [.bR [.int .i64 x.l.L,.int .i64 x.l.D,.int .i64 x.l.E,pV x,cV x]],h):=by
 unfold nA;rw[bW (x:=TB) rfl rfl rfl rfl];simp(maxSteps:=30000000)(disch:=omega)only[go_sem,TB]
end
end Go.VI.Dump
namespace Go.VI.Dump
open Go.VI.Num
/- BIGSTEPS -/
theorem aoH:∀ n:Nat,n<700->jh .and (.int .u64 (n:Nat)) (.int .u64 4294967295)=some (.int .u64 (n:Nat)):=by
 have h:(List.range 700).all (fun n=>IntKind.u64.wrap (BitVec.ofInt 64 (n:Nat) &&& BitVec.ofInt 64 4294967295).toNat==(n:Nat))=true:=by decide +kernel
 intro n hn;have:=nE.mp h n (List.mem_range.mpr hn);simp only[beq_iff_eq]at this;exact congrArg (fun z=>some (AV.int .u64 z)) this
theorem VY{n:Int}(h0:0<=n)(h1:n<700):jh .and (.int .u64 n) (.int .u64 4294967295)=some (.int .u64 n):=by
 obtain⟨k,rfl⟩:∃ k:Nat,n=k:=⟨n.toNat,by omega⟩
 exact aoH k (by omega)
theorem V3{n:Int}(h0:0<=n)(h1:n<700):jh .shr (.int .u64 n) (.int .u64 32)=some (.int .u64 0):=by
 have:n.fdiv (2^(min (32:Int).toNat IntKind.u64.bits))=0:=by
  rw[show (2:Int)^(min (32:Int).toNat IntKind.u64.bits)=4294967296 by decide,Int.fdiv_eq_ediv_of_nonneg _ (by decide)]
  omega
 simp only[jh];rw[if_pos (by decide),this]
theorem aoI{n:Int}(h0:0<=n)(h1:n<700)(h:Heap)(lo:Nat):(run lib).fn 130 [.int .u64 1,.int .u64 n] h lo=some (.tuple [.int .u64 0,.int .u64 n],h):=by
 have a1:=VY h0 h1;have a2:=VY (n:=1) (by decide) (by decide)
 have a3:=VY (n:=0) (by decide) (by decide)
 have s1:=V3 h0 h1;have s2:=V3 (n:=1) (by decide) (by decide)
 have s3:=V3 (n:=0) (by decide) (by decide)
 rw[bW (x:=Uc) rfl rfl rfl rfl];simp(maxSteps:=30000000)(disch:=omega)only[go_sem,Uc,a1,a2,a3,s1,s2,s3,Int.one_mul,Int.zero_mul,yL,Int.zero_add,Int.mul_zero]
theorem aoJ{n:Int}(h0:0<=n)(h1:n<700)(h:Heap)(lo:Nat):(run lib).fn 88 [.int .u64 1,.int .u64 n] h lo=some (.tuple [.int .u64 0,.int .u64 n],h):=by
 have e:=fun H lo=>aoI h0 h1 H lo;rw[bW (x:=x88) rfl rfl rfl rfl];simp(maxSteps:=30000000)(disch:=omega)only[go_sem,x88,e]
def qL(c n:Nat)(x:Int):List Int:=List.replicate n x++List.replicate (c-n) 0
theorem adL{c n:Nat}(h:n<=c)(x:Int):(qL c n x).length=c:=by simp[qL];omega
theorem aoK(h:Heap)(x:Int)(c:Nat)(hc:c<=1000):∀(d n:Nat),n+d=c->0<n ->
  aQ lib ⟨h.length,h.length,1,none⟩ (.loop OW) ([(7,.ref (h.length+0) 1 1 0 c c),(8,.int .i64 n)],h++[(1,.arr 1 (ints (qL c n x)))]) =
   some (.exit 0,([(7,.ref (h.length+0) 1 1 0 c c)],h++[(1,.arr 1 (ints (qL c c x)))])):=by
 intro d
 induction d using Nat.strongRecOn with
 |_ d ih =>
  intro n hn h0;have hl:(ints (qL c n x)).length=c:=by rw[jY,adL (by omega)]
  have ln:oH false (.ref (h.length+0) 1 1 0 c c)=some (.int .i64 c):=by simp[oH,lU]
  rcases vg d with hd|hd
  ·obtain rfl:n=c:=by omega
   rw[bU];simp(maxSteps:=30000000)(disch:=omega)only[go_sem,ln,nR]
  ·have h1:(n:Int)<c:=by omega
   have s1:pQ (some 1) (.ref (h.length+0) 1 1 0 c c) (some (.int .i64 n)) none=some (.ref (h.length+0) 1 1 n (c-n) c):=by
    rw[OO,abe,Option.bind_some,Hg (by omega) (by omega)];simp
   have s2:pQ (some 1) (.ref (h.length+0) 1 1 0 c c) none (some (.int .i64 n))=some (.ref (h.length+0) 1 1 0 n c):=by
    rw[OO,Hg (by omega) (by omega),Option.bind_some,abe];simp
   have s3:oG (h++[(1,.arr 1 (ints (qL c n x)))]) 1 (.ref (h.length+0) 1 1 0 n c)=some (ints (List.replicate n x)):=by
    have:=(Sl.ref (h:=h) (fr:=[(1,.arr 1 (ints (qL c n x)))]) (s:=0) (ai:=1) (z:=1) (off:=0) (len:=n) (fill:=c) (es:=ints (qL c n x)) rfl hl (by omega)).GZ
    rw[this];simp[qL,ints]
   have cp:=abf (lo:=h.length) (ns:=1) (h:=h) (fr:=[(1,.arr 1 (ints (qL c n x)))]) (s:=0) (ai:=1) (z:=1) (off:=n) (len:=c-n) (fill:=c) (es:=ints (qL c n x)) (ys:=ints (List.replicate n x)) rfl hl (by omega) (bC _)
   have hm:min (ints (List.replicate n x)).length (c-n)=min n (c-n):=by simp[ints]
   rw[hm]at cp
   have he:(ints (qL c n x)).take n++(ints (List.replicate n x)).take (min n (c-n))++(ints (qL c n x)).drop (n+min n (c-n))=ints (qL c (n+min n (c-n)) x):=by
    simp only[ints,qL,<-List.map_take,<-List.map_drop,<-List.map_append];congr 1;simp only[oO,List.take_append,List.take_replicate,List.drop_append,List.drop_replicate,vT];rw[show n-(n+min n (c-n))=0 by omega]
    generalize hM:min n (c-n)=M;rw[show min n n=n by omega,show min (n-n) (c-n)=0 by omega,show min M n=M by omega,show c-n-(n+M-n)=c-(n+M) by omega]
    simp only[List.replicate_zero,nI,List.nil_append];rw[List.replicate_append_replicate]
   rw[he]at cp;have e:=ih (d-min n (c-n)) (by omega) (n+min n (c-n)) (by omega) (by omega)
   rw[Int.natCast_add]at e;have b1:((min n (c-n):Nat):Int)<=1000:=by omega
   have b2:(0:Int)<=((min n (c-n):Nat):Int):=by omega
   generalize min n (c-n)=M at*;rw[bU];simp(maxSteps:=30000000)(disch:=omega)only[go_sem,ln,h1,s1,s2,s3,cp,e]
theorem adM(x:Int)(c:Nat)(hc:c<=600)(h:Heap)(lo:Nat):(run lib).fn 48 [.bF 1 [.int .i64 x],.int .i64 c] h lo=some (if c=0 then .bF 1 []else .own 1 (ints (List.replicate c x)),h):=by
 have hm:=fun H lo=>aoJ (n:=c) (by omega) (by omega) H lo
 have l1:oH false (.bF 1 [.int .i64 x])=some (.int .i64 1):=rfl;rw[bW (x:=OX) rfl rfl rfl rfl];rcases vg c with h0|h0
 ·subst h0;simp only[qX]at hm
  have hb:aQ lib ⟨h.length,h.length,1,none⟩ (.loop OW) ([(7,.bF 1 []),(8,.int .i64 0)],h++[(0,.dead)])=some (.exit 0,([(7,.bF 1 [])],h++[(0,.dead)])):=by
   rw[bU];simp(maxSteps:=30000000)(disch:=omega)only[go_sem,show oH false (.bF 1 [])=some (.int .i64 0)from rfl]
  have cp:uy ⟨h.length,h.length,1,none⟩ 1 (.bF 1 []) [.int .i64 x] (h++[(0,.dead)])=some (.int .i64 0,h++[(0,.dead)]):=by
   simp[uy,jd,lU]
  have al:oG (h++[(0,.dead)]) 1 (.bF 1 [.int .i64 x])=some [.int .i64 x]:=(Sl.bF _ _ _).GZ;have gr:jf h.length (.bF 1 []) (h++[(0,.dead)])=some (.bF 1 []):=by simp[jf,give,bL]
  simp(maxSteps:=30000000)(disch:=omega)only[go_sem,OX,hm,l1,akS,cp,al,hb,gr,Option.map_some]
 ·have e:=aoK h x c (by omega) (c-1) 1 (by omega) (by omega)
  have cp:=abf (lo:=h.length) (ns:=1) (h:=h) (fr:=[(1,.arr 1 (List.replicate c (.int .i64 0)))]) (s:=0) (ai:=1) (z:=1) (off:=0) (len:=c) (fill:=c) (es:=List.replicate c (.int .i64 0)) (ys:=[.int .i64 x]) rfl (by simp) (by omega) (bC _)
  have hmin:min [AV.int .i64 x].length c=1:=by simp;omega
  rw[hmin]at cp
  have he:(List.replicate c (AV.int .i64 0)).take 0++[AV.int .i64 x].take 1++(List.replicate c (AV.int .i64 0)).drop (0+1)=ints (qL c 1 x):=by
   simp[ints,qL]
  rw[he]at cp;have al:∀ fr:Heap,oG (h++fr) 1 (.bF 1 [.int .i64 x])=some [.int .i64 x]:=fun fr=>(Sl.bF _ _ _).GZ;have h1:¬ c=0:=by omega
  have gv:=Hl (h:=h) (s:=0) (ai:=1) (z:=1) (fr:=[(1,.arr 1 (ints (qL c c x)))]) (es:=ints (qL c c x)) rfl;have hr:qL c c x=List.replicate c x:=by simp[qL]
  rw[jY,adL (bC _)]at gv;rw[hr]at gv e;have c1:((1:Nat):Int)=1:=rfl;rw[c1]at e cp;have h2:(0:Int)<(c:Int):=by omega
  have gr:jf h.length (.ref (h.length+0) 1 1 0 c c) (h++[(1,.arr 1 (ints (List.replicate c x)))])=some (.own 1 (ints (List.replicate c x))):=by
   simp only[jf,gv,Option.map_some]
  have h3:¬ (c:Int)<0:=by omega
  have h4:¬ 9223372036854775807<(c:Int):=by omega
  simp(maxSteps:=30000000)(disch:=omega)only[go_sem,OX,hm,l1,akT,cp,al,e,h1,h3,h4,gr]
end Go.VI.Dump
namespace Go.VI
theorem QF{lo base ns s z lim:Nat}{p:Nat×Nat}{x:AV}{xs:List AV}{h:Heap}:ji ⟨lo,base,ns,some p⟩ s z lim x xs h=ji ⟨lo,base,ns,none⟩ s z lim x xs h:=by
 cases x<;>rfl
theorem QG{lo ns s ai off:Nat}{h fr:Heap}{v:AV}{p:Nat×Nat}(hlo:lo<=h.length)(hc:(Cx.mk lo h.length ns (some p)).fit v=true)(hv:v.cells.length=1/\v.val=true) :
  iX ⟨lo,h.length,ns,some p⟩ (h++fr) 1 (.aF (h.length+s) ai off) v=yI s lo ns ai off h fr v fr[s]?:=by
 simp only[iX,hv,and_self,if_true,cO]
 cases fr[s]? with
 |none=>rfl
 |some x =>
  obtain⟨w,b⟩:=x
  cases b with
  |box cs =>
   have hle:lo<=h.length+s:=by omega
   by_cases hw:w=ai
   ·simp[yI,hw,hle,hc,gy]
   ·simp[yI,hw]
  |_=>rfl
theorem aoL{cx:Cx}{v:AV}(h:v.xZ (cx.base+cx.ns)=true):cx.fit v=true:=by simp[Cx.fit,h]
def kH(n:Nat)(z:Bool)(es:List AV):AV:=if z then(if es=[]then .bF 1 []else .ref (n+2) 1 1 0 es.length es.length)else .ref (n+3) 1 1 0 es.length es.length
def ou(z:Bool)(es:List AV):Nat×au:=if z=true/\es≠[] then(1,.arr 1 es) else(0,.dead)
def oF(z:Bool)(es:List AV):Nat×au:=if z then(0,.dead) else(1,.arr 1 es)
@[go_sem] theorem aoM(n:Nat)(z:Bool)(es:List AV):(kH n z es).cells=[kH n z es]:=by unfold kH;(repeat' split)<;>rfl
@[go_sem] theorem aoN(n:Nat)(z:Bool)(es:List AV):(kH n z es).val=true:=by unfold kH;(repeat' split)<;>rfl
theorem aoO{lo n:Nat}{p:Nat×Nat}{z:Bool}{es:List AV}:(Cx.mk lo n 5 (some p)).fit (kH n z es)=true:=by
 refine aoL ?_;unfold kH
 (repeat' split)
 ·rfl
 ·simp[AV.xZ]
 ·simp[AV.xZ]
theorem aoP{h fr:Heap}{r b o:Nat×au}{z:Bool}{es:List AV}{x:AV}(hl:es.length<=100000) :
  ji ⟨h.length,h.length,5,none⟩ 2 1 17592186044416 (kH h.length z es) [x] (h++(r::b::ou z es::oF z es::o::fr))=some (kH h.length z (es++[x]),h++(r::b::ou z (es++[x])::oF z (es++[x])::o::fr)):=by
 have hne:es++[x]≠[]:=by simp
 cases z with
 |true =>
  by_cases h0:es=[]
  ·subst h0;have:=abj (lo:=h.length) (ns:=5) (s:=2) (z:=1) (lim:=17592186044416) (h:=h) (fr:=r::b::(0,.dead)::(0,.dead)::o::fr) (ai:=0) (b:=.dead) (xs:=[x]) (by omega) rfl (by simp) (by simp)
   simp only[kH,ou,oF,if_true,ne_eq,not_true_eq_false,and_false,if_false,List.nil_append,reduceCtorEq,not_false_eq_true,and_self];rw[this];rfl
  ·have:=Hf (cx:=⟨h.length,h.length,5,none⟩) (s:=2) (z:=1) (lim:=17592186044416) (id:=h.length+2) (ai:=1) (h:=h++(r::b::(1,.arr 1 es)::(0,.dead)::o::fr)) (es:=es) (xs:=[x]) (by rw[cO];rfl) (by simp) (by simp;omega)
   simp only[kH,ou,oF,if_true,h0,hne,ne_eq,not_false_eq_true,and_self,if_false]
   rw[this,gy,jm];rfl
 |false =>
  have:=Hf (cx:=⟨h.length,h.length,5,none⟩) (s:=2) (z:=1) (lim:=17592186044416) (id:=h.length+3) (ai:=1) (h:=h++(r::b::(0,.dead)::(1,.arr 1 es)::o::fr)) (es:=es) (xs:=[x]) (by rw[cO];rfl) (by simp) (by simp;omega)
  simp only[kH,ou,oF,iw,if_false,false_and];rw[this,gy,jm];rfl
theorem aoQ{h fr:Heap}{r b o:Nat×au}{z:Bool}{es:List AV}(hz:z=true->es≠[]):∃ h',give h.length (kH h.length z es) (h++(r::b::ou z es::oF z es::o::fr))=some (.own 1 es,h'):=by
 cases z with
 |true =>
  have h0:=hz rfl;simp only[kH,ou,oF,if_true,h0,ne_eq,not_false_eq_true,and_self,if_false]
  exact⟨_,Hl rfl⟩
 |false =>
  simp only[kH,ou,oF,iw,if_false,false_and];exact⟨_,Hl rfl⟩
end Go.VI
namespace Go.VI.Dump
open Go.VI.Num
/- BIGSTEPS -/
def V4(x:Stp)(k:Nat):Int:=if x.cut then -1 else max (x.to-(x.af-(x.be+(k:Int)))) x.fr
theorem V6(x:Stp):(ny x).length=(x.af-x.be).toNat:=by simp[ny]
theorem aoR{x:Stp}{k:Nat}(h:k<(x.af-x.be).toNat):(ny x).take (k+1)=(ny x).take k++[V4 x k]:=by
 rw[zR (by rw[V6];exact h)]
 congr 1;simp[ny,V4]
theorem adN(a:List Int)(x:Int):ints (a++[x])=ints a++[.int .i64 x]:=by simp[ints]
theorem aoS{X:Stp}(hX:rT X){h fr:Heap}{z:Bool}{R:Nat×au}{p:Nat×Nat}{v:Nat}{es:List Int}(hl:es.length<=700):∀(d k:Nat),k+d=(X.af-X.be).toNat ->
  aQ lib ⟨h.length,h.length,5,some p⟩ (.loop Tm) ([(4,.aF (h.length+4) 1 0),(5,.aF (h.length+1) v 0),(6,.int .i64 (X.be+k))],h++(R::(v,.box (iO X))::ou z (ints (es++(ny X).take k))::oF z (ints (es++(ny X).take k))::(1,.box [kH h.length z (ints (es++(ny X).take k))])::fr)) =
   some (.exit 2,([],h++(R::(v,.box (iO X))::ou z (ints (es++ny X))::oF z (ints (es++ny X))::(1,.box [kH h.length z (ints (es++ny X))])::fr))):=by
 obtain⟨x1,x2,x3,x4,x5,x6,x7,x8,x9,x10⟩:=hX;have hal:=V6 X;intro d
 induction d with
 |zero =>
  intro k hk;have c:¬ X.be+(k:Int)<X.af:=by omega
  rw[Az (by omega),bU]
  simp(maxSteps:=30000000)(disch:=omega)only[go_sem,iO,c]
 |succ d ih =>
  intro k hk;have c:X.be+(k:Int)<X.af:=by omega
  have e:=ih (k+1) (by omega)
  have hlt:((ny X).take k).length=k:=by rw[qi];omega
  rw[aoR (by omega),<-jO,adN,jo,<-Int.add_assoc]at e
  have hL:(es++(ny X).take k).length<=1000:=by rw[jm];omega
  generalize es++(ny X).take k=L at*;have ea:=fun x fr=>aoP (h:=h) (r:=R) (b:=(v,.box (iO X))) (o:=(1,.box [kH h.length z (ints L)])) (fr:=fr) (z:=z) (es:=ints L) (x:=x) (by simp;omega)
  have ea:∀ x fr,ji ⟨h.length,h.length,5,some p⟩ 2 1 17592186044416 (kH h.length z (ints L)) [x] (h++(R::(v,.box (iO X))::ou z (ints L)::oF z (ints L)::(1,.box [kH h.length z (ints L)])::fr))=_:=fun x fr=>(QF (p:=p)).trans (ea x fr);have es:=fun x (fr:Heap)=>QG (lo:=h.length) (ns:=5) (s:=4) (ai:=1) (off:=0) (h:=h) (p:=p) (fr:=R::(v,.box (iO X))::ou z (ints L++[x])::oF z (ints L++[x])::(1,.box [kH h.length z (ints L)])::fr) (v:=kH h.length z (ints L++[x])) (bC _) aoO ⟨by rw[aoM];rfl,aoN _ _ _⟩
  simp only[iO]at ea es e⊢;rw[bU];unfold V4 at e;cases hc:X.cut
  ·rw[hc]at e ea es;simp only[iw,if_false]at e;simp(maxSteps:=30000000)(disch:=omega)only[go_sem,c,hc,ea,es,e]
  ·rw[hc]at e ea es;simp only[if_true]at e;simp(maxSteps:=30000000)(disch:=omega)only[go_sem,c,hc,ea,es,e]
end Go.VI.Dump
namespace Go.VI.Dump
open Go.VI.Num
/- BIGSTEPS -/
abbrev wS(x:LV):AV:=.bR [.int .i64 x.l.L,.int .i64 x.l.D,.int .i64 x.l.E,pV x,cV x]
abbrev AS:=List Int×Nat×au
def II(h:Heap)(x:LV):Env:=[(2,.aP),(3,.int .i64 0),(4,.aF (h.length+4) 1 0),(16,.fn 89 [wS x])]
def V8(h:Heap)(x:LV):dO:=⟨0,h.length,h.length,5,II h x⟩
def IJ(h:Heap)(x:LV)(z:Bool)(st:AS):Heap:=h++[(1,.ax (V8 h x) .ready),st.2,ou z (ints st.1),oF z (ints st.1),(1,.box [kH h.length z (ints st.1)])]
def Em(st:AS)(X:Stp):AS:=(st.1++ny X,st.2.1+1,.box (iO X))
def FV(s a:Int)(st:AS):Prop:=(st.1.length:Int)=a
theorem aoT{x:LV}(h:Heap)(z:Bool)(st:AS)(X:Stp)(fr:Heap)(hX:rT X)(hi:FV X.fr X.be st) :
  iY (run lib) ⟨h.length,h.length+5,3,none⟩ (h.length+0) 1 [nS X] (IJ h x z st++fr)=some (.bool true,IJ h x z (Em st X)++fr):=by
 obtain⟨out,v,b⟩:=st;simp only[FV]at hi;have hb:=hX.af3;have hba:=hX.af;obtain⟨D,hD⟩:∃ D:dO,D=V8 h x:=⟨_,rfl⟩;simp only[IJ,Em,jO,List.cons_append,List.nil_append,<-hD]
 have ha:aQ lib ⟨h.length,h.length,5,some (h.length+0,1)⟩ r0.jE ((r0.ps.zip [nS X]).foldl (fun e p=>e.set p.1 p.2) (II h x),h++((1,.ax D .ready)::(v,b)::ou z (ints out)::oF z (ints out)::(1,.box [kH h.length z (ints out)])::fr)) =
   some (.norm,([(4,.aF (h.length+4) 1 0),(5,.aF (h.length+1) (v+1) 0)],h++((1,.ax D .ready)::(v+1,.box (iO X))::ou z (ints out)::oF z (ints out)::(1,.box [kH h.length z (ints out)])::fr))):=by
  have em:fB ⟨h.length,h.length,5,some (h.length+0,1)⟩ 1 (.box [.int .i64 0,.int .i64 0,.int .i64 0,.int .i64 0,.int .i64 0,.bool false,.bool false]) (h++((1,.ax D .ready)::(v,b)::ou z (ints out)::oF z (ints out)::(1,.box [kH h.length z (ints out)])::fr))=some (v+1,h++((1,.ax D .ready)::(v+1,.box [.int .i64 0,.int .i64 0,.int .i64 0,.int .i64 0,.int .i64 0,.bool false,.bool false])::ou z (ints out)::oF z (ints out)::(1,.box [kH h.length z (ints out)])::fr)):=by
   rw[uW (by rfl)]
   simp(maxSteps:=30000000)(disch:=omega)only[go_sem]
  have es:iX ⟨h.length,h.length,5,some (h.length+0,1)⟩ (h++((1,.ax D .ready)::(v+1,.box [.int .i64 0,.int .i64 0,.int .i64 0,.int .i64 0,.int .i64 0,.bool false,.bool false])::ou z (ints out)::oF z (ints out)::(1,.box [kH h.length z (ints out)])::fr)) 7 (.aF (h.length+1) (v+1) 0) (nS X)=some (h++((1,.ax D .ready)::(v+1,.box (iO X))::ou z (ints out)::oF z (ints out)::(1,.box [kH h.length z (ints out)])::fr)):=by
   rw[tX (by omega) (by rfl)]
   simp(maxSteps:=30000000)(disch:=omega)only[go_sem,nS,iO]
  simp(maxSteps:=30000000)(disch:=omega)only[go_sem,r0,II,em,es,List.zip_cons_cons,Ac,List.foldl_cons,wL]
 have hb:∃ jl,aQ lib ⟨h.length,h.length,5,some (h.length+0,1)⟩ r0.body ([(4,.aF (h.length+4) 1 0),(5,.aF (h.length+1) (v+1) 0)],(h++((1,.ax D .ready)::(v+1,.box (iO X))::ou z (ints out)::oF z (ints out)::(1,.box [kH h.length z (ints out)])::fr)).set (h.length+0) (1,.ax D .busy)) =
   some (.norm,(jl,h++((1,.ax D .busy)::(v+1,.box (iO X))::ou z (ints (out++ny X))::oF z (ints (out++ny X))::(1,.box [kH h.length z (ints (out++ny X))])::fr))):=by
  refine⟨[], ?_⟩;rw[gy];have e:=aoS hX (h:=h) (fr:=fr) (z:=z) (R:=(1,.ax D .busy)) (p:=(h.length+0,1)) (v:=v+1) (es:=out) (by omega) (X.af-X.be).toNat 0 (by omega)
  simp only[List.take_zero,nI,qX,yL]at e;simp only[iO]at e⊢;simp(maxSteps:=30000000)(disch:=omega)only[go_sem,r0,e]
 obtain⟨jl,hb⟩:=hb;have hg:(h++((1,au.ax D .ready)::(v,b)::ou z (ints out)::oF z (ints out)::(1,.box [kH h.length z (ints out)])::fr))[h.length+0]?=some (1,.ax ⟨0,h.length,h.length,5,II h x⟩ .ready):=by rw[cO,hD];rfl
 have:=xG (L:=lib) (cx:=⟨h.length,h.length+5,3,none⟩) hg (bC _) (by omega) (bC _) (by simp[nS,AV.l5,AV.closed]) (x:=r0) rfl rfl ha (by rw[cO];rfl) hb (by rw[cO];rfl)
 rw[this,gy];rfl
theorem aoU(xs:List Stp):∀ st:AS,(xs.foldl Em st).1=st.1++iW xs:=by
 induction xs with
 |nil=>intro st;simp[iW]
 |cons X xs ih=>intro st;rw[List.foldl_cons,ih];simp[Em,iW]
theorem aoV(st:AS)(X:Stp)(hX:rT X)(hi:FV X.fr X.be st):FV X.to X.af (Em st X):=by
 have:=hX.af;simp only[FV,Em,jm,V6]at *;omega
theorem aoW{l:iD}(ok:lS l){xs:List Stp}{e:Int}(h:Ch l 0 l.D xs e)(hD:l.D=0):iW xs≠[]:=by
 intro h0;have h1:=h.Lb ok.E.1;have h2:=h.dl ok.D.1 (pW _);have h3:=ok.L;rw[h0]at h1;simp at h1;omega
theorem adP{x:LV}(o:okV x)(ok:lS x.l){xs:List Stp}{e:Int}(hc:Ch x.l 0 x.l.D xs e)(h:Heap)(lo:Nat) :
  (run lib).fn 14 [nA x] h lo=some (.tuple [.own 1 (ints (nZ x.l xs)),.int .i64 0],h):=by
 have ev:=fun H lo=>Mi o H lo;rw[QD.mpr ok]at ev;obtain⟨D1,D2⟩:=ok.D;obtain⟨N,hN⟩:∃ N:Nat,x.l.D=N:=⟨x.l.D.toNat,by omega⟩
 have er:=fun H lo=>adM (-1) N (by omega) H lo
 rw[<-hN]at er;have dc:=fun H lo=>QE x H lo;obtain⟨z,hz⟩:∃ z:Bool,z=decide (N=0):=⟨_,rfl⟩;have hlen:∀ st,(IJ h x z st).length=h.length+5:=fun st=>by simp[IJ]
 have g2:=VX (id:=h.length+0) (iv:=1) (H:=IJ h x z) (nb:=h.length+5) (lo:=h.length) (step:=Em) (Iv:=FV) o ok hlen (by omega) (fun st X hX hi=>aoV st X hX hi) (fun st X fr hX hi=>aoT (x:=x) h z st X fr hX hi) hc (List.replicate N (-1),0,.dead) (by simp[FV,hN])
 obtain⟨_,g2⟩:=g2;obtain⟨st,hst⟩:∃ st,st=xs.foldl Em (List.replicate N (-1),0,.dead):=⟨_,rfl⟩;have hs1:st.1=nZ x.l xs:=by rw[hst,aoU];unfold nZ;rw[hN];rfl
 rw[<-hst]at g2;obtain⟨out,vb⟩:=st;simp only at hs1;subst hs1
 have hne:z=true->ints (nZ x.l xs)≠[]:=by
  intro h1;rw[hz]at h1;have h0:N=0:=of_decide_eq_true h1;have:=aoW ok hc (by omega)
  unfold nZ ints;simp[this]
 have g3:=Bb (L:=lib) (lo:=h.length) (ns:=5) (s:=0) (g:=0) (it:=89) (v:=0) (caps:=[wS x]) (env:=II h x) (h:=h) (b:=.dead)
  (fr:=[(0,.dead),(0,.dead),ou z (ints (List.replicate N (-1))),oF z (ints (List.replicate N (-1))),(1,.box [kH h.length z (ints (List.replicate N (-1)))])])
  (fr':=[(1,.ax (V8 h x) .ready),vb,ou z (ints (nZ x.l xs)),oF z (ints (nZ x.l xs)),(1,.box [kH h.length z (ints (nZ x.l xs))])])
  (f:=.t 16) rfl (by omega) rfl g2 rfl
 obtain⟨h',gv⟩:=aoQ (h:=h) (fr:=[]) (r:=(1+0,.dead)) (b:=vb) (o:=(1,.box [kH h.length z (ints (nZ x.l xs))])) hne;simp only[II,List.set_cons_zero]at g3;unfold nA at ev dc⊢;rw[bW (x:=OV) rfl rfl rfl rfl];by_cases h0:N=0
 ·have hz1:z=true:=by rw[hz];exact decide_eq_true h0
  subst hz1;subst h0;simp only[if_true]at er;have a1:kH h.length true (ints (List.replicate 0 (-1)))=.bF 1 []:=rfl;have a2:ou true (ints (List.replicate 0 (-1)))=(0,.dead):=rfl;have a3:oF true (ints (List.replicate 0 (-1)))=(0,.dead):=rfl;rw[a1,a2,a3]at g3;have tk:∀ H:Heap,zN ⟨h.length,h.length,5,none⟩ [(0,3)] (some (.bF 1 [],H))=some (.bF 1 [],H):=fun H=>by simp[zN,qB,weak,kg]
  have lc:(AV.bF 1 []).cells=[.bF 1 []]:=rfl;have lv:(AV.bF 1 []).val=true:=rfl;simp(maxSteps:=30000000)(disch:=omega)only[go_sem,OV,ev,er,dc,tk,g3,gv,lc,lv]
 ·have hz1:z=false:=by rw[hz];exact decide_eq_false h0
  subst hz1;simp only[h0,if_false]at er;have hne2:ints (List.replicate N (-1))≠[]:=by simp[ints];omega
  have a1:kH h.length false (ints (List.replicate N (-1)))=.ref (h.length+3) (0+1) 1 0 (ints (List.replicate N (-1))).length (ints (List.replicate N (-1))).length:=rfl;have a2:ou false (ints (List.replicate N (-1)))=(0,.dead):=rfl;have a3:oF false (ints (List.replicate N (-1)))=(0+1,.arr 1 (ints (List.replicate N (-1)))):=rfl;rw[a1,a2,a3]at g3;have tk:=Ta (lo:=h.length) (ns:=5) (s:=3) (z:=1) (h:=h) (fr:=[(0,.dead),(0,.dead),(0,.dead),(0,.dead),(0,.dead)]) (b0:=(0,.dead)) (es:=ints (List.replicate N (-1))) (by omega) rfl hne2
  rw[show qF 1 (ints (List.replicate N (-1)))=.own 1 (ints (List.replicate N (-1)))from if_neg hne2]at tk
  simp(maxSteps:=30000000)(disch:=omega)only[go_sem,OV,ev,er,dc,tk,g3,gv]
end Go.VI.Dump
namespace Go.VI
theorem Wd{lo base ns s:Nat}{p:Nat×Nat}{b0:Nat×au}{z:Nat}{es:List AV}(h:s<ns):(Cx.mk lo base ns (some p)).fit (cu (base+s) b0 z es)=true:=by
 unfold cu;split
 ·rfl
 ·simp[Cx.fit,AV.xZ,h]
end Go.VI
namespace Go.VI.Dump
open Go.VI.Num
/- BIGSTEPS -/
theorem aoX(x:Int)(k:Nat):List.replicate (k+1) x=List.replicate k x++[x]:=by rw[<-List.replicate_append_replicate];rfl
theorem aoY{X:Stp}(hX:rT X){h fr:Heap}{R:Nat×au}{p:Nat×Nat}{v:Nat}{es:List Int}(hl:es.length<=700):∀(d k:Nat),k+d=(X.to-X.fr).toNat ->
  aQ lib ⟨h.length,h.length,4,some p⟩ (.loop Tn) ([(4,.aF (h.length+3) 1 0),(5,.aF (h.length+1) v 0),(18,.int .i64 (X.to-X.fr)),(19,.int .i64 k)],h++(R::(v,.box (iO X))::bX (0,.dead) 1 (ints (es++List.replicate k X.de))::(1,.box [cu (h.length+2) (0,.dead) 1 (ints (es++List.replicate k X.de))])::fr)) =
   some (.exit 2,([],h++(R::(v,.box (iO X))::bX (0,.dead) 1 (ints (es++List.replicate (X.to-X.fr).toNat X.de))::(1,.box [cu (h.length+2) (0,.dead) 1 (ints (es++List.replicate (X.to-X.fr).toNat X.de))])::fr))):=by
 obtain⟨x1,x2,x3,x4,x5,x6,x7,x8,x9,x10⟩:=hX;intro d
 induction d with
 |zero =>
  intro k hk;obtain rfl:k=(X.to-X.fr).toNat:=by omega
  have c:¬ ((X.to-X.fr).toNat:Int)<X.to-X.fr:=by omega
  rw[bU]
  simp(maxSteps:=30000000)(disch:=omega)only[go_sem,iO,c]
 |succ d ih =>
  intro k hk;have c:(k:Int)<X.to-X.fr:=by omega
  have e:=ih (k+1) (by omega)
  rw[aoX X.de k,<-jO,adN,jo]at e;have hL:(es++List.replicate k X.de).length<=1000:=by rw[jm,vT];omega
  generalize es++List.replicate k X.de=L at*;have ea:=wD (lo:=h.length) (ns:=4) (s:=2) (z:=1) (lim:=17592186044416) (h:=h) (fr:=R::(v,.box (iO X))::bX (0,.dead) 1 (ints L)::(1,.box [cu (h.length+2) (0,.dead) 1 (ints L)])::fr) (b0:=(0,.dead)) (es:=ints L) (xs:=[.int .i64 X.de]) (by omega) (by omega) rfl (by simp;omega)
  rw[<-QF (p:=p)]at ea;have es:=QG (lo:=h.length) (ns:=4) (s:=3) (ai:=1) (off:=0) (h:=h) (p:=p) (fr:=R::(v,.box (iO X))::bX (0,.dead) 1 (ints L++[.int .i64 X.de])::(1,.box [cu (h.length+2) (0,.dead) 1 (ints L)])::fr) (v:=cu (h.length+2) (0,.dead) 1 (ints L++[.int .i64 X.de])) (bC _) (Wd (by omega)) ⟨by rw[tT];rfl,Ct _ _ _ _⟩
  simp only[iO]at ea es e⊢;rw[bU];simp(maxSteps:=30000000)(disch:=omega)only[go_sem,c,ea,es,e,tT]
def IK(h:Heap)(x:LV):Env:=[(2,.aP),(3,.int .i64 0),(4,.aF (h.length+3) 1 0),(10,.fn 89 [wS x])]
def Wh(h:Heap)(x:LV):dO:=⟨1,h.length,h.length,4,IK h x⟩
def IL(h:Heap)(x:LV)(st:AS):Heap:=h++[(1,.ax (Wh h x) .ready),st.2,bX (0,.dead) 1 (ints st.1),(1,.box [cu (h.length+2) (0,.dead) 1 (ints st.1)])]
def En(st:AS)(X:Stp):AS:=(st.1++List.replicate (X.to-X.fr).toNat X.de,st.2.1+1,.box (iO X))
def FW(s a:Int)(st:AS):Prop:=(st.1.length:Int)=s
theorem aoZ{x:LV}(h:Heap)(st:AS)(X:Stp)(fr:Heap)(hX:rT X)(hi:FW X.fr X.be st) :
  iY (run lib) ⟨h.length,h.length+4,3,none⟩ (h.length+0) 1 [nS X] (IL h x st++fr)=some (.bool true,IL h x (En st X)++fr):=by
 obtain⟨out,v,b⟩:=st;simp only[FW]at hi;have hb:=hX.hi;have hba:=hX.to;obtain⟨D,hD⟩:∃ D:dO,D=Wh h x:=⟨_,rfl⟩;simp only[IL,En,jO,List.cons_append,List.nil_append,<-hD]
 have ha:aQ lib ⟨h.length,h.length,4,some (h.length+0,1)⟩ r1.jE ((r1.ps.zip [nS X]).foldl (fun e p=>e.set p.1 p.2) (IK h x),h++((1,.ax D .ready)::(v,b)::bX (0,.dead) 1 (ints out)::(1,.box [cu (h.length+2) (0,.dead) 1 (ints out)])::fr)) =
   some (.norm,([(4,.aF (h.length+3) 1 0),(5,.aF (h.length+1) (v+1) 0)],h++((1,.ax D .ready)::(v+1,.box (iO X))::bX (0,.dead) 1 (ints out)::(1,.box [cu (h.length+2) (0,.dead) 1 (ints out)])::fr))):=by
  have em:fB ⟨h.length,h.length,4,some (h.length+0,1)⟩ 1 (.box [.int .i64 0,.int .i64 0,.int .i64 0,.int .i64 0,.int .i64 0,.bool false,.bool false]) (h++((1,.ax D .ready)::(v,b)::bX (0,.dead) 1 (ints out)::(1,.box [cu (h.length+2) (0,.dead) 1 (ints out)])::fr))=some (v+1,h++((1,.ax D .ready)::(v+1,.box [.int .i64 0,.int .i64 0,.int .i64 0,.int .i64 0,.int .i64 0,.bool false,.bool false])::bX (0,.dead) 1 (ints out)::(1,.box [cu (h.length+2) (0,.dead) 1 (ints out)])::fr)):=by
   rw[uW (by rfl)]
   simp(maxSteps:=30000000)(disch:=omega)only[go_sem]
  have es:iX ⟨h.length,h.length,4,some (h.length+0,1)⟩ (h++((1,.ax D .ready)::(v+1,.box [.int .i64 0,.int .i64 0,.int .i64 0,.int .i64 0,.int .i64 0,.bool false,.bool false])::bX (0,.dead) 1 (ints out)::(1,.box [cu (h.length+2) (0,.dead) 1 (ints out)])::fr)) 7 (.aF (h.length+1) (v+1) 0) (nS X)=some (h++((1,.ax D .ready)::(v+1,.box (iO X))::bX (0,.dead) 1 (ints out)::(1,.box [cu (h.length+2) (0,.dead) 1 (ints out)])::fr)):=by
   rw[tX (by omega) (by rfl)]
   simp(maxSteps:=30000000)(disch:=omega)only[go_sem,nS,iO]
  simp(maxSteps:=30000000)(disch:=omega)only[go_sem,r1,IK,em,es,List.zip_cons_cons,Ac,List.foldl_cons,wL]
 have hb:∃ jl,aQ lib ⟨h.length,h.length,4,some (h.length+0,1)⟩ r1.body ([(4,.aF (h.length+3) 1 0),(5,.aF (h.length+1) (v+1) 0)],(h++((1,.ax D .ready)::(v+1,.box (iO X))::bX (0,.dead) 1 (ints out)::(1,.box [cu (h.length+2) (0,.dead) 1 (ints out)])::fr)).set (h.length+0) (1,.ax D .busy)) =
   some (.norm,(jl,h++((1,.ax D .busy)::(v+1,.box (iO X))::bX (0,.dead) 1 (ints (out++List.replicate (X.to-X.fr).toNat X.de))::(1,.box [cu (h.length+2) (0,.dead) 1 (ints (out++List.replicate (X.to-X.fr).toNat X.de))])::fr))):=by
  refine⟨[], ?_⟩;rw[gy];have e:=aoY hX (h:=h) (fr:=fr) (R:=(1,.ax D .busy)) (p:=(h.length+0,1)) (v:=v+1) (es:=out) (by omega) (X.to-X.fr).toNat 0 (by omega)
  have x1:=hX.fr;have x2:=hX.tf;simp only[List.replicate_zero,nI,qX,yL]at e;simp only[iO]at e⊢;simp(maxSteps:=30000000)(disch:=omega)only[go_sem,r1,e]
 obtain⟨jl,hb⟩:=hb;have hg:(h++((1,au.ax D .ready)::(v,b)::bX (0,.dead) 1 (ints out)::(1,.box [cu (h.length+2) (0,.dead) 1 (ints out)])::fr))[h.length+0]?=some (1,.ax ⟨1,h.length,h.length,4,IK h x⟩ .ready):=by rw[cO,hD];rfl
 have:=xG (L:=lib) (cx:=⟨h.length,h.length+4,3,none⟩) hg (bC _) (by omega) (bC _) (by simp[nS,AV.l5,AV.closed]) (x:=r1) rfl rfl ha (by rw[cO];rfl) hb (by rw[cO];rfl)
 rw[this,gy];rfl
theorem ao0(xs:List Stp):∀ st:AS,(xs.foldl En st).1=st.1++nJ xs:=by
 induction xs with
 |nil=>intro st;simp[nJ]
 |cons X xs ih=>intro st;rw[List.foldl_cons,ih];simp[En,nJ]
theorem ao1(st:AS)(X:Stp)(hX:rT X)(hi:FW X.fr X.be st):FW X.to X.af (En st X):=by
 have:=hX.to;simp only[FW,En,jm,vT]at *;omega
theorem ao2{x:LV}(o:okV x)(ok:lS x.l){xs:List Stp}{e:Int}(hc:Ch x.l 0 x.l.D xs e)(h:Heap)(lo:Nat) :
  (run lib).fn 16 [nA x] h lo=some (.tuple [qF 1 (ints (nJ xs)),.int .i64 0],h):=by
 have ev:=fun H lo=>Mi o H lo;rw[QD.mpr ok]at ev;obtain⟨D1,D2⟩:=ok.D;have dc:=fun H lo=>QE x H lo;have hlen:∀ st,(IL h x st).length=h.length+4:=fun st=>by simp[IL]
 have g2:=VX (id:=h.length+0) (iv:=1) (H:=IL h x) (nb:=h.length+4) (lo:=h.length) (step:=En) (Iv:=FW) o ok hlen (by omega) (fun st X hX hi=>ao1 st X hX hi) (fun st X fr hX hi=>aoZ (x:=x) h st X fr hX hi) hc ([],0,.dead) (by simp[FW])
 obtain⟨_,g2⟩:=g2;obtain⟨st,hst⟩:∃ st,st=xs.foldl En ([],0,.dead):=⟨_,rfl⟩;have hs1:st.1=nJ xs:=by rw[hst,ao0];simp
 rw[<-hst]at g2;obtain⟨out,vb⟩:=st;simp only at hs1;subst hs1
 have g3:=Bb (L:=lib) (lo:=h.length) (ns:=4) (s:=0) (g:=1) (it:=89) (v:=0) (caps:=[wS x]) (env:=IK h x) (h:=h) (b:=.dead)
  (fr:=[(0,.dead),(0,.dead),(0,.dead),(1,.box [.aP])])
  (fr':=[(1,.ax (Wh h x) .ready),vb,bX (0,.dead) 1 (ints (nJ xs)),(1,.box [cu (h.length+2) (0,.dead) 1 (ints (nJ xs))])])
  (f:=.t 10) rfl (by omega) rfl g2 rfl
 have g4:=Fh (s:=2) (z:=1) (h:=h) (b0:=(0,.dead)) (es:=ints (nJ xs)) (fr:=[(1+0,.dead),vb,bX (0,.dead) 1 (ints (nJ xs)),(1,.box [cu (h.length+2) (0,.dead) 1 (ints (nJ xs))])]) rfl;simp only[IK,List.set_cons_zero]at g3;unfold nA at ev dc⊢;rw[bW (x:=Tp) rfl rfl rfl rfl];simp(maxSteps:=30000000)(disch:=omega)only[go_sem,Tp,ev,dc,g3,g4]
end Go.VI.Dump
namespace Go.VI.Dump
open Go.VI.Num
/- BIGSTEPS -/
def wT(l:iD)(X:Stp)(out:List Int):List Int:=List.zipWith (fun(c:Pr) o=>zX l c.2 o X) l.C out
def pJ(l:iD)(X:Stp)(out:List Int)(k:Nat):List Int:=(wT l X out).take k++out.drop k
theorem FX{l:iD}{X:Stp}{out:List Int}(h:out.length=l.C.length):(wT l X out).length=l.C.length:=by simp[wT,h]
theorem adQ{l:iD}{X:Stp}{out:List Int}(h:out.length=l.C.length){k:Nat}(hk:k<=l.C.length):(pJ l X out k).length=l.C.length:=by
 simp[pJ,FX h,h];omega
theorem adR{l:iD}{X:Stp}{out:List Int}(h:out.length=l.C.length){k:Nat}(hk:k<l.C.length):(pJ l X out k)[k]'(by rw[adQ h (by omega)];exact hk)=out[k]:=by
 have:((wT l X out).take k).length=k:=by rw[qi,FX h];omega
 unfold pJ;rw[List.getElem_append_right (by omega)]
 simp[this]
theorem ao3{l:iD}{X:Stp}{out:List Int}(h:out.length=l.C.length){k:Nat}(hk:k<l.C.length):pJ l X out (k+1)=(pJ l X out k).set k (zX l l.C[k].2 out[k] X):=by
 have h1:((wT l X out).take k).length=k:=by rw[qi,FX h];omega
 have h2:(wT l X out)[k]'(by rw[FX h];exact hk)=zX l l.C[k].2 out[k] X:=by simp[wT]
 unfold pJ;rw[List.set_append_right _ _ (by omega),h1,Nat.sub_self,zR (by rw[FX h];exact hk),h2,qH (show k<out.length by omega),List.set_cons_zero,jO,List.singleton_append]
def fo(n:Nat)(x:LV):AV:=if x.l.C.length=0 then .bF 1 []else .ref (n+3) 1 1 0 x.l.C.length x.l.C.length
def fb(x:LV)(out:List Int):Nat×au:=if x.l.C.length=0 then(0,.dead) else(1,.arr 1 (ints out))
def IQ:List Pr->Nat×au->Nat×au
 |[],B=>B
 |q::r,B=>IQ r (B.1+1,.box [.int .i64 q.1,.int .i64 q.2])
theorem ao4{x:LV}(o:okV x)(h4:x.l.C.length<=4){X:Stp}{h fr:Heap}{R:Nat×au}{p:Nat×Nat}{v:Nat}{out:List Int}(hl:out.length=x.l.C.length):∀(d k:Nat) (B:Nat×au),k+d=x.l.C.length ->
  aQ lib ⟨h.length,h.length,5,some p⟩ (.loop Tq) ([(1,wS x),(4,.aF (h.length+4) 1 0),(5,.aF (h.length+1) v 0),(22,cV x),(23,.int .i64 x.l.C.length),(24,.int .i64 k)],h++(R::(v,.box (iO X))::B::fb x (pJ x.l X out k)::(1,.box [fo h.length x])::fr)) =
   some (.exit 2,([],h++(R::(v,.box (iO X))::IQ (x.l.C.drop k) B::fb x (wT x.l X out)::(1,.box [fo h.length x])::fr))):=by
 intro d
 induction d with
 |zero =>
  intro k B hk;obtain rfl:k=x.l.C.length:=by omega
  have:pJ x.l X out x.l.C.length=wT x.l X out:=by
   unfold pJ;rw[Az (by rw[FX hl];exact bC _),qG (by omega),nI]
  rw[this,List.drop_length,IQ,bU]
  simp(maxSteps:=30000000)(disch:=omega)only[go_sem,iO,nR]
 |succ d ih =>
  intro k B hk;have hk':k<x.l.C.length:=by omega
  have c:(k:Int)<x.l.C.length:=by omega
  have Mj:fo h.length x=.ref (h.length+3) 1 1 0 x.l.C.length x.l.C.length:=if_neg (by omega)
  have Ml:∀ o,fb x o=(1,.arr 1 (ints o)):=fun o=>if_neg (by omega)
  simp only[Mj,Ml]at ih⊢;obtain⟨v0,b0⟩:=B;have e3:iM 2 (cV x) (.int .i64 k)=some k:=by rw[kr (o.sc h) (by omega) (by simp;omega)];simp
  have e4:=fun off (g:Heap)=>jV (off:=off) ((o.sc h).elems g) (show k<(pts x.l.C).length by simp;omega)
  simp only[FO,pt]at e4;have hkl:=adQ (X:=X) hl (k:=k) (by omega)
  have hlen:(ints (pJ x.l X out k)).length=x.l.C.length:=by rw[jY,hkl]
  have f0:=fun(a b c' d':Nat×au) (g:Heap)=>Sl.ald (h:=h++(a::b::c'::(1,.arr 1 (ints (pJ x.l X out k)))::d'::g)) (id:=h.length+3) (ai:=1) (z:=1) (es:=ints (pJ x.l X out k)) (by rw[cO];rfl)
  rw[hlen]at f0;have f3:iM 1 (.ref (h.length+3) 1 1 0 x.l.C.length x.l.C.length) (.int .i64 k)=some k:=by rw[kr (f0 R R R R []) (by omega) (by rw[hlen];exact c)];simp
  have f4:=fun off a b c' d' g=>jV (off:=off) (f0 a b c' d' g).jW (show k<(ints (pJ x.l X out k)).length by rw[hlen];exact hk')
  simp only[uo,adR hl hk']at f4;have e:=ih (k+1) (v0+1,.box [.int .i64 x.l.C[k].1,.int .i64 x.l.C[k].2]) (by omega)
  rw[ao3 hl hk',jo]at e;have st:=fun(a b c' d':Nat×au) (g:Heap) n=>Tc (cx:=⟨h.length,h.length,5,some p⟩) (h:=h++(a::b::c'::(1,.arr 1 (ints (pJ x.l X out k)))::d'::g)) (id:=h.length+3) (ai:=1) (o:=0) (len:=x.l.C.length) (fill:=x.l.C.length) (i:=k) (k:=.i64) (l:=pJ x.l X out k) (n:=n) (by rw[cO];rfl) hkl (by omega) hk' (by simp)
  simp only[gy,List.set_cons_succ,List.set_cons_zero,oO]at st
  have hsame:(pJ x.l X out k).set k out[k]=pJ x.l X out k:=by
   have:=adR (X:=X) hl hk'
   conv=>lhs;rw[<-this]
   exact List.set_getElem_self _
  simp only[show ∀ l:List Int,l.map (AV.int .i64)=ints l from fun _=>rfl]at st
  have IU:fB ⟨h.length,h.length,5,some p⟩ 2 (.box [.int .i64 0,.int .i64 0]) (h++(R::(v,.box (iO X))::(v0,b0)::(1,.arr 1 (ints (pJ x.l X out k)))::(1,.box [.ref (h.length+3) 1 1 0 x.l.C.length x.l.C.length])::fr))=some (v0+1,h++(R::(v,.box (iO X))::(v0+1,.box [.int .i64 0,.int .i64 0])::(1,.arr 1 (ints (pJ x.l X out k)))::(1,.box [.ref (h.length+3) 1 1 0 x.l.C.length x.l.C.length])::fr)):=by
   rw[uW (by rfl)]
   simp(maxSteps:=30000000)(disch:=omega)only[go_sem]
  have IV:∀ a b:Int,iX ⟨h.length,h.length,5,some p⟩ (h++(R::(v,.box (iO X))::(v0+1,.box [.int .i64 0,.int .i64 0])::(1,.arr 1 (ints (pJ x.l X out k)))::(1,.box [.ref (h.length+3) 1 1 0 x.l.C.length x.l.C.length])::fr)) 2 (.aF (h.length+2) (v0+1) 0) (.agg [.int .i64 a,.int .i64 b])=some (h++(R::(v,.box (iO X))::(v0+1,.box [.int .i64 a,.int .i64 b])::(1,.arr 1 (ints (pJ x.l X out k)))::(1,.box [.ref (h.length+3) 1 1 0 x.l.C.length x.l.C.length])::fr)):=by
   intro a b;rw[tX (by omega) (by rfl)]
   simp(maxSteps:=30000000)(disch:=omega)only[go_sem]
  rw[qH hk',IQ];unfold zX at e;simp only[iO]at e IU IV⊢;generalize x.l.C[k]=q at*;obtain⟨q1,q2⟩:=q;generalize out[k]=y at*;rw[bU];by_cases c1:y=x.l.L
  ·by_cases c2:q2<=X.fr
   ·by_cases c3:X.de=x.l.D
    ·rw[if_pos ⟨c1,c2,c3⟩]at e;simp only[c3]at e IU IV⊢;simp(maxSteps:=30000000)(disch:=omega)only[go_sem,c,e3,e4,f3,f4,IU,IV,c1,c2,c3,st,e]
    ·rw[if_neg (fun h=>c3 h.2.2),hsame]at e;simp(maxSteps:=30000000)(disch:=omega)only[go_sem,c,e3,e4,f3,f4,IU,IV,c1,c2,c3,e]
   ·rw[if_neg (fun h=>c2 h.2.1),hsame]at e;simp(maxSteps:=30000000)(disch:=omega)only[go_sem,c,e3,e4,f3,f4,IU,IV,c1,c2,e]
  ·rw[if_neg (fun h=>c1 h.1),hsame]at e;simp(maxSteps:=30000000)(disch:=omega)only[go_sem,c,e3,e4,f3,f4,IU,IV,c1,e]
abbrev FS:=List Int×(Nat×au)×(Nat×au)
def IW(h:Heap)(x:LV):Env:=[(1,wS x),(2,.aP),(3,.int .i64 0),(4,.aF (h.length+4) 1 0),(19,.fn 89 [wS x])]
def Wi(h:Heap)(x:LV):dO:=⟨2,h.length,h.length,5,IW h x⟩
def IX(h:Heap)(x:LV)(st:FS):Heap:=h++[(1,.ax (Wi h x) .ready),st.2.1,st.2.2,fb x st.1,(1,.box [fo h.length x])]
def CU(x:LV)(st:FS)(X:Stp):FS:=(wT x.l X st.1,(st.2.1.1+1,.box (iO X)),IQ x.l.C st.2.2)
def Mt(x:LV)(s a:Int)(st:FS):Prop:=st.1.length=x.l.C.length
theorem ao5{x:LV}(o:okV x)(h4:x.l.C.length<=4)(h:Heap)(st:FS)(X:Stp)(fr:Heap)(hX:rT X)(hi:Mt x X.fr X.be st) :
  iY (run lib) ⟨h.length,h.length+5,3,none⟩ (h.length+0) 1 [nS X] (IX h x st++fr)=some (.bool true,IX h x (CU x st X)++fr):=by
 obtain⟨out,⟨v,b⟩,B⟩:=st;simp only[Mt]at hi;obtain⟨D,hD⟩:∃ D:dO,D=Wi h x:=⟨_,rfl⟩;simp only[IX,CU,jO,List.cons_append,List.nil_append,<-hD]
 have ha:aQ lib ⟨h.length,h.length,5,some (h.length+0,1)⟩ r2.jE ((r2.ps.zip [nS X]).foldl (fun e p=>e.set p.1 p.2) (IW h x),h++((1,.ax D .ready)::(v,b)::B::fb x out::(1,.box [fo h.length x])::fr)) =
   some (.norm,([(1,wS x),(4,.aF (h.length+4) 1 0),(5,.aF (h.length+1) (v+1) 0)],h++((1,.ax D .ready)::(v+1,.box (iO X))::B::fb x out::(1,.box [fo h.length x])::fr))):=by
  have em:fB ⟨h.length,h.length,5,some (h.length+0,1)⟩ 1 (.box [.int .i64 0,.int .i64 0,.int .i64 0,.int .i64 0,.int .i64 0,.bool false,.bool false]) (h++((1,.ax D .ready)::(v,b)::B::fb x out::(1,.box [fo h.length x])::fr))=some (v+1,h++((1,.ax D .ready)::(v+1,.box [.int .i64 0,.int .i64 0,.int .i64 0,.int .i64 0,.int .i64 0,.bool false,.bool false])::B::fb x out::(1,.box [fo h.length x])::fr)):=by
   rw[uW (by rfl)]
   simp(maxSteps:=30000000)(disch:=omega)only[go_sem]
  have es:iX ⟨h.length,h.length,5,some (h.length+0,1)⟩ (h++((1,.ax D .ready)::(v+1,.box [.int .i64 0,.int .i64 0,.int .i64 0,.int .i64 0,.int .i64 0,.bool false,.bool false])::B::fb x out::(1,.box [fo h.length x])::fr)) 7 (.aF (h.length+1) (v+1) 0) (nS X)=some (h++((1,.ax D .ready)::(v+1,.box (iO X))::B::fb x out::(1,.box [fo h.length x])::fr)):=by
   rw[tX (by omega) (by rfl)]
   simp(maxSteps:=30000000)(disch:=omega)only[go_sem,nS,iO]
  simp(maxSteps:=30000000)(disch:=omega)only[go_sem,r2,IW,em,es,List.zip_cons_cons,Ac,List.foldl_cons,wL]
 have hb:∃ jl,aQ lib ⟨h.length,h.length,5,some (h.length+0,1)⟩ r2.body ([(1,wS x),(4,.aF (h.length+4) 1 0),(5,.aF (h.length+1) (v+1) 0)],(h++((1,.ax D .ready)::(v+1,.box (iO X))::B::fb x out::(1,.box [fo h.length x])::fr)).set (h.length+0) (1,.ax D .busy)) =
   some (.norm,(jl,h++((1,.ax D .busy)::(v+1,.box (iO X))::IQ x.l.C B::fb x (wT x.l X out)::(1,.box [fo h.length x])::fr))):=by
  refine⟨[], ?_⟩;rw[gy];have e:=ao4 o h4 (X:=X) (h:=h) (fr:=fr) (R:=(1,.ax D .busy)) (p:=(h.length+0,1)) (v:=v+1) (out:=out) hi x.l.C.length 0 B (by omega)
  have e0:pJ x.l X out 0=out:=by simp[pJ]
  have ll:=iB (o.sc h).len;rw[Bw]at ll;simp only[e0,List.drop_zero,qX]at e;simp only[iO]at e⊢;simp(maxSteps:=30000000)(disch:=omega)only[go_sem,r2,ll,e]
 obtain⟨jl,hb⟩:=hb;have hg:(h++((1,au.ax D .ready)::(v,b)::B::fb x out::(1,.box [fo h.length x])::fr))[h.length+0]?=some (1,.ax ⟨2,h.length,h.length,5,IW h x⟩ .ready):=by rw[cO,hD];rfl
 have:=xG (L:=lib) (cx:=⟨h.length,h.length+5,3,none⟩) hg (bC _) (by omega) (bC _) (by simp[nS,AV.l5,AV.closed]) (x:=r2) rfl rfl ha (by rw[cO];rfl) hb (by rw[cO];rfl)
 rw[this,gy];rfl
def vG(l:iD)(xs:List Stp):List Int:=l.C.map fun c=>P9 l c.2 xs
theorem ao6{x:LV}(xs:List Stp):∀ st:FS,st.1.length=x.l.C.length->(xs.foldl (CU x) st).1=List.zipWith (fun(c:Pr) o=>xs.foldl (zX x.l c.2) o) x.l.C st.1:=by
 induction xs with
 |nil =>
  intro st hl;simp only[wL];apply List.ext_getElem
  ·simp[hl]
  ·intro i h1 h2;simp
 |cons X xs ih =>
  intro st hl;rw[List.foldl_cons,ih _ (by simp[CU,wT,hl])]
  apply List.ext_getElem
  ·simp[CU,wT]
  ·intro i h1 h2;simp[CU,wT]
theorem ao7{l:iD}(ok:lS l){xs:List Stp}{e:Int}(h:Ch l 0 l.D xs e):List.zipWith (fun(c:Pr) o=>xs.foldl (zX l c.2) o) l.C (List.replicate l.C.length l.L)=vG l xs:=by
 have hf:=h.fr ok.E.1;apply List.ext_getElem
 ·simp[vG]
 ·intro i h1 h2;simp only[List.getElem_zipWith,List.getElem_replicate,vG,List.getElem_map];exact acp xs fun x hx=>by have:=hf x hx;omega
def QH(es:List AV):AV:=if es=[]then .bF 1 []else .own 1 es
theorem ao8{x:LV}(o:okV x)(ok:lS x.l){xs:List Stp}{e:Int}(hc:Ch x.l 0 x.l.D xs e)(h:Heap)(lo:Nat) :
  (run lib).fn 18 [nA x] h lo=some (.tuple [QH (ints (vG x.l xs)),.int .i64 0],h):=by
 have ev:=fun H lo=>Mi o H lo;rw[QD.mpr ok]at ev;have h4:=ok.c4;have er:=fun H lo=>adM x.l.L x.l.C.length (by omega) H lo
 have dc:=fun H lo=>QE x H lo;have ll:=iB (o.sc h).len;rw[Bw]at ll;have hlen:∀ st,(IX h x st).length=h.length+5:=fun st=>by simp[IX]
 have g2:=VX (id:=h.length+0) (iv:=1) (H:=IX h x) (nb:=h.length+5) (lo:=h.length) (step:=CU x) (Iv:=Mt x) o ok hlen (by omega) (fun st X hX hi=>by simp only[Mt,CU]at *;rw[FX hi]) (fun st X fr hX hi=>ao5 o h4 h st X fr hX hi) hc (List.replicate x.l.C.length x.l.L,(0,.dead),(0,.dead)) (by simp[Mt])
 obtain⟨_,g2⟩:=g2;obtain⟨st,hst⟩:∃ st,st=xs.foldl (CU x) (List.replicate x.l.C.length x.l.L,(0,.dead),(0,.dead)):=⟨_,rfl⟩;have hs1:st.1=vG x.l xs:=by rw[hst,ao6 _ _ (by simp)];exact ao7 ok hc
 rw[<-hst]at g2;obtain⟨out,va,vb⟩:=st;simp only at hs1;subst hs1
 have g3:=Bb (L:=lib) (lo:=h.length) (ns:=5) (s:=0) (g:=2) (it:=89) (v:=0) (caps:=[wS x]) (env:=IW h x) (h:=h) (b:=.dead)
  (fr:=[(0,.dead),(0,.dead),(0,.dead),fb x (List.replicate x.l.C.length x.l.L),(1,.box [fo h.length x])])
  (fr':=[(1,.ax (Wi h x) .ready),va,vb,fb x (vG x.l xs),(1,.box [fo h.length x])])
  (f:=.t 19) rfl (by omega) rfl g2 rfl
 simp only[IW,List.set_cons_zero]at g3;have hfl:(vG x.l xs).length=x.l.C.length:=by simp[vG]
 unfold nA at ev dc⊢;rw[bW (x:=x18) rfl rfl rfl rfl];by_cases h0:x.l.C.length=0
 ·have hfe:vG x.l xs=[]:=qg (by omega)
  have hm:QH (ints (vG x.l xs))=.bF 1 []:=by rw[hfe];rfl
  have Mj:fo h.length x=.bF 1 []:=if_pos h0;have Ml:∀ o,fb x o=(0,.dead):=fun o=>if_pos h0;rw[hm];simp only[Mj,Ml]at g3;simp only[h0,if_true,qX]at er ll;have tk:∀ H:Heap,zN ⟨h.length,h.length,5,none⟩ [(0,3)] (some (.bF 1 [],H))=some (.bF 1 [],H):=fun H=>by simp[zN,qB,weak,kg]
  have lc:(AV.bF 1 []).cells=[.bF 1 []]:=rfl;have lv:(AV.bF 1 []).val=true:=rfl;have gv:∀ H:Heap,give h.length (.bF 1 []) H=some (.bF 1 [],H):=fun H=>by simp[give,bL]
  simp(maxSteps:=30000000)(disch:=omega)only[go_sem,x18,ev,er,dc,ll,tk,g3,gv,lc,lv]
 ·have hm:QH (ints (vG x.l xs))=.own 1 (ints (vG x.l xs)):=if_neg fun h=>h0 (by rw[<-hfl,<-jY,h];rfl)
  rw[hm];have Mj:fo h.length x=.ref (h.length+3) (0+1) 1 0 x.l.C.length x.l.C.length:=if_neg h0;have Ml:∀ o,fb x o=(0+1,.arr 1 (ints o)):=fun o=>if_neg h0;simp only[Mj,Ml]at g3;simp only[h0,if_false]at er;have hne2:ints (List.replicate x.l.C.length x.l.L)≠[]:=by simp[ints];exact fun h=>h0 (by rw[h];rfl)
  have tk:=Ta (lo:=h.length) (ns:=5) (s:=3) (z:=1) (h:=h) (fr:=[(0,.dead),(0,.dead),(0,.dead),(0,.dead),(0,.dead)]) (b0:=(0,.dead)) (es:=ints (List.replicate x.l.C.length x.l.L)) (by omega) rfl hne2
  rw[show qF 1 (ints (List.replicate x.l.C.length x.l.L))=.own 1 (ints (List.replicate x.l.C.length x.l.L))from if_neg hne2,jY,vT]at tk
  have gv:=Hl (h:=h) (s:=3) (ai:=0+1) (z:=1) (fr:=[(1+0,.dead),va,vb,(0+1,.arr 1 (ints (vG x.l xs))),(1,.box [.ref (h.length+3) (0+1) 1 0 x.l.C.length x.l.C.length])]) (es:=ints (vG x.l xs)) rfl;rw[jY,hfl]at gv;simp(maxSteps:=30000000)(disch:=omega)only[go_sem,x18,ev,er,dc,ll,tk,g3,gv]
end Go.VI.Dump
namespace Go.VI.Dump
open Go.VI.Num
/- BIGSTEPS -/
def CV(out:List Pr)(f:Int):List Pr->List Pr
 |[]=>out
 |c::cs=>CV (if f<c.1 then out++[(f,c.1)]else out) c.2 cs
def Eo(f:Int):List Pr->Int
 |[]=>f
 |c::cs=>Eo c.2 cs
theorem adS{L:Int}:∀(cs:List Pr) (out:List Pr) (f:Int),(CV out f cs)++(if Eo f cs<L then[(Eo f cs,L)] else[])=out++Bj L f cs
 |[],out,f=>rfl
 |c::cs,out,f=>by
  rw[CV,Eo,adS cs,Bj];split<;>simp
theorem adT(a:List Pr)(x:Pr):pts (a++[x])=pts a++[.agg [.int .i64 x.1,.int .i64 x.2]]:=by simp[pts,pt]
theorem ao9{x:LV}(o:okV x)(h4:x.l.C.length<=4)(h:Heap):∀(d k:Nat) (out:List Pr) (f:Int) (B0 B2:Nat×au),k+d=x.l.C.length->out.length<=k ->
  ∃ wU,aQ lib ⟨h.length,h.length,3,none⟩ (.loop Tt) ([(1,wS x),(4,cu (h.length+1) (0,.dead) 2 (pts out)),(5,.int .i64 f),(12,cV x),(13,.int .i64 x.l.C.length),(14,.int .i64 k)],h++[B0,bX (0,.dead) 2 (pts out),B2]) =
   some (.exit 0,([(1,wS x),(4,cu (h.length+1) (0,.dead) 2 (pts (CV out f (x.l.C.drop k)))),(5,.int .i64 (Eo f (x.l.C.drop k)))],h++[B0,bX (0,.dead) 2 (pts (CV out f (x.l.C.drop k))),wU]))/\(CV out f (x.l.C.drop k)).length<=x.l.C.length:=by
 intro d
 induction d with
 |zero =>
  intro k out f B0 B2 hk hl;obtain rfl:k=x.l.C.length:=by omega
  refine⟨B2, ?_,by rw[List.drop_length];exact hl⟩
  rw[List.drop_length,CV,Eo,bU]
  simp(maxSteps:=30000000)(disch:=omega)only[go_sem,nR]
 |succ d ih =>
  intro k out f B0 B2 hk hl;have hk':k<x.l.C.length:=by omega
  have c:(k:Int)<x.l.C.length:=by omega
  obtain⟨v0,b0⟩:=B2;have e3:iM 2 (cV x) (.int .i64 k)=some k:=by rw[kr (o.sc h) (by omega) (by simp;omega)];simp
  have e4:=fun off (g:Heap)=>jV (off:=off) ((o.sc h).elems g) (show k<(pts x.l.C).length by simp;omega)
  simp only[FO,pt]at e4;rw[qH hk',CV,Eo];generalize x.l.C[k]=q at*;obtain⟨q1,q2⟩:=q;simp only at e4⊢;by_cases c1:f<q1
  ·obtain⟨wU,e,hl2⟩:=ih (k+1) (out++[(f,q1)]) q2 B0 (v0+1,.box [.int .i64 q1,.int .i64 q2]) (by omega) (by simp;omega)
   rw[adT,jo]at e;rw[if_pos c1];refine⟨wU, ?_,hl2⟩;have e5:=fun b=>wD (lo:=h.length) (ns:=3) (s:=1) (z:=2) (lim:=8796093022208) (h:=h) (fr:=[B0,bX (0,.dead) 2 (pts out),b]) (b0:=(0,.dead)) (es:=pts out) (xs:=[.agg [.int .i64 f,.int .i64 q1]]) (by omega) (by omega) rfl (by simp;omega)
   rw[bU];simp(maxSteps:=30000000)(disch:=omega)only[go_sem,c,e3,e4,c1,e5,e]
  ·obtain⟨wU,e,hl2⟩:=ih (k+1) out q2 B0 (v0+1,.box [.int .i64 q1,.int .i64 q2]) (by omega) (by omega)
   rw[jo]at e;rw[if_neg c1];refine⟨wU, ?_,hl2⟩;rw[bU];simp(maxSteps:=30000000)(disch:=omega)only[go_sem,c,e3,e4,c1,e]
theorem QI{x:LV}(o:okV x)(ok:lS x.l)(h:Heap)(lo:Nat):(run lib).fn 20 [nA x] h lo=some (.tuple [qF 2 (pts (kG x.l)),.int .i64 0],h):=by
 have ev:=fun H lo=>Mi o H lo;rw[QD.mpr ok]at ev;have h4:=ok.c4;have ll:=iB (o.sc h).len;rw[Bw]at ll;obtain⟨wU,e,hl⟩:=ao9 o h4 h x.l.C.length 0 [] 0 (0,.dead) (0,.dead) (by omega) (by simp)
 simp only[List.drop_zero,qX,show pts []=[]from rfl,KM,OJ]at e hl
 have eq:=adS (L:=x.l.L) x.l.C [] 0;rw[List.nil_append]at eq;unfold kG;rw[<-eq];generalize CV [] 0 x.l.C=A at*;generalize Eo 0 x.l.C=F at*;unfold nA at ev⊢;rw[bW (x:=x20) rfl rfl rfl rfl];by_cases c:F<x.l.L
 ·rw[if_pos c,adT];by_cases h0:pts A=[]
  ·have ap:ji ⟨h.length,h.length,3,none⟩ 0 2 8796093022208 .aP [.agg [.int .i64 F,.int .i64 x.l.L]] (h++[(0,.dead),(0,.dead),wU])=some (cu (h.length+0) (0,.dead) 2 [.agg [.int .i64 F,.int .i64 x.l.L]],h++[bX (0,.dead) 2 [.agg [.int .i64 F,.int .i64 x.l.L]],(0,.dead),wU]):=by
    have:=wD (lo:=h.length) (ns:=3) (s:=0) (z:=2) (lim:=8796093022208) (h:=h) (fr:=[(0,.dead),(0,.dead),wU]) (b0:=(0,.dead)) (es:=[]) (xs:=[.agg [.int .i64 F,.int .i64 x.l.L]]) (by omega) (by omega) rfl (by simp)
    rw[KM]at this;rw[this];rfl
   have g4:=Fh (s:=0) (z:=2) (h:=h) (b0:=(0,.dead)) (es:=[.agg [.int .i64 F,.int .i64 x.l.L]]) (fr:=[bX (0,.dead) 2 [.agg [.int .i64 F,.int .i64 x.l.L]],(0,.dead),wU]) rfl;rw[h0,KM,OJ]at e;rw[h0,List.nil_append];simp(maxSteps:=30000000)(disch:=omega)only[go_sem,x20,ev,ll,e,c,ap,g4]
  ·have ap:ji ⟨h.length,h.length,3,none⟩ 0 2 8796093022208 (cu (h.length+1) (0,.dead) 2 (pts A)) [.agg [.int .i64 F,.int .i64 x.l.L]] (h++[(0,.dead),bX (0,.dead) 2 (pts A),wU])=some (cu (h.length+1) (0,.dead) 2 (pts A++[.agg [.int .i64 F,.int .i64 x.l.L]]),h++[(0,.dead),bX (0,.dead) 2 (pts A++[.agg [.int .i64 F,.int .i64 x.l.L]]),wU]):=by
    rw[G7 h0,G8 h0,G7 (by simp),G8 (by simp),Hf (by rw[cO];rfl) (by simp) (by simp;omega),gy,jm]
    rfl
   have g4:=Fh (s:=1) (z:=2) (h:=h) (b0:=(0,.dead)) (es:=pts A++[.agg [.int .i64 F,.int .i64 x.l.L]]) (fr:=[(0,.dead),bX (0,.dead) 2 (pts A++[.agg [.int .i64 F,.int .i64 x.l.L]]),wU]) rfl;simp(maxSteps:=30000000)(disch:=omega)only[go_sem,x20,ev,ll,e,c,ap,g4]
 ·rw[if_neg c,nI];have g4:=Fh (s:=1) (z:=2) (h:=h) (b0:=(0,.dead)) (es:=pts A) (fr:=[(0,.dead),bX (0,.dead) 2 (pts A),wU]) rfl;simp(maxSteps:=30000000)(disch:=omega)only[go_sem,x20,ev,ll,e,c,g4]
end Go.VI.Dump
