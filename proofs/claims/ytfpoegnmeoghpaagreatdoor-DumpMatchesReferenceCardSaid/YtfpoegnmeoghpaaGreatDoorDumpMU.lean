/- What the functions on integers compute, part MU. -/
import Derived.Test.YtfpoegnmeoghpaaGreatDoorDumpMB
import Derived.Test.YtfpoegnmeoghpaaGreatDoorDumpMA
import Derived.Test.YtfpoegnmeoghpaaGreatDoorVIRF
set_option linter.unusedVariables false
set_option linter.unusedSimpArgs false
namespace Go.VI.Dump
open Go.VI.Num
theorem tu{h:Heap}{z:Nat}{v:AV}{es:List AV}(s:Sl h z v es):v.val=true/\v.cells=[v]:=by
 have:=s.eO;cases v<;>simp[dW]at this<;>exact⟨rfl,rfl⟩
def pt(p:Pr):AV:=.agg [.int .i64 p.1,.int .i64 p.2]
def pts(l:List Pr):List AV:=l.map pt
@[simp] theorem jq (l:List Pr):(pts l).length=l.length:=by simp [pts]
theorem tC(l:List Pr)(k:Nat)(h:k<(pts l).length):(pts l)[k]=pt (l[k]'(by simpa using h)):=by simp[pts]
def mG(f:Bool)(z:Nat)(es:List AV):AV:=if f then .aM z es else .aN z es
@[go_sem] theorem agE(f:Bool)(z:Nat)(es:List AV):(mG f z es).val=true:=by unfold mG;split<;>rfl
@[go_sem] theorem agF(f:Bool)(z:Nat)(es:List AV):(mG f z es).cells=[mG f z es]:=by unfold mG;split<;>rfl
@[go_sem] theorem agG(f:Bool)(z:Nat)(es:List AV):(mG f z es).closed=true:=by unfold mG;split<;>rfl
@[go_sem] theorem OT(b:Nat)(k:Bool)(f:Bool)(z:Nat)(es:List AV)(h:Heap):aU b k (mG f z es) h=some (mG f z es,h):=by unfold mG;split<;>simp[aU]
theorem OU{z z':Nat}{es:List AV}(hz:z'=z\/es=[])(f:Bool)(h:Heap):Sl h z (mG f z' es) es:=by
 unfold mG;split
 ·rcases hz with rfl|rfl
  ·exact Sl.aM h _ _
  ·exact⟨by simp[VI.fe],fun _=>rfl,rfl⟩
 ·exact vL hz
def rD{α:Type}(l:List α)(p:α->Bool)(k:Nat):Option Nat:=((l.drop k).findIdx? p).map (·+k)
theorem Xw{α:Type}{l:List α}{p:α->Bool}:rD l p l.length=none:=by unfold rD;rw[kE];rfl
theorem Xx{α:Type}{l:List α}{p:α->Bool}{k:Nat}(hk:k<l.length)(hp:p l[k]=true):rD l p k=some k:=by
 unfold rD;rw[gY hk,List.findIdx?_cons,if_pos hp];simp
theorem Xy{α:Type}{l:List α}{p:α->Bool}{k:Nat}(hk:k<l.length)(hp:p l[k]=false):rD l p k=rD l p (k+1):=by
 unfold rD;rw[gY hk,List.findIdx?_cons,hp,if_neg uZ,Option.map_map];congr 1;funext x;simp;omega
theorem agH{h:Heap}{v:AV}{l:List Pr}(hv:Sl h 2 v (pts l))(hl:l.length<=9223372036854775807){g:Nat}(hg:g<1000){caps:List AV}{p:Pr->Bool}
  (hF:∀ x∈l,∀ lo,(run lib).fn g (pt x::caps) h lo=some (.bool (p x),h)) (lo:Nat):∀(d k:Nat),k+d=l.length ->
  aA lib ⟨lo,h.length,0,none⟩ (.loop MP) ([(0,v),(1,.fn g caps),(7,.int .i64 l.length),(8,.int .i64 k)],h) =
   match rD l p k with|some r=>some (.ret,([(4,.int .i64 r)],h))|none=>some (.exit 0,([],h)):=by
 intro d
 induction d with
 |zero =>
  intro k hk;obtain rfl:k=l.length:=by omega
  rw[Xw,aR]
  simp(maxSteps:=1000000)(disch:=omega)only[go_sem,dU]
 |succ d ih =>
  intro k hk;have hk':k<l.length:=by omega
  have h1:(k:Int)<l.length:=by omega
  have e3:bP 2 v (.int .i64 k)=some k:=by rw[dz hv (by omega) (by simp;omega)];simp
  have e4:=fun off=>dx (off:=off) hv.eO (show k<(pts l).length by simp;omega)
  simp only[tC,pt]at e4;have f:=fun lo=>hF l[k] (ja _) lo;simp only[pt]at f
  cases hp:p l[k] with
  |true =>
   rw[Xx hk' hp,aR];rw[hp]at f
   simp(maxSteps:=1000000)(disch:=omega)only[go_sem,h1,e3,e4,f,hg,List.cons_append,List.nil_append]
  |false =>
   rw[Xy hk' hp,aR];rw[hp]at f;have e:=ih (k+1) (by omega)
   rw[dF]at e;simp(maxSteps:=1000000)(disch:=omega)only[go_sem,h1,e3,e4,f,hg,List.cons_append,List.nil_append,e]
def CJ{α:Type}(l:List α)(p:α->Bool):Int:=match rD l p 0 with|some r=>(r:Int)|none=>-1
theorem agI{h:Heap}{v:AV}{l:List Pr}(hv:Sl h 2 v (pts l))(hl:l.length<=9223372036854775807){g:Nat}(hg:g<1000){caps:List AV}{p:Pr->Bool}
  (hF:∀ x∈l,∀ lo,(run lib).fn g (pt x::caps) h lo=some (.bool (p x),h)) (lo:Nat):(run lib).fn 92 [v,.fn g caps] h lo=some (.int .i64 (CJ l p),h):=by
 have e:=agH hv hl hg hF h.length l.length 0 (by omega)
 have ll:=bK hv.len;rw[jq]at ll;unfold CJ;simp only[fH]at e;rw[aY (x:=Iz) rfl rfl rfl rfl]
 cases hr:rD l p 0 with
 |none =>
  rw[hr]at e
  simp(maxSteps:=1000000)(disch:=omega)only[go_sem,Iz,ll,e]
 |some r =>
  rw[hr]at e;simp(maxSteps:=1000000)(disch:=omega)only[go_sem,Iz,ll,e]
theorem Xz{α:Type}{l:List α}{p:α->Bool}:decide (0<=CJ l p)=l.any p:=by
 unfold CJ rD
 cases h:l.findIdx? p with
 |none =>
  rw[List.drop_zero,h];rw[List.findIdx?_eq_none_iff]at h;have:l.any p=false:=by rw[List.any_eq_false];intro x hx;rw[h x hx];simp
  rw[this];rfl
 |some r =>
  rw[List.drop_zero,h]
  have:l.any p=true:=by
   cases ha:l.any p with
   |true=>rfl
   |false =>
    rw[List.any_eq_false]at ha;have:l.findIdx? p=none:=List.findIdx?_eq_none_iff.mpr fun x hx=>by simpa using ha x hx
    rw[this]at h;cases h
  rw[this];simp
theorem u6{h:Heap}{v:AV}{l:List Pr}(hv:Sl h 2 v (pts l))(hl:l.length<=9223372036854775807){g:Nat}(hg:g<1000){caps:List AV}{p:Pr->Bool}
  (hF:∀ x∈l,∀ lo,(run lib).fn g (pt x::caps) h lo=some (.bool (p x),h)) (lo:Nat):(run lib).fn 52 [v,.fn g caps] h lo=some (.bool (l.any p),h):=by
 have e:=fun lo=>agI hv hl hg hF lo;have hn:=Xz (l:=l) (p:=p);rw[<-hn];rw[aY (x:=MF) rfl rfl rfl rfl];simp(maxSteps:=1000000)(disch:=omega)only[go_sem,MF,e]
theorem agJ(x:Pr)(s:Int)(h:Heap)(lo:Nat):(run lib).fn 131 [pt x,.bD [.int .i64 s]] h lo=some (.bool (decide (x.1<=s)&&decide (s<x.2)),h):=by
 unfold pt;rw[aY (x:=Na) rfl rfl rfl rfl];by_cases c:x.1<=s<;>simp(maxSteps:=1000000)(disch:=omega)only[go_sem,Na,c]
theorem zb{h:Heap}{v:AV}{l:List Pr}(hv:Sl h 2 v (pts l))(hl:l.length<=9223372036854775807)(s:Int)(lo:Nat):(run lib).fn 90 [v,.int .i64 s] h lo=some (.bool (hasB l s),h):=by
 have e:=fun lo=>u6 (g:=131) hv hl (by decide) (fun x _ lo=>agJ x s h lo) lo
 unfold hasB;rw[aY (x:=x90) rfl rfl rfl rfl];simp(maxSteps:=1000000)(disch:=omega)only[go_sem,x90,e]
theorem agK{h:Heap}{v:AV}{l:List Pr}(hv:Sl h 2 v (pts l))(hl:l.length<=9223372036854775807)(L m:Int):∀(d k:Nat) (last:Int) (B:Nat×av),k+d=l.length ->
  ∃ B',aA lib ⟨h.length,h.length,1,none⟩ (.loop ME) ([(0,v),(1,.int .i64 L),(2,.int .i64 m),(7,.int .i64 last),(10,v),(11,.int .i64 l.length),(12,.int .i64 k)],h++[B]) =
   if eY L last (l.drop k)=true then some (.exit 0,([(0,v),(2,.int .i64 m)],h++[B']))else some (.ret,([(6,.bool false)],h++[B'])):=by
 intro d
 induction d with
 |zero =>
  intro k last B hk;obtain rfl:k=l.length:=by omega
  refine⟨B, ?_⟩;rw[kE,aR]
  simp(maxSteps:=1000000)(disch:=omega)only[go_sem,dU,eY]
 |succ d ih =>
  intro k last B hk;have hk':k<l.length:=by omega
  have h1:(k:Int)<l.length:=by omega
  have e3:bP 2 v (.int .i64 k)=some k:=by rw[dz hv (by omega) (by simp;omega)];simp
  have e4:=fun off fr=>dx (off:=off) (hv.elems fr) (show k<(pts l).length by simp;omega)
  simp only[tC,pt]at e4;obtain⟨v0,b0⟩:=B;obtain⟨B',e⟩:=ih (k+1) l[k].2 (v0+1,.box [.int .i64 l[k].1,.int .i64 l[k].2]) (by omega)
  rw[dF]at e;rw[gY hk'];simp only[eY,bg,decide_eq_true_eq];by_cases c1:l[k].1<=last
  ·refine⟨(v0+1,.box [.int .i64 l[k].1,.int .i64 l[k].2]), ?_⟩;rw[if_neg (by omega),aR]
   simp(maxSteps:=1000000)(disch:=omega)only[go_sem,h1,e3,e4,c1]
  ·by_cases c2:l[k].2<=l[k].1
   ·refine⟨(v0+1,.box [.int .i64 l[k].1,.int .i64 l[k].2]), ?_⟩;rw[if_neg (by omega),aR]
    simp(maxSteps:=1000000)(disch:=omega)only[go_sem,h1,e3,e4,c1,c2]
   ·by_cases c3:L<l[k].2
    ·refine⟨(v0+1,.box [.int .i64 l[k].1,.int .i64 l[k].2]), ?_⟩;rw[if_neg (by omega),aR]
     simp(maxSteps:=1000000)(disch:=omega)only[go_sem,h1,e3,e4,c1,c2,c3]
    ·refine⟨B', ?_⟩;have hh:(last<l[k].1/\l[k].1<l[k].2/\l[k].2<=L/\eY L l[k].2 (l.drop (k+1))=true)↔eY L l[k].2 (l.drop (k+1))=true:=⟨fun h=>h.2.2.2,fun h=>⟨by omega,by omega,by omega,h⟩⟩
     simp only[hh];rw[aR];simp(maxSteps:=1000000)(disch:=omega)only[go_sem,h1,e3,e4,c1,c2,c3,e]
theorem XA{h:Heap}{v:AV}{l:List Pr}(hv:Sl h 2 v (pts l))(hl:l.length<=9223372036854775807)(L m:Int)(lo:Nat):(run lib).fn 51 [v,.int .i64 L,.int .i64 m] h lo=some (.bool (eY L (-1) l&&decide ((l.length:Int)<=m)),h):=by
 obtain⟨B',e⟩:=agK hv hl L m l.length 0 (-1) (0,.dead) (by omega)
 have ll:=bK hv.len;rw[jq]at ll;simp only[fH,List.drop_zero]at e;rw[aY (x:=Io) rfl rfl rfl rfl];cases c:eY L (-1) l
 ·rw[c,if_neg (by simp)]at e
  simp(maxSteps:=1000000)(disch:=omega)only[go_sem,Io,ll,e]
 ·rw[c,if_pos rfl]at e;simp(maxSteps:=1000000)(disch:=omega)only[go_sem,Io,ll,e]
structure LV where
 l:dI
 fp:Bool
 fc:Bool
 zp:Nat
 zc:Nat
structure okV(x:LV):Prop where
 p:x.zp=2\/pts x.l.P=[]
 c:x.zc=2\/pts x.l.C=[]
 lp:x.l.P.length<=9223372036854775807
 lc:x.l.C.length<=9223372036854775807
def pV(x:LV):AV:=mG x.fp x.zp (pts x.l.P)
def cV(x:LV):AV:=mG x.fc x.zc (pts x.l.C)
@[go_sem] theorem apq(b:Nat)(k:Bool)(x:LV)(h:Heap):aU b k (pV x) h=some (pV x,h):=OT _ _ _ _ _ _
@[go_sem] theorem apr(b:Nat)(k:Bool)(x:LV)(h:Heap):aU b k (cV x) h=some (cV x,h):=OT _ _ _ _ _ _
theorem okV.sp{x:LV}(o:okV x)(h:Heap):Sl h 2 (pV x) (pts x.l.P):=OU o.p _ h
theorem okV.sc{x:LV}(o:okV x)(h:Heap):Sl h 2 (cV x) (pts x.l.C):=OU o.c _ h
def tF(x:LV):List AV:=[.int .i64 x.l.L,.int .i64 x.l.D,.int .i64 x.l.E,pV x,cV x]
def bI(x:LV):AV:=.agg [.int .i64 x.l.L,.int .i64 x.l.D,.int .i64 x.l.E,pV x,cV x]
theorem agL(c p:Pr)(h:Heap)(lo:Nat):(run lib).fn 54 [pt c,.bD [.int .i64 p.1,.int .i64 p.2]] h lo=some (.bool (decide (p.1<c.2)&&decide (c.1<p.2)),h):=by
 unfold pt;rw[aY (x:=x54) rfl rfl rfl rfl];by_cases c:p.1<c.2<;>simp(maxSteps:=1000000)(disch:=omega)only[go_sem,x54,c]
theorem agM{x:LV}(o:okV x)(p:Pr)(h:Heap)(lo:Nat):(run lib).fn 53 [pt p,.bD [.int .i64 x.l.L,.int .i64 x.l.D,.int .i64 x.l.E,pV x,cV x]] h lo=some (.bool (x.l.C.any fun c=>decide (p.1<c.2)&&decide (c.1<p.2)),h):=by
 have e:=fun H lo=>u6 (g:=54) (o.sc H) o.lc (by decide) (fun c _ lo=>agL c p H lo) lo
 unfold pt;rw[aY (x:=MG) rfl rfl rfl rfl];simp(maxSteps:=1000000)(disch:=omega)only[go_sem,MG,e]
def lF(l:dI):Bool:=decide (1<=l.L)&&(decide (l.L<=600)&&(decide (0<=l.D)&&(decide (l.D<=60)&&(decide (1<=l.E)&&(decide (l.E<=60)&&((eY l.L (-1) l.P&&decide ((l.P.length:Int)<=4))&&((eY l.L (-1) l.C&&decide ((l.C.length:Int)<=4))&&!l.P.any fun p=>l.C.any fun c=>decide (p.1<c.2)&&decide (c.1<p.2))))))))
theorem qh{l:dI}:lF l=true↔dD l:=by
 unfold lF;simp only[bg,decide_eq_true_eq,ku,List.any_eq_false,Bool.not_eq_true];constructor
 ·rintro⟨h1,h2,h3,h4,h5,h6,⟨h7,h8⟩,⟨h9,h10⟩,h11⟩;refine⟨⟨h1,h2⟩,⟨h3,h4⟩,⟨h5,h6⟩,h7,h9,by omega,by omega,fun p hp=>?_⟩
  rw[qb];intro c hc h;have:=h11 p hp c hc;omega
 ·intro o;refine⟨o.L.1,o.L.2,o.D.1,o.D.2,o.E.1,o.E.2,⟨o.P,by have:=o.p4;omega⟩,⟨o.C,by have:=o.c4;omega⟩,fun p hp=>?_⟩
  intro c hc;have:=qb.mp (o.Cj p hp) c hc;omega
theorem wE{x:LV}(o:okV x)(h:Heap)(lo:Nat):(run lib).fn 22 [bI x] h lo=some (.bool (lF x.l),h):=by
 have e1:=fun H lo L m=>XA (o.sp H) o.lp L m lo;have e2:=fun H lo L m=>XA (o.sc H) o.lc L m lo;have e3:=fun H lo=>u6 (g:=53) (o.sp H) o.lp (by decide) (fun p _ lo=>agM o p H lo) lo
 unfold bI;rw[aY (x:=uF) rfl rfl rfl rfl];unfold lF;by_cases c1:1<=x.l.L
 ·by_cases c2:x.l.L<=600
  ·by_cases c3:0<=x.l.D
   ·by_cases c4:x.l.D<=60
    ·by_cases c5:1<=x.l.E
     ·by_cases c6:x.l.E<=60
      ·have k1:¬ x.l.L<1:=by omega
       have k2:¬ 600<x.l.L:=by omega
       have k3:¬ x.l.D<0:=by omega
       have k4:¬ 60<x.l.D:=by omega
       have k5:¬ x.l.E<1:=by omega
       have k6:¬ 60<x.l.E:=by omega
       simp only[c1,c2,c3,c4,c5,c6,decide_true,nK];cases c7:(eY x.l.L (-1) x.l.P&&decide ((x.l.P.length:Int)<=4))
       ·simp(maxSteps:=1000000)(disch:=omega)only[go_sem,uF,k1,k2,k3,k4,k5,k6,e1,c7]
       ·cases c8:(eY x.l.L (-1) x.l.C&&decide ((x.l.C.length:Int)<=4))
        ·simp(maxSteps:=1000000)(disch:=omega)only[go_sem,uF,k1,k2,k3,k4,k5,k6,e1,e2,c7,c8]
        ·simp(maxSteps:=1000000)(disch:=omega)only[go_sem,uF,k1,k2,k3,k4,k5,k6,e1,e2,e3,c7,c8]
      ·have k1:¬ x.l.L<1:=by omega
       have k2:¬ 600<x.l.L:=by omega
       have k3:¬ x.l.D<0:=by omega
       have k4:¬ 60<x.l.D:=by omega
       have k5:¬ x.l.E<1:=by omega
       have k6:60<x.l.E:=by omega
       simp(maxSteps:=1000000)(disch:=omega)only[go_sem,uF,k1,k2,k3,k4,k5,k6,c6]
     ·have k1:¬ x.l.L<1:=by omega
      have k2:¬ 600<x.l.L:=by omega
      have k3:¬ x.l.D<0:=by omega
      have k4:¬ 60<x.l.D:=by omega
      have k5:x.l.E<1:=by omega
      simp(maxSteps:=1000000)(disch:=omega)only[go_sem,uF,k1,k2,k3,k4,k5,c5]
    ·have k1:¬ x.l.L<1:=by omega
     have k2:¬ 600<x.l.L:=by omega
     have k3:¬ x.l.D<0:=by omega
     have k4:60<x.l.D:=by omega
     simp(maxSteps:=1000000)(disch:=omega)only[go_sem,uF,k1,k2,k3,k4,c4]
   ·have k1:¬ x.l.L<1:=by omega
    have k2:¬ 600<x.l.L:=by omega
    have k3:x.l.D<0:=by omega
    simp(maxSteps:=1000000)(disch:=omega)only[go_sem,uF,k1,k2,k3,c3]
  ·have k1:¬ x.l.L<1:=by omega
   have k2:600<x.l.L:=by omega
   simp(maxSteps:=1000000)(disch:=omega)only[go_sem,uF,k1,k2,c2]
 ·have k1:x.l.L<1:=by omega
  simp(maxSteps:=1000000)(disch:=omega)only[go_sem,uF,k1,c1]
end Go.VI.Dump
namespace Go.VI
variable {lo nb ns:Nat}
theorem lZ{g:Heap}(hg:g.length=nb)(fr:Heap)(s aj off:Nat):eD (g++fr) (.aJ (nb+s) aj off)=Ep aj off fr[s]?:=by subst hg;exact TW g fr s aj off
theorem mH{g:Heap}(hg:g.length=nb)(hlo:lo<=nb)(fr:Heap)(sz s aj off:Nat)(v:AV):dK ⟨lo,nb,ns,none⟩ (g++fr) sz (.aJ (nb+s) aj off) v=if v.cells.length=sz/\v.val=true then sG s lo ns aj off g fr v fr[s]? else none:=by subst hg;exact TY hlo
theorem mW{g:Heap}(hg:g.length=nb)(fr:Heap)(s:Nat)(b:av):bV ⟨lo,nb,ns,none⟩ s b (g++fr)=xu s ns b g fr fr[s]?:=by subst hg;exact qN lo ns s b g fr
def XB(cx:Cx)(s:Nat)(ss:List Nat)(g fr:Heap):Option (Nat×av)->Heap
 |some (v,_)=>jh cx ss (g++fr.set s (v,.dead))
 |none=>jh cx ss (g++fr)
theorem qi(cx:Cx)(s:Nat)(ss:List Nat)(g fr:Heap)(v:Nat)(b:av):XB cx s ss g fr (some (v,b))=jh cx ss (g++fr.set s (v,.dead)):=rfl
theorem qj{g:Heap}(hg:g.length=nb)(fr:Heap)(s:Nat)(ss:List Nat):jh ⟨lo,nb,ns,none⟩ (s::ss) (g++fr)=XB ⟨lo,nb,ns,none⟩ s ss g fr fr[s]?:=by
 subst hg;rw[adU]
 cases fr[s]? with
 |none=>rfl
 |some p=>rfl
theorem nQ{g:Heap}(hg:g.length=nb)(env:Env)(fr:Heap)(s:Nat):dn.ok ⟨lo,nb,ns,none⟩ env (g++fr) (.dead s)=Lr fr[s]?:=by subst hg;exact adX lo ns env g fr s
end Go.VI
namespace Go.VI.Dump
open Go.VI.Num
/- BIGSTEPS -/
def dM(x:Stp):List AV:=[.int .i64 x.fr,.int .i64 x.to,.int .i64 x.be,.int .i64 x.af,.int .i64 x.de,.bool x.cut,.bool x.str]
def jr(x:Stp):AV:=.agg [.int .i64 x.fr,.int .i64 x.to,.int .i64 x.be,.int .i64 x.af,.int .i64 x.de,.bool x.cut,.bool x.str]
theorem ze{h:Heap}{nb:Nat}(hn:h.length=nb){fr:Heap}{s:Int}{x:LV}{j v:Nat}(hs:fr[j]?=some (v,.box [.int .i64 s]))(h1:0<=s)(h2:s<=600)(h3:1<=x.l.E)(h4:x.l.E<=60)(q:Pr)(lo:Nat) :
  (run lib).fn 91 [pt q,.aJ (nb+j) v 0,.bD [.int .i64 x.l.L,.int .i64 x.l.D,.int .i64 x.l.E,pV x,cV x]] (h++fr) lo=some (.bool (decide (q.1<s+x.l.E)&&decide (s<q.2)),h++fr):=by
 subst hn
 have hp:∀ XD:Heap,eD (h++(fr++XD)) (.aJ (h.length+j) v 0)=some [.int .i64 s]:=fun XD=>by
  rw[TW,gN (bO.mp hs).1,hs];simp[Ep]
 have hp0:=hp [];rw[gP]at hp0;unfold pt;rw[aY (x:=x91) rfl rfl rfl rfl];by_cases c:q.1<s+x.l.E<;>simp(maxSteps:=30000000)(disch:=omega)only[go_sem,x91,hp0,c,eH]
section
variable {x:LV}{s d:Int}{h h':Heap}{nb lo id iv:Nat}{v v1:Nat}{b1:av}
@[reducible] def mX(x:LV)(id iv nb j v:Nat)(d a:Int):Env:=[(0,.cZ id iv),(1,.bD [.int .i64 x.l.L,.int .i64 x.l.D,.int .i64 x.l.E,pV x,cV x]),(3,.int .i64 d),(4,.int .i64 a),(5,.aJ (nb+j) v 0)]
theorem agN(o:okV x)(ok:dD x.l)(hn:h.length=nb)(hn':h'.length=nb)(hlo:lo<=nb)(g1:s<x.l.L)(g2:hasB x.l.C s=true)(g3:0<d)(hs:0<=s)(hd:0<=d/\d<=x.l.D)(B2:Nat×av)
  (hy:fF (run lib) ⟨lo,nb,3,none⟩ id iv [.agg [.int .i64 (s),.int .i64 (s+1),.int .i64 (s+d),.int .i64 (s+d),.int .i64 (d),.bool true,.bool false]] (h++[(v,.box [.int .i64 s]),(v1+1,.box [.int .i64 (s),.int .i64 (s+1),.int .i64 (s+d),.int .i64 (s+d),.int .i64 (d),.bool true,.bool false]),B2])=some (.bool true,h'++[(v,.box [.int .i64 s]),(v1+1,.box [.int .i64 (s),.int .i64 (s+1),.int .i64 (s+d),.int .i64 (s+d),.int .i64 (d),.bool true,.bool false]),B2])) :
  aA lib ⟨lo,nb,3,none⟩ (.loop mD) (mX x id iv nb 0 v d (s+d),h++[(v,.box [.int .i64 s]),(v1,b1),B2]) =
   aA lib ⟨lo,nb,3,none⟩ (.loop mD) (mX x id iv nb 0 (v+1) (d-1) (s+d),h'++[(v+1,.box [.int .i64 (s+1)]),(v1+1,.box [.int .i64 (s),.int .i64 (s+1),.int .i64 (s+d),.int .i64 (s+d),.int .i64 (d),.bool true,.bool false]),B2]):=by
 obtain⟨L1,L2⟩:=ok.L;obtain⟨D1,D2⟩:=ok.D;obtain⟨E1,E2⟩:=ok.E;have hc:=fun H lo=>zb (o.sc H) o.lc s lo;rw[g2]at hc
 conv=>lhs;rw[aR]
 simp(maxSteps:=30000000)(disch:=omega)only[go_sem,jo,hc,g1,hy,lZ,mH,mW,qj,qi,pW,nQ,ql,Nat.reduceEqDiff,g3]
theorem agO(o:okV x)(ok:dD x.l)(hn:h.length=nb)(hn':h'.length=nb)(hlo:lo<=nb)(g1:s<x.l.L)(g2:hasB x.l.C s=true)(g3:0<d)(hs:0<=s)(hd:0<=d/\d<=x.l.D)(v0:Nat)(c0:av)
  (hy:fF (run lib) ⟨lo,nb,3,none⟩ id iv [.agg [.int .i64 (s),.int .i64 (s+1),.int .i64 (s+d),.int .i64 (s+d),.int .i64 (d),.bool true,.bool false]] (h++[(v0,c0),(v1+1,.box [.int .i64 (s),.int .i64 (s+1),.int .i64 (s+d),.int .i64 (s+d),.int .i64 (d),.bool true,.bool false]),(v,.box [.int .i64 s])])=some (.bool true,h'++[(v0,c0),(v1+1,.box [.int .i64 (s),.int .i64 (s+1),.int .i64 (s+d),.int .i64 (s+d),.int .i64 (d),.bool true,.bool false]),(v,.box [.int .i64 s])])) :
  aA lib ⟨lo,nb,3,none⟩ (.loop mD) (mX x id iv nb 2 v d (s+d),h++[(v0,c0),(v1,b1),(v,.box [.int .i64 s])]) =
   aA lib ⟨lo,nb,3,none⟩ (.loop mD) (mX x id iv nb 0 (v0+1) (d-1) (s+d),h'++[(v0+1,.box [.int .i64 (s+1)]),(v1+1,.box [.int .i64 (s),.int .i64 (s+1),.int .i64 (s+d),.int .i64 (s+d),.int .i64 (d),.bool true,.bool false]),(v,.box [.int .i64 (s+1)])]):=by
 obtain⟨L1,L2⟩:=ok.L;obtain⟨D1,D2⟩:=ok.D;obtain⟨E1,E2⟩:=ok.E;have hc:=fun H lo=>zb (o.sc H) o.lc s lo;rw[g2]at hc
 conv=>lhs;rw[aR]
 simp(maxSteps:=30000000)(disch:=omega)only[go_sem,jo,hc,g1,hy,lZ,mH,mW,qj,qi,pW,nQ,ql,Nat.reduceEqDiff,g3]
theorem agP(o:okV x)(ok:dD x.l)(hn:h.length=nb)(hn':h'.length=nb)(hlo:lo<=nb)(g1:s<x.l.L)(g2:hasB x.l.C s=true)(g3:d=0)(hs:0<=s)(hd:0<=d/\d<=x.l.D)(B2:Nat×av)
  (hy:fF (run lib) ⟨lo,nb,3,none⟩ id iv [.agg [.int .i64 (s),.int .i64 (s+1),.int .i64 (s+d),.int .i64 (s+d+1),.int .i64 (d),.bool true,.bool false]] (h++[(v,.box [.int .i64 s]),(v1+1,.box [.int .i64 (s),.int .i64 (s+1),.int .i64 (s+d),.int .i64 (s+d+1),.int .i64 (d),.bool true,.bool false]),B2])=some (.bool true,h'++[(v,.box [.int .i64 s]),(v1+1,.box [.int .i64 (s),.int .i64 (s+1),.int .i64 (s+d),.int .i64 (s+d+1),.int .i64 (d),.bool true,.bool false]),B2])) :
  aA lib ⟨lo,nb,3,none⟩ (.loop mD) (mX x id iv nb 0 v d (s+d),h++[(v,.box [.int .i64 s]),(v1,b1),B2]) =
   aA lib ⟨lo,nb,3,none⟩ (.loop mD) (mX x id iv nb 0 (v+1) (d) (s+d+1),h'++[(v+1,.box [.int .i64 (s+1)]),(v1+1,.box [.int .i64 (s),.int .i64 (s+1),.int .i64 (s+d),.int .i64 (s+d+1),.int .i64 (d),.bool true,.bool false]),B2]):=by
 obtain⟨L1,L2⟩:=ok.L;obtain⟨D1,D2⟩:=ok.D;obtain⟨E1,E2⟩:=ok.E;have hc:=fun H lo=>zb (o.sc H) o.lc s lo;rw[g2]at hc;subst g3
 conv=>lhs;rw[aR]
 simp(maxSteps:=30000000)(disch:=omega)only[go_sem,jo,hc,g1,hy,lZ,mH,mW,qj,qi,pW,nQ,ql,Nat.reduceEqDiff,dU]
theorem agQ(o:okV x)(ok:dD x.l)(hn:h.length=nb)(hn':h'.length=nb)(hlo:lo<=nb)(g1:s<x.l.L)(g2:hasB x.l.C s=true)(g3:d=0)(hs:0<=s)(hd:0<=d/\d<=x.l.D)(v0:Nat)(c0:av)
  (hy:fF (run lib) ⟨lo,nb,3,none⟩ id iv [.agg [.int .i64 (s),.int .i64 (s+1),.int .i64 (s+d),.int .i64 (s+d+1),.int .i64 (d),.bool true,.bool false]] (h++[(v0,c0),(v1+1,.box [.int .i64 (s),.int .i64 (s+1),.int .i64 (s+d),.int .i64 (s+d+1),.int .i64 (d),.bool true,.bool false]),(v,.box [.int .i64 s])])=some (.bool true,h'++[(v0,c0),(v1+1,.box [.int .i64 (s),.int .i64 (s+1),.int .i64 (s+d),.int .i64 (s+d+1),.int .i64 (d),.bool true,.bool false]),(v,.box [.int .i64 s])])) :
  aA lib ⟨lo,nb,3,none⟩ (.loop mD) (mX x id iv nb 2 v d (s+d),h++[(v0,c0),(v1,b1),(v,.box [.int .i64 s])]) =
   aA lib ⟨lo,nb,3,none⟩ (.loop mD) (mX x id iv nb 0 (v0+1) (d) (s+d+1),h'++[(v0+1,.box [.int .i64 (s+1)]),(v1+1,.box [.int .i64 (s),.int .i64 (s+1),.int .i64 (s+d),.int .i64 (s+d+1),.int .i64 (d),.bool true,.bool false]),(v,.box [.int .i64 (s+1)])]):=by
 obtain⟨L1,L2⟩:=ok.L;obtain⟨D1,D2⟩:=ok.D;obtain⟨E1,E2⟩:=ok.E;have hc:=fun H lo=>zb (o.sc H) o.lc s lo;rw[g2]at hc;subst g3
 conv=>lhs;rw[aR]
 simp(maxSteps:=30000000)(disch:=omega)only[go_sem,jo,hc,g1,hy,lZ,mH,mW,qj,qi,pW,nQ,ql,Nat.reduceEqDiff,dU]
theorem agR(o:okV x)(ok:dD x.l)(hn:h.length=nb)(hn':h'.length=nb)(hlo:lo<=nb)(g1:s<x.l.L)(g2:hasB x.l.C s=false)(g3:d<x.l.D)(g4:s+x.l.E<=x.l.L)(g5:gL x.l.C s (s+x.l.E)=false)(g6:gL x.l.P s (s+x.l.E)=false)(hs:0<=s)(hd:0<=d/\d<=x.l.D)(B2:Nat×av)
  (hy:fF (run lib) ⟨lo,nb,3,none⟩ id iv [.agg [.int .i64 (s),.int .i64 (s+x.l.E),.int .i64 (s+d),.int .i64 (s+d+x.l.E+1),.int .i64 (d),.bool false,.bool true]] (h++[(v,.box [.int .i64 s]),(v1+1,.box [.int .i64 (s),.int .i64 (s+x.l.E),.int .i64 (s+d),.int .i64 (s+d+x.l.E+1),.int .i64 (d),.bool false,.bool true]),B2])=some (.bool true,h'++[(v,.box [.int .i64 s]),(v1+1,.box [.int .i64 (s),.int .i64 (s+x.l.E),.int .i64 (s+d),.int .i64 (s+d+x.l.E+1),.int .i64 (d),.bool false,.bool true]),B2])) :
  aA lib ⟨lo,nb,3,none⟩ (.loop mD) (mX x id iv nb 0 v d (s+d),h++[(v,.box [.int .i64 s]),(v1,b1),B2]) =
   aA lib ⟨lo,nb,3,none⟩ (.loop mD) (mX x id iv nb 0 (v+1) (d+1) (s+d+x.l.E+1),h'++[(v+1,.box [.int .i64 (s+x.l.E)]),(v1+1,.box [.int .i64 (s),.int .i64 (s+x.l.E),.int .i64 (s+d),.int .i64 (s+d+x.l.E+1),.int .i64 (d),.bool false,.bool true]),B2]):=by
 obtain⟨L1,L2⟩:=ok.L;obtain⟨D1,D2⟩:=ok.D;obtain⟨E1,E2⟩:=ok.E;have hc:=fun H lo=>zb (o.sc H) o.lc s lo;rw[g2]at hc;have m1:=fun fr hf lo=>u6 (g:=91) (o.sc (h++fr)) o.lc (by decide) (fun q _ lo=>ze (x:=x) (v:=v) (j:=0) hn (fr:=fr) hf hs (by omega) E1 E2 q lo) lo
 have m2:=fun fr hf lo=>u6 (g:=91) (o.sp (h++fr)) o.lp (by decide) (fun q _ lo=>ze (x:=x) (v:=v) (j:=0) hn (fr:=fr) hf hs (by omega) E1 E2 q lo) lo
 have e1:(x.l.C.any fun q=>decide (q.1<s+x.l.E)&&decide (s<q.2))=gL x.l.C s (s+x.l.E):=rfl;have e2:(x.l.P.any fun q=>decide (q.1<s+x.l.E)&&decide (s<q.2))=gL x.l.P s (s+x.l.E):=rfl;rw[e1]at m1;rw[e2]at m2;have m1:=m1 [(v,.box [.int .i64 s]),(v1+1,.box [.int .i64 s,.int .i64 (s+1),.int .i64 (s+d),.int .i64 (s+d+1),.int .i64 d,.bool false,.bool false]),B2] rfl;have m2:=m2 [(v,.box [.int .i64 s]),(v1+1,.box [.int .i64 s,.int .i64 (s+1),.int .i64 (s+d),.int .i64 (s+d+1),.int .i64 d,.bool false,.bool false]),B2] rfl;rw[g5]at m1;rw[g6]at m2
 conv=>lhs;rw[aR]
 simp(maxSteps:=30000000)(disch:=omega)only[go_sem,jo,hc,g1,hy,lZ,mH,mW,qj,qi,pW,nQ,ql,Nat.reduceEqDiff,g3,g4,m1,m2]
theorem agS(o:okV x)(ok:dD x.l)(hn:h.length=nb)(hn':h'.length=nb)(hlo:lo<=nb)(g1:s<x.l.L)(g2:hasB x.l.C s=false)(g3:d<x.l.D)(g4:s+x.l.E<=x.l.L)(g5:gL x.l.C s (s+x.l.E)=false)(g6:gL x.l.P s (s+x.l.E)=false)(hs:0<=s)(hd:0<=d/\d<=x.l.D)(v0:Nat)(c0:av)
  (hy:fF (run lib) ⟨lo,nb,3,none⟩ id iv [.agg [.int .i64 (s),.int .i64 (s+x.l.E),.int .i64 (s+d),.int .i64 (s+d+x.l.E+1),.int .i64 (d),.bool false,.bool true]] (h++[(v0,c0),(v1+1,.box [.int .i64 (s),.int .i64 (s+x.l.E),.int .i64 (s+d),.int .i64 (s+d+x.l.E+1),.int .i64 (d),.bool false,.bool true]),(v,.box [.int .i64 s])])=some (.bool true,h'++[(v0,c0),(v1+1,.box [.int .i64 (s),.int .i64 (s+x.l.E),.int .i64 (s+d),.int .i64 (s+d+x.l.E+1),.int .i64 (d),.bool false,.bool true]),(v,.box [.int .i64 s])])) :
  aA lib ⟨lo,nb,3,none⟩ (.loop mD) (mX x id iv nb 2 v d (s+d),h++[(v0,c0),(v1,b1),(v,.box [.int .i64 s])]) =
   aA lib ⟨lo,nb,3,none⟩ (.loop mD) (mX x id iv nb 0 (v0+1) (d+1) (s+d+x.l.E+1),h'++[(v0+1,.box [.int .i64 (s+x.l.E)]),(v1+1,.box [.int .i64 (s),.int .i64 (s+x.l.E),.int .i64 (s+d),.int .i64 (s+d+x.l.E+1),.int .i64 (d),.bool false,.bool true]),(v,.box [.int .i64 (s+x.l.E)])]):=by
 obtain⟨L1,L2⟩:=ok.L;obtain⟨D1,D2⟩:=ok.D;obtain⟨E1,E2⟩:=ok.E;have hc:=fun H lo=>zb (o.sc H) o.lc s lo;rw[g2]at hc;have m1:=fun fr hf lo=>u6 (g:=91) (o.sc (h++fr)) o.lc (by decide) (fun q _ lo=>ze (x:=x) (v:=v) (j:=2) hn (fr:=fr) hf hs (by omega) E1 E2 q lo) lo
 have m2:=fun fr hf lo=>u6 (g:=91) (o.sp (h++fr)) o.lp (by decide) (fun q _ lo=>ze (x:=x) (v:=v) (j:=2) hn (fr:=fr) hf hs (by omega) E1 E2 q lo) lo
 have e1:(x.l.C.any fun q=>decide (q.1<s+x.l.E)&&decide (s<q.2))=gL x.l.C s (s+x.l.E):=rfl;have e2:(x.l.P.any fun q=>decide (q.1<s+x.l.E)&&decide (s<q.2))=gL x.l.P s (s+x.l.E):=rfl;rw[e1]at m1;rw[e2]at m2;have m1:=m1 [(v0,c0),(v1+1,.box [.int .i64 s,.int .i64 (s+1),.int .i64 (s+d),.int .i64 (s+d+1),.int .i64 d,.bool false,.bool false]),(v,.box [.int .i64 s])] rfl;have m2:=m2 [(v0,c0),(v1+1,.box [.int .i64 s,.int .i64 (s+1),.int .i64 (s+d),.int .i64 (s+d+1),.int .i64 d,.bool false,.bool false]),(v,.box [.int .i64 s])] rfl;rw[g5]at m1;rw[g6]at m2
 conv=>lhs;rw[aR]
 simp(maxSteps:=30000000)(disch:=omega)only[go_sem,jo,hc,g1,hy,lZ,mH,mW,qj,qi,pW,nQ,ql,Nat.reduceEqDiff,g3,g4,m1,m2]
theorem agT(o:okV x)(ok:dD x.l)(hn:h.length=nb)(hn':h'.length=nb)(hlo:lo<=nb)(g1:s<x.l.L)(g2:hasB x.l.C s=false)(g3:oW x.l s d=false)(hs:0<=s)(hd:0<=d/\d<=x.l.D)(B2:Nat×av)
  (hy:fF (run lib) ⟨lo,nb,3,none⟩ id iv [.agg [.int .i64 (s),.int .i64 (s+1),.int .i64 (s+d),.int .i64 (s+d+1),.int .i64 (d),.bool false,.bool false]] (h++[(v,.box [.int .i64 s]),(v1+1,.box [.int .i64 (s),.int .i64 (s+1),.int .i64 (s+d),.int .i64 (s+d+1),.int .i64 (d),.bool false,.bool false]),B2])=some (.bool true,h'++[(v,.box [.int .i64 s]),(v1+1,.box [.int .i64 (s),.int .i64 (s+1),.int .i64 (s+d),.int .i64 (s+d+1),.int .i64 (d),.bool false,.bool false]),B2])) :
  aA lib ⟨lo,nb,3,none⟩ (.loop mD) (mX x id iv nb 0 v d (s+d),h++[(v,.box [.int .i64 s]),(v1,b1),B2]) =
   aA lib ⟨lo,nb,3,none⟩ (.loop mD) (mX x id iv nb 0 (v+1) (d) (s+d+1),h'++[(v+1,.box [.int .i64 (s+1)]),(v1+1,.box [.int .i64 (s),.int .i64 (s+1),.int .i64 (s+d),.int .i64 (s+d+1),.int .i64 (d),.bool false,.bool false]),B2]):=by
 obtain⟨L1,L2⟩:=ok.L;obtain⟨D1,D2⟩:=ok.D;obtain⟨E1,E2⟩:=ok.E;have hc:=fun H lo=>zb (o.sc H) o.lc s lo;rw[g2]at hc;have m1:=fun fr hf lo=>u6 (g:=91) (o.sc (h++fr)) o.lc (by decide) (fun q _ lo=>ze (x:=x) (v:=v) (j:=0) hn (fr:=fr) hf hs (by omega) E1 E2 q lo) lo
 have m2:=fun fr hf lo=>u6 (g:=91) (o.sp (h++fr)) o.lp (by decide) (fun q _ lo=>ze (x:=x) (v:=v) (j:=0) hn (fr:=fr) hf hs (by omega) E1 E2 q lo) lo
 have e1:(x.l.C.any fun q=>decide (q.1<s+x.l.E)&&decide (s<q.2))=gL x.l.C s (s+x.l.E):=rfl;have e2:(x.l.P.any fun q=>decide (q.1<s+x.l.E)&&decide (s<q.2))=gL x.l.P s (s+x.l.E):=rfl;rw[e1]at m1;rw[e2]at m2;have m1:=m1 [(v,.box [.int .i64 s]),(v1+1,.box [.int .i64 s,.int .i64 (s+1),.int .i64 (s+d),.int .i64 (s+d+1),.int .i64 d,.bool false,.bool false]),B2] rfl;have m2:=m2 [(v,.box [.int .i64 s]),(v1+1,.box [.int .i64 s,.int .i64 (s+1),.int .i64 (s+d),.int .i64 (s+d+1),.int .i64 d,.bool false,.bool false]),B2] rfl;simp only[oW,Bool.and_eq_false_iff,decide_eq_false_iff_not,Bool.not_eq_false']at g3;by_cases c1:d<x.l.D
 ·by_cases c2:s+x.l.E<=x.l.L
  ·cases c3:gL x.l.C s (s+x.l.E)
   ·have c4:gL x.l.P s (s+x.l.E)=true:=by
     rcases g3 with g3|g3|g3|g3
     ·exact absurd c1 g3
     ·exact absurd c2 g3
     ·rw[c3]at g3;cases g3
     ·exact g3
    rw[c3]at m1;rw[c4]at m2
    conv=>lhs;rw[aR]
    simp(maxSteps:=30000000)(disch:=omega)only[go_sem,jo,hc,g1,hy,lZ,mH,mW,qj,qi,pW,nQ,ql,Nat.reduceEqDiff,c1,c2,m1,m2]
   ·rw[c3]at m1
    conv=>lhs;rw[aR]
    simp(maxSteps:=30000000)(disch:=omega)only[go_sem,jo,hc,g1,hy,lZ,mH,mW,qj,qi,pW,nQ,ql,Nat.reduceEqDiff,c1,c2,m1]
  ·conv=>lhs;rw[aR]
   simp(maxSteps:=30000000)(disch:=omega)only[go_sem,jo,hc,g1,hy,lZ,mH,mW,qj,qi,pW,nQ,ql,Nat.reduceEqDiff,c1,c2]
 ·conv=>lhs;rw[aR]
  simp(maxSteps:=30000000)(disch:=omega)only[go_sem,jo,hc,g1,hy,lZ,mH,mW,qj,qi,pW,nQ,ql,Nat.reduceEqDiff,c1]
theorem agU(o:okV x)(ok:dD x.l)(hn:h.length=nb)(hn':h'.length=nb)(hlo:lo<=nb)(g1:s<x.l.L)(g2:hasB x.l.C s=false)(g3:oW x.l s d=false)(hs:0<=s)(hd:0<=d/\d<=x.l.D)(v0:Nat)(c0:av)
  (hy:fF (run lib) ⟨lo,nb,3,none⟩ id iv [.agg [.int .i64 (s),.int .i64 (s+1),.int .i64 (s+d),.int .i64 (s+d+1),.int .i64 (d),.bool false,.bool false]] (h++[(v0,c0),(v1+1,.box [.int .i64 (s),.int .i64 (s+1),.int .i64 (s+d),.int .i64 (s+d+1),.int .i64 (d),.bool false,.bool false]),(v,.box [.int .i64 s])])=some (.bool true,h'++[(v0,c0),(v1+1,.box [.int .i64 (s),.int .i64 (s+1),.int .i64 (s+d),.int .i64 (s+d+1),.int .i64 (d),.bool false,.bool false]),(v,.box [.int .i64 s])])) :
  aA lib ⟨lo,nb,3,none⟩ (.loop mD) (mX x id iv nb 2 v d (s+d),h++[(v0,c0),(v1,b1),(v,.box [.int .i64 s])]) =
   aA lib ⟨lo,nb,3,none⟩ (.loop mD) (mX x id iv nb 0 (v0+1) (d) (s+d+1),h'++[(v0+1,.box [.int .i64 (s+1)]),(v1+1,.box [.int .i64 (s),.int .i64 (s+1),.int .i64 (s+d),.int .i64 (s+d+1),.int .i64 (d),.bool false,.bool false]),(v,.box [.int .i64 (s+1)])]):=by
 obtain⟨L1,L2⟩:=ok.L;obtain⟨D1,D2⟩:=ok.D;obtain⟨E1,E2⟩:=ok.E;have hc:=fun H lo=>zb (o.sc H) o.lc s lo;rw[g2]at hc;have m1:=fun fr hf lo=>u6 (g:=91) (o.sc (h++fr)) o.lc (by decide) (fun q _ lo=>ze (x:=x) (v:=v) (j:=2) hn (fr:=fr) hf hs (by omega) E1 E2 q lo) lo
 have m2:=fun fr hf lo=>u6 (g:=91) (o.sp (h++fr)) o.lp (by decide) (fun q _ lo=>ze (x:=x) (v:=v) (j:=2) hn (fr:=fr) hf hs (by omega) E1 E2 q lo) lo
 have e1:(x.l.C.any fun q=>decide (q.1<s+x.l.E)&&decide (s<q.2))=gL x.l.C s (s+x.l.E):=rfl;have e2:(x.l.P.any fun q=>decide (q.1<s+x.l.E)&&decide (s<q.2))=gL x.l.P s (s+x.l.E):=rfl;rw[e1]at m1;rw[e2]at m2;have m1:=m1 [(v0,c0),(v1+1,.box [.int .i64 s,.int .i64 (s+1),.int .i64 (s+d),.int .i64 (s+d+1),.int .i64 d,.bool false,.bool false]),(v,.box [.int .i64 s])] rfl;have m2:=m2 [(v0,c0),(v1+1,.box [.int .i64 s,.int .i64 (s+1),.int .i64 (s+d),.int .i64 (s+d+1),.int .i64 d,.bool false,.bool false]),(v,.box [.int .i64 s])] rfl;simp only[oW,Bool.and_eq_false_iff,decide_eq_false_iff_not,Bool.not_eq_false']at g3;by_cases c1:d<x.l.D
 ·by_cases c2:s+x.l.E<=x.l.L
  ·cases c3:gL x.l.C s (s+x.l.E)
   ·have c4:gL x.l.P s (s+x.l.E)=true:=by
     rcases g3 with g3|g3|g3|g3
     ·exact absurd c1 g3
     ·exact absurd c2 g3
     ·rw[c3]at g3;cases g3
     ·exact g3
    rw[c3]at m1;rw[c4]at m2
    conv=>lhs;rw[aR]
    simp(maxSteps:=30000000)(disch:=omega)only[go_sem,jo,hc,g1,hy,lZ,mH,mW,qj,qi,pW,nQ,ql,Nat.reduceEqDiff,c1,c2,m1,m2]
   ·rw[c3]at m1
    conv=>lhs;rw[aR]
    simp(maxSteps:=30000000)(disch:=omega)only[go_sem,jo,hc,g1,hy,lZ,mH,mW,qj,qi,pW,nQ,ql,Nat.reduceEqDiff,c1,c2,m1]
  ·conv=>lhs;rw[aR]
   simp(maxSteps:=30000000)(disch:=omega)only[go_sem,jo,hc,g1,hy,lZ,mH,mW,qj,qi,pW,nQ,ql,Nat.reduceEqDiff,c1,c2]
 ·conv=>lhs;rw[aR]
  simp(maxSteps:=30000000)(disch:=omega)only[go_sem,jo,hc,g1,hy,lZ,mH,mW,qj,qi,pW,nQ,ql,Nat.reduceEqDiff,c1]
end
structure mI(x:Stp):Prop where
 fr:0<=x.fr
 to:x.fr<x.to
 hi:x.to<=600
 tf:x.to-x.fr<=60
 be:x.be=x.fr+x.de
 af:x.be<=x.af
 af2:x.af<=x.be+61
 af3:x.af<=660
 de:0<=x.de
 de2:x.de<=60
section
variable {σ:Type}{H:σ->Heap}{nb lo id iv:Nat}{step:σ->Stp->σ}{Iv:Int->Int->σ->Prop}
theorem agX{Q:Stp->Prop}{x:LV}(o:okV x)(ok:dD x.l)(hlen:∀ st,(H st).length=nb)(hlo:lo<=nb)
  (hI:∀ st X,mI X->Q X->Iv X.fr X.be st->Iv X.to X.af (step st X))
  (hy:∀ st X fr,mI X->Q X->Iv X.fr X.be st->fF (run lib) ⟨lo,nb,3,none⟩ id iv [jr X] (H st++fr)=some (.bool true,H (step st X)++fr))
  {s d e:Int} {xs:List Stp} (h:Ch x.l s d xs e):(∀ X∈xs,Q X)->0<=s->0<=d->d<=x.l.D->∀ st,Iv s (s+d) st->∀(j v:Nat) (fr:Heap),((j=0/\∃ v1 b1 B2,fr=[(v,.box [.int .i64 s]),(v1,b1),B2])\/(j=2/\∃ v0 c0 v1 b1,fr=[(v0,c0),(v1,b1),(v,.box [.int .i64 s])])) ->
  Iv x.l.L (x.l.L+e) (xs.foldl step st)/\∃ fr',aA lib ⟨lo,nb,3,none⟩ (.loop mD) (mX x id iv nb j v d (s+d),H st++fr)=some (.exit 0,([],H (xs.foldl step st)++fr')):=by
 obtain⟨L1,L2⟩:=ok.L;obtain⟨D1,D2⟩:=ok.D;obtain⟨E1,E2⟩:=ok.E
 induction h with
 |nil d =>
  intro hQ hs hd1 hd2 st hi j v fr hj;have hn:=hlen st;refine⟨hi,fr, ?_⟩;rcases hj with⟨rfl,v1,b1,B2,rfl⟩|⟨rfl,v0,c0,v1,b1,rfl⟩
  ·rw[aR];simp(maxSteps:=30000000)(disch:=omega)only[go_sem,lZ,dU,nN]
  ·rw[aR]
   simp(maxSteps:=30000000)(disch:=omega)only[go_sem,lZ,dU,nN]
 |@kR s d e xs g1 g2 g3 g ih =>
  intro hQ hs hd1 hd2 st hi j v fr hj;have hL:=g.le E1;have hX:mI ⟨s,s+1,s+d,s+d,d,true,false⟩:=⟨by simp only[];omega,by simp only[];omega,by simp only[];omega,by simp only[];omega,by simp only[],by simp only[];omega,by simp only[];omega,by simp only[];omega,by simp only[];omega,by simp only[];omega⟩
  have i1:=hI st _ hX (hQ _ (by simp)) hi
  rw[show (Stp.mk (s) (s+1) (s+d) (s+d) (d) (true) (false)).af=s+1+(d-1) by simp only[];omega]at i1
  have i2:=ih (fun X hx=>hQ X (by simp[hx])) (by omega) (by omega) (by omega) _ i1
  have hy1:=fun fr=>hy st _ fr hX (hQ _ (by simp)) hi
  simp only[jr]at hy1;rw[List.foldl_cons];rcases hj with⟨rfl,v1,b1,B2,rfl⟩|⟨rfl,v0,c0,v1,b1,rfl⟩
  ·obtain⟨k1,fr',k2⟩:=i2 0 (v+1) _ (.inl ⟨rfl,_,_,_,rfl⟩);refine⟨k1,fr', ?_⟩;rw[agN o ok (hlen st) (hlen _) hlo g1 g2 g3 hs ⟨hd1,hd2⟩ B2 (hy1 _),<-k2];congr 3;omega
  ·obtain⟨k1,fr',k2⟩:=i2 0 (v0+1) _ (.inl ⟨rfl,_,_,_,rfl⟩);refine⟨k1,fr', ?_⟩;rw[agO o ok (hlen st) (hlen _) hlo g1 g2 g3 hs ⟨hd1,hd2⟩ v0 c0 (hy1 _),<-k2];congr 3
   omega
 |@kS s d e xs g1 g2 g3 g ih =>
  intro hQ hs hd1 hd2 st hi j v fr hj;have hL:=g.le E1;have hX:mI ⟨s,s+1,s+d,s+d+1,d,true,false⟩:=⟨by simp only[];omega,by simp only[];omega,by simp only[];omega,by simp only[];omega,by simp only[],by simp only[];omega,by simp only[];omega,by simp only[];omega,by simp only[];omega,by simp only[];omega⟩
  have i1:=hI st _ hX (hQ _ (by simp)) hi
  rw[show (Stp.mk (s) (s+1) (s+d) (s+d+1) (d) (true) (false)).af=s+1+(d) by simp only[];omega]at i1
  have i2:=ih (fun X hx=>hQ X (by simp[hx])) (by omega) (by omega) (by omega) _ i1
  have hy1:=fun fr=>hy st _ fr hX (hQ _ (by simp)) hi
  simp only[jr]at hy1;rw[List.foldl_cons];rcases hj with⟨rfl,v1,b1,B2,rfl⟩|⟨rfl,v0,c0,v1,b1,rfl⟩
  ·obtain⟨k1,fr',k2⟩:=i2 0 (v+1) _ (.inl ⟨rfl,_,_,_,rfl⟩);refine⟨k1,fr', ?_⟩;rw[agP o ok (hlen st) (hlen _) hlo g1 g2 g3 hs ⟨hd1,hd2⟩ B2 (hy1 _),<-k2];congr 3;omega
  ·obtain⟨k1,fr',k2⟩:=i2 0 (v0+1) _ (.inl ⟨rfl,_,_,_,rfl⟩);refine⟨k1,fr', ?_⟩;rw[agQ o ok (hlen st) (hlen _) hlo g1 g2 g3 hs ⟨hd1,hd2⟩ v0 c0 (hy1 _),<-k2];congr 3
   omega
 |@str s d e xs g1 g2 g3 g4 g5 g6 g ih =>
  intro hQ hs hd1 hd2 st hi j v fr hj;have hL:=g.le E1;have hX:mI ⟨s,s+x.l.E,s+d,s+d+x.l.E+1,d,false,true⟩:=⟨by simp only[];omega,by simp only[];omega,by simp only[];omega,by simp only[];omega,by simp only[],by simp only[];omega,by simp only[];omega,by simp only[];omega,by simp only[];omega,by simp only[];omega⟩
  have i1:=hI st _ hX (hQ _ (by simp)) hi
  rw[show (Stp.mk (s) (s+x.l.E) (s+d) (s+d+x.l.E+1) (d) (false) (true)).af=s+x.l.E+(d+1) by simp only[];omega]at i1
  have i2:=ih (fun X hx=>hQ X (by simp[hx])) (by omega) (by omega) (by omega) _ i1
  have hy1:=fun fr=>hy st _ fr hX (hQ _ (by simp)) hi
  simp only[jr]at hy1;rw[List.foldl_cons];rcases hj with⟨rfl,v1,b1,B2,rfl⟩|⟨rfl,v0,c0,v1,b1,rfl⟩
  ·obtain⟨k1,fr',k2⟩:=i2 0 (v+1) _ (.inl ⟨rfl,_,_,_,rfl⟩);refine⟨k1,fr', ?_⟩;rw[agR o ok (hlen st) (hlen _) hlo g1 g2 g3 g4 g5 g6 hs ⟨hd1,hd2⟩ B2 (hy1 _),<-k2];congr 3;omega
  ·obtain⟨k1,fr',k2⟩:=i2 0 (v0+1) _ (.inl ⟨rfl,_,_,_,rfl⟩);refine⟨k1,fr', ?_⟩;rw[agS o ok (hlen st) (hlen _) hlo g1 g2 g3 g4 g5 g6 hs ⟨hd1,hd2⟩ v0 c0 (hy1 _),<-k2];congr 3
   omega
 |@pl s d e xs g1 g2 g3 g ih =>
  intro hQ hs hd1 hd2 st hi j v fr hj;have hL:=g.le E1;have hX:mI ⟨s,s+1,s+d,s+d+1,d,false,false⟩:=⟨by simp only[];omega,by simp only[];omega,by simp only[];omega,by simp only[];omega,by simp only[],by simp only[];omega,by simp only[];omega,by simp only[];omega,by simp only[];omega,by simp only[];omega⟩
  have i1:=hI st _ hX (hQ _ (by simp)) hi
  rw[show (Stp.mk (s) (s+1) (s+d) (s+d+1) (d) (false) (false)).af=s+1+(d) by simp only[];omega]at i1
  have i2:=ih (fun X hx=>hQ X (by simp[hx])) (by omega) (by omega) (by omega) _ i1
  have hy1:=fun fr=>hy st _ fr hX (hQ _ (by simp)) hi
  simp only[jr]at hy1;rw[List.foldl_cons];rcases hj with⟨rfl,v1,b1,B2,rfl⟩|⟨rfl,v0,c0,v1,b1,rfl⟩
  ·obtain⟨k1,fr',k2⟩:=i2 0 (v+1) _ (.inl ⟨rfl,_,_,_,rfl⟩);refine⟨k1,fr', ?_⟩;rw[agT o ok (hlen st) (hlen _) hlo g1 g2 g3 hs ⟨hd1,hd2⟩ B2 (hy1 _),<-k2];congr 3;omega
  ·obtain⟨k1,fr',k2⟩:=i2 0 (v0+1) _ (.inl ⟨rfl,_,_,_,rfl⟩);refine⟨k1,fr', ?_⟩;rw[agU o ok (hlen st) (hlen _) hlo g1 g2 g3 hs ⟨hd1,hd2⟩ v0 c0 (hy1 _),<-k2];congr 3;omega
theorem XE{Q:Stp->Prop}{x:LV}(o:okV x)(ok:dD x.l)(hlen:∀ st,(H st).length=nb)(hlo:lo<=nb)
  (hI:∀ st X,mI X->Q X->Iv X.fr X.be st->Iv X.to X.af (step st X))
  (hy:∀ st X fr,mI X->Q X->Iv X.fr X.be st->fF (run lib) ⟨lo,nb,3,none⟩ id iv [jr X] (H st++fr)=some (.bool true,H (step st X)++fr))
  {e:Int} {xs:List Stp} (h:Ch x.l 0 x.l.D xs e) (hQ:∀ X∈xs,Q X) (st:σ) (hi:Iv 0 x.l.D st) :
  Iv x.l.L (x.l.L+e) (xs.foldl step st)/\(run lib).fn 89 [.cZ id iv,.bD [.int .i64 x.l.L,.int .i64 x.l.D,.int .i64 x.l.E,pV x,cV x]] (H st) lo=some (.tuple [],H (xs.foldl step st)):=by
 obtain⟨D1,D2⟩:=ok.D;obtain⟨k1,fr',k2⟩:=agX o ok hlen hlo hI hy h hQ (iK _) D1 (iK _) st (by rw[Int.zero_add];exact hi) 2 1 [(0,.dead),(0,.dead),(1,.box [.int .i64 0])] (.inr ⟨rfl,_,_,_,_,rfl⟩)
 rw[Int.zero_add]at k2;refine⟨k1, ?_⟩;have hn:=hlen st;have ho:=iP (L:=lib) (f:=89) (x:=x89) (args:=[.cZ id iv,.bD [.int .i64 x.l.L,.int .i64 x.l.D,.int .i64 x.l.E,pV x,cV x]]) (h:=H st) (lo:=lo) rfl rfl rfl rfl (by rw[hn];exact hlo)
 have e2:∀ s' (X:Heap),(H s'++X).take nb=H s':=fun s' X=>by rw[<-hlen s',o7]
 rw[ho,hn];simp only[mX]at k2;have hr:List.replicate x89.ns (0,av.dead)=[(0,av.dead),(0,av.dead),(0,av.dead)]:=rfl;simp(maxSteps:=30000000)(disch:=omega)only[go_sem,x89,hn,jo,mH,mW,k2,e2]
theorem OV{x:LV}(o:okV x)(ok:dD x.l)(hlen:∀ st,(H st).length=nb)(hlo:lo<=nb)
  (hI:∀ st X,mI X->Iv X.fr X.be st->Iv X.to X.af (step st X))
  (hy:∀ st X fr,mI X->Iv X.fr X.be st->fF (run lib) ⟨lo,nb,3,none⟩ id iv [jr X] (H st++fr)=some (.bool true,H (step st X)++fr))
  {e:Int} {xs:List Stp} (h:Ch x.l 0 x.l.D xs e) (st:σ) (hi:Iv 0 x.l.D st) :
  Iv x.l.L (x.l.L+e) (xs.foldl step st)/\(run lib).fn 89 [.cZ id iv,.bD [.int .i64 x.l.L,.int .i64 x.l.D,.int .i64 x.l.E,pV x,cV x]] (H st) lo=some (.tuple [],H (xs.foldl step st)) :=
 XE (Q:=fun _=>True) o ok hlen hlo (fun st X h1 _ h2=>hI st X h1 h2) (fun st X fr h1 _ h2=>hy st X fr h1 h2) h (fun _ _=>trivial) st hi
theorem JC(x:LV)(h:Heap)(lo:Nat):(run lib).fn 49 [bI x] h lo=some (.fn 89 [.bD [.int .i64 x.l.L,.int .i64 x.l.D,.int .i64 x.l.E,pV x,cV x]],h):=by
 unfold bI;rw[aY (x:=Mt) rfl rfl rfl rfl];simp(maxSteps:=30000000)(disch:=omega)only[go_sem,Mt]
end
end Go.VI.Dump
namespace Go.VI.Dump
open Go.VI.Num
/- BIGSTEPS -/
theorem agY:∀ n:Nat,n<700->fI .and (.int .u64 (n:Nat)) (.int .u64 4294967295)=some (.int .u64 (n:Nat)):=by
 have h:(List.range 700).all (fun n=>IntKind.u64.wrap (BitVec.ofInt 64 (n:Nat) &&& BitVec.ofInt 64 4294967295).toNat==(n:Nat))=true:=by decide +kernel
 intro n hn;have:=kr.mp h n (List.mem_range.mpr hn);simp only[beq_iff_eq]at this;exact congrArg (fun z=>some (AV.int .u64 z)) this
theorem OW{n:Int}(h0:0<=n)(h1:n<700):fI .and (.int .u64 n) (.int .u64 4294967295)=some (.int .u64 n):=by
 obtain⟨k,rfl⟩:∃ k:Nat,n=k:=⟨n.toNat,by omega⟩
 exact agY k (by omega)
theorem OX{n:Int}(h0:0<=n)(h1:n<700):fI .shr (.int .u64 n) (.int .u64 32)=some (.int .u64 0):=by
 have:n.fdiv (2^(min (32:Int).toNat IntKind.u64.bits))=0:=by
  rw[show (2:Int)^(min (32:Int).toNat IntKind.u64.bits)=4294967296 by decide,Int.fdiv_eq_ediv_of_nonneg _ (by decide)]
  omega
 simp only[fI];rw[if_pos (by decide),this]
theorem agZ{n:Int}(h0:0<=n)(h1:n<700)(h:Heap)(lo:Nat):(run lib).fn 130 [.int .u64 1,.int .u64 n] h lo=some (.tuple [.int .u64 0,.int .u64 n],h):=by
 have a1:=OW h0 h1;have a2:=OW (n:=1) (by decide) (by decide)
 have a3:=OW (n:=0) (by decide) (by decide)
 have s1:=OX h0 h1;have s2:=OX (n:=1) (by decide) (by decide)
 have s3:=OX (n:=0) (by decide) (by decide)
 rw[aY (x:=M9) rfl rfl rfl rfl];simp(maxSteps:=30000000)(disch:=omega)only[go_sem,M9,a1,a2,a3,s1,s2,s3,Int.one_mul,Int.zero_mul,sI,Int.mul_zero]
theorem ag0{n:Int}(h0:0<=n)(h1:n<700)(h:Heap)(lo:Nat):(run lib).fn 88 [.int .u64 1,.int .u64 n] h lo=some (.tuple [.int .u64 0,.int .u64 n],h):=by
 have e:=fun H lo=>agZ h0 h1 H lo;rw[aY (x:=x88) rfl rfl rfl rfl];simp(maxSteps:=30000000)(disch:=omega)only[go_sem,x88,e]
def lG(c n:Nat)(x:Int):List Int:=List.replicate n x++List.replicate (c-n) 0
theorem XF{c n:Nat}(h:n<=c)(x:Int):(lG c n x).length=c:=by simp[lG];omega
theorem ag1(h:Heap)(x:Int)(c:Nat)(hc:c<=1000):∀(d n:Nat),n+d=c->0<n ->
  aA lib ⟨h.length,h.length,1,none⟩ (.loop Il) ([(7,.ref (h.length+0) 1 1 0 c c),(8,.int .i64 n)],h++[(1,.arr 1 (ints (lG c n x)))]) =
   some (.exit 0,([(7,.ref (h.length+0) 1 1 0 c c)],h++[(1,.arr 1 (ints (lG c c x)))])):=by
 intro d
 induction d using Nat.strongRecOn with
 |_ d ih =>
  intro n hn h0;have hl:(ints (lG c n x)).length=c:=by rw[fE,XF (by omega)]
  have ln:jc false (.ref (h.length+0) 1 1 0 c c)=some (.int .i64 c):=by simp[jc,iH]
  rcases oN d with hd|hd
  ·obtain rfl:n=c:=by omega
   rw[aR];simp(maxSteps:=30000000)(disch:=omega)only[go_sem,ln,dU]
  ·have h1:(n:Int)<c:=by omega
   have s1:kg (some 1) (.ref (h.length+0) 1 1 0 c c) (some (.int .i64 n)) none=some (.ref (h.length+0) 1 1 n (c-n) c):=by
    rw[Ic,Ui,Option.bind_some,BN (by omega) (by omega)];simp
   have s2:kg (some 1) (.ref (h.length+0) 1 1 0 c c) none (some (.int .i64 n))=some (.ref (h.length+0) 1 1 0 n c):=by
    rw[Ic,BN (by omega) (by omega),Option.bind_some,Ui];simp
   have s3:jv (h++[(1,.arr 1 (ints (lG c n x)))]) 1 (.ref (h.length+0) 1 1 0 n c)=some (ints (List.replicate n x)):=by
    have:=(Sl.ref (h:=h) (fr:=[(1,.arr 1 (ints (lG c n x)))]) (s:=0) (aj:=1) (z:=1) (off:=0) (len:=n) (fill:=c) (es:=ints (lG c n x)) rfl hl (by omega)).zW
    rw[this];simp[lG,ints]
   have cp:=Uj (lo:=h.length) (ns:=1) (h:=h) (fr:=[(1,.arr 1 (ints (lG c n x)))]) (s:=0) (aj:=1) (z:=1) (off:=n) (len:=c-n) (fill:=c) (es:=ints (lG c n x)) (ys:=ints (List.replicate n x)) rfl hl (by omega) (aV _)
   have hm:min (ints (List.replicate n x)).length (c-n)=min n (c-n):=by simp[ints]
   rw[hm]at cp
   have he:(ints (lG c n x)).take n++(ints (List.replicate n x)).take (min n (c-n))++(ints (lG c n x)).drop (n+min n (c-n))=ints (lG c (n+min n (c-n)) x):=by
    simp only[ints,lG,<-List.map_take,<-List.map_drop,<-List.map_append];congr 1;simp only[List.take_append,List.take_replicate,List.drop_append,List.drop_replicate,mh];rw[show n-(n+min n (c-n))=0 by omega]
    generalize hM:min n (c-n)=M;rw[show min n n=n by omega,show min (n-n) (c-n)=0 by omega,show min M n=M by omega,show c-n-(n+M-n)=c-(n+M) by omega]
    simp only[List.replicate_zero,gP,List.nil_append];rw[List.replicate_append_replicate]
   rw[he]at cp;have e:=ih (d-min n (c-n)) (by omega) (n+min n (c-n)) (by omega) (by omega)
   rw[Int.natCast_add]at e;have b1:((min n (c-n):Nat):Int)<=1000:=by omega
   have b2:(0:Int)<=((min n (c-n):Nat):Int):=by omega
   generalize min n (c-n)=M at*;rw[aR];simp(maxSteps:=30000000)(disch:=omega)only[go_sem,ln,h1,s1,s2,s3,cp,e]
theorem XG(x:Int)(c:Nat)(hc:c<=600)(h:Heap)(lo:Nat):(run lib).fn 48 [.aM 1 [.int .i64 x],.int .i64 c] h lo=some (if c=0 then .aM 1 []else .own 1 (ints (List.replicate c x)),h):=by
 have hm:=fun H lo=>ag0 (n:=c) (by omega) (by omega) H lo
 have l1:jc false (.aM 1 [.int .i64 x])=some (.int .i64 1):=rfl;rw[aY (x:=Im) rfl rfl rfl rfl];rcases oN c with h0|h0
 ·subst h0;simp only[fH]at hm
  have hb:aA lib ⟨h.length,h.length,1,none⟩ (.loop Il) ([(7,.aM 1 []),(8,.int .i64 0)],h++[(0,.dead)])=some (.exit 0,([(7,.aM 1 [])],h++[(0,.dead)])):=by
   rw[aR];simp(maxSteps:=30000000)(disch:=omega)only[go_sem,show jc false (.aM 1 [])=some (.int .i64 0)from rfl]
  have cp:nW ⟨h.length,h.length,1,none⟩ 1 (.aM 1 []) [.int .i64 x] (h++[(0,.dead)])=some (.int .i64 0,h++[(0,.dead)]):=by
   simp[nW,fe,iH]
  have al:jv (h++[(0,.dead)]) 1 (.aM 1 [.int .i64 x])=some [.int .i64 x]:=(Sl.aM _ _ _).zW;have gr:eF h.length (.aM 1 []) (h++[(0,.dead)])=some (.aM 1 []):=by simp[eF,give,aU]
  simp(maxSteps:=30000000)(disch:=omega)only[go_sem,Im,hm,l1,adJ,cp,al,hb,gr,Option.map_some]
 ·have e:=ag1 h x c (by omega) (c-1) 1 (by omega) (by omega)
  have cp:=Uj (lo:=h.length) (ns:=1) (h:=h) (fr:=[(1,.arr 1 (List.replicate c (.int .i64 0)))]) (s:=0) (aj:=1) (z:=1) (off:=0) (len:=c) (fill:=c) (es:=List.replicate c (.int .i64 0)) (ys:=[.int .i64 x]) rfl (by simp) (by omega) (aV _)
  have hmin:min [AV.int .i64 x].length c=1:=by simp;omega
  rw[hmin]at cp
  have he:(List.replicate c (AV.int .i64 0)).take 0++[AV.int .i64 x].take 1++(List.replicate c (AV.int .i64 0)).drop (0+1)=ints (lG c 1 x):=by
   simp[ints,lG]
  rw[he]at cp;have al:∀ fr:Heap,jv (h++fr) 1 (.aM 1 [.int .i64 x])=some [.int .i64 x]:=fun fr=>(Sl.aM _ _ _).zW;have h1:¬ c=0:=by omega
  have gv:=Ew (h:=h) (s:=0) (aj:=1) (z:=1) (fr:=[(1,.arr 1 (ints (lG c c x)))]) (es:=ints (lG c c x)) rfl;have hr:lG c c x=List.replicate c x:=by simp[lG]
  rw[fE,XF (aV _)]at gv;rw[hr]at gv e;have c1:((1:Nat):Int)=1:=rfl;rw[c1]at e cp;have h2:(0:Int)<(c:Int):=by omega
  have gr:eF h.length (.ref (h.length+0) 1 1 0 c c) (h++[(1,.arr 1 (ints (List.replicate c x)))])=some (.own 1 (ints (List.replicate c x))):=by
   simp only[eF,gv,Option.map_some]
  have h3:¬ (c:Int)<0:=by omega
  have h4:¬ 9223372036854775807<(c:Int):=by omega
  simp(maxSteps:=30000000)(disch:=omega)only[go_sem,Im,hm,l1,adK,cp,al,e,h1,h3,h4,gr]
end Go.VI.Dump
namespace Go.VI
theorem OY{lo base ns s z lim:Nat}{p:Nat×Nat}{x:AV}{xs:List AV}{h:Heap}:dP ⟨lo,base,ns,some p⟩ s z lim x xs h=dP ⟨lo,base,ns,none⟩ s z lim x xs h:=by
 cases x<;>rfl
theorem OZ{lo ns s aj off:Nat}{h fr:Heap}{v:AV}{p:Nat×Nat}(hlo:lo<=h.length)(hc:(Cx.mk lo h.length ns (some p)).fit v=true)(hv:v.cells.length=1/\v.val=true) :
  dK ⟨lo,h.length,ns,some p⟩ (h++fr) 1 (.aJ (h.length+s) aj off) v=sG s lo ns aj off h fr v fr[s]?:=by
 simp only[dK,hv,and_self,if_true,bH]
 cases fr[s]? with
 |none=>rfl
 |some x =>
  obtain⟨w,b⟩:=x
  cases b with
  |box cs =>
   have hle:lo<=h.length+s:=by omega
   by_cases hw:w=aj
   ·simp[sG,hw,hle,hc]
   ·simp[sG,hw]
  |_=>rfl
theorem ag4{cx:Cx}{v:AV}(h:v.rJ (cx.base+cx.ns)=true):cx.fit v=true:=by simp[Cx.fit,h]
def gQ(n:Nat)(z:Bool)(es:List AV):AV:=if z then(if es=[]then .aM 1 []else .ref (n+2) 1 1 0 es.length es.length)else .ref (n+3) 1 1 0 es.length es.length
def jD(z:Bool)(es:List AV):Nat×av:=if z=true/\es≠[] then(1,.arr 1 es) else(0,.dead)
def jE(z:Bool)(es:List AV):Nat×av:=if z then(0,.dead) else(1,.arr 1 es)
@[go_sem] theorem ag5(n:Nat)(z:Bool)(es:List AV):(gQ n z es).cells=[gQ n z es]:=by unfold gQ;(repeat' split)<;>rfl
@[go_sem] theorem ag6(n:Nat)(z:Bool)(es:List AV):(gQ n z es).val=true:=by unfold gQ;(repeat' split)<;>rfl
theorem ag7{lo n:Nat}{p:Nat×Nat}{z:Bool}{es:List AV}:(Cx.mk lo n 5 (some p)).fit (gQ n z es)=true:=by
 refine ag4 ?_;unfold gQ
 (repeat' split)
 ·rfl
 ·simp[AV.rJ]
 ·simp[AV.rJ]
theorem ag8{h fr:Heap}{r b o:Nat×av}{z:Bool}{es:List AV}{x:AV}(hl:es.length<=100000) :
  dP ⟨h.length,h.length,5,none⟩ 2 1 17592186044416 (gQ h.length z es) [x] (h++(r::b::jD z es::jE z es::o::fr))=some (gQ h.length z (es++[x]),h++(r::b::jD z (es++[x])::jE z (es++[x])::o::fr)):=by
 have hne:es++[x]≠[]:=by simp
 cases z with
 |true =>
  by_cases h0:es=[]
  ·subst h0;have:=ad7 (lo:=h.length) (ns:=5) (s:=2) (z:=1) (lim:=17592186044416) (h:=h) (fr:=r::b::(0,.dead)::(0,.dead)::o::fr) (aj:=0) (b:=.dead) (xs:=[x]) (by omega) rfl (by simp) (by simp)
   simp only[gQ,jD,jE,if_true,ne_eq,not_true_eq_false,and_false,if_false,List.nil_append,reduceCtorEq,not_false_eq_true,and_self];rw[this];rfl
  ·have:=xB (cx:=⟨h.length,h.length,5,none⟩) (s:=2) (z:=1) (lim:=17592186044416) (id:=h.length+2) (aj:=1) (h:=h++(r::b::(1,.arr 1 es)::(0,.dead)::o::fr)) (es:=es) (xs:=[x]) (by rw[bH];rfl) (by simp) (by simp;omega)
   simp only[gQ,jD,jE,if_true,h0,hne,ne_eq,not_false_eq_true,and_self,if_false]
   rw[this,eB,dZ];rfl
 |false =>
  have:=xB (cx:=⟨h.length,h.length,5,none⟩) (s:=2) (z:=1) (lim:=17592186044416) (id:=h.length+3) (aj:=1) (h:=h++(r::b::(0,.dead)::(1,.arr 1 es)::o::fr)) (es:=es) (xs:=[x]) (by rw[bH];rfl) (by simp) (by simp;omega)
  simp only[gQ,jD,jE,fJ,if_false,false_and];rw[this,eB,dZ];rfl
theorem ag9{h fr:Heap}{r b o:Nat×av}{z:Bool}{es:List AV}(hz:z=true->es≠[]):∃ h',give h.length (gQ h.length z es) (h++(r::b::jD z es::jE z es::o::fr))=some (.own 1 es,h'):=by
 cases z with
 |true =>
  have h0:=hz rfl;simp only[gQ,jD,jE,if_true,h0,ne_eq,not_false_eq_true,and_self,if_false]
  exact⟨_,Ew rfl⟩
 |false =>
  simp only[gQ,jD,jE,fJ,if_false,false_and];exact⟨_,Ew rfl⟩
end Go.VI
namespace Go.VI.Dump
open Go.VI.Num
/- BIGSTEPS -/
def O0(x:Stp)(k:Nat):Int:=if x.cut then -1 else max (x.to-(x.af-(x.be+(k:Int)))) x.fr
theorem O1(x:Stp):(jg x).length=(x.af-x.be).toNat:=by simp[jg]
theorem ag'{x:Stp}{k:Nat}(h:k<(x.af-x.be).toNat):(jg x).take (k+1)=(jg x).take k++[O0 x k]:=by
 rw[qU (by rw[O1];exact h)]
 congr 1;simp[jg,O0]
theorem xO(a:List Int)(x:Int):ints (a++[x])=ints a++[.int .i64 x]:=by simp[ints]
theorem aha{X:Stp}(hX:mI X){h fr:Heap}{z:Bool}{R:Nat×av}{p:Nat×Nat}{v:Nat}{es:List Int}(hl:es.length<=700):∀(d k:Nat),k+d=(X.af-X.be).toNat ->
  aA lib ⟨h.length,h.length,5,some p⟩ (.loop LJ) ([(4,.aJ (h.length+4) 1 0),(5,.aJ (h.length+1) v 0),(6,.int .i64 (X.be+k))],h++(R::(v,.box (dM X))::jD z (ints (es++(jg X).take k))::jE z (ints (es++(jg X).take k))::(1,.box [gQ h.length z (ints (es++(jg X).take k))])::fr)) =
   some (.exit 2,([],h++(R::(v,.box (dM X))::jD z (ints (es++jg X))::jE z (ints (es++jg X))::(1,.box [gQ h.length z (ints (es++jg X))])::fr))):=by
 obtain⟨x1,x2,x3,x4,x5,x6,x7,x8,x9,x10⟩:=hX;have hal:=O1 X;intro d
 induction d with
 |zero =>
  intro k hk;have c:¬ X.be+(k:Int)<X.af:=by omega
  rw[pI (by omega),aR]
  simp(maxSteps:=30000000)(disch:=omega)only[go_sem,dM,c]
 |succ d ih =>
  intro k hk;have c:X.be+(k:Int)<X.af:=by omega
  have e:=ih (k+1) (by omega)
  have hlt:((jg X).take k).length=k:=by rw[jA];omega
  rw[ag' (by omega),<-eH,xO,dF,<-Int.add_assoc]at e
  have hL:(es++(jg X).take k).length<=1000:=by rw[dZ];omega
  generalize es++(jg X).take k=L at*;have ea:=fun x fr=>ag8 (h:=h) (r:=R) (b:=(v,.box (dM X))) (o:=(1,.box [gQ h.length z (ints L)])) (fr:=fr) (z:=z) (es:=ints L) (x:=x) (by simp;omega)
  have ea:∀ x fr,dP ⟨h.length,h.length,5,some p⟩ 2 1 17592186044416 (gQ h.length z (ints L)) [x] (h++(R::(v,.box (dM X))::jD z (ints L)::jE z (ints L)::(1,.box [gQ h.length z (ints L)])::fr))=_:=fun x fr=>(OY (p:=p)).trans (ea x fr);have es:=fun x (fr:Heap)=>OZ (lo:=h.length) (ns:=5) (s:=4) (aj:=1) (off:=0) (h:=h) (p:=p) (fr:=R::(v,.box (dM X))::jD z (ints L++[x])::jE z (ints L++[x])::(1,.box [gQ h.length z (ints L)])::fr) (v:=gQ h.length z (ints L++[x])) (aV _) ag7 ⟨by rw[ag5];rfl,ag6 _ _ _⟩
  simp only[dM]at ea es e⊢;rw[aR];unfold O0 at e;cases hc:X.cut
  ·rw[hc]at e ea es;simp only[fJ,if_false]at e;simp(maxSteps:=30000000)(disch:=omega)only[go_sem,c,ea,es,e]
  ·rw[hc]at e ea es;simp only[if_true]at e;simp(maxSteps:=30000000)(disch:=omega)only[go_sem,c,ea,es,e]
end Go.VI.Dump
namespace Go.VI.Dump
open Go.VI.Num
/- BIGSTEPS -/
abbrev jF(x:LV):AV:=.bD [.int .i64 x.l.L,.int .i64 x.l.D,.int .i64 x.l.E,pV x,cV x]
abbrev AS:=List Int×Nat×av
def CK(h:Heap)(x:LV):Env:=[(2,.aD),(3,.int .i64 0),(4,.aJ (h.length+4) 1 0),(16,.fn 89 [jF x])]
def O3(h:Heap)(x:LV):bQ:=⟨0,h.length,h.length,5,CK h x⟩
def CO(h:Heap)(x:LV)(z:Bool)(st:AS):Heap:=h++[(1,.ay (O3 h x) .ready),st.2,jD z (ints st.1),jE z (ints st.1),(1,.box [gQ h.length z (ints st.1)])]
def zf(st:AS)(X:Stp):AS:=(st.1++jg X,st.2.1+1,.box (dM X))
def AJ(s a:Int)(st:AS):Prop:=(st.1.length:Int)=a
theorem ahb{x:LV}(h:Heap)(z:Bool)(st:AS)(X:Stp)(fr:Heap)(hX:mI X)(hi:AJ X.fr X.be st) :
  fF (run lib) ⟨h.length,h.length+5,3,none⟩ (h.length+0) 1 [jr X] (CO h x z st++fr)=some (.bool true,CO h x z (zf st X)++fr):=by
 obtain⟨out,v,b⟩:=st;simp only[AJ]at hi;have hb:=hX.af3;have hba:=hX.af;obtain⟨D,hD⟩:∃ D:bQ,D=O3 h x:=⟨_,rfl⟩;simp only[CO,zf,eH,List.cons_append,List.nil_append,<-hD]
 have ha:aA lib ⟨h.length,h.length,5,some (h.length+0,1)⟩ r0.fZ ((r0.ps.zip [jr X]).foldl (fun e p=>e.set p.1 p.2) (CK h x),h++((1,.ay D .ready)::(v,b)::jD z (ints out)::jE z (ints out)::(1,.box [gQ h.length z (ints out)])::fr)) =
   some (.norm,([(4,.aJ (h.length+4) 1 0),(5,.aJ (h.length+1) (v+1) 0)],h++((1,.ay D .ready)::(v+1,.box (dM X))::jD z (ints out)::jE z (ints out)::(1,.box [gQ h.length z (ints out)])::fr))):=by
  have em:bV ⟨h.length,h.length,5,some (h.length+0,1)⟩ 1 (.box [.int .i64 0,.int .i64 0,.int .i64 0,.int .i64 0,.int .i64 0,.bool false,.bool false]) (h++((1,.ay D .ready)::(v,b)::jD z (ints out)::jE z (ints out)::(1,.box [gQ h.length z (ints out)])::fr))=some (v+1,h++((1,.ay D .ready)::(v+1,.box [.int .i64 0,.int .i64 0,.int .i64 0,.int .i64 0,.int .i64 0,.bool false,.bool false])::jD z (ints out)::jE z (ints out)::(1,.box [gQ h.length z (ints out)])::fr)):=by
   rw[uU (by rfl)]
   simp(maxSteps:=30000000)(disch:=omega)only[go_sem]
  have es:dK ⟨h.length,h.length,5,some (h.length+0,1)⟩ (h++((1,.ay D .ready)::(v+1,.box [.int .i64 0,.int .i64 0,.int .i64 0,.int .i64 0,.int .i64 0,.bool false,.bool false])::jD z (ints out)::jE z (ints out)::(1,.box [gQ h.length z (ints out)])::fr)) 7 (.aJ (h.length+1) (v+1) 0) (jr X)=some (h++((1,.ay D .ready)::(v+1,.box (dM X))::jD z (ints out)::jE z (ints out)::(1,.box [gQ h.length z (ints out)])::fr)):=by
   rw[oz (by omega) (by rfl)]
   simp(maxSteps:=30000000)(disch:=omega)only[go_sem,jr,dM]
  simp(maxSteps:=30000000)(disch:=omega)only[go_sem,r0,CK,em,es,List.zip_cons_cons,vX,List.foldl_cons,nN]
 have hb:∃ gB,aA lib ⟨h.length,h.length,5,some (h.length+0,1)⟩ r0.body ([(4,.aJ (h.length+4) 1 0),(5,.aJ (h.length+1) (v+1) 0)],(h++((1,.ay D .ready)::(v+1,.box (dM X))::jD z (ints out)::jE z (ints out)::(1,.box [gQ h.length z (ints out)])::fr)).set (h.length+0) (1,.ay D .busy)) =
   some (.norm,(gB,h++((1,.ay D .busy)::(v+1,.box (dM X))::jD z (ints (out++jg X))::jE z (ints (out++jg X))::(1,.box [gQ h.length z (ints (out++jg X))])::fr))):=by
  refine⟨[], ?_⟩;rw[eB];have e:=aha hX (h:=h) (fr:=fr) (z:=z) (R:=(1,.ay D .busy)) (p:=(h.length+0,1)) (v:=v+1) (es:=out) (by omega) (X.af-X.be).toNat 0 (by omega)
  simp only[xC,gP,fH,sI]at e;simp only[dM]at e⊢;simp(maxSteps:=30000000)(disch:=omega)only[go_sem,r0,e]
 obtain⟨gB,hb⟩:=hb;have hg:(h++((1,av.ay D .ready)::(v,b)::jD z (ints out)::jE z (ints out)::(1,.box [gQ h.length z (ints out)])::fr))[h.length+0]?=some (1,.ay ⟨0,h.length,h.length,5,CK h x⟩ .ready):=by rw[bH,hD];rfl
 have:=uI (L:=lib) (cx:=⟨h.length,h.length+5,3,none⟩) hg (aV _) (by omega) (aV _) (by simp[jr,AV.jw,AV.closed]) (x:=r0) rfl rfl ha (by rw[bH];rfl) hb (by rw[bH];rfl)
 rw[this,eB];rfl
theorem ahc(xs:List Stp):∀ st:AS,(xs.foldl zf st).1=st.1++dJ xs:=by
 induction xs with
 |nil=>intro st;simp[dJ]
 |cons X xs ih=>intro st;rw[List.foldl_cons,ih];simp[zf,dJ]
theorem ahd(st:AS)(X:Stp)(hX:mI X)(hi:AJ X.fr X.be st):AJ X.to X.af (zf st X):=by
 have:=hX.af;simp only[AJ,zf,dZ,O1]at *;omega
theorem XJ{x:LV}(o:okV x)(hv:¬ dD x.l)(h:Heap)(lo:Nat):(run lib).fn 14 [bI x] h lo=some (.tuple [.own 0 [],.int .i64 200],h):=by
 have e:=fun H lo=>wE o H lo
 have:lF x.l=false:=by
  cases hb:lF x.l
  ·rfl
  ·exact absurd (qh.mp hb) hv
 rw[this]at e;unfold bI at e⊢;rw[aY (x:=BS) rfl rfl rfl rfl];simp(maxSteps:=30000000)(disch:=omega)only[go_sem,BS,e]
theorem ahe{l:dI}(ok:dD l){xs:List Stp}{e:Int}(h:Ch l 0 l.D xs e)(hD:l.D=0):dJ xs≠[]:=by
 intro h0;have h1:=h.EX ok.E.1;have h2:=h.dl ok.D.1 (iK _);have h3:=ok.L;rw[h0]at h1;simp at h1;omega
theorem O4{x:LV}(o:okV x)(ok:dD x.l){xs:List Stp}{e:Int}(hc:Ch x.l 0 x.l.D xs e)(h:Heap)(lo:Nat) :
  (run lib).fn 14 [bI x] h lo=some (.tuple [.own 1 (ints (dS x.l xs)),.int .i64 0],h):=by
 have ev:=fun H lo=>wE o H lo;rw[qh.mpr ok]at ev;obtain⟨D1,D2⟩:=ok.D;obtain⟨N,hN⟩:∃ N:Nat,x.l.D=N:=⟨x.l.D.toNat,by omega⟩
 have er:=fun H lo=>XG (-1) N (by omega) H lo
 rw[<-hN]at er;have dc:=fun H lo=>JC x H lo;obtain⟨z,hz⟩:∃ z:Bool,z=decide (N=0):=⟨_,rfl⟩;have hlen:∀ st,(CO h x z st).length=h.length+5:=fun st=>by simp[CO]
 have g2:=OV (id:=h.length+0) (iv:=1) (H:=CO h x z) (nb:=h.length+5) (lo:=h.length) (step:=zf) (Iv:=AJ) o ok hlen (by omega) (fun st X hX hi=>ahd st X hX hi) (fun st X fr hX hi=>ahb (x:=x) h z st X fr hX hi) hc (List.replicate N (-1),0,.dead) (by simp[AJ,hN])
 obtain⟨_,g2⟩:=g2;obtain⟨st,hst⟩:∃ st,st=xs.foldl zf (List.replicate N (-1),0,.dead):=⟨_,rfl⟩;have hs1:st.1=dS x.l xs:=by rw[hst,ahc];unfold dS;rw[hN];rfl
 rw[<-hst]at g2;obtain⟨out,vb⟩:=st;simp only at hs1;subst hs1
 have hne:z=true->ints (dS x.l xs)≠[]:=by
  intro h1;rw[hz]at h1;have h0:N=0:=of_decide_eq_true h1;have:=ahe ok hc (by omega)
  unfold dS ints;simp[this]
 have g3:=vN (L:=lib) (lo:=h.length) (ns:=5) (s:=0) (g:=0) (it:=89) (v:=0) (caps:=[jF x]) (env:=CK h x) (h:=h) (b:=.dead)
  (fr:=[(0,.dead),(0,.dead),jD z (ints (List.replicate N (-1))),jE z (ints (List.replicate N (-1))),(1,.box [gQ h.length z (ints (List.replicate N (-1)))])])
  (fr':=[(1,.ay (O3 h x) .ready),vb,jD z (ints (dS x.l xs)),jE z (ints (dS x.l xs)),(1,.box [gQ h.length z (ints (dS x.l xs))])])
  (f:=.t 16) rfl (by omega) rfl g2 rfl
 obtain⟨h',gv⟩:=ag9 (h:=h) (fr:=[]) (r:=(1+0,.dead)) (b:=vb) (o:=(1,.box [gQ h.length z (ints (dS x.l xs))])) hne;simp only[CK,List.set_cons_zero]at g3;unfold bI at ev dc⊢;rw[aY (x:=BS) rfl rfl rfl rfl];by_cases h0:N=0
 ·have hz1:z=true:=by rw[hz];exact decide_eq_true h0
  subst hz1;subst h0;simp only[if_true]at er;have a1:gQ h.length true (ints (List.replicate 0 (-1)))=.aM 1 []:=rfl;have a2:jD true (ints (List.replicate 0 (-1)))=(0,.dead):=rfl;have a3:jE true (ints (List.replicate 0 (-1)))=(0,.dead):=rfl;rw[a1,a2,a3]at g3;have tk:∀ H:Heap,iZ ⟨h.length,h.length,5,none⟩ [(0,3)] (some (.aM 1 [],H))=some (.aM 1 [],H):=fun H=>by simp[iZ,iN,weak,dw]
  have lc:(AV.aM 1 []).cells=[.aM 1 []]:=rfl;have lv:(AV.aM 1 []).val=true:=rfl;simp(maxSteps:=30000000)(disch:=omega)only[go_sem,BS,ev,er,dc,tk,g3,gv,lc,lv]
 ·have hz1:z=false:=by rw[hz];exact decide_eq_false h0
  subst hz1;simp only[h0,if_false]at er;have hne2:ints (List.replicate N (-1))≠[]:=by simp[ints];omega
  have a1:gQ h.length false (ints (List.replicate N (-1)))=.ref (h.length+3) (0+1) 1 0 (ints (List.replicate N (-1))).length (ints (List.replicate N (-1))).length:=rfl;have a2:jD false (ints (List.replicate N (-1)))=(0,.dead):=rfl;have a3:jE false (ints (List.replicate N (-1)))=(0+1,.arr 1 (ints (List.replicate N (-1)))):=rfl;rw[a1,a2,a3]at g3;have tk:=BM (lo:=h.length) (ns:=5) (s:=3) (z:=1) (h:=h) (fr:=[(0,.dead),(0,.dead),(0,.dead),(0,.dead),(0,.dead)]) (b0:=(0,.dead)) (es:=ints (List.replicate N (-1))) (by omega) rfl hne2
  rw[show eP 1 (ints (List.replicate N (-1)))=.own 1 (ints (List.replicate N (-1)))from if_neg hne2]at tk
  simp(maxSteps:=30000000)(disch:=omega)only[go_sem,BS,ev,er,dc,tk,g3,gv]
end Go.VI.Dump
namespace Go.VI
theorem XK{lo base ns s:Nat}{p:Nat×Nat}{b0:Nat×av}{z:Nat}{es:List AV}(h:s<ns):(Cx.mk lo base ns (some p)).fit (bq (base+s) b0 z es)=true:=by
 unfold bq;split
 ·rfl
 ·simp[Cx.fit,AV.rJ,h]
end Go.VI
namespace Go.VI.Dump
open Go.VI.Num
/- BIGSTEPS -/
theorem XL(x:Int)(k:Nat):List.replicate (k+1) x=List.replicate k x++[x]:=by rw[<-List.replicate_append_replicate];rfl
theorem ahf{X:Stp}(hX:mI X){h fr:Heap}{R:Nat×av}{p:Nat×Nat}{v:Nat}{es:List Int}(hl:es.length<=700):∀(d k:Nat),k+d=(X.to-X.fr).toNat ->
  aA lib ⟨h.length,h.length,4,some p⟩ (.loop LK) ([(4,.aJ (h.length+3) 1 0),(5,.aJ (h.length+1) v 0),(18,.int .i64 (X.to-X.fr)),(19,.int .i64 k)],h++(R::(v,.box (dM X))::aX (0,.dead) 1 (ints (es++List.replicate k X.de))::(1,.box [bq (h.length+2) (0,.dead) 1 (ints (es++List.replicate k X.de))])::fr)) =
   some (.exit 2,([],h++(R::(v,.box (dM X))::aX (0,.dead) 1 (ints (es++List.replicate (X.to-X.fr).toNat X.de))::(1,.box [bq (h.length+2) (0,.dead) 1 (ints (es++List.replicate (X.to-X.fr).toNat X.de))])::fr))):=by
 obtain⟨x1,x2,x3,x4,x5,x6,x7,x8,x9,x10⟩:=hX;intro d
 induction d with
 |zero =>
  intro k hk;obtain rfl:k=(X.to-X.fr).toNat:=by omega
  have c:¬ ((X.to-X.fr).toNat:Int)<X.to-X.fr:=by omega
  rw[aR]
  simp(maxSteps:=30000000)(disch:=omega)only[go_sem,dM,c]
 |succ d ih =>
  intro k hk;have c:(k:Int)<X.to-X.fr:=by omega
  have e:=ih (k+1) (by omega)
  rw[XL X.de k,<-eH,xO,dF]at e;have hL:(es++List.replicate k X.de).length<=1000:=by rw[dZ,mh];omega
  generalize es++List.replicate k X.de=L at*;have ea:=jk (lo:=h.length) (ns:=4) (s:=2) (z:=1) (lim:=17592186044416) (h:=h) (fr:=R::(v,.box (dM X))::aX (0,.dead) 1 (ints L)::(1,.box [bq (h.length+2) (0,.dead) 1 (ints L)])::fr) (b0:=(0,.dead)) (es:=ints L) (xs:=[.int .i64 X.de]) (by omega) (by omega) rfl (by simp;omega)
  rw[<-OY (p:=p)]at ea;have es:=OZ (lo:=h.length) (ns:=4) (s:=3) (aj:=1) (off:=0) (h:=h) (p:=p) (fr:=R::(v,.box (dM X))::aX (0,.dead) 1 (ints L++[.int .i64 X.de])::(1,.box [bq (h.length+2) (0,.dead) 1 (ints L)])::fr) (v:=bq (h.length+2) (0,.dead) 1 (ints L++[.int .i64 X.de])) (aV _) (XK (by omega)) ⟨by rw[mr];rfl,qP _ _ _ _⟩
  simp only[dM]at ea es e⊢;rw[aR];simp(maxSteps:=30000000)(disch:=omega)only[go_sem,c,ea,es,e,mr]
def CP(h:Heap)(x:LV):Env:=[(2,.aD),(3,.int .i64 0),(4,.aJ (h.length+3) 1 0),(10,.fn 89 [jF x])]
def O5(h:Heap)(x:LV):bQ:=⟨1,h.length,h.length,4,CP h x⟩
def CQ(h:Heap)(x:LV)(st:AS):Heap:=h++[(1,.ay (O5 h x) .ready),st.2,aX (0,.dead) 1 (ints st.1),(1,.box [bq (h.length+2) (0,.dead) 1 (ints st.1)])]
def zh(st:AS)(X:Stp):AS:=(st.1++List.replicate (X.to-X.fr).toNat X.de,st.2.1+1,.box (dM X))
def AL(s a:Int)(st:AS):Prop:=(st.1.length:Int)=s
theorem ahg{x:LV}(h:Heap)(st:AS)(X:Stp)(fr:Heap)(hX:mI X)(hi:AL X.fr X.be st) :
  fF (run lib) ⟨h.length,h.length+4,3,none⟩ (h.length+0) 1 [jr X] (CQ h x st++fr)=some (.bool true,CQ h x (zh st X)++fr):=by
 obtain⟨out,v,b⟩:=st;simp only[AL]at hi;have hb:=hX.hi;have hba:=hX.to;obtain⟨D,hD⟩:∃ D:bQ,D=O5 h x:=⟨_,rfl⟩;simp only[CQ,zh,eH,List.cons_append,List.nil_append,<-hD]
 have ha:aA lib ⟨h.length,h.length,4,some (h.length+0,1)⟩ r1.fZ ((r1.ps.zip [jr X]).foldl (fun e p=>e.set p.1 p.2) (CP h x),h++((1,.ay D .ready)::(v,b)::aX (0,.dead) 1 (ints out)::(1,.box [bq (h.length+2) (0,.dead) 1 (ints out)])::fr)) =
   some (.norm,([(4,.aJ (h.length+3) 1 0),(5,.aJ (h.length+1) (v+1) 0)],h++((1,.ay D .ready)::(v+1,.box (dM X))::aX (0,.dead) 1 (ints out)::(1,.box [bq (h.length+2) (0,.dead) 1 (ints out)])::fr))):=by
  have em:bV ⟨h.length,h.length,4,some (h.length+0,1)⟩ 1 (.box [.int .i64 0,.int .i64 0,.int .i64 0,.int .i64 0,.int .i64 0,.bool false,.bool false]) (h++((1,.ay D .ready)::(v,b)::aX (0,.dead) 1 (ints out)::(1,.box [bq (h.length+2) (0,.dead) 1 (ints out)])::fr))=some (v+1,h++((1,.ay D .ready)::(v+1,.box [.int .i64 0,.int .i64 0,.int .i64 0,.int .i64 0,.int .i64 0,.bool false,.bool false])::aX (0,.dead) 1 (ints out)::(1,.box [bq (h.length+2) (0,.dead) 1 (ints out)])::fr)):=by
   rw[uU (by rfl)]
   simp(maxSteps:=30000000)(disch:=omega)only[go_sem]
  have es:dK ⟨h.length,h.length,4,some (h.length+0,1)⟩ (h++((1,.ay D .ready)::(v+1,.box [.int .i64 0,.int .i64 0,.int .i64 0,.int .i64 0,.int .i64 0,.bool false,.bool false])::aX (0,.dead) 1 (ints out)::(1,.box [bq (h.length+2) (0,.dead) 1 (ints out)])::fr)) 7 (.aJ (h.length+1) (v+1) 0) (jr X)=some (h++((1,.ay D .ready)::(v+1,.box (dM X))::aX (0,.dead) 1 (ints out)::(1,.box [bq (h.length+2) (0,.dead) 1 (ints out)])::fr)):=by
   rw[oz (by omega) (by rfl)]
   simp(maxSteps:=30000000)(disch:=omega)only[go_sem,jr,dM]
  simp(maxSteps:=30000000)(disch:=omega)only[go_sem,r1,CP,em,es,List.zip_cons_cons,vX,List.foldl_cons,nN]
 have hb:∃ gB,aA lib ⟨h.length,h.length,4,some (h.length+0,1)⟩ r1.body ([(4,.aJ (h.length+3) 1 0),(5,.aJ (h.length+1) (v+1) 0)],(h++((1,.ay D .ready)::(v+1,.box (dM X))::aX (0,.dead) 1 (ints out)::(1,.box [bq (h.length+2) (0,.dead) 1 (ints out)])::fr)).set (h.length+0) (1,.ay D .busy)) =
   some (.norm,(gB,h++((1,.ay D .busy)::(v+1,.box (dM X))::aX (0,.dead) 1 (ints (out++List.replicate (X.to-X.fr).toNat X.de))::(1,.box [bq (h.length+2) (0,.dead) 1 (ints (out++List.replicate (X.to-X.fr).toNat X.de))])::fr))):=by
  refine⟨[], ?_⟩;rw[eB];have e:=ahf hX (h:=h) (fr:=fr) (R:=(1,.ay D .busy)) (p:=(h.length+0,1)) (v:=v+1) (es:=out) (by omega) (X.to-X.fr).toNat 0 (by omega)
  have x1:=hX.fr;have x2:=hX.tf;simp only[List.replicate_zero,gP,fH]at e;simp only[dM]at e⊢;simp(maxSteps:=30000000)(disch:=omega)only[go_sem,r1,e]
 obtain⟨gB,hb⟩:=hb;have hg:(h++((1,av.ay D .ready)::(v,b)::aX (0,.dead) 1 (ints out)::(1,.box [bq (h.length+2) (0,.dead) 1 (ints out)])::fr))[h.length+0]?=some (1,.ay ⟨1,h.length,h.length,4,CP h x⟩ .ready):=by rw[bH,hD];rfl
 have:=uI (L:=lib) (cx:=⟨h.length,h.length+4,3,none⟩) hg (aV _) (by omega) (aV _) (by simp[jr,AV.jw,AV.closed]) (x:=r1) rfl rfl ha (by rw[bH];rfl) hb (by rw[bH];rfl)
 rw[this,eB];rfl
theorem ahh(xs:List Stp):∀ st:AS,(xs.foldl zh st).1=st.1++dR xs:=by
 induction xs with
 |nil=>intro st;simp[dR]
 |cons X xs ih=>intro st;rw[List.foldl_cons,ih];simp[zh,dR]
theorem ahi(st:AS)(X:Stp)(hX:mI X)(hi:AL X.fr X.be st):AL X.to X.af (zh st X):=by
 have:=hX.to;simp only[AL,zh,dZ,mh]at *;omega
theorem ahj{x:LV}(o:okV x)(hv:¬ dD x.l)(h:Heap)(lo:Nat):(run lib).fn 16 [bI x] h lo=some (.tuple [.own 0 [],.int .i64 200],h):=by
 have e:=fun H lo=>wE o H lo
 have:lF x.l=false:=by
  cases hb:lF x.l
  ·rfl
  ·exact absurd (qh.mp hb) hv
 rw[this]at e;unfold bI at e⊢;rw[aY (x:=EG) rfl rfl rfl rfl];simp(maxSteps:=30000000)(disch:=omega)only[go_sem,EG,e]
theorem XM{x:LV}(o:okV x)(ok:dD x.l){xs:List Stp}{e:Int}(hc:Ch x.l 0 x.l.D xs e)(h:Heap)(lo:Nat) :
  (run lib).fn 16 [bI x] h lo=some (.tuple [eP 1 (ints (dR xs)),.int .i64 0],h):=by
 have ev:=fun H lo=>wE o H lo;rw[qh.mpr ok]at ev;obtain⟨D1,D2⟩:=ok.D;have dc:=fun H lo=>JC x H lo;have hlen:∀ st,(CQ h x st).length=h.length+4:=fun st=>by simp[CQ]
 have g2:=OV (id:=h.length+0) (iv:=1) (H:=CQ h x) (nb:=h.length+4) (lo:=h.length) (step:=zh) (Iv:=AL) o ok hlen (by omega) (fun st X hX hi=>ahi st X hX hi) (fun st X fr hX hi=>ahg (x:=x) h st X fr hX hi) hc ([],0,.dead) (by simp[AL])
 obtain⟨_,g2⟩:=g2;obtain⟨st,hst⟩:∃ st,st=xs.foldl zh ([],0,.dead):=⟨_,rfl⟩;have hs1:st.1=dR xs:=by rw[hst,ahh];simp
 rw[<-hst]at g2;obtain⟨out,vb⟩:=st;simp only at hs1;subst hs1
 have g3:=vN (L:=lib) (lo:=h.length) (ns:=4) (s:=0) (g:=1) (it:=89) (v:=0) (caps:=[jF x]) (env:=CP h x) (h:=h) (b:=.dead)
  (fr:=[(0,.dead),(0,.dead),(0,.dead),(1,.box [.aD])])
  (fr':=[(1,.ay (O5 h x) .ready),vb,aX (0,.dead) 1 (ints (dR xs)),(1,.box [bq (h.length+2) (0,.dead) 1 (ints (dR xs))])])
  (f:=.t 10) rfl (by omega) rfl g2 rfl
 have g4:=mq (s:=2) (z:=1) (h:=h) (b0:=(0,.dead)) (es:=ints (dR xs)) (fr:=[(1+0,.dead),vb,aX (0,.dead) 1 (ints (dR xs)),(1,.box [bq (h.length+2) (0,.dead) 1 (ints (dR xs))])]) rfl;simp only[CP,List.set_cons_zero]at g3;unfold bI at ev dc⊢;rw[aY (x:=EG) rfl rfl rfl rfl];simp(maxSteps:=30000000)(disch:=omega)only[go_sem,EG,ev,dc,g3,g4]
end Go.VI.Dump
namespace Go.VI.Dump
open Go.VI.Num
/- BIGSTEPS -/
def qm(l:dI)(X:Stp)(out:List Int):List Int:=List.zipWith (fun(c:Pr) o=>uO l c.2 o X) l.C out
def jY(l:dI)(X:Stp)(out:List Int)(k:Nat):List Int:=(qm l X out).take k++out.drop k
theorem AO{l:dI}{X:Stp}{out:List Int}(h:out.length=l.C.length):(qm l X out).length=l.C.length:=by simp[qm,h]
theorem XO{l:dI}{X:Stp}{out:List Int}(h:out.length=l.C.length){k:Nat}(hk:k<=l.C.length):(jY l X out k).length=l.C.length:=by
 simp[jY,AO h,h];omega
theorem XP{l:dI}{X:Stp}{out:List Int}(h:out.length=l.C.length){k:Nat}(hk:k<l.C.length):(jY l X out k)[k]'(by rw[XO h (by omega)];exact hk)=out[k]:=by
 have:((qm l X out).take k).length=k:=by rw[jA,AO h];omega
 unfold jY;rw[List.getElem_append_right (by omega)]
 simp[this]
theorem ahk{l:dI}{X:Stp}{out:List Int}(h:out.length=l.C.length){k:Nat}(hk:k<l.C.length):jY l X out (k+1)=(jY l X out k).set k (uO l l.C[k].2 out[k] X):=by
 have h1:((qm l X out).take k).length=k:=by rw[jA,AO h];omega
 have h2:(qm l X out)[k]'(by rw[AO h];exact hk)=uO l l.C[k].2 out[k] X:=by simp[qm]
 unfold jY;rw[List.set_append_right _ _ (by omega),h1,Nat.sub_self,qU (by rw[AO h];exact hk),h2,gY (show k<out.length by omega),List.set_cons_zero,eH,List.singleton_append]
def fo(n:Nat)(x:LV):AV:=if x.l.C.length=0 then .aM 1 []else .ref (n+3) 1 1 0 x.l.C.length x.l.C.length
def fb(x:LV)(out:List Int):Nat×av:=if x.l.C.length=0 then(0,.dead) else(1,.arr 1 (ints out))
def CR:List Pr->Nat×av->Nat×av
 |[],B=>B
 |q::r,B=>CR r (B.1+1,.box [.int .i64 q.1,.int .i64 q.2])
theorem ahl{x:LV}(o:okV x)(h4:x.l.C.length<=4){X:Stp}{h fr:Heap}{R:Nat×av}{p:Nat×Nat}{v:Nat}{out:List Int}(hl:out.length=x.l.C.length):∀(d k:Nat) (B:Nat×av),k+d=x.l.C.length ->
  aA lib ⟨h.length,h.length,5,some p⟩ (.loop LU) ([(1,jF x),(4,.aJ (h.length+4) 1 0),(5,.aJ (h.length+1) v 0),(22,cV x),(23,.int .i64 x.l.C.length),(24,.int .i64 k)],h++(R::(v,.box (dM X))::B::fb x (jY x.l X out k)::(1,.box [fo h.length x])::fr)) =
   some (.exit 2,([],h++(R::(v,.box (dM X))::CR (x.l.C.drop k) B::fb x (qm x.l X out)::(1,.box [fo h.length x])::fr))):=by
 intro d
 induction d with
 |zero =>
  intro k B hk;obtain rfl:k=x.l.C.length:=by omega
  have:jY x.l X out x.l.C.length=qm x.l X out:=by
   unfold jY;rw[pI (by rw[AO hl];exact aV _),kQ (by omega),gP]
  rw[this,kE,CR,aR]
  simp(maxSteps:=30000000)(disch:=omega)only[go_sem,dM,dU]
 |succ d ih =>
  intro k B hk;have hk':k<x.l.C.length:=by omega
  have c:(k:Int)<x.l.C.length:=by omega
  have FI:fo h.length x=.ref (h.length+3) 1 1 0 x.l.C.length x.l.C.length:=if_neg (by omega)
  have FJ:∀ o,fb x o=(1,.arr 1 (ints o)):=fun o=>if_neg (by omega)
  simp only[FI,FJ]at ih⊢;obtain⟨v0,b0⟩:=B;have e3:bP 2 (cV x) (.int .i64 k)=some k:=by rw[dz (o.sc h) (by omega) (by simp;omega)];simp
  have e4:=fun off (g:Heap)=>dx (off:=off) ((o.sc h).elems g) (show k<(pts x.l.C).length by simp;omega)
  simp only[tC,pt]at e4;have hkl:=XO (X:=X) hl (k:=k) (by omega)
  have hlen:(ints (jY x.l X out k)).length=x.l.C.length:=by rw[fE,hkl]
  have f0:=fun(a b c' d':Nat×av) (g:Heap)=>Sl.ad4 (h:=h++(a::b::c'::(1,.arr 1 (ints (jY x.l X out k)))::d'::g)) (id:=h.length+3) (aj:=1) (z:=1) (es:=ints (jY x.l X out k)) (by rw[bH];rfl)
  rw[hlen]at f0;have f3:bP 1 (.ref (h.length+3) 1 1 0 x.l.C.length x.l.C.length) (.int .i64 k)=some k:=by rw[dz (f0 R R R R []) (by omega) (by rw[hlen];exact c)];simp
  have f4:=fun off a b c' d' g=>dx (off:=off) (f0 a b c' d' g).eO (show k<(ints (jY x.l X out k)).length by rw[hlen];exact hk')
  simp only[lW,XP hl hk']at f4;have e:=ih (k+1) (v0+1,.box [.int .i64 x.l.C[k].1,.int .i64 x.l.C[k].2]) (by omega)
  rw[ahk hl hk',dF]at e;have st:=fun(a b c' d':Nat×av) (g:Heap) n=>Lx (cx:=⟨h.length,h.length,5,some p⟩) (h:=h++(a::b::c'::(1,.arr 1 (ints (jY x.l X out k)))::d'::g)) (id:=h.length+3) (aj:=1) (o:=0) (len:=x.l.C.length) (fill:=x.l.C.length) (i:=k) (k:=.i64) (l:=jY x.l X out k) (n:=n) (by rw[bH];rfl) hkl (by omega) hk' (by simp)
  simp only[eB,List.set_cons_succ,List.set_cons_zero,je]at st
  have hsame:(jY x.l X out k).set k out[k]=jY x.l X out k:=by
   have:=XP (X:=X) hl hk'
   conv=>lhs;rw[<-this]
   exact List.set_getElem_self _
  simp only[show ∀ l:List Int,l.map (AV.int .i64)=ints l from fun _=>rfl]at st
  have CS:bV ⟨h.length,h.length,5,some p⟩ 2 (.box [.int .i64 0,.int .i64 0]) (h++(R::(v,.box (dM X))::(v0,b0)::(1,.arr 1 (ints (jY x.l X out k)))::(1,.box [.ref (h.length+3) 1 1 0 x.l.C.length x.l.C.length])::fr))=some (v0+1,h++(R::(v,.box (dM X))::(v0+1,.box [.int .i64 0,.int .i64 0])::(1,.arr 1 (ints (jY x.l X out k)))::(1,.box [.ref (h.length+3) 1 1 0 x.l.C.length x.l.C.length])::fr)):=by
   rw[uU (by rfl)]
   simp(maxSteps:=30000000)(disch:=omega)only[go_sem]
  have CU:∀ a b:Int,dK ⟨h.length,h.length,5,some p⟩ (h++(R::(v,.box (dM X))::(v0+1,.box [.int .i64 0,.int .i64 0])::(1,.arr 1 (ints (jY x.l X out k)))::(1,.box [.ref (h.length+3) 1 1 0 x.l.C.length x.l.C.length])::fr)) 2 (.aJ (h.length+2) (v0+1) 0) (.agg [.int .i64 a,.int .i64 b])=some (h++(R::(v,.box (dM X))::(v0+1,.box [.int .i64 a,.int .i64 b])::(1,.arr 1 (ints (jY x.l X out k)))::(1,.box [.ref (h.length+3) 1 1 0 x.l.C.length x.l.C.length])::fr)):=by
   intro a b;rw[oz (by omega) (by rfl)]
   simp(maxSteps:=30000000)(disch:=omega)only[go_sem]
  rw[gY hk',CR];unfold uO at e;simp only[dM]at e CS CU⊢;generalize x.l.C[k]=q at*;obtain⟨q1,q2⟩:=q;generalize out[k]=y at*;rw[aR];by_cases c1:y=x.l.L
  ·by_cases c2:q2<=X.fr
   ·by_cases c3:X.de=x.l.D
    ·rw[if_pos ⟨c1,c2,c3⟩]at e;simp only[c3]at e CS CU⊢;simp(maxSteps:=30000000)(disch:=omega)only[go_sem,c,e3,e4,f3,f4,CS,CU,c1,c2,st,e]
    ·rw[if_neg (fun h=>c3 h.2.2),hsame]at e;simp(maxSteps:=30000000)(disch:=omega)only[go_sem,c,e3,e4,f3,f4,CS,CU,c1,c2,c3,e]
   ·rw[if_neg (fun h=>c2 h.2.1),hsame]at e;simp(maxSteps:=30000000)(disch:=omega)only[go_sem,c,e3,e4,f3,f4,CS,CU,c1,c2,e]
  ·rw[if_neg (fun h=>c1 h.1),hsame]at e;simp(maxSteps:=30000000)(disch:=omega)only[go_sem,c,e3,e4,f3,f4,CS,CU,c1,e]
abbrev FS:=List Int×(Nat×av)×(Nat×av)
def CV(h:Heap)(x:LV):Env:=[(1,jF x),(2,.aD),(3,.int .i64 0),(4,.aJ (h.length+4) 1 0),(19,.fn 89 [jF x])]
def O6(h:Heap)(x:LV):bQ:=⟨2,h.length,h.length,5,CV h x⟩
def CW(h:Heap)(x:LV)(st:FS):Heap:=h++[(1,.ay (O6 h x) .ready),st.2.1,st.2.2,fb x st.1,(1,.box [fo h.length x])]
def xP(x:LV)(st:FS)(X:Stp):FS:=(qm x.l X st.1,(st.2.1.1+1,.box (dM X)),CR x.l.C st.2.2)
def FK(x:LV)(s a:Int)(st:FS):Prop:=st.1.length=x.l.C.length
theorem ahm{x:LV}(o:okV x)(h4:x.l.C.length<=4)(h:Heap)(st:FS)(X:Stp)(fr:Heap)(hX:mI X)(hi:FK x X.fr X.be st) :
  fF (run lib) ⟨h.length,h.length+5,3,none⟩ (h.length+0) 1 [jr X] (CW h x st++fr)=some (.bool true,CW h x (xP x st X)++fr):=by
 obtain⟨out,⟨v,b⟩,B⟩:=st;simp only[FK]at hi;obtain⟨D,hD⟩:∃ D:bQ,D=O6 h x:=⟨_,rfl⟩;simp only[CW,xP,eH,List.cons_append,List.nil_append,<-hD]
 have ha:aA lib ⟨h.length,h.length,5,some (h.length+0,1)⟩ r2.fZ ((r2.ps.zip [jr X]).foldl (fun e p=>e.set p.1 p.2) (CV h x),h++((1,.ay D .ready)::(v,b)::B::fb x out::(1,.box [fo h.length x])::fr)) =
   some (.norm,([(1,jF x),(4,.aJ (h.length+4) 1 0),(5,.aJ (h.length+1) (v+1) 0)],h++((1,.ay D .ready)::(v+1,.box (dM X))::B::fb x out::(1,.box [fo h.length x])::fr))):=by
  have em:bV ⟨h.length,h.length,5,some (h.length+0,1)⟩ 1 (.box [.int .i64 0,.int .i64 0,.int .i64 0,.int .i64 0,.int .i64 0,.bool false,.bool false]) (h++((1,.ay D .ready)::(v,b)::B::fb x out::(1,.box [fo h.length x])::fr))=some (v+1,h++((1,.ay D .ready)::(v+1,.box [.int .i64 0,.int .i64 0,.int .i64 0,.int .i64 0,.int .i64 0,.bool false,.bool false])::B::fb x out::(1,.box [fo h.length x])::fr)):=by
   rw[uU (by rfl)]
   simp(maxSteps:=30000000)(disch:=omega)only[go_sem]
  have es:dK ⟨h.length,h.length,5,some (h.length+0,1)⟩ (h++((1,.ay D .ready)::(v+1,.box [.int .i64 0,.int .i64 0,.int .i64 0,.int .i64 0,.int .i64 0,.bool false,.bool false])::B::fb x out::(1,.box [fo h.length x])::fr)) 7 (.aJ (h.length+1) (v+1) 0) (jr X)=some (h++((1,.ay D .ready)::(v+1,.box (dM X))::B::fb x out::(1,.box [fo h.length x])::fr)):=by
   rw[oz (by omega) (by rfl)]
   simp(maxSteps:=30000000)(disch:=omega)only[go_sem,jr,dM]
  simp(maxSteps:=30000000)(disch:=omega)only[go_sem,r2,CV,em,es,List.zip_cons_cons,vX,List.foldl_cons,nN]
 have hb:∃ gB,aA lib ⟨h.length,h.length,5,some (h.length+0,1)⟩ r2.body ([(1,jF x),(4,.aJ (h.length+4) 1 0),(5,.aJ (h.length+1) (v+1) 0)],(h++((1,.ay D .ready)::(v+1,.box (dM X))::B::fb x out::(1,.box [fo h.length x])::fr)).set (h.length+0) (1,.ay D .busy)) =
   some (.norm,(gB,h++((1,.ay D .busy)::(v+1,.box (dM X))::CR x.l.C B::fb x (qm x.l X out)::(1,.box [fo h.length x])::fr))):=by
  refine⟨[], ?_⟩;rw[eB];have e:=ahl o h4 (X:=X) (h:=h) (fr:=fr) (R:=(1,.ay D .busy)) (p:=(h.length+0,1)) (v:=v+1) (out:=out) hi x.l.C.length 0 B (by omega)
  have e0:jY x.l X out 0=out:=by simp[jY]
  have ll:=bK (o.sc h).len;rw[jq]at ll;simp only[e0,List.drop_zero,fH]at e;simp only[dM]at e⊢;simp(maxSteps:=30000000)(disch:=omega)only[go_sem,r2,ll,e]
 obtain⟨gB,hb⟩:=hb;have hg:(h++((1,av.ay D .ready)::(v,b)::B::fb x out::(1,.box [fo h.length x])::fr))[h.length+0]?=some (1,.ay ⟨2,h.length,h.length,5,CV h x⟩ .ready):=by rw[bH,hD];rfl
 have:=uI (L:=lib) (cx:=⟨h.length,h.length+5,3,none⟩) hg (aV _) (by omega) (aV _) (by simp[jr,AV.jw,AV.closed]) (x:=r2) rfl rfl ha (by rw[bH];rfl) hb (by rw[bH];rfl)
 rw[this,eB];rfl
def jK(l:dI)(xs:List Stp):List Int:=l.C.map fun c=>sN l c.2 xs
theorem ahn{x:LV}(xs:List Stp):∀ st:FS,st.1.length=x.l.C.length->(xs.foldl (xP x) st).1=List.zipWith (fun(c:Pr) o=>xs.foldl (uO x.l c.2) o) x.l.C st.1:=by
 induction xs with
 |nil =>
  intro st hl;simp only[nN];apply List.ext_getElem
  ·simp[hl]
  ·intro i h1 h2;simp
 |cons X xs ih =>
  intro st hl;rw[List.foldl_cons,ih _ (by simp[xP,qm,hl])]
  apply List.ext_getElem
  ·simp[xP,qm]
  ·intro i h1 h2;simp[xP,qm]
theorem aho{l:dI}(ok:dD l){xs:List Stp}{e:Int}(h:Ch l 0 l.D xs e):List.zipWith (fun(c:Pr) o=>xs.foldl (uO l c.2) o) l.C (List.replicate l.C.length l.L)=jK l xs:=by
 have hf:=h.fr ok.E.1;apply List.ext_getElem
 ·simp[jK]
 ·intro i h1 h2;simp only[List.getElem_zipWith,List.getElem_replicate,jK,List.getElem_map];exact VP xs fun x hx=>by have:=hf x hx;omega
theorem ahp{x:LV}(o:okV x)(hv:¬ dD x.l)(h:Heap)(lo:Nat):(run lib).fn 18 [bI x] h lo=some (.tuple [.own 0 [],.int .i64 200],h):=by
 have e:=fun H lo=>wE o H lo
 have:lF x.l=false:=by
  cases hb:lF x.l
  ·rfl
  ·exact absurd (qh.mp hb) hv
 rw[this]at e;unfold bI at e⊢;rw[aY (x:=x18) rfl rfl rfl rfl];simp(maxSteps:=30000000)(disch:=omega)only[go_sem,x18,e]
def CX(es:List AV):AV:=if es=[]then .aM 1 []else .own 1 es
theorem XQ{x:LV}(o:okV x)(ok:dD x.l){xs:List Stp}{e:Int}(hc:Ch x.l 0 x.l.D xs e)(h:Heap)(lo:Nat) :
  (run lib).fn 18 [bI x] h lo=some (.tuple [CX (ints (jK x.l xs)),.int .i64 0],h):=by
 have ev:=fun H lo=>wE o H lo;rw[qh.mpr ok]at ev;have h4:=ok.c4;have er:=fun H lo=>XG x.l.L x.l.C.length (by omega) H lo
 have dc:=fun H lo=>JC x H lo;have ll:=bK (o.sc h).len;rw[jq]at ll;have hlen:∀ st,(CW h x st).length=h.length+5:=fun st=>by simp[CW]
 have g2:=OV (id:=h.length+0) (iv:=1) (H:=CW h x) (nb:=h.length+5) (lo:=h.length) (step:=xP x) (Iv:=FK x) o ok hlen (by omega) (fun st X hX hi=>by simp only[FK,xP]at *;rw[AO hi]) (fun st X fr hX hi=>ahm o h4 h st X fr hX hi) hc (List.replicate x.l.C.length x.l.L,(0,.dead),(0,.dead)) (by simp[FK])
 obtain⟨_,g2⟩:=g2;obtain⟨st,hst⟩:∃ st,st=xs.foldl (xP x) (List.replicate x.l.C.length x.l.L,(0,.dead),(0,.dead)):=⟨_,rfl⟩;have hs1:st.1=jK x.l xs:=by rw[hst,ahn _ _ (by simp)];exact aho ok hc
 rw[<-hst]at g2;obtain⟨out,va,vb⟩:=st;simp only at hs1;subst hs1
 have g3:=vN (L:=lib) (lo:=h.length) (ns:=5) (s:=0) (g:=2) (it:=89) (v:=0) (caps:=[jF x]) (env:=CV h x) (h:=h) (b:=.dead)
  (fr:=[(0,.dead),(0,.dead),(0,.dead),fb x (List.replicate x.l.C.length x.l.L),(1,.box [fo h.length x])])
  (fr':=[(1,.ay (O6 h x) .ready),va,vb,fb x (jK x.l xs),(1,.box [fo h.length x])])
  (f:=.t 19) rfl (by omega) rfl g2 rfl
 simp only[CV,List.set_cons_zero]at g3;have hfl:(jK x.l xs).length=x.l.C.length:=by simp[jK]
 unfold bI at ev dc⊢;rw[aY (x:=x18) rfl rfl rfl rfl];by_cases h0:x.l.C.length=0
 ·have hfe:jK x.l xs=[]:=kZ (by omega)
  have hm:CX (ints (jK x.l xs))=.aM 1 []:=by rw[hfe];rfl
  have FI:fo h.length x=.aM 1 []:=if_pos h0;have FJ:∀ o,fb x o=(0,.dead):=fun o=>if_pos h0;rw[hm];simp only[FI,FJ]at g3;simp only[h0,if_true,fH]at er ll;have tk:∀ H:Heap,iZ ⟨h.length,h.length,5,none⟩ [(0,3)] (some (.aM 1 [],H))=some (.aM 1 [],H):=fun H=>by simp[iZ,iN,weak,dw]
  have lc:(AV.aM 1 []).cells=[.aM 1 []]:=rfl;have lv:(AV.aM 1 []).val=true:=rfl;have gv:∀ H:Heap,give h.length (.aM 1 []) H=some (.aM 1 [],H):=fun H=>by simp[give,aU]
  simp(maxSteps:=30000000)(disch:=omega)only[go_sem,x18,ev,er,dc,ll,tk,g3,gv,lc,lv]
 ·have hm:CX (ints (jK x.l xs))=.own 1 (ints (jK x.l xs)):=if_neg fun h=>h0 (by rw[<-hfl,<-fE,h];rfl)
  rw[hm];have FI:fo h.length x=.ref (h.length+3) (0+1) 1 0 x.l.C.length x.l.C.length:=if_neg h0;have FJ:∀ o,fb x o=(0+1,.arr 1 (ints o)):=fun o=>if_neg h0;simp only[FI,FJ]at g3;simp only[h0,if_false]at er;have hne2:ints (List.replicate x.l.C.length x.l.L)≠[]:=by simp[ints];exact fun h=>h0 (by rw[h];rfl)
  have tk:=BM (lo:=h.length) (ns:=5) (s:=3) (z:=1) (h:=h) (fr:=[(0,.dead),(0,.dead),(0,.dead),(0,.dead),(0,.dead)]) (b0:=(0,.dead)) (es:=ints (List.replicate x.l.C.length x.l.L)) (by omega) rfl hne2
  rw[show eP 1 (ints (List.replicate x.l.C.length x.l.L))=.own 1 (ints (List.replicate x.l.C.length x.l.L))from if_neg hne2,fE,mh]at tk
  have gv:=Ew (h:=h) (s:=3) (aj:=0+1) (z:=1) (fr:=[(1+0,.dead),va,vb,(0+1,.arr 1 (ints (jK x.l xs))),(1,.box [.ref (h.length+3) (0+1) 1 0 x.l.C.length x.l.C.length])]) (es:=ints (jK x.l xs)) rfl;rw[fE,hfl]at gv;simp(maxSteps:=30000000)(disch:=omega)only[go_sem,x18,ev,er,dc,ll,tk,g3,gv]
end Go.VI.Dump
namespace Go.VI.Dump
open Go.VI.Num
/- BIGSTEPS -/
def xQ(out:List Pr)(f:Int):List Pr->List Pr
 |[]=>out
 |c::cs=>xQ (if f<c.1 then out++[(f,c.1)]else out) c.2 cs
def zi(f:Int):List Pr->Int
 |[]=>f
 |c::cs=>zi c.2 cs
theorem XR{L:Int}:∀(cs:List Pr) (out:List Pr) (f:Int),(xQ out f cs)++(if zi f cs<L then[(zi f cs,L)] else[])=out++sO L f cs
 |[],out,f=>rfl
 |c::cs,out,f=>by
  rw[xQ,zi,XR cs,sO];split<;>simp
theorem FL(a:List Pr)(x:Pr):pts (a++[x])=pts a++[.agg [.int .i64 x.1,.int .i64 x.2]]:=by simp[pts,pt]
theorem ahq{x:LV}(o:okV x)(h4:x.l.C.length<=4)(h:Heap):∀(d k:Nat) (out:List Pr) (f:Int) (B0 B2:Nat×av),k+d=x.l.C.length->out.length<=k ->
  ∃ oJ,aA lib ⟨h.length,h.length,3,none⟩ (.loop LY) ([(1,jF x),(4,bq (h.length+1) (0,.dead) 2 (pts out)),(5,.int .i64 f),(12,cV x),(13,.int .i64 x.l.C.length),(14,.int .i64 k)],h++[B0,aX (0,.dead) 2 (pts out),B2]) =
   some (.exit 0,([(1,jF x),(4,bq (h.length+1) (0,.dead) 2 (pts (xQ out f (x.l.C.drop k)))),(5,.int .i64 (zi f (x.l.C.drop k)))],h++[B0,aX (0,.dead) 2 (pts (xQ out f (x.l.C.drop k))),oJ]))/\(xQ out f (x.l.C.drop k)).length<=x.l.C.length:=by
 intro d
 induction d with
 |zero =>
  intro k out f B0 B2 hk hl;obtain rfl:k=x.l.C.length:=by omega
  refine⟨B2, ?_,by rw[kE];exact hl⟩
  rw[kE,xQ,zi,aR]
  simp(maxSteps:=30000000)(disch:=omega)only[go_sem,dU]
 |succ d ih =>
  intro k out f B0 B2 hk hl;have hk':k<x.l.C.length:=by omega
  have c:(k:Int)<x.l.C.length:=by omega
  obtain⟨v0,b0⟩:=B2;have e3:bP 2 (cV x) (.int .i64 k)=some k:=by rw[dz (o.sc h) (by omega) (by simp;omega)];simp
  have e4:=fun off (g:Heap)=>dx (off:=off) ((o.sc h).elems g) (show k<(pts x.l.C).length by simp;omega)
  simp only[tC,pt]at e4;rw[gY hk',xQ,zi];generalize x.l.C[k]=q at*;obtain⟨q1,q2⟩:=q;simp only at e4⊢;by_cases c1:f<q1
  ·obtain⟨oJ,e,hl2⟩:=ih (k+1) (out++[(f,q1)]) q2 B0 (v0+1,.box [.int .i64 q1,.int .i64 q2]) (by omega) (by simp;omega)
   rw[FL,dF]at e;rw[if_pos c1];refine⟨oJ, ?_,hl2⟩;have e5:=fun b=>jk (lo:=h.length) (ns:=3) (s:=1) (z:=2) (lim:=8796093022208) (h:=h) (fr:=[B0,aX (0,.dead) 2 (pts out),b]) (b0:=(0,.dead)) (es:=pts out) (xs:=[.agg [.int .i64 f,.int .i64 q1]]) (by omega) (by omega) rfl (by simp;omega)
   rw[aR];simp(maxSteps:=30000000)(disch:=omega)only[go_sem,c,e3,e4,c1,e5,e]
  ·obtain⟨oJ,e,hl2⟩:=ih (k+1) out q2 B0 (v0+1,.box [.int .i64 q1,.int .i64 q2]) (by omega) (by omega)
   rw[dF]at e;rw[if_neg c1];refine⟨oJ, ?_,hl2⟩;rw[aR];simp(maxSteps:=30000000)(disch:=omega)only[go_sem,c,e3,e4,c1,e]
theorem XT{x:LV}(o:okV x)(hv:¬ dD x.l)(h:Heap)(lo:Nat):(run lib).fn 20 [bI x] h lo=some (.tuple [.own 0 [],.int .i64 200],h):=by
 have e:=fun H lo=>wE o H lo
 have:lF x.l=false:=by
  cases hb:lF x.l
  ·rfl
  ·exact absurd (qh.mp hb) hv
 rw[this]at e;unfold bI at e⊢;rw[aY (x:=x20) rfl rfl rfl rfl];simp(maxSteps:=30000000)(disch:=omega)only[go_sem,x20,e]
theorem JD{x:LV}(o:okV x)(ok:dD x.l)(h:Heap)(lo:Nat):(run lib).fn 20 [bI x] h lo=some (.tuple [eP 2 (pts (gG x.l)),.int .i64 0],h):=by
 have ev:=fun H lo=>wE o H lo;rw[qh.mpr ok]at ev;have h4:=ok.c4;have ll:=bK (o.sc h).len;rw[jq]at ll;obtain⟨oJ,e,hl⟩:=ahq o h4 h x.l.C.length 0 [] 0 (0,.dead) (0,.dead) (by omega) (by simp)
 simp only[List.drop_zero,fH,show pts []=[]from rfl,oU,qO]at e hl
 have eq:=XR (L:=x.l.L) x.l.C [] 0;rw[List.nil_append]at eq;unfold gG;rw[<-eq];generalize xQ [] 0 x.l.C=A at*;generalize zi 0 x.l.C=F at*;unfold bI at ev⊢;rw[aY (x:=x20) rfl rfl rfl rfl];by_cases c:F<x.l.L
 ·rw[if_pos c,FL];by_cases h0:pts A=[]
  ·have ap:dP ⟨h.length,h.length,3,none⟩ 0 2 8796093022208 .aD [.agg [.int .i64 F,.int .i64 x.l.L]] (h++[(0,.dead),(0,.dead),oJ])=some (bq (h.length+0) (0,.dead) 2 [.agg [.int .i64 F,.int .i64 x.l.L]],h++[aX (0,.dead) 2 [.agg [.int .i64 F,.int .i64 x.l.L]],(0,.dead),oJ]):=by
    have:=jk (lo:=h.length) (ns:=3) (s:=0) (z:=2) (lim:=8796093022208) (h:=h) (fr:=[(0,.dead),(0,.dead),oJ]) (b0:=(0,.dead)) (es:=[]) (xs:=[.agg [.int .i64 F,.int .i64 x.l.L]]) (by omega) (by omega) rfl (by simp)
    rw[oU]at this;rw[this];rfl
   have g4:=mq (s:=0) (z:=2) (h:=h) (b0:=(0,.dead)) (es:=[.agg [.int .i64 F,.int .i64 x.l.L]]) (fr:=[aX (0,.dead) 2 [.agg [.int .i64 F,.int .i64 x.l.L]],(0,.dead),oJ]) rfl;rw[h0,oU,qO]at e;rw[h0,List.nil_append];simp(maxSteps:=30000000)(disch:=omega)only[go_sem,x20,ev,ll,e,c,ap,g4]
  ·have ap:dP ⟨h.length,h.length,3,none⟩ 0 2 8796093022208 (bq (h.length+1) (0,.dead) 2 (pts A)) [.agg [.int .i64 F,.int .i64 x.l.L]] (h++[(0,.dead),aX (0,.dead) 2 (pts A),oJ])=some (bq (h.length+1) (0,.dead) 2 (pts A++[.agg [.int .i64 F,.int .i64 x.l.L]]),h++[(0,.dead),aX (0,.dead) 2 (pts A++[.agg [.int .i64 F,.int .i64 x.l.L]]),oJ]):=by
    rw[kF h0,lq h0,kF (by simp),lq (by simp),xB (by rw[bH];rfl) (by simp) (by simp;omega),eB,dZ]
    rfl
   have g4:=mq (s:=1) (z:=2) (h:=h) (b0:=(0,.dead)) (es:=pts A++[.agg [.int .i64 F,.int .i64 x.l.L]]) (fr:=[(0,.dead),aX (0,.dead) 2 (pts A++[.agg [.int .i64 F,.int .i64 x.l.L]]),oJ]) rfl;simp(maxSteps:=30000000)(disch:=omega)only[go_sem,x20,ev,ll,e,c,ap,g4]
 ·rw[if_neg c,gP];have g4:=mq (s:=1) (z:=2) (h:=h) (b0:=(0,.dead)) (es:=pts A) (fr:=[(0,.dead),aX (0,.dead) 2 (pts A),oJ]) rfl;simp(maxSteps:=30000000)(disch:=omega)only[go_sem,x20,ev,ll,e,c,g4]
end Go.VI.Dump
