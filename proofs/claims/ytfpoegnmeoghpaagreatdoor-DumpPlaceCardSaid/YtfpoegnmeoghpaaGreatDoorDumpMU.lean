/- What the functions on integers compute, part MU. -/
import Derived.Test.YtfpoegnmeoghpaaGreatDoorDumpMB
import Derived.Test.YtfpoegnmeoghpaaGreatDoorDumpMA
import Derived.Test.YtfpoegnmeoghpaaGreatDoorVIRF
set_option linter.unusedVariables false
set_option linter.unusedSimpArgs false
namespace Go.VI.Dump
open Go.VI.Num
theorem acD{h:Heap}{z:Nat}{v:AV}{es:List AV}(s:Sl h z v es):v.val=true/\v.cells=[v]:=by
 have:=s.DC;cases v<;>simp[wF]at this<;>exact⟨rfl,rfl⟩
def pt(p:Pr):AV:=.agg [.int .i64 p.1,.int .i64 p.2]
def pts(l:List Pr):List AV:=l.map pt
@[simp] theorem Z0 (l:List Pr):(pts l).length=l.length:=by simp [pts]
theorem ajx(l:List Pr)(k:Nat)(h:k<(pts l).length):(pts l)[k]=pt (l[k]'(by simpa using h)):=by simp[pts]
def Ny(f:Bool)(z:Nat)(es:List AV):AV:=if f then .fT z es else .eY z es
@[go_sem] theorem aLc(f:Bool)(z:Nat)(es:List AV):(Ny f z es).val=true:=by unfold Ny;split<;>rfl
@[go_sem] theorem aLd(f:Bool)(z:Nat)(es:List AV):(Ny f z es).cells=[Ny f z es]:=by unfold Ny;split<;>rfl
@[go_sem] theorem aLe(f:Bool)(z:Nat)(es:List AV):(Ny f z es).closed=true:=by unfold Ny;split<;>rfl
@[go_sem] theorem av3(b:Nat)(k:Bool)(f:Bool)(z:Nat)(es:List AV)(h:Heap):gI b k (Ny f z es) h=some (Ny f z es,h):=by unfold Ny;split<;>simp[gI]
theorem awg{z z':Nat}{es:List AV}(hz:z'=z\/es=[])(f:Bool)(h:Heap):Sl h z (Ny f z' es) es:=by
 unfold Ny;split
 ·rcases hz with rfl|rfl
  ·exact Sl.fT h _ _
  ·exact⟨by simp[VI.xB],fun _=>rfl,rfl⟩
 ·exact aAC hz
def YT{α:Type}(l:List α)(p:α->Bool)(k:Nat):Option Nat:=((l.drop k).findIdx? p).map (·+k)
theorem aCD{α:Type}{l:List α}{p:α->Bool}:YT l p l.length=none:=by unfold YT;rw[RH];rfl
theorem aCE{α:Type}{l:List α}{p:α->Bool}{k:Nat}(hk:k<l.length)(hp:p l[k]=true):YT l p k=some k:=by
 unfold YT;rw[JB hk,List.findIdx?_cons,if_pos hp];simp
theorem aCF{α:Type}{l:List α}{p:α->Bool}{k:Nat}(hk:k<l.length)(hp:p l[k]=false):YT l p k=YT l p (k+1):=by
 unfold YT;rw[JB hk,List.findIdx?_cons,hp,if_neg Bool.false_ne_true,Option.map_map];congr 1;funext x;simp;omega
theorem aLf{h:Heap}{v:AV}{l:List Pr}(hv:Sl h 2 v (pts l))(hl:l.length<=9223372036854775807){g:Nat}(hg:g<1000){caps:List AV}{p:Pr->Bool}
  (hF:∀ x∈l,∀ lo,(run lib).fn g (pt x::caps) h lo=some (.bool (p x),h)) (lo:Nat):∀(d k:Nat),k+d=l.length ->
  bV lib ⟨lo,h.length,0,none⟩ (.loop aty) ([(0,v),(1,.fn g caps),(7,.int .i64 l.length),(8,.int .i64 k)],h) =
   match YT l p k with|some r=>some (.ret,([(4,.int .i64 r)],h))|none=>some (.exit 0,([],h)):=by
 intro d
 induction d with
 |zero =>
  intro k hk;obtain rfl:k=l.length:=by omega
  rw[aCD,jm]
  simp(maxSteps:=1000000)(disch:=omega)only[go_sem,DV]
 |succ d ih =>
  intro k hk;have hk':k<l.length:=by omega
  have h1:(k:Int)<l.length:=by omega
  have e3:vJ 2 v (.int .i64 k)=some k:=by rw[Bu hv (by omega) (by simp;omega)];simp
  have e4:=fun off=>Ab (off:=off) hv.DC (show k<(pts l).length by simp;omega)
  simp only[ajx,pt]at e4;have f:=fun lo=>hF l[k] (JC _) lo;simp only[pt]at f
  cases hp:p l[k] with
  |true =>
   rw[aCE hk' hp,jm];rw[hp]at f
   simp(maxSteps:=1000000)(disch:=omega)only[go_sem,h1,e3,e4,f,hg,List.cons_append,List.nil_append]
  |false =>
   rw[aCF hk' hp,jm];rw[hp]at f;have e:=ih (k+1) (by omega)
   rw[Dm]at e;simp(maxSteps:=1000000)(disch:=omega)only[go_sem,h1,e3,e4,f,hg,List.cons_append,List.nil_append,e]
def ixR{α:Type}(l:List α)(p:α->Bool):Int:=match YT l p 0 with|some r=>(r:Int)|none=>-1
theorem aLg{h:Heap}{v:AV}{l:List Pr}(hv:Sl h 2 v (pts l))(hl:l.length<=9223372036854775807){g:Nat}(hg:g<1000){caps:List AV}{p:Pr->Bool}
  (hF:∀ x∈l,∀ lo,(run lib).fn g (pt x::caps) h lo=some (.bool (p x),h)) (lo:Nat):(run lib).fn 92 [v,.fn g caps] h lo=some (.int .i64 (ixR l p),h):=by
 have e:=aLf hv hl hg hF h.length l.length 0 (by omega)
 have ll:=oW hv.len;rw[Z0]at ll;unfold ixR;simp only[Gc]at e;rw[jH (x:=x92) rfl rfl rfl rfl]
 cases hr:YT l p 0 with
 |none =>
  rw[hr]at e
  simp(maxSteps:=1000000)(disch:=omega)only[go_sem,x92,ll,e]
 |some r =>
  rw[hr]at e;simp(maxSteps:=1000000)(disch:=omega)only[go_sem,x92,ll,e]
theorem aCG{α:Type}{l:List α}{p:α->Bool}:decide (0<=ixR l p)=l.any p:=by
 unfold ixR YT
 cases h:l.findIdx? p with
 |none =>
  rw[List.drop_zero,h];rw[List.findIdx?_eq_none_iff]at h;have:l.any p=false:=by rw[List.any_eq_false];intro x hx;rw[h x hx];simp
  rw[this];rfl
 |some r =>
  rw[List.drop_zero,h]
  have:l.any p=true:=by
   cases ha:l.any p with
   |true=>rfl
   |false =>
    rw[List.any_eq_false]at ha;have:l.findIdx? p=none:=List.findIdx?_eq_none_iff.mpr fun x hx=>by simpa using ha x hx
    rw[this]at h;cases h
  rw[this];simp
theorem Z4{h:Heap}{v:AV}{l:List Pr}(hv:Sl h 2 v (pts l))(hl:l.length<=9223372036854775807){g:Nat}(hg:g<1000){caps:List AV}{p:Pr->Bool}
  (hF:∀ x∈l,∀ lo,(run lib).fn g (pt x::caps) h lo=some (.bool (p x),h)) (lo:Nat):(run lib).fn 52 [v,.fn g caps] h lo=some (.bool (l.any p),h):=by
 have e:=fun lo=>aLg hv hl hg hF lo;have hn:=aCG (l:=l) (p:=p);rw[<-hn];rw[jH (x:=x52) rfl rfl rfl rfl];simp(maxSteps:=1000000)(disch:=omega)only[go_sem,x52,e]
theorem aLh(x:Pr)(s:Int)(h:Heap)(lo:Nat):(run lib).fn 131 [pt x,.iE [.int .i64 s]] h lo=some (.bool (decide (x.1<=s)&&decide (s<x.2)),h):=by
 unfold pt;rw[jH (x:=atL) rfl rfl rfl rfl];by_cases c:x.1<=s<;>simp(maxSteps:=1000000)(disch:=omega)only[go_sem,atL,c]
theorem ain{h:Heap}{v:AV}{l:List Pr}(hv:Sl h 2 v (pts l))(hl:l.length<=9223372036854775807)(s:Int)(lo:Nat):(run lib).fn 90 [v,.int .i64 s] h lo=some (.bool (hasB l s),h):=by
 have e:=fun lo=>Z4 (g:=131) hv hl (by decide) (fun x _ lo=>aLh x s h lo) lo
 unfold hasB;rw[jH (x:=x90) rfl rfl rfl rfl];simp(maxSteps:=1000000)(disch:=omega)only[go_sem,x90,e]
theorem aLi{h:Heap}{v:AV}{l:List Pr}(hv:Sl h 2 v (pts l))(hl:l.length<=9223372036854775807)(L m:Int):∀(d k:Nat) (last:Int) (B:Nat×aU),k+d=l.length ->
  ∃ B',bV lib ⟨h.length,h.length,1,none⟩ (.loop ato) ([(0,v),(1,.int .i64 L),(2,.int .i64 m),(7,.int .i64 last),(10,v),(11,.int .i64 l.length),(12,.int .i64 k)],h++[B]) =
   if Gt L last (l.drop k)=true then some (.exit 0,([(0,v),(2,.int .i64 m)],h++[B']))else some (.ret,([(6,.bool false)],h++[B'])):=by
 intro d
 induction d with
 |zero =>
  intro k last B hk;obtain rfl:k=l.length:=by omega
  refine⟨B, ?_⟩;rw[RH,jm]
  simp(maxSteps:=1000000)(disch:=omega)only[go_sem,DV,Gt]
 |succ d ih =>
  intro k last B hk;have hk':k<l.length:=by omega
  have h1:(k:Int)<l.length:=by omega
  have e3:vJ 2 v (.int .i64 k)=some k:=by rw[Bu hv (by omega) (by simp;omega)];simp
  have e4:=fun off fr=>Ab (off:=off) (hv.elems fr) (show k<(pts l).length by simp;omega)
  simp only[ajx,pt]at e4;obtain⟨v0,b0⟩:=B;obtain⟨B',e⟩:=ih (k+1) l[k].2 (v0+1,.box [.int .i64 l[k].1,.int .i64 l[k].2]) (by omega)
  rw[Dm]at e;rw[JB hk'];simp only[Gt,fw,decide_eq_true_eq];by_cases c1:l[k].1<=last
  ·refine⟨(v0+1,.box [.int .i64 l[k].1,.int .i64 l[k].2]), ?_⟩;rw[if_neg (by omega),jm]
   simp(maxSteps:=1000000)(disch:=omega)only[go_sem,h1,e3,e4,c1]
  ·by_cases c2:l[k].2<=l[k].1
   ·refine⟨(v0+1,.box [.int .i64 l[k].1,.int .i64 l[k].2]), ?_⟩;rw[if_neg (by omega),jm]
    simp(maxSteps:=1000000)(disch:=omega)only[go_sem,h1,e3,e4,c1,c2]
   ·by_cases c3:L<l[k].2
    ·refine⟨(v0+1,.box [.int .i64 l[k].1,.int .i64 l[k].2]), ?_⟩;rw[if_neg (by omega),jm]
     simp(maxSteps:=1000000)(disch:=omega)only[go_sem,h1,e3,e4,c1,c2,c3]
    ·refine⟨B', ?_⟩;have hh:(last<l[k].1/\l[k].1<l[k].2/\l[k].2<=L/\Gt L l[k].2 (l.drop (k+1))=true)↔Gt L l[k].2 (l.drop (k+1))=true:=⟨fun h=>h.2.2.2,fun h=>⟨by omega,by omega,by omega,h⟩⟩
     simp only[hh];rw[jm];simp(maxSteps:=1000000)(disch:=omega)only[go_sem,h1,e3,e4,c1,c2,c3,e]
theorem aCH{h:Heap}{v:AV}{l:List Pr}(hv:Sl h 2 v (pts l))(hl:l.length<=9223372036854775807)(L m:Int)(lo:Nat):(run lib).fn 51 [v,.int .i64 L,.int .i64 m] h lo=some (.bool (Gt L (-1) l&&decide ((l.length:Int)<=m)),h):=by
 obtain⟨B',e⟩:=aLi hv hl L m l.length 0 (-1) (0,.dead) (by omega)
 have ll:=oW hv.len;rw[Z0]at ll;simp only[Gc,List.drop_zero]at e;rw[jH (x:=x51) rfl rfl rfl rfl];cases c:Gt L (-1) l
 ·rw[c,if_neg (by simp)]at e
  simp(maxSteps:=1000000)(disch:=omega)only[go_sem,x51,ll,e]
 ·rw[c,if_pos rfl]at e;simp(maxSteps:=1000000)(disch:=omega)only[go_sem,x51,ll,e]
structure LV where
 l:qf
 fp:Bool
 fc:Bool
 zp:Nat
 zc:Nat
structure okV(x:LV):Prop where
 p:x.zp=2\/pts x.l.P=[]
 c:x.zc=2\/pts x.l.C=[]
 lp:x.l.P.length<=9223372036854775807
 lc:x.l.C.length<=9223372036854775807
def pV(x:LV):AV:=Ny x.fp x.zp (pts x.l.P)
def cV(x:LV):AV:=Ny x.fc x.zc (pts x.l.C)
@[go_sem] theorem aSW(b:Nat)(k:Bool)(x:LV)(h:Heap):gI b k (pV x) h=some (pV x,h):=av3 _ _ _ _ _ _
@[go_sem] theorem aSX(b:Nat)(k:Bool)(x:LV)(h:Heap):gI b k (cV x) h=some (cV x,h):=av3 _ _ _ _ _ _
theorem okV.sp{x:LV}(o:okV x)(h:Heap):Sl h 2 (pV x) (pts x.l.P):=awg o.p _ h
theorem okV.sc{x:LV}(o:okV x)(h:Heap):Sl h 2 (cV x) (pts x.l.C):=awg o.c _ h
def lvC(x:LV):List AV:=[.int .i64 x.l.L,.int .i64 x.l.D,.int .i64 x.l.E,pV x,cV x]
def FE(x:LV):AV:=.agg [.int .i64 x.l.L,.int .i64 x.l.D,.int .i64 x.l.E,pV x,cV x]
theorem aLj(c p:Pr)(h:Heap)(lo:Nat):(run lib).fn 54 [pt c,.iE [.int .i64 p.1,.int .i64 p.2]] h lo=some (.bool (decide (p.1<c.2)&&decide (c.1<p.2)),h):=by
 unfold pt;rw[jH (x:=x54) rfl rfl rfl rfl];by_cases c:p.1<c.2<;>simp(maxSteps:=1000000)(disch:=omega)only[go_sem,x54,c]
theorem aLk{x:LV}(o:okV x)(p:Pr)(h:Heap)(lo:Nat):(run lib).fn 53 [pt p,.iE [.int .i64 x.l.L,.int .i64 x.l.D,.int .i64 x.l.E,pV x,cV x]] h lo=some (.bool (x.l.C.any fun c=>decide (p.1<c.2)&&decide (c.1<p.2)),h):=by
 have e:=fun H lo=>Z4 (g:=54) (o.sc H) o.lc (by decide) (fun c _ lo=>aLj c p H lo) lo
 unfold pt;rw[jH (x:=x53) rfl rfl rfl rfl];simp(maxSteps:=1000000)(disch:=omega)only[go_sem,x53,e]
def apB(l:qf):Bool:=decide (1<=l.L)&&(decide (l.L<=600)&&(decide (0<=l.D)&&(decide (l.D<=60)&&(decide (1<=l.E)&&(decide (l.E<=60)&&((Gt l.L (-1) l.P&&decide ((l.P.length:Int)<=4))&&((Gt l.L (-1) l.C&&decide ((l.C.length:Int)<=4))&&!l.P.any fun p=>l.C.any fun c=>decide (p.1<c.2)&&decide (c.1<p.2))))))))
theorem apC{l:qf}:apB l=true↔yT l:=by
 unfold apB;simp only[fw,decide_eq_true_eq,IK,List.any_eq_false,Bool.not_eq_true];constructor
 ·rintro⟨h1,h2,h3,h4,h5,h6,⟨h7,h8⟩,⟨h9,h10⟩,h11⟩;refine⟨⟨h1,h2⟩,⟨h3,h4⟩,⟨h5,h6⟩,h7,h9,by omega,by omega,fun p hp=>?_⟩
  rw[YQ];intro c hc h;have:=h11 p hp c hc;omega
 ·intro o;refine⟨o.L.1,o.L.2,o.D.1,o.D.2,o.E.1,o.E.2,⟨o.P,by have:=o.p4;omega⟩,⟨o.C,by have:=o.c4;omega⟩,fun p hp=>?_⟩
  intro c hc;have:=YQ.mp (o.dis p hp) c hc;omega
theorem amT{x:LV}(o:okV x)(h:Heap)(lo:Nat):(run lib).fn 22 [FE x] h lo=some (.bool (apB x.l),h):=by
 have e1:=fun H lo L m=>aCH (o.sp H) o.lp L m lo;have e2:=fun H lo L m=>aCH (o.sc H) o.lc L m lo;have e3:=fun H lo=>Z4 (g:=53) (o.sp H) o.lp (by decide) (fun p _ lo=>aLk o p H lo) lo
 unfold FE;rw[jH (x:=ZK) rfl rfl rfl rfl];unfold apB;by_cases c1:1<=x.l.L
 ·by_cases c2:x.l.L<=600
  ·by_cases c3:0<=x.l.D
   ·by_cases c4:x.l.D<=60
    ·by_cases c5:1<=x.l.E
     ·by_cases c6:x.l.E<=60
      ·have k1:¬ x.l.L<1:=by omega
       have k2:¬ 600<x.l.L:=by omega
       have k3:¬ x.l.D<0:=by omega
       have k4:¬ 60<x.l.D:=by omega
       have k5:¬ x.l.E<1:=by omega
       have k6:¬ 60<x.l.E:=by omega
       simp only[c1,c2,c3,c4,c5,c6,decide_true,Ri];cases c7:(Gt x.l.L (-1) x.l.P&&decide ((x.l.P.length:Int)<=4))
       ·simp(maxSteps:=1000000)(disch:=omega)only[go_sem,ZK,k1,k2,k3,k4,k5,k6,e1,e2,e3,c7]
       ·cases c8:(Gt x.l.L (-1) x.l.C&&decide ((x.l.C.length:Int)<=4))
        ·simp(maxSteps:=1000000)(disch:=omega)only[go_sem,ZK,k1,k2,k3,k4,k5,k6,e1,e2,e3,c7,c8]
        ·simp(maxSteps:=1000000)(disch:=omega)only[go_sem,ZK,k1,k2,k3,k4,k5,k6,e1,e2,e3,c7,c8]
      ·have k1:¬ x.l.L<1:=by omega
       have k2:¬ 600<x.l.L:=by omega
       have k3:¬ x.l.D<0:=by omega
       have k4:¬ 60<x.l.D:=by omega
       have k5:¬ x.l.E<1:=by omega
       have k6:60<x.l.E:=by omega
       simp(maxSteps:=1000000)(disch:=omega)only[go_sem,ZK,k1,k2,k3,k4,k5,k6,c6]
     ·have k1:¬ x.l.L<1:=by omega
      have k2:¬ 600<x.l.L:=by omega
      have k3:¬ x.l.D<0:=by omega
      have k4:¬ 60<x.l.D:=by omega
      have k5:x.l.E<1:=by omega
      simp(maxSteps:=1000000)(disch:=omega)only[go_sem,ZK,k1,k2,k3,k4,k5,c5]
    ·have k1:¬ x.l.L<1:=by omega
     have k2:¬ 600<x.l.L:=by omega
     have k3:¬ x.l.D<0:=by omega
     have k4:60<x.l.D:=by omega
     simp(maxSteps:=1000000)(disch:=omega)only[go_sem,ZK,k1,k2,k3,k4,c4]
   ·have k1:¬ x.l.L<1:=by omega
    have k2:¬ 600<x.l.L:=by omega
    have k3:x.l.D<0:=by omega
    simp(maxSteps:=1000000)(disch:=omega)only[go_sem,ZK,k1,k2,k3,c3]
  ·have k1:¬ x.l.L<1:=by omega
   have k2:600<x.l.L:=by omega
   simp(maxSteps:=1000000)(disch:=omega)only[go_sem,ZK,k1,k2,c2]
 ·have k1:x.l.L<1:=by omega
  simp(maxSteps:=1000000)(disch:=omega)only[go_sem,ZK,k1,c1]
end Go.VI.Dump
namespace Go.VI
variable {lo nb ns:Nat}
theorem awh{g:Heap}(hg:g.length=nb)(fr:Heap)(s:Nat):(g++fr)[nb+s]?=fr[s]?:=by subst hg;exact ku g fr s
theorem JM{g:Heap}(hg:g.length=nb)(fr:Heap)(s ak off:Nat):qL (g++fr) (.bq (nb+s) ak off)=pcF ak off fr[s]?:=by subst hg;exact aAn g fr s ak off
theorem Ms{g:Heap}(hg:g.length=nb)(hlo:lo<=nb)(fr:Heap)(sz s ak off:Nat)(v:AV):qE ⟨lo,nb,ns,none⟩ (g++fr) sz (.bq (nb+s) ak off) v=if v.cells.length=sz/\v.val=true then Za s lo ns ak off g fr v fr[s]? else none:=by subst hg;exact aAo hlo
theorem Mt{g:Heap}(hg:g.length=nb)(fr:Heap)(s:Nat)(b:aU):mK ⟨lo,nb,ns,none⟩ s b (g++fr)=mkF s ns b g fr fr[s]?:=by subst hg;exact abz lo ns s b g fr
def klF(cx:Cx)(s:Nat)(ss:List Nat)(g fr:Heap):Option (Nat×aU)->Heap
 |some (v,_)=>Gp cx ss (g++fr.set s (v,.dead))
 |none=>Gp cx ss (g++fr)
theorem TF(cx:Cx)(s:Nat)(ss:List Nat)(g fr:Heap)(v:Nat)(b:aU):klF cx s ss g fr (some (v,b))=Gp cx ss (g++fr.set s (v,.dead)):=rfl
theorem TG{g:Heap}(hg:g.length=nb)(fr:Heap)(s:Nat)(ss:List Nat):Gp ⟨lo,nb,ns,none⟩ (s::ss) (g++fr)=klF ⟨lo,nb,ns,none⟩ s ss g fr fr[s]?:=by
 subst hg;rw[aIa]
 cases fr[s]? with
 |none=>rfl
 |some p=>rfl
theorem Rv{g:Heap}(hg:g.length=nb)(env:Env)(fr:Heap)(s:Nat):ou.ok ⟨lo,nb,ns,none⟩ env (g++fr) (.dead s)=ckD fr[s]?:=by subst hg;exact aId lo ns env g fr s
end Go.VI
namespace Go.VI.Dump
open Go.VI.Num
/- BIGSTEPS -/
def sO(x:Stp):List AV:=[.int .i64 x.fr,.int .i64 x.to,.int .i64 x.be,.int .i64 x.af,.int .i64 x.de,.bool x.cut,.bool x.str]
def Gw(x:Stp):AV:=.agg [.int .i64 x.fr,.int .i64 x.to,.int .i64 x.be,.int .i64 x.af,.int .i64 x.de,.bool x.cut,.bool x.str]
theorem aiw{h:Heap}{nb:Nat}(hn:h.length=nb){fr:Heap}{s:Int}{x:LV}{j v:Nat}(hs:fr[j]?=some (v,.box [.int .i64 s]))(h1:0<=s)(h2:s<=600)(h3:1<=x.l.E)(h4:x.l.E<=60)(q:Pr)(lo:Nat) :
  (run lib).fn 91 [pt q,.bq (nb+j) v 0,.iE [.int .i64 x.l.L,.int .i64 x.l.D,.int .i64 x.l.E,pV x,cV x]] (h++fr) lo=some (.bool (decide (q.1<s+x.l.E)&&decide (s<q.2)),h++fr):=by
 subst hn
 have hp:∀ fr2:Heap,qL (h++(fr++fr2)) (.bq (h.length+j) v 0)=some [.int .i64 s]:=fun fr2=>by
  rw[aAn,zy (kS.mp hs).1,hs];simp[pcF]
 have hp0:=hp [];rw[Gs]at hp0;unfold pt;rw[jH (x:=x91) rfl rfl rfl rfl];by_cases c:q.1<s+x.l.E<;>simp(maxSteps:=30000000)(disch:=omega)only[go_sem,x91,hp0,c,sZ,hp]
section
variable {x:LV}{s d:Int}{h h':Heap}{nb lo id iv:Nat}{v v1:Nat}{b1:aU}
@[reducible] def Q8(x:LV)(id iv nb j v:Nat)(d a:Int):Env:=[(0,.lF id iv),(1,.iE [.int .i64 x.l.L,.int .i64 x.l.D,.int .i64 x.l.E,pV x,cV x]),(3,.int .i64 d),(4,.int .i64 a),(5,.bq (nb+j) v 0)]
theorem aLl(o:okV x)(ok:yT x.l)(hn:h.length=nb)(hn':h'.length=nb)(hlo:lo<=nb)(g1:s<x.l.L)(g2:hasB x.l.C s=true)(g3:0<d)(hs:0<=s)(hd:0<=d/\d<=x.l.D)(B2:Nat×aU)
  (hy:tK (run lib) ⟨lo,nb,3,none⟩ id iv [.agg [.int .i64 (s),.int .i64 (s+1),.int .i64 (s+d),.int .i64 (s+d),.int .i64 (d),.bool true,.bool false]] (h++[(v,.box [.int .i64 s]),(v1+1,.box [.int .i64 (s),.int .i64 (s+1),.int .i64 (s+d),.int .i64 (s+d),.int .i64 (d),.bool true,.bool false]),B2])=some (.bool true,h'++[(v,.box [.int .i64 s]),(v1+1,.box [.int .i64 (s),.int .i64 (s+1),.int .i64 (s+d),.int .i64 (s+d),.int .i64 (d),.bool true,.bool false]),B2])) :
  bV lib ⟨lo,nb,3,none⟩ (.loop Nu) (Q8 x id iv nb 0 v d (s+d),h++[(v,.box [.int .i64 s]),(v1,b1),B2]) =
   bV lib ⟨lo,nb,3,none⟩ (.loop Nu) (Q8 x id iv nb 0 (v+1) (d-1) (s+d),h'++[(v+1,.box [.int .i64 (s+1)]),(v1+1,.box [.int .i64 (s),.int .i64 (s+1),.int .i64 (s+d),.int .i64 (s+d),.int .i64 (d),.bool true,.bool false]),B2]):=by
 obtain⟨L1,L2⟩:=ok.L;obtain⟨D1,D2⟩:=ok.D;obtain⟨E1,E2⟩:=ok.E;have hc:=fun H lo=>ain (o.sc H) o.lc s lo;rw[g2]at hc
 conv=>lhs;rw[jm]
 simp(maxSteps:=30000000)(disch:=omega)only[go_sem,Dn,hc,g1,hn,hn',hy,JM,Ms,Mt,TG,TF,Tq,Rv,TH,Nat.reduceEqDiff,g3]
theorem aLm(o:okV x)(ok:yT x.l)(hn:h.length=nb)(hn':h'.length=nb)(hlo:lo<=nb)(g1:s<x.l.L)(g2:hasB x.l.C s=true)(g3:0<d)(hs:0<=s)(hd:0<=d/\d<=x.l.D)(v0:Nat)(c0:aU)
  (hy:tK (run lib) ⟨lo,nb,3,none⟩ id iv [.agg [.int .i64 (s),.int .i64 (s+1),.int .i64 (s+d),.int .i64 (s+d),.int .i64 (d),.bool true,.bool false]] (h++[(v0,c0),(v1+1,.box [.int .i64 (s),.int .i64 (s+1),.int .i64 (s+d),.int .i64 (s+d),.int .i64 (d),.bool true,.bool false]),(v,.box [.int .i64 s])])=some (.bool true,h'++[(v0,c0),(v1+1,.box [.int .i64 (s),.int .i64 (s+1),.int .i64 (s+d),.int .i64 (s+d),.int .i64 (d),.bool true,.bool false]),(v,.box [.int .i64 s])])) :
  bV lib ⟨lo,nb,3,none⟩ (.loop Nu) (Q8 x id iv nb 2 v d (s+d),h++[(v0,c0),(v1,b1),(v,.box [.int .i64 s])]) =
   bV lib ⟨lo,nb,3,none⟩ (.loop Nu) (Q8 x id iv nb 0 (v0+1) (d-1) (s+d),h'++[(v0+1,.box [.int .i64 (s+1)]),(v1+1,.box [.int .i64 (s),.int .i64 (s+1),.int .i64 (s+d),.int .i64 (s+d),.int .i64 (d),.bool true,.bool false]),(v,.box [.int .i64 (s+1)])]):=by
 obtain⟨L1,L2⟩:=ok.L;obtain⟨D1,D2⟩:=ok.D;obtain⟨E1,E2⟩:=ok.E;have hc:=fun H lo=>ain (o.sc H) o.lc s lo;rw[g2]at hc
 conv=>lhs;rw[jm]
 simp(maxSteps:=30000000)(disch:=omega)only[go_sem,Dn,hc,g1,hn,hn',hy,JM,Ms,Mt,TG,TF,Tq,Rv,TH,Nat.reduceEqDiff,g3]
theorem aLn(o:okV x)(ok:yT x.l)(hn:h.length=nb)(hn':h'.length=nb)(hlo:lo<=nb)(g1:s<x.l.L)(g2:hasB x.l.C s=true)(g3:d=0)(hs:0<=s)(hd:0<=d/\d<=x.l.D)(B2:Nat×aU)
  (hy:tK (run lib) ⟨lo,nb,3,none⟩ id iv [.agg [.int .i64 (s),.int .i64 (s+1),.int .i64 (s+d),.int .i64 (s+d+1),.int .i64 (d),.bool true,.bool false]] (h++[(v,.box [.int .i64 s]),(v1+1,.box [.int .i64 (s),.int .i64 (s+1),.int .i64 (s+d),.int .i64 (s+d+1),.int .i64 (d),.bool true,.bool false]),B2])=some (.bool true,h'++[(v,.box [.int .i64 s]),(v1+1,.box [.int .i64 (s),.int .i64 (s+1),.int .i64 (s+d),.int .i64 (s+d+1),.int .i64 (d),.bool true,.bool false]),B2])) :
  bV lib ⟨lo,nb,3,none⟩ (.loop Nu) (Q8 x id iv nb 0 v d (s+d),h++[(v,.box [.int .i64 s]),(v1,b1),B2]) =
   bV lib ⟨lo,nb,3,none⟩ (.loop Nu) (Q8 x id iv nb 0 (v+1) (d) (s+d+1),h'++[(v+1,.box [.int .i64 (s+1)]),(v1+1,.box [.int .i64 (s),.int .i64 (s+1),.int .i64 (s+d),.int .i64 (s+d+1),.int .i64 (d),.bool true,.bool false]),B2]):=by
 obtain⟨L1,L2⟩:=ok.L;obtain⟨D1,D2⟩:=ok.D;obtain⟨E1,E2⟩:=ok.E;have hc:=fun H lo=>ain (o.sc H) o.lc s lo;rw[g2]at hc;subst g3
 conv=>lhs;rw[jm]
 simp(maxSteps:=30000000)(disch:=omega)only[go_sem,Dn,hc,g1,hn,hn',hy,JM,Ms,Mt,TG,TF,Tq,Rv,TH,Nat.reduceEqDiff,DV]
theorem aLo(o:okV x)(ok:yT x.l)(hn:h.length=nb)(hn':h'.length=nb)(hlo:lo<=nb)(g1:s<x.l.L)(g2:hasB x.l.C s=true)(g3:d=0)(hs:0<=s)(hd:0<=d/\d<=x.l.D)(v0:Nat)(c0:aU)
  (hy:tK (run lib) ⟨lo,nb,3,none⟩ id iv [.agg [.int .i64 (s),.int .i64 (s+1),.int .i64 (s+d),.int .i64 (s+d+1),.int .i64 (d),.bool true,.bool false]] (h++[(v0,c0),(v1+1,.box [.int .i64 (s),.int .i64 (s+1),.int .i64 (s+d),.int .i64 (s+d+1),.int .i64 (d),.bool true,.bool false]),(v,.box [.int .i64 s])])=some (.bool true,h'++[(v0,c0),(v1+1,.box [.int .i64 (s),.int .i64 (s+1),.int .i64 (s+d),.int .i64 (s+d+1),.int .i64 (d),.bool true,.bool false]),(v,.box [.int .i64 s])])) :
  bV lib ⟨lo,nb,3,none⟩ (.loop Nu) (Q8 x id iv nb 2 v d (s+d),h++[(v0,c0),(v1,b1),(v,.box [.int .i64 s])]) =
   bV lib ⟨lo,nb,3,none⟩ (.loop Nu) (Q8 x id iv nb 0 (v0+1) (d) (s+d+1),h'++[(v0+1,.box [.int .i64 (s+1)]),(v1+1,.box [.int .i64 (s),.int .i64 (s+1),.int .i64 (s+d),.int .i64 (s+d+1),.int .i64 (d),.bool true,.bool false]),(v,.box [.int .i64 (s+1)])]):=by
 obtain⟨L1,L2⟩:=ok.L;obtain⟨D1,D2⟩:=ok.D;obtain⟨E1,E2⟩:=ok.E;have hc:=fun H lo=>ain (o.sc H) o.lc s lo;rw[g2]at hc;subst g3
 conv=>lhs;rw[jm]
 simp(maxSteps:=30000000)(disch:=omega)only[go_sem,Dn,hc,g1,hn,hn',hy,JM,Ms,Mt,TG,TF,Tq,Rv,TH,Nat.reduceEqDiff,DV]
theorem aLp(o:okV x)(ok:yT x.l)(hn:h.length=nb)(hn':h'.length=nb)(hlo:lo<=nb)(g1:s<x.l.L)(g2:hasB x.l.C s=false)(g3:d<x.l.D)(g4:s+x.l.E<=x.l.L)(g5:zu x.l.C s (s+x.l.E)=false)(g6:zu x.l.P s (s+x.l.E)=false)(hs:0<=s)(hd:0<=d/\d<=x.l.D)(B2:Nat×aU)
  (hy:tK (run lib) ⟨lo,nb,3,none⟩ id iv [.agg [.int .i64 (s),.int .i64 (s+x.l.E),.int .i64 (s+d),.int .i64 (s+d+x.l.E+1),.int .i64 (d),.bool false,.bool true]] (h++[(v,.box [.int .i64 s]),(v1+1,.box [.int .i64 (s),.int .i64 (s+x.l.E),.int .i64 (s+d),.int .i64 (s+d+x.l.E+1),.int .i64 (d),.bool false,.bool true]),B2])=some (.bool true,h'++[(v,.box [.int .i64 s]),(v1+1,.box [.int .i64 (s),.int .i64 (s+x.l.E),.int .i64 (s+d),.int .i64 (s+d+x.l.E+1),.int .i64 (d),.bool false,.bool true]),B2])) :
  bV lib ⟨lo,nb,3,none⟩ (.loop Nu) (Q8 x id iv nb 0 v d (s+d),h++[(v,.box [.int .i64 s]),(v1,b1),B2]) =
   bV lib ⟨lo,nb,3,none⟩ (.loop Nu) (Q8 x id iv nb 0 (v+1) (d+1) (s+d+x.l.E+1),h'++[(v+1,.box [.int .i64 (s+x.l.E)]),(v1+1,.box [.int .i64 (s),.int .i64 (s+x.l.E),.int .i64 (s+d),.int .i64 (s+d+x.l.E+1),.int .i64 (d),.bool false,.bool true]),B2]):=by
 obtain⟨L1,L2⟩:=ok.L;obtain⟨D1,D2⟩:=ok.D;obtain⟨E1,E2⟩:=ok.E;have hc:=fun H lo=>ain (o.sc H) o.lc s lo;rw[g2]at hc;have m1:=fun fr hf lo=>Z4 (g:=91) (o.sc (h++fr)) o.lc (by decide) (fun q _ lo=>aiw (x:=x) (v:=v) (j:=0) hn (fr:=fr) hf hs (by omega) E1 E2 q lo) lo
 have m2:=fun fr hf lo=>Z4 (g:=91) (o.sp (h++fr)) o.lp (by decide) (fun q _ lo=>aiw (x:=x) (v:=v) (j:=0) hn (fr:=fr) hf hs (by omega) E1 E2 q lo) lo
 have e1:(x.l.C.any fun q=>decide (q.1<s+x.l.E)&&decide (s<q.2))=zu x.l.C s (s+x.l.E):=rfl;have e2:(x.l.P.any fun q=>decide (q.1<s+x.l.E)&&decide (s<q.2))=zu x.l.P s (s+x.l.E):=rfl;rw[e1]at m1;rw[e2]at m2;have m1:=m1 [(v,.box [.int .i64 s]),(v1+1,.box [.int .i64 s,.int .i64 (s+1),.int .i64 (s+d),.int .i64 (s+d+1),.int .i64 d,.bool false,.bool false]),B2] rfl;have m2:=m2 [(v,.box [.int .i64 s]),(v1+1,.box [.int .i64 s,.int .i64 (s+1),.int .i64 (s+d),.int .i64 (s+d+1),.int .i64 d,.bool false,.bool false]),B2] rfl;rw[g5]at m1;rw[g6]at m2
 conv=>lhs;rw[jm]
 simp(maxSteps:=30000000)(disch:=omega)only[go_sem,Dn,hc,g1,hn,hn',hy,JM,Ms,Mt,TG,TF,Tq,Rv,TH,Nat.reduceEqDiff,g3,g4,m1,m2]
theorem aLq(o:okV x)(ok:yT x.l)(hn:h.length=nb)(hn':h'.length=nb)(hlo:lo<=nb)(g1:s<x.l.L)(g2:hasB x.l.C s=false)(g3:d<x.l.D)(g4:s+x.l.E<=x.l.L)(g5:zu x.l.C s (s+x.l.E)=false)(g6:zu x.l.P s (s+x.l.E)=false)(hs:0<=s)(hd:0<=d/\d<=x.l.D)(v0:Nat)(c0:aU)
  (hy:tK (run lib) ⟨lo,nb,3,none⟩ id iv [.agg [.int .i64 (s),.int .i64 (s+x.l.E),.int .i64 (s+d),.int .i64 (s+d+x.l.E+1),.int .i64 (d),.bool false,.bool true]] (h++[(v0,c0),(v1+1,.box [.int .i64 (s),.int .i64 (s+x.l.E),.int .i64 (s+d),.int .i64 (s+d+x.l.E+1),.int .i64 (d),.bool false,.bool true]),(v,.box [.int .i64 s])])=some (.bool true,h'++[(v0,c0),(v1+1,.box [.int .i64 (s),.int .i64 (s+x.l.E),.int .i64 (s+d),.int .i64 (s+d+x.l.E+1),.int .i64 (d),.bool false,.bool true]),(v,.box [.int .i64 s])])) :
  bV lib ⟨lo,nb,3,none⟩ (.loop Nu) (Q8 x id iv nb 2 v d (s+d),h++[(v0,c0),(v1,b1),(v,.box [.int .i64 s])]) =
   bV lib ⟨lo,nb,3,none⟩ (.loop Nu) (Q8 x id iv nb 0 (v0+1) (d+1) (s+d+x.l.E+1),h'++[(v0+1,.box [.int .i64 (s+x.l.E)]),(v1+1,.box [.int .i64 (s),.int .i64 (s+x.l.E),.int .i64 (s+d),.int .i64 (s+d+x.l.E+1),.int .i64 (d),.bool false,.bool true]),(v,.box [.int .i64 (s+x.l.E)])]):=by
 obtain⟨L1,L2⟩:=ok.L;obtain⟨D1,D2⟩:=ok.D;obtain⟨E1,E2⟩:=ok.E;have hc:=fun H lo=>ain (o.sc H) o.lc s lo;rw[g2]at hc;have m1:=fun fr hf lo=>Z4 (g:=91) (o.sc (h++fr)) o.lc (by decide) (fun q _ lo=>aiw (x:=x) (v:=v) (j:=2) hn (fr:=fr) hf hs (by omega) E1 E2 q lo) lo
 have m2:=fun fr hf lo=>Z4 (g:=91) (o.sp (h++fr)) o.lp (by decide) (fun q _ lo=>aiw (x:=x) (v:=v) (j:=2) hn (fr:=fr) hf hs (by omega) E1 E2 q lo) lo
 have e1:(x.l.C.any fun q=>decide (q.1<s+x.l.E)&&decide (s<q.2))=zu x.l.C s (s+x.l.E):=rfl;have e2:(x.l.P.any fun q=>decide (q.1<s+x.l.E)&&decide (s<q.2))=zu x.l.P s (s+x.l.E):=rfl;rw[e1]at m1;rw[e2]at m2;have m1:=m1 [(v0,c0),(v1+1,.box [.int .i64 s,.int .i64 (s+1),.int .i64 (s+d),.int .i64 (s+d+1),.int .i64 d,.bool false,.bool false]),(v,.box [.int .i64 s])] rfl;have m2:=m2 [(v0,c0),(v1+1,.box [.int .i64 s,.int .i64 (s+1),.int .i64 (s+d),.int .i64 (s+d+1),.int .i64 d,.bool false,.bool false]),(v,.box [.int .i64 s])] rfl;rw[g5]at m1;rw[g6]at m2
 conv=>lhs;rw[jm]
 simp(maxSteps:=30000000)(disch:=omega)only[go_sem,Dn,hc,g1,hn,hn',hy,JM,Ms,Mt,TG,TF,Tq,Rv,TH,Nat.reduceEqDiff,g3,g4,m1,m2]
theorem aLr(o:okV x)(ok:yT x.l)(hn:h.length=nb)(hn':h'.length=nb)(hlo:lo<=nb)(g1:s<x.l.L)(g2:hasB x.l.C s=false)(g3:SE x.l s d=false)(hs:0<=s)(hd:0<=d/\d<=x.l.D)(B2:Nat×aU)
  (hy:tK (run lib) ⟨lo,nb,3,none⟩ id iv [.agg [.int .i64 (s),.int .i64 (s+1),.int .i64 (s+d),.int .i64 (s+d+1),.int .i64 (d),.bool false,.bool false]] (h++[(v,.box [.int .i64 s]),(v1+1,.box [.int .i64 (s),.int .i64 (s+1),.int .i64 (s+d),.int .i64 (s+d+1),.int .i64 (d),.bool false,.bool false]),B2])=some (.bool true,h'++[(v,.box [.int .i64 s]),(v1+1,.box [.int .i64 (s),.int .i64 (s+1),.int .i64 (s+d),.int .i64 (s+d+1),.int .i64 (d),.bool false,.bool false]),B2])) :
  bV lib ⟨lo,nb,3,none⟩ (.loop Nu) (Q8 x id iv nb 0 v d (s+d),h++[(v,.box [.int .i64 s]),(v1,b1),B2]) =
   bV lib ⟨lo,nb,3,none⟩ (.loop Nu) (Q8 x id iv nb 0 (v+1) (d) (s+d+1),h'++[(v+1,.box [.int .i64 (s+1)]),(v1+1,.box [.int .i64 (s),.int .i64 (s+1),.int .i64 (s+d),.int .i64 (s+d+1),.int .i64 (d),.bool false,.bool false]),B2]):=by
 obtain⟨L1,L2⟩:=ok.L;obtain⟨D1,D2⟩:=ok.D;obtain⟨E1,E2⟩:=ok.E;have hc:=fun H lo=>ain (o.sc H) o.lc s lo;rw[g2]at hc;have m1:=fun fr hf lo=>Z4 (g:=91) (o.sc (h++fr)) o.lc (by decide) (fun q _ lo=>aiw (x:=x) (v:=v) (j:=0) hn (fr:=fr) hf hs (by omega) E1 E2 q lo) lo
 have m2:=fun fr hf lo=>Z4 (g:=91) (o.sp (h++fr)) o.lp (by decide) (fun q _ lo=>aiw (x:=x) (v:=v) (j:=0) hn (fr:=fr) hf hs (by omega) E1 E2 q lo) lo
 have e1:(x.l.C.any fun q=>decide (q.1<s+x.l.E)&&decide (s<q.2))=zu x.l.C s (s+x.l.E):=rfl;have e2:(x.l.P.any fun q=>decide (q.1<s+x.l.E)&&decide (s<q.2))=zu x.l.P s (s+x.l.E):=rfl;rw[e1]at m1;rw[e2]at m2;have m1:=m1 [(v,.box [.int .i64 s]),(v1+1,.box [.int .i64 s,.int .i64 (s+1),.int .i64 (s+d),.int .i64 (s+d+1),.int .i64 d,.bool false,.bool false]),B2] rfl;have m2:=m2 [(v,.box [.int .i64 s]),(v1+1,.box [.int .i64 s,.int .i64 (s+1),.int .i64 (s+d),.int .i64 (s+d+1),.int .i64 d,.bool false,.bool false]),B2] rfl;simp only[SE,Bool.and_eq_false_iff,decide_eq_false_iff_not,Bool.not_eq_false']at g3;by_cases c1:d<x.l.D
 ·by_cases c2:s+x.l.E<=x.l.L
  ·cases c3:zu x.l.C s (s+x.l.E)
   ·have c4:zu x.l.P s (s+x.l.E)=true:=by
     rcases g3 with g3|g3|g3|g3
     ·exact absurd c1 g3
     ·exact absurd c2 g3
     ·rw[c3]at g3;cases g3
     ·exact g3
    rw[c3]at m1;rw[c4]at m2
    conv=>lhs;rw[jm]
    simp(maxSteps:=30000000)(disch:=omega)only[go_sem,Dn,hc,g1,hn,hn',hy,JM,Ms,Mt,TG,TF,Tq,Rv,TH,Nat.reduceEqDiff,c1,c2,m1,m2]
   ·rw[c3]at m1
    conv=>lhs;rw[jm]
    simp(maxSteps:=30000000)(disch:=omega)only[go_sem,Dn,hc,g1,hn,hn',hy,JM,Ms,Mt,TG,TF,Tq,Rv,TH,Nat.reduceEqDiff,c1,c2,m1]
  ·conv=>lhs;rw[jm]
   simp(maxSteps:=30000000)(disch:=omega)only[go_sem,Dn,hc,g1,hn,hn',hy,JM,Ms,Mt,TG,TF,Tq,Rv,TH,Nat.reduceEqDiff,c1,c2]
 ·conv=>lhs;rw[jm]
  simp(maxSteps:=30000000)(disch:=omega)only[go_sem,Dn,hc,g1,hn,hn',hy,JM,Ms,Mt,TG,TF,Tq,Rv,TH,Nat.reduceEqDiff,c1]
theorem aLs(o:okV x)(ok:yT x.l)(hn:h.length=nb)(hn':h'.length=nb)(hlo:lo<=nb)(g1:s<x.l.L)(g2:hasB x.l.C s=false)(g3:SE x.l s d=false)(hs:0<=s)(hd:0<=d/\d<=x.l.D)(v0:Nat)(c0:aU)
  (hy:tK (run lib) ⟨lo,nb,3,none⟩ id iv [.agg [.int .i64 (s),.int .i64 (s+1),.int .i64 (s+d),.int .i64 (s+d+1),.int .i64 (d),.bool false,.bool false]] (h++[(v0,c0),(v1+1,.box [.int .i64 (s),.int .i64 (s+1),.int .i64 (s+d),.int .i64 (s+d+1),.int .i64 (d),.bool false,.bool false]),(v,.box [.int .i64 s])])=some (.bool true,h'++[(v0,c0),(v1+1,.box [.int .i64 (s),.int .i64 (s+1),.int .i64 (s+d),.int .i64 (s+d+1),.int .i64 (d),.bool false,.bool false]),(v,.box [.int .i64 s])])) :
  bV lib ⟨lo,nb,3,none⟩ (.loop Nu) (Q8 x id iv nb 2 v d (s+d),h++[(v0,c0),(v1,b1),(v,.box [.int .i64 s])]) =
   bV lib ⟨lo,nb,3,none⟩ (.loop Nu) (Q8 x id iv nb 0 (v0+1) (d) (s+d+1),h'++[(v0+1,.box [.int .i64 (s+1)]),(v1+1,.box [.int .i64 (s),.int .i64 (s+1),.int .i64 (s+d),.int .i64 (s+d+1),.int .i64 (d),.bool false,.bool false]),(v,.box [.int .i64 (s+1)])]):=by
 obtain⟨L1,L2⟩:=ok.L;obtain⟨D1,D2⟩:=ok.D;obtain⟨E1,E2⟩:=ok.E;have hc:=fun H lo=>ain (o.sc H) o.lc s lo;rw[g2]at hc;have m1:=fun fr hf lo=>Z4 (g:=91) (o.sc (h++fr)) o.lc (by decide) (fun q _ lo=>aiw (x:=x) (v:=v) (j:=2) hn (fr:=fr) hf hs (by omega) E1 E2 q lo) lo
 have m2:=fun fr hf lo=>Z4 (g:=91) (o.sp (h++fr)) o.lp (by decide) (fun q _ lo=>aiw (x:=x) (v:=v) (j:=2) hn (fr:=fr) hf hs (by omega) E1 E2 q lo) lo
 have e1:(x.l.C.any fun q=>decide (q.1<s+x.l.E)&&decide (s<q.2))=zu x.l.C s (s+x.l.E):=rfl;have e2:(x.l.P.any fun q=>decide (q.1<s+x.l.E)&&decide (s<q.2))=zu x.l.P s (s+x.l.E):=rfl;rw[e1]at m1;rw[e2]at m2;have m1:=m1 [(v0,c0),(v1+1,.box [.int .i64 s,.int .i64 (s+1),.int .i64 (s+d),.int .i64 (s+d+1),.int .i64 d,.bool false,.bool false]),(v,.box [.int .i64 s])] rfl;have m2:=m2 [(v0,c0),(v1+1,.box [.int .i64 s,.int .i64 (s+1),.int .i64 (s+d),.int .i64 (s+d+1),.int .i64 d,.bool false,.bool false]),(v,.box [.int .i64 s])] rfl;simp only[SE,Bool.and_eq_false_iff,decide_eq_false_iff_not,Bool.not_eq_false']at g3;by_cases c1:d<x.l.D
 ·by_cases c2:s+x.l.E<=x.l.L
  ·cases c3:zu x.l.C s (s+x.l.E)
   ·have c4:zu x.l.P s (s+x.l.E)=true:=by
     rcases g3 with g3|g3|g3|g3
     ·exact absurd c1 g3
     ·exact absurd c2 g3
     ·rw[c3]at g3;cases g3
     ·exact g3
    rw[c3]at m1;rw[c4]at m2
    conv=>lhs;rw[jm]
    simp(maxSteps:=30000000)(disch:=omega)only[go_sem,Dn,hc,g1,hn,hn',hy,JM,Ms,Mt,TG,TF,Tq,Rv,TH,Nat.reduceEqDiff,c1,c2,m1,m2]
   ·rw[c3]at m1
    conv=>lhs;rw[jm]
    simp(maxSteps:=30000000)(disch:=omega)only[go_sem,Dn,hc,g1,hn,hn',hy,JM,Ms,Mt,TG,TF,Tq,Rv,TH,Nat.reduceEqDiff,c1,c2,m1]
  ·conv=>lhs;rw[jm]
   simp(maxSteps:=30000000)(disch:=omega)only[go_sem,Dn,hc,g1,hn,hn',hy,JM,Ms,Mt,TG,TF,Tq,Rv,TH,Nat.reduceEqDiff,c1,c2]
 ·conv=>lhs;rw[jm]
  simp(maxSteps:=30000000)(disch:=omega)only[go_sem,Dn,hc,g1,hn,hn',hy,JM,Ms,Mt,TG,TF,Tq,Rv,TH,Nat.reduceEqDiff,c1]
end
structure Nz(x:Stp):Prop where
 fr:0<=x.fr
 to:x.fr<x.to
 hi:x.to<=600
 tf:x.to-x.fr<=60
 be:x.be=x.fr+x.de
 af:x.be<=x.af
 af2:x.af<=x.be+61
 af3:x.af<=660
 de:0<=x.de
 de2:x.de<=60
section
variable {σ:Type}{H:σ->Heap}{nb lo id iv:Nat}{step:σ->Stp->σ}{Iv:Int->Int->σ->Prop}
theorem aLt{Q:Stp->Prop}{x:LV}(o:okV x)(ok:yT x.l)(hlen:∀ st,(H st).length=nb)(hlo:lo<=nb)
  (hI:∀ st X,Nz X->Q X->Iv X.fr X.be st->Iv X.to X.af (step st X))
  (hy:∀ st X fr,Nz X->Q X->Iv X.fr X.be st->tK (run lib) ⟨lo,nb,3,none⟩ id iv [Gw X] (H st++fr)=some (.bool true,H (step st X)++fr))
  {s d e:Int} {xs:List Stp} (h:Ch x.l s d xs e):(∀ X∈xs,Q X)->0<=s->0<=d->d<=x.l.D->∀ st,Iv s (s+d) st->∀(j v:Nat) (fr:Heap),((j=0/\∃ v1 b1 B2,fr=[(v,.box [.int .i64 s]),(v1,b1),B2])\/(j=2/\∃ v0 c0 v1 b1,fr=[(v0,c0),(v1,b1),(v,.box [.int .i64 s])])) ->
  Iv x.l.L (x.l.L+e) (xs.foldl step st)/\∃ fr',bV lib ⟨lo,nb,3,none⟩ (.loop Nu) (Q8 x id iv nb j v d (s+d),H st++fr)=some (.exit 0,([],H (xs.foldl step st)++fr')):=by
 obtain⟨L1,L2⟩:=ok.L;obtain⟨D1,D2⟩:=ok.D;obtain⟨E1,E2⟩:=ok.E
 induction h with
 |nil d =>
  intro hQ hs hd1 hd2 st hi j v fr hj;have hn:=hlen st;refine⟨hi,fr, ?_⟩;rcases hj with⟨rfl,v1,b1,B2,rfl⟩|⟨rfl,v0,c0,v1,b1,rfl⟩
  ·rw[jm];simp(maxSteps:=30000000)(disch:=omega)only[go_sem,hn,JM,DV,TA]
  ·rw[jm]
   simp(maxSteps:=30000000)(disch:=omega)only[go_sem,hn,JM,DV,TA]
 |@Mj s d e xs g1 g2 g3 g ih =>
  intro hQ hs hd1 hd2 st hi j v fr hj;have hL:=g.le E1;have hX:Nz ⟨s,s+1,s+d,s+d,d,true,false⟩:=⟨by simp only[];omega,by simp only[];omega,by simp only[];omega,by simp only[];omega,by simp only[],by simp only[];omega,by simp only[];omega,by simp only[];omega,by simp only[];omega,by simp only[];omega⟩
  have i1:=hI st _ hX (hQ _ (by simp)) hi
  rw[show (Stp.mk (s) (s+1) (s+d) (s+d) (d) (true) (false)).af=s+1+(d-1) by simp only[];omega]at i1
  have i2:=ih (fun X hx=>hQ X (by simp[hx])) (by omega) (by omega) (by omega) _ i1
  have hy1:=fun fr=>hy st _ fr hX (hQ _ (by simp)) hi
  simp only[Gw]at hy1;rw[List.foldl_cons];rcases hj with⟨rfl,v1,b1,B2,rfl⟩|⟨rfl,v0,c0,v1,b1,rfl⟩
  ·obtain⟨k1,fr',k2⟩:=i2 0 (v+1) _ (.inl ⟨rfl,_,_,_,rfl⟩);refine⟨k1,fr', ?_⟩;rw[aLl o ok (hlen st) (hlen _) hlo g1 g2 g3 hs ⟨hd1,hd2⟩ B2 (hy1 _),<-k2];congr 3;omega
  ·obtain⟨k1,fr',k2⟩:=i2 0 (v0+1) _ (.inl ⟨rfl,_,_,_,rfl⟩);refine⟨k1,fr', ?_⟩;rw[aLm o ok (hlen st) (hlen _) hlo g1 g2 g3 hs ⟨hd1,hd2⟩ v0 c0 (hy1 _),<-k2];congr 3
   omega
 |@Ml s d e xs g1 g2 g3 g ih =>
  intro hQ hs hd1 hd2 st hi j v fr hj;have hL:=g.le E1;have hX:Nz ⟨s,s+1,s+d,s+d+1,d,true,false⟩:=⟨by simp only[];omega,by simp only[];omega,by simp only[];omega,by simp only[];omega,by simp only[],by simp only[];omega,by simp only[];omega,by simp only[];omega,by simp only[];omega,by simp only[];omega⟩
  have i1:=hI st _ hX (hQ _ (by simp)) hi
  rw[show (Stp.mk (s) (s+1) (s+d) (s+d+1) (d) (true) (false)).af=s+1+(d) by simp only[];omega]at i1
  have i2:=ih (fun X hx=>hQ X (by simp[hx])) (by omega) (by omega) (by omega) _ i1
  have hy1:=fun fr=>hy st _ fr hX (hQ _ (by simp)) hi
  simp only[Gw]at hy1;rw[List.foldl_cons];rcases hj with⟨rfl,v1,b1,B2,rfl⟩|⟨rfl,v0,c0,v1,b1,rfl⟩
  ·obtain⟨k1,fr',k2⟩:=i2 0 (v+1) _ (.inl ⟨rfl,_,_,_,rfl⟩);refine⟨k1,fr', ?_⟩;rw[aLn o ok (hlen st) (hlen _) hlo g1 g2 g3 hs ⟨hd1,hd2⟩ B2 (hy1 _),<-k2];congr 3;omega
  ·obtain⟨k1,fr',k2⟩:=i2 0 (v0+1) _ (.inl ⟨rfl,_,_,_,rfl⟩);refine⟨k1,fr', ?_⟩;rw[aLo o ok (hlen st) (hlen _) hlo g1 g2 g3 hs ⟨hd1,hd2⟩ v0 c0 (hy1 _),<-k2];congr 3
   omega
 |@str s d e xs g1 g2 g3 g4 g5 g6 g ih =>
  intro hQ hs hd1 hd2 st hi j v fr hj;have hL:=g.le E1;have hX:Nz ⟨s,s+x.l.E,s+d,s+d+x.l.E+1,d,false,true⟩:=⟨by simp only[];omega,by simp only[];omega,by simp only[];omega,by simp only[];omega,by simp only[],by simp only[];omega,by simp only[];omega,by simp only[];omega,by simp only[];omega,by simp only[];omega⟩
  have i1:=hI st _ hX (hQ _ (by simp)) hi
  rw[show (Stp.mk (s) (s+x.l.E) (s+d) (s+d+x.l.E+1) (d) (false) (true)).af=s+x.l.E+(d+1) by simp only[];omega]at i1
  have i2:=ih (fun X hx=>hQ X (by simp[hx])) (by omega) (by omega) (by omega) _ i1
  have hy1:=fun fr=>hy st _ fr hX (hQ _ (by simp)) hi
  simp only[Gw]at hy1;rw[List.foldl_cons];rcases hj with⟨rfl,v1,b1,B2,rfl⟩|⟨rfl,v0,c0,v1,b1,rfl⟩
  ·obtain⟨k1,fr',k2⟩:=i2 0 (v+1) _ (.inl ⟨rfl,_,_,_,rfl⟩);refine⟨k1,fr', ?_⟩;rw[aLp o ok (hlen st) (hlen _) hlo g1 g2 g3 g4 g5 g6 hs ⟨hd1,hd2⟩ B2 (hy1 _),<-k2];congr 3;omega
  ·obtain⟨k1,fr',k2⟩:=i2 0 (v0+1) _ (.inl ⟨rfl,_,_,_,rfl⟩);refine⟨k1,fr', ?_⟩;rw[aLq o ok (hlen st) (hlen _) hlo g1 g2 g3 g4 g5 g6 hs ⟨hd1,hd2⟩ v0 c0 (hy1 _),<-k2];congr 3
   omega
 |@pl s d e xs g1 g2 g3 g ih =>
  intro hQ hs hd1 hd2 st hi j v fr hj;have hL:=g.le E1;have hX:Nz ⟨s,s+1,s+d,s+d+1,d,false,false⟩:=⟨by simp only[];omega,by simp only[];omega,by simp only[];omega,by simp only[];omega,by simp only[],by simp only[];omega,by simp only[];omega,by simp only[];omega,by simp only[];omega,by simp only[];omega⟩
  have i1:=hI st _ hX (hQ _ (by simp)) hi
  rw[show (Stp.mk (s) (s+1) (s+d) (s+d+1) (d) (false) (false)).af=s+1+(d) by simp only[];omega]at i1
  have i2:=ih (fun X hx=>hQ X (by simp[hx])) (by omega) (by omega) (by omega) _ i1
  have hy1:=fun fr=>hy st _ fr hX (hQ _ (by simp)) hi
  simp only[Gw]at hy1;rw[List.foldl_cons];rcases hj with⟨rfl,v1,b1,B2,rfl⟩|⟨rfl,v0,c0,v1,b1,rfl⟩
  ·obtain⟨k1,fr',k2⟩:=i2 0 (v+1) _ (.inl ⟨rfl,_,_,_,rfl⟩);refine⟨k1,fr', ?_⟩;rw[aLr o ok (hlen st) (hlen _) hlo g1 g2 g3 hs ⟨hd1,hd2⟩ B2 (hy1 _),<-k2];congr 3;omega
  ·obtain⟨k1,fr',k2⟩:=i2 0 (v0+1) _ (.inl ⟨rfl,_,_,_,rfl⟩);refine⟨k1,fr', ?_⟩;rw[aLs o ok (hlen st) (hlen _) hlo g1 g2 g3 hs ⟨hd1,hd2⟩ v0 c0 (hy1 _),<-k2];congr 3;omega
theorem aCK{Q:Stp->Prop}{x:LV}(o:okV x)(ok:yT x.l)(hlen:∀ st,(H st).length=nb)(hlo:lo<=nb)
  (hI:∀ st X,Nz X->Q X->Iv X.fr X.be st->Iv X.to X.af (step st X))
  (hy:∀ st X fr,Nz X->Q X->Iv X.fr X.be st->tK (run lib) ⟨lo,nb,3,none⟩ id iv [Gw X] (H st++fr)=some (.bool true,H (step st X)++fr))
  {e:Int} {xs:List Stp} (h:Ch x.l 0 x.l.D xs e) (hQ:∀ X∈xs,Q X) (st:σ) (hi:Iv 0 x.l.D st) :
  Iv x.l.L (x.l.L+e) (xs.foldl step st)/\(run lib).fn 89 [.lF id iv,.iE [.int .i64 x.l.L,.int .i64 x.l.D,.int .i64 x.l.E,pV x,cV x]] (H st) lo=some (.tuple [],H (xs.foldl step st)):=by
 obtain⟨D1,D2⟩:=ok.D;obtain⟨k1,fr',k2⟩:=aLt o ok hlen hlo hI hy h hQ (Fy _) D1 (Fy _) st (by rw[Int.zero_add];exact hi) 2 1 [(0,.dead),(0,.dead),(1,.box [.int .i64 0])] (.inr ⟨rfl,_,_,_,_,rfl⟩)
 rw[Int.zero_add]at k2;refine⟨k1, ?_⟩;have hn:=hlen st;have ho:=AA (L:=lib) (f:=89) (x:=x89) (args:=[.lF id iv,.iE [.int .i64 x.l.L,.int .i64 x.l.D,.int .i64 x.l.E,pV x,cV x]]) (h:=H st) (lo:=lo) rfl rfl rfl rfl (by rw[hn];exact hlo)
 have e2:∀ s' (X:Heap),(H s'++X).take nb=H s':=fun s' X=>by rw[<-hlen s',NA]
 rw[ho,hn];simp only[Q8]at k2;have hr:List.replicate x89.ns (0,aU.dead)=[(0,aU.dead),(0,aU.dead),(0,aU.dead)]:=rfl;simp(maxSteps:=30000000)(disch:=omega)only[go_sem,x89,hr,hn,Dn,JM,Ms,Mt,k2,e2]
theorem awq{x:LV}(o:okV x)(ok:yT x.l)(hlen:∀ st,(H st).length=nb)(hlo:lo<=nb)
  (hI:∀ st X,Nz X->Iv X.fr X.be st->Iv X.to X.af (step st X))
  (hy:∀ st X fr,Nz X->Iv X.fr X.be st->tK (run lib) ⟨lo,nb,3,none⟩ id iv [Gw X] (H st++fr)=some (.bool true,H (step st X)++fr))
  {e:Int} {xs:List Stp} (h:Ch x.l 0 x.l.D xs e) (st:σ) (hi:Iv 0 x.l.D st) :
  Iv x.l.L (x.l.L+e) (xs.foldl step st)/\(run lib).fn 89 [.lF id iv,.iE [.int .i64 x.l.L,.int .i64 x.l.D,.int .i64 x.l.E,pV x,cV x]] (H st) lo=some (.tuple [],H (xs.foldl step st)) :=
 aCK (Q:=fun _=>True) o ok hlen hlo (fun st X h1 _ h2=>hI st X h1 h2) (fun st X fr h1 _ h2=>hy st X fr h1 h2) h (fun _ _=>trivial) st hi
theorem apP(x:LV)(h:Heap)(lo:Nat):(run lib).fn 49 [FE x] h lo=some (.fn 89 [.iE [.int .i64 x.l.L,.int .i64 x.l.D,.int .i64 x.l.E,pV x,cV x]],h):=by
 unfold FE;rw[jH (x:=x49) rfl rfl rfl rfl];simp(maxSteps:=30000000)(disch:=omega)only[go_sem,x49]
end
end Go.VI.Dump
namespace Go.VI.Dump
open Go.VI.Num
/- BIGSTEPS -/
theorem aLu:∀ n:Nat,n<700->xS .and (.int .u64 (n:Nat)) (.int .u64 4294967295)=some (.int .u64 (n:Nat)):=by
 have h:(List.range 700).all (fun n=>IntKind.u64.wrap (BitVec.ofInt 64 (n:Nat) &&& BitVec.ofInt 64 4294967295).toNat==(n:Nat))=true:=by decide +kernel
 intro n hn;have:=Gq.mp h n (List.mem_range.mpr hn);simp only[beq_iff_eq]at this;exact congrArg (fun z=>some (AV.int .u64 z)) this
theorem awr{n:Int}(h0:0<=n)(h1:n<700):xS .and (.int .u64 n) (.int .u64 4294967295)=some (.int .u64 n):=by
 obtain⟨k,rfl⟩:∃ k:Nat,n=k:=⟨n.toNat,by omega⟩
 exact aLu k (by omega)
theorem awu{n:Int}(h0:0<=n)(h1:n<700):xS .shr (.int .u64 n) (.int .u64 32)=some (.int .u64 0):=by
 have:n.fdiv (2^(min (32:Int).toNat IntKind.u64.bits))=0:=by
  rw[show (2:Int)^(min (32:Int).toNat IntKind.u64.bits)=4294967296 by decide,Int.fdiv_eq_ediv_of_nonneg _ (by decide)]
  omega
 simp only[xS];rw[if_pos (by decide),this]
theorem aLv{n:Int}(h0:0<=n)(h1:n<700)(h:Heap)(lo:Nat):(run lib).fn 130 [.int .u64 1,.int .u64 n] h lo=some (.tuple [.int .u64 0,.int .u64 n],h):=by
 have a1:=awr h0 h1;have a2:=awr (n:=1) (by decide) (by decide)
 have a3:=awr (n:=0) (by decide) (by decide)
 have s1:=awu h0 h1;have s2:=awu (n:=1) (by decide) (by decide)
 have s3:=awu (n:=0) (by decide) (by decide)
 rw[jH (x:=atK) rfl rfl rfl rfl];simp(maxSteps:=30000000)(disch:=omega)only[go_sem,atK,a1,a2,a3,s1,s2,s3,Int.one_mul,Int.zero_mul,Int.add_zero,Int.zero_add,Int.mul_zero]
theorem aLw{n:Int}(h0:0<=n)(h1:n<700)(h:Heap)(lo:Nat):(run lib).fn 88 [.int .u64 1,.int .u64 n] h lo=some (.tuple [.int .u64 0,.int .u64 n],h):=by
 have e:=fun H lo=>aLv h0 h1 H lo;rw[jH (x:=x88) rfl rfl rfl rfl];simp(maxSteps:=30000000)(disch:=omega)only[go_sem,x88,e]
def LD(c n:Nat)(x:Int):List Int:=List.replicate n x++List.replicate (c-n) 0
theorem aCL{c n:Nat}(h:n<=c)(x:Int):(LD c n x).length=c:=by simp[LD];omega
theorem aLx(h:Heap)(x:Int)(c:Nat)(hc:c<=1000):∀(d n:Nat),n+d=c->0<n ->
  bV lib ⟨h.length,h.length,1,none⟩ (.loop aoD) ([(7,.ref (h.length+0) 1 1 0 c c),(8,.int .i64 n)],h++[(1,.arr 1 (ints (LD c n x)))]) =
   some (.exit 0,([(7,.ref (h.length+0) 1 1 0 c c)],h++[(1,.arr 1 (ints (LD c c x)))])):=by
 intro d
 induction d using Nat.strongRecOn with
 |_ d ih =>
  intro n hn h0;have hl:(ints (LD c n x)).length=c:=by rw[DI,aCL (by omega)]
  have ln:LZ false (.ref (h.length+0) 1 1 0 c c)=some (.int .i64 c):=by simp[LZ,DY]
  rcases Y3 d with hd|hd
  ·obtain rfl:n=c:=by omega
   rw[jm];simp(maxSteps:=30000000)(disch:=omega)only[go_sem,ln,DV]
  ·have h1:(n:Int)<c:=by omega
   have s1:Rc (some 1) (.ref (h.length+0) 1 1 0 c c) (some (.int .i64 n)) none=some (.ref (h.length+0) 1 1 n (c-n) c):=by
    rw[asU,aAz,Option.bind_some,aou (by omega) (by omega)];simp
   have s2:Rc (some 1) (.ref (h.length+0) 1 1 0 c c) none (some (.int .i64 n))=some (.ref (h.length+0) 1 1 0 n c):=by
    rw[asU,aou (by omega) (by omega),Option.bind_some,aAz];simp
   have s3:JH (h++[(1,.arr 1 (ints (LD c n x)))]) 1 (.ref (h.length+0) 1 1 0 n c)=some (ints (List.replicate n x)):=by
    have:=(Sl.ref (h:=h) (fr:=[(1,.arr 1 (ints (LD c n x)))]) (s:=0) (ak:=1) (z:=1) (off:=0) (len:=n) (fill:=c) (es:=ints (LD c n x)) rfl hl (by omega)).aol
    rw[this];simp[LD,ints]
   have cp:=aAA (lo:=h.length) (ns:=1) (h:=h) (fr:=[(1,.arr 1 (ints (LD c n x)))]) (s:=0) (ak:=1) (z:=1) (off:=n) (len:=c-n) (fill:=c) (es:=ints (LD c n x)) (ys:=ints (List.replicate n x)) rfl hl (by omega) (iJ _)
   have hm:min (ints (List.replicate n x)).length (c-n)=min n (c-n):=by simp[ints]
   rw[hm]at cp
   have he:(ints (LD c n x)).take n++(ints (List.replicate n x)).take (min n (c-n))++(ints (LD c n x)).drop (n+min n (c-n))=ints (LD c (n+min n (c-n)) x):=by
    simp only[ints,LD,<-List.map_take,<-List.map_drop,<-List.map_append];congr 1;simp only[F6,List.take_append,List.take_replicate,List.drop_append,List.drop_replicate,Tc];rw[show n-(n+min n (c-n))=0 by omega]
    generalize hM:min n (c-n)=M;rw[show min n n=n by omega,show min (n-n) (c-n)=0 by omega,show min M n=M by omega,show c-n-(n+M-n)=c-(n+M) by omega]
    simp only[List.replicate_zero,Gs,List.nil_append];rw[List.replicate_append_replicate]
   rw[he]at cp;have e:=ih (d-min n (c-n)) (by omega) (n+min n (c-n)) (by omega) (by omega)
   rw[Int.natCast_add]at e;have b1:((min n (c-n):Nat):Int)<=1000:=by omega
   have b2:(0:Int)<=((min n (c-n):Nat):Int):=by omega
   generalize min n (c-n)=M at*;rw[jm];simp(maxSteps:=30000000)(disch:=omega)only[go_sem,ln,h1,s1,s2,s3,cp,e]
theorem aCM(x:Int)(c:Nat)(hc:c<=600)(h:Heap)(lo:Nat):(run lib).fn 48 [.fT 1 [.int .i64 x],.int .i64 c] h lo=some (if c=0 then .fT 1 []else .own 1 (ints (List.replicate c x)),h):=by
 have hm:=fun H lo=>aLw (n:=c) (by omega) (by omega) H lo
 have l1:LZ false (.fT 1 [.int .i64 x])=some (.int .i64 1):=rfl;rw[jH (x:=x48) rfl rfl rfl rfl];rcases Y3 c with h0|h0
 ·subst h0;simp only[Gc]at hm
  have hb:bV lib ⟨h.length,h.length,1,none⟩ (.loop aoD) ([(7,.fT 1 []),(8,.int .i64 0)],h++[(0,.dead)])=some (.exit 0,([(7,.fT 1 [])],h++[(0,.dead)])):=by
   rw[jm];simp(maxSteps:=30000000)(disch:=omega)only[go_sem,show LZ false (.fT 1 [])=some (.int .i64 0)from rfl]
  have cp:Rx ⟨h.length,h.length,1,none⟩ 1 (.fT 1 []) [.int .i64 x] (h++[(0,.dead)])=some (.int .i64 0,h++[(0,.dead)]):=by
   simp[Rx,xB,DY]
  have al:JH (h++[(0,.dead)]) 1 (.fT 1 [.int .i64 x])=some [.int .i64 x]:=(Sl.fT _ _ _).aol;have gr:tJ h.length (.fT 1 []) (h++[(0,.dead)])=some (.fT 1 []):=by simp[tJ,give,gI]
  simp(maxSteps:=30000000)(disch:=omega)only[go_sem,x48,hm,l1,aHV,cp,al,hb,gr,Option.map_some]
 ·have e:=aLx h x c (by omega) (c-1) 1 (by omega) (by omega)
  have cp:=aAA (lo:=h.length) (ns:=1) (h:=h) (fr:=[(1,.arr 1 (List.replicate c (.int .i64 0)))]) (s:=0) (ak:=1) (z:=1) (off:=0) (len:=c) (fill:=c) (es:=List.replicate c (.int .i64 0)) (ys:=[.int .i64 x]) rfl (by simp) (by omega) (iJ _)
  have hmin:min [AV.int .i64 x].length c=1:=by simp;omega
  rw[hmin]at cp
  have he:(List.replicate c (AV.int .i64 0)).take 0++[AV.int .i64 x].take 1++(List.replicate c (AV.int .i64 0)).drop (0+1)=ints (LD c 1 x):=by
   simp[ints,LD]
  rw[he]at cp;have al:∀ fr:Heap,JH (h++fr) 1 (.fT 1 [.int .i64 x])=some [.int .i64 x]:=fun fr=>(Sl.fT _ _ _).aol;have h1:¬ c=0:=by omega
  have gv:=aja (h:=h) (s:=0) (ak:=1) (z:=1) (fr:=[(1,.arr 1 (ints (LD c c x)))]) (es:=ints (LD c c x)) rfl;have hr:LD c c x=List.replicate c x:=by simp[LD]
  rw[DI,aCL (iJ _)]at gv;rw[hr]at gv e;have c1:((1:Nat):Int)=1:=rfl;rw[c1]at e cp;have h2:(0:Int)<(c:Int):=by omega
  have gr:tJ h.length (.ref (h.length+0) 1 1 0 c c) (h++[(1,.arr 1 (ints (List.replicate c x)))])=some (.own 1 (ints (List.replicate c x))):=by
   simp only[tJ,gv,Option.map_some]
  have h3:¬ (c:Int)<0:=by omega
  have h4:¬ 9223372036854775807<(c:Int):=by omega
  simp(maxSteps:=30000000)(disch:=omega)only[go_sem,x48,hm,l1,aHW,cp,al,e,h1,h3,h4,gr]
end Go.VI.Dump
namespace Go.VI
theorem awM{lo base ns s z lim:Nat}{p:Nat×Nat}{x:AV}{xs:List AV}{h:Heap}:wG ⟨lo,base,ns,some p⟩ s z lim x xs h=wG ⟨lo,base,ns,none⟩ s z lim x xs h:=by
 cases x<;>rfl
theorem awN{lo ns s ak off:Nat}{h fr:Heap}{v:AV}{p:Nat×Nat}(hlo:lo<=h.length)(hc:(Cx.mk lo h.length ns (some p)).fit v=true)(hv:v.cells.length=1/\v.val=true) :
  qE ⟨lo,h.length,ns,some p⟩ (h++fr) 1 (.bq (h.length+s) ak off) v=Za s lo ns ak off h fr v fr[s]?:=by
 simp only[qE,hv,and_self,if_true,ku]
 cases fr[s]? with
 |none=>rfl
 |some x =>
  obtain⟨w,b⟩:=x
  cases b with
  |box cs =>
   have hle:lo<=h.length+s:=by omega
   by_cases hw:w=ak
   ·simp[Za,hw,hle,hc,o7]
   ·simp[Za,hw]
  |_=>rfl
theorem aLy{cx:Cx}{v:AV}(h:v.SQ (cx.base+cx.ns)=true):cx.fit v=true:=by simp[Cx.fit,h]
def AB(n:Nat)(z:Bool)(es:List AV):AV:=if z then(if es=[]then .fT 1 []else .ref (n+2) 1 1 0 es.length es.length)else .ref (n+3) 1 1 0 es.length es.length
def IC(z:Bool)(es:List AV):Nat×aU:=if z=true/\es≠[] then(1,.arr 1 es) else(0,.dead)
def IE(z:Bool)(es:List AV):Nat×aU:=if z then(0,.dead) else(1,.arr 1 es)
@[go_sem] theorem aLz(n:Nat)(z:Bool)(es:List AV):(AB n z es).cells=[AB n z es]:=by unfold AB;(repeat' split)<;>rfl
@[go_sem] theorem aLA(n:Nat)(z:Bool)(es:List AV):(AB n z es).val=true:=by unfold AB;(repeat' split)<;>rfl
theorem aLB{lo n:Nat}{p:Nat×Nat}{z:Bool}{es:List AV}:(Cx.mk lo n 5 (some p)).fit (AB n z es)=true:=by
 refine aLy ?_;unfold AB
 (repeat' split)
 ·rfl
 ·simp[AV.SQ]
 ·simp[AV.SQ]
theorem aLC{h fr:Heap}{r b o:Nat×aU}{z:Bool}{es:List AV}{x:AV}(hl:es.length<=100000) :
  wG ⟨h.length,h.length,5,none⟩ 2 1 17592186044416 (AB h.length z es) [x] (h++(r::b::IC z es::IE z es::o::fr))=some (AB h.length z (es++[x]),h++(r::b::IC z (es++[x])::IE z (es++[x])::o::fr)):=by
 have hne:es++[x]≠[]:=by simp
 cases z with
 |true =>
  by_cases h0:es=[]
  ·subst h0;have:=aIk (lo:=h.length) (ns:=5) (s:=2) (z:=1) (lim:=17592186044416) (h:=h) (fr:=r::b::(0,.dead)::(0,.dead)::o::fr) (ak:=0) (b:=.dead) (xs:=[x]) (by omega) rfl (by simp) (by simp)
   simp only[AB,IC,IE,if_true,ne_eq,not_true_eq_false,and_false,if_false,List.nil_append,reduceCtorEq,not_false_eq_true,and_self];rw[this];rfl
  ·have:=ac7 (cx:=⟨h.length,h.length,5,none⟩) (s:=2) (z:=1) (lim:=17592186044416) (id:=h.length+2) (ak:=1) (h:=h++(r::b::(1,.arr 1 es)::(0,.dead)::o::fr)) (es:=es) (xs:=[x]) (by rw[ku];rfl) (by simp) (by simp;omega)
   simp only[AB,IC,IE,if_true,h0,hne,ne_eq,not_false_eq_true,and_self,if_false]
   rw[this,o7,uG];rfl
 |false =>
  have:=ac7 (cx:=⟨h.length,h.length,5,none⟩) (s:=2) (z:=1) (lim:=17592186044416) (id:=h.length+3) (ak:=1) (h:=h++(r::b::(0,.dead)::(1,.arr 1 es)::o::fr)) (es:=es) (xs:=[x]) (by rw[ku];rfl) (by simp) (by simp;omega)
  simp only[AB,IC,IE,uM,if_false,false_and];rw[this,o7,uG];rfl
theorem aLD{h fr:Heap}{r b o:Nat×aU}{z:Bool}{es:List AV}(hz:z=true->es≠[]):∃ h',give h.length (AB h.length z es) (h++(r::b::IC z es::IE z es::o::fr))=some (.own 1 es,h'):=by
 cases z with
 |true =>
  have h0:=hz rfl;simp only[AB,IC,IE,if_true,h0,ne_eq,not_false_eq_true,and_self,if_false]
  exact⟨_,aja rfl⟩
 |false =>
  simp only[AB,IC,IE,uM,if_false,false_and];exact⟨_,aja rfl⟩
end Go.VI
namespace Go.VI.Dump
open Go.VI.Num
/- BIGSTEPS -/
def awO(x:Stp)(k:Nat):Int:=if x.cut then -1 else max (x.to-(x.af-(x.be+(k:Int)))) x.fr
theorem awP(x:Stp):(Gl x).length=(x.af-x.be).toNat:=by simp[Gl]
theorem aLE{x:Stp}{k:Nat}(h:k<(x.af-x.be).toNat):(Gl x).take (k+1)=(Gl x).take k++[awO x k]:=by
 rw[ajj (by rw[awP];exact h)]
 congr 1;simp[Gl,awO]
theorem akN(a:List Int)(x:Int):ints (a++[x])=ints a++[.int .i64 x]:=by simp[ints]
theorem aLF{X:Stp}(hX:Nz X){h fr:Heap}{z:Bool}{R:Nat×aU}{p:Nat×Nat}{v:Nat}{es:List Int}(hl:es.length<=700):∀(d k:Nat),k+d=(X.af-X.be).toNat ->
  bV lib ⟨h.length,h.length,5,some p⟩ (.loop as4) ([(4,.bq (h.length+4) 1 0),(5,.bq (h.length+1) v 0),(6,.int .i64 (X.be+k))],h++(R::(v,.box (sO X))::IC z (ints (es++(Gl X).take k))::IE z (ints (es++(Gl X).take k))::(1,.box [AB h.length z (ints (es++(Gl X).take k))])::fr)) =
   some (.exit 2,([],h++(R::(v,.box (sO X))::IC z (ints (es++Gl X))::IE z (ints (es++Gl X))::(1,.box [AB h.length z (ints (es++Gl X))])::fr))):=by
 obtain⟨x1,x2,x3,x4,x5,x6,x7,x8,x9,x10⟩:=hX;have hal:=awP X;intro d
 induction d with
 |zero =>
  intro k hk;have c:¬ X.be+(k:Int)<X.af:=by omega
  rw[ZC (by omega),jm]
  simp(maxSteps:=30000000)(disch:=omega)only[go_sem,sO,c]
 |succ d ih =>
  intro k hk;have c:X.be+(k:Int)<X.af:=by omega
  have e:=ih (k+1) (by omega)
  have hlt:((Gl X).take k).length=k:=by rw[JK];omega
  rw[aLE (by omega),<-sZ,akN,Dm,<-Int.add_assoc]at e
  have hL:(es++(Gl X).take k).length<=1000:=by rw[uG];omega
  generalize es++(Gl X).take k=L at*;have ea:=fun x fr=>aLC (h:=h) (r:=R) (b:=(v,.box (sO X))) (o:=(1,.box [AB h.length z (ints L)])) (fr:=fr) (z:=z) (es:=ints L) (x:=x) (by simp;omega)
  have ea:∀ x fr,wG ⟨h.length,h.length,5,some p⟩ 2 1 17592186044416 (AB h.length z (ints L)) [x] (h++(R::(v,.box (sO X))::IC z (ints L)::IE z (ints L)::(1,.box [AB h.length z (ints L)])::fr))=_:=fun x fr=>(awM (p:=p)).trans (ea x fr);have es:=fun x (fr:Heap)=>awN (lo:=h.length) (ns:=5) (s:=4) (ak:=1) (off:=0) (h:=h) (p:=p) (fr:=R::(v,.box (sO X))::IC z (ints L++[x])::IE z (ints L++[x])::(1,.box [AB h.length z (ints L)])::fr) (v:=AB h.length z (ints L++[x])) (iJ _) aLB ⟨by rw[aLz];rfl,aLA _ _ _⟩
  simp only[sO]at ea es e⊢;rw[jm];unfold awO at e;cases hc:X.cut
  ·rw[hc]at e ea es;simp only[uM,if_false]at e;simp(maxSteps:=30000000)(disch:=omega)only[go_sem,c,hc,ea,es,e]
  ·rw[hc]at e ea es;simp only[if_true]at e;simp(maxSteps:=30000000)(disch:=omega)only[go_sem,c,hc,ea,es,e]
end Go.VI.Dump
namespace Go.VI.Dump
open Go.VI.Num
/- BIGSTEPS -/
abbrev NC(x:LV):AV:=.iE [.int .i64 x.l.L,.int .i64 x.l.D,.int .i64 x.l.E,pV x,cV x]
abbrev AS:=List Int×Nat×aU
def akO(h:Heap)(x:LV):Env:=[(2,.bO),(3,.int .i64 0),(4,.bq (h.length+4) 1 0),(16,.fn 89 [NC x])]
def awQ(h:Heap)(x:LV):kP:=⟨0,h.length,h.length,5,akO h x⟩
def akP(h:Heap)(x:LV)(z:Bool)(st:AS):Heap:=h++[(1,.aV (awQ h x) .ready),st.2,IC z (ints st.1),IE z (ints st.1),(1,.box [AB h.length z (ints st.1)])]
def aiG(st:AS)(X:Stp):AS:=(st.1++Gl X,st.2.1+1,.box (sO X))
def ajz(s a:Int)(st:AS):Prop:=(st.1.length:Int)=a
theorem aLG{x:LV}(h:Heap)(z:Bool)(st:AS)(X:Stp)(fr:Heap)(hX:Nz X)(hi:ajz X.fr X.be st) :
  tK (run lib) ⟨h.length,h.length+5,3,none⟩ (h.length+0) 1 [Gw X] (akP h x z st++fr)=some (.bool true,akP h x z (aiG st X)++fr):=by
 obtain⟨out,v,b⟩:=st;simp only[ajz]at hi;have hb:=hX.af3;have hba:=hX.af;obtain⟨D,hD⟩:∃ D:kP,D=awQ h x:=⟨_,rfl⟩;simp only[akP,aiG,sZ,List.cons_append,List.nil_append,<-hD]
 have ha:bV lib ⟨h.length,h.length,5,some (h.length+0,1)⟩ r0.xQ ((r0.ps.zip [Gw X]).foldl (fun e p=>e.set p.1 p.2) (akO h x),h++((1,.aV D .ready)::(v,b)::IC z (ints out)::IE z (ints out)::(1,.box [AB h.length z (ints out)])::fr)) =
   some (.norm,([(4,.bq (h.length+4) 1 0),(5,.bq (h.length+1) (v+1) 0)],h++((1,.aV D .ready)::(v+1,.box (sO X))::IC z (ints out)::IE z (ints out)::(1,.box [AB h.length z (ints out)])::fr))):=by
  have em:mK ⟨h.length,h.length,5,some (h.length+0,1)⟩ 1 (.box [.int .i64 0,.int .i64 0,.int .i64 0,.int .i64 0,.int .i64 0,.bool false,.bool false]) (h++((1,.aV D .ready)::(v,b)::IC z (ints out)::IE z (ints out)::(1,.box [AB h.length z (ints out)])::fr))=some (v+1,h++((1,.aV D .ready)::(v+1,.box [.int .i64 0,.int .i64 0,.int .i64 0,.int .i64 0,.int .i64 0,.bool false,.bool false])::IC z (ints out)::IE z (ints out)::(1,.box [AB h.length z (ints out)])::fr)):=by
   rw[Zk (by rfl)]
   simp(maxSteps:=30000000)(disch:=omega)only[go_sem]
  have es:qE ⟨h.length,h.length,5,some (h.length+0,1)⟩ (h++((1,.aV D .ready)::(v+1,.box [.int .i64 0,.int .i64 0,.int .i64 0,.int .i64 0,.int .i64 0,.bool false,.bool false])::IC z (ints out)::IE z (ints out)::(1,.box [AB h.length z (ints out)])::fr)) 7 (.bq (h.length+1) (v+1) 0) (Gw X)=some (h++((1,.aV D .ready)::(v+1,.box (sO X))::IC z (ints out)::IE z (ints out)::(1,.box [AB h.length z (ints out)])::fr)):=by
   rw[Ro (by omega) (by rfl)]
   simp(maxSteps:=30000000)(disch:=omega)only[go_sem,Gw,sO]
  simp(maxSteps:=30000000)(disch:=omega)only[go_sem,r0,akO,em,es,List.zip_cons_cons,ZU,List.foldl_cons,TA]
 have hb:∃ zk,bV lib ⟨h.length,h.length,5,some (h.length+0,1)⟩ r0.body ([(4,.bq (h.length+4) 1 0),(5,.bq (h.length+1) (v+1) 0)],(h++((1,.aV D .ready)::(v+1,.box (sO X))::IC z (ints out)::IE z (ints out)::(1,.box [AB h.length z (ints out)])::fr)).set (h.length+0) (1,.aV D .busy)) =
   some (.norm,(zk,h++((1,.aV D .busy)::(v+1,.box (sO X))::IC z (ints (out++Gl X))::IE z (ints (out++Gl X))::(1,.box [AB h.length z (ints (out++Gl X))])::fr))):=by
  refine⟨[], ?_⟩;rw[o7];have e:=aLF hX (h:=h) (fr:=fr) (z:=z) (R:=(1,.aV D .busy)) (p:=(h.length+0,1)) (v:=v+1) (es:=out) (by omega) (X.af-X.be).toNat 0 (by omega)
  simp only[List.take_zero,Gs,Gc,Int.add_zero]at e;simp only[sO]at e⊢;simp(maxSteps:=30000000)(disch:=omega)only[go_sem,r0,e]
 obtain⟨zk,hb⟩:=hb;have hg:(h++((1,aU.aV D .ready)::(v,b)::IC z (ints out)::IE z (ints out)::(1,.box [AB h.length z (ints out)])::fr))[h.length+0]?=some (1,.aV ⟨0,h.length,h.length,5,akO h x⟩ .ready):=by rw[ku,hD];rfl
 have:=Zb (L:=lib) (cx:=⟨h.length,h.length+5,3,none⟩) hg (iJ _) (by omega) (iJ _) (by simp[Gw,AV.EY,AV.closed]) (x:=r0) rfl rfl ha (by rw[ku];rfl) hb (by rw[ku];rfl)
 rw[this,o7];rfl
theorem aLH(xs:List Stp):∀ st:AS,(xs.foldl aiG st).1=st.1++o5 xs:=by
 induction xs with
 |nil=>intro st;simp[o5]
 |cons X xs ih=>intro st;rw[List.foldl_cons,ih];simp[aiG,o5]
theorem aLI(st:AS)(X:Stp)(hX:Nz X)(hi:ajz X.fr X.be st):ajz X.to X.af (aiG st X):=by
 have:=hX.af;simp only[ajz,aiG,uG,awP]at *;omega
theorem aLJ{l:qf}(ok:yT l){xs:List Stp}{e:Int}(h:Ch l 0 l.D xs e)(hD:l.D=0):o5 xs≠[]:=by
 intro h0;have h1:=h.amu ok.E.1;have h2:=h.dl ok.D.1 (Fy _);have h3:=ok.L;rw[h0]at h1;simp at h1;omega
theorem awR{x:LV}(o:okV x)(ok:yT x.l){xs:List Stp}{e:Int}(hc:Ch x.l 0 x.l.D xs e)(h:Heap)(lo:Nat) :
  (run lib).fn 14 [FE x] h lo=some (.tuple [.own 1 (ints (tu x.l xs)),.int .i64 0],h):=by
 have ev:=fun H lo=>amT o H lo;rw[apC.mpr ok]at ev;obtain⟨D1,D2⟩:=ok.D;obtain⟨N,hN⟩:∃ N:Nat,x.l.D=N:=⟨x.l.D.toNat,by omega⟩
 have er:=fun H lo=>aCM (-1) N (by omega) H lo
 rw[<-hN]at er;have dc:=fun H lo=>apP x H lo;obtain⟨z,hz⟩:∃ z:Bool,z=decide (N=0):=⟨_,rfl⟩;have hlen:∀ st,(akP h x z st).length=h.length+5:=fun st=>by simp[akP]
 have g2:=awq (id:=h.length+0) (iv:=1) (H:=akP h x z) (nb:=h.length+5) (lo:=h.length) (step:=aiG) (Iv:=ajz) o ok hlen (by omega) (fun st X hX hi=>aLI st X hX hi) (fun st X fr hX hi=>aLG (x:=x) h z st X fr hX hi) hc (List.replicate N (-1),0,.dead) (by simp[ajz,hN])
 obtain⟨_,g2⟩:=g2;obtain⟨st,hst⟩:∃ st,st=xs.foldl aiG (List.replicate N (-1),0,.dead):=⟨_,rfl⟩;have hs1:st.1=tu x.l xs:=by rw[hst,aLH];unfold tu;rw[hN];rfl
 rw[<-hst]at g2;obtain⟨out,vb⟩:=st;simp only at hs1;subst hs1
 have hne:z=true->ints (tu x.l xs)≠[]:=by
  intro h1;rw[hz]at h1;have h0:N=0:=of_decide_eq_true h1;have:=aLJ ok hc (by omega)
  unfold tu ints;simp[this]
 have g3:=abE (L:=lib) (lo:=h.length) (ns:=5) (s:=0) (g:=0) (it:=89) (v:=0) (caps:=[NC x]) (env:=akO h x) (h:=h) (b:=.dead)
  (fr:=[(0,.dead),(0,.dead),IC z (ints (List.replicate N (-1))),IE z (ints (List.replicate N (-1))),(1,.box [AB h.length z (ints (List.replicate N (-1)))])])
  (fr':=[(1,.aV (awQ h x) .ready),vb,IC z (ints (tu x.l xs)),IE z (ints (tu x.l xs)),(1,.box [AB h.length z (ints (tu x.l xs))])])
  (f:=.t 16) rfl (by omega) rfl g2 rfl
 obtain⟨h',gv⟩:=aLD (h:=h) (fr:=[]) (r:=(1+0,.dead)) (b:=vb) (o:=(1,.box [AB h.length z (ints (tu x.l xs))])) hne;simp only[akO,List.set_cons_zero]at g3;unfold FE at ev dc⊢;rw[jH (x:=x14) rfl rfl rfl rfl];by_cases h0:N=0
 ·have hz1:z=true:=by rw[hz];exact decide_eq_true h0
  subst hz1;subst h0;simp only[if_true]at er;have a1:AB h.length true (ints (List.replicate 0 (-1)))=.fT 1 []:=rfl;have a2:IC true (ints (List.replicate 0 (-1)))=(0,.dead):=rfl;have a3:IE true (ints (List.replicate 0 (-1)))=(0,.dead):=rfl;rw[a1,a2,a3]at g3;have tk:∀ H:Heap,F9 ⟨h.length,h.length,5,none⟩ [(0,3)] (some (.fT 1 [],H))=some (.fT 1 [],H):=fun H=>by simp[F9,Dz,weak,yY]
  have lc:(AV.fT 1 []).cells=[.fT 1 []]:=rfl;have lv:(AV.fT 1 []).val=true:=rfl;simp(maxSteps:=30000000)(disch:=omega)only[go_sem,x14,ev,er,dc,tk,g3,gv,lc,lv]
 ·have hz1:z=false:=by rw[hz];exact decide_eq_false h0
  subst hz1;simp only[h0,if_false]at er;have hne2:ints (List.replicate N (-1))≠[]:=by simp[ints];omega
  have a1:AB h.length false (ints (List.replicate N (-1)))=.ref (h.length+3) (0+1) 1 0 (ints (List.replicate N (-1))).length (ints (List.replicate N (-1))).length:=rfl;have a2:IC false (ints (List.replicate N (-1)))=(0,.dead):=rfl;have a3:IE false (ints (List.replicate N (-1)))=(0+1,.arr 1 (ints (List.replicate N (-1)))):=rfl;rw[a1,a2,a3]at g3;have tk:=ai' (lo:=h.length) (ns:=5) (s:=3) (z:=1) (h:=h) (fr:=[(0,.dead),(0,.dead),(0,.dead),(0,.dead),(0,.dead)]) (b0:=(0,.dead)) (es:=ints (List.replicate N (-1))) (by omega) rfl hne2
  rw[show BL 1 (ints (List.replicate N (-1)))=.own 1 (ints (List.replicate N (-1)))from if_neg hne2]at tk
  simp(maxSteps:=30000000)(disch:=omega)only[go_sem,x14,ev,er,dc,tk,g3,gv]
end Go.VI.Dump
namespace Go.VI
theorem aCN{lo base ns s:Nat}{p:Nat×Nat}{b0:Nat×aU}{z:Nat}{es:List AV}(h:s<ns):(Cx.mk lo base ns (some p)).fit (jJ (base+s) b0 z es)=true:=by
 unfold jJ;split
 ·rfl
 ·simp[Cx.fit,AV.SQ,h]
end Go.VI
namespace Go.VI.Dump
open Go.VI.Num
/- BIGSTEPS -/
theorem aLK(x:Int)(k:Nat):List.replicate (k+1) x=List.replicate k x++[x]:=by rw[<-List.replicate_append_replicate];rfl
theorem aLL{X:Stp}(hX:Nz X){h fr:Heap}{R:Nat×aU}{p:Nat×Nat}{v:Nat}{es:List Int}(hl:es.length<=700):∀(d k:Nat),k+d=(X.to-X.fr).toNat ->
  bV lib ⟨h.length,h.length,4,some p⟩ (.loop as5) ([(4,.bq (h.length+3) 1 0),(5,.bq (h.length+1) v 0),(18,.int .i64 (X.to-X.fr)),(19,.int .i64 k)],h++(R::(v,.box (sO X))::jw (0,.dead) 1 (ints (es++List.replicate k X.de))::(1,.box [jJ (h.length+2) (0,.dead) 1 (ints (es++List.replicate k X.de))])::fr)) =
   some (.exit 2,([],h++(R::(v,.box (sO X))::jw (0,.dead) 1 (ints (es++List.replicate (X.to-X.fr).toNat X.de))::(1,.box [jJ (h.length+2) (0,.dead) 1 (ints (es++List.replicate (X.to-X.fr).toNat X.de))])::fr))):=by
 obtain⟨x1,x2,x3,x4,x5,x6,x7,x8,x9,x10⟩:=hX;intro d
 induction d with
 |zero =>
  intro k hk;obtain rfl:k=(X.to-X.fr).toNat:=by omega
  have c:¬ ((X.to-X.fr).toNat:Int)<X.to-X.fr:=by omega
  rw[jm]
  simp(maxSteps:=30000000)(disch:=omega)only[go_sem,sO,c]
 |succ d ih =>
  intro k hk;have c:(k:Int)<X.to-X.fr:=by omega
  have e:=ih (k+1) (by omega)
  rw[aLK X.de k,<-sZ,akN,Dm]at e;have hL:(es++List.replicate k X.de).length<=1000:=by rw[uG,Tc];omega
  generalize es++List.replicate k X.de=L at*;have ea:=RQ (lo:=h.length) (ns:=4) (s:=2) (z:=1) (lim:=17592186044416) (h:=h) (fr:=R::(v,.box (sO X))::jw (0,.dead) 1 (ints L)::(1,.box [jJ (h.length+2) (0,.dead) 1 (ints L)])::fr) (b0:=(0,.dead)) (es:=ints L) (xs:=[.int .i64 X.de]) (by omega) (by omega) rfl (by simp;omega)
  rw[<-awM (p:=p)]at ea;have es:=awN (lo:=h.length) (ns:=4) (s:=3) (ak:=1) (off:=0) (h:=h) (p:=p) (fr:=R::(v,.box (sO X))::jw (0,.dead) 1 (ints L++[.int .i64 X.de])::(1,.box [jJ (h.length+2) (0,.dead) 1 (ints L)])::fr) (v:=jJ (h.length+2) (0,.dead) 1 (ints L++[.int .i64 X.de])) (iJ _) (aCN (by omega)) ⟨by rw[Tt];rfl,ai9 _ _ _ _⟩
  simp only[sO]at ea es e⊢;rw[jm];simp(maxSteps:=30000000)(disch:=omega)only[go_sem,c,ea,es,e,Tt]
def akQ(h:Heap)(x:LV):Env:=[(2,.bO),(3,.int .i64 0),(4,.bq (h.length+3) 1 0),(10,.fn 89 [NC x])]
def awS(h:Heap)(x:LV):kP:=⟨1,h.length,h.length,4,akQ h x⟩
def akR(h:Heap)(x:LV)(st:AS):Heap:=h++[(1,.aV (awS h x) .ready),st.2,jw (0,.dead) 1 (ints st.1),(1,.box [jJ (h.length+2) (0,.dead) 1 (ints st.1)])]
def aiH(st:AS)(X:Stp):AS:=(st.1++List.replicate (X.to-X.fr).toNat X.de,st.2.1+1,.box (sO X))
def ajA(s a:Int)(st:AS):Prop:=(st.1.length:Int)=s
theorem aLM{x:LV}(h:Heap)(st:AS)(X:Stp)(fr:Heap)(hX:Nz X)(hi:ajA X.fr X.be st) :
  tK (run lib) ⟨h.length,h.length+4,3,none⟩ (h.length+0) 1 [Gw X] (akR h x st++fr)=some (.bool true,akR h x (aiH st X)++fr):=by
 obtain⟨out,v,b⟩:=st;simp only[ajA]at hi;have hb:=hX.hi;have hba:=hX.to;obtain⟨D,hD⟩:∃ D:kP,D=awS h x:=⟨_,rfl⟩;simp only[akR,aiH,sZ,List.cons_append,List.nil_append,<-hD]
 have ha:bV lib ⟨h.length,h.length,4,some (h.length+0,1)⟩ r1.xQ ((r1.ps.zip [Gw X]).foldl (fun e p=>e.set p.1 p.2) (akQ h x),h++((1,.aV D .ready)::(v,b)::jw (0,.dead) 1 (ints out)::(1,.box [jJ (h.length+2) (0,.dead) 1 (ints out)])::fr)) =
   some (.norm,([(4,.bq (h.length+3) 1 0),(5,.bq (h.length+1) (v+1) 0)],h++((1,.aV D .ready)::(v+1,.box (sO X))::jw (0,.dead) 1 (ints out)::(1,.box [jJ (h.length+2) (0,.dead) 1 (ints out)])::fr))):=by
  have em:mK ⟨h.length,h.length,4,some (h.length+0,1)⟩ 1 (.box [.int .i64 0,.int .i64 0,.int .i64 0,.int .i64 0,.int .i64 0,.bool false,.bool false]) (h++((1,.aV D .ready)::(v,b)::jw (0,.dead) 1 (ints out)::(1,.box [jJ (h.length+2) (0,.dead) 1 (ints out)])::fr))=some (v+1,h++((1,.aV D .ready)::(v+1,.box [.int .i64 0,.int .i64 0,.int .i64 0,.int .i64 0,.int .i64 0,.bool false,.bool false])::jw (0,.dead) 1 (ints out)::(1,.box [jJ (h.length+2) (0,.dead) 1 (ints out)])::fr)):=by
   rw[Zk (by rfl)]
   simp(maxSteps:=30000000)(disch:=omega)only[go_sem]
  have es:qE ⟨h.length,h.length,4,some (h.length+0,1)⟩ (h++((1,.aV D .ready)::(v+1,.box [.int .i64 0,.int .i64 0,.int .i64 0,.int .i64 0,.int .i64 0,.bool false,.bool false])::jw (0,.dead) 1 (ints out)::(1,.box [jJ (h.length+2) (0,.dead) 1 (ints out)])::fr)) 7 (.bq (h.length+1) (v+1) 0) (Gw X)=some (h++((1,.aV D .ready)::(v+1,.box (sO X))::jw (0,.dead) 1 (ints out)::(1,.box [jJ (h.length+2) (0,.dead) 1 (ints out)])::fr)):=by
   rw[Ro (by omega) (by rfl)]
   simp(maxSteps:=30000000)(disch:=omega)only[go_sem,Gw,sO]
  simp(maxSteps:=30000000)(disch:=omega)only[go_sem,r1,akQ,em,es,List.zip_cons_cons,ZU,List.foldl_cons,TA]
 have hb:∃ zk,bV lib ⟨h.length,h.length,4,some (h.length+0,1)⟩ r1.body ([(4,.bq (h.length+3) 1 0),(5,.bq (h.length+1) (v+1) 0)],(h++((1,.aV D .ready)::(v+1,.box (sO X))::jw (0,.dead) 1 (ints out)::(1,.box [jJ (h.length+2) (0,.dead) 1 (ints out)])::fr)).set (h.length+0) (1,.aV D .busy)) =
   some (.norm,(zk,h++((1,.aV D .busy)::(v+1,.box (sO X))::jw (0,.dead) 1 (ints (out++List.replicate (X.to-X.fr).toNat X.de))::(1,.box [jJ (h.length+2) (0,.dead) 1 (ints (out++List.replicate (X.to-X.fr).toNat X.de))])::fr))):=by
  refine⟨[], ?_⟩;rw[o7];have e:=aLL hX (h:=h) (fr:=fr) (R:=(1,.aV D .busy)) (p:=(h.length+0,1)) (v:=v+1) (es:=out) (by omega) (X.to-X.fr).toNat 0 (by omega)
  have x1:=hX.fr;have x2:=hX.tf;simp only[List.replicate_zero,Gs,Gc,Int.add_zero]at e;simp only[sO]at e⊢;simp(maxSteps:=30000000)(disch:=omega)only[go_sem,r1,e]
 obtain⟨zk,hb⟩:=hb;have hg:(h++((1,aU.aV D .ready)::(v,b)::jw (0,.dead) 1 (ints out)::(1,.box [jJ (h.length+2) (0,.dead) 1 (ints out)])::fr))[h.length+0]?=some (1,.aV ⟨1,h.length,h.length,4,akQ h x⟩ .ready):=by rw[ku,hD];rfl
 have:=Zb (L:=lib) (cx:=⟨h.length,h.length+4,3,none⟩) hg (iJ _) (by omega) (iJ _) (by simp[Gw,AV.EY,AV.closed]) (x:=r1) rfl rfl ha (by rw[ku];rfl) hb (by rw[ku];rfl)
 rw[this,o7];rfl
theorem aLN(xs:List Stp):∀ st:AS,(xs.foldl aiH st).1=st.1++Gu xs:=by
 induction xs with
 |nil=>intro st;simp[Gu]
 |cons X xs ih=>intro st;rw[List.foldl_cons,ih];simp[aiH,Gu]
theorem aLO(st:AS)(X:Stp)(hX:Nz X)(hi:ajA X.fr X.be st):ajA X.to X.af (aiH st X):=by
 have:=hX.to;simp only[ajA,aiH,uG,Tc]at *;omega
theorem aLP{x:LV}(o:okV x)(ok:yT x.l){xs:List Stp}{e:Int}(hc:Ch x.l 0 x.l.D xs e)(h:Heap)(lo:Nat) :
  (run lib).fn 16 [FE x] h lo=some (.tuple [BL 1 (ints (Gu xs)),.int .i64 0],h):=by
 have ev:=fun H lo=>amT o H lo;rw[apC.mpr ok]at ev;obtain⟨D1,D2⟩:=ok.D;have dc:=fun H lo=>apP x H lo;have hlen:∀ st,(akR h x st).length=h.length+4:=fun st=>by simp[akR]
 have g2:=awq (id:=h.length+0) (iv:=1) (H:=akR h x) (nb:=h.length+4) (lo:=h.length) (step:=aiH) (Iv:=ajA) o ok hlen (by omega) (fun st X hX hi=>aLO st X hX hi) (fun st X fr hX hi=>aLM (x:=x) h st X fr hX hi) hc ([],0,.dead) (by simp[ajA])
 obtain⟨_,g2⟩:=g2;obtain⟨st,hst⟩:∃ st,st=xs.foldl aiH ([],0,.dead):=⟨_,rfl⟩;have hs1:st.1=Gu xs:=by rw[hst,aLN];simp
 rw[<-hst]at g2;obtain⟨out,vb⟩:=st;simp only at hs1;subst hs1
 have g3:=abE (L:=lib) (lo:=h.length) (ns:=4) (s:=0) (g:=1) (it:=89) (v:=0) (caps:=[NC x]) (env:=akQ h x) (h:=h) (b:=.dead)
  (fr:=[(0,.dead),(0,.dead),(0,.dead),(1,.box [.bO])])
  (fr':=[(1,.aV (awS h x) .ready),vb,jw (0,.dead) 1 (ints (Gu xs)),(1,.box [jJ (h.length+2) (0,.dead) 1 (ints (Gu xs))])])
  (f:=.t 10) rfl (by omega) rfl g2 rfl
 have g4:=ZJ (s:=2) (z:=1) (h:=h) (b0:=(0,.dead)) (es:=ints (Gu xs)) (fr:=[(1+0,.dead),vb,jw (0,.dead) 1 (ints (Gu xs)),(1,.box [jJ (h.length+2) (0,.dead) 1 (ints (Gu xs))])]) rfl;simp only[akQ,List.set_cons_zero]at g3;unfold FE at ev dc⊢;rw[jH (x:=x16) rfl rfl rfl rfl];simp(maxSteps:=30000000)(disch:=omega)only[go_sem,x16,ev,dc,g3,g4]
end Go.VI.Dump
namespace Go.VI.Dump
open Go.VI.Num
/- BIGSTEPS -/
def TJ(l:qf)(X:Stp)(out:List Int):List Int:=List.zipWith (fun(c:Pr) o=>ZR l c.2 o X) l.C out
def JG(l:qf)(X:Stp)(out:List Int)(k:Nat):List Int:=(TJ l X out).take k++out.drop k
theorem ajB{l:qf}{X:Stp}{out:List Int}(h:out.length=l.C.length):(TJ l X out).length=l.C.length:=by simp[TJ,h]
theorem aCO{l:qf}{X:Stp}{out:List Int}(h:out.length=l.C.length){k:Nat}(hk:k<=l.C.length):(JG l X out k).length=l.C.length:=by
 simp[JG,ajB h,h];omega
theorem aCP{l:qf}{X:Stp}{out:List Int}(h:out.length=l.C.length){k:Nat}(hk:k<l.C.length):(JG l X out k)[k]'(by rw[aCO h (by omega)];exact hk)=out[k]:=by
 have:((TJ l X out).take k).length=k:=by rw[JK,ajB h];omega
 unfold JG;rw[List.getElem_append_right (by omega)]
 simp[this]
theorem aLQ{l:qf}{X:Stp}{out:List Int}(h:out.length=l.C.length){k:Nat}(hk:k<l.C.length):JG l X out (k+1)=(JG l X out k).set k (ZR l l.C[k].2 out[k] X):=by
 have h1:((TJ l X out).take k).length=k:=by rw[JK,ajB h];omega
 have h2:(TJ l X out)[k]'(by rw[ajB h];exact hk)=ZR l l.C[k].2 out[k] X:=by simp[TJ]
 unfold JG;rw[List.set_append_right _ _ (by omega),h1,Nat.sub_self,ajj (by rw[ajB h];exact hk),h2,JB (show k<out.length by omega),List.set_cons_zero,sZ,List.singleton_append]
def fo(n:Nat)(x:LV):AV:=if x.l.C.length=0 then .fT 1 []else .ref (n+3) 1 1 0 x.l.C.length x.l.C.length
def fb(x:LV)(out:List Int):Nat×aU:=if x.l.C.length=0 then(0,.dead) else(1,.arr 1 (ints out))
def fbx:List Pr->Nat×aU->Nat×aU
 |[],B=>B
 |q::r,B=>fbx r (B.1+1,.box [.int .i64 q.1,.int .i64 q.2])
theorem aLR{x:LV}(o:okV x)(h4:x.l.C.length<=4){X:Stp}{h fr:Heap}{R:Nat×aU}{p:Nat×Nat}{v:Nat}{out:List Int}(hl:out.length=x.l.C.length):∀(d k:Nat) (B:Nat×aU),k+d=x.l.C.length ->
  bV lib ⟨h.length,h.length,5,some p⟩ (.loop as7) ([(1,NC x),(4,.bq (h.length+4) 1 0),(5,.bq (h.length+1) v 0),(22,cV x),(23,.int .i64 x.l.C.length),(24,.int .i64 k)],h++(R::(v,.box (sO X))::B::fb x (JG x.l X out k)::(1,.box [fo h.length x])::fr)) =
   some (.exit 2,([],h++(R::(v,.box (sO X))::fbx (x.l.C.drop k) B::fb x (TJ x.l X out)::(1,.box [fo h.length x])::fr))):=by
 intro d
 induction d with
 |zero =>
  intro k B hk;obtain rfl:k=x.l.C.length:=by omega
  have:JG x.l X out x.l.C.length=TJ x.l X out:=by
   unfold JG;rw[ZC (by rw[ajB hl];exact iJ _),Zd (by omega),Gs]
  rw[this,RH,fbx,jm]
  simp(maxSteps:=30000000)(disch:=omega)only[go_sem,sO,DV]
 |succ d ih =>
  intro k B hk;have hk':k<x.l.C.length:=by omega
  have c:(k:Int)<x.l.C.length:=by omega
  have fo1:fo h.length x=.ref (h.length+3) 1 1 0 x.l.C.length x.l.C.length:=if_neg (by omega)
  have fb1:∀ o,fb x o=(1,.arr 1 (ints o)):=fun o=>if_neg (by omega)
  simp only[fo1,fb1]at ih⊢;obtain⟨v0,b0⟩:=B;have e3:vJ 2 (cV x) (.int .i64 k)=some k:=by rw[Bu (o.sc h) (by omega) (by simp;omega)];simp
  have e4:=fun off (g:Heap)=>Ab (off:=off) ((o.sc h).elems g) (show k<(pts x.l.C).length by simp;omega)
  simp only[ajx,pt]at e4;have hkl:=aCO (X:=X) hl (k:=k) (by omega)
  have hlen:(ints (JG x.l X out k)).length=x.l.C.length:=by rw[DI,hkl]
  have f0:=fun(a b c' d':Nat×aU) (g:Heap)=>Sl.aIj (h:=h++(a::b::c'::(1,.arr 1 (ints (JG x.l X out k)))::d'::g)) (id:=h.length+3) (ak:=1) (z:=1) (es:=ints (JG x.l X out k)) (by rw[ku];rfl)
  rw[hlen]at f0;have f3:vJ 1 (.ref (h.length+3) 1 1 0 x.l.C.length x.l.C.length) (.int .i64 k)=some k:=by rw[Bu (f0 R R R R []) (by omega) (by rw[hlen];exact c)];simp
  have f4:=fun off a b c' d' g=>Ab (off:=off) (f0 a b c' d' g).DC (show k<(ints (JG x.l X out k)).length by rw[hlen];exact hk')
  simp only[acy,aCP hl hk']at f4;have e:=ih (k+1) (v0+1,.box [.int .i64 x.l.C[k].1,.int .i64 x.l.C[k].2]) (by omega)
  rw[aLQ hl hk',Dm]at e;have st:=fun(a b c' d':Nat×aU) (g:Heap) n=>asQ (cx:=⟨h.length,h.length,5,some p⟩) (h:=h++(a::b::c'::(1,.arr 1 (ints (JG x.l X out k)))::d'::g)) (id:=h.length+3) (ak:=1) (o:=0) (len:=x.l.C.length) (fill:=x.l.C.length) (i:=k) (k:=.i64) (l:=JG x.l X out k) (n:=n) (by rw[ku];rfl) hkl (by omega) hk' (by simp)
  simp only[o7,List.set_cons_succ,List.set_cons_zero,F6]at st
  have hsame:(JG x.l X out k).set k out[k]=JG x.l X out k:=by
   have:=aCP (X:=X) hl hk'
   conv=>lhs;rw[<-this]
   exact List.set_getElem_self _
  simp only[show ∀ l:List Int,l.map (AV.int .i64)=ints l from fun _=>rfl]at st
  have mka:mK ⟨h.length,h.length,5,some p⟩ 2 (.box [.int .i64 0,.int .i64 0]) (h++(R::(v,.box (sO X))::(v0,b0)::(1,.arr 1 (ints (JG x.l X out k)))::(1,.box [.ref (h.length+3) 1 1 0 x.l.C.length x.l.C.length])::fr))=some (v0+1,h++(R::(v,.box (sO X))::(v0+1,.box [.int .i64 0,.int .i64 0])::(1,.arr 1 (ints (JG x.l X out k)))::(1,.box [.ref (h.length+3) 1 1 0 x.l.C.length x.l.C.length])::fr)):=by
   rw[Zk (by rfl)]
   simp(maxSteps:=30000000)(disch:=omega)only[go_sem]
  have psa:∀ a b:Int,qE ⟨h.length,h.length,5,some p⟩ (h++(R::(v,.box (sO X))::(v0+1,.box [.int .i64 0,.int .i64 0])::(1,.arr 1 (ints (JG x.l X out k)))::(1,.box [.ref (h.length+3) 1 1 0 x.l.C.length x.l.C.length])::fr)) 2 (.bq (h.length+2) (v0+1) 0) (.agg [.int .i64 a,.int .i64 b])=some (h++(R::(v,.box (sO X))::(v0+1,.box [.int .i64 a,.int .i64 b])::(1,.arr 1 (ints (JG x.l X out k)))::(1,.box [.ref (h.length+3) 1 1 0 x.l.C.length x.l.C.length])::fr)):=by
   intro a b;rw[Ro (by omega) (by rfl)]
   simp(maxSteps:=30000000)(disch:=omega)only[go_sem]
  rw[JB hk',fbx];unfold ZR at e;simp only[sO]at e mka psa⊢;generalize x.l.C[k]=q at*;obtain⟨q1,q2⟩:=q;generalize out[k]=y at*;rw[jm];by_cases c1:y=x.l.L
  ·by_cases c2:q2<=X.fr
   ·by_cases c3:X.de=x.l.D
    ·rw[if_pos ⟨c1,c2,c3⟩]at e;simp only[c3]at e mka psa⊢;simp(maxSteps:=30000000)(disch:=omega)only[go_sem,c,e3,e4,f3,f4,mka,psa,c1,c2,c3,st,e]
    ·rw[if_neg (fun h=>c3 h.2.2),hsame]at e;simp(maxSteps:=30000000)(disch:=omega)only[go_sem,c,e3,e4,f3,f4,mka,psa,c1,c2,c3,e]
   ·rw[if_neg (fun h=>c2 h.2.1),hsame]at e;simp(maxSteps:=30000000)(disch:=omega)only[go_sem,c,e3,e4,f3,f4,mka,psa,c1,c2,e]
  ·rw[if_neg (fun h=>c1 h.1),hsame]at e;simp(maxSteps:=30000000)(disch:=omega)only[go_sem,c,e3,e4,f3,f4,mka,psa,c1,e]
abbrev FS:=List Int×(Nat×aU)×(Nat×aU)
def akV(h:Heap)(x:LV):Env:=[(1,NC x),(2,.bO),(3,.int .i64 0),(4,.bq (h.length+4) 1 0),(19,.fn 89 [NC x])]
def awT(h:Heap)(x:LV):kP:=⟨2,h.length,h.length,5,akV h x⟩
def akW(h:Heap)(x:LV)(st:FS):Heap:=h++[(1,.aV (awT h x) .ready),st.2.1,st.2.2,fb x st.1,(1,.box [fo h.length x])]
def acE(x:LV)(st:FS)(X:Stp):FS:=(TJ x.l X st.1,(st.2.1.1+1,.box (sO X)),fbx x.l.C st.2.2)
def amW(x:LV)(s a:Int)(st:FS):Prop:=st.1.length=x.l.C.length
theorem aLS{x:LV}(o:okV x)(h4:x.l.C.length<=4)(h:Heap)(st:FS)(X:Stp)(fr:Heap)(hX:Nz X)(hi:amW x X.fr X.be st) :
  tK (run lib) ⟨h.length,h.length+5,3,none⟩ (h.length+0) 1 [Gw X] (akW h x st++fr)=some (.bool true,akW h x (acE x st X)++fr):=by
 obtain⟨out,⟨v,b⟩,B⟩:=st;simp only[amW]at hi;obtain⟨D,hD⟩:∃ D:kP,D=awT h x:=⟨_,rfl⟩;simp only[akW,acE,sZ,List.cons_append,List.nil_append,<-hD]
 have ha:bV lib ⟨h.length,h.length,5,some (h.length+0,1)⟩ r2.xQ ((r2.ps.zip [Gw X]).foldl (fun e p=>e.set p.1 p.2) (akV h x),h++((1,.aV D .ready)::(v,b)::B::fb x out::(1,.box [fo h.length x])::fr)) =
   some (.norm,([(1,NC x),(4,.bq (h.length+4) 1 0),(5,.bq (h.length+1) (v+1) 0)],h++((1,.aV D .ready)::(v+1,.box (sO X))::B::fb x out::(1,.box [fo h.length x])::fr))):=by
  have em:mK ⟨h.length,h.length,5,some (h.length+0,1)⟩ 1 (.box [.int .i64 0,.int .i64 0,.int .i64 0,.int .i64 0,.int .i64 0,.bool false,.bool false]) (h++((1,.aV D .ready)::(v,b)::B::fb x out::(1,.box [fo h.length x])::fr))=some (v+1,h++((1,.aV D .ready)::(v+1,.box [.int .i64 0,.int .i64 0,.int .i64 0,.int .i64 0,.int .i64 0,.bool false,.bool false])::B::fb x out::(1,.box [fo h.length x])::fr)):=by
   rw[Zk (by rfl)]
   simp(maxSteps:=30000000)(disch:=omega)only[go_sem]
  have es:qE ⟨h.length,h.length,5,some (h.length+0,1)⟩ (h++((1,.aV D .ready)::(v+1,.box [.int .i64 0,.int .i64 0,.int .i64 0,.int .i64 0,.int .i64 0,.bool false,.bool false])::B::fb x out::(1,.box [fo h.length x])::fr)) 7 (.bq (h.length+1) (v+1) 0) (Gw X)=some (h++((1,.aV D .ready)::(v+1,.box (sO X))::B::fb x out::(1,.box [fo h.length x])::fr)):=by
   rw[Ro (by omega) (by rfl)]
   simp(maxSteps:=30000000)(disch:=omega)only[go_sem,Gw,sO]
  simp(maxSteps:=30000000)(disch:=omega)only[go_sem,r2,akV,em,es,List.zip_cons_cons,ZU,List.foldl_cons,TA]
 have hb:∃ zk,bV lib ⟨h.length,h.length,5,some (h.length+0,1)⟩ r2.body ([(1,NC x),(4,.bq (h.length+4) 1 0),(5,.bq (h.length+1) (v+1) 0)],(h++((1,.aV D .ready)::(v+1,.box (sO X))::B::fb x out::(1,.box [fo h.length x])::fr)).set (h.length+0) (1,.aV D .busy)) =
   some (.norm,(zk,h++((1,.aV D .busy)::(v+1,.box (sO X))::fbx x.l.C B::fb x (TJ x.l X out)::(1,.box [fo h.length x])::fr))):=by
  refine⟨[], ?_⟩;rw[o7];have e:=aLR o h4 (X:=X) (h:=h) (fr:=fr) (R:=(1,.aV D .busy)) (p:=(h.length+0,1)) (v:=v+1) (out:=out) hi x.l.C.length 0 B (by omega)
  have e0:JG x.l X out 0=out:=by simp[JG]
  have ll:=oW (o.sc h).len;rw[Z0]at ll;simp only[e0,List.drop_zero,Gc]at e;simp only[sO]at e⊢;simp(maxSteps:=30000000)(disch:=omega)only[go_sem,r2,ll,e]
 obtain⟨zk,hb⟩:=hb;have hg:(h++((1,aU.aV D .ready)::(v,b)::B::fb x out::(1,.box [fo h.length x])::fr))[h.length+0]?=some (1,.aV ⟨2,h.length,h.length,5,akV h x⟩ .ready):=by rw[ku,hD];rfl
 have:=Zb (L:=lib) (cx:=⟨h.length,h.length+5,3,none⟩) hg (iJ _) (by omega) (iJ _) (by simp[Gw,AV.EY,AV.closed]) (x:=r2) rfl rfl ha (by rw[ku];rfl) hb (by rw[ku];rfl)
 rw[this,o7];rfl
def SI(l:qf)(xs:List Stp):List Int:=l.C.map fun c=>ao4 l c.2 xs
theorem aLT{x:LV}(xs:List Stp):∀ st:FS,st.1.length=x.l.C.length->(xs.foldl (acE x) st).1=List.zipWith (fun(c:Pr) o=>xs.foldl (ZR x.l c.2) o) x.l.C st.1:=by
 induction xs with
 |nil =>
  intro st hl;simp only[TA];apply List.ext_getElem
  ·simp[hl]
  ·intro i h1 h2;simp
 |cons X xs ih =>
  intro st hl;rw[List.foldl_cons,ih _ (by simp[acE,TJ,hl])]
  apply List.ext_getElem
  ·simp[acE,TJ]
  ·intro i h1 h2;simp[acE,TJ]
theorem aLU{l:qf}(ok:yT l){xs:List Stp}{e:Int}(h:Ch l 0 l.D xs e):List.zipWith (fun(c:Pr) o=>xs.foldl (ZR l c.2) o) l.C (List.replicate l.C.length l.L)=SI l xs:=by
 have hf:=h.fr ok.E.1;apply List.ext_getElem
 ·simp[SI]
 ·intro i h1 h2;simp only[List.getElem_zipWith,List.getElem_replicate,SI,List.getElem_map];exact aBD xs fun x hx=>by have:=hf x hx;omega
def mkO(es:List AV):AV:=if es=[]then .fT 1 []else .own 1 es
theorem aLV{x:LV}(o:okV x)(ok:yT x.l){xs:List Stp}{e:Int}(hc:Ch x.l 0 x.l.D xs e)(h:Heap)(lo:Nat) :
  (run lib).fn 18 [FE x] h lo=some (.tuple [mkO (ints (SI x.l xs)),.int .i64 0],h):=by
 have ev:=fun H lo=>amT o H lo;rw[apC.mpr ok]at ev;have h4:=ok.c4;have er:=fun H lo=>aCM x.l.L x.l.C.length (by omega) H lo
 have dc:=fun H lo=>apP x H lo;have ll:=oW (o.sc h).len;rw[Z0]at ll;have hlen:∀ st,(akW h x st).length=h.length+5:=fun st=>by simp[akW]
 have g2:=awq (id:=h.length+0) (iv:=1) (H:=akW h x) (nb:=h.length+5) (lo:=h.length) (step:=acE x) (Iv:=amW x) o ok hlen (by omega) (fun st X hX hi=>by simp only[amW,acE]at *;rw[ajB hi]) (fun st X fr hX hi=>aLS o h4 h st X fr hX hi) hc (List.replicate x.l.C.length x.l.L,(0,.dead),(0,.dead)) (by simp[amW])
 obtain⟨_,g2⟩:=g2;obtain⟨st,hst⟩:∃ st,st=xs.foldl (acE x) (List.replicate x.l.C.length x.l.L,(0,.dead),(0,.dead)):=⟨_,rfl⟩;have hs1:st.1=SI x.l xs:=by rw[hst,aLT _ _ (by simp)];exact aLU ok hc
 rw[<-hst]at g2;obtain⟨out,va,vb⟩:=st;simp only at hs1;subst hs1
 have g3:=abE (L:=lib) (lo:=h.length) (ns:=5) (s:=0) (g:=2) (it:=89) (v:=0) (caps:=[NC x]) (env:=akV h x) (h:=h) (b:=.dead)
  (fr:=[(0,.dead),(0,.dead),(0,.dead),fb x (List.replicate x.l.C.length x.l.L),(1,.box [fo h.length x])])
  (fr':=[(1,.aV (awT h x) .ready),va,vb,fb x (SI x.l xs),(1,.box [fo h.length x])])
  (f:=.t 19) rfl (by omega) rfl g2 rfl
 simp only[akV,List.set_cons_zero]at g3;have hfl:(SI x.l xs).length=x.l.C.length:=by simp[SI]
 unfold FE at ev dc⊢;rw[jH (x:=x18) rfl rfl rfl rfl];by_cases h0:x.l.C.length=0
 ·have hfe:SI x.l xs=[]:=JU (by omega)
  have hm:mkO (ints (SI x.l xs))=.fT 1 []:=by rw[hfe];rfl
  have fo1:fo h.length x=.fT 1 []:=if_pos h0;have fb1:∀ o,fb x o=(0,.dead):=fun o=>if_pos h0;rw[hm];simp only[fo1,fb1]at g3;simp only[h0,if_true,Gc]at er ll;have tk:∀ H:Heap,F9 ⟨h.length,h.length,5,none⟩ [(0,3)] (some (.fT 1 [],H))=some (.fT 1 [],H):=fun H=>by simp[F9,Dz,weak,yY]
  have lc:(AV.fT 1 []).cells=[.fT 1 []]:=rfl;have lv:(AV.fT 1 []).val=true:=rfl;have gv:∀ H:Heap,give h.length (.fT 1 []) H=some (.fT 1 [],H):=fun H=>by simp[give,gI]
  simp(maxSteps:=30000000)(disch:=omega)only[go_sem,x18,ev,er,dc,ll,tk,g3,gv,lc,lv]
 ·have hm:mkO (ints (SI x.l xs))=.own 1 (ints (SI x.l xs)):=if_neg fun h=>h0 (by rw[<-hfl,<-DI,h];rfl)
  rw[hm];have fo1:fo h.length x=.ref (h.length+3) (0+1) 1 0 x.l.C.length x.l.C.length:=if_neg h0;have fb1:∀ o,fb x o=(0+1,.arr 1 (ints o)):=fun o=>if_neg h0;simp only[fo1,fb1]at g3;simp only[h0,if_false]at er;have hne2:ints (List.replicate x.l.C.length x.l.L)≠[]:=by simp[ints];exact fun h=>h0 (by rw[h];rfl)
  have tk:=ai' (lo:=h.length) (ns:=5) (s:=3) (z:=1) (h:=h) (fr:=[(0,.dead),(0,.dead),(0,.dead),(0,.dead),(0,.dead)]) (b0:=(0,.dead)) (es:=ints (List.replicate x.l.C.length x.l.L)) (by omega) rfl hne2
  rw[show BL 1 (ints (List.replicate x.l.C.length x.l.L))=.own 1 (ints (List.replicate x.l.C.length x.l.L))from if_neg hne2,DI,Tc]at tk
  have gv:=aja (h:=h) (s:=3) (ak:=0+1) (z:=1) (fr:=[(1+0,.dead),va,vb,(0+1,.arr 1 (ints (SI x.l xs))),(1,.box [.ref (h.length+3) (0+1) 1 0 x.l.C.length x.l.C.length])]) (es:=ints (SI x.l xs)) rfl;rw[DI,hfl]at gv;simp(maxSteps:=30000000)(disch:=omega)only[go_sem,x18,ev,er,dc,ll,tk,g3,gv]
end Go.VI.Dump
namespace Go.VI.Dump
open Go.VI.Num
/- BIGSTEPS -/
def acF(out:List Pr)(f:Int):List Pr->List Pr
 |[]=>out
 |c::cs=>acF (if f<c.1 then out++[(f,c.1)]else out) c.2 cs
def aiI(f:Int):List Pr->Int
 |[]=>f
 |c::cs=>aiI c.2 cs
theorem aCQ{L:Int}:∀(cs:List Pr) (out:List Pr) (f:Int),(acF out f cs)++(if aiI f cs<L then[(aiI f cs,L)] else[])=out++ajo L f cs
 |[],out,f=>rfl
 |c::cs,out,f=>by
  rw[acF,aiI,aCQ cs,ajo];split<;>simp
theorem aCR(a:List Pr)(x:Pr):pts (a++[x])=pts a++[.agg [.int .i64 x.1,.int .i64 x.2]]:=by simp[pts,pt]
theorem aLW{x:LV}(o:okV x)(h4:x.l.C.length<=4)(h:Heap):∀(d k:Nat) (out:List Pr) (f:Int) (B0 B2:Nat×aU),k+d=x.l.C.length->out.length<=k ->
  ∃ TM,bV lib ⟨h.length,h.length,3,none⟩ (.loop as8) ([(1,NC x),(4,jJ (h.length+1) (0,.dead) 2 (pts out)),(5,.int .i64 f),(12,cV x),(13,.int .i64 x.l.C.length),(14,.int .i64 k)],h++[B0,jw (0,.dead) 2 (pts out),B2]) =
   some (.exit 0,([(1,NC x),(4,jJ (h.length+1) (0,.dead) 2 (pts (acF out f (x.l.C.drop k)))),(5,.int .i64 (aiI f (x.l.C.drop k)))],h++[B0,jw (0,.dead) 2 (pts (acF out f (x.l.C.drop k))),TM]))/\(acF out f (x.l.C.drop k)).length<=x.l.C.length:=by
 intro d
 induction d with
 |zero =>
  intro k out f B0 B2 hk hl;obtain rfl:k=x.l.C.length:=by omega
  refine⟨B2, ?_,by rw[RH];exact hl⟩
  rw[RH,acF,aiI,jm]
  simp(maxSteps:=30000000)(disch:=omega)only[go_sem,DV]
 |succ d ih =>
  intro k out f B0 B2 hk hl;have hk':k<x.l.C.length:=by omega
  have c:(k:Int)<x.l.C.length:=by omega
  obtain⟨v0,b0⟩:=B2;have e3:vJ 2 (cV x) (.int .i64 k)=some k:=by rw[Bu (o.sc h) (by omega) (by simp;omega)];simp
  have e4:=fun off (g:Heap)=>Ab (off:=off) ((o.sc h).elems g) (show k<(pts x.l.C).length by simp;omega)
  simp only[ajx,pt]at e4;rw[JB hk',acF,aiI];generalize x.l.C[k]=q at*;obtain⟨q1,q2⟩:=q;simp only at e4⊢;by_cases c1:f<q1
  ·obtain⟨TM,e,hl2⟩:=ih (k+1) (out++[(f,q1)]) q2 B0 (v0+1,.box [.int .i64 q1,.int .i64 q2]) (by omega) (by simp;omega)
   rw[aCR,Dm]at e;rw[if_pos c1];refine⟨TM, ?_,hl2⟩;have e5:=fun b=>RQ (lo:=h.length) (ns:=3) (s:=1) (z:=2) (lim:=8796093022208) (h:=h) (fr:=[B0,jw (0,.dead) 2 (pts out),b]) (b0:=(0,.dead)) (es:=pts out) (xs:=[.agg [.int .i64 f,.int .i64 q1]]) (by omega) (by omega) rfl (by simp;omega)
   rw[jm];simp(maxSteps:=30000000)(disch:=omega)only[go_sem,c,e3,e4,c1,e5,e]
  ·obtain⟨TM,e,hl2⟩:=ih (k+1) out q2 B0 (v0+1,.box [.int .i64 q1,.int .i64 q2]) (by omega) (by omega)
   rw[Dm]at e;rw[if_neg c1];refine⟨TM, ?_,hl2⟩;rw[jm];simp(maxSteps:=30000000)(disch:=omega)only[go_sem,c,e3,e4,c1,e]
theorem awU{x:LV}(o:okV x)(ok:yT x.l)(h:Heap)(lo:Nat):(run lib).fn 20 [FE x] h lo=some (.tuple [BL 2 (pts (QW x.l)),.int .i64 0],h):=by
 have ev:=fun H lo=>amT o H lo;rw[apC.mpr ok]at ev;have h4:=ok.c4;have ll:=oW (o.sc h).len;rw[Z0]at ll;obtain⟨TM,e,hl⟩:=aLW o h4 h x.l.C.length 0 [] 0 (0,.dead) (0,.dead) (by omega) (by simp)
 simp only[List.drop_zero,Gc,show pts []=[]from rfl,ai8,al8]at e hl
 have eq:=aCQ (L:=x.l.L) x.l.C [] 0;rw[List.nil_append]at eq;unfold QW;rw[<-eq];generalize acF [] 0 x.l.C=A at*;generalize aiI 0 x.l.C=F at*;unfold FE at ev⊢;rw[jH (x:=x20) rfl rfl rfl rfl];by_cases c:F<x.l.L
 ·rw[if_pos c,aCR];by_cases h0:pts A=[]
  ·have ap:wG ⟨h.length,h.length,3,none⟩ 0 2 8796093022208 .bO [.agg [.int .i64 F,.int .i64 x.l.L]] (h++[(0,.dead),(0,.dead),TM])=some (jJ (h.length+0) (0,.dead) 2 [.agg [.int .i64 F,.int .i64 x.l.L]],h++[jw (0,.dead) 2 [.agg [.int .i64 F,.int .i64 x.l.L]],(0,.dead),TM]):=by
    have:=RQ (lo:=h.length) (ns:=3) (s:=0) (z:=2) (lim:=8796093022208) (h:=h) (fr:=[(0,.dead),(0,.dead),TM]) (b0:=(0,.dead)) (es:=[]) (xs:=[.agg [.int .i64 F,.int .i64 x.l.L]]) (by omega) (by omega) rfl (by simp)
    rw[ai8]at this;rw[this];rfl
   have g4:=ZJ (s:=0) (z:=2) (h:=h) (b0:=(0,.dead)) (es:=[.agg [.int .i64 F,.int .i64 x.l.L]]) (fr:=[jw (0,.dead) 2 [.agg [.int .i64 F,.int .i64 x.l.L]],(0,.dead),TM]) rfl;rw[h0,ai8,al8]at e;rw[h0,List.nil_append];simp(maxSteps:=30000000)(disch:=omega)only[go_sem,x20,ev,ll,e,c,ap,g4]
  ·have ap:wG ⟨h.length,h.length,3,none⟩ 0 2 8796093022208 (jJ (h.length+1) (0,.dead) 2 (pts A)) [.agg [.int .i64 F,.int .i64 x.l.L]] (h++[(0,.dead),jw (0,.dead) 2 (pts A),TM])=some (jJ (h.length+1) (0,.dead) 2 (pts A++[.agg [.int .i64 F,.int .i64 x.l.L]]),h++[(0,.dead),jw (0,.dead) 2 (pts A++[.agg [.int .i64 F,.int .i64 x.l.L]]),TM]):=by
    rw[QV h0,RI h0,QV (by simp),RI (by simp),ac7 (by rw[ku];rfl) (by simp) (by simp;omega),o7,uG]
    rfl
   have g4:=ZJ (s:=1) (z:=2) (h:=h) (b0:=(0,.dead)) (es:=pts A++[.agg [.int .i64 F,.int .i64 x.l.L]]) (fr:=[(0,.dead),jw (0,.dead) 2 (pts A++[.agg [.int .i64 F,.int .i64 x.l.L]]),TM]) rfl;simp(maxSteps:=30000000)(disch:=omega)only[go_sem,x20,ev,ll,e,c,ap,g4]
 ·rw[if_neg c,Gs];have g4:=ZJ (s:=1) (z:=2) (h:=h) (b0:=(0,.dead)) (es:=pts A) (fr:=[(0,.dead),jw (0,.dead) 2 (pts A),TM]) rfl;simp(maxSteps:=30000000)(disch:=omega)only[go_sem,x20,ev,ll,e,c,g4]
end Go.VI.Dump
