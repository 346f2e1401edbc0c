/- What the functions on integers compute, part MV. -/
import Derived.Test.YtfpoegnmeoghpaaGreatDoorDumpMB
import Derived.Test.YtfpoegnmeoghpaaGreatDoorDumpMU
import Derived.Test.YtfpoegnmeoghpaaGreatDoorDumpMA
set_option linter.unusedVariables false
set_option linter.unusedSimpArgs false
namespace Go.VI.Dump
open Go.VI.Num
theorem IY{x y:Bool}(h:(x&&y)=true):x=true/\y=true:=by simpa using h
theorem BA{a b q:Rat}(h:um a b=some q):q=a-b/\gV q:=by
 unfold um at h;split at h
 ·rename_i c;obtain⟨c,c4⟩:=IY c;obtain⟨c,c3⟩:=IY c;cases h;refine⟨rfl, ?_⟩;rw[<-ach];exact UU (IG a b) (of_decide_eq_true c3) (of_decide_eq_true c4)
 ·cases h
theorem adU{a b q:Rat}(h:Bf a b=some q):q=a*b/\gV q:=by
 unfold Bf at h;split at h
 ·rename_i c;obtain⟨c3,c4⟩:=IY c;cases h;refine⟨rfl, ?_⟩;rw[<-UX];exact UU (IG a b) (of_decide_eq_true c3) (of_decide_eq_true c4)
 ·cases h
theorem ao'{a b q:Rat}(h:CB a b=some q):(q=a/b/\b≠0)/\gV q:=by
 unfold CB at h;split at h
 ·rename_i c;obtain⟨c,c4⟩:=IY c;obtain⟨c2,c3⟩:=IY c;have hb:=of_decide_eq_true c4;cases h;refine⟨⟨rfl,hb⟩, ?_⟩;rw[<-aci];exact UU (fun e=>hb (acj.mp e)) (of_decide_eq_true c2) (of_decide_eq_true c3)
 ·cases h
end Go.VI.Dump
namespace Go.VI.Dump
open Go.VI.Num
/- BIGSTEPS -/
theorem QJ{h:Heap}{id:Nat}(hid:h[id]?=some gB)(f:AV)(a b c d:List UInt8){lo:Nat}(hlo:lo<=id):(run lib).fn 118 [.aF id 1 0,f,bY a b,bY c d] h lo=some (bY [] [],h):=by
 have hl:id<h.length:=(dQ.mp hid).1;have p0:=fun fr=>Bp (H:=h++fr) (kD hid);have nk:wW (.aF id 1 0)=some (.aF id 1 0):=rfl;unfold bY;rw[oZ (x:=Fq) rfl rfl rfl rfl (by omega)]
 simp(maxSteps:=30000000)(disch:=omega)only[go_sem,Fq,p0,nk,Bz]
theorem QK{h:Heap}{id:Nat}(hid:h[id]?=some okB){g:Nat}(hg0:[42,119,120,121,133].contains g=true){a b c d s t:List UInt8}(hg:∀ H lo,(run lib).fn g [bY a b,bY c d] H lo=some (.tuple [bY s t,.int .i64 0],H)){lo:Nat}(hlo:lo<=id) :
  (run lib).fn 118 [.aF id 1 0,.fn g [],bY a b,bY c d] h lo=some (bY s t,h):=by
 have hl:id<h.length:=(dQ.mp hid).1
 have hg1:g<1000:=by
  simp only[List.contains_cons,List.contains_nil,Bool.or_false,pE,beq_iff_eq]at hg0;omega
 have p0:=fun fr=>Bp (H:=h++fr) (kD hid);have s0:=fun(fr:Heap) b=>FN (H:=h++fr) (id:=id) (base:=h.length) (lo:=lo) (ns:=2) (a:=false) (b:=b) (kD hid) hlo none;have st:∀(fr:Heap),(h++fr).set id okB=h++fr:=fun fr=>by rw[He _ hid,ade hid]
 have nk:wW (.aF id 1 0)=some (.aF id 1 0):=rfl;unfold bY at hg⊢;rw[oZ (x:=Fq) rfl rfl rfl rfl (by omega)]
 simp(maxSteps:=30000000)(disch:=omega)only[go_sem,Fq,p0,s0,st,nk,hg,hg0,hg1,List.cons_append,List.nil_append,Bz]
theorem QL{h:Heap}{id:Nat}(hid:h[id]?=some okB){g:Nat}(hg0:[42,119,120,121,133].contains g=true){a b c d s t:List UInt8}{e:Int}(he:e≠0)(hg:∀ H lo,(run lib).fn g [bY a b,bY c d] H lo=some (.tuple [bY s t,.int .i64 e],H)){lo:Nat}(hlo:lo<=id) :
  (run lib).fn 118 [.aF id 1 0,.fn g [],bY a b,bY c d] h lo=some (bY s t,h.set id gB):=by
 have hl:id<h.length:=(dQ.mp hid).1
 have hg1:g<1000:=by
  simp only[List.contains_cons,List.contains_nil,Bool.or_false,pE,beq_iff_eq]at hg0;omega
 have p0:=fun fr=>Bp (H:=h++fr) (kD hid);have s0:=fun(fr:Heap) b=>FN (H:=h++fr) (id:=id) (base:=h.length) (lo:=lo) (ns:=2) (a:=false) (b:=b) (kD hid) hlo none;have st:∀(fr:Heap),(h++fr).set id gB=h.set id gB++fr:=fun fr=>He _ hid
 have tk:∀(fr:Heap),(h.set id gB++fr).take h.length=h.set id gB:=fun fr=>by
  have:=Bz (l₁:=h.set id gB) (l₂:=fr);rwa [vV]at this
 have nk:wW (.aF id 1 0)=some (.aF id 1 0):=rfl;unfold bY at hg⊢;rw[oZ (x:=Fq) rfl rfl rfl rfl (by omega)]
 have hn:(h.set id gB).length=h.length:=vV ..;simp(maxSteps:=30000000)(disch:=omega)only[go_sem,Fq,p0,s0,st,nk,hg,hg0,hg1,List.cons_append,List.nil_append,tk,he,hn,oq,rz]
def rU(a b:Rat×Rat):Option Rat:=(um b.2 a.2).bind fun y=>(um b.1 a.1).bind fun x=>CB y x
def eZ(a:Rat×Rat):AV:=.agg [.str (aH a.1.num),.str (aH (a.1.den:Int)),.str (aH a.2.num),.str (aH (a.2.den:Int))]
structure o8(a:Rat×Rat):Prop where
 x:gV a.1
 y:gV a.2
theorem BB(q:Rat):rt q=bY (aH q.num) (aH (q.den:Int)):=rfl
section
variable {h:Heap}{id lo:Nat}
theorem ME(hid:h[id]?=some okB)(hlo:lo<=id){a b q:Rat}(ha:gV a)(hb:gV b)(hq:um a b=some q):(run lib).fn 118 [.aF id 1 0,.fn 119 [],rt a,rt b] h lo=some (rt q,h) :=
 QK hid (by decide) (fun H lo=>by have:=adt ha hb H lo;rw[hq]at this;exact this) hlo
theorem Wj(hid:h[id]?=some okB)(hlo:lo<=id){a b:Rat}(ha:gV a)(hb:gV b)(hq:um a b=none):(run lib).fn 118 [.aF id 1 0,.fn 119 [],rt a,rt b] h lo=some (bY [] [],h.set id gB) :=
 QL (e:=40) hid (by decide) (by decide) (fun H lo=>by have:=adt ha hb H lo;rw[hq]at this;exact this) hlo
theorem apa(hid:h[id]?=some okB)(hlo:lo<=id){a b q:Rat}(ha:gV a)(hb:gV b)(hq:CB a b=some q):(run lib).fn 118 [.aF id 1 0,.fn 133 [],rt a,rt b] h lo=some (rt q,h) :=
 QK hid (by decide) (fun H lo=>by have:=adq ha hb H lo;rw[hq]at this;exact this) hlo
theorem apb(hid:h[id]?=some okB)(hlo:lo<=id){a b:Rat}(ha:gV a)(hb:gV b)(hq:CB a b=none):(run lib).fn 118 [.aF id 1 0,.fn 133 [],rt a,rt b] h lo=some (bY [] [],h.set id gB) :=
 QL (e:=40) hid (by decide) (by decide) (fun H lo=>by have:=adq ha hb H lo;rw[hq]at this;exact this) hlo
end
theorem QM{h:Heap}{id:Nat}{b:Nat×au}(hid:h[id]?=some b)(c:Nat×au):(h.set id c)[id]?=some c:=rJ (dQ.mp hid).1
theorem adV{h:Heap}{id:Nat}(hid:h[id]?=some gB)(a b:Rat×Rat){lo:Nat}(hlo:lo<=id):(run lib).fn 96 [.aF id 1 0,eZ a,eZ b] h lo=some (bY [] [],h):=by
 have hl:id<h.length:=(dQ.mp hid).1;have d:=fun fr f a b c d=>QJ (h:=h++fr) (id:=id) (kD hid) f a b c d hlo;unfold bY at d⊢;unfold eZ;rw[oZ (x:=x96) rfl rfl rfl rfl (by omega)]
 simp(maxSteps:=30000000)(disch:=omega)only[go_sem,x96,d,mW,Bz]
theorem Wl{h:Heap}{id:Nat}(hid:h[id]?=some okB){a b:Rat×Rat}(ha:o8 a)(hb:o8 b){q:Rat}(hq:rU a b=some q){lo:Nat}(hlo:lo<=id):(run lib).fn 96 [.aF id 1 0,eZ a,eZ b] h lo=some (rt q,h):=by
 have hl:id<h.length:=(dQ.mp hid).1;obtain⟨y,hy,hq⟩:=Option.bind_eq_some_iff.mp hq;obtain⟨x,hx,hq⟩:=Option.bind_eq_some_iff.mp hq;have d1:=fun fr=>ME (h:=h++fr) (id:=id) (kD hid) hlo hb.y ha.y hy;have d2:=fun fr=>ME (h:=h++fr) (id:=id) (kD hid) hlo hb.x ha.x hx;have d3:=fun fr=>apa (h:=h++fr) (id:=id) (kD hid) hlo (BA hy).2 (BA hx).2 hq;simp only[BB,bY]at d1 d2 d3⊢;unfold eZ;rw[oZ (x:=x96) rfl rfl rfl rfl (by omega)]
 simp(maxSteps:=30000000)(disch:=omega)only[go_sem,x96,d1,d2,d3,mW,Bz]
theorem apc{h:Heap}{id:Nat}(hid:h[id]?=some okB){a b:Rat×Rat}(ha:o8 a)(hb:o8 b)(hq:rU a b=none){lo:Nat}(hlo:lo<=id):(run lib).fn 96 [.aF id 1 0,eZ a,eZ b] h lo=some (bY [] [],h.set id gB):=by
 have hl:id<h.length:=(dQ.mp hid).1;have hn:(h.set id gB).length=h.length:=vV ..
 have tk:∀(fr:Heap),(h.set id gB++fr).take h.length=h.set id gB:=fun fr=>by
  have:=Bz (l₁:=h.set id gB) (l₂:=fr);rwa [vV]at this
 have st:∀(fr:Heap),(h++fr).set id gB=h.set id gB++fr:=fun fr=>He _ hid;have bd:=fun fr f a b c d=>QJ (h:=h.set id gB++fr) (id:=id) (kD (QM hid gB)) f a b c d hlo;unfold rU at hq
 cases hy:um b.2 a.2 with
 |none =>
  have d1:=fun fr=>Wj (h:=h++fr) (id:=id) (kD hid) hlo hb.y ha.y hy;simp only[BB,bY]at d1 bd⊢;unfold eZ;rw[oZ (x:=x96) rfl rfl rfl rfl (by omega)]
  simp(maxSteps:=30000000)(disch:=omega)only[go_sem,x96,d1,bd,st,tk,hn,oq,rz,sK,uw,mW]
 |some y =>
  have d1:=fun fr=>ME (h:=h++fr) (id:=id) (kD hid) hlo hb.y ha.y hy;rw[hy,Option.bind_some]at hq
  cases hx:um b.1 a.1 with
  |none =>
   have d2:=fun fr=>Wj (h:=h++fr) (id:=id) (kD hid) hlo hb.x ha.x hx;simp only[BB,bY]at d1 d2 bd⊢;unfold eZ;rw[oZ (x:=x96) rfl rfl rfl rfl (by omega)]
   simp(maxSteps:=30000000)(disch:=omega)only[go_sem,x96,d1,d2,bd,st,tk,hn,oq,rz,sK,uw,mW]
  |some x =>
   have d2:=fun fr=>ME (h:=h++fr) (id:=id) (kD hid) hlo hb.x ha.x hx;rw[hx,Option.bind_some]at hq;have d3:=fun fr=>apb (h:=h++fr) (id:=id) (kD hid) hlo (BA hy).2 (BA hx).2 hq;simp only[BB,bY]at d1 d2 d3 bd⊢;unfold eZ;rw[oZ (x:=x96) rfl rfl rfl rfl (by omega)]
   simp(maxSteps:=30000000)(disch:=omega)only[go_sem,x96,d1,d2,d3,bd,st,tk,hn,oq,rz,sK,uw,mW]
end Go.VI.Dump
namespace Go.VI.Dump
open Go.VI.Num
/- BIGSTEPS -/
abbrev KQ:=Rat×Rat
def dN(l:List KQ):List AV:=l.map eZ
@[simp] theorem zb (l:List KQ):(dN l).length=l.length:=by simp [dN]
theorem FZ(l:List KQ)(k:Nat)(h:k<(dN l).length):(dN l)[k]=eZ (l[k]'(by simpa using h)):=by simp[dN]
section
variable {σ:Type}{H:σ->Heap}{nb lo id iv:Nat}{step:σ->KQ->KQ->σ×Bool}{Iv:σ->Prop}
def pgo(step:σ->KQ->KQ->σ×Bool)(st:σ):List KQ->σ
 |a::b::r=>if (step st a b).2 then pgo step (step st a b).1 (b::r) else(step st a b).1
 |_=>st
theorem adW{st:σ}{l:List KQ}{k:Nat}(h:k+1<l.length):pgo step st (l.drop k)=if (step st l[k] l[k+1]).2 then pgo step (step st l[k] l[k+1]).1 (l.drop (k+1)) else(step st l[k] l[k+1]).1:=by
 rw[qH (show k<l.length by omega),qH h,pgo]
theorem adX{st:σ}{l:List KQ}{k:Nat}(h:l.length<=k+1):pgo step st (l.drop k)=st:=by
 rcases kZ k l.length with h1|h1
 ·rw[qH h1,qG (by omega)];rfl
 ·rw[qG h1];rfl
theorem apd{v:AV}{l:List KQ}(hl:l.length<=9223372036854775807)(hv:∀ st,Sl (H st) 4 v (dN l))(hI:∀ st a b,a∈l->b∈l->Iv st->(step st a b).2=true->Iv (step st a b).1)
  (hy:∀ st a b,a∈l->b∈l->Iv st->iY (run lib) ⟨lo,nb,0,none⟩ id iv [eZ a,eZ b] (H st)=some (.bool (step st a b).2,H (step st a b).1)):∀(d k:Nat) (st:σ),k+d=l.length->0<k->Iv st ->
  ∃ e env,e≠Ex.exit 1/\(e=.exit 0\/e=.ret)/\aQ lib ⟨lo,nb,0,none⟩ (.loop Hw) ([(0,.dY id iv),(1,.bR [v]),(3,.int .i64 k)],H st)=some (e,(env,H (pgo step st (l.drop (k-1))))):=by
 intro d
 induction d with
 |zero =>
  intro k st hk h0 hi;have lv:=iB (hv st).len;rw[zb]at lv;refine⟨.exit 0,[],by simp,.inl rfl, ?_⟩
  rw[adX (by omega),bU]
  have c:¬ (k:Int)<l.length:=by omega
  simp(maxSteps:=30000000)(disch:=omega)only[go_sem,lv,c]
 |succ d ih =>
  intro k st hk h0 hi;obtain⟨j,rfl⟩:∃ j,k=j+1:=⟨k-1,by omega⟩
  have hk':j+1<l.length:=by omega
  have lv:=iB (hv st).len;rw[zb]at lv;have c:((j+1:Nat):Int)<l.length:=by omega
  have e3:iM 4 v (.int .i64 ((j+1:Nat):Int))=some (j+1):=by rw[kr (hv st) (by omega) (by simp;omega)];rfl
  have e4:=fun off=>jV (off:=off) (hv st).jW (show j+1<(dN l).length by simp;omega)
  have f3:iM 4 v (.int .i64 (((j+1:Nat):Int)-1))=some j:=by rw[kr (hv st) (by omega) (by simp;omega)];simp
  have f4:=fun off=>jV (off:=off) (hv st).jW (show j<(dN l).length by simp;omega)
  have y:=hy st l[j] l[j+1] (l9 _) (l9 _) hi;have i2:=hI st l[j] l[j+1] (l9 _) (l9 _) hi;rw[show j+1-1=j by omega,adW hk']
  simp only[FZ]at e4 f4
  cases hc:(step st l[j] l[j+1]).2 with
  |false =>
   rw[hc]at y;rw[if_neg (by simp)]
   simp only[eZ]at e4 f4 y;refine⟨.ret,[],by simp,.inr rfl, ?_⟩
   rw[bU]
   simp(maxSteps:=30000000)(disch:=omega)only[go_sem,lv,c,e3,e4,f3,f4,y,mW]
  |true =>
   rw[hc]at y;rw[if_pos rfl];obtain⟨e,env,g1,g2,g3⟩:=ih (j+1+1) _ (by omega) (by omega) (i2 hc)
   rw[show j+1+1-1=j+1 by omega,jo]at g3
   simp only[eZ]at e4 f4 y;refine⟨e,env,g1,g2, ?_⟩;rw[bU];simp(maxSteps:=30000000)(disch:=omega)only[go_sem,lv,c,e3,e4,f3,f4,y,mW,g3]
theorem ape{v:AV}{l:List KQ}(hl:l.length<=9223372036854775807)(hv:∀ st,Sl (H st) 4 v (dN l))(hlen:∀ st,(H st).length=nb)(hlo:lo<=nb)(hI:∀ st a b,a∈l->b∈l->Iv st->(step st a b).2=true->Iv (step st a b).1)
  (hy:∀ st a b,a∈l->b∈l->Iv st->iY (run lib) ⟨lo,nb,0,none⟩ id iv [eZ a,eZ b] (H st)=some (.bool (step st a b).2,H (step st a b).1)) (st:σ) (hi:Iv st) :
  (run lib).fn 132 [.dY id iv,.bR [v]] (H st) lo=some (.tuple [],H (pgo step st l)):=by
 have ho:=oZ (L:=lib) (f:=132) (x:=zP) (args:=[.dY id iv,.bR [v]]) (h:=H st) (lo:=lo) rfl rfl rfl rfl (by rw[hlen];exact hlo)
 have hr:List.replicate zP.ns (0,au.dead)=[]:=rfl;have tk:∀ s,(H s).take (H st).length=H s:=fun s=>by rw[hlen st,<-hlen s,qj]
 rw[ho,hr,nI,hlen];rcases vg l.length with h0|h0
 ·have lv:=iB (hv st).len;rw[zb,h0]at lv;have hp:pgo step st l=st:=by rw[qg h0];rfl
  have e:aQ lib ⟨lo,nb,0,none⟩ (.loop Hw) ([(0,.dY id iv),(1,.bR [v]),(3,.int .i64 1)],H st)=some (.exit 0,([],H st)):=by
   rw[bU];simp(maxSteps:=30000000)(disch:=omega)only[go_sem,lv]
  rw[hp];simp(maxSteps:=30000000)(disch:=omega)only[go_sem,zP,e,tk]
 ·obtain⟨e,env,g1,g2,g3⟩:=apd hl hv hI hy (l.length-1) 1 st (by omega) (by omega) hi
  have c1:((1:Nat):Int)=1:=rfl;rw[c1,Nat.sub_self,List.drop_zero]at g3;rcases g2 with rfl|rfl
  ·simp(maxSteps:=30000000)(disch:=omega)only[go_sem,zP,g3,tk]
  ·simp(maxSteps:=30000000)(disch:=omega)only[go_sem,zP,g3,tk]
theorem Wm{v v':AV}(h:Heap)(k1:v.val=true)(k2:∀ b k H,bL b k v H=some (v',H))(k3:v'.cells=[v'])(lo:Nat):(run lib).fn 95 [v] h lo=some (.fn 132 [.bR [v']],h):=by
 rw[bW (x:=x95) rfl rfl rfl rfl];simp(maxSteps:=30000000)(disch:=omega)only[go_sem,x95,k1,k2,k3]
end
end Go.VI.Dump
namespace Go.VI.Dump
open Go.VI.Num
/- BIGSTEPS -/
theorem apf{h:Heap}{v:AV}{l:List KQ}(hv:Sl h 4 v (dN l))(hl:l.length<=9223372036854775807){g:Nat}(hg:g<1000){caps:List AV}{p:KQ->Bool}
  (hF:∀ x∈l,∀ lo,(run lib).fn g (eZ x::caps) h lo=some (.bool (p x),h)) (lo:Nat):∀(d k:Nat),k+d=l.length ->
  aQ lib ⟨lo,h.length,0,none⟩ (.loop TW) ([(0,v),(1,.fn g caps),(7,.int .i64 l.length),(8,.int .i64 k)],h) =
   match qK l p k with|some r=>some (.ret,([(4,.int .i64 r)],h))|none=>some (.exit 0,([],h)):=by
 intro d
 induction d with
 |zero =>
  intro k hk;obtain rfl:k=l.length:=by omega
  rw[VL,bU]
  simp(maxSteps:=30000000)(disch:=omega)only[go_sem,nR]
 |succ d ih =>
  intro k hk;have hk':k<l.length:=by omega
  have h1:(k:Int)<l.length:=by omega
  have e3:iM 4 v (.int .i64 k)=some k:=by rw[kr hv (by omega) (by simp;omega)];simp
  have e4:=fun off=>jV (off:=off) hv.jW (show k<(dN l).length by simp;omega)
  simp only[FZ,eZ]at e4;have f:=fun lo=>hF l[k] (l9 _) lo;simp only[eZ]at f
  cases hp:p l[k] with
  |true =>
   rw[VO hk' hp,bU];rw[hp]at f
   simp(maxSteps:=30000000)(disch:=omega)only[go_sem,h1,e3,e4,f,hg,List.cons_append,List.nil_append]
  |false =>
   rw[VP hk' hp,bU];rw[hp]at f;have e:=ih (k+1) (by omega)
   rw[jo]at e;simp(maxSteps:=30000000)(disch:=omega)only[go_sem,h1,e3,e4,f,hg,List.cons_append,List.nil_append,e]
theorem adY{h:Heap}{v:AV}{l:List KQ}(hv:Sl h 4 v (dN l))(hl:l.length<=9223372036854775807){g:Nat}(hg:g<1000){caps:List AV}{p:KQ->Bool}
  (hF:∀ x∈l,∀ lo,(run lib).fn g (eZ x::caps) h lo=some (.bool (p x),h)) (lo:Nat):(run lib).fn 116 [v,.fn g caps] h lo=some (.int .i64 (za l p),h):=by
 have e:=apf hv hl hg hF h.length l.length 0 (by omega)
 have ll:=iB hv.len;rw[zb]at ll;unfold za;simp only[qX]at e;rw[bW (x:=O7) rfl rfl rfl rfl]
 cases hr:qK l p 0 with
 |none=>rw[hr]at e;simp(maxSteps:=30000000)(disch:=omega)only[go_sem,O7,ll,e]
 |some r=>rw[hr]at e;simp(maxSteps:=30000000)(disch:=omega)only[go_sem,O7,ll,e]
theorem apg{h:Heap}{v:AV}{l:List KQ}(hv:Sl h 4 v (dN l))(hl:l.length<=9223372036854775807){g:Nat}(hg:g<1000){caps:List AV}{p:KQ->Bool}
  (hF:∀ x∈l,∀ lo,(run lib).fn g (eZ x::caps) h lo=some (.bool (p x),h)) (lo:Nat):(run lib).fn 94 [v,.fn g caps] h lo=some (.bool (l.any p),h):=by
 have e:=fun lo=>adY hv hl hg hF lo;have hn:=VT (l:=l) (p:=p);rw[<-hn];rw[bW (x:=TN) rfl rfl rfl rfl];simp(maxSteps:=30000000)(disch:=omega)only[go_sem,TN,e]
theorem MF{q:Rat}(h:gV q):o5 (aH q.num) (aH (q.den:Int))=true:=Be h
theorem aph{a:KQ}(ha:o8 a)(h:Heap)(lo:Nat):(run lib).fn 93 [eZ a] h lo=some (.bool false,h):=by
 have e1:=fun H lo=>Ea (aH a.1.num) (aH (a.1.den:Int)) H lo;have e2:=fun H lo=>Ea (aH a.2.num) (aH (a.2.den:Int)) H lo;rw[MF ha.x]at e1;rw[MF ha.y]at e2;simp only[bY]at e1 e2;unfold eZ;rw[bW (x:=x93) rfl rfl rfl rfl];simp(maxSteps:=30000000)(disch:=omega)only[go_sem,x93,e1,e2]
structure WS where
 rs:RS
 bad:Bool
 b1:Nat×au
 b2:Nat×au
 res:Bool
def ic(a:KQ):List AV:=[.str (aH a.1.num),.str (aH (a.1.den:Int)),.str (aH a.2.num),.str (aH (a.2.den:Int))]
def Ep(h:Heap)(v:AV):Env:=[(2,.aF (h.length+4) 1 0),(4,.aF (h.length+3) 1 0),(23,.fn 132 [.bR [v]])]
def QN(h:Heap)(v:AV):dO:=⟨5,h.length,h.length,5,Ep h v⟩
def Ja(h:Heap)(v:AV)(st:WS):Heap:=h++[(1,.ax (QN h v) st.rs),st.b1,st.b2,(1,.box [.bool st.bad]),(1,.box [.bool st.res])]
def rV(a b:KQ):Bool:=decide (a.1<b.1)&&decide (a.2<b.2)
def sO(st:WS)(a b:KQ):WS×Bool :=
 (⟨if rV a b then .ready else .done .ret,if rV a b then st.bad||(rU a b).isNone else st.bad,(st.b1.1+1,.box (ic b)),(st.b2.1+1,.box (ic a)),if rV a b then st.res else false⟩,rV a b)
theorem Wn(a b:Rat):decide (0<=lY a b)=!decide (a<b):=by
 rcases UW a b with⟨e,l⟩|⟨e,l⟩|⟨e,l⟩
 ·rw[e,decide_eq_true l];rfl
 ·rw[e,l,show decide (b<b)=false from decide_eq_false Rat.lt_irrefl];rfl
 ·rw[e,show decide (a<b)=false from decide_eq_false (by grind)];rfl
theorem apj{h:Heap}{v:AV}(st:WS)(hr:st.rs=.ready){a b:KQ}(ha:o8 a)(hb:o8 b) :
  iY (run lib) ⟨h.length,h.length+5,0,none⟩ (h.length+0) 1 [eZ a,eZ b] (Ja h v st)=some (.bool (sO st a b).2,Ja h v (sO st a b).1):=by
 obtain⟨rs,bad,⟨v1,c1⟩,⟨v2,c2⟩,res⟩:=st;simp only at hr;subst hr;obtain⟨D,hD⟩:∃ D:dO,D=QN h v:=⟨_,rfl⟩;simp only[Ja,sO,<-hD]
 have ha1:aQ lib ⟨h.length,h.length,5,some (h.length+0,1)⟩ r5.jE ((r5.ps.zip [eZ a,eZ b]).foldl (fun e p=>e.set p.1 p.2) (Ep h v),h++[(1,.ax D .ready),(v1,c1),(v2,c2),(1,.box [.bool bad]),(1,.box [.bool res])]) =
   some (.norm,([(2,.aF (h.length+4) 1 0),(4,.aF (h.length+3) 1 0),(5,.aF (h.length+2) (v2+1) 0),(6,.aF (h.length+1) (v1+1) 0)],h++[(1,.ax D .ready),(v1+1,.box (ic b)),(v2+1,.box (ic a)),(1,.box [.bool bad]),(1,.box [.bool res])])):=by
  have em:∀ fr:Heap,fB ⟨h.length,h.length,5,some (h.length+0,1)⟩ 2 (.box [.str [],.str [],.str [],.str []]) (h++fr)=vB 2 5 (.box [.str [],.str [],.str [],.str []]) h fr fr[2]?:=fun fr=>uW (by rfl)
  have MG:∀ fr:Heap,fB ⟨h.length,h.length,5,some (h.length+0,1)⟩ 1 (.box [.str [],.str [],.str [],.str []]) (h++fr)=vB 1 5 (.box [.str [],.str [],.str [],.str []]) h fr fr[1]?:=fun fr=>uW (by rfl)
  have es:=fun(fr:Heap) s ai (k:KQ)=>tX (lo:=h.length) (ns:=5) (sz:=4) (s:=s) (ai:=ai) (off:=0) (h:=h) (fr:=fr) (v:=eZ k) (p:=(h.length+0,1)) (bC _) (by rfl)
  simp only[eZ]at es⊢;simp(maxSteps:=30000000)(disch:=omega)only[go_sem,r5,Ep,ic,em,MG,es,List.zip_cons_cons,Ac,List.foldl_cons,wL]
 have q1:=fun H lo=>Bq ha.x hb.x H lo;have q2:=fun H lo=>Bq ha.y hb.y H lo;simp only[rt,bY]at q1 q2
 have hb1:∃ jl,aQ lib ⟨h.length,h.length,5,some (h.length+0,1)⟩ r5.body ([(2,.aF (h.length+4) 1 0),(4,.aF (h.length+3) 1 0),(5,.aF (h.length+2) (v2+1) 0),(6,.aF (h.length+1) (v1+1) 0)],(h++[(1,au.ax D .ready),(v1+1,au.box (ic b)),(v2+1,au.box (ic a)),(1,au.box [.bool bad]),(1,au.box [.bool res])]).set (h.length+0) (1,.ax D .busy)) =
   some (if rV a b then .norm else .ret,(jl,h++[(1,.ax D .busy),(v1+1,.box (ic b)),(v2+1,.box (ic a)),(1,.box [.bool (if rV a b then bad||(rU a b).isNone else bad)]),(1,.box [.bool (if rV a b then res else false)])])):=by
  refine⟨[], ?_⟩;rw[gy,List.set_cons_zero];have pb:=fun(fr:Heap) x=>tX (lo:=h.length) (ns:=5) (sz:=1) (s:=4) (ai:=1) (off:=0) (h:=h) (fr:=fr) (v:=.bool x) (p:=(h.length+0,1)) (bC _) (by rfl)
  have n1:=Wn a.1 b.1;have n2:=Wn a.2 b.2;unfold rV;by_cases c1:a.1<b.1
  ·have m1:¬ 0<=lY a.1 b.1:=by rw[decide_eq_true c1]at n1;simpa using n1
   by_cases c2:a.2<b.2
   ·have m2:¬ 0<=lY a.2 b.2:=by rw[decide_eq_true c2]at n2;simpa using n2
    simp only[c1,c2,decide_true,w9,if_true]
    cases bad with
    |true =>
     have sp:=adV (h:=h++[(1,.ax D .busy),(v1+1,.box (ic b)),(v2+1,.box (ic a)),gB,(1,.box [.bool res])]) (id:=h.length+3) (by rw[cO];rfl) a b (lo:=h.length) (by omega)
     simp only[eZ,ic,bY,gB]at sp⊢
     simp(maxSteps:=30000000)(disch:=omega)only[go_sem,r5,q1,q2,m1,m2,sp]
    |false =>
     cases hs:rU a b with
     |some q =>
      have sp:=Wl (h:=h++[(1,.ax D .busy),(v1+1,.box (ic b)),(v2+1,.box (ic a)),okB,(1,.box [.bool res])]) (id:=h.length+3) (by rw[cO];rfl) ha hb hs (lo:=h.length) (by omega)
      simp only[eZ,ic,BB,bY,okB]at sp⊢
      simp(maxSteps:=30000000)(disch:=omega)only[go_sem,r5,q1,q2,m1,m2,sp,Option.isNone_some]
     |none =>
      have sp:=apc (h:=h++[(1,.ax D .busy),(v1+1,.box (ic b)),(v2+1,.box (ic a)),okB,(1,.box [.bool res])]) (id:=h.length+3) (by rw[cO];rfl) ha hb hs (lo:=h.length) (by omega)
      rw[gy]at sp;simp only[eZ,ic,bY,okB,gB,List.set_cons_succ,List.set_cons_zero]at sp⊢;simp(maxSteps:=30000000)(disch:=omega)only[go_sem,r5,q1,q2,m1,m2,sp,Option.isNone_none]
   ·have m2:0<=lY a.2 b.2:=by rw[decide_eq_false c2]at n2;simpa using n2
    simp only[c1,c2,decide_true,decide_false,Bool.and_false,if_false,iw];simp only[ic];simp(maxSteps:=30000000)(disch:=omega)only[go_sem,r5,q1,q2,m1,m2,pb]
  ·have m1:0<=lY a.1 b.1:=by rw[decide_eq_false c1]at n1;simpa using n1
   simp only[c1,decide_false,Bool.false_and,if_false,iw];simp only[ic];simp(maxSteps:=30000000)(disch:=omega)only[go_sem,r5,q1,q2,m1,pb]
 obtain⟨jl,hb2⟩:=hb1;have hg:(h++[(1,au.ax D .ready),(v1,c1),(v2,c2),(1,au.box [.bool bad]),(1,au.box [.bool res])])[h.length+0]?=some (1,.ax ⟨5,h.length,h.length,5,Ep h v⟩ .ready):=by rw[cO,hD];rfl
 have:=xG (L:=lib) (cx:=⟨h.length,h.length+5,0,none⟩) hg (bC _) (by omega) (bC _) (by simp[eZ,AV.l5,AV.closed]) (x:=r5) rfl rfl ha1 (by rw[cO];rfl) hb2 (by rw[cO];rfl)
 rw[this,gy];cases rV a b<;>rfl
def xW:Bool->List KQ->Option Bool
 |bad,a::b::r=>if rV a b then xW (bad||(rU a b).isNone) (b::r)else none
 |bad,_=>some bad
def pK(l:List KQ):Bool:=decide (2<=l.length)&&(decide (l.length<=24)&&(xW false l==some false))
theorem adZ:∀(l:List KQ) (st:WS),st.rs=.ready->(match xW st.bad l with
  |some bad=>(pgo sO st l).rs=.ready/\(pgo sO st l).bad=bad
  |none=>(pgo sO st l).rs=.done .ret/\(pgo sO st l).res=false)
 |[],st,h=>⟨h,rfl⟩
 |[a],st,h=>⟨h,rfl⟩
 |a::b::r,st,h=>by
  rw[xW,pgo];cases hc:rV a b
  ·have e:(sO st a b).2=false:=hc;rw[e];simp only[iw,if_false];exact⟨by simp[sO,hc],by simp[sO,hc]⟩
  ·have e:(sO st a b).2=true:=hc;rw[e];simp only[if_true];have i:=adZ (b::r) (sO st a b).1 (by simp[sO,hc])
   have eb:(sO st a b).1.bad=(st.bad||(rU a b).isNone):=by simp[sO,hc]
   rw[eb]at i;exact i
theorem MI{z:Nat}{v:AV}{es:List AV}(p:cK z v es):v.val=true/\v.cells=[v]/\∃ f z',(z'=z\/es=[])/\∀ b k h,bL b k v h=some (oh f z' es,h):=by
 rcases p with⟨rfl,rfl⟩|⟨z',rfl|rfl,hz⟩
 ·exact⟨rfl,rfl,false,0,.inr rfl,fun b k h=>by simp[bL,oh]⟩
 ·exact⟨rfl,rfl,false,z',hz,fun b k h=>by simp[bL,oh]⟩
 ·exact⟨rfl,rfl,true,z',hz,fun b k h=>by simp[bL,oh]⟩
theorem apk{h:Heap}{v:AV}{l:List KQ}(hp:cK 4 v (dN l))(hl:l.length<=9223372036854775807)(hf:∀ a∈l,o8 a)(lo:Nat):enter DF (aQ lib) [.agg [v]] h lo=some (.bool (pK l),h):=by
 obtain⟨q1,q2,f,z,hz,q3⟩:=MI hp;obtain⟨w,hw⟩:∃ w,w=oh f z (dN l):=⟨_,rfl⟩;have sl:∀ H,Sl H 4 w (dN l):=fun H=>by rw[hw];exact FR hz f H
 have w1:w.val=true:=by rw[hw];exact L9 _ _ _
 have w2:w.cells=[w]:=by rw[hw];exact Mg _ _ _
 have w3:∀ b k h,bL b k w h=some (w,h):=fun b k h=>by rw[hw];exact FP _ _ _ _ _ _
 have w4:w.closed=true:=by rw[hw];exact Mh _ _ _
 rw[<-hw]at q3;clear hw;have ll:=iB (sl []).len;rw[zb]at ll;have cf:=fun H lo=>apg (g:=93) (caps:=[]) (p:=fun _=>false) (sl H) hl (by decide) (fun a ha lo=>aph (hf a ha) H lo) lo
 have ca:l.any (fun _=>false)=false:=by simp
 rw[ca]at cf;have pr:=fun H lo=>Wm (v:=w) (v':=w) H w1 w3 w2 lo;have hs1:∀ st:WS,(Ja h w st).length=h.length+5:=fun st=>by simp[Ja]
 have g:=ape (id:=h.length+0) (iv:=1) (H:=Ja h w) (nb:=h.length+5) (lo:=h.length) (step:=sO) (Iv:=fun st=>st.rs=.ready) (v:=w) (l:=l) hl (fun st=>sl _) hs1 (by omega) (fun st a b _ _ hi hc=>by have:rV a b=true:=hc;simp[sO,this])
  (fun st a b h1 h2 hi=>apj (h:=h) (v:=w) st hi (hf a h1) (hf b h2)) ⟨.ready,false,(0,.dead),(0,.dead),false⟩ rfl
 have hv:=adZ l ⟨.ready,false,(0,.dead),(0,.dead),false⟩ rfl;simp only at hv;rw[aa6 rfl rfl];unfold pK;by_cases c1:2<=l.length
 ·by_cases c2:l.length<=24
  ·have k1:¬ (l.length:Int)<2:=by omega
   have k2:¬ 24<(l.length:Int):=by omega
   simp only[c1,c2,decide_true,Bool.true_and];obtain⟨st,hst⟩:∃ st,st=pgo sO ⟨.ready,false,(0,.dead),(0,.dead),false⟩ l:=⟨_,rfl⟩;rw[<-hst]at g hv;obtain⟨rs,bad,B1,B2,res⟩:=st
   cases hg:xW false l with
   |some bd =>
    rw[hg]at hv;obtain⟨rfl,rfl⟩:=hv
    have g3:=Bb (L:=lib) (lo:=h.length) (ns:=5) (s:=0) (g:=5) (it:=132) (v:=0) (caps:=[.bR [w]]) (env:=Ep h w) (h:=h) (b:=.dead)
     (fr:=[(0,.dead),(0,.dead),(0,.dead),(1,.box [.bool false]),(1,.box [.bool false])])
     (fr':=[(1,.ax (QN h w) .ready),B1,B2,(1,.box [.bool bad]),(1,.box [.bool res])])
     (f:=.t 23) rfl (by omega) rfl g rfl
    simp only[Ep,List.set_cons_zero]at g3;cases bad
    ·simp(maxSteps:=30000000)(disch:=omega)only[go_sem,DF,q1,q2,q3,w1,w2,w3,w4,ll,cf,pr,k1,k2,g3];rfl
    ·simp(maxSteps:=30000000)(disch:=omega)only[go_sem,DF,q1,q2,q3,w1,w2,w3,w4,ll,cf,pr,k1,k2,g3]
     rfl
   |none =>
    rw[hg]at hv;obtain⟨rfl,rfl⟩:=hv
    have g3:=abW (L:=lib) (lo:=h.length) (ns:=5) (s:=0) (g:=5) (it:=132) (v:=0) (caps:=[.bR [w]]) (env:=Ep h w) (h:=h) (b:=.dead)
     (fr:=[(0,.dead),(0,.dead),(0,.dead),(1,.box [.bool false]),(1,.box [.bool false])])
     (fr':=[(1,.ax (QN h w) (.done .ret)),B1,B2,(1,.box [.bool bad]),(1,.box [.bool false])])
     (f:=.t 23) rfl (by omega) rfl g rfl
    simp only[Ep,List.set_cons_zero]at g3;simp(maxSteps:=30000000)(disch:=omega)only[go_sem,DF,q1,q2,q3,w1,w2,w3,w4,ll,cf,pr,k1,k2,g3];rfl
  ·have k1:¬ (l.length:Int)<2:=by omega
   have k2:24<(l.length:Int):=by omega
   simp only[c1,c2,decide_true,decide_false,Bool.true_and,Bool.false_and];simp(maxSteps:=30000000)(disch:=omega)only[go_sem,DF,q1,q2,q3,w1,w2,w3,w4,ll,k1,k2]
 ·have k1:(l.length:Int)<2:=by omega
  simp only[c1,decide_false,Bool.false_and];simp(maxSteps:=30000000)(disch:=omega)only[go_sem,DF,q1,q2,q3,w1,w2,w3,w4,ll,k1]
theorem MO{h:Heap}{v:AV}{l:List KQ}(hv:Sl h 4 v (dN l))(hl:l.length<=9223372036854775807)(hf:∀ a∈l,o8 a)(lo:Nat):(run lib).fn 58 [.agg [v]] h lo=some (.bool (pK l),h):=by
 obtain⟨v',h1,h2⟩:=ak9 hv;refine ak8 (x:=DF) (vs:=[.agg [v']]) rfl rfl rfl ?_ (apk h2 hl hf 0) rfl;simp[wZ,h1,view]
end Go.VI.Dump
namespace Go.VI
theorem ad1{lo ns:Nat}{p:Nat×Nat}(env:Env)(h fr:Heap)(s:Nat):fQ.ok ⟨lo,h.length,ns,some p⟩ env (h++fr) (.wV s)=KH fr[s]?:=by
 simp only[fQ.ok,cO];rfl
theorem Ga(v z:Nat)(es:List AV):KH (some (bX (v,.dead) z es))=true:=by unfold bX;split<;>rfl
theorem apl{cx:Cx}{s t z lim:Nat}{h fr:Heap}{b0:Nat×au}{es xs:List AV}(hne:es≠[])(hlo:cx.lo<=h.length+t)(hb:fr[t]?=some (bX b0 z es))(hl:es.length+xs.length<=lim) :
  ji cx s z lim (cu (h.length+t) b0 z es) xs (h++fr)=some (cu (h.length+t) b0 z (es++xs),h++fr.set t (bX b0 z (es++xs))):=by
 rw[G8 hne]at hb;rw[G7 hne,G7 (by simp[hne]),G8 (by simp[hne]),Hf (by rw[cO,hb]) hlo hl,gy,jm]
theorem Jb:(true==true)=true:=rfl
theorem Jc:(false==false)=true:=rfl
theorem Jd:(true==false)=false:=rfl
theorem Je:(false==true)=false:=rfl
end Go.VI
namespace Go.VI.Dump
open Go.VI.Num
/- BIGSTEPS -/
def qk(p:Pr):KQ:=((p.1:Rat),(p.2:Rat))
def gF(K:List Pr):List AV:=dN (K.map qk)
theorem Gb(K:List Pr)(p:Pr):gF (K++[p])=gF K++[.agg [.str (aH p.1),.str [49],.str (aH p.2),.str [49]]]:=by
 simp[gF,dN,qk,eZ,K8]
theorem QO(K:List Pr):(gF K).length=K.length:=by simp[gF]
theorem apm{K:List Pr}:gF K=[]↔K=[]:=by simp[gF,dN]
theorem Jg{z:Int}(h:z.natAbs<100000):Fit z:=by
 unfold Fit;exact uF h (ng (show 100000<=10^5 by decide) (yP (by decide) (by decide)))
theorem ad2(z:Int):yQ z 1=some (z:Rat):=by
 unfold yQ;rw[if_neg (by decide)]
 congr 1;rw[Rat.divInt_eq_div];grind
theorem ad3{z:Int}(hz:z.natAbs<100000)(h:Heap)(lo:Nat):(run lib).fn 39 [.int .i64 z,.int .i64 1] h lo=some (.tuple [.agg [.str (aH z),.str [49]],.int .i64 0],h):=by
 have:=adu (n:=z) (d:=1) (Jg hz) (Jg (by decide)) (by omega) (by decide) h lo
 rw[ad2]at this;exact this
theorem apn{x y:Int}(hx:x.natAbs<100000)(hy:y.natAbs<100000)(h:Heap)(lo:Nat):(run lib).fn 57 [.int .i64 x,.int .i64 y] h lo=some (.agg [.str (aH x),.str [49],.str (aH y),.str [49]],h):=by
 have e1:=fun H lo=>ad3 hx H lo;have e2:=fun H lo=>ad3 hy H lo;rw[bW (x:=TH) rfl rfl rfl rfl];simp(maxSteps:=30000000)(disch:=omega)only[go_sem,TH,e1,e2]
abbrev MS:=Bool×List Pr×Nat×au
def Jh(h:Heap)(x:LV):Env:=[(4,.aF (h.length+7) 1 0),(5,.int .i64 0),(8,.aF (h.length+6) 1 0),(9,.aF (h.length+5) 1 0),(10,.aF (h.length+4) 1 0),(35,.fn 89 [wS x])]
def Wo(h:Heap)(x:LV):dO:=⟨3,h.length,h.length,8,Jh h x⟩
def Ji(h:Heap)(x:LV)(r:Pr)(st:MS):Heap:=h++[(1,.ax (Wo h x) .ready),st.2.2,(0,.dead),bX (0,.dead) 4 (gF st.2.1),(1,.box [.bool st.1]),(1,.box [cu (h.length+3) (0,.dead) 4 (gF st.2.1)]),(1,.box [.int .i64 r.1,.int .i64 r.2]),(1,.box [.aP])]
def CW(r:Pr)(st:MS)(X:Stp):MS:=((ql r (st.1,st.2.1) X).1,(ql r (st.1,st.2.1) X).2,st.2.2.1+1,.box (iO X))
def QR(r:Pr)(s a:Int)(st:MS):Prop:=(r.1<s->st.2.1≠[])/\(st.2.1.length:Int)<=2*s/\0<=s
theorem apo{x:LV}(h:Heap)(r:Pr)(hr:r.1<r.2)(st:MS)(X:Stp)(fr:Heap)(hX:rT X)(hi:QR r X.fr X.be st) :
  iY (run lib) ⟨h.length,h.length+8,3,none⟩ (h.length+0) 1 [nS X] (Ji h x r st++fr)=some (.bool true,Ji h x r (CW r st X)++fr):=by
 obtain⟨f,K,v,b⟩:=st;obtain⟨r1,r2⟩:=r;obtain⟨x1,x2,x3,x4,x5,x6,x7,x8,x9,x10⟩:=hX;obtain⟨hi1,hi2,hi3⟩:=hi;simp only at hi1 hi2 hr;obtain⟨D,hD⟩:∃ D:dO,D=Wo h x:=⟨_,rfl⟩;simp only[Ji,CW,jO,List.cons_append,List.nil_append,<-hD]
 have ha:aQ lib ⟨h.length,h.length,8,some (h.length+0,1)⟩ r3.jE ((r3.ps.zip [nS X]).foldl (fun e p=>e.set p.1 p.2) (Jh h x),h++((1,.ax D .ready)::(v,b)::(0,.dead)::bX (0,.dead) 4 (gF K)::(1,.box [.bool f])::(1,.box [cu (h.length+3) (0,.dead) 4 (gF K)])::(1,.box [.int .i64 r1,.int .i64 r2])::(1,.box [.aP])::fr)) =
   some (.norm,([(8,.aF (h.length+6) 1 0),(9,.aF (h.length+5) 1 0),(10,.aF (h.length+4) 1 0),(11,.aF (h.length+1) (v+1) 0)],h++((1,.ax D .ready)::(v+1,.box (iO X))::(0,.dead)::bX (0,.dead) 4 (gF K)::(1,.box [.bool f])::(1,.box [cu (h.length+3) (0,.dead) 4 (gF K)])::(1,.box [.int .i64 r1,.int .i64 r2])::(1,.box [.aP])::fr))):=by
  have em:∀ g:Heap,fB ⟨h.length,h.length,8,some (h.length+0,1)⟩ 1 (.box [.int .i64 0,.int .i64 0,.int .i64 0,.int .i64 0,.int .i64 0,.bool false,.bool false]) (h++g)=vB 1 8 (.box [.int .i64 0,.int .i64 0,.int .i64 0,.int .i64 0,.int .i64 0,.bool false,.bool false]) h g g[1]?:=fun g=>uW (by rfl)
  have es:=fun(g:Heap) ai=>tX (lo:=h.length) (ns:=8) (sz:=7) (s:=1) (ai:=ai) (off:=0) (h:=h) (fr:=g) (v:=nS X) (p:=(h.length+0,1)) (bC _) (by rfl)
  simp only[nS]at es⊢;simp(maxSteps:=30000000)(disch:=omega)only[go_sem,r3,Jh,iO,em,es,List.zip_cons_cons,Ac,List.foldl_cons,wL]
 have hb:∃ jl e,e≠Ex.exit 0/\e=.norm/\aQ lib ⟨h.length,h.length,8,some (h.length+0,1)⟩ r3.body ([(8,.aF (h.length+6) 1 0),(9,.aF (h.length+5) 1 0),(10,.aF (h.length+4) 1 0),(11,.aF (h.length+1) (v+1) 0)],(h++((1,au.ax D .ready)::(v+1,au.box (iO X))::(0,au.dead)::bX (0,.dead) 4 (gF K)::(1,au.box [.bool f])::(1,au.box [cu (h.length+3) (0,.dead) 4 (gF K)])::(1,au.box [.int .i64 r1,.int .i64 r2])::(1,au.box [.aP])::fr)).set (h.length+0) (1,.ax D .busy)) =
   some (e,(jl,h++((1,.ax D .busy)::(v+1,.box (iO X))::(0,.dead)::bX (0,.dead) 4 (gF (ql (r1,r2) (f,K) X).2)::(1,.box [.bool (ql (r1,r2) (f,K) X).1])::(1,.box [cu (h.length+3) (0,.dead) 4 (gF (ql (r1,r2) (f,K) X).2)])::(1,.box [.int .i64 r1,.int .i64 r2])::(1,.box [.aP])::fr))):=by
  refine⟨if (ql (r1,r2) (f,K) X).2=(ql (r1,r2) (f,K) X).2/\¬ (X.fr<r1\/r2<=X.fr)/\X.to≠r2 then[(9,.aF (h.length+5) 1 0),(11,.aF (h.length+1) (v+1) 0),(81,.bool false)] else[],.norm,by simp,rfl, ?_⟩
  rw[gy,List.set_cons_zero];have kn:=fun a b (ha:a.natAbs<100000) (hb:b.natAbs<100000) H lo=>apn (x:=a) (y:=b) ha hb H lo;have k1:=kn X.fr X.be (by omega) (by omega)
  have k2:=kn X.to X.af (by omega) (by omega)
  have pb:=fun(g:Heap) c=>tX (lo:=h.length) (ns:=8) (sz:=1) (s:=4) (ai:=1) (off:=0) (h:=h) (fr:=g) (v:=.bool c) (p:=(h.length+0,1)) (bC _) (by rfl)
  have pa:=fun(g:Heap) (es:List AV)=>QG (lo:=h.length) (ns:=8) (s:=5) (ai:=1) (off:=0) (h:=h) (p:=(h.length+0,1)) (fr:=g) (v:=cu (h.length+3) (0,.dead) 4 es) (bC _) (Wd (by omega)) ⟨by rw[tT];rfl,Ct _ _ _ _⟩
  have MP:=fun(g:Heap) (es:List AV) (w:AV) (hg:g[3]?=some (bX (0,.dead) 4 es)) (hl:es.length<=10000)=>(QF (p:=(h.length+0,1))).trans (wD (lo:=h.length) (ns:=8) (s:=3) (z:=4) (lim:=2199023255552) (h:=h) (fr:=g) (b0:=(0,.dead)) (es:=es) (xs:=[w]) (by omega) (by omega) hg (by simp;omega))
  have ap2:=fun(g:Heap) (es:List AV) (w:AV) (hg:g[3]?=some (bX (0,.dead) 4 es)) (hl:es.length<=10000) (hne:es≠[])=>apl (cx:=⟨h.length,h.length,8,some (h.length+0,1)⟩) (s:=2) (t:=3) (z:=4) (lim:=2199023255552) (h:=h) (fr:=g) (b0:=(0,.dead)) (es:=es) (xs:=[w]) hne (by simp) hg (by simp;omega)
  obtain⟨G,hG⟩:∃ G:Bool->List AV->AV->Heap,G=fun c es m=>(1,.ax D .busy)::(v+1,.box (iO X))::(0,.dead)::bX (0,.dead) 4 es::(1,.box [.bool c])::(1,.box [m])::(1,.box [.int .i64 r1,.int .i64 r2])::(1,.box [.aP])::fr:=⟨_,rfl⟩;have gg:∀ c es m,(G c es m)[3]?=some (bX (0,.dead) 4 es):=fun c es m=>by rw[hG];rfl
  have hKl:(gF K).length<=5000:=by rw[QO];omega
  unfold ql;simp only;by_cases c1:X.fr<r1
  ·rw[if_pos (show X.fr<r1\/r2<=X.fr from .inl c1),if_neg (by simp[c1])]
   simp only[iO];simp(maxSteps:=30000000)(disch:=omega)only[go_sem,r3,c1]
  ·by_cases c2:r2<=X.fr
   ·rw[if_pos (show X.fr<r1\/r2<=X.fr from .inr c2),if_neg (by simp[c2])]
    simp only[iO];simp(maxSteps:=30000000)(disch:=omega)only[go_sem,r3,c1,c2]
   ·rw[if_neg (show ¬ (X.fr<r1\/r2<=X.fr) by omega)]
    have hnot:¬ (X.fr<r1\/r2<=X.fr):=by omega
    have fin:∀ f s:Bool,s=f\/s=!f:=fun f s=>by cases f<;>cases s<;>simp
    have ck:=fun env (g:Heap)=>ad1 (lo:=h.length) (ns:=8) (p:=(h.length+0,1)) env h g;have a1:=fun c m w=>MP (G c (gF K) m) (gF K) w (gg _ _ _) (by omega)
    have a3:=fun c m w (hne:gF K≠[])=>ap2 (G c (gF K) m) (gF K) w (gg _ _ _) (by omega) hne
    have a2:=fun c m u w=>ap2 (G c (gF K++[u]) m) (gF K++[u]) w (gg _ _ _) (by simp;omega) (by simp)
    subst hG;simp only[List.set_cons_succ,List.set_cons_zero]at a1 a2 a3;simp only[iO]at a1 a2 a3⊢;generalize X.str=s at*;by_cases c5:X.fr=r1
    ·rw[if_pos (show X.fr=r1\/s≠f from .inl c5)]
     by_cases c4:X.to=r2
     ·rw[if_pos c4,if_neg (by simp[c4]),Gb,Gb]
      subst c4;subst c5;simp(maxSteps:=30000000)(disch:=omega)only[go_sem,r3,c1,c2,pb,pa,k1,k2,a1,a2,ck,Ga,tT,Jb,Jc,Jd,Je]
     ·rw[if_neg c4,nI,if_pos ⟨trivial,hnot,c4⟩,Gb];subst c5;simp(maxSteps:=30000000)(disch:=omega)only[go_sem,r3,c4,c1,c2,pb,pa,k1,k2,a1,a2,ck,Ga,tT,Jb,Jc,Jd,Je]
    ·have hne:gF K≠[]:=fun e=>hi1 (by omega) (apm.mp e)
     have a3:=fun c m w=>a3 c m w hne;rcases fin f s with rfl|rfl
     ·rw[if_neg (show ¬ (X.fr=r1\/s≠s) by simp[c5]),nI]
      by_cases c4:X.to=r2
      ·rw[if_pos c4,if_neg (by simp[c4]),Gb]
       subst c4;cases s<;>simp(maxSteps:=30000000)(disch:=omega)only[go_sem,r3,c5,c1,c2,pb,pa,k1,k2,a3,ck,Ga,tT,Jb,Jc,Jd,Je]
      ·rw[if_neg c4,nI,if_pos ⟨trivial,hnot,c4⟩];cases s<;>simp(maxSteps:=30000000)(disch:=omega)only[go_sem,r3,c4,c5,c1,c2,pb,pa,k1,k2,a3,ck,Ga,tT,Jb,Jc,Jd,Je]
     ·rw[if_pos (show X.fr=r1\/(!f)≠f from .inr (by cases f<;>simp))]
      by_cases c4:X.to=r2
      ·rw[if_pos c4,if_neg (by simp[c4]),Gb,Gb]
       subst c4;cases f<;>simp only[Bool.not_false,Bool.not_true]at a1 a2⊢<;>simp(maxSteps:=30000000)(disch:=omega)only[go_sem,r3,c5,c1,c2,pb,pa,k1,k2,a1,a2,ck,Ga,tT,Jb,Jc,Jd,Je]
      ·rw[if_neg c4,nI,if_pos ⟨trivial,hnot,c4⟩,Gb];cases f<;>simp only[Bool.not_false,Bool.not_true]at a1 a2⊢<;>simp(maxSteps:=30000000)(disch:=omega)only[go_sem,r3,c4,c5,c1,c2,pb,pa,k1,k2,a1,a2,ck,Ga,tT,Jb,Jc,Jd,Je]
 obtain⟨jl,e,_,rfl,hb⟩:=hb;have hg:(h++((1,au.ax D .ready)::(v,b)::(0,au.dead)::bX (0,.dead) 4 (gF K)::(1,au.box [.bool f])::(1,au.box [cu (h.length+3) (0,.dead) 4 (gF K)])::(1,au.box [.int .i64 r1,.int .i64 r2])::(1,au.box [.aP])::fr))[h.length+0]?=some (1,.ax ⟨3,h.length,h.length,8,Jh h x⟩ .ready):=by rw[cO,hD];rfl
 have:=xG (L:=lib) (cx:=⟨h.length,h.length+8,3,none⟩) hg (bC _) (by omega) (bC _) (by simp[nS,AV.l5,AV.closed]) (x:=r3) rfl rfl ha (by rw[cO];rfl) hb (by rw[cO];rfl)
 rw[this,gy];rfl
theorem apq(r:Pr)(xs:List Stp):∀ st:MS,((xs.foldl (CW r) st).1,(xs.foldl (CW r) st).2.1)=xs.foldl (ql r) (st.1,st.2.1):=by
 induction xs with
 |nil=>intro st;rfl
 |cons X xs ih=>intro st;rw[List.foldl_cons,ih,List.foldl_cons];rfl
theorem apr{r:Pr}(hr:r.1<r.2)(st:MS)(X:Stp)(hX:rT X)(hq:X.to<=r.1\/r.1<=X.fr)(hi:QR r X.fr X.be st):QR r X.to X.af (CW r st X):=by
 obtain⟨h1,h2,h3⟩:=hi;have x1:=hX.fr;have x2:=hX.to;refine⟨fun hs=>?_, ?_,by omega⟩
 ·simp only[CW,ql];split
  ·rename_i hc;simp only;exact h1 (by omega)
  ·rename_i hc;simp only;intro e;rw[List.append_eq_nil_iff,List.append_eq_nil_iff]at e;by_cases c:r.1<X.fr
   ·exact h1 c e.1.1
   ·have h5:=e.1.2;rw[if_pos (.inl (by omega))]at h5
    cases h5
 ·simp only[CW,ql];split
  ·simp only;omega
  ·simp only[jm];split<;>split<;>simp<;>omega
end Go.VI.Dump
namespace Go.VI.Dump
open Go.VI.Num
/- BIGSTEPS -/
theorem aps{l:iD}{A:List Int}{a:Pr}{K:List Pr}(h:Kn l A a K):(∀ p∈K,a.1<p.1/\a.2<p.2)/\∀ q∈K.getLast?,∀ p∈a::K,p.1<=q.1/\p.2<=q.2:=by
 induction h with
 |one a=>exact⟨by simp,by simp⟩
 |@cons a b K s h ih =>
  obtain⟨i1,i2⟩:=ih;refine⟨fun p hp=>?_,fun q hq p hp=>?_⟩
  ·have:=s.x;have:=s.y;rcases ko.mp hp with rfl|hp
   ·omega
   ·have:=i1 p hp;omega
  ·have s1:=s.x;have s2:=s.y
   cases K with
   |nil =>
    obtain rfl:b=q:=by simpa using hq
    rcases ko.mp hp with rfl|hp
    ·omega
    ·obtain rfl:p=b:=by simpa using hp
     omega
   |cons c K =>
    rw[List.getLast?_cons_cons]at hq;have j:=i2 q hq;rcases ko.mp hp with rfl|hp
    ·have:=j b (by simp);omega
    ·exact j p hp
def ze(p:Pr):Prop:=(0<=p.1/\p.1<=1000)/\(0<=p.2/\p.2<=1000)
theorem Wp{p:Pr}(h:ze p):o8 (qk p):=⟨CJ ⟨by have:=h.1;omega,by have:=h.1;omega⟩,CJ ⟨by have:=h.2;omega,by have:=h.2;omega⟩⟩
def QS(a b:Pr):Rat:=((b.2-a.2:Int):Rat)/((b.1-a.1:Int):Rat)
theorem Wq{a b:Pr}(ha:ze a)(hb:ze b)(hx:a.1<b.1):rU (qk a) (qk b)=some (QS a b):=by
 obtain⟨⟨a1,a2⟩,a3,a4⟩:=ha;obtain⟨⟨b1,b2⟩,b3,b4⟩:=hb;unfold rU qk;simp only;rw[U5 ⟨by omega,by omega⟩ ⟨by omega,by omega⟩,U5 ⟨by omega,by omega⟩ ⟨by omega,by omega⟩]
 simp only[Option.bind_some];exact amM ⟨by omega,by omega⟩ ⟨by omega,by omega⟩ (by omega)
theorem apt{l:iD}{A:List Int}{a:Pr}{K:List Pr}(h:Kn l A a K):(∀ p∈a::K,ze p)->xW false ((a::K).map qk)=some false:=by
 induction h with
 |one a=>intro _;rfl
 |@cons a b K s h ih =>
  intro hp;have i:=ih fun p h=>hp p (Du _ h);rw[List.map_cons]at i;rw[List.map_cons,List.map_cons,xW]
  have hi:rV (qk a) (qk b)=true:=by
   have h1:(qk a).1<(qk b).1:=Rat.intCast_lt_intCast.mpr s.x;have h2:(qk a).2<(qk b).2:=Rat.intCast_lt_intCast.mpr s.y;unfold rV;rw[decide_eq_true h1,decide_eq_true h2];rfl
  rw[hi,if_pos rfl,Wq (hp a (by simp)) (hp b (by simp)) s.x]
  exact i
theorem Jj{l:iD}(ok:lS l){r:Pr}(hr:Run l r){xs:List Stp}{e:Int}(h:Ch l 0 l.D xs e){a:Pr}{K:List Pr}{y1:Int}(m:Qd l r xs a K y1):∀ p∈a::K,ze p:=by
 obtain⟨h1,h2⟩:=aps m.kn;have h3:=h2 _ m.last;have hD:=ok.D;have hL:=ok.L;have ht:=m.top;have hl:=h.Lb ok.E.1;have hd:=h.dl hD.1 (pW _);have hx:=m.x0;have hy:=m.y0;have hlo:=hr.lo;have hhi:=hr.hi
 have htop:y1<=720:=by
  unfold nZ at ht;rw[jm,vT]at ht;omega
 intro p hp;have h4:=h3 p hp;simp only at h4;rcases ko.mp hp with rfl|hp
 ·exact⟨⟨by omega,by omega⟩,by omega,by omega⟩
 ·have:=h1 p hp;exact⟨⟨by omega,by omega⟩,by omega,by omega⟩
theorem ad5{l:iD}(ok:lS l){r:Pr}(hr:Run l r){xs:List Stp}{e:Int}(h:Ch l 0 l.D xs e){a:Pr}{K:List Pr}{y1:Int}(m:Qd l r xs a K y1):pK ((a::K).map qk)=true:=by
 unfold pK;have:=m.len;rw[apt m.kn (Jj ok hr h m),List.length_map,List.length_cons,decide_eq_true (by omega),decide_eq_true (by omega)]
 rfl
theorem Jk(z:Nat)(es:List AV)(h:Heap):Sl h z (jC z es) es:=Sl.jC h z es
theorem apu{x:LV}(o:okV x)(ok:lS x.l){k:Int}(hk:k<0\/(kG x.l).length<=k)(h:Heap)(lo:Nat):(run lib).fn 26 [nA x,.int .i64 k] h lo=some (.tuple [.agg [.aW 0 []],.int .i64 200],h):=by
 have e:=fun H lo=>QI o ok H lo;have ll:=iB (Jk 2 (pts (kG x.l)) h).len;rw[Bw]at ll;unfold nA at e⊢;rw[bW (x:=Hu) rfl rfl rfl rfl];by_cases c:k<0
 ·simp(maxSteps:=30000000)(disch:=omega)only[go_sem,Hu,e,c]
 ·have c2:(kG x.l).length<=k:=by omega
  simp(maxSteps:=30000000)(disch:=omega)only[go_sem,Hu,e,c,ll,c2]
theorem ad7{x:LV}(o:okV x)(ok:lS x.l){xs:List Stp}{e:Int}(hc:Ch x.l 0 x.l.D xs e){k:Nat}(hk:k<(kG x.l).length)(h:Heap)(lo:Nat) :
  (run lib).fn 26 [nA x,.int .i64 k] h lo=some (.tuple [.agg [.aW 4 (gF (rQ (kG x.l)[k] xs))],.int .i64 0],h):=by
 have er:=fun H lo=>QI o ok H lo;have dc:=fun H lo=>QE x H lo;have hrn:=acv ok (l9 hk);obtain⟨a,K,y1,m⟩:=map_ok ok hrn hc;have hmv:=ad5 ok hrn hc m;have hmp:=Jj ok hrn hc m;obtain⟨pre,ys,dd,hxs,k1,_,k3,_⟩:=acz ok hrn hc
 have hQ:∀ X∈xs,X.to<=(kG x.l)[k].1\/(kG x.l)[k].1<=X.fr:=fun X hX=>by
  rw[hxs]at hX;rcases lX.mp hX with h|h
  ·exact .inl (k3 X h).2
  ·exact .inr (k1.fr ok.E.1 X h).1
 have sl:=Jk 2 (pts (kG x.l));have ll:=iB (sl h).len;rw[Bw]at ll;have e3:iM 2 (jC 2 (pts (kG x.l))) (.int .i64 k)=some k:=by rw[kr (sl h) (by omega) (by simp;omega)];simp
 have e4:=fun off H=>jV (off:=off) (sl H).jW (show k<(pts (kG x.l)).length by simp;exact hk)
 simp only[FO,pt]at e4;have hk2:(k:Int)<((kG x.l).length:Int):=by omega
 generalize (kG x.l)[k]=r at*;obtain⟨r1,r2⟩:=r;simp only at e4;have hlen:∀ st,(Ji h x (r1,r2) st).length=h.length+8:=fun st=>by simp[Ji]
 obtain⟨_,g2⟩:=adK (Q:=fun X=>X.to<=r1\/r1<=X.fr) (id:=h.length+0) (iv:=1) (H:=Ji h x (r1,r2)) (nb:=h.length+8) (lo:=h.length) (step:=CW (r1,r2)) (Iv:=QR (r1,r2)) o ok hlen (by omega) (fun st X hX hq hi=>apr hrn.lt st X hX hq hi) (fun st X fr hX hq hi=>apo (x:=x) h (r1,r2) hrn.lt st X fr hX hi) hc hQ (false,[],0,.dead) ⟨fun hh=>by have:=hrn.lo;simp only at this hh;omega,by simp,by omega⟩
 obtain⟨st,hst⟩:∃ st,st=xs.foldl (CW (r1,r2)) (false,[],0,.dead):=⟨_,rfl⟩;have hs1:=apq (r1,r2) xs (false,[],0,.dead);rw[<-hst]at g2 hs1;have hs2:st.2.1=rQ (r1,r2) xs:=by unfold rQ;rw[<-hs1]
 obtain⟨f,K',vb⟩:=st;simp only at hs2;subst hs2;have hq:gF (rQ (r1,r2) xs)=dN ((a::K).map qk):=by rw[m.eq];rfl
 have hne:gF (rQ (r1,r2) xs)≠[]:=by rw[hq];simp[dN]
 have g3:=Bb (L:=lib) (lo:=h.length) (ns:=8) (s:=0) (g:=3) (it:=89) (v:=0) (caps:=[wS x]) (env:=Jh h x) (h:=h) (b:=.dead)
  (fr:=[(0,.dead),(0,.dead),(0,.dead),(0,.dead),(1,.box [.bool false]),(1,.box [.aP]),(1,.box [.int .i64 r1,.int .i64 r2]),(1,.box [.aP])])
  (fr':=[(1,.ax (Wo h x) .ready),vb,(0,.dead),bX (0,.dead) 4 (gF (rQ (r1,r2) xs)),(1,.box [.bool f]),(1,.box [cu (h.length+3) (0,.dead) 4 (gF (rQ (r1,r2) xs))]),(1,.box [.int .i64 r1,.int .i64 r2]),(1,.box [.aP])])
  (f:=.t 35) rfl (by omega) rfl g2 rfl
 have pv:=fun fr (hfr:fr[3]?=some (bX (0,.dead) 4 (gF (rQ (r1,r2) xs)))) lo=>by
  have s1:=Sl.acc (h:=h) (fr:=fr) (s:=3) (z:=4) (b0:=(0,.dead)) (es:=gF (rQ (r1,r2) xs)) hfr;rw[hq]at s1;exact MO s1 (by have:=m.len;simp;omega) (fun b hb=>by obtain⟨p,hp,rfl⟩:=List.mem_map.mp hb;exact Wp (hmp p hp)) lo
 rw[<-hq,hmv]at pv;have pv:=fun lo=>pv [(1+0,.dead),vb,(0,.dead),bX (0,.dead) 4 (gF (rQ (r1,r2) xs)),(1,.box [.bool f]),(1,.box [cu (h.length+3) (0,.dead) 4 (gF (rQ (r1,r2) xs))]),(1,.box [.int .i64 r1,.int .i64 r2]),(1,.box [.aP])] rfl lo;have fz:=fun kk m=>Te (h:=h) (s:=3) (z:=4) (k:=kk) (b0:=(0,.dead)) (es:=gF (rQ (r1,r2) xs)) (fr:=[(1+0,.dead),vb,(0,.dead),bX (0,.dead) 4 (gF (rQ (r1,r2) xs)),(1,.box [.bool f]),(1,.box [cu (h.length+3) (0,.dead) 4 (gF (rQ (r1,r2) xs))]),(1,.box [.int .i64 r1,.int .i64 r2]),(1,.box [m])]) rfl;rw[show jC 4 (gF (rQ (r1,r2) xs))=.aW 4 (gF (rQ (r1,r2) xs))from if_neg hne]at fz
 simp only[Jh,List.set_cons_zero]at g3;unfold nA at er dc⊢;rw[bW (x:=Hu) rfl rfl rfl rfl];have hk3:¬ (k:Int)<0:=by omega
 have hk4:¬ ((kG x.l).length:Int)<=(k:Int):=by omega
 simp(maxSteps:=30000000)(disch:=omega)only[go_sem,Hu,er,dc,ll,hk2,hk3,hk4,e3,e4,g3,pv,fz,tT,Ct]
end Go.VI.Dump
