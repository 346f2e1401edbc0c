/- What the functions on integers compute, part MV. -/
import Derived.Test.YtfpoegnmeoghpaaGreatDoorDumpMB
import Derived.Test.YtfpoegnmeoghpaaGreatDoorDumpMU
import Derived.Test.YtfpoegnmeoghpaaGreatDoorDumpMA
set_option linter.unusedVariables false
set_option linter.unusedSimpArgs false
namespace Go.VI.Dump
open Go.VI.Num
theorem XU{x y:Bool}(h:(x&&y)=true):x=true/\y=true:=by simpa using h
theorem JE{a b q:Rat}(h:sK a b=some q):q=a-b/\jW q:=by
 unfold sK at h;split at h
 ·rename_i c;obtain⟨c,c4⟩:=XU c;obtain⟨c,c3⟩:=XU c;cases h;refine⟨rfl, ?_⟩;rw[<-VH];exact aeF (Xc a b) (of_decide_eq_true c3) (of_decide_eq_true c4)
 ·cases h
end Go.VI.Dump
namespace Go.VI.Dump
open Go.VI.Num
/- BIGSTEPS -/
theorem XV{h:Heap}{id:Nat}(hid:h[id]?=some gy)(f:AV)(a b c d:List UInt8){lo:Nat}(hlo:lo<=id):(run lib).fn 118 [.aJ id 1 0,f,bU a b,bU c d] h lo=some (bU [] [],h):=by
 have hl:id<h.length:=(bO.mp hid).1;have p0:=fun fr=>wo (H:=h++fr) (jB hid);have nk:rQ (.aJ id 1 0)=some (.aJ id 1 0):=rfl;unfold bU;rw[iP (x:=Ab) rfl rfl rfl rfl (by omega)]
 simp(maxSteps:=30000000)(disch:=omega)only[go_sem,Ab,p0,nk,o7]
theorem XW{h:Heap}{id:Nat}(hid:h[id]?=some okB){g:Nat}(hg0:[42,119,120,121,133].contains g=true){a b c d s t:List UInt8}(hg:∀ H lo,(run lib).fn g [bU a b,bU c d] H lo=some (.tuple [bU s t,.int .i64 0],H)){lo:Nat}(hlo:lo<=id) :
  (run lib).fn 118 [.aJ id 1 0,.fn g [],bU a b,bU c d] h lo=some (bU s t,h):=by
 have hl:id<h.length:=(bO.mp hid).1
 have hg1:g<1000:=by
  simp only[List.contains_cons,List.contains_nil,Bool.or_false,kN,beq_iff_eq]at hg0;omega
 have p0:=fun fr=>wo (H:=h++fr) (jB hid);have s0:=fun(fr:Heap) b=>Fz (H:=h++fr) (id:=id) (base:=h.length) (lo:=lo) (ns:=2) (a:=false) (b:=b) (jB hid) hlo none;have st:∀(fr:Heap),(h++fr).set id okB=h++fr:=fun fr=>by rw[H9 _ hid,WV hid]
 have nk:rQ (.aJ id 1 0)=some (.aJ id 1 0):=rfl;unfold bU at hg⊢;rw[iP (x:=Ab) rfl rfl rfl rfl (by omega)]
 simp(maxSteps:=30000000)(disch:=omega)only[go_sem,Ab,p0,s0,st,nk,hg,hg0,hg1,List.cons_append,List.nil_append,o7]
theorem XY{h:Heap}{id:Nat}(hid:h[id]?=some okB){g:Nat}(hg0:[42,119,120,121,133].contains g=true){a b c d s t:List UInt8}{e:Int}(he:e≠0)(hg:∀ H lo,(run lib).fn g [bU a b,bU c d] H lo=some (.tuple [bU s t,.int .i64 e],H)){lo:Nat}(hlo:lo<=id) :
  (run lib).fn 118 [.aJ id 1 0,.fn g [],bU a b,bU c d] h lo=some (bU s t,h.set id gy):=by
 have hl:id<h.length:=(bO.mp hid).1
 have hg1:g<1000:=by
  simp only[List.contains_cons,List.contains_nil,Bool.or_false,kN,beq_iff_eq]at hg0;omega
 have p0:=fun fr=>wo (H:=h++fr) (jB hid);have s0:=fun(fr:Heap) b=>Fz (H:=h++fr) (id:=id) (base:=h.length) (lo:=lo) (ns:=2) (a:=false) (b:=b) (jB hid) hlo none;have st:∀(fr:Heap),(h++fr).set id gy=h.set id gy++fr:=fun fr=>H9 _ hid
 have tk:∀(fr:Heap),(h.set id gy++fr).take h.length=h.set id gy:=fun fr=>by
  have:=o7 (l₁:=h.set id gy) (l₂:=fr);rwa [qJ]at this
 have nk:rQ (.aJ id 1 0)=some (.aJ id 1 0):=rfl;unfold bU at hg⊢;rw[iP (x:=Ab) rfl rfl rfl rfl (by omega)]
 have hn:(h.set id gy).length=h.length:=qJ ..;simp(maxSteps:=30000000)(disch:=omega)only[go_sem,Ab,p0,s0,st,nk,hg,hg0,hg1,List.cons_append,List.nil_append,tk,he,lZ,mH]
def wF(a b:Rat×Rat):Option Rat:=(sK b.2 a.2).bind fun y=>(sK b.1 a.1).bind fun x=>Ak y x
def gH(a:Rat×Rat):AV:=.agg [.str (aO a.1.num),.str (aO (a.1.den:Int)),.str (aO a.2.num),.str (aO (a.2.den:Int))]
structure wG(a:Rat×Rat):Prop where
 x:jW a.1
 y:jW a.2
theorem FN(q:Rat):rt q=bU (aO q.num) (aO (q.den:Int)):=rfl
section
variable {h:Heap}{id lo:Nat}
theorem JF(hid:h[id]?=some okB)(hlo:lo<=id){a b q:Rat}(ha:jW a)(hb:jW b)(hq:sK a b=some q):(run lib).fn 118 [.aJ id 1 0,.fn 119 [],rt a,rt b] h lo=some (rt q,h) :=
 XW hid (by decide) (fun H lo=>by have:=Xi ha hb H lo;rw[hq]at this;exact this) hlo
theorem XZ(hid:h[id]?=some okB)(hlo:lo<=id){a b:Rat}(ha:jW a)(hb:jW b)(hq:sK a b=none):(run lib).fn 118 [.aJ id 1 0,.fn 119 [],rt a,rt b] h lo=some (bU [] [],h.set id gy) :=
 XY (e:=40) hid (by decide) (by decide) (fun H lo=>by have:=Xi ha hb H lo;rw[hq]at this;exact this) hlo
theorem ahr(hid:h[id]?=some okB)(hlo:lo<=id){a b q:Rat}(ha:jW a)(hb:jW b)(hq:Ak a b=some q):(run lib).fn 118 [.aJ id 1 0,.fn 133 [],rt a,rt b] h lo=some (rt q,h) :=
 XW hid (by decide) (fun H lo=>by have:=Xh ha hb H lo;rw[hq]at this;exact this) hlo
theorem ahs(hid:h[id]?=some okB)(hlo:lo<=id){a b:Rat}(ha:jW a)(hb:jW b)(hq:Ak a b=none):(run lib).fn 118 [.aJ id 1 0,.fn 133 [],rt a,rt b] h lo=some (bU [] [],h.set id gy) :=
 XY (e:=40) hid (by decide) (by decide) (fun H lo=>by have:=Xh ha hb H lo;rw[hq]at this;exact this) hlo
end
theorem aht{h:Heap}{id:Nat}{b:Nat×av}(hid:h[id]?=some b)(c:Nat×av):(h.set id c)[id]?=some c:=lN (bO.mp hid).1
theorem ahu{h:Heap}{id:Nat}(hid:h[id]?=some gy)(a b:Rat×Rat){lo:Nat}(hlo:lo<=id):(run lib).fn 96 [.aJ id 1 0,gH a,gH b] h lo=some (bU [] [],h):=by
 have hl:id<h.length:=(bO.mp hid).1;have d:=fun fr f a b c d=>XV (h:=h++fr) (id:=id) (jB hid) f a b c d hlo;unfold bU at d⊢;unfold gH;rw[iP (x:=x96) rfl rfl rfl rfl (by omega)]
 simp(maxSteps:=30000000)(disch:=omega)only[go_sem,x96,d,jo,o7]
theorem ahv{h:Heap}{id:Nat}(hid:h[id]?=some okB){a b:Rat×Rat}(ha:wG a)(hb:wG b){q:Rat}(hq:wF a b=some q){lo:Nat}(hlo:lo<=id):(run lib).fn 96 [.aJ id 1 0,gH a,gH b] h lo=some (rt q,h):=by
 have hl:id<h.length:=(bO.mp hid).1;obtain⟨y,hy,hq⟩:=Option.bind_eq_some_iff.mp hq;obtain⟨x,hx,hq⟩:=Option.bind_eq_some_iff.mp hq;have d1:=fun fr=>JF (h:=h++fr) (id:=id) (jB hid) hlo hb.y ha.y hy;have d2:=fun fr=>JF (h:=h++fr) (id:=id) (jB hid) hlo hb.x ha.x hx;have d3:=fun fr=>ahr (h:=h++fr) (id:=id) (jB hid) hlo (JE hy).2 (JE hx).2 hq;simp only[FN,bU]at d1 d2 d3⊢;unfold gH;rw[iP (x:=x96) rfl rfl rfl rfl (by omega)]
 simp(maxSteps:=30000000)(disch:=omega)only[go_sem,x96,d1,d2,d3,jo,o7]
theorem ahw{h:Heap}{id:Nat}(hid:h[id]?=some okB){a b:Rat×Rat}(ha:wG a)(hb:wG b)(hq:wF a b=none){lo:Nat}(hlo:lo<=id):(run lib).fn 96 [.aJ id 1 0,gH a,gH b] h lo=some (bU [] [],h.set id gy):=by
 have hl:id<h.length:=(bO.mp hid).1;have hn:(h.set id gy).length=h.length:=qJ ..
 have tk:∀(fr:Heap),(h.set id gy++fr).take h.length=h.set id gy:=fun fr=>by
  have:=o7 (l₁:=h.set id gy) (l₂:=fr);rwa [qJ]at this
 have st:∀(fr:Heap),(h++fr).set id gy=h.set id gy++fr:=fun fr=>H9 _ hid;have bd:=fun fr f a b c d=>XV (h:=h.set id gy++fr) (id:=id) (jB (aht hid gy)) f a b c d hlo;unfold wF at hq
 cases hy:sK b.2 a.2 with
 |none =>
  have d1:=fun fr=>XZ (h:=h++fr) (id:=id) (jB hid) hlo hb.y ha.y hy;simp only[FN,bU]at d1 bd⊢;unfold gH;rw[iP (x:=x96) rfl rfl rfl rfl (by omega)]
  simp(maxSteps:=30000000)(disch:=omega)only[go_sem,x96,d1,bd,st,tk,lZ,mH,mW,nQ,jo]
 |some y =>
  have d1:=fun fr=>JF (h:=h++fr) (id:=id) (jB hid) hlo hb.y ha.y hy;rw[hy,Option.bind_some]at hq
  cases hx:sK b.1 a.1 with
  |none =>
   have d2:=fun fr=>XZ (h:=h++fr) (id:=id) (jB hid) hlo hb.x ha.x hx;simp only[FN,bU]at d1 d2 bd⊢;unfold gH;rw[iP (x:=x96) rfl rfl rfl rfl (by omega)]
   simp(maxSteps:=30000000)(disch:=omega)only[go_sem,x96,d1,d2,bd,st,tk,lZ,mH,mW,nQ,jo]
  |some x =>
   have d2:=fun fr=>JF (h:=h++fr) (id:=id) (jB hid) hlo hb.x ha.x hx;rw[hx,Option.bind_some]at hq;have d3:=fun fr=>ahs (h:=h++fr) (id:=id) (jB hid) hlo (JE hy).2 (JE hx).2 hq;simp only[FN,bU]at d1 d2 d3 bd⊢;unfold gH;rw[iP (x:=x96) rfl rfl rfl rfl (by omega)]
   simp(maxSteps:=30000000)(disch:=omega)only[go_sem,x96,d1,d2,d3,st,tk,lZ,mH,mW,nQ,jo]
end Go.VI.Dump
namespace Go.VI.Dump
open Go.VI.Num
/- BIGSTEPS -/
abbrev KQ:=Rat×Rat
def jL(l:List KQ):List AV:=l.map gH
@[simp] theorem FO (l:List KQ):(jL l).length=l.length:=by simp [jL]
theorem X0(l:List KQ)(k:Nat)(h:k<(jL l).length):(jL l)[k]=gH (l[k]'(by simpa using h)):=by simp[jL]
section
variable {σ:Type}{H:σ->Heap}{nb lo id iv:Nat}{step:σ->KQ->KQ->σ×Bool}{Iv:σ->Prop}
def pgo(step:σ->KQ->KQ->σ×Bool)(st:σ):List KQ->σ
 |a::b::r=>if (step st a b).2 then pgo step (step st a b).1 (b::r) else(step st a b).1
 |_=>st
theorem ahx{st:σ}{l:List KQ}{k:Nat}(h:k+1<l.length):pgo step st (l.drop k)=if (step st l[k] l[k+1]).2 then pgo step (step st l[k] l[k+1]).1 (l.drop (k+1)) else(step st l[k] l[k+1]).1:=by
 rw[gY (show k<l.length by omega),gY h,pgo]
theorem ahy{st:σ}{l:List KQ}{k:Nat}(h:l.length<=k+1):pgo step st (l.drop k)=st:=by
 rcases gJ k l.length with h1|h1
 ·rw[gY h1,kQ (by omega)];rfl
 ·rw[kQ h1];rfl
theorem ahz{v:AV}{l:List KQ}(hl:l.length<=9223372036854775807)(hv:∀ st,Sl (H st) 4 v (jL l))(hI:∀ st a b,a∈l->b∈l->Iv st->(step st a b).2=true->Iv (step st a b).1)
  (hy:∀ st a b,a∈l->b∈l->Iv st->fF (run lib) ⟨lo,nb,0,none⟩ id iv [gH a,gH b] (H st)=some (.bool (step st a b).2,H (step st a b).1)):∀(d k:Nat) (st:σ),k+d=l.length->0<k->Iv st ->
  ∃ e env,e≠Ex.exit 1/\(e=.exit 0\/e=.ret)/\aA lib ⟨lo,nb,0,none⟩ (.loop IC) ([(0,.cZ id iv),(1,.bD [v]),(3,.int .i64 k)],H st)=some (e,(env,H (pgo step st (l.drop (k-1))))):=by
 intro d
 induction d with
 |zero =>
  intro k st hk h0 hi;have lv:=bK (hv st).len;rw[FO]at lv;refine⟨.exit 0,[],by simp,.inl rfl, ?_⟩
  rw[ahy (by omega),aR]
  have c:¬ (k:Int)<l.length:=by omega
  simp(maxSteps:=30000000)(disch:=omega)only[go_sem,lv,c]
 |succ d ih =>
  intro k st hk h0 hi;obtain⟨j,rfl⟩:∃ j,k=j+1:=⟨k-1,by omega⟩
  have hk':j+1<l.length:=by omega
  have lv:=bK (hv st).len;rw[FO]at lv;have c:((j+1:Nat):Int)<l.length:=by omega
  have e3:bP 4 v (.int .i64 ((j+1:Nat):Int))=some (j+1):=by rw[dz (hv st) (by omega) (by simp;omega)];rfl
  have e4:=fun off=>dx (off:=off) (hv st).eO (show j+1<(jL l).length by simp;omega)
  have f3:bP 4 v (.int .i64 (((j+1:Nat):Int)-1))=some j:=by rw[dz (hv st) (by omega) (by simp;omega)];simp
  have f4:=fun off=>dx (off:=off) (hv st).eO (show j<(jL l).length by simp;omega)
  have y:=hy st l[j] l[j+1] (ja _) (ja _) hi;have i2:=hI st l[j] l[j+1] (ja _) (ja _) hi;rw[show j+1-1=j by omega,ahx hk']
  simp only[X0]at e4 f4
  cases hc:(step st l[j] l[j+1]).2 with
  |false =>
   rw[hc]at y;rw[if_neg (by simp)]
   simp only[gH]at e4 f4 y;refine⟨.ret,[],by simp,.inr rfl, ?_⟩
   rw[aR]
   simp(maxSteps:=30000000)(disch:=omega)only[go_sem,lv,c,e3,e4,f3,f4,y,jo]
  |true =>
   rw[hc]at y;rw[if_pos rfl];obtain⟨e,env,g1,g2,g3⟩:=ih (j+1+1) _ (by omega) (by omega) (i2 hc)
   rw[show j+1+1-1=j+1 by omega,dF]at g3
   simp only[gH]at e4 f4 y;refine⟨e,env,g1,g2, ?_⟩;rw[aR];simp(maxSteps:=30000000)(disch:=omega)only[go_sem,lv,c,e3,e4,f3,f4,y,jo,g3]
theorem ahA{v:AV}{l:List KQ}(hl:l.length<=9223372036854775807)(hv:∀ st,Sl (H st) 4 v (jL l))(hlen:∀ st,(H st).length=nb)(hlo:lo<=nb)(hI:∀ st a b,a∈l->b∈l->Iv st->(step st a b).2=true->Iv (step st a b).1)
  (hy:∀ st a b,a∈l->b∈l->Iv st->fF (run lib) ⟨lo,nb,0,none⟩ id iv [gH a,gH b] (H st)=some (.bool (step st a b).2,H (step st a b).1)) (st:σ) (hi:Iv st) :
  (run lib).fn 132 [.cZ id iv,.bD [v]] (H st) lo=some (.tuple [],H (pgo step st l)):=by
 have ho:=iP (L:=lib) (f:=132) (x:=BU) (args:=[.cZ id iv,.bD [v]]) (h:=H st) (lo:=lo) rfl rfl rfl rfl (by rw[hlen];exact hlo)
 have hr:List.replicate BU.ns (0,av.dead)=[]:=rfl;have tk:∀ s,(H s).take (H st).length=H s:=fun s=>by rw[hlen st,<-hlen s,kP]
 rw[ho,hr,gP,hlen];rcases oN l.length with h0|h0
 ·have lv:=bK (hv st).len;rw[FO,h0]at lv;have hp:pgo step st l=st:=by rw[kZ h0];rfl
  have e:aA lib ⟨lo,nb,0,none⟩ (.loop IC) ([(0,.cZ id iv),(1,.bD [v]),(3,.int .i64 1)],H st)=some (.exit 0,([],H st)):=by
   rw[aR];simp(maxSteps:=30000000)(disch:=omega)only[go_sem,lv]
  rw[hp];simp(maxSteps:=30000000)(disch:=omega)only[go_sem,BU,e,tk]
 ·obtain⟨e,env,g1,g2,g3⟩:=ahz hl hv hI hy (l.length-1) 1 st (by omega) (by omega) hi
  have c1:((1:Nat):Int)=1:=rfl;rw[c1,Nat.sub_self,List.drop_zero]at g3;rcases g2 with rfl|rfl
  ·simp(maxSteps:=30000000)(disch:=omega)only[go_sem,BU,g3,tk]
  ·simp(maxSteps:=30000000)(disch:=omega)only[go_sem,BU,g3,tk]
theorem ahB{v v':AV}(h:Heap)(k1:v.val=true)(k2:∀ b k H,aU b k v H=some (v',H))(k3:v'.cells=[v'])(lo:Nat):(run lib).fn 95 [v] h lo=some (.fn 132 [.bD [v']],h):=by
 rw[aY (x:=x95) rfl rfl rfl rfl];simp(maxSteps:=30000000)(disch:=omega)only[go_sem,x95,k1,k2,k3]
end
end Go.VI.Dump
namespace Go.VI.Dump
open Go.VI.Num
/- BIGSTEPS -/
theorem ahC{h:Heap}{v:AV}{l:List KQ}(hv:Sl h 4 v (jL l))(hl:l.length<=9223372036854775807){g:Nat}(hg:g<1000){caps:List AV}{p:KQ->Bool}
  (hF:∀ x∈l,∀ lo,(run lib).fn g (gH x::caps) h lo=some (.bool (p x),h)) (lo:Nat):∀(d k:Nat),k+d=l.length ->
  aA lib ⟨lo,h.length,0,none⟩ (.loop M6) ([(0,v),(1,.fn g caps),(7,.int .i64 l.length),(8,.int .i64 k)],h) =
   match rD l p k with|some r=>some (.ret,([(4,.int .i64 r)],h))|none=>some (.exit 0,([],h)):=by
 intro d
 induction d with
 |zero =>
  intro k hk;obtain rfl:k=l.length:=by omega
  rw[Xw,aR]
  simp(maxSteps:=30000000)(disch:=omega)only[go_sem,dU]
 |succ d ih =>
  intro k hk;have hk':k<l.length:=by omega
  have h1:(k:Int)<l.length:=by omega
  have e3:bP 4 v (.int .i64 k)=some k:=by rw[dz hv (by omega) (by simp;omega)];simp
  have e4:=fun off=>dx (off:=off) hv.eO (show k<(jL l).length by simp;omega)
  simp only[X0,gH]at e4;have f:=fun lo=>hF l[k] (ja _) lo;simp only[gH]at f
  cases hp:p l[k] with
  |true =>
   rw[Xx hk' hp,aR];rw[hp]at f
   simp(maxSteps:=30000000)(disch:=omega)only[go_sem,h1,e3,e4,f,hg,List.cons_append,List.nil_append]
  |false =>
   rw[Xy hk' hp,aR];rw[hp]at f;have e:=ih (k+1) (by omega)
   rw[dF]at e;simp(maxSteps:=30000000)(disch:=omega)only[go_sem,h1,e3,e4,f,hg,List.cons_append,List.nil_append,e]
theorem ahD{h:Heap}{v:AV}{l:List KQ}(hv:Sl h 4 v (jL l))(hl:l.length<=9223372036854775807){g:Nat}(hg:g<1000){caps:List AV}{p:KQ->Bool}
  (hF:∀ x∈l,∀ lo,(run lib).fn g (gH x::caps) h lo=some (.bool (p x),h)) (lo:Nat):(run lib).fn 116 [v,.fn g caps] h lo=some (.int .i64 (CJ l p),h):=by
 have e:=ahC hv hl hg hF h.length l.length 0 (by omega)
 have ll:=bK hv.len;rw[FO]at ll;unfold CJ;simp only[fH]at e;rw[aY (x:=IA) rfl rfl rfl rfl]
 cases hr:rD l p 0 with
 |none=>rw[hr]at e;simp(maxSteps:=30000000)(disch:=omega)only[go_sem,IA,ll,e]
 |some r=>rw[hr]at e;simp(maxSteps:=30000000)(disch:=omega)only[go_sem,IA,ll,e]
theorem ahE{h:Heap}{v:AV}{l:List KQ}(hv:Sl h 4 v (jL l))(hl:l.length<=9223372036854775807){g:Nat}(hg:g<1000){caps:List AV}{p:KQ->Bool}
  (hF:∀ x∈l,∀ lo,(run lib).fn g (gH x::caps) h lo=some (.bool (p x),h)) (lo:Nat):(run lib).fn 94 [v,.fn g caps] h lo=some (.bool (l.any p),h):=by
 have e:=fun lo=>ahD hv hl hg hF lo;have hn:=Xz (l:=l) (p:=p);rw[<-hn];rw[aY (x:=MQ) rfl rfl rfl rfl];simp(maxSteps:=30000000)(disch:=omega)only[go_sem,MQ,e]
theorem X3{q:Rat}(h:jW q):lU (aO q.num) (aO (q.den:Int))=true:=Aj h
theorem ahF{a:KQ}(ha:wG a)(h:Heap)(lo:Nat):(run lib).fn 93 [gH a] h lo=some (.bool false,h):=by
 have e1:=fun H lo=>Fy (aO a.1.num) (aO (a.1.den:Int)) H lo;have e2:=fun H lo=>Fy (aO a.2.num) (aO (a.2.den:Int)) H lo;rw[X3 ha.x]at e1;rw[X3 ha.y]at e2;simp only[bU]at e1 e2;unfold gH;rw[aY (x:=x93) rfl rfl rfl rfl];simp(maxSteps:=30000000)(disch:=omega)only[go_sem,x93,e1,e2]
structure WS where
 rs:RS
 bad:Bool
 b1:Nat×av
 b2:Nat×av
 res:Bool
def l5(a:KQ):List AV:=[.str (aO a.1.num),.str (aO (a.1.den:Int)),.str (aO a.2.num),.str (aO (a.2.den:Int))]
def zk(h:Heap)(v:AV):Env:=[(2,.aJ (h.length+4) 1 0),(4,.aJ (h.length+3) 1 0),(23,.fn 132 [.bD [v]])]
def JG(h:Heap)(v:AV):bQ:=⟨5,h.length,h.length,5,zk h v⟩
def CZ(h:Heap)(v:AV)(st:WS):Heap:=h++[(1,.ay (JG h v) st.rs),st.b1,st.b2,(1,.box [.bool st.bad]),(1,.box [.bool st.res])]
def qo(a b:KQ):Bool:=decide (a.1<b.1)&&decide (a.2<b.2)
def mY(st:WS)(a b:KQ):WS×Bool :=
 (⟨if qo a b then .ready else .done .ret,if qo a b then st.bad||(wF a b).isNone else st.bad,(st.b1.1+1,.box (l5 b)),(st.b2.1+1,.box (l5 a)),if qo a b then st.res else false⟩,qo a b)
theorem X4(a b:Rat):decide (0<=lV a b)=!decide (a<b):=by
 rcases aeJ a b with⟨e,l⟩|⟨e,l⟩|⟨e,l⟩
 ·rw[e,decide_eq_true l];rfl
 ·rw[e,l,show decide (b<b)=false from decide_eq_false Rat.lt_irrefl];rfl
 ·rw[e,show decide (a<b)=false from decide_eq_false (by grind)];rfl
theorem ahG{h:Heap}{v:AV}(st:WS)(hr:st.rs=.ready){a b:KQ}(ha:wG a)(hb:wG b) :
  fF (run lib) ⟨h.length,h.length+5,0,none⟩ (h.length+0) 1 [gH a,gH b] (CZ h v st)=some (.bool (mY st a b).2,CZ h v (mY st a b).1):=by
 obtain⟨rs,bad,⟨v1,c1⟩,⟨v2,c2⟩,res⟩:=st;simp only at hr;subst hr;obtain⟨D,hD⟩:∃ D:bQ,D=JG h v:=⟨_,rfl⟩;simp only[CZ,mY,<-hD]
 have ha1:aA lib ⟨h.length,h.length,5,some (h.length+0,1)⟩ r5.fZ ((r5.ps.zip [gH a,gH b]).foldl (fun e p=>e.set p.1 p.2) (zk h v),h++[(1,.ay D .ready),(v1,c1),(v2,c2),(1,.box [.bool bad]),(1,.box [.bool res])]) =
   some (.norm,([(2,.aJ (h.length+4) 1 0),(4,.aJ (h.length+3) 1 0),(5,.aJ (h.length+2) (v2+1) 0),(6,.aJ (h.length+1) (v1+1) 0)],h++[(1,.ay D .ready),(v1+1,.box (l5 b)),(v2+1,.box (l5 a)),(1,.box [.bool bad]),(1,.box [.bool res])])):=by
  have em:∀ fr:Heap,bV ⟨h.length,h.length,5,some (h.length+0,1)⟩ 2 (.box [.str [],.str [],.str [],.str []]) (h++fr)=xu 2 5 (.box [.str [],.str [],.str [],.str []]) h fr fr[2]?:=fun fr=>uU (by rfl)
  have em1:∀ fr:Heap,bV ⟨h.length,h.length,5,some (h.length+0,1)⟩ 1 (.box [.str [],.str [],.str [],.str []]) (h++fr)=xu 1 5 (.box [.str [],.str [],.str [],.str []]) h fr fr[1]?:=fun fr=>uU (by rfl)
  have es:=fun(fr:Heap) s aj (k:KQ)=>oz (lo:=h.length) (ns:=5) (sz:=4) (s:=s) (aj:=aj) (off:=0) (h:=h) (fr:=fr) (v:=gH k) (p:=(h.length+0,1)) (aV _) (by rfl)
  simp only[gH]at es⊢;simp(maxSteps:=30000000)(disch:=omega)only[go_sem,r5,zk,l5,em,em1,es,List.zip_cons_cons,vX,List.foldl_cons,nN]
 have q1:=fun H lo=>Xj ha.x hb.x H lo;have q2:=fun H lo=>Xj ha.y hb.y H lo;simp only[rt,bU]at q1 q2
 have hb1:∃ gB,aA lib ⟨h.length,h.length,5,some (h.length+0,1)⟩ r5.body ([(2,.aJ (h.length+4) 1 0),(4,.aJ (h.length+3) 1 0),(5,.aJ (h.length+2) (v2+1) 0),(6,.aJ (h.length+1) (v1+1) 0)],(h++[(1,av.ay D .ready),(v1+1,av.box (l5 b)),(v2+1,av.box (l5 a)),(1,av.box [.bool bad]),(1,av.box [.bool res])]).set (h.length+0) (1,.ay D .busy)) =
   some (if qo a b then .norm else .ret,(gB,h++[(1,.ay D .busy),(v1+1,.box (l5 b)),(v2+1,.box (l5 a)),(1,.box [.bool (if qo a b then bad||(wF a b).isNone else bad)]),(1,.box [.bool (if qo a b then res else false)])])):=by
  refine⟨[], ?_⟩;rw[eB,List.set_cons_zero];have pb:=fun(fr:Heap) x=>oz (lo:=h.length) (ns:=5) (sz:=1) (s:=4) (aj:=1) (off:=0) (h:=h) (fr:=fr) (v:=.bool x) (p:=(h.length+0,1)) (aV _) (by rfl)
  have n1:=X4 a.1 b.1;have n2:=X4 a.2 b.2;unfold qo;by_cases c1:a.1<b.1
  ·have m1:¬ 0<=lV a.1 b.1:=by rw[decide_eq_true c1]at n1;simpa using n1
   by_cases c2:a.2<b.2
   ·have m2:¬ 0<=lV a.2 b.2:=by rw[decide_eq_true c2]at n2;simpa using n2
    simp only[c1,c2,decide_true,Bool.and_self,if_true]
    cases bad with
    |true =>
     have sp:=ahu (h:=h++[(1,.ay D .busy),(v1+1,.box (l5 b)),(v2+1,.box (l5 a)),gy,(1,.box [.bool res])]) (id:=h.length+3) (by rw[bH];rfl) a b (lo:=h.length) (by omega)
     simp only[gH,l5,bU,gy]at sp⊢
     simp(maxSteps:=30000000)(disch:=omega)only[go_sem,r5,q1,q2,m1,m2,sp]
    |false =>
     cases hs:wF a b with
     |some q =>
      have sp:=ahv (h:=h++[(1,.ay D .busy),(v1+1,.box (l5 b)),(v2+1,.box (l5 a)),okB,(1,.box [.bool res])]) (id:=h.length+3) (by rw[bH];rfl) ha hb hs (lo:=h.length) (by omega)
      simp only[gH,l5,FN,bU,okB]at sp⊢
      simp(maxSteps:=30000000)(disch:=omega)only[go_sem,r5,q1,q2,m1,m2,sp,Option.isNone_some]
     |none =>
      have sp:=ahw (h:=h++[(1,.ay D .busy),(v1+1,.box (l5 b)),(v2+1,.box (l5 a)),okB,(1,.box [.bool res])]) (id:=h.length+3) (by rw[bH];rfl) ha hb hs (lo:=h.length) (by omega)
      rw[eB]at sp;simp only[gH,l5,bU,okB,gy,List.set_cons_succ,List.set_cons_zero]at sp⊢;simp(maxSteps:=30000000)(disch:=omega)only[go_sem,r5,q1,q2,m1,m2,sp,Option.isNone_none]
   ·have m2:0<=lV a.2 b.2:=by rw[decide_eq_false c2]at n2;simpa using n2
    simp only[c1,c2,decide_true,decide_false,qZ,if_false,fJ];simp only[l5];simp(maxSteps:=30000000)(disch:=omega)only[go_sem,r5,q1,q2,m1,m2,pb]
  ·have m1:0<=lV a.1 b.1:=by rw[decide_eq_false c1]at n1;simpa using n1
   simp only[c1,decide_false,qp,if_false,fJ];simp only[l5];simp(maxSteps:=30000000)(disch:=omega)only[go_sem,r5,q1,m1,pb]
 obtain⟨gB,hb2⟩:=hb1;have hg:(h++[(1,av.ay D .ready),(v1,c1),(v2,c2),(1,av.box [.bool bad]),(1,av.box [.bool res])])[h.length+0]?=some (1,.ay ⟨5,h.length,h.length,5,zk h v⟩ .ready):=by rw[bH,hD];rfl
 have:=uI (L:=lib) (cx:=⟨h.length,h.length+5,0,none⟩) hg (aV _) (by omega) (aV _) (by simp[gH,AV.jw,AV.closed]) (x:=r5) rfl rfl ha1 (by rw[bH];rfl) hb2 (by rw[bH];rfl)
 rw[this,eB];cases qo a b<;>rfl
def AP:Bool->List KQ->Option Bool
 |bad,a::b::r=>if qo a b then AP (bad||(wF a b).isNone) (b::r)else none
 |bad,_=>some bad
def FP(l:List KQ):Bool:=decide (2<=l.length)&&(decide (l.length<=24)&&(AP false l==some false))
theorem X5:∀(l:List KQ) (st:WS),st.rs=.ready->(match AP st.bad l with
  |some bad=>(pgo mY st l).rs=.ready/\(pgo mY st l).bad=bad
  |none=>(pgo mY st l).rs=.done .ret/\(pgo mY st l).res=false)
 |[],st,h=>⟨h,rfl⟩
 |[a],st,h=>⟨h,rfl⟩
 |a::b::r,st,h=>by
  rw[AP,pgo];cases hc:qo a b
  ·have e:(mY st a b).2=false:=hc;rw[e];simp only[fJ,if_false];exact⟨by simp[mY,hc],by simp[mY,hc]⟩
  ·have e:(mY st a b).2=true:=hc;rw[e];simp only[if_true];have i:=X5 (b::r) (mY st a b).1 (by simp[mY,hc])
   have eb:(mY st a b).1.bad=(st.bad||(wF a b).isNone):=by simp[mY,hc]
   rw[eb]at i;exact i
theorem ahI{z:Nat}{v:AV}{es:List AV}(p:bG z v es):v.val=true/\v.cells=[v]/\∃ f z',(z'=z\/es=[])/\∀ b k h,aU b k v h=some (mG f z' es,h):=by
 rcases p with⟨rfl,rfl⟩|⟨z',rfl|rfl,hz⟩
 ·exact⟨rfl,rfl,false,0,.inr rfl,fun b k h=>by simp[aU,mG]⟩
 ·exact⟨rfl,rfl,false,z',hz,fun b k h=>by simp[aU,mG]⟩
 ·exact⟨rfl,rfl,true,z',hz,fun b k h=>by simp[aU,mG]⟩
theorem ahJ{h:Heap}{v:AV}{l:List KQ}(hp:bG 4 v (jL l))(hl:l.length<=9223372036854775807)(hf:∀ a∈l,wG a)(lo:Nat):enter yI (aA lib) [.agg [v]] h lo=some (.bool (FP l),h):=by
 obtain⟨q1,q2,f,z,hz,q3⟩:=ahI hp;obtain⟨w,hw⟩:∃ w,w=mG f z (jL l):=⟨_,rfl⟩;have sl:∀ H,Sl H 4 w (jL l):=fun H=>by rw[hw];exact OU hz f H
 have w1:w.val=true:=by rw[hw];exact agE _ _ _
 have w2:w.cells=[w]:=by rw[hw];exact agF _ _ _
 have w3:∀ b k h,aU b k w h=some (w,h):=fun b k h=>by rw[hw];exact OT _ _ _ _ _ _
 have w4:w.closed=true:=by rw[hw];exact agG _ _ _
 rw[<-hw]at q3;clear hw;have ll:=bK (sl []).len;rw[FO]at ll;have cf:=fun H lo=>ahE (g:=93) (caps:=[]) (p:=fun _=>false) (sl H) hl (by decide) (fun a ha lo=>ahF (hf a ha) H lo) lo
 have ca:l.any (fun _=>false)=false:=by simp
 rw[ca]at cf;have pr:=fun H lo=>ahB (v:=w) (v':=w) H w1 w3 w2 lo;have hs1:∀ st:WS,(CZ h w st).length=h.length+5:=fun st=>by simp[CZ]
 have g:=ahA (id:=h.length+0) (iv:=1) (H:=CZ h w) (nb:=h.length+5) (lo:=h.length) (step:=mY) (Iv:=fun st=>st.rs=.ready) (v:=w) (l:=l) hl (fun st=>sl _) hs1 (by omega) (fun st a b _ _ hi hc=>by have:qo a b=true:=hc;simp[mY,this])
  (fun st a b h1 h2 hi=>ahG (h:=h) (v:=w) st hi (hf a h1) (hf b h2)) ⟨.ready,false,(0,.dead),(0,.dead),false⟩ rfl
 have hv:=X5 l ⟨.ready,false,(0,.dead),(0,.dead),false⟩ rfl;simp only at hv;rw[Ub rfl rfl];unfold FP;by_cases c1:2<=l.length
 ·by_cases c2:l.length<=24
  ·have k1:¬ (l.length:Int)<2:=by omega
   have k2:¬ 24<(l.length:Int):=by omega
   simp only[c1,c2,decide_true,nK];obtain⟨st,hst⟩:∃ st,st=pgo mY ⟨.ready,false,(0,.dead),(0,.dead),false⟩ l:=⟨_,rfl⟩;rw[<-hst]at g hv;obtain⟨rs,bad,B1,B2,res⟩:=st
   cases hg:AP false l with
   |some bd =>
    rw[hg]at hv;obtain⟨rfl,rfl⟩:=hv
    have g3:=vN (L:=lib) (lo:=h.length) (ns:=5) (s:=0) (g:=5) (it:=132) (v:=0) (caps:=[.bD [w]]) (env:=zk h w) (h:=h) (b:=.dead)
     (fr:=[(0,.dead),(0,.dead),(0,.dead),(1,.box [.bool false]),(1,.box [.bool false])])
     (fr':=[(1,.ay (JG h w) .ready),B1,B2,(1,.box [.bool bad]),(1,.box [.bool res])])
     (f:=.t 23) rfl (by omega) rfl g rfl
    simp only[zk,List.set_cons_zero]at g3;cases bad
    ·simp(maxSteps:=30000000)(disch:=omega)only[go_sem,yI,q3,ll,cf,pr,k1,k2,g3];rfl
    ·simp(maxSteps:=30000000)(disch:=omega)only[go_sem,yI,q3,ll,cf,pr,k1,k2,g3]
     rfl
   |none =>
    rw[hg]at hv;obtain⟨rfl,rfl⟩:=hv
    have g3:=NE (L:=lib) (lo:=h.length) (ns:=5) (s:=0) (g:=5) (it:=132) (v:=0) (caps:=[.bD [w]]) (env:=zk h w) (h:=h) (b:=.dead)
     (fr:=[(0,.dead),(0,.dead),(0,.dead),(1,.box [.bool false]),(1,.box [.bool false])])
     (fr':=[(1,.ay (JG h w) (.done .ret)),B1,B2,(1,.box [.bool bad]),(1,.box [.bool false])])
     (f:=.t 23) rfl (by omega) rfl g rfl
    simp only[zk,List.set_cons_zero]at g3;simp(maxSteps:=30000000)(disch:=omega)only[go_sem,yI,q3,ll,cf,pr,k1,k2,g3];rfl
  ·have k1:¬ (l.length:Int)<2:=by omega
   have k2:24<(l.length:Int):=by omega
   simp only[c1,c2,decide_true,decide_false,nK,qp];simp(maxSteps:=30000000)(disch:=omega)only[go_sem,yI,q3,ll,k1,k2]
 ·have k1:(l.length:Int)<2:=by omega
  simp only[c1,decide_false,qp];simp(maxSteps:=30000000)(disch:=omega)only[go_sem,yI,q3,ll,k1]
theorem ahK{h:Heap}{v:AV}{l:List KQ}(hv:Sl h 4 v (jL l))(hl:l.length<=9223372036854775807)(hf:∀ a∈l,wG a)(lo:Nat):(run lib).fn 58 [.agg [v]] h lo=some (.bool (FP l),h):=by
 obtain⟨v',h1,h2⟩:=adZ hv;refine adY (x:=yI) (vs:=[.agg [v']]) rfl rfl rfl ?_ (ahJ h2 hl hf 0) rfl;simp[qB,h1,view]
end Go.VI.Dump
namespace Go.VI
theorem ahL{lo ns:Nat}{p:Nat×Nat}(env:Env)(h fr:Heap)(s:Nat):dn.ok ⟨lo,h.length,ns,some p⟩ env (h++fr) (.kX s)=zV fr[s]?:=by
 simp only[dn.ok,bH];rfl
theorem tH(v z:Nat)(es:List AV):zV (some (aX (v,.dead) z es))=true:=by unfold aX;split<;>rfl
theorem X6{cx:Cx}{s t z lim:Nat}{h fr:Heap}{b0:Nat×av}{es xs:List AV}(hne:es≠[])(hlo:cx.lo<=h.length+t)(hb:fr[t]?=some (aX b0 z es))(hl:es.length+xs.length<=lim) :
  dP cx s z lim (bq (h.length+t) b0 z es) xs (h++fr)=some (bq (h.length+t) b0 z (es++xs),h++fr.set t (aX b0 z (es++xs))):=by
 rw[lq hne]at hb;rw[kF hne,kF (by simp[hne]),lq (by simp[hne]),xB (by rw[bH,hb]) hlo hl,eB,dZ]
theorem X7:(true==true)=true:=rfl
theorem X8:(false==false)=true:=rfl
theorem X9:(true==false)=false:=rfl
theorem Ya:(false==true)=false:=rfl
end Go.VI
namespace Go.VI.Dump
open Go.VI.Num
/- BIGSTEPS -/
def qk(p:Pr):KQ:=((p.1:Rat),(p.2:Rat))
def bZ(K:List Pr):List AV:=jL (K.map qk)
theorem tJ(K:List Pr)(p:Pr):bZ (K++[p])=bZ K++[.agg [.str (aO p.1),.str [49],.str (aO p.2),.str [49]]]:=by
 simp[bZ,jL,qk,gH,VJ]
theorem AQ(K:List Pr):(bZ K).length=K.length:=by simp[bZ]
theorem Yb{K:List Pr}:bZ K=[]↔K=[]:=by simp[bZ,jL]
theorem JH{z:Int}(h:z.natAbs<100000):Fit z:=by
 unfold Fit;exact qE h (kY (show 100000<=10^5 by decide) (uM (by decide) (by decide)))
theorem Yc(z:Int):vS z 1=some (z:Rat):=by
 unfold vS;rw[if_neg (by decide)]
 congr 1;rw[Rat.divInt_eq_div];grind
theorem Yd{z:Int}(hz:z.natAbs<100000)(h:Heap)(lo:Nat):(run lib).fn 39 [.int .i64 z,.int .i64 1] h lo=some (.tuple [.agg [.str (aO z),.str [49]],.int .i64 0],h):=by
 have:=afU (n:=z) (d:=1) (JH hz) (JH (by decide)) (by omega) (by decide) h lo
 rw[Yc]at this;exact this
theorem ahM{x y:Int}(hx:x.natAbs<100000)(hy:y.natAbs<100000)(h:Heap)(lo:Nat):(run lib).fn 57 [.int .i64 x,.int .i64 y] h lo=some (.agg [.str (aO x),.str [49],.str (aO y),.str [49]],h):=by
 have e1:=fun H lo=>Yd hx H lo;have e2:=fun H lo=>Yd hy H lo;rw[aY (x:=MI) rfl rfl rfl rfl];simp(maxSteps:=30000000)(disch:=omega)only[go_sem,MI,e1,e2]
abbrev MS:=Bool×List Pr×Nat×av
def C8(h:Heap)(x:LV):Env:=[(4,.aJ (h.length+7) 1 0),(5,.int .i64 0),(8,.aJ (h.length+6) 1 0),(9,.aJ (h.length+5) 1 0),(10,.aJ (h.length+4) 1 0),(35,.fn 89 [jF x])]
def O7(h:Heap)(x:LV):bQ:=⟨3,h.length,h.length,8,C8 h x⟩
def C9(h:Heap)(x:LV)(r:Pr)(st:MS):Heap:=h++[(1,.ay (O7 h x) .ready),st.2.2,(0,.dead),aX (0,.dead) 4 (bZ st.2.1),(1,.box [.bool st.1]),(1,.box [bq (h.length+3) (0,.dead) 4 (bZ st.2.1)]),(1,.box [.int .i64 r.1,.int .i64 r.2]),(1,.box [.aD])]
def xR(r:Pr)(st:MS)(X:Stp):MS:=((jX r (st.1,st.2.1) X).1,(jX r (st.1,st.2.1) X).2,st.2.2.1+1,.box (dM X))
def JI(r:Pr)(s a:Int)(st:MS):Prop:=(r.1<s->st.2.1≠[])/\(st.2.1.length:Int)<=2*s/\0<=s
theorem ahN{x:LV}(h:Heap)(r:Pr)(hr:r.1<r.2)(st:MS)(X:Stp)(fr:Heap)(hX:mI X)(hi:JI r X.fr X.be st) :
  fF (run lib) ⟨h.length,h.length+8,3,none⟩ (h.length+0) 1 [jr X] (C9 h x r st++fr)=some (.bool true,C9 h x r (xR r st X)++fr):=by
 obtain⟨f,K,v,b⟩:=st;obtain⟨r1,r2⟩:=r;obtain⟨x1,x2,x3,x4,x5,x6,x7,x8,x9,x10⟩:=hX;obtain⟨hi1,hi2,hi3⟩:=hi;simp only at hi1 hi2 hr;obtain⟨D,hD⟩:∃ D:bQ,D=O7 h x:=⟨_,rfl⟩;simp only[C9,xR,eH,List.cons_append,List.nil_append,<-hD]
 have ha:aA lib ⟨h.length,h.length,8,some (h.length+0,1)⟩ r3.fZ ((r3.ps.zip [jr X]).foldl (fun e p=>e.set p.1 p.2) (C8 h x),h++((1,.ay D .ready)::(v,b)::(0,.dead)::aX (0,.dead) 4 (bZ K)::(1,.box [.bool f])::(1,.box [bq (h.length+3) (0,.dead) 4 (bZ K)])::(1,.box [.int .i64 r1,.int .i64 r2])::(1,.box [.aD])::fr)) =
   some (.norm,([(8,.aJ (h.length+6) 1 0),(9,.aJ (h.length+5) 1 0),(10,.aJ (h.length+4) 1 0),(11,.aJ (h.length+1) (v+1) 0)],h++((1,.ay D .ready)::(v+1,.box (dM X))::(0,.dead)::aX (0,.dead) 4 (bZ K)::(1,.box [.bool f])::(1,.box [bq (h.length+3) (0,.dead) 4 (bZ K)])::(1,.box [.int .i64 r1,.int .i64 r2])::(1,.box [.aD])::fr))):=by
  have em:∀ g:Heap,bV ⟨h.length,h.length,8,some (h.length+0,1)⟩ 1 (.box [.int .i64 0,.int .i64 0,.int .i64 0,.int .i64 0,.int .i64 0,.bool false,.bool false]) (h++g)=xu 1 8 (.box [.int .i64 0,.int .i64 0,.int .i64 0,.int .i64 0,.int .i64 0,.bool false,.bool false]) h g g[1]?:=fun g=>uU (by rfl)
  have es:=fun(g:Heap) aj=>oz (lo:=h.length) (ns:=8) (sz:=7) (s:=1) (aj:=aj) (off:=0) (h:=h) (fr:=g) (v:=jr X) (p:=(h.length+0,1)) (aV _) (by rfl)
  simp only[jr]at es⊢;simp(maxSteps:=30000000)(disch:=omega)only[go_sem,r3,C8,dM,em,es,List.zip_cons_cons,vX,List.foldl_cons,nN]
 have hb:∃ gB e,e≠Ex.exit 0/\e=.norm/\aA lib ⟨h.length,h.length,8,some (h.length+0,1)⟩ r3.body ([(8,.aJ (h.length+6) 1 0),(9,.aJ (h.length+5) 1 0),(10,.aJ (h.length+4) 1 0),(11,.aJ (h.length+1) (v+1) 0)],(h++((1,av.ay D .ready)::(v+1,av.box (dM X))::(0,av.dead)::aX (0,.dead) 4 (bZ K)::(1,av.box [.bool f])::(1,av.box [bq (h.length+3) (0,.dead) 4 (bZ K)])::(1,av.box [.int .i64 r1,.int .i64 r2])::(1,av.box [.aD])::fr)).set (h.length+0) (1,.ay D .busy)) =
   some (e,(gB,h++((1,.ay D .busy)::(v+1,.box (dM X))::(0,.dead)::aX (0,.dead) 4 (bZ (jX (r1,r2) (f,K) X).2)::(1,.box [.bool (jX (r1,r2) (f,K) X).1])::(1,.box [bq (h.length+3) (0,.dead) 4 (bZ (jX (r1,r2) (f,K) X).2)])::(1,.box [.int .i64 r1,.int .i64 r2])::(1,.box [.aD])::fr))):=by
  refine⟨if (jX (r1,r2) (f,K) X).2=(jX (r1,r2) (f,K) X).2/\¬ (X.fr<r1\/r2<=X.fr)/\X.to≠r2 then[(9,.aJ (h.length+5) 1 0),(11,.aJ (h.length+1) (v+1) 0),(81,.bool false)] else[],.norm,by simp,rfl, ?_⟩
  rw[eB,List.set_cons_zero];have kn:=fun a b (ha:a.natAbs<100000) (hb:b.natAbs<100000) H lo=>ahM (x:=a) (y:=b) ha hb H lo;have k1:=kn X.fr X.be (by omega) (by omega)
  have k2:=kn X.to X.af (by omega) (by omega)
  have pb:=fun(g:Heap) c=>oz (lo:=h.length) (ns:=8) (sz:=1) (s:=4) (aj:=1) (off:=0) (h:=h) (fr:=g) (v:=.bool c) (p:=(h.length+0,1)) (aV _) (by rfl)
  have pa:=fun(g:Heap) (es:List AV)=>OZ (lo:=h.length) (ns:=8) (s:=5) (aj:=1) (off:=0) (h:=h) (p:=(h.length+0,1)) (fr:=g) (v:=bq (h.length+3) (0,.dead) 4 es) (aV _) (XK (by omega)) ⟨by rw[mr];rfl,qP _ _ _ _⟩
  have FQ:=fun(g:Heap) (es:List AV) (w:AV) (hg:g[3]?=some (aX (0,.dead) 4 es)) (hl:es.length<=10000)=>(OY (p:=(h.length+0,1))).trans (jk (lo:=h.length) (ns:=8) (s:=3) (z:=4) (lim:=2199023255552) (h:=h) (fr:=g) (b0:=(0,.dead)) (es:=es) (xs:=[w]) (by omega) (by omega) hg (by simp;omega))
  have Da:=fun(g:Heap) (es:List AV) (w:AV) (hg:g[3]?=some (aX (0,.dead) 4 es)) (hl:es.length<=10000) (hne:es≠[])=>X6 (cx:=⟨h.length,h.length,8,some (h.length+0,1)⟩) (s:=2) (t:=3) (z:=4) (lim:=2199023255552) (h:=h) (fr:=g) (b0:=(0,.dead)) (es:=es) (xs:=[w]) hne (by simp) hg (by simp;omega)
  obtain⟨G,hG⟩:∃ G:Bool->List AV->AV->Heap,G=fun c es m=>(1,.ay D .busy)::(v+1,.box (dM X))::(0,.dead)::aX (0,.dead) 4 es::(1,.box [.bool c])::(1,.box [m])::(1,.box [.int .i64 r1,.int .i64 r2])::(1,.box [.aD])::fr:=⟨_,rfl⟩;have gg:∀ c es m,(G c es m)[3]?=some (aX (0,.dead) 4 es):=fun c es m=>by rw[hG];rfl
  have hKl:(bZ K).length<=5000:=by rw[AQ];omega
  unfold jX;simp only;by_cases c1:X.fr<r1
  ·rw[if_pos (show X.fr<r1\/r2<=X.fr from .inl c1),if_neg (by simp[c1])]
   simp only[dM];simp(maxSteps:=30000000)(disch:=omega)only[go_sem,r3,c1]
  ·by_cases c2:r2<=X.fr
   ·rw[if_pos (show X.fr<r1\/r2<=X.fr from .inr c2),if_neg (by simp[c2])]
    simp only[dM];simp(maxSteps:=30000000)(disch:=omega)only[go_sem,r3,c1,c2]
   ·rw[if_neg (show ¬ (X.fr<r1\/r2<=X.fr) by omega)]
    have hnot:¬ (X.fr<r1\/r2<=X.fr):=by omega
    have fin:∀ f s:Bool,s=f\/s=!f:=fun f s=>by cases f<;>cases s<;>simp
    have ck:=fun env (g:Heap)=>ahL (lo:=h.length) (ns:=8) (p:=(h.length+0,1)) env h g;have a1:=fun c m w=>FQ (G c (bZ K) m) (bZ K) w (gg _ _ _) (by omega)
    have a3:=fun c m w (hne:bZ K≠[])=>Da (G c (bZ K) m) (bZ K) w (gg _ _ _) (by omega) hne
    have a2:=fun c m u w=>Da (G c (bZ K++[u]) m) (bZ K++[u]) w (gg _ _ _) (by simp;omega) (by simp)
    subst hG;simp only[List.set_cons_succ,List.set_cons_zero]at a1 a2 a3;simp only[dM]at a1 a2 a3⊢;generalize X.str=s at*;by_cases c5:X.fr=r1
    ·rw[if_pos (show X.fr=r1\/s≠f from .inl c5)]
     by_cases c4:X.to=r2
     ·rw[if_pos c4,if_neg (by simp[c4]),tJ,tJ]
      subst c4;subst c5;simp(maxSteps:=30000000)(disch:=omega)only[go_sem,r3,c1,c2,pb,pa,k1,k2,a1,a2,ck,tH,mr]
     ·rw[if_neg c4,gP,if_pos ⟨trivial,hnot,c4⟩,tJ];subst c5;simp(maxSteps:=30000000)(disch:=omega)only[go_sem,r3,c4,c1,c2,pb,pa,k1,a1,ck,tH,mr]
    ·have hne:bZ K≠[]:=fun e=>hi1 (by omega) (Yb.mp e)
     have a3:=fun c m w=>a3 c m w hne;rcases fin f s with rfl|rfl
     ·rw[if_neg (show ¬ (X.fr=r1\/s≠s) by simp[c5]),gP]
      by_cases c4:X.to=r2
      ·rw[if_pos c4,if_neg (by simp[c4]),tJ]
       subst c4;cases s<;>simp(maxSteps:=30000000)(disch:=omega)only[go_sem,r3,c5,c1,c2,pb,pa,k2,a3,ck,mr,X7,X8]
      ·rw[if_neg c4,gP,if_pos ⟨trivial,hnot,c4⟩];cases s<;>simp(maxSteps:=30000000)(disch:=omega)only[go_sem,r3,c4,c5,c1,c2,pb,X7,X8]
     ·rw[if_pos (show X.fr=r1\/(!f)≠f from .inr (by cases f<;>simp))]
      by_cases c4:X.to=r2
      ·rw[if_pos c4,if_neg (by simp[c4]),tJ,tJ]
       subst c4;cases f<;>simp only[vR,vH]at a1 a2⊢<;>simp(maxSteps:=30000000)(disch:=omega)only[go_sem,r3,c5,c1,c2,pb,pa,k1,k2,a1,a2,ck,tH,mr,X9,Ya]
      ·rw[if_neg c4,gP,if_pos ⟨trivial,hnot,c4⟩,tJ];cases f<;>simp only[vR,vH]at a1 a2⊢<;>simp(maxSteps:=30000000)(disch:=omega)only[go_sem,r3,c4,c5,c1,c2,pb,pa,k1,a1,ck,tH,mr,X9,Ya]
 obtain⟨gB,e,_,rfl,hb⟩:=hb;have hg:(h++((1,av.ay D .ready)::(v,b)::(0,av.dead)::aX (0,.dead) 4 (bZ K)::(1,av.box [.bool f])::(1,av.box [bq (h.length+3) (0,.dead) 4 (bZ K)])::(1,av.box [.int .i64 r1,.int .i64 r2])::(1,av.box [.aD])::fr))[h.length+0]?=some (1,.ay ⟨3,h.length,h.length,8,C8 h x⟩ .ready):=by rw[bH,hD];rfl
 have:=uI (L:=lib) (cx:=⟨h.length,h.length+8,3,none⟩) hg (aV _) (by omega) (aV _) (by simp[jr,AV.jw,AV.closed]) (x:=r3) rfl rfl ha (by rw[bH];rfl) hb (by rw[bH];rfl)
 rw[this,eB];rfl
theorem ahP(r:Pr)(xs:List Stp):∀ st:MS,((xs.foldl (xR r) st).1,(xs.foldl (xR r) st).2.1)=xs.foldl (jX r) (st.1,st.2.1):=by
 induction xs with
 |nil=>intro st;rfl
 |cons X xs ih=>intro st;rw[List.foldl_cons,ih,List.foldl_cons];rfl
theorem ahQ{r:Pr}(hr:r.1<r.2)(st:MS)(X:Stp)(hX:mI X)(hq:X.to<=r.1\/r.1<=X.fr)(hi:JI r X.fr X.be st):JI r X.to X.af (xR r st X):=by
 obtain⟨h1,h2,h3⟩:=hi;have x1:=hX.fr;have x2:=hX.to;refine⟨fun hs=>?_, ?_,by omega⟩
 ·simp only[xR,jX];split
  ·rename_i hc;simp only;exact h1 (by omega)
  ·rename_i hc;simp only;intro e;rw[List.append_eq_nil_iff,List.append_eq_nil_iff]at e;by_cases c:r.1<X.fr
   ·exact h1 c e.1.1
   ·have h5:=e.1.2;rw[if_pos (.inl (by omega))]at h5
    cases h5
 ·simp only[xR,jX];split
  ·simp only;omega
  ·simp only[dZ];split<;>split<;>simp<;>omega
end Go.VI.Dump
namespace Go.VI.Dump
open Go.VI.Num
/- BIGSTEPS -/
theorem ahR{l:dI}{A:List Int}{a:Pr}{K:List Pr}(h:Kn l A a K):(∀ p∈K,a.1<p.1/\a.2<p.2)/\∀ q∈K.getLast?,∀ p∈a::K,p.1<=q.1/\p.2<=q.2:=by
 induction h with
 |one a=>exact⟨by simp,by simp⟩
 |@cons a b K s h ih =>
  obtain⟨i1,i2⟩:=ih;refine⟨fun p hp=>?_,fun q hq p hp=>?_⟩
  ·have:=s.x;have:=s.y;rcases gq.mp hp with rfl|hp
   ·omega
   ·have:=i1 p hp;omega
  ·have s1:=s.x;have s2:=s.y
   cases K with
   |nil =>
    obtain rfl:b=q:=by simpa using hq
    rcases gq.mp hp with rfl|hp
    ·omega
    ·obtain rfl:p=b:=by simpa using hp
     omega
   |cons c K =>
    rw[List.getLast?_cons_cons]at hq;have j:=i2 q hq;rcases gq.mp hp with rfl|hp
    ·have:=j b (by simp);omega
    ·exact j p hp
def FR(p:Pr):Prop:=(0<=p.1/\p.1<=1000)/\(0<=p.2/\p.2<=1000)
theorem ahS{p:Pr}(h:FR p):wG (qk p):=⟨V6 ⟨by have:=h.1;omega,by have:=h.1;omega⟩,V6 ⟨by have:=h.2;omega,by have:=h.2;omega⟩⟩
def spQ(a b:Pr):Rat:=((b.2-a.2:Int):Rat)/((b.1-a.1:Int):Rat)
theorem ahU{a b:Pr}(ha:FR a)(hb:FR b)(hx:a.1<b.1):wF (qk a) (qk b)=some (spQ a b):=by
 obtain⟨⟨a1,a2⟩,a3,a4⟩:=ha;obtain⟨⟨b1,b2⟩,b3,b4⟩:=hb;unfold wF qk;simp only;rw[V8 ⟨by omega,by omega⟩ ⟨by omega,by omega⟩,V8 ⟨by omega,by omega⟩ ⟨by omega,by omega⟩]
 simp only[Option.bind_some];exact aeX ⟨by omega,by omega⟩ ⟨by omega,by omega⟩ (by omega)
theorem ahV{l:dI}{A:List Int}{a:Pr}{K:List Pr}(h:Kn l A a K):(∀ p∈a::K,FR p)->AP false ((a::K).map qk)=some false:=by
 induction h with
 |one a=>intro _;rfl
 |@cons a b K s h ih =>
  intro hp;have i:=ih fun p h=>hp p (List.mem_cons_of_mem _ h);rw[List.map_cons]at i;rw[List.map_cons,List.map_cons,AP]
  have hi:qo (qk a) (qk b)=true:=by
   have h1:(qk a).1<(qk b).1:=Rat.intCast_lt_intCast.mpr s.x;have h2:(qk a).2<(qk b).2:=Rat.intCast_lt_intCast.mpr s.y;unfold qo;rw[decide_eq_true h1,decide_eq_true h2];rfl
  rw[hi,if_pos rfl,ahU (hp a (by simp)) (hp b (by simp)) s.x]
  exact i
theorem Ye{l:dI}(ok:dD l){r:Pr}(hr:Run l r){xs:List Stp}{e:Int}(h:Ch l 0 l.D xs e){a:Pr}{K:List Pr}{y1:Int}(m:N9 l r xs a K y1):∀ p∈a::K,FR p:=by
 obtain⟨h1,h2⟩:=ahR m.kn;have h3:=h2 _ m.last;have hD:=ok.D;have hL:=ok.L;have ht:=m.top;have hl:=h.EX ok.E.1;have hd:=h.dl hD.1 (iK _);have hx:=m.x0;have hy:=m.y0;have hlo:=hr.lo;have hhi:=hr.hi
 have htop:y1<=720:=by
  unfold dS at ht;rw[dZ,mh]at ht;omega
 intro p hp;have h4:=h3 p hp;simp only at h4;rcases gq.mp hp with rfl|hp
 ·exact⟨⟨by omega,by omega⟩,by omega,by omega⟩
 ·have:=h1 p hp;exact⟨⟨by omega,by omega⟩,by omega,by omega⟩
theorem ahW{l:dI}(ok:dD l){r:Pr}(hr:Run l r){xs:List Stp}{e:Int}(h:Ch l 0 l.D xs e){a:Pr}{K:List Pr}{y1:Int}(m:N9 l r xs a K y1):FP ((a::K).map qk)=true:=by
 unfold FP;have:=m.len;rw[ahV m.kn (Ye ok hr h m),uq,List.length_cons,decide_eq_true (by omega),decide_eq_true (by omega)]
 rfl
theorem mZ(z:Nat)(es:List AV)(h:Heap):Sl h z (dG z es) es:=Sl.dG h z es
theorem ahX{x:LV}(o:okV x)(hv:¬ dD x.l)(k:Int)(h:Heap)(lo:Nat):(run lib).fn 26 [bI x,.int .i64 k] h lo=some (.tuple [.agg [.aN 0 []],.int .i64 200],h):=by
 have e:=fun H lo=>XT o hv H lo;unfold bI at e⊢;rw[aY (x:=yH) rfl rfl rfl rfl];simp(maxSteps:=30000000)(disch:=omega)only[go_sem,yH,e]
theorem Yf{x:LV}(o:okV x)(ok:dD x.l){k:Int}(hk:k<0\/(gG x.l).length<=k)(h:Heap)(lo:Nat):(run lib).fn 26 [bI x,.int .i64 k] h lo=some (.tuple [.agg [.aN 0 []],.int .i64 200],h):=by
 have e:=fun H lo=>JD o ok H lo;have ll:=bK (mZ 2 (pts (gG x.l)) h).len;rw[jq]at ll;unfold bI at e⊢;rw[aY (x:=yH) rfl rfl rfl rfl];by_cases c:k<0
 ·simp(maxSteps:=30000000)(disch:=omega)only[go_sem,yH,e,c]
 ·have c2:(gG x.l).length<=k:=by omega
  simp(maxSteps:=30000000)(disch:=omega)only[go_sem,yH,e,c,ll,c2]
theorem Yg{x:LV}(o:okV x)(ok:dD x.l){xs:List Stp}{e:Int}(hc:Ch x.l 0 x.l.D xs e){k:Nat}(hk:k<(gG x.l).length)(h:Heap)(lo:Nat) :
  (run lib).fn 26 [bI x,.int .i64 k] h lo=some (.tuple [.agg [.aN 4 (bZ (jJ (gG x.l)[k] xs))],.int .i64 0],h):=by
 have er:=fun H lo=>JD o ok H lo;have dc:=fun H lo=>JC x H lo;have hrn:=NZ ok (ja hk);obtain⟨a,K,y1,m⟩:=map_ok ok hrn hc;have hmv:=ahW ok hrn hc m;have hmp:=Ye ok hrn hc m;obtain⟨pre,ys,dd,hxs,k1,_,k3,_⟩:=I9 ok hrn hc
 have hQ:∀ X∈xs,X.to<=(gG x.l)[k].1\/(gG x.l)[k].1<=X.fr:=fun X hX=>by
  rw[hxs]at hX;rcases iJ.mp hX with h|h
  ·exact .inl (k3 X h).2
  ·exact .inr (k1.fr ok.E.1 X h).1
 have sl:=mZ 2 (pts (gG x.l));have ll:=bK (sl h).len;rw[jq]at ll;have e3:bP 2 (dG 2 (pts (gG x.l))) (.int .i64 k)=some k:=by rw[dz (sl h) (by omega) (by simp;omega)];simp
 have e4:=fun off H=>dx (off:=off) (sl H).eO (show k<(pts (gG x.l)).length by simp;exact hk)
 simp only[tC,pt]at e4;have hk2:(k:Int)<((gG x.l).length:Int):=by omega
 generalize (gG x.l)[k]=r at*;obtain⟨r1,r2⟩:=r;simp only at e4;have hlen:∀ st,(C9 h x (r1,r2) st).length=h.length+8:=fun st=>by simp[C9]
 obtain⟨_,g2⟩:=XE (Q:=fun X=>X.to<=r1\/r1<=X.fr) (id:=h.length+0) (iv:=1) (H:=C9 h x (r1,r2)) (nb:=h.length+8) (lo:=h.length) (step:=xR (r1,r2)) (Iv:=JI (r1,r2)) o ok hlen (by omega) (fun st X hX hq hi=>ahQ hrn.lt st X hX hq hi) (fun st X fr hX hq hi=>ahN (x:=x) h (r1,r2) hrn.lt st X fr hX hi) hc hQ (false,[],0,.dead) ⟨fun hh=>by have:=hrn.lo;simp only at this hh;omega,by simp,by omega⟩
 obtain⟨st,hst⟩:∃ st,st=xs.foldl (xR (r1,r2)) (false,[],0,.dead):=⟨_,rfl⟩;have hs1:=ahP (r1,r2) xs (false,[],0,.dead);rw[<-hst]at g2 hs1;have hs2:st.2.1=jJ (r1,r2) xs:=by unfold jJ;rw[<-hs1]
 obtain⟨f,K',vb⟩:=st;simp only at hs2;subst hs2;have hq:bZ (jJ (r1,r2) xs)=jL ((a::K).map qk):=by rw[m.eq];rfl
 have hne:bZ (jJ (r1,r2) xs)≠[]:=by rw[hq];simp[jL]
 have g3:=vN (L:=lib) (lo:=h.length) (ns:=8) (s:=0) (g:=3) (it:=89) (v:=0) (caps:=[jF x]) (env:=C8 h x) (h:=h) (b:=.dead)
  (fr:=[(0,.dead),(0,.dead),(0,.dead),(0,.dead),(1,.box [.bool false]),(1,.box [.aD]),(1,.box [.int .i64 r1,.int .i64 r2]),(1,.box [.aD])])
  (fr':=[(1,.ay (O7 h x) .ready),vb,(0,.dead),aX (0,.dead) 4 (bZ (jJ (r1,r2) xs)),(1,.box [.bool f]),(1,.box [bq (h.length+3) (0,.dead) 4 (bZ (jJ (r1,r2) xs))]),(1,.box [.int .i64 r1,.int .i64 r2]),(1,.box [.aD])])
  (f:=.t 35) rfl (by omega) rfl g2 rfl
 have pv:=fun fr (hfr:fr[3]?=some (aX (0,.dead) 4 (bZ (jJ (r1,r2) xs)))) lo=>by
  have s1:=Sl.acc (h:=h) (fr:=fr) (s:=3) (z:=4) (b0:=(0,.dead)) (es:=bZ (jJ (r1,r2) xs)) hfr;rw[hq]at s1;exact ahK s1 (by have:=m.len;simp;omega) (fun b hb=>by obtain⟨p,hp,rfl⟩:=List.mem_map.mp hb;exact ahS (hmp p hp)) lo
 rw[<-hq,hmv]at pv;have pv:=fun lo=>pv [(1+0,.dead),vb,(0,.dead),aX (0,.dead) 4 (bZ (jJ (r1,r2) xs)),(1,.box [.bool f]),(1,.box [bq (h.length+3) (0,.dead) 4 (bZ (jJ (r1,r2) xs))]),(1,.box [.int .i64 r1,.int .i64 r2]),(1,.box [.aD])] rfl lo;have fz:=fun kk m=>Ia (h:=h) (s:=3) (z:=4) (k:=kk) (b0:=(0,.dead)) (es:=bZ (jJ (r1,r2) xs)) (fr:=[(1+0,.dead),vb,(0,.dead),aX (0,.dead) 4 (bZ (jJ (r1,r2) xs)),(1,.box [.bool f]),(1,.box [bq (h.length+3) (0,.dead) 4 (bZ (jJ (r1,r2) xs))]),(1,.box [.int .i64 r1,.int .i64 r2]),(1,.box [m])]) rfl;rw[show dG 4 (bZ (jJ (r1,r2) xs))=.aN 4 (bZ (jJ (r1,r2) xs))from if_neg hne]at fz
 simp only[C8,List.set_cons_zero]at g3;unfold bI at er dc⊢;rw[aY (x:=yH) rfl rfl rfl rfl];have hk3:¬ (k:Int)<0:=by omega
 have hk4:¬ ((gG x.l).length:Int)<=(k:Int):=by omega
 simp(maxSteps:=30000000)(disch:=omega)only[go_sem,yH,er,dc,ll,hk3,hk4,e3,e4,g3,pv,fz]
end Go.VI.Dump
