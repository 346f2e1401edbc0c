/- What the functions on integers compute, part MV. -/
import Derived.Test.YtfpoegnmeoghpaaGreatDoorDumpMB
import Derived.Test.YtfpoegnmeoghpaaGreatDoorDumpMU
import Derived.Test.YtfpoegnmeoghpaaGreatDoorDumpMA
set_option linter.unusedVariables false
set_option linter.unusedSimpArgs false
namespace Go.VI.Dump
open Go.VI.Num
theorem aCS{x y:Bool}(h:(x&&y)=true):x=true/\y=true:=by simpa using h
theorem aq1{a b q:Rat}(h:Ze a b=some q):q=a-b/\JD q:=by
 unfold Ze at h;split at h
 ·rename_i c;obtain⟨c,c4⟩:=aCS c;obtain⟨c,c3⟩:=aCS c;cases h;refine⟨rfl, ?_⟩;rw[<-aBw];exact aJL (aCu a b) (of_decide_eq_true c3) (of_decide_eq_true c4)
 ·cases h
end Go.VI.Dump
namespace Go.VI.Dump
open Go.VI.Num
/- BIGSTEPS -/
theorem aCT{h:Heap}{id:Nat}(hid:h[id]?=some y5)(f:AV)(a b c d:List UInt8){lo:Nat}(hlo:lo<=id):(run lib).fn 118 [.bq id 1 0,f,nC a b,nC c d] h lo=some (nC [] [],h):=by
 have hl:id<h.length:=(kS.mp hid).1;have p0:=fun fr=>abO (H:=h++fr) (IB hid);have nk:Sv (.bq id 1 0)=some (.bq id 1 0):=rfl;unfold nC;rw[AA (x:=ajd) rfl rfl rfl rfl (by omega)]
 simp(maxSteps:=30000000)(disch:=omega)only[go_sem,ajd,p0,nk,NA]
theorem aCU{h:Heap}{id:Nat}(hid:h[id]?=some okB){g:Nat}(hg0:[42,119,120,121,133].contains g=true){a b c d s t:List UInt8}(hg:∀ H lo,(run lib).fn g [nC a b,nC c d] H lo=some (.tuple [nC s t,.int .i64 0],H)){lo:Nat}(hlo:lo<=id) :
  (run lib).fn 118 [.bq id 1 0,.fn g [],nC a b,nC c d] h lo=some (nC s t,h):=by
 have hl:id<h.length:=(kS.mp hid).1
 have hg1:g<1000:=by
  simp only[List.contains_cons,List.contains_nil,Bool.or_false,Jz,beq_iff_eq]at hg0;omega
 have p0:=fun fr=>abO (H:=h++fr) (IB hid);have s0:=fun(fr:Heap) b=>amQ (H:=h++fr) (id:=id) (base:=h.length) (lo:=lo) (ns:=2) (a:=false) (b:=b) (IB hid) hlo none;have st:∀(fr:Heap),(h++fr).set id okB=h++fr:=fun fr=>by rw[aot _ hid,aCo hid]
 have nk:Sv (.bq id 1 0)=some (.bq id 1 0):=rfl;unfold nC at hg⊢;rw[AA (x:=ajd) rfl rfl rfl rfl (by omega)]
 simp(maxSteps:=30000000)(disch:=omega)only[go_sem,ajd,p0,s0,st,nk,hg,hg0,hg1,List.cons_append,List.nil_append,NA]
theorem aCV{h:Heap}{id:Nat}(hid:h[id]?=some okB){g:Nat}(hg0:[42,119,120,121,133].contains g=true){a b c d s t:List UInt8}{e:Int}(he:e≠0)(hg:∀ H lo,(run lib).fn g [nC a b,nC c d] H lo=some (.tuple [nC s t,.int .i64 e],H)){lo:Nat}(hlo:lo<=id) :
  (run lib).fn 118 [.bq id 1 0,.fn g [],nC a b,nC c d] h lo=some (nC s t,h.set id y5):=by
 have hl:id<h.length:=(kS.mp hid).1
 have hg1:g<1000:=by
  simp only[List.contains_cons,List.contains_nil,Bool.or_false,Jz,beq_iff_eq]at hg0;omega
 have p0:=fun fr=>abO (H:=h++fr) (IB hid);have s0:=fun(fr:Heap) b=>amQ (H:=h++fr) (id:=id) (base:=h.length) (lo:=lo) (ns:=2) (a:=false) (b:=b) (IB hid) hlo none;have st:∀(fr:Heap),(h++fr).set id y5=h.set id y5++fr:=fun fr=>aot _ hid
 have tk:∀(fr:Heap),(h.set id y5++fr).take h.length=h.set id y5:=fun fr=>by
  have:=NA (l₁:=h.set id y5) (l₂:=fr);rwa [Td]at this
 have nk:Sv (.bq id 1 0)=some (.bq id 1 0):=rfl;unfold nC at hg⊢;rw[AA (x:=ajd) rfl rfl rfl rfl (by omega)]
 have hn:(h.set id y5).length=h.length:=Td ..;simp(maxSteps:=30000000)(disch:=omega)only[go_sem,ajd,p0,s0,st,nk,hg,hg0,hg1,List.cons_append,List.nil_append,tk,he,hn,JM,Ms]
def abQ(a b:Rat×Rat):Option Rat:=(Ze b.2 a.2).bind fun y=>(Ze b.1 a.1).bind fun x=>ajl y x
def AL(a:Rat×Rat):AV:=.agg [.str (fZ a.1.num),.str (fZ (a.1.den:Int)),.str (fZ a.2.num),.str (fZ (a.2.den:Int))]
structure abR(a:Rat×Rat):Prop where
 x:JD a.1
 y:JD a.2
theorem amX(q:Rat):rt q=nC (fZ q.num) (fZ (q.den:Int)):=rfl
section
variable {h:Heap}{id lo:Nat}
theorem aq2(hid:h[id]?=some okB)(hlo:lo<=id){a b q:Rat}(ha:JD a)(hb:JD b)(hq:Ze a b=some q):(run lib).fn 118 [.bq id 1 0,.fn 119 [],rt a,rt b] h lo=some (rt q,h) :=
 aCU hid (by decide) (fun H lo=>by have:=aCB ha hb H lo;rw[hq]at this;exact this) hlo
theorem aCW(hid:h[id]?=some okB)(hlo:lo<=id){a b:Rat}(ha:JD a)(hb:JD b)(hq:Ze a b=none):(run lib).fn 118 [.bq id 1 0,.fn 119 [],rt a,rt b] h lo=some (nC [] [],h.set id y5) :=
 aCV (e:=40) hid (by decide) (by decide) (fun H lo=>by have:=aCB ha hb H lo;rw[hq]at this;exact this) hlo
theorem aLX(hid:h[id]?=some okB)(hlo:lo<=id){a b q:Rat}(ha:JD a)(hb:JD b)(hq:ajl a b=some q):(run lib).fn 118 [.bq id 1 0,.fn 133 [],rt a,rt b] h lo=some (rt q,h) :=
 aCU hid (by decide) (fun H lo=>by have:=aCz ha hb H lo;rw[hq]at this;exact this) hlo
theorem aLY(hid:h[id]?=some okB)(hlo:lo<=id){a b:Rat}(ha:JD a)(hb:JD b)(hq:ajl a b=none):(run lib).fn 118 [.bq id 1 0,.fn 133 [],rt a,rt b] h lo=some (nC [] [],h.set id y5) :=
 aCV (e:=40) hid (by decide) (by decide) (fun H lo=>by have:=aCz ha hb H lo;rw[hq]at this;exact this) hlo
end
theorem aLZ{h:Heap}{id:Nat}{b:Nat×aU}(hid:h[id]?=some b)(c:Nat×aU):(h.set id c)[id]?=some c:=L8 (kS.mp hid).1
theorem aL0{h:Heap}{id:Nat}(hid:h[id]?=some y5)(a b:Rat×Rat){lo:Nat}(hlo:lo<=id):(run lib).fn 96 [.bq id 1 0,AL a,AL b] h lo=some (nC [] [],h):=by
 have hl:id<h.length:=(kS.mp hid).1;have d:=fun fr f a b c d=>aCT (h:=h++fr) (id:=id) (IB hid) f a b c d hlo;unfold nC at d⊢;unfold AL;rw[AA (x:=x96) rfl rfl rfl rfl (by omega)]
 simp(maxSteps:=30000000)(disch:=omega)only[go_sem,x96,d,Dn,NA]
theorem aL1{h:Heap}{id:Nat}(hid:h[id]?=some okB){a b:Rat×Rat}(ha:abR a)(hb:abR b){q:Rat}(hq:abQ a b=some q){lo:Nat}(hlo:lo<=id):(run lib).fn 96 [.bq id 1 0,AL a,AL b] h lo=some (rt q,h):=by
 have hl:id<h.length:=(kS.mp hid).1;obtain⟨y,hy,hq⟩:=Option.bind_eq_some_iff.mp hq;obtain⟨x,hx,hq⟩:=Option.bind_eq_some_iff.mp hq;have d1:=fun fr=>aq2 (h:=h++fr) (id:=id) (IB hid) hlo hb.y ha.y hy;have d2:=fun fr=>aq2 (h:=h++fr) (id:=id) (IB hid) hlo hb.x ha.x hx;have d3:=fun fr=>aLX (h:=h++fr) (id:=id) (IB hid) hlo (aq1 hy).2 (aq1 hx).2 hq;simp only[amX,nC]at d1 d2 d3⊢;unfold AL;rw[AA (x:=x96) rfl rfl rfl rfl (by omega)]
 simp(maxSteps:=30000000)(disch:=omega)only[go_sem,x96,d1,d2,d3,Dn,NA]
theorem aL2{h:Heap}{id:Nat}(hid:h[id]?=some okB){a b:Rat×Rat}(ha:abR a)(hb:abR b)(hq:abQ a b=none){lo:Nat}(hlo:lo<=id):(run lib).fn 96 [.bq id 1 0,AL a,AL b] h lo=some (nC [] [],h.set id y5):=by
 have hl:id<h.length:=(kS.mp hid).1;have hn:(h.set id y5).length=h.length:=Td ..
 have tk:∀(fr:Heap),(h.set id y5++fr).take h.length=h.set id y5:=fun fr=>by
  have:=NA (l₁:=h.set id y5) (l₂:=fr);rwa [Td]at this
 have st:∀(fr:Heap),(h++fr).set id y5=h.set id y5++fr:=fun fr=>aot _ hid;have bd:=fun fr f a b c d=>aCT (h:=h.set id y5++fr) (id:=id) (IB (aLZ hid y5)) f a b c d hlo;unfold abQ at hq
 cases hy:Ze b.2 a.2 with
 |none =>
  have d1:=fun fr=>aCW (h:=h++fr) (id:=id) (IB hid) hlo hb.y ha.y hy;simp only[amX,nC]at d1 bd⊢;unfold AL;rw[AA (x:=x96) rfl rfl rfl rfl (by omega)]
  simp(maxSteps:=30000000)(disch:=omega)only[go_sem,x96,d1,bd,st,tk,hn,JM,Ms,Mt,Rv,Dn]
 |some y =>
  have d1:=fun fr=>aq2 (h:=h++fr) (id:=id) (IB hid) hlo hb.y ha.y hy;rw[hy,Option.bind_some]at hq
  cases hx:Ze b.1 a.1 with
  |none =>
   have d2:=fun fr=>aCW (h:=h++fr) (id:=id) (IB hid) hlo hb.x ha.x hx;simp only[amX,nC]at d1 d2 bd⊢;unfold AL;rw[AA (x:=x96) rfl rfl rfl rfl (by omega)]
   simp(maxSteps:=30000000)(disch:=omega)only[go_sem,x96,d1,d2,bd,st,tk,hn,JM,Ms,Mt,Rv,Dn]
  |some x =>
   have d2:=fun fr=>aq2 (h:=h++fr) (id:=id) (IB hid) hlo hb.x ha.x hx;rw[hx,Option.bind_some]at hq;have d3:=fun fr=>aLY (h:=h++fr) (id:=id) (IB hid) hlo (aq1 hy).2 (aq1 hx).2 hq;simp only[amX,nC]at d1 d2 d3 bd⊢;unfold AL;rw[AA (x:=x96) rfl rfl rfl rfl (by omega)]
   simp(maxSteps:=30000000)(disch:=omega)only[go_sem,x96,d1,d2,d3,bd,st,tk,hn,JM,Ms,Mt,Rv,Dn]
end Go.VI.Dump
namespace Go.VI.Dump
open Go.VI.Num
/- BIGSTEPS -/
abbrev KQ:=Rat×Rat
def JR(l:List KQ):List AV:=l.map AL
@[simp] theorem amY (l:List KQ):(JR l).length=l.length:=by simp [JR]
theorem aCX(l:List KQ)(k:Nat)(h:k<(JR l).length):(JR l)[k]=AL (l[k]'(by simpa using h)):=by simp[JR]
section
variable {σ:Type}{H:σ->Heap}{nb lo id iv:Nat}{step:σ->KQ->KQ->σ×Bool}{Iv:σ->Prop}
def pgo(step:σ->KQ->KQ->σ×Bool)(st:σ):List KQ->σ
 |a::b::r=>if (step st a b).2 then pgo step (step st a b).1 (b::r) else(step st a b).1
 |_=>st
theorem aL3{st:σ}{l:List KQ}{k:Nat}(h:k+1<l.length):pgo step st (l.drop k)=if (step st l[k] l[k+1]).2 then pgo step (step st l[k] l[k+1]).1 (l.drop (k+1)) else(step st l[k] l[k+1]).1:=by
 rw[JB (show k<l.length by omega),JB h,pgo]
theorem aL4{st:σ}{l:List KQ}{k:Nat}(h:l.length<=k+1):pgo step st (l.drop k)=st:=by
 rcases Fz k l.length with h1|h1
 ·rw[JB h1,Zd (by omega)];rfl
 ·rw[Zd h1];rfl
theorem aL5{v:AV}{l:List KQ}(hl:l.length<=9223372036854775807)(hv:∀ st,Sl (H st) 4 v (JR l))(hI:∀ st a b,a∈l->b∈l->Iv st->(step st a b).2=true->Iv (step st a b).1)
  (hy:∀ st a b,a∈l->b∈l->Iv st->tK (run lib) ⟨lo,nb,0,none⟩ id iv [AL a,AL b] (H st)=some (.bool (step st a b).2,H (step st a b).1)):∀(d k:Nat) (st:σ),k+d=l.length->0<k->Iv st ->
  ∃ e env,e≠Ex.exit 1/\(e=.exit 0\/e=.ret)/\bV lib ⟨lo,nb,0,none⟩ (.loop aoO) ([(0,.lF id iv),(1,.iE [v]),(3,.int .i64 k)],H st)=some (e,(env,H (pgo step st (l.drop (k-1))))):=by
 intro d
 induction d with
 |zero =>
  intro k st hk h0 hi;have lv:=oW (hv st).len;rw[amY]at lv;refine⟨.exit 0,[],by simp,.inl rfl, ?_⟩
  rw[aL4 (by omega),jm]
  have c:¬ (k:Int)<l.length:=by omega
  simp(maxSteps:=30000000)(disch:=omega)only[go_sem,lv,c]
 |succ d ih =>
  intro k st hk h0 hi;obtain⟨j,rfl⟩:∃ j,k=j+1:=⟨k-1,by omega⟩
  have hk':j+1<l.length:=by omega
  have lv:=oW (hv st).len;rw[amY]at lv;have c:((j+1:Nat):Int)<l.length:=by omega
  have e3:vJ 4 v (.int .i64 ((j+1:Nat):Int))=some (j+1):=by rw[Bu (hv st) (by omega) (by simp;omega)];rfl
  have e4:=fun off=>Ab (off:=off) (hv st).DC (show j+1<(JR l).length by simp;omega)
  have f3:vJ 4 v (.int .i64 (((j+1:Nat):Int)-1))=some j:=by rw[Bu (hv st) (by omega) (by simp;omega)];simp
  have f4:=fun off=>Ab (off:=off) (hv st).DC (show j<(JR l).length by simp;omega)
  have y:=hy st l[j] l[j+1] (JC _) (JC _) hi;have i2:=hI st l[j] l[j+1] (JC _) (JC _) hi;rw[show j+1-1=j by omega,aL3 hk']
  simp only[aCX]at e4 f4
  cases hc:(step st l[j] l[j+1]).2 with
  |false =>
   rw[hc]at y;rw[if_neg (by simp)]
   simp only[AL]at e4 f4 y;refine⟨.ret,[],by simp,.inr rfl, ?_⟩
   rw[jm]
   simp(maxSteps:=30000000)(disch:=omega)only[go_sem,lv,c,e3,e4,f3,f4,y,Dn]
  |true =>
   rw[hc]at y;rw[if_pos rfl];obtain⟨e,env,g1,g2,g3⟩:=ih (j+1+1) _ (by omega) (by omega) (i2 hc)
   rw[show j+1+1-1=j+1 by omega,Dm]at g3
   simp only[AL]at e4 f4 y;refine⟨e,env,g1,g2, ?_⟩;rw[jm];simp(maxSteps:=30000000)(disch:=omega)only[go_sem,lv,c,e3,e4,f3,f4,y,Dn,g3]
theorem aL6{v:AV}{l:List KQ}(hl:l.length<=9223372036854775807)(hv:∀ st,Sl (H st) 4 v (JR l))(hlen:∀ st,(H st).length=nb)(hlo:lo<=nb)(hI:∀ st a b,a∈l->b∈l->Iv st->(step st a b).2=true->Iv (step st a b).1)
  (hy:∀ st a b,a∈l->b∈l->Iv st->tK (run lib) ⟨lo,nb,0,none⟩ id iv [AL a,AL b] (H st)=some (.bool (step st a b).2,H (step st a b).1)) (st:σ) (hi:Iv st) :
  (run lib).fn 132 [.lF id iv,.iE [v]] (H st) lo=some (.tuple [],H (pgo step st l)):=by
 have ho:=AA (L:=lib) (f:=132) (x:=akq) (args:=[.lF id iv,.iE [v]]) (h:=H st) (lo:=lo) rfl rfl rfl rfl (by rw[hlen];exact hlo)
 have hr:List.replicate akq.ns (0,aU.dead)=[]:=rfl;have tk:∀ s,(H s).take (H st).length=H s:=fun s=>by rw[hlen st,<-hlen s,QU]
 rw[ho,hr,Gs,hlen];rcases Y3 l.length with h0|h0
 ·have lv:=oW (hv st).len;rw[amY,h0]at lv;have hp:pgo step st l=st:=by rw[JU h0];rfl
  have e:bV lib ⟨lo,nb,0,none⟩ (.loop aoO) ([(0,.lF id iv),(1,.iE [v]),(3,.int .i64 1)],H st)=some (.exit 0,([],H st)):=by
   rw[jm];simp(maxSteps:=30000000)(disch:=omega)only[go_sem,lv]
  rw[hp];simp(maxSteps:=30000000)(disch:=omega)only[go_sem,akq,e,tk]
 ·obtain⟨e,env,g1,g2,g3⟩:=aL5 hl hv hI hy (l.length-1) 1 st (by omega) (by omega) hi
  have c1:((1:Nat):Int)=1:=rfl;rw[c1,Nat.sub_self,List.drop_zero]at g3;rcases g2 with rfl|rfl
  ·simp(maxSteps:=30000000)(disch:=omega)only[go_sem,akq,g3,tk]
  ·simp(maxSteps:=30000000)(disch:=omega)only[go_sem,akq,g3,tk]
theorem aL7{v v':AV}(h:Heap)(k1:v.val=true)(k2:∀ b k H,gI b k v H=some (v',H))(k3:v'.cells=[v'])(lo:Nat):(run lib).fn 95 [v] h lo=some (.fn 132 [.iE [v']],h):=by
 rw[jH (x:=x95) rfl rfl rfl rfl];simp(maxSteps:=30000000)(disch:=omega)only[go_sem,x95,k1,k2,k3]
end
end Go.VI.Dump
namespace Go.VI.Dump
open Go.VI.Num
/- BIGSTEPS -/
theorem aL8{h:Heap}{v:AV}{l:List KQ}(hv:Sl h 4 v (JR l))(hl:l.length<=9223372036854775807){g:Nat}(hg:g<1000){caps:List AV}{p:KQ->Bool}
  (hF:∀ x∈l,∀ lo,(run lib).fn g (AL x::caps) h lo=some (.bool (p x),h)) (lo:Nat):∀(d k:Nat),k+d=l.length ->
  bV lib ⟨lo,h.length,0,none⟩ (.loop atG) ([(0,v),(1,.fn g caps),(7,.int .i64 l.length),(8,.int .i64 k)],h) =
   match YT l p k with|some r=>some (.ret,([(4,.int .i64 r)],h))|none=>some (.exit 0,([],h)):=by
 intro d
 induction d with
 |zero =>
  intro k hk;obtain rfl:k=l.length:=by omega
  rw[aCD,jm]
  simp(maxSteps:=30000000)(disch:=omega)only[go_sem,DV]
 |succ d ih =>
  intro k hk;have hk':k<l.length:=by omega
  have h1:(k:Int)<l.length:=by omega
  have e3:vJ 4 v (.int .i64 k)=some k:=by rw[Bu hv (by omega) (by simp;omega)];simp
  have e4:=fun off=>Ab (off:=off) hv.DC (show k<(JR l).length by simp;omega)
  simp only[aCX,AL]at e4;have f:=fun lo=>hF l[k] (JC _) lo;simp only[AL]at f
  cases hp:p l[k] with
  |true =>
   rw[aCE hk' hp,jm];rw[hp]at f
   simp(maxSteps:=30000000)(disch:=omega)only[go_sem,h1,e3,e4,f,hg,List.cons_append,List.nil_append]
  |false =>
   rw[aCF hk' hp,jm];rw[hp]at f;have e:=ih (k+1) (by omega)
   rw[Dm]at e;simp(maxSteps:=30000000)(disch:=omega)only[go_sem,h1,e3,e4,f,hg,List.cons_append,List.nil_append,e]
theorem aL9{h:Heap}{v:AV}{l:List KQ}(hv:Sl h 4 v (JR l))(hl:l.length<=9223372036854775807){g:Nat}(hg:g<1000){caps:List AV}{p:KQ->Bool}
  (hF:∀ x∈l,∀ lo,(run lib).fn g (AL x::caps) h lo=some (.bool (p x),h)) (lo:Nat):(run lib).fn 116 [v,.fn g caps] h lo=some (.int .i64 (ixR l p),h):=by
 have e:=aL8 hv hl hg hF h.length l.length 0 (by omega)
 have ll:=oW hv.len;rw[amY]at ll;unfold ixR;simp only[Gc]at e;rw[jH (x:=aoM) rfl rfl rfl rfl]
 cases hr:YT l p 0 with
 |none=>rw[hr]at e;simp(maxSteps:=30000000)(disch:=omega)only[go_sem,aoM,ll,e]
 |some r=>rw[hr]at e;simp(maxSteps:=30000000)(disch:=omega)only[go_sem,aoM,ll,e]
theorem aL'{h:Heap}{v:AV}{l:List KQ}(hv:Sl h 4 v (JR l))(hl:l.length<=9223372036854775807){g:Nat}(hg:g<1000){caps:List AV}{p:KQ->Bool}
  (hF:∀ x∈l,∀ lo,(run lib).fn g (AL x::caps) h lo=some (.bool (p x),h)) (lo:Nat):(run lib).fn 94 [v,.fn g caps] h lo=some (.bool (l.any p),h):=by
 have e:=fun lo=>aL9 hv hl hg hF lo;have hn:=aCG (l:=l) (p:=p);rw[<-hn];rw[jH (x:=x94) rfl rfl rfl rfl];simp(maxSteps:=30000000)(disch:=omega)only[go_sem,x94,e]
theorem aCY{q:Rat}(h:JD q):Me (fZ q.num) (fZ (q.den:Int))=true:=ajk h
theorem aMa{a:KQ}(ha:abR a)(h:Heap)(lo:Nat):(run lib).fn 93 [AL a] h lo=some (.bool false,h):=by
 have e1:=fun H lo=>amO (fZ a.1.num) (fZ (a.1.den:Int)) H lo;have e2:=fun H lo=>amO (fZ a.2.num) (fZ (a.2.den:Int)) H lo;rw[aCY ha.x]at e1;rw[aCY ha.y]at e2;simp only[nC]at e1 e2;unfold AL;rw[jH (x:=x93) rfl rfl rfl rfl];simp(maxSteps:=30000000)(disch:=omega)only[go_sem,x93,e1,e2]
structure WS where
 rs:RS
 bad:Bool
 b1:Nat×aU
 b2:Nat×aU
 res:Bool
def Ni(a:KQ):List AV:=[.str (fZ a.1.num),.str (fZ (a.1.den:Int)),.str (fZ a.2.num),.str (fZ (a.2.den:Int))]
def aiJ(h:Heap)(v:AV):Env:=[(2,.bq (h.length+4) 1 0),(4,.bq (h.length+3) 1 0),(23,.fn 132 [.iE [v]])]
def pvD(h:Heap)(v:AV):kP:=⟨5,h.length,h.length,5,aiJ h v⟩
def pvH(h:Heap)(v:AV)(st:WS):Heap:=h++[(1,.aV (pvD h v) st.rs),st.b1,st.b2,(1,.box [.bool st.bad]),(1,.box [.bool st.res])]
def TN(a b:KQ):Bool:=decide (a.1<b.1)&&decide (a.2<b.2)
def Q9(st:WS)(a b:KQ):WS×Bool :=
 (⟨if TN a b then .ready else .done .ret,if TN a b then st.bad||(abQ a b).isNone else st.bad,(st.b1.1+1,.box (Ni b)),(st.b2.1+1,.box (Ni a)),if TN a b then st.res else false⟩,TN a b)
theorem aCZ(a b:Rat):decide (0<=Mf a b)=!decide (a<b):=by
 rcases aJP a b with⟨e,l⟩|⟨e,l⟩|⟨e,l⟩
 ·rw[e,decide_eq_true l];rfl
 ·rw[e,l,show decide (b<b)=false from decide_eq_false Rat.lt_irrefl];rfl
 ·rw[e,show decide (a<b)=false from decide_eq_false (by grind)];rfl
theorem aMb{h:Heap}{v:AV}(st:WS)(hr:st.rs=.ready){a b:KQ}(ha:abR a)(hb:abR b) :
  tK (run lib) ⟨h.length,h.length+5,0,none⟩ (h.length+0) 1 [AL a,AL b] (pvH h v st)=some (.bool (Q9 st a b).2,pvH h v (Q9 st a b).1):=by
 obtain⟨rs,bad,⟨v1,c1⟩,⟨v2,c2⟩,res⟩:=st;simp only at hr;subst hr;obtain⟨D,hD⟩:∃ D:kP,D=pvD h v:=⟨_,rfl⟩;simp only[pvH,Q9,<-hD]
 have ha1:bV lib ⟨h.length,h.length,5,some (h.length+0,1)⟩ r5.xQ ((r5.ps.zip [AL a,AL b]).foldl (fun e p=>e.set p.1 p.2) (aiJ h v),h++[(1,.aV D .ready),(v1,c1),(v2,c2),(1,.box [.bool bad]),(1,.box [.bool res])]) =
   some (.norm,([(2,.bq (h.length+4) 1 0),(4,.bq (h.length+3) 1 0),(5,.bq (h.length+2) (v2+1) 0),(6,.bq (h.length+1) (v1+1) 0)],h++[(1,.aV D .ready),(v1+1,.box (Ni b)),(v2+1,.box (Ni a)),(1,.box [.bool bad]),(1,.box [.bool res])])):=by
  have em:∀ fr:Heap,mK ⟨h.length,h.length,5,some (h.length+0,1)⟩ 2 (.box [.str [],.str [],.str [],.str []]) (h++fr)=mkF 2 5 (.box [.str [],.str [],.str [],.str []]) h fr fr[2]?:=fun fr=>Zk (by rfl)
  have em1:∀ fr:Heap,mK ⟨h.length,h.length,5,some (h.length+0,1)⟩ 1 (.box [.str [],.str [],.str [],.str []]) (h++fr)=mkF 1 5 (.box [.str [],.str [],.str [],.str []]) h fr fr[1]?:=fun fr=>Zk (by rfl)
  have es:=fun(fr:Heap) s ak (k:KQ)=>Ro (lo:=h.length) (ns:=5) (sz:=4) (s:=s) (ak:=ak) (off:=0) (h:=h) (fr:=fr) (v:=AL k) (p:=(h.length+0,1)) (iJ _) (by rfl)
  simp only[AL]at es⊢;simp(maxSteps:=30000000)(disch:=omega)only[go_sem,r5,aiJ,Ni,em,em1,es,List.zip_cons_cons,ZU,List.foldl_cons,TA]
 have q1:=fun H lo=>aCC ha.x hb.x H lo;have q2:=fun H lo=>aCC ha.y hb.y H lo;simp only[rt,nC]at q1 q2
 have hb1:∃ zk,bV lib ⟨h.length,h.length,5,some (h.length+0,1)⟩ r5.body ([(2,.bq (h.length+4) 1 0),(4,.bq (h.length+3) 1 0),(5,.bq (h.length+2) (v2+1) 0),(6,.bq (h.length+1) (v1+1) 0)],(h++[(1,aU.aV D .ready),(v1+1,aU.box (Ni b)),(v2+1,aU.box (Ni a)),(1,aU.box [.bool bad]),(1,aU.box [.bool res])]).set (h.length+0) (1,.aV D .busy)) =
   some (if TN a b then .norm else .ret,(zk,h++[(1,.aV D .busy),(v1+1,.box (Ni b)),(v2+1,.box (Ni a)),(1,.box [.bool (if TN a b then bad||(abQ a b).isNone else bad)]),(1,.box [.bool (if TN a b then res else false)])])):=by
  refine⟨[], ?_⟩;rw[o7,List.set_cons_zero];have pb:=fun(fr:Heap) x=>Ro (lo:=h.length) (ns:=5) (sz:=1) (s:=4) (ak:=1) (off:=0) (h:=h) (fr:=fr) (v:=.bool x) (p:=(h.length+0,1)) (iJ _) (by rfl)
  have n1:=aCZ a.1 b.1;have n2:=aCZ a.2 b.2;unfold TN;by_cases c1:a.1<b.1
  ·have m1:¬ 0<=Mf a.1 b.1:=by rw[decide_eq_true c1]at n1;simpa using n1
   by_cases c2:a.2<b.2
   ·have m2:¬ 0<=Mf a.2 b.2:=by rw[decide_eq_true c2]at n2;simpa using n2
    simp only[c1,c2,decide_true,Bool.and_self,if_true]
    cases bad with
    |true =>
     have sp:=aL0 (h:=h++[(1,.aV D .busy),(v1+1,.box (Ni b)),(v2+1,.box (Ni a)),y5,(1,.box [.bool res])]) (id:=h.length+3) (by rw[ku];rfl) a b (lo:=h.length) (by omega)
     simp only[AL,Ni,nC,y5]at sp⊢
     simp(maxSteps:=30000000)(disch:=omega)only[go_sem,r5,q1,q2,m1,m2,sp]
    |false =>
     cases hs:abQ a b with
     |some q =>
      have sp:=aL1 (h:=h++[(1,.aV D .busy),(v1+1,.box (Ni b)),(v2+1,.box (Ni a)),okB,(1,.box [.bool res])]) (id:=h.length+3) (by rw[ku];rfl) ha hb hs (lo:=h.length) (by omega)
      simp only[AL,Ni,amX,nC,okB]at sp⊢
      simp(maxSteps:=30000000)(disch:=omega)only[go_sem,r5,q1,q2,m1,m2,sp,Option.isNone_some]
     |none =>
      have sp:=aL2 (h:=h++[(1,.aV D .busy),(v1+1,.box (Ni b)),(v2+1,.box (Ni a)),okB,(1,.box [.bool res])]) (id:=h.length+3) (by rw[ku];rfl) ha hb hs (lo:=h.length) (by omega)
      rw[o7]at sp;simp only[AL,Ni,nC,okB,y5,List.set_cons_succ,List.set_cons_zero]at sp⊢;simp(maxSteps:=30000000)(disch:=omega)only[go_sem,r5,q1,q2,m1,m2,sp,Option.isNone_none]
   ·have m2:0<=Mf a.2 b.2:=by rw[decide_eq_false c2]at n2;simpa using n2
    simp only[c1,c2,decide_true,decide_false,Bool.and_false,if_false,uM];simp only[Ni];simp(maxSteps:=30000000)(disch:=omega)only[go_sem,r5,q1,q2,m1,m2,pb]
  ·have m1:0<=Mf a.1 b.1:=by rw[decide_eq_false c1]at n1;simpa using n1
   simp only[c1,decide_false,Z5,if_false,uM];simp only[Ni];simp(maxSteps:=30000000)(disch:=omega)only[go_sem,r5,q1,q2,m1,pb]
 obtain⟨zk,hb2⟩:=hb1;have hg:(h++[(1,aU.aV D .ready),(v1,c1),(v2,c2),(1,aU.box [.bool bad]),(1,aU.box [.bool res])])[h.length+0]?=some (1,.aV ⟨5,h.length,h.length,5,aiJ h v⟩ .ready):=by rw[ku,hD];rfl
 have:=Zb (L:=lib) (cx:=⟨h.length,h.length+5,0,none⟩) hg (iJ _) (by omega) (iJ _) (by simp[AL,AV.EY,AV.closed]) (x:=r5) rfl rfl ha1 (by rw[ku];rfl) hb2 (by rw[ku];rfl)
 rw[this,o7];cases TN a b<;>rfl
def vgo:Bool->List KQ->Option Bool
 |bad,a::b::r=>if TN a b then vgo (bad||(abQ a b).isNone) (b::r)else none
 |bad,_=>some bad
def wvB(l:List KQ):Bool:=decide (2<=l.length)&&(decide (l.length<=24)&&(vgo false l==some false))
theorem aC0:∀(l:List KQ) (st:WS),st.rs=.ready->(match vgo st.bad l with
  |some bad=>(pgo Q9 st l).rs=.ready/\(pgo Q9 st l).bad=bad
  |none=>(pgo Q9 st l).rs=.done .ret/\(pgo Q9 st l).res=false)
 |[],st,h=>⟨h,rfl⟩
 |[a],st,h=>⟨h,rfl⟩
 |a::b::r,st,h=>by
  rw[vgo,pgo];cases hc:TN a b
  ·have e:(Q9 st a b).2=false:=hc;rw[e];simp only[uM,if_false];exact⟨by simp[Q9,hc],by simp[Q9,hc]⟩
  ·have e:(Q9 st a b).2=true:=hc;rw[e];simp only[if_true];have i:=aC0 (b::r) (Q9 st a b).1 (by simp[Q9,hc])
   have eb:(Q9 st a b).1.bad=(st.bad||(abQ a b).isNone):=by simp[Q9,hc]
   rw[eb]at i;exact i
theorem aMc{z:Nat}{v:AV}{es:List AV}(p:oz z v es):v.val=true/\v.cells=[v]/\∃ f z',(z'=z\/es=[])/\∀ b k h,gI b k v h=some (Ny f z' es,h):=by
 rcases p with⟨rfl,rfl⟩|⟨z',rfl|rfl,hz⟩
 ·exact⟨rfl,rfl,false,0,.inr rfl,fun b k h=>by simp[gI,Ny]⟩
 ·exact⟨rfl,rfl,false,z',hz,fun b k h=>by simp[gI,Ny]⟩
 ·exact⟨rfl,rfl,true,z',hz,fun b k h=>by simp[gI,Ny]⟩
theorem aMd{h:Heap}{v:AV}{l:List KQ}(hp:oz 4 v (JR l))(hl:l.length<=9223372036854775807)(hf:∀ a∈l,abR a)(lo:Nat):enter x58 (bV lib) [.agg [v]] h lo=some (.bool (wvB l),h):=by
 obtain⟨q1,q2,f,z,hz,q3⟩:=aMc hp;obtain⟨w,hw⟩:∃ w,w=Ny f z (JR l):=⟨_,rfl⟩;have sl:∀ H,Sl H 4 w (JR l):=fun H=>by rw[hw];exact awg hz f H
 have w1:w.val=true:=by rw[hw];exact aLc _ _ _
 have w2:w.cells=[w]:=by rw[hw];exact aLd _ _ _
 have w3:∀ b k h,gI b k w h=some (w,h):=fun b k h=>by rw[hw];exact av3 _ _ _ _ _ _
 have w4:w.closed=true:=by rw[hw];exact aLe _ _ _
 rw[<-hw]at q3;clear hw;have ll:=oW (sl []).len;rw[amY]at ll;have cf:=fun H lo=>aL' (g:=93) (caps:=[]) (p:=fun _=>false) (sl H) hl (by decide) (fun a ha lo=>aMa (hf a ha) H lo) lo
 have ca:l.any (fun _=>false)=false:=by simp
 rw[ca]at cf;have pr:=fun H lo=>aL7 (v:=w) (v':=w) H w1 w3 w2 lo;have hs1:∀ st:WS,(pvH h w st).length=h.length+5:=fun st=>by simp[pvH]
 have g:=aL6 (id:=h.length+0) (iv:=1) (H:=pvH h w) (nb:=h.length+5) (lo:=h.length) (step:=Q9) (Iv:=fun st=>st.rs=.ready) (v:=w) (l:=l) hl (fun st=>sl _) hs1 (by omega) (fun st a b _ _ hi hc=>by have:TN a b=true:=hc;simp[Q9,this])
  (fun st a b h1 h2 hi=>aMb (h:=h) (v:=w) st hi (hf a h1) (hf b h2)) ⟨.ready,false,(0,.dead),(0,.dead),false⟩ rfl
 have hv:=aC0 l ⟨.ready,false,(0,.dead),(0,.dead),false⟩ rfl;simp only at hv;rw[aAr rfl rfl];unfold wvB;by_cases c1:2<=l.length
 ·by_cases c2:l.length<=24
  ·have k1:¬ (l.length:Int)<2:=by omega
   have k2:¬ 24<(l.length:Int):=by omega
   simp only[c1,c2,decide_true,Ri];obtain⟨st,hst⟩:∃ st,st=pgo Q9 ⟨.ready,false,(0,.dead),(0,.dead),false⟩ l:=⟨_,rfl⟩;rw[<-hst]at g hv;obtain⟨rs,bad,B1,B2,res⟩:=st
   cases hg:vgo false l with
   |some bd =>
    rw[hg]at hv;obtain⟨rfl,rfl⟩:=hv
    have g3:=abE (L:=lib) (lo:=h.length) (ns:=5) (s:=0) (g:=5) (it:=132) (v:=0) (caps:=[.iE [w]]) (env:=aiJ h w) (h:=h) (b:=.dead)
     (fr:=[(0,.dead),(0,.dead),(0,.dead),(1,.box [.bool false]),(1,.box [.bool false])])
     (fr':=[(1,.aV (pvD h w) .ready),B1,B2,(1,.box [.bool bad]),(1,.box [.bool res])])
     (f:=.t 23) rfl (by omega) rfl g rfl
    simp only[aiJ,List.set_cons_zero]at g3;cases bad
    ·simp(maxSteps:=30000000)(disch:=omega)only[go_sem,x58,q1,q2,q3,w1,w2,w3,w4,ll,cf,pr,k1,k2,g3];rfl
    ·simp(maxSteps:=30000000)(disch:=omega)only[go_sem,x58,q1,q2,q3,w1,w2,w3,w4,ll,cf,pr,k1,k2,g3]
     rfl
   |none =>
    rw[hg]at hv;obtain⟨rfl,rfl⟩:=hv
    have g3:=at7 (L:=lib) (lo:=h.length) (ns:=5) (s:=0) (g:=5) (it:=132) (v:=0) (caps:=[.iE [w]]) (env:=aiJ h w) (h:=h) (b:=.dead)
     (fr:=[(0,.dead),(0,.dead),(0,.dead),(1,.box [.bool false]),(1,.box [.bool false])])
     (fr':=[(1,.aV (pvD h w) (.done .ret)),B1,B2,(1,.box [.bool bad]),(1,.box [.bool false])])
     (f:=.t 23) rfl (by omega) rfl g rfl
    simp only[aiJ,List.set_cons_zero]at g3;simp(maxSteps:=30000000)(disch:=omega)only[go_sem,x58,q1,q2,q3,w1,w2,w3,w4,ll,cf,pr,k1,k2,g3];rfl
  ·have k1:¬ (l.length:Int)<2:=by omega
   have k2:24<(l.length:Int):=by omega
   simp only[c1,c2,decide_true,decide_false,Ri,Z5];simp(maxSteps:=30000000)(disch:=omega)only[go_sem,x58,q1,q2,q3,w1,w2,w3,w4,ll,k1,k2]
 ·have k1:(l.length:Int)<2:=by omega
  simp only[c1,decide_false,Z5];simp(maxSteps:=30000000)(disch:=omega)only[go_sem,x58,q1,q2,q3,w1,w2,w3,w4,ll,k1]
theorem aMe{h:Heap}{v:AV}{l:List KQ}(hv:Sl h 4 v (JR l))(hl:l.length<=9223372036854775807)(hf:∀ a∈l,abR a)(lo:Nat):(run lib).fn 58 [.agg [v]] h lo=some (.bool (wvB l),h):=by
 obtain⟨v',h1,h2⟩:=aIf hv;refine aIe (x:=x58) (vs:=[.agg [v']]) rfl rfl rfl ?_ (aMd h2 hl hf 0) rfl;simp[TW,h1,view]
end Go.VI.Dump
namespace Go.VI
theorem aMf{lo ns:Nat}{p:Nat×Nat}(env:Env)(h fr:Heap)(s:Nat):ou.ok ⟨lo,h.length,ns,some p⟩ env (h++fr) (.SV s)=ckN fr[s]?:=by
 simp only[ou.ok,ku];rfl
theorem aiK(v z:Nat)(es:List AV):ckN (some (jw (v,.dead) z es))=true:=by unfold jw;split<;>rfl
theorem aMg{cx:Cx}{s t z lim:Nat}{h fr:Heap}{b0:Nat×aU}{es xs:List AV}(hne:es≠[])(hlo:cx.lo<=h.length+t)(hb:fr[t]?=some (jw b0 z es))(hl:es.length+xs.length<=lim) :
  wG cx s z lim (jJ (h.length+t) b0 z es) xs (h++fr)=some (jJ (h.length+t) b0 z (es++xs),h++fr.set t (jw b0 z (es++xs))):=by
 rw[RI hne]at hb;rw[QV hne,QV (by simp[hne]),RI (by simp[hne]),ac7 (by rw[ku,hb]) hlo hl,o7,uG]
theorem bq1:(true==true)=true:=rfl
theorem bq2:(false==false)=true:=rfl
theorem bq3:(true==false)=false:=rfl
theorem bq4:(false==true)=false:=rfl
end Go.VI
namespace Go.VI.Dump
open Go.VI.Num
/- BIGSTEPS -/
def qk(p:Pr):KQ:=((p.1:Rat),(p.2:Rat))
def xE(K:List Pr):List AV:=JR (K.map qk)
theorem ajD(K:List Pr)(p:Pr):xE (K++[p])=xE K++[.agg [.str (fZ p.1),.str [49],.str (fZ p.2),.str [49]]]:=by
 simp[xE,JR,qk,AL,aBx]
theorem aMh(K:List Pr):(xE K).length=K.length:=by simp[xE]
theorem aMi{K:List Pr}:xE K=[]↔K=[]:=by simp[xE,JR]
theorem aC1{z:Int}(h:z.natAbs<100000):Fit z:=by
 unfold Fit;exact Zv h (Np (show 100000<=10^5 by decide) (acr (by decide) (by decide)))
theorem aMj(z:Int):akC z 1=some (z:Rat):=by
 unfold akC;rw[if_neg (by decide)]
 congr 1;rw[Rat.divInt_eq_div];grind
theorem aC2{z:Int}(hz:z.natAbs<100000)(h:Heap)(lo:Nat):(run lib).fn 39 [.int .i64 z,.int .i64 1] h lo=some (.tuple [.agg [.str (fZ z),.str [49]],.int .i64 0],h):=by
 have:=aK' (n:=z) (d:=1) (aC1 hz) (aC1 (by decide)) (by omega) (by decide) h lo
 rw[aMj]at this;exact this
theorem aMk{x y:Int}(hx:x.natAbs<100000)(hy:y.natAbs<100000)(h:Heap)(lo:Nat):(run lib).fn 57 [.int .i64 x,.int .i64 y] h lo=some (.agg [.str (fZ x),.str [49],.str (fZ y),.str [49]],h):=by
 have e1:=fun H lo=>aC2 hx H lo;have e2:=fun H lo=>aC2 hy H lo;rw[jH (x:=x57) rfl rfl rfl rfl];simp(maxSteps:=30000000)(disch:=omega)only[go_sem,x57,e1,e2]
abbrev MS:=Bool×List Pr×Nat×aU
def ak2(h:Heap)(x:LV):Env:=[(4,.bq (h.length+7) 1 0),(5,.int .i64 0),(8,.bq (h.length+6) 1 0),(9,.bq (h.length+5) 1 0),(10,.bq (h.length+4) 1 0),(35,.fn 89 [NC x])]
def mpD(h:Heap)(x:LV):kP:=⟨3,h.length,h.length,8,ak2 h x⟩
def mpH(h:Heap)(x:LV)(r:Pr)(st:MS):Heap:=h++[(1,.aV (mpD h x) .ready),st.2.2,(0,.dead),jw (0,.dead) 4 (xE st.2.1),(1,.box [.bool st.1]),(1,.box [jJ (h.length+3) (0,.dead) 4 (xE st.2.1)]),(1,.box [.int .i64 r.1,.int .i64 r.2]),(1,.box [.bO])]
def mpT(r:Pr)(st:MS)(X:Stp):MS:=((JQ r (st.1,st.2.1) X).1,(JQ r (st.1,st.2.1) X).2,st.2.2.1+1,.box (sO X))
def mpI(r:Pr)(s a:Int)(st:MS):Prop:=(r.1<s->st.2.1≠[])/\(st.2.1.length:Int)<=2*s/\0<=s
theorem aMl{x:LV}(h:Heap)(r:Pr)(hr:r.1<r.2)(st:MS)(X:Stp)(fr:Heap)(hX:Nz X)(hi:mpI r X.fr X.be st) :
  tK (run lib) ⟨h.length,h.length+8,3,none⟩ (h.length+0) 1 [Gw X] (mpH h x r st++fr)=some (.bool true,mpH h x r (mpT r st X)++fr):=by
 obtain⟨f,K,v,b⟩:=st;obtain⟨r1,r2⟩:=r;obtain⟨x1,x2,x3,x4,x5,x6,x7,x8,x9,x10⟩:=hX;obtain⟨hi1,hi2,hi3⟩:=hi;simp only at hi1 hi2 hr;obtain⟨D,hD⟩:∃ D:kP,D=mpD h x:=⟨_,rfl⟩;simp only[mpH,mpT,sZ,List.cons_append,List.nil_append,<-hD]
 have ha:bV lib ⟨h.length,h.length,8,some (h.length+0,1)⟩ r3.xQ ((r3.ps.zip [Gw X]).foldl (fun e p=>e.set p.1 p.2) (ak2 h x),h++((1,.aV D .ready)::(v,b)::(0,.dead)::jw (0,.dead) 4 (xE K)::(1,.box [.bool f])::(1,.box [jJ (h.length+3) (0,.dead) 4 (xE K)])::(1,.box [.int .i64 r1,.int .i64 r2])::(1,.box [.bO])::fr)) =
   some (.norm,([(8,.bq (h.length+6) 1 0),(9,.bq (h.length+5) 1 0),(10,.bq (h.length+4) 1 0),(11,.bq (h.length+1) (v+1) 0)],h++((1,.aV D .ready)::(v+1,.box (sO X))::(0,.dead)::jw (0,.dead) 4 (xE K)::(1,.box [.bool f])::(1,.box [jJ (h.length+3) (0,.dead) 4 (xE K)])::(1,.box [.int .i64 r1,.int .i64 r2])::(1,.box [.bO])::fr))):=by
  have em:∀ g:Heap,mK ⟨h.length,h.length,8,some (h.length+0,1)⟩ 1 (.box [.int .i64 0,.int .i64 0,.int .i64 0,.int .i64 0,.int .i64 0,.bool false,.bool false]) (h++g)=mkF 1 8 (.box [.int .i64 0,.int .i64 0,.int .i64 0,.int .i64 0,.int .i64 0,.bool false,.bool false]) h g g[1]?:=fun g=>Zk (by rfl)
  have es:=fun(g:Heap) ak=>Ro (lo:=h.length) (ns:=8) (sz:=7) (s:=1) (ak:=ak) (off:=0) (h:=h) (fr:=g) (v:=Gw X) (p:=(h.length+0,1)) (iJ _) (by rfl)
  simp only[Gw]at es⊢;simp(maxSteps:=30000000)(disch:=omega)only[go_sem,r3,ak2,sO,em,es,List.zip_cons_cons,ZU,List.foldl_cons,TA]
 have hb:∃ zk e,e≠Ex.exit 0/\e=.norm/\bV lib ⟨h.length,h.length,8,some (h.length+0,1)⟩ r3.body ([(8,.bq (h.length+6) 1 0),(9,.bq (h.length+5) 1 0),(10,.bq (h.length+4) 1 0),(11,.bq (h.length+1) (v+1) 0)],(h++((1,aU.aV D .ready)::(v+1,aU.box (sO X))::(0,aU.dead)::jw (0,.dead) 4 (xE K)::(1,aU.box [.bool f])::(1,aU.box [jJ (h.length+3) (0,.dead) 4 (xE K)])::(1,aU.box [.int .i64 r1,.int .i64 r2])::(1,aU.box [.bO])::fr)).set (h.length+0) (1,.aV D .busy)) =
   some (e,(zk,h++((1,.aV D .busy)::(v+1,.box (sO X))::(0,.dead)::jw (0,.dead) 4 (xE (JQ (r1,r2) (f,K) X).2)::(1,.box [.bool (JQ (r1,r2) (f,K) X).1])::(1,.box [jJ (h.length+3) (0,.dead) 4 (xE (JQ (r1,r2) (f,K) X).2)])::(1,.box [.int .i64 r1,.int .i64 r2])::(1,.box [.bO])::fr))):=by
  refine⟨if (JQ (r1,r2) (f,K) X).2=(JQ (r1,r2) (f,K) X).2/\¬ (X.fr<r1\/r2<=X.fr)/\X.to≠r2 then[(9,.bq (h.length+5) 1 0),(11,.bq (h.length+1) (v+1) 0),(81,.bool false)] else[],.norm,by simp,rfl, ?_⟩
  rw[o7,List.set_cons_zero];have kn:=fun a b (ha:a.natAbs<100000) (hb:b.natAbs<100000) H lo=>aMk (x:=a) (y:=b) ha hb H lo;have k1:=kn X.fr X.be (by omega) (by omega)
  have k2:=kn X.to X.af (by omega) (by omega)
  have pb:=fun(g:Heap) c=>Ro (lo:=h.length) (ns:=8) (sz:=1) (s:=4) (ak:=1) (off:=0) (h:=h) (fr:=g) (v:=.bool c) (p:=(h.length+0,1)) (iJ _) (by rfl)
  have pa:=fun(g:Heap) (es:List AV)=>awN (lo:=h.length) (ns:=8) (s:=5) (ak:=1) (off:=0) (h:=h) (p:=(h.length+0,1)) (fr:=g) (v:=jJ (h.length+3) (0,.dead) 4 es) (iJ _) (aCN (by omega)) ⟨by rw[Tt];rfl,ai9 _ _ _ _⟩
  have ap1:=fun(g:Heap) (es:List AV) (w:AV) (hg:g[3]?=some (jw (0,.dead) 4 es)) (hl:es.length<=10000)=>(awM (p:=(h.length+0,1))).trans (RQ (lo:=h.length) (ns:=8) (s:=3) (z:=4) (lim:=2199023255552) (h:=h) (fr:=g) (b0:=(0,.dead)) (es:=es) (xs:=[w]) (by omega) (by omega) hg (by simp;omega))
  have ap2:=fun(g:Heap) (es:List AV) (w:AV) (hg:g[3]?=some (jw (0,.dead) 4 es)) (hl:es.length<=10000) (hne:es≠[])=>aMg (cx:=⟨h.length,h.length,8,some (h.length+0,1)⟩) (s:=2) (t:=3) (z:=4) (lim:=2199023255552) (h:=h) (fr:=g) (b0:=(0,.dead)) (es:=es) (xs:=[w]) hne (by simp) hg (by simp;omega)
  obtain⟨G,hG⟩:∃ G:Bool->List AV->AV->Heap,G=fun c es m=>(1,.aV D .busy)::(v+1,.box (sO X))::(0,.dead)::jw (0,.dead) 4 es::(1,.box [.bool c])::(1,.box [m])::(1,.box [.int .i64 r1,.int .i64 r2])::(1,.box [.bO])::fr:=⟨_,rfl⟩;have gg:∀ c es m,(G c es m)[3]?=some (jw (0,.dead) 4 es):=fun c es m=>by rw[hG];rfl
  have hKl:(xE K).length<=5000:=by rw[aMh];omega
  unfold JQ;simp only;by_cases c1:X.fr<r1
  ·rw[if_pos (show X.fr<r1\/r2<=X.fr from .inl c1),if_neg (by simp[c1])]
   simp only[sO];simp(maxSteps:=30000000)(disch:=omega)only[go_sem,r3,c1]
  ·by_cases c2:r2<=X.fr
   ·rw[if_pos (show X.fr<r1\/r2<=X.fr from .inr c2),if_neg (by simp[c2])]
    simp only[sO];simp(maxSteps:=30000000)(disch:=omega)only[go_sem,r3,c1,c2]
   ·rw[if_neg (show ¬ (X.fr<r1\/r2<=X.fr) by omega)]
    have hnot:¬ (X.fr<r1\/r2<=X.fr):=by omega
    have fin:∀ f s:Bool,s=f\/s=!f:=fun f s=>by cases f<;>cases s<;>simp
    have ck:=fun env (g:Heap)=>aMf (lo:=h.length) (ns:=8) (p:=(h.length+0,1)) env h g;have a1:=fun c m w=>ap1 (G c (xE K) m) (xE K) w (gg _ _ _) (by omega)
    have a3:=fun c m w (hne:xE K≠[])=>ap2 (G c (xE K) m) (xE K) w (gg _ _ _) (by omega) hne
    have a2:=fun c m u w=>ap2 (G c (xE K++[u]) m) (xE K++[u]) w (gg _ _ _) (by simp;omega) (by simp)
    subst hG;simp only[List.set_cons_succ,List.set_cons_zero]at a1 a2 a3;simp only[sO]at a1 a2 a3⊢;generalize X.str=s at*;by_cases c5:X.fr=r1
    ·rw[if_pos (show X.fr=r1\/s≠f from .inl c5)]
     by_cases c4:X.to=r2
     ·rw[if_pos c4,if_neg (by simp[c4]),ajD,ajD]
      subst c4;subst c5;simp(maxSteps:=30000000)(disch:=omega)only[go_sem,r3,c1,c2,pb,pa,k1,k2,a1,a2,ck,aiK,Tt,bq1,bq2,bq3,bq4]
     ·rw[if_neg c4,Gs,if_pos ⟨trivial,hnot,c4⟩,ajD];subst c5;simp(maxSteps:=30000000)(disch:=omega)only[go_sem,r3,c4,c1,c2,pb,pa,k1,k2,a1,a2,ck,aiK,Tt,bq1,bq2,bq3,bq4]
    ·have hne:xE K≠[]:=fun e=>hi1 (by omega) (aMi.mp e)
     have a3:=fun c m w=>a3 c m w hne;rcases fin f s with rfl|rfl
     ·rw[if_neg (show ¬ (X.fr=r1\/s≠s) by simp[c5]),Gs]
      by_cases c4:X.to=r2
      ·rw[if_pos c4,if_neg (by simp[c4]),ajD]
       subst c4;cases s<;>simp(maxSteps:=30000000)(disch:=omega)only[go_sem,r3,c5,c1,c2,pb,pa,k1,k2,a3,ck,aiK,Tt,bq1,bq2,bq3,bq4]
      ·rw[if_neg c4,Gs,if_pos ⟨trivial,hnot,c4⟩];cases s<;>simp(maxSteps:=30000000)(disch:=omega)only[go_sem,r3,c4,c5,c1,c2,pb,pa,k1,k2,a3,ck,aiK,Tt,bq1,bq2,bq3,bq4]
     ·rw[if_pos (show X.fr=r1\/(!f)≠f from .inr (by cases f<;>simp))]
      by_cases c4:X.to=r2
      ·rw[if_pos c4,if_neg (by simp[c4]),ajD,ajD]
       subst c4;cases f<;>simp only[Bool.not_false,Bool.not_true]at a1 a2⊢<;>simp(maxSteps:=30000000)(disch:=omega)only[go_sem,r3,c5,c1,c2,pb,pa,k1,k2,a1,a2,ck,aiK,Tt,bq1,bq2,bq3,bq4]
      ·rw[if_neg c4,Gs,if_pos ⟨trivial,hnot,c4⟩,ajD];cases f<;>simp only[Bool.not_false,Bool.not_true]at a1 a2⊢<;>simp(maxSteps:=30000000)(disch:=omega)only[go_sem,r3,c4,c5,c1,c2,pb,pa,k1,k2,a1,a2,ck,aiK,Tt,bq1,bq2,bq3,bq4]
 obtain⟨zk,e,_,rfl,hb⟩:=hb;have hg:(h++((1,aU.aV D .ready)::(v,b)::(0,aU.dead)::jw (0,.dead) 4 (xE K)::(1,aU.box [.bool f])::(1,aU.box [jJ (h.length+3) (0,.dead) 4 (xE K)])::(1,aU.box [.int .i64 r1,.int .i64 r2])::(1,aU.box [.bO])::fr))[h.length+0]?=some (1,.aV ⟨3,h.length,h.length,8,ak2 h x⟩ .ready):=by rw[ku,hD];rfl
 have:=Zb (L:=lib) (cx:=⟨h.length,h.length+8,3,none⟩) hg (iJ _) (by omega) (iJ _) (by simp[Gw,AV.EY,AV.closed]) (x:=r3) rfl rfl ha (by rw[ku];rfl) hb (by rw[ku];rfl)
 rw[this,o7];rfl
theorem aMm(r:Pr)(xs:List Stp):∀ st:MS,((xs.foldl (mpT r) st).1,(xs.foldl (mpT r) st).2.1)=xs.foldl (JQ r) (st.1,st.2.1):=by
 induction xs with
 |nil=>intro st;rfl
 |cons X xs ih=>intro st;rw[List.foldl_cons,ih,List.foldl_cons];rfl
theorem aMn{r:Pr}(hr:r.1<r.2)(st:MS)(X:Stp)(hX:Nz X)(hq:X.to<=r.1\/r.1<=X.fr)(hi:mpI r X.fr X.be st):mpI r X.to X.af (mpT r st X):=by
 obtain⟨h1,h2,h3⟩:=hi;have x1:=hX.fr;have x2:=hX.to;refine⟨fun hs=>?_, ?_,by omega⟩
 ·simp only[mpT,JQ];split
  ·rename_i hc;simp only;exact h1 (by omega)
  ·rename_i hc;simp only;intro e;rw[List.append_eq_nil_iff,List.append_eq_nil_iff]at e;by_cases c:r.1<X.fr
   ·exact h1 c e.1.1
   ·have h5:=e.1.2;rw[if_pos (.inl (by omega))]at h5
    cases h5
 ·simp only[mpT,JQ];split
  ·simp only;omega
  ·simp only[uG];split<;>split<;>simp<;>omega
end Go.VI.Dump
namespace Go.VI.Dump
open Go.VI.Num
/- BIGSTEPS -/
section
variable {σ:Type}{H:σ->Heap}{nb lo id iv:Nat}{step:σ->KQ->KQ->σ×Bool}{Iv:Nat->σ->Prop}
end
structure aSY where
 es:List Rat
 b1:Nat×aU
 b2:Nat×aU
end Go.VI.Dump
namespace Go.VI
theorem awW{g:Heap}{nb:Nat}(hg:g.length=nb)(fr:Heap)(s:Nat)(b:Nat×aU):(g++fr).set (nb+s) b=g++fr.set s b:=by subst hg;exact o7 g fr s b
variable {L:Lib}
theorem aMo{lo ns s g it v:Nat}{caps:List AV}{env:Env}{h h' fr fr':Heap}{f:bD}{b:aU}{d':kP}{r:AV}(hn:h'.length=h.length)(hf:f.ev env=.fn it caps)(hs:s<ns)(hb:fr[s]?=some (v,b))
  (hc:(run L).fn it (.lF (h.length+s) (v+1)::caps) (h++fr.set s (v+1,.aV ⟨g,lo,h.length,ns,env⟩ .ready)) lo=some (r,h'++fr')) (hr:fr'[s]?=some (v+1,.aV d' .ready)) (hit:it<1000:=by decide) :
  bV L ⟨lo,h.length,ns,none⟩ (.Gm s f g) (env,h++fr)=some (.norm,(env,h'++fr'.set s (v+1,.dead))):=by
 rw[arG];simp only[exec,hf,abY]
 have hm:mK ⟨lo,h.length,ns,none⟩ s (.aV ⟨g,lo,h.length,ns,env⟩ .ready) (h++fr)=some (v+1,h++fr.set s (v+1,.aV ⟨g,lo,h.length,ns,env⟩ .ready)):=by
  rw[abz,hb,ack,if_pos hs]
 have e1:u7 it=it:=by unfold u7;rw[if_pos hit]
 have e2:∀ y:AV,II it [y] caps=y::caps:=fun y=>by unfold II;rw[if_pos hit];rfl
 have gn:(h'++fr')[h.length+s]?=fr'[s]?:=by rw[<-hn,ku]
 rw[hm];simp only[Option.bind_some,e1,e2,hc,gn,hr,if_true,awW hn]
end Go.VI
namespace Go.VI.Dump
open Go.VI.Num
/- BIGSTEPS -/
section
variable {h:Heap}{id lo:Nat}
end
structure VS where
 rs:RS
 bad:Bool
 b1:Nat×aU
 b2:Nat×aU
 b3:Nat×aU
 res:List UInt8×List UInt8
end Go.VI.Dump
namespace Go.VI.Dump
open Go.VI.Num
/- BIGSTEPS -/
theorem aMp{l:qf}{A:List Int}{a:Pr}{K:List Pr}(h:Kn l A a K):(∀ p∈K,a.1<p.1/\a.2<p.2)/\∀ q∈K.getLast?,∀ p∈a::K,p.1<=q.1/\p.2<=q.2:=by
 induction h with
 |one a=>exact⟨by simp,by simp⟩
 |@cons a b K s h ih =>
  obtain⟨i1,i2⟩:=ih;refine⟨fun p hp=>?_,fun q hq p hp=>?_⟩
  ·have:=s.x;have:=s.y;rcases A9.mp hp with rfl|hp
   ·omega
   ·have:=i1 p hp;omega
  ·have s1:=s.x;have s2:=s.y
   cases K with
   |nil =>
    obtain rfl:b=q:=by simpa using hq
    rcases A9.mp hp with rfl|hp
    ·omega
    ·obtain rfl:p=b:=by simpa using hp
     omega
   |cons c K =>
    rw[List.getLast?_cons_cons]at hq;have j:=i2 q hq;rcases A9.mp hp with rfl|hp
    ·have:=j b (by simp);omega
    ·exact j p hp
def okP(p:Pr):Prop:=(0<=p.1/\p.1<=1000)/\(0<=p.2/\p.2<=1000)
theorem aMq{p:Pr}(h:okP p):abR (qk p):=⟨aBM ⟨by have:=h.1;omega,by have:=h.1;omega⟩,aBM ⟨by have:=h.2;omega,by have:=h.2;omega⟩⟩
def spQ(a b:Pr):Rat:=((b.2-a.2:Int):Rat)/((b.1-a.1:Int):Rat)
theorem aMr{a b:Pr}(ha:okP a)(hb:okP b)(hx:a.1<b.1):abQ (qk a) (qk b)=some (spQ a b):=by
 obtain⟨⟨a1,a2⟩,a3,a4⟩:=ha;obtain⟨⟨b1,b2⟩,b3,b4⟩:=hb;unfold abQ qk;simp only;rw[aBN ⟨by omega,by omega⟩ ⟨by omega,by omega⟩,aBN ⟨by omega,by omega⟩ ⟨by omega,by omega⟩]
 simp only[Option.bind_some];exact aJ5 ⟨by omega,by omega⟩ ⟨by omega,by omega⟩ (by omega)
theorem aMs{l:qf}{A:List Int}{a:Pr}{K:List Pr}(h:Kn l A a K):(∀ p∈a::K,okP p)->vgo false ((a::K).map qk)=some false:=by
 induction h with
 |one a=>intro _;rfl
 |@cons a b K s h ih =>
  intro hp;have i:=ih fun p h=>hp p (List.mem_cons_of_mem _ h);rw[List.map_cons]at i;rw[List.map_cons,List.map_cons,vgo]
  have hi:TN (qk a) (qk b)=true:=by
   have h1:(qk a).1<(qk b).1:=Rat.intCast_lt_intCast.mpr s.x;have h2:(qk a).2<(qk b).2:=Rat.intCast_lt_intCast.mpr s.y;unfold TN;rw[decide_eq_true h1,decide_eq_true h2];rfl
  rw[hi,if_pos rfl,aMr (hp a (by simp)) (hp b (by simp)) s.x]
  exact i
theorem aC4{l:qf}(ok:yT l){r:Pr}(hr:Run l r){xs:List Stp}{e:Int}(h:Ch l 0 l.D xs e){a:Pr}{K:List Pr}{y1:Int}(m:aun l r xs a K y1):∀ p∈a::K,okP p:=by
 obtain⟨h1,h2⟩:=aMp m.kn;have h3:=h2 _ m.last;have hD:=ok.D;have hL:=ok.L;have ht:=m.top;have hl:=h.amu ok.E.1;have hd:=h.dl hD.1 (Fy _);have hx:=m.x0;have hy:=m.y0;have hlo:=hr.lo;have hhi:=hr.hi
 have htop:y1<=720:=by
  unfold tu at ht;rw[uG,Tc]at ht;omega
 intro p hp;have h4:=h3 p hp;simp only at h4;rcases A9.mp hp with rfl|hp
 ·exact⟨⟨by omega,by omega⟩,by omega,by omega⟩
 ·have:=h1 p hp;exact⟨⟨by omega,by omega⟩,by omega,by omega⟩
theorem aMt{l:qf}(ok:yT l){r:Pr}(hr:Run l r){xs:List Stp}{e:Int}(h:Ch l 0 l.D xs e){a:Pr}{K:List Pr}{y1:Int}(m:aun l r xs a K y1):wvB ((a::K).map qk)=true:=by
 unfold wvB;have:=m.len;rw[aMs m.kn (aC4 ok hr h m),abv,List.length_cons,decide_eq_true (by omega),decide_eq_true (by omega)]
 rfl
theorem awX(z:Nat)(es:List AV)(h:Heap):Sl h z (zn z es) es:=Sl.zn h z es
theorem aMu{x:LV}(o:okV x)(ok:yT x.l){k:Int}(hk:k<0\/(QW x.l).length<=k)(h:Heap)(lo:Nat):(run lib).fn 26 [FE x,.int .i64 k] h lo=some (.tuple [.agg [.eY 0 []],.int .i64 200],h):=by
 have e:=fun H lo=>awU o ok H lo;have ll:=oW (awX 2 (pts (QW x.l)) h).len;rw[Z0]at ll;unfold FE at e⊢;rw[jH (x:=x26) rfl rfl rfl rfl];by_cases c:k<0
 ·simp(maxSteps:=30000000)(disch:=omega)only[go_sem,x26,e,c]
 ·have c2:(QW x.l).length<=k:=by omega
  simp(maxSteps:=30000000)(disch:=omega)only[go_sem,x26,e,c,ll,c2]
theorem aMv{x:LV}(o:okV x)(ok:yT x.l){xs:List Stp}{e:Int}(hc:Ch x.l 0 x.l.D xs e){k:Nat}(hk:k<(QW x.l).length)(h:Heap)(lo:Nat) :
  (run lib).fn 26 [FE x,.int .i64 k] h lo=some (.tuple [.agg [.eY 4 (xE (Nw (QW x.l)[k] xs))],.int .i64 0],h):=by
 have er:=fun H lo=>awU o ok H lo;have dc:=fun H lo=>apP x H lo;have hrn:=aJ0 ok (JC hk);obtain⟨a,K,y1,m⟩:=map_ok ok hrn hc;have hmv:=aMt ok hrn hc m;have hmp:=aC4 ok hrn hc m;obtain⟨pre,ys,dd,hxs,k1,_,k3,_⟩:=aBJ ok hrn hc
 have hQ:∀ X∈xs,X.to<=(QW x.l)[k].1\/(QW x.l)[k].1<=X.fr:=fun X hX=>by
  rw[hxs]at hX;rcases Di.mp hX with h|h
  ·exact .inl (k3 X h).2
  ·exact .inr (k1.fr ok.E.1 X h).1
 have sl:=awX 2 (pts (QW x.l));have ll:=oW (sl h).len;rw[Z0]at ll;have e3:vJ 2 (zn 2 (pts (QW x.l))) (.int .i64 k)=some k:=by rw[Bu (sl h) (by omega) (by simp;omega)];simp
 have e4:=fun off H=>Ab (off:=off) (sl H).DC (show k<(pts (QW x.l)).length by simp;exact hk)
 simp only[ajx,pt]at e4;have hk2:(k:Int)<((QW x.l).length:Int):=by omega
 generalize (QW x.l)[k]=r at*;obtain⟨r1,r2⟩:=r;simp only at e4;have hlen:∀ st,(mpH h x (r1,r2) st).length=h.length+8:=fun st=>by simp[mpH]
 obtain⟨_,g2⟩:=aCK (Q:=fun X=>X.to<=r1\/r1<=X.fr) (id:=h.length+0) (iv:=1) (H:=mpH h x (r1,r2)) (nb:=h.length+8) (lo:=h.length) (step:=mpT (r1,r2)) (Iv:=mpI (r1,r2)) o ok hlen (by omega) (fun st X hX hq hi=>aMn hrn.lt st X hX hq hi) (fun st X fr hX hq hi=>aMl (x:=x) h (r1,r2) hrn.lt st X fr hX hi) hc hQ (false,[],0,.dead) ⟨fun hh=>by have:=hrn.lo;simp only at this hh;omega,by simp,by omega⟩
 obtain⟨st,hst⟩:∃ st,st=xs.foldl (mpT (r1,r2)) (false,[],0,.dead):=⟨_,rfl⟩;have hs1:=aMm (r1,r2) xs (false,[],0,.dead);rw[<-hst]at g2 hs1;have hs2:st.2.1=Nw (r1,r2) xs:=by unfold Nw;rw[<-hs1]
 obtain⟨f,K',vb⟩:=st;simp only at hs2;subst hs2;have hq:xE (Nw (r1,r2) xs)=JR ((a::K).map qk):=by rw[m.eq];rfl
 have hne:xE (Nw (r1,r2) xs)≠[]:=by rw[hq];simp[JR]
 have g3:=abE (L:=lib) (lo:=h.length) (ns:=8) (s:=0) (g:=3) (it:=89) (v:=0) (caps:=[NC x]) (env:=ak2 h x) (h:=h) (b:=.dead)
  (fr:=[(0,.dead),(0,.dead),(0,.dead),(0,.dead),(1,.box [.bool false]),(1,.box [.bO]),(1,.box [.int .i64 r1,.int .i64 r2]),(1,.box [.bO])])
  (fr':=[(1,.aV (mpD h x) .ready),vb,(0,.dead),jw (0,.dead) 4 (xE (Nw (r1,r2) xs)),(1,.box [.bool f]),(1,.box [jJ (h.length+3) (0,.dead) 4 (xE (Nw (r1,r2) xs))]),(1,.box [.int .i64 r1,.int .i64 r2]),(1,.box [.bO])])
  (f:=.t 35) rfl (by omega) rfl g2 rfl
 have pv:=fun fr (hfr:fr[3]?=some (jw (0,.dead) 4 (xE (Nw (r1,r2) xs)))) lo=>by
  have s1:=Sl.acc (h:=h) (fr:=fr) (s:=3) (z:=4) (b0:=(0,.dead)) (es:=xE (Nw (r1,r2) xs)) hfr;rw[hq]at s1;exact aMe s1 (by have:=m.len;simp;omega) (fun b hb=>by obtain⟨p,hp,rfl⟩:=List.mem_map.mp hb;exact aMq (hmp p hp)) lo
 rw[<-hq,hmv]at pv;have pv:=fun lo=>pv [(1+0,.dead),vb,(0,.dead),jw (0,.dead) 4 (xE (Nw (r1,r2) xs)),(1,.box [.bool f]),(1,.box [jJ (h.length+3) (0,.dead) 4 (xE (Nw (r1,r2) xs))]),(1,.box [.int .i64 r1,.int .i64 r2]),(1,.box [.bO])] rfl lo;have fz:=fun kk m=>asS (h:=h) (s:=3) (z:=4) (k:=kk) (b0:=(0,.dead)) (es:=xE (Nw (r1,r2) xs)) (fr:=[(1+0,.dead),vb,(0,.dead),jw (0,.dead) 4 (xE (Nw (r1,r2) xs)),(1,.box [.bool f]),(1,.box [jJ (h.length+3) (0,.dead) 4 (xE (Nw (r1,r2) xs))]),(1,.box [.int .i64 r1,.int .i64 r2]),(1,.box [m])]) rfl;rw[show zn 4 (xE (Nw (r1,r2) xs))=.eY 4 (xE (Nw (r1,r2) xs))from if_neg hne]at fz
 simp only[ak2,List.set_cons_zero]at g3;unfold FE at er dc⊢;rw[jH (x:=x26) rfl rfl rfl rfl];have hk3:¬ (k:Int)<0:=by omega
 have hk4:¬ ((QW x.l).length:Int)<=(k:Int):=by omega
 simp(maxSteps:=30000000)(disch:=omega)only[go_sem,x26,er,dc,ll,hk2,hk3,hk4,e3,e4,g3,pv,fz,Tt,ai9]
end Go.VI.Dump
