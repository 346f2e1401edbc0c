/- What the functions on integers compute, part MB. -/
import Derived.Test.YtfpoegnmeoghpaaGreatDoorDumpTab
import Derived.Test.YtfpoegnmeoghpaaGreatDoorVGS
import Derived.Test.YtfpoegnmeoghpaaGreatDoorDumpMA
import Derived.Test.YtfpoegnmeoghpaaGreatDoorVIU2
set_option linter.unusedVariables false
set_option linter.unusedSimpArgs false
namespace Go.VI.Dump
open Go.VI.Num
def ints(l:List Int):List AV:=l.map (.int .i64)
@[simp] theorem fE (l:List Int):(ints l).length=l.length:=by simp [ints]
theorem lW(l:List Int)(k:Nat)(h:k<(ints l).length):(ints l)[k]=.int .i64 (l[k]'(by simpa using h)):=by simp[ints]
theorem Au(a b:List Int):ints (a++b)=ints a++ints b:=by simp[ints]
theorem Av(x:Int):ints [x]=[.int .i64 x]:=rfl
theorem dF(k:Nat):((k+1:Nat):Int)=(k:Int)+1:=by simp
theorem Fb{v:AV}{l:List Int}{h:Heap}(hv:Sl h 1 v (ints l))(hl:l.length<=1000000)(i:Nat)(hi:i<=1000000)(lo:Nat):(run lib).fn 152 [v,.int .i64 i] h lo=some (.int .i64 (l.getD i 0),h):=by
 have s3:=bK hv.len;rw[fE]at s3;rw[aY (x:=x152) rfl rfl rfl rfl];by_cases c:i<l.length
 ·have c1:(i:Int)<l.length:=by omega
  have e3:bP 1 v (.int .i64 i)=some i:=by rw[dz hv (by omega) (by simp;omega)];simp
  have e4:=fun off=>dx (off:=off) hv.eO (show i<(ints l).length by simp;omega)
  simp only[lW]at e4;have hg:l.getD i 0=l[i]:=by rw[jC,gM c];rfl
  rw[hg];simp(maxSteps:=1000000)(disch:=omega)only[go_sem,x152,s3,c1,e3,e4]
 ·have c1:¬ (i:Int)<l.length:=by omega
  rw[uJ (by omega)]
  simp(maxSteps:=1000000)(disch:=omega)only[go_sem,x152,s3,c1]
theorem aeZ{f:Nat}{caps:List AV}{g:Nat->Int}{n:Nat}(hf:f<1000)(hn:n<=100000)(hd:∀(i:Nat) (h:Heap) (lo:Nat),i<=200000->(run lib).fn f (.int .i64 i::caps) h lo=some (.int .i64 (g i),h))(hg:∀ i,-9999<=g i/\g i<=100000000)(h:Heap)(fu:Nat) :
  ∀(i:Nat) (c:Int) (acc:List Int),i+fu<=200000->acc.length=i->-1<=c->c<=20000->sH g n fu i c=true ->
  aA lib ⟨h.length,h.length,2,none⟩ (.loop IE) ([(0,.int .i64 n),(1,.int .i64 c),(2,.fn f caps),(7,.ref (h.length+1) 1 1 0 acc.length acc.length),(8,.int .i64 i)],h++[(0,.dead),(1,.arr 1 (ints acc))]) =
   some (.exit 0,([(7,.ref (h.length+1) 1 1 0 (acc++jf g n fu i c).length (acc++jf g n fu i c).length)],h++[(0,.dead),(1,.arr 1 (ints (acc++jf g n fu i c)))])):=by
 induction fu with
 |zero =>
  intro i c acc h1 h2 h3 h4 h5;simp only[sH,decide_eq_true_eq]at h5;have c1:¬ (i:Int)<n:=by omega
  have c2:c=0:=by omega
  subst c2;rw[aR];simp only[jf,gP]
  simp(maxSteps:=1000000)(disch:=omega)only[go_sem,c1]
 |succ fu ih =>
  intro i c acc h1 h2 h3 h4 h5;by_cases hst:i<n\/c≠0
  ·have hdi:=fun h lo=>hd i h lo (by omega)
   have hgi:=hg i;have ea:=fun x:Int=>xB (cx:=⟨h.length,h.length,2,none⟩) (s:=0) (z:=1) (lim:=17592186044416) (id:=h.length+1) (aj:=1) (h:=h++[(0,.dead),(1,.arr 1 (ints acc))]) (es:=ints acc) (xs:=[.int .i64 x]) (by rw[bH];rfl) (by simp) (by simp;omega)
   simp only[fE,eB,List.set_cons_succ,List.set_cons_zero,List.length_singleton]at ea
   have key:∀(x c':Int),-1<=c'->c'<=20000->sH g n fu (i+1) c'=true->aA lib ⟨h.length,h.length,2,none⟩ (.loop IE) ([(0,.int .i64 n),(1,.int .i64 c'),(2,.fn f caps),(7,.ref (h.length+1) 1 1 0 (acc.length+1) (acc.length+1)),(8,.int .i64 ((i:Int)+1))],h++[(0,.dead),(1,.arr 1 (ints acc++[.int .i64 x]))]) =
     some (.exit 0,([(7,.ref (h.length+1) 1 1 0 (acc++x::jf g n fu (i+1) c').length (acc++x::jf g n fu (i+1) c').length)],h++[(0,.dead),(1,.arr 1 (ints (acc++x::jf g n fu (i+1) c')))])):=fun x c' k1 k2 k3=>by
    have:=ih (i+1) c' (acc++[x]) (by omega) (by simp;omega) k1 k2 k3
    rw[dF,Au,Av,eH,List.singleton_append]at this;simpa using this
   have hif:((i:Int)<n)\/(¬ (i:Int)<n/\¬ c=0):=by omega
   simp only[sH,jf,hst,if_true]at h5⊢;generalize g i=y at*;have w1:IntKind.i64.wrap (y+c)=y+c:=HY (by omega) (by omega)
   by_cases c1:y+c<0
   ·rw[if_pos c1]at h5⊢;have k:=key (y+c+10000) (-1) (by omega) (by omega) h5
    rw[aR];rcases hif with c3|⟨c3,c4⟩
    ·simp(maxSteps:=1000000)(disch:=omega)only[go_sem,c3,hf,hdi,w1,c1,ea,k]
    ·simp(maxSteps:=1000000)(disch:=omega)only[go_sem,c3,c4,hf,hdi,w1,c1,ea,k]
   ·rw[if_neg c1]at h5⊢;by_cases c2:10000<=y+c
    ·rw[if_pos c2]at h5⊢;have k:=key ((y+c)%10000) ((y+c)/10000) (by omega) (by omega) h5
     rw[aR];rcases hif with c3|⟨c3,c4⟩
     ·simp(maxSteps:=1000000)(disch:=omega)only[go_sem,c3,hf,hdi,w1,c1,c2,ea,k]
     ·simp(maxSteps:=1000000)(disch:=omega)only[go_sem,c3,c4,hf,hdi,w1,c1,c2,ea,k]
    ·rw[if_neg c2]at h5⊢;have k:=key (y+c) 0 (by omega) (by omega) h5
     rw[aR];rcases hif with c3|⟨c3,c4⟩
     ·simp(maxSteps:=1000000)(disch:=omega)only[go_sem,c3,hf,hdi,w1,c1,c2,ea,k]
     ·simp(maxSteps:=1000000)(disch:=omega)only[go_sem,c3,c4,hf,hdi,w1,c1,c2,ea,k]
  ·have c1:¬ (i:Int)<n:=by omega
   have c2:c=0:=by omega
   subst c2;rw[aR];simp only[jf,hst,if_false,gP];simp(maxSteps:=1000000)(disch:=omega)only[go_sem,c1]
end Go.VI.Dump
namespace Go.VI.Dump
open Go.VI.Num
theorem Oe{f:Nat}{caps:List AV}{g:Nat->Int}{n:Nat}(hf:f<1000)(hn:n<=100000)(hd:∀(i:Nat) (h:Heap) (lo:Nat),i<=200000->(run lib).fn f (.int .i64 i::caps) h lo=some (.int .i64 (g i),h))(hg:∀ i,-9999<=g i/\g i<=100000000)(he:sH g n (n+3) 0 0=true)(h:Heap)(lo:Nat) :
  (run lib).fn 150 [.int .i64 n,.int .i64 0,.fn f caps] h lo=some (.own 1 (ints (jf g n (n+3) 0 0)),h):=by
 have e:=aeZ hf hn hd hg h (n+3) 0 0 [] (by omega) rfl (by omega) (by omega) he
 simp only[List.nil_append,kz,fH,ints,List.map_nil]at e;have hmk:=fun hh=>Lj (h:=hh) (cx:=⟨h.length,h.length,2,none⟩) (s:=1) (z:=1) (zero:=.int .i64 0) (lim:=17592186044416) (k:=.i64) (k':=.i64) (a:=0) (b:=(n:Int)+1) (by omega) (by omega) (by omega)
 have hgv:=Ew (s:=1) (aj:=1) (z:=1) (h:=h) (es:=ints (jf g n (n+3) 0 0)) (fr:=[(0,.dead),(1,.arr 1 (ints (jf g n (n+3) 0 0)))]) rfl;simp only[ints,uq]at hgv;rw[aY (x:=x150) rfl rfl rfl rfl];simp only[ints];simp(maxSteps:=1000000)(disch:=omega)only[go_sem,x150,hmk,zU,List.replicate_zero,e,eF,hgv,Option.map_some]
theorem ae0{v u:AV}{a b:List Int}(hv:bG 1 v (ints a))(hu:bG 1 u (ints b))(ha:a.length<=1000000)(hb:b.length<=1000000)(da:dL a)(db:dL b)(i:Nat)(h:Heap)(lo:Nat)(hi:i<=200000) :
  (run lib).fn 151 [.int .i64 i,.bD [v],.bD [u]] h lo=some (.int .i64 (a.getD i 0+b.getD i 0),h):=by
 have e1:=fun H lo=>Fb (hv.sl H) ha i (by omega) lo
 have e2:=fun H lo=>Fb (hu.sl H) hb i (by omega) lo
 have g1:=nI da i;have g2:=nI db i;rw[aY (x:=x151) rfl rfl rfl rfl];generalize a.getD i 0=x at*;generalize b.getD i 0=y at*;simp(maxSteps:=1000000)(disch:=omega)only[go_sem,x151,e1,e2]
theorem ae1{v u:AV}{a b:List Int}(hv:bG 1 v (ints a))(hu:bG 1 u (ints b))(ha:a.length<=1000000)(hb:b.length<=1000000)(da:dL a)(db:dL b)(i:Nat)(h:Heap)(lo:Nat)(hi:i<=200000) :
  (run lib).fn 153 [.int .i64 i,.bD [v],.bD [u]] h lo=some (.int .i64 (a.getD i 0-b.getD i 0),h):=by
 have e1:=fun H lo=>Fb (hv.sl H) ha i (by omega) lo
 have e2:=fun H lo=>Fb (hu.sl H) hb i (by omega) lo
 have g1:=nI da i;have g2:=nI db i;rw[aY (x:=x153) rfl rfl rfl rfl];generalize a.getD i 0=x at*;generalize b.getD i 0=y at*;simp(maxSteps:=1000000)(disch:=omega)only[go_sem,x153,e1,e2]
theorem ae2{v:AV}{a:List Int}(hv:bG 1 v (ints a))(ha:a.length<=1000000)(da:dL a)(k:Int)(hk:0<=k/\k<=10000)(i:Nat)(h:Heap)(lo:Nat)(hi:i<=200000) :
  (run lib).fn 176 [.int .i64 i,.bD [v],.bD [.int .i64 k]] h lo=some (.int .i64 (a.getD i 0*k),h):=by
 have e1:=fun H lo=>Fb (hv.sl H) ha i (by omega) lo
 have g1:=nI da i;have h2:0<=a.getD i 0*k:=Int.mul_nonneg g1.1 hk.1;have h3:a.getD i 0*k<=9999*10000:=Int.mul_le_mul g1.2 hk.2 hk.1 (by omega)
 rw[aY (x:=NC) rfl rfl rfl rfl];have w1:IntKind.i64.wrap (a.getD i 0*k)=a.getD i 0*k:=HY (by omega) (by omega)
 simp(maxSteps:=1000000)(disch:=omega)only[go_sem,NC,e1,w1]
theorem Wn{l:List Int}(hl:l.length<=1000000)(cx:Cx)(H:Heap):∀ k:Nat,k<=l.length ->
  aA lib cx (.loop Ca) ([(0,.aN 1 (ints (l.take k)))],H)=some (.exit 0,([(0,.aN 1 (ints (l.take (jV l k))))],H)):=by
 intro k
 induction k with
 |zero =>
  intro hk;rw[aR];have s3:jc false (.aN 1 (ints []))=some (.int .i64 0):=rfl;simp only[xC,jV]
  simp(maxSteps:=1000000)(disch:=omega)only[go_sem,s3,dU]
 |succ k ih =>
  intro hk;have hs:=Sl.aN H 1 (ints (l.take (k+1)));have s3:=bK hs.len;rw[fE,jA,ul hk,dF]at s3;have hlen:(ints (l.take (k+1))).length=k+1:=by simp;omega
  have c1:(0:Int)<(k:Int)+1:=by omega
  have e0:(k:Int)+1-1=k:=by omega
  have e3:bP 1 (.aN 1 (ints (l.take (k+1)))) (.int .i64 k)=some k:=by rw[dz hs (by omega) (by rw[hlen];omega)];simp
  have e4:=fun off=>dx (off:=off) hs.eO (show k<(ints (l.take (k+1))).length by rw[hlen];omega)
  simp only[lW,List.getElem_take]at e4;have hg:l.getD k 0=l[k]:=by rw[jC,gM (by omega)];rfl
  have hsl:kg (some 1) (.aN 1 (ints (l.take (k+1)))) none (some (.int .i64 k))=some (.aN 1 (ints (l.take k))):=by
   have hb:bnd (some (.int .i64 k)) (k+1) (k+1)=some k:=by rw[BN (by omega) (by omega)];simp
   simp only[kg,fe,beq_self_eq_true,Bool.true_or,if_true,hlen,hb,Option.bind_some];simp[bnd,ints,List.take_take]
  have ih':=ih (by omega)
  simp only[jV,hg];rw[aR];by_cases c2:l[k]=0
  ·rw[if_pos c2];simp(maxSteps:=1000000)(disch:=omega)only[go_sem,s3,c1,e0,e3,e4,c2,hsl,ih']
  ·rw[if_neg c2];simp(maxSteps:=1000000)(disch:=omega)only[go_sem,s3,c1,e0,e3,e4,c2]
theorem Jg{l:List Int}(hl:l.length<=1000000)(h:Heap)(lo:Nat):(run lib).fn 146 [.aN 1 (ints l)] h lo=some (.aN 1 (ints (dV l)),h):=by
 have e:=fun cx H=>Wn hl cx H l.length (aV _);simp only[kP]at e;rw[aY (x:=xE) rfl rfl rfl rfl];unfold dV;simp(maxSteps:=1000000)(disch:=omega)only[go_sem,xE,e]
theorem Og(cx:Cx)(z:Nat)(es:List AV)(H:Heap):iZ cx [(0,0)] (some (.aN z es,H))=some (.aN z es,H):=rfl
theorem Ct(g:Nat->Int)(n:Nat):∀(f i:Nat) (c:Int),(jf g n f i c).length<=f
 |0,_,_=>aV _
 |f+1,i,c=>by
  simp only[jf];split
  ·split
   ·have:=Ct g n f (i+1) (-1);simp;omega
   ·split
    ·have:=Ct g n f (i+1) ((g i+c)/10000);simp;omega
    ·have:=Ct g n f (i+1) 0;simp;omega
  ·simp
theorem Fe{z:Nat}{v:AV}{es:List AV}(p:bG z v es):∃ v',(∀ b k h,aU b k v h=some (v',h))/\v.val=true/\v'.val=true/\bG z v' es/\v'.cells=[v']:=by
 rcases p with⟨rfl,rfl⟩|⟨z',rfl|rfl,hz⟩
 ·exact⟨.aN 0 [],fun b k h=>by simp[VI.aU],rfl,rfl,.inr ⟨0,.inl rfl,.inr rfl⟩,rfl⟩
 ·exact⟨.aN z' es,fun b k h=>by simp[VI.aU],rfl,rfl,.inr ⟨z',.inl rfl,hz⟩,rfl⟩
 ·exact⟨.aM z' es,fun b k h=>by simp[VI.aU],rfl,rfl,.inr ⟨z',.inr rfl,hz⟩,rfl⟩
theorem Jh{v u:AV}{a b:Nat}(hv:bG 1 v (ints (aB a)))(hu:bG 1 u (ints (aB b)))(ha:(aB a).length<=50000)(hb:(aB b).length<=50000)(h:Heap)(lo:Nat) :
  (run lib).fn 111 [v,u] h lo=some (.aN 1 (ints (aB (a+b))),h):=by
 obtain⟨v',f1,f2,f3,f4,f5⟩:=Fe hv;obtain⟨u',g1,g2,g3,g4,g5⟩:=Fe hu;have da:=nH a;have db:=nH b
 have fo:=Oe (f:=151) (caps:=[.bD [v'],.bD [u']]) (g:=fun i=>(aB a).getD i 0+(aB b).getD i 0) (n:=max (aB a).length (aB b).length) (by omega) (by omega)
  (fun i h lo hi=>ae0 f4 g4 (by omega) (by omega) da db i h lo hi) (fun i=>by have:=nI da i;have:=nI db i;omega)
  (NH (fun i=>by have:=nI da i; have:=nI db i; omega) (fun i hi=>by rw [uJ (by omega),uJ (by omega)]; rfl) _ 0 0 (by omega) (by omega) (fun _=>by omega) (fun h=>by omega) (by
   rw[IQ,oD (aB a) _ _ (by omega),oD (aB b) _ _ (by omega)]
   have:=qR da;have:=qR db;simp only[List.drop_zero];omega))
 have hp:=aev da db;rw[lS,lS]at hp;have e0:((a:Int)+b).toNat=a+b:=by omega
 rw[e0]at hp;have Wo:=Ct (fun i=>(aB a).getD i 0+(aB b).getD i 0) (max (aB a).length (aB b).length) (max (aB a).length (aB b).length+3) 0 0;generalize jf (fun i=>(aB a).getD i 0+(aB b).getD i 0) (max (aB a).length (aB b).length) (max (aB a).length (aB b).length+3) 0 0=F at*;have ht:=Jg (l:=F) (by omega)
 rw[hp]at ht;have s1:=bK (f4.sl []).len;have s2:=bK (g4.sl []).len;simp only[fE]at s1 s2;have em:max ((aB a).length:Int) ((aB b).length:Int)=((max (aB a).length (aB b).length:Nat):Int):=by omega
 rw[aY (x:=M5) rfl rfl rfl rfl];simp(maxSteps:=1000000)(disch:=omega)only[go_sem,M5,f1,f2,f5,g1,g2,g5,s1,s2,em,fo,ht,Og]
theorem Ji{v u:AV}{a b:Nat}(hv:bG 1 v (ints (aB a)))(hu:bG 1 u (ints (aB b)))(hab:b<=a)(ha:(aB a).length<=50000)(h:Heap)(lo:Nat) :
  (run lib).fn 113 [v,u] h lo=some (.aN 1 (ints (aB (a-b))),h):=by
 obtain⟨v',f1,f2,f3,f4,f5⟩:=Fe hv;obtain⟨u',g1,g2,g3,g4,g5⟩:=Fe hu;have da:=nH a;have db:=nH b;have hbl:=yM hab;have hz:∀ i,(aB a).length<=i->(aB a).getD i 0-(aB b).getD i 0=0:=fun i hi=>by rw[uJ (by omega),uJ (by omega)];rfl
 have hg:∀ i,-9999<=(aB a).getD i 0-(aB b).getD i 0/\(aB a).getD i 0-(aB b).getD i 0<=100000000:=fun i=>by have:=nI da i;have:=nI db i;omega
 have fo:=Oe (f:=153) (caps:=[.bD [v'],.bD [u']]) (g:=fun i=>(aB a).getD i 0-(aB b).getD i 0) (n:=(aB a).length) (by omega) (by omega)
  (fun i h lo hi=>ae1 f4 g4 (by omega) (by omega) da db i h lo hi) hg
  (NH hg hz _ 0 0 (by omega) (by omega) (fun _=>by omega) (fun h=>by omega) (by
   rw[IU,oD (aB a) _ _ (by omega),oD (aB b) _ _ (by omega),List.drop_zero,List.drop_zero,lS,lS];omega))
 have hp:=aew da db hbl (by rw[lS,lS];omega)
 rw[lS,lS]at hp;have e0:((a:Int)-b).toNat=a-b:=by omega
 rw[e0]at hp;have Wo:=Ct (fun i=>(aB a).getD i 0-(aB b).getD i 0) (aB a).length ((aB a).length+3) 0 0;generalize jf (fun i=>(aB a).getD i 0-(aB b).getD i 0) (aB a).length ((aB a).length+3) 0 0=F at*;have ht:=Jg (l:=F) (by omega)
 rw[hp]at ht;have s1:=bK (f4.sl []).len;have s2:=bK (g4.sl []).len;simp only[fE]at s1 s2;rw[aY (x:=x113) rfl rfl rfl rfl];simp(maxSteps:=1000000)(disch:=omega)only[go_sem,x113,f1,f2,f5,g1,g2,g5,s1,fo,ht,Og]
theorem Oh{v:AV}{a k:Nat}(hv:bG 1 v (ints (aB a)))(hk:k<=10000)(ha:(aB a).length<=50000)(h:Heap)(lo:Nat) :
  (run lib).fn 147 [v,.int .i64 k] h lo=some (.aN 1 (ints (aB (a*k))),h):=by
 obtain⟨v',f1,f2,f3,f4,f5⟩:=Fe hv;have da:=nH a;have hz:∀ i,(aB a).length<=i->(aB a).getD i 0*(k:Int)=0:=fun i hi=>by rw[uJ (by omega),Int.zero_mul]
 have hg:∀ i,-9999<=(aB a).getD i 0*(k:Int)/\(aB a).getD i 0*(k:Int)<=100000000:=fun i=>by
  have g1:=nI da i;have h2:0<=(aB a).getD i 0*(k:Int):=Int.mul_nonneg g1.1 (by omega)
  have h3:(aB a).getD i 0*(k:Int)<=9999*10000:=Int.mul_le_mul g1.2 (by omega) (by omega) (by omega)
  omega
 have fo:=Oe (f:=176) (caps:=[.bD [v'],.bD [.int .i64 k]]) (g:=fun i=>(aB a).getD i 0*(k:Int)) (n:=(aB a).length) (by omega) (by omega)
  (fun i h lo hi=>ae2 f4 (by omega) da k (by omega) i h lo hi) hg
  (NH hg hz _ 0 0 (by omega) (by omega) (fun _=>by omega) (fun h=>by omega) (by
   rw[IV,oD (aB a) _ _ (by omega),List.drop_zero,lS,sI]
   exact Int.mul_nonneg (by omega) (by omega)))
 have hp:=aex da (k:=(k:Int)) (by omega)
 rw[lS]at hp;have e0:((a:Int)*k).toNat=a*k:=by rw[<-Int.natCast_mul];exact qW _
 rw[e0]at hp;have Wo:=Ct (fun i=>(aB a).getD i 0*(k:Int)) (aB a).length ((aB a).length+3) 0 0;generalize jf (fun i=>(aB a).getD i 0*(k:Int)) (aB a).length ((aB a).length+3) 0 0=F at*;have ht:=Jg (l:=F) (by omega)
 rw[hp]at ht;have s1:=bK (f4.sl []).len;simp only[fE]at s1;rw[aY (x:=Np) rfl rfl rfl rfl];simp(maxSteps:=1000000)(disch:=omega)only[go_sem,Np,f1,f2,f5,s1,fo,ht,Og]
theorem Oi(n:Int)(h:Heap)(lo:Nat):(run lib).fn 178 [.int .i64 n] h lo=some (.bool false,h):=by
 rw[aY (x:=ND) rfl rfl rfl rfl];simp(maxSteps:=1000000)(disch:=omega)only[go_sem,ND,ne_eq,not_true_eq_false,decide_false]
theorem Wp(a b:Int)(h:Heap)(lo:Nat):(run lib).fn 156 [.int .i64 a,.int .i64 b] h lo=some (.int .i64 (bR a b),h):=by
 rw[aY (x:=EO) rfl rfl rfl rfl];unfold bR;by_cases h1:a<b
 ·rw[if_pos h1];simp(maxSteps:=1000000)(disch:=omega)only[go_sem,EO,Oi,h1]
 ·rw[if_neg h1];by_cases h2:a=b
  ·rw[if_pos h2];have h3:¬ b<a:=by omega
   simp(maxSteps:=1000000)(disch:=omega)only[go_sem,EO,Oi,h1,h3]
  ·rw[if_neg h2];have h3:b<a:=by omega
   simp(maxSteps:=1000000)(disch:=omega)only[go_sem,EO,Oi,h1,h3]
end Go.VI.Dump
namespace Go.VI.Dump
open Go.VI.Num
def lX{σ:Type}(Y:σ->Nat->Bool×σ):Nat->σ->σ
 |0,s=>s
 |k+1,s=>if (Y s k).1 then lX Y k (Y s k).2 else(Y s k).2
section
variable {σ:Type}{H:σ->Heap}{nb lo id:Nat}{Y:σ->Nat->Bool×σ}{Iv:Nat->σ->Prop}
theorem ae3{v:AV}{l:List Int}(hv:bG 1 v (ints l))(hl:l.length<=1000000)
  (hI:∀ k s,k<l.length->Iv (k+1) s->(Y s k).1=true->Iv k (Y s k).2)
  (hy:∀ k s (hk:k<l.length),Iv (k+1) s->fF (run lib) ⟨lo,nb,0,none⟩ id 1 [.int .i64 k,.int .i64 l[k]] (H s)=some (.bool (Y s k).1,H (Y s k).2)) :
  ∀(k:Nat) (j:Int) (s:σ),j=(k:Int)-1->k<=l.length->Iv k s ->
  ∃ e,(e=.exit 0\/e=.ret)/\aA lib ⟨lo,nb,0,none⟩ (.loop NA) ([(0,.cZ id 1),(1,.bD [v]),(3,.int .i64 j)],H s)=some (e,([],H (lX Y k s))):=by
 intro k
 induction k with
 |zero =>
  intro j s hj hk hi;subst hj;refine⟨.exit 0,.inl rfl, ?_⟩;have c1:¬ (0:Int)<=-1:=by omega
  rw[aR];simp only[lX]
  simp(maxSteps:=1000000)(disch:=omega)only[go_sem,c1,Int.zero_sub,Int.reduceNeg]
 |succ k ih =>
  intro j s hj hk hi;obtain rfl:j=(k:Int):=by omega
  have c1:(0:Int)<=(k:Int):=by omega
  have e3:bP 1 v (.int .i64 k)=some k:=by rw[dz (hv.sl (H s)) (by omega) (by simp;omega)];simp
  have e4:=fun off H=>dx (off:=off) ((hv.sl H).eO) (show k<(ints l).length by simp;omega)
  simp only[lW]at e4;have y:=hy k s (by omega) hi
  have hI':=hI k s (by omega) hi
  simp only[lX];generalize Y s k=p at*;obtain⟨r,s'⟩:=p;simp only[]at y hI'⊢
  cases r with
  |true =>
   obtain⟨e,h1,h2⟩:=ih ((k:Int)-1) s' rfl (by omega) (hI' rfl)
   refine⟨e,h1, ?_⟩;rw[aR];simp only[if_true]
   simp(maxSteps:=1000000)(disch:=omega)only[go_sem,c1,e3,e4,y,h2]
  |false =>
   refine⟨.ret,.inr rfl, ?_⟩;rw[aR];simp only[fJ,if_false];simp(maxSteps:=1000000)(disch:=omega)only[go_sem,c1,e3,e4,y]
theorem Jj{v:AV}{l:List Int}(hv:bG 1 v (ints l))(hl:l.length<=1000000)(hlen:∀ s,(H s).length=nb)(hlo:lo<=nb)
  (hI:∀ k s,k<l.length->Iv (k+1) s->(Y s k).1=true->Iv k (Y s k).2)
  (hy:∀ k s (hk:k<l.length),Iv (k+1) s->fF (run lib) ⟨lo,nb,0,none⟩ id 1 [.int .i64 k,.int .i64 l[k]] (H s)=some (.bool (Y s k).1,H (Y s k).2)) (s:σ) (hi:Iv l.length s) :
  (run lib).fn 175 [.cZ id 1,.bD [v]] (H s) lo=some (.tuple [],H (lX Y l.length s)):=by
 obtain⟨e,h1,h2⟩:=ae3 hv hl hI hy l.length ((l.length:Int)-1) s rfl (aV _) hi;have s1:=bK (hv.sl []).len;simp only[fE]at s1;rw[iP (x:=Cc) rfl rfl rfl rfl (by rw[hlen];exact hlo)]
 have hr:∀(H:Heap),H++List.replicate Cc.ns (0,av.dead)=H:=fun H=>by simp[Cc]
 have ht:∀ s',(H s').take (H s).length=H s':=fun s'=>by rw[hlen s,<-hlen s',kP]
 rw[hr];rw[<-hlen s]at h2;rcases h1 with rfl|rfl
 ·simp(maxSteps:=1000000)(disch:=omega)only[go_sem,Cc,s1,h2,ht]
 ·simp(maxSteps:=1000000)(disch:=omega)only[go_sem,Cc,s1,h2,ht]
end
theorem sS{z:Nat}{v:AV}{es:List AV}(p:bG z v es):∃ v',(∀ b k h,aU b k v h=some (v',h))/\(∀ b k h,aU b k v' h=some (v',h))/\v.val=true/\v'.val=true/\bG z v' es/\v'.cells=[v']:=by
 rcases p with⟨rfl,rfl⟩|⟨z',rfl|rfl,hz⟩
 ·exact⟨.aN 0 [],fun b k h=>by simp[VI.aU],fun b k h=>by simp[VI.aU],rfl,rfl,.inr ⟨0,.inl rfl,.inr rfl⟩,rfl⟩
 ·exact⟨.aN z' es,fun b k h=>by simp[VI.aU],fun b k h=>by simp[VI.aU],rfl,rfl,.inr ⟨z',.inl rfl,hz⟩,rfl⟩
 ·exact⟨.aM z' es,fun b k h=>by simp[VI.aU],fun b k h=>by simp[VI.aU],rfl,rfl,.inr ⟨z',.inr rfl,hz⟩,rfl⟩
theorem Jk(v v':AV)(hf:∀ b k h,aU b k v h=some (v',h))(hf':∀ b k h,aU b k v' h=some (v',h))(hv:v.val=true)(hc:v'.cells=[v'])(h:Heap)(lo:Nat):(run lib).fn 145 [v] h lo=some (.fn 175 [.bD [v']],h):=by
 rw[aY (x:=Nn) rfl rfl rfl rfl];simp(maxSteps:=1000000)(disch:=omega)only[go_sem,Nn,hf,hv,hc]
end Go.VI.Dump
namespace Go.VI.Dump
open Go.VI.Num
def yP(l m:List Int)(s:Option Int)(k:Nat):Bool×Option Int:=if l.getD k 0=m.getD k 0 then(true,s) else(false,some (bR (l.getD k 0) (m.getD k 0)))
theorem Wq(l m:List Int):∀ k,(match lX (yP l m) k none with|none=>qV l m k=0|some c=>qV l m k=c)
 |0=>rfl
 |k+1=>by
  have ih:=Wq l m k;simp only[lX,yP,qV];by_cases c:l.getD k 0=m.getD k 0
  ·simp only[c,if_true];exact ih
  ·simp only[c,if_false,fJ];unfold bR;by_cases c2:l.getD k 0<m.getD k 0
   ·rw[if_pos c2,if_pos c2]
   ·rw[if_neg c2,if_neg c2,if_neg c]
def uT(h:Heap)(v u:AV):Env:=[(3,.bD [u]),(4,.aJ (h.length+1) 1 0),(18,.fn 175 [.bD [v]])]
def Ff(h:Heap)(v u:AV)(s:Option Int):Heap:=h++[(1,.ay ⟨9,h.length,h.length,2,uT h v u⟩ (match s with|none=>.ready|some _=>.done .ret)),(1,.box [.int .i64 (s.getD 0)])]
theorem ae4{v u:AV}{l m:List Int}(hu:bG 1 u (ints m))(hl:l.length=m.length)(hm:m.length<=1000000)(h:Heap)(k:Nat)(hk:k<l.length)(lo:Nat)(hlo:lo<=h.length) :
  fF (run lib) ⟨lo,h.length+2,0,none⟩ (h.length+0) 1 [.int .i64 k,.int .i64 l[k]] (Ff h v u none)=some (.bool (yP l m none k).1,Ff h v u (yP l m none k).2):=by
 obtain⟨D,hD⟩:∃ D:bQ,D=⟨9,h.length,h.length,2,uT h v u⟩:=⟨_,rfl⟩;have gl:l.getD k 0=l[k]:=by rw[jC,gM hk];rfl
 have gm:m.getD k 0=m[k]:=by rw[jC,gM (by omega)];rfl
 have e3:bP 1 u (.int .i64 k)=some k:=by rw[dz (hu.sl []) (by omega) (by simp;omega)];simp
 have e4:=fun off H=>dx (off:=off) ((hu.sl H).eO) (show k<(ints m).length by simp;omega)
 simp only[lW]at e4;simp only[yP,gl,gm];generalize l[k]=x at*;generalize m[k]=y at*;simp only[Ff,<-hD]
 have ha:aA lib ⟨h.length,h.length,2,some (h.length+0,1)⟩ r9.fZ ((r9.ps.zip [.int .i64 k,.int .i64 x]).foldl (fun e p=>e.set p.1 p.2) (uT h v u),h++[(1,.ay D .ready),(1,.box [.int .i64 0])]) =
   some (.norm,([(3,.bD [u]),(4,.aJ (h.length+1) 1 0),(5,.int .i64 k),(6,.int .i64 x)],h++[(1,.ay D .ready),(1,.box [.int .i64 0])])):=by
  simp(maxSteps:=1000000)(disch:=omega)only[go_sem,r9,uT,List.zip_cons_cons,vX,List.foldl_cons,nN]
 have hg:(h++[(1,av.ay D .ready),(1,.box [.int .i64 0])])[h.length+0]?=some (1,.ay ⟨9,h.length,h.length,2,uT h v u⟩ .ready):=by rw[bH,<-hD];rfl
 by_cases c:x=y
 ·have hb:∃ gB,aA lib ⟨h.length,h.length,2,some (h.length+0,1)⟩ r9.body ([(3,.bD [u]),(4,.aJ (h.length+1) 1 0),(5,.int .i64 k),(6,.int .i64 x)],(h++[(1,av.ay D .ready),(1,av.box [.int .i64 0])]).set (h.length+0) (1,.ay D .busy)) =
    some (.norm,(gB,h++[(1,.ay D .busy),(1,.box [.int .i64 0])])):=by
   refine⟨[(3,.bD [u]),(4,.aJ (h.length+1) 1 0),(5,.int .i64 k),(6,.int .i64 x),(26,.bool false)], ?_⟩;subst c;rw[eB];simp(maxSteps:=1000000)(disch:=omega)only[go_sem,r9,e3,e4,ne_eq,not_true_eq_false]
  obtain⟨gB,hb⟩:=hb;have:=uI (L:=lib) (cx:=⟨lo,h.length+2,0,none⟩) hg hlo (by omega) (by omega) (by simp[AV.jw,AV.closed]) (x:=r9) rfl rfl ha (by rw[bH];rfl) hb (by rw[bH];rfl)
  rw[if_pos c];simp only[Option.getD_none];rw[this,eB];rfl
 ·have hb:∃ gB,aA lib ⟨h.length,h.length,2,some (h.length+0,1)⟩ r9.body ([(3,.bD [u]),(4,.aJ (h.length+1) 1 0),(5,.int .i64 k),(6,.int .i64 x)],(h++[(1,av.ay D .ready),(1,av.box [.int .i64 0])]).set (h.length+0) (1,.ay D .busy)) =
    some (.ret,(gB,h++[(1,.ay D .busy),(1,.box [.int .i64 (bR x y)])])):=by
   refine⟨[], ?_⟩;rw[eB];simp(maxSteps:=1000000)(disch:=omega)only[go_sem,r9,aes,e3,e4,c,Wp]
  obtain⟨gB,hb⟩:=hb;have:=uI (L:=lib) (cx:=⟨lo,h.length+2,0,none⟩) hg hlo (by omega) (by omega) (by simp[AV.jw,AV.closed]) (x:=r9) rfl rfl ha (by rw[bH];rfl) hb (by rw[bH];rfl)
  rw[if_neg c];simp only[Option.getD_none,Option.getD_some];rw[this,eB];rfl
theorem Jl{v u:AV}{l m:List Int}(hv:bG 1 v (ints l))(hu:bG 1 u (ints m))(hl:l.length<=1000000)(hm:m.length<=1000000)(h:Heap)(lo:Nat) :
  (run lib).fn 115 [v,u] h lo=some (.int .i64 (cmpL l m),h):=by
 obtain⟨v',f1,yQ,f2,f3,f4,f5⟩:=sS hv;obtain⟨u',g1,g1',g2,g3,g4,g5⟩:=sS hu;have s1:=bK (hv.sl []).len;have s2:=bK (g4.sl []).len;simp only[fE]at s1 s2;unfold cmpL;by_cases hlen:l.length=m.length
 ·have c1:(l.length:Int)=m.length:=by omega
  have hb:=Jj (H:=Ff h v' u') (nb:=h.length+2) (lo:=h.length) (id:=h.length+0) (Y:=yP l m) (Iv:=fun _ s=>s=none) f4 hl (fun s=>by simp[Ff]) (by omega)
   (fun k s hk hi hy=>by
    subst hi;simp only[yP]at hy⊢;split at hy
    ·rename_i hc;rw[if_pos hc]
    ·cases hy)
   (fun k s hk hi=>by subst hi;exact ae4 g4 hlen hm h k hk h.length (aV _)) none rfl
  have hc:=Wq l m l.length;rw[if_pos hlen];have bw:=Jk v v' f1 yQ f2 f5
  cases hB:lX (yP l m) l.length none with
  |none =>
   rw[hB]at hb hc;simp only[]at hc
   have g3':=vN (L:=lib) (lo:=h.length) (ns:=2) (s:=0) (g:=9) (it:=175) (v:=0) (caps:=[.bD [v']]) (env:=uT h v' u') (h:=h) (b:=.dead) (fr:=[(0,.dead),(1,.box [.int .i64 0])])
    (fr':=[(1,.ay ⟨9,h.length,h.length,2,uT h v' u'⟩ .ready),(1,.box [.int .i64 0])]) (f:=.t 18) rfl (by omega) rfl hb rfl
   simp only[uT,List.set_cons_zero]at g3';rw[hc,aY (x:=x115) rfl rfl rfl rfl]
   simp(maxSteps:=1000000)(disch:=omega)only[go_sem,x115,g1,g2,g5,s1,s2,c1,ne_eq,not_true_eq_false,bw,g3']
  |some c =>
   rw[hB]at hb hc;simp only[]at hc
   have g3':=NE (L:=lib) (lo:=h.length) (ns:=2) (s:=0) (g:=9) (it:=175) (v:=0) (caps:=[.bD [v']]) (env:=uT h v' u') (h:=h) (b:=.dead) (fr:=[(0,.dead),(1,.box [.int .i64 0])])
    (fr':=[(1,.ay ⟨9,h.length,h.length,2,uT h v' u'⟩ (.done .ret)),(1,.box [.int .i64 c])]) (f:=.t 18) rfl (by omega) rfl hb rfl
   simp only[uT,List.set_cons_zero]at g3';rw[hc,aY (x:=x115) rfl rfl rfl rfl];simp(maxSteps:=1000000)(disch:=omega)only[go_sem,x115,g1,g2,g5,s1,s2,c1,ne_eq,not_true_eq_false,bw,g3']
 ·have c1:¬ (l.length:Int)=m.length:=by omega
  have hc:(if l.length=m.length then qV l m l.length else if l.length<m.length then -1 else 1)=bR (l.length:Int) (m.length:Int):=by
   rw[if_neg hlen];unfold bR;by_cases c2:l.length<m.length
   ·rw[if_pos c2,if_pos (by omega)]
   ·rw[if_neg c2,if_neg (by omega),if_neg c1]
  rw[hc,aY (x:=x115) rfl rfl rfl rfl];simp(maxSteps:=1000000)(disch:=omega)only[go_sem,x115,g1,g2,g5,s1,s2,c1,Wp]
end Go.VI.Dump
namespace Go.VI.Dump
open Go.VI.Num
theorem ae5{f:Nat}{caps:List AV}{h:Heap}{t n:Nat}(hf:f<1000)(hn:n<=1000000)(hd:∀ d:Nat,d<n->(run lib).fn f (.int .i64 d::caps) h h.length=some (.bool (decide (t<=d)),h))(m:Nat) :
  ∀ i j:Nat,j-i<=m->i<=min n t->min n t<=j->j<=n ->
  aA lib ⟨h.length,h.length,0,none⟩ (.loop Nr) ([(1,.fn f caps),(5,.int .i64 i),(6,.int .i64 j)],h)=some (.exit 0,([(5,.int .i64 (min n t:Nat))],h)):=by
 induction m with
 |zero =>
  intro i j h1 h2 h3 h4;have:i=min n t:=by omega
  have c1:¬ (i:Int)<j:=by omega
  rw[<-this,aR]
  simp(maxSteps:=1000000)(disch:=omega)only[go_sem,c1]
 |succ m ih =>
  intro i j h1 h2 h3 h4;by_cases c:i<j
  ·have c1:(i:Int)<j:=by omega
   obtain⟨d,hdd⟩:∃ d,d=(i+j)/2:=⟨_,rfl⟩;have e1:((i:Int)+j)/2=(d:Int):=by omega
   have y:=hd d (by omega)
   rw[aR];by_cases c2:t<=d
   ·rw[decide_eq_true c2]at y;have k:=ih i d (by omega) h2 (by omega) (by omega)
    simp(maxSteps:=1000000)(disch:=omega)only[go_sem,c1,e1,hf,y,k]
   ·rw[decide_eq_false c2]at y;have k:=ih (d+1) j (by omega) (by omega) h3 h4
    rw[dF]at k;simp(maxSteps:=1000000)(disch:=omega)only[go_sem,c1,e1,hf,y,k]
  ·have:i=min n t:=by omega
   have c1:¬ (i:Int)<j:=by omega
   rw[<-this,aR];simp(maxSteps:=1000000)(disch:=omega)only[go_sem,c1]
theorem ae6{f:Nat}{caps:List AV}{h:Heap}{t n:Nat}(hf:f<1000)(hn:n<=1000000)(hd:∀ d:Nat,d<n->(run lib).fn f (.int .i64 d::caps) h h.length=some (.bool (decide (t<=d)),h))(lo:Nat) :
  (run lib).fn 149 [.int .i64 n,.fn f caps] h lo=some (.int .i64 (min n t:Nat),h):=by
 have e:=ae5 hf hn hd n 0 n (by omega) (by omega) (by omega) (by omega)
 simp only[fH]at e;rw[aY (x:=Ns) rfl rfl rfl rfl];simp(maxSteps:=1000000)(disch:=omega)only[go_sem,Ns,e]
end Go.VI.Dump
namespace Go.VI
theorem uU{lo ns s:Nat}{p:Nat×Nat}{b:av}{h fr:Heap}(hf:b.fits ⟨lo,h.length,ns,some p⟩=true):bV ⟨lo,h.length,ns,some p⟩ s b (h++fr)=xu s ns b h fr fr[s]?:=by
 rw[<-qN (lo:=lo)]
 have:b.fits ⟨lo,h.length,ns,none⟩=true:=by
  cases b with
  |box cs=>simp[av.fits,Cx.fit]
  |ay d st=>simp[av.fits,Cx.fit]
  |_=>rfl
 simp only[bV,hf,this]
theorem Ws{lo ns s z lim v:Nat}{p:Nat×Nat}{h fr:Heap}{b:av}{es xs:List AV}(hs:s<ns)(hb:fr[s]?=some (v,b))(hx:xs≠[])(hl:es.length+xs.length<=lim) :
  (dP ⟨lo,h.length,ns,some p⟩ s z lim (.aM z es) xs (h++fr)).bind (fun r=>aU h.length false r.1 r.2)=some (.aN z (es++xs),h++fr.set s (v+1,.dead)):=by
 have hm:=uU (lo:=lo) (ns:=ns) (s:=s) (p:=p) (b:=.arr z (es++xs)) (h:=h) (fr:=fr) rfl;rw[hb,sF,if_pos hs]at hm;have hl':(es++xs).length<=lim:=by simpa using hl
 simp only[dP,beq_self_eq_true,Bool.true_or,if_true,if_neg hx,if_pos hl',hm,Option.map_some,Option.bind_some];have hlt:s<fr.length:=(bO.mp hb).1;have hg:(h++fr.set s (v+1,av.arr z (es++xs)))[h.length+s]?=some (v+1,.arr z (es++xs)):=by rw[bH];simp[hlt]
 simp[aU,dW,hg];rw[<-dZ,kP]
end Go.VI
namespace Go.VI.Dump
open Go.VI.Num
def vY:Option Nat->AV
 |none=>.aD
 |some n=>.aN 1 (ints (aB n))
def yR(a:Nat)(m:List Int)(s:Option Nat×Nat)(k:Nat):Bool×(Option Nat×Nat):=(true,some (10000*s.1.getD 0+a*(m.getD k 0).toNat),if s.1.getD 0=0 then s.2 else s.2+1)
def yS(h:Heap)(v u:AV):Env:=[(2,.bD [v]),(4,.aD),(5,.aJ (h.length+2) 1 0),(9,.fn 175 [.bD [u]])]
def Fg(h:Heap)(v u:AV)(s:Option Nat×Nat):Heap:=h++[(1,.ay ⟨10,h.length,h.length,3,yS h v u⟩ .ready),(s.2,.dead),(1,.box [vY s.1])]
theorem ae7(o:Option Nat):bG 1 (vY o) (ints (aB (o.getD 0))):=by
 cases o with
 |none=>exact .inl ⟨rfl,rfl⟩
 |some n=>exact .inr ⟨1,.inl rfl,.inl rfl⟩
theorem ae8(o:Option Nat):(vY o).val=true/\(vY o).cells=[vY o]/\(vY o).closed=true:=by cases o<;>exact⟨rfl,rfl,rfl⟩
theorem Jm{n:Nat}(h:n≠0):(0:Int)::aB n=aB (10000*n):=by
 rw[xG (n:=10000*n) (by omega)]
 have e1:10000*n%10000=0:=by omega
 have e2:10000*n/10000=n:=by omega
 rw[e1,e2];rfl
theorem ae9{v u:AV}{a:Nat}{m:List Int}(hv:bG 1 v (ints (aB a)))(dm:dL m)(ha:(aB a).length<=20000)(h:Heap)(k:Nat)(hk:k<m.length)(s:Option Nat×Nat)(hs:(aB (s.1.getD 0)).length<=40000)(lo:Nat)(hlo:lo<=h.length) :
  fF (run lib) ⟨lo,h.length+3,0,none⟩ (h.length+0) 1 [.int .i64 k,.int .i64 m[k]] (Fg h v u s)=some (.bool (yR a m s k).1,Fg h v u (yR a m s k).2):=by
 obtain⟨o,w⟩:=s;obtain⟨D,hD⟩:∃ D:bQ,D=⟨10,h.length,h.length,3,yS h v u⟩:=⟨_,rfl⟩;have gm:m.getD k 0=m[k]:=by rw[jC,gM hk];rfl
 have hx:=dm m[k] (ja hk);simp only[yR,gm];simp only[]at hs;generalize m[k]=x at*;obtain⟨d,rfl⟩:∃ d:Nat,x=d:=⟨x.toNat,by omega⟩
 simp only[Fg,<-hD,qW];obtain⟨n,hn⟩:∃ n,n=o.getD 0:=⟨_,rfl⟩;have hp:=ae7 o;rw[<-hn]at hp hs⊢;obtain⟨p1,p2,p3⟩:=ae8 o;have s1:=bK (hp.sl []).len;rw[fE]at s1;generalize vY o=O at*;have hby:=fun H lo=>Oh (k:=d) hv (by omega) (by omega) H lo
 have Wt:(aB (a*d)).length<=50000:=by
  have h1:a*d<=10000*a:=by rw[qG];exact lg _ (by omega)
  have h2:=yM h1;by_cases h0:a=0
  ·subst h0;simp[vO]
  ·rw[<-Jm h0]at h2;simp at h2;omega
 have ha':aA lib ⟨h.length,h.length,3,some (h.length+0,1)⟩ yJ.fZ ((yJ.ps.zip [.int .i64 k,.int .i64 d]).foldl (fun e p=>e.set p.1 p.2) (yS h v u),h++[(1,.ay D .ready),(w,.dead),(1,.box [O])]) =
   some (.norm,([(2,.bD [v]),(5,.aJ (h.length+2) 1 0),(7,.int .i64 d)],h++[(1,.ay D .ready),(w,.dead),(1,.box [O])])):=by
  simp(maxSteps:=1000000)(disch:=omega)only[go_sem,yJ,yS,List.zip_cons_cons,vX,List.foldl_cons,nN]
 have hg:(h++[(1,av.ay D .ready),(w,.dead),(1,.box [O])])[h.length+0]?=some (1,.ay ⟨10,h.length,h.length,3,yS h v u⟩ .ready):=by rw[bH,<-hD];rfl
 have hb:aA lib ⟨h.length,h.length,3,some (h.length+0,1)⟩ yJ.body ([(2,.bD [v]),(5,.aJ (h.length+2) 1 0),(7,.int .i64 d)],(h++[(1,av.ay D .ready),(w,av.dead),(1,av.box [O])]).set (h.length+0) (1,.ay D .busy)) =
   some (.norm,([],h++[(1,.ay D .busy),(if n=0 then w else w+1,.dead),(1,.box [.aN 1 (ints (aB (10000*n+a*d)))])])):=by
  rw[eB]
  have Wu:∀(es:List AV) (w':Nat) (O':AV),dK ⟨h.length,h.length,3,some (h.length+0,1)⟩ (h++[(1,.ay D .busy),(w',.dead),(1,.box [O'])]) 1 (.aJ (h.length+2) 1 0) (.aN 1 es)=some (h++[(1,.ay D .busy),(w',.dead),(1,.box [.aN 1 es])]):=fun es w' O'=>by
   rw[oz (aV _) rfl,if_pos ⟨rfl,rfl⟩];simp(maxSteps:=1000000)(disch:=omega)only[go_sem]
  by_cases h0:n=0
  ·have hpl:=fun H lo=>Jh (a:=n) (b:=a*d) hp (.inr ⟨1,.inl rfl,.inl rfl⟩) (by omega) Wt H lo
   subst h0;have c1:¬ (0:Int)<((aB 0).length:Nat):=by simp[vO]
   rw[je]at hpl;rw[if_pos rfl,Nat.mul_zero,je];simp(maxSteps:=1000000)(disch:=omega)only[go_sem,yJ,s1,c1,hby,hpl,Wu]
  ·have hne:aB n≠[]:=fun e=>h0 (vP.mp e);have c1:(0:Int)<((aB n).length:Nat):=by have:=mR.mpr hne;omega
   have src:=fun H:Heap=>yG (hp.sl H);have al:=Ws (lo:=h.length) (ns:=3) (s:=1) (z:=1) (lim:=17592186044416) (v:=w) (p:=(h.length+0,1)) (h:=h) (fr:=[(1,.ay D .busy),(w,.dead),(1,.box [O])]) (b:=.dead) (es:=[.int .i64 0]) (xs:=ints (aB n)) (by omega) rfl (by intro e;exact hne (by simpa[ints]using e)) (by simp;omega)
   have hsh:[AV.int .i64 0]++ints (aB n)=ints (aB (10000*n)):=by rw[<-Jm h0];rfl
   rw[hsh]at al;have hpl:=fun H lo=>Jh (v:=.aN 1 (ints (aB (10000*n)))) (a:=10000*n) (b:=a*d) (.inr ⟨1,.inl rfl,.inl rfl⟩) (u:=.aN 1 (ints (aB (a*d)))) (.inr ⟨1,.inl rfl,.inl rfl⟩) (by rw[<-Jm h0];simp;omega) Wt H lo
   simp only[List.set_cons_succ,List.set_cons_zero]at al;rw[if_neg h0];simp(maxSteps:=1000000)(disch:=omega)only[go_sem,yJ,s1,c1,src,al,hby,hpl,Wu]
 have:=uI (L:=lib) (cx:=⟨lo,h.length+3,0,none⟩) hg hlo (by omega) (by omega) (by simp[AV.jw,AV.closed]) (x:=yJ) rfl rfl ha' (by rw[bH];rfl) hb (by rw[bH];rfl)
 rw[this,eB];rfl
end Go.VI.Dump
namespace Go.VI.Dump
open Go.VI.Num
theorem Aw:∀(t n:Nat),n<10000^t->(aB n).length<=t
 |0,n,h=>by
  have:n=0:=by simp at h;exact h
  subst this;simp[vO]
 |t+1,n,h=>by
  by_cases h0:n=0
  ·subst h0;simp[vO]
  ·rw[Nat.pow_succ,qG]at h;have:=Aw t (n/10000) (Nat.div_lt_of_lt_mul h);rw[xG h0,List.length_cons];omega
theorem Jo(n:Nat):n<10000^(aB n).length:=by
 have h:=Ce (nH n);rw[lS]at h;have e:((10000^(aB n).length:Nat):Int)=(10000:Int)^(aB n).length:=by rw[Int.natCast_pow];rfl
 rw[<-e]at h;exact Int.ofNat_lt.mp h
theorem Jp(a b:Nat):(aB (a*b)).length<=(aB a).length+(aB b).length:=by
 refine Aw _ _ ?_;rw[Nat.pow_add];exact Nat.mul_lt_mul'' (Jo a) (Jo b)
theorem Oj{σ:Type}{Y:σ->Nat->Bool×σ}{Iv:Nat->σ->Prop}{n:Nat}(hY:∀ s k,(Y s k).1=true)(hI:∀ k s,k<n->Iv (k+1) s->Iv k (Y s k).2):∀ k s,k<=n->Iv k s->Iv 0 (lX Y k s)
 |0,s,_,h=>h
 |k+1,s,hk,h=>by
  simp only[lX,hY,if_true];exact Oj hY hI k _ (by omega) (hI k s (by omega) h)
def Cu(a:Nat)(m:List Int)(k:Nat)(s:Option Nat×Nat):Prop:=s.1.getD 0=a*(gv (m.drop k)).toNat/\(k<m.length->s.1≠none)/\(k=m.length->s.1=none)
theorem Wv{a:Nat}{m:List Int}(dm:dL m)(k:Nat)(s:Option Nat×Nat)(hk:k<m.length)(hi:Cu a m (k+1) s):Cu a m k (yR a m s k).2:=by
 obtain⟨h1,_,_⟩:=hi;have gm:m.getD k 0=m[k]:=by rw[jC,gM hk];rfl
 have hx:=dm m[k] (ja hk);have hd:dL (m.drop (k+1)):=fun x hx=>dm x (List.mem_of_mem_drop hx);have hg:=qR hd;refine⟨?_,fun _=>by simp[yR],fun h=>by omega⟩
 simp only[yR,gm,h1,Option.getD_some];rw[gY hk,gv];have e:(m[k]+10000*gv (m.drop (k+1))).toNat=m[k].toNat+10000*(gv (m.drop (k+1))).toNat:=by omega
 rw[e,Nat.mul_add,Nat.add_comm,<-Nat.mul_assoc,<-Nat.mul_assoc,qG 10000 a]
theorem ae'{a b:Nat}{k:Nat}{s:Option Nat×Nat}(ha:(aB a).length<=20000)(hb:(aB b).length<=20000)(hi:Cu a (aB b) k s):(aB (s.1.getD 0)).length<=40000:=by
 rw[hi.1];have h1:=Jp a (gv ((aB b).drop k)).toNat;have hd:dL ((aB b).drop k):=fun x hx=>nH b x (List.mem_of_mem_drop hx)
 have h2:(gv ((aB b).drop k)).toNat<10000^((aB b).drop k).length:=by
  have h:=Ce hd;have e:((10000^((aB b).drop k).length:Nat):Int)=(10000:Int)^((aB b).drop k).length:=by rw[Int.natCast_pow];rfl
  rw[<-e]at h;have:=qR hd;generalize 10000^((aB b).drop k).length=X at*;omega
 have h3:=Aw _ _ h2;have h4:((aB b).drop k).length<=(aB b).length:=by simp
 omega
theorem afa{v u:AV}{a b:Nat}(hv:bG 1 v (ints (aB a)))(hu:bG 1 u (ints (aB b)))(ha:(aB a).length<=20000)(hb:(aB b).length<=20000)(h:Heap)(lo:Nat) :
  (run lib).fn 181 [v,u] h lo=some (if b=0 then .own 0 []else .aN 1 (ints (aB (a*b))),h):=by
 obtain⟨v',f1,yQ,f2,f3,f4,f5⟩:=sS hv;obtain⟨u',g1,g1',g2,g3,g4,g5⟩:=sS hu;have dm:=nH b;have i0:Cu a (aB b) (aB b).length (none,0):=⟨by simp[gv],fun h=>by omega,fun _=>rfl⟩
 have hbk:=Jj (H:=Fg h v' u') (nb:=h.length+3) (lo:=h.length) (id:=h.length+0) (Y:=yR a (aB b)) (Iv:=Cu a (aB b)) g4 (by omega) (fun s=>by simp[Fg]) (by omega)
  (fun k s hk hi _=>Wv dm k s hk hi) (fun k s hk hi=>ae9 f4 dm ha h k hk s (ae' ha hb hi) h.length (aV _)) (none,0) i0
 have hfin:=Oj (Iv:=Cu a (aB b)) (fun s k=>rfl) (fun k s hk hi=>Wv dm k s hk hi) (aB b).length (none,0) (aV _) i0;obtain⟨s',hs'⟩:∃ s',s'=lX (yR a (aB b)) (aB b).length (none,0):=⟨_,rfl⟩;rw[<-hs']at hbk hfin;clear hs';obtain⟨o,w⟩:=s';have e1:=hfin.1;simp only[List.drop_zero,lS,qW]at e1;have bw:=Jk u u' g1 g1' g2 g5
 have g3':=vN (L:=lib) (lo:=h.length) (ns:=3) (s:=0) (g:=10) (it:=175) (v:=0) (caps:=[.bD [u']]) (env:=yS h v' u') (h:=h) (b:=.dead) (fr:=[(0,.dead),(0,.dead),(1,.box [.aD])])
  (fr':=[(1,.ay ⟨10,h.length,h.length,3,yS h v' u'⟩ .ready),(w,.dead),(1,.box [vY o])]) (f:=.t 9) rfl (by omega) rfl hbk rfl
 simp only[yS,List.set_cons_zero]at g3';rw[aY (x:=IK) rfl rfl rfl rfl];by_cases h0:b=0
 ·subst h0;have ho:o=none:=hfin.2.2 rfl;subst ho;simp only[vY]at g3';rw[if_pos rfl];simp(maxSteps:=1000000)(disch:=omega)only[go_sem,IK,f1,f2,f5,bw,g3']
 ·have hne:aB b≠[]:=fun e=>h0 (vP.mp e);have ho:o≠none:=hfin.2.1 (mR.mpr hne);obtain⟨n,rfl⟩:=Option.ne_none_iff_exists'.mp ho;simp only[Option.getD_some]at e1;subst e1;simp only[vY]at g3';rw[if_neg h0];simp(maxSteps:=1000000)(disch:=omega)only[go_sem,IK,f1,f2,f5,bw,g3']
end Go.VI.Dump
namespace Go.VI.Dump
open Go.VI.Num
theorem afb(a b:Int):(0<bR a b)↔b<a:=by
 unfold bR;by_cases h1:a<b
 ·rw[if_pos h1];omega
 ·rw[if_neg h1];by_cases h2:a=b
  ·rw[if_pos h2];omega
  ·rw[if_neg h2];omega
theorem afc{u r:AV}{m n:Nat}(hm0:m≠0)(hu:bG 1 u (ints (aB m)))(hr:bG 1 r (ints (aB n)))(hm:(aB m).length<=20000)(hn:(aB n).length<=20000)(h:Heap)(i1 v1 i2 v2:Nat)
  (e1:h[i1]?=some (v1,.box [.fn (1000+147) [u]])) (e2:h[i2]?=some (v2,.box [r])) (d:Nat) (hd:d<9999) (lo:Nat) :
  (run lib).fn 148 [.int .i64 d,.aJ i1 v1 0,.aJ i2 v2 0] h lo=some (.bool (decide (n/m<=d)),h):=by
 have c1:eD h (.aJ i1 v1 0)=some [.fn (1000+147) [u]]:=by simp[eD,e1]
 have c2:eD h (.aJ i2 v2 0)=some [r]:=by simp[eD,e2]
 have b:=fun H lo=>Oh (k:=d+1) hu (by omega) (by omega) H lo
 rw[dF]at b
 have hl:(aB (m*(d+1))).length<=1000000:=by
  have h1:=Jp m (d+1);have h2:=Aw 1 (d+1) (by omega)
  omega
 have k:=fun H lo=>Jl (v:=.aN 1 (ints (aB (m*(d+1))))) (l:=aB (m*(d+1))) (.inr ⟨1,.inl rfl,.inl rfl⟩) hr hl (by omega) H lo
 rw[NJ]at k
 have hdec:decide (0<bR ((m*(d+1):Nat):Int) (n:Int))=decide (n/m<=d):=by
  rw[decide_eq_decide,afb];have hpos:0<m:=by omega
  have h1:n/m<d+1↔n<(d+1)*m:=Nat.div_lt_iff_lt_mul hpos;rw[qG]at h1;omega
 rw[aY (x:=Nq) rfl rfl rfl rfl];simp(maxSteps:=1000000)(disch:=omega)only[go_sem,Nq,c1,c2,b,k,hdec]
end Go.VI.Dump
namespace Go.VI.Dump
open Go.VI.Num
theorem afd(d:Nat)(hd:d<=9999):∃ X:AV,bG 1 X (ints (aB d))/\X.closed=true/\X.val=true/\X.cells=[X]/\∀ h lo,(run lib).fn 146 [.aM 1 [.int .i64 d]] h lo=some (X,h):=by
 have s1:jc false (.aM 1 [.int .i64 d])=some (.int .i64 1):=rfl;have e3:bP 1 (.aM 1 [.int .i64 d]) (.int .i64 0)=some 0:=rfl;have e4:∀ off H,eD H (.di (.aM 1 [.int .i64 d]) 0 off)=some ([AV.int .i64 d].drop off):=fun off H=>rfl;by_cases h0:d=0
 ·subst h0;have hs:kg (some 1) (.aM 1 [.int .i64 ((0:Nat):Int)]) none (some (.int .i64 0))=some (.aN 1 []):=rfl;refine⟨.aN 1 [],.inr ⟨1,.inl rfl,.inl rfl⟩,rfl,rfl,rfl,fun h lo=>?_⟩;have t:=Wn (l:=[]) (by simp) ⟨h.length,h.length,0,none⟩ h 0 (aV _)
  simp only[List.take_nil,ints,List.map_nil]at t;have ez:((0:Nat):Int)=0:=rfl;rw[ez]at s1 e3 e4 hs⊢
  have w:aA lib ⟨h.length,h.length,0,none⟩ (.loop Ca) ([(0,.aM 1 [.int .i64 0])],h)=some (.exit 0,([(0,.aN 1 [])],h)):=by
   rw[aR];simp(maxSteps:=1000000)(disch:=omega)only[go_sem,s1,e3,e4,hs,t]
  rw[aY (x:=xE) rfl rfl rfl rfl];simp(maxSteps:=1000000)(disch:=omega)only[go_sem,xE,w]
 ·have hg:aB d=[(d:Int)]:=by
   rw[xG h0,Nat.mod_eq_of_lt (by omega),show d/10000=0 by omega];rfl
  have c:¬ (d:Int)=0:=by omega
  refine⟨.aM 1 [.int .i64 d],by rw[hg];exact .inr ⟨1,.inr rfl,.inl rfl⟩,rfl,rfl,rfl,fun h lo=>?_⟩
  have w:aA lib ⟨h.length,h.length,0,none⟩ (.loop Ca) ([(0,.aM 1 [.int .i64 d])],h)=some (.exit 0,([(0,.aM 1 [.int .i64 d])],h)):=by
   rw[aR];simp(maxSteps:=1000000)(disch:=omega)only[go_sem,s1,e3,e4,c]
  rw[aY (x:=xE) rfl rfl rfl rfl];have hg2:eF h.length (.aM 1 [.int .i64 d]) h=some (.aM 1 [.int .i64 d]):=rfl;simp(maxSteps:=1000000)(disch:=omega)only[go_sem,xE,w,hg2,Option.map_some]
end Go.VI.Dump
namespace Go.VI.Dump
open Go.VI.Num
def yU(h:Heap)(v u:AV):Env:=[(3,.bD [u]),(4,.aJ (h.length+4) 1 0),(5,.aJ (h.length+5) 1 0),(14,.fn 175 [.bD [v]])]
structure yV where
 q:List Int
 R:Nat
 rv:AV
 s1:Nat×av
 w2:Nat
def Fh(h:Heap)(v u:AV)(N:Nat)(s:yV):Heap:=h++[(1,.ay ⟨7,h.length,h.length,6,yU h v u⟩ .ready),s.s1,(s.w2,.dead),(1,.arr 1 (ints s.q)),(1,.box [.ref (h.length+3) 1 1 0 N N]),(1,.box [s.rv])]
def sU(u:AV)(m:Nat)(d:Nat)(k:Nat)(s:yV):yV :=
 ⟨s.q.set k ((d+10000*s.R)/m:Nat),(d+10000*s.R)%m,.aN 1 (ints (aB ((d+10000*s.R)%m))),(s.s1.1+1,.box [.fn (1000+147) [u]]),if s.R=0 then s.w2 else s.w2+1⟩
theorem afe{rv:AV}{R d:Nat}(hr:bG 1 rv (ints (aB R)))(hR:(aB R).length<=20000)(hd:d<=9999):∃ X:AV,bG 1 X (ints (aB (d+10000*R)))/\X.closed=true/\X.val=true/\X.cells=[X] /\
  ∀(h fr:Heap) (w:Nat) (p:Nat×Nat),fr[2]?=some (w,.dead)->∃ Y:AV,(dP ⟨h.length,h.length,6,some p⟩ (1002-1000) 1 17592186044416 (.aM 1 [.int .i64 d]) (ints (aB R)) (h++fr)).bind (fun r=>aU h.length false r.1 r.2)=some (Y,h++(if R=0 then fr else fr.set 2 (w+1,.dead))) /\
   ∀ H lo,(run lib).fn 146 [Y] H lo=some (X,H):=by
 by_cases h0:R=0
 ·subst h0;obtain⟨X,x1,x2,x3,x4,x5⟩:=afd d hd;refine⟨X,by rw[Nat.mul_zero,Nat.add_zero];exact x1,x2,x3,x4,fun h fr w p hf=>⟨.aM 1 [.int .i64 d], ?_,x5⟩⟩
  simp[dP,vO,ints,aU]
 ·have hne:aB R≠[]:=fun e=>h0 (vP.mp e);have hdig:dL ((d:Int)::aB R):=dL.cons.mpr ⟨by omega,nH R⟩
  have ht:dV ((d:Int)::aB R)=aB (d+10000*R):=by
   rw[Cg hdig,gv,lS];congr 1
  have hl:((d:Int)::aB R).length<=1000000:=by simp;omega
  have t:=Jg hl;rw[ht]at t;refine⟨.aN 1 (ints (aB (d+10000*R))),.inr ⟨1,.inl rfl,.inl rfl⟩,rfl,rfl,rfl,fun h fr w p hf=>⟨.aN 1 (ints ((d:Int)::aB R)), ?_,t⟩⟩;rw[if_neg h0];have:=Ws (lo:=h.length) (ns:=6) (s:=2) (z:=1) (lim:=17592186044416) (v:=w) (p:=p) (h:=h) (fr:=fr) (b:=.dead) (es:=[.int .i64 d]) (xs:=ints (aB R)) (by omega) hf (by intro e;exact hne (by simpa[ints]using e)) (by simp;omega)
  exact this
end Go.VI.Dump
namespace Go.VI.Dump
open Go.VI.Num
theorem aff{z:Nat}{v:AV}{es:List AV}(p:bG z v es):weak v=v:=by
 rcases p with⟨rfl,rfl⟩|⟨z',rfl|rfl,hz⟩<;>rfl
theorem afg{v u:AV}{m:Nat}(hm0:m≠0)(hu:bG 1 u (ints (aB m)))(uc:u.closed=true)(hm:(aB m).length<=15000)(N:Nat)(hN:N<=20000)(h:Heap)(s:yV)(hq:s.q.length=N)(hr:bG 1 s.rv (ints (aB s.R)))(hR:s.R<m)(rv1:s.rv.val=true)(k:Nat)(hk:k<N)(d:Nat)(hd:d<=9999)(lo:Nat)(hlo:lo<=h.length) :
  fF (run lib) ⟨lo,h.length+6,0,none⟩ (h.length+0) 1 [.int .i64 k,.int .i64 d] (Fh h v u N s)=some (.bool true,Fh h v u N (sU u m d k s)):=by
 obtain⟨q,R,rv,s1,w2⟩:=s;obtain⟨w1,b1⟩:=s1;simp only[]at hq hr hR rv1;obtain⟨D,hD⟩:∃ D:bQ,D=⟨7,h.length,h.length,6,yU h v u⟩:=⟨_,rfl⟩;simp only[Fh,sU,<-hD];have hRl:(aB R).length<=15000:=kY (yM (Nat.le_of_lt hR)) hm;obtain⟨X,x1,x2,x3,x4,x5⟩:=afe (d:=d) hr (by omega) hd
 obtain⟨n,hn⟩:∃ n,n=d+10000*R:=⟨_,rfl⟩;rw[<-hn]at x1⊢;obtain⟨t,ht⟩:∃ t,t=n/m:=⟨_,rfl⟩
 have Ol:t<=9999:=by
  have:n<10000*m:=by omega
  have:=Nat.div_lt_of_lt_mul (by rw[qG];exact this:n<m*10000)
  omega
 have hnl:(aB n).length<=15001:=by
  have h1:n<=10000*m:=by omega
  have h2:=yM h1;rw[<-Jm hm0]at h2;simp at h2;omega
 have hmt:n-m*t=n%m:=by rw[ht];have:=Nat.div_add_mod n m;omega
 rw[<-ht];obtain⟨W,hW⟩:∃ W,W=if R=0 then w2 else w2+1:=⟨_,rfl⟩
 have ha':aA lib ⟨h.length,h.length,6,some (h.length+0,1)⟩ r7.fZ ((r7.ps.zip [.int .i64 k,.int .i64 d]).foldl (fun e p=>e.set p.1 p.2) (yU h v u),h++[(1,.ay D .ready),(w1,b1),(w2,.dead),(1,.arr 1 (ints q)),(1,.box [.ref (h.length+3) 1 1 0 N N]),(1,.box [rv])]) =
   some (.norm,([(3,.bD [u]),(4,.aJ (h.length+4) 1 0),(5,.aJ (h.length+5) 1 0),(6,.int .i64 k),(7,.int .i64 d)],h++[(1,.ay D .ready),(w1,b1),(w2,.dead),(1,.arr 1 (ints q)),(1,.box [.ref (h.length+3) 1 1 0 N N]),(1,.box [rv])])):=by
  simp(maxSteps:=1000000)(disch:=omega)only[go_sem,r7,yU,List.zip_cons_cons,vX,List.foldl_cons,nN]
 have hg:(h++[(1,av.ay D .ready),(w1,b1),(w2,.dead),(1,.arr 1 (ints q)),(1,.box [.ref (h.length+3) 1 1 0 N N]),(1,.box [rv])])[h.length+0]?=some (1,.ay ⟨7,h.length,h.length,6,yU h v u⟩ .ready):=by rw[bH,<-hD];rfl
 have hb:aA lib ⟨h.length,h.length,6,some (h.length+0,1)⟩ r7.body ([(3,.bD [u]),(4,.aJ (h.length+4) 1 0),(5,.aJ (h.length+5) 1 0),(6,.int .i64 k),(7,.int .i64 d)],(h++[(1,av.ay D .ready),(w1,b1),(w2,av.dead),(1,av.arr 1 (ints q)),(1,av.box [.ref (h.length+3) 1 1 0 N N]),(1,av.box [rv])]).set (h.length+0) (1,.ay D .busy)) =
   some (.norm,([],h++[(1,.ay D .busy),(w1+1,.box [.fn (1000+147) [u]]),(W,.dead),(1,.arr 1 (ints (q.set k t))),(1,.box [.ref (h.length+3) 1 1 0 N N]),(1,.box [.aN 1 (ints (aB (n%m)))])])):=by
  rw[eB];have src:=fun H:Heap=>yG (hr.sl H);obtain⟨Y,y1,y2⟩:=x5 h [(1,.ay D .busy),(w1,b1),(w2,.dead),(1,.arr 1 (ints q)),(1,.box [.ref (h.length+3) 1 1 0 N N]),(1,.box [rv])] w2 (h.length+0,1) rfl
  have y1':(dP ⟨h.length,h.length,6,some (h.length+0,1)⟩ (1002-1000) 1 17592186044416 (.aM 1 [.int .i64 d]) (ints (aB R)) (h++[(1,.ay D .busy),(w1,b1),(w2,.dead),(1,.arr 1 (ints q)),(1,.box [.ref (h.length+3) 1 1 0 N N]),(1,.box [rv])])).bind (fun r=>aU h.length false r.1 r.2)=some (Y,h++[(1,.ay D .busy),(w1,b1),(W,.dead),(1,.arr 1 (ints q)),(1,.box [.ref (h.length+3) 1 1 0 N N]),(1,.box [rv])]):=by
   rw[y1,hW];by_cases h0:R=0
   ·rw[if_pos h0,if_pos h0]
   ·rw[if_neg h0,if_neg h0];rfl
  have p1:dK ⟨h.length,h.length,6,some (h.length+0,1)⟩ (h++[(1,.ay D .busy),(w1,b1),(W,.dead),(1,.arr 1 (ints q)),(1,.box [.ref (h.length+3) 1 1 0 N N]),(1,.box [rv])]) 1 (.aJ (h.length+5) 1 0) X=some (h++[(1,.ay D .busy),(w1,b1),(W,.dead),(1,.arr 1 (ints q)),(1,.box [.ref (h.length+3) 1 1 0 N N]),(1,.box [X])]):=by
   rw[oz (aV _) x2,if_pos ⟨by rw[x4];rfl,x3⟩]
   simp(maxSteps:=1000000)(disch:=omega)only[go_sem,x4]
  have p2:bV ⟨h.length,h.length,6,some (h.length+0,1)⟩ 1 (.box [.gZ]) (h++[(1,.ay D .busy),(w1,b1),(W,.dead),(1,.arr 1 (ints q)),(1,.box [.ref (h.length+3) 1 1 0 N N]),(1,.box [X])])=some (w1+1,h++[(1,.ay D .busy),(w1+1,.box [.gZ]),(W,.dead),(1,.arr 1 (ints q)),(1,.box [.ref (h.length+3) 1 1 0 N N]),(1,.box [X])]):=by
   rw[uU (by rfl)]
   simp(maxSteps:=1000000)(disch:=omega)only[go_sem]
  have p3:dK ⟨h.length,h.length,6,some (h.length+0,1)⟩ (h++[(1,.ay D .busy),(w1+1,.box [.gZ]),(W,.dead),(1,.arr 1 (ints q)),(1,.box [.ref (h.length+3) 1 1 0 N N]),(1,.box [X])]) 1 (.aJ (h.length+1) (w1+1) 0) (.fn (1000+147) [u])=some (h++[(1,.ay D .busy),(w1+1,.box [.fn (1000+147) [u]]),(W,.dead),(1,.arr 1 (ints q)),(1,.box [.ref (h.length+3) 1 1 0 N N]),(1,.box [X])]):=by
   rw[oz (aV _) (by simp[AV.closed,AV.jw,uc]),if_pos ⟨rfl,rfl⟩]
   simp(maxSteps:=1000000)(disch:=omega)only[go_sem]
  have q1:bP 1 (.ref (h.length+3) 1 1 0 N N) (.int .i64 k)=some k:=by simp[bP,fe,iH,idx];omega
  have sr:=ae6 (f:=148) (caps:=[.aJ (h.length+1) (w1+1) 0,.aJ (h.length+5) 1 0]) (h:=h++[(1,.ay D .busy),(w1+1,.box [.fn (1000+147) [u]]),(W,.dead),(1,.arr 1 (ints q)),(1,.box [.ref (h.length+3) 1 1 0 N N]),(1,.box [X])]) (t:=t) (n:=9999) (by omega) (by omega)
   (fun d hd=>by rw[ht];exact afc hm0 hu x1 (by omega) (by omega) _ _ _ _ _ (by rw[bH];rfl) (by rw[bH];rfl) d hd _)
  rw[Nat.min_eq_right Ol,show ((9999:Nat):Int)=9999 from rfl]at sr
  have p4:=Lx (cx:=⟨h.length,h.length,6,some (h.length+0,1)⟩) (h:=h++[(1,.ay D .busy),(w1+1,.box [.fn (1000+147) [u]]),(W,.dead),(1,.arr 1 (ints q)),(1,.box [.ref (h.length+3) 1 1 0 N N]),(1,.box [X])]) (id:=h.length+3) (aj:=1) (o:=0) (len:=N) (fill:=N) (i:=k) (k:=.i64) (l:=q) (n:=(t:Int)) (by rw[bH];rfl) hq (by omega) hk (by simp only[];omega)
  simp only[je,eB,List.set_cons_succ,List.set_cons_zero]at p4;have so:=Sl.Er (h:=h) (fr:=[(1,.ay D .busy),(w1+1,.box [.fn (1000+147) [u]]),(W,.dead),(1,.arr 1 (ints (q.set k t))),(1,.box [.ref (h.length+3) 1 1 0 N N]),(1,.box [X])]) (s:=3) (aj:=1) (z:=1) (es:=ints (q.set k t)) rfl;simp only[fE,qJ,hq]at so;have q2:=fun off=>dx (off:=off) so.eO (show k<(ints (q.set k (t:Int))).length by simp;omega)
  simp only[lW,List.getElem_set_self]at q2;have hby:=fun H lo=>Oh (k:=t) hu (by omega) (by omega) H lo
  have hml:(aB (m*t)).length<=50000:=by
   have h1:=Jp m t;have h2:=Aw 1 t (by omega)
   omega
  have Om:=fun H lo=>Ji (a:=n) (b:=m*t) (u:=.aN 1 (ints (aB (m*t)))) x1 (.inr ⟨1,.inl rfl,.inl rfl⟩) (by rw[ht];exact Nat.mul_div_le n m) (by omega) H lo
  rw[hmt]at Om
  have p5:∀ es:List AV,dK ⟨h.length,h.length,6,some (h.length+0,1)⟩ (h++[(1,.ay D .busy),(w1+1,.box [.fn (1000+147) [u]]),(W,.dead),(1,.arr 1 (ints (q.set k t))),(1,.box [.ref (h.length+3) 1 1 0 N N]),(1,.box [X])]) 1 (.aJ (h.length+5) 1 0) (.aN 1 es)=some (h++[(1,.ay D .busy),(w1+1,.box [.fn (1000+147) [u]]),(W,.dead),(1,.arr 1 (ints (q.set k t))),(1,.box [.ref (h.length+3) 1 1 0 N N]),(1,.box [.aN 1 es])]):=fun es=>by
   rw[oz (aV _) rfl,if_pos ⟨rfl,rfl⟩];simp(maxSteps:=1000000)(disch:=omega)only[go_sem]
  simp only[ints]at p4 p5 y1' p1 p2 p3 q2 sr hby Om src⊢;have xw:=aff x1;have n1:¬ h.length=h.length+4:=by omega
  have n2:¬ h.length=h.length+1:=by omega
  simp(maxSteps:=1000000)(disch:=omega)only[go_sem,r7,n1,n2,src,y1',y2,xw,p1,p2,p3,q1,sr,p4,q2,hby,Om,p5]
 have:=uI (L:=lib) (cx:=⟨lo,h.length+6,0,none⟩) hg hlo (by omega) (by omega) (by simp[AV.jw,AV.closed]) (x:=r7) rfl rfl ha' (by rw[bH];rfl) hb (by rw[bH];rfl)
 rw[this,eB,hW];rfl
end Go.VI.Dump
namespace Go.VI.Dump
open Go.VI.Num
theorem afj{d T m R:Nat}(hm:m≠0)(hR:R=T%m):(d+10000*T)/m=(d+10000*R)/m+10000*(T/m)/\(d+10000*T)%m=(d+10000*R)%m:=by
 have h:=Nat.div_add_mod T m
 have e:d+10000*T=(d+10000*R)+m*(10000*(T/m)):=by
  have e1:m*(10000*(T/m))=10000*(m*(T/m)):=by rw[<-Nat.mul_assoc,qG m 10000,Nat.mul_assoc]
  rw[e1,hR];generalize m*(T/m)=X at*;omega
 rw[e];exact⟨Nat.add_mul_div_left _ _ (by omega),Nat.add_mul_mod_self_left _ _ _⟩
theorem Jq{q:List Int}{k:Nat}(hk:k<q.length)(x:Int):(q.set k x).drop k=x::q.drop (k+1):=by
 rw[gY (by simpa using hk)]
 simp[List.drop_set]
end Go.VI.Dump
namespace Go.VI.Dump
open Go.VI.Num
def Ay(a m N k:Nat)(s:yV):Prop:=s.q.length=N/\bG 1 s.rv (ints (aB s.R))/\s.rv.val=true/\s.R=(gv ((aB a).drop k)).toNat%m/\gv (s.q.drop k)=((gv ((aB a).drop k)).toNat/m:Nat)/\dL (s.q.drop k)
theorem Ww{u:AV}{a m N:Nat}(hm:m≠0)(hN:N=(aB a).length)(k:Nat)(s:yV)(hk:k<N)(d:Nat)(hd:((aB a).getD k 0).toNat=d)(hi:Ay a m N (k+1) s):Ay a m N k (sU u m d k s):=by
 obtain⟨h1,h2,h3,h4,h5,h6⟩:=hi;have hka:k<(aB a).length:=by omega
 have gm:(aB a).getD k 0=(aB a)[k]:=by rw[jC,gM hka];rfl
 have hx:=nH a (aB a)[k] (ja hka);have hdg:dL ((aB a).drop (k+1)):=fun x hx=>nH a x (List.mem_of_mem_drop hx);have hg:=qR hdg;rw[gm]at hd
 have hT:(gv ((aB a).drop k)).toNat=d+10000*(gv ((aB a).drop (k+1))).toNat:=by
  rw[gY hka,gv];omega
 obtain⟨e1,e2⟩:=afj (d:=d) hm h4;have Wx:s.R<m:=by rw[h4];exact Nat.mod_lt _ (by omega)
 have ht:(d+10000*s.R)/m<=9999:=by
  have h9:d<=9999:=by omega
  have:=Nat.div_lt_of_lt_mul (show d+10000*s.R<m*10000 by omega)
  omega
 refine⟨by simp[sU,h1],.inr ⟨1,.inl rfl,.inl rfl⟩,rfl, ?_, ?_, ?_⟩
 ·rw[hT,e2];rfl
 ·simp only[sU];rw[Jq (by omega),gv,h5,hT,e1]
  generalize (d+10000*s.R)/m=t;generalize (gv ((aB a).drop (k+1))).toNat/m=Q;omega
 ·simp only[sU];rw[Jq (by omega)]
  refine dL.cons.mpr ⟨?_,h6⟩;generalize (d+10000*s.R)/m=t at*;omega
end Go.VI.Dump
namespace Go.VI.Dump
open Go.VI.Num
theorem afk{l:List Int}(hl:l.length<=1000000)(cx:Cx)(H:Heap)(id:Nat)(hid:H[id]?=some (1,.arr 1 (ints l))):∀ k:Nat,k<=l.length ->
  aA lib cx (.loop Ca) ([(0,.ref id 1 1 0 k l.length)],H)=some (.exit 0,([(0,.ref id 1 1 0 (jV l k) l.length)],H)):=by
 intro k
 induction k with
 |zero =>
  intro hk;rw[aR];have s3:jc false (.ref id 1 1 0 0 l.length)=some (.int .i64 0):=rfl;simp only[jV]
  simp(maxSteps:=1000000)(disch:=omega)only[go_sem,s3,dU]
 |succ k ih =>
  intro hk;have s3:jc false (.ref id 1 1 0 (k+1) l.length)=some (.int .i64 ((k:Int)+1)):=rfl;have c1:(0:Int)<(k:Int)+1:=by omega
  have e0:(k:Int)+1-1=k:=by omega
  have e3:bP 1 (.ref id 1 1 0 (k+1) l.length) (.int .i64 k)=some k:=by simp[bP,fe,iH,idx]
  have hg:l.getD k 0=l[k]:=by rw[jC,gM (by omega)];rfl
  have e4:eD H (.di (.ref id 1 1 0 (k+1) l.length) k 0)=some [.int .i64 l[k]]:=by
   have hb:k+1<=l.length:=hk;have hk':k<l.length:=by omega
   simp only[eD,dW,hid,fE];simp[hb,ints,AV.cells]
  have hsl:kg (some 1) (.ref id 1 1 0 (k+1) l.length) none (some (.int .i64 k))=some (.ref id 1 1 0 k l.length):=by
   have hb:bnd (some (.int .i64 k)) (k+1) (k+1)=some k:=by rw[BN (by omega) (by omega)];simp
   rw[Ic,hb];simp[bnd]
  have ih':=ih (by omega)
  simp only[jV,hg];rw[aR];by_cases c2:l[k]=0
  ·rw[if_pos c2];simp(maxSteps:=1000000)(disch:=omega)only[go_sem,s3,c1,e0,e3,e4,c2,hsl,ih']
  ·rw[if_neg c2];simp(maxSteps:=1000000)(disch:=omega)only[go_sem,s3,c1,e0,e3,e4,c2]
theorem Wy{l:List Int}(hl:l.length<=1000000)(h:Heap)(id:Nat)(hid:h[id]?=some (1,.arr 1 (ints l)))(N:Nat)(hN:l.length=N)(lo:Nat):(run lib).fn 146 [.ref id 1 1 0 N N] h lo=some (.ref id 1 1 0 (dV l).length N,h):=by
 subst hN;have e:=fun cx=>afk hl cx h id hid l.length (aV _);have hlt:id<h.length:=(bO.mp hid).1
 have hg:∀ t N,eF h.length (.ref id 1 1 0 t N) h=some (.ref id 1 1 0 t N):=fun t N=>by
  simp[eF,give,aU,show ¬ h.length<=id by omega]
 have ht:(dV l).length=jV l l.length:=by
  have:=Cf l l.length;simp[dV];omega
 rw[aY (x:=xE) rfl rfl rfl rfl,ht];simp(maxSteps:=1000000)(disch:=omega)only[go_sem,xE,e,hg,Option.map_some]
def Fj(a m:Nat):AV:=if (aB (a/m)).length=(aB a).length then .own 1 (ints (aB (a/m)))else .aN 1 (ints (aB (a/m)))
def Fp(a m:Nat):AV:=if a=0 then .own 0 []else .aN 1 (ints (aB (a%m)))
def ru(a m:Nat):AV:=if a=0 then .aN 0 []else .aN 1 (ints (aB (a%m)))
@[go_sem] theorem apg(a m:Nat):dw (Fj a m)=.aN 1 (ints (aB (a/m))):=by unfold Fj;split<;>rfl
@[go_sem] theorem aph(a m:Nat):dw (Fp a m)=ru a m:=by unfold Fp ru;split<;>rfl
@[go_sem] theorem apj(a m:Nat):(ru a m).val=true:=by unfold ru;split<;>rfl
@[go_sem] theorem apk(a m:Nat):(ru a m).cells=[ru a m]:=by unfold ru;split<;>rfl
@[go_sem] theorem apl(a m:Nat):(ru a m).closed=true:=by unfold ru;split<;>rfl
theorem Wz(a m:Nat):bG 1 (ru a m) (ints (aB (a%m))):=by
 unfold ru;by_cases h:a=0
 ·rw[if_pos h];subst h;rw[Nat.zero_mod,vO];exact .inr ⟨0,.inl rfl,.inr rfl⟩
 ·rw[if_neg h];exact .inr ⟨1,.inl rfl,.inl rfl⟩
theorem vZ(l:List Int):bG 1 (.aN 1 (ints l)) (ints l):=.inr ⟨1,.inl rfl,.inl rfl⟩
theorem WA{u:AV}{a m N:Nat}(hm:m≠0)(hN:N=(aB a).length)(s0:yV)(h0:Ay a m N N s0):∀ k s,k<=N->Ay a m N k s->Ay a m N 0 (lX (fun s k=>(true,sU u m ((aB a).getD k 0).toNat k s)) k s)
 |0,s,_,h=>h
 |k+1,s,hk,h=>by
  simp only[lX,if_true];exact WA hm hN s0 h0 k _ (by omega) (Ww hm hN k s (by omega) _ rfl h)
end Go.VI.Dump
namespace Go.VI.Dump
open Go.VI.Num
theorem afl{z:Nat}{v:AV}{es:List AV}(p:bG z v es):v.closed=true:=by
 rcases p with⟨rfl,rfl⟩|⟨z',rfl|rfl,hz⟩<;>rfl
theorem WB{u:AV}{m:Nat}{D:Nat->Nat}:∀(k:Nat) (s:yV),0<k->(lX (fun s k=>(true,sU u m (D k) k s)) k s).rv=.aN 1 (ints (aB (lX (fun s k=>(true,sU u m (D k) k s)) k s).R))
 |0,s,h=>by omega
 |1,s,h=>by simp only[lX,if_true];rfl
 |k+2,s,h=>by
  rw[lX,if_pos rfl];exact WB (k+1) _ (by omega)
theorem afm{h fr:Heap}{l:List Int}{t N:Nat}{rv rv':AV}(hl:l.length=N)(ht:t<=N)(hf:fr[3]?=some (1,.arr 1 (ints l)))(hr:∀ H:Heap,give h.length rv H=some (rv',H)) :
  eF h.length (.tuple [.ref (h.length+3) 1 1 0 t N,rv]) (h++fr)=some (.tuple [if t=N then .own 1 (ints l)else .aN 1 (ints (l.take t)),rv']):=by
 have hg:(h++fr)[h.length+3]?=some (1,.arr 1 (ints l)):=by rw[bH];exact hf
 have ha:dW (h++fr) (.ref (h.length+3) 1 1 0 t N)=some (ints (l.take t)):=by
  simp[dW,hg,hl,ht,ints,List.map_take]
 have hgv:give h.length (.ref (h.length+3) 1 1 0 t N) (h++fr)=some (if t=N then .own 1 (ints l)else .aN 1 (ints (l.take t)),(h++fr).set (h.length+3) (1,.dead)):=by
  by_cases c:t=N
  ·subst c;rw[if_pos rfl];rw[<-hl,kP]at ha;rw[<-hl];simp only[give,ha];simp
  ·rw[if_neg c];simp only[give];rw[if_neg (by omega)]
   simp[aU,ha]
 simp only[eF,l6,hgv,hr,Option.bind_some,Option.map_some]
theorem WC{v u:AV}{a m:Nat}(hm0:m≠0)(hv:bG 1 v (ints (aB a)))(hu:bG 1 u (ints (aB m)))(ha:(aB a).length<=15000)(hm:(aB m).length<=15000)(h:Heap)(lo:Nat) :
  (run lib).fn 110 [v,u] h lo=some (.tuple [Fj a m,Fp a m],h):=by
 obtain⟨v',f1,yQ,f2,f3,f4,f5⟩:=sS hv;obtain⟨u',g1,g1',g2,g3,g4,g5⟩:=sS hu;have uc:=afl g4;obtain⟨N,hN⟩:∃ N,N=(aB a).length:=⟨_,rfl⟩
 have i0:Ay a m N N ⟨List.replicate N 0,0,.aD,(0,.dead),0⟩:=by
  refine⟨by simp,.inl ⟨rfl,rfl⟩,rfl, ?_, ?_, ?_⟩
  ·rw[kQ (by omega)];simp[gv]
  ·rw[kQ (by simp),kQ (by omega)];simp[gv]
  ·rw[kQ (by simp)];exact dL.nil
 have hbk:=Jj (H:=Fh h v' u' N) (nb:=h.length+6) (lo:=h.length) (id:=h.length+0) (Y:=fun s k=>(true,sU u' m ((aB a).getD k 0).toNat k s)) (Iv:=Ay a m N) f4 (by omega) (fun s=>by simp[Fh]) (by omega)
  (fun k s hk hi _=>Ww hm0 hN k s (by omega) _ rfl hi)
  (fun k s hk hi=>by
   have gm:(aB a).getD k 0=(aB a)[k]:=by rw[jC,gM hk];rfl
   have hx:=nH a (aB a)[k] (ja hk);have hR:s.R<m:=by rw[hi.2.2.2.1];exact Nat.mod_lt _ (by omega)
   have y:=afg (v:=v') (u:=u') hm0 g4 uc hm N (by omega) h s hi.1 hi.2.1 hR hi.2.2.1 k (by omega) ((aB a).getD k 0).toNat (by rw[gm];omega) h.length (aV _)
   have e:(((aB a).getD k 0).toNat:Int)=(aB a)[k]:=by rw[gm];omega
   rw[e]at y;exact y)
  ⟨List.replicate N 0,0,.aD,(0,.dead),0⟩ (by rw[<-hN];exact i0)
 have hfin:=WA (u:=u') hm0 hN _ i0 (aB a).length ⟨List.replicate N 0,0,.aD,(0,.dead),0⟩ (by omega) (by rw[<-hN];exact i0)
 have Oo:∀ H:Heap,give h.length (lX (fun s k=>(true,sU u' m ((aB a).getD k 0).toNat k s)) (aB a).length ⟨List.replicate N 0,0,.aD,(0,.dead),0⟩).rv H=some (Fp a m,H):=by
  intro H;by_cases c:a=0
  ·subst c;rfl
  ·have hne:aB a≠[]:=fun e=>c (vP.mp e);have hR:=hfin.2.2.2.1;rw[List.drop_zero,lS,qW]at hR;rw[WB _ _ (mR.mpr hne),hR];unfold Fp;rw[if_neg c];simp[give,aU]
 obtain⟨s',hs'⟩:∃ s',s'=lX (fun s k=>(true,sU u' m ((aB a).getD k 0).toNat k s)) (aB a).length ⟨List.replicate N 0,0,.aD,(0,.dead),0⟩:=⟨_,rfl⟩;rw[<-hs']at hbk hfin Oo;clear hs';obtain⟨q,R,rv,s1,w2⟩:=s';obtain⟨hq,hp,hval,hR,hQ,hdig⟩:=hfin;simp only[List.drop_zero,lS,qW]at hq hp hval hR hQ hdig Oo;have htr:dV q=aB (a/m):=by rw[Cg hdig,hQ,qW]
 have htl:(dV q).length<=N:=by simp[dV];omega
 have htk:q.take (aB (a/m)).length=aB (a/m):=by
  rw[<-htr];unfold dV;rw[jA,ul (Cf _ _)]
 have bw:=Jk v v' f1 yQ f2 f5;have s1':=bK (hv.sl []).len;simp only[fE,<-hN]at s1';have Oq:ints (List.replicate N 0)=List.replicate N (AV.int .i64 0):=by simp[ints]
 have g3':=vN (L:=lib) (lo:=h.length) (ns:=6) (s:=0) (g:=7) (it:=175) (v:=0) (caps:=[.bD [v']]) (env:=yU h v' u') (h:=h) (b:=.dead) (fr:=[(0,.dead),(0,.dead),(0,.dead),(1,.arr 1 (ints (List.replicate N 0))),(1,.box [.ref (h.length+3) 1 1 0 N N]),(1,.box [.aD])])
  (fr':=[(1,.ay ⟨7,h.length,h.length,6,yU h v' u'⟩ .ready),s1,(w2,.dead),(1,.arr 1 (ints q)),(1,.box [.ref (h.length+3) 1 1 0 N N]),(1,.box [rv])]) (f:=.t 14) rfl (by omega) rfl hbk rfl
 simp only[yU,List.set_cons_zero,Oq]at g3';have hmk:=fun hh=>Lj (h:=hh) (cx:=⟨h.length,h.length,6,none⟩) (s:=3) (z:=1) (zero:=.int .i64 0) (lim:=17592186044416) (k:=.i64) (k':=.i64) (a:=(N:Int)) (b:=(N:Int)) (by omega) (by omega) (by omega)
 have tr:=fun H hid lo=>Wy (l:=q) (by omega) H (h.length+3) hid N hq lo
 have rz:=tr (h++[(1,.dead),s1,(w2,.dead),(1,.arr 1 (ints q)),(1,.box [.ref (h.length+3) 1 1 0 N N]),(1,.box [rv])]) (by rw[bH];rfl)
 have og:=afm (h:=h) (fr:=[(1,.dead),s1,(w2,.dead),(1,.arr 1 (ints q)),(1,.box [.ref (h.length+3) 1 1 0 (dV q).length N]),(1,.box [rv])]) (l:=q) hq htl rfl Oo;have hrc:rv.cells=[rv]:=by rcases hp with⟨rfl,_⟩|⟨z',rfl|rfl,hz⟩<;>rfl
 have hQv:(if (dV q).length=N then AV.own 1 (ints q)else .aN 1 (ints (q.take (dV q).length)))=Fj a m:=by
  unfold Fj;rw[htr,<-hN];by_cases c:(aB (a/m)).length=N
  ·rw[if_pos c,if_pos c];rw[c,<-hq,kP]at htk;rw[htk]
  ·rw[if_neg c,if_neg c,htk]
 rw[hQv]at og;have n1:¬ h.length=h.length+4:=by omega
 have n2:¬ h.length+4=h.length+5:=by omega
 have n3:¬ h.length+5=h.length+4:=by omega
 rw[aY (x:=M4) rfl rfl rfl rfl];simp(maxSteps:=1000000)(disch:=omega)only[go_sem,M4,g1,g2,g5,s1',hmk,zU,bw,g3',rz,hrc,hval,n2,n3,og]
end Go.VI.Dump
namespace Go.VI
theorem xL{α:Type}[BEq α][LawfulBEq α][DecidableEq α](a b:α):(a==b)=decide (a=b):=by rw[Bool.eq_iff_iff];simp
@[go_sem] theorem apm(a b:List UInt8):fI .eql (.str a) (.str b)=some (.bool (decide (a=b))):=by simp only[fI,xL]
@[go_sem] theorem apn(a b:List UInt8):fI .neq (.str a) (.str b)=some (.bool (decide (a≠b))):=by simp only[fI,xL];simp
theorem WE{a b:List UInt8}(h:a.length+b.length<=1000000000000):fI .add (.str a) (.str b)=some (.str (a++b)):=by simp[fI,h]
theorem Fq{L:Lib}{f:Nat}{args:List AV}{h:Heap}{lo:Nat}{r:AV}(ho:L.jS f args h=some r):(run L).fn f args h lo=some (r,h):=by rw[run_eq,ho]
theorem Fs{k:IntKind}(c:UInt8)(r:List UInt8)(h:Heap):zT (.int k 0) h (.str (c::r))=some (.int .u8 c.toNat,h):=by simp[zT,Eo,idx]
theorem WG{k:IntKind}{l:List UInt8}{i:Nat}(hi:i<l.length)(h:Heap):zT (.int k i) h (.str l)=some (.int .u8 l[i].toNat,h):=by simp[zT,Eo,idx,hi]
theorem Ot{k:IntKind}{l:List UInt8}{i:Nat}(hi:i<=l.length):kg none (.str l) (some (.int k i)) none=some (.str (l.drop i)):=by
 simp[kg,bnd];omega
theorem afo{k:IntKind}{l:List UInt8}{i:Nat}(hi:i<=l.length):kg none (.str l) none (some (.int k i))=some (.str (l.take i)):=by
 simp[kg,bnd,hi]
end Go.VI
namespace Go.VI.Dump
open Go.VI.Num
theorem WH(s p:List UInt8)(h:Heap)(lo:Nat):(run lib).fn 163 [.str s,.str p] h lo=some (.str (Lib.trimPrefix s p),h):=Fq rfl
theorem afp{s c:List UInt8}(hs:s.length<=1000)(hc:c.length<=1000)(ha:c.all (fun b=>decide (b.toNat<128))=true)(h:Heap)(lo:Nat):(run lib).fn 164 [.str s,.str c] h lo=some (.str (Lib.trimS s c),h):=by
 refine Fq ?_
 show ow .trim [.str s,.str c] h=some _
 simp only[ow];rw[if_pos ⟨by unfold vM;omega,by unfold vM;omega,ha⟩]
theorem Ou(s:List UInt8)(h:Heap)(lo:Nat):(run lib).fn 134 [.str s] h lo=some (.bool (qX s),h):=by
 have tp:=fun H lo=>WH s [45] H lo;have hb:body s=Lib.trimPrefix s [45]:=rfl;rw[<-hb]at tp;rw[aY (x:=Ae) rfl rfl rfl rfl];unfold qX;generalize body s=d at*;by_cases c1:d=[]
 ·subst c1;simp(maxSteps:=1000000)(disch:=omega)only[go_sem,Ae,tp,List.isEmpty_nil]
 ·have c1':d.isEmpty=false:=by cases d with|nil=>exact absurd rfl c1|cons=>rfl
  by_cases c2:d.length<=200
  ·have c2':¬ (200:Int)<d.length:=by omega
   have tr:=afp (s:=d) (c:=[48,49,50,51,52,53,54,55,56,57]) (by omega) (by decide) (by decide)
   have hds:ds=[48,49,50,51,52,53,54,55,56,57]:=rfl;rw[<-hds]at tr;rw[c1',decide_eq_true c2];by_cases c3:Lib.trimS d ds=[]
   ·rw[c3]at tr⊢;have hs:(s==[48])=decide (s=[48]):=xL s [48];rw[hs];by_cases c4:s=[48]
    ·subst c4;simp(maxSteps:=1000000)(disch:=omega)only[go_sem,Ae,tp,c1,c2',<-hds,tr,List.isEmpty_nil]
    ·obtain⟨c,r,rfl⟩:=Ai c1;have hx:=fun H=>Fs (k:=.i64) c r H;have e:((c::r).head?==some 48)=decide (c=48):=by rw[xL];simp
     have e2:decide (((c.toNat:Nat):Int)=48)=decide (c=48):=by
      rw[decide_eq_decide,<-UInt8.toNat_inj];have:(48:UInt8).toNat=48:=rfl;omega
     rw[e];have e3:decide (((c.toNat:Nat):Int)≠48)=!decide (c=48):=by rw[<-e2];simp
     have afq:¬ (200:Int)<(r.length:Int)+1:=by simp at c2;omega
     simp(maxSteps:=1000000)(disch:=omega)only[go_sem,Ae,tp,c1,dF,afq,<-hds,tr,c4,List.isEmpty_nil,hx];simp[e2]
   ·have c3':(Lib.trimS d ds).isEmpty=false:=by cases hh:Lib.trimS d ds with|nil=>exact absurd hh c3|cons=>rfl
    rw[c3'];simp(maxSteps:=1000000)(disch:=omega)only[go_sem,Ae,tp,c1,c2',<-hds,tr,c3]
  ·have c2':(200:Int)<d.length:=by omega
   rw[decide_eq_false c2];simp(maxSteps:=1000000)(disch:=omega)only[go_sem,Ae,tp,c1,c2']
end Go.VI.Dump
namespace Go.VI.Dump
open Go.VI.Num
theorem afr{s:List UInt8}(hd:oF s)(hn:s≠[])(hl:s.length<=18)(h:Heap)(lo:Nat):(run lib).fn 174 [.str s] h lo=some (.tuple [.int .i64 (dv 0 s:Nat),.iG],h):=by
 refine Fq ?_;have e:=aeD hd hn hl
 show ow (.atoi _) [.str s] h=some _
 simp only[ow];rw[if_pos (by unfold vM;omega),e]
def xM(h:Heap)(neg:Bool)(acc:List Int)(B:Nat×av):Heap:=[aX (0,.dead) 1 (ints acc),(1,.box [.bool neg,bq (h.length+0) (0,.dead) 1 (ints acc)]),B]
theorem afs(neg:Bool)(B:Nat×av)(h:Heap):∀(f:Nat) (l:List UInt8) (acc:List Int),l.length<=f->oF l->acc.length+l.length<=1000 ->
  aA lib ⟨h.length,h.length,3,none⟩ (.loop Nk) ([(2,.aJ (h.length+2) 1 0),(3,.str l),(4,.aJ (h.length+1) 1 0)],h++xM h neg acc B) =
   some (.exit 0,([(2,.aJ (h.length+2) 1 0),(4,.aJ (h.length+1) 1 0)],h++xM h neg (acc++oH f l) B)):=by
 intro f
 induction f with
 |zero =>
  intro l acc hl hd ha;have:l=[]:=List.length_eq_zero_iff.mp (by omega)
  subst this;rw[aR];simp only[oH,gP]
  simp(maxSteps:=1000000)(disch:=omega)only[go_sem,xM,dU]
 |succ f ih =>
  intro l acc hl hd ha;by_cases h0:l=[]
  ·subst h0;rw[aR];simp only[oH,if_true,gP];simp(maxSteps:=1000000)(disch:=omega)only[go_sem,xM,dU]
  ·have hlen:0<l.length:=mR.mpr h0;have hd1:oF (l.take (l.length-4)):=fun x hx=>hd x (um hx);have hd2:oF (l.drop (l.length-4)):=fun x hx=>hd x (List.mem_of_mem_drop hx);have c1:(0:Int)<l.length:=by omega
   have em:max (0:Int) ((l.length:Int)-4)=((l.length-4:Nat):Int):=by omega
   have s1:=Ot (k:=.i64) (show l.length-4<=l.length by omega)
   have s2:=afo (k:=.i64) (show l.length-4<=l.length by omega)
   have at1:=afr hd2 (by intro e;have:=congrArg List.length e;simp at this;omega) (by simp;omega)
   have k:=ih (l.take (l.length-4)) (acc++[(dv 0 (l.drop (l.length-4)):Int)]) (by simp;omega) hd1 (by simp;omega)
   have e:acc++oH (f+1) l=(acc++[(dv 0 (l.drop (l.length-4)):Int)])++oH f (l.take (l.length-4)):=by simp[oH,h0]
   rw[e];have ea:=fun x:Int=>jk (lo:=h.length) (ns:=3) (s:=0) (z:=1) (lim:=17592186044416) (h:=h) (fr:=xM h neg acc B) (b0:=(0,.dead)) (es:=ints acc) (xs:=[.int .i64 x]) (by omega) (aV _) rfl (by simp;omega)
   simp only[<-Av,<-Au,xM,List.set_cons_zero]at ea;generalize l.drop (l.length-4)=y at*;generalize dv 0 y=x at*;have hi:[AV.int .i64 (x:Int)]=ints [(x:Int)]:=rfl;simp only[xM]at k;rw[aR];simp(maxSteps:=1000000)(disch:=omega)only[go_sem,xM,c1,em,s1,s2,at1,hi,fE,ea,k]
def wh(z:Int):AV:=.agg [.bool (decide (z<0)),.aN 1 (ints (aB z.natAbs))]
theorem WI{z:Int}(hz:z.natAbs<10^200)(h:Heap)(lo:Nat):(run lib).fn 144 [.str (aO z)] h lo=some (wh z,h):=by
 have tp:=fun H lo=>WH (aO z) [45] H lo;have hb:Lib.trimPrefix (aO z) [45]=dec z.natAbs:=NT z;rw[hb]at tp
 have hneg:decide (((dec z.natAbs).length:Int)<(aO z).length)=decide (z<0):=by
  rw[decide_eq_decide];unfold aO;by_cases c:z<0
  ·rw[if_pos c];simp;omega
  ·rw[if_neg c];simp;omega
 have hl:=(xI (n:=z.natAbs) (k:=200) (by omega)).mpr hz
 obtain⟨k1,k2⟩:=VE _ (dec z.natAbs) (aV _) (EU _);rw[Ci]at k1;have htr:=Cg k2;rw[k1,qW]at htr
 have hne:oH (dec z.natAbs).length (dec z.natAbs)≠[]:=by
  have:=xH z.natAbs;obtain⟨c,r,e⟩:=Ai this;rw[e];simp[oH]
 have pl:=fun B=>afs (decide (z<0)) B h _ (dec z.natAbs) [] (aV _) (EU _) (by simp;omega)
 have hpl:(oH (dec z.natAbs).length (dec z.natAbs)).length<=1000:=by
  have:∀ f l,(oH f l).length<=f:=by
   intro f
   induction f with
   |zero=>intro l;exact aV _
   |succ f ih =>
    intro l;simp only[oH];split
    ·simp
    ·have:=ih (l.take (l.length-4));simp;omega
  have:=this (dec z.natAbs).length (dec z.natAbs);omega
 simp only[List.nil_append]at pl;generalize dec z.natAbs=d at*;generalize oH d.length d=P at*;have WJ:ints P≠[]:=by intro e;exact hne (by simpa[ints]using e)
 simp only[xM,kF WJ,lq WJ,fE]at pl;have i0:bq (h.length+0) (0,.dead) 1 (ints [])=.aD:=rfl;have j0:aX (0,.dead) 1 (ints [])=(0,.dead):=rfl;rw[i0,j0]at pl;have tr:=fun H hid lo=>Wy (l:=P) (by omega) H (h.length+0) hid P.length rfl lo
 have rz:=fun b2 b3=>tr (h++[(0+1,.arr 1 (ints P)),b2,b3]) (by rw[bH];rfl)
 have htl:(dV P).length<=P.length:=by simp[dV];omega
 have htk:P.take (dV P).length=aB z.natAbs:=by
  rw[<-htr];unfold dV;rw[jA,ul (Cf _ _)]
 have hfz:∀ b2 b3,aU h.length true (.ref (h.length+0) 1 1 0 (dV P).length P.length) (h++[(0+1,.arr 1 (ints P)),b2,b3])=some (.aN 1 (ints (aB z.natAbs)),h++[(1,.dead),b2,b3]):=fun b2 b3=>by
  have hg:(h++[(0+1,av.arr 1 (ints P)),b2,b3])[h.length+0]?=some (1,.arr 1 (ints P)):=by rw[bH];rfl
  have ha:dW (h++[(0+1,av.arr 1 (ints P)),b2,b3]) (.ref (h.length+0) 1 1 0 (dV P).length P.length)=some (ints (aB z.natAbs)):=by
   simp only[dW,hg];rw[if_pos (by simp[htl]),<-htk]
   simp[ints,List.map_take]
  simp only[aU];rw[if_pos (by omega),ha,eB]
  rfl
 rw[aY (x:=Nl) rfl rfl rfl rfl];unfold wh;simp(maxSteps:=1000000)(disch:=omega)only[go_sem,Nl,tp,hneg,pl,rz,hfz]
theorem Fu{x y:Int}(hx:x.natAbs<10^200)(hy:y.natAbs<10^200)(h:Heap)(lo:Nat):(run lib).fn 109 [.str (aO x),.str (aO y)] h lo=some (.tuple [wh x,wh y,.bool true],h):=by
 have v1:=fun H lo=>Ou (aO x) H lo;have v2:=fun H lo=>Ou (aO y) H lo;have p1:=fun H lo=>WI hx H lo;have p2:=fun H lo=>WI hy H lo;rw[oG hx]at v1;rw[oG hy]at v2;simp only[wh]at p1 p2⊢;rw[aY (x:=M0) rfl rfl rfl rfl];simp(maxSteps:=1000000)(disch:=omega)only[go_sem,M0,v1,v2,p1,p2]
end Go.VI.Dump
namespace Go.VI
def lY(h:Heap)(W:List UInt8)(w:Nat):Nat×av:=if W=[] then(0,.dead) else(w,.ay (bQ.at (h.length+1) (.buf W)) (.cK (.buf W)))
def kJ(h:Heap)(W:List UInt8)(w:Nat):Nat×av:=(1,.ay (bQ.at (h.length+2) (.cu (h.length+2) 1 (if W=[]then none else some (h.length+1,w)))) (.cK (.cu (h.length+2) 1 (if W=[]then none else some (h.length+1,w)))))
theorem WK{h:Heap}{p:Nat×Nat}{R:Nat×av}{W l:List UInt8}{w:Nat}(hl:l≠[])(hb:W.length+l.length<=tZ)(hw:W=[]->w=0) :
  rR ⟨h.length,h.length,3,some p⟩ 1 (.cZ (h.length+2) 1) (.str l) (h++[R,lY h W w,kJ h W w])=some (.tuple [.int .i64 l.length,.iG],h++[R,lY h (W++l) (w+1),kJ h (W++l) (w+1)]):=by
 have hne:W++l≠[]:=by simp[hl]
 by_cases h0:W=[]
 ·have:=hw h0;subst h0;subst this;have hg:(h++[R,(0,av.dead),kJ h [] 0])[h.length+2]?=some (kJ h [] 0):=by rw[bH];rfl
  have hm:=uU (lo:=h.length) (ns:=3) (s:=1) (p:=p) (b:=.ay (bQ.at (h.length+1) (.buf l)) (.cK (.buf l))) (h:=h) (fr:=[R,(0,av.dead),kJ h [] 0]) rfl;simp only[List.getElem?_cons_succ,List.getElem?_cons_zero,sF,List.set_cons_succ,List.set_cons_zero,kz,je]at hm hb;rw[if_pos (by omega)]at hm
  simp only[lY,if_true,List.nil_append,if_neg hl];simp only[kJ,if_true]at hg hm⊢;simp[rR,hl,hb,hm];rfl
 ·have hg:(h++[R,lY h W w,kJ h W w])[h.length+2]?=some (kJ h W w):=by rw[bH];rfl
  have hg1:(h++[R,lY h W w,kJ h W w])[h.length+1]?=some (lY h W w):=by rw[bH];rfl
  simp only[lY,kJ,if_neg h0,if_neg hne]at hg hg1⊢;simp[rR,h0,hb,bQ.at];rfl
theorem afu{h:Heap}{R:Nat×av}{W:List UInt8}{w:Nat}(hl:W≠[]) :
  wM ⟨h.length,h.length,3,none⟩ (.cZ (h.length+2) 1) (h++[R,lY h W w,kJ h W w])=some (.str W):=by
 have hg:(h++[R,lY h W w,kJ h W w])[h.length+2]?=some (kJ h W w):=by rw[bH];rfl
 have hg1:(h++[R,lY h W w,kJ h W w])[h.length+1]?=some (lY h W w):=by rw[bH];rfl
 simp only[lY,kJ,if_neg hl]at hg hg1⊢;simp[wM,hl]
end Go.VI
namespace Go.VI.Dump
open Go.VI.Num
theorem WL{n:Int}(h0:-9223372036854775808<=n)(h1:n<=9223372036854775807)(h:Heap)(lo:Nat):(run lib).fn 104 [.int .i64 n] h lo=some (.str (aO n),h):=by
 refine Fq ?_
 show ow .itoa [.int .i64 n] h=some _
 simp only[ow];rw[if_pos ⟨h0,h1⟩]
 have e:Ey n=aO n:=by
  unfold Ey aO;have e20:(10:Nat)^20=100000000000000000000:=by decide
  by_cases c:n<0
  ·rw[if_pos c,if_pos c,NN (by rw[e20];omega) (by omega)]
  ·have:n.toNat=n.natAbs:=by omega
   rw[if_neg c,if_neg c,NN (by rw[e20];omega) (by omega),this]
 rw[e]
theorem repeatL_one(c:UInt8):∀ n,Lib.repeatL [c] n=List.replicate n c
 |0=>rfl
 |n+1=>by rw[Lib.repeatL,repeatL_one c n];rfl
theorem afv{n:Nat}(hn:n<=1000)(c:UInt8)(h:Heap)(lo:Nat):(run lib).fn 123 [.str [c],.int .i64 n] h lo=some (.str (List.replicate n c),h):=by
 refine Fq ?_
 show ow .BR [.str [c],.int .i64 n] h=some _
 simp only[ow];rw[if_pos ⟨by omega,by simp[tZ];omega,by omega,by simp⟩,qW,repeatL_one]
theorem Ov(d:Nat):aO (d:Int)=dec d:=by
 unfold aO;rw[if_neg (by omega),yN]
def uV(l:List Int)(k:Nat):List UInt8:=if k+1<l.length then qa (l.getD k 0).toNat else dec (l.getD k 0).toNat
def yX(h:Heap)(v:AV)(neg:Bool):Env:=[(1,.bD [.bool neg,v]),(2,.str []),(3,.int .i64 0),(4,.cZ (h.length+2) 1),(15,.fn 175 [.bD [v]])]
def Cv(h:Heap)(v:AV)(neg:Bool)(s:List UInt8×Nat):Heap:=h++[(1,.ay ⟨8,h.length,h.length,3,yX h v neg⟩ .ready),lY h s.1 s.2,kJ h s.1 s.2]
theorem WM{d:Nat}(h:d<=9999):(dec d).length<=4:=(xI (by omega)).mpr (by have:(10:Nat)^4=10000:=(by decide);omega)
theorem afw{v:AV}{l:List Int}{neg:Bool}(hv:bG 1 v (ints l))(hl:l.length<=10000)(h:Heap)(k:Nat)(hk:k<l.length)(d:Nat)(hd:d<=9999)(hg:(l.getD k 0).toNat=d)(s:List UInt8×Nat)(hs:s.1.length<=100000)(hw:s.1=[]->s.2=0)(lo:Nat)(hlo:lo<=h.length) :
  fF (run lib) ⟨lo,h.length+3,0,none⟩ (h.length+0) 1 [.int .i64 k,.int .i64 d] (Cv h v neg s)=some (.bool true,Cv h v neg (s.1++uV l k,s.2+1)):=by
 obtain⟨W,w⟩:=s;obtain⟨D,hD⟩:∃ D:bQ,D=⟨8,h.length,h.length,3,yX h v neg⟩:=⟨_,rfl⟩;simp only[]at hs hw;simp only[Cv,<-hD,uV,hg];have s1:=bK (hv.sl []).len;rw[fE]at s1
 have ha':aA lib ⟨h.length,h.length,3,some (h.length+0,1)⟩ r8.fZ ((r8.ps.zip [.int .i64 k,.int .i64 d]).foldl (fun e p=>e.set p.1 p.2) (yX h v neg),h++[(1,.ay D .ready),lY h W w,kJ h W w]) =
   some (.norm,([(1,.bD [.bool neg,v]),(4,.cZ (h.length+2) 1),(5,.int .i64 k),(6,.int .i64 d)],h++[(1,.ay D .ready),lY h W w,kJ h W w])):=by
  simp(maxSteps:=1000000)(disch:=omega)only[go_sem,r8,yX,List.zip_cons_cons,vX,List.foldl_cons,nN]
 have hg0:(h++[(1,av.ay D .ready),lY h W w,kJ h W w])[h.length+0]?=some (1,.ay ⟨8,h.length,h.length,3,yX h v neg⟩ .ready):=by rw[bH,<-hD];rfl
 have it:=fun H lo=>WL (n:=(d:Int)) (by omega) (by omega) H lo
 rw[Ov]at it;have hd4:=WM hd
 have hb:aA lib ⟨h.length,h.length,3,some (h.length+0,1)⟩ r8.body ([(1,.bD [.bool neg,v]),(4,.cZ (h.length+2) 1),(5,.int .i64 k),(6,.int .i64 d)],(h++[(1,.ay D .ready),lY h W w,kJ h W w]).set (h.length+0) (1,.ay D .busy)) =
   some (.norm,([],h++[(1,.ay D .busy),lY h (W++if k+1<l.length then qa d else dec d) (w+1),kJ h (W++if k+1<l.length then qa d else dec d) (w+1)])):=by
  rw[eB];by_cases c:k+1<l.length
  ·rw[if_pos c];have c1:(k:Int)<(l.length:Int)-1:=by omega
   have rp:=fun H lo=>afv (n:=4-(dec d).length) (by omega) 48 H lo
   have e4:(4:Int)-((dec d).length:Int)=((4-(dec d).length:Nat):Int):=by omega
   have ad:fI .add (.str (List.replicate (4-(dec d).length) 48)) (.str (dec d))=some (.str (qa d)):=by
    rw[WE (by simp;omega),aeB (by omega)]
   have bs:=WK (h:=h) (p:=(h.length+0,1)) (R:=(1,.ay D .busy)) (W:=W) (l:=qa d) (w:=w) (by simp[qa]) (by simp[qa,tZ];omega) hw
   simp(maxSteps:=1000000)(disch:=omega)only[go_sem,r8,it,s1,c1,e4,rp,ad,bs]
  ·rw[if_neg c];have c1:¬ (k:Int)<(l.length:Int)-1:=by omega
   have bs:=WK (h:=h) (p:=(h.length+0,1)) (R:=(1,.ay D .busy)) (W:=W) (l:=dec d) (w:=w) (xH d) (by simp[tZ];omega) hw
   simp(maxSteps:=1000000)(disch:=omega)only[go_sem,r8,it,s1,c1,bs]
 have:=uI (L:=lib) (cx:=⟨lo,h.length+3,0,none⟩) hg0 hlo (by omega) (by omega) (by simp[AV.jw,AV.closed]) (x:=r8) rfl rfl ha' (by rw[bH];rfl) hb (by rw[bH];rfl)
 rw[this,eB];rfl
def Fv(l:List Int)(k:Nat)(s:List UInt8×Nat):Prop:=s.1=EW (l.drop k)/\s.1.length<=4*(l.length-k)/\(s.1=[]->s.2=0)
theorem WN{l:List Int}(hd:dL l)(k:Nat)(s:List UInt8×Nat)(hk:k<l.length)(hi:Fv l (k+1) s):Fv l k (s.1++uV l k,s.2+1):=by
 obtain⟨h1,h2,h3⟩:=hi;have gm:l.getD k 0=l[k]:=by rw[jC,gM hk];rfl
 have hx:=hd l[k] (ja hk)
 have hlen:(uV l k).length<=4:=by
  unfold uV;split
  ·simp[qa]
  ·exact WM (by rw[gm];omega)
 have hne:uV l k≠[]:=by
  unfold uV;split
  ·simp[qa]
  ·exact xH _
 refine⟨?_,by simp;omega,fun h=>by simp at h;exact absurd h.2 hne⟩
 simp only[];rw[gY hk,EW,h1];unfold uV;rw[gm];by_cases c:k+1<l.length
 ·rw[if_pos c,if_neg (by intro e;have:=congrArg List.length e;simp at this;omega)]
 ·rw[if_neg c,kQ (by omega),if_pos rfl];rfl
def outT(z:Int):AV:=if z.natAbs<10^200 then .tuple [.str (aO z),.int .i64 0]else .tuple [.str [],.int .i64 30]
def iw(neg:Bool)(n:Nat):Int:=if neg then -(n:Int)else n
theorem Ow(neg:Bool)(n:Nat):(iw neg n).natAbs=n:=by unfold iw;split<;>omega
theorem Fw{v:AV}{n:Nat}(neg:Bool)(hv:bG 1 v (ints (aB n)))(hn:(aB n).length<=10000)(h:Heap)(lo:Nat) :
  (run lib).fn 114 [.agg [.bool neg,v]] h lo=some (outT (iw neg n),h):=by
 obtain⟨v',f1,yQ,f2,f3,f4,f5⟩:=sS hv;have s1:=bK (f4.sl []).len;rw[fE]at s1;by_cases h0:n=0
 ·subst h0;have e:outT (iw neg 0)=.tuple [.str [48],.int .i64 0]:=by cases neg<;>rfl
  rw[vO]at s1;simp only[kz,fH]at s1;rw[e,aY (x:=x114) rfl rfl rfl rfl];simp(maxSteps:=1000000)(disch:=omega)only[go_sem,x114,f1,s1]
 ·have hne:aB n≠[]:=fun e=>h0 (vP.mp e);have hpos:=mR.mpr hne;have c0:¬ ((aB n).length:Int)=0:=by omega
  have i0:Fv (aB n) (aB n).length ([],0):=⟨by rw[kQ (aV _)];rfl,by simp,fun _=>rfl⟩
  have dg:=nH n
  have hbk:=Jj (H:=Cv h v' neg) (nb:=h.length+3) (lo:=h.length) (id:=h.length+0) (Y:=fun s k=>(true,(s.1++uV (aB n) k,s.2+1))) (Iv:=Fv (aB n)) f4 (by omega) (fun s=>by simp[Cv]) (by omega)
   (fun k s hk hi _=>WN dg k s hk hi)
   (fun k s hk hi=>by
    have gm:(aB n).getD k 0=(aB n)[k]:=by rw[jC,gM hk];rfl
    have hx:=dg (aB n)[k] (ja hk);have y:=afw (v:=v') (l:=aB n) (neg:=neg) f4 hn h k hk ((aB n).getD k 0).toNat (by rw[gm];omega) rfl s (by have:=hi.2.1;omega) hi.2.2 h.length (aV _)
    have e:(((aB n).getD k 0).toNat:Int)=(aB n)[k]:=by rw[gm];omega
    rw[e]at y;exact y) ([],0) i0
  have hfin:=Oj (Y:=fun s k=>(true,(s.1++uV (aB n) k,s.2+1))) (Iv:=Fv (aB n)) (fun s k=>rfl) (fun k s hk hi=>WN dg k s hk hi) (aB n).length ([],0) (aV _) i0;obtain⟨s',hs'⟩:∃ s',s'=lX (fun(s:List UInt8×Nat) k=>(true,(s.1++uV (aB n) k,s.2+1))) (aB n).length ([],0):=⟨_,rfl⟩;rw[<-hs']at hbk hfin;clear hs';obtain⟨W,w⟩:=s';have hW:W=dec n:=by have:=hfin.1;rw[List.drop_zero,aeC h0]at this;exact this
  subst hW;have bw:=Jk v' v' yQ yQ f3 f5;have b0:lY h [] 0=(0,.dead):=rfl;have b1:kJ h [] 0=(1,.ay (bQ.at (h.length+2) (.cu (h.length+2) 1 none)) (.cK (.cu (h.length+2) 1 none))):=rfl;simp only[Cv,b0,b1]at hbk
  have g3':=vN (L:=lib) (lo:=h.length) (ns:=3) (s:=0) (g:=8) (it:=175) (v:=0) (caps:=[.bD [v']]) (env:=yX h v' neg) (h:=h) (b:=.dead) (fr:=[(0,.dead),(0,.dead),(1,.ay (bQ.at (h.length+2) (.cu (h.length+2) 1 none)) (.cK (.cu (h.length+2) 1 none)))])
   (fr':=[(1,.ay ⟨8,h.length,h.length,3,yX h v' neg⟩ .ready),lY h (dec n) w,kJ h (dec n) w]) (f:=.t 15) rfl (by omega) rfl hbk rfl
  simp only[yX,List.set_cons_zero]at g3';have be:=afu (h:=h) (R:=(1,.dead)) (W:=dec n) (w:=w) (xH n);have hlen:=xI (n:=n) (k:=200) (by omega)
  have hbig:(dec n).length<=100000:=by
   have:=hfin.2.1;simp only[]at this;omega
  have ad:fI .add (.str [45]) (.str (dec n))=some (.str (45::dec n)):=by rw[WE (by simp;omega)];rfl
  rw[aY (x:=x114) rfl rfl rfl rfl];unfold outT;rw[Ow];by_cases c:n<10^200
  ·have c1:¬ (200:Int)<(dec n).length:=by have:=hlen.mpr c;omega
   rw[if_pos c]
   cases neg with
   |true =>
    have e:aO (iw true n)=45::dec n:=by
     unfold aO iw;rw[if_pos rfl,if_pos (by omega)]
     have:(-(n:Int)).natAbs=n:=by omega
     rw[this]
    rw[e]
    simp(maxSteps:=1000000)(disch:=omega)only[go_sem,x114,f1,s1,c0,eB,bw,g3',be,c1,ad]
   |false =>
    have e:aO (iw false n)=dec n:=by
     unfold iw;rw[if_neg (by simp),Ov]
    rw[e];simp(maxSteps:=1000000)(disch:=omega)only[go_sem,x114,f1,s1,c0,eB,bw,g3',be,c1]
  ·have c1:(200:Int)<(dec n).length:=by
    rcases Int.lt_or_le (200:Int) (dec n).length with h|h
    ·exact h
    ·exact absurd (hlen.mp (by omega)) c
   rw[if_neg c];simp(maxSteps:=1000000)(disch:=omega)only[go_sem,x114,f1,s1,c0,eB,bw,g3',be,c1]
end Go.VI.Dump
namespace Go.VI.Dump
open Go.VI.Num
theorem Ox(x:Int):iw (decide (x<0)) x.natAbs=x:=by
 unfold iw;by_cases c:x<0
 ·rw[decide_eq_true c,if_pos rfl];omega
 ·rw[decide_eq_false c,if_neg (by simp)];omega
def wm(a:Bool)(n:Nat)(b:Bool)(m:Nat):Bool×Nat:=if a=b then(a,n+m)else if m<=n then(a,n-m) else(b,m-n)
theorem WO(a:Bool)(n:Nat)(b:Bool)(m:Nat):iw (wm a n b m).1 (wm a n b m).2=iw a n+iw b m:=by
 unfold wm;by_cases c:a=b
 ·subst c;rw[if_pos rfl];cases a<;>simp[iw]<;>omega
 ·rw[if_neg c];by_cases c2:m<=n
  ·rw[if_pos c2];cases a<;>cases b<;>simp[iw]at c⊢<;>omega
  ·rw[if_neg c2];cases a<;>cases b<;>simp[iw]at c⊢<;>omega
theorem Jr(a b:Int):(0<=bR a b)↔b<=a:=by
 unfold bR;by_cases h1:a<b
 ·rw[if_pos h1];omega
 ·rw[if_neg h1];by_cases h2:a=b
  ·rw[if_pos h2];omega
  ·rw[if_neg h2];omega
theorem afx{v u:AV}{n m:Nat}(a b:Bool)(hv:bG 1 v (ints (aB n)))(hu:bG 1 u (ints (aB m)))(hn:(aB n).length<=50000)(hm:(aB m).length<=50000)(h:Heap)(lo:Nat) :
  (run lib).fn 162 [.agg [.bool a,v],.agg [.bool b,u]] h lo=some (.agg [.bool (wm a n b m).1,.aN 1 (ints (aB (wm a n b m).2))],h):=by
 obtain⟨v',f1,yQ,f2,f3,f4,f5⟩:=sS hv;obtain⟨u',g1,g1',g2,g3,g4,g5⟩:=sS hu;have pl:=fun H lo=>Jh f4 g4 hn hm H lo;have cm:=fun H lo=>Jl f4 g4 (by omega) (by omega) H lo
 rw[NJ]at cm;have ge:=Jr (n:Int) (m:Int);generalize bR (n:Int) (m:Int)=q at*;have eb:(a==b)=decide (a=b):=xL a b;rw[aY (x:=EP) rfl rfl rfl rfl];unfold wm;by_cases c:a=b
 ·rw[decide_eq_true c]at eb;rw[if_pos c];simp(maxSteps:=1000000)(disch:=omega)only[go_sem,EP,f1,g1,eb,pl]
 ·rw[decide_eq_false c]at eb;rw[if_neg c];by_cases c2:m<=n
  ·have mi:=fun H lo=>Ji f4 g4 c2 hn H lo;have c3:(0:Int)<=q:=by omega
   rw[if_pos c2];simp(maxSteps:=1000000)(disch:=omega)only[go_sem,EP,f1,g1,eb,cm,c3,mi]
  ·have mi:=fun H lo=>Ji g4 f4 (by omega) hm H lo
   have c3:¬ (0:Int)<=q:=by omega
   rw[if_neg c2];simp(maxSteps:=1000000)(disch:=omega)only[go_sem,EP,f1,g1,eb,cm,c3,mi]
theorem afy(h:Heap)(lo:Nat):(run lib).fn 112 [] h lo=some (.aM 1 [.int .i64 1],h):=by
 have hg2:eF h.length (.aM 1 [.int .i64 1]) h=some (.aM 1 [.int .i64 1]):=rfl;rw[aY (x:=x112) rfl rfl rfl rfl];simp(maxSteps:=1000000)(disch:=omega)only[go_sem,x112,hg2,Option.map_some]
def Fit(z:Int):Prop:=z.natAbs<10^200
def Oy(z:Int):List UInt8:=if z.natAbs<10^200 then aO z else[]
def Oz(z:Int):Int:=if z.natAbs<10^200 then 0 else 30
theorem xN(z:Int):outT z=.tuple [.str (Oy z),.int .i64 (Oz z)]:=by
 unfold outT Oy Oz;split<;>rfl
theorem uW{z:Int}(h:Fit z):outT z=.tuple [.str (aO z),.int .i64 0]:=if_pos h
theorem sV{z:Int}(h:Fit z):(aB z.natAbs).length<=50:=by
 refine Aw 50 _ ?_;have e:(10000:Nat)^50=10^200:=by rw[show (10000:Nat)=10^4 from rfl,<-Nat.pow_mul]
 rw[e];exact h
theorem qd(z:Int):bG 1 (.aN 1 (ints (aB z.natAbs))) (ints (aB z.natAbs)):=vZ _
theorem afz{a b:Bool}{n m k:Nat}(hn:(aB n).length<=k)(hm:(aB m).length<=k):(aB (wm a n b m).2).length<=k+1:=by
 have h1:=Jo n;have h2:=Jo m;have h3:n<10000^k:=qE h1 (uM (by omega) hn)
 have h4:m<10000^k:=qE h2 (uM (by omega) hm)
 refine Aw _ _ ?_;rw[Nat.pow_succ];unfold wm;generalize 10000^k=X at*;split
 ·simp only[];omega
 ·split
  ·simp only[];omega
  ·simp only[];omega
theorem OA{x y:Int}(hx:Fit x)(hy:Fit y)(h:Heap)(lo:Nat):(run lib).fn 135 [.str (aO x),.str (aO y)] h lo=some (outT (x-y),h):=by
 have bo:=fun H lo=>Fu hx hy H lo;have lx:=sV hx;have ly:=sV hy;have sp:=fun H lo=>afx (decide (x<0)) (!decide (y<0)) (qd x) (qd y) (by omega) (by omega) H lo
 have pv:=WO (decide (x<0)) x.natAbs (!decide (y<0)) y.natAbs;have pn:=afz (a:=decide (x<0)) (b:=!decide (y<0)) lx ly
 have hneg:iw (!decide (y<0)) y.natAbs=-y:=by
  unfold iw;by_cases c:y<0
  ·rw[decide_eq_true c,vH,if_neg (by simp)];omega
  ·rw[decide_eq_false c,vR,if_pos rfl];omega
 rw[Ox,hneg,<-Int.sub_eq_add_neg]at pv;generalize wm (decide (x<0)) x.natAbs (!decide (y<0)) y.natAbs=p at*;have tx:=fun H lo=>Fw (n:=p.2) p.1 (vZ _) (by omega) H lo
 rw[pv,xN]at tx;simp only[wh]at bo;rw[xN,aY (x:=Nb) rfl rfl rfl rfl];simp(maxSteps:=1000000)(disch:=omega)only[go_sem,Nb,bo,sp,tx]
theorem afA(x y:Int):iw (!(decide (x<0)==decide (y<0))) (x.natAbs*y.natAbs)=x*y:=by
 have e:((x.natAbs*y.natAbs:Nat):Int)=(x*y).natAbs:=by rw[Int.natAbs_mul]
 unfold iw;rw[e];by_cases c1:x<0
 ·by_cases c2:y<0
  ·rw[decide_eq_true c1,decide_eq_true c2,if_neg (by simp)]
   have:=Int.mul_nonneg_of_nonpos_of_nonpos (Int.le_of_lt c1) (Int.le_of_lt c2);omega
  ·rw[decide_eq_true c1,decide_eq_false c2,if_pos (by simp)]
   have:=Int.mul_nonpos_of_nonpos_of_nonneg (Int.le_of_lt c1) (by omega:0<=y);omega
 ·by_cases c2:y<0
  ·rw[decide_eq_false c1,decide_eq_true c2,if_pos (by simp)]
   have:=Int.mul_nonpos_of_nonneg_of_nonpos (by omega:0<=x) (Int.le_of_lt c2);omega
  ·rw[decide_eq_false c1,decide_eq_false c2,if_neg (by simp)]
   have:=Int.mul_nonneg (by omega:0<=x) (by omega:0<=y);omega
theorem WQ{x y:Int}(hx:Fit x)(hy:Fit y)(h:Heap)(lo:Nat):(run lib).fn 161 [.str (aO x),.str (aO y)] h lo=some (outT (x*y),h):=by
 have bo:=fun H lo=>Fu hx hy H lo;have lx:=sV hx;have ly:=sV hy;have ti:=fun H lo=>afa (qd x) (qd y) (by omega) (by omega) H lo
 have hl:=Jp x.natAbs y.natAbs
 obtain⟨P,hP,hw⟩:∃ P,bG 1 P (ints (aB (x.natAbs*y.natAbs)))/\weak (if y.natAbs=0 then AV.own 0 []else .aN 1 (ints (aB (x.natAbs*y.natAbs))))=P/\P.val=true/\P.cells=[P]:=by
  by_cases c:y.natAbs=0
  ·refine⟨.aN 0 [], ?_,by rw[if_pos c];rfl,rfl,rfl⟩
   rw[c,Nat.mul_zero,vO];exact .inr ⟨0,.inl rfl,.inr rfl⟩
  ·exact⟨.aN 1 (ints (aB (x.natAbs*y.natAbs))),vZ _,by rw[if_neg c];rfl,rfl,rfl⟩
 have tx:=fun H lo=>Fw (n:=x.natAbs*y.natAbs) (!(decide (x<0)==decide (y<0))) hP (by omega) H lo
 rw[afA,xN]at tx;simp only[wh]at bo;obtain⟨hw1,hw2,hw3⟩:=hw;generalize (if y.natAbs=0 then AV.own 0 []else .aN 1 (ints (aB (x.natAbs*y.natAbs))))=Q at*;rw[xN,aY (x:=Nt) rfl rfl rfl rfl];simp(maxSteps:=1000000)(disch:=omega)only[go_sem,Nt,bo,ti,hw1,hw2,hw3,tx]
theorem Js(s:List UInt8)(h:Heap)(lo:Nat):(run lib).fn 102 [.str s] h lo=some (.bool (qX s),h):=by
 have bo:=fun H lo=>Ou s H lo;rw[aY (x:=x102) rfl rfl rfl rfl];simp(maxSteps:=1000000)(disch:=omega)only[go_sem,x102,bo]
theorem OB{x y:Int}(hx:Fit x)(hy:Fit y)(h:Heap)(lo:Nat):(run lib).fn 82 [.str (aO x),.str (aO y)] h lo=some (.int .i64 (bR x y),h):=by
 have bo:=fun H lo=>Fu hx hy H lo;have lx:=sV hx;have ly:=sV hy;have cm:=fun H lo=>Jl (qd x) (qd y) (by omega) (by omega) H lo
 have cn:=fun H lo=>Jl (qd y) (qd x) (by omega) (by omega) H lo
 rw[NJ]at cm cn;simp only[wh]at bo;rw[aY (x:=x82) rfl rfl rfl rfl];by_cases c1:x<0
 ·rw[decide_eq_true c1]at bo;by_cases c2:y<0
  ·rw[decide_eq_true c2]at bo
   have e:bR (y.natAbs:Int) (x.natAbs:Int)=bR x y:=by
    unfold bR;have e1:(y.natAbs:Int)=-y:=by omega
    have e2:(x.natAbs:Int)=-x:=by omega
    rw[e1,e2];simp only[show (-y < -x)=(x<y) by simp,show (-y=-x)=(x=y) by rw[eq_iff_iff];omega]
   rw[e]at cn;simp(maxSteps:=1000000)(disch:=omega)only[go_sem,x82,bo,cn]
  ·rw[decide_eq_false c2]at bo;have e:bR x y=-1:=if_pos (by omega)
   rw[e];simp(maxSteps:=1000000)(disch:=omega)only[go_sem,x82,bo]
 ·rw[decide_eq_false c1]at bo;by_cases c2:y<0
  ·rw[decide_eq_true c2]at bo;have e:bR x y=1:=by unfold bR;rw[if_neg (by omega),if_neg (by omega)]
   rw[e];simp(maxSteps:=1000000)(disch:=omega)only[go_sem,x82,bo]
  ·rw[decide_eq_false c2]at bo;have e1:(y.natAbs:Int)=y:=by omega
   have e2:(x.natAbs:Int)=x:=by omega
   rw[e1,e2]at cm;simp(maxSteps:=1000000)(disch:=omega)only[go_sem,x82,bo,cm]
theorem WR{n:Int}(h0:-9223372036854775808<=n)(h1:n<=9223372036854775807)(h:Heap)(lo:Nat):(run lib).fn 74 [.int .i64 n] h lo=some (.str (aO n),h):=by
 have it:=fun H lo=>WL h0 h1 H lo;rw[aY (x:=MO) rfl rfl rfl rfl];simp(maxSteps:=1000000)(disch:=omega)only[go_sem,MO,it]
end Go.VI.Dump
namespace Go.VI.Dump
open Go.VI.Num
def sW(x y:Int):Nat:=if x<0/\x.natAbs%y.natAbs≠0 then x.natAbs/y.natAbs+1 else x.natAbs/y.natAbs
def o6(x y:Int):Nat:=if x<0/\x.natAbs%y.natAbs≠0 then y.natAbs-x.natAbs%y.natAbs else x.natAbs%y.natAbs
theorem Jt{x y:Int}(hy:y≠0):iw (!(decide (x<0)==decide (y<0))) (sW x y)=x/y/\(o6 x y:Int)=x%y:=by
 have hpos:0<y.natAbs:=by omega
 have hlt:=Nat.mod_lt x.natAbs hpos;have Ju:=Nat.div_add_mod x.natAbs y.natAbs;obtain⟨m,hm⟩:∃ m,m=y.natAbs:=⟨_,rfl⟩;obtain⟨n,hn⟩:∃ n,n=x.natAbs:=⟨_,rfl⟩
 have key:∀(Q:Int) (R:Nat),(R:Int)+(m:Int)*Q=x->R<m->x/(m:Int)=Q/\x%(m:Int)=R:=fun Q R h1 h2 =>
  (Int.ediv_emod_unique (by omega)).mpr ⟨h1,by omega,by omega⟩
 have fin:∀(Q:Int) (R:Nat),(R:Int)+(m:Int)*Q=x->R<m->(if y<0 then -Q else Q)=x/y/\(R:Int)=x%y:=fun Q R h1 h2=>by
  obtain⟨k1,k2⟩:=key Q R h1 h2;by_cases c:y<0
  ·have ey:y=-(m:Int):=by omega
   rw[if_pos c,ey,Int.ediv_neg,Int.emod_neg,k1,k2];exact⟨rfl,rfl⟩
  ·have ey:y=(m:Int):=by omega
   rw[if_neg c,ey,k1,k2];exact⟨rfl,rfl⟩
 unfold sW o6 iw;rw[<-hm]at hlt Ju hpos⊢;rw[<-hn]at hlt Ju⊢
 have hcast:((n/m:Nat):Int)*(m:Int)+((n%m:Nat):Int)=n:=by
  rw[<-Int.natCast_mul,<-Int.natCast_add,qG,Ju]
 generalize n/m=q at*;generalize n%m=r at*;by_cases c1:x<0
 ·by_cases c3:r=0
  ·have:=fin (-(q:Int)) 0 (by rw[Int.mul_neg,rY];generalize (q:Int)*(m:Int)=Z at*;omega) hpos
   have eQ:(if x<0/\r≠0 then q+1 else q)=q:=if_neg (by omega)
   have eR:(if x<0/\r≠0 then m-r else r)=0:=by rw[if_neg (by omega),c3]
   rw[eQ,eR];by_cases c2:y<0
   ·rw[if_pos c2]at this;rw[decide_eq_true c1,decide_eq_true c2,if_neg (by simp)]
    rw[Int.neg_neg]at this;exact this
   ·rw[if_neg c2]at this;rw[decide_eq_true c1,decide_eq_false c2,if_pos (by simp)];exact this
  ·have:=fin (-((q:Int)+1)) (m-r) (by rw[Int.mul_neg,Int.mul_add,rY (m:Int) q];generalize (q:Int)*(m:Int)=Z at*;omega) (by omega)
   have eQ:(if x<0/\r≠0 then q+1 else q)=q+1:=if_pos ⟨c1,c3⟩;have eR:(if x<0/\r≠0 then m-r else r)=m-r:=if_pos ⟨c1,c3⟩;rw[eQ,eR];have e:((q+1:Nat):Int)=(q:Int)+1:=by omega
   rw[e];by_cases c2:y<0
   ·rw[if_pos c2]at this;rw[decide_eq_true c1,decide_eq_true c2,if_neg (by simp)]
    rw[Int.neg_neg]at this;exact this
   ·rw[if_neg c2]at this;rw[decide_eq_true c1,decide_eq_false c2,if_pos (by simp)];exact this
 ·have:=fin (q:Int) r (by rw[rY];generalize (q:Int)*(m:Int)=Z at*;omega) hlt
  have eQ:(if x<0/\r≠0 then q+1 else q)=q:=if_neg (by omega)
  have eR:(if x<0/\r≠0 then m-r else r)=r:=if_neg (by omega)
  rw[eQ,eR];by_cases c2:y<0
  ·rw[if_pos c2]at this;rw[decide_eq_false c1,decide_eq_true c2,if_pos (by simp)];exact this
  ·rw[if_neg c2]at this;rw[decide_eq_false c1,decide_eq_false c2,if_neg (by simp)];exact this
theorem OC{x y:Int}(hy:y≠0):sW x y<=x.natAbs:=by
 have hpos:0<y.natAbs:=by omega
 have Ju:=Nat.div_add_mod x.natAbs y.natAbs;unfold sW;have h1:=Nat.div_le_self x.natAbs y.natAbs;have h2:x.natAbs/y.natAbs<=y.natAbs*(x.natAbs/y.natAbs):=Nat.le_mul_of_pos_left _ hpos;generalize x.natAbs/y.natAbs=q at*;generalize x.natAbs%y.natAbs=r at*;generalize y.natAbs*q=Z at*;split<;>omega
theorem Cw{x y:Int}(hx:Fit x)(hy:y≠0):Fit (x/y):=by
 have h1:=(Jt (x:=x) hy).1;have h2:=OC (x:=x) hy;unfold Fit at*;rw[<-h1,Ow];exact Nat.lt_of_le_of_lt h2 hx
theorem Jv{x y:Int}(hy:Fit y)(hy0:y≠0):Fit (x%y):=by
 have h1:=(Jt (x:=x) hy0).2;have h2:=Nat.mod_lt x.natAbs (show 0<y.natAbs by omega)
 have h3:o6 x y<=y.natAbs:=by unfold o6;split<;>omega
 have h4:(x%y).natAbs<=y.natAbs:=by omega
 exact Nat.lt_of_le_of_lt h4 hy
def Cy(x y:Int):AV:=.tuple [.str (aO (x/y)),.str (aO (x%y)),.int .i64 0]
theorem OD{x y:Int}(hx:Fit x)(hy:Fit y)(hy0:y≠0)(h:Heap)(lo:Nat):(run lib).fn 81 [.str (aO x),.str (aO y)] h lo=some (Cy x y,h):=by
 have bo:=fun H lo=>Fu hx hy H lo;have lx:=sV hx;have ly:=sV hy;have hm0:y.natAbs≠0:=by omega
 have ov:=fun H lo=>WC hm0 (qd x) (qd y) (by omega) (by omega) H lo
 obtain⟨d1,d2⟩:=Jt (x:=x) hy0;have Az:=OC (x:=x) hy0;have fq:=Cw (y:=y) hx hy0;have fr:=Jv (x:=x) hy hy0;simp only[wh]at bo
 have hyl:¬ ((aB y.natAbs).length:Int)=0:=by
  have:aB y.natAbs≠[]:=fun e=>hm0 (vP.mp e);have:=mR.mpr this;omega
 have s2:=bK ((qd y).sl []).len;rw[fE]at s2;have rp:=Wz x.natAbs y.natAbs;have s1:=bK (rp.sl []).len;rw[fE]at s1;have hrl:(aB (x.natAbs%y.natAbs)).length<=50:=kY (yM (Nat.le_of_lt (Nat.mod_lt _ (by omega)))) ly
 have tq:=fun H lo=>Fw (v:=.aN 1 (ints (aB (sW x y)))) (n:=sW x y) (!(decide (x<0)==decide (y<0))) (vZ _) (by have:=yM Az;omega) H lo
 rw[d1,uW fq]at tq
 have tr:=fun v hv H lo=>Fw (v:=v) (n:=o6 x y) false hv (by
  have h2:=fr;have e:(x%y).natAbs=o6 x y:=by omega
  have:=sV h2;rw[e]at this;omega) H lo
 have es:iw false (o6 x y)=x%y:=by rw[<-d2];rfl
 rw[es,uW fr]at tr;unfold Cy;rw[aY (x:=x81) rfl rfl rfl rfl];by_cases c:x<0/\x.natAbs%y.natAbs≠0
 ·obtain⟨c1,c2⟩:=c
  have c3:(0:Int)<(aB (x.natAbs%y.natAbs)).length:=by
   have:aB (x.natAbs%y.natAbs)≠[]:=fun e=>c2 (vP.mp e);have:=mR.mpr this;omega
  have pl:=fun H lo=>Jh (v:=.aN 1 (ints (aB (x.natAbs/y.natAbs)))) (u:=.aM 1 [.int .i64 1]) (a:=x.natAbs/y.natAbs) (b:=1) (vZ _) (.inr ⟨1,.inr rfl,.inl rfl⟩) (by have:=yM (Nat.div_le_self x.natAbs y.natAbs);omega) (by decide) H lo
  have mi:=fun H lo=>Ji (qd y) rp (Nat.le_of_lt (Nat.mod_lt _ (by omega))) (by omega) H lo
  have eq:sW x y=x.natAbs/y.natAbs+1:=if_pos ⟨c1,c2⟩;have er:o6 x y=y.natAbs-x.natAbs%y.natAbs:=if_pos ⟨c1,c2⟩;rw[eq]at tq;have rz:=tr (.aN 1 (ints (aB (y.natAbs-x.natAbs%y.natAbs)))) (by rw[er];exact vZ _)
  rw[decide_eq_true c1]at bo tq;have hwk:weak (.aM 1 [.int .i64 1])=.aM 1 [.int .i64 1]:=rfl;simp(maxSteps:=1000000)(disch:=omega)only[go_sem,x81,bo,s2,hyl,ov,s1,c3,afy,hwk,pl,mi,tq,rz]
 ·have eq:sW x y=x.natAbs/y.natAbs:=if_neg c;have er:o6 x y=x.natAbs%y.natAbs:=if_neg c;rw[eq]at tq;have rz:=tr (ru x.natAbs y.natAbs) (by rw[er];exact rp)
  by_cases c1:x<0
  ·have c2:x.natAbs%y.natAbs=0:=by omega
   have c3:¬ (0:Int)<(aB (x.natAbs%y.natAbs)).length:=by rw[c2,vO];simp
   rw[decide_eq_true c1]at bo tq;simp(maxSteps:=1000000)(disch:=omega)only[go_sem,x81,bo,s2,hyl,ov,s1,c3,tq,rz]
  ·rw[decide_eq_false c1]at bo tq;simp(maxSteps:=1000000)(disch:=omega)only[go_sem,x81,bo,s2,hyl,ov,tq,rz]
end Go.VI.Dump
namespace Go.VI.Num
end Go.VI.Num
namespace Go.VI.Dump
open Go.VI.Num
theorem afB{z:Nat}{v:AV}{es:List AV}(p:bG z v es):v.cells=[v]:=by
 rcases p with⟨rfl,rfl⟩|⟨z',rfl|rfl,hz⟩<;>rfl
theorem afC{z:Nat}{v:AV}{es:List AV}(p:bG z v es):v.val=true:=by
 rcases p with⟨rfl,rfl⟩|⟨z',rfl|rfl,hz⟩<;>rfl
theorem afD(cx:Cx)(H:Heap):∀(b a:Nat) (v u:AV),bG 1 v (ints (aB a))->bG 1 u (ints (aB b))->(aB a).length<=1000->(aB b).length<=1000 ->
  ∃ w,bG 1 w (ints (aB (Nat.gcd a b)))/\aA lib cx (.loop MW) ([(9,v),(10,u)],H)=some (.exit 0,([(9,w)],H)):=by
 intro b
 induction b using Nat.strongRecOn with
 |_ b ih =>
  intro a v u hv hu ha hb;have s1:=bK (hu.sl []).len;rw[fE]at s1;by_cases h0:b=0
  ·subst h0;refine⟨v,by rw[Nat.gcd_zero_right];exact hv, ?_⟩
   have c1:¬ (0:Int)<(aB 0).length:=by simp[vO]
   rw[aR];simp(maxSteps:=1000000)(disch:=omega)only[go_sem,s1,c1]
  ·have hpos:0<b:=by omega
   have hlt:=Nat.mod_lt a hpos;have hl2:(aB (a%b)).length<=1000:=kY (yM (Nat.le_of_lt hlt)) hb;obtain⟨w,w1,w2⟩:=ih (a%b) hlt b u (ru a b) hu (Wz a b) hb hl2;refine⟨w, ?_, ?_⟩
   ·have e:Nat.gcd a b=Nat.gcd b (a%b):=by rw[Nat.gcd_comm a b,Nat.gcd_rec,Nat.gcd_comm]
    rw[e];exact w1
   ·have c1:(0:Int)<(aB b).length:=by
     have:aB b≠[]:=fun e=>h0 (vP.mp e);have:=mR.mpr this;omega
    have ov:=fun H lo=>WC h0 hv hu (by omega) (by omega) H lo
    rw[aR];simp(maxSteps:=1000000)(disch:=omega)only[go_sem,s1,c1,ov,w2]
theorem Jw{x y:Int}(hx:Fit x)(hy:Fit y):Fit ((Int.gcd x y:Nat):Int):=by
 unfold Fit at*;rw[yN];unfold Int.gcd;rcases oN x.natAbs with h|h
 ·rw[h,Nat.gcd_zero_left];exact hy
 ·exact Nat.lt_of_le_of_lt (Nat.gcd_le_left _ h) hx
theorem WT{x y:Int}(hx:Fit x)(hy:Fit y)(h:Heap)(lo:Nat):(run lib).fn 105 [.str (aO x),.str (aO y)] h lo=some (.tuple [.str (aO (Int.gcd x y:Nat)),.int .i64 0],h):=by
 have bo:=fun H lo=>Fu hx hy H lo;have lx:=sV hx;have ly:=sV hy;have fg:=Jw hx hy;obtain⟨w,w1,w2⟩:=afD ⟨h.length,h.length,2,none⟩ (h++[(1,.box [.bool (decide (x<0)),.aN 1 (ints (aB x.natAbs))]),(1,.box [.bool (decide (y<0)),.aN 1 (ints (aB y.natAbs))])]) y.natAbs x.natAbs _ _ (qd x) (qd y) (by omega) (by omega)
 have hw1:=afB w1;have hw2:=afC w1;have tx:=fun H lo=>Fw (n:=Nat.gcd x.natAbs y.natAbs) false w1 (by have:=sV fg;rw[yN]at this;unfold Int.gcd at this;omega) H lo
 have es:iw false (Nat.gcd x.natAbs y.natAbs)=((Int.gcd x y:Nat):Int):=rfl;rw[es,uW fg]at tx;simp only[wh]at bo;rw[aY (x:=x105) rfl rfl rfl rfl];simp(maxSteps:=1000000)(disch:=omega)only[go_sem,x105,bo,w2,hw1,hw2,tx]
theorem afE{z:Int}(hz:Fit z):(aO z).length<=201:=by
 have:=(xI (n:=z.natAbs) (k:=200) (by omega)).mpr hz
 unfold aO;split<;>simp<;>omega
end Go.VI.Dump
namespace Go.VI.Dump
open Go.VI.Num
def bU(s t:List UInt8):AV:=.agg [.str s,.str t]
def rt(q:Rat):AV:=bU (aO q.num) (aO (q.den:Int))
def jb(o:Option Rat):AV:=match o with|some q=>.tuple [rt q,.int .i64 0]|none=>.tuple [bU [] [],.int .i64 40]
theorem rC:aO 0=[48]:=rfl
theorem AA:Fit 0:=by unfold Fit;decide
theorem qf{q:Rat}(h:jW q):Fit (q.den:Int):=by unfold Fit;rw[yN];exact h.2
theorem afF(x:Int):decide (bR x 0<=0)=!decide (0<x):=by
 unfold bR;by_cases h1:x<0
 ·rw[if_pos h1,decide_eq_false (show ¬ 0<x by omega)];rfl
 ·rw[if_neg h1];by_cases h2:x=0
  ·rw[if_pos h2,decide_eq_false (show ¬ 0<x by omega)];rfl
  ·rw[if_neg h2,decide_eq_true (show 0<x by omega)];rfl
theorem afG(z:Int):decide (aO z=[49])=decide (z=1):=by
 rw[decide_eq_decide,<-VJ];exact⟨NU,fun h=>by rw[h]⟩
theorem Fy(s t:List UInt8)(h:Heap)(lo:Nat):(run lib).fn 78 [bU s t] h lo=some (.bool (lU s t),h):=by
 have v1:=fun H lo=>Js s H lo;have v2:=fun H lo=>Js t H lo;unfold bU lU;rw[aY (x:=Aa) rfl rfl rfl rfl]
 cases c1:qX s with
 |false =>
  rw[c1]at v1
  simp(maxSteps:=1000000)(disch:=omega)only[go_sem,Aa,v1]
 |true =>
  rw[c1]at v1
  cases c2:qX t with
  |false =>
   rw[c2]at v2
   simp(maxSteps:=1000000)(disch:=omega)only[go_sem,Aa,v1,v2]
  |true =>
   rw[c2]at v2;obtain⟨e1,f1⟩:=VD c1;obtain⟨e2,f2⟩:=VD c2;have cm:=fun H lo=>OB (x:=zv t) (y:=0) f2 AA H lo;rw[rC,<-e2]at cm;have gc:=fun H lo=>WT f1 f2 H lo;rw[<-e1,<-e2]at gc;have cl:=afF (zv t);have g1:=afG ((Int.gcd (zv s) (zv t):Nat):Int);generalize aO ((Int.gcd (zv s) (zv t):Nat):Int)=G at*;generalize bR (zv t) 0=q at*;by_cases c3:0<zv t
   ·rw[decide_eq_true c3]at cl⊢;have cl':¬ q<=0:=by simpa using cl
    by_cases c4:G=[49]
    ·have c5:(Int.gcd (zv s) (zv t)==1)=true:=by
      rw[decide_eq_true c4]at g1;have:=of_decide_eq_true g1.symm;simp only[beq_iff_eq];omega
     rw[c5];simp(maxSteps:=1000000)(disch:=omega)only[go_sem,Aa,v1,v2,cm,cl',gc,c4]
    ·have c5:(Int.gcd (zv s) (zv t)==1)=false:=by
      rw[decide_eq_false c4]at g1;have:=of_decide_eq_false g1.symm;simp only[beq_eq_false_iff_ne,ne_eq];omega
     rw[c5];simp(maxSteps:=1000000)(disch:=omega)only[go_sem,Aa,v1,v2,cm,cl',gc,c4]
   ·rw[decide_eq_false c3]at cl⊢;have cl':q<=0:=by simpa using cl
    simp(maxSteps:=1000000)(disch:=omega)only[go_sem,Aa,v1,v2,cm,cl']
end Go.VI.Dump
namespace Go.VI.Dump
open Go.VI.Num
@[reducible] def okB:Nat×av:=(1,.box [.bool false])
@[reducible] def gy:Nat×av:=(1,.box [.bool true])
theorem WU(h:Heap)(id:Nat)(b:Nat×av):(h.set id b).take h.length=h.set id b:=pI (by simp)
theorem wo{H:Heap}{id:Nat}{cs:List AV}(hid:H[id]?=some (1,.box cs)):eD H (.aJ id 1 0)=some cs:=by simp[eD,hid]
theorem WV{H:Heap}{id:Nat}{b:Nat×av}(hid:H[id]?=some b):H.set id b=H:=by
 obtain⟨h1,h2⟩:=bO.mp hid;rw[<-h2];exact List.set_getElem_self h1
theorem Fz{H:Heap}{id base lo ns:Nat}{a b:Bool}(hid:H[id]?=some (1,.box [.bool a]))(hlo:lo<=id)(ic:Option (Nat×Nat)):dK ⟨lo,base,ns,ic⟩ H 1 (.aJ id 1 0) (.bool b)=some (H.set id (1,.box [.bool b])):=by
 cases ic<;>simp[dK,AV.cells,AV.val,hid,hlo,splice,AV.closed]
theorem WW{h:Heap}{id:Nat}(hid:h[id]?=some gy)(f:AV)(a b:List UInt8){lo:Nat}(hlo:lo<=id):(run lib).fn 125 [.aJ id 1 0,f,.str a,.str b] h lo=some (.str [],h):=by
 have hlt:id<h.length:=(bO.mp hid).1;have p:=wo hid;rw[iP (x:=Ad) rfl rfl rfl rfl (by omega)]
 simp(maxSteps:=1000000)(disch:=omega)only[go_sem,Ad,p,kP]
theorem Cz{h:Heap}{id:Nat}(hid:h[id]?=some okB){g:Nat}(hg0:g<1000){a b s:List UInt8}(hg:∀ lo,(run lib).fn g [.str a,.str b] h lo=some (.tuple [.str s,.int .i64 0],h)){lo:Nat}(hlo:lo<=id) :
  (run lib).fn 125 [.aJ id 1 0,.fn g [],.str a,.str b] h lo=some (.str s,h):=by
 have hlt:id<h.length:=(bO.mp hid).1;have p:=wo hid;have st:=Fz (base:=h.length) (ns:=0) (b:=false) hid hlo none;rw[WV hid]at st;rw[iP (x:=Ad) rfl rfl rfl rfl (by omega)]
 simp(maxSteps:=1000000)(disch:=omega)only[go_sem,Ad,p,hg,hg0,st,kP]
theorem WX{h:Heap}{id:Nat}(hid:h[id]?=some okB){g:Nat}(hg0:g<1000){a b s:List UInt8}{e:Int}(he:e≠0)(hg:∀ lo,(run lib).fn g [.str a,.str b] h lo=some (.tuple [.str s,.int .i64 e],h)){lo:Nat}(hlo:lo<=id) :
  (run lib).fn 125 [.aJ id 1 0,.fn g [],.str a,.str b] h lo=some (.str s,h.set id gy):=by
 have hlt:id<h.length:=(bO.mp hid).1;have p:=wo hid;have st:=Fz (base:=h.length) (ns:=0) (b:=true) hid hlo none;rw[iP (x:=Ad) rfl rfl rfl rfl (by omega)]
 simp(maxSteps:=1000000)(disch:=omega)only[go_sem,Ad,p,hg,hg0,he,st,WU]
theorem afH{h:Heap}{id:Nat}(hid:h[id]?=some gy)(a b:List UInt8){lo:Nat}(hlo:lo<=id):(run lib).fn 124 [.aJ id 1 0,.str a,.str b] h lo=some (.str [],h):=by
 have hlt:id<h.length:=(bO.mp hid).1;have d:=fun f {lo} (hlo:lo<=id)=>WW hid f a b (lo:=lo) hlo;rw[iP (x:=Ac) rfl rfl rfl rfl (by omega)]
 simp(maxSteps:=1000000)(disch:=omega)only[go_sem,Ac,d,kP]
theorem afI{h:Heap}{id:Nat}(hid:h[id]?=some okB){x y:Int}(hx:Fit x)(hy:Fit y)(hf:Fit (x*y)){lo:Nat}(hlo:lo<=id) :
  (run lib).fn 124 [.aJ id 1 0,.str (aO x),.str (aO y)] h lo=some (.str (aO (x*y)),h):=by
 have hlt:id<h.length:=(bO.mp hid).1;have d:=fun{lo} (hlo:lo<=id)=>Cz hid (g:=161) (by decide) (a:=aO x) (b:=aO y) (s:=aO (x*y)) (fun lo=>by rw[WQ hx hy,uW hf]) (lo:=lo) hlo
 rw[iP (x:=Ac) rfl rfl rfl rfl (by omega)]
 simp(maxSteps:=1000000)(disch:=omega)only[go_sem,Ac,d,kP]
theorem afJ{h:Heap}{id:Nat}(hid:h[id]?=some okB){x y:Int}(hx:Fit x)(hy:Fit y)(hf:¬ Fit (x*y)){lo:Nat}(hlo:lo<=id) :
  (run lib).fn 124 [.aJ id 1 0,.str (aO x),.str (aO y)] h lo=some (.str [],h.set id gy):=by
 have hlt:id<h.length:=(bO.mp hid).1;have d:=fun{lo} (hlo:lo<=id)=>WX hid (g:=161) (by decide) (a:=aO x) (b:=aO y) (s:=[]) (e:=30) (by decide) (fun lo=>by rw[WQ hx hy];show some (outT (x*y),h)=_;unfold outT;rw[if_neg (show ¬ (x*y).natAbs<10^200 from hf)]) (lo:=lo) hlo
 rw[iP (x:=Ac) rfl rfl rfl rfl (by omega)]
 simp(maxSteps:=1000000)(disch:=omega)only[go_sem,Ac,d,WU]
theorem afK{x y:Int}(hx:Fit x)(hy:Fit y)(h0:y≠0)(hq:Fit (x/y))(h:Heap)(lo:Nat):(run lib).fn 165 [.str (aO x),.str (aO y)] h lo=some (.tuple [.str (aO (x/y)),.int .i64 0],h):=by
 have dv:=fun H lo=>OD hx hy h0 H lo;unfold Cy at dv;have oS:Oy (x/y)=aO (x/y):=if_pos hq;have oE:Oz (x/y)=0:=if_pos hq;rw[aY (x:=Nu) rfl rfl rfl rfl];simp(maxSteps:=1000000)(disch:=omega)only[go_sem,Nu,dv]
theorem WY{h:Heap}{id:Nat}(hid:h[id]?=some okB){x y:Int}(hx:Fit x)(hy:Fit y)(h0:y≠0)(hq:Fit (x/y)){lo:Nat}(hlo:lo<=id) :
  (run lib).fn 136 [.aJ id 1 0,.str (aO x),.str (aO y)] h lo=some (.str (aO (x/y)),h):=by
 have hlt:id<h.length:=(bO.mp hid).1;have d:=fun{lo} (hlo:lo<=id)=>Cz hid (g:=165) (by decide) (a:=aO x) (b:=aO y) (s:=aO (x/y)) (fun lo=>afK hx hy h0 hq h lo) (lo:=lo) hlo
 rw[iP (x:=Nc) rfl rfl rfl rfl (by omega)]
 simp(maxSteps:=1000000)(disch:=omega)only[go_sem,Nc,d,kP]
end Go.VI.Dump
namespace Go.VI.Dump
open Go.VI.Num
theorem WZ(x:Int):(bR x 0<0)↔x<0:=by
 unfold bR;by_cases h1:x<0
 ·rw[if_pos h1];omega
 ·rw[if_neg h1];by_cases h2:x=0
  ·rw[if_pos h2];omega
  ·rw[if_neg h2];omega
theorem yY{x:Int}(h:Fit x):Fit (-x):=by unfold Fit at*;rw[Int.natAbs_neg];exact h
theorem W9{n d:Int}(h:d≠0):((Int.gcd n d:Nat):Int)≠0:=by
 intro e;have:Int.gcd n d=0:=by omega
 exact h (Int.gcd_eq_zero_iff.mp this).2
theorem FB{d:Int}(h:d≠0):¬ aO d=[48]:=fun e=>h (NU (e.trans rC.symm))
theorem reduced_bad{h:Heap}{id:Nat}(hid:h[id]?=some gy)(n d:List UInt8){lo:Nat}(hlo:lo<=id):(run lib).fn 103 [.aJ id 1 0,.str n,.str d] h lo=some (jb none,h):=by
 have hlt:id<h.length:=(bO.mp hid).1;have p:=fun fr=>wo (jB (fr:=fr) hid);rw[iP (x:=x103) rfl rfl rfl rfl (by omega)]
 simp(maxSteps:=1000000)(disch:=omega)only[go_sem,x103,p,jb,bU,List.take_left']
theorem reduced_zero{h:Heap}{id:Nat}(hid:h[id]?=some okB)(n:List UInt8){lo:Nat}(hlo:lo<=id):(run lib).fn 103 [.aJ id 1 0,.str n,.str [48]] h lo=some (jb none,h):=by
 have hlt:id<h.length:=(bO.mp hid).1;have p:=fun fr=>wo (jB (fr:=fr) hid);rw[iP (x:=x103) rfl rfl rfl rfl (by omega)]
 simp(maxSteps:=1000000)(disch:=omega)only[go_sem,x103,p,jb,bU,List.take_left']
theorem reduced_ok{h:Heap}{id:Nat}(hid:h[id]?=some okB){n d:Int}(hn:Fit n)(hd:Fit d)(h0:d≠0){lo:Nat}(hlo:lo<=id) :
  (run lib).fn 103 [.aJ id 1 0,.str (aO n),.str (aO d)] h lo=some (jb (some (Rat.divInt n d)),h):=by
 have hlt:id<h.length:=(bO.mp hid).1;have p:=fun fr=>wo (jB (fr:=fr) hid);have hz:=FB h0;have cm:=fun H lo=>OB hd AA H lo;rw[rC]at cm;have cl:=WZ d
 have fin:∀{N D:Int},Fit N->Fit D->0<D->Rat.divInt N D=Rat.divInt n d->∃ G:Int,(∀ fr {lo},lo<=id->(run lib).fn 125 [.aJ id 1 0,.fn 105 [],.str (aO N),.str (aO D)] (h++fr) lo=some (.str (aO G),h++fr)) /\
   (∀ fr {lo},lo<=id->(run lib).fn 136 [.aJ id 1 0,.str (aO N),.str (aO G)] (h++fr) lo=some (.str (aO (Rat.divInt n d).num),h++fr)) /\
   (∀ fr {lo},lo<=id->(run lib).fn 136 [.aJ id 1 0,.str (aO D),.str (aO G)] (h++fr) lo=some (.str (aO ((Rat.divInt n d).den:Int)),h++fr)):=by
  intro N D hN hD hp he;have hG:=Jw hN hD;have hG0:=W9 (n:=N) (d:=D) (by omega)
  refine⟨(Int.gcd N D:Nat),fun fr lo hlo=>Cz (jB (fr:=fr) hid) (by decide) (fun lo=>WT hN hD _ _) hlo,fun fr lo hlo=>?_,fun fr lo hlo=>?_⟩
  ·rw[<-he,VF hp];exact WY (jB (fr:=fr) hid) hN hG hG0 (Cw hN hG0) hlo
  ·rw[<-he,VG hp];exact WY (jB (fr:=fr) hid) hD hG hG0 (Cw hD hG0) hlo
 generalize bR d 0=q at*;rw[iP (x:=x103) rfl rfl rfl rfl (by omega)]
 by_cases c:d<0
 ·obtain⟨G,g1,g2,g3⟩:=fin (yY hn) (yY hd) (by omega) (Rat.neg_divInt_neg n d)
  have s1:=fun fr {lo} (hlo:lo<=id)=>Cz (h:=h++fr) (jB (fr:=fr) hid) (g:=135) (by decide) (a:=[48]) (b:=aO n) (s:=aO (-n)) (fun lo=>by rw[<-rC,OA AA hn,Int.zero_sub,uW (yY hn)]) hlo
  have s2:=fun fr {lo} (hlo:lo<=id)=>Cz (h:=h++fr) (jB (fr:=fr) hid) (g:=135) (by decide) (a:=[48]) (b:=aO d) (s:=aO (-d)) (fun lo=>by rw[<-rC,OA AA hd,Int.zero_sub,uW (yY hd)]) hlo
  have cl':q<0:=cl.mpr c;clear fin;simp(maxSteps:=1000000)(disch:=omega)only[go_sem,x103,p,hz,cm,cl',s1,s2,g1,g2,g3,jb,rt,bU,List.take_left']
 ·obtain⟨G,g1,g2,g3⟩:=fin hn hd (by omega) rfl
  have cl':¬ q<0:=fun h=>c (cl.mp h);clear fin;simp(maxSteps:=1000000)(disch:=omega)only[go_sem,x103,p,hz,cm,cl',g1,g2,g3,jb,rt,bU,List.take_left']
theorem afL{n d:Int}(hn:Fit n)(hd:Fit d)(h:Heap)(lo:Nat):(run lib).fn 73 [.str (aO n),.str (aO d)] h lo=some (jb (vS n d),h):=by
 have v1:=fun H lo=>Js (aO n) H lo;have v2:=fun H lo=>Js (aO d) H lo;rw[oG hn]at v1;rw[oG hd]at v2;unfold vS;rw[aY (x:=Iy) rfl rfl rfl rfl];by_cases c:d=0
 ·subst c;rw[if_pos rfl,rC]at *;have r:=fun X {lo} hlo=>reduced_zero (h:=h++[okB,X]) (id:=h.length+0) (by rw[bH];rfl) (aO n) (lo:=lo) hlo
  simp(maxSteps:=1000000)(disch:=omega)only[go_sem,Iy,v1,v2,r,jb,bU]
 ·rw[if_neg c];have r:=fun X {lo} hlo=>reduced_ok (h:=h++[okB,X]) (id:=h.length+0) (by rw[bH];rfl) hn hd c (lo:=lo) hlo
  generalize Rat.divInt n d=Q at*;simp(maxSteps:=1000000)(disch:=omega)only[go_sem,Iy,v1,v2,r,jb,rt,bU]
end Go.VI.Dump
namespace Go.VI.Dump
open Go.VI.Num
def wu(a:Bool)(v:Bool):Bool:=a||!v
theorem Xa{h:Heap}{id:Nat}{a:Bool}(hid:h[id]?=some (1,.box [.bool a])){lo:Nat}(hlo:lo<=id)(es:List AV)(k:Nat)(s t:List UInt8)(he:es[k]?=some (bU s t))(hl:es.length<=10)(w:Nat)(b:av)(hb:b=.dead\/∃ cs,b=.box cs)(r:Option (Ex×Env×Heap))
  (N:Int) (hN:(es.length:Int)=N) (hr:aA lib ⟨lo,h.length,1,none⟩ (.loop EM) ([(0,.aJ id 1 0),(6,.aM 2 es),(7,.int .i64 N),(8,.int .i64 ((k:Int)+1))],h.set id (1,.box [.bool (wu a (lU s t))])++[(w+1,.box [.str s,.str t])])=r) :
  aA lib ⟨lo,h.length,1,none⟩ (.loop EM) ([(0,.aJ id 1 0),(6,.aM 2 es),(7,.int .i64 N),(8,.int .i64 k)],h++[(w,b)])=r:=by
 have hlt:id<h.length:=(bO.mp hid).1;have hk:k<es.length:=(bO.mp he).1;have p:=fun fr=>wo (jB (fr:=fr) hid);have st:=fun fr (c:Bool)=>Fz (H:=h++fr) (base:=h.length) (ns:=1) (b:=c) (jB (fr:=fr) hid) hlo none;have sp:=fun fr c=>H9 (fr:=fr) c hid;simp only[sp]at st;have c1:(k:Int)<N:=by omega
 have hs:Sl (h++[(w,b)]) 2 (.aM 2 es) es:=(show bG 2 (.aM 2 es) es from .inr ⟨2,.inr rfl,.inl rfl⟩).sl _
 have e3:bP 2 (.aM 2 es) (.int .i64 k)=some k:=by rw[dz hs (by omega) (by omega)];simp
 have e4:∀ off fr,eD (h++fr) (.di (.aM 2 es) k off)=some ((bU s t).cells.drop off):=fun off fr=>by
  have:=dx (off:=off) ((show bG 2 (.aM 2 es) es from .inr ⟨2,.inr rfl,.inl rfl⟩).sl (h++fr)).eO hk
  rw[this];have:es[k]=bU s t:=by rw[gM hk]at he;exact Option.some.inj he
  rw[this]
 have v:=fun H lo=>Fy s t H lo;simp only[bU,AV.cells]at e4 v;rw[aR]
 cases a with
 |true =>
  simp only[wu,Bool.true_or]at hr;rcases hb with rfl|⟨cs,rfl⟩
  ·simp(maxSteps:=1000000)(disch:=omega)only[go_sem,c1,e3,e4,p,st];exact hr
  ·simp(maxSteps:=1000000)(disch:=omega)only[go_sem,c1,e3,e4,p,st]
   exact hr
 |false =>
  cases c2:lU s t with
  |true =>
   rw[c2]at v hr;simp only[wu,Bool.false_or,vH]at hr;rcases hb with rfl|⟨cs,rfl⟩
   ·simp(maxSteps:=1000000)(disch:=omega)only[go_sem,c1,e3,e4,p,v,st];exact hr
   ·simp(maxSteps:=1000000)(disch:=omega)only[go_sem,c1,e3,e4,p,v,st]
    exact hr
  |false =>
   rw[c2]at v hr;simp only[wu,Bool.false_or,vR]at hr;rcases hb with rfl|⟨cs,rfl⟩
   ·simp(maxSteps:=1000000)(disch:=omega)only[go_sem,c1,e3,e4,p,v,st];exact hr
   ·simp(maxSteps:=1000000)(disch:=omega)only[go_sem,c1,e3,e4,p,v,st];exact hr
theorem afM(h:Heap)(id:Nat)(X:Nat×av)(fr:Heap):(h.set id X++fr).take h.length=h.set id X:=by
 rw[List.take_append_of_le_length (by simp),pI (by simp)]
theorem afN{lo B:Nat}(H:Heap)(id:Nat)(es:List AV)(N:Int):aA lib ⟨lo,B,1,none⟩ (.loop EM) ([(0,.aJ id 1 0),(6,.aM 2 es),(7,.int .i64 N),(8,.int .i64 N)],H)=some (.exit 0,([],H)):=by
 rw[aR];simp(maxSteps:=1000000)(disch:=omega)only[go_sem,dU]
theorem afO{h:Heap}{id:Nat}(hid:h[id]?=some okB)(s t u v:List UInt8){lo:Nat}(hlo:lo<=id):(run lib).fn 122 [.aJ id 1 0,.aM 2 [bU s t,bU u v]] h lo=some (.tuple [],h.set id (1,.box [.bool (!(lU s t&&lU u v))])):=by
 have hlt:id<h.length:=(bO.mp hid).1;have e:(wu (wu false (lU s t)) (lU u v))=!(lU s t&&lU u v):=by unfold wu;cases lU s t<;>cases lU u v<;>rfl
 have gD:(h.set id (1,.box [.bool (wu false (lU s t))]))[id]?=some (1,.box [.bool (wu false (lU s t))]):=lN hlt;have c2:=Xa (h:=h.set id (1,.box [.bool (wu false (lU s t))])) gD hlo [bU s t,bU u v] 1 u v rfl (by simp) 1 (.box [.str s,.str t]) (.inr ⟨_,rfl⟩) _ 2 rfl (afN _ id [bU s t,bU u v] 2)
 rw[qJ,List.set_set,e]at c2;have lp:=Xa (a:=false) hid hlo [bU s t,bU u v] 0 s t rfl (by simp) 0 .dead (.inl rfl) _ 2 rfl c2
 have ln:jc false (.aM 2 [bU s t,bU u v])=some (.int .i64 2):=rfl;simp only[fH]at lp;generalize [bU s t,bU u v]=es at*;rw[iP (x:=M8) rfl rfl rfl rfl (by omega)]
 simp(maxSteps:=1000000)(disch:=omega)only[go_sem,M8,ln,lp,afM]
end Go.VI.Dump
namespace Go.VI.Dump
open Go.VI.Num
theorem CB{z:Int}(h:Fit z):nM z=true:=decide_eq_true h
theorem CF{z:Int}(h:¬ Fit z):nM z=false:=decide_eq_false h
theorem Xb(q:Rat):(q.den:Int)≠0:=by have:=q.den_pos;omega
theorem Xc(a b:Rat):(a.den:Int)*b.den≠0:=Int.mul_ne_zero (Xb a) (Xb b)
section
variable (h:Heap)
theorem AB(X:Nat×av):(h++[okB,X])[h.length+0]?=some okB:=by rw[bH];rfl
theorem OE(X:Nat×av):(h++[gy,X])[h.length+0]?=some gy:=by rw[bH];rfl
theorem Xd(X:Nat×av):(h++[okB,X]).set (h.length+0) gy=h++[gy,X]:=by rw[eB];rfl
theorem afP(X:Nat×av):(h++[okB,X]).set (h.length+0) okB=h++[okB,X]:=by rw[eB];rfl
theorem Xe{s t u v:List UInt8}(h1:lU s t=true)(h2:lU u v=true)(X:Nat×av){lo:Nat}(hlo:lo<=h.length+0):(run lib).fn 122 [.aJ (h.length+0) 1 0,.aM 2 [.agg [.str s,.str t],.agg [.str u,.str v]]] (h++[okB,X]) lo=some (.tuple [],h++[okB,X]):=by
 have:=afO (AB h X) s t u v hlo;rw[h1,h2]at this;exact this.trans (congrArg (fun H=>some (AV.tuple [],H)) (afP h X))
theorem FC{x y z:Int}(hx:Fit x)(hy:Fit y)(e:z=x*y)(hf:Fit z)(X:Nat×av){lo:Nat}(hlo:lo<=h.length+0):(run lib).fn 124 [.aJ (h.length+0) 1 0,.str (aO x),.str (aO y)] (h++[okB,X]) lo=some (.str (aO z),h++[okB,X]):=by
 subst e;exact afI (AB h X) hx hy hf hlo
theorem FD{x y z:Int}(hx:Fit x)(hy:Fit y)(e:z=x*y)(hf:¬ Fit z)(X:Nat×av){lo:Nat}(hlo:lo<=h.length+0):(run lib).fn 124 [.aJ (h.length+0) 1 0,.str (aO x),.str (aO y)] (h++[okB,X]) lo=some (.str [],h++[gy,X]):=by
 subst e;rw[<-Xd h X];exact afJ (AB h X) hx hy hf hlo
theorem Jy(a b:List UInt8)(X:Nat×av){lo:Nat}(hlo:lo<=h.length+0):(run lib).fn 124 [.aJ (h.length+0) 1 0,.str a,.str b] (h++[gy,X]) lo=some (.str [],h++[gy,X]):=afH (OE h X) a b hlo
theorem Xf(f:AV)(a b:List UInt8)(X:Nat×av){lo:Nat}(hlo:lo<=h.length+0):(run lib).fn 125 [.aJ (h.length+0) 1 0,f,.str a,.str b] (h++[gy,X]) lo=some (.str [],h++[gy,X]):=WW (OE h X) f a b hlo
theorem afQ{g:Nat}(hg0:g<1000){x y z:Int}(hg:∀ h lo,(run lib).fn g [.str (aO x),.str (aO y)] h lo=some (outT z,h))(hf:Fit z)(X:Nat×av){lo:Nat}(hlo:lo<=h.length+0):(run lib).fn 125 [.aJ (h.length+0) 1 0,.fn g [],.str (aO x),.str (aO y)] (h++[okB,X]) lo=some (.str (aO z),h++[okB,X]) :=
 Cz (AB h X) hg0 (fun lo=>by rw[hg,uW hf]) hlo
theorem afR{g:Nat}(hg0:g<1000){x y z:Int}(hg:∀ h lo,(run lib).fn g [.str (aO x),.str (aO y)] h lo=some (outT z,h))(hf:¬ Fit z)(X:Nat×av){lo:Nat}(hlo:lo<=h.length+0):(run lib).fn 125 [.aJ (h.length+0) 1 0,.fn g [],.str (aO x),.str (aO y)] (h++[okB,X]) lo=some (.str [],h++[gy,X]):=by
 rw[<-Xd h X];exact WX (AB h X) hg0 (e:=30) (by decide) (fun lo=>by rw[hg];unfold outT;rw[if_neg (show ¬ z.natAbs<10^200 from hf)]) hlo
theorem CG(n d:List UInt8)(X:Nat×av){lo:Nat}(hlo:lo<=h.length+0):(run lib).fn 103 [.aJ (h.length+0) 1 0,.str n,.str d] (h++[gy,X]) lo=some (.tuple [.agg [.str [],.str []],.int .i64 40],h++[gy,X]):=reduced_bad (OE h X) n d hlo
theorem Xg{n d:Int}(hn:Fit n)(hd:Fit d)(h0:d≠0)(X:Nat×av){lo:Nat}(hlo:lo<=h.length+0):(run lib).fn 103 [.aJ (h.length+0) 1 0,.str (aO n),.str (aO d)] (h++[okB,X]) lo=some (.tuple [.agg [.str (aO (Rat.divInt n d).num),.str (aO ((Rat.divInt n d).den:Int))],.int .i64 0],h++[okB,X]):=reduced_ok (AB h X) hn hd h0 hlo
theorem afS(n:Int)(X:Nat×av){lo:Nat}(hlo:lo<=h.length+0):(run lib).fn 103 [.aJ (h.length+0) 1 0,.str (aO n),.str (aO 0)] (h++[okB,X]) lo=some (.tuple [.agg [.str [],.str []],.int .i64 40],h++[okB,X]):=reduced_zero (AB h X) _ hlo
end
end Go.VI.Dump
namespace Go.VI.Dump
open Go.VI.Num
theorem jo(cs:List AV):(AV.bD cs).closed=true:=by simp[AV.closed]
theorem Xh{a b:Rat}(ha:jW a)(hb:jW b)(h:Heap)(lo:Nat):(run lib).fn 133 [rt a,rt b] h lo=some (jb (Ak a b),h):=by
 have ck:=fun X {lo} hlo=>Xe h (Aj ha) (Aj hb) X (lo:=lo) hlo;have q:=aeM a b;have qz:=aeN (a:=a) (b:=b);unfold Ak rt bU;obtain⟨x,ex⟩:∃ x,x=a.num*b.den:=⟨_,rfl⟩;obtain⟨y,ey⟩:∃ y,y=(a.den:Int)*b.num:=⟨_,rfl⟩;rw[<-ex,<-ey]at q⊢;rw[<-ey]at qz;rw[aY (x:=BV) rfl rfl rfl rfl];by_cases c1:Fit x
 ·have m1:=fun X {lo} hlo=>FC h ha.1 (qf hb) ex c1 X (lo:=lo) hlo;rw[CB c1];by_cases c2:Fit y
  ·have m2:=fun X {lo} hlo=>FC h (qf ha) hb.1 ey c2 X (lo:=lo) hlo;rw[CB c2];by_cases c3:b=0
   ·have r:=fun X {lo} hlo=>afS h x X (lo:=lo) hlo;have y0:y=0:=qz.mpr c3;rw[y0]at m2;rw[decide_eq_false (show ¬ b≠0 from fun h=>h c3)]
    simp(maxSteps:=1000000)(disch:=omega)only[go_sem,BV,ck,m1,m2,r,jb,bU]
   ·have hd:y≠0:=fun h=>c3 (qz.mp h);have r:=fun X {lo} hlo=>Xg h c1 c2 hd X (lo:=lo) hlo;rw[q]at r;rw[decide_eq_true (show b≠0 from c3)]
    generalize a/b=Q at*;simp(maxSteps:=1000000)(disch:=omega)only[go_sem,BV,ck,m1,m2,r,jb,rt,bU]
  ·have m2:=fun X {lo} hlo=>FD h (qf ha) hb.1 ey c2 X (lo:=lo) hlo;rw[CF c2];simp(maxSteps:=1000000)(disch:=omega)only[go_sem,BV,ck,m1,m2,CG,jb,bU]
 ·have m1:=fun X {lo} hlo=>FD h ha.1 (qf hb) ex c1 X (lo:=lo) hlo;rw[CF c1];simp(maxSteps:=1000000)(disch:=omega)only[go_sem,BV,ck,m1,Jy,CG,jb,bU]
theorem afT{g:Nat}(hg0:g<1000){a b:Rat}(ha:jW a)(hb:jW b){z:Int}(hg:Fit (a.num*b.den)->Fit (b.num*a.den)->∀ h lo,(run lib).fn g [.str (aO (a.num*b.den)),.str (aO (b.num*a.den))] h lo=some (outT z,h))(h:Heap)(lo:Nat) :
  (run lib).fn 157 [.fn g [],rt a,rt b] h lo=some (jb (if nM (a.num*b.den)&&nM (b.num*a.den)&&nM z&&nM ((a.den:Int)*b.den)then some (Rat.divInt z ((a.den:Int)*b.den))else none),h):=by
 have ck:=fun X {lo} hlo=>Xe h (Aj ha) (Aj hb) X (lo:=lo) hlo;have hd:=Xc a b;unfold rt bU;obtain⟨x,ex⟩:∃ x,x=a.num*b.den:=⟨_,rfl⟩;obtain⟨u,eu⟩:∃ u,u=b.num*a.den:=⟨_,rfl⟩;obtain⟨y,ey⟩:∃ y,y=(a.den:Int)*b.den:=⟨_,rfl⟩;rw[<-ex,<-eu]at hg;rw[<-ex,<-eu,<-ey];rw[<-ey]at hd;rw[aY (x:=x157) rfl rfl rfl rfl];by_cases c1:Fit x
 ·have m1:=fun X {lo} hlo=>FC h ha.1 (qf hb) ex c1 X (lo:=lo) hlo;rw[CB c1];by_cases c2:Fit u
  ·have m2:=fun X {lo} hlo=>FC h hb.1 (qf ha) eu c2 X (lo:=lo) hlo;rw[CB c2];by_cases c3:Fit z
   ·have d:=fun X {lo} hlo=>afQ h hg0 (hg c1 c2) c3 X (lo:=lo) hlo;rw[CB c3];by_cases c4:Fit y
    ·have m3:=fun X {lo} hlo=>FC h (qf ha) (qf hb) ey c4 X (lo:=lo) hlo;have r:=fun X {lo} hlo=>Xg h c3 c4 hd X (lo:=lo) hlo;rw[CB c4];generalize Rat.divInt z y=Q at*;simp(maxSteps:=1000000)(disch:=omega)only[go_sem,x157,jo,ck,m1,m2,d,m3,r,jb,rt,bU]
    ·have m3:=fun X {lo} hlo=>FD h (qf ha) (qf hb) ey c4 X (lo:=lo) hlo;rw[CF c4];simp(maxSteps:=1000000)(disch:=omega)only[go_sem,x157,jo,ck,m1,m2,d,m3,CG,jb,bU]
   ·have d:=fun X {lo} hlo=>afR h hg0 (hg c1 c2) c3 X (lo:=lo) hlo;rw[CF c3];simp(maxSteps:=1000000)(disch:=omega)only[go_sem,x157,jo,ck,m1,m2,d,Jy,CG,jb,bU]
  ·have m2:=fun X {lo} hlo=>FD h hb.1 (qf ha) eu c2 X (lo:=lo) hlo;rw[CF c2];simp(maxSteps:=1000000)(disch:=omega)only[go_sem,x157,jo,ck,m1,m2,Xf,Jy,CG,jb,bU]
 ·have m1:=fun X {lo} hlo=>FD h ha.1 (qf hb) ex c1 X (lo:=lo) hlo;rw[CF c1];simp(maxSteps:=1000000)(disch:=omega)only[go_sem,x157,jo,ck,m1,Xf,Jy,CG,jb,bU]
theorem OH(o:Option Rat):∃ s t e,jb o=.tuple [.agg [.str s,.str t],.int .i64 e]:=by
 cases o with
 |none=>exact⟨_,_,_,rfl⟩
 |some q=>exact⟨_,_,_,rfl⟩
theorem Xi{a b:Rat}(ha:jW a)(hb:jW b)(h:Heap)(lo:Nat):(run lib).fn 119 [rt a,rt b] h lo=some (jb (sK a b),h):=by
 have s:=fun H lo=>afT (g:=135) (by decide) ha hb (z:=a.num*b.den-b.num*a.den) (fun h1 h2 H lo=>OA h1 h2 H lo) H lo
 rw[VH]at s;unfold sK;generalize (if nM (a.num*b.den)&&nM (b.num*a.den)&&nM (a.num*b.den-b.num*a.den)&&nM ((a.den:Int)*b.den)then some (a-b)else none)=o at*;obtain⟨s1,s2,e,he⟩:=OH o;rw[he]at s⊢;unfold rt bU at s⊢;rw[aY (x:=M7) rfl rfl rfl rfl];simp(maxSteps:=1000000)(disch:=omega)only[go_sem,M7,s]
theorem afU{n d:Int}(hn:Fit n)(hd:Fit d)(hn1:-9223372036854775808<=n/\n<=9223372036854775807)(hd1:-9223372036854775808<=d/\d<=9223372036854775807)(h:Heap)(lo:Nat):(run lib).fn 39 [.int .i64 n,.int .i64 d] h lo=some (jb (vS n d),h):=by
 have f1:=fun H lo=>WR hn1.1 hn1.2 H lo;have f2:=fun H lo=>WR hd1.1 hd1.2 H lo;have m:=fun H lo=>afL hn hd H lo;obtain⟨s1,s2,e,he⟩:=OH (vS n d);rw[he]at m⊢;rw[aY (x:=x39) rfl rfl rfl rfl];simp(maxSteps:=1000000)(disch:=omega)only[go_sem,x39,f1,f2,m]
end Go.VI.Dump
namespace Go.VI.Dump
open Go.VI.Num
theorem afV(x y:Int):(bR x y=-1/\x<y)\/(bR x y=0/\x=y)\/(bR x y=1/\y<x):=by
 unfold bR;by_cases h1:x<y
 ·rw[if_pos h1];omega
 ·rw[if_neg h1];by_cases h2:x=y
  ·rw[if_pos h2];omega
  ·rw[if_neg h2];omega
theorem afW(h:Heap):∀(k:Nat) (n d m c σ:Int),d.toNat<=k->0<d->0<c->Fit n->Fit d->Fit m->Fit c->(σ=1\/σ=-1)->∃ env' fr',fr'.length=2 /\
  aA lib ⟨h.length,h.length,2,none⟩ (.loop Mi) ([(2,.aJ (h.length+0) 1 0),(3,.aJ (h.length+1) 1 0),(5,.int .i64 σ)],h++[(1,.box [.str (aO n),.str (aO d)]),(1,.box [.str (aO m),.str (aO c)])]) =
   some (.ret,(env',h++fr'))/\env'.get 4=.int .i64 (σ*bR (n*c) (m*d)):=by
 intro k
 induction k with
 |zero=>intro n d m c σ h1 h2;omega
 |succ k ih =>
  intro n d m c σ hk hd hc fn fd fm fc hσ;have v1:=fun H lo=>OD fn fd (by omega) H lo
  have v2:=fun H lo=>OD fm fc (by omega) H lo
  unfold Cy at v1 v2;have fp:=Cw fn (show d≠0 by omega)
  have fq:=Cw fm (show c≠0 by omega)
  have fr:=Jv (x:=n) fd (by omega)
  have fs:=Jv (x:=m) fc (by omega)
  have cm:=fun H lo=>OB fp fq H lo;have ne:=aeL (n:=n) (m:=m) hd hc;have eq:=round_eq (n:=n) (d:=d) (m:=m) (c:=c);have r0:=Int.emod_nonneg n (show d≠0 by omega)
  have s0:=Int.emod_nonneg m (show c≠0 by omega)
  have r1:=Int.emod_lt_of_pos n hd;have s1:=Int.emod_lt_of_pos m hc;have cc:=afV (n/d) (m/c);generalize n/d=p at*;generalize m/c=q at*;generalize n%d=r at*;generalize m%c=s at*;rcases cc with⟨e,l⟩|⟨e,l⟩|⟨e,l⟩
  ·have e2:=ne (by omega)
   rw[e]at e2 cm;refine⟨[(4,.int .i64 (σ*-1))],[(1,.box [.str (aO n),.str (aO d)]),(1,.box [.str (aO m),.str (aO c)])],rfl, ?_,by rw[<-e2];rfl⟩
   rw[aR];rcases hσ with rfl|rfl
   ·simp(maxSteps:=1000000)(disch:=omega)only[go_sem,v1,v2,cm]
   ·simp(maxSteps:=1000000)(disch:=omega)only[go_sem,v1,v2,cm]
  ·have e2:=eq l;rw[e]at cm;by_cases hr:r=0
   ·subst hr;rw[rC]at v1;rw[Int.zero_mul]at e2;by_cases hs:s=0
    ·subst hs;rw[rC]at v2;refine⟨[(4,.int .i64 0)],[(1,.box [.str (aO n),.str (aO d)]),(1,.box [.str (aO m),.str (aO c)])],rfl, ?_,by rw[e2,Int.zero_mul,show bR 0 0=0 from rfl,Int.mul_zero];rfl⟩
     rw[aR];rcases hσ with rfl|rfl
     ·simp(maxSteps:=1000000)(disch:=omega)only[go_sem,v1,v2,cm]
     ·simp(maxSteps:=1000000)(disch:=omega)only[go_sem,v1,v2,cm]
    ·have hz:=FB hs;have hp:0<s*d:=Int.mul_pos (by omega) hd
     refine⟨[(4,.int .i64 (-σ))],[(1,.box [.str (aO n),.str (aO d)]),(1,.box [.str (aO m),.str (aO c)])],rfl, ?_,by rw[e2,show bR 0 (s*d)=-1 from if_pos hp,Int.mul_neg,Int.mul_one];rfl⟩
     rw[aR];rcases hσ with rfl|rfl
     ·simp(maxSteps:=1000000)(disch:=omega)only[go_sem,v1,v2,cm,hz]
     ·simp(maxSteps:=1000000)(disch:=omega)only[go_sem,v1,v2,cm,hz]
   ·have hy:=FB hr;by_cases hs:s=0
    ·subst hs;rw[rC]at v2;have hp:0<r*c:=Int.mul_pos (by omega) hc
     refine⟨[(4,.int .i64 σ)],[(1,.box [.str (aO n),.str (aO d)]),(1,.box [.str (aO m),.str (aO c)])],rfl, ?_,by rw[e2,Int.zero_mul,show bR (r*c) 0=1 from by unfold bR;rw[if_neg (by omega),if_neg (by omega)],Int.mul_one];rfl⟩
     rw[aR];rcases hσ with rfl|rfl
     ·simp(maxSteps:=1000000)(disch:=omega)only[go_sem,v1,v2,cm,hy]
     ·simp(maxSteps:=1000000)(disch:=omega)only[go_sem,v1,v2,cm,hy]
    ·have hz:=FB hs;obtain⟨env',fr',l',w',g'⟩:=ih d r c s (-σ) (by omega) (by omega) (by omega) fd fr fc fs (by omega)
     refine⟨env',fr',l', ?_, ?_⟩
     ·have hne1:¬ h.length+0=h.length+1:=by omega
      have hne2:¬ h.length+1=h.length+0:=by omega
      rw[aR];rcases hσ with rfl|rfl
      ·simp(maxSteps:=1000000)(disch:=omega)only[go_sem,v1,v2,cm,hy,hz,hne1,hne2];exact w'
      ·simp(maxSteps:=1000000)(disch:=omega)only[go_sem,v1,v2,cm,hy,hz,hne1,hne2];exact w'
     ·rw[g',e2,round_swap,Int.neg_mul_neg]
  ·have e2:=ne (by omega)
   rw[e]at e2 cm;refine⟨[(4,.int .i64 (σ*1))],[(1,.box [.str (aO n),.str (aO d)]),(1,.box [.str (aO m),.str (aO c)])],rfl, ?_,by rw[<-e2];rfl⟩
   rw[aR];rcases hσ with rfl|rfl
   ·simp(maxSteps:=1000000)(disch:=omega)only[go_sem,v1,v2,cm]
   ·simp(maxSteps:=1000000)(disch:=omega)only[go_sem,v1,v2,cm]
theorem Xj{a b:Rat}(ha:jW a)(hb:jW b)(h:Heap)(lo:Nat):(run lib).fn 42 [rt a,rt b] h lo=some (.int .i64 (lV a b),h):=by
 have va:=fun H lo=>Fy (aO a.num) (aO (a.den:Int)) H lo;have vb:=fun H lo=>Fy (aO b.num) (aO (b.den:Int)) H lo;rw[Aj ha]at va;rw[Aj hb]at vb;obtain⟨env',fr',l,w,g⟩:=afW h _ a.num (a.den:Int) b.num (b.den:Int) 1 (aV _) (by have:=a.den_pos;omega) (by have:=b.den_pos;omega) ha.1 (qf ha) hb.1 (qf hb) (.inl rfl)
 rw[Int.one_mul]at g;unfold lV;unfold rt bU at*;rw[aY (x:=Mj) rfl rfl rfl rfl];simp(maxSteps:=1000000)(disch:=omega)only[go_sem,Mj,va,vb,w,g]
end Go.VI.Dump
namespace Go.VI.Dump
open Go.VI.Num
end Go.VI.Dump
namespace Go.VI
theorem bytesOf_map:∀ l:List UInt8,bytesOf (l.map AV.byte)=some l
 |[]=>rfl
 |b::r=>by
  have hb:=b.toNat_lt;simp only[List.map_cons,AV.byte,bytesOf];have ih:=bytesOf_map r;rw[if_pos (by omega),ih]
  simp
theorem byte_of{n:Nat}(h:n<256):AV.byte (UInt8.ofNat n)=.int .u8 n:=by
 simp[AV.byte,UInt8.toNat_ofNat'];omega
end Go.VI
namespace Go.VI.Dump
open Go.VI.Num
theorem afX{l:List Int}(hl:l.length<=1000000)(cx:Cx)(H:Heap)(id:Nat)(hid:H[id]?=some (1,.arr 1 (ints l))):∀ k:Nat,k<=l.length ->
  aA lib cx (.loop yK) ([(0,.ref id 1 1 0 k l.length)],H)=some (.exit 0,([(0,.ref id 1 1 0 (jV l k) l.length)],H)):=by
 intro k
 induction k with
 |zero =>
  intro hk;rw[aR];have s3:jc false (.ref id 1 1 0 0 l.length)=some (.int .i64 0):=rfl;simp only[jV]
  simp(maxSteps:=1000000)(disch:=omega)only[go_sem,s3,dU]
 |succ k ih =>
  intro hk;have s3:jc false (.ref id 1 1 0 (k+1) l.length)=some (.int .i64 ((k:Int)+1)):=rfl;have c1:(0:Int)<(k:Int)+1:=by omega
  have e0:(k:Int)+1-1=k:=by omega
  have e3:bP 1 (.ref id 1 1 0 (k+1) l.length) (.int .i64 k)=some k:=by simp[bP,fe,iH,idx]
  have hg:l.getD k 0=l[k]:=by rw[jC,gM (by omega)];rfl
  have e4:eD H (.di (.ref id 1 1 0 (k+1) l.length) k 0)=some [.int .i64 l[k]]:=by
   have hb:k+1<=l.length:=hk;have hk':k<l.length:=by omega
   simp only[eD,dW,hid,fE];simp[hb,ints,AV.cells]
  have hsl:kg (some 1) (.ref id 1 1 0 (k+1) l.length) none (some (.int .i64 k))=some (.ref id 1 1 0 k l.length):=by
   have hb:bnd (some (.int .i64 k)) (k+1) (k+1)=some k:=by rw[BN (by omega) (by omega)];simp
   rw[Ic,hb];simp[bnd]
  have ih':=ih (by omega)
  simp only[jV,hg];rw[aR];by_cases c2:l[k]=0
  ·rw[if_pos c2];simp(maxSteps:=1000000)(disch:=omega)only[go_sem,s3,c1,e0,e3,e4,c2,hsl,ih']
  ·rw[if_neg c2];simp(maxSteps:=1000000)(disch:=omega)only[go_sem,s3,c1,e0,e3,e4,c2]
theorem afY{l:List Int}(hl:l.length<=1000000)(h:Heap)(id:Nat)(hid:h[id]?=some (1,.arr 1 (ints l)))(N:Nat)(hN:l.length=N)(lo:Nat):(run lib).fn 194 [.ref id 1 1 0 N N] h lo=some (.ref id 1 1 0 (dV l).length N,h):=by
 subst hN;have e:=fun cx=>afX hl cx h id hid l.length (aV _);have hlt:id<h.length:=(bO.mp hid).1
 have hg:∀ t N,eF h.length (.ref id 1 1 0 t N) h=some (.ref id 1 1 0 t N):=fun t N=>by
  simp[eF,give,aU,show ¬ h.length<=id by omega]
 have ht:(dV l).length=jV l l.length:=by
  have:=Cf l l.length;simp[dV];omega
 rw[aY (x:=uH) rfl rfl rfl rfl,ht];simp(maxSteps:=1000000)(disch:=omega)only[go_sem,uH,e,hg,Option.map_some]
theorem afZ(h:Heap)(lo:Nat):(run lib).fn 194 [.aD] h lo=some (.own 0 [],h):=by
 have s3:jc false .aD=some (.int .i64 0):=rfl
 have e:aA lib ⟨h.length,h.length,0,none⟩ (.loop yK) ([(0,.aD)],h)=some (.exit 0,([(0,.aD)],h)):=by
  rw[aR];simp(maxSteps:=1000000)(disch:=omega)only[go_sem,s3,dU]
 rw[aY (x:=uH) rfl rfl rfl rfl];simp(maxSteps:=1000000)(disch:=omega)only[go_sem,uH,e]
theorem af0{l:List Int}{k:Nat}(hk:k<l.length):jm (l.drop k)=jm (l.drop (k+1))++[UInt8.ofNat (48+l[k].toNat)]:=by
 rw[gY hk];simp only[jm,List.reverse_cons,List.map_append,List.map_singleton]
theorem Xk{v:AV}{l:List Int}{h:Heap}(hs:Sl h 1 v (ints l))(hd:Dg l)(hl:l.length<=100000)(pre:List UInt8)(V:List AV->AV)(F:List AV->Heap)
  (hF:∀(C:List UInt8) (x:AV),C.length<=100000->dP ⟨h.length,h.length,2,none⟩ 0 1 140737488355328 (V ((pre++C).map AV.byte)) [x] (h++F ((pre++C).map AV.byte))=some (V ((pre++C).map AV.byte++[x]),h++F ((pre++C).map AV.byte++[x]))):∀(k:Nat),k<=l.length ->
  aA lib ⟨h.length,h.length,2,none⟩ (.loop Nj) ([(1,v),(6,V ((pre++jm (l.drop k)).map AV.byte)),(7,.int .i64 ((k:Int)-1))],h++F ((pre++jm (l.drop k)).map AV.byte)) =
   some (.exit 0,([(1,v),(6,V ((pre++jm l).map AV.byte))],h++F ((pre++jm l).map AV.byte))):=by
 intro k
 induction k with
 |zero =>
  intro hk;have c1:¬ (0:Int)<=-1:=by omega
  rw[aR]
  simp(maxSteps:=1000000)(disch:=omega)only[go_sem,c1,Int.zero_sub,Int.reduceNeg]
 |succ k ih =>
  intro hk;have c1:(0:Int)<=(k:Int):=by omega
  have e0:(k:Int)+1-1=k:=by omega
  have hkl:k<l.length:=by omega
  have hs2:=fun fr=>hs.app fr;have e3:bP 1 v (.int .i64 k)=some k:=by rw[dz hs (by omega) (by simp;omega)];simp
  have e4:=fun off fr=>dx (off:=off) (hs2 fr).eO (show k<(ints l).length by simp;omega)
  simp only[lW]at e4;have hx:=hd l[k] (ja hkl);have k1:=ih (by omega)
  rw[af0 hkl,<-eH,List.map_append,List.map_singleton,byte_of (by omega)]at k1
  have hcl:(jm (l.drop (k+1))).length<=100000:=by simp[jm];omega
  generalize jm (l.drop (k+1))=C at*;have ea:=fun x:AV=>hF C x hcl;generalize (pre++C).map AV.byte=W at*;generalize l[k]=d at*;have ed:((48+d.toNat:Nat):Int)=48+d:=by omega
  rw[ed]at k1;rw[aR];simp(maxSteps:=1000000)(disch:=omega)only[go_sem,dF,e0,c1,e3,e4,ea,k1]
def OI(neg:Bool)(n:Nat):List UInt8:=if n=0 then[48]else if neg then 45::dec n else dec n
theorem af4(neg:Bool)(n:Nat):OI neg n=aO (iw neg n):=by
 unfold OI;by_cases h0:n=0
 ·subst h0;cases neg<;>rfl
 ·rw[if_neg h0]
  cases neg with
  |true =>
   unfold aO iw;rw[if_pos rfl,if_pos rfl,if_pos (by omega)]
   have:(-(n:Int)).natAbs=n:=by omega
   rw[this]
  |false =>
   unfold iw;rw[if_neg (by simp),if_neg (by simp),Ov]
theorem OJ{v:AV}{n:Nat}(neg:Bool){h:Heap}(hs:Sl h 1 v (ints (d10 n)))(hl:(d10 n).length<=100000)(lo:Nat) :
  (run lib).fn 143 [.bool neg,v] h lo=some (.tuple [.str (aO (iw neg n)),.bool (decide ((d10 n).length<=200))],h):=by
 have s1:=bK hs.len;rw[fE]at s1;rw[<-af4];unfold OI;by_cases h0:n=0
 ·subst h0;have e:((d10 0).length:Int)=0:=rfl;have e2:decide ((d10 0).length<=200)=true:=rfl;rw[e]at s1;rw[e2,if_pos rfl,aY (x:=BZ) rfl rfl rfl rfl];simp(maxSteps:=1000000)(disch:=omega)only[go_sem,BZ,s1]
 ·have hne:d10 n≠[]:=fun e=>h0 (Co.mp e);have hpos:=mR.mpr hne;have c0:¬ ((d10 n).length:Int)=0:=by omega
  have ce:decide (((d10 n).length:Int)<=200)=decide ((d10 n).length<=200):=by rw[decide_eq_decide];omega
  have hd:=vW n;rw[if_neg h0,aY (x:=BZ) rfl rfl rfl rfl]
  cases neg with
  |true =>
   have lp:=Xk hs hd hl [45] (fun W=>.ref (h.length+1) 1 1 0 W.length W.length) (fun W=>[(0,.dead),(1,.arr 1 W)]) (fun C x hC=>by
    have ea:=xB (cx:=⟨h.length,h.length,2,none⟩) (s:=0) (z:=1) (lim:=140737488355328) (id:=h.length+1) (aj:=1) (h:=h++[(0,.dead),(1,.arr 1 (([45]++C).map AV.byte))]) (es:=([45]++C).map AV.byte) (xs:=[x]) (by rw[bH];rfl) (by simp) (by simp;omega)
    rw[ea,eB];simp) (d10 n).length (aV _)
   rw[kQ (aV _),Fa h0]at lp
   have hap:dP ⟨h.length,h.length,2,none⟩ 1 1 140737488355328 .aD [.int .u8 45] (h++[(0,.dead),(0,.dead)])=some (.ref (h.length+1) 1 1 0 1 1,h++[(0,.dead),(1,.arr 1 [.int .u8 45])]):=by
    have:=jk (lo:=h.length) (ns:=2) (s:=1) (z:=1) (lim:=140737488355328) (h:=h) (fr:=[(0,.dead),(0,.dead)]) (b0:=(0,.dead)) (es:=[]) (xs:=[.int .u8 45]) (by omega) (aV _) rfl (by simp)
    exact this
   have hc0:([45]++jm []).map AV.byte=[AV.int .u8 45]:=rfl;rw[hc0]at lp;simp only[List.length_singleton]at lp
   have ts:jv (h++[(0,.dead),(1,.arr 1 (([45]++dec n).map AV.byte))]) 1 (.ref (h.length+1) 1 1 0 (([45]++dec n).map AV.byte).length (([45]++dec n).map AV.byte).length)=some (([45]++dec n).map AV.byte) :=
    (Sl.Er (h:=h) (fr:=[(0,.dead),(1,.arr 1 (([45]++dec n).map AV.byte))]) (s:=1) rfl).zW
   have hb:=bytesOf_map ([45]++dec n);have e45:[45]++dec n=45::dec n:=rfl;rw[e45]at lp ts hb;rw[if_pos rfl];generalize (45::dec n).map AV.byte=W at*
   simp(maxSteps:=1000000)(disch:=omega)only[go_sem,BZ,s1,c0,hap,lp,ts,hb,ce]
  |false =>
   have lp:=Xk hs hd hl [] (fun W=>bq (h.length+0) (0,.dead) 1 W) (fun W=>[aX (0,.dead) 1 W,(0,.dead)]) (fun C x hC =>
    jk (lo:=h.length) (ns:=2) (s:=0) (z:=1) (lim:=140737488355328) (h:=h) (fr:=[aX (0,.dead) 1 (([]++C).map AV.byte),(0,.dead)]) (b0:=(0,.dead)) (es:=([]++C).map AV.byte) (xs:=[x]) (by omega) (aV _) rfl (by simp;omega)) (d10 n).length (aV _)
   rw[kQ (aV _),Fa h0]at lp;have hc0:([]++jm []).map AV.byte=[]:=rfl;rw[hc0]at lp;simp only[oU,qO,List.nil_append]at lp
   have ts:jv (h++[aX (0,.dead) 1 ((dec n).map AV.byte),(0,.dead)]) 1 (bq (h.length+0) (0,.dead) 1 ((dec n).map AV.byte))=some ((dec n).map AV.byte) :=
    (Sl.acc (h:=h) (fr:=[aX (0,.dead) 1 ((dec n).map AV.byte),(0,.dead)]) (s:=0) rfl).zW
   have hb:=bytesOf_map (dec n);rw[if_neg (by simp)]
   generalize (dec n).map AV.byte=W at*;simp(maxSteps:=1000000)(disch:=omega)only[go_sem,BZ,s1,c0,lp,ts,hb,ce]
end Go.VI.Dump
namespace Go.VI.Dump
open Go.VI.Num
theorem af5(a b:Int):(aO a=aO b)=(a=b):=by rw[eq_iff_iff];exact⟨NU,fun e=>by rw[e]⟩
instance (z:Int):Decidable (Fit z):=inferInstanceAs (Decidable (_<_))
end Go.VI.Dump
namespace Go.VI.Dump
open Go.VI.Num
theorem getD_at{l:List Int}{k:Nat}(h:k<l.length):l.getD k 0=l[k]:=by rw[jC,gM h];rfl
theorem af6{v u:AV}{l m:List Int}(hv:bG 1 v (ints l))(hu:bG 1 u (ints m))(hl:l.length=m.length)(hm:m.length<=1000000)(cx:Cx)(H:Heap):∀ k:Nat,k<=l.length ->
  (qV l m k=0/\aA lib cx (.loop Cb) ([(0,v),(1,u),(5,.int .i64 ((k:Int)-1))],H)=some (.exit 0,([],H))) \/
  aA lib cx (.loop Cb) ([(0,v),(1,u),(5,.int .i64 ((k:Int)-1))],H)=some (.ret,([(4,.int .i64 (qV l m k))],H)):=by
 intro k
 induction k with
 |zero =>
  intro hk;have c1:¬ (0:Int)<=-1:=by omega
  refine .inl ⟨rfl, ?_⟩;rw[aR]
  simp(maxSteps:=1000000)(disch:=omega)only[go_sem,c1,Int.zero_sub,Int.reduceNeg]
 |succ k ih =>
  intro hk;have c1:(0:Int)<=(k:Int):=by omega
  have e0:(k:Int)+1-1=k:=by omega
  have hkl:k<l.length:=by omega
  have hkm:k<m.length:=by omega
  have a3:bP 1 v (.int .i64 k)=some k:=by rw[dz (hv.sl H) (by omega) (by simp;omega)];simp
  have b3:bP 1 u (.int .i64 k)=some k:=by rw[dz (hu.sl H) (by omega) (by simp;omega)];simp
  have a4:=fun off=>dx (off:=off) (hv.sl H).eO (show k<(ints l).length by simp;omega)
  have b4:=fun off=>dx (off:=off) (hu.sl H).eO (show k<(ints m).length by simp;omega)
  simp only[lW]at a4 b4;have ih':=ih (by omega)
  simp only[qV,getD_at hkl,getD_at hkm];generalize l[k]=x at*;generalize m[k]=y at*;by_cases c:x=y
  ·rw[if_pos c];subst c
   have st:aA lib cx (.loop Cb) ([(0,v),(1,u),(5,.int .i64 (((k+1:Nat):Int)-1))],H)=aA lib cx (.loop Cb) ([(0,v),(1,u),(5,.int .i64 ((k:Int)-1))],H):=by
    rw[aR];simp(maxSteps:=1000000)(disch:=omega)only[go_sem,dF,e0,c1,a3,b3,a4,b4,ne_eq,not_true_eq_false]
   rw[st];exact ih'
  ·rw[if_neg c];right;by_cases c2:x<y
   ·rw[if_pos c2,aR];simp(maxSteps:=1000000)(disch:=omega)only[go_sem,dF,e0,c1,a3,b3,a4,b4,c,c2]
   ·rw[if_neg c2,aR];simp(maxSteps:=1000000)(disch:=omega)only[go_sem,dF,e0,c1,a3,b3,a4,b4,c,c2]
theorem FE{v u:AV}{a b:Nat}(hv:bG 1 v (ints (d10 a)))(hu:bG 1 u (ints (d10 b)))(ha:(d10 a).length<=100000)(hb:(d10 b).length<=100000)(h:Heap)(lo:Nat) :
  (run lib).fn 168 [v,u] h lo=some (.int .i64 (bR a b),h):=by
 rw[<-aeY];have s1:=bK (hv.sl []).len;have s2:=bK (hu.sl []).len;rw[fE]at s1 s2;unfold cmpL;rw[aY (x:=x168) rfl rfl rfl rfl];by_cases hl:(d10 a).length=(d10 b).length
 ·have c1:((d10 a).length:Int)=(d10 b).length:=by omega
  rw[if_pos hl];rcases af6 hv hu hl (by omega) ⟨h.length,h.length,0,none⟩ h (d10 a).length (aV _) with⟨k1,k2⟩|k2
  ·rw[k1];rw[c1]at k2 s1;simp(maxSteps:=1000000)(disch:=omega)only[go_sem,x168,s1,s2,ne_eq,not_true_eq_false,k2]
  ·rw[c1]at k2 s1;simp(maxSteps:=1000000)(disch:=omega)only[go_sem,x168,s1,s2,ne_eq,not_true_eq_false,k2]
 ·have c1:¬ ((d10 a).length:Int)=(d10 b).length:=by omega
  rw[if_neg hl];by_cases c2:(d10 a).length<(d10 b).length
  ·have c3:((d10 a).length:Int)<(d10 b).length:=by omega
   rw[if_pos c2];simp(maxSteps:=1000000)(disch:=omega)only[go_sem,x168,s1,s2,c1,c3]
  ·have c3:¬ ((d10 a).length:Int)<(d10 b).length:=by omega
   rw[if_neg c2];simp(maxSteps:=1000000)(disch:=omega)only[go_sem,x168,s1,s2,c1,c3]
theorem af7{v u:AV}{l m:List Int}(hv:bG 1 v (ints l))(hu:bG 1 u (ints m))(hl:l.length<=100000)(hm:m.length<=100000)(h:Heap):∀(f A B c i:Nat) (acc:List Int),A+B+c<=f->c<=1->l.drop i=d10 A->m.drop i=d10 B->acc.length=i->(c≠0->i<=max l.length m.length) ->
  aA lib ⟨h.length,h.length,1,none⟩ (.loop IJ) ([(0,v),(1,u),(5,bq (h.length+0) (0,.dead) 1 (ints acc)),(6,.int .i64 c),(7,.int .i64 i)],h++[aX (0,.dead) 1 (ints acc)]) =
   some (.exit 0,([(5,bq (h.length+0) (0,.dead) 1 (ints (acc++sQ f A B c)))],h++[aX (0,.dead) 1 (ints (acc++sQ f A B c))])):=by
 have s1:=bK (hv.sl []).len;have s2:=bK (hu.sl []).len;rw[fE]at s1 s2;intro f
 induction f with
 |zero =>
  intro A B c i acc h1 h2 h3 h4 h5 h6;have a1:¬ (i:Int)<l.length:=by have:=o5 h3;omega
  have a2:¬ (i:Int)<m.length:=by have:=o5 h4;omega
  have a3:c=0:=by omega
  subst a3;rw[aR];simp only[sQ,gP]
  simp(maxSteps:=1000000)(disch:=omega)only[go_sem,s1,s2,a1,a2,dU]
 |succ f ih =>
  intro A B c i acc h1 h2 h3 h4 h5 h6;by_cases hst:A=0/\B=0/\c=0
  ·have a1:¬ (i:Int)<l.length:=by have:=o5 h3;omega
   have a2:¬ (i:Int)<m.length:=by have:=o5 h4;omega
   have a3:c=0:=hst.2.2;subst a3;rw[aR];simp only[sQ,hst,and_self,if_true,gP];simp(maxSteps:=1000000)(disch:=omega)only[go_sem,s1,s2,a1,a2,dU]
  ·have hil:A≠0->i<l.length:=(o5 h3).mpr;have him:B≠0->i<m.length:=(o5 h4).mpr
   have hi:i<=100000:=by
    by_cases cA:A=0
    ·by_cases cB:B=0
     ·have:=h6 (by omega);omega
     ·have:=him cB;omega
    ·have:=hil cA;omega
   have key:∀(x y:Int),x=((A%10+B%10+c)%10:Nat)->y=((A%10+B%10+c)/10:Nat)->aA lib ⟨h.length,h.length,1,none⟩ (.loop IJ) ([(0,v),(1,u),(5,bq (h.length+0) (0,.dead) 1 (ints acc++[.int .i64 x])),(6,.int .i64 y),(7,.int .i64 ((i:Int)+1))],h++[aX (0,.dead) 1 (ints acc++[.int .i64 x])]) =
     some (.exit 0,([(5,bq (h.length+0) (0,.dead) 1 (ints (acc++sQ (f+1) A B c)))],h++[aX (0,.dead) 1 (ints (acc++sQ (f+1) A B c))])):=fun x y hx hy=>by
    have k:=ih (A/10) (B/10) ((A%10+B%10+c)/10) (i+1) (acc++[x]) (by omega) (by omega) (Cs h3) (Cs h4) (by simp[h5]) (fun hc=>by
     by_cases cA:A=0
     ·by_cases cB:B=0
      ·omega
      ·have:=him cB;omega
     ·have:=hil cA;omega)
    have e:acc++sQ (f+1) A B c=acc++[x]++sQ f (A/10) (B/10) ((A%10+B%10+c)/10):=by simp only[sQ,hst,if_false,hx];simp
    rw[e];rw[Au acc [x],Av,dF,<-hy]at k;exact k
   have ea:=fun x:Int=>jk (lo:=h.length) (ns:=1) (s:=0) (z:=1) (lim:=17592186044416) (h:=h) (fr:=[aX (0,.dead) 1 (ints acc)]) (b0:=(0,.dead)) (es:=ints acc) (xs:=[.int .i64 x]) (by omega) (aV _) rfl (by simp;omega)
   simp only[List.set_cons_zero]at ea;rw[aR];by_cases cA:A=0
   ·have a1:¬ (i:Int)<l.length:=by have:=o5 h3;omega
    by_cases cB:B=0
    ·have a2:¬ (i:Int)<m.length:=by have:=o5 h4;omega
     have a3:(0:Int)<(c:Int):=by omega
     have k:=key ((c:Int)%10) ((c:Int)/10) (by omega) (by omega)
     simp(maxSteps:=1000000)(disch:=omega)only[go_sem,s1,s2,a1,a2,a3,ea,k]
    ·have hi2:=him cB;have a2:(i:Int)<m.length:=by omega
     have e3:bP 1 u (.int .i64 i)=some i:=by rw[dz (hu.sl []) (by omega) (by simp;omega)];simp
     have e4:=fun off H=>dx (off:=off) (hu.sl H).eO (show i<(ints m).length by simp;omega)
     simp only[lW,(Cr h4 cB hi2).1]at e4;have k:=key (((c:Int)+((B%10:Nat):Int))%10) (((c:Int)+((B%10:Nat):Int))/10) (by omega) (by omega)
     have hq:B%10<=9:=by omega
     generalize B%10=q at*;simp(maxSteps:=1000000)(disch:=omega)only[go_sem,s1,s2,a1,a2,e3,e4,ea,k]
   ·have hi1:=hil cA;have a1:(i:Int)<l.length:=by omega
    have e3:bP 1 v (.int .i64 i)=some i:=by rw[dz (hv.sl []) (by omega) (by simp;omega)];simp
    have e4:=fun off H=>dx (off:=off) (hv.sl H).eO (show i<(ints l).length by simp;omega)
    simp only[lW,(Cr h3 cA hi1).1]at e4;by_cases cB:B=0
    ·have a2:¬ (i:Int)<m.length:=by have:=o5 h4;omega
     have k:=key (((c:Int)+((A%10:Nat):Int))%10) (((c:Int)+((A%10:Nat):Int))/10) (by omega) (by omega)
     have hp:A%10<=9:=by omega
     generalize A%10=p at*;simp(maxSteps:=1000000)(disch:=omega)only[go_sem,s1,s2,a1,a2,e3,e4,ea,k]
    ·have hi2:=him cB;have a2:(i:Int)<m.length:=by omega
     have b3:bP 1 u (.int .i64 i)=some i:=by rw[dz (hu.sl []) (by omega) (by simp;omega)];simp
     have b4:=fun off H=>dx (off:=off) (hu.sl H).eO (show i<(ints m).length by simp;omega)
     simp only[lW,(Cr h4 cB hi2).1]at b4;have k:=key (((c:Int)+((A%10:Nat):Int)+((B%10:Nat):Int))%10) (((c:Int)+((A%10:Nat):Int)+((B%10:Nat):Int))/10) (by omega) (by omega)
     have hp:A%10<=9:=by omega
     have hq:B%10<=9:=by omega
     generalize A%10=p at*;generalize B%10=q at*;simp(maxSteps:=1000000)(disch:=omega)only[go_sem,s1,s2,a1,a2,e3,e4,b3,b4,ea,k]
theorem Xl{v u:AV}{a b:Nat}(hv:bG 1 v (ints (d10 a)))(hu:bG 1 u (ints (d10 b)))(ha:(d10 a).length<=100000)(hb:(d10 b).length<=100000)(h:Heap)(lo:Nat) :
  (run lib).fn 172 [v,u] h lo=some (eP 1 (ints (d10 (a+b))),h):=by
 have lp:=af7 hv hu ha hb h (a+b+0) a b 0 0 [] (aV _) (by omega) (List.drop_zero) (List.drop_zero) rfl (fun h=>absurd rfl h)
 rw[Wm _ _ _ _ (aV _),show a+b+0=a+b from rfl,List.nil_append]at lp
 have i0:bq (h.length+0) (0,.dead) 1 (ints [])=.aD:=rfl;have j0:aX (0,.dead) 1 (ints [])=(0,.dead):=rfl;rw[i0,j0]at lp;simp only[fH]at lp;have hg:=Ev (h:=h) (fr:=[aX (0,.dead) 1 (ints (d10 (a+b)))]) (s:=0) (z:=1) (b0:=(0,.dead)) (es:=ints (d10 (a+b))) rfl;rw[aY (x:=Nz) rfl rfl rfl rfl];simp(maxSteps:=1000000)(disch:=omega)only[go_sem,Nz,lp,hg,Option.map_some]
theorem OL(l:List Int):bG 1 (dw (eP 1 (ints l))) (ints l):=by
 rw[H8];unfold dG;split
 ·rename_i h;rw[h];exact .inr ⟨0,.inl rfl,.inr rfl⟩
 ·exact vZ l
end Go.VI.Dump
namespace Go.VI.Dump
open Go.VI.Num
theorem af8{v u:AV}{l m:List Int}(hv:bG 1 v (ints l))(hu:bG 1 u (ints m))(hl:l.length<=100000)(hm:m.length<=100000)(h:Heap)(D:Nat×av):∀(f A B c i:Nat) (acc:List Int),A<=f->c<=1->l.drop i=d10 A->m.drop i=d10 B->acc.length=i->i<=l.length ->
  aA lib ⟨h.length,h.length,2,none⟩ (.loop ER) ([(0,v),(1,u),(5,bq (h.length+1) (0,.dead) 1 (ints acc)),(6,.int .i64 c),(7,.int .i64 i)],h++[D,aX (0,.dead) 1 (ints acc)]) =
   some (.exit 0,([(5,bq (h.length+1) (0,.dead) 1 (ints (acc++kH f A B c)))],h++[D,aX (0,.dead) 1 (ints (acc++kH f A B c))])):=by
 have s1:=bK (hv.sl []).len;have s2:=bK (hu.sl []).len;rw[fE]at s1 s2;intro f
 induction f with
 |zero =>
  intro A B c i acc h1 h2 h3 h4 h5 h6;have a1:¬ (i:Int)<l.length:=by have:=o5 h3;omega
  rw[aR];simp only[kH,gP]
  simp(maxSteps:=1000000)(disch:=omega)only[go_sem,s1,a1]
 |succ f ih =>
  intro A B c i acc h1 h2 h3 h4 h5 h6;by_cases cA:A=0
  ·have a1:¬ (i:Int)<l.length:=by have:=o5 h3;omega
   rw[aR];simp only[kH,cA,if_true,gP];simp(maxSteps:=1000000)(disch:=omega)only[go_sem,s1,a1]
  ·have hi1:=(o5 h3).mpr cA;have him:B≠0->i<m.length:=(o5 h4).mpr;have a1:(i:Int)<l.length:=by omega
   have e3:bP 1 v (.int .i64 i)=some i:=by rw[dz (hv.sl []) (by omega) (by simp;omega)];simp
   have e4:=fun off H=>dx (off:=off) (hv.sl H).eO (show i<(ints l).length by simp;omega)
   simp only[lW,(Cr h3 cA hi1).1]at e4;have hp:A%10<=9:=by omega
   have hq:B%10<=9:=by omega
   have OM:∀(x:Int),A%10<c+B%10->x=(A%10+10-c-B%10:Nat)->aA lib ⟨h.length,h.length,2,none⟩ (.loop ER) ([(0,v),(1,u),(5,bq (h.length+1) (0,.dead) 1 (ints acc++[.int .i64 x])),(6,.int .i64 1),(7,.int .i64 ((i:Int)+1))],h++[D,aX (0,.dead) 1 (ints acc++[.int .i64 x])]) =
     some (.exit 0,([(5,bq (h.length+1) (0,.dead) 1 (ints (acc++kH (f+1) A B c)))],h++[D,aX (0,.dead) 1 (ints (acc++kH (f+1) A B c))])):=fun x hc hx=>by
    have k:=ih (A/10) (B/10) 1 (i+1) (acc++[x]) (by omega) (by omega) (Cs h3) (Cs h4) (by simp[h5]) (by omega)
    have e:acc++kH (f+1) A B c=acc++[x]++kH f (A/10) (B/10) 1:=by simp only[kH,cA,hc,if_false,if_true,hx];simp
    rw[e];rw[Au acc [x],Av,dF]at k;exact k
   have OO:∀(x:Int),¬ A%10<c+B%10->x=(A%10-c-B%10:Nat)->aA lib ⟨h.length,h.length,2,none⟩ (.loop ER) ([(0,v),(1,u),(5,bq (h.length+1) (0,.dead) 1 (ints acc++[.int .i64 x])),(6,.int .i64 0),(7,.int .i64 ((i:Int)+1))],h++[D,aX (0,.dead) 1 (ints acc++[.int .i64 x])]) =
     some (.exit 0,([(5,bq (h.length+1) (0,.dead) 1 (ints (acc++kH (f+1) A B c)))],h++[D,aX (0,.dead) 1 (ints (acc++kH (f+1) A B c))])):=fun x hc hx=>by
    have k:=ih (A/10) (B/10) 0 (i+1) (acc++[x]) (by omega) (by omega) (Cs h3) (Cs h4) (by simp[h5]) (by omega)
    have e:acc++kH (f+1) A B c=acc++[x]++kH f (A/10) (B/10) 0:=by simp only[kH,cA,hc,if_false,hx];simp
    rw[e];rw[Au acc [x],Av,dF]at k;exact k
   have ea:=fun x:Int=>jk (lo:=h.length) (ns:=2) (s:=1) (z:=1) (lim:=17592186044416) (h:=h) (fr:=[D,aX (0,.dead) 1 (ints acc)]) (b0:=(0,.dead)) (es:=ints acc) (xs:=[.int .i64 x]) (by omega) (aV _) rfl (by simp;omega)
   simp only[List.set_cons_zero,List.set_cons_succ]at ea;rw[aR];by_cases cB:B=0
   ·have a2:¬ (i:Int)<m.length:=by have:=o5 h4;omega
    have b0:B%10=0:=by omega
    rw[b0]at OM OO;generalize A%10=p at*;by_cases cc:p<c+0
    ·have c2:(p:Int)-c<0:=by omega
     have k:=OM ((p:Int)-c+10) cc (by omega)
     simp(maxSteps:=1000000)(disch:=omega)only[go_sem,s1,s2,a1,a2,e3,e4,c2,ea,k]
    ·have c2:¬ (p:Int)-c<0:=by omega
     have k:=OO ((p:Int)-c) cc (by omega)
     simp(maxSteps:=1000000)(disch:=omega)only[go_sem,s1,s2,a1,a2,e3,e4,c2,ea,k]
   ·have hi2:=him cB;have a2:(i:Int)<m.length:=by omega
    have b3:bP 1 u (.int .i64 i)=some i:=by rw[dz (hu.sl []) (by omega) (by simp;omega)];simp
    have b4:=fun off H=>dx (off:=off) (hu.sl H).eO (show i<(ints m).length by simp;omega)
    simp only[lW,(Cr h4 cB hi2).1]at b4;generalize A%10=p at*;generalize B%10=q at*;by_cases cc:p<c+q
    ·have c2:(p:Int)-c-q<0:=by omega
     have k:=OM ((p:Int)-c-q+10) cc (by omega)
     simp(maxSteps:=1000000)(disch:=omega)only[go_sem,s1,s2,a1,a2,e3,e4,b3,b4,c2,ea,k]
    ·have c2:¬ (p:Int)-c-q<0:=by omega
     have k:=OO ((p:Int)-c-q) cc (by omega)
     simp(maxSteps:=1000000)(disch:=omega)only[go_sem,s1,s2,a1,a2,e3,e4,b3,b4,c2,ea,k]
def wz(l:List Int):AV:=if (dV l).length=l.length then .own 1 (ints (dV l))else .aN 1 (ints (dV l))
theorem OP(l:List Int):dw (wz l)=.aN 1 (ints (dV l)):=by unfold wz;split<;>rfl
theorem af9(l:List Int):weak (wz l)=.aN 1 (ints (dV l)):=by unfold wz;split<;>rfl
theorem af'(l:List Int):l.take (dV l).length=dV l:=by
 unfold dV;rw[jA,ul (Cf _ _)]
theorem aga(l:List Int):(dV l).length<=l.length:=by simp[dV];omega
theorem Xm{h fr:Heap}{s aj:Nat}{l:List Int}(hf:fr[s]?=some (aj,.arr 1 (ints l))) :
  give h.length (.ref (h.length+s) aj 1 0 (dV l).length l.length) (h++fr)=some (wz l,h++fr.set s (aj,.dead)):=by
 have hg:(h++fr)[h.length+s]?=some (aj,.arr 1 (ints l)):=by rw[bH];exact hf
 have ht:=aga l
 have ha:dW (h++fr) (.ref (h.length+s) aj 1 0 (dV l).length l.length)=some (ints (dV l)):=by
  have e:(ints l).take (dV l).length=ints (dV l):=by simp only[ints,<-List.map_take,af']
  simp[dW,hg,ht,e]
 unfold wz;by_cases c:(dV l).length=l.length
 ·rw[if_pos c];rw[c]at ha⊢;simp only[give,ha];simp
 ·rw[if_neg c];simp only[give];rw[if_neg (by omega)]
  simp[aU,ha]
theorem agb{h fr:Heap}{s aj:Nat}{l:List Int}(hf:fr[s]?=some (aj,.arr 1 (ints l))) :
  eF h.length (.ref (h.length+s) aj 1 0 (dV l).length l.length) (h++fr)=some (wz l):=by
 have:=Xm (h:=h) hf;simp only[eF];rw[this];rfl
theorem Xo{h fr:Heap}{s:Nat}{l:List Int}(hl:l.length<=1000000)(hf:fr[s]?=some (1,.arr 1 (ints l)))(lo:Nat):(run lib).fn 194 [.ref (h.length+s) 1 1 0 l.length l.length] (h++fr) lo=some (.ref (h.length+s) 1 1 0 (dV l).length l.length,h++fr) :=
 afY hl _ (h.length+s) (by rw[bH];exact hf) l.length rfl lo
theorem JA{v u:AV}{a b:Nat}(hv:bG 1 v (ints (d10 a)))(hu:bG 1 u (ints (d10 b)))(hab:b<=a)(ha:(d10 a).length<=100000)(hb:(d10 b).length<=100000) :
  ∃ X:AV,bG 1 (dw X) (ints (d10 (a-b)))/\weak X=dw X/\∀(h:Heap) (lo:Nat),(run lib).fn 173 [v,u] h lo=some (X,h):=by
 obtain⟨k1,k2⟩:=Oc a a b 0 (aV _) (by omega) (by omega)
 have htr:=Oa k2;rw[k1,qW,Nat.sub_zero]at htr;have hml:=Od a a b 0;have lp:=fun h D=>af8 hv hu ha hb h D a a b 0 0 [] (aV _) (by omega) (List.drop_zero) (List.drop_zero) rfl (pF _)
 simp only[List.nil_append,fH]at lp;have i0:∀ h:Heap,bq (h.length+1) (0,.dead) 1 (ints [])=.aD:=fun _=>rfl;have j0:aX (0,.dead) 1 (ints [])=(0,.dead):=rfl;simp only[i0,j0]at lp;generalize kH a a b 0=M at*;by_cases hM:M=[]
 ·subst hM;refine⟨.aN 0 [], ?_,rfl,fun h lo=>?_⟩
  ·rw[<-htr];exact .inr ⟨0,.inl rfl,.inr rfl⟩
  ·have wk:weak (.own 0 [])=.aN 0 []:=rfl;have kU:=lp h (0,.dead);rw[i0,j0]at kU;rw[aY (x:=ES) rfl rfl rfl rfl];simp(maxSteps:=1000000)(disch:=omega)only[go_sem,ES,kU,afZ,wk]
 ·have Xp:ints M≠[]:=by intro e;exact hM (by simpa[ints]using e)
  refine⟨wz M,by rw[OP,htr];exact vZ _,by rw[af9,OP],fun h lo=>?_⟩
  have kU:=lp h (0,.dead);simp only[kF Xp,lq Xp,fE]at kU;have tr:=fun lo=>Xo (h:=h) (fr:=[(0,.dead),(0+1,.arr 1 (ints M))]) (s:=1) (l:=M) (by omega) rfl lo
  have gv:=agb (h:=h) (fr:=[(0,.dead),(0+1,.arr 1 (ints M))]) (s:=1) (aj:=1) (l:=M) rfl;rw[aY (x:=ES) rfl rfl rfl rfl];simp(maxSteps:=1000000)(disch:=omega)only[go_sem,ES,kU,tr,gv,Option.map_some]
end Go.VI.Dump
namespace Go.VI.Num
def uX(l:List UInt8):Bool:=l.all fun c=>decide (48<=c.toNat)&&decide (c.toNat<=57)
theorem agc{l:List UInt8}:uX l=true↔oF l:=by
 unfold uX oF uK;simp
theorem agd(l:List UInt8):(Lib.trimS l ds).isEmpty=uX l:=by
 rw[Bool.eq_iff_iff,agc,rX,NQ]
end Go.VI.Num
namespace Go.VI.Dump
open Go.VI.Num
theorem agf{d:List UInt8}(hl:d.length<=9223372036854775807)(cx:Cx)(H:Heap):∀(k i:Nat),d.length-i<=k->i<=d.length ->
  aA lib cx (.loop Nf) ([(0,.str d),(3,.int .i64 i)],H)=if uX (d.drop i)=true then some (.exit 0,([(0,.str d)],H))else some (.ret,([(2,.bool false)],H)):=by
 intro k
 induction k with
 |zero =>
  intro i h1 h2;obtain rfl:i=d.length:=by omega
  rw[kQ (aV _),if_pos (show uX []=true from rfl),aR]
  simp(maxSteps:=1000000)(disch:=omega)only[go_sem,dU]
 |succ k ih =>
  intro i h1 h2;rcases Nat.lt_or_eq_of_le h2 with c|rfl
  ·have c1:(i:Int)<d.length:=by omega
   have hx:=WG (k:=.i64) c;have ih':=ih (i+1) (by omega) (by omega)
   rw[dF]at ih'
   have e:uX (d.drop i)=((decide (48<=d[i].toNat)&&decide (d[i].toNat<=57))&&uX (d.drop (i+1))):=by
    rw[gY c];rfl
   rw[e];generalize d[i].toNat=x at*;by_cases g1:48<=x
   ·have n1:¬ (x:Int)<48:=by omega
    rw[decide_eq_true g1];by_cases g2:x<=57
    ·have n2:¬ (57:Int)<x:=by omega
     rw[decide_eq_true g2,aR];simp(maxSteps:=1000000)(disch:=omega)only[go_sem,c1,hx,n1,n2,ih']
    ·have n2:(57:Int)<x:=by omega
     rw[decide_eq_false g2,aR];simp(maxSteps:=1000000)(disch:=omega)only[go_sem,c1,hx,n1,n2]
   ·have n1:(x:Int)<48:=by omega
    rw[decide_eq_false g1,aR];simp(maxSteps:=1000000)(disch:=omega)only[go_sem,c1,hx,n1]
  ·rw[kQ (aV _),if_pos (show uX []=true from rfl),aR]
   simp(maxSteps:=1000000)(disch:=omega)only[go_sem,dU]
theorem wB{s:List UInt8}(hs:s.length<=9223372036854775807)(h:Heap)(lo:Nat):(run lib).fn 138 [.str s] h lo=some (.bool (qX s),h):=by
 have lp:=fun(d:List UInt8) (hd:d.length<=9223372036854775807)=>agf hd ⟨h.length,h.length,0,none⟩ h d.length 0 (by omega) (pF _)
 simp only[List.drop_zero,fH]at lp;unfold qX;rw[agd]
 cases s with
 |nil =>
  have e:body []=[]:=rfl;have kU:=lp [] (by simp)
  have e2:uX []=true:=rfl;rw[e2,if_pos rfl]at kU;rw[e,aY (x:=pY) rfl rfl rfl rfl]
  simp(maxSteps:=1000000)(disch:=omega)only[go_sem,pY,dU,kU,List.isEmpty_nil]
 |cons c r =>
  have hx:=fun H=>Fs (k:=.i64) c r H;have p1:(0:Int)<(r.length:Int)+1:=by omega
  simp only[List.length_cons]at hs;by_cases hc:c=45
  ·subst hc;rw[IX];have e45:((45:UInt8).toNat:Int)=45:=rfl
   have sl:kg none (.str (45::r)) (some (.int .i64 1)) none=some (.str r):=by
    have:=Ot (k:=.i64) (l:=45::r) (i:=1) (by simp)
    exact this
   have hne:((45::r)==[48])=false:=rfl;rw[hne,Bool.false_or];have kU:=lp r (by omega)
   rw[aY (x:=pY) rfl rfl rfl rfl];by_cases h0:r=[48]
   ·subst h0;simp(maxSteps:=1000000)(disch:=omega)only[go_sem,pY,dF,hx,e45,sl];rfl
   ·cases hA:uX r with
    |false =>
     rw[hA,if_neg (by simp)]at kU
     simp(maxSteps:=1000000)(disch:=omega)only[go_sem,pY,dF,p1,hx,e45,sl,h0,kU]
    |true =>
     rw[hA,if_pos rfl]at kU
     cases r with
     |nil =>
      simp(maxSteps:=1000000)(disch:=omega)only[go_sem,pY,dF,hx,e45,sl,h0,kU,dU,List.isEmpty_nil]
     |cons a b =>
      have hx2:=fun H=>Fs (k:=.i64) a b H;have p2:(0:Int)<(b.length:Int)+1:=by omega
      have p3:(0:Int)<(b.length:Int)+1+1:=by omega
      have e3:((a::b).head?==some 48)=decide (a=48):=by rw[xL];simp
      have e4:decide (((a.toNat:Nat):Int)=48)=decide (a=48):=by
       rw[decide_eq_decide,<-UInt8.toNat_inj];have:(48:UInt8).toNat=48:=rfl;omega
      have ie:(a::b).isEmpty=false:=rfl;have dl:decide ((b.length:Int)+1<=200)=decide (b.length+1<=200):=by rw[decide_eq_decide];omega
      rw[e3,ie];by_cases g:b.length+1<=200
      ·have g1:(b.length:Int)+1<=200:=by omega
       simp(maxSteps:=1000000)(disch:=omega)only[go_sem,pY,dF,hx,e45,sl,h0,kU,p2,p3,hx2,g1,g];simp[<-e4]
      ·have g1:¬ (b.length:Int)+1<=200:=by omega
       simp(maxSteps:=1000000)(disch:=omega)only[go_sem,pY,dF,hx,e45,sl,h0,kU,p2,p3,g1,g]
  ·have hb:body (c::r)=c::r:=NR (by simpa using hc)
   have e45:¬ ((c.toNat:Nat):Int)=45:=by
    intro e;apply hc;rw[<-UInt8.toNat_inj];have:(45:UInt8).toNat=45:=rfl;omega
   have kU:=lp (c::r) (by simpa using hs)
   have hsx:((c::r)==[48])=decide (c::r=[48]):=xL _ _;rw[hb,hsx,aY (x:=pY) rfl rfl rfl rfl]
   cases hA:uX (c::r) with
   |false =>
    rw[hA,if_neg (by simp)]at kU
    simp(maxSteps:=1000000)(disch:=omega)only[go_sem,pY,dF,p1,hx,e45,kU]
   |true =>
    rw[hA,if_pos rfl]at kU;have e3:((c::r).head?==some 48)=decide (c=48):=by rw[xL];simp
    have e4:decide (((c.toNat:Nat):Int)=48)=decide (c=48):=by
     rw[decide_eq_decide,<-UInt8.toNat_inj];have:(48:UInt8).toNat=48:=rfl;omega
    have ie:(c::r).isEmpty=false:=rfl;rw[e3,ie];by_cases g:r.length+1<=200
    ·have g1:(r.length:Int)+1<=200:=by omega
     by_cases h0:c::r=[48]
     ·obtain⟨rfl,rfl⟩:=List.cons.inj h0;have lz:¬ (200:Int)<0:=by omega
      simp(maxSteps:=1000000)(disch:=omega)only[go_sem,pY,dF,hx,e45,kU,Int.zero_add]
     ·simp(maxSteps:=1000000)(disch:=omega)only[go_sem,pY,dF,p1,hx,e45,kU,g1,g,h0];simp[<-e4]
    ·have g1:¬ (r.length:Int)+1<=200:=by omega
     simp(maxSteps:=1000000)(disch:=omega)only[go_sem,pY,dF,p1,hx,e45,kU,g1,g]
end Go.VI.Dump
namespace Go.VI.Num
theorem agh(l:List Int):(jm l).length=l.length:=by simp[jm]
theorem agi{l:List Int}{i:Nat}(hi:i<(jm l).length)(hj:l.length-1-i<l.length):(jm l)[i]=UInt8.ofNat (48+l[l.length-1-i].toNat):=by
 simp only[jm,List.getElem_map,List.getElem_reverse]
end Go.VI.Num
namespace Go.VI.Dump
open Go.VI.Num
theorem agj{l:List Int}(hd:Dg l)(hl:l.length<=1000)(b:Bool)(hne:¬ jm l=[48])(h:Heap):∀ k:Nat,k<=l.length ->
  aA lib ⟨h.length,h.length,1,none⟩ (.loop IG) ([(0,.str (jm l)),(4,.bool b),(5,bq (h.length+0) (0,.dead) 1 (ints (l.take (l.length-k)))),(6,.int .i64 ((k:Int)-1))],h++[aX (0,.dead) 1 (ints (l.take (l.length-k)))]) =
   some (.exit 0,([(4,.bool b),(5,bq (h.length+0) (0,.dead) 1 (ints l))],h++[aX (0,.dead) 1 (ints l)])):=by
 intro k
 induction k with
 |zero =>
  intro hk;have c1:¬ (0:Int)<=-1:=by omega
  rw[Nat.sub_zero,kP,aR]
  simp(maxSteps:=1000000)(disch:=omega)only[go_sem,c1,Int.zero_sub,Int.reduceNeg]
 |succ k ih =>
  intro hk;have c1:(0:Int)<=(k:Int):=by omega
  have e0:(k:Int)+1-1=k:=by omega
  have hkc:k<(jm l).length:=by rw[agh];omega
  have hj:l.length-1-k<l.length:=by omega
  have hx:=WG (k:=.i64) hkc;have ih':=ih (by omega)
  have hdj:=hd l[l.length-1-k] (ja hj);have e1:l.length-k=(l.length-(k+1))+1:=by omega
  have e2:l.take (l.length-k)=l.take (l.length-(k+1))++[l[l.length-1-k]]:=by
   rw[e1,qU (by omega)]
   congr 2;have:l.length-(k+1)=l.length-1-k:=by omega
   simp only[this]
  rw[e2,Au,Av]at ih'
  have hv:((jm l)[k].toNat:Int)=48+l[l.length-1-k]:=by
   rw[agi hkc hj,UInt8.toNat_ofNat'];omega
  simp only[hv]at hx;have hal:(ints (l.take (l.length-(k+1)))).length<=1000:=by simp;omega
  generalize ints (l.take (l.length-(k+1)))=W at*;generalize l[l.length-1-k]=x at*;have ea:=fun y:AV=>jk (lo:=h.length) (ns:=1) (s:=0) (z:=1) (lim:=17592186044416) (h:=h) (fr:=[aX (0,.dead) 1 W]) (b0:=(0,.dead)) (es:=W) (xs:=[y]) (by omega) (aV _) rfl (by simp;omega)
  simp only[List.set_cons_zero]at ea;have e3:48+x-48=x:=by omega
  generalize jm l=S at*;rw[aR];simp(maxSteps:=1000000)(disch:=omega)only[go_sem,dF,e0,c1,hne,hx,e3,ea,ih']
theorem yZ{z:Int}(hz:Fit z)(h:Heap)(lo:Nat):(run lib).fn 167 [.str (aO z)] h lo=some (.tuple [.bool (decide (z<0)),eP 1 (ints (d10 z.natAbs))],h):=by
 have hl:=(xI (n:=z.natAbs) (k:=200) (by omega)).mpr hz
 -- what the loop does behind the sign
 have lp:aA lib ⟨h.length,h.length,1,none⟩ (.loop IG) ([(0,.str (dec z.natAbs)),(4,.bool (decide (z<0))),(5,.aD),(6,.int .i64 (((dec z.natAbs).length:Int)-1))],h++[(0,.dead)]) =
   some (.exit 0,([(4,.bool (decide (z<0))),(5,bq (h.length+0) (0,.dead) 1 (ints (d10 z.natAbs)))],h++[aX (0,.dead) 1 (ints (d10 z.natAbs))])):=by
  by_cases h0:z.natAbs=0
  ·rw[h0];have e1:dec 0=[48]:=rfl;have i0:bq (h.length+0) (0,.dead) 1 (ints (d10 0))=.aD:=rfl;have j0:aX (0,.dead) 1 (ints (d10 0))=(0,.dead):=rfl;have e10:(([48]:List UInt8).length:Int)-1=0:=rfl;rw[e1,i0,j0,e10,aR];simp(maxSteps:=1000000)(disch:=omega)only[go_sem]
  ·have hne:¬ jm (d10 z.natAbs)=[48]:=by
    rw[Fa h0];intro e;have:=Ci z.natAbs;rw[e]at this;exact h0 (by rw[<-this];rfl)
   have lp:=agj (vW z.natAbs) (by rw[Je h0];omega) (decide (z<0)) hne h (d10 z.natAbs).length (aV _)
   rw[Nat.sub_self,xC,Fa h0,Je h0]at lp;exact lp
 have hg:give h.length (bq (h.length+0) (0,.dead) 1 (ints (d10 z.natAbs))) (h++[aX (0,.dead) 1 (ints (d10 z.natAbs))])=some (eP 1 (ints (d10 z.natAbs)),h++[Eu (0,.dead) (ints (d10 z.natAbs))]) :=
  mq (h:=h) (fr:=[aX (0,.dead) 1 (ints (d10 z.natAbs))]) (s:=0) (z:=1) (b0:=(0,.dead)) rfl
 obtain⟨c,r,hd⟩:=Ai (xH z.natAbs);rw[aY (x:=x167) rfl rfl rfl rfl];by_cases c0:z<0
 ·have e:aO z=45::dec z.natAbs:=if_pos c0;rw[decide_eq_true c0]at lp⊢;have hx:=fun H=>Fs (k:=.i64) 45 (dec z.natAbs) H;have e45:((45:UInt8).toNat:Int)=45:=rfl;have sl:kg none (.str (45::dec z.natAbs)) (some (.int .i64 1)) none=some (.str (dec z.natAbs)):=Ot (k:=.i64) (l:=45::dec z.natAbs) (i:=1) (by simp)
  rw[e];simp(maxSteps:=1000000)(disch:=omega)only[go_sem,x167,hx,e45,sl,lp,hg,eF,l6]
 ·have e:aO z=dec z.natAbs:=if_neg c0;rw[decide_eq_false c0]at lp⊢;have hh:=NS z.natAbs;rw[e];rw[hd]at lp hh⊢;have hx:=fun H=>Fs (k:=.i64) c r H
  have e45:¬ ((c.toNat:Nat):Int)=45:=by
   intro e;apply hh
   have:c=45:=by
    rw[<-UInt8.toNat_inj];have:(45:UInt8).toNat=45:=rfl;omega
   rw[this];rfl
  simp only[List.length_cons,dF]at lp;have hrl:r.length<=200:=by rw[hd]at hl;simp at hl;omega
  simp(maxSteps:=1000000)(disch:=omega)only[go_sem,x167,dF,hx,e45,lp,hg,eF,l6]
theorem Xq{n:Nat}:(d10 n).length<=200↔n<10^200:=by
 by_cases h0:n=0
 ·subst h0;constructor
  ·intro _;exact Nat.pos_of_ne_zero (by simp)
  ·intro _;rw[yO];simp
 ·rw[Je h0];exact xI (by omega)
theorem JB{n k:Nat}(h:n<10^k):(d10 n).length<=k:=by
 by_cases h0:n=0
 ·subst h0;rw[yO];simp
 ·rw[Je h0];refine(xI ?_).mpr h;rcases oN k with hk|hk
  ·subst hk;simp at h;omega
  ·exact hk
theorem FH{v:AV}{n:Nat}(neg:Bool)(hv:bG 1 v (ints (d10 n)))(hl:(d10 n).length<=100000)(h:Heap)(lo:Nat):(run lib).fn 171 [.bool neg,v] h lo=some (outT (iw neg n),h):=by
 have tx:=fun H lo=>OJ (h:=H) neg (hv.sl H) hl lo;unfold outT;rw[Ow,aY (x:=II) rfl rfl rfl rfl];by_cases c:n<10^200
 ·have c1:=Xq.mpr c;rw[if_pos c];rw[decide_eq_true c1]at tx;simp(maxSteps:=1000000)(disch:=omega)only[go_sem,II,tx]
 ·have c1:¬ (d10 n).length<=200:=fun h=>c (Xq.mp h);rw[if_neg c];rw[decide_eq_false c1]at tx;simp(maxSteps:=1000000)(disch:=omega)only[go_sem,II,tx]
theorem agk{v u:AV}{n m:Nat}(a b:Bool)(hv:bG 1 v (ints (d10 n)))(hu:bG 1 u (ints (d10 m)))(hn:(d10 n).length<=10000)(hm:(d10 m).length<=10000)(h:Heap)(lo:Nat) :
  (run lib).fn 169 [.bool a,v,.bool b,u] h lo=some (outT (iw a n+iw b m),h):=by
 have pv:=WO a n b m;have pl:=fun H lo=>Xl hv hu (by omega) (by omega) H lo
 have ord:=fun H lo=>FE hv hu (by omega) (by omega) H lo
 have ge:=Jr (n:Int) (m:Int);generalize bR (n:Int) (m:Int)=q at*;have eb:(a==b)=decide (a=b):=xL a b;rw[<-pv];unfold wm
 have hnm:∀ k,k<=n+m->(d10 k).length<=100000:=fun k hk=>by
  obtain⟨L,hL⟩:∃ L,L=max (d10 n).length (d10 m).length:=⟨_,rfl⟩
  have lt:∀ j:Nat,j<10^(d10 j).length:=fun j=>by
   have:=Cn (vW j);rw[vV]at this;have e:((10^(d10 j).length:Nat):Int)=(10:Int)^(d10 j).length:=by rw[Int.natCast_pow];rfl
   rw[<-e]at this;exact Int.ofNat_lt.mp this
  have h1:n<10^L:=qE (lt n) (uM (by omega) (by omega))
  have h2:m<10^L:=qE (lt m) (uM (by omega) (by omega))
  have h3:k<10^(L+1):=by
   rw[Nat.pow_succ];generalize 10^L=X at*;omega
  have:=JB h3;omega
 rw[aY (x:=EQ) rfl rfl rfl rfl];by_cases c:a=b
 ·rw[decide_eq_true c]at eb;rw[if_pos c];have hp:=OL (d10 (n+m));rw[H8]at hp;have ck:=fun H lo=>FH a hp (hnm _ (aV _)) H lo;rw[xN]at ck⊢;simp(maxSteps:=1000000)(disch:=omega)only[go_sem,EQ,eb,pl,ck]
 ·rw[decide_eq_false c]at eb;rw[if_neg c];by_cases c2:m<=n
  ·obtain⟨X,x1,x2,x3⟩:=JA hv hu c2 (by omega) (by omega)
   have c3:(0:Int)<=q:=by omega
   have ck:=fun H lo=>FH a x1 (hnm _ (by omega)) H lo
   rw[if_pos c2];rw[xN]at ck⊢;simp(maxSteps:=1000000)(disch:=omega)only[go_sem,EQ,eb,ord,c3,x3,x2,ck]
  ·obtain⟨X,x1,x2,x3⟩:=JA hu hv (by omega) (by omega) (by omega)
   have c3:¬ (0:Int)<=q:=by omega
   have ck:=fun H lo=>FH b x1 (hnm _ (by omega)) H lo
   rw[if_neg c2];rw[xN]at ck⊢;simp(maxSteps:=1000000)(disch:=omega)only[go_sem,EQ,eb,ord,c3,x3,x2,ck]
theorem wC{z:Int}(h:Fit z):(d10 z.natAbs).length<=200:=JB h
theorem uY(z:Int):bG 1 (dG 1 (ints (d10 z.natAbs))) (ints (d10 z.natAbs)):=by
 have:=OL (d10 z.natAbs)
 rwa [H8]at this
theorem wD{z:Int}(h:Fit z):(aO z).length<=9223372036854775807:=by have:=afE h;omega
theorem Xr{x y:Int}(hx:Fit x)(hy:Fit y)(h:Heap)(lo:Nat):(run lib).fn 140 [.str (aO x),.str (aO y)] h lo=some (outT (x-y),h):=by
 have v1:=fun H lo=>wB (wD hx) H lo;have v2:=fun H lo=>wB (wD hy) H lo;rw[oG hx]at v1;rw[oG hy]at v2;have d1:=fun H lo=>yZ hx H lo;have d2:=fun H lo=>yZ hy H lo;have fx:=wC hx;have fy:=wC hy;have sm:=fun H lo=>agk (decide (x<0)) (!decide (y<0)) (uY x) (uY y) (by omega) (by omega) H lo
 have hneg:iw (!decide (y<0)) y.natAbs=-y:=by
  unfold iw;by_cases c:y<0
  ·rw[decide_eq_true c,vH,if_neg (by simp)];omega
  ·rw[decide_eq_false c,vR,if_pos rfl];omega
 rw[Ox,hneg,<-Int.sub_eq_add_neg,xN]at sm;rw[xN,aY (x:=Ng) rfl rfl rfl rfl];simp(maxSteps:=1000000)(disch:=omega)only[go_sem,Ng,v1,v2,d1,d2,sm]
theorem agl{x y:Int}(hx:Fit x)(hy:Fit y)(h:Heap)(lo:Nat):(run lib).fn 139 [.str (aO x),.str (aO y)] h lo=some (.int .i64 (bR x y),h):=by
 have v1:=fun H lo=>wB (wD hx) H lo;have v2:=fun H lo=>wB (wD hy) H lo;rw[oG hx]at v1;rw[oG hy]at v2;have d1:=fun H lo=>yZ hx H lo;have d2:=fun H lo=>yZ hy H lo;have fx:=wC hx;have fy:=wC hy;have cm:=fun H lo=>FE (uY x) (uY y) (by omega) (by omega) H lo
 have cn:=fun H lo=>FE (uY y) (uY x) (by omega) (by omega) H lo
 have tf:(true==false)=false:=rfl;have ft:(false==true)=false:=rfl;rw[aY (x:=BX) rfl rfl rfl rfl];by_cases c1:x<0
 ·rw[decide_eq_true c1]at d1;by_cases c2:y<0
  ·rw[decide_eq_true c2]at d2
   have e:bR (y.natAbs:Int) (x.natAbs:Int)=bR x y:=by
    unfold bR;have e1:(y.natAbs:Int)=-y:=by omega
    have e2:(x.natAbs:Int)=-x:=by omega
    rw[e1,e2];simp only[show (-y < -x)=(x<y) by simp,show (-y=-x)=(x=y) by rw[eq_iff_iff];omega]
   rw[e]at cn;simp(maxSteps:=1000000)(disch:=omega)only[go_sem,BX,v1,v2,d1,d2,cn,beq_self_eq_true]
  ·rw[decide_eq_false c2]at d2;have e:bR x y=-1:=if_pos (by omega)
   rw[e];simp(maxSteps:=1000000)(disch:=omega)only[go_sem,BX,v1,v2,d1,d2,tf]
 ·rw[decide_eq_false c1]at d1;by_cases c2:y<0
  ·rw[decide_eq_true c2]at d2;have e:bR x y=1:=by unfold bR;rw[if_neg (by omega),if_neg (by omega)]
   rw[e];simp(maxSteps:=1000000)(disch:=omega)only[go_sem,BX,v1,v2,d1,d2,ft]
  ·rw[decide_eq_false c2]at d2;have e1:(y.natAbs:Int)=y:=by omega
   have e2:(x.natAbs:Int)=x:=by omega
   rw[e1,e2]at cm;simp(maxSteps:=1000000)(disch:=omega)only[go_sem,BX,v1,v2,d1,d2,cm,beq_self_eq_true]
end Go.VI.Dump
namespace Go.VI.Dump
open Go.VI.Num
theorem agm(j:Nat):j<10^(d10 j).length:=by
 have:=Cn (vW j);rw[vV]at this;have e:((10^(d10 j).length:Nat):Int)=(10:Int)^(d10 j).length:=by rw[Int.natCast_pow];rfl
 rw[<-e]at this;exact Int.ofNat_lt.mp this
end Go.VI.Dump
namespace Go.VI.Dump
open Go.VI.Num
theorem agn{l:List Int}(hl:l.length<=1000000)(h:Heap)(lo:Nat):(run lib).fn 194 [.aN 1 (ints l)] h lo=some (.aN 1 (ints (dV l)),h):=by
 have lp:∀(cx:Cx) (H:Heap) (k:Nat),k<=l.length->aA lib cx (.loop yK) ([(0,.aN 1 (ints (l.take k)))],H)=some (.exit 0,([(0,.aN 1 (ints (l.take (jV l k))))],H)):=by
  intro cx H k
  induction k with
  |zero =>
   intro hk;rw[aR];have s3:jc false (.aN 1 (ints []))=some (.int .i64 0):=rfl;simp only[xC,jV]
   simp(maxSteps:=1000000)(disch:=omega)only[go_sem,s3,dU]
  |succ k ih =>
   intro hk;have hs:=Sl.aN H 1 (ints (l.take (k+1)));have s3:=bK hs.len;rw[fE,jA,ul hk,dF]at s3;have hlen:(ints (l.take (k+1))).length=k+1:=by simp;omega
   have c1:(0:Int)<(k:Int)+1:=by omega
   have e0:(k:Int)+1-1=k:=by omega
   have e3:bP 1 (.aN 1 (ints (l.take (k+1)))) (.int .i64 k)=some k:=by rw[dz hs (by omega) (by rw[hlen];omega)];simp
   have e4:=fun off=>dx (off:=off) hs.eO (show k<(ints (l.take (k+1))).length by rw[hlen];omega)
   simp only[lW,List.getElem_take]at e4;have hg:l.getD k 0=l[k]:=by rw[jC,gM (by omega)];rfl
   have hsl:kg (some 1) (.aN 1 (ints (l.take (k+1)))) none (some (.int .i64 k))=some (.aN 1 (ints (l.take k))):=by
    have hb:bnd (some (.int .i64 k)) (k+1) (k+1)=some k:=by rw[BN (by omega) (by omega)];simp
    simp only[kg,fe,beq_self_eq_true,Bool.true_or,if_true,hlen,hb,Option.bind_some];simp[bnd,ints,List.take_take]
   have ih':=ih (by omega)
   simp only[jV,hg];rw[aR];by_cases c2:l[k]=0
   ·rw[if_pos c2];simp(maxSteps:=1000000)(disch:=omega)only[go_sem,s3,c1,e0,e3,e4,c2,hsl,ih']
   ·rw[if_neg c2];simp(maxSteps:=1000000)(disch:=omega)only[go_sem,s3,c1,e0,e3,e4,c2]
 have e:=fun cx H=>lp cx H l.length (aV _);simp only[kP]at e;rw[aY (x:=uH) rfl rfl rfl rfl];unfold dV;simp(maxSteps:=1000000)(disch:=omega)only[go_sem,uH,e]
theorem agp(d:Nat)(hd:d<=9):∃ X:AV,bG 1 X (ints (d10 d))/\weak X=X/\∀ h lo,(run lib).fn 194 [.aM 1 [.int .i64 d]] h lo=some (X,h):=by
 have s1:jc false (.aM 1 [.int .i64 d])=some (.int .i64 1):=rfl;have e3:bP 1 (.aM 1 [.int .i64 d]) (.int .i64 0)=some 0:=rfl;have e4:∀ off H,eD H (.di (.aM 1 [.int .i64 d]) 0 off)=some ([AV.int .i64 d].drop off):=fun off H=>rfl;by_cases h0:d=0
 ·subst h0;have hs:kg (some 1) (.aM 1 [.int .i64 ((0:Nat):Int)]) none (some (.int .i64 0))=some (.aN 1 []):=rfl;refine⟨.aN 1 [],.inr ⟨1,.inl rfl,.inl rfl⟩,rfl,fun h lo=>?_⟩;have s3:jc false (.aN 1 [])=some (.int .i64 0):=rfl;have ez:((0:Nat):Int)=0:=rfl;rw[ez]at s1 e3 e4 hs⊢
  have t:aA lib ⟨h.length,h.length,0,none⟩ (.loop yK) ([(0,.aN 1 [])],h)=some (.exit 0,([(0,.aN 1 [])],h)):=by
   rw[aR];simp(maxSteps:=1000000)(disch:=omega)only[go_sem,s3,dU]
  have w:aA lib ⟨h.length,h.length,0,none⟩ (.loop yK) ([(0,.aM 1 [.int .i64 0])],h)=some (.exit 0,([(0,.aN 1 [])],h)):=by
   rw[aR];simp(maxSteps:=1000000)(disch:=omega)only[go_sem,s1,e3,e4,hs,t]
  rw[aY (x:=uH) rfl rfl rfl rfl];simp(maxSteps:=1000000)(disch:=omega)only[go_sem,uH,w]
 ·have hg:d10 d=[(d:Int)]:=by
   rw[rq h0,Nat.mod_eq_of_lt (by omega),show d/10=0 by omega];rfl
  have c:¬ (d:Int)=0:=by omega
  refine⟨.aM 1 [.int .i64 d],by rw[hg];exact .inr ⟨1,.inr rfl,.inl rfl⟩,rfl,fun h lo=>?_⟩
  have w:aA lib ⟨h.length,h.length,0,none⟩ (.loop yK) ([(0,.aM 1 [.int .i64 d])],h)=some (.exit 0,([(0,.aM 1 [.int .i64 d])],h)):=by
   rw[aR];simp(maxSteps:=1000000)(disch:=omega)only[go_sem,s1,e3,e4,c]
  rw[aY (x:=uH) rfl rfl rfl rfl];have hg2:eF h.length (.aM 1 [.int .i64 d]) h=some (.aM 1 [.int .i64 d]):=rfl;simp(maxSteps:=1000000)(disch:=omega)only[go_sem,uH,w,hg2,Option.map_some]
theorem agq{n:Nat}(h:n≠0)(d:Nat)(hd:d<=9):((d:Nat):Int)::d10 n=d10 (d+10*n):=by
 rw[rq (n:=d+10*n) (by omega)]
 have e1:(d+10*n)%10=d:=by omega
 have e2:(d+10*n)/10=n:=by omega
 rw[e1,e2]
theorem agr{rv:AV}{R d:Nat}(hr:bG 1 rv (ints (d10 R)))(hR:(d10 R).length<=20000)(hd:d<=9):∃ X:AV,bG 1 X (ints (d10 (d+10*R)))/\weak X=X /\
  ∀(h fr:Heap) (ns w:Nat),2<ns->fr[2]?=some (w,.dead)->∃(Y:AV) (w':Nat),(dP ⟨h.length,h.length,ns,none⟩ 2 1 17592186044416 (.aM 1 [.int .i64 d]) (ints (d10 R)) (h++fr)).bind (fun r=>aU h.length false r.1 r.2)=some (Y,h++fr.set 2 (w',.dead)) /\
   ∀ H lo,(run lib).fn 194 [Y] H lo=some (X,H):=by
 by_cases h0:R=0
 ·subst h0;obtain⟨X,x1,x2,x3⟩:=agp d hd;refine⟨X,by rw[Nat.mul_zero,Nat.add_zero];exact x1,x2,fun h fr ns w hns hf=>⟨.aM 1 [.int .i64 d],w, ?_,x3⟩⟩
  rw[oV hf];simp[dP,yO,ints,aU]
 ·have hne:d10 R≠[]:=fun e=>h0 (Co.mp e);have hdig:Dg ((d:Int)::d10 R):=Dg.cons.mpr ⟨by omega,vW R⟩
  have ht:dV ((d:Int)::d10 R)=d10 (d+10*R):=by
   rw[Oa hdig,dq,vV];congr 1
  have t:=agn (l:=(d:Int)::d10 R) (by simp;omega)
  rw[ht]at t;refine⟨.aN 1 (ints (d10 (d+10*R))),vZ _,rfl,fun h fr ns w hns hf=>⟨.aN 1 (ints ((d:Int)::d10 R)),w+1, ?_,t⟩⟩;have hx:ints (d10 R)≠[]:=by intro e;exact hne (by simpa[ints]using e)
  have hlt:2<fr.length:=(bO.mp hf).1
  have hm:bV ⟨h.length,h.length,ns,none⟩ 2 (.arr 1 ([.int .i64 d]++ints (d10 R))) (h++fr)=some (w+1,h++fr.set 2 (w+1,.arr 1 ([.int .i64 d]++ints (d10 R)))):=by
   rw[qN,hf,sF,if_pos hns]
  have hg:(h++fr.set 2 (w+1,av.arr 1 ([.int .i64 d]++ints (d10 R))))[h.length+2]?=some (w+1,.arr 1 ([.int .i64 d]++ints (d10 R))):=by rw[bH];simp[hlt]
  have hle:([AV.int .i64 d]++ints (d10 R)).length<=17592186044416:=by simp;omega
  simp only[dP,beq_self_eq_true,Bool.true_or,if_true,if_neg hx,if_pos hle,hm,Option.map_some,Option.bind_some];simp only[aU];rw[if_pos (by omega)]
  simp only[dW,hg];simp[ints,pI]
end Go.VI.Dump
namespace Go.VI.Dump
open Go.VI.Num
def qg(q:List Int)(w:Nat):Heap:=[(0,.dead),(0,.dead),(w,.dead),(0,.dead),(1,.arr 1 (ints q))]
theorem ags{v u:AV}{m:Nat}(hm0:m≠0)(hu:bG 1 u (ints (d10 m)))(hm:(d10 m).length<=20000)(h:Heap)(w N i:Nat)(hN:N<=100000)(hi:i<N) :
  ∀(t T:Nat) (rv:AV) (q:List Int) (x:Int),T/m=t->bG 1 rv (ints (d10 T))->(d10 T).length<=30000->q.length=N->q[i]?=some x->0<=x->x+t<=100 ->
  ∃ rv',bG 1 rv' (ints (d10 (T%m)))/\aA lib ⟨h.length,h.length,5,none⟩ (.loop Nv) ([(0,v),(1,u),(6,.ref (h.length+4) 1 1 0 N N),(7,rv),(8,.int .i64 i)],h++qg q w) =
   some (.exit 2,([(0,v),(1,u),(6,.ref (h.length+4) 1 1 0 N N),(7,rv'),(8,.int .i64 i)],h++qg (q.set i (x+t)) w)):=by
 intro t
 induction t with
 |zero =>
  intro T rv q x hT hr hl hq hx h1 h2
  have hlt:T<m:=by
   rcases gJ T m with g|g
   ·exact g
   ·have:=(Nat.le_div_iff_mul_le (show 0<m by omega)).mpr (show 1*m<=T by omega);omega
  have ord:=fun H lo=>FE hr hu (by omega) (by omega) H lo
  have ge:=Jr (T:Int) (m:Int);generalize bR (T:Int) (m:Int)=g at*;have c1:¬ (0:Int)<=g:=by omega
  have hs:q.set i (x+((0:Nat):Int))=q:=by
   have:x+((0:Nat):Int)=x:=by omega
   rw[this];exact oV hx
  refine⟨rv,by rw[Nat.mod_eq_of_lt hlt];exact hr, ?_⟩
  rw[hs,aR]
  simp(maxSteps:=1000000)(disch:=omega)only[go_sem,qg,ord,c1]
 |succ t ih =>
  intro T rv q x hT hr hl hq hx h1 h2
  have hle:m<=T:=by
   rcases gJ T m with g|g
   ·rw[Nat.div_eq_of_lt g]at hT;omega
   ·exact g
  have ord:=fun H lo=>FE hr hu (by omega) (by omega) H lo
  have ge:=Jr (T:Int) (m:Int);generalize bR (T:Int) (m:Int)=g at*;have c1:(0:Int)<=g:=by omega
  obtain⟨X,x1,x2,x3⟩:=JA hr hu hle (by omega) (by omega)
  have hdv:(T-m)/m=t:=by
   have:=Nat.sub_mul_div T m 1;rw[Nat.mul_one]at this;rw[this,hT];rfl
  have hmd:(T-m)%m=T%m:=(Nat.mod_eq_sub_mod hle).symm;have Az:i<q.length:=by omega
  have hxi:q[i]=x:=by rw[gM Az]at hx;exact Option.some.inj hx
  obtain⟨rv',r1,r2⟩:=ih (T-m) (dw X) (q.set i (x+1)) (x+1) hdv x1 (kY (Cq (by omega)) hl) (by simp[hq]) (by simp[Az]) (by omega) (by omega)
  rw[hmd]at r1;refine⟨rv',r1, ?_⟩
  have hss:(q.set i (x+1)).set i (x+1+(t:Int))=q.set i (x+((t+1:Nat):Int)):=by
   rw[List.set_set];congr 1;omega
  rw[hss]at r2;have q1:bP 1 (.ref (h.length+4) 1 1 0 N N) (.int .i64 i)=some i:=by simp[bP,fe,iH,idx];omega
  have q2:eD (h++qg q w) (.di (.ref (h.length+4) 1 1 0 N N) i 0)=some [.int .i64 x]:=by
   have so:=Sl.Er (h:=h) (fr:=qg q w) (s:=4) (aj:=1) (z:=1) (es:=ints q) rfl;rw[fE,hq]at so;have:=dx (off:=0) so.eO (show i<(ints q).length by simpa using Az)
   rw[this,lW,hxi];rfl
  have st:=fun y:Int=>ad5 (lo:=h.length) (ns:=5) (h:=h) (fr:=qg q w) (s:=4) (aj:=1) (o:=0) (len:=N) (fill:=N) (i:=i) (k:=.i64) (l:=q) (n:=y) rfl hq (by omega) hi (aV _)
  have hints:∀ l:List Int,l.map (AV.int .i64)=ints l:=fun _=>rfl;simp only[je,hints,qg,List.set_cons_succ,List.set_cons_zero]at st q2 r2;rw[aR];simp(maxSteps:=1000000)(disch:=omega)only[go_sem,qg,ord,c1,x3,x2,q1,q2,st,r2]
theorem agt{d T m R:Nat}(hm:m≠0)(hR:R=T%m):(d+10*T)/m=(d+10*R)/m+10*(T/m)/\(d+10*T)%m=(d+10*R)%m:=by
 have h:=Nat.div_add_mod T m
 have e:d+10*T=(d+10*R)+m*(10*(T/m)):=by
  have e1:m*(10*(T/m))=10*(m*(T/m)):=by rw[<-Nat.mul_assoc,qG m 10,Nat.mul_assoc]
  rw[e1,hR];generalize m*(T/m)=X at*;omega
 rw[e];exact⟨Nat.add_mul_div_left _ _ (by omega),Nat.add_mul_mod_self_left _ _ _⟩
theorem agu{n:Nat}(d:Nat)(hd:d<=9):(d10 (d+10*n)).length<=(d10 n).length+1:=by
 refine JB ?_;have:=agm n;rw[Nat.pow_succ];generalize 10^(d10 n).length=X at*;omega
theorem agv{v u:AV}{a m:Nat}(hm0:m≠0)(hv:bG 1 v (ints (d10 a)))(hu:bG 1 u (ints (d10 m)))(ha:(d10 a).length<=20000)(hm:(d10 m).length<=20000)(h:Heap)(N:Nat)(hN:N=(d10 a).length) :
  ∀(k:Nat) (w T:Nat) (rv:AV) (q:List Int),k<=N->(d10 a).drop k=d10 T->bG 1 rv (ints (d10 (T%m)))->q.length=N->(∀ j,j<k->q[j]?=some 0)->dq (q.drop k)=(T/m:Nat)->Dg (q.drop k) ->
  ∃(rv':AV) (w':Nat) (q':List Int),bG 1 rv' (ints (d10 (a%m)))/\q'.length=N/\dq q'=(a/m:Nat)/\Dg q' /\
   aA lib ⟨h.length,h.length,5,none⟩ (.loop Nw) ([(0,v),(1,u),(6,.ref (h.length+4) 1 1 0 N N),(7,rv),(8,.int .i64 ((k:Int)-1))],h++qg q w) =
   some (.exit 0,([(6,.ref (h.length+4) 1 1 0 N N),(7,rv')],h++qg q' w')):=by
 intro k
 induction k with
 |zero =>
  intro w T rv q hk hT hr hq hz hQ hD;have c1:¬ (0:Int)<=-1:=by omega
  have e:T=a:=by
   rw[List.drop_zero]at hT;have h1:=vV a;have h2:=vV T;rw[hT]at h1;omega
  subst e;rw[List.drop_zero]at hQ hD;refine⟨rv,w,q,hr,hq,hQ,hD, ?_⟩;rw[aR]
  simp(maxSteps:=1000000)(disch:=omega)only[go_sem,c1,Int.zero_sub,Int.reduceNeg]
 |succ k ih =>
  intro w T rv q hk hT hr hq hz hQ hD;have c1:(0:Int)<=(k:Int):=by omega
  have e0:(k:Int)+1-1=k:=by omega
  have hka:k<(d10 a).length:=by omega
  have hdk:=vW a (d10 a)[k] (ja hka);obtain⟨d,hd⟩:∃ d:Nat,(d10 a)[k]=(d:Int):=⟨((d10 a)[k]).toNat,by omega⟩
  have OQ:d<=9:=by omega
  have a3:bP 1 v (.int .i64 k)=some k:=by rw[dz (hv.sl []) (by omega) (by simp;omega)];simp
  have a4:=fun off H=>dx (off:=off) (hv.sl H).eO (show k<(ints (d10 a)).length by simp;omega)
  simp only[lW,hd]at a4;have Wx:T%m<m:=Nat.mod_lt _ (by omega)
  have hRl:(d10 (T%m)).length<=20000:=kY (Cq (Nat.le_of_lt Wx)) hm;obtain⟨X,x1,x2,x3⟩:=agr (d:=d) hr hRl OQ;obtain⟨Y,w',y1,y2⟩:=x3 h (qg q w) 5 w (by omega) rfl
  have src:=fun H:Heap=>yG (hr.sl H);have hnl:=agu (n:=T%m) d OQ;have hx0:q[k]?=some 0:=hz k (by omega)
  have Ol:(d+10*(T%m))/m<=9:=by
   have:d+10*(T%m)<m*10:=by omega
   have:=Nat.div_lt_of_lt_mul this;omega
  obtain⟨rv',r1,r2⟩:=ags (v:=v) hm0 hu hm h w' N k (by omega) (by omega) ((d+10*(T%m))/m) (d+10*(T%m)) X q 0 rfl x1 (by omega) hq hx0 (by omega) (by omega)
  obtain⟨g1,g2⟩:=agt (d:=d) hm0 (show T%m=T%m from rfl)
  rw[Int.zero_add]at r2
  have hT':(d10 a).drop k=d10 (d+10*T):=by
   rw[gY hka,hT,hd];by_cases hT0:T=0
   ·subst hT0
    -- the highest digit is not zero
    have hne:d≠0:=by
     intro h0;have htr:=Wh a (by intro e;rw[e]at hka;simp at hka)
     have hlast:(d10 a).drop k=[(d:Int)]:=by rw[gY hka,hT,hd];rfl
     have hsp:=zY k (d10 a);rw[hlast]at hsp;have hl2:(d10 a).getLast?=some (d:Int):=by rw[<-hsp];simp
     rw[List.getLast?_eq_some_getLast (by intro e;rw[e]at hka;simp at hka)]at hl2
     exact htr (by rw[Option.some.inj hl2,h0];rfl)
    rw[Nat.mul_zero,Nat.add_zero,rq hne,Nat.mod_eq_of_lt (by omega),show d/10=0 by omega]
   ·exact agq hT0 d OQ
  have hkq:k<q.length:=by omega
  obtain⟨rv2,w2,q2,s1,s2,s3,s4,s5⟩:=ih w' (d+10*T) rv' (q.set k (((d+10*(T%m))/m:Nat):Int)) (by omega) hT' (by rw[g2];exact r1) (by simp[hq])
   (fun j hj=>by rw[eG (by omega)];exact hz j (by omega))
   (by rw[Jq hkq,dq,hQ,g1,Int.natCast_add,Int.natCast_mul];rfl)
   (by rw[Jq hkq];exact Dg.cons.mpr ⟨⟨Int.natCast_nonneg _,Int.ofNat_le.mpr Ol⟩,hD⟩)
  refine⟨rv2,w2,q2,s1,s2,s3,s4, ?_⟩;simp only[qg,List.set_cons_succ,List.set_cons_zero]at y1 r2 s5;rw[aR];simp only[qg];simp(maxSteps:=1000000)(disch:=omega)only[go_sem,dF,e0,c1,a3,a4,src,y1,y2,x2,r2,s5]
theorem agx{v:AV}{l:List Int}(p:bG 1 v (ints l)):∃ Y:AV,(∀ b h,give b v h=some (Y,h))/\bG 1 (dw Y) (ints l):=by
 rcases p with⟨rfl,hl⟩|⟨z',rfl|rfl,hz⟩
 ·exact⟨.own 0 [],fun _ _=>rfl,by rw[hl];exact .inr ⟨0,.inl rfl,.inr rfl⟩⟩
 ·exact⟨.aN z' (ints l),fun b h=>by simp[give,aU],.inr ⟨z',.inl rfl,hz⟩⟩
 ·exact⟨.aM z' (ints l),fun b h=>by simp[give,aU],.inr ⟨z',.inr rfl,hz⟩⟩
theorem Xt{v u:AV}{a m:Nat}(hm0:m≠0)(hv:bG 1 v (ints (d10 a)))(hu:bG 1 u (ints (d10 m)))(ha:(d10 a).length<=20000)(hm:(d10 m).length<=20000)(h:Heap)(lo:Nat) :
  ∃ X Y:AV,bG 1 (dw X) (ints (d10 (a/m)))/\bG 1 (dw Y) (ints (d10 (a%m)))/\(run lib).fn 170 [v,u] h lo=some (.tuple [X,Y],h):=by
 have s1:=bK (hv.sl []).len;rw[fE]at s1;obtain⟨N,hN⟩:∃ N,N=(d10 a).length:=⟨_,rfl⟩;rw[<-hN]at s1
 obtain⟨rv,w,q,r1,r2,r3,r4,r5⟩:=agv hm0 hv hu ha hm h N hN N 0 0 .aD (List.replicate N 0) (aV _) (by rw[hN,kQ (aV _)];rfl)
  (by rw[Nat.zero_mod];exact .inl ⟨rfl,rfl⟩) (by simp) (fun j hj=>by simp[hj]) (by rw[kQ (by simp),Nat.zero_div];rfl) (by rw[kQ (by simp)];exact Dg.nil)
 have htr:=Oa r4;rw[r3,qW]at htr;obtain⟨Y,y1,y2⟩:=agx r1;refine⟨wz q,Y,by rw[OP,htr];exact vZ _,y2, ?_⟩
 have hmk:=fun hh=>Lj (h:=hh) (cx:=⟨h.length,h.length,5,none⟩) (s:=4) (z:=1) (zero:=.int .i64 0) (lim:=17592186044416) (k:=.i64) (k':=.i64) (a:=(N:Int)) (b:=(N:Int)) (by omega) (by omega) (by omega)
 have Oq:ints (List.replicate N 0)=List.replicate N (AV.int .i64 0):=by simp[ints]
 simp only[qg,Oq]at r5;have tr:=fun lo=>Xo (h:=h) (fr:=[(0,.dead),(0,.dead),(w,.dead),(0,.dead),(1,.arr 1 (ints q))]) (s:=4) (l:=q) (by omega) rfl lo
 have gv:=Xm (h:=h) (fr:=[(0,.dead),(0,.dead),(w,.dead),(0,.dead),(1,.arr 1 (ints q))]) (s:=4) (aj:=1) (l:=q) rfl;rw[r2]at tr gv
 have gr:eF h.length (.tuple [.ref (h.length+4) 1 1 0 (dV q).length N,rv]) (h++[(0,.dead),(0,.dead),(w,.dead),(0,.dead),(1,.arr 1 (ints q))])=some (.tuple [wz q,Y]):=by
  simp only[eF,l6,gv,y1,Option.bind_some,Option.map_some]
 rw[aY (x:=Ny) rfl rfl rfl rfl];simp(maxSteps:=1000000)(disch:=omega)only[go_sem,Ny,s1,hmk,zU,r5,tr,gr,Option.map_some]
end Go.VI.Dump
namespace Go.VI.Dump
open Go.VI.Num
theorem Xu{x y:Int}(hx:Fit x)(hy:Fit y)(hy0:y≠0)(h:Heap)(lo:Nat):(run lib).fn 142 [.str (aO x),.str (aO y)] h lo=some (Cy x y,h):=by
 have v1:=fun H lo=>wB (wD hx) H lo;have v2:=fun H lo=>wB (wD hy) H lo;rw[oG hx]at v1;rw[oG hy]at v2;have d1:=fun H lo=>yZ hx H lo;have d2:=fun H lo=>yZ hy H lo;have fx:=wC hx;have fy:=wC hy;have hm0:y.natAbs≠0:=by omega
 have i0:aO 0=[48]:=rfl;have hne:¬ aO y=[48]:=by rw[<-i0,af5];exact hy0
 obtain⟨X,Y,x1,y1,dv⟩:=Xt hm0 (uY x) (uY y) (by omega) (by omega) h h.length
 obtain⟨q1,q2⟩:=Jt (x:=x) hy0;have Az:=OC (x:=x) hy0;have fq:=Cw (y:=y) hx hy0;have fr:=Jv (x:=x) hy hy0;have s1:=bK (y1.sl []).len;rw[fE]at s1;have hrl:(d10 (x.natAbs%y.natAbs)).length<=200:=kY (Cq (Nat.le_of_lt (Nat.mod_lt _ (by omega)))) fy
 have es:iw false (o6 x y)=x%y:=by rw[<-q2];rfl
 have tr:=fun v (hv:bG 1 v (ints (d10 (o6 x y)))) H lo=>OJ (v:=v) (n:=o6 x y) false (h:=H) (hv.sl H) (by
  have e:(x%y).natAbs=o6 x y:=by omega
  have:=wC fr;rw[e]at this;omega) lo
 simp only[es]at tr;have tq:=fun v (hv:bG 1 v (ints (d10 (sW x y)))) H lo=>FH (v:=v) (n:=sW x y) (!(decide (x<0)==decide (y<0))) hv (by have:=Cq Az;omega) H lo
 simp only[q1,uW fq]at tq;unfold Cy;rw[aY (x:=EN) rfl rfl rfl rfl];by_cases c:x<0/\x.natAbs%y.natAbs≠0
 ·obtain⟨c1,c2⟩:=c
  have c3:(0:Int)<(d10 (x.natAbs%y.natAbs)).length:=by
   have:d10 (x.natAbs%y.natAbs)≠[]:=fun e=>c2 (Co.mp e);have:=mR.mpr this;omega
  have pl:=fun H lo=>Xl (u:=.aM 1 [.int .i64 1]) (b:=1) x1 (.inr ⟨1,.inr rfl,.inl rfl⟩) (by have:=Cq (Nat.div_le_self x.natAbs y.natAbs);omega) (by decide) H lo
  obtain⟨Z,z1,z2,mi⟩:=JA (uY y) y1 (Nat.le_of_lt (Nat.mod_lt _ (by omega))) (by omega) (by omega)
  have eq:sW x y=x.natAbs/y.natAbs+1:=if_pos ⟨c1,c2⟩;have er:o6 x y=y.natAbs-x.natAbs%y.natAbs:=if_pos ⟨c1,c2⟩;have hp:=OL (d10 (x.natAbs/y.natAbs+1));rw[H8,<-eq]at hp;rw[<-er]at z1;have za:=tq _ hp;have rz:=tr _ z1;rw[eq]at za;rw[decide_eq_true c1]at d1 za;simp(maxSteps:=1000000)(disch:=omega)only[go_sem,EN,v1,v2,d1,d2,hne,dv,s1,c3,pl,mi,z2,za,rz]
 ·have eq:sW x y=x.natAbs/y.natAbs:=if_neg c;have er:o6 x y=x.natAbs%y.natAbs:=if_neg c;rw[<-eq]at x1;rw[<-er]at y1;have za:=tq _ x1;have rz:=tr _ y1;by_cases c1:x<0
  ·have c2:x.natAbs%y.natAbs=0:=by omega
   have c3:¬ (0:Int)<(d10 (x.natAbs%y.natAbs)).length:=by rw[c2,yO];simp
   rw[decide_eq_true c1]at d1 za;simp(maxSteps:=1000000)(disch:=omega)only[go_sem,EN,v1,v2,d1,d2,hne,dv,s1,c3,za,rz]
  ·rw[decide_eq_false c1]at d1 za;simp(maxSteps:=1000000)(disch:=omega)only[go_sem,EN,v1,v2,d1,d2,hne,dv,za,rz]
theorem agy(cx:Cx)(H:Heap):∀(b a:Nat) (v u:AV),bG 1 v (ints (d10 a))->bG 1 u (ints (d10 b))->(d10 a).length<=1000->(d10 b).length<=1000 ->
  ∃ w,bG 1 w (ints (d10 (Nat.gcd a b)))/\aA lib cx (.loop Nh) ([(7,v),(9,u)],H)=some (.exit 0,([(7,w)],H)):=by
 intro b
 induction b using Nat.strongRecOn with
 |_ b ih =>
  intro a v u hv hu ha hb;have s1:=bK (hu.sl []).len;rw[fE]at s1;by_cases h0:b=0
  ·subst h0;refine⟨v,by rw[Nat.gcd_zero_right];exact hv, ?_⟩
   have c1:¬ (0:Int)<(d10 0).length:=by simp[yO]
   rw[aR];simp(maxSteps:=1000000)(disch:=omega)only[go_sem,s1,c1]
  ·have hpos:0<b:=by omega
   have hlt:=Nat.mod_lt a hpos;have hl2:(d10 (a%b)).length<=1000:=kY (Cq (Nat.le_of_lt hlt)) hb;obtain⟨X,Y,x1,y1,dv⟩:=Xt h0 hv hu (by omega) (by omega) H cx.lo
   obtain⟨w,w1,w2⟩:=ih (a%b) hlt b u (dw Y) hu y1 hb hl2;refine⟨w, ?_, ?_⟩
   ·have e:Nat.gcd a b=Nat.gcd b (a%b):=by rw[Nat.gcd_comm a b,Nat.gcd_rec,Nat.gcd_comm]
    rw[e];exact w1
   ·have c1:(0:Int)<(d10 b).length:=by
     have:d10 b≠[]:=fun e=>h0 (Co.mp e);have:=mR.mpr this;omega
    rw[aR];simp(maxSteps:=1000000)(disch:=omega)only[go_sem,s1,c1,dv,w2]
theorem agz{x y:Int}(hx:Fit x)(hy:Fit y)(h:Heap)(lo:Nat):(run lib).fn 141 [.str (aO x),.str (aO y)] h lo=some (.tuple [.str (aO (Int.gcd x y:Nat)),.int .i64 0],h):=by
 have v1:=fun H lo=>wB (wD hx) H lo;have v2:=fun H lo=>wB (wD hy) H lo;rw[oG hx]at v1;rw[oG hy]at v2;have d1:=fun H lo=>yZ hx H lo;have d2:=fun H lo=>yZ hy H lo;have fx:=wC hx;have fy:=wC hy;have fg:=Jw hx hy;obtain⟨w,w1,w2⟩:=agy ⟨h.length,h.length,0,none⟩ h y.natAbs x.natAbs _ _ (uY x) (uY y) (by omega) (by omega)
 have ck:=fun H lo=>FH false w1 (by have:=wC fg;rw[yN]at this;unfold Int.gcd at this;omega) H lo
 have es:iw false (Nat.gcd x.natAbs y.natAbs)=((Int.gcd x y:Nat):Int):=rfl;rw[es,uW fg]at ck;rw[aY (x:=Ni) rfl rfl rfl rfl];simp(maxSteps:=1000000)(disch:=omega)only[go_sem,Ni,v1,v2,d1,d2,w2,ck]
theorem agA{n:Nat}(h:n<10000000000000000000):(d10 n).length<=19:=JB (by have:(10:Nat)^19=10000000000000000000:=(by decide);omega)
theorem agB(n0:Int)(h:Heap):∀(f:Nat) (m:Int) (acc:List Int),m.natAbs<=f->-9223372036854775808<=m->m<=9223372036854775807->acc.length+(d10 m.natAbs).length<=100 ->
  aA lib ⟨h.length,h.length,1,none⟩ (.loop MX) ([(0,.int .i64 n0),(3,bq (h.length+0) (0,.dead) 1 (ints acc)),(4,.int .i64 m)],h++[aX (0,.dead) 1 (ints acc)]) =
   some (.exit 0,([(0,.int .i64 n0),(3,bq (h.length+0) (0,.dead) 1 (ints (acc++d10 m.natAbs)))],h++[aX (0,.dead) 1 (ints (acc++d10 m.natAbs))])):=by
 intro f
 induction f with
 |zero =>
  intro m acc h1 h2 h3 h4;obtain rfl:m=0:=by omega
  have e:d10 (Int.natAbs 0)=[]:=rfl;rw[e,gP,aR]
  simp(maxSteps:=1000000)(disch:=omega)only[go_sem,ne_eq,not_true_eq_false]
 |succ f ih =>
  intro m acc h1 h2 h3 h4;by_cases h0:m=0
  ·subst h0;have e:d10 (Int.natAbs 0)=[]:=rfl;rw[e,gP,aR];simp(maxSteps:=1000000)(disch:=omega)only[go_sem,ne_eq,not_true_eq_false]
  ·have e1:=Int.tmod_add_mul_tdiv m 10;have n1:(m.tdiv 10).natAbs=m.natAbs/10:=by rw[Int.natAbs_tdiv];rfl
   have n2:(m.tmod 10).natAbs=m.natAbs%10:=by rw[Int.natAbs_tmod];rfl
   have hd:d10 m.natAbs=((m.natAbs%10:Nat):Int)::d10 (m.natAbs/10):=rq (by omega)
   have hdl:=congrArg List.length hd;simp only[List.length_cons]at hdl;have k:=ih (m.tdiv 10) (acc++[((m.natAbs%10:Nat):Int)]) (by omega) (by omega) (by omega) (by rw[n1];simp;omega)
   rw[n1,Au acc,Av,eH,List.singleton_append,<-hd]at k;have wq:IntKind.i64.wrap (m.tdiv 10)=m.tdiv 10:=HY (by omega) (by omega)
   have b1:fI .rem (.int .i64 m) (.int .i64 10)=some (.int .i64 (m.tmod 10)):=TU (by omega)
   have b2:fI .quo (.int .i64 m) (.int .i64 10)=some (.int .i64 (m.tdiv 10)):=by rw[TT (by omega),wq]
   have ea:=fun x:Int=>jk (lo:=h.length) (ns:=1) (s:=0) (z:=1) (lim:=17592186044416) (h:=h) (fr:=[aX (0,.dead) 1 (ints acc)]) (b0:=(0,.dead)) (es:=ints acc) (xs:=[.int .i64 x]) (by omega) (aV _) rfl (by simp;omega)
   simp only[List.set_cons_zero]at ea;rw[aR];by_cases hneg:m.tmod 10<0
   ·have e2:-(m.tmod 10)=((m.natAbs%10:Nat):Int):=by omega
    have hp9:m.natAbs%10<=9:=by omega
    generalize m.natAbs%10=p at*;generalize m.tmod 10=r at*;generalize m.tdiv 10=q at*;simp(maxSteps:=1000000)(disch:=omega)only[go_sem,h0,b1,b2,hneg,e2,ea,k]
   ·have e2:m.tmod 10=((m.natAbs%10:Nat):Int):=by omega
    rw[e2]at b1 hneg;generalize m.natAbs%10=p at*;generalize m.tdiv 10=q at*;simp(maxSteps:=1000000)(disch:=omega)only[go_sem,h0,b1,b2,hneg,ea,k]
theorem Xv{n:Int}(h0:-9223372036854775808<=n)(h1:n<=9223372036854775807)(h:Heap)(lo:Nat):(run lib).fn 108 [.int .i64 n] h lo=some (.str (aO n),h):=by
 have hl:=agA (n:=n.natAbs) (by omega)
 have lp:=agB n h n.natAbs n [] (aV _) h0 h1 (by simp;omega)
 rw[List.nil_append]at lp;have i0:bq (h.length+0) (0,.dead) 1 (ints [])=.aD:=rfl;have j0:aX (0,.dead) 1 (ints [])=(0,.dead):=rfl;rw[i0,j0]at lp;have sl:=Sl.acc (h:=h) (fr:=[aX (0,.dead) 1 (ints (d10 n.natAbs))]) (s:=0) (z:=1) (b0:=(0,.dead)) (es:=ints (d10 n.natAbs)) rfl;have tx:=OJ (decide (n<0)) sl (by omega) h.length
 rw[Ox]at tx;rw[aY (x:=MZ) rfl rfl rfl rfl];simp(maxSteps:=1000000)(disch:=omega)only[go_sem,MZ,lp,tx]
end Go.VI.Dump
namespace Go.VI.Dump
open Go.VI.Num
theorem agC{n d:Int}(hn:Fit n)(hd:Fit d)(h:Heap)(lo:Nat):(run lib).fn 107 [.str (aO n),.str (aO d)] h lo=some (jb (vS n d),h):=by
 have v1:=fun H lo=>wB (wD hn) H lo;have v2:=fun H lo=>wB (wD hd) H lo;rw[oG hn]at v1;rw[oG hd]at v2;unfold vS;rw[aY (x:=x107) rfl rfl rfl rfl];by_cases c:d=0
 ·subst c;rw[if_pos rfl,rC]at *;simp(maxSteps:=1000000)(disch:=omega)only[go_sem,x107,v1,v2,jb,bU]
 ·have hz:=FB c;have cm:=fun H lo=>agl hd AA H lo;rw[rC]at cm;have cl:=WZ d;rw[if_neg c]
  have fin:∀{N D:Int},Fit N->Fit D->0<D->Rat.divInt N D=Rat.divInt n d->∃ G R1 R2:Int,(∀ H lo,(run lib).fn 141 [.str (aO N),.str (aO D)] H lo=some (.tuple [.str (aO G),.int .i64 0],H)) /\
    (∀ H lo,(run lib).fn 142 [.str (aO N),.str (aO G)] H lo=some (.tuple [.str (aO (Rat.divInt n d).num),.str (aO R1),.int .i64 0],H)) /\
    (∀ H lo,(run lib).fn 142 [.str (aO D),.str (aO G)] H lo=some (.tuple [.str (aO ((Rat.divInt n d).den:Int)),.str (aO R2),.int .i64 0],H)):=by
   intro N D hN hD hp he;have hG:=Jw hN hD;have hG0:=W9 (n:=N) (d:=D) (by omega)
   refine⟨(Int.gcd N D:Nat),N%(Int.gcd N D:Nat),D%(Int.gcd N D:Nat),fun H lo=>agz hN hD H lo,fun H lo=>?_,fun H lo=>?_⟩
   ·rw[<-he,VF hp];exact Xu hN hG hG0 H lo
   ·rw[<-he,VG hp];exact Xu hD hG hG0 H lo
  generalize bR d 0=q at*;by_cases c2:d<0
  ·obtain⟨G,R1,R2,g1,g2,g3⟩:=fin (yY hn) (yY hd) (by omega) (Rat.neg_divInt_neg n d)
   have s1:=fun H lo=>Xr AA hn H lo;have s2:=fun H lo=>Xr AA hd H lo;rw[rC,Int.zero_sub,uW (yY hn)]at s1;rw[rC,Int.zero_sub,uW (yY hd)]at s2;have cl':q<0:=cl.mpr c2;clear fin;simp(maxSteps:=1000000)(disch:=omega)only[go_sem,x107,v1,v2,hz,cm,cl',s1,s2,g1,g2,g3,jb,rt,bU]
  ·obtain⟨G,R1,R2,g1,g2,g3⟩:=fin hn hd (by omega) rfl
   have cl':¬ q<0:=fun h=>c2 (cl.mp h);clear fin;simp(maxSteps:=1000000)(disch:=omega)only[go_sem,x107,v1,v2,hz,cm,cl',g1,g2,g3,jb,rt,bU]
theorem agD{n d:Int}(hn:Fit n)(hd:Fit d)(hn1:-9223372036854775808<=n/\n<=9223372036854775807)(hd1:-9223372036854775808<=d/\d<=9223372036854775807)(h:Heap)(lo:Nat):(run lib).fn 80 [.int .i64 n,.int .i64 d] h lo=some (jb (vS n d),h):=by
 have f1:=fun H lo=>Xv hn1.1 hn1.2 H lo;have f2:=fun H lo=>Xv hd1.1 hd1.2 H lo;have m:=fun H lo=>agC hn hd H lo;obtain⟨s1,s2,e,he⟩:=OH (vS n d);rw[he]at m⊢;rw[aY (x:=x80) rfl rfl rfl rfl];simp(maxSteps:=1000000)(disch:=omega)only[go_sem,x80,f1,f2,m]
end Go.VI.Dump
