/- What the functions on integers compute, part MB. -/
import Derived.Test.YtfpoegnmeoghpaaGreatDoorDumpTab
import Derived.Test.YtfpoegnmeoghpaaGreatDoorVGS
import Derived.Test.YtfpoegnmeoghpaaGreatDoorDumpMA
import Derived.Test.YtfpoegnmeoghpaaGreatDoorVIU2
set_option linter.unusedVariables false
set_option linter.unusedSimpArgs false
namespace Go.VI.Dump
open Go.VI.Num
def ints(l:List Int):List AV:=l.map (.int .i64)
@[simp] theorem jY (l:List Int):(ints l).length=l.length:=by simp [ints]
theorem uo(l:List Int)(k:Nat)(h:k<(ints l).length):(ints l)[k]=.int .i64 (l[k]'(by simpa using h)):=by simp[ints]
theorem FE(a b:List Int):ints (a++b)=ints a++ints b:=by simp[ints]
theorem FH(x:Int):ints [x]=[.int .i64 x]:=rfl
theorem jo(k:Nat):((k+1:Nat):Int)=(k:Int)+1:=by simp
theorem Lg{v:AV}{l:List Int}{h:Heap}(hv:Sl h 1 v (ints l))(hl:l.length<=1000000)(i:Nat)(hi:i<=1000000)(lo:Nat):(run lib).fn 152 [v,.int .i64 i] h lo=some (.int .i64 (l.getD i 0),h):=by
 have s3:=iB hv.len;rw[jY]at s3;rw[bW (x:=x152) rfl rfl rfl rfl];by_cases c:i<l.length
 ·have c1:(i:Int)<l.length:=by omega
  have e3:iM 1 v (.int .i64 i)=some i:=by rw[kr hv (by omega) (by simp;omega)];simp
  have e4:=fun off=>jV (off:=off) hv.jW (show i<(ints l).length by simp;omega)
  simp only[uo]at e4;have hg:l.getD i 0=l[i]:=by rw[nX,kN c];rfl
  rw[hg];simp(maxSteps:=1000000)(disch:=omega)only[go_sem,x152,s3,c1,e3,e4]
 ·have c1:¬ (i:Int)<l.length:=by omega
  rw[zS (by omega)]
  simp(maxSteps:=1000000)(disch:=omega)only[go_sem,x152,s3,c1]
theorem amO{f:Nat}{caps:List AV}{g:Nat->Int}{n:Nat}(hf:f<1000)(hn:n<=100000)(hd:∀(i:Nat) (h:Heap) (lo:Nat),i<=200000->(run lib).fn f (.int .i64 i::caps) h lo=some (.int .i64 (g i),h))(hg:∀ i,-9999<=g i/\g i<=100000000)(h:Heap)(fu:Nat) :
  ∀(i:Nat) (c:Int) (acc:List Int),i+fu<=200000->acc.length=i->-1<=c->c<=20000->yK g n fu i c=true ->
  aQ lib ⟨h.length,h.length,2,none⟩ (.loop O8) ([(0,.int .i64 n),(1,.int .i64 c),(2,.fn f caps),(7,.ref (h.length+1) 1 1 0 acc.length acc.length),(8,.int .i64 i)],h++[(0,.dead),(1,.arr 1 (ints acc))]) =
   some (.exit 0,([(7,.ref (h.length+1) 1 1 0 (acc++ni g n fu i c).length (acc++ni g n fu i c).length)],h++[(0,.dead),(1,.arr 1 (ints (acc++ni g n fu i c)))])):=by
 induction fu with
 |zero =>
  intro i c acc h1 h2 h3 h4 h5;simp only[yK,decide_eq_true_eq]at h5;have c1:¬ (i:Int)<n:=by omega
  have c2:c=0:=by omega
  subst c2;rw[bU];simp only[ni,nI]
  simp(maxSteps:=1000000)(disch:=omega)only[go_sem,c1]
 |succ fu ih =>
  intro i c acc h1 h2 h3 h4 h5;by_cases hst:i<n\/c≠0
  ·have hdi:=fun h lo=>hd i h lo (by omega)
   have hgi:=hg i;have ea:=fun x:Int=>Hf (cx:=⟨h.length,h.length,2,none⟩) (s:=0) (z:=1) (lim:=17592186044416) (id:=h.length+1) (ai:=1) (h:=h++[(0,.dead),(1,.arr 1 (ints acc))]) (es:=ints acc) (xs:=[.int .i64 x]) (by rw[cO];rfl) (by simp) (by simp;omega)
   simp only[jY,gy,List.set_cons_succ,List.set_cons_zero,List.length_singleton]at ea
   have key:∀(x c':Int),-1<=c'->c'<=20000->yK g n fu (i+1) c'=true->aQ lib ⟨h.length,h.length,2,none⟩ (.loop O8) ([(0,.int .i64 n),(1,.int .i64 c'),(2,.fn f caps),(7,.ref (h.length+1) 1 1 0 (acc.length+1) (acc.length+1)),(8,.int .i64 ((i:Int)+1))],h++[(0,.dead),(1,.arr 1 (ints acc++[.int .i64 x]))]) =
     some (.exit 0,([(7,.ref (h.length+1) 1 1 0 (acc++x::ni g n fu (i+1) c').length (acc++x::ni g n fu (i+1) c').length)],h++[(0,.dead),(1,.arr 1 (ints (acc++x::ni g n fu (i+1) c')))])):=fun x c' k1 k2 k3=>by
    have:=ih (i+1) c' (acc++[x]) (by omega) (by simp;omega) k1 k2 k3
    rw[jo,FE,FH,jO,List.singleton_append]at this;simpa using this
   have hif:((i:Int)<n)\/(¬ (i:Int)<n/\¬ c=0):=by omega
   simp only[yK,ni,hst,if_true]at h5⊢;generalize g i=y at*;have w1:IntKind.i64.wrap (y+c)=y+c:=OC (by omega) (by omega)
   by_cases c1:y+c<0
   ·rw[if_pos c1]at h5⊢;have k:=key (y+c+10000) (-1) (by omega) (by omega) h5
    rw[bU];rcases hif with c3|⟨c3,c4⟩
    ·simp(maxSteps:=1000000)(disch:=omega)only[go_sem,c3,hf,hdi,w1,c1,ea,k]
    ·simp(maxSteps:=1000000)(disch:=omega)only[go_sem,c3,c4,hf,hdi,w1,c1,ea,k]
   ·rw[if_neg c1]at h5⊢;by_cases c2:10000<=y+c
    ·rw[if_pos c2]at h5⊢;have k:=key ((y+c)%10000) ((y+c)/10000) (by omega) (by omega) h5
     rw[bU];rcases hif with c3|⟨c3,c4⟩
     ·simp(maxSteps:=1000000)(disch:=omega)only[go_sem,c3,hf,hdi,w1,c1,c2,ea,k]
     ·simp(maxSteps:=1000000)(disch:=omega)only[go_sem,c3,c4,hf,hdi,w1,c1,c2,ea,k]
    ·rw[if_neg c2]at h5⊢;have k:=key (y+c) 0 (by omega) (by omega) h5
     rw[bU];rcases hif with c3|⟨c3,c4⟩
     ·simp(maxSteps:=1000000)(disch:=omega)only[go_sem,c3,hf,hdi,w1,c1,c2,ea,k]
     ·simp(maxSteps:=1000000)(disch:=omega)only[go_sem,c3,c4,hf,hdi,w1,c1,c2,ea,k]
  ·have c1:¬ (i:Int)<n:=by omega
   have c2:c=0:=by omega
   subst c2;rw[bU];simp only[ni,hst,if_false,nI];simp(maxSteps:=1000000)(disch:=omega)only[go_sem,c1]
end Go.VI.Dump
namespace Go.VI.Dump
open Go.VI.Num
theorem Va{f:Nat}{caps:List AV}{g:Nat->Int}{n:Nat}(hf:f<1000)(hn:n<=100000)(hd:∀(i:Nat) (h:Heap) (lo:Nat),i<=200000->(run lib).fn f (.int .i64 i::caps) h lo=some (.int .i64 (g i),h))(hg:∀ i,-9999<=g i/\g i<=100000000)(he:yK g n (n+3) 0 0=true)(h:Heap)(lo:Nat) :
  (run lib).fn 150 [.int .i64 n,.int .i64 0,.fn f caps] h lo=some (.own 1 (ints (ni g n (n+3) 0 0)),h):=by
 have e:=amO hf hn hd hg h (n+3) 0 0 [] (by omega) rfl (by omega) (by omega) he
 simp only[List.nil_append,List.length_nil,qX,ints,List.map_nil]at e;have hmk:=fun hh=>SK (h:=hh) (cx:=⟨h.length,h.length,2,none⟩) (s:=1) (z:=1) (zero:=.int .i64 0) (lim:=17592186044416) (k:=.i64) (k':=.i64) (a:=0) (b:=(n:Int)+1) (by omega) (by omega) (by omega)
 have hgv:=Hl (s:=1) (ai:=1) (z:=1) (h:=h) (es:=ints (ni g n (n+3) 0 0)) (fr:=[(0,.dead),(1,.arr 1 (ints (ni g n (n+3) 0 0)))]) rfl;simp only[ints,List.length_map]at hgv;rw[bW (x:=x150) rfl rfl rfl rfl];simp only[ints];simp(maxSteps:=1000000)(disch:=omega)only[go_sem,x150,hmk,Fb,List.replicate_zero,e,jf,hgv,Option.map_some]
theorem amP{v u:AV}{a b:List Int}(hv:cK 1 v (ints a))(hu:cK 1 u (ints b))(ha:a.length<=1000000)(hb:b.length<=1000000)(da:gZ a)(db:gZ b)(i:Nat)(h:Heap)(lo:Nat)(hi:i<=200000) :
  (run lib).fn 151 [.int .i64 i,.bR [v],.bR [u]] h lo=some (.int .i64 (a.getD i 0+b.getD i 0),h):=by
 have e1:=fun H lo=>Lg (hv.sl H) ha i (by omega) lo
 have e2:=fun H lo=>Lg (hu.sl H) hb i (by omega) lo
 have g1:=uf da i;have g2:=uf db i;rw[bW (x:=x151) rfl rfl rfl rfl];generalize a.getD i 0=x at*;generalize b.getD i 0=y at*;simp(maxSteps:=1000000)(disch:=omega)only[go_sem,x151,e1,e2]
theorem amQ{v u:AV}{a b:List Int}(hv:cK 1 v (ints a))(hu:cK 1 u (ints b))(ha:a.length<=1000000)(hb:b.length<=1000000)(da:gZ a)(db:gZ b)(i:Nat)(h:Heap)(lo:Nat)(hi:i<=200000) :
  (run lib).fn 153 [.int .i64 i,.bR [v],.bR [u]] h lo=some (.int .i64 (a.getD i 0-b.getD i 0),h):=by
 have e1:=fun H lo=>Lg (hv.sl H) ha i (by omega) lo
 have e2:=fun H lo=>Lg (hu.sl H) hb i (by omega) lo
 have g1:=uf da i;have g2:=uf db i;rw[bW (x:=x153) rfl rfl rfl rfl];generalize a.getD i 0=x at*;generalize b.getD i 0=y at*;simp(maxSteps:=1000000)(disch:=omega)only[go_sem,x153,e1,e2]
theorem amR{v:AV}{a:List Int}(hv:cK 1 v (ints a))(ha:a.length<=1000000)(da:gZ a)(k:Int)(hk:0<=k/\k<=10000)(i:Nat)(h:Heap)(lo:Nat)(hi:i<=200000) :
  (run lib).fn 176 [.int .i64 i,.bR [v],.bR [.int .i64 k]] h lo=some (.int .i64 (a.getD i 0*k),h):=by
 have e1:=fun H lo=>Lg (hv.sl H) ha i (by omega) lo
 have g1:=uf da i;have h2:0<=a.getD i 0*k:=Int.mul_nonneg g1.1 hk.1;have h3:a.getD i 0*k<=9999*10000:=Int.mul_le_mul g1.2 hk.2 hk.1 (by omega)
 rw[bW (x:=UC) rfl rfl rfl rfl];have w1:IntKind.i64.wrap (a.getD i 0*k)=a.getD i 0*k:=OC (by omega) (by omega)
 simp(maxSteps:=1000000)(disch:=omega)only[go_sem,UC,e1,w1]
theorem acI{l:List Int}(hl:l.length<=1000000)(cx:Cx)(H:Heap):∀ k:Nat,k<=l.length ->
  aQ lib cx (.loop HY) ([(0,.aW 1 (ints (l.take k)))],H)=some (.exit 0,([(0,.aW 1 (ints (l.take (pG l k))))],H)):=by
 intro k
 induction k with
 |zero =>
  intro hk;rw[bU];have s3:oH false (.aW 1 (ints []))=some (.int .i64 0):=rfl;simp only[List.take_zero,pG]
  simp(maxSteps:=1000000)(disch:=omega)only[go_sem,s3,nR]
 |succ k ih =>
  intro hk;have hs:=Sl.aW H 1 (ints (l.take (k+1)));have s3:=iB hs.len;rw[jY,qi,zG hk,jo]at s3;have hlen:(ints (l.take (k+1))).length=k+1:=by simp;omega
  have c1:(0:Int)<(k:Int)+1:=by omega
  have e0:(k:Int)+1-1=k:=by omega
  have e3:iM 1 (.aW 1 (ints (l.take (k+1)))) (.int .i64 k)=some k:=by rw[kr hs (by omega) (by rw[hlen];omega)];simp
  have e4:=fun off=>jV (off:=off) hs.jW (show k<(ints (l.take (k+1))).length by rw[hlen];omega)
  simp only[uo,List.getElem_take]at e4;have hg:l.getD k 0=l[k]:=by rw[nX,kN (by omega)];rfl
  have hsl:pQ (some 1) (.aW 1 (ints (l.take (k+1)))) none (some (.int .i64 k))=some (.aW 1 (ints (l.take k))):=by
   have hb:bnd (some (.int .i64 k)) (k+1) (k+1)=some k:=by rw[Hg (by omega) (by omega)];simp
   simp only[pQ,jd,beq_self_eq_true,Bool.true_or,if_true,hlen,hb,Option.bind_some];simp[bnd,ints,List.take_take]
  have ih':=ih (by omega)
  simp only[pG,hg];rw[bU];by_cases c2:l[k]=0
  ·rw[if_pos c2];simp(maxSteps:=1000000)(disch:=omega)only[go_sem,s3,c1,e0,e3,e4,c2,hsl,ih']
  ·rw[if_neg c2];simp(maxSteps:=1000000)(disch:=omega)only[go_sem,s3,c1,e0,e3,e4,c2]
theorem Qi{l:List Int}(hl:l.length<=1000000)(h:Heap)(lo:Nat):(run lib).fn 146 [.aW 1 (ints l)] h lo=some (.aW 1 (ints (iF l)),h):=by
 have e:=fun cx H=>acI hl cx H l.length (bC _);simp only[qj]at e;rw[bW (x:=Cu) rfl rfl rfl rfl];unfold iF;simp(maxSteps:=1000000)(disch:=omega)only[go_sem,Cu,e]
theorem Vb(cx:Cx)(z:Nat)(es:List AV)(H:Heap):zN cx [(0,0)] (some (.aW z es,H))=some (.aW z es,H):=rfl
theorem Io(g:Nat->Int)(n:Nat):∀(f i:Nat) (c:Int),(ni g n f i c).length<=f
 |0,_,_=>bC _
 |f+1,i,c=>by
  simp only[ni];split
  ·split
   ·have:=Io g n f (i+1) (-1);simp;omega
   ·split
    ·have:=Io g n f (i+1) ((g i+c)/10000);simp;omega
    ·have:=Io g n f (i+1) 0;simp;omega
  ·simp
theorem Lh{z:Nat}{v:AV}{es:List AV}(p:cK z v es):∃ v',(∀ b k h,bL b k v h=some (v',h))/\v.val=true/\v'.val=true/\cK z v' es/\v'.cells=[v']:=by
 rcases p with⟨rfl,rfl⟩|⟨z',rfl|rfl,hz⟩
 ·exact⟨.aW 0 [],fun b k h=>by simp[VI.bL],rfl,rfl,.inr ⟨0,.inl rfl,.inr rfl⟩,rfl⟩
 ·exact⟨.aW z' es,fun b k h=>by simp[VI.bL],rfl,rfl,.inr ⟨z',.inl rfl,hz⟩,rfl⟩
 ·exact⟨.bF z' es,fun b k h=>by simp[VI.bL],rfl,rfl,.inr ⟨z',.inr rfl,hz⟩,rfl⟩
theorem Qj{v u:AV}{a b:Nat}(hv:cK 1 v (ints (aC a)))(hu:cK 1 u (ints (aC b)))(ha:(aC a).length<=50000)(hb:(aC b).length<=50000)(h:Heap)(lo:Nat) :
  (run lib).fn 111 [v,u] h lo=some (.aW 1 (ints (aC (a+b))),h):=by
 obtain⟨v',f1,f2,f3,f4,f5⟩:=Lh hv;obtain⟨u',g1,g2,g3,g4,g5⟩:=Lh hu;have da:=tZ a;have db:=tZ b
 have fo:=Va (f:=151) (caps:=[.bR [v'],.bR [u']]) (g:=fun i=>(aC a).getD i 0+(aC b).getD i 0) (n:=max (aC a).length (aC b).length) (by omega) (by omega)
  (fun i h lo hi=>amP f4 g4 (by omega) (by omega) da db i h lo hi) (fun i=>by have:=uf da i;have:=uf db i;omega)
  (UG (fun i=>by have:=uf da i; have:=uf db i; omega) (fun i hi=>by rw [zS (by omega),zS (by omega)]; rfl) _ 0 0 (by omega) (by omega) (fun _=>by omega) (fun h=>by omega) (by
   rw[PX,uS (aC a) _ _ (by omega),uS (aC b) _ _ (by omega)]
   have:=xH da;have:=xH db;simp only[List.drop_zero];omega))
 have hp:=amj da db;rw[qW,qW]at hp;have e0:((a:Int)+b).toNat=a+b:=by omega
 rw[e0]at hp;have hFl:=Io (fun i=>(aC a).getD i 0+(aC b).getD i 0) (max (aC a).length (aC b).length) (max (aC a).length (aC b).length+3) 0 0;generalize ni (fun i=>(aC a).getD i 0+(aC b).getD i 0) (max (aC a).length (aC b).length) (max (aC a).length (aC b).length+3) 0 0=F at*;have ht:=Qi (l:=F) (by omega)
 rw[hp]at ht;have s1:=iB (f4.sl []).len;have s2:=iB (g4.sl []).len;simp only[jY]at s1 s2;have em:max ((aC a).length:Int) ((aC b).length:Int)=((max (aC a).length (aC b).length:Nat):Int):=by omega
 rw[bW (x:=TV) rfl rfl rfl rfl];simp(maxSteps:=1000000)(disch:=omega)only[go_sem,TV,f1,f2,f3,f5,g1,g2,g3,g5,s1,s2,em,fo,ht,Vb]
theorem Qk{v u:AV}{a b:Nat}(hv:cK 1 v (ints (aC a)))(hu:cK 1 u (ints (aC b)))(hab:b<=a)(ha:(aC a).length<=50000)(h:Heap)(lo:Nat) :
  (run lib).fn 113 [v,u] h lo=some (.aW 1 (ints (aC (a-b))),h):=by
 obtain⟨v',f1,f2,f3,f4,f5⟩:=Lh hv;obtain⟨u',g1,g2,g3,g4,g5⟩:=Lh hu;have da:=tZ a;have db:=tZ b;have hbl:=DN hab;have hz:∀ i,(aC a).length<=i->(aC a).getD i 0-(aC b).getD i 0=0:=fun i hi=>by rw[zS (by omega),zS (by omega)];rfl
 have hg:∀ i,-9999<=(aC a).getD i 0-(aC b).getD i 0/\(aC a).getD i 0-(aC b).getD i 0<=100000000:=fun i=>by have:=uf da i;have:=uf db i;omega
 have fo:=Va (f:=153) (caps:=[.bR [v'],.bR [u']]) (g:=fun i=>(aC a).getD i 0-(aC b).getD i 0) (n:=(aC a).length) (by omega) (by omega)
  (fun i h lo hi=>amQ f4 g4 (by omega) (by omega) da db i h lo hi) hg
  (UG hg hz _ 0 0 (by omega) (by omega) (fun _=>by omega) (fun h=>by omega) (by
   rw[PY,uS (aC a) _ _ (by omega),uS (aC b) _ _ (by omega),List.drop_zero,List.drop_zero,qW,qW];omega))
 have hp:=amk da db hbl (by rw[qW,qW];omega)
 rw[qW,qW]at hp;have e0:((a:Int)-b).toNat=a-b:=by omega
 rw[e0]at hp;have hFl:=Io (fun i=>(aC a).getD i 0-(aC b).getD i 0) (aC a).length ((aC a).length+3) 0 0;generalize ni (fun i=>(aC a).getD i 0-(aC b).getD i 0) (aC a).length ((aC a).length+3) 0 0=F at*;have ht:=Qi (l:=F) (by omega)
 rw[hp]at ht;have s1:=iB (f4.sl []).len;have s2:=iB (g4.sl []).len;simp only[jY]at s1 s2;rw[bW (x:=x113) rfl rfl rfl rfl];simp(maxSteps:=1000000)(disch:=omega)only[go_sem,x113,f1,f2,f3,f5,g1,g2,g3,g5,s1,s2,fo,ht,Vb]
theorem Vd{v:AV}{a k:Nat}(hv:cK 1 v (ints (aC a)))(hk:k<=10000)(ha:(aC a).length<=50000)(h:Heap)(lo:Nat) :
  (run lib).fn 147 [v,.int .i64 k] h lo=some (.aW 1 (ints (aC (a*k))),h):=by
 obtain⟨v',f1,f2,f3,f4,f5⟩:=Lh hv;have da:=tZ a;have hz:∀ i,(aC a).length<=i->(aC a).getD i 0*(k:Int)=0:=fun i hi=>by rw[zS (by omega),Int.zero_mul]
 have hg:∀ i,-9999<=(aC a).getD i 0*(k:Int)/\(aC a).getD i 0*(k:Int)<=100000000:=fun i=>by
  have g1:=uf da i;have h2:0<=(aC a).getD i 0*(k:Int):=Int.mul_nonneg g1.1 (by omega)
  have h3:(aC a).getD i 0*(k:Int)<=9999*10000:=Int.mul_le_mul g1.2 (by omega) (by omega) (by omega)
  omega
 have fo:=Va (f:=176) (caps:=[.bR [v'],.bR [.int .i64 k]]) (g:=fun i=>(aC a).getD i 0*(k:Int)) (n:=(aC a).length) (by omega) (by omega)
  (fun i h lo hi=>amR f4 (by omega) da k (by omega) i h lo hi) hg
  (UG hg hz _ 0 0 (by omega) (by omega) (fun _=>by omega) (fun h=>by omega) (by
   rw[P5,uS (aC a) _ _ (by omega),List.drop_zero,qW,yL]
   exact Int.mul_nonneg (by omega) (by omega)))
 have hp:=aml da (k:=(k:Int)) (by omega)
 rw[qW]at hp;have e0:((a:Int)*k).toNat=a*k:=by rw[<-Int.natCast_mul];exact wK _
 rw[e0]at hp;have hFl:=Io (fun i=>(aC a).getD i 0*(k:Int)) (aC a).length ((aC a).length+3) 0 0;generalize ni (fun i=>(aC a).getD i 0*(k:Int)) (aC a).length ((aC a).length+3) 0 0=F at*;have ht:=Qi (l:=F) (by omega)
 rw[hp]at ht;have s1:=iB (f4.sl []).len;simp only[jY]at s1;rw[bW (x:=Ur) rfl rfl rfl rfl];simp(maxSteps:=1000000)(disch:=omega)only[go_sem,Ur,f1,f2,f3,f5,s1,fo,ht,Vb]
theorem Ve(n:Int)(h:Heap)(lo:Nat):(run lib).fn 178 [.int .i64 n] h lo=some (.bool false,h):=by
 rw[bW (x:=UD) rfl rfl rfl rfl];simp(maxSteps:=1000000)(disch:=omega)only[go_sem,UD,ne_eq,not_true_eq_false,decide_false]
theorem acK(a b:Int)(h:Heap)(lo:Nat):(run lib).fn 156 [.int .i64 a,.int .i64 b] h lo=some (.int .i64 (eX a b),h):=by
 rw[bW (x:=KV) rfl rfl rfl rfl];unfold eX;by_cases h1:a<b
 ·rw[if_pos h1];simp(maxSteps:=1000000)(disch:=omega)only[go_sem,KV,Ve,h1]
 ·rw[if_neg h1];by_cases h2:a=b
  ·rw[if_pos h2];have h3:¬ b<a:=by omega
   simp(maxSteps:=1000000)(disch:=omega)only[go_sem,KV,Ve,h1,h3]
  ·rw[if_neg h2];have h3:b<a:=by omega
   simp(maxSteps:=1000000)(disch:=omega)only[go_sem,KV,Ve,h1,h3]
end Go.VI.Dump
namespace Go.VI.Dump
open Go.VI.Num
def rq{σ:Type}(Y:σ->Nat->Bool×σ):Nat->σ->σ
 |0,s=>s
 |k+1,s=>if (Y s k).1 then rq Y k (Y s k).2 else(Y s k).2
section
variable {σ:Type}{H:σ->Heap}{nb lo id:Nat}{Y:σ->Nat->Bool×σ}{Iv:Nat->σ->Prop}
theorem amS{v:AV}{l:List Int}(hv:cK 1 v (ints l))(hl:l.length<=1000000)
  (hI:∀ k s,k<l.length->Iv (k+1) s->(Y s k).1=true->Iv k (Y s k).2)
  (hy:∀ k s (hk:k<l.length),Iv (k+1) s->iY (run lib) ⟨lo,nb,0,none⟩ id 1 [.int .i64 k,.int .i64 l[k]] (H s)=some (.bool (Y s k).1,H (Y s k).2)) :
  ∀(k:Nat) (j:Int) (s:σ),j=(k:Int)-1->k<=l.length->Iv k s ->
  ∃ e,(e=.exit 0\/e=.ret)/\aQ lib ⟨lo,nb,0,none⟩ (.loop UB) ([(0,.dY id 1),(1,.bR [v]),(3,.int .i64 j)],H s)=some (e,([],H (rq Y k s))):=by
 intro k
 induction k with
 |zero =>
  intro j s hj hk hi;subst hj;refine⟨.exit 0,.inl rfl, ?_⟩;have c1:¬ (0:Int)<=-1:=by omega
  rw[bU];simp only[rq]
  simp(maxSteps:=1000000)(disch:=omega)only[go_sem,c1,Int.zero_sub,Int.reduceNeg]
 |succ k ih =>
  intro j s hj hk hi;obtain rfl:j=(k:Int):=by omega
  have c1:(0:Int)<=(k:Int):=by omega
  have e3:iM 1 v (.int .i64 k)=some k:=by rw[kr (hv.sl (H s)) (by omega) (by simp;omega)];simp
  have e4:=fun off H=>jV (off:=off) ((hv.sl H).jW) (show k<(ints l).length by simp;omega)
  simp only[uo]at e4;have y:=hy k s (by omega) hi
  have hI':=hI k s (by omega) hi
  simp only[rq];generalize Y s k=p at*;obtain⟨r,s'⟩:=p;simp only[]at y hI'⊢
  cases r with
  |true =>
   obtain⟨e,h1,h2⟩:=ih ((k:Int)-1) s' rfl (by omega) (hI' rfl)
   refine⟨e,h1, ?_⟩;rw[bU];simp only[if_true]
   simp(maxSteps:=1000000)(disch:=omega)only[go_sem,c1,e3,e4,y,h2]
  |false =>
   refine⟨.ret,.inr rfl, ?_⟩;rw[bU];simp only[iw,if_false];simp(maxSteps:=1000000)(disch:=omega)only[go_sem,c1,e3,e4,y]
theorem Ql{v:AV}{l:List Int}(hv:cK 1 v (ints l))(hl:l.length<=1000000)(hlen:∀ s,(H s).length=nb)(hlo:lo<=nb)
  (hI:∀ k s,k<l.length->Iv (k+1) s->(Y s k).1=true->Iv k (Y s k).2)
  (hy:∀ k s (hk:k<l.length),Iv (k+1) s->iY (run lib) ⟨lo,nb,0,none⟩ id 1 [.int .i64 k,.int .i64 l[k]] (H s)=some (.bool (Y s k).1,H (Y s k).2)) (s:σ) (hi:Iv l.length s) :
  (run lib).fn 175 [.dY id 1,.bR [v]] (H s) lo=some (.tuple [],H (rq Y l.length s)):=by
 obtain⟨e,h1,h2⟩:=amS hv hl hI hy l.length ((l.length:Int)-1) s rfl (bC _) hi;have s1:=iB (hv.sl []).len;simp only[jY]at s1;rw[oZ (x:=H6) rfl rfl rfl rfl (by rw[hlen];exact hlo)]
 have hr:∀(H:Heap),H++List.replicate H6.ns (0,au.dead)=H:=fun H=>by simp[H6]
 have ht:∀ s',(H s').take (H s).length=H s':=fun s'=>by rw[hlen s,<-hlen s',qj]
 rw[hr];rw[<-hlen s]at h2;rcases h1 with rfl|rfl
 ·simp(maxSteps:=1000000)(disch:=omega)only[go_sem,H6,s1,h2,ht]
 ·simp(maxSteps:=1000000)(disch:=omega)only[go_sem,H6,s1,h2,ht]
end
theorem CK{z:Nat}{v:AV}{es:List AV}(p:cK z v es):∃ v',(∀ b k h,bL b k v h=some (v',h))/\(∀ b k h,bL b k v' h=some (v',h))/\v.val=true/\v'.val=true/\cK z v' es/\v'.cells=[v']:=by
 rcases p with⟨rfl,rfl⟩|⟨z',rfl|rfl,hz⟩
 ·exact⟨.aW 0 [],fun b k h=>by simp[VI.bL],fun b k h=>by simp[VI.bL],rfl,rfl,.inr ⟨0,.inl rfl,.inr rfl⟩,rfl⟩
 ·exact⟨.aW z' es,fun b k h=>by simp[VI.bL],fun b k h=>by simp[VI.bL],rfl,rfl,.inr ⟨z',.inl rfl,hz⟩,rfl⟩
 ·exact⟨.bF z' es,fun b k h=>by simp[VI.bL],fun b k h=>by simp[VI.bL],rfl,rfl,.inr ⟨z',.inr rfl,hz⟩,rfl⟩
theorem Qm(v v':AV)(hf:∀ b k h,bL b k v h=some (v',h))(hf':∀ b k h,bL b k v' h=some (v',h))(hv:v.val=true)(hc:v'.cells=[v'])(h:Heap)(lo:Nat):(run lib).fn 145 [v] h lo=some (.fn 175 [.bR [v']],h):=by
 rw[bW (x:=Uq) rfl rfl rfl rfl];simp(maxSteps:=1000000)(disch:=omega)only[go_sem,Uq,hf,hf',hv,hc]
end Go.VI.Dump
namespace Go.VI.Dump
open Go.VI.Num
def DW(l m:List Int)(s:Option Int)(k:Nat):Bool×Option Int:=if l.getD k 0=m.getD k 0 then(true,s) else(false,some (eX (l.getD k 0) (m.getD k 0)))
theorem acL(l m:List Int):∀ k,(match rq (DW l m) k none with|none=>xI l m k=0|some c=>xI l m k=c)
 |0=>rfl
 |k+1=>by
  have ih:=acL l m k;simp only[rq,DW,xI];by_cases c:l.getD k 0=m.getD k 0
  ·simp only[c,if_true];exact ih
  ·simp only[c,if_false,iw];unfold eX;by_cases c2:l.getD k 0<m.getD k 0
   ·rw[if_pos c2,if_pos c2]
   ·rw[if_neg c2,if_neg c2,if_neg c]
def Ab(h:Heap)(v u:AV):Env:=[(3,.bR [u]),(4,.aF (h.length+1) 1 0),(18,.fn 175 [.bR [v]])]
def Li(h:Heap)(v u:AV)(s:Option Int):Heap:=h++[(1,.ax ⟨11,h.length,h.length,2,Ab h v u⟩ (match s with|none=>.ready|some _=>.done .ret)),(1,.box [.int .i64 (s.getD 0)])]
theorem amT{v u:AV}{l m:List Int}(hu:cK 1 u (ints m))(hl:l.length=m.length)(hm:m.length<=1000000)(h:Heap)(k:Nat)(hk:k<l.length)(lo:Nat)(hlo:lo<=h.length) :
  iY (run lib) ⟨lo,h.length+2,0,none⟩ (h.length+0) 1 [.int .i64 k,.int .i64 l[k]] (Li h v u none)=some (.bool (DW l m none k).1,Li h v u (DW l m none k).2):=by
 obtain⟨D,hD⟩:∃ D:dO,D=⟨11,h.length,h.length,2,Ab h v u⟩:=⟨_,rfl⟩;have gl:l.getD k 0=l[k]:=by rw[nX,kN hk];rfl
 have gm:m.getD k 0=m[k]:=by rw[nX,kN (by omega)];rfl
 have e3:iM 1 u (.int .i64 k)=some k:=by rw[kr (hu.sl []) (by omega) (by simp;omega)];simp
 have e4:=fun off H=>jV (off:=off) ((hu.sl H).jW) (show k<(ints m).length by simp;omega)
 simp only[uo]at e4;simp only[DW,gl,gm];generalize l[k]=x at*;generalize m[k]=y at*;simp only[Li,<-hD]
 have ha:aQ lib ⟨h.length,h.length,2,some (h.length+0,1)⟩ Ba.jE ((Ba.ps.zip [.int .i64 k,.int .i64 x]).foldl (fun e p=>e.set p.1 p.2) (Ab h v u),h++[(1,.ax D .ready),(1,.box [.int .i64 0])]) =
   some (.norm,([(3,.bR [u]),(4,.aF (h.length+1) 1 0),(5,.int .i64 k),(6,.int .i64 x)],h++[(1,.ax D .ready),(1,.box [.int .i64 0])])):=by
  simp(maxSteps:=1000000)(disch:=omega)only[go_sem,Ba,Ab,List.zip_cons_cons,Ac,List.foldl_cons,wL]
 have hg:(h++[(1,au.ax D .ready),(1,.box [.int .i64 0])])[h.length+0]?=some (1,.ax ⟨11,h.length,h.length,2,Ab h v u⟩ .ready):=by rw[cO,<-hD];rfl
 by_cases c:x=y
 ·have hb:∃ jl,aQ lib ⟨h.length,h.length,2,some (h.length+0,1)⟩ Ba.body ([(3,.bR [u]),(4,.aF (h.length+1) 1 0),(5,.int .i64 k),(6,.int .i64 x)],(h++[(1,au.ax D .ready),(1,au.box [.int .i64 0])]).set (h.length+0) (1,.ax D .busy)) =
    some (.norm,(jl,h++[(1,.ax D .busy),(1,.box [.int .i64 0])])):=by
   refine⟨[(3,.bR [u]),(4,.aF (h.length+1) 1 0),(5,.int .i64 k),(6,.int .i64 x),(26,.bool false)], ?_⟩;subst c;rw[gy];simp(maxSteps:=1000000)(disch:=omega)only[go_sem,Ba,abX,e3,e4,ne_eq,not_true_eq_false]
  obtain⟨jl,hb⟩:=hb;have:=xG (L:=lib) (cx:=⟨lo,h.length+2,0,none⟩) hg hlo (by omega) (by omega) (by simp[AV.l5,AV.closed]) (x:=Ba) rfl rfl ha (by rw[cO];rfl) hb (by rw[cO];rfl)
  rw[if_pos c];simp only[Option.getD_none];rw[this,gy];rfl
 ·have hb:∃ jl,aQ lib ⟨h.length,h.length,2,some (h.length+0,1)⟩ Ba.body ([(3,.bR [u]),(4,.aF (h.length+1) 1 0),(5,.int .i64 k),(6,.int .i64 x)],(h++[(1,au.ax D .ready),(1,au.box [.int .i64 0])]).set (h.length+0) (1,.ax D .busy)) =
    some (.ret,(jl,h++[(1,.ax D .busy),(1,.box [.int .i64 (eX x y)])])):=by
   refine⟨[], ?_⟩;rw[gy];simp(maxSteps:=1000000)(disch:=omega)only[go_sem,Ba,abX,e3,e4,c,acK]
  obtain⟨jl,hb⟩:=hb;have:=xG (L:=lib) (cx:=⟨lo,h.length+2,0,none⟩) hg hlo (by omega) (by omega) (by simp[AV.l5,AV.closed]) (x:=Ba) rfl rfl ha (by rw[cO];rfl) hb (by rw[cO];rfl)
  rw[if_neg c];simp only[Option.getD_none,Option.getD_some];rw[this,gy];rfl
theorem Qn{v u:AV}{l m:List Int}(hv:cK 1 v (ints l))(hu:cK 1 u (ints m))(hl:l.length<=1000000)(hm:m.length<=1000000)(h:Heap)(lo:Nat) :
  (run lib).fn 115 [v,u] h lo=some (.int .i64 (cmpL l m),h):=by
 obtain⟨v',f1,DX,f2,f3,f4,f5⟩:=CK hv;obtain⟨u',g1,g1',g2,g3,g4,g5⟩:=CK hu;have s1:=iB (hv.sl []).len;have s2:=iB (g4.sl []).len;simp only[jY]at s1 s2;unfold cmpL;by_cases hlen:l.length=m.length
 ·have c1:(l.length:Int)=m.length:=by omega
  have hb:=Ql (H:=Li h v' u') (nb:=h.length+2) (lo:=h.length) (id:=h.length+0) (Y:=DW l m) (Iv:=fun _ s=>s=none) f4 hl (fun s=>by simp[Li]) (by omega)
   (fun k s hk hi hy=>by
    subst hi;simp only[DW]at hy⊢;split at hy
    ·rename_i hc;rw[if_pos hc]
    ·cases hy)
   (fun k s hk hi=>by subst hi;exact amT g4 hlen hm h k hk h.length (bC _)) none rfl
  have hc:=acL l m l.length;rw[if_pos hlen];have bw:=Qm v v' f1 DX f2 f5
  cases hB:rq (DW l m) l.length none with
  |none =>
   rw[hB]at hb hc;simp only[]at hc
   have g3':=Bb (L:=lib) (lo:=h.length) (ns:=2) (s:=0) (g:=11) (it:=175) (v:=0) (caps:=[.bR [v']]) (env:=Ab h v' u') (h:=h) (b:=.dead) (fr:=[(0,.dead),(1,.box [.int .i64 0])])
    (fr':=[(1,.ax ⟨11,h.length,h.length,2,Ab h v' u'⟩ .ready),(1,.box [.int .i64 0])]) (f:=.t 18) rfl (by omega) rfl hb rfl
   simp only[Ab,List.set_cons_zero]at g3';rw[hc,bW (x:=x115) rfl rfl rfl rfl]
   simp(maxSteps:=1000000)(disch:=omega)only[go_sem,x115,f1,f2,g1,g2,g5,s1,s2,c1,ne_eq,not_true_eq_false,bw,g3']
  |some c =>
   rw[hB]at hb hc;simp only[]at hc
   have g3':=abW (L:=lib) (lo:=h.length) (ns:=2) (s:=0) (g:=11) (it:=175) (v:=0) (caps:=[.bR [v']]) (env:=Ab h v' u') (h:=h) (b:=.dead) (fr:=[(0,.dead),(1,.box [.int .i64 0])])
    (fr':=[(1,.ax ⟨11,h.length,h.length,2,Ab h v' u'⟩ (.done .ret)),(1,.box [.int .i64 c])]) (f:=.t 18) rfl (by omega) rfl hb rfl
   simp only[Ab,List.set_cons_zero]at g3';rw[hc,bW (x:=x115) rfl rfl rfl rfl];simp(maxSteps:=1000000)(disch:=omega)only[go_sem,x115,f1,f2,g1,g2,g5,s1,s2,c1,ne_eq,not_true_eq_false,bw,g3']
 ·have c1:¬ (l.length:Int)=m.length:=by omega
  have hc:(if l.length=m.length then xI l m l.length else if l.length<m.length then -1 else 1)=eX (l.length:Int) (m.length:Int):=by
   rw[if_neg hlen];unfold eX;by_cases c2:l.length<m.length
   ·rw[if_pos c2,if_pos (by omega)]
   ·rw[if_neg c2,if_neg (by omega),if_neg c1]
  rw[hc,bW (x:=x115) rfl rfl rfl rfl];simp(maxSteps:=1000000)(disch:=omega)only[go_sem,x115,f1,f2,g1,g2,g5,s1,s2,c1,acK]
end Go.VI.Dump
namespace Go.VI.Dump
open Go.VI.Num
theorem amU{f:Nat}{caps:List AV}{h:Heap}{t n:Nat}(hf:f<1000)(hn:n<=1000000)(hd:∀ d:Nat,d<n->(run lib).fn f (.int .i64 d::caps) h h.length=some (.bool (decide (t<=d)),h))(m:Nat) :
  ∀ i j:Nat,j-i<=m->i<=min n t->min n t<=j->j<=n ->
  aQ lib ⟨h.length,h.length,0,none⟩ (.loop Ut) ([(1,.fn f caps),(5,.int .i64 i),(6,.int .i64 j)],h)=some (.exit 0,([(5,.int .i64 (min n t:Nat))],h)):=by
 induction m with
 |zero =>
  intro i j h1 h2 h3 h4;have:i=min n t:=by omega
  have c1:¬ (i:Int)<j:=by omega
  rw[<-this,bU]
  simp(maxSteps:=1000000)(disch:=omega)only[go_sem,c1]
 |succ m ih =>
  intro i j h1 h2 h3 h4;by_cases c:i<j
  ·have c1:(i:Int)<j:=by omega
   obtain⟨d,hdd⟩:∃ d,d=(i+j)/2:=⟨_,rfl⟩;have e1:((i:Int)+j)/2=(d:Int):=by omega
   have y:=hd d (by omega)
   rw[bU];by_cases c2:t<=d
   ·rw[decide_eq_true c2]at y;have k:=ih i d (by omega) h2 (by omega) (by omega)
    simp(maxSteps:=1000000)(disch:=omega)only[go_sem,c1,e1,hf,y,k]
   ·rw[decide_eq_false c2]at y;have k:=ih (d+1) j (by omega) (by omega) h3 h4
    rw[jo]at k;simp(maxSteps:=1000000)(disch:=omega)only[go_sem,c1,e1,hf,y,k]
  ·have:i=min n t:=by omega
   have c1:¬ (i:Int)<j:=by omega
   rw[<-this,bU];simp(maxSteps:=1000000)(disch:=omega)only[go_sem,c1]
theorem amV{f:Nat}{caps:List AV}{h:Heap}{t n:Nat}(hf:f<1000)(hn:n<=1000000)(hd:∀ d:Nat,d<n->(run lib).fn f (.int .i64 d::caps) h h.length=some (.bool (decide (t<=d)),h))(lo:Nat) :
  (run lib).fn 149 [.int .i64 n,.fn f caps] h lo=some (.int .i64 (min n t:Nat),h):=by
 have e:=amU hf hn hd n 0 n (by omega) (by omega) (by omega) (by omega)
 simp only[qX]at e;rw[bW (x:=Uu) rfl rfl rfl rfl];simp(maxSteps:=1000000)(disch:=omega)only[go_sem,Uu,e]
end Go.VI.Dump
namespace Go.VI
theorem uW{lo ns s:Nat}{p:Nat×Nat}{b:au}{h fr:Heap}(hf:b.fits ⟨lo,h.length,ns,some p⟩=true):fB ⟨lo,h.length,ns,some p⟩ s b (h++fr)=vB s ns b h fr fr[s]?:=by
 rw[<-AP (lo:=lo)]
 have:b.fits ⟨lo,h.length,ns,none⟩=true:=by
  cases b with
  |box cs=>simp[au.fits,Cx.fit]
  |ax d st=>simp[au.fits,Cx.fit]
  |_=>rfl
 simp only[fB,hf,this]
theorem acM{lo ns s z lim v:Nat}{p:Nat×Nat}{h fr:Heap}{b:au}{es xs:List AV}(hs:s<ns)(hb:fr[s]?=some (v,b))(hx:xs≠[])(hl:es.length+xs.length<=lim) :
  (ji ⟨lo,h.length,ns,some p⟩ s z lim (.bF z es) xs (h++fr)).bind (fun r=>bL h.length false r.1 r.2)=some (.aW z (es++xs),h++fr.set s (v+1,.dead)):=by
 have hm:=uW (lo:=lo) (ns:=ns) (s:=s) (p:=p) (b:=.arr z (es++xs)) (h:=h) (fr:=fr) rfl;rw[hb,AO,if_pos hs]at hm;have hl':(es++xs).length<=lim:=by simpa using hl
 simp only[ji,beq_self_eq_true,Bool.true_or,if_true,if_neg hx,if_pos hl',hm,Option.map_some,Option.bind_some];have hlt:s<fr.length:=(dQ.mp hb).1;have hg:(h++fr.set s (v+1,au.arr z (es++xs)))[h.length+s]?=some (v+1,.arr z (es++xs)):=by rw[cO];simp[hlt]
 simp[bL,iV,hg,gy];rw[<-jm,qj]
end Go.VI
namespace Go.VI.Dump
open Go.VI.Num
def Bo:Option Nat->AV
 |none=>.aP
 |some n=>.aW 1 (ints (aC n))
def DY(a:Nat)(m:List Int)(s:Option Nat×Nat)(k:Nat):Bool×(Option Nat×Nat):=(true,some (10000*s.1.getD 0+a*(m.getD k 0).toNat),if s.1.getD 0=0 then s.2 else s.2+1)
def DZ(h:Heap)(v u:AV):Env:=[(2,.bR [v]),(4,.aP),(5,.aF (h.length+2) 1 0),(9,.fn 175 [.bR [u]])]
def Lj(h:Heap)(v u:AV)(s:Option Nat×Nat):Heap:=h++[(1,.ax ⟨12,h.length,h.length,3,DZ h v u⟩ .ready),(s.2,.dead),(1,.box [Bo s.1])]
theorem amW(o:Option Nat):cK 1 (Bo o) (ints (aC (o.getD 0))):=by
 cases o with
 |none=>exact .inl ⟨rfl,rfl⟩
 |some n=>exact .inr ⟨1,.inl rfl,.inl rfl⟩
theorem amX(o:Option Nat):(Bo o).val=true/\(Bo o).cells=[Bo o]/\(Bo o).closed=true:=by cases o<;>exact⟨rfl,rfl,rfl⟩
theorem Qo{n:Nat}(h:n≠0):(0:Int)::aC n=aC (10000*n):=by
 rw[Cv (n:=10000*n) (by omega)]
 have e1:10000*n%10000=0:=by omega
 have e2:10000*n/10000=n:=by omega
 rw[e1,e2];rfl
theorem amY{v u:AV}{a:Nat}{m:List Int}(hv:cK 1 v (ints (aC a)))(dm:gZ m)(ha:(aC a).length<=20000)(h:Heap)(k:Nat)(hk:k<m.length)(s:Option Nat×Nat)(hs:(aC (s.1.getD 0)).length<=40000)(lo:Nat)(hlo:lo<=h.length) :
  iY (run lib) ⟨lo,h.length+3,0,none⟩ (h.length+0) 1 [.int .i64 k,.int .i64 m[k]] (Lj h v u s)=some (.bool (DY a m s k).1,Lj h v u (DY a m s k).2):=by
 obtain⟨o,w⟩:=s;obtain⟨D,hD⟩:∃ D:dO,D=⟨12,h.length,h.length,3,DZ h v u⟩:=⟨_,rfl⟩;have gm:m.getD k 0=m[k]:=by rw[nX,kN hk];rfl
 have hx:=dm m[k] (l9 hk);simp only[DY,gm];simp only[]at hs;generalize m[k]=x at*;obtain⟨d,rfl⟩:∃ d:Nat,x=d:=⟨x.toNat,by omega⟩
 simp only[Lj,<-hD,wK];obtain⟨n,hn⟩:∃ n,n=o.getD 0:=⟨_,rfl⟩;have hp:=amW o;rw[<-hn]at hp hs⊢;obtain⟨p1,p2,p3⟩:=amX o;have s1:=iB (hp.sl []).len;rw[jY]at s1;generalize Bo o=O at*;have hby:=fun H lo=>Vd (k:=d) hv (by omega) (by omega) H lo
 have acN:(aC (a*d)).length<=50000:=by
  have h1:a*d<=10000*a:=by rw[vk];exact qD _ (by omega)
  have h2:=DN h1;by_cases h0:a=0
  ·subst h0;simp[Bc]
  ·rw[<-Qo h0]at h2;simp at h2;omega
 have ha':aQ lib ⟨h.length,h.length,3,some (h.length+0,1)⟩ DJ.jE ((DJ.ps.zip [.int .i64 k,.int .i64 d]).foldl (fun e p=>e.set p.1 p.2) (DZ h v u),h++[(1,.ax D .ready),(w,.dead),(1,.box [O])]) =
   some (.norm,([(2,.bR [v]),(5,.aF (h.length+2) 1 0),(7,.int .i64 d)],h++[(1,.ax D .ready),(w,.dead),(1,.box [O])])):=by
  simp(maxSteps:=1000000)(disch:=omega)only[go_sem,DJ,DZ,List.zip_cons_cons,Ac,List.foldl_cons,wL]
 have hg:(h++[(1,au.ax D .ready),(w,.dead),(1,.box [O])])[h.length+0]?=some (1,.ax ⟨12,h.length,h.length,3,DZ h v u⟩ .ready):=by rw[cO,<-hD];rfl
 have hb:aQ lib ⟨h.length,h.length,3,some (h.length+0,1)⟩ DJ.body ([(2,.bR [v]),(5,.aF (h.length+2) 1 0),(7,.int .i64 d)],(h++[(1,au.ax D .ready),(w,au.dead),(1,au.box [O])]).set (h.length+0) (1,.ax D .busy)) =
   some (.norm,([],h++[(1,.ax D .busy),(if n=0 then w else w+1,.dead),(1,.box [.aW 1 (ints (aC (10000*n+a*d)))])])):=by
  rw[gy]
  have psl:∀(es:List AV) (w':Nat) (O':AV),iX ⟨h.length,h.length,3,some (h.length+0,1)⟩ (h++[(1,.ax D .busy),(w',.dead),(1,.box [O'])]) 1 (.aF (h.length+2) 1 0) (.aW 1 es)=some (h++[(1,.ax D .busy),(w',.dead),(1,.box [.aW 1 es])]):=fun es w' O'=>by
   rw[tX (bC _) rfl,if_pos ⟨rfl,rfl⟩];simp(maxSteps:=1000000)(disch:=omega)only[go_sem]
  by_cases h0:n=0
  ·have hpl:=fun H lo=>Qj (a:=n) (b:=a*d) hp (.inr ⟨1,.inl rfl,.inl rfl⟩) (by omega) acN H lo
   subst h0;have c1:¬ (0:Int)<((aC 0).length:Nat):=by simp[Bc]
   rw[oO]at hpl;rw[if_pos rfl,Nat.mul_zero,oO];simp(maxSteps:=1000000)(disch:=omega)only[go_sem,DJ,s1,c1,hby,hpl,psl]
  ·have hne:aC n≠[]:=fun e=>h0 (Bd.mp e);have c1:(0:Int)<((aC n).length:Nat):=by have:=uj.mpr hne;omega
   have src:=fun H:Heap=>KJ (hp.sl H);have al:=acM (lo:=h.length) (ns:=3) (s:=1) (z:=1) (lim:=17592186044416) (v:=w) (p:=(h.length+0,1)) (h:=h) (fr:=[(1,.ax D .busy),(w,.dead),(1,.box [O])]) (b:=.dead) (es:=[.int .i64 0]) (xs:=ints (aC n)) (by omega) rfl (by intro e;exact hne (by simpa[ints]using e)) (by simp;omega)
   have hsh:[AV.int .i64 0]++ints (aC n)=ints (aC (10000*n)):=by rw[<-Qo h0];rfl
   rw[hsh]at al;have hpl:=fun H lo=>Qj (v:=.aW 1 (ints (aC (10000*n)))) (a:=10000*n) (b:=a*d) (.inr ⟨1,.inl rfl,.inl rfl⟩) (u:=.aW 1 (ints (aC (a*d)))) (.inr ⟨1,.inl rfl,.inl rfl⟩) (by rw[<-Qo h0];simp;omega) acN H lo
   simp only[List.set_cons_succ,List.set_cons_zero]at al;rw[if_neg h0];simp(maxSteps:=1000000)(disch:=omega)only[go_sem,DJ,s1,c1,src,al,hby,hpl,psl]
 have:=xG (L:=lib) (cx:=⟨lo,h.length+3,0,none⟩) hg hlo (by omega) (by omega) (by simp[AV.l5,AV.closed]) (x:=DJ) rfl rfl ha' (by rw[cO];rfl) hb (by rw[cO];rfl)
 rw[this,gy];rfl
end Go.VI.Dump
namespace Go.VI.Dump
open Go.VI.Num
theorem FI:∀(t n:Nat),n<10000^t->(aC n).length<=t
 |0,n,h=>by
  have:n=0:=by simp at h;exact h
  subst this;simp[Bc]
 |t+1,n,h=>by
  by_cases h0:n=0
  ·subst h0;simp[Bc]
  ·rw[yJ,vk]at h;have:=FI t (n/10000) (Nat.div_lt_of_lt_mul h);rw[Cv h0,List.length_cons];omega
theorem Qp(n:Nat):n<10000^(aC n).length:=by
 have h:=H7 (tZ n);rw[qW]at h;have e:((10000^(aC n).length:Nat):Int)=(10000:Int)^(aC n).length:=by rw[Int.natCast_pow];rfl
 rw[<-e]at h;exact Int.ofNat_lt.mp h
theorem Qq(a b:Nat):(aC (a*b)).length<=(aC a).length+(aC b).length:=by
 refine FI _ _ ?_;rw[Nat.pow_add];exact Nat.mul_lt_mul'' (Qp a) (Qp b)
theorem Vf{σ:Type}{Y:σ->Nat->Bool×σ}{Iv:Nat->σ->Prop}{n:Nat}(hY:∀ s k,(Y s k).1=true)(hI:∀ k s,k<n->Iv (k+1) s->Iv k (Y s k).2):∀ k s,k<=n->Iv k s->Iv 0 (rq Y k s)
 |0,s,_,h=>h
 |k+1,s,hk,h=>by
  simp only[rq,hY,if_true];exact Vf hY hI k _ (by omega) (hI k s (by omega) h)
def Iu(a:Nat)(m:List Int)(k:Nat)(s:Option Nat×Nat):Prop:=s.1.getD 0=a*(gv (m.drop k)).toNat/\(k<m.length->s.1≠none)/\(k=m.length->s.1=none)
theorem acP{a:Nat}{m:List Int}(dm:gZ m)(k:Nat)(s:Option Nat×Nat)(hk:k<m.length)(hi:Iu a m (k+1) s):Iu a m k (DY a m s k).2:=by
 obtain⟨h1,_,_⟩:=hi;have gm:m.getD k 0=m[k]:=by rw[nX,kN hk];rfl
 have hx:=dm m[k] (l9 hk);have hd:gZ (m.drop (k+1)):=fun x hx=>dm x (List.mem_of_mem_drop hx);have hg:=xH hd;refine⟨?_,fun _=>by simp[DY],fun h=>by omega⟩
 simp only[DY,gm,h1,Option.getD_some];rw[qH hk,gv];have e:(m[k]+10000*gv (m.drop (k+1))).toNat=m[k].toNat+10000*(gv (m.drop (k+1))).toNat:=by omega
 rw[e,Nat.mul_add,Nat.add_comm,<-Nat.mul_assoc,<-Nat.mul_assoc,vk 10000 a]
theorem amZ{a b:Nat}{k:Nat}{s:Option Nat×Nat}(ha:(aC a).length<=20000)(hb:(aC b).length<=20000)(hi:Iu a (aC b) k s):(aC (s.1.getD 0)).length<=40000:=by
 rw[hi.1];have h1:=Qq a (gv ((aC b).drop k)).toNat;have hd:gZ ((aC b).drop k):=fun x hx=>tZ b x (List.mem_of_mem_drop hx)
 have h2:(gv ((aC b).drop k)).toNat<10000^((aC b).drop k).length:=by
  have h:=H7 hd;have e:((10000^((aC b).drop k).length:Nat):Int)=(10000:Int)^((aC b).drop k).length:=by rw[Int.natCast_pow];rfl
  rw[<-e]at h;have:=xH hd;generalize 10000^((aC b).drop k).length=X at*;omega
 have h3:=FI _ _ h2;have h4:((aC b).drop k).length<=(aC b).length:=by simp
 omega
theorem am0{v u:AV}{a b:Nat}(hv:cK 1 v (ints (aC a)))(hu:cK 1 u (ints (aC b)))(ha:(aC a).length<=20000)(hb:(aC b).length<=20000)(h:Heap)(lo:Nat) :
  (run lib).fn 181 [v,u] h lo=some (if b=0 then .own 0 []else .aW 1 (ints (aC (a*b))),h):=by
 obtain⟨v',f1,DX,f2,f3,f4,f5⟩:=CK hv;obtain⟨u',g1,g1',g2,g3,g4,g5⟩:=CK hu;have dm:=tZ b;have i0:Iu a (aC b) (aC b).length (none,0):=⟨by simp[gv],fun h=>by omega,fun _=>rfl⟩
 have hbk:=Ql (H:=Lj h v' u') (nb:=h.length+3) (lo:=h.length) (id:=h.length+0) (Y:=DY a (aC b)) (Iv:=Iu a (aC b)) g4 (by omega) (fun s=>by simp[Lj]) (by omega)
  (fun k s hk hi _=>acP dm k s hk hi) (fun k s hk hi=>amY f4 dm ha h k hk s (amZ ha hb hi) h.length (bC _)) (none,0) i0
 have hfin:=Vf (Iv:=Iu a (aC b)) (fun s k=>rfl) (fun k s hk hi=>acP dm k s hk hi) (aC b).length (none,0) (bC _) i0;obtain⟨s',hs'⟩:∃ s',s'=rq (DY a (aC b)) (aC b).length (none,0):=⟨_,rfl⟩;rw[<-hs']at hbk hfin;clear hs';obtain⟨o,w⟩:=s';have e1:=hfin.1;simp only[List.drop_zero,qW,wK]at e1;have bw:=Qm u u' g1 g1' g2 g5
 have g3':=Bb (L:=lib) (lo:=h.length) (ns:=3) (s:=0) (g:=12) (it:=175) (v:=0) (caps:=[.bR [u']]) (env:=DZ h v' u') (h:=h) (b:=.dead) (fr:=[(0,.dead),(0,.dead),(1,.box [.aP])])
  (fr':=[(1,.ax ⟨12,h.length,h.length,3,DZ h v' u'⟩ .ready),(w,.dead),(1,.box [Bo o])]) (f:=.t 9) rfl (by omega) rfl hbk rfl
 simp only[DZ,List.set_cons_zero]at g3';rw[bW (x:=PU) rfl rfl rfl rfl];by_cases h0:b=0
 ·subst h0;have ho:o=none:=hfin.2.2 rfl;subst ho;simp only[Bo]at g3';rw[if_pos rfl];simp(maxSteps:=1000000)(disch:=omega)only[go_sem,PU,f1,f2,f5,g2,bw,g3']
 ·have hne:aC b≠[]:=fun e=>h0 (Bd.mp e);have ho:o≠none:=hfin.2.1 (uj.mpr hne);obtain⟨n,rfl⟩:=Option.ne_none_iff_exists'.mp ho;simp only[Option.getD_some]at e1;subst e1;simp only[Bo]at g3';rw[if_neg h0];simp(maxSteps:=1000000)(disch:=omega)only[go_sem,PU,f1,f2,f5,g2,bw,g3']
end Go.VI.Dump
namespace Go.VI.Dump
open Go.VI.Num
theorem am1(a b:Int):(0<eX a b)↔b<a:=by
 unfold eX;by_cases h1:a<b
 ·rw[if_pos h1];omega
 ·rw[if_neg h1];by_cases h2:a=b
  ·rw[if_pos h2];omega
  ·rw[if_neg h2];omega
theorem am2{u r:AV}{m n:Nat}(hm0:m≠0)(hu:cK 1 u (ints (aC m)))(hr:cK 1 r (ints (aC n)))(hm:(aC m).length<=20000)(hn:(aC n).length<=20000)(h:Heap)(i1 v1 i2 v2:Nat)
  (e1:h[i1]?=some (v1,.box [.fn (1000+147) [u]])) (e2:h[i2]?=some (v2,.box [r])) (d:Nat) (hd:d<9999) (lo:Nat) :
  (run lib).fn 148 [.int .i64 d,.aF i1 v1 0,.aF i2 v2 0] h lo=some (.bool (decide (n/m<=d)),h):=by
 have c1:ig h (.aF i1 v1 0)=some [.fn (1000+147) [u]]:=by simp[ig,e1]
 have c2:ig h (.aF i2 v2 0)=some [r]:=by simp[ig,e2]
 have b:=fun H lo=>Vd (k:=d+1) hu (by omega) (by omega) H lo
 rw[jo]at b
 have hl:(aC (m*(d+1))).length<=1000000:=by
  have h1:=Qq m (d+1);have h2:=FI 1 (d+1) (by omega)
  omega
 have k:=fun H lo=>Qn (v:=.aW 1 (ints (aC (m*(d+1))))) (l:=aC (m*(d+1))) (.inr ⟨1,.inl rfl,.inl rfl⟩) hr hl (by omega) H lo
 rw[UI]at k
 have hdec:decide (0<eX ((m*(d+1):Nat):Int) (n:Int))=decide (n/m<=d):=by
  rw[decide_eq_decide,am1];have hpos:0<m:=by omega
  have h1:n/m<d+1↔n<(d+1)*m:=Nat.div_lt_iff_lt_mul hpos;rw[vk]at h1;omega
 rw[bW (x:=Us) rfl rfl rfl rfl];simp(maxSteps:=1000000)(disch:=omega)only[go_sem,Us,c1,c2,b,k,hdec]
end Go.VI.Dump
namespace Go.VI.Dump
open Go.VI.Num
theorem am3(d:Nat)(hd:d<=9999):∃ X:AV,cK 1 X (ints (aC d))/\X.closed=true/\X.val=true/\X.cells=[X]/\∀ h lo,(run lib).fn 146 [.bF 1 [.int .i64 d]] h lo=some (X,h):=by
 have s1:oH false (.bF 1 [.int .i64 d])=some (.int .i64 1):=rfl;have e3:iM 1 (.bF 1 [.int .i64 d]) (.int .i64 0)=some 0:=rfl;have e4:∀ off H,ig H (.gu (.bF 1 [.int .i64 d]) 0 off)=some ([AV.int .i64 d].drop off):=fun off H=>rfl;by_cases h0:d=0
 ·subst h0;have hs:pQ (some 1) (.bF 1 [.int .i64 ((0:Nat):Int)]) none (some (.int .i64 0))=some (.aW 1 []):=rfl;refine⟨.aW 1 [],.inr ⟨1,.inl rfl,.inl rfl⟩,rfl,rfl,rfl,fun h lo=>?_⟩;have t:=acI (l:=[]) (by simp) ⟨h.length,h.length,0,none⟩ h 0 (bC _)
  simp only[List.take_nil,ints,List.map_nil]at t;have ez:((0:Nat):Int)=0:=rfl;rw[ez]at s1 e3 e4 hs⊢
  have w:aQ lib ⟨h.length,h.length,0,none⟩ (.loop HY) ([(0,.bF 1 [.int .i64 0])],h)=some (.exit 0,([(0,.aW 1 [])],h)):=by
   rw[bU];simp(maxSteps:=1000000)(disch:=omega)only[go_sem,s1,e3,e4,hs,t]
  rw[bW (x:=Cu) rfl rfl rfl rfl];simp(maxSteps:=1000000)(disch:=omega)only[go_sem,Cu,w]
 ·have hg:aC d=[(d:Int)]:=by
   rw[Cv h0,Nat.mod_eq_of_lt (by omega),show d/10000=0 by omega];rfl
  have c:¬ (d:Int)=0:=by omega
  refine⟨.bF 1 [.int .i64 d],by rw[hg];exact .inr ⟨1,.inr rfl,.inl rfl⟩,rfl,rfl,rfl,fun h lo=>?_⟩
  have w:aQ lib ⟨h.length,h.length,0,none⟩ (.loop HY) ([(0,.bF 1 [.int .i64 d])],h)=some (.exit 0,([(0,.bF 1 [.int .i64 d])],h)):=by
   rw[bU];simp(maxSteps:=1000000)(disch:=omega)only[go_sem,s1,e3,e4,c]
  rw[bW (x:=Cu) rfl rfl rfl rfl];have hg2:jf h.length (.bF 1 [.int .i64 d]) h=some (.bF 1 [.int .i64 d]):=rfl;simp(maxSteps:=1000000)(disch:=omega)only[go_sem,Cu,w,hg2,Option.map_some]
end Go.VI.Dump
namespace Go.VI.Dump
open Go.VI.Num
def D5(h:Heap)(v u:AV):Env:=[(3,.bR [u]),(4,.aF (h.length+4) 1 0),(5,.aF (h.length+5) 1 0),(14,.fn 175 [.bR [v]])]
structure D6 where
 q:List Int
 R:Nat
 rv:AV
 s1:Nat×au
 w2:Nat
def Lm(h:Heap)(v u:AV)(N:Nat)(s:D6):Heap:=h++[(1,.ax ⟨9,h.length,h.length,6,D5 h v u⟩ .ready),s.s1,(s.w2,.dead),(1,.arr 1 (ints s.q)),(1,.box [.ref (h.length+3) 1 1 0 N N]),(1,.box [s.rv])]
def yV(u:AV)(m:Nat)(d:Nat)(k:Nat)(s:D6):D6 :=
 ⟨s.q.set k ((d+10000*s.R)/m:Nat),(d+10000*s.R)%m,.aW 1 (ints (aC ((d+10000*s.R)%m))),(s.s1.1+1,.box [.fn (1000+147) [u]]),if s.R=0 then s.w2 else s.w2+1⟩
theorem am4{rv:AV}{R d:Nat}(hr:cK 1 rv (ints (aC R)))(hR:(aC R).length<=20000)(hd:d<=9999):∃ X:AV,cK 1 X (ints (aC (d+10000*R)))/\X.closed=true/\X.val=true/\X.cells=[X] /\
  ∀(h fr:Heap) (w:Nat) (p:Nat×Nat),fr[2]?=some (w,.dead)->∃ Y:AV,(ji ⟨h.length,h.length,6,some p⟩ (1002-1000) 1 17592186044416 (.bF 1 [.int .i64 d]) (ints (aC R)) (h++fr)).bind (fun r=>bL h.length false r.1 r.2)=some (Y,h++(if R=0 then fr else fr.set 2 (w+1,.dead))) /\
   ∀ H lo,(run lib).fn 146 [Y] H lo=some (X,H):=by
 by_cases h0:R=0
 ·subst h0;obtain⟨X,x1,x2,x3,x4,x5⟩:=am3 d hd;refine⟨X,by rw[Nat.mul_zero,Nat.add_zero];exact x1,x2,x3,x4,fun h fr w p hf=>⟨.bF 1 [.int .i64 d], ?_,x5⟩⟩
  simp[ji,Bc,ints,bL]
 ·have hne:aC R≠[]:=fun e=>h0 (Bd.mp e);have hdig:gZ ((d:Int)::aC R):=gZ.cons.mpr ⟨by omega,tZ R⟩
  have ht:iF ((d:Int)::aC R)=aC (d+10000*R):=by
   rw[H9 hdig,gv,qW];congr 1
  have hl:((d:Int)::aC R).length<=1000000:=by simp;omega
  have t:=Qi hl;rw[ht]at t;refine⟨.aW 1 (ints (aC (d+10000*R))),.inr ⟨1,.inl rfl,.inl rfl⟩,rfl,rfl,rfl,fun h fr w p hf=>⟨.aW 1 (ints ((d:Int)::aC R)), ?_,t⟩⟩;rw[if_neg h0];have:=acM (lo:=h.length) (ns:=6) (s:=2) (z:=1) (lim:=17592186044416) (v:=w) (p:=p) (h:=h) (fr:=fr) (b:=.dead) (es:=[.int .i64 d]) (xs:=ints (aC R)) (by omega) hf (by intro e;exact hne (by simpa[ints]using e)) (by simp;omega)
  exact this
end Go.VI.Dump
namespace Go.VI.Dump
open Go.VI.Num
theorem am5{z:Nat}{v:AV}{es:List AV}(p:cK z v es):weak v=v:=by
 rcases p with⟨rfl,rfl⟩|⟨z',rfl|rfl,hz⟩<;>rfl
theorem am6{v u:AV}{m:Nat}(hm0:m≠0)(hu:cK 1 u (ints (aC m)))(uc:u.closed=true)(hm:(aC m).length<=15000)(N:Nat)(hN:N<=20000)(h:Heap)(s:D6)(hq:s.q.length=N)(hr:cK 1 s.rv (ints (aC s.R)))(hR:s.R<m)(rv1:s.rv.val=true)(k:Nat)(hk:k<N)(d:Nat)(hd:d<=9999)(lo:Nat)(hlo:lo<=h.length) :
  iY (run lib) ⟨lo,h.length+6,0,none⟩ (h.length+0) 1 [.int .i64 k,.int .i64 d] (Lm h v u N s)=some (.bool true,Lm h v u N (yV u m d k s)):=by
 obtain⟨q,R,rv,s1,w2⟩:=s;obtain⟨w1,b1⟩:=s1;simp only[]at hq hr hR rv1;obtain⟨D,hD⟩:∃ D:dO,D=⟨9,h.length,h.length,6,D5 h v u⟩:=⟨_,rfl⟩;simp only[Lm,yV,<-hD];have hRl:(aC R).length<=15000:=ng (DN (Nat.le_of_lt hR)) hm;obtain⟨X,x1,x2,x3,x4,x5⟩:=am4 (d:=d) hr (by omega) hd
 obtain⟨n,hn⟩:∃ n,n=d+10000*R:=⟨_,rfl⟩;rw[<-hn]at x1⊢;obtain⟨t,ht⟩:∃ t,t=n/m:=⟨_,rfl⟩
 have Vg:t<=9999:=by
  have:n<10000*m:=by omega
  have:=Nat.div_lt_of_lt_mul (by rw[vk];exact this:n<m*10000)
  omega
 have hnl:(aC n).length<=15001:=by
  have h1:n<=10000*m:=by omega
  have h2:=DN h1;rw[<-Qo hm0]at h2;simp at h2;omega
 have hmt:n-m*t=n%m:=by rw[ht];have:=Nat.div_add_mod n m;omega
 rw[<-ht];obtain⟨W,hW⟩:∃ W,W=if R=0 then w2 else w2+1:=⟨_,rfl⟩
 have ha':aQ lib ⟨h.length,h.length,6,some (h.length+0,1)⟩ r9.jE ((r9.ps.zip [.int .i64 k,.int .i64 d]).foldl (fun e p=>e.set p.1 p.2) (D5 h v u),h++[(1,.ax D .ready),(w1,b1),(w2,.dead),(1,.arr 1 (ints q)),(1,.box [.ref (h.length+3) 1 1 0 N N]),(1,.box [rv])]) =
   some (.norm,([(3,.bR [u]),(4,.aF (h.length+4) 1 0),(5,.aF (h.length+5) 1 0),(6,.int .i64 k),(7,.int .i64 d)],h++[(1,.ax D .ready),(w1,b1),(w2,.dead),(1,.arr 1 (ints q)),(1,.box [.ref (h.length+3) 1 1 0 N N]),(1,.box [rv])])):=by
  simp(maxSteps:=1000000)(disch:=omega)only[go_sem,r9,D5,List.zip_cons_cons,Ac,List.foldl_cons,wL]
 have hg:(h++[(1,au.ax D .ready),(w1,b1),(w2,.dead),(1,.arr 1 (ints q)),(1,.box [.ref (h.length+3) 1 1 0 N N]),(1,.box [rv])])[h.length+0]?=some (1,.ax ⟨9,h.length,h.length,6,D5 h v u⟩ .ready):=by rw[cO,<-hD];rfl
 have hb:aQ lib ⟨h.length,h.length,6,some (h.length+0,1)⟩ r9.body ([(3,.bR [u]),(4,.aF (h.length+4) 1 0),(5,.aF (h.length+5) 1 0),(6,.int .i64 k),(7,.int .i64 d)],(h++[(1,au.ax D .ready),(w1,b1),(w2,au.dead),(1,au.arr 1 (ints q)),(1,au.box [.ref (h.length+3) 1 1 0 N N]),(1,au.box [rv])]).set (h.length+0) (1,.ax D .busy)) =
   some (.norm,([],h++[(1,.ax D .busy),(w1+1,.box [.fn (1000+147) [u]]),(W,.dead),(1,.arr 1 (ints (q.set k t))),(1,.box [.ref (h.length+3) 1 1 0 N N]),(1,.box [.aW 1 (ints (aC (n%m)))])])):=by
  rw[gy];have src:=fun H:Heap=>KJ (hr.sl H);obtain⟨Y,y1,y2⟩:=x5 h [(1,.ax D .busy),(w1,b1),(w2,.dead),(1,.arr 1 (ints q)),(1,.box [.ref (h.length+3) 1 1 0 N N]),(1,.box [rv])] w2 (h.length+0,1) rfl
  have y1':(ji ⟨h.length,h.length,6,some (h.length+0,1)⟩ (1002-1000) 1 17592186044416 (.bF 1 [.int .i64 d]) (ints (aC R)) (h++[(1,.ax D .busy),(w1,b1),(w2,.dead),(1,.arr 1 (ints q)),(1,.box [.ref (h.length+3) 1 1 0 N N]),(1,.box [rv])])).bind (fun r=>bL h.length false r.1 r.2)=some (Y,h++[(1,.ax D .busy),(w1,b1),(W,.dead),(1,.arr 1 (ints q)),(1,.box [.ref (h.length+3) 1 1 0 N N]),(1,.box [rv])]):=by
   rw[y1,hW];by_cases h0:R=0
   ·rw[if_pos h0,if_pos h0]
   ·rw[if_neg h0,if_neg h0];rfl
  have p1:iX ⟨h.length,h.length,6,some (h.length+0,1)⟩ (h++[(1,.ax D .busy),(w1,b1),(W,.dead),(1,.arr 1 (ints q)),(1,.box [.ref (h.length+3) 1 1 0 N N]),(1,.box [rv])]) 1 (.aF (h.length+5) 1 0) X=some (h++[(1,.ax D .busy),(w1,b1),(W,.dead),(1,.arr 1 (ints q)),(1,.box [.ref (h.length+3) 1 1 0 N N]),(1,.box [X])]):=by
   rw[tX (bC _) x2,if_pos ⟨by rw[x4];rfl,x3⟩]
   simp(maxSteps:=1000000)(disch:=omega)only[go_sem,x4]
  have p2:fB ⟨h.length,h.length,6,some (h.length+0,1)⟩ 1 (.box [.jR]) (h++[(1,.ax D .busy),(w1,b1),(W,.dead),(1,.arr 1 (ints q)),(1,.box [.ref (h.length+3) 1 1 0 N N]),(1,.box [X])])=some (w1+1,h++[(1,.ax D .busy),(w1+1,.box [.jR]),(W,.dead),(1,.arr 1 (ints q)),(1,.box [.ref (h.length+3) 1 1 0 N N]),(1,.box [X])]):=by
   rw[uW (by rfl)]
   simp(maxSteps:=1000000)(disch:=omega)only[go_sem]
  have p3:iX ⟨h.length,h.length,6,some (h.length+0,1)⟩ (h++[(1,.ax D .busy),(w1+1,.box [.jR]),(W,.dead),(1,.arr 1 (ints q)),(1,.box [.ref (h.length+3) 1 1 0 N N]),(1,.box [X])]) 1 (.aF (h.length+1) (w1+1) 0) (.fn (1000+147) [u])=some (h++[(1,.ax D .busy),(w1+1,.box [.fn (1000+147) [u]]),(W,.dead),(1,.arr 1 (ints q)),(1,.box [.ref (h.length+3) 1 1 0 N N]),(1,.box [X])]):=by
   rw[tX (bC _) (by simp[AV.closed,AV.l5,uc]),if_pos ⟨rfl,rfl⟩]
   simp(maxSteps:=1000000)(disch:=omega)only[go_sem]
  have q1:iM 1 (.ref (h.length+3) 1 1 0 N N) (.int .i64 k)=some k:=by simp[iM,jd,lU,idx];omega
  have sr:=amV (f:=148) (caps:=[.aF (h.length+1) (w1+1) 0,.aF (h.length+5) 1 0]) (h:=h++[(1,.ax D .busy),(w1+1,.box [.fn (1000+147) [u]]),(W,.dead),(1,.arr 1 (ints q)),(1,.box [.ref (h.length+3) 1 1 0 N N]),(1,.box [X])]) (t:=t) (n:=9999) (by omega) (by omega)
   (fun d hd=>by rw[ht];exact am2 hm0 hu x1 (by omega) (by omega) _ _ _ _ _ (by rw[cO];rfl) (by rw[cO];rfl) d hd _)
  rw[Nat.min_eq_right Vg,show ((9999:Nat):Int)=9999 from rfl]at sr
  have p4:=Tc (cx:=⟨h.length,h.length,6,some (h.length+0,1)⟩) (h:=h++[(1,.ax D .busy),(w1+1,.box [.fn (1000+147) [u]]),(W,.dead),(1,.arr 1 (ints q)),(1,.box [.ref (h.length+3) 1 1 0 N N]),(1,.box [X])]) (id:=h.length+3) (ai:=1) (o:=0) (len:=N) (fill:=N) (i:=k) (k:=.i64) (l:=q) (n:=(t:Int)) (by rw[cO];rfl) hq (by omega) hk (by simp only[];omega)
  simp only[oO,gy,List.set_cons_succ,List.set_cons_zero]at p4;have so:=Sl.G5 (h:=h) (fr:=[(1,.ax D .busy),(w1+1,.box [.fn (1000+147) [u]]),(W,.dead),(1,.arr 1 (ints (q.set k t))),(1,.box [.ref (h.length+3) 1 1 0 N N]),(1,.box [X])]) (s:=3) (ai:=1) (z:=1) (es:=ints (q.set k t)) rfl;simp only[jY,vV,hq]at so;have q2:=fun off=>jV (off:=off) so.jW (show k<(ints (q.set k (t:Int))).length by simp;omega)
  simp only[uo,List.getElem_set_self]at q2;have hby:=fun H lo=>Vd (k:=t) hu (by omega) (by omega) H lo
  have hml:(aC (m*t)).length<=50000:=by
   have h1:=Qq m t;have h2:=FI 1 t (by omega)
   omega
  have Vh:=fun H lo=>Qk (a:=n) (b:=m*t) (u:=.aW 1 (ints (aC (m*t)))) x1 (.inr ⟨1,.inl rfl,.inl rfl⟩) (by rw[ht];exact Nat.mul_div_le n m) (by omega) H lo
  rw[hmt]at Vh
  have p5:∀ es:List AV,iX ⟨h.length,h.length,6,some (h.length+0,1)⟩ (h++[(1,.ax D .busy),(w1+1,.box [.fn (1000+147) [u]]),(W,.dead),(1,.arr 1 (ints (q.set k t))),(1,.box [.ref (h.length+3) 1 1 0 N N]),(1,.box [X])]) 1 (.aF (h.length+5) 1 0) (.aW 1 es)=some (h++[(1,.ax D .busy),(w1+1,.box [.fn (1000+147) [u]]),(W,.dead),(1,.arr 1 (ints (q.set k t))),(1,.box [.ref (h.length+3) 1 1 0 N N]),(1,.box [.aW 1 es])]):=fun es=>by
   rw[tX (bC _) rfl,if_pos ⟨rfl,rfl⟩];simp(maxSteps:=1000000)(disch:=omega)only[go_sem]
  simp only[ints]at p4 p5 y1' p1 p2 p3 q2 sr hby Vh src⊢;have xw:=am5 x1;have n1:¬ h.length=h.length+4:=by omega
  have n2:¬ h.length=h.length+1:=by omega
  simp(maxSteps:=1000000)(disch:=omega)only[go_sem,r9,n1,n2,src,y1',y2,xw,p1,p2,p3,q1,sr,p4,q2,hby,Vh,p5]
 have:=xG (L:=lib) (cx:=⟨lo,h.length+6,0,none⟩) hg hlo (by omega) (by omega) (by simp[AV.l5,AV.closed]) (x:=r9) rfl rfl ha' (by rw[cO];rfl) hb (by rw[cO];rfl)
 rw[this,gy,hW];rfl
end Go.VI.Dump
namespace Go.VI.Dump
open Go.VI.Num
theorem am9{d T m R:Nat}(hm:m≠0)(hR:R=T%m):(d+10000*T)/m=(d+10000*R)/m+10000*(T/m)/\(d+10000*T)%m=(d+10000*R)%m:=by
 have h:=Nat.div_add_mod T m
 have e:d+10000*T=(d+10000*R)+m*(10000*(T/m)):=by
  have e1:m*(10000*(T/m))=10000*(m*(T/m)):=by rw[<-Nat.mul_assoc,vk m 10000,Nat.mul_assoc]
  rw[e1,hR];generalize m*(T/m)=X at*;omega
 rw[e];exact⟨Nat.add_mul_div_left _ _ (by omega),Nat.add_mul_mod_self_left _ _ _⟩
theorem Qr{q:List Int}{k:Nat}(hk:k<q.length)(x:Int):(q.set k x).drop k=x::q.drop (k+1):=by
 rw[qH (by simpa using hk)]
 simp[List.drop_set]
end Go.VI.Dump
namespace Go.VI.Dump
open Go.VI.Num
def FJ(a m N k:Nat)(s:D6):Prop:=s.q.length=N/\cK 1 s.rv (ints (aC s.R))/\s.rv.val=true/\s.R=(gv ((aC a).drop k)).toNat%m/\gv (s.q.drop k)=((gv ((aC a).drop k)).toNat/m:Nat)/\gZ (s.q.drop k)
theorem acQ{u:AV}{a m N:Nat}(hm:m≠0)(hN:N=(aC a).length)(k:Nat)(s:D6)(hk:k<N)(d:Nat)(hd:((aC a).getD k 0).toNat=d)(hi:FJ a m N (k+1) s):FJ a m N k (yV u m d k s):=by
 obtain⟨h1,h2,h3,h4,h5,h6⟩:=hi;have hka:k<(aC a).length:=by omega
 have gm:(aC a).getD k 0=(aC a)[k]:=by rw[nX,kN hka];rfl
 have hx:=tZ a (aC a)[k] (l9 hka);have hdg:gZ ((aC a).drop (k+1)):=fun x hx=>tZ a x (List.mem_of_mem_drop hx);have hg:=xH hdg;rw[gm]at hd
 have hT:(gv ((aC a).drop k)).toNat=d+10000*(gv ((aC a).drop (k+1))).toNat:=by
  rw[qH hka,gv];omega
 obtain⟨e1,e2⟩:=am9 (d:=d) hm h4;have hRm:s.R<m:=by rw[h4];exact Nat.mod_lt _ (by omega)
 have ht:(d+10000*s.R)/m<=9999:=by
  have h9:d<=9999:=by omega
  have:=Nat.div_lt_of_lt_mul (show d+10000*s.R<m*10000 by omega)
  omega
 refine⟨by simp[yV,h1],.inr ⟨1,.inl rfl,.inl rfl⟩,rfl, ?_, ?_, ?_⟩
 ·rw[hT,e2];rfl
 ·simp only[yV];rw[Qr (by omega),gv,h5,hT,e1]
  generalize (d+10000*s.R)/m=t;generalize (gv ((aC a).drop (k+1))).toNat/m=Q;omega
 ·simp only[yV];rw[Qr (by omega)]
  refine gZ.cons.mpr ⟨?_,h6⟩;generalize (d+10000*s.R)/m=t at*;omega
end Go.VI.Dump
namespace Go.VI.Dump
open Go.VI.Num
theorem am'{l:List Int}(hl:l.length<=1000000)(cx:Cx)(H:Heap)(id:Nat)(hid:H[id]?=some (1,.arr 1 (ints l))):∀ k:Nat,k<=l.length ->
  aQ lib cx (.loop HY) ([(0,.ref id 1 1 0 k l.length)],H)=some (.exit 0,([(0,.ref id 1 1 0 (pG l k) l.length)],H)):=by
 intro k
 induction k with
 |zero =>
  intro hk;rw[bU];have s3:oH false (.ref id 1 1 0 0 l.length)=some (.int .i64 0):=rfl;simp only[pG]
  simp(maxSteps:=1000000)(disch:=omega)only[go_sem,s3,nR]
 |succ k ih =>
  intro hk;have s3:oH false (.ref id 1 1 0 (k+1) l.length)=some (.int .i64 ((k:Int)+1)):=rfl;have c1:(0:Int)<(k:Int)+1:=by omega
  have e0:(k:Int)+1-1=k:=by omega
  have e3:iM 1 (.ref id 1 1 0 (k+1) l.length) (.int .i64 k)=some k:=by simp[iM,jd,lU,idx]
  have hg:l.getD k 0=l[k]:=by rw[nX,kN (by omega)];rfl
  have e4:ig H (.gu (.ref id 1 1 0 (k+1) l.length) k 0)=some [.int .i64 l[k]]:=by
   have hb:k+1<=l.length:=hk;have hk':k<l.length:=by omega
   simp only[ig,iV,hid,jY];simp[hb,ints,nH,hk',AV.cells]
  have hsl:pQ (some 1) (.ref id 1 1 0 (k+1) l.length) none (some (.int .i64 k))=some (.ref id 1 1 0 k l.length):=by
   have hb:bnd (some (.int .i64 k)) (k+1) (k+1)=some k:=by rw[Hg (by omega) (by omega)];simp
   rw[OO,hb];simp[bnd]
  have ih':=ih (by omega)
  simp only[pG,hg];rw[bU];by_cases c2:l[k]=0
  ·rw[if_pos c2];simp(maxSteps:=1000000)(disch:=omega)only[go_sem,s3,c1,e0,e3,e4,c2,hsl,ih']
  ·rw[if_neg c2];simp(maxSteps:=1000000)(disch:=omega)only[go_sem,s3,c1,e0,e3,e4,c2]
theorem acS{l:List Int}(hl:l.length<=1000000)(h:Heap)(id:Nat)(hid:h[id]?=some (1,.arr 1 (ints l)))(N:Nat)(hN:l.length=N)(lo:Nat):(run lib).fn 146 [.ref id 1 1 0 N N] h lo=some (.ref id 1 1 0 (iF l).length N,h):=by
 subst hN;have e:=fun cx=>am' hl cx h id hid l.length (bC _);have hlt:id<h.length:=(dQ.mp hid).1
 have hg:∀ t N,jf h.length (.ref id 1 1 0 t N) h=some (.ref id 1 1 0 t N):=fun t N=>by
  simp[jf,give,bL,show ¬ h.length<=id by omega]
 have ht:(iF l).length=pG l l.length:=by
  have:=H8 l l.length;simp[iF];omega
 rw[bW (x:=Cu) rfl rfl rfl rfl,ht];simp(maxSteps:=1000000)(disch:=omega)only[go_sem,Cu,e,hg,Option.map_some]
def Lp(a m:Nat):AV:=if (aC (a/m)).length=(aC a).length then .own 1 (ints (aC (a/m)))else .aW 1 (ints (aC (a/m)))
def Lr(a m:Nat):AV:=if a=0 then .own 0 []else .aW 1 (ints (aC (a%m)))
def xN(a m:Nat):AV:=if a=0 then .aW 0 []else .aW 1 (ints (aC (a%m)))
@[go_sem] theorem awm(a m:Nat):kg (Lp a m)=.aW 1 (ints (aC (a/m))):=by unfold Lp;split<;>rfl
@[go_sem] theorem awn(a m:Nat):kg (Lr a m)=xN a m:=by unfold Lr xN;split<;>rfl
@[go_sem] theorem awo(a m:Nat):(xN a m).val=true:=by unfold xN;split<;>rfl
@[go_sem] theorem awp(a m:Nat):(xN a m).cells=[xN a m]:=by unfold xN;split<;>rfl
@[go_sem] theorem awq(a m:Nat):(xN a m).closed=true:=by unfold xN;split<;>rfl
theorem acT(a m:Nat):cK 1 (xN a m) (ints (aC (a%m))):=by
 unfold xN;by_cases h:a=0
 ·rw[if_pos h];subst h;rw[Nat.zero_mod,Bc];exact .inr ⟨0,.inl rfl,.inr rfl⟩
 ·rw[if_neg h];exact .inr ⟨1,.inl rfl,.inl rfl⟩
theorem Ad(l:List Int):cK 1 (.aW 1 (ints l)) (ints l):=.inr ⟨1,.inl rfl,.inl rfl⟩
theorem acU{u:AV}{a m N:Nat}(hm:m≠0)(hN:N=(aC a).length)(s0:D6)(h0:FJ a m N N s0):∀ k s,k<=N->FJ a m N k s->FJ a m N 0 (rq (fun s k=>(true,yV u m ((aC a).getD k 0).toNat k s)) k s)
 |0,s,_,h=>h
 |k+1,s,hk,h=>by
  simp only[rq,if_true];exact acU hm hN s0 h0 k _ (by omega) (acQ hm hN k s (by omega) _ rfl h)
end Go.VI.Dump
namespace Go.VI.Dump
open Go.VI.Num
theorem ana{z:Nat}{v:AV}{es:List AV}(p:cK z v es):v.closed=true:=by
 rcases p with⟨rfl,rfl⟩|⟨z',rfl|rfl,hz⟩<;>rfl
theorem acW{u:AV}{m:Nat}{D:Nat->Nat}:∀(k:Nat) (s:D6),0<k->(rq (fun s k=>(true,yV u m (D k) k s)) k s).rv=.aW 1 (ints (aC (rq (fun s k=>(true,yV u m (D k) k s)) k s).R))
 |0,s,h=>by omega
 |1,s,h=>by simp only[rq,if_true];rfl
 |k+2,s,h=>by
  rw[rq,if_pos rfl];exact acW (k+1) _ (by omega)
theorem anb{h fr:Heap}{l:List Int}{t N:Nat}{rv rv':AV}(hl:l.length=N)(ht:t<=N)(hf:fr[3]?=some (1,.arr 1 (ints l)))(hr:∀ H:Heap,give h.length rv H=some (rv',H)) :
  jf h.length (.tuple [.ref (h.length+3) 1 1 0 t N,rv]) (h++fr)=some (.tuple [if t=N then .own 1 (ints l)else .aW 1 (ints (l.take t)),rv']):=by
 have hg:(h++fr)[h.length+3]?=some (1,.arr 1 (ints l)):=by rw[cO];exact hf
 have ha:iV (h++fr) (.ref (h.length+3) 1 1 0 t N)=some (ints (l.take t)):=by
  simp[iV,hg,hl,ht,ints,List.map_take]
 have hgv:give h.length (.ref (h.length+3) 1 1 0 t N) (h++fr)=some (if t=N then .own 1 (ints l)else .aW 1 (ints (l.take t)),(h++fr).set (h.length+3) (1,.dead)):=by
  by_cases c:t=N
  ·subst c;rw[if_pos rfl];rw[<-hl,qj]at ha;rw[<-hl];simp only[give,ha];simp
  ·rw[if_neg c];simp only[give];rw[if_neg (by omega)]
   simp[bL,ha]
 simp only[jf,rA,hgv,hr,Option.bind_some,Option.map_some]
theorem acX{v u:AV}{a m:Nat}(hm0:m≠0)(hv:cK 1 v (ints (aC a)))(hu:cK 1 u (ints (aC m)))(ha:(aC a).length<=15000)(hm:(aC m).length<=15000)(h:Heap)(lo:Nat) :
  (run lib).fn 110 [v,u] h lo=some (.tuple [Lp a m,Lr a m],h):=by
 obtain⟨v',f1,DX,f2,f3,f4,f5⟩:=CK hv;obtain⟨u',g1,g1',g2,g3,g4,g5⟩:=CK hu;have uc:=ana g4;obtain⟨N,hN⟩:∃ N,N=(aC a).length:=⟨_,rfl⟩
 have i0:FJ a m N N ⟨List.replicate N 0,0,.aP,(0,.dead),0⟩:=by
  refine⟨by simp,.inl ⟨rfl,rfl⟩,rfl, ?_, ?_, ?_⟩
  ·rw[qG (by omega)];simp[gv]
  ·rw[qG (by simp),qG (by omega)];simp[gv]
  ·rw[qG (by simp)];exact gZ.nil
 have hbk:=Ql (H:=Lm h v' u' N) (nb:=h.length+6) (lo:=h.length) (id:=h.length+0) (Y:=fun s k=>(true,yV u' m ((aC a).getD k 0).toNat k s)) (Iv:=FJ a m N) f4 (by omega) (fun s=>by simp[Lm]) (by omega)
  (fun k s hk hi _=>acQ hm0 hN k s (by omega) _ rfl hi)
  (fun k s hk hi=>by
   have gm:(aC a).getD k 0=(aC a)[k]:=by rw[nX,kN hk];rfl
   have hx:=tZ a (aC a)[k] (l9 hk);have hR:s.R<m:=by rw[hi.2.2.2.1];exact Nat.mod_lt _ (by omega)
   have y:=am6 (v:=v') (u:=u') hm0 g4 uc hm N (by omega) h s hi.1 hi.2.1 hR hi.2.2.1 k (by omega) ((aC a).getD k 0).toNat (by rw[gm];omega) h.length (bC _)
   have e:(((aC a).getD k 0).toNat:Int)=(aC a)[k]:=by rw[gm];omega
   rw[e]at y;exact y)
  ⟨List.replicate N 0,0,.aP,(0,.dead),0⟩ (by rw[<-hN];exact i0)
 have hfin:=acU (u:=u') hm0 hN _ i0 (aC a).length ⟨List.replicate N 0,0,.aP,(0,.dead),0⟩ (by omega) (by rw[<-hN];exact i0)
 have Vi:∀ H:Heap,give h.length (rq (fun s k=>(true,yV u' m ((aC a).getD k 0).toNat k s)) (aC a).length ⟨List.replicate N 0,0,.aP,(0,.dead),0⟩).rv H=some (Lr a m,H):=by
  intro H;by_cases c:a=0
  ·subst c;rfl
  ·have hne:aC a≠[]:=fun e=>c (Bd.mp e);have hR:=hfin.2.2.2.1;rw[List.drop_zero,qW,wK]at hR;rw[acW _ _ (uj.mpr hne),hR];unfold Lr;rw[if_neg c];simp[give,bL]
 obtain⟨s',hs'⟩:∃ s',s'=rq (fun s k=>(true,yV u' m ((aC a).getD k 0).toNat k s)) (aC a).length ⟨List.replicate N 0,0,.aP,(0,.dead),0⟩:=⟨_,rfl⟩;rw[<-hs']at hbk hfin Vi;clear hs';obtain⟨q,R,rv,s1,w2⟩:=s';obtain⟨hq,hp,hval,hR,hQ,hdig⟩:=hfin;simp only[List.drop_zero,qW,wK]at hq hp hval hR hQ hdig Vi;have htr:iF q=aC (a/m):=by rw[H9 hdig,hQ,wK]
 have htl:(iF q).length<=N:=by simp[iF];omega
 have htk:q.take (aC (a/m)).length=aC (a/m):=by
  rw[<-htr];unfold iF;rw[qi,zG (H8 _ _)]
 have bw:=Qm v v' f1 DX f2 f5;have s1':=iB (hv.sl []).len;simp only[jY,<-hN]at s1';have Vj:ints (List.replicate N 0)=List.replicate N (AV.int .i64 0):=by simp[ints]
 have g3':=Bb (L:=lib) (lo:=h.length) (ns:=6) (s:=0) (g:=9) (it:=175) (v:=0) (caps:=[.bR [v']]) (env:=D5 h v' u') (h:=h) (b:=.dead) (fr:=[(0,.dead),(0,.dead),(0,.dead),(1,.arr 1 (ints (List.replicate N 0))),(1,.box [.ref (h.length+3) 1 1 0 N N]),(1,.box [.aP])])
  (fr':=[(1,.ax ⟨9,h.length,h.length,6,D5 h v' u'⟩ .ready),s1,(w2,.dead),(1,.arr 1 (ints q)),(1,.box [.ref (h.length+3) 1 1 0 N N]),(1,.box [rv])]) (f:=.t 14) rfl (by omega) rfl hbk rfl
 simp only[D5,List.set_cons_zero,Vj]at g3';have hmk:=fun hh=>SK (h:=hh) (cx:=⟨h.length,h.length,6,none⟩) (s:=3) (z:=1) (zero:=.int .i64 0) (lim:=17592186044416) (k:=.i64) (k':=.i64) (a:=(N:Int)) (b:=(N:Int)) (by omega) (by omega) (by omega)
 have tr:=fun H hid lo=>acS (l:=q) (by omega) H (h.length+3) hid N hq lo
 have xP:=tr (h++[(1,.dead),s1,(w2,.dead),(1,.arr 1 (ints q)),(1,.box [.ref (h.length+3) 1 1 0 N N]),(1,.box [rv])]) (by rw[cO];rfl)
 have og:=anb (h:=h) (fr:=[(1,.dead),s1,(w2,.dead),(1,.arr 1 (ints q)),(1,.box [.ref (h.length+3) 1 1 0 (iF q).length N]),(1,.box [rv])]) (l:=q) hq htl rfl Vi;have hrc:rv.cells=[rv]:=by rcases hp with⟨rfl,_⟩|⟨z',rfl|rfl,hz⟩<;>rfl
 have hQv:(if (iF q).length=N then AV.own 1 (ints q)else .aW 1 (ints (q.take (iF q).length)))=Lp a m:=by
  unfold Lp;rw[htr,<-hN];by_cases c:(aC (a/m)).length=N
  ·rw[if_pos c,if_pos c];rw[c,<-hq,qj]at htk;rw[htk]
  ·rw[if_neg c,if_neg c,htk]
 rw[hQv]at og;have n1:¬ h.length=h.length+4:=by omega
 have n2:¬ h.length+4=h.length+5:=by omega
 have n3:¬ h.length+5=h.length+4:=by omega
 rw[bW (x:=TU) rfl rfl rfl rfl];simp(maxSteps:=1000000)(disch:=omega)only[go_sem,TU,f1,f2,f5,g1,g2,g5,s1',hmk,Fb,bw,g3',xP,hrc,hval,n1,n2,n3,og]
end Go.VI.Dump
namespace Go.VI
theorem CO{α:Type}[BEq α][LawfulBEq α][DecidableEq α](a b:α):(a==b)=decide (a=b):=by rw[Bool.eq_iff_iff];simp
@[go_sem] theorem awr(a b:List UInt8):jh .eql (.str a) (.str b)=some (.bool (decide (a=b))):=by simp only[jh,CO]
@[go_sem] theorem aws(a b:List UInt8):jh .neq (.str a) (.str b)=some (.bool (decide (a≠b))):=by simp only[jh,CO];simp
theorem Vk{a b:List UInt8}(h:a.length+b.length<=1000000000000):jh .add (.str a) (.str b)=some (.str (a++b)):=by simp[jh,h]
theorem Lu{L:Lib}{f:Nat}{args:List AV}{h:Heap}{lo:Nat}{r:AV}(ho:L.pq f args h=some r):(run L).fn f args h lo=some (r,h):=by rw[run_eq,ho]
theorem Lv{k:IntKind}(c:UInt8)(r:List UInt8)(h:Heap):Fa (.int k 0) h (.str (c::r))=some (.int .u8 c.toNat,h):=by simp[Fa,KF,idx]
theorem acY{k:IntKind}{l:List UInt8}{i:Nat}(hi:i<l.length)(h:Heap):Fa (.int k i) h (.str l)=some (.int .u8 l[i].toNat,h):=by simp[Fa,KF,idx,hi]
theorem Vl{k:IntKind}{l:List UInt8}{i:Nat}(hi:i<=l.length):pQ none (.str l) (some (.int k i)) none=some (.str (l.drop i)):=by
 simp[pQ,bnd];omega
theorem ane{k:IntKind}{l:List UInt8}{i:Nat}(hi:i<=l.length):pQ none (.str l) none (some (.int k i))=some (.str (l.take i)):=by
 simp[pQ,bnd,hi]
end Go.VI
namespace Go.VI.Dump
open Go.VI.Num
theorem acZ(s p:List UInt8)(h:Heap)(lo:Nat):(run lib).fn 163 [.str s,.str p] h lo=some (.str (Lib.trimPrefix s p),h):=Lu rfl
theorem anf{s c:List UInt8}(hs:s.length<=1000)(hc:c.length<=1000)(ha:c.all (fun b=>decide (b.toNat<128))=true)(h:Heap)(lo:Nat):(run lib).fn 164 [.str s,.str c] h lo=some (.str (Lib.trimS s c),h):=by
 refine Lu ?_
 show uO .trim [.str s,.str c] h=some _
 simp only[uO];rw[if_pos ⟨by unfold AZ;omega,by unfold AZ;omega,ha⟩]
theorem Vm(s:List UInt8)(h:Heap)(lo:Nat):(run lib).fn 134 [.str s] h lo=some (.bool (xJ s),h):=by
 have tp:=fun H lo=>acZ s [45] H lo;have hb:body s=Lib.trimPrefix s [45]:=rfl;rw[<-hb]at tp;rw[bW (x:=Fv) rfl rfl rfl rfl];unfold xJ;generalize body s=d at*;by_cases c1:d=[]
 ·subst c1;simp(maxSteps:=1000000)(disch:=omega)only[go_sem,Fv,tp,List.isEmpty_nil]
 ·have c1':d.isEmpty=false:=by cases d with|nil=>exact absurd rfl c1|cons=>rfl
  by_cases c2:d.length<=200
  ·have c2':¬ (200:Int)<d.length:=by omega
   have tr:=anf (s:=d) (c:=[48,49,50,51,52,53,54,55,56,57]) (by omega) (by decide) (by decide)
   have hds:ds=[48,49,50,51,52,53,54,55,56,57]:=rfl;rw[<-hds]at tr;rw[c1',decide_eq_true c2];by_cases c3:Lib.trimS d ds=[]
   ·rw[c3]at tr⊢;have hs:(s==[48])=decide (s=[48]):=CO s [48];rw[hs];by_cases c4:s=[48]
    ·subst c4;simp(maxSteps:=1000000)(disch:=omega)only[go_sem,Fv,tp,c1,c2',<-hds,tr,List.isEmpty_nil]
    ·obtain⟨c,r,rfl⟩:=Fy c1;have hx:=fun H=>Lv (k:=.i64) c r H;have e:((c::r).head?==some 48)=decide (c=48):=by rw[CO];simp
     have e2:decide (((c.toNat:Nat):Int)=48)=decide (c=48):=by
      rw[decide_eq_decide,<-UInt8.toNat_inj];have:(48:UInt8).toNat=48:=rfl;omega
     rw[e];have e3:decide (((c.toNat:Nat):Int)≠48)=!decide (c=48):=by rw[<-e2];simp
     have ang:¬ (200:Int)<(r.length:Int)+1:=by simp at c2;omega
     simp(maxSteps:=1000000)(disch:=omega)only[go_sem,Fv,tp,c1,jo,ang,<-hds,tr,c4,List.isEmpty_nil,hx];simp[e2]
   ·have c3':(Lib.trimS d ds).isEmpty=false:=by cases hh:Lib.trimS d ds with|nil=>exact absurd hh c3|cons=>rfl
    rw[c3'];simp(maxSteps:=1000000)(disch:=omega)only[go_sem,Fv,tp,c1,c2',<-hds,tr,c3]
  ·have c2':(200:Int)<d.length:=by omega
   rw[decide_eq_false c2];simp(maxSteps:=1000000)(disch:=omega)only[go_sem,Fv,tp,c1,c2']
end Go.VI.Dump
namespace Go.VI.Dump
open Go.VI.Num
theorem anh{s:List UInt8}(hd:ug s)(hn:s≠[])(hl:s.length<=18)(h:Heap)(lo:Nat):(run lib).fn 174 [.str s] h lo=some (.tuple [.int .i64 (dv 0 s:Nat),.j6],h):=by
 refine Lu ?_;have e:=amr hd hn hl
 show uO (.atoi _) [.str s] h=some _
 simp only[uO];rw[if_pos (by unfold AZ;omega),e]
def CP(h:Heap)(neg:Bool)(acc:List Int)(B:Nat×au):Heap:=[bX (0,.dead) 1 (ints acc),(1,.box [.bool neg,cu (h.length+0) (0,.dead) 1 (ints acc)]),B]
theorem ani(neg:Bool)(B:Nat×au)(h:Heap):∀(f:Nat) (l:List UInt8) (acc:List Int),l.length<=f->ug l->acc.length+l.length<=1000 ->
  aQ lib ⟨h.length,h.length,3,none⟩ (.loop Un) ([(2,.aF (h.length+2) 1 0),(3,.str l),(4,.aF (h.length+1) 1 0)],h++CP h neg acc B) =
   some (.exit 0,([(2,.aF (h.length+2) 1 0),(4,.aF (h.length+1) 1 0)],h++CP h neg (acc++uV f l) B)):=by
 intro f
 induction f with
 |zero =>
  intro l acc hl hd ha;have:l=[]:=List.length_eq_zero_iff.mp (by omega)
  subst this;rw[bU];simp only[uV,nI]
  simp(maxSteps:=1000000)(disch:=omega)only[go_sem,CP,nR]
 |succ f ih =>
  intro l acc hl hd ha;by_cases h0:l=[]
  ·subst h0;rw[bU];simp only[uV,if_true,nI];simp(maxSteps:=1000000)(disch:=omega)only[go_sem,CP,nR]
  ·have hlen:0<l.length:=uj.mpr h0;have hd1:ug (l.take (l.length-4)):=fun x hx=>hd x (zH hx);have hd2:ug (l.drop (l.length-4)):=fun x hx=>hd x (List.mem_of_mem_drop hx);have c1:(0:Int)<l.length:=by omega
   have em:max (0:Int) ((l.length:Int)-4)=((l.length-4:Nat):Int):=by omega
   have s1:=Vl (k:=.i64) (show l.length-4<=l.length by omega)
   have s2:=ane (k:=.i64) (show l.length-4<=l.length by omega)
   have Lx:=anh hd2 (by intro e;have:=congrArg List.length e;simp at this;omega) (by simp;omega)
   have k:=ih (l.take (l.length-4)) (acc++[(dv 0 (l.drop (l.length-4)):Int)]) (by simp;omega) hd1 (by simp;omega)
   have e:acc++uV (f+1) l=(acc++[(dv 0 (l.drop (l.length-4)):Int)])++uV f (l.take (l.length-4)):=by simp[uV,h0]
   rw[e];have ea:=fun x:Int=>wD (lo:=h.length) (ns:=3) (s:=0) (z:=1) (lim:=17592186044416) (h:=h) (fr:=CP h neg acc B) (b0:=(0,.dead)) (es:=ints acc) (xs:=[.int .i64 x]) (by omega) (bC _) rfl (by simp;omega)
   simp only[<-FH,<-FE,CP,List.set_cons_zero]at ea;generalize l.drop (l.length-4)=y at*;generalize dv 0 y=x at*;have hi:[AV.int .i64 (x:Int)]=ints [(x:Int)]:=rfl;simp only[CP]at k;rw[bU];simp(maxSteps:=1000000)(disch:=omega)only[go_sem,CP,c1,em,s1,s2,Lx,hi,jY,ea,tK,k]
def Ae(z:Int):AV:=.agg [.bool (decide (z<0)),.aW 1 (ints (aC z.natAbs))]
theorem ac0{z:Int}(hz:z.natAbs<10^200)(h:Heap)(lo:Nat):(run lib).fn 144 [.str (aH z)] h lo=some (Ae z,h):=by
 have tp:=fun H lo=>acZ (aH z) [45] H lo;have hb:Lib.trimPrefix (aH z) [45]=dec z.natAbs:=UR z;rw[hb]at tp
 have hneg:decide (((dec z.natAbs).length:Int)<(aH z).length)=decide (z<0):=by
  rw[decide_eq_decide];unfold aH;by_cases c:z<0
  ·rw[if_pos c];simp;omega
  ·rw[if_neg c];simp;omega
 have hl:=(Cz (n:=z.natAbs) (k:=200) (by omega)).mpr hz
 obtain⟨k1,k2⟩:=ab' _ (dec z.natAbs) (bC _) (K4 _);rw[Ib]at k1;have htr:=H9 k2;rw[k1,wK]at htr
 have hne:uV (dec z.natAbs).length (dec z.natAbs)≠[]:=by
  have:=Cy z.natAbs;obtain⟨c,r,e⟩:=Fy this;rw[e];simp[uV]
 have pl:=fun B=>ani (decide (z<0)) B h _ (dec z.natAbs) [] (bC _) (K4 _) (by simp;omega)
 have hpl:(uV (dec z.natAbs).length (dec z.natAbs)).length<=1000:=by
  have:∀ f l,(uV f l).length<=f:=by
   intro f
   induction f with
   |zero=>intro l;exact bC _
   |succ f ih =>
    intro l;simp only[uV];split
    ·simp
    ·have:=ih (l.take (l.length-4));simp;omega
  have:=this (dec z.natAbs).length (dec z.natAbs);omega
 simp only[List.nil_append]at pl;generalize dec z.natAbs=d at*;generalize uV d.length d=P at*;have ac1:ints P≠[]:=by intro e;exact hne (by simpa[ints]using e)
 simp only[CP,G7 ac1,G8 ac1,jY]at pl;have i0:cu (h.length+0) (0,.dead) 1 (ints [])=.aP:=rfl;have j0:bX (0,.dead) 1 (ints [])=(0,.dead):=rfl;rw[i0,j0]at pl;have tr:=fun H hid lo=>acS (l:=P) (by omega) H (h.length+0) hid P.length rfl lo
 have xP:=fun b2 b3=>tr (h++[(0+1,.arr 1 (ints P)),b2,b3]) (by rw[cO];rfl)
 have htl:(iF P).length<=P.length:=by simp[iF];omega
 have htk:P.take (iF P).length=aC z.natAbs:=by
  rw[<-htr];unfold iF;rw[qi,zG (H8 _ _)]
 have hfz:∀ b2 b3,bL h.length true (.ref (h.length+0) 1 1 0 (iF P).length P.length) (h++[(0+1,.arr 1 (ints P)),b2,b3])=some (.aW 1 (ints (aC z.natAbs)),h++[(1,.dead),b2,b3]):=fun b2 b3=>by
  have hg:(h++[(0+1,au.arr 1 (ints P)),b2,b3])[h.length+0]?=some (1,.arr 1 (ints P)):=by rw[cO];rfl
  have ha:iV (h++[(0+1,au.arr 1 (ints P)),b2,b3]) (.ref (h.length+0) 1 1 0 (iF P).length P.length)=some (ints (aC z.natAbs)):=by
   simp only[iV,hg];rw[if_pos (by simp[htl]),<-htk]
   simp[ints,List.map_take]
  simp only[bL];rw[if_pos (by omega),ha,gy]
  rfl
 rw[bW (x:=Uo) rfl rfl rfl rfl];unfold Ae;simp(maxSteps:=1000000)(disch:=omega)only[go_sem,Uo,tp,hneg,tK,pl,xP,hfz]
theorem Iy{x y:Int}(hx:x.natAbs<10^200)(hy:y.natAbs<10^200)(h:Heap)(lo:Nat):(run lib).fn 109 [.str (aH x),.str (aH y)] h lo=some (.tuple [Ae x,Ae y,.bool true],h):=by
 have v1:=fun H lo=>Vm (aH x) H lo;have v2:=fun H lo=>Vm (aH y) H lo;have p1:=fun H lo=>ac0 hx H lo;have p2:=fun H lo=>ac0 hy H lo;rw[uT hx]at v1;rw[uT hy]at v2;simp only[Ae]at p1 p2⊢;rw[bW (x:=TT) rfl rfl rfl rfl];simp(maxSteps:=1000000)(disch:=omega)only[go_sem,TT,v1,v2,p1,p2,tK]
end Go.VI.Dump
namespace Go.VI
def ru(h:Heap)(W:List UInt8)(w:Nat):Nat×au:=if W=[] then(0,.dead) else(w,.ax (dO.at (h.length+1) (.buf W)) (.fO (.buf W)))
def qf(h:Heap)(W:List UInt8)(w:Nat):Nat×au:=(1,.ax (dO.at (h.length+2) (.fM (h.length+2) 1 (if W=[]then none else some (h.length+1,w)))) (.fO (.fM (h.length+2) 1 (if W=[]then none else some (h.length+1,w)))))
theorem ac2{h:Heap}{p:Nat×Nat}{R:Nat×au}{W l:List UInt8}{w:Nat}(hl:l≠[])(hb:W.length+l.length<=zx)(hw:W=[]->w=0) :
  yj ⟨h.length,h.length,3,some p⟩ 1 (.dY (h.length+2) 1) (.str l) (h++[R,ru h W w,qf h W w])=some (.tuple [.int .i64 l.length,.j6],h++[R,ru h (W++l) (w+1),qf h (W++l) (w+1)]):=by
 have hne:W++l≠[]:=by simp[hl]
 by_cases h0:W=[]
 ·have:=hw h0;subst h0;subst this;have hg:(h++[R,(0,au.dead),qf h [] 0])[h.length+2]?=some (qf h [] 0):=by rw[cO];rfl
  have hm:=uW (lo:=h.length) (ns:=3) (s:=1) (p:=p) (b:=.ax (dO.at (h.length+1) (.buf l)) (.fO (.buf l))) (h:=h) (fr:=[R,(0,au.dead),qf h [] 0]) rfl;simp only[List.getElem?_cons_succ,List.getElem?_cons_zero,AO,List.set_cons_succ,List.set_cons_zero,List.length_nil,oO]at hm hb;rw[if_pos (by omega)]at hm
  simp only[ru,if_true,hg,List.nil_append,if_neg hl];simp only[qf,if_true]at hg hm⊢;simp[yj,hg,hl,hb,hm,gy];rfl
 ·have hg:(h++[R,ru h W w,qf h W w])[h.length+2]?=some (qf h W w):=by rw[cO];rfl
  have hg1:(h++[R,ru h W w,qf h W w])[h.length+1]?=some (ru h W w):=by rw[cO];rfl
  simp only[ru,qf,if_neg h0,if_neg hne]at hg hg1⊢;simp[yj,hg,hg1,h0,hb,gy,dO.at];rfl
theorem anj{h:Heap}{R:Nat×au}{W:List UInt8}{w:Nat}(hl:W≠[]) :
  BQ ⟨h.length,h.length,3,none⟩ (.dY (h.length+2) 1) (h++[R,ru h W w,qf h W w])=some (.str W):=by
 have hg:(h++[R,ru h W w,qf h W w])[h.length+2]?=some (qf h W w):=by rw[cO];rfl
 have hg1:(h++[R,ru h W w,qf h W w])[h.length+1]?=some (ru h W w):=by rw[cO];rfl
 simp only[ru,qf,if_neg hl]at hg hg1⊢;simp[BQ,hg,hg1,hl]
end Go.VI
namespace Go.VI.Dump
open Go.VI.Num
theorem ac3{n:Int}(h0:-9223372036854775808<=n)(h1:n<=9223372036854775807)(h:Heap)(lo:Nat):(run lib).fn 104 [.int .i64 n] h lo=some (.str (aH n),h):=by
 refine Lu ?_
 show uO .itoa [.int .i64 n] h=some _
 simp only[uO];rw[if_pos ⟨h0,h1⟩]
 have e:KN n=aH n:=by
  unfold KN aH;have e20:(10:Nat)^20=100000000000000000000:=by decide
  by_cases c:n<0
  ·rw[if_pos c,if_pos c,UL (by rw[e20];omega) (by omega)]
  ·have:n.toNat=n.natAbs:=by omega
   rw[if_neg c,if_neg c,UL (by rw[e20];omega) (by omega),this]
 rw[e]
theorem repeatL_one(c:UInt8):∀ n,Lib.repeatL [c] n=List.replicate n c
 |0=>rfl
 |n+1=>by rw[Lib.repeatL,repeatL_one c n];rfl
theorem ac4{n:Nat}(hn:n<=1000)(c:UInt8)(h:Heap)(lo:Nat):(run lib).fn 123 [.str [c],.int .i64 n] h lo=some (.str (List.replicate n c),h):=by
 refine Lu ?_
 show uO .Ht [.str [c],.int .i64 n] h=some _
 simp only[uO];rw[if_pos ⟨by omega,by simp[zx];omega,by omega,by simp⟩,wK,repeatL_one]
theorem Vn(d:Nat):aH (d:Int)=dec d:=by
 unfold aH;rw[if_neg (by omega),vC]
def Af(l:List Int)(k:Nat):List UInt8:=if k+1<l.length then wH (l.getD k 0).toNat else dec (l.getD k 0).toNat
def D7(h:Heap)(v:AV)(neg:Bool):Env:=[(1,.bR [.bool neg,v]),(2,.str []),(3,.int .i64 0),(4,.dY (h.length+2) 1),(15,.fn 175 [.bR [v]])]
def Iz(h:Heap)(v:AV)(neg:Bool)(s:List UInt8×Nat):Heap:=h++[(1,.ax ⟨10,h.length,h.length,3,D7 h v neg⟩ .ready),ru h s.1 s.2,qf h s.1 s.2]
theorem ac5{d:Nat}(h:d<=9999):(dec d).length<=4:=(Cz (by omega)).mpr (by have:(10:Nat)^4=10000:=(by decide);omega)
theorem ank{v:AV}{l:List Int}{neg:Bool}(hv:cK 1 v (ints l))(hl:l.length<=10000)(h:Heap)(k:Nat)(hk:k<l.length)(d:Nat)(hd:d<=9999)(hg:(l.getD k 0).toNat=d)(s:List UInt8×Nat)(hs:s.1.length<=100000)(hw:s.1=[]->s.2=0)(lo:Nat)(hlo:lo<=h.length) :
  iY (run lib) ⟨lo,h.length+3,0,none⟩ (h.length+0) 1 [.int .i64 k,.int .i64 d] (Iz h v neg s)=some (.bool true,Iz h v neg (s.1++Af l k,s.2+1)):=by
 obtain⟨W,w⟩:=s;obtain⟨D,hD⟩:∃ D:dO,D=⟨10,h.length,h.length,3,D7 h v neg⟩:=⟨_,rfl⟩;simp only[]at hs hw;simp only[Iz,<-hD,Af,hg];have s1:=iB (hv.sl []).len;rw[jY]at s1
 have ha':aQ lib ⟨h.length,h.length,3,some (h.length+0,1)⟩ DI.jE ((DI.ps.zip [.int .i64 k,.int .i64 d]).foldl (fun e p=>e.set p.1 p.2) (D7 h v neg),h++[(1,.ax D .ready),ru h W w,qf h W w]) =
   some (.norm,([(1,.bR [.bool neg,v]),(4,.dY (h.length+2) 1),(5,.int .i64 k),(6,.int .i64 d)],h++[(1,.ax D .ready),ru h W w,qf h W w])):=by
  simp(maxSteps:=1000000)(disch:=omega)only[go_sem,DI,D7,List.zip_cons_cons,Ac,List.foldl_cons,wL]
 have hg0:(h++[(1,au.ax D .ready),ru h W w,qf h W w])[h.length+0]?=some (1,.ax ⟨10,h.length,h.length,3,D7 h v neg⟩ .ready):=by rw[cO,<-hD];rfl
 have it:=fun H lo=>ac3 (n:=(d:Int)) (by omega) (by omega) H lo
 rw[Vn]at it;have hd4:=ac5 hd
 have hb:aQ lib ⟨h.length,h.length,3,some (h.length+0,1)⟩ DI.body ([(1,.bR [.bool neg,v]),(4,.dY (h.length+2) 1),(5,.int .i64 k),(6,.int .i64 d)],(h++[(1,.ax D .ready),ru h W w,qf h W w]).set (h.length+0) (1,.ax D .busy)) =
   some (.norm,([],h++[(1,.ax D .busy),ru h (W++if k+1<l.length then wH d else dec d) (w+1),qf h (W++if k+1<l.length then wH d else dec d) (w+1)])):=by
  rw[gy];by_cases c:k+1<l.length
  ·rw[if_pos c];have c1:(k:Int)<(l.length:Int)-1:=by omega
   have rp:=fun H lo=>ac4 (n:=4-(dec d).length) (by omega) 48 H lo
   have e4:(4:Int)-((dec d).length:Int)=((4-(dec d).length:Nat):Int):=by omega
   have ad:jh .add (.str (List.replicate (4-(dec d).length) 48)) (.str (dec d))=some (.str (wH d)):=by
    rw[Vk (by simp;omega),amo (by omega)]
   have bs:=ac2 (h:=h) (p:=(h.length+0,1)) (R:=(1,.ax D .busy)) (W:=W) (l:=wH d) (w:=w) (by simp[wH]) (by simp[wH,zx];omega) hw
   simp(maxSteps:=1000000)(disch:=omega)only[go_sem,DI,it,s1,c1,e4,rp,ad,bs]
  ·rw[if_neg c];have c1:¬ (k:Int)<(l.length:Int)-1:=by omega
   have bs:=ac2 (h:=h) (p:=(h.length+0,1)) (R:=(1,.ax D .busy)) (W:=W) (l:=dec d) (w:=w) (Cy d) (by simp[zx];omega) hw
   simp(maxSteps:=1000000)(disch:=omega)only[go_sem,DI,it,s1,c1,bs]
 have:=xG (L:=lib) (cx:=⟨lo,h.length+3,0,none⟩) hg0 hlo (by omega) (by omega) (by simp[AV.l5,AV.closed]) (x:=DI) rfl rfl ha' (by rw[cO];rfl) hb (by rw[cO];rfl)
 rw[this,gy];rfl
def LA(l:List Int)(k:Nat)(s:List UInt8×Nat):Prop:=s.1=K6 (l.drop k)/\s.1.length<=4*(l.length-k)/\(s.1=[]->s.2=0)
theorem ac6{l:List Int}(hd:gZ l)(k:Nat)(s:List UInt8×Nat)(hk:k<l.length)(hi:LA l (k+1) s):LA l k (s.1++Af l k,s.2+1):=by
 obtain⟨h1,h2,h3⟩:=hi;have gm:l.getD k 0=l[k]:=by rw[nX,kN hk];rfl
 have hx:=hd l[k] (l9 hk)
 have hlen:(Af l k).length<=4:=by
  unfold Af;split
  ·simp[wH]
  ·exact ac5 (by rw[gm];omega)
 have hne:Af l k≠[]:=by
  unfold Af;split
  ·simp[wH]
  ·exact Cy _
 refine⟨?_,by simp;omega,fun h=>by simp at h;exact absurd h.2 hne⟩
 simp only[];rw[qH hk,K6,h1];unfold Af;rw[gm];by_cases c:k+1<l.length
 ·rw[if_pos c,if_neg (by intro e;have:=congrArg List.length e;simp at this;omega)]
 ·rw[if_neg c,qG (by omega),if_pos rfl];rfl
def outT(z:Int):AV:=if z.natAbs<10^200 then .tuple [.str (aH z),.int .i64 0]else .tuple [.str [],.int .i64 30]
def lm(neg:Bool)(n:Nat):Int:=if neg then -(n:Int)else n
theorem Vo(neg:Bool)(n:Nat):(lm neg n).natAbs=n:=by unfold lm;split<;>omega
theorem IA{v:AV}{n:Nat}(neg:Bool)(hv:cK 1 v (ints (aC n)))(hn:(aC n).length<=10000)(h:Heap)(lo:Nat) :
  (run lib).fn 114 [.agg [.bool neg,v]] h lo=some (outT (lm neg n),h):=by
 obtain⟨v',f1,DX,f2,f3,f4,f5⟩:=CK hv;have s1:=iB (f4.sl []).len;rw[jY]at s1;by_cases h0:n=0
 ·subst h0;have e:outT (lm neg 0)=.tuple [.str [48],.int .i64 0]:=by cases neg<;>rfl
  rw[Bc]at s1;simp only[List.length_nil,qX]at s1;rw[e,bW (x:=x114) rfl rfl rfl rfl];simp(maxSteps:=1000000)(disch:=omega)only[go_sem,x114,f1,f2,f5,s1,qX]
 ·have hne:aC n≠[]:=fun e=>h0 (Bd.mp e);have hpos:=uj.mpr hne;have c0:¬ ((aC n).length:Int)=0:=by omega
  have i0:LA (aC n) (aC n).length ([],0):=⟨by rw[qG (bC _)];rfl,by simp,fun _=>rfl⟩
  have dg:=tZ n
  have hbk:=Ql (H:=Iz h v' neg) (nb:=h.length+3) (lo:=h.length) (id:=h.length+0) (Y:=fun s k=>(true,(s.1++Af (aC n) k,s.2+1))) (Iv:=LA (aC n)) f4 (by omega) (fun s=>by simp[Iz]) (by omega)
   (fun k s hk hi _=>ac6 dg k s hk hi)
   (fun k s hk hi=>by
    have gm:(aC n).getD k 0=(aC n)[k]:=by rw[nX,kN hk];rfl
    have hx:=dg (aC n)[k] (l9 hk);have y:=ank (v:=v') (l:=aC n) (neg:=neg) f4 hn h k hk ((aC n).getD k 0).toNat (by rw[gm];omega) rfl s (by have:=hi.2.1;omega) hi.2.2 h.length (bC _)
    have e:(((aC n).getD k 0).toNat:Int)=(aC n)[k]:=by rw[gm];omega
    rw[e]at y;exact y) ([],0) i0
  have hfin:=Vf (Y:=fun s k=>(true,(s.1++Af (aC n) k,s.2+1))) (Iv:=LA (aC n)) (fun s k=>rfl) (fun k s hk hi=>ac6 dg k s hk hi) (aC n).length ([],0) (bC _) i0;obtain⟨s',hs'⟩:∃ s',s'=rq (fun(s:List UInt8×Nat) k=>(true,(s.1++Af (aC n) k,s.2+1))) (aC n).length ([],0):=⟨_,rfl⟩;rw[<-hs']at hbk hfin;clear hs';obtain⟨W,w⟩:=s';have hW:W=dec n:=by have:=hfin.1;rw[List.drop_zero,amq h0]at this;exact this
  subst hW;have bw:=Qm v' v' DX DX f3 f5;have b0:ru h [] 0=(0,.dead):=rfl;have b1:qf h [] 0=(1,.ax (dO.at (h.length+2) (.fM (h.length+2) 1 none)) (.fO (.fM (h.length+2) 1 none))):=rfl;simp only[Iz,b0,b1]at hbk
  have g3':=Bb (L:=lib) (lo:=h.length) (ns:=3) (s:=0) (g:=10) (it:=175) (v:=0) (caps:=[.bR [v']]) (env:=D7 h v' neg) (h:=h) (b:=.dead) (fr:=[(0,.dead),(0,.dead),(1,.ax (dO.at (h.length+2) (.fM (h.length+2) 1 none)) (.fO (.fM (h.length+2) 1 none)))])
   (fr':=[(1,.ax ⟨10,h.length,h.length,3,D7 h v' neg⟩ .ready),ru h (dec n) w,qf h (dec n) w]) (f:=.t 15) rfl (by omega) rfl hbk rfl
  simp only[D7,List.set_cons_zero]at g3';have be:=anj (h:=h) (R:=(1,.dead)) (W:=dec n) (w:=w) (Cy n);have hlen:=Cz (n:=n) (k:=200) (by omega)
  have hbig:(dec n).length<=100000:=by
   have:=hfin.2.1;simp only[]at this;omega
  have ad:jh .add (.str [45]) (.str (dec n))=some (.str (45::dec n)):=by rw[Vk (by simp;omega)];rfl
  rw[bW (x:=x114) rfl rfl rfl rfl];unfold outT;rw[Vo];by_cases c:n<10^200
  ·have c1:¬ (200:Int)<(dec n).length:=by have:=hlen.mpr c;omega
   rw[if_pos c]
   cases neg with
   |true =>
    have e:aH (lm true n)=45::dec n:=by
     unfold aH lm;rw[if_pos rfl,if_pos (by omega)]
     have:(-(n:Int)).natAbs=n:=by omega
     rw[this]
    rw[e]
    simp(maxSteps:=1000000)(disch:=omega)only[go_sem,x114,f1,f2,f5,s1,c0,gy,bw,g3',be,c1,ad]
   |false =>
    have e:aH (lm false n)=dec n:=by
     unfold lm;rw[if_neg (by simp),Vn]
    rw[e];simp(maxSteps:=1000000)(disch:=omega)only[go_sem,x114,f1,f2,f5,s1,c0,gy,bw,g3',be,c1,ad]
  ·have c1:(200:Int)<(dec n).length:=by
    rcases Int.lt_or_le (200:Int) (dec n).length with h|h
    ·exact h
    ·exact absurd (hlen.mp (by omega)) c
   rw[if_neg c];simp(maxSteps:=1000000)(disch:=omega)only[go_sem,x114,f1,f2,f5,s1,c0,gy,bw,g3',be,c1,ad]
end Go.VI.Dump
namespace Go.VI.Dump
open Go.VI.Num
theorem LD(x:Int):lm (decide (x<0)) x.natAbs=x:=by
 unfold lm;by_cases c:x<0
 ·rw[decide_eq_true c,if_pos rfl];omega
 ·rw[decide_eq_false c,if_neg (by simp)];omega
def Ag(a:Bool)(n:Nat)(b:Bool)(m:Nat):Bool×Nat:=if a=b then(a,n+m)else if m<=n then(a,n-m) else(b,m-n)
theorem Vp(a:Bool)(n:Nat)(b:Bool)(m:Nat):lm (Ag a n b m).1 (Ag a n b m).2=lm a n+lm b m:=by
 unfold Ag;by_cases c:a=b
 ·subst c;rw[if_pos rfl];cases a<;>simp[lm]<;>omega
 ·rw[if_neg c];by_cases c2:m<=n
  ·rw[if_pos c2];cases a<;>cases b<;>simp[lm]at c⊢<;>omega
  ·rw[if_neg c2];cases a<;>cases b<;>simp[lm]at c⊢<;>omega
theorem Qs(a b:Int):(0<=eX a b)↔b<=a:=by
 unfold eX;by_cases h1:a<b
 ·rw[if_pos h1];omega
 ·rw[if_neg h1];by_cases h2:a=b
  ·rw[if_pos h2];omega
  ·rw[if_neg h2];omega
theorem ac7{v u:AV}{n m:Nat}(a b:Bool)(hv:cK 1 v (ints (aC n)))(hu:cK 1 u (ints (aC m)))(hn:(aC n).length<=50000)(hm:(aC m).length<=50000)(h:Heap)(lo:Nat) :
  (run lib).fn 162 [.agg [.bool a,v],.agg [.bool b,u]] h lo=some (.agg [.bool (Ag a n b m).1,.aW 1 (ints (aC (Ag a n b m).2))],h):=by
 obtain⟨v',f1,DX,f2,f3,f4,f5⟩:=CK hv;obtain⟨u',g1,g1',g2,g3,g4,g5⟩:=CK hu;have pl:=fun H lo=>Qj f4 g4 hn hm H lo;have cm:=fun H lo=>Qn f4 g4 (by omega) (by omega) H lo
 rw[UI]at cm;have ge:=Qs (n:Int) (m:Int);generalize eX (n:Int) (m:Int)=q at*;have eb:(a==b)=decide (a=b):=CO a b;rw[bW (x:=KW) rfl rfl rfl rfl];unfold Ag;by_cases c:a=b
 ·rw[decide_eq_true c]at eb;rw[if_pos c];simp(maxSteps:=1000000)(disch:=omega)only[go_sem,KW,f1,g1,eb,pl,tK]
 ·rw[decide_eq_false c]at eb;rw[if_neg c];by_cases c2:m<=n
  ·have mi:=fun H lo=>Qk f4 g4 c2 hn H lo;have c3:(0:Int)<=q:=by omega
   rw[if_pos c2];simp(maxSteps:=1000000)(disch:=omega)only[go_sem,KW,f1,g1,eb,cm,c3,mi,tK]
  ·have mi:=fun H lo=>Qk g4 f4 (by omega) hm H lo
   have c3:¬ (0:Int)<=q:=by omega
   rw[if_neg c2];simp(maxSteps:=1000000)(disch:=omega)only[go_sem,KW,f1,g1,eb,cm,c3,mi,tK]
theorem anl(h:Heap)(lo:Nat):(run lib).fn 112 [] h lo=some (.bF 1 [.int .i64 1],h):=by
 have hg2:jf h.length (.bF 1 [.int .i64 1]) h=some (.bF 1 [.int .i64 1]):=rfl;rw[bW (x:=x112) rfl rfl rfl rfl];simp(maxSteps:=1000000)(disch:=omega)only[go_sem,x112,hg2,Option.map_some]
def Fit(z:Int):Prop:=z.natAbs<10^200
def Vq(z:Int):List UInt8:=if z.natAbs<10^200 then aH z else[]
def Vr(z:Int):Int:=if z.natAbs<10^200 then 0 else 30
theorem Ah(z:Int):outT z=.tuple [.str (Vq z),.int .i64 (Vr z)]:=by
 unfold outT Vq Vr;split<;>rfl
theorem Ai{z:Int}(h:Fit z):outT z=.tuple [.str (aH z),.int .i64 0]:=if_pos h
theorem wM{z:Int}(h:Fit z):(aC z.natAbs).length<=50:=by
 refine FI 50 _ ?_;have e:(10000:Nat)^50=10^200:=by rw[show (10000:Nat)=10^4 from rfl,<-Nat.pow_mul]
 rw[e];exact h
theorem uX(z:Int):cK 1 (.aW 1 (ints (aC z.natAbs))) (ints (aC z.natAbs)):=Ad _
theorem ac8{a b:Bool}{n m k:Nat}(hn:(aC n).length<=k)(hm:(aC m).length<=k):(aC (Ag a n b m).2).length<=k+1:=by
 have h1:=Qp n;have h2:=Qp m;have h3:n<10000^k:=uF h1 (yP (by omega) hn)
 have h4:m<10000^k:=uF h2 (yP (by omega) hm)
 refine FI _ _ ?_;rw[yJ];unfold Ag;generalize 10000^k=X at*;split
 ·simp only[];omega
 ·split
  ·simp only[];omega
  ·simp only[];omega
theorem ac9{x y:Int}(hx:Fit x)(hy:Fit y)(h:Heap)(lo:Nat):(run lib).fn 126 [.str (aH x),.str (aH y)] h lo=some (outT (x+y),h):=by
 have bo:=fun H lo=>Iy hx hy H lo;have lx:=wM hx;have ly:=wM hy;have sp:=fun H lo=>ac7 (decide (x<0)) (decide (y<0)) (uX x) (uX y) (by omega) (by omega) H lo
 have pv:=Vp (decide (x<0)) x.natAbs (decide (y<0)) y.natAbs;have pn:=ac8 (a:=decide (x<0)) (b:=decide (y<0)) lx ly;rw[LD,LD]at pv;generalize Ag (decide (x<0)) x.natAbs (decide (y<0)) y.natAbs=p at*;have tx:=fun H lo=>IA (n:=p.2) p.1 (Ad _) (by omega) H lo
 rw[pv,Ah]at tx;simp only[Ae]at bo;rw[Ah,bW (x:=Ub) rfl rfl rfl rfl];simp(maxSteps:=1000000)(disch:=omega)only[go_sem,Ub,bo,sp,tx,tK]
theorem Vs{x y:Int}(hx:Fit x)(hy:Fit y)(h:Heap)(lo:Nat):(run lib).fn 135 [.str (aH x),.str (aH y)] h lo=some (outT (x-y),h):=by
 have bo:=fun H lo=>Iy hx hy H lo;have lx:=wM hx;have ly:=wM hy;have sp:=fun H lo=>ac7 (decide (x<0)) (!decide (y<0)) (uX x) (uX y) (by omega) (by omega) H lo
 have pv:=Vp (decide (x<0)) x.natAbs (!decide (y<0)) y.natAbs;have pn:=ac8 (a:=decide (x<0)) (b:=!decide (y<0)) lx ly
 have hneg:lm (!decide (y<0)) y.natAbs=-y:=by
  unfold lm;by_cases c:y<0
  ·rw[decide_eq_true c,Bool.not_true,if_neg (by simp)];omega
  ·rw[decide_eq_false c,Bool.not_false,if_pos rfl];omega
 rw[LD,hneg,<-Int.sub_eq_add_neg]at pv;generalize Ag (decide (x<0)) x.natAbs (!decide (y<0)) y.natAbs=p at*;have tx:=fun H lo=>IA (n:=p.2) p.1 (Ad _) (by omega) H lo
 rw[pv,Ah]at tx;simp only[Ae]at bo;rw[Ah,bW (x:=Ug) rfl rfl rfl rfl];simp(maxSteps:=1000000)(disch:=omega)only[go_sem,Ug,bo,sp,tx,tK]
theorem anm(x y:Int):lm (!(decide (x<0)==decide (y<0))) (x.natAbs*y.natAbs)=x*y:=by
 have e:((x.natAbs*y.natAbs:Nat):Int)=(x*y).natAbs:=by rw[Int.natAbs_mul]
 unfold lm;rw[e];by_cases c1:x<0
 ·by_cases c2:y<0
  ·rw[decide_eq_true c1,decide_eq_true c2,if_neg (by simp)]
   have:=Int.mul_nonneg_of_nonpos_of_nonpos (Int.le_of_lt c1) (Int.le_of_lt c2);omega
  ·rw[decide_eq_true c1,decide_eq_false c2,if_pos (by simp)]
   have:=Int.mul_nonpos_of_nonpos_of_nonneg (Int.le_of_lt c1) (by omega:0<=y);omega
 ·by_cases c2:y<0
  ·rw[decide_eq_false c1,decide_eq_true c2,if_pos (by simp)]
   have:=Int.mul_nonpos_of_nonneg_of_nonpos (by omega:0<=x) (Int.le_of_lt c2);omega
  ·rw[decide_eq_false c1,decide_eq_false c2,if_neg (by simp)]
   have:=Int.mul_nonneg (by omega:0<=x) (by omega:0<=y);omega
theorem ac'{x y:Int}(hx:Fit x)(hy:Fit y)(h:Heap)(lo:Nat):(run lib).fn 161 [.str (aH x),.str (aH y)] h lo=some (outT (x*y),h):=by
 have bo:=fun H lo=>Iy hx hy H lo;have lx:=wM hx;have ly:=wM hy;have ti:=fun H lo=>am0 (uX x) (uX y) (by omega) (by omega) H lo
 have hl:=Qq x.natAbs y.natAbs
 obtain⟨P,hP,hw⟩:∃ P,cK 1 P (ints (aC (x.natAbs*y.natAbs)))/\weak (if y.natAbs=0 then AV.own 0 []else .aW 1 (ints (aC (x.natAbs*y.natAbs))))=P/\P.val=true/\P.cells=[P]:=by
  by_cases c:y.natAbs=0
  ·refine⟨.aW 0 [], ?_,by rw[if_pos c];rfl,rfl,rfl⟩
   rw[c,Nat.mul_zero,Bc];exact .inr ⟨0,.inl rfl,.inr rfl⟩
  ·exact⟨.aW 1 (ints (aC (x.natAbs*y.natAbs))),Ad _,by rw[if_neg c];rfl,rfl,rfl⟩
 have tx:=fun H lo=>IA (n:=x.natAbs*y.natAbs) (!(decide (x<0)==decide (y<0))) hP (by omega) H lo
 rw[anm,Ah]at tx;simp only[Ae]at bo;obtain⟨hw1,hw2,hw3⟩:=hw;generalize (if y.natAbs=0 then AV.own 0 []else .aW 1 (ints (aC (x.natAbs*y.natAbs))))=Q at*;rw[Ah,bW (x:=Uv) rfl rfl rfl rfl];simp(maxSteps:=1000000)(disch:=omega)only[go_sem,Uv,bo,ti,hw1,hw2,hw3,tx,tK]
theorem Qt(s:List UInt8)(h:Heap)(lo:Nat):(run lib).fn 102 [.str s] h lo=some (.bool (xJ s),h):=by
 have bo:=fun H lo=>Vm s H lo;rw[bW (x:=x102) rfl rfl rfl rfl];simp(maxSteps:=1000000)(disch:=omega)only[go_sem,x102,bo]
theorem Vt{x y:Int}(hx:Fit x)(hy:Fit y)(h:Heap)(lo:Nat):(run lib).fn 82 [.str (aH x),.str (aH y)] h lo=some (.int .i64 (eX x y),h):=by
 have bo:=fun H lo=>Iy hx hy H lo;have lx:=wM hx;have ly:=wM hy;have cm:=fun H lo=>Qn (uX x) (uX y) (by omega) (by omega) H lo
 have cn:=fun H lo=>Qn (uX y) (uX x) (by omega) (by omega) H lo
 rw[UI]at cm cn;simp only[Ae]at bo;rw[bW (x:=x82) rfl rfl rfl rfl];by_cases c1:x<0
 ·rw[decide_eq_true c1]at bo;by_cases c2:y<0
  ·rw[decide_eq_true c2]at bo
   have e:eX (y.natAbs:Int) (x.natAbs:Int)=eX x y:=by
    unfold eX;have e1:(y.natAbs:Int)=-y:=by omega
    have e2:(x.natAbs:Int)=-x:=by omega
    rw[e1,e2];simp only[show (-y < -x)=(x<y) by simp,show (-y=-x)=(x=y) by rw[eq_iff_iff];omega]
   rw[e]at cn;simp(maxSteps:=1000000)(disch:=omega)only[go_sem,x82,bo,cn,tK]
  ·rw[decide_eq_false c2]at bo;have e:eX x y=-1:=if_pos (by omega)
   rw[e];simp(maxSteps:=1000000)(disch:=omega)only[go_sem,x82,bo,tK]
 ·rw[decide_eq_false c1]at bo;by_cases c2:y<0
  ·rw[decide_eq_true c2]at bo;have e:eX x y=1:=by unfold eX;rw[if_neg (by omega),if_neg (by omega)]
   rw[e];simp(maxSteps:=1000000)(disch:=omega)only[go_sem,x82,bo,tK]
  ·rw[decide_eq_false c2]at bo;have e1:(y.natAbs:Int)=y:=by omega
   have e2:(x.natAbs:Int)=x:=by omega
   rw[e1,e2]at cm;simp(maxSteps:=1000000)(disch:=omega)only[go_sem,x82,bo,cm,tK]
theorem ada{n:Int}(h0:-9223372036854775808<=n)(h1:n<=9223372036854775807)(h:Heap)(lo:Nat):(run lib).fn 74 [.int .i64 n] h lo=some (.str (aH n),h):=by
 have it:=fun H lo=>ac3 h0 h1 H lo;rw[bW (x:=TJ) rfl rfl rfl rfl];simp(maxSteps:=1000000)(disch:=omega)only[go_sem,TJ,it]
end Go.VI.Dump
namespace Go.VI.Dump
open Go.VI.Num
def yX(x y:Int):Nat:=if x<0/\x.natAbs%y.natAbs≠0 then x.natAbs/y.natAbs+1 else x.natAbs/y.natAbs
def vF(x y:Int):Nat:=if x<0/\x.natAbs%y.natAbs≠0 then y.natAbs-x.natAbs%y.natAbs else x.natAbs%y.natAbs
theorem Qu{x y:Int}(hy:y≠0):lm (!(decide (x<0)==decide (y<0))) (yX x y)=x/y/\(vF x y:Int)=x%y:=by
 have hpos:0<y.natAbs:=by omega
 have hlt:=Nat.mod_lt x.natAbs hpos;have Qv:=Nat.div_add_mod x.natAbs y.natAbs;obtain⟨m,hm⟩:∃ m,m=y.natAbs:=⟨_,rfl⟩;obtain⟨n,hn⟩:∃ n,n=x.natAbs:=⟨_,rfl⟩
 have key:∀(Q:Int) (R:Nat),(R:Int)+(m:Int)*Q=x->R<m->x/(m:Int)=Q/\x%(m:Int)=R:=fun Q R h1 h2 =>
  (Int.ediv_emod_unique (by omega)).mpr ⟨h1,by omega,by omega⟩
 have fin:∀(Q:Int) (R:Nat),(R:Int)+(m:Int)*Q=x->R<m->(if y<0 then -Q else Q)=x/y/\(R:Int)=x%y:=fun Q R h1 h2=>by
  obtain⟨k1,k2⟩:=key Q R h1 h2;by_cases c:y<0
  ·have ey:y=-(m:Int):=by omega
   rw[if_pos c,ey,Int.ediv_neg,Int.emod_neg,k1,k2];exact⟨rfl,rfl⟩
  ·have ey:y=(m:Int):=by omega
   rw[if_neg c,ey,k1,k2];exact⟨rfl,rfl⟩
 unfold yX vF lm;rw[<-hm]at hlt Qv hpos⊢;rw[<-hn]at hlt Qv⊢
 have hcast:((n/m:Nat):Int)*(m:Int)+((n%m:Nat):Int)=n:=by
  rw[<-Int.natCast_mul,<-Int.natCast_add,vk,Qv]
 generalize n/m=q at*;generalize n%m=r at*;by_cases c1:x<0
 ·by_cases c3:r=0
  ·have:=fin (-(q:Int)) 0 (by rw[Int.mul_neg,vo];generalize (q:Int)*(m:Int)=Z at*;omega) hpos
   have eQ:(if x<0/\r≠0 then q+1 else q)=q:=if_neg (by omega)
   have eR:(if x<0/\r≠0 then m-r else r)=0:=by rw[if_neg (by omega),c3]
   rw[eQ,eR];by_cases c2:y<0
   ·rw[if_pos c2]at this;rw[decide_eq_true c1,decide_eq_true c2,if_neg (by simp)]
    rw[Int.neg_neg]at this;exact this
   ·rw[if_neg c2]at this;rw[decide_eq_true c1,decide_eq_false c2,if_pos (by simp)];exact this
  ·have:=fin (-((q:Int)+1)) (m-r) (by rw[Int.mul_neg,Int.mul_add,vo (m:Int) q];generalize (q:Int)*(m:Int)=Z at*;omega) (by omega)
   have eQ:(if x<0/\r≠0 then q+1 else q)=q+1:=if_pos ⟨c1,c3⟩;have eR:(if x<0/\r≠0 then m-r else r)=m-r:=if_pos ⟨c1,c3⟩;rw[eQ,eR];have e:((q+1:Nat):Int)=(q:Int)+1:=by omega
   rw[e];by_cases c2:y<0
   ·rw[if_pos c2]at this;rw[decide_eq_true c1,decide_eq_true c2,if_neg (by simp)]
    rw[Int.neg_neg]at this;exact this
   ·rw[if_neg c2]at this;rw[decide_eq_true c1,decide_eq_false c2,if_pos (by simp)];exact this
 ·have:=fin (q:Int) r (by rw[vo];generalize (q:Int)*(m:Int)=Z at*;omega) hlt
  have eQ:(if x<0/\r≠0 then q+1 else q)=q:=if_neg (by omega)
  have eR:(if x<0/\r≠0 then m-r else r)=r:=if_neg (by omega)
  rw[eQ,eR];by_cases c2:y<0
  ·rw[if_pos c2]at this;rw[decide_eq_false c1,decide_eq_true c2,if_pos (by simp)];exact this
  ·rw[if_neg c2]at this;rw[decide_eq_false c1,decide_eq_false c2,if_neg (by simp)];exact this
theorem Vu{x y:Int}(hy:y≠0):yX x y<=x.natAbs:=by
 have hpos:0<y.natAbs:=by omega
 have Qv:=Nat.div_add_mod x.natAbs y.natAbs;unfold yX;have h1:=Nat.div_le_self x.natAbs y.natAbs;have h2:x.natAbs/y.natAbs<=y.natAbs*(x.natAbs/y.natAbs):=Nat.le_mul_of_pos_left _ hpos;generalize x.natAbs/y.natAbs=q at*;generalize x.natAbs%y.natAbs=r at*;generalize y.natAbs*q=Z at*;split<;>omega
theorem D8{x y:Int}(hx:Fit x)(hy:y≠0):Fit (x/y):=by
 have h1:=(Qu (x:=x) hy).1;have h2:=Vu (x:=x) hy;unfold Fit at*;rw[<-h1,Vo];exact Nat.lt_of_le_of_lt h2 hx
theorem Qw{x y:Int}(hy:Fit y)(hy0:y≠0):Fit (x%y):=by
 have h1:=(Qu (x:=x) hy0).2;have h2:=Nat.mod_lt x.natAbs (show 0<y.natAbs by omega)
 have h3:vF x y<=y.natAbs:=by unfold vF;split<;>omega
 have h4:(x%y).natAbs<=y.natAbs:=by omega
 exact Nat.lt_of_le_of_lt h4 hy
def FK(x y:Int):AV:=.tuple [.str (aH (x/y)),.str (aH (x%y)),.int .i64 0]
theorem Qx{x y:Int}(hx:Fit x)(hy:Fit y)(hy0:y≠0)(h:Heap)(lo:Nat):(run lib).fn 81 [.str (aH x),.str (aH y)] h lo=some (FK x y,h):=by
 have bo:=fun H lo=>Iy hx hy H lo;have lx:=wM hx;have ly:=wM hy;have hm0:y.natAbs≠0:=by omega
 have ov:=fun H lo=>acX hm0 (uX x) (uX y) (by omega) (by omega) H lo
 obtain⟨d1,d2⟩:=Qu (x:=x) hy0;have qm:=Vu (x:=x) hy0;have fq:=D8 (y:=y) hx hy0;have fr:=Qw (x:=x) hy hy0;simp only[Ae]at bo
 have hyl:¬ ((aC y.natAbs).length:Int)=0:=by
  have:aC y.natAbs≠[]:=fun e=>hm0 (Bd.mp e);have:=uj.mpr this;omega
 have s2:=iB ((uX y).sl []).len;rw[jY]at s2;have rp:=acT x.natAbs y.natAbs;have s1:=iB (rp.sl []).len;rw[jY]at s1;have hrl:(aC (x.natAbs%y.natAbs)).length<=50:=ng (DN (Nat.le_of_lt (Nat.mod_lt _ (by omega)))) ly
 have tq:=fun H lo=>IA (v:=.aW 1 (ints (aC (yX x y)))) (n:=yX x y) (!(decide (x<0)==decide (y<0))) (Ad _) (by have:=DN qm;omega) H lo
 rw[d1,Ai fq]at tq
 have tr:=fun v hv H lo=>IA (v:=v) (n:=vF x y) false hv (by
  have h2:=fr;have e:(x%y).natAbs=vF x y:=by omega
  have:=wM h2;rw[e]at this;omega) H lo
 have es:lm false (vF x y)=x%y:=by rw[<-d2];rfl
 rw[es,Ai fr]at tr;unfold FK;rw[bW (x:=x81) rfl rfl rfl rfl];by_cases c:x<0/\x.natAbs%y.natAbs≠0
 ·obtain⟨c1,c2⟩:=c
  have c3:(0:Int)<(aC (x.natAbs%y.natAbs)).length:=by
   have:aC (x.natAbs%y.natAbs)≠[]:=fun e=>c2 (Bd.mp e);have:=uj.mpr this;omega
  have pl:=fun H lo=>Qj (v:=.aW 1 (ints (aC (x.natAbs/y.natAbs)))) (u:=.bF 1 [.int .i64 1]) (a:=x.natAbs/y.natAbs) (b:=1) (Ad _) (.inr ⟨1,.inr rfl,.inl rfl⟩) (by have:=DN (Nat.div_le_self x.natAbs y.natAbs);omega) (by decide) H lo
  have mi:=fun H lo=>Qk (uX y) rp (Nat.le_of_lt (Nat.mod_lt _ (by omega))) (by omega) H lo
  have eq:yX x y=x.natAbs/y.natAbs+1:=if_pos ⟨c1,c2⟩;have er:vF x y=y.natAbs-x.natAbs%y.natAbs:=if_pos ⟨c1,c2⟩;rw[eq]at tq;have xP:=tr (.aW 1 (ints (aC (y.natAbs-x.natAbs%y.natAbs)))) (by rw[er];exact Ad _)
  rw[decide_eq_true c1]at bo tq;have hwk:weak (.bF 1 [.int .i64 1])=.bF 1 [.int .i64 1]:=rfl;simp(maxSteps:=1000000)(disch:=omega)only[go_sem,x81,bo,tK,s2,hyl,ov,s1,c3,anl,hwk,pl,mi,tq,xP]
 ·have eq:yX x y=x.natAbs/y.natAbs:=if_neg c;have er:vF x y=x.natAbs%y.natAbs:=if_neg c;rw[eq]at tq;have xP:=tr (xN x.natAbs y.natAbs) (by rw[er];exact rp)
  by_cases c1:x<0
  ·have c2:x.natAbs%y.natAbs=0:=by omega
   have c3:¬ (0:Int)<(aC (x.natAbs%y.natAbs)).length:=by rw[c2,Bc];simp
   rw[decide_eq_true c1]at bo tq;simp(maxSteps:=1000000)(disch:=omega)only[go_sem,x81,bo,tK,s2,hyl,ov,s1,c3,tq,xP]
  ·rw[decide_eq_false c1]at bo tq;simp(maxSteps:=1000000)(disch:=omega)only[go_sem,x81,bo,tK,s2,hyl,ov,s1,tq,xP]
end Go.VI.Dump
namespace Go.VI.Num
end Go.VI.Num
namespace Go.VI.Dump
open Go.VI.Num
theorem ann{z:Nat}{v:AV}{es:List AV}(p:cK z v es):v.cells=[v]:=by
 rcases p with⟨rfl,rfl⟩|⟨z',rfl|rfl,hz⟩<;>rfl
theorem ano{z:Nat}{v:AV}{es:List AV}(p:cK z v es):v.val=true:=by
 rcases p with⟨rfl,rfl⟩|⟨z',rfl|rfl,hz⟩<;>rfl
theorem anp(cx:Cx)(H:Heap):∀(b a:Nat) (v u:AV),cK 1 v (ints (aC a))->cK 1 u (ints (aC b))->(aC a).length<=1000->(aC b).length<=1000 ->
  ∃ w,cK 1 w (ints (aC (Nat.gcd a b)))/\aQ lib cx (.loop TP) ([(9,v),(10,u)],H)=some (.exit 0,([(9,w)],H)):=by
 intro b
 induction b using Nat.strongRecOn with
 |_ b ih =>
  intro a v u hv hu ha hb;have s1:=iB (hu.sl []).len;rw[jY]at s1;by_cases h0:b=0
  ·subst h0;refine⟨v,by rw[Nat.gcd_zero_right];exact hv, ?_⟩
   have c1:¬ (0:Int)<(aC 0).length:=by simp[Bc]
   rw[bU];simp(maxSteps:=1000000)(disch:=omega)only[go_sem,s1,c1]
  ·have hpos:0<b:=by omega
   have hlt:=Nat.mod_lt a hpos;have hl2:(aC (a%b)).length<=1000:=ng (DN (Nat.le_of_lt hlt)) hb;obtain⟨w,w1,w2⟩:=ih (a%b) hlt b u (xN a b) hu (acT a b) hb hl2;refine⟨w, ?_, ?_⟩
   ·have e:Nat.gcd a b=Nat.gcd b (a%b):=by rw[Nat.gcd_comm a b,Nat.gcd_rec,Nat.gcd_comm]
    rw[e];exact w1
   ·have c1:(0:Int)<(aC b).length:=by
     have:aC b≠[]:=fun e=>h0 (Bd.mp e);have:=uj.mpr this;omega
    have ov:=fun H lo=>acX h0 hv hu (by omega) (by omega) H lo
    rw[bU];simp(maxSteps:=1000000)(disch:=omega)only[go_sem,s1,c1,ov,w2]
theorem Qy{x y:Int}(hx:Fit x)(hy:Fit y):Fit ((Int.gcd x y:Nat):Int):=by
 unfold Fit at*;rw[vC];unfold Int.gcd;rcases vg x.natAbs with h|h
 ·rw[h,Nat.gcd_zero_left];exact hy
 ·exact Nat.lt_of_le_of_lt (Nat.gcd_le_left _ h) hx
theorem adb{x y:Int}(hx:Fit x)(hy:Fit y)(h:Heap)(lo:Nat):(run lib).fn 105 [.str (aH x),.str (aH y)] h lo=some (.tuple [.str (aH (Int.gcd x y:Nat)),.int .i64 0],h):=by
 have bo:=fun H lo=>Iy hx hy H lo;have lx:=wM hx;have ly:=wM hy;have fg:=Qy hx hy;obtain⟨w,w1,w2⟩:=anp ⟨h.length,h.length,2,none⟩ (h++[(1,.box [.bool (decide (x<0)),.aW 1 (ints (aC x.natAbs))]),(1,.box [.bool (decide (y<0)),.aW 1 (ints (aC y.natAbs))])]) y.natAbs x.natAbs _ _ (uX x) (uX y) (by omega) (by omega)
 have hw1:=ann w1;have hw2:=ano w1;have tx:=fun H lo=>IA (n:=Nat.gcd x.natAbs y.natAbs) false w1 (by have:=wM fg;rw[vC]at this;unfold Int.gcd at this;omega) H lo
 have es:lm false (Nat.gcd x.natAbs y.natAbs)=((Int.gcd x y:Nat):Int):=rfl;rw[es,Ai fg]at tx;simp only[Ae]at bo;rw[bW (x:=x105) rfl rfl rfl rfl];simp(maxSteps:=1000000)(disch:=omega)only[go_sem,x105,bo,tK,w2,hw1,hw2,tx]
theorem anq{z:Int}(hz:Fit z):(aH z).length<=201:=by
 have:=(Cz (n:=z.natAbs) (k:=200) (by omega)).mpr hz
 unfold aH;split<;>simp<;>omega
end Go.VI.Dump
namespace Go.VI.Dump
open Go.VI.Num
def bY(s t:List UInt8):AV:=.agg [.str s,.str t]
def rt(q:Rat):AV:=bY (aH q.num) (aH (q.den:Int))
def jI(o:Option Rat):AV:=match o with|some q=>.tuple [rt q,.int .i64 0]|none=>.tuple [bY [] [],.int .i64 40]
theorem wN:aH 0=[48]:=rfl
theorem FM:Fit 0:=by unfold Fit;decide
theorem rR{q:Rat}(h:gV q):Fit (q.den:Int):=by unfold Fit;rw[vC];exact h.2
theorem anr(x:Int):decide (eX x 0<=0)=!decide (0<x):=by
 unfold eX;by_cases h1:x<0
 ·rw[if_pos h1,decide_eq_false (show ¬ 0<x by omega)];rfl
 ·rw[if_neg h1];by_cases h2:x=0
  ·rw[if_pos h2,decide_eq_false (show ¬ 0<x by omega)];rfl
  ·rw[if_neg h2,decide_eq_true (show 0<x by omega)];rfl
theorem ant(z:Int):decide (aH z=[49])=decide (z=1):=by
 rw[decide_eq_decide,<-K8];exact⟨K7,fun h=>by rw[h]⟩
theorem Ea(s t:List UInt8)(h:Heap)(lo:Nat):(run lib).fn 78 [bY s t] h lo=some (.bool (o5 s t),h):=by
 have v1:=fun H lo=>Qt s H lo;have v2:=fun H lo=>Qt t H lo;unfold bY o5;rw[bW (x:=Fp) rfl rfl rfl rfl]
 cases c1:xJ s with
 |false =>
  rw[c1]at v1
  simp(maxSteps:=1000000)(disch:=omega)only[go_sem,Fp,v1]
 |true =>
  rw[c1]at v1
  cases c2:xJ t with
  |false =>
   rw[c2]at v2
   simp(maxSteps:=1000000)(disch:=omega)only[go_sem,Fp,v1,v2]
  |true =>
   rw[c2]at v2;obtain⟨e1,f1⟩:=ab9 c1;obtain⟨e2,f2⟩:=ab9 c2;have cm:=fun H lo=>Vt (x:=zv t) (y:=0) f2 FM H lo;rw[wN,<-e2]at cm;have gc:=fun H lo=>adb f1 f2 H lo;rw[<-e1,<-e2]at gc;have cl:=anr (zv t);have g1:=ant ((Int.gcd (zv s) (zv t):Nat):Int);generalize aH ((Int.gcd (zv s) (zv t):Nat):Int)=G at*;generalize eX (zv t) 0=q at*;by_cases c3:0<zv t
   ·rw[decide_eq_true c3]at cl⊢;have cl':¬ q<=0:=by simpa using cl
    by_cases c4:G=[49]
    ·have c5:(Int.gcd (zv s) (zv t)==1)=true:=by
      rw[decide_eq_true c4]at g1;have:=of_decide_eq_true g1.symm;simp only[beq_iff_eq];omega
     rw[c5];simp(maxSteps:=1000000)(disch:=omega)only[go_sem,Fp,v1,v2,cm,cl',gc,c4]
    ·have c5:(Int.gcd (zv s) (zv t)==1)=false:=by
      rw[decide_eq_false c4]at g1;have:=of_decide_eq_false g1.symm;simp only[beq_eq_false_iff_ne,ne_eq];omega
     rw[c5];simp(maxSteps:=1000000)(disch:=omega)only[go_sem,Fp,v1,v2,cm,cl',gc,c4]
   ·rw[decide_eq_false c3]at cl⊢;have cl':q<=0:=by simpa using cl
    simp(maxSteps:=1000000)(disch:=omega)only[go_sem,Fp,v1,v2,cm,cl']
end Go.VI.Dump
namespace Go.VI.Dump
open Go.VI.Num
@[reducible] def okB:Nat×au:=(1,.box [.bool false])
@[reducible] def gB:Nat×au:=(1,.box [.bool true])
theorem LF(h:Heap)(id:Nat)(b:Nat×au):(h.set id b).take h.length=h.set id b:=Az (by simp)
theorem Bp{H:Heap}{id:Nat}{cs:List AV}(hid:H[id]?=some (1,.box cs)):ig H (.aF id 1 0)=some cs:=by simp[ig,hid]
theorem ade{H:Heap}{id:Nat}{b:Nat×au}(hid:H[id]?=some b):H.set id b=H:=by
 obtain⟨h1,h2⟩:=dQ.mp hid;rw[<-h2];exact List.set_getElem_self h1
theorem FN{H:Heap}{id base lo ns:Nat}{a b:Bool}(hid:H[id]?=some (1,.box [.bool a]))(hlo:lo<=id)(kW:Option (Nat×Nat)):iX ⟨lo,base,ns,kW⟩ H 1 (.aF id 1 0) (.bool b)=some (H.set id (1,.box [.bool b])):=by
 cases kW<;>simp[iX,AV.cells,AV.val,hid,hlo,splice,AV.closed]
theorem adf{h:Heap}{id:Nat}(hid:h[id]?=some gB)(f:AV)(a b:List UInt8){lo:Nat}(hlo:lo<=id):(run lib).fn 125 [.aF id 1 0,f,.str a,.str b] h lo=some (.str [],h):=by
 have hlt:id<h.length:=(dQ.mp hid).1;have p:=Bp hid;rw[oZ (x:=Fu) rfl rfl rfl rfl (by omega)]
 simp(maxSteps:=1000000)(disch:=omega)only[go_sem,Fu,p,qj]
theorem IC{h:Heap}{id:Nat}(hid:h[id]?=some okB){g:Nat}(hg0:g<1000){a b s:List UInt8}(hg:∀ lo,(run lib).fn g [.str a,.str b] h lo=some (.tuple [.str s,.int .i64 0],h)){lo:Nat}(hlo:lo<=id) :
  (run lib).fn 125 [.aF id 1 0,.fn g [],.str a,.str b] h lo=some (.str s,h):=by
 have hlt:id<h.length:=(dQ.mp hid).1;have p:=Bp hid;have st:=FN (base:=h.length) (ns:=0) (b:=false) hid hlo none;rw[ade hid]at st;rw[oZ (x:=Fu) rfl rfl rfl rfl (by omega)]
 simp(maxSteps:=1000000)(disch:=omega)only[go_sem,Fu,p,hg,hg0,st,qj]
theorem adg{h:Heap}{id:Nat}(hid:h[id]?=some okB){g:Nat}(hg0:g<1000){a b s:List UInt8}{e:Int}(he:e≠0)(hg:∀ lo,(run lib).fn g [.str a,.str b] h lo=some (.tuple [.str s,.int .i64 e],h)){lo:Nat}(hlo:lo<=id) :
  (run lib).fn 125 [.aF id 1 0,.fn g [],.str a,.str b] h lo=some (.str s,h.set id gB):=by
 have hlt:id<h.length:=(dQ.mp hid).1;have p:=Bp hid;have st:=FN (base:=h.length) (ns:=0) (b:=true) hid hlo none;rw[oZ (x:=Fu) rfl rfl rfl rfl (by omega)]
 simp(maxSteps:=1000000)(disch:=omega)only[go_sem,Fu,p,hg,hg0,he,st,LF]
theorem anu{h:Heap}{id:Nat}(hid:h[id]?=some gB)(a b:List UInt8){lo:Nat}(hlo:lo<=id):(run lib).fn 124 [.aF id 1 0,.str a,.str b] h lo=some (.str [],h):=by
 have hlt:id<h.length:=(dQ.mp hid).1;have d:=fun f {lo} (hlo:lo<=id)=>adf hid f a b (lo:=lo) hlo;rw[oZ (x:=Fs) rfl rfl rfl rfl (by omega)]
 simp(maxSteps:=1000000)(disch:=omega)only[go_sem,Fs,d,hlo,qj,LF]
theorem anv{h:Heap}{id:Nat}(hid:h[id]?=some okB){x y:Int}(hx:Fit x)(hy:Fit y)(hf:Fit (x*y)){lo:Nat}(hlo:lo<=id) :
  (run lib).fn 124 [.aF id 1 0,.str (aH x),.str (aH y)] h lo=some (.str (aH (x*y)),h):=by
 have hlt:id<h.length:=(dQ.mp hid).1;have d:=fun{lo} (hlo:lo<=id)=>IC hid (g:=161) (by decide) (a:=aH x) (b:=aH y) (s:=aH (x*y)) (fun lo=>by rw[ac' hx hy,Ai hf]) (lo:=lo) hlo
 rw[oZ (x:=Fs) rfl rfl rfl rfl (by omega)]
 simp(maxSteps:=1000000)(disch:=omega)only[go_sem,Fs,d,hlo,qj,LF]
theorem anw{h:Heap}{id:Nat}(hid:h[id]?=some okB){x y:Int}(hx:Fit x)(hy:Fit y)(hf:¬ Fit (x*y)){lo:Nat}(hlo:lo<=id) :
  (run lib).fn 124 [.aF id 1 0,.str (aH x),.str (aH y)] h lo=some (.str [],h.set id gB):=by
 have hlt:id<h.length:=(dQ.mp hid).1;have d:=fun{lo} (hlo:lo<=id)=>adg hid (g:=161) (by decide) (a:=aH x) (b:=aH y) (s:=[]) (e:=30) (by decide) (fun lo=>by rw[ac' hx hy];show some (outT (x*y),h)=_;unfold outT;rw[if_neg (show ¬ (x*y).natAbs<10^200 from hf)]) (lo:=lo) hlo
 rw[oZ (x:=Fs) rfl rfl rfl rfl (by omega)]
 simp(maxSteps:=1000000)(disch:=omega)only[go_sem,Fs,d,hlo,qj,LF]
theorem anx{x y:Int}(hx:Fit x)(hy:Fit y)(h0:y≠0)(hq:Fit (x/y))(h:Heap)(lo:Nat):(run lib).fn 165 [.str (aH x),.str (aH y)] h lo=some (.tuple [.str (aH (x/y)),.int .i64 0],h):=by
 have dv:=fun H lo=>Qx hx hy h0 H lo;unfold FK at dv;have oS:Vq (x/y)=aH (x/y):=if_pos hq;have oE:Vr (x/y)=0:=if_pos hq;rw[bW (x:=Uw) rfl rfl rfl rfl];simp(maxSteps:=1000000)(disch:=omega)only[go_sem,Uw,dv,oS,oE]
theorem adh{h:Heap}{id:Nat}(hid:h[id]?=some okB){x y:Int}(hx:Fit x)(hy:Fit y)(h0:y≠0)(hq:Fit (x/y)){lo:Nat}(hlo:lo<=id) :
  (run lib).fn 136 [.aF id 1 0,.str (aH x),.str (aH y)] h lo=some (.str (aH (x/y)),h):=by
 have hlt:id<h.length:=(dQ.mp hid).1;have d:=fun{lo} (hlo:lo<=id)=>IC hid (g:=165) (by decide) (a:=aH x) (b:=aH y) (s:=aH (x/y)) (fun lo=>anx hx hy h0 hq h lo) (lo:=lo) hlo
 rw[oZ (x:=Uh) rfl rfl rfl rfl (by omega)]
 simp(maxSteps:=1000000)(disch:=omega)only[go_sem,Uh,d,hlo,qj,LF]
end Go.VI.Dump
namespace Go.VI.Dump
open Go.VI.Num
theorem adi(x:Int):(eX x 0<0)↔x<0:=by
 unfold eX;by_cases h1:x<0
 ·rw[if_pos h1];omega
 ·rw[if_neg h1];by_cases h2:x=0
  ·rw[if_pos h2];omega
  ·rw[if_neg h2];omega
theorem Eb{x:Int}(h:Fit x):Fit (-x):=by unfold Fit at*;rw[Int.natAbs_neg];exact h
theorem adj{n d:Int}(h:d≠0):((Int.gcd n d:Nat):Int)≠0:=by
 intro e;have:Int.gcd n d=0:=by omega
 exact h (Int.gcd_eq_zero_iff.mp this).2
theorem IE{d:Int}(h:d≠0):¬ aH d=[48]:=fun e=>h (K7 (e.trans wN.symm))
theorem reduced_bad{h:Heap}{id:Nat}(hid:h[id]?=some gB)(n d:List UInt8){lo:Nat}(hlo:lo<=id):(run lib).fn 103 [.aF id 1 0,.str n,.str d] h lo=some (jI none,h):=by
 have hlt:id<h.length:=(dQ.mp hid).1;have p:=fun fr=>Bp (kD (fr:=fr) hid);rw[oZ (x:=x103) rfl rfl rfl rfl (by omega)]
 simp(maxSteps:=1000000)(disch:=omega)only[go_sem,x103,p,jI,bY,List.take_left']
theorem reduced_zero{h:Heap}{id:Nat}(hid:h[id]?=some okB)(n:List UInt8){lo:Nat}(hlo:lo<=id):(run lib).fn 103 [.aF id 1 0,.str n,.str [48]] h lo=some (jI none,h):=by
 have hlt:id<h.length:=(dQ.mp hid).1;have p:=fun fr=>Bp (kD (fr:=fr) hid);rw[oZ (x:=x103) rfl rfl rfl rfl (by omega)]
 simp(maxSteps:=1000000)(disch:=omega)only[go_sem,x103,p,jI,bY,List.take_left']
theorem reduced_ok{h:Heap}{id:Nat}(hid:h[id]?=some okB){n d:Int}(hn:Fit n)(hd:Fit d)(h0:d≠0){lo:Nat}(hlo:lo<=id) :
  (run lib).fn 103 [.aF id 1 0,.str (aH n),.str (aH d)] h lo=some (jI (some (Rat.divInt n d)),h):=by
 have hlt:id<h.length:=(dQ.mp hid).1;have p:=fun fr=>Bp (kD (fr:=fr) hid);have hz:=IE h0;have cm:=fun H lo=>Vt hd FM H lo;rw[wN]at cm;have cl:=adi d
 have fin:∀{N D:Int},Fit N->Fit D->0<D->Rat.divInt N D=Rat.divInt n d->∃ G:Int,(∀ fr {lo},lo<=id->(run lib).fn 125 [.aF id 1 0,.fn 105 [],.str (aH N),.str (aH D)] (h++fr) lo=some (.str (aH G),h++fr)) /\
   (∀ fr {lo},lo<=id->(run lib).fn 136 [.aF id 1 0,.str (aH N),.str (aH G)] (h++fr) lo=some (.str (aH (Rat.divInt n d).num),h++fr)) /\
   (∀ fr {lo},lo<=id->(run lib).fn 136 [.aF id 1 0,.str (aH D),.str (aH G)] (h++fr) lo=some (.str (aH ((Rat.divInt n d).den:Int)),h++fr)):=by
  intro N D hN hD hp he;have hG:=Qy hN hD;have hG0:=adj (n:=N) (d:=D) (by omega)
  refine⟨(Int.gcd N D:Nat),fun fr lo hlo=>IC (kD (fr:=fr) hid) (by decide) (fun lo=>adb hN hD _ _) hlo,fun fr lo hlo=>?_,fun fr lo hlo=>?_⟩
  ·rw[<-he,acd hp];exact adh (kD (fr:=fr) hid) hN hG hG0 (D8 hN hG0) hlo
  ·rw[<-he,ace hp];exact adh (kD (fr:=fr) hid) hD hG hG0 (D8 hD hG0) hlo
 generalize eX d 0=q at*;rw[oZ (x:=x103) rfl rfl rfl rfl (by omega)]
 by_cases c:d<0
 ·obtain⟨G,g1,g2,g3⟩:=fin (Eb hn) (Eb hd) (by omega) (Rat.neg_divInt_neg n d)
  have s1:=fun fr {lo} (hlo:lo<=id)=>IC (h:=h++fr) (kD (fr:=fr) hid) (g:=135) (by decide) (a:=[48]) (b:=aH n) (s:=aH (-n)) (fun lo=>by rw[<-wN,Vs FM hn,Int.zero_sub,Ai (Eb hn)]) hlo
  have s2:=fun fr {lo} (hlo:lo<=id)=>IC (h:=h++fr) (kD (fr:=fr) hid) (g:=135) (by decide) (a:=[48]) (b:=aH d) (s:=aH (-d)) (fun lo=>by rw[<-wN,Vs FM hd,Int.zero_sub,Ai (Eb hd)]) hlo
  have cl':q<0:=cl.mpr c;clear fin;simp(maxSteps:=1000000)(disch:=omega)only[go_sem,x103,p,hz,cm,cl',s1,s2,g1,g2,g3,hlo,jI,rt,bY,List.take_left']
 ·obtain⟨G,g1,g2,g3⟩:=fin hn hd (by omega) rfl
  have cl':¬ q<0:=fun h=>c (cl.mp h);clear fin;simp(maxSteps:=1000000)(disch:=omega)only[go_sem,x103,p,hz,cm,cl',g1,g2,g3,hlo,jI,rt,bY,List.take_left']
theorem anz{n d:Int}(hn:Fit n)(hd:Fit d)(h:Heap)(lo:Nat):(run lib).fn 73 [.str (aH n),.str (aH d)] h lo=some (jI (yQ n d),h):=by
 have v1:=fun H lo=>Qt (aH n) H lo;have v2:=fun H lo=>Qt (aH d) H lo;rw[uT hn]at v1;rw[uT hd]at v2;unfold yQ;rw[bW (x:=O0) rfl rfl rfl rfl];by_cases c:d=0
 ·subst c;rw[if_pos rfl,wN]at *;have r:=fun X {lo} hlo=>reduced_zero (h:=h++[okB,X]) (id:=h.length+0) (by rw[cO];rfl) (aH n) (lo:=lo) hlo
  simp(maxSteps:=1000000)(disch:=omega)only[go_sem,O0,v1,v2,r,jI,bY]
 ·rw[if_neg c];have r:=fun X {lo} hlo=>reduced_ok (h:=h++[okB,X]) (id:=h.length+0) (by rw[cO];rfl) hn hd c (lo:=lo) hlo
  generalize Rat.divInt n d=Q at*;simp(maxSteps:=1000000)(disch:=omega)only[go_sem,O0,v1,v2,r,jI,rt,bY]
end Go.VI.Dump
namespace Go.VI.Dump
open Go.VI.Num
def yY(a:Bool)(v:Bool):Bool:=a||!v
theorem Vv{h:Heap}{id:Nat}{a:Bool}(hid:h[id]?=some (1,.box [.bool a])){lo:Nat}(hlo:lo<=id)(es:List AV)(k:Nat)(s t:List UInt8)(he:es[k]?=some (bY s t))(hl:es.length<=10)(w:Nat)(b:au)(hb:b=.dead\/∃ cs,b=.box cs)(r:Option (Ex×Env×Heap))
  (N:Int) (hN:(es.length:Int)=N) (hr:aQ lib ⟨lo,h.length,1,none⟩ (.loop KS) ([(0,.aF id 1 0),(6,.bF 2 es),(7,.int .i64 N),(8,.int .i64 ((k:Int)+1))],h.set id (1,.box [.bool (yY a (o5 s t))])++[(w+1,.box [.str s,.str t])])=r) :
  aQ lib ⟨lo,h.length,1,none⟩ (.loop KS) ([(0,.aF id 1 0),(6,.bF 2 es),(7,.int .i64 N),(8,.int .i64 k)],h++[(w,b)])=r:=by
 have hlt:id<h.length:=(dQ.mp hid).1;have hk:k<es.length:=(dQ.mp he).1;have p:=fun fr=>Bp (kD (fr:=fr) hid);have st:=fun fr (c:Bool)=>FN (H:=h++fr) (base:=h.length) (ns:=1) (b:=c) (kD (fr:=fr) hid) hlo none;have sp:=fun fr c=>He (fr:=fr) c hid;simp only[sp]at st;have c1:(k:Int)<N:=by omega
 have hs:Sl (h++[(w,b)]) 2 (.bF 2 es) es:=(show cK 2 (.bF 2 es) es from .inr ⟨2,.inr rfl,.inl rfl⟩).sl _
 have e3:iM 2 (.bF 2 es) (.int .i64 k)=some k:=by rw[kr hs (by omega) (by omega)];simp
 have e4:∀ off fr,ig (h++fr) (.gu (.bF 2 es) k off)=some ((bY s t).cells.drop off):=fun off fr=>by
  have:=jV (off:=off) ((show cK 2 (.bF 2 es) es from .inr ⟨2,.inr rfl,.inl rfl⟩).sl (h++fr)).jW hk
  rw[this];have:es[k]=bY s t:=by rw[kN hk]at he;exact Option.some.inj he
  rw[this]
 have v:=fun H lo=>Ea s t H lo;simp only[bY,AV.cells]at e4 v;rw[bU]
 cases a with
 |true =>
  simp only[yY,Bool.true_or]at hr;rcases hb with rfl|⟨cs,rfl⟩
  ·simp(maxSteps:=1000000)(disch:=omega)only[go_sem,c1,e3,e4,p,st];exact hr
  ·simp(maxSteps:=1000000)(disch:=omega)only[go_sem,c1,e3,e4,p,st]
   exact hr
 |false =>
  cases c2:o5 s t with
  |true =>
   rw[c2]at v hr;simp only[yY,Bool.false_or,Bool.not_true]at hr;rcases hb with rfl|⟨cs,rfl⟩
   ·simp(maxSteps:=1000000)(disch:=omega)only[go_sem,c1,e3,e4,p,v,st];exact hr
   ·simp(maxSteps:=1000000)(disch:=omega)only[go_sem,c1,e3,e4,p,v,st]
    exact hr
  |false =>
   rw[c2]at v hr;simp only[yY,Bool.false_or,Bool.not_false]at hr;rcases hb with rfl|⟨cs,rfl⟩
   ·simp(maxSteps:=1000000)(disch:=omega)only[go_sem,c1,e3,e4,p,v,st];exact hr
   ·simp(maxSteps:=1000000)(disch:=omega)only[go_sem,c1,e3,e4,p,v,st];exact hr
theorem adk(h:Heap)(id:Nat)(X:Nat×au)(fr:Heap):(h.set id X++fr).take h.length=h.set id X:=by
 rw[List.take_append_of_le_length (by simp),Az (by simp)]
theorem adl{lo B:Nat}(H:Heap)(id:Nat)(es:List AV)(N:Int):aQ lib ⟨lo,B,1,none⟩ (.loop KS) ([(0,.aF id 1 0),(6,.bF 2 es),(7,.int .i64 N),(8,.int .i64 N)],H)=some (.exit 0,([],H)):=by
 rw[bU];simp(maxSteps:=1000000)(disch:=omega)only[go_sem,nR]
theorem anA{h:Heap}{id:Nat}(hid:h[id]?=some okB)(s t u v:List UInt8){lo:Nat}(hlo:lo<=id):(run lib).fn 122 [.aF id 1 0,.bF 2 [bY s t,bY u v]] h lo=some (.tuple [],h.set id (1,.box [.bool (!(o5 s t&&o5 u v))])):=by
 have hlt:id<h.length:=(dQ.mp hid).1;have e:(yY (yY false (o5 s t)) (o5 u v))=!(o5 s t&&o5 u v):=by unfold yY;cases o5 s t<;>cases o5 u v<;>rfl
 have lg:(h.set id (1,.box [.bool (yY false (o5 s t))]))[id]?=some (1,.box [.bool (yY false (o5 s t))]):=rJ hlt;have c2:=Vv (h:=h.set id (1,.box [.bool (yY false (o5 s t))])) lg hlo [bY s t,bY u v] 1 u v rfl (by simp) 1 (.box [.str s,.str t]) (.inr ⟨_,rfl⟩) _ 2 rfl (adl _ id [bY s t,bY u v] 2)
 rw[vV,List.set_set,e]at c2;have lp:=Vv (a:=false) hid hlo [bY s t,bY u v] 0 s t rfl (by simp) 0 .dead (.inl rfl) _ 2 rfl c2
 have ln:oH false (.bF 2 [bY s t,bY u v])=some (.int .i64 2):=rfl;simp only[qX]at lp;generalize [bY s t,bY u v]=es at*;rw[oZ (x:=KT) rfl rfl rfl rfl (by omega)]
 simp(maxSteps:=1000000)(disch:=omega)only[go_sem,KT,ln,lp,adk]
theorem anB{h:Heap}{id:Nat}(hid:h[id]?=some okB)(s t:List UInt8){lo:Nat}(hlo:lo<=id):(run lib).fn 122 [.aF id 1 0,.bF 2 [bY s t]] h lo=some (.tuple [],h.set id (1,.box [.bool (!o5 s t)])):=by
 have hlt:id<h.length:=(dQ.mp hid).1;have e:yY false (o5 s t)=!o5 s t:=by unfold yY;cases o5 s t<;>rfl
 have lp:=Vv (a:=false) hid hlo [bY s t] 0 s t rfl (by simp) 0 .dead (.inl rfl) _ 1 rfl (adl _ id [bY s t] 1)
 rw[e]at lp;have ln:oH false (.bF 2 [bY s t])=some (.int .i64 1):=rfl;simp only[qX]at lp;generalize [bY s t]=es at*;rw[oZ (x:=KT) rfl rfl rfl rfl (by omega)]
 simp(maxSteps:=1000000)(disch:=omega)only[go_sem,KT,ln,lp,adk]
end Go.VI.Dump
namespace Go.VI.Dump
open Go.VI.Num
theorem CQ{z:Int}(h:Fit z):mD z=true:=decide_eq_true h
theorem CR{z:Int}(h:¬ Fit z):mD z=false:=decide_eq_false h
theorem Vw(q:Rat):(q.den:Int)≠0:=by have:=q.den_pos;omega
theorem IG(a b:Rat):(a.den:Int)*b.den≠0:=Int.mul_ne_zero (Vw a) (Vw b)
section
variable (h:Heap)
theorem CS(X:Nat×au):(h++[okB,X])[h.length+0]?=some okB:=by rw[cO];rfl
theorem Vx(X:Nat×au):(h++[gB,X])[h.length+0]?=some gB:=by rw[cO];rfl
theorem adm(X:Nat×au):(h++[okB,X]).set (h.length+0) gB=h++[gB,X]:=by rw[gy];rfl
theorem Vy(X:Nat×au):(h++[okB,X]).set (h.length+0) okB=h++[okB,X]:=by rw[gy];rfl
theorem Vz{s t u v:List UInt8}(h1:o5 s t=true)(h2:o5 u v=true)(X:Nat×au){lo:Nat}(hlo:lo<=h.length+0):(run lib).fn 122 [.aF (h.length+0) 1 0,.bF 2 [.agg [.str s,.str t],.agg [.str u,.str v]]] (h++[okB,X]) lo=some (.tuple [],h++[okB,X]):=by
 have:=anA (CS h X) s t u v hlo;rw[h1,h2]at this;exact this.trans (congrArg (fun H=>some (AV.tuple [],H)) (Vy h X))
theorem Ec{x y z:Int}(hx:Fit x)(hy:Fit y)(e:z=x*y)(hf:Fit z)(X:Nat×au){lo:Nat}(hlo:lo<=h.length+0):(run lib).fn 124 [.aF (h.length+0) 1 0,.str (aH x),.str (aH y)] (h++[okB,X]) lo=some (.str (aH z),h++[okB,X]):=by
 subst e;exact anv (CS h X) hx hy hf hlo
theorem Ed{x y z:Int}(hx:Fit x)(hy:Fit y)(e:z=x*y)(hf:¬ Fit z)(X:Nat×au){lo:Nat}(hlo:lo<=h.length+0):(run lib).fn 124 [.aF (h.length+0) 1 0,.str (aH x),.str (aH y)] (h++[okB,X]) lo=some (.str [],h++[gB,X]):=by
 subst e;rw[<-adm h X];exact anw (CS h X) hx hy hf hlo
theorem LG(a b:List UInt8)(X:Nat×au){lo:Nat}(hlo:lo<=h.length+0):(run lib).fn 124 [.aF (h.length+0) 1 0,.str a,.str b] (h++[gB,X]) lo=some (.str [],h++[gB,X]):=anu (Vx h X) a b hlo
theorem adn(f:AV)(a b:List UInt8)(X:Nat×au){lo:Nat}(hlo:lo<=h.length+0):(run lib).fn 125 [.aF (h.length+0) 1 0,f,.str a,.str b] (h++[gB,X]) lo=some (.str [],h++[gB,X]):=adf (Vx h X) f a b hlo
theorem ado{g:Nat}(hg0:g<1000){x y z:Int}(hg:∀ h lo,(run lib).fn g [.str (aH x),.str (aH y)] h lo=some (outT z,h))(hf:Fit z)(X:Nat×au){lo:Nat}(hlo:lo<=h.length+0):(run lib).fn 125 [.aF (h.length+0) 1 0,.fn g [],.str (aH x),.str (aH y)] (h++[okB,X]) lo=some (.str (aH z),h++[okB,X]) :=
 IC (CS h X) hg0 (fun lo=>by rw[hg,Ai hf]) hlo
theorem anC{g:Nat}(hg0:g<1000){x y z:Int}(hg:∀ h lo,(run lib).fn g [.str (aH x),.str (aH y)] h lo=some (outT z,h))(hf:¬ Fit z)(X:Nat×au){lo:Nat}(hlo:lo<=h.length+0):(run lib).fn 125 [.aF (h.length+0) 1 0,.fn g [],.str (aH x),.str (aH y)] (h++[okB,X]) lo=some (.str [],h++[gB,X]):=by
 rw[<-adm h X];exact adg (CS h X) hg0 (e:=30) (by decide) (fun lo=>by rw[hg];unfold outT;rw[if_neg (show ¬ z.natAbs<10^200 from hf)]) hlo
theorem Ee(n d:List UInt8)(X:Nat×au){lo:Nat}(hlo:lo<=h.length+0):(run lib).fn 103 [.aF (h.length+0) 1 0,.str n,.str d] (h++[gB,X]) lo=some (.tuple [.agg [.str [],.str []],.int .i64 40],h++[gB,X]):=reduced_bad (Vx h X) n d hlo
theorem LJ{n d:Int}(hn:Fit n)(hd:Fit d)(h0:d≠0)(X:Nat×au){lo:Nat}(hlo:lo<=h.length+0):(run lib).fn 103 [.aF (h.length+0) 1 0,.str (aH n),.str (aH d)] (h++[okB,X]) lo=some (.tuple [.agg [.str (aH (Rat.divInt n d).num),.str (aH ((Rat.divInt n d).den:Int))],.int .i64 0],h++[okB,X]):=reduced_ok (CS h X) hn hd h0 hlo
theorem anD(n:Int)(X:Nat×au){lo:Nat}(hlo:lo<=h.length+0):(run lib).fn 103 [.aF (h.length+0) 1 0,.str (aH n),.str (aH 0)] (h++[okB,X]) lo=some (.tuple [.agg [.str [],.str []],.int .i64 40],h++[okB,X]):=reduced_zero (CS h X) _ hlo
end
theorem adp{a b:Rat}(ha:gV a)(hb:gV b)(h:Heap)(lo:Nat):(run lib).fn 121 [rt a,rt b] h lo=some (jI (Bf a b),h):=by
 have ck:=fun X {lo} hlo=>Vz h (Be ha) (Be hb) X (lo:=lo) hlo;have hd:=IG a b;have q:=UX a b;unfold Bf rt bY;obtain⟨x,ex⟩:∃ x,x=a.num*b.num:=⟨_,rfl⟩;obtain⟨y,ey⟩:∃ y,y=(a.den:Int)*b.den:=⟨_,rfl⟩;rw[<-ex,<-ey]at q⊢;rw[<-ey]at hd;rw[bW (x:=KR) rfl rfl rfl rfl];by_cases c1:Fit x
 ·have m1:=fun X {lo} hlo=>Ec h ha.1 hb.1 ex c1 X (lo:=lo) hlo;rw[CQ c1];by_cases c2:Fit y
  ·have m2:=fun X {lo} hlo=>Ec h (rR ha) (rR hb) ey c2 X (lo:=lo) hlo;have r:=fun X {lo} hlo=>LJ h c1 c2 hd X (lo:=lo) hlo;rw[CQ c2];rw[q]at r;generalize a*b=Q at*;simp(maxSteps:=1000000)(disch:=omega)only[go_sem,KR,ck,m1,m2,r,jI,rt,bY]
  ·have m2:=fun X {lo} hlo=>Ed h (rR ha) (rR hb) ey c2 X (lo:=lo) hlo;rw[CR c2];simp(maxSteps:=1000000)(disch:=omega)only[go_sem,KR,ck,m1,m2,Ee,jI,rt,bY]
 ·have m1:=fun X {lo} hlo=>Ed h ha.1 hb.1 ex c1 X (lo:=lo) hlo;rw[CR c1];simp(maxSteps:=1000000)(disch:=omega)only[go_sem,KR,ck,m1,LG,Ee,jI,rt,bY]
end Go.VI.Dump
namespace Go.VI.Dump
open Go.VI.Num
theorem mW(cs:List AV):(AV.bR cs).closed=true:=by simp[AV.closed]
theorem adq{a b:Rat}(ha:gV a)(hb:gV b)(h:Heap)(lo:Nat):(run lib).fn 133 [rt a,rt b] h lo=some (jI (CB a b),h):=by
 have ck:=fun X {lo} hlo=>Vz h (Be ha) (Be hb) X (lo:=lo) hlo;have q:=aci a b;have qz:=acj (a:=a) (b:=b);unfold CB rt bY;obtain⟨x,ex⟩:∃ x,x=a.num*b.den:=⟨_,rfl⟩;obtain⟨y,ey⟩:∃ y,y=(a.den:Int)*b.num:=⟨_,rfl⟩;rw[<-ex,<-ey]at q⊢;rw[<-ey]at qz;rw[bW (x:=Hy) rfl rfl rfl rfl];by_cases c1:Fit x
 ·have m1:=fun X {lo} hlo=>Ec h ha.1 (rR hb) ex c1 X (lo:=lo) hlo;rw[CQ c1];by_cases c2:Fit y
  ·have m2:=fun X {lo} hlo=>Ec h (rR ha) hb.1 ey c2 X (lo:=lo) hlo;rw[CQ c2];by_cases c3:b=0
   ·have r:=fun X {lo} hlo=>anD h x X (lo:=lo) hlo;have y0:y=0:=qz.mpr c3;rw[y0]at m2;rw[decide_eq_false (show ¬ b≠0 from fun h=>h c3)]
    simp(maxSteps:=1000000)(disch:=omega)only[go_sem,Hy,ck,m1,m2,r,jI,rt,bY]
   ·have hd:y≠0:=fun h=>c3 (qz.mp h);have r:=fun X {lo} hlo=>LJ h c1 c2 hd X (lo:=lo) hlo;rw[q]at r;rw[decide_eq_true (show b≠0 from c3)]
    generalize a/b=Q at*;simp(maxSteps:=1000000)(disch:=omega)only[go_sem,Hy,ck,m1,m2,r,jI,rt,bY]
  ·have m2:=fun X {lo} hlo=>Ed h (rR ha) hb.1 ey c2 X (lo:=lo) hlo;rw[CR c2];simp(maxSteps:=1000000)(disch:=omega)only[go_sem,Hy,ck,m1,m2,Ee,jI,rt,bY]
 ·have m1:=fun X {lo} hlo=>Ed h ha.1 (rR hb) ex c1 X (lo:=lo) hlo;rw[CR c1];simp(maxSteps:=1000000)(disch:=omega)only[go_sem,Hy,ck,m1,LG,Ee,jI,rt,bY]
theorem adr{g:Nat}(hg0:g<1000){a b:Rat}(ha:gV a)(hb:gV b){z:Int}(hg:Fit (a.num*b.den)->Fit (b.num*a.den)->∀ h lo,(run lib).fn g [.str (aH (a.num*b.den)),.str (aH (b.num*a.den))] h lo=some (outT z,h))(h:Heap)(lo:Nat) :
  (run lib).fn 157 [.fn g [],rt a,rt b] h lo=some (jI (if mD (a.num*b.den)&&mD (b.num*a.den)&&mD z&&mD ((a.den:Int)*b.den)then some (Rat.divInt z ((a.den:Int)*b.den))else none),h):=by
 have ck:=fun X {lo} hlo=>Vz h (Be ha) (Be hb) X (lo:=lo) hlo;have hd:=IG a b;unfold rt bY;obtain⟨x,ex⟩:∃ x,x=a.num*b.den:=⟨_,rfl⟩;obtain⟨u,eu⟩:∃ u,u=b.num*a.den:=⟨_,rfl⟩;obtain⟨y,ey⟩:∃ y,y=(a.den:Int)*b.den:=⟨_,rfl⟩;rw[<-ex,<-eu]at hg;rw[<-ex,<-eu,<-ey];rw[<-ey]at hd;rw[bW (x:=x157) rfl rfl rfl rfl];by_cases c1:Fit x
 ·have m1:=fun X {lo} hlo=>Ec h ha.1 (rR hb) ex c1 X (lo:=lo) hlo;rw[CQ c1];by_cases c2:Fit u
  ·have m2:=fun X {lo} hlo=>Ec h hb.1 (rR ha) eu c2 X (lo:=lo) hlo;rw[CQ c2];by_cases c3:Fit z
   ·have d:=fun X {lo} hlo=>ado h hg0 (hg c1 c2) c3 X (lo:=lo) hlo;rw[CQ c3];by_cases c4:Fit y
    ·have m3:=fun X {lo} hlo=>Ec h (rR ha) (rR hb) ey c4 X (lo:=lo) hlo;have r:=fun X {lo} hlo=>LJ h c3 c4 hd X (lo:=lo) hlo;rw[CQ c4];generalize Rat.divInt z y=Q at*;simp(maxSteps:=1000000)(disch:=omega)only[go_sem,x157,mW,ck,m1,m2,d,m3,r,jI,rt,bY]
    ·have m3:=fun X {lo} hlo=>Ed h (rR ha) (rR hb) ey c4 X (lo:=lo) hlo;rw[CR c4];simp(maxSteps:=1000000)(disch:=omega)only[go_sem,x157,mW,ck,m1,m2,d,m3,Ee,jI,rt,bY]
   ·have d:=fun X {lo} hlo=>anC h hg0 (hg c1 c2) c3 X (lo:=lo) hlo;rw[CR c3];simp(maxSteps:=1000000)(disch:=omega)only[go_sem,x157,mW,ck,m1,m2,d,LG,Ee,jI,rt,bY]
  ·have m2:=fun X {lo} hlo=>Ed h hb.1 (rR ha) eu c2 X (lo:=lo) hlo;rw[CR c2];simp(maxSteps:=1000000)(disch:=omega)only[go_sem,x157,mW,ck,m1,m2,adn,LG,Ee,jI,rt,bY]
 ·have m1:=fun X {lo} hlo=>Ed h ha.1 (rR hb) ex c1 X (lo:=lo) hlo;rw[CR c1];simp(maxSteps:=1000000)(disch:=omega)only[go_sem,x157,mW,ck,m1,adn,LG,Ee,jI,rt,bY]
theorem LK(o:Option Rat):∃ s t e,jI o=.tuple [.agg [.str s,.str t],.int .i64 e]:=by
 cases o with
 |none=>exact⟨_,_,_,rfl⟩
 |some q=>exact⟨_,_,_,rfl⟩
theorem ads{a b:Rat}(ha:gV a)(hb:gV b)(h:Heap)(lo:Nat):(run lib).fn 120 [rt a,rt b] h lo=some (jI (DR a b),h):=by
 have s:=fun H lo=>adr (g:=126) (by decide) ha hb (z:=a.num*b.den+b.num*a.den) (fun h1 h2 H lo=>ac9 h1 h2 H lo) H lo
 rw[acg]at s;unfold DR;generalize (if mD (a.num*b.den)&&mD (b.num*a.den)&&mD (a.num*b.den+b.num*a.den)&&mD ((a.den:Int)*b.den)then some (a+b)else none)=o at*;obtain⟨s1,s2,e,he⟩:=LK o;rw[he]at s⊢;unfold rt bY at s⊢;rw[bW (x:=Ua) rfl rfl rfl rfl];simp(maxSteps:=1000000)(disch:=omega)only[go_sem,Ua,s]
theorem adt{a b:Rat}(ha:gV a)(hb:gV b)(h:Heap)(lo:Nat):(run lib).fn 119 [rt a,rt b] h lo=some (jI (um a b),h):=by
 have s:=fun H lo=>adr (g:=135) (by decide) ha hb (z:=a.num*b.den-b.num*a.den) (fun h1 h2 H lo=>Vs h1 h2 H lo) H lo
 rw[ach]at s;unfold um;generalize (if mD (a.num*b.den)&&mD (b.num*a.den)&&mD (a.num*b.den-b.num*a.den)&&mD ((a.den:Int)*b.den)then some (a-b)else none)=o at*;obtain⟨s1,s2,e,he⟩:=LK o;rw[he]at s⊢;unfold rt bY at s⊢;rw[bW (x:=T9) rfl rfl rfl rfl];simp(maxSteps:=1000000)(disch:=omega)only[go_sem,T9,s]
theorem adu{n d:Int}(hn:Fit n)(hd:Fit d)(hn1:-9223372036854775808<=n/\n<=9223372036854775807)(hd1:-9223372036854775808<=d/\d<=9223372036854775807)(h:Heap)(lo:Nat):(run lib).fn 39 [.int .i64 n,.int .i64 d] h lo=some (jI (yQ n d),h):=by
 have f1:=fun H lo=>ada hn1.1 hn1.2 H lo;have f2:=fun H lo=>ada hd1.1 hd1.2 H lo;have m:=fun H lo=>anz hn hd H lo;obtain⟨s1,s2,e,he⟩:=LK (yQ n d);rw[he]at m⊢;rw[bW (x:=x39) rfl rfl rfl rfl];simp(maxSteps:=1000000)(disch:=omega)only[go_sem,x39,f1,f2,m]
end Go.VI.Dump
namespace Go.VI.Dump
open Go.VI.Num
theorem anE(x y:Int):(eX x y=-1/\x<y)\/(eX x y=0/\x=y)\/(eX x y=1/\y<x):=by
 unfold eX;by_cases h1:x<y
 ·rw[if_pos h1];omega
 ·rw[if_neg h1];by_cases h2:x=y
  ·rw[if_pos h2];omega
  ·rw[if_neg h2];omega
theorem anF(h:Heap):∀(k:Nat) (n d m c σ:Int),d.toNat<=k->0<d->0<c->Fit n->Fit d->Fit m->Fit c->(σ=1\/σ=-1)->∃ env' fr',fr'.length=2 /\
  aQ lib ⟨h.length,h.length,2,none⟩ (.loop Tx) ([(2,.aF (h.length+0) 1 0),(3,.aF (h.length+1) 1 0),(5,.int .i64 σ)],h++[(1,.box [.str (aH n),.str (aH d)]),(1,.box [.str (aH m),.str (aH c)])]) =
   some (.ret,(env',h++fr'))/\env'.get 4=.int .i64 (σ*eX (n*c) (m*d)):=by
 intro k
 induction k with
 |zero=>intro n d m c σ h1 h2;omega
 |succ k ih =>
  intro n d m c σ hk hd hc fn fd fm fc hσ;have v1:=fun H lo=>Qx fn fd (by omega) H lo
  have v2:=fun H lo=>Qx fm fc (by omega) H lo
  unfold FK at v1 v2;have fp:=D8 fn (show d≠0 by omega)
  have fq:=D8 fm (show c≠0 by omega)
  have fr:=Qw (x:=n) fd (by omega)
  have fs:=Qw (x:=m) fc (by omega)
  have cm:=fun H lo=>Vt fp fq H lo;have ne:=amw (n:=n) (m:=m) hd hc;have eq:=round_eq (n:=n) (d:=d) (m:=m) (c:=c);have r0:=Int.emod_nonneg n (show d≠0 by omega)
  have s0:=Int.emod_nonneg m (show c≠0 by omega)
  have r1:=Int.emod_lt_of_pos n hd;have s1:=Int.emod_lt_of_pos m hc;have cc:=anE (n/d) (m/c);generalize n/d=p at*;generalize m/c=q at*;generalize n%d=r at*;generalize m%c=s at*;rcases cc with⟨e,l⟩|⟨e,l⟩|⟨e,l⟩
  ·have e2:=ne (by omega)
   rw[e]at e2 cm;refine⟨[(4,.int .i64 (σ*-1))],[(1,.box [.str (aH n),.str (aH d)]),(1,.box [.str (aH m),.str (aH c)])],rfl, ?_,by rw[<-e2];rfl⟩
   rw[bU];rcases hσ with rfl|rfl
   ·simp(maxSteps:=1000000)(disch:=omega)only[go_sem,v1,v2,cm]
   ·simp(maxSteps:=1000000)(disch:=omega)only[go_sem,v1,v2,cm]
  ·have e2:=eq l;rw[e]at cm;by_cases hr:r=0
   ·subst hr;rw[wN]at v1;rw[Int.zero_mul]at e2;by_cases hs:s=0
    ·subst hs;rw[wN]at v2;refine⟨[(4,.int .i64 0)],[(1,.box [.str (aH n),.str (aH d)]),(1,.box [.str (aH m),.str (aH c)])],rfl, ?_,by rw[e2,Int.zero_mul,show eX 0 0=0 from rfl,Int.mul_zero];rfl⟩
     rw[bU];rcases hσ with rfl|rfl
     ·simp(maxSteps:=1000000)(disch:=omega)only[go_sem,v1,v2,cm]
     ·simp(maxSteps:=1000000)(disch:=omega)only[go_sem,v1,v2,cm]
    ·have hz:=IE hs;have hp:0<s*d:=Int.mul_pos (by omega) hd
     refine⟨[(4,.int .i64 (-σ))],[(1,.box [.str (aH n),.str (aH d)]),(1,.box [.str (aH m),.str (aH c)])],rfl, ?_,by rw[e2,show eX 0 (s*d)=-1 from if_pos hp,Int.mul_neg,Int.mul_one];rfl⟩
     rw[bU];rcases hσ with rfl|rfl
     ·simp(maxSteps:=1000000)(disch:=omega)only[go_sem,v1,v2,cm,hz]
     ·simp(maxSteps:=1000000)(disch:=omega)only[go_sem,v1,v2,cm,hz]
   ·have hy:=IE hr;by_cases hs:s=0
    ·subst hs;rw[wN]at v2;have hp:0<r*c:=Int.mul_pos (by omega) hc
     refine⟨[(4,.int .i64 σ)],[(1,.box [.str (aH n),.str (aH d)]),(1,.box [.str (aH m),.str (aH c)])],rfl, ?_,by rw[e2,Int.zero_mul,show eX (r*c) 0=1 from by unfold eX;rw[if_neg (by omega),if_neg (by omega)],Int.mul_one];rfl⟩
     rw[bU];rcases hσ with rfl|rfl
     ·simp(maxSteps:=1000000)(disch:=omega)only[go_sem,v1,v2,cm,hy]
     ·simp(maxSteps:=1000000)(disch:=omega)only[go_sem,v1,v2,cm,hy]
    ·have hz:=IE hs;obtain⟨env',fr',l',w',g'⟩:=ih d r c s (-σ) (by omega) (by omega) (by omega) fd fr fc fs (by omega)
     refine⟨env',fr',l', ?_, ?_⟩
     ·have hne1:¬ h.length+0=h.length+1:=by omega
      have hne2:¬ h.length+1=h.length+0:=by omega
      rw[bU];rcases hσ with rfl|rfl
      ·simp(maxSteps:=1000000)(disch:=omega)only[go_sem,v1,v2,cm,hy,hz,hne1,hne2];exact w'
      ·simp(maxSteps:=1000000)(disch:=omega)only[go_sem,v1,v2,cm,hy,hz,hne1,hne2];exact w'
     ·rw[g',e2,round_swap,Int.neg_mul_neg]
  ·have e2:=ne (by omega)
   rw[e]at e2 cm;refine⟨[(4,.int .i64 (σ*1))],[(1,.box [.str (aH n),.str (aH d)]),(1,.box [.str (aH m),.str (aH c)])],rfl, ?_,by rw[<-e2];rfl⟩
   rw[bU];rcases hσ with rfl|rfl
   ·simp(maxSteps:=1000000)(disch:=omega)only[go_sem,v1,v2,cm]
   ·simp(maxSteps:=1000000)(disch:=omega)only[go_sem,v1,v2,cm]
theorem Bq{a b:Rat}(ha:gV a)(hb:gV b)(h:Heap)(lo:Nat):(run lib).fn 42 [rt a,rt b] h lo=some (.int .i64 (lY a b),h):=by
 have va:=fun H lo=>Ea (aH a.num) (aH (a.den:Int)) H lo;have vb:=fun H lo=>Ea (aH b.num) (aH (b.den:Int)) H lo;rw[Be ha]at va;rw[Be hb]at vb;obtain⟨env',fr',l,w,g⟩:=anF h _ a.num (a.den:Int) b.num (b.den:Int) 1 (bC _) (by have:=a.den_pos;omega) (by have:=b.den_pos;omega) ha.1 (rR ha) hb.1 (rR hb) (.inl rfl)
 rw[Int.one_mul]at g;unfold lY;unfold rt bY at*;rw[bW (x:=Ty) rfl rfl rfl rfl];simp(maxSteps:=1000000)(disch:=omega)only[go_sem,Ty,va,vb,w,g,List.take_left']
end Go.VI.Dump
namespace Go.VI.Dump
open Go.VI.Num
def xR(p:Nat):Int:=10^p
theorem adv:∀(p:Nat) (a:Nat),dv a (List.replicate p 48)=a*10^p
 |0,a=>by simp[yM]
 |p+1,a=>by
  rw[List.replicate_succ,yN,adv p,yJ];have:(48:UInt8).toNat-48=0:=rfl;rw[this,Nat.add_zero,Nat.mul_assoc,vk 10]
theorem anG(p:Nat):49::List.replicate p 48=aH (xR p):=by
 have hd:ug (49::List.replicate p 48):=by
  intro c hc;rw[ko]at hc;rcases hc with rfl|hc
  ·exact⟨by decide,by decide⟩
  ·rw[List.mem_replicate]at hc;rw[hc.2];exact⟨by decide,by decide⟩
 have hn:K5 (49::List.replicate p 48):=⟨by simp,.inr (by simp)⟩
 have h1:=ab5 _ _ rfl hd hn
 have h2:dv 0 (49::List.replicate p 48)=10^p:=by
  rw[yN,adv];have:(49:UInt8).toNat-48=1:=rfl;rw[this];omega
 rw[h2]at h1;have h3:xR p=((10^p:Nat):Int):=by unfold xR;rw[Int.natCast_pow];rfl
 rw[h3,amC,h1]
theorem anH{p:Nat}(h:p<200):Fit (xR p):=by
 unfold Fit xR;rw[Int.natAbs_pow];exact Nat.pow_lt_pow_right (by decide) h
theorem anI(p:Nat):0<xR p:=amx p
def Ef(r:Rat)(p:Nat)(up:Bool):Option Rat:=if mD (r.num*10^p)then some (if up then UY r p else P8 r p)else none
theorem anJ{n d:Int}(hn:Fit n)(hd:0<d)(h:n%d≠0):Fit (n/d+1):=by
 have e:=Int.mul_ediv_add_emod n d;have r0:=Int.emod_nonneg n (show d≠0 by omega)
 have r1:=Int.emod_lt_of_pos n hd;have hf:=D8 (y:=d) hn (by omega)
 unfold Fit at*
 have h2:2<=d:=by
  rcases Int.lt_or_le d 2 with h3|h3
  ·exfalso;apply h;have:d=1:=by omega
   rw[this];exact Int.emod_one n
  ·exact h3
 by_cases hp:0<=n/d
 ·have:n/d*2<=n/d*d:=Cw h2 hp;rw[vo]at e;generalize n/d=q at*;generalize n%d=r at*;generalize q*d=Z at*;omega
 ·omega
theorem anK(h:Heap){s t:List UInt8}(h1:o5 s t=true)(X:Nat×au){lo:Nat}(hlo:lo<=h.length+0):(run lib).fn 122 [.aF (h.length+0) 1 0,.bF 2 [.agg [.str s,.str t]]] (h++[okB,X]) lo=some (.tuple [],h++[okB,X]):=by
 have:=anB (CS h X) s t hlo;rw[h1]at this;exact this.trans (congrArg (fun H=>some (AV.tuple [],H)) (Vy h X))
theorem anL{r:Rat}(hr:gV r){p:Nat}(hp:p<=30)(up:Bool)(h:Heap)(lo:Nat):(run lib).fn 84 [rt r,.int .i64 p,.bool up] h lo=some (jI (Ef r p up),h):=by
 have ck:=fun X {lo} hlo=>anK h (Be hr) X (lo:=lo) hlo;have c1:¬ (p:Int)<0:=by omega
 have c2:¬ (30:Int)<p:=by omega
 have rp:=fun H lo=>ac4 (n:=p) (by omega) 48 H lo
 have tx:jh .add (.str [49]) (.str (List.replicate p 48))=some (.str (aH (xR p))):=by rw[Vk (by simp;omega)];exact congrArg (fun l=>some (AV.str l)) (anG p)
 have ft:=anH (p:=p) (by omega)
 have tp:=anI p;have nd:=Vw r;have dp:(0:Int)<r.den:=by have:=r.den_pos;omega
 unfold rt bY Ef;obtain⟨n,en⟩:∃ n,n=r.num*xR p:=⟨_,rfl⟩;have en':r.num*10^p=n:=en.symm;rw[en'];have eD:P8 r p=Rat.divInt (n/r.den) (xR p):=by unfold P8 CF;rw[en'];rfl
 have eU:UY r p=Rat.divInt (if n%r.den=0 then n/r.den else n/r.den+1) (xR p):=by unfold UY upZ;rw[en'];rfl
 rw[bW (x:=x84) rfl rfl rfl rfl];by_cases cf:Fit n
 ·have m:=fun X {lo} hlo=>Ec h hr.1 ft en cf X (lo:=lo) hlo;have dv:=fun H lo=>Qx cf (rR hr) nd H lo;unfold FK at dv;have fq:=D8 (y:=(r.den:Int)) cf nd;have q1:=fun hh=>anJ (d:=(r.den:Int)) cf dp hh;have rdn:=fun X {lo} hlo=>LJ h fq ft (by omega) X (lo:=lo) hlo
  rw[CQ cf,if_pos rfl,eD,eU];have st:=fun X (c:Bool)=>FN (base:=h.length) (ns:=2) (lo:=h.length) (b:=c) (CS h X) (by omega) none
  have st2:=fun X=>(st X false).trans (by rw[Vy h X])
  cases up with
  |false =>
   simp only[iw,if_false];generalize n/(r.den:Int)=q at*;generalize n%(r.den:Int)=s at*;generalize Rat.divInt q (xR p)=Q at*
   simp(maxSteps:=1000000)(disch:=omega)only[go_sem,x84,ck,c1,c2,rp,tx,m,dv,st2,rdn,jI,rt,bY]
  |true =>
   simp only[if_true];generalize n%(r.den:Int)=s at*;by_cases cs:s=0
   ·subst cs;rw[if_pos rfl];rw[wN]at dv;generalize n/(r.den:Int)=q at*;generalize Rat.divInt q (xR p)=Q at*;simp(maxSteps:=1000000)(disch:=omega)only[go_sem,x84,ck,c1,c2,rp,tx,m,dv,st2,rdn,jI,rt,bY]
   ·have hz:=IE cs;have f1:=q1 cs;have ad:=fun X {lo} hlo=>ado h (g:=126) (by decide) (x:=n/(r.den:Int)) (y:=1) (z:=n/(r.den:Int)+1) (fun H lo=>ac9 fq (by unfold Fit;decide) H lo) f1 X (lo:=lo) hlo
    rw[K8]at ad;have rup:=fun X {lo} hlo=>LJ h f1 ft (by omega) X (lo:=lo) hlo
    rw[if_neg cs];generalize n/(r.den:Int)=q at*;generalize q+1=q' at*;generalize Rat.divInt q' (xR p)=Q at*;simp(maxSteps:=1000000)(disch:=omega)only[go_sem,x84,ck,c1,c2,rp,tx,m,dv,st2,hz,ad,rup,jI,rt,bY]
 ·have m:=fun X {lo} hlo=>Ed h hr.1 ft en cf X (lo:=lo) hlo;rw[CR cf,if_neg (by simp)]
  simp(maxSteps:=1000000)(disch:=omega)only[go_sem,x84,ck,c1,c2,rp,tx,m,jI,rt,bY]
theorem anN{r:Rat}(hr:gV r){p:Nat}(hp:p<=30)(h:Heap)(lo:Nat):(run lib).fn 44 [rt r,.int .i64 p] h lo=some (jI (Ef r p false),h):=by
 have s:=fun H lo=>anL hr hp false H lo;obtain⟨s1,s2,e,he⟩:=LK (Ef r p false);rw[he]at s⊢;unfold rt bY at s⊢;rw[bW (x:=Tz) rfl rfl rfl rfl];simp(maxSteps:=1000000)(disch:=omega)only[go_sem,Tz,s]
end Go.VI.Dump
namespace Go.VI
theorem bytesOf_map:∀ l:List UInt8,bytesOf (l.map AV.byte)=some l
 |[]=>rfl
 |b::r=>by
  have hb:=b.toNat_lt;simp only[List.map_cons,AV.byte,bytesOf];have ih:=bytesOf_map r;rw[if_pos (by omega),ih]
  simp
theorem byte_of{n:Nat}(h:n<256):AV.byte (UInt8.ofNat n)=.int .u8 n:=by
 simp[AV.byte,UInt8.toNat_ofNat'];omega
end Go.VI
namespace Go.VI.Dump
open Go.VI.Num
theorem anO{l:List Int}(hl:l.length<=1000000)(cx:Cx)(H:Heap)(id:Nat)(hid:H[id]?=some (1,.arr 1 (ints l))):∀ k:Nat,k<=l.length ->
  aQ lib cx (.loop DK) ([(0,.ref id 1 1 0 k l.length)],H)=some (.exit 0,([(0,.ref id 1 1 0 (pG l k) l.length)],H)):=by
 intro k
 induction k with
 |zero =>
  intro hk;rw[bU];have s3:oH false (.ref id 1 1 0 0 l.length)=some (.int .i64 0):=rfl;simp only[pG]
  simp(maxSteps:=1000000)(disch:=omega)only[go_sem,s3,nR]
 |succ k ih =>
  intro hk;have s3:oH false (.ref id 1 1 0 (k+1) l.length)=some (.int .i64 ((k:Int)+1)):=rfl;have c1:(0:Int)<(k:Int)+1:=by omega
  have e0:(k:Int)+1-1=k:=by omega
  have e3:iM 1 (.ref id 1 1 0 (k+1) l.length) (.int .i64 k)=some k:=by simp[iM,jd,lU,idx]
  have hg:l.getD k 0=l[k]:=by rw[nX,kN (by omega)];rfl
  have e4:ig H (.gu (.ref id 1 1 0 (k+1) l.length) k 0)=some [.int .i64 l[k]]:=by
   have hb:k+1<=l.length:=hk;have hk':k<l.length:=by omega
   simp only[ig,iV,hid,jY];simp[hb,ints,nH,hk',AV.cells]
  have hsl:pQ (some 1) (.ref id 1 1 0 (k+1) l.length) none (some (.int .i64 k))=some (.ref id 1 1 0 k l.length):=by
   have hb:bnd (some (.int .i64 k)) (k+1) (k+1)=some k:=by rw[Hg (by omega) (by omega)];simp
   rw[OO,hb];simp[bnd]
  have ih':=ih (by omega)
  simp only[pG,hg];rw[bU];by_cases c2:l[k]=0
  ·rw[if_pos c2];simp(maxSteps:=1000000)(disch:=omega)only[go_sem,s3,c1,e0,e3,e4,c2,hsl,ih']
  ·rw[if_neg c2];simp(maxSteps:=1000000)(disch:=omega)only[go_sem,s3,c1,e0,e3,e4,c2]
theorem anP{l:List Int}(hl:l.length<=1000000)(h:Heap)(id:Nat)(hid:h[id]?=some (1,.arr 1 (ints l)))(N:Nat)(hN:l.length=N)(lo:Nat):(run lib).fn 194 [.ref id 1 1 0 N N] h lo=some (.ref id 1 1 0 (iF l).length N,h):=by
 subst hN;have e:=fun cx=>anO hl cx h id hid l.length (bC _);have hlt:id<h.length:=(dQ.mp hid).1
 have hg:∀ t N,jf h.length (.ref id 1 1 0 t N) h=some (.ref id 1 1 0 t N):=fun t N=>by
  simp[jf,give,bL,show ¬ h.length<=id by omega]
 have ht:(iF l).length=pG l l.length:=by
  have:=H8 l l.length;simp[iF];omega
 rw[bW (x:=zQ) rfl rfl rfl rfl,ht];simp(maxSteps:=1000000)(disch:=omega)only[go_sem,zQ,e,hg,Option.map_some]
theorem anQ(h:Heap)(lo:Nat):(run lib).fn 194 [.aP] h lo=some (.own 0 [],h):=by
 have s3:oH false .aP=some (.int .i64 0):=rfl
 have e:aQ lib ⟨h.length,h.length,0,none⟩ (.loop DK) ([(0,.aP)],h)=some (.exit 0,([(0,.aP)],h)):=by
  rw[bU];simp(maxSteps:=1000000)(disch:=omega)only[go_sem,s3,nR]
 rw[bW (x:=zQ) rfl rfl rfl rfl];simp(maxSteps:=1000000)(disch:=omega)only[go_sem,zQ,e]
theorem anR{l:List Int}{k:Nat}(hk:k<l.length):nQ (l.drop k)=nQ (l.drop (k+1))++[UInt8.ofNat (48+l[k].toNat)]:=by
 rw[qH hk];simp only[nQ,List.reverse_cons,List.map_append,List.map_singleton]
theorem adx{v:AV}{l:List Int}{h:Heap}(hs:Sl h 1 v (ints l))(hd:Dg l)(hl:l.length<=100000)(pre:List UInt8)(V:List AV->AV)(F:List AV->Heap)
  (hF:∀(C:List UInt8) (x:AV),C.length<=100000->ji ⟨h.length,h.length,2,none⟩ 0 1 140737488355328 (V ((pre++C).map AV.byte)) [x] (h++F ((pre++C).map AV.byte))=some (V ((pre++C).map AV.byte++[x]),h++F ((pre++C).map AV.byte++[x]))):∀(k:Nat),k<=l.length ->
  aQ lib ⟨h.length,h.length,2,none⟩ (.loop Um) ([(1,v),(6,V ((pre++nQ (l.drop k)).map AV.byte)),(7,.int .i64 ((k:Int)-1))],h++F ((pre++nQ (l.drop k)).map AV.byte)) =
   some (.exit 0,([(1,v),(6,V ((pre++nQ l).map AV.byte))],h++F ((pre++nQ l).map AV.byte))):=by
 intro k
 induction k with
 |zero =>
  intro hk;have c1:¬ (0:Int)<=-1:=by omega
  rw[bU]
  simp(maxSteps:=1000000)(disch:=omega)only[go_sem,c1,Int.zero_sub,Int.reduceNeg]
 |succ k ih =>
  intro hk;have c1:(0:Int)<=(k:Int):=by omega
  have e0:(k:Int)+1-1=k:=by omega
  have hkl:k<l.length:=by omega
  have hs2:=fun fr=>hs.app fr;have e3:iM 1 v (.int .i64 k)=some k:=by rw[kr hs (by omega) (by simp;omega)];simp
  have e4:=fun off fr=>jV (off:=off) (hs2 fr).jW (show k<(ints l).length by simp;omega)
  simp only[uo]at e4;have hx:=hd l[k] (l9 hkl);have k1:=ih (by omega)
  rw[anR hkl,<-jO,List.map_append,List.map_singleton,byte_of (by omega)]at k1
  have hcl:(nQ (l.drop (k+1))).length<=100000:=by simp[nQ];omega
  generalize nQ (l.drop (k+1))=C at*;have ea:=fun x:AV=>hF C x hcl;generalize (pre++C).map AV.byte=W at*;generalize l[k]=d at*;have ed:((48+d.toNat:Nat):Int)=48+d:=by omega
  rw[ed]at k1;rw[bU];simp(maxSteps:=1000000)(disch:=omega)only[go_sem,jo,e0,c1,e3,e4,ea,k1]
def VB(neg:Bool)(n:Nat):List UInt8:=if n=0 then[48]else if neg then 45::dec n else dec n
theorem anS(neg:Bool)(n:Nat):VB neg n=aH (lm neg n):=by
 unfold VB;by_cases h0:n=0
 ·subst h0;cases neg<;>rfl
 ·rw[if_neg h0]
  cases neg with
  |true =>
   unfold aH lm;rw[if_pos rfl,if_pos rfl,if_pos (by omega)]
   have:(-(n:Int)).natAbs=n:=by omega
   rw[this]
  |false =>
   unfold lm;rw[if_neg (by simp),if_neg (by simp),Vn]
theorem VD{v:AV}{n:Nat}(neg:Bool){h:Heap}(hs:Sl h 1 v (ints (d10 n)))(hl:(d10 n).length<=100000)(lo:Nat) :
  (run lib).fn 143 [.bool neg,v] h lo=some (.tuple [.str (aH (lm neg n)),.bool (decide ((d10 n).length<=200))],h):=by
 have s1:=iB hs.len;rw[jY]at s1;rw[<-anS];unfold VB;by_cases h0:n=0
 ·subst h0;have e:((d10 0).length:Int)=0:=rfl;have e2:decide ((d10 0).length<=200)=true:=rfl;rw[e]at s1;rw[e2,if_pos rfl,bW (x:=HV) rfl rfl rfl rfl];simp(maxSteps:=1000000)(disch:=omega)only[go_sem,HV,s1]
 ·have hne:d10 n≠[]:=fun e=>h0 (Ih.mp e);have hpos:=uj.mpr hne;have c0:¬ ((d10 n).length:Int)=0:=by omega
  have ce:decide (((d10 n).length:Int)<=200)=decide ((d10 n).length<=200):=by rw[decide_eq_decide];omega
  have hd:=Bn n;rw[if_neg h0,bW (x:=HV) rfl rfl rfl rfl]
  cases neg with
  |true =>
   have lp:=adx hs hd hl [45] (fun W=>.ref (h.length+1) 1 1 0 W.length W.length) (fun W=>[(0,.dead),(1,.arr 1 W)]) (fun C x hC=>by
    have ea:=Hf (cx:=⟨h.length,h.length,2,none⟩) (s:=0) (z:=1) (lim:=140737488355328) (id:=h.length+1) (ai:=1) (h:=h++[(0,.dead),(1,.arr 1 (([45]++C).map AV.byte))]) (es:=([45]++C).map AV.byte) (xs:=[x]) (by rw[cO];rfl) (by simp) (by simp;omega)
    rw[ea,gy];simp) (d10 n).length (bC _)
   rw[qG (bC _),Lf h0]at lp
   have hap:ji ⟨h.length,h.length,2,none⟩ 1 1 140737488355328 .aP [.int .u8 45] (h++[(0,.dead),(0,.dead)])=some (.ref (h.length+1) 1 1 0 1 1,h++[(0,.dead),(1,.arr 1 [.int .u8 45])]):=by
    have:=wD (lo:=h.length) (ns:=2) (s:=1) (z:=1) (lim:=140737488355328) (h:=h) (fr:=[(0,.dead),(0,.dead)]) (b0:=(0,.dead)) (es:=[]) (xs:=[.int .u8 45]) (by omega) (bC _) rfl (by simp)
    exact this
   have hc0:([45]++nQ []).map AV.byte=[AV.int .u8 45]:=rfl;rw[hc0]at lp;simp only[List.length_singleton]at lp
   have ts:oG (h++[(0,.dead),(1,.arr 1 (([45]++dec n).map AV.byte))]) 1 (.ref (h.length+1) 1 1 0 (([45]++dec n).map AV.byte).length (([45]++dec n).map AV.byte).length)=some (([45]++dec n).map AV.byte) :=
    (Sl.G5 (h:=h) (fr:=[(0,.dead),(1,.arr 1 (([45]++dec n).map AV.byte))]) (s:=1) rfl).GZ
   have hb:=bytesOf_map ([45]++dec n);have e45:[45]++dec n=45::dec n:=rfl;rw[e45]at lp ts hb;rw[if_pos rfl];generalize (45::dec n).map AV.byte=W at*
   simp(maxSteps:=1000000)(disch:=omega)only[go_sem,HV,s1,c0,hap,lp,ts,hb,ce]
  |false =>
   have lp:=adx hs hd hl [] (fun W=>cu (h.length+0) (0,.dead) 1 W) (fun W=>[bX (0,.dead) 1 W,(0,.dead)]) (fun C x hC =>
    wD (lo:=h.length) (ns:=2) (s:=0) (z:=1) (lim:=140737488355328) (h:=h) (fr:=[bX (0,.dead) 1 (([]++C).map AV.byte),(0,.dead)]) (b0:=(0,.dead)) (es:=([]++C).map AV.byte) (xs:=[x]) (by omega) (bC _) rfl (by simp;omega)) (d10 n).length (bC _)
   rw[qG (bC _),Lf h0]at lp;have hc0:([]++nQ []).map AV.byte=[]:=rfl;rw[hc0]at lp;simp only[KM,OJ,List.nil_append]at lp
   have ts:oG (h++[bX (0,.dead) 1 ((dec n).map AV.byte),(0,.dead)]) 1 (cu (h.length+0) (0,.dead) 1 ((dec n).map AV.byte))=some ((dec n).map AV.byte) :=
    (Sl.acc (h:=h) (fr:=[bX (0,.dead) 1 ((dec n).map AV.byte),(0,.dead)]) (s:=0) rfl).GZ
   have hb:=bytesOf_map (dec n);rw[if_neg (by simp)]
   generalize (dec n).map AV.byte=W at*;simp(maxSteps:=1000000)(disch:=omega)only[go_sem,HV,s1,c0,lp,ts,hb,ce]
end Go.VI.Dump
namespace Go.VI.Dump
open Go.VI.Num
theorem anT(a b:Int):(aH a=aH b)=(a=b):=by rw[eq_iff_iff];exact⟨K7,fun e=>by rw[e]⟩
instance (z:Int):Decidable (Fit z):=inferInstanceAs (Decidable (_<_))
end Go.VI.Dump
namespace Go.VI.Dump
open Go.VI.Num
theorem getD_at{l:List Int}{k:Nat}(h:k<l.length):l.getD k 0=l[k]:=by rw[nX,kN h];rfl
theorem anU{v u:AV}{l m:List Int}(hv:cK 1 v (ints l))(hu:cK 1 u (ints m))(hl:l.length=m.length)(hm:m.length<=1000000)(cx:Cx)(H:Heap):∀ k:Nat,k<=l.length ->
  (xI l m k=0/\aQ lib cx (.loop HZ) ([(0,v),(1,u),(5,.int .i64 ((k:Int)-1))],H)=some (.exit 0,([],H))) \/
  aQ lib cx (.loop HZ) ([(0,v),(1,u),(5,.int .i64 ((k:Int)-1))],H)=some (.ret,([(4,.int .i64 (xI l m k))],H)):=by
 intro k
 induction k with
 |zero =>
  intro hk;have c1:¬ (0:Int)<=-1:=by omega
  refine .inl ⟨rfl, ?_⟩;rw[bU]
  simp(maxSteps:=1000000)(disch:=omega)only[go_sem,c1,Int.zero_sub,Int.reduceNeg]
 |succ k ih =>
  intro hk;have c1:(0:Int)<=(k:Int):=by omega
  have e0:(k:Int)+1-1=k:=by omega
  have hkl:k<l.length:=by omega
  have hkm:k<m.length:=by omega
  have a3:iM 1 v (.int .i64 k)=some k:=by rw[kr (hv.sl H) (by omega) (by simp;omega)];simp
  have b3:iM 1 u (.int .i64 k)=some k:=by rw[kr (hu.sl H) (by omega) (by simp;omega)];simp
  have a4:=fun off=>jV (off:=off) (hv.sl H).jW (show k<(ints l).length by simp;omega)
  have b4:=fun off=>jV (off:=off) (hu.sl H).jW (show k<(ints m).length by simp;omega)
  simp only[uo]at a4 b4;have ih':=ih (by omega)
  simp only[xI,getD_at hkl,getD_at hkm];generalize l[k]=x at*;generalize m[k]=y at*;by_cases c:x=y
  ·rw[if_pos c];subst c
   have st:aQ lib cx (.loop HZ) ([(0,v),(1,u),(5,.int .i64 (((k+1:Nat):Int)-1))],H)=aQ lib cx (.loop HZ) ([(0,v),(1,u),(5,.int .i64 ((k:Int)-1))],H):=by
    rw[bU];simp(maxSteps:=1000000)(disch:=omega)only[go_sem,jo,e0,c1,a3,b3,a4,b4,ne_eq,not_true_eq_false]
   rw[st];exact ih'
  ·rw[if_neg c];right;by_cases c2:x<y
   ·rw[if_pos c2,bU];simp(maxSteps:=1000000)(disch:=omega)only[go_sem,jo,e0,c1,a3,b3,a4,b4,c,c2]
   ·rw[if_neg c2,bU];simp(maxSteps:=1000000)(disch:=omega)only[go_sem,jo,e0,c1,a3,b3,a4,b4,c,c2]
theorem LU{v u:AV}{a b:Nat}(hv:cK 1 v (ints (d10 a)))(hu:cK 1 u (ints (d10 b)))(ha:(d10 a).length<=100000)(hb:(d10 b).length<=100000)(h:Heap)(lo:Nat) :
  (run lib).fn 168 [v,u] h lo=some (.int .i64 (eX a b),h):=by
 rw[<-amN];have s1:=iB (hv.sl []).len;have s2:=iB (hu.sl []).len;rw[jY]at s1 s2;unfold cmpL;rw[bW (x:=x168) rfl rfl rfl rfl];by_cases hl:(d10 a).length=(d10 b).length
 ·have c1:((d10 a).length:Int)=(d10 b).length:=by omega
  rw[if_pos hl];rcases anU hv hu hl (by omega) ⟨h.length,h.length,0,none⟩ h (d10 a).length (bC _) with⟨k1,k2⟩|k2
  ·rw[k1];rw[c1]at k2 s1;simp(maxSteps:=1000000)(disch:=omega)only[go_sem,x168,s1,s2,c1,ne_eq,not_true_eq_false,k2]
  ·rw[c1]at k2 s1;simp(maxSteps:=1000000)(disch:=omega)only[go_sem,x168,s1,s2,c1,ne_eq,not_true_eq_false,k2]
 ·have c1:¬ ((d10 a).length:Int)=(d10 b).length:=by omega
  rw[if_neg hl];by_cases c2:(d10 a).length<(d10 b).length
  ·have c3:((d10 a).length:Int)<(d10 b).length:=by omega
   rw[if_pos c2];simp(maxSteps:=1000000)(disch:=omega)only[go_sem,x168,s1,s2,c1,c3]
  ·have c3:¬ ((d10 a).length:Int)<(d10 b).length:=by omega
   rw[if_neg c2];simp(maxSteps:=1000000)(disch:=omega)only[go_sem,x168,s1,s2,c1,c3]
theorem anV{v u:AV}{l m:List Int}(hv:cK 1 v (ints l))(hu:cK 1 u (ints m))(hl:l.length<=100000)(hm:m.length<=100000)(h:Heap):∀(f A B c i:Nat) (acc:List Int),A+B+c<=f->c<=1->l.drop i=d10 A->m.drop i=d10 B->acc.length=i->(c≠0->i<=max l.length m.length) ->
  aQ lib ⟨h.length,h.length,1,none⟩ (.loop Px) ([(0,v),(1,u),(5,cu (h.length+0) (0,.dead) 1 (ints acc)),(6,.int .i64 c),(7,.int .i64 i)],h++[bX (0,.dead) 1 (ints acc)]) =
   some (.exit 0,([(5,cu (h.length+0) (0,.dead) 1 (ints (acc++yU f A B c)))],h++[bX (0,.dead) 1 (ints (acc++yU f A B c))])):=by
 have s1:=iB (hv.sl []).len;have s2:=iB (hu.sl []).len;rw[jY]at s1 s2;intro f
 induction f with
 |zero =>
  intro A B c i acc h1 h2 h3 h4 h5 h6;have a1:¬ (i:Int)<l.length:=by have:=vE h3;omega
  have a2:¬ (i:Int)<m.length:=by have:=vE h4;omega
  have a3:c=0:=by omega
  subst a3;rw[bU];simp only[yU,nI]
  simp(maxSteps:=1000000)(disch:=omega)only[go_sem,s1,s2,a1,a2,nR]
 |succ f ih =>
  intro A B c i acc h1 h2 h3 h4 h5 h6;by_cases hst:A=0/\B=0/\c=0
  ·have a1:¬ (i:Int)<l.length:=by have:=vE h3;omega
   have a2:¬ (i:Int)<m.length:=by have:=vE h4;omega
   have a3:c=0:=hst.2.2;subst a3;rw[bU];simp only[yU,hst,and_self,if_true,nI];simp(maxSteps:=1000000)(disch:=omega)only[go_sem,s1,s2,a1,a2,nR]
  ·have hil:A≠0->i<l.length:=(vE h3).mpr;have him:B≠0->i<m.length:=(vE h4).mpr
   have hi:i<=100000:=by
    by_cases cA:A=0
    ·by_cases cB:B=0
     ·have:=h6 (by omega);omega
     ·have:=him cB;omega
    ·have:=hil cA;omega
   have key:∀(x y:Int),x=((A%10+B%10+c)%10:Nat)->y=((A%10+B%10+c)/10:Nat)->aQ lib ⟨h.length,h.length,1,none⟩ (.loop Px) ([(0,v),(1,u),(5,cu (h.length+0) (0,.dead) 1 (ints acc++[.int .i64 x])),(6,.int .i64 y),(7,.int .i64 ((i:Int)+1))],h++[bX (0,.dead) 1 (ints acc++[.int .i64 x])]) =
     some (.exit 0,([(5,cu (h.length+0) (0,.dead) 1 (ints (acc++yU (f+1) A B c)))],h++[bX (0,.dead) 1 (ints (acc++yU (f+1) A B c))])):=fun x y hx hy=>by
    have k:=ih (A/10) (B/10) ((A%10+B%10+c)/10) (i+1) (acc++[x]) (by omega) (by omega) (Im h3) (Im h4) (by simp[h5]) (fun hc=>by
     by_cases cA:A=0
     ·by_cases cB:B=0
      ·omega
      ·have:=him cB;omega
     ·have:=hil cA;omega)
    have e:acc++yU (f+1) A B c=acc++[x]++yU f (A/10) (B/10) ((A%10+B%10+c)/10):=by simp only[yU,hst,if_false,hx];simp
    rw[e];rw[FE acc [x],FH,jo,<-hy]at k;exact k
   have ea:=fun x:Int=>wD (lo:=h.length) (ns:=1) (s:=0) (z:=1) (lim:=17592186044416) (h:=h) (fr:=[bX (0,.dead) 1 (ints acc)]) (b0:=(0,.dead)) (es:=ints acc) (xs:=[.int .i64 x]) (by omega) (bC _) rfl (by simp;omega)
   simp only[List.set_cons_zero]at ea;rw[bU];by_cases cA:A=0
   ·have a1:¬ (i:Int)<l.length:=by have:=vE h3;omega
    by_cases cB:B=0
    ·have a2:¬ (i:Int)<m.length:=by have:=vE h4;omega
     have a3:(0:Int)<(c:Int):=by omega
     have k:=key ((c:Int)%10) ((c:Int)/10) (by omega) (by omega)
     simp(maxSteps:=1000000)(disch:=omega)only[go_sem,s1,s2,a1,a2,a3,ea,k]
    ·have hi2:=him cB;have a2:(i:Int)<m.length:=by omega
     have e3:iM 1 u (.int .i64 i)=some i:=by rw[kr (hu.sl []) (by omega) (by simp;omega)];simp
     have e4:=fun off H=>jV (off:=off) (hu.sl H).jW (show i<(ints m).length by simp;omega)
     simp only[uo,(Il h4 cB hi2).1]at e4;have k:=key (((c:Int)+((B%10:Nat):Int))%10) (((c:Int)+((B%10:Nat):Int))/10) (by omega) (by omega)
     have hq:B%10<=9:=by omega
     generalize B%10=q at*;simp(maxSteps:=1000000)(disch:=omega)only[go_sem,s1,s2,a1,a2,e3,e4,ea,k]
   ·have hi1:=hil cA;have a1:(i:Int)<l.length:=by omega
    have e3:iM 1 v (.int .i64 i)=some i:=by rw[kr (hv.sl []) (by omega) (by simp;omega)];simp
    have e4:=fun off H=>jV (off:=off) (hv.sl H).jW (show i<(ints l).length by simp;omega)
    simp only[uo,(Il h3 cA hi1).1]at e4;by_cases cB:B=0
    ·have a2:¬ (i:Int)<m.length:=by have:=vE h4;omega
     have k:=key (((c:Int)+((A%10:Nat):Int))%10) (((c:Int)+((A%10:Nat):Int))/10) (by omega) (by omega)
     have hp:A%10<=9:=by omega
     generalize A%10=p at*;simp(maxSteps:=1000000)(disch:=omega)only[go_sem,s1,s2,a1,a2,e3,e4,ea,k]
    ·have hi2:=him cB;have a2:(i:Int)<m.length:=by omega
     have b3:iM 1 u (.int .i64 i)=some i:=by rw[kr (hu.sl []) (by omega) (by simp;omega)];simp
     have b4:=fun off H=>jV (off:=off) (hu.sl H).jW (show i<(ints m).length by simp;omega)
     simp only[uo,(Il h4 cB hi2).1]at b4;have k:=key (((c:Int)+((A%10:Nat):Int)+((B%10:Nat):Int))%10) (((c:Int)+((A%10:Nat):Int)+((B%10:Nat):Int))/10) (by omega) (by omega)
     have hp:A%10<=9:=by omega
     have hq:B%10<=9:=by omega
     generalize A%10=p at*;generalize B%10=q at*;simp(maxSteps:=1000000)(disch:=omega)only[go_sem,s1,s2,a1,a2,e3,e4,b3,b4,ea,k]
theorem ady{v u:AV}{a b:Nat}(hv:cK 1 v (ints (d10 a)))(hu:cK 1 u (ints (d10 b)))(ha:(d10 a).length<=100000)(hb:(d10 b).length<=100000)(h:Heap)(lo:Nat) :
  (run lib).fn 172 [v,u] h lo=some (qF 1 (ints (d10 (a+b))),h):=by
 have lp:=anV hv hu ha hb h (a+b+0) a b 0 0 [] (bC _) (by omega) (List.drop_zero) (List.drop_zero) rfl (fun h=>absurd rfl h)
 rw[acH _ _ _ _ (bC _),show a+b+0=a+b from rfl,List.nil_append]at lp
 have i0:cu (h.length+0) (0,.dead) 1 (ints [])=.aP:=rfl;have j0:bX (0,.dead) 1 (ints [])=(0,.dead):=rfl;rw[i0,j0]at lp;simp only[qX]at lp;have hg:=alc (h:=h) (fr:=[bX (0,.dead) 1 (ints (d10 (a+b)))]) (s:=0) (z:=1) (b0:=(0,.dead)) (es:=ints (d10 (a+b))) rfl;rw[bW (x:=UA) rfl rfl rfl rfl];simp(maxSteps:=1000000)(disch:=omega)only[go_sem,UA,lp,hg,Option.map_some]
theorem VE(l:List Int):cK 1 (kg (qF 1 (ints l))) (ints l):=by
 rw[OL];unfold jC;split
 ·rename_i h;rw[h];exact .inr ⟨0,.inl rfl,.inr rfl⟩
 ·exact Ad l
end Go.VI.Dump
namespace Go.VI.Dump
open Go.VI.Num
theorem anW{v u:AV}{l m:List Int}(hv:cK 1 v (ints l))(hu:cK 1 u (ints m))(hl:l.length<=100000)(hm:m.length<=100000)(h:Heap)(D:Nat×au):∀(f A B c i:Nat) (acc:List Int),A<=f->c<=1->l.drop i=d10 A->m.drop i=d10 B->acc.length=i->i<=l.length ->
  aQ lib ⟨h.length,h.length,2,none⟩ (.loop KY) ([(0,v),(1,u),(5,cu (h.length+1) (0,.dead) 1 (ints acc)),(6,.int .i64 c),(7,.int .i64 i)],h++[D,bX (0,.dead) 1 (ints acc)]) =
   some (.exit 0,([(5,cu (h.length+1) (0,.dead) 1 (ints (acc++pY f A B c)))],h++[D,bX (0,.dead) 1 (ints (acc++pY f A B c))])):=by
 have s1:=iB (hv.sl []).len;have s2:=iB (hu.sl []).len;rw[jY]at s1 s2;intro f
 induction f with
 |zero =>
  intro A B c i acc h1 h2 h3 h4 h5 h6;have a1:¬ (i:Int)<l.length:=by have:=vE h3;omega
  rw[bU];simp only[pY,nI]
  simp(maxSteps:=1000000)(disch:=omega)only[go_sem,s1,a1]
 |succ f ih =>
  intro A B c i acc h1 h2 h3 h4 h5 h6;by_cases cA:A=0
  ·have a1:¬ (i:Int)<l.length:=by have:=vE h3;omega
   rw[bU];simp only[pY,cA,if_true,nI];simp(maxSteps:=1000000)(disch:=omega)only[go_sem,s1,a1]
  ·have hi1:=(vE h3).mpr cA;have him:B≠0->i<m.length:=(vE h4).mpr;have a1:(i:Int)<l.length:=by omega
   have e3:iM 1 v (.int .i64 i)=some i:=by rw[kr (hv.sl []) (by omega) (by simp;omega)];simp
   have e4:=fun off H=>jV (off:=off) (hv.sl H).jW (show i<(ints l).length by simp;omega)
   simp only[uo,(Il h3 cA hi1).1]at e4;have hp:A%10<=9:=by omega
   have hq:B%10<=9:=by omega
   have VF:∀(x:Int),A%10<c+B%10->x=(A%10+10-c-B%10:Nat)->aQ lib ⟨h.length,h.length,2,none⟩ (.loop KY) ([(0,v),(1,u),(5,cu (h.length+1) (0,.dead) 1 (ints acc++[.int .i64 x])),(6,.int .i64 1),(7,.int .i64 ((i:Int)+1))],h++[D,bX (0,.dead) 1 (ints acc++[.int .i64 x])]) =
     some (.exit 0,([(5,cu (h.length+1) (0,.dead) 1 (ints (acc++pY (f+1) A B c)))],h++[D,bX (0,.dead) 1 (ints (acc++pY (f+1) A B c))])):=fun x hc hx=>by
    have k:=ih (A/10) (B/10) 1 (i+1) (acc++[x]) (by omega) (by omega) (Im h3) (Im h4) (by simp[h5]) (by omega)
    have e:acc++pY (f+1) A B c=acc++[x]++pY f (A/10) (B/10) 1:=by simp only[pY,cA,hc,if_false,if_true,hx];simp
    rw[e];rw[FE acc [x],FH,jo]at k;exact k
   have VG:∀(x:Int),¬ A%10<c+B%10->x=(A%10-c-B%10:Nat)->aQ lib ⟨h.length,h.length,2,none⟩ (.loop KY) ([(0,v),(1,u),(5,cu (h.length+1) (0,.dead) 1 (ints acc++[.int .i64 x])),(6,.int .i64 0),(7,.int .i64 ((i:Int)+1))],h++[D,bX (0,.dead) 1 (ints acc++[.int .i64 x])]) =
     some (.exit 0,([(5,cu (h.length+1) (0,.dead) 1 (ints (acc++pY (f+1) A B c)))],h++[D,bX (0,.dead) 1 (ints (acc++pY (f+1) A B c))])):=fun x hc hx=>by
    have k:=ih (A/10) (B/10) 0 (i+1) (acc++[x]) (by omega) (by omega) (Im h3) (Im h4) (by simp[h5]) (by omega)
    have e:acc++pY (f+1) A B c=acc++[x]++pY f (A/10) (B/10) 0:=by simp only[pY,cA,hc,if_false,hx];simp
    rw[e];rw[FE acc [x],FH,jo]at k;exact k
   have ea:=fun x:Int=>wD (lo:=h.length) (ns:=2) (s:=1) (z:=1) (lim:=17592186044416) (h:=h) (fr:=[D,bX (0,.dead) 1 (ints acc)]) (b0:=(0,.dead)) (es:=ints acc) (xs:=[.int .i64 x]) (by omega) (bC _) rfl (by simp;omega)
   simp only[List.set_cons_zero,List.set_cons_succ]at ea;rw[bU];by_cases cB:B=0
   ·have a2:¬ (i:Int)<m.length:=by have:=vE h4;omega
    have b0:B%10=0:=by omega
    rw[b0]at VF VG;generalize A%10=p at*;by_cases cc:p<c+0
    ·have c2:(p:Int)-c<0:=by omega
     have k:=VF ((p:Int)-c+10) cc (by omega)
     simp(maxSteps:=1000000)(disch:=omega)only[go_sem,s1,s2,a1,a2,e3,e4,c2,ea,k]
    ·have c2:¬ (p:Int)-c<0:=by omega
     have k:=VG ((p:Int)-c) cc (by omega)
     simp(maxSteps:=1000000)(disch:=omega)only[go_sem,s1,s2,a1,a2,e3,e4,c2,ea,k]
   ·have hi2:=him cB;have a2:(i:Int)<m.length:=by omega
    have b3:iM 1 u (.int .i64 i)=some i:=by rw[kr (hu.sl []) (by omega) (by simp;omega)];simp
    have b4:=fun off H=>jV (off:=off) (hu.sl H).jW (show i<(ints m).length by simp;omega)
    simp only[uo,(Il h4 cB hi2).1]at b4;generalize A%10=p at*;generalize B%10=q at*;by_cases cc:p<c+q
    ·have c2:(p:Int)-c-q<0:=by omega
     have k:=VF ((p:Int)-c-q+10) cc (by omega)
     simp(maxSteps:=1000000)(disch:=omega)only[go_sem,s1,s2,a1,a2,e3,e4,b3,b4,c2,ea,k]
    ·have c2:¬ (p:Int)-c-q<0:=by omega
     have k:=VG ((p:Int)-c-q) cc (by omega)
     simp(maxSteps:=1000000)(disch:=omega)only[go_sem,s1,s2,a1,a2,e3,e4,b3,b4,c2,ea,k]
def Br(l:List Int):AV:=if (iF l).length=l.length then .own 1 (ints (iF l))else .aW 1 (ints (iF l))
theorem VH(l:List Int):kg (Br l)=.aW 1 (ints (iF l)):=by unfold Br;split<;>rfl
theorem anX(l:List Int):weak (Br l)=.aW 1 (ints (iF l)):=by unfold Br;split<;>rfl
theorem anY(l:List Int):l.take (iF l).length=iF l:=by
 unfold iF;rw[qi,zG (H8 _ _)]
theorem anZ(l:List Int):(iF l).length<=l.length:=by simp[iF];omega
theorem adz{h fr:Heap}{s ai:Nat}{l:List Int}(hf:fr[s]?=some (ai,.arr 1 (ints l))) :
  give h.length (.ref (h.length+s) ai 1 0 (iF l).length l.length) (h++fr)=some (Br l,h++fr.set s (ai,.dead)):=by
 have hg:(h++fr)[h.length+s]?=some (ai,.arr 1 (ints l)):=by rw[cO];exact hf
 have ht:=anZ l
 have ha:iV (h++fr) (.ref (h.length+s) ai 1 0 (iF l).length l.length)=some (ints (iF l)):=by
  have e:(ints l).take (iF l).length=ints (iF l):=by simp only[ints,<-List.map_take,anY]
  simp[iV,hg,ht,e]
 unfold Br;by_cases c:(iF l).length=l.length
 ·rw[if_pos c];rw[c]at ha⊢;simp only[give,ha];simp[gy]
 ·rw[if_neg c];simp only[give];rw[if_neg (by omega)]
  simp[bL,ha,gy]
theorem an0{h fr:Heap}{s ai:Nat}{l:List Int}(hf:fr[s]?=some (ai,.arr 1 (ints l))) :
  jf h.length (.ref (h.length+s) ai 1 0 (iF l).length l.length) (h++fr)=some (Br l):=by
 have:=adz (h:=h) hf;simp only[jf];rw[this];rfl
theorem adA{h fr:Heap}{s:Nat}{l:List Int}(hl:l.length<=1000000)(hf:fr[s]?=some (1,.arr 1 (ints l)))(lo:Nat):(run lib).fn 194 [.ref (h.length+s) 1 1 0 l.length l.length] (h++fr) lo=some (.ref (h.length+s) 1 1 0 (iF l).length l.length,h++fr) :=
 anP hl _ (h.length+s) (by rw[cO];exact hf) l.length rfl lo
theorem QA{v u:AV}{a b:Nat}(hv:cK 1 v (ints (d10 a)))(hu:cK 1 u (ints (d10 b)))(hab:b<=a)(ha:(d10 a).length<=100000)(hb:(d10 b).length<=100000) :
  ∃ X:AV,cK 1 (kg X) (ints (d10 (a-b)))/\weak X=kg X/\∀(h:Heap) (lo:Nat),(run lib).fn 173 [v,u] h lo=some (X,h):=by
 obtain⟨k1,k2⟩:=U8 a a b 0 (bC _) (by omega) (by omega)
 have htr:=U6 k2;rw[k1,wK,Nat.sub_zero]at htr;have hml:=U9 a a b 0;have lp:=fun h D=>anW hv hu ha hb h D a a b 0 0 [] (bC _) (by omega) (List.drop_zero) (List.drop_zero) rfl (vM _)
 simp only[List.nil_append,qX]at lp;have i0:∀ h:Heap,cu (h.length+1) (0,.dead) 1 (ints [])=.aP:=fun _=>rfl;have j0:bX (0,.dead) 1 (ints [])=(0,.dead):=rfl;simp only[i0,j0]at lp;generalize pY a a b 0=M at*;by_cases hM:M=[]
 ·subst hM;refine⟨.aW 0 [], ?_,rfl,fun h lo=>?_⟩
  ·rw[<-htr];exact .inr ⟨0,.inl rfl,.inr rfl⟩
  ·have wk:weak (.own 0 [])=.aW 0 []:=rfl;have qo:=lp h (0,.dead);rw[i0,j0]at qo;rw[bW (x:=KZ) rfl rfl rfl rfl];simp(maxSteps:=1000000)(disch:=omega)only[go_sem,KZ,qo,anQ,wk]
 ·have adB:ints M≠[]:=by intro e;exact hM (by simpa[ints]using e)
  refine⟨Br M,by rw[VH,htr];exact Ad _,by rw[anX,VH],fun h lo=>?_⟩
  have qo:=lp h (0,.dead);simp only[G7 adB,G8 adB,jY]at qo;have tr:=fun lo=>adA (h:=h) (fr:=[(0,.dead),(0+1,.arr 1 (ints M))]) (s:=1) (l:=M) (by omega) rfl lo
  have gv:=an0 (h:=h) (fr:=[(0,.dead),(0+1,.arr 1 (ints M))]) (s:=1) (ai:=1) (l:=M) rfl;rw[bW (x:=KZ) rfl rfl rfl rfl];simp(maxSteps:=1000000)(disch:=omega)only[go_sem,KZ,qo,tr,gv,Option.map_some]
end Go.VI.Dump
namespace Go.VI.Num
def Aj(l:List UInt8):Bool:=l.all fun c=>decide (48<=c.toNat)&&decide (c.toNat<=57)
theorem an1{l:List UInt8}:Aj l=true↔ug l:=by
 unfold Aj ug zT;simp
theorem an2(l:List UInt8):(Lib.trimS l ds).isEmpty=Aj l:=by
 rw[Bool.eq_iff_iff,an1,yA,UN]
end Go.VI.Num
namespace Go.VI.Dump
open Go.VI.Num
theorem an3{d:List UInt8}(hl:d.length<=9223372036854775807)(cx:Cx)(H:Heap):∀(k i:Nat),d.length-i<=k->i<=d.length ->
  aQ lib cx (.loop Ui) ([(0,.str d),(3,.int .i64 i)],H)=if Aj (d.drop i)=true then some (.exit 0,([(0,.str d)],H))else some (.ret,([(2,.bool false)],H)):=by
 intro k
 induction k with
 |zero =>
  intro i h1 h2;obtain rfl:i=d.length:=by omega
  rw[qG (bC _),if_pos (show Aj []=true from rfl),bU]
  simp(maxSteps:=1000000)(disch:=omega)only[go_sem,nR]
 |succ k ih =>
  intro i h1 h2;rcases Nat.lt_or_eq_of_le h2 with c|rfl
  ·have c1:(i:Int)<d.length:=by omega
   have hx:=acY (k:=.i64) c;have ih':=ih (i+1) (by omega) (by omega)
   rw[jo]at ih'
   have e:Aj (d.drop i)=((decide (48<=d[i].toNat)&&decide (d[i].toNat<=57))&&Aj (d.drop (i+1))):=by
    rw[qH c];rfl
   rw[e];generalize d[i].toNat=x at*;by_cases g1:48<=x
   ·have n1:¬ (x:Int)<48:=by omega
    rw[decide_eq_true g1];by_cases g2:x<=57
    ·have n2:¬ (57:Int)<x:=by omega
     rw[decide_eq_true g2,bU];simp(maxSteps:=1000000)(disch:=omega)only[go_sem,c1,hx,n1,n2,ih']
    ·have n2:(57:Int)<x:=by omega
     rw[decide_eq_false g2,bU];simp(maxSteps:=1000000)(disch:=omega)only[go_sem,c1,hx,n1,n2]
   ·have n1:(x:Int)<48:=by omega
    rw[decide_eq_false g1,bU];simp(maxSteps:=1000000)(disch:=omega)only[go_sem,c1,hx,n1]
  ·rw[qG (bC _),if_pos (show Aj []=true from rfl),bU]
   simp(maxSteps:=1000000)(disch:=omega)only[go_sem,nR]
theorem Bt{s:List UInt8}(hs:s.length<=9223372036854775807)(h:Heap)(lo:Nat):(run lib).fn 138 [.str s] h lo=some (.bool (xJ s),h):=by
 have lp:=fun(d:List UInt8) (hd:d.length<=9223372036854775807)=>an3 hd ⟨h.length,h.length,0,none⟩ h d.length 0 (by omega) (vM _)
 simp only[List.drop_zero,qX]at lp;unfold xJ;rw[an2]
 cases s with
 |nil =>
  have e:body []=[]:=rfl;have qo:=lp [] (by simp)
  have e2:Aj []=true:=rfl;rw[e2,if_pos rfl]at qo;rw[e,bW (x:=wG) rfl rfl rfl rfl]
  simp(maxSteps:=1000000)(disch:=omega)only[go_sem,wG,nR,qo,List.isEmpty_nil]
 |cons c r =>
  have hx:=fun H=>Lv (k:=.i64) c r H;have p1:(0:Int)<(r.length:Int)+1:=by omega
  simp only[List.length_cons]at hs;by_cases hc:c=45
  ·subst hc;rw[P6];have e45:((45:UInt8).toNat:Int)=45:=rfl
   have sl:pQ none (.str (45::r)) (some (.int .i64 1)) none=some (.str r):=by
    have:=Vl (k:=.i64) (l:=45::r) (i:=1) (by simp)
    exact this
   have hne:((45::r)==[48])=false:=rfl;rw[hne,Bool.false_or];have qo:=lp r (by omega)
   rw[bW (x:=wG) rfl rfl rfl rfl];by_cases h0:r=[48]
   ·subst h0;simp(maxSteps:=1000000)(disch:=omega)only[go_sem,wG,jo,p1,hx,e45,sl];rfl
   ·cases hA:Aj r with
    |false =>
     rw[hA,if_neg (by simp)]at qo
     simp(maxSteps:=1000000)(disch:=omega)only[go_sem,wG,jo,p1,hx,e45,sl,h0,qo]
    |true =>
     rw[hA,if_pos rfl]at qo
     cases r with
     |nil =>
      simp(maxSteps:=1000000)(disch:=omega)only[go_sem,wG,jo,p1,hx,e45,sl,h0,qo,nR,List.isEmpty_nil]
     |cons a b =>
      have hx2:=fun H=>Lv (k:=.i64) a b H;have p2:(0:Int)<(b.length:Int)+1:=by omega
      have p3:(0:Int)<(b.length:Int)+1+1:=by omega
      have e3:((a::b).head?==some 48)=decide (a=48):=by rw[CO];simp
      have e4:decide (((a.toNat:Nat):Int)=48)=decide (a=48):=by
       rw[decide_eq_decide,<-UInt8.toNat_inj];have:(48:UInt8).toNat=48:=rfl;omega
      have ie:(a::b).isEmpty=false:=rfl;have dl:decide ((b.length:Int)+1<=200)=decide (b.length+1<=200):=by rw[decide_eq_decide];omega
      rw[e3,ie];by_cases g:b.length+1<=200
      ·have g1:(b.length:Int)+1<=200:=by omega
       simp(maxSteps:=1000000)(disch:=omega)only[go_sem,wG,jo,p1,hx,e45,sl,h0,qo,p2,p3,hx2,g1,g];simp[<-e4]
      ·have g1:¬ (b.length:Int)+1<=200:=by omega
       simp(maxSteps:=1000000)(disch:=omega)only[go_sem,wG,jo,p1,hx,e45,sl,h0,qo,p2,p3,hx2,g1,g]
  ·have hb:body (c::r)=c::r:=UO (by simpa using hc)
   have e45:¬ ((c.toNat:Nat):Int)=45:=by
    intro e;apply hc;rw[<-UInt8.toNat_inj];have:(45:UInt8).toNat=45:=rfl;omega
   have qo:=lp (c::r) (by simpa using hs)
   have hsx:((c::r)==[48])=decide (c::r=[48]):=CO _ _;rw[hb,hsx,bW (x:=wG) rfl rfl rfl rfl]
   cases hA:Aj (c::r) with
   |false =>
    rw[hA,if_neg (by simp)]at qo
    simp(maxSteps:=1000000)(disch:=omega)only[go_sem,wG,jo,p1,hx,e45,qo]
   |true =>
    rw[hA,if_pos rfl]at qo;have e3:((c::r).head?==some 48)=decide (c=48):=by rw[CO];simp
    have e4:decide (((c.toNat:Nat):Int)=48)=decide (c=48):=by
     rw[decide_eq_decide,<-UInt8.toNat_inj];have:(48:UInt8).toNat=48:=rfl;omega
    have ie:(c::r).isEmpty=false:=rfl;rw[e3,ie];by_cases g:r.length+1<=200
    ·have g1:(r.length:Int)+1<=200:=by omega
     by_cases h0:c::r=[48]
     ·obtain⟨rfl,rfl⟩:=List.cons.inj h0;have lz:¬ (200:Int)<0:=by omega
      simp(maxSteps:=1000000)(disch:=omega)only[go_sem,wG,jo,p1,hx,e45,qo,Int.zero_add]
     ·simp(maxSteps:=1000000)(disch:=omega)only[go_sem,wG,jo,p1,hx,e45,qo,g1,g,h0];simp[<-e4]
    ·have g1:¬ (r.length:Int)+1<=200:=by omega
     simp(maxSteps:=1000000)(disch:=omega)only[go_sem,wG,jo,p1,hx,e45,qo,g1,g]
end Go.VI.Dump
namespace Go.VI.Num
theorem an4(l:List Int):(nQ l).length=l.length:=by simp[nQ]
theorem an5{l:List Int}{i:Nat}(hi:i<(nQ l).length)(hj:l.length-1-i<l.length):(nQ l)[i]=UInt8.ofNat (48+l[l.length-1-i].toNat):=by
 simp only[nQ,List.getElem_map,List.getElem_reverse]
end Go.VI.Num
namespace Go.VI.Dump
open Go.VI.Num
theorem an6{l:List Int}(hd:Dg l)(hl:l.length<=1000)(b:Bool)(hne:¬ nQ l=[48])(h:Heap):∀ k:Nat,k<=l.length ->
  aQ lib ⟨h.length,h.length,1,none⟩ (.loop Pg) ([(0,.str (nQ l)),(4,.bool b),(5,cu (h.length+0) (0,.dead) 1 (ints (l.take (l.length-k)))),(6,.int .i64 ((k:Int)-1))],h++[bX (0,.dead) 1 (ints (l.take (l.length-k)))]) =
   some (.exit 0,([(4,.bool b),(5,cu (h.length+0) (0,.dead) 1 (ints l))],h++[bX (0,.dead) 1 (ints l)])):=by
 intro k
 induction k with
 |zero =>
  intro hk;have c1:¬ (0:Int)<=-1:=by omega
  rw[Nat.sub_zero,qj,bU]
  simp(maxSteps:=1000000)(disch:=omega)only[go_sem,c1,Int.zero_sub,Int.reduceNeg]
 |succ k ih =>
  intro hk;have c1:(0:Int)<=(k:Int):=by omega
  have e0:(k:Int)+1-1=k:=by omega
  have hkc:k<(nQ l).length:=by rw[an4];omega
  have hj:l.length-1-k<l.length:=by omega
  have hx:=acY (k:=.i64) hkc;have ih':=ih (by omega)
  have hdj:=hd l[l.length-1-k] (l9 hj);have e1:l.length-k=(l.length-(k+1))+1:=by omega
  have e2:l.take (l.length-k)=l.take (l.length-(k+1))++[l[l.length-1-k]]:=by
   rw[e1,zR (by omega)]
   congr 2;have:l.length-(k+1)=l.length-1-k:=by omega
   simp only[this]
  rw[e2,FE,FH]at ih'
  have hv:((nQ l)[k].toNat:Int)=48+l[l.length-1-k]:=by
   rw[an5 hkc hj,UInt8.toNat_ofNat'];omega
  simp only[hv]at hx;have hal:(ints (l.take (l.length-(k+1)))).length<=1000:=by simp;omega
  generalize ints (l.take (l.length-(k+1)))=W at*;generalize l[l.length-1-k]=x at*;have ea:=fun y:AV=>wD (lo:=h.length) (ns:=1) (s:=0) (z:=1) (lim:=17592186044416) (h:=h) (fr:=[bX (0,.dead) 1 W]) (b0:=(0,.dead)) (es:=W) (xs:=[y]) (by omega) (bC _) rfl (by simp;omega)
  simp only[List.set_cons_zero]at ea;have e3:48+x-48=x:=by omega
  generalize nQ l=S at*;rw[bU];simp(maxSteps:=1000000)(disch:=omega)only[go_sem,jo,e0,c1,hne,hx,e3,ea,ih']
theorem Eg{z:Int}(hz:Fit z)(h:Heap)(lo:Nat):(run lib).fn 167 [.str (aH z)] h lo=some (.tuple [.bool (decide (z<0)),qF 1 (ints (d10 z.natAbs))],h):=by
 have hl:=(Cz (n:=z.natAbs) (k:=200) (by omega)).mpr hz
 -- what the loop does behind the sign
 have lp:aQ lib ⟨h.length,h.length,1,none⟩ (.loop Pg) ([(0,.str (dec z.natAbs)),(4,.bool (decide (z<0))),(5,.aP),(6,.int .i64 (((dec z.natAbs).length:Int)-1))],h++[(0,.dead)]) =
   some (.exit 0,([(4,.bool (decide (z<0))),(5,cu (h.length+0) (0,.dead) 1 (ints (d10 z.natAbs)))],h++[bX (0,.dead) 1 (ints (d10 z.natAbs))])):=by
  by_cases h0:z.natAbs=0
  ·rw[h0];have e1:dec 0=[48]:=rfl;have i0:cu (h.length+0) (0,.dead) 1 (ints (d10 0))=.aP:=rfl;have j0:bX (0,.dead) 1 (ints (d10 0))=(0,.dead):=rfl;have e10:(([48]:List UInt8).length:Int)-1=0:=rfl;rw[e1,i0,j0,e10,bU];simp(maxSteps:=1000000)(disch:=omega)only[go_sem]
  ·have hne:¬ nQ (d10 z.natAbs)=[48]:=by
    rw[Lf h0];intro e;have:=Ib z.natAbs;rw[e]at this;exact h0 (by rw[<-this];rfl)
   have lp:=an6 (Bn z.natAbs) (by rw[Qh h0];omega) (decide (z<0)) hne h (d10 z.natAbs).length (bC _)
   rw[Nat.sub_self,List.take_zero,Lf h0,Qh h0]at lp;exact lp
 have hg:give h.length (cu (h.length+0) (0,.dead) 1 (ints (d10 z.natAbs))) (h++[bX (0,.dead) 1 (ints (d10 z.natAbs))])=some (qF 1 (ints (d10 z.natAbs)),h++[KL (0,.dead) (ints (d10 z.natAbs))]) :=
  Fh (h:=h) (fr:=[bX (0,.dead) 1 (ints (d10 z.natAbs))]) (s:=0) (z:=1) (b0:=(0,.dead)) rfl
 obtain⟨c,r,hd⟩:=Fy (Cy z.natAbs);rw[bW (x:=x167) rfl rfl rfl rfl];by_cases c0:z<0
 ·have e:aH z=45::dec z.natAbs:=if_pos c0;rw[decide_eq_true c0]at lp⊢;have hx:=fun H=>Lv (k:=.i64) 45 (dec z.natAbs) H;have e45:((45:UInt8).toNat:Int)=45:=rfl;have sl:pQ none (.str (45::dec z.natAbs)) (some (.int .i64 1)) none=some (.str (dec z.natAbs)):=Vl (k:=.i64) (l:=45::dec z.natAbs) (i:=1) (by simp)
  rw[e];simp(maxSteps:=1000000)(disch:=omega)only[go_sem,x167,hx,e45,sl,lp,hg,jf,rA]
 ·have e:aH z=dec z.natAbs:=if_neg c0;rw[decide_eq_false c0]at lp⊢;have hh:=UQ z.natAbs;rw[e];rw[hd]at lp hh⊢;have hx:=fun H=>Lv (k:=.i64) c r H
  have e45:¬ ((c.toNat:Nat):Int)=45:=by
   intro e;apply hh
   have:c=45:=by
    rw[<-UInt8.toNat_inj];have:(45:UInt8).toNat=45:=rfl;omega
   rw[this];rfl
  simp only[List.length_cons,jo]at lp;have hrl:r.length<=200:=by rw[hd]at hl;simp at hl;omega
  simp(maxSteps:=1000000)(disch:=omega)only[go_sem,x167,jo,hx,e45,lp,hg,jf,rA]
theorem adC{n:Nat}:(d10 n).length<=200↔n<10^200:=by
 by_cases h0:n=0
 ·subst h0;constructor
  ·intro _;exact Nat.pos_of_ne_zero (by simp)
  ·intro _;rw[DV];simp
 ·rw[Qh h0];exact Cz (by omega)
theorem QB{n k:Nat}(h:n<10^k):(d10 n).length<=k:=by
 by_cases h0:n=0
 ·subst h0;rw[DV];simp
 ·rw[Qh h0];refine(Cz ?_).mpr h;rcases vg k with hk|hk
  ·subst hk;simp at h;omega
  ·exact hk
theorem LY{v:AV}{n:Nat}(neg:Bool)(hv:cK 1 v (ints (d10 n)))(hl:(d10 n).length<=100000)(h:Heap)(lo:Nat):(run lib).fn 171 [.bool neg,v] h lo=some (outT (lm neg n),h):=by
 have tx:=fun H lo=>VD (h:=H) neg (hv.sl H) hl lo;unfold outT;rw[Vo,bW (x:=Pt) rfl rfl rfl rfl];by_cases c:n<10^200
 ·have c1:=adC.mpr c;rw[if_pos c];rw[decide_eq_true c1]at tx;simp(maxSteps:=1000000)(disch:=omega)only[go_sem,Pt,tx]
 ·have c1:¬ (d10 n).length<=200:=fun h=>c (adC.mp h);rw[if_neg c];rw[decide_eq_false c1]at tx;simp(maxSteps:=1000000)(disch:=omega)only[go_sem,Pt,tx]
theorem an7{v u:AV}{n m:Nat}(a b:Bool)(hv:cK 1 v (ints (d10 n)))(hu:cK 1 u (ints (d10 m)))(hn:(d10 n).length<=10000)(hm:(d10 m).length<=10000)(h:Heap)(lo:Nat) :
  (run lib).fn 169 [.bool a,v,.bool b,u] h lo=some (outT (lm a n+lm b m),h):=by
 have pv:=Vp a n b m;have pl:=fun H lo=>ady hv hu (by omega) (by omega) H lo
 have ord:=fun H lo=>LU hv hu (by omega) (by omega) H lo
 have ge:=Qs (n:Int) (m:Int);generalize eX (n:Int) (m:Int)=q at*;have eb:(a==b)=decide (a=b):=CO a b;rw[<-pv];unfold Ag
 have hnm:∀ k,k<=n+m->(d10 k).length<=100000:=fun k hk=>by
  obtain⟨L,hL⟩:∃ L,L=max (d10 n).length (d10 m).length:=⟨_,rfl⟩
  have lt:∀ j:Nat,j<10^(d10 j).length:=fun j=>by
   have:=Ig (Bn j);rw[Bl]at this;have e:((10^(d10 j).length:Nat):Int)=(10:Int)^(d10 j).length:=by rw[Int.natCast_pow];rfl
   rw[<-e]at this;exact Int.ofNat_lt.mp this
  have h1:n<10^L:=uF (lt n) (yP (by omega) (by omega))
  have h2:m<10^L:=uF (lt m) (yP (by omega) (by omega))
  have h3:k<10^(L+1):=by
   rw[yJ];generalize 10^L=X at*;omega
  have:=QB h3;omega
 rw[bW (x:=KX) rfl rfl rfl rfl];by_cases c:a=b
 ·rw[decide_eq_true c]at eb;rw[if_pos c];have hp:=VE (d10 (n+m));rw[OL]at hp;have ck:=fun H lo=>LY a hp (hnm _ (bC _)) H lo;rw[Ah]at ck⊢;simp(maxSteps:=1000000)(disch:=omega)only[go_sem,KX,eb,pl,ck]
 ·rw[decide_eq_false c]at eb;rw[if_neg c];by_cases c2:m<=n
  ·obtain⟨X,x1,x2,x3⟩:=QA hv hu c2 (by omega) (by omega)
   have c3:(0:Int)<=q:=by omega
   have ck:=fun H lo=>LY a x1 (hnm _ (by omega)) H lo
   rw[if_pos c2];rw[Ah]at ck⊢;simp(maxSteps:=1000000)(disch:=omega)only[go_sem,KX,eb,ord,c3,x3,x2,ck]
  ·obtain⟨X,x1,x2,x3⟩:=QA hu hv (by omega) (by omega) (by omega)
   have c3:¬ (0:Int)<=q:=by omega
   have ck:=fun H lo=>LY b x1 (hnm _ (by omega)) H lo
   rw[if_neg c2];rw[Ah]at ck⊢;simp(maxSteps:=1000000)(disch:=omega)only[go_sem,KX,eb,ord,c3,x3,x2,ck]
theorem Bu{z:Int}(h:Fit z):(d10 z.natAbs).length<=200:=QB h
theorem Ak(z:Int):cK 1 (jC 1 (ints (d10 z.natAbs))) (ints (d10 z.natAbs)):=by
 have:=VE (d10 z.natAbs)
 rwa [OL]at this
theorem Bv{z:Int}(h:Fit z):(aH z).length<=9223372036854775807:=by have:=anq h;omega
theorem adD{x y:Int}(hx:Fit x)(hy:Fit y)(h:Heap)(lo:Nat):(run lib).fn 140 [.str (aH x),.str (aH y)] h lo=some (outT (x-y),h):=by
 have v1:=fun H lo=>Bt (Bv hx) H lo;have v2:=fun H lo=>Bt (Bv hy) H lo;rw[uT hx]at v1;rw[uT hy]at v2;have d1:=fun H lo=>Eg hx H lo;have d2:=fun H lo=>Eg hy H lo;have fx:=Bu hx;have fy:=Bu hy;have sm:=fun H lo=>an7 (decide (x<0)) (!decide (y<0)) (Ak x) (Ak y) (by omega) (by omega) H lo
 have hneg:lm (!decide (y<0)) y.natAbs=-y:=by
  unfold lm;by_cases c:y<0
  ·rw[decide_eq_true c,Bool.not_true,if_neg (by simp)];omega
  ·rw[decide_eq_false c,Bool.not_false,if_pos rfl];omega
 rw[LD,hneg,<-Int.sub_eq_add_neg,Ah]at sm;rw[Ah,bW (x:=Uj) rfl rfl rfl rfl];simp(maxSteps:=1000000)(disch:=omega)only[go_sem,Uj,v1,v2,d1,d2,sm]
theorem an8{x y:Int}(hx:Fit x)(hy:Fit y)(h:Heap)(lo:Nat):(run lib).fn 139 [.str (aH x),.str (aH y)] h lo=some (.int .i64 (eX x y),h):=by
 have v1:=fun H lo=>Bt (Bv hx) H lo;have v2:=fun H lo=>Bt (Bv hy) H lo;rw[uT hx]at v1;rw[uT hy]at v2;have d1:=fun H lo=>Eg hx H lo;have d2:=fun H lo=>Eg hy H lo;have fx:=Bu hx;have fy:=Bu hy;have cm:=fun H lo=>LU (Ak x) (Ak y) (by omega) (by omega) H lo
 have cn:=fun H lo=>LU (Ak y) (Ak x) (by omega) (by omega) H lo
 have tf:(true==false)=false:=rfl;have ft:(false==true)=false:=rfl;rw[bW (x:=Hz) rfl rfl rfl rfl];by_cases c1:x<0
 ·rw[decide_eq_true c1]at d1;by_cases c2:y<0
  ·rw[decide_eq_true c2]at d2
   have e:eX (y.natAbs:Int) (x.natAbs:Int)=eX x y:=by
    unfold eX;have e1:(y.natAbs:Int)=-y:=by omega
    have e2:(x.natAbs:Int)=-x:=by omega
    rw[e1,e2];simp only[show (-y < -x)=(x<y) by simp,show (-y=-x)=(x=y) by rw[eq_iff_iff];omega]
   rw[e]at cn;simp(maxSteps:=1000000)(disch:=omega)only[go_sem,Hz,v1,v2,d1,d2,cn,beq_self_eq_true]
  ·rw[decide_eq_false c2]at d2;have e:eX x y=-1:=if_pos (by omega)
   rw[e];simp(maxSteps:=1000000)(disch:=omega)only[go_sem,Hz,v1,v2,d1,d2,tf]
 ·rw[decide_eq_false c1]at d1;by_cases c2:y<0
  ·rw[decide_eq_true c2]at d2;have e:eX x y=1:=by unfold eX;rw[if_neg (by omega),if_neg (by omega)]
   rw[e];simp(maxSteps:=1000000)(disch:=omega)only[go_sem,Hz,v1,v2,d1,d2,ft]
  ·rw[decide_eq_false c2]at d2;have e1:(y.natAbs:Int)=y:=by omega
   have e2:(x.natAbs:Int)=x:=by omega
   rw[e1,e2]at cm;simp(maxSteps:=1000000)(disch:=omega)only[go_sem,Hz,v1,v2,d1,d2,cm,beq_self_eq_true]
end Go.VI.Dump
namespace Go.VI.Dump
open Go.VI.Num
theorem an9(j:Nat):j<10^(d10 j).length:=by
 have:=Ig (Bn j);rw[Bl]at this;have e:((10^(d10 j).length:Nat):Int)=(10:Int)^(d10 j).length:=by rw[Int.natCast_pow];rfl
 rw[<-e]at this;exact Int.ofNat_lt.mp this
end Go.VI.Dump
namespace Go.VI.Dump
open Go.VI.Num
theorem an'{l:List Int}(hl:l.length<=1000000)(h:Heap)(lo:Nat):(run lib).fn 194 [.aW 1 (ints l)] h lo=some (.aW 1 (ints (iF l)),h):=by
 have lp:∀(cx:Cx) (H:Heap) (k:Nat),k<=l.length->aQ lib cx (.loop DK) ([(0,.aW 1 (ints (l.take k)))],H)=some (.exit 0,([(0,.aW 1 (ints (l.take (pG l k))))],H)):=by
  intro cx H k
  induction k with
  |zero =>
   intro hk;rw[bU];have s3:oH false (.aW 1 (ints []))=some (.int .i64 0):=rfl;simp only[List.take_zero,pG]
   simp(maxSteps:=1000000)(disch:=omega)only[go_sem,s3,nR]
  |succ k ih =>
   intro hk;have hs:=Sl.aW H 1 (ints (l.take (k+1)));have s3:=iB hs.len;rw[jY,qi,zG hk,jo]at s3;have hlen:(ints (l.take (k+1))).length=k+1:=by simp;omega
   have c1:(0:Int)<(k:Int)+1:=by omega
   have e0:(k:Int)+1-1=k:=by omega
   have e3:iM 1 (.aW 1 (ints (l.take (k+1)))) (.int .i64 k)=some k:=by rw[kr hs (by omega) (by rw[hlen];omega)];simp
   have e4:=fun off=>jV (off:=off) hs.jW (show k<(ints (l.take (k+1))).length by rw[hlen];omega)
   simp only[uo,List.getElem_take]at e4;have hg:l.getD k 0=l[k]:=by rw[nX,kN (by omega)];rfl
   have hsl:pQ (some 1) (.aW 1 (ints (l.take (k+1)))) none (some (.int .i64 k))=some (.aW 1 (ints (l.take k))):=by
    have hb:bnd (some (.int .i64 k)) (k+1) (k+1)=some k:=by rw[Hg (by omega) (by omega)];simp
    simp only[pQ,jd,beq_self_eq_true,Bool.true_or,if_true,hlen,hb,Option.bind_some];simp[bnd,ints,List.take_take]
   have ih':=ih (by omega)
   simp only[pG,hg];rw[bU];by_cases c2:l[k]=0
   ·rw[if_pos c2];simp(maxSteps:=1000000)(disch:=omega)only[go_sem,s3,c1,e0,e3,e4,c2,hsl,ih']
   ·rw[if_neg c2];simp(maxSteps:=1000000)(disch:=omega)only[go_sem,s3,c1,e0,e3,e4,c2]
 have e:=fun cx H=>lp cx H l.length (bC _);simp only[qj]at e;rw[bW (x:=zQ) rfl rfl rfl rfl];unfold iF;simp(maxSteps:=1000000)(disch:=omega)only[go_sem,zQ,e]
theorem aoa(d:Nat)(hd:d<=9):∃ X:AV,cK 1 X (ints (d10 d))/\weak X=X/\∀ h lo,(run lib).fn 194 [.bF 1 [.int .i64 d]] h lo=some (X,h):=by
 have s1:oH false (.bF 1 [.int .i64 d])=some (.int .i64 1):=rfl;have e3:iM 1 (.bF 1 [.int .i64 d]) (.int .i64 0)=some 0:=rfl;have e4:∀ off H,ig H (.gu (.bF 1 [.int .i64 d]) 0 off)=some ([AV.int .i64 d].drop off):=fun off H=>rfl;by_cases h0:d=0
 ·subst h0;have hs:pQ (some 1) (.bF 1 [.int .i64 ((0:Nat):Int)]) none (some (.int .i64 0))=some (.aW 1 []):=rfl;refine⟨.aW 1 [],.inr ⟨1,.inl rfl,.inl rfl⟩,rfl,fun h lo=>?_⟩;have s3:oH false (.aW 1 [])=some (.int .i64 0):=rfl;have ez:((0:Nat):Int)=0:=rfl;rw[ez]at s1 e3 e4 hs⊢
  have t:aQ lib ⟨h.length,h.length,0,none⟩ (.loop DK) ([(0,.aW 1 [])],h)=some (.exit 0,([(0,.aW 1 [])],h)):=by
   rw[bU];simp(maxSteps:=1000000)(disch:=omega)only[go_sem,s3,nR]
  have w:aQ lib ⟨h.length,h.length,0,none⟩ (.loop DK) ([(0,.bF 1 [.int .i64 0])],h)=some (.exit 0,([(0,.aW 1 [])],h)):=by
   rw[bU];simp(maxSteps:=1000000)(disch:=omega)only[go_sem,s1,e3,e4,hs,t]
  rw[bW (x:=zQ) rfl rfl rfl rfl];simp(maxSteps:=1000000)(disch:=omega)only[go_sem,zQ,w]
 ·have hg:d10 d=[(d:Int)]:=by
   rw[xL h0,Nat.mod_eq_of_lt (by omega),show d/10=0 by omega];rfl
  have c:¬ (d:Int)=0:=by omega
  refine⟨.bF 1 [.int .i64 d],by rw[hg];exact .inr ⟨1,.inr rfl,.inl rfl⟩,rfl,fun h lo=>?_⟩
  have w:aQ lib ⟨h.length,h.length,0,none⟩ (.loop DK) ([(0,.bF 1 [.int .i64 d])],h)=some (.exit 0,([(0,.bF 1 [.int .i64 d])],h)):=by
   rw[bU];simp(maxSteps:=1000000)(disch:=omega)only[go_sem,s1,e3,e4,c]
  rw[bW (x:=zQ) rfl rfl rfl rfl];have hg2:jf h.length (.bF 1 [.int .i64 d]) h=some (.bF 1 [.int .i64 d]):=rfl;simp(maxSteps:=1000000)(disch:=omega)only[go_sem,zQ,w,hg2,Option.map_some]
theorem aob{n:Nat}(h:n≠0)(d:Nat)(hd:d<=9):((d:Nat):Int)::d10 n=d10 (d+10*n):=by
 rw[xL (n:=d+10*n) (by omega)]
 have e1:(d+10*n)%10=d:=by omega
 have e2:(d+10*n)/10=n:=by omega
 rw[e1,e2]
theorem aoc{rv:AV}{R d:Nat}(hr:cK 1 rv (ints (d10 R)))(hR:(d10 R).length<=20000)(hd:d<=9):∃ X:AV,cK 1 X (ints (d10 (d+10*R)))/\weak X=X /\
  ∀(h fr:Heap) (ns w:Nat),2<ns->fr[2]?=some (w,.dead)->∃(Y:AV) (w':Nat),(ji ⟨h.length,h.length,ns,none⟩ 2 1 17592186044416 (.bF 1 [.int .i64 d]) (ints (d10 R)) (h++fr)).bind (fun r=>bL h.length false r.1 r.2)=some (Y,h++fr.set 2 (w',.dead)) /\
   ∀ H lo,(run lib).fn 194 [Y] H lo=some (X,H):=by
 by_cases h0:R=0
 ·subst h0;obtain⟨X,x1,x2,x3⟩:=aoa d hd;refine⟨X,by rw[Nat.mul_zero,Nat.add_zero];exact x1,x2,fun h fr ns w hns hf=>⟨.bF 1 [.int .i64 d],w, ?_,x3⟩⟩
  rw[G9 hf];simp[ji,DV,ints,bL]
 ·have hne:d10 R≠[]:=fun e=>h0 (Ih.mp e);have hdig:Dg ((d:Int)::d10 R):=Dg.cons.mpr ⟨by omega,Bn R⟩
  have ht:iF ((d:Int)::d10 R)=d10 (d+10*R):=by
   rw[U6 hdig,dq,Bl];congr 1
  have t:=an' (l:=(d:Int)::d10 R) (by simp;omega)
  rw[ht]at t;refine⟨.aW 1 (ints (d10 (d+10*R))),Ad _,rfl,fun h fr ns w hns hf=>⟨.aW 1 (ints ((d:Int)::d10 R)),w+1, ?_,t⟩⟩;have hx:ints (d10 R)≠[]:=by intro e;exact hne (by simpa[ints]using e)
  have hlt:2<fr.length:=(dQ.mp hf).1
  have hm:fB ⟨h.length,h.length,ns,none⟩ 2 (.arr 1 ([.int .i64 d]++ints (d10 R))) (h++fr)=some (w+1,h++fr.set 2 (w+1,.arr 1 ([.int .i64 d]++ints (d10 R)))):=by
   rw[AP,hf,AO,if_pos hns]
  have hg:(h++fr.set 2 (w+1,au.arr 1 ([.int .i64 d]++ints (d10 R))))[h.length+2]?=some (w+1,.arr 1 ([.int .i64 d]++ints (d10 R))):=by rw[cO];simp[hlt]
  have hle:([AV.int .i64 d]++ints (d10 R)).length<=17592186044416:=by simp;omega
  simp only[ji,beq_self_eq_true,Bool.true_or,if_true,if_neg hx,if_pos hle,hm,Option.map_some,Option.bind_some];simp only[bL];rw[if_pos (by omega)]
  simp only[iV,hg];simp[gy,ints,Az]
end Go.VI.Dump
namespace Go.VI.Dump
open Go.VI.Num
def wO(q:List Int)(w:Nat):Heap:=[(0,.dead),(0,.dead),(w,.dead),(0,.dead),(1,.arr 1 (ints q))]
theorem aod{v u:AV}{m:Nat}(hm0:m≠0)(hu:cK 1 u (ints (d10 m)))(hm:(d10 m).length<=20000)(h:Heap)(w N i:Nat)(hN:N<=100000)(hi:i<N) :
  ∀(t T:Nat) (rv:AV) (q:List Int) (x:Int),T/m=t->cK 1 rv (ints (d10 T))->(d10 T).length<=30000->q.length=N->q[i]?=some x->0<=x->x+t<=100 ->
  ∃ rv',cK 1 rv' (ints (d10 (T%m)))/\aQ lib ⟨h.length,h.length,5,none⟩ (.loop Ux) ([(0,v),(1,u),(6,.ref (h.length+4) 1 1 0 N N),(7,rv),(8,.int .i64 i)],h++wO q w) =
   some (.exit 2,([(0,v),(1,u),(6,.ref (h.length+4) 1 1 0 N N),(7,rv'),(8,.int .i64 i)],h++wO (q.set i (x+t)) w)):=by
 intro t
 induction t with
 |zero =>
  intro T rv q x hT hr hl hq hx h1 h2
  have hlt:T<m:=by
   rcases kZ T m with g|g
   ·exact g
   ·have:=(Nat.le_div_iff_mul_le (show 0<m by omega)).mpr (show 1*m<=T by omega);omega
  have ord:=fun H lo=>LU hr hu (by omega) (by omega) H lo
  have ge:=Qs (T:Int) (m:Int);generalize eX (T:Int) (m:Int)=g at*;have c1:¬ (0:Int)<=g:=by omega
  have hs:q.set i (x+((0:Nat):Int))=q:=by
   have:x+((0:Nat):Int)=x:=by omega
   rw[this];exact G9 hx
  refine⟨rv,by rw[Nat.mod_eq_of_lt hlt];exact hr, ?_⟩
  rw[hs,bU]
  simp(maxSteps:=1000000)(disch:=omega)only[go_sem,wO,ord,c1]
 |succ t ih =>
  intro T rv q x hT hr hl hq hx h1 h2
  have hle:m<=T:=by
   rcases kZ T m with g|g
   ·rw[Nat.div_eq_of_lt g]at hT;omega
   ·exact g
  have ord:=fun H lo=>LU hr hu (by omega) (by omega) H lo
  have ge:=Qs (T:Int) (m:Int);generalize eX (T:Int) (m:Int)=g at*;have c1:(0:Int)<=g:=by omega
  obtain⟨X,x1,x2,x3⟩:=QA hr hu hle (by omega) (by omega)
  have hdv:(T-m)/m=t:=by
   have:=Nat.sub_mul_div T m 1;rw[Nat.mul_one]at this;rw[this,hT];rfl
  have hmd:(T-m)%m=T%m:=(Nat.mod_eq_sub_mod hle).symm;have qm:i<q.length:=by omega
  have hxi:q[i]=x:=by rw[kN qm]at hx;exact Option.some.inj hx
  obtain⟨rv',r1,r2⟩:=ih (T-m) (kg X) (q.set i (x+1)) (x+1) hdv x1 (ng (Ij (by omega)) hl) (by simp[hq]) (by simp[qm]) (by omega) (by omega)
  rw[hmd]at r1;refine⟨rv',r1, ?_⟩
  have hss:(q.set i (x+1)).set i (x+1+(t:Int))=q.set i (x+((t+1:Nat):Int)):=by
   rw[List.set_set];congr 1;omega
  rw[hss]at r2;have q1:iM 1 (.ref (h.length+4) 1 1 0 N N) (.int .i64 i)=some i:=by simp[iM,jd,lU,idx];omega
  have q2:ig (h++wO q w) (.gu (.ref (h.length+4) 1 1 0 N N) i 0)=some [.int .i64 x]:=by
   have so:=Sl.G5 (h:=h) (fr:=wO q w) (s:=4) (ai:=1) (z:=1) (es:=ints q) rfl;rw[jY,hq]at so;have:=jV (off:=0) so.jW (show i<(ints q).length by simpa using qm)
   rw[this,uo,hxi];rfl
  have st:=fun y:Int=>ale (lo:=h.length) (ns:=5) (h:=h) (fr:=wO q w) (s:=4) (ai:=1) (o:=0) (len:=N) (fill:=N) (i:=i) (k:=.i64) (l:=q) (n:=y) rfl hq (by omega) hi (bC _)
  have hints:∀ l:List Int,l.map (AV.int .i64)=ints l:=fun _=>rfl;simp only[oO,hints,wO,List.set_cons_succ,List.set_cons_zero]at st q2 r2;rw[bU];simp(maxSteps:=1000000)(disch:=omega)only[go_sem,wO,ord,c1,x3,x2,q1,q2,st,r2]
theorem aoe{d T m R:Nat}(hm:m≠0)(hR:R=T%m):(d+10*T)/m=(d+10*R)/m+10*(T/m)/\(d+10*T)%m=(d+10*R)%m:=by
 have h:=Nat.div_add_mod T m
 have e:d+10*T=(d+10*R)+m*(10*(T/m)):=by
  have e1:m*(10*(T/m))=10*(m*(T/m)):=by rw[<-Nat.mul_assoc,vk m 10,Nat.mul_assoc]
  rw[e1,hR];generalize m*(T/m)=X at*;omega
 rw[e];exact⟨Nat.add_mul_div_left _ _ (by omega),Nat.add_mul_mod_self_left _ _ _⟩
theorem aof{n:Nat}(d:Nat)(hd:d<=9):(d10 (d+10*n)).length<=(d10 n).length+1:=by
 refine QB ?_;have:=an9 n;rw[yJ];generalize 10^(d10 n).length=X at*;omega
theorem aog{v u:AV}{a m:Nat}(hm0:m≠0)(hv:cK 1 v (ints (d10 a)))(hu:cK 1 u (ints (d10 m)))(ha:(d10 a).length<=20000)(hm:(d10 m).length<=20000)(h:Heap)(N:Nat)(hN:N=(d10 a).length) :
  ∀(k:Nat) (w T:Nat) (rv:AV) (q:List Int),k<=N->(d10 a).drop k=d10 T->cK 1 rv (ints (d10 (T%m)))->q.length=N->(∀ j,j<k->q[j]?=some 0)->dq (q.drop k)=(T/m:Nat)->Dg (q.drop k) ->
  ∃(rv':AV) (w':Nat) (q':List Int),cK 1 rv' (ints (d10 (a%m)))/\q'.length=N/\dq q'=(a/m:Nat)/\Dg q' /\
   aQ lib ⟨h.length,h.length,5,none⟩ (.loop Uy) ([(0,v),(1,u),(6,.ref (h.length+4) 1 1 0 N N),(7,rv),(8,.int .i64 ((k:Int)-1))],h++wO q w) =
   some (.exit 0,([(6,.ref (h.length+4) 1 1 0 N N),(7,rv')],h++wO q' w')):=by
 intro k
 induction k with
 |zero =>
  intro w T rv q hk hT hr hq hz hQ hD;have c1:¬ (0:Int)<=-1:=by omega
  have e:T=a:=by
   rw[List.drop_zero]at hT;have h1:=Bl a;have h2:=Bl T;rw[hT]at h1;omega
  subst e;rw[List.drop_zero]at hQ hD;refine⟨rv,w,q,hr,hq,hQ,hD, ?_⟩;rw[bU]
  simp(maxSteps:=1000000)(disch:=omega)only[go_sem,c1,Int.zero_sub,Int.reduceNeg]
 |succ k ih =>
  intro w T rv q hk hT hr hq hz hQ hD;have c1:(0:Int)<=(k:Int):=by omega
  have e0:(k:Int)+1-1=k:=by omega
  have hka:k<(d10 a).length:=by omega
  have hdk:=Bn a (d10 a)[k] (l9 hka);obtain⟨d,hd⟩:∃ d:Nat,(d10 a)[k]=(d:Int):=⟨((d10 a)[k]).toNat,by omega⟩
  have VJ:d<=9:=by omega
  have a3:iM 1 v (.int .i64 k)=some k:=by rw[kr (hv.sl []) (by omega) (by simp;omega)];simp
  have a4:=fun off H=>jV (off:=off) (hv.sl H).jW (show k<(ints (d10 a)).length by simp;omega)
  simp only[uo,hd]at a4;have hRm:T%m<m:=Nat.mod_lt _ (by omega)
  have hRl:(d10 (T%m)).length<=20000:=ng (Ij (Nat.le_of_lt hRm)) hm;obtain⟨X,x1,x2,x3⟩:=aoc (d:=d) hr hRl VJ;obtain⟨Y,w',y1,y2⟩:=x3 h (wO q w) 5 w (by omega) rfl
  have src:=fun H:Heap=>KJ (hr.sl H);have hnl:=aof (n:=T%m) d VJ;have hx0:q[k]?=some 0:=hz k (by omega)
  have Vg:(d+10*(T%m))/m<=9:=by
   have:d+10*(T%m)<m*10:=by omega
   have:=Nat.div_lt_of_lt_mul this;omega
  obtain⟨rv',r1,r2⟩:=aod (v:=v) hm0 hu hm h w' N k (by omega) (by omega) ((d+10*(T%m))/m) (d+10*(T%m)) X q 0 rfl x1 (by omega) hq hx0 (by omega) (by omega)
  obtain⟨g1,g2⟩:=aoe (d:=d) hm0 (show T%m=T%m from rfl)
  rw[Int.zero_add]at r2
  have hT':(d10 a).drop k=d10 (d+10*T):=by
   rw[qH hka,hT,hd];by_cases hT0:T=0
   ·subst hT0
    -- the highest digit is not zero
    have hne:d≠0:=by
     intro h0;have htr:=acD a (by intro e;rw[e]at hka;simp at hka)
     have hlast:(d10 a).drop k=[(d:Int)]:=by rw[qH hka,hT,hd];rfl
     have hsp:=List.take_append_drop k (d10 a);rw[hlast]at hsp;have hl2:(d10 a).getLast?=some (d:Int):=by rw[<-hsp];simp
     rw[List.getLast?_eq_some_getLast (by intro e;rw[e]at hka;simp at hka)]at hl2
     exact htr (by rw[Option.some.inj hl2,h0];rfl)
    rw[Nat.mul_zero,Nat.add_zero,xL hne,Nat.mod_eq_of_lt (by omega),show d/10=0 by omega]
   ·exact aob hT0 d VJ
  have hkq:k<q.length:=by omega
  obtain⟨rv2,w2,q2,s1,s2,s3,s4,s5⟩:=ih w' (d+10*T) rv' (q.set k (((d+10*(T%m))/m:Nat):Int)) (by omega) hT' (by rw[g2];exact r1) (by simp[hq])
   (fun j hj=>by rw[iH (by omega)];exact hz j (by omega))
   (by rw[Qr hkq,dq,hQ,g1,Int.natCast_add,Int.natCast_mul];rfl)
   (by rw[Qr hkq];exact Dg.cons.mpr ⟨⟨Int.natCast_nonneg _,Int.ofNat_le.mpr Vg⟩,hD⟩)
  refine⟨rv2,w2,q2,s1,s2,s3,s4, ?_⟩;simp only[wO,List.set_cons_succ,List.set_cons_zero]at y1 r2 s5;rw[bU];simp only[wO];simp(maxSteps:=1000000)(disch:=omega)only[go_sem,jo,e0,c1,a3,a4,src,y1,y2,x2,r2,s5]
theorem aoi{v:AV}{l:List Int}(p:cK 1 v (ints l)):∃ Y:AV,(∀ b h,give b v h=some (Y,h))/\cK 1 (kg Y) (ints l):=by
 rcases p with⟨rfl,hl⟩|⟨z',rfl|rfl,hz⟩
 ·exact⟨.own 0 [],fun _ _=>rfl,by rw[hl];exact .inr ⟨0,.inl rfl,.inr rfl⟩⟩
 ·exact⟨.aW z' (ints l),fun b h=>by simp[give,bL],.inr ⟨z',.inl rfl,hz⟩⟩
 ·exact⟨.bF z' (ints l),fun b h=>by simp[give,bL],.inr ⟨z',.inr rfl,hz⟩⟩
theorem adE{v u:AV}{a m:Nat}(hm0:m≠0)(hv:cK 1 v (ints (d10 a)))(hu:cK 1 u (ints (d10 m)))(ha:(d10 a).length<=20000)(hm:(d10 m).length<=20000)(h:Heap)(lo:Nat) :
  ∃ X Y:AV,cK 1 (kg X) (ints (d10 (a/m)))/\cK 1 (kg Y) (ints (d10 (a%m)))/\(run lib).fn 170 [v,u] h lo=some (.tuple [X,Y],h):=by
 have s1:=iB (hv.sl []).len;rw[jY]at s1;obtain⟨N,hN⟩:∃ N,N=(d10 a).length:=⟨_,rfl⟩;rw[<-hN]at s1
 obtain⟨rv,w,q,r1,r2,r3,r4,r5⟩:=aog hm0 hv hu ha hm h N hN N 0 0 .aP (List.replicate N 0) (bC _) (by rw[hN,qG (bC _)];rfl)
  (by rw[Nat.zero_mod];exact .inl ⟨rfl,rfl⟩) (by simp) (fun j hj=>by simp[hj]) (by rw[qG (by simp),Nat.zero_div];rfl) (by rw[qG (by simp)];exact Dg.nil)
 have htr:=U6 r4;rw[r3,wK]at htr;obtain⟨Y,y1,y2⟩:=aoi r1;refine⟨Br q,Y,by rw[VH,htr];exact Ad _,y2, ?_⟩
 have hmk:=fun hh=>SK (h:=hh) (cx:=⟨h.length,h.length,5,none⟩) (s:=4) (z:=1) (zero:=.int .i64 0) (lim:=17592186044416) (k:=.i64) (k':=.i64) (a:=(N:Int)) (b:=(N:Int)) (by omega) (by omega) (by omega)
 have Vj:ints (List.replicate N 0)=List.replicate N (AV.int .i64 0):=by simp[ints]
 simp only[wO,Vj]at r5;have tr:=fun lo=>adA (h:=h) (fr:=[(0,.dead),(0,.dead),(w,.dead),(0,.dead),(1,.arr 1 (ints q))]) (s:=4) (l:=q) (by omega) rfl lo
 have gv:=adz (h:=h) (fr:=[(0,.dead),(0,.dead),(w,.dead),(0,.dead),(1,.arr 1 (ints q))]) (s:=4) (ai:=1) (l:=q) rfl;rw[r2]at tr gv
 have gr:jf h.length (.tuple [.ref (h.length+4) 1 1 0 (iF q).length N,rv]) (h++[(0,.dead),(0,.dead),(w,.dead),(0,.dead),(1,.arr 1 (ints q))])=some (.tuple [Br q,Y]):=by
  simp only[jf,rA,gv,y1,Option.bind_some,Option.map_some]
 rw[bW (x:=Uz) rfl rfl rfl rfl];simp(maxSteps:=1000000)(disch:=omega)only[go_sem,Uz,s1,hmk,Fb,r5,tr,gr,Option.map_some]
end Go.VI.Dump
namespace Go.VI.Dump
open Go.VI.Num
theorem adF{x y:Int}(hx:Fit x)(hy:Fit y)(hy0:y≠0)(h:Heap)(lo:Nat):(run lib).fn 142 [.str (aH x),.str (aH y)] h lo=some (FK x y,h):=by
 have v1:=fun H lo=>Bt (Bv hx) H lo;have v2:=fun H lo=>Bt (Bv hy) H lo;rw[uT hx]at v1;rw[uT hy]at v2;have d1:=fun H lo=>Eg hx H lo;have d2:=fun H lo=>Eg hy H lo;have fx:=Bu hx;have fy:=Bu hy;have hm0:y.natAbs≠0:=by omega
 have i0:aH 0=[48]:=rfl;have hne:¬ aH y=[48]:=by rw[<-i0,anT];exact hy0
 obtain⟨X,Y,x1,y1,dv⟩:=adE hm0 (Ak x) (Ak y) (by omega) (by omega) h h.length
 obtain⟨q1,q2⟩:=Qu (x:=x) hy0;have qm:=Vu (x:=x) hy0;have fq:=D8 (y:=y) hx hy0;have fr:=Qw (x:=x) hy hy0;have s1:=iB (y1.sl []).len;rw[jY]at s1;have hrl:(d10 (x.natAbs%y.natAbs)).length<=200:=ng (Ij (Nat.le_of_lt (Nat.mod_lt _ (by omega)))) fy
 have es:lm false (vF x y)=x%y:=by rw[<-q2];rfl
 have tr:=fun v (hv:cK 1 v (ints (d10 (vF x y)))) H lo=>VD (v:=v) (n:=vF x y) false (h:=H) (hv.sl H) (by
  have e:(x%y).natAbs=vF x y:=by omega
  have:=Bu fr;rw[e]at this;omega) lo
 simp only[es]at tr;have tq:=fun v (hv:cK 1 v (ints (d10 (yX x y)))) H lo=>LY (v:=v) (n:=yX x y) (!(decide (x<0)==decide (y<0))) hv (by have:=Ij qm;omega) H lo
 simp only[q1,Ai fq]at tq;unfold FK;rw[bW (x:=KU) rfl rfl rfl rfl];by_cases c:x<0/\x.natAbs%y.natAbs≠0
 ·obtain⟨c1,c2⟩:=c
  have c3:(0:Int)<(d10 (x.natAbs%y.natAbs)).length:=by
   have:d10 (x.natAbs%y.natAbs)≠[]:=fun e=>c2 (Ih.mp e);have:=uj.mpr this;omega
  have pl:=fun H lo=>ady (u:=.bF 1 [.int .i64 1]) (b:=1) x1 (.inr ⟨1,.inr rfl,.inl rfl⟩) (by have:=Ij (Nat.div_le_self x.natAbs y.natAbs);omega) (by decide) H lo
  obtain⟨Z,z1,z2,mi⟩:=QA (Ak y) y1 (Nat.le_of_lt (Nat.mod_lt _ (by omega))) (by omega) (by omega)
  have eq:yX x y=x.natAbs/y.natAbs+1:=if_pos ⟨c1,c2⟩;have er:vF x y=y.natAbs-x.natAbs%y.natAbs:=if_pos ⟨c1,c2⟩;have hp:=VE (d10 (x.natAbs/y.natAbs+1));rw[OL,<-eq]at hp;rw[<-er]at z1;have Ei:=tq _ hp;have xP:=tr _ z1;rw[eq]at Ei;rw[decide_eq_true c1]at d1 Ei;simp(maxSteps:=1000000)(disch:=omega)only[go_sem,KU,v1,v2,d1,d2,hne,dv,s1,c3,pl,mi,z2,Ei,xP]
 ·have eq:yX x y=x.natAbs/y.natAbs:=if_neg c;have er:vF x y=x.natAbs%y.natAbs:=if_neg c;rw[<-eq]at x1;rw[<-er]at y1;have Ei:=tq _ x1;have xP:=tr _ y1;by_cases c1:x<0
  ·have c2:x.natAbs%y.natAbs=0:=by omega
   have c3:¬ (0:Int)<(d10 (x.natAbs%y.natAbs)).length:=by rw[c2,DV];simp
   rw[decide_eq_true c1]at d1 Ei;simp(maxSteps:=1000000)(disch:=omega)only[go_sem,KU,v1,v2,d1,d2,hne,dv,s1,c3,Ei,xP]
  ·rw[decide_eq_false c1]at d1 Ei;simp(maxSteps:=1000000)(disch:=omega)only[go_sem,KU,v1,v2,d1,d2,hne,dv,s1,Ei,xP]
theorem aoj(cx:Cx)(H:Heap):∀(b a:Nat) (v u:AV),cK 1 v (ints (d10 a))->cK 1 u (ints (d10 b))->(d10 a).length<=1000->(d10 b).length<=1000 ->
  ∃ w,cK 1 w (ints (d10 (Nat.gcd a b)))/\aQ lib cx (.loop Uk) ([(7,v),(9,u)],H)=some (.exit 0,([(7,w)],H)):=by
 intro b
 induction b using Nat.strongRecOn with
 |_ b ih =>
  intro a v u hv hu ha hb;have s1:=iB (hu.sl []).len;rw[jY]at s1;by_cases h0:b=0
  ·subst h0;refine⟨v,by rw[Nat.gcd_zero_right];exact hv, ?_⟩
   have c1:¬ (0:Int)<(d10 0).length:=by simp[DV]
   rw[bU];simp(maxSteps:=1000000)(disch:=omega)only[go_sem,s1,c1]
  ·have hpos:0<b:=by omega
   have hlt:=Nat.mod_lt a hpos;have hl2:(d10 (a%b)).length<=1000:=ng (Ij (Nat.le_of_lt hlt)) hb;obtain⟨X,Y,x1,y1,dv⟩:=adE h0 hv hu (by omega) (by omega) H cx.lo
   obtain⟨w,w1,w2⟩:=ih (a%b) hlt b u (kg Y) hu y1 hb hl2;refine⟨w, ?_, ?_⟩
   ·have e:Nat.gcd a b=Nat.gcd b (a%b):=by rw[Nat.gcd_comm a b,Nat.gcd_rec,Nat.gcd_comm]
    rw[e];exact w1
   ·have c1:(0:Int)<(d10 b).length:=by
     have:d10 b≠[]:=fun e=>h0 (Ih.mp e);have:=uj.mpr this;omega
    rw[bU];simp(maxSteps:=1000000)(disch:=omega)only[go_sem,s1,c1,dv,w2]
theorem aok{x y:Int}(hx:Fit x)(hy:Fit y)(h:Heap)(lo:Nat):(run lib).fn 141 [.str (aH x),.str (aH y)] h lo=some (.tuple [.str (aH (Int.gcd x y:Nat)),.int .i64 0],h):=by
 have v1:=fun H lo=>Bt (Bv hx) H lo;have v2:=fun H lo=>Bt (Bv hy) H lo;rw[uT hx]at v1;rw[uT hy]at v2;have d1:=fun H lo=>Eg hx H lo;have d2:=fun H lo=>Eg hy H lo;have fx:=Bu hx;have fy:=Bu hy;have fg:=Qy hx hy;obtain⟨w,w1,w2⟩:=aoj ⟨h.length,h.length,0,none⟩ h y.natAbs x.natAbs _ _ (Ak x) (Ak y) (by omega) (by omega)
 have ck:=fun H lo=>LY false w1 (by have:=Bu fg;rw[vC]at this;unfold Int.gcd at this;omega) H lo
 have es:lm false (Nat.gcd x.natAbs y.natAbs)=((Int.gcd x y:Nat):Int):=rfl;rw[es,Ai fg]at ck;rw[bW (x:=Ul) rfl rfl rfl rfl];simp(maxSteps:=1000000)(disch:=omega)only[go_sem,Ul,v1,v2,d1,d2,w2,ck]
theorem aol{n:Nat}(h:n<10000000000000000000):(d10 n).length<=19:=QB (by have:(10:Nat)^19=10000000000000000000:=(by decide);omega)
theorem aom(n0:Int)(h:Heap):∀(f:Nat) (m:Int) (acc:List Int),m.natAbs<=f->-9223372036854775808<=m->m<=9223372036854775807->acc.length+(d10 m.natAbs).length<=100 ->
  aQ lib ⟨h.length,h.length,1,none⟩ (.loop TR) ([(0,.int .i64 n0),(3,cu (h.length+0) (0,.dead) 1 (ints acc)),(4,.int .i64 m)],h++[bX (0,.dead) 1 (ints acc)]) =
   some (.exit 0,([(0,.int .i64 n0),(3,cu (h.length+0) (0,.dead) 1 (ints (acc++d10 m.natAbs)))],h++[bX (0,.dead) 1 (ints (acc++d10 m.natAbs))])):=by
 intro f
 induction f with
 |zero =>
  intro m acc h1 h2 h3 h4;obtain rfl:m=0:=by omega
  have e:d10 (Int.natAbs 0)=[]:=rfl;rw[e,nI,bU]
  simp(maxSteps:=1000000)(disch:=omega)only[go_sem,ne_eq,not_true_eq_false]
 |succ f ih =>
  intro m acc h1 h2 h3 h4;by_cases h0:m=0
  ·subst h0;have e:d10 (Int.natAbs 0)=[]:=rfl;rw[e,nI,bU];simp(maxSteps:=1000000)(disch:=omega)only[go_sem,ne_eq,not_true_eq_false]
  ·have e1:=Int.tmod_add_mul_tdiv m 10;have n1:(m.tdiv 10).natAbs=m.natAbs/10:=by rw[Int.natAbs_tdiv];rfl
   have n2:(m.tmod 10).natAbs=m.natAbs%10:=by rw[Int.natAbs_tmod];rfl
   have hd:d10 m.natAbs=((m.natAbs%10:Nat):Int)::d10 (m.natAbs/10):=xL (by omega)
   have hdl:=congrArg List.length hd;simp only[List.length_cons]at hdl;have k:=ih (m.tdiv 10) (acc++[((m.natAbs%10:Nat):Int)]) (by omega) (by omega) (by omega) (by rw[n1];simp;omega)
   rw[n1,FE acc,FH,jO,List.singleton_append,<-hd]at k;have wq:IntKind.i64.wrap (m.tdiv 10)=m.tdiv 10:=OC (by omega) (by omega)
   have b1:jh .rem (.int .i64 m) (.int .i64 10)=some (.int .i64 (m.tmod 10)):=aaZ (by omega)
   have b2:jh .quo (.int .i64 m) (.int .i64 10)=some (.int .i64 (m.tdiv 10)):=by rw[aaY (by omega),wq]
   have ea:=fun x:Int=>wD (lo:=h.length) (ns:=1) (s:=0) (z:=1) (lim:=17592186044416) (h:=h) (fr:=[bX (0,.dead) 1 (ints acc)]) (b0:=(0,.dead)) (es:=ints acc) (xs:=[.int .i64 x]) (by omega) (bC _) rfl (by simp;omega)
   simp only[List.set_cons_zero]at ea;rw[bU];by_cases hneg:m.tmod 10<0
   ·have e2:-(m.tmod 10)=((m.natAbs%10:Nat):Int):=by omega
    have hp9:m.natAbs%10<=9:=by omega
    generalize m.natAbs%10=p at*;generalize m.tmod 10=r at*;generalize m.tdiv 10=q at*;simp(maxSteps:=1000000)(disch:=omega)only[go_sem,h0,b1,b2,hneg,e2,ea,k]
   ·have e2:m.tmod 10=((m.natAbs%10:Nat):Int):=by omega
    rw[e2]at b1 hneg;generalize m.natAbs%10=p at*;generalize m.tdiv 10=q at*;simp(maxSteps:=1000000)(disch:=omega)only[go_sem,h0,b1,b2,hneg,ea,k]
theorem adG{n:Int}(h0:-9223372036854775808<=n)(h1:n<=9223372036854775807)(h:Heap)(lo:Nat):(run lib).fn 108 [.int .i64 n] h lo=some (.str (aH n),h):=by
 have hl:=aol (n:=n.natAbs) (by omega)
 have lp:=aom n h n.natAbs n [] (bC _) h0 h1 (by simp;omega)
 rw[List.nil_append]at lp;have i0:cu (h.length+0) (0,.dead) 1 (ints [])=.aP:=rfl;have j0:bX (0,.dead) 1 (ints [])=(0,.dead):=rfl;rw[i0,j0]at lp;have sl:=Sl.acc (h:=h) (fr:=[bX (0,.dead) 1 (ints (d10 n.natAbs))]) (s:=0) (z:=1) (b0:=(0,.dead)) (es:=ints (d10 n.natAbs)) rfl;have tx:=VD (decide (n<0)) sl (by omega) h.length
 rw[LD]at tx;rw[bW (x:=TS) rfl rfl rfl rfl];simp(maxSteps:=1000000)(disch:=omega)only[go_sem,TS,lp,tx]
end Go.VI.Dump
namespace Go.VI.Dump
open Go.VI.Num
theorem aon{n d:Int}(hn:Fit n)(hd:Fit d)(h:Heap)(lo:Nat):(run lib).fn 107 [.str (aH n),.str (aH d)] h lo=some (jI (yQ n d),h):=by
 have v1:=fun H lo=>Bt (Bv hn) H lo;have v2:=fun H lo=>Bt (Bv hd) H lo;rw[uT hn]at v1;rw[uT hd]at v2;unfold yQ;rw[bW (x:=x107) rfl rfl rfl rfl];by_cases c:d=0
 ·subst c;rw[if_pos rfl,wN]at *;simp(maxSteps:=1000000)(disch:=omega)only[go_sem,x107,v1,v2,jI,bY]
 ·have hz:=IE c;have cm:=fun H lo=>an8 hd FM H lo;rw[wN]at cm;have cl:=adi d;rw[if_neg c]
  have fin:∀{N D:Int},Fit N->Fit D->0<D->Rat.divInt N D=Rat.divInt n d->∃ G R1 R2:Int,(∀ H lo,(run lib).fn 141 [.str (aH N),.str (aH D)] H lo=some (.tuple [.str (aH G),.int .i64 0],H)) /\
    (∀ H lo,(run lib).fn 142 [.str (aH N),.str (aH G)] H lo=some (.tuple [.str (aH (Rat.divInt n d).num),.str (aH R1),.int .i64 0],H)) /\
    (∀ H lo,(run lib).fn 142 [.str (aH D),.str (aH G)] H lo=some (.tuple [.str (aH ((Rat.divInt n d).den:Int)),.str (aH R2),.int .i64 0],H)):=by
   intro N D hN hD hp he;have hG:=Qy hN hD;have hG0:=adj (n:=N) (d:=D) (by omega)
   refine⟨(Int.gcd N D:Nat),N%(Int.gcd N D:Nat),D%(Int.gcd N D:Nat),fun H lo=>aok hN hD H lo,fun H lo=>?_,fun H lo=>?_⟩
   ·rw[<-he,acd hp];exact adF hN hG hG0 H lo
   ·rw[<-he,ace hp];exact adF hD hG hG0 H lo
  generalize eX d 0=q at*;by_cases c2:d<0
  ·obtain⟨G,R1,R2,g1,g2,g3⟩:=fin (Eb hn) (Eb hd) (by omega) (Rat.neg_divInt_neg n d)
   have s1:=fun H lo=>adD FM hn H lo;have s2:=fun H lo=>adD FM hd H lo;rw[wN,Int.zero_sub,Ai (Eb hn)]at s1;rw[wN,Int.zero_sub,Ai (Eb hd)]at s2;have cl':q<0:=cl.mpr c2;clear fin;simp(maxSteps:=1000000)(disch:=omega)only[go_sem,x107,v1,v2,hz,cm,cl',s1,s2,g1,g2,g3,jI,rt,bY]
  ·obtain⟨G,R1,R2,g1,g2,g3⟩:=fin hn hd (by omega) rfl
   have cl':¬ q<0:=fun h=>c2 (cl.mp h);clear fin;simp(maxSteps:=1000000)(disch:=omega)only[go_sem,x107,v1,v2,hz,cm,cl',g1,g2,g3,jI,rt,bY]
theorem aoo{n d:Int}(hn:Fit n)(hd:Fit d)(hn1:-9223372036854775808<=n/\n<=9223372036854775807)(hd1:-9223372036854775808<=d/\d<=9223372036854775807)(h:Heap)(lo:Nat):(run lib).fn 80 [.int .i64 n,.int .i64 d] h lo=some (jI (yQ n d),h):=by
 have f1:=fun H lo=>adG hn1.1 hn1.2 H lo;have f2:=fun H lo=>adG hd1.1 hd1.2 H lo;have m:=fun H lo=>aon hn hd H lo;obtain⟨s1,s2,e,he⟩:=LK (yQ n d);rw[he]at m⊢;rw[bW (x:=x80) rfl rfl rfl rfl];simp(maxSteps:=1000000)(disch:=omega)only[go_sem,x80,f1,f2,m]
end Go.VI.Dump
