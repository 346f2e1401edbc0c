/- What the functions on integers compute, part MB. -/
import Derived.Test.YtfpoegnmeoghpaaGreatDoorDumpTab
import Derived.Test.YtfpoegnmeoghpaaGreatDoorVGS
import Derived.Test.YtfpoegnmeoghpaaGreatDoorDumpMA
import Derived.Test.YtfpoegnmeoghpaaGreatDoorVIU2
set_option linter.unusedVariables false
set_option linter.unusedSimpArgs false
namespace Go.VI.Dump
open Go.VI.Num
def ints(l:List Int):List AV:=l.map (.int .i64)
@[simp] theorem DI (l:List Int):(ints l).length=l.length:=by simp [ints]
theorem acy(l:List Int)(k:Nat)(h:k<(ints l).length):(ints l)[k]=.int .i64 (l[k]'(by simpa using h)):=by simp[ints]
theorem aBT(a b:List Int):ints (a++b)=ints a++ints b:=by simp[ints]
theorem aBU(x:Int):ints [x]=[.int .i64 x]:=rfl
theorem Dm(k:Nat):((k+1:Nat):Int)=(k:Int)+1:=by simp
theorem amz{v:AV}{l:List Int}{h:Heap}(hv:Sl h 1 v (ints l))(hl:l.length<=1000000)(i:Nat)(hi:i<=1000000)(lo:Nat):(run lib).fn 152 [v,.int .i64 i] h lo=some (.int .i64 (l.getD i 0),h):=by
 have s3:=oW hv.len;rw[DI]at s3;rw[jH (x:=x152) rfl rfl rfl rfl];by_cases c:i<l.length
 ·have c1:(i:Int)<l.length:=by omega
  have e3:vJ 1 v (.int .i64 i)=some i:=by rw[Bu hv (by omega) (by simp;omega)];simp
  have e4:=fun off=>Ab (off:=off) hv.DC (show i<(ints l).length by simp;omega)
  simp only[acy]at e4;have hg:l.getD i 0=l[i]:=by rw[Md,Fv c];rfl
  rw[hg];simp(maxSteps:=1000000)(disch:=omega)only[go_sem,x152,s3,c1,e3,e4]
 ·have c1:¬ (i:Int)<l.length:=by omega
  rw[ZM (by omega)]
  simp(maxSteps:=1000000)(disch:=omega)only[go_sem,x152,s3,c1]
theorem aJ'{f:Nat}{caps:List AV}{g:Nat->Int}{n:Nat}(hf:f<1000)(hn:n<=100000)(hd:∀(i:Nat) (h:Heap) (lo:Nat),i<=200000->(run lib).fn f (.int .i64 i::caps) h lo=some (.int .i64 (g i),h))(hg:∀ i,-9999<=g i/\g i<=100000000)(h:Heap)(fu:Nat) :
  ∀(i:Nat) (c:Int) (acc:List Int),i+fu<=200000->acc.length=i->-1<=c->c<=20000->Zc g n fu i c=true ->
  bV lib ⟨h.length,h.length,2,none⟩ (.loop aoP) ([(0,.int .i64 n),(1,.int .i64 c),(2,.fn f caps),(7,.ref (h.length+1) 1 1 0 acc.length acc.length),(8,.int .i64 i)],h++[(0,.dead),(1,.arr 1 (ints acc))]) =
   some (.exit 0,([(7,.ref (h.length+1) 1 1 0 (acc++Gj g n fu i c).length (acc++Gj g n fu i c).length)],h++[(0,.dead),(1,.arr 1 (ints (acc++Gj g n fu i c)))])):=by
 induction fu with
 |zero =>
  intro i c acc h1 h2 h3 h4 h5;simp only[Zc,decide_eq_true_eq]at h5;have c1:¬ (i:Int)<n:=by omega
  have c2:c=0:=by omega
  subst c2;rw[jm];simp only[Gj,Gs]
  simp(maxSteps:=1000000)(disch:=omega)only[go_sem,c1]
 |succ fu ih =>
  intro i c acc h1 h2 h3 h4 h5;by_cases hst:i<n\/c≠0
  ·have hdi:=fun h lo=>hd i h lo (by omega)
   have hgi:=hg i;have ea:=fun x:Int=>ac7 (cx:=⟨h.length,h.length,2,none⟩) (s:=0) (z:=1) (lim:=17592186044416) (id:=h.length+1) (ak:=1) (h:=h++[(0,.dead),(1,.arr 1 (ints acc))]) (es:=ints acc) (xs:=[.int .i64 x]) (by rw[ku];rfl) (by simp) (by simp;omega)
   simp only[DI,o7,List.set_cons_succ,List.set_cons_zero,List.length_singleton]at ea
   have key:∀(x c':Int),-1<=c'->c'<=20000->Zc g n fu (i+1) c'=true->bV lib ⟨h.length,h.length,2,none⟩ (.loop aoP) ([(0,.int .i64 n),(1,.int .i64 c'),(2,.fn f caps),(7,.ref (h.length+1) 1 1 0 (acc.length+1) (acc.length+1)),(8,.int .i64 ((i:Int)+1))],h++[(0,.dead),(1,.arr 1 (ints acc++[.int .i64 x]))]) =
     some (.exit 0,([(7,.ref (h.length+1) 1 1 0 (acc++x::Gj g n fu (i+1) c').length (acc++x::Gj g n fu (i+1) c').length)],h++[(0,.dead),(1,.arr 1 (ints (acc++x::Gj g n fu (i+1) c')))])):=fun x c' k1 k2 k3=>by
    have:=ih (i+1) c' (acc++[x]) (by omega) (by simp;omega) k1 k2 k3
    rw[Dm,aBT,aBU,sZ,List.singleton_append]at this;simpa using this
   have hif:((i:Int)<n)\/(¬ (i:Int)<n/\¬ c=0):=by omega
   simp only[Zc,Gj,hst,if_true]at h5⊢;generalize g i=y at*;have w1:IntKind.i64.wrap (y+c)=y+c:=asH (by omega) (by omega)
   by_cases c1:y+c<0
   ·rw[if_pos c1]at h5⊢;have k:=key (y+c+10000) (-1) (by omega) (by omega) h5
    rw[jm];rcases hif with c3|⟨c3,c4⟩
    ·simp(maxSteps:=1000000)(disch:=omega)only[go_sem,c3,hf,hdi,w1,c1,ea,k]
    ·simp(maxSteps:=1000000)(disch:=omega)only[go_sem,c3,c4,hf,hdi,w1,c1,ea,k]
   ·rw[if_neg c1]at h5⊢;by_cases c2:10000<=y+c
    ·rw[if_pos c2]at h5⊢;have k:=key ((y+c)%10000) ((y+c)/10000) (by omega) (by omega) h5
     rw[jm];rcases hif with c3|⟨c3,c4⟩
     ·simp(maxSteps:=1000000)(disch:=omega)only[go_sem,c3,hf,hdi,w1,c1,c2,ea,k]
     ·simp(maxSteps:=1000000)(disch:=omega)only[go_sem,c3,c4,hf,hdi,w1,c1,c2,ea,k]
    ·rw[if_neg c2]at h5⊢;have k:=key (y+c) 0 (by omega) (by omega) h5
     rw[jm];rcases hif with c3|⟨c3,c4⟩
     ·simp(maxSteps:=1000000)(disch:=omega)only[go_sem,c3,hf,hdi,w1,c1,c2,ea,k]
     ·simp(maxSteps:=1000000)(disch:=omega)only[go_sem,c3,c4,hf,hdi,w1,c1,c2,ea,k]
  ·have c1:¬ (i:Int)<n:=by omega
   have c2:c=0:=by omega
   subst c2;rw[jm];simp only[Gj,hst,if_false,Gs];simp(maxSteps:=1000000)(disch:=omega)only[go_sem,c1]
end Go.VI.Dump
namespace Go.VI.Dump
open Go.VI.Num
theorem auv{f:Nat}{caps:List AV}{g:Nat->Int}{n:Nat}(hf:f<1000)(hn:n<=100000)(hd:∀(i:Nat) (h:Heap) (lo:Nat),i<=200000->(run lib).fn f (.int .i64 i::caps) h lo=some (.int .i64 (g i),h))(hg:∀ i,-9999<=g i/\g i<=100000000)(he:Zc g n (n+3) 0 0=true)(h:Heap)(lo:Nat) :
  (run lib).fn 150 [.int .i64 n,.int .i64 0,.fn f caps] h lo=some (.own 1 (ints (Gj g n (n+3) 0 0)),h):=by
 have e:=aJ' hf hn hd hg h (n+3) 0 0 [] (by omega) rfl (by omega) (by omega) he
 simp only[List.nil_append,Ma,Gc,ints,List.map_nil]at e;have hmk:=fun hh=>aAi (h:=hh) (cx:=⟨h.length,h.length,2,none⟩) (s:=1) (z:=1) (zero:=.int .i64 0) (lim:=17592186044416) (k:=.i64) (k':=.i64) (a:=0) (b:=(n:Int)+1) (by omega) (by omega) (by omega)
 have hgv:=aja (s:=1) (ak:=1) (z:=1) (h:=h) (es:=ints (Gj g n (n+3) 0 0)) (fr:=[(0,.dead),(1,.arr 1 (ints (Gj g n (n+3) 0 0)))]) rfl;simp only[ints,abv]at hgv;rw[jH (x:=x150) rfl rfl rfl rfl];simp only[ints];simp(maxSteps:=1000000)(disch:=omega)only[go_sem,x150,hmk,mkr,List.replicate_zero,e,tJ,hgv,Option.map_some]
theorem aKa{v u:AV}{a b:List Int}(hv:oz 1 v (ints a))(hu:oz 1 u (ints b))(ha:a.length<=1000000)(hb:b.length<=1000000)(da:qG a)(db:qG b)(i:Nat)(h:Heap)(lo:Nat)(hi:i<=200000) :
  (run lib).fn 151 [.int .i64 i,.iE [v],.iE [u]] h lo=some (.int .i64 (a.getD i 0+b.getD i 0),h):=by
 have e1:=fun H lo=>amz (hv.sl H) ha i (by omega) lo
 have e2:=fun H lo=>amz (hu.sl H) hb i (by omega) lo
 have g1:=Rq da i;have g2:=Rq db i;rw[jH (x:=x151) rfl rfl rfl rfl];generalize a.getD i 0=x at*;generalize b.getD i 0=y at*;simp(maxSteps:=1000000)(disch:=omega)only[go_sem,x151,e1,e2]
theorem aKb{v u:AV}{a b:List Int}(hv:oz 1 v (ints a))(hu:oz 1 u (ints b))(ha:a.length<=1000000)(hb:b.length<=1000000)(da:qG a)(db:qG b)(i:Nat)(h:Heap)(lo:Nat)(hi:i<=200000) :
  (run lib).fn 153 [.int .i64 i,.iE [v],.iE [u]] h lo=some (.int .i64 (a.getD i 0-b.getD i 0),h):=by
 have e1:=fun H lo=>amz (hv.sl H) ha i (by omega) lo
 have e2:=fun H lo=>amz (hu.sl H) hb i (by omega) lo
 have g1:=Rq da i;have g2:=Rq db i;rw[jH (x:=x153) rfl rfl rfl rfl];generalize a.getD i 0=x at*;generalize b.getD i 0=y at*;simp(maxSteps:=1000000)(disch:=omega)only[go_sem,x153,e1,e2]
theorem aKc{v:AV}{a:List Int}(hv:oz 1 v (ints a))(ha:a.length<=1000000)(da:qG a)(k:Int)(hk:0<=k/\k<=10000)(i:Nat)(h:Heap)(lo:Nat)(hi:i<=200000) :
  (run lib).fn 176 [.int .i64 i,.iE [v],.iE [.int .i64 k]] h lo=some (.int .i64 (a.getD i 0*k),h):=by
 have e1:=fun H lo=>amz (hv.sl H) ha i (by omega) lo
 have g1:=Rq da i;have h2:0<=a.getD i 0*k:=Int.mul_nonneg g1.1 hk.1;have h3:a.getD i 0*k<=9999*10000:=Int.mul_le_mul g1.2 hk.2 hk.1 (by omega)
 rw[jH (x:=at5) rfl rfl rfl rfl];have w1:IntKind.i64.wrap (a.getD i 0*k)=a.getD i 0*k:=asH (by omega) (by omega)
 simp(maxSteps:=1000000)(disch:=omega)only[go_sem,at5,e1,w1]
theorem aBV{l:List Int}(hl:l.length<=1000000)(cx:Cx)(H:Heap):∀ k:Nat,k<=l.length ->
  bV lib cx (.loop akv) ([(0,.eY 1 (ints (l.take k)))],H)=some (.exit 0,([(0,.eY 1 (ints (l.take (SB l k))))],H)):=by
 intro k
 induction k with
 |zero =>
  intro hk;rw[jm];have s3:LZ false (.eY 1 (ints []))=some (.int .i64 0):=rfl;simp only[List.take_zero,SB]
  simp(maxSteps:=1000000)(disch:=omega)only[go_sem,s3,DV]
 |succ k ih =>
  intro hk;have hs:=Sl.eY H 1 (ints (l.take (k+1)));have s3:=oW hs.len;rw[DI,JK,Nat.min_eq_left hk,Dm]at s3;have hlen:(ints (l.take (k+1))).length=k+1:=by simp;omega
  have c1:(0:Int)<(k:Int)+1:=by omega
  have e0:(k:Int)+1-1=k:=by omega
  have e3:vJ 1 (.eY 1 (ints (l.take (k+1)))) (.int .i64 k)=some k:=by rw[Bu hs (by omega) (by rw[hlen];omega)];simp
  have e4:=fun off=>Ab (off:=off) hs.DC (show k<(ints (l.take (k+1))).length by rw[hlen];omega)
  simp only[acy,List.getElem_take]at e4;have hg:l.getD k 0=l[k]:=by rw[Md,Fv (by omega)];rfl
  have hsl:Rc (some 1) (.eY 1 (ints (l.take (k+1)))) none (some (.int .i64 k))=some (.eY 1 (ints (l.take k))):=by
   have hb:bnd (some (.int .i64 k)) (k+1) (k+1)=some k:=by rw[aou (by omega) (by omega)];simp
   simp only[Rc,xB,beq_self_eq_true,Bool.true_or,if_true,hlen,hb,Option.bind_some];simp[bnd,ints,List.take_take]
  have ih':=ih (by omega)
  simp only[SB,hg];rw[jm];by_cases c2:l[k]=0
  ·rw[if_pos c2];simp(maxSteps:=1000000)(disch:=omega)only[go_sem,s3,c1,e0,e3,e4,c2,hsl,ih']
  ·rw[if_neg c2];simp(maxSteps:=1000000)(disch:=omega)only[go_sem,s3,c1,e0,e3,e4,c2]
theorem ape{l:List Int}(hl:l.length<=1000000)(h:Heap)(lo:Nat):(run lib).fn 146 [.eY 1 (ints l)] h lo=some (.eY 1 (ints (IU l)),h):=by
 have e:=fun cx H=>aBV hl cx H l.length (iJ _);simp only[QU]at e;rw[jH (x:=aco) rfl rfl rfl rfl];unfold IU;simp(maxSteps:=1000000)(disch:=omega)only[go_sem,aco,e]
theorem auw(cx:Cx)(z:Nat)(es:List AV)(H:Heap):F9 cx [(0,0)] (some (.eY z es,H))=some (.eY z es,H):=rfl
theorem akE(g:Nat->Int)(n:Nat):∀(f i:Nat) (c:Int),(Gj g n f i c).length<=f
 |0,_,_=>iJ _
 |f+1,i,c=>by
  simp only[Gj];split
  ·split
   ·have:=akE g n f (i+1) (-1);simp;omega
   ·split
    ·have:=akE g n f (i+1) ((g i+c)/10000);simp;omega
    ·have:=akE g n f (i+1) 0;simp;omega
  ·simp
theorem amA{z:Nat}{v:AV}{es:List AV}(p:oz z v es):∃ v',(∀ b k h,gI b k v h=some (v',h))/\v.val=true/\v'.val=true/\oz z v' es/\v'.cells=[v']:=by
 rcases p with⟨rfl,rfl⟩|⟨z',rfl|rfl,hz⟩
 ·exact⟨.eY 0 [],fun b k h=>by simp[VI.gI],rfl,rfl,.inr ⟨0,.inl rfl,.inr rfl⟩,rfl⟩
 ·exact⟨.eY z' es,fun b k h=>by simp[VI.gI],rfl,rfl,.inr ⟨z',.inl rfl,hz⟩,rfl⟩
 ·exact⟨.fT z' es,fun b k h=>by simp[VI.gI],rfl,rfl,.inr ⟨z',.inr rfl,hz⟩,rfl⟩
theorem apf{v u:AV}{a b:Nat}(hv:oz 1 v (ints (bg a)))(hu:oz 1 u (ints (bg b)))(ha:(bg a).length<=50000)(hb:(bg b).length<=50000)(h:Heap)(lo:Nat) :
  (run lib).fn 111 [v,u] h lo=some (.eY 1 (ints (bg (a+b))),h):=by
 obtain⟨v',f1,f2,f3,f4,f5⟩:=amA hv;obtain⟨u',g1,g2,g3,g4,g5⟩:=amA hu;have da:=Rp a;have db:=Rp b
 have fo:=auv (f:=151) (caps:=[.iE [v'],.iE [u']]) (g:=fun i=>(bg a).getD i 0+(bg b).getD i 0) (n:=max (bg a).length (bg b).length) (by omega) (by omega)
  (fun i h lo hi=>aKa f4 g4 (by omega) (by omega) da db i h lo hi) (fun i=>by have:=Rq da i;have:=Rq db i;omega)
  (aub (fun i=>by have:=Rq da i; have:=Rq db i; omega) (fun i hi=>by rw [ZM (by omega),ZM (by omega)]; rfl) _ 0 0 (by omega) (by omega) (fun _=>by omega) (fun h=>by omega) (by
   rw[aoT,Sg (bg a) _ _ (by omega),Sg (bg b) _ _ (by omega)]
   have:=YP da;have:=YP db;simp only[List.drop_zero];omega))
 have hp:=aJy da db;rw[Mc,Mc]at hp;have e0:((a:Int)+b).toNat=a+b:=by omega
 rw[e0]at hp;have hFl:=akE (fun i=>(bg a).getD i 0+(bg b).getD i 0) (max (bg a).length (bg b).length) (max (bg a).length (bg b).length+3) 0 0;generalize Gj (fun i=>(bg a).getD i 0+(bg b).getD i 0) (max (bg a).length (bg b).length) (max (bg a).length (bg b).length+3) 0 0=F at*;have ht:=ape (l:=F) (by omega)
 rw[hp]at ht;have s1:=oW (f4.sl []).len;have s2:=oW (g4.sl []).len;simp only[DI]at s1 s2;have em:max ((bg a).length:Int) ((bg b).length:Int)=((max (bg a).length (bg b).length:Nat):Int):=by omega
 rw[jH (x:=atF) rfl rfl rfl rfl];simp(maxSteps:=1000000)(disch:=omega)only[go_sem,atF,f1,f2,f3,f5,g1,g2,g3,g5,s1,s2,em,fo,ht,auw]
theorem apg{v u:AV}{a b:Nat}(hv:oz 1 v (ints (bg a)))(hu:oz 1 u (ints (bg b)))(hab:b<=a)(ha:(bg a).length<=50000)(h:Heap)(lo:Nat) :
  (run lib).fn 113 [v,u] h lo=some (.eY 1 (ints (bg (a-b))),h):=by
 obtain⟨v',f1,f2,f3,f4,f5⟩:=amA hv;obtain⟨u',g1,g2,g3,g4,g5⟩:=amA hu;have da:=Rp a;have db:=Rp b;have hbl:=aeI hab;have hz:∀ i,(bg a).length<=i->(bg a).getD i 0-(bg b).getD i 0=0:=fun i hi=>by rw[ZM (by omega),ZM (by omega)];rfl
 have hg:∀ i,-9999<=(bg a).getD i 0-(bg b).getD i 0/\(bg a).getD i 0-(bg b).getD i 0<=100000000:=fun i=>by have:=Rq da i;have:=Rq db i;omega
 have fo:=auv (f:=153) (caps:=[.iE [v'],.iE [u']]) (g:=fun i=>(bg a).getD i 0-(bg b).getD i 0) (n:=(bg a).length) (by omega) (by omega)
  (fun i h lo hi=>aKb f4 g4 (by omega) (by omega) da db i h lo hi) hg
  (aub hg hz _ 0 0 (by omega) (by omega) (fun _=>by omega) (fun h=>by omega) (by
   rw[aoU,Sg (bg a) _ _ (by omega),Sg (bg b) _ _ (by omega),List.drop_zero,List.drop_zero,Mc,Mc];omega))
 have hp:=aJz da db hbl (by rw[Mc,Mc];omega)
 rw[Mc,Mc]at hp;have e0:((a:Int)-b).toNat=a-b:=by omega
 rw[e0]at hp;have hFl:=akE (fun i=>(bg a).getD i 0-(bg b).getD i 0) (bg a).length ((bg a).length+3) 0 0;generalize Gj (fun i=>(bg a).getD i 0-(bg b).getD i 0) (bg a).length ((bg a).length+3) 0 0=F at*;have ht:=ape (l:=F) (by omega)
 rw[hp]at ht;have s1:=oW (f4.sl []).len;have s2:=oW (g4.sl []).len;simp only[DI]at s1 s2;rw[jH (x:=x113) rfl rfl rfl rfl];simp(maxSteps:=1000000)(disch:=omega)only[go_sem,x113,f1,f2,f3,f5,g1,g2,g3,g5,s1,s2,fo,ht,auw]
theorem auy{v:AV}{a k:Nat}(hv:oz 1 v (ints (bg a)))(hk:k<=10000)(ha:(bg a).length<=50000)(h:Heap)(lo:Nat) :
  (run lib).fn 147 [v,.int .i64 k] h lo=some (.eY 1 (ints (bg (a*k))),h):=by
 obtain⟨v',f1,f2,f3,f4,f5⟩:=amA hv;have da:=Rp a;have hz:∀ i,(bg a).length<=i->(bg a).getD i 0*(k:Int)=0:=fun i hi=>by rw[ZM (by omega),Int.zero_mul]
 have hg:∀ i,-9999<=(bg a).getD i 0*(k:Int)/\(bg a).getD i 0*(k:Int)<=100000000:=fun i=>by
  have g1:=Rq da i;have h2:0<=(bg a).getD i 0*(k:Int):=Int.mul_nonneg g1.1 (by omega)
  have h3:(bg a).getD i 0*(k:Int)<=9999*10000:=Int.mul_le_mul g1.2 (by omega) (by omega) (by omega)
  omega
 have fo:=auv (f:=176) (caps:=[.iE [v'],.iE [.int .i64 k]]) (g:=fun i=>(bg a).getD i 0*(k:Int)) (n:=(bg a).length) (by omega) (by omega)
  (fun i h lo hi=>aKc f4 (by omega) da k (by omega) i h lo hi) hg
  (aub hg hz _ 0 0 (by omega) (by omega) (fun _=>by omega) (fun h=>by omega) (by
   rw[aoV,Sg (bg a) _ _ (by omega),List.drop_zero,Mc,Int.add_zero]
   exact Int.mul_nonneg (by omega) (by omega)))
 have hp:=aJA da (k:=(k:Int)) (by omega)
 rw[Mc]at hp;have e0:((a:Int)*k).toNat=a*k:=by rw[<-Int.natCast_mul];exact abJ _
 rw[e0]at hp;have hFl:=akE (fun i=>(bg a).getD i 0*(k:Int)) (bg a).length ((bg a).length+3) 0 0;generalize Gj (fun i=>(bg a).getD i 0*(k:Int)) (bg a).length ((bg a).length+3) 0 0=F at*;have ht:=ape (l:=F) (by omega)
 rw[hp]at ht;have s1:=oW (f4.sl []).len;simp only[DI]at s1;rw[jH (x:=atT) rfl rfl rfl rfl];simp(maxSteps:=1000000)(disch:=omega)only[go_sem,atT,f1,f2,f3,f5,s1,fo,ht,auw]
theorem auz(n:Int)(h:Heap)(lo:Nat):(run lib).fn 178 [.int .i64 n] h lo=some (.bool false,h):=by
 rw[jH (x:=at6) rfl rfl rfl rfl];simp(maxSteps:=1000000)(disch:=omega)only[go_sem,at6,ne_eq,not_true_eq_false,decide_false]
theorem aBX(a b:Int)(h:Heap)(lo:Nat):(run lib).fn 156 [.int .i64 a,.int .i64 b] h lo=some (.int .i64 (qd a b),h):=by
 rw[jH (x:=amk) rfl rfl rfl rfl];unfold qd;by_cases h1:a<b
 ·rw[if_pos h1];simp(maxSteps:=1000000)(disch:=omega)only[go_sem,amk,auz,h1]
 ·rw[if_neg h1];by_cases h2:a=b
  ·rw[if_pos h2];have h3:¬ b<a:=by omega
   simp(maxSteps:=1000000)(disch:=omega)only[go_sem,amk,auz,h1,h3]
  ·rw[if_neg h2];have h3:b<a:=by omega
   simp(maxSteps:=1000000)(disch:=omega)only[go_sem,amk,auz,h1,h3]
end Go.VI.Dump
namespace Go.VI.Dump
open Go.VI.Num
def Mq{σ:Type}(Y:σ->Nat->Bool×σ):Nat->σ->σ
 |0,s=>s
 |k+1,s=>if (Y s k).1 then Mq Y k (Y s k).2 else(Y s k).2
section
variable {σ:Type}{H:σ->Heap}{nb lo id:Nat}{Y:σ->Nat->Bool×σ}{Iv:Nat->σ->Prop}
theorem aKd{v:AV}{l:List Int}(hv:oz 1 v (ints l))(hl:l.length<=1000000)
  (hI:∀ k s,k<l.length->Iv (k+1) s->(Y s k).1=true->Iv k (Y s k).2)
  (hy:∀ k s (hk:k<l.length),Iv (k+1) s->tK (run lib) ⟨lo,nb,0,none⟩ id 1 [.int .i64 k,.int .i64 l[k]] (H s)=some (.bool (Y s k).1,H (Y s k).2)) :
  ∀(k:Nat) (j:Int) (s:σ),j=(k:Int)-1->k<=l.length->Iv k s ->
  ∃ e,(e=.exit 0\/e=.ret)/\bV lib ⟨lo,nb,0,none⟩ (.loop at0) ([(0,.lF id 1),(1,.iE [v]),(3,.int .i64 j)],H s)=some (e,([],H (Mq Y k s))):=by
 intro k
 induction k with
 |zero =>
  intro j s hj hk hi;subst hj;refine⟨.exit 0,.inl rfl, ?_⟩;have c1:¬ (0:Int)<=-1:=by omega
  rw[jm];simp only[Mq]
  simp(maxSteps:=1000000)(disch:=omega)only[go_sem,c1,Int.zero_sub,Int.reduceNeg]
 |succ k ih =>
  intro j s hj hk hi;obtain rfl:j=(k:Int):=by omega
  have c1:(0:Int)<=(k:Int):=by omega
  have e3:vJ 1 v (.int .i64 k)=some k:=by rw[Bu (hv.sl (H s)) (by omega) (by simp;omega)];simp
  have e4:=fun off H=>Ab (off:=off) ((hv.sl H).DC) (show k<(ints l).length by simp;omega)
  simp only[acy]at e4;have y:=hy k s (by omega) hi
  have hI':=hI k s (by omega) hi
  simp only[Mq];generalize Y s k=p at*;obtain⟨r,s'⟩:=p;simp only[]at y hI'⊢
  cases r with
  |true =>
   obtain⟨e,h1,h2⟩:=ih ((k:Int)-1) s' rfl (by omega) (hI' rfl)
   refine⟨e,h1, ?_⟩;rw[jm];simp only[if_true]
   simp(maxSteps:=1000000)(disch:=omega)only[go_sem,c1,e3,e4,y,h2]
  |false =>
   refine⟨.ret,.inr rfl, ?_⟩;rw[jm];simp only[uM,if_false];simp(maxSteps:=1000000)(disch:=omega)only[go_sem,c1,e3,e4,y]
theorem aph{v:AV}{l:List Int}(hv:oz 1 v (ints l))(hl:l.length<=1000000)(hlen:∀ s,(H s).length=nb)(hlo:lo<=nb)
  (hI:∀ k s,k<l.length->Iv (k+1) s->(Y s k).1=true->Iv k (Y s k).2)
  (hy:∀ k s (hk:k<l.length),Iv (k+1) s->tK (run lib) ⟨lo,nb,0,none⟩ id 1 [.int .i64 k,.int .i64 l[k]] (H s)=some (.bool (Y s k).1,H (Y s k).2)) (s:σ) (hi:Iv l.length s) :
  (run lib).fn 175 [.lF id 1,.iE [v]] (H s) lo=some (.tuple [],H (Mq Y l.length s)):=by
 obtain⟨e,h1,h2⟩:=aKd hv hl hI hy l.length ((l.length:Int)-1) s rfl (iJ _) hi;have s1:=oW (hv.sl []).len;simp only[DI]at s1;rw[AA (x:=akw) rfl rfl rfl rfl (by rw[hlen];exact hlo)]
 have hr:∀(H:Heap),H++List.replicate akw.ns (0,aU.dead)=H:=fun H=>by simp[akw]
 have ht:∀ s',(H s').take (H s).length=H s':=fun s'=>by rw[hlen s,<-hlen s',QU]
 rw[hr];rw[<-hlen s]at h2;rcases h1 with rfl|rfl
 ·simp(maxSteps:=1000000)(disch:=omega)only[go_sem,akw,s1,h2,ht]
 ·simp(maxSteps:=1000000)(disch:=omega)only[go_sem,akw,s1,h2,ht]
end
theorem YR{z:Nat}{v:AV}{es:List AV}(p:oz z v es):∃ v',(∀ b k h,gI b k v h=some (v',h))/\(∀ b k h,gI b k v' h=some (v',h))/\v.val=true/\v'.val=true/\oz z v' es/\v'.cells=[v']:=by
 rcases p with⟨rfl,rfl⟩|⟨z',rfl|rfl,hz⟩
 ·exact⟨.eY 0 [],fun b k h=>by simp[VI.gI],fun b k h=>by simp[VI.gI],rfl,rfl,.inr ⟨0,.inl rfl,.inr rfl⟩,rfl⟩
 ·exact⟨.eY z' es,fun b k h=>by simp[VI.gI],fun b k h=>by simp[VI.gI],rfl,rfl,.inr ⟨z',.inl rfl,hz⟩,rfl⟩
 ·exact⟨.fT z' es,fun b k h=>by simp[VI.gI],fun b k h=>by simp[VI.gI],rfl,rfl,.inr ⟨z',.inr rfl,hz⟩,rfl⟩
theorem apj(v v':AV)(hf:∀ b k h,gI b k v h=some (v',h))(hf':∀ b k h,gI b k v' h=some (v',h))(hv:v.val=true)(hc:v'.cells=[v'])(h:Heap)(lo:Nat):(run lib).fn 145 [v] h lo=some (.fn 175 [.iE [v']],h):=by
 rw[jH (x:=atQ) rfl rfl rfl rfl];simp(maxSteps:=1000000)(disch:=omega)only[go_sem,atQ,hf,hf',hv,hc]
end Go.VI.Dump
namespace Go.VI.Dump
open Go.VI.Num
def agc(l m:List Int)(s:Option Int)(k:Nat):Bool×Option Int:=if l.getD k 0=m.getD k 0 then(true,s) else(false,some (qd (l.getD k 0) (m.getD k 0)))
theorem aBY(l m:List Int):∀ k,(match Mq (agc l m) k none with|none=>adZ l m k=0|some c=>adZ l m k=c)
 |0=>rfl
 |k+1=>by
  have ih:=aBY l m k;simp only[Mq,agc,adZ];by_cases c:l.getD k 0=m.getD k 0
  ·simp only[c,if_true];exact ih
  ·simp only[c,if_false,uM];unfold qd;by_cases c2:l.getD k 0<m.getD k 0
   ·rw[if_pos c2,if_pos c2]
   ·rw[if_neg c2,if_neg c2,if_neg c]
def ZT(h:Heap)(v u:AV):Env:=[(3,.iE [u]),(4,.bq (h.length+1) 1 0),(18,.fn 175 [.iE [v]])]
def amC(h:Heap)(v u:AV)(s:Option Int):Heap:=h++[(1,.aV ⟨11,h.length,h.length,2,ZT h v u⟩ (match s with|none=>.ready|some _=>.done .ret)),(1,.box [.int .i64 (s.getD 0)])]
theorem aKe{v u:AV}{l m:List Int}(hu:oz 1 u (ints m))(hl:l.length=m.length)(hm:m.length<=1000000)(h:Heap)(k:Nat)(hk:k<l.length)(lo:Nat)(hlo:lo<=h.length) :
  tK (run lib) ⟨lo,h.length+2,0,none⟩ (h.length+0) 1 [.int .i64 k,.int .i64 l[k]] (amC h v u none)=some (.bool (agc l m none k).1,amC h v u (agc l m none k).2):=by
 obtain⟨D,hD⟩:∃ D:kP,D=⟨11,h.length,h.length,2,ZT h v u⟩:=⟨_,rfl⟩;have gl:l.getD k 0=l[k]:=by rw[Md,Fv hk];rfl
 have gm:m.getD k 0=m[k]:=by rw[Md,Fv (by omega)];rfl
 have e3:vJ 1 u (.int .i64 k)=some k:=by rw[Bu (hu.sl []) (by omega) (by simp;omega)];simp
 have e4:=fun off H=>Ab (off:=off) ((hu.sl H).DC) (show k<(ints m).length by simp;omega)
 simp only[acy]at e4;simp only[agc,gl,gm];generalize l[k]=x at*;generalize m[k]=y at*;simp only[amC,<-hD]
 have ha:bV lib ⟨h.length,h.length,2,some (h.length+0,1)⟩ r11.xQ ((r11.ps.zip [.int .i64 k,.int .i64 x]).foldl (fun e p=>e.set p.1 p.2) (ZT h v u),h++[(1,.aV D .ready),(1,.box [.int .i64 0])]) =
   some (.norm,([(3,.iE [u]),(4,.bq (h.length+1) 1 0),(5,.int .i64 k),(6,.int .i64 x)],h++[(1,.aV D .ready),(1,.box [.int .i64 0])])):=by
  simp(maxSteps:=1000000)(disch:=omega)only[go_sem,r11,ZT,List.zip_cons_cons,ZU,List.foldl_cons,TA]
 have hg:(h++[(1,aU.aV D .ready),(1,.box [.int .i64 0])])[h.length+0]?=some (1,.aV ⟨11,h.length,h.length,2,ZT h v u⟩ .ready):=by rw[ku,<-hD];rfl
 by_cases c:x=y
 ·have hb:∃ zk,bV lib ⟨h.length,h.length,2,some (h.length+0,1)⟩ r11.body ([(3,.iE [u]),(4,.bq (h.length+1) 1 0),(5,.int .i64 k),(6,.int .i64 x)],(h++[(1,aU.aV D .ready),(1,aU.box [.int .i64 0])]).set (h.length+0) (1,.aV D .busy)) =
    some (.norm,(zk,h++[(1,.aV D .busy),(1,.box [.int .i64 0])])):=by
   refine⟨[(3,.iE [u]),(4,.bq (h.length+1) 1 0),(5,.int .i64 k),(6,.int .i64 x),(26,.bool false)], ?_⟩;subst c;rw[o7];simp(maxSteps:=1000000)(disch:=omega)only[go_sem,r11,aBf,e3,e4,ne_eq,not_true_eq_false]
  obtain⟨zk,hb⟩:=hb;have:=Zb (L:=lib) (cx:=⟨lo,h.length+2,0,none⟩) hg hlo (by omega) (by omega) (by simp[AV.EY,AV.closed]) (x:=r11) rfl rfl ha (by rw[ku];rfl) hb (by rw[ku];rfl)
  rw[if_pos c];simp only[Option.getD_none];rw[this,o7];rfl
 ·have hb:∃ zk,bV lib ⟨h.length,h.length,2,some (h.length+0,1)⟩ r11.body ([(3,.iE [u]),(4,.bq (h.length+1) 1 0),(5,.int .i64 k),(6,.int .i64 x)],(h++[(1,aU.aV D .ready),(1,aU.box [.int .i64 0])]).set (h.length+0) (1,.aV D .busy)) =
    some (.ret,(zk,h++[(1,.aV D .busy),(1,.box [.int .i64 (qd x y)])])):=by
   refine⟨[], ?_⟩;rw[o7];simp(maxSteps:=1000000)(disch:=omega)only[go_sem,r11,aBf,e3,e4,c,aBX]
  obtain⟨zk,hb⟩:=hb;have:=Zb (L:=lib) (cx:=⟨lo,h.length+2,0,none⟩) hg hlo (by omega) (by omega) (by simp[AV.EY,AV.closed]) (x:=r11) rfl rfl ha (by rw[ku];rfl) hb (by rw[ku];rfl)
  rw[if_neg c];simp only[Option.getD_none,Option.getD_some];rw[this,o7];rfl
theorem apk{v u:AV}{l m:List Int}(hv:oz 1 v (ints l))(hu:oz 1 u (ints m))(hl:l.length<=1000000)(hm:m.length<=1000000)(h:Heap)(lo:Nat) :
  (run lib).fn 115 [v,u] h lo=some (.int .i64 (cmpL l m),h):=by
 obtain⟨v',f1,f1',f2,f3,f4,f5⟩:=YR hv;obtain⟨u',g1,g1',g2,g3,g4,g5⟩:=YR hu;have s1:=oW (hv.sl []).len;have s2:=oW (g4.sl []).len;simp only[DI]at s1 s2;unfold cmpL;by_cases hlen:l.length=m.length
 ·have c1:(l.length:Int)=m.length:=by omega
  have hb:=aph (H:=amC h v' u') (nb:=h.length+2) (lo:=h.length) (id:=h.length+0) (Y:=agc l m) (Iv:=fun _ s=>s=none) f4 hl (fun s=>by simp[amC]) (by omega)
   (fun k s hk hi hy=>by
    subst hi;simp only[agc]at hy⊢;split at hy
    ·rename_i hc;rw[if_pos hc]
    ·cases hy)
   (fun k s hk hi=>by subst hi;exact aKe g4 hlen hm h k hk h.length (iJ _)) none rfl
  have hc:=aBY l m l.length;rw[if_pos hlen];have bw:=apj v v' f1 f1' f2 f5
  cases hB:Mq (agc l m) l.length none with
  |none =>
   rw[hB]at hb hc;simp only[]at hc
   have g3':=abE (L:=lib) (lo:=h.length) (ns:=2) (s:=0) (g:=11) (it:=175) (v:=0) (caps:=[.iE [v']]) (env:=ZT h v' u') (h:=h) (b:=.dead) (fr:=[(0,.dead),(1,.box [.int .i64 0])])
    (fr':=[(1,.aV ⟨11,h.length,h.length,2,ZT h v' u'⟩ .ready),(1,.box [.int .i64 0])]) (f:=.t 18) rfl (by omega) rfl hb rfl
   simp only[ZT,List.set_cons_zero]at g3';rw[hc,jH (x:=x115) rfl rfl rfl rfl]
   simp(maxSteps:=1000000)(disch:=omega)only[go_sem,x115,f1,f2,g1,g2,g5,s1,s2,c1,ne_eq,not_true_eq_false,bw,g3']
  |some c =>
   rw[hB]at hb hc;simp only[]at hc
   have g3':=at7 (L:=lib) (lo:=h.length) (ns:=2) (s:=0) (g:=11) (it:=175) (v:=0) (caps:=[.iE [v']]) (env:=ZT h v' u') (h:=h) (b:=.dead) (fr:=[(0,.dead),(1,.box [.int .i64 0])])
    (fr':=[(1,.aV ⟨11,h.length,h.length,2,ZT h v' u'⟩ (.done .ret)),(1,.box [.int .i64 c])]) (f:=.t 18) rfl (by omega) rfl hb rfl
   simp only[ZT,List.set_cons_zero]at g3';rw[hc,jH (x:=x115) rfl rfl rfl rfl];simp(maxSteps:=1000000)(disch:=omega)only[go_sem,x115,f1,f2,g1,g2,g5,s1,s2,c1,ne_eq,not_true_eq_false,bw,g3']
 ·have c1:¬ (l.length:Int)=m.length:=by omega
  have hc:(if l.length=m.length then adZ l m l.length else if l.length<m.length then -1 else 1)=qd (l.length:Int) (m.length:Int):=by
   rw[if_neg hlen];unfold qd;by_cases c2:l.length<m.length
   ·rw[if_pos c2,if_pos (by omega)]
   ·rw[if_neg c2,if_neg (by omega),if_neg c1]
  rw[hc,jH (x:=x115) rfl rfl rfl rfl];simp(maxSteps:=1000000)(disch:=omega)only[go_sem,x115,f1,f2,g1,g2,g5,s1,s2,c1,aBX]
end Go.VI.Dump
namespace Go.VI.Dump
open Go.VI.Num
theorem aKf{f:Nat}{caps:List AV}{h:Heap}{t n:Nat}(hf:f<1000)(hn:n<=1000000)(hd:∀ d:Nat,d<n->(run lib).fn f (.int .i64 d::caps) h h.length=some (.bool (decide (t<=d)),h))(m:Nat) :
  ∀ i j:Nat,j-i<=m->i<=min n t->min n t<=j->j<=n ->
  bV lib ⟨h.length,h.length,0,none⟩ (.loop atW) ([(1,.fn f caps),(5,.int .i64 i),(6,.int .i64 j)],h)=some (.exit 0,([(5,.int .i64 (min n t:Nat))],h)):=by
 induction m with
 |zero =>
  intro i j h1 h2 h3 h4;have:i=min n t:=by omega
  have c1:¬ (i:Int)<j:=by omega
  rw[<-this,jm]
  simp(maxSteps:=1000000)(disch:=omega)only[go_sem,c1]
 |succ m ih =>
  intro i j h1 h2 h3 h4;by_cases c:i<j
  ·have c1:(i:Int)<j:=by omega
   obtain⟨d,hdd⟩:∃ d,d=(i+j)/2:=⟨_,rfl⟩;have e1:((i:Int)+j)/2=(d:Int):=by omega
   have y:=hd d (by omega)
   rw[jm];by_cases c2:t<=d
   ·rw[decide_eq_true c2]at y;have k:=ih i d (by omega) h2 (by omega) (by omega)
    simp(maxSteps:=1000000)(disch:=omega)only[go_sem,c1,e1,hf,y,k]
   ·rw[decide_eq_false c2]at y;have k:=ih (d+1) j (by omega) (by omega) h3 h4
    rw[Dm]at k;simp(maxSteps:=1000000)(disch:=omega)only[go_sem,c1,e1,hf,y,k]
  ·have:i=min n t:=by omega
   have c1:¬ (i:Int)<j:=by omega
   rw[<-this,jm];simp(maxSteps:=1000000)(disch:=omega)only[go_sem,c1]
theorem aKg{f:Nat}{caps:List AV}{h:Heap}{t n:Nat}(hf:f<1000)(hn:n<=1000000)(hd:∀ d:Nat,d<n->(run lib).fn f (.int .i64 d::caps) h h.length=some (.bool (decide (t<=d)),h))(lo:Nat) :
  (run lib).fn 149 [.int .i64 n,.fn f caps] h lo=some (.int .i64 (min n t:Nat),h):=by
 have e:=aKf hf hn hd n 0 n (by omega) (by omega) (by omega) (by omega)
 simp only[Gc]at e;rw[jH (x:=atX) rfl rfl rfl rfl];simp(maxSteps:=1000000)(disch:=omega)only[go_sem,atX,e]
end Go.VI.Dump
namespace Go.VI
theorem Zk{lo ns s:Nat}{p:Nat×Nat}{b:aU}{h fr:Heap}(hf:b.fits ⟨lo,h.length,ns,some p⟩=true):mK ⟨lo,h.length,ns,some p⟩ s b (h++fr)=mkF s ns b h fr fr[s]?:=by
 rw[<-abz (lo:=lo)]
 have:b.fits ⟨lo,h.length,ns,none⟩=true:=by
  cases b with
  |box cs=>simp[aU.fits,Cx.fit]
  |aV d st=>simp[aU.fits,Cx.fit]
  |_=>rfl
 simp only[mK,hf,this]
theorem aBZ{lo ns s z lim v:Nat}{p:Nat×Nat}{h fr:Heap}{b:aU}{es xs:List AV}(hs:s<ns)(hb:fr[s]?=some (v,b))(hx:xs≠[])(hl:es.length+xs.length<=lim) :
  (wG ⟨lo,h.length,ns,some p⟩ s z lim (.fT z es) xs (h++fr)).bind (fun r=>gI h.length false r.1 r.2)=some (.eY z (es++xs),h++fr.set s (v+1,.dead)):=by
 have hm:=Zk (lo:=lo) (ns:=ns) (s:=s) (p:=p) (b:=.arr z (es++xs)) (h:=h) (fr:=fr) rfl;rw[hb,ack,if_pos hs]at hm;have hl':(es++xs).length<=lim:=by simpa using hl
 simp only[wG,beq_self_eq_true,Bool.true_or,if_true,if_neg hx,if_pos hl',hm,Option.map_some,Option.bind_some];have hlt:s<fr.length:=(kS.mp hb).1;have hg:(h++fr.set s (v+1,aU.arr z (es++xs)))[h.length+s]?=some (v+1,.arr z (es++xs)):=by rw[ku];simp[hlt]
 simp[gI,wF,hg,o7];rw[<-uG,QU]
end Go.VI
namespace Go.VI.Dump
open Go.VI.Num
def abM:Option Nat->AV
 |none=>.bO
 |some n=>.eY 1 (ints (bg n))
def tmY(a:Nat)(m:List Int)(s:Option Nat×Nat)(k:Nat):Bool×(Option Nat×Nat):=(true,some (10000*s.1.getD 0+a*(m.getD k 0).toNat),if s.1.getD 0=0 then s.2 else s.2+1)
def tmE(h:Heap)(v u:AV):Env:=[(2,.iE [v]),(4,.bO),(5,.bq (h.length+2) 1 0),(9,.fn 175 [.iE [u]])]
def tmH(h:Heap)(v u:AV)(s:Option Nat×Nat):Heap:=h++[(1,.aV ⟨12,h.length,h.length,3,tmE h v u⟩ .ready),(s.2,.dead),(1,.box [abM s.1])]
theorem aKh(o:Option Nat):oz 1 (abM o) (ints (bg (o.getD 0))):=by
 cases o with
 |none=>exact .inl ⟨rfl,rfl⟩
 |some n=>exact .inr ⟨1,.inl rfl,.inl rfl⟩
theorem aKi(o:Option Nat):(abM o).val=true/\(abM o).cells=[abM o]/\(abM o).closed=true:=by cases o<;>exact⟨rfl,rfl,rfl⟩
theorem apl{n:Nat}(h:n≠0):(0:Int)::bg n=bg (10000*n):=by
 rw[acp (n:=10000*n) (by omega)]
 have e1:10000*n%10000=0:=by omega
 have e2:10000*n/10000=n:=by omega
 rw[e1,e2];rfl
theorem aKj{v u:AV}{a:Nat}{m:List Int}(hv:oz 1 v (ints (bg a)))(dm:qG m)(ha:(bg a).length<=20000)(h:Heap)(k:Nat)(hk:k<m.length)(s:Option Nat×Nat)(hs:(bg (s.1.getD 0)).length<=40000)(lo:Nat)(hlo:lo<=h.length) :
  tK (run lib) ⟨lo,h.length+3,0,none⟩ (h.length+0) 1 [.int .i64 k,.int .i64 m[k]] (tmH h v u s)=some (.bool (tmY a m s k).1,tmH h v u (tmY a m s k).2):=by
 obtain⟨o,w⟩:=s;obtain⟨D,hD⟩:∃ D:kP,D=⟨12,h.length,h.length,3,tmE h v u⟩:=⟨_,rfl⟩;have gm:m.getD k 0=m[k]:=by rw[Md,Fv hk];rfl
 have hx:=dm m[k] (JC hk);simp only[tmY,gm];simp only[]at hs;generalize m[k]=x at*;obtain⟨d,rfl⟩:∃ d:Nat,x=d:=⟨x.toNat,by omega⟩
 simp only[tmH,<-hD,abJ];obtain⟨n,hn⟩:∃ n,n=o.getD 0:=⟨_,rfl⟩;have hp:=aKh o;rw[<-hn]at hp hs⊢;obtain⟨p1,p2,p3⟩:=aKi o;have s1:=oW (hp.sl []).len;rw[DI]at s1;generalize abM o=O at*;have hby:=fun H lo=>auy (k:=d) hv (by omega) (by omega) H lo
 have aB0:(bg (a*d)).length<=50000:=by
  have h1:a*d<=10000*a:=by rw[Y4];exact JX _ (by omega)
  have h2:=aeI h1;by_cases h0:a=0
  ·subst h0;simp[abF]
  ·rw[<-apl h0]at h2;simp at h2;omega
 have ha':bV lib ⟨h.length,h.length,3,some (h.length+0,1)⟩ r12.xQ ((r12.ps.zip [.int .i64 k,.int .i64 d]).foldl (fun e p=>e.set p.1 p.2) (tmE h v u),h++[(1,.aV D .ready),(w,.dead),(1,.box [O])]) =
   some (.norm,([(2,.iE [v]),(5,.bq (h.length+2) 1 0),(7,.int .i64 d)],h++[(1,.aV D .ready),(w,.dead),(1,.box [O])])):=by
  simp(maxSteps:=1000000)(disch:=omega)only[go_sem,r12,tmE,List.zip_cons_cons,ZU,List.foldl_cons,TA]
 have hg:(h++[(1,aU.aV D .ready),(w,.dead),(1,.box [O])])[h.length+0]?=some (1,.aV ⟨12,h.length,h.length,3,tmE h v u⟩ .ready):=by rw[ku,<-hD];rfl
 have hb:bV lib ⟨h.length,h.length,3,some (h.length+0,1)⟩ r12.body ([(2,.iE [v]),(5,.bq (h.length+2) 1 0),(7,.int .i64 d)],(h++[(1,aU.aV D .ready),(w,aU.dead),(1,aU.box [O])]).set (h.length+0) (1,.aV D .busy)) =
   some (.norm,([],h++[(1,.aV D .busy),(if n=0 then w else w+1,.dead),(1,.box [.eY 1 (ints (bg (10000*n+a*d)))])])):=by
  rw[o7]
  have psl:∀(es:List AV) (w':Nat) (O':AV),qE ⟨h.length,h.length,3,some (h.length+0,1)⟩ (h++[(1,.aV D .busy),(w',.dead),(1,.box [O'])]) 1 (.bq (h.length+2) 1 0) (.eY 1 es)=some (h++[(1,.aV D .busy),(w',.dead),(1,.box [.eY 1 es])]):=fun es w' O'=>by
   rw[Ro (iJ _) rfl,if_pos ⟨rfl,rfl⟩];simp(maxSteps:=1000000)(disch:=omega)only[go_sem]
  by_cases h0:n=0
  ·have hpl:=fun H lo=>apf (a:=n) (b:=a*d) hp (.inr ⟨1,.inl rfl,.inl rfl⟩) (by omega) aB0 H lo
   subst h0;have c1:¬ (0:Int)<((bg 0).length:Nat):=by simp[abF]
   rw[F6]at hpl;rw[if_pos rfl,Nat.mul_zero,F6];simp(maxSteps:=1000000)(disch:=omega)only[go_sem,r12,s1,c1,hby,hpl,psl]
  ·have hne:bg n≠[]:=fun e=>h0 (abG.mp e);have c1:(0:Int)<((bg n).length:Nat):=by have:=SC.mpr hne;omega
   have src:=fun H:Heap=>asP (hp.sl H);have al:=aBZ (lo:=h.length) (ns:=3) (s:=1) (z:=1) (lim:=17592186044416) (v:=w) (p:=(h.length+0,1)) (h:=h) (fr:=[(1,.aV D .busy),(w,.dead),(1,.box [O])]) (b:=.dead) (es:=[.int .i64 0]) (xs:=ints (bg n)) (by omega) rfl (by intro e;exact hne (by simpa[ints]using e)) (by simp;omega)
   have hsh:[AV.int .i64 0]++ints (bg n)=ints (bg (10000*n)):=by rw[<-apl h0];rfl
   rw[hsh]at al;have hpl:=fun H lo=>apf (v:=.eY 1 (ints (bg (10000*n)))) (a:=10000*n) (b:=a*d) (.inr ⟨1,.inl rfl,.inl rfl⟩) (u:=.eY 1 (ints (bg (a*d)))) (.inr ⟨1,.inl rfl,.inl rfl⟩) (by rw[<-apl h0];simp;omega) aB0 H lo
   simp only[List.set_cons_succ,List.set_cons_zero]at al;rw[if_neg h0];simp(maxSteps:=1000000)(disch:=omega)only[go_sem,r12,s1,c1,src,al,hby,hpl,psl]
 have:=Zb (L:=lib) (cx:=⟨lo,h.length+3,0,none⟩) hg hlo (by omega) (by omega) (by simp[AV.EY,AV.closed]) (x:=r12) rfl rfl ha' (by rw[ku];rfl) hb (by rw[ku];rfl)
 rw[this,o7];rfl
end Go.VI.Dump
namespace Go.VI.Dump
open Go.VI.Num
theorem ajt:∀(t n:Nat),n<10000^t->(bg n).length<=t
 |0,n,h=>by
  have:n=0:=by simp at h;exact h
  subst this;simp[abF]
 |t+1,n,h=>by
  by_cases h0:n=0
  ·subst h0;simp[abF]
  ·rw[Nat.pow_succ,Y4]at h;have:=ajt t (n/10000) (Nat.div_lt_of_lt_mul h);rw[acp h0,List.length_cons];omega
theorem apm(n:Nat):n<10000^(bg n).length:=by
 have h:=akx (Rp n);rw[Mc]at h;have e:((10000^(bg n).length:Nat):Int)=(10000:Int)^(bg n).length:=by rw[Int.natCast_pow];rfl
 rw[<-e]at h;exact Int.ofNat_lt.mp h
theorem apn(a b:Nat):(bg (a*b)).length<=(bg a).length+(bg b).length:=by
 refine ajt _ _ ?_;rw[Nat.pow_add];exact Nat.mul_lt_mul'' (apm a) (apm b)
theorem auA{σ:Type}{Y:σ->Nat->Bool×σ}{Iv:Nat->σ->Prop}{n:Nat}(hY:∀ s k,(Y s k).1=true)(hI:∀ k s,k<n->Iv (k+1) s->Iv k (Y s k).2):∀ k s,k<=n->Iv k s->Iv 0 (Mq Y k s)
 |0,s,_,h=>h
 |k+1,s,hk,h=>by
  simp only[Mq,hY,if_true];exact auA hY hI k _ (by omega) (hI k s (by omega) h)
def tmI(a:Nat)(m:List Int)(k:Nat)(s:Option Nat×Nat):Prop:=s.1.getD 0=a*(gv (m.drop k)).toNat/\(k<m.length->s.1≠none)/\(k=m.length->s.1=none)
theorem aB2{a:Nat}{m:List Int}(dm:qG m)(k:Nat)(s:Option Nat×Nat)(hk:k<m.length)(hi:tmI a m (k+1) s):tmI a m k (tmY a m s k).2:=by
 obtain⟨h1,_,_⟩:=hi;have gm:m.getD k 0=m[k]:=by rw[Md,Fv hk];rfl
 have hx:=dm m[k] (JC hk);have hd:qG (m.drop (k+1)):=fun x hx=>dm x (List.mem_of_mem_drop hx);have hg:=YP hd;refine⟨?_,fun _=>by simp[tmY],fun h=>by omega⟩
 simp only[tmY,gm,h1,Option.getD_some];rw[JB hk,gv];have e:(m[k]+10000*gv (m.drop (k+1))).toNat=m[k].toNat+10000*(gv (m.drop (k+1))).toNat:=by omega
 rw[e,Nat.mul_add,Nat.add_comm,<-Nat.mul_assoc,<-Nat.mul_assoc,Y4 10000 a]
theorem aKk{a b:Nat}{k:Nat}{s:Option Nat×Nat}(ha:(bg a).length<=20000)(hb:(bg b).length<=20000)(hi:tmI a (bg b) k s):(bg (s.1.getD 0)).length<=40000:=by
 rw[hi.1];have h1:=apn a (gv ((bg b).drop k)).toNat;have hd:qG ((bg b).drop k):=fun x hx=>Rp b x (List.mem_of_mem_drop hx)
 have h2:(gv ((bg b).drop k)).toNat<10000^((bg b).drop k).length:=by
  have h:=akx hd;have e:((10000^((bg b).drop k).length:Nat):Int)=(10000:Int)^((bg b).drop k).length:=by rw[Int.natCast_pow];rfl
  rw[<-e]at h;have:=YP hd;generalize 10000^((bg b).drop k).length=X at*;omega
 have h3:=ajt _ _ h2;have h4:((bg b).drop k).length<=(bg b).length:=by simp
 omega
theorem aKl{v u:AV}{a b:Nat}(hv:oz 1 v (ints (bg a)))(hu:oz 1 u (ints (bg b)))(ha:(bg a).length<=20000)(hb:(bg b).length<=20000)(h:Heap)(lo:Nat) :
  (run lib).fn 181 [v,u] h lo=some (if b=0 then .own 0 []else .eY 1 (ints (bg (a*b))),h):=by
 obtain⟨v',f1,f1',f2,f3,f4,f5⟩:=YR hv;obtain⟨u',g1,g1',g2,g3,g4,g5⟩:=YR hu;have dm:=Rp b;have i0:tmI a (bg b) (bg b).length (none,0):=⟨by simp[gv],fun h=>by omega,fun _=>rfl⟩
 have hbk:=aph (H:=tmH h v' u') (nb:=h.length+3) (lo:=h.length) (id:=h.length+0) (Y:=tmY a (bg b)) (Iv:=tmI a (bg b)) g4 (by omega) (fun s=>by simp[tmH]) (by omega)
  (fun k s hk hi _=>aB2 dm k s hk hi) (fun k s hk hi=>aKj f4 dm ha h k hk s (aKk ha hb hi) h.length (iJ _)) (none,0) i0
 have hfin:=auA (Iv:=tmI a (bg b)) (fun s k=>rfl) (fun k s hk hi=>aB2 dm k s hk hi) (bg b).length (none,0) (iJ _) i0;obtain⟨s',hs'⟩:∃ s',s'=Mq (tmY a (bg b)) (bg b).length (none,0):=⟨_,rfl⟩;rw[<-hs']at hbk hfin;clear hs';obtain⟨o,w⟩:=s';have e1:=hfin.1;simp only[List.drop_zero,Mc,abJ]at e1;have bw:=apj u u' g1 g1' g2 g5
 have g3':=abE (L:=lib) (lo:=h.length) (ns:=3) (s:=0) (g:=12) (it:=175) (v:=0) (caps:=[.iE [u']]) (env:=tmE h v' u') (h:=h) (b:=.dead) (fr:=[(0,.dead),(0,.dead),(1,.box [.bO])])
  (fr':=[(1,.aV ⟨12,h.length,h.length,3,tmE h v' u'⟩ .ready),(w,.dead),(1,.box [abM o])]) (f:=.t 9) rfl (by omega) rfl hbk rfl
 simp only[tmE,List.set_cons_zero]at g3';rw[jH (x:=aoQ) rfl rfl rfl rfl];by_cases h0:b=0
 ·subst h0;have ho:o=none:=hfin.2.2 rfl;subst ho;simp only[abM]at g3';rw[if_pos rfl];simp(maxSteps:=1000000)(disch:=omega)only[go_sem,aoQ,f1,f2,f5,g2,bw,g3']
 ·have hne:bg b≠[]:=fun e=>h0 (abG.mp e);have ho:o≠none:=hfin.2.1 (SC.mpr hne);obtain⟨n,rfl⟩:=Option.ne_none_iff_exists'.mp ho;simp only[Option.getD_some]at e1;subst e1;simp only[abM]at g3';rw[if_neg h0];simp(maxSteps:=1000000)(disch:=omega)only[go_sem,aoQ,f1,f2,f5,g2,bw,g3']
end Go.VI.Dump
namespace Go.VI.Dump
open Go.VI.Num
theorem aKm(a b:Int):(0<qd a b)↔b<a:=by
 unfold qd;by_cases h1:a<b
 ·rw[if_pos h1];omega
 ·rw[if_neg h1];by_cases h2:a=b
  ·rw[if_pos h2];omega
  ·rw[if_neg h2];omega
theorem aKn{u r:AV}{m n:Nat}(hm0:m≠0)(hu:oz 1 u (ints (bg m)))(hr:oz 1 r (ints (bg n)))(hm:(bg m).length<=20000)(hn:(bg n).length<=20000)(h:Heap)(i1 v1 i2 v2:Nat)
  (e1:h[i1]?=some (v1,.box [.fn (1000+147) [u]])) (e2:h[i2]?=some (v2,.box [r])) (d:Nat) (hd:d<9999) (lo:Nat) :
  (run lib).fn 148 [.int .i64 d,.bq i1 v1 0,.bq i2 v2 0] h lo=some (.bool (decide (n/m<=d)),h):=by
 have c1:qL h (.bq i1 v1 0)=some [.fn (1000+147) [u]]:=by simp[qL,e1]
 have c2:qL h (.bq i2 v2 0)=some [r]:=by simp[qL,e2]
 have b:=fun H lo=>auy (k:=d+1) hu (by omega) (by omega) H lo
 rw[Dm]at b
 have hl:(bg (m*(d+1))).length<=1000000:=by
  have h1:=apn m (d+1);have h2:=ajt 1 (d+1) (by omega)
  omega
 have k:=fun H lo=>apk (v:=.eY 1 (ints (bg (m*(d+1))))) (l:=bg (m*(d+1))) (.inr ⟨1,.inl rfl,.inl rfl⟩) hr hl (by omega) H lo
 rw[aud]at k
 have hdec:decide (0<qd ((m*(d+1):Nat):Int) (n:Int))=decide (n/m<=d):=by
  rw[decide_eq_decide,aKm];have hpos:0<m:=by omega
  have h1:n/m<d+1↔n<(d+1)*m:=Nat.div_lt_iff_lt_mul hpos;rw[Y4]at h1;omega
 rw[jH (x:=atU) rfl rfl rfl rfl];simp(maxSteps:=1000000)(disch:=omega)only[go_sem,atU,c1,c2,b,k,hdec]
end Go.VI.Dump
namespace Go.VI.Dump
open Go.VI.Num
theorem aKo(d:Nat)(hd:d<=9999):∃ X:AV,oz 1 X (ints (bg d))/\X.closed=true/\X.val=true/\X.cells=[X]/\∀ h lo,(run lib).fn 146 [.fT 1 [.int .i64 d]] h lo=some (X,h):=by
 have s1:LZ false (.fT 1 [.int .i64 d])=some (.int .i64 1):=rfl;have e3:vJ 1 (.fT 1 [.int .i64 d]) (.int .i64 0)=some 0:=rfl;have e4:∀ off H,qL H (.nS (.fT 1 [.int .i64 d]) 0 off)=some ([AV.int .i64 d].drop off):=fun off H=>rfl;by_cases h0:d=0
 ·subst h0;have hs:Rc (some 1) (.fT 1 [.int .i64 ((0:Nat):Int)]) none (some (.int .i64 0))=some (.eY 1 []):=rfl;refine⟨.eY 1 [],.inr ⟨1,.inl rfl,.inl rfl⟩,rfl,rfl,rfl,fun h lo=>?_⟩;have t:=aBV (l:=[]) (by simp) ⟨h.length,h.length,0,none⟩ h 0 (iJ _)
  simp only[List.take_nil,ints,List.map_nil]at t;have ez:((0:Nat):Int)=0:=rfl;rw[ez]at s1 e3 e4 hs⊢
  have w:bV lib ⟨h.length,h.length,0,none⟩ (.loop akv) ([(0,.fT 1 [.int .i64 0])],h)=some (.exit 0,([(0,.eY 1 [])],h)):=by
   rw[jm];simp(maxSteps:=1000000)(disch:=omega)only[go_sem,s1,e3,e4,hs,t]
  rw[jH (x:=aco) rfl rfl rfl rfl];simp(maxSteps:=1000000)(disch:=omega)only[go_sem,aco,w]
 ·have hg:bg d=[(d:Int)]:=by
   rw[acp h0,Nat.mod_eq_of_lt (by omega),show d/10000=0 by omega];rfl
  have c:¬ (d:Int)=0:=by omega
  refine⟨.fT 1 [.int .i64 d],by rw[hg];exact .inr ⟨1,.inr rfl,.inl rfl⟩,rfl,rfl,rfl,fun h lo=>?_⟩
  have w:bV lib ⟨h.length,h.length,0,none⟩ (.loop akv) ([(0,.fT 1 [.int .i64 d])],h)=some (.exit 0,([(0,.fT 1 [.int .i64 d])],h)):=by
   rw[jm];simp(maxSteps:=1000000)(disch:=omega)only[go_sem,s1,e3,e4,c]
  rw[jH (x:=aco) rfl rfl rfl rfl];have hg2:tJ h.length (.fT 1 [.int .i64 d]) h=some (.fT 1 [.int .i64 d]):=rfl;simp(maxSteps:=1000000)(disch:=omega)only[go_sem,aco,w,hg2,Option.map_some]
end Go.VI.Dump
namespace Go.VI.Dump
open Go.VI.Num
def ovE(h:Heap)(v u:AV):Env:=[(3,.iE [u]),(4,.bq (h.length+4) 1 0),(5,.bq (h.length+5) 1 0),(14,.fn 175 [.iE [v]])]
structure OvS where
 q:List Int
 R:Nat
 rv:AV
 s1:Nat×aU
 w2:Nat
def ovH(h:Heap)(v u:AV)(N:Nat)(s:OvS):Heap:=h++[(1,.aV ⟨9,h.length,h.length,6,ovE h v u⟩ .ready),s.s1,(s.w2,.dead),(1,.arr 1 (ints s.q)),(1,.box [.ref (h.length+3) 1 1 0 N N]),(1,.box [s.rv])]
def Zl(u:AV)(m:Nat)(d:Nat)(k:Nat)(s:OvS):OvS :=
 ⟨s.q.set k ((d+10000*s.R)/m:Nat),(d+10000*s.R)%m,.eY 1 (ints (bg ((d+10000*s.R)%m))),(s.s1.1+1,.box [.fn (1000+147) [u]]),if s.R=0 then s.w2 else s.w2+1⟩
theorem aKp{rv:AV}{R d:Nat}(hr:oz 1 rv (ints (bg R)))(hR:(bg R).length<=20000)(hd:d<=9999):∃ X:AV,oz 1 X (ints (bg (d+10000*R)))/\X.closed=true/\X.val=true/\X.cells=[X] /\
  ∀(h fr:Heap) (w:Nat) (p:Nat×Nat),fr[2]?=some (w,.dead)->∃ Y:AV,(wG ⟨h.length,h.length,6,some p⟩ (1002-1000) 1 17592186044416 (.fT 1 [.int .i64 d]) (ints (bg R)) (h++fr)).bind (fun r=>gI h.length false r.1 r.2)=some (Y,h++(if R=0 then fr else fr.set 2 (w+1,.dead))) /\
   ∀ H lo,(run lib).fn 146 [Y] H lo=some (X,H):=by
 by_cases h0:R=0
 ·subst h0;obtain⟨X,x1,x2,x3,x4,x5⟩:=aKo d hd;refine⟨X,by rw[Nat.mul_zero,Nat.add_zero];exact x1,x2,x3,x4,fun h fr w p hf=>⟨.fT 1 [.int .i64 d], ?_,x5⟩⟩
  simp[wG,abF,ints,gI]
 ·have hne:bg R≠[]:=fun e=>h0 (abG.mp e);have hdig:qG ((d:Int)::bg R):=qG.cons.mpr ⟨by omega,Rp R⟩
  have ht:IU ((d:Int)::bg R)=bg (d+10000*R):=by
   rw[akz hdig,gv,Mc];congr 1
  have hl:((d:Int)::bg R).length<=1000000:=by simp;omega
  have t:=ape hl;rw[ht]at t;refine⟨.eY 1 (ints (bg (d+10000*R))),.inr ⟨1,.inl rfl,.inl rfl⟩,rfl,rfl,rfl,fun h fr w p hf=>⟨.eY 1 (ints ((d:Int)::bg R)), ?_,t⟩⟩;rw[if_neg h0];have:=aBZ (lo:=h.length) (ns:=6) (s:=2) (z:=1) (lim:=17592186044416) (v:=w) (p:=p) (h:=h) (fr:=fr) (b:=.dead) (es:=[.int .i64 d]) (xs:=ints (bg R)) (by omega) hf (by intro e;exact hne (by simpa[ints]using e)) (by simp;omega)
  exact this
end Go.VI.Dump
namespace Go.VI.Dump
open Go.VI.Num
theorem aKq{z:Nat}{v:AV}{es:List AV}(p:oz z v es):weak v=v:=by
 rcases p with⟨rfl,rfl⟩|⟨z',rfl|rfl,hz⟩<;>rfl
theorem aKr{v u:AV}{m:Nat}(hm0:m≠0)(hu:oz 1 u (ints (bg m)))(uc:u.closed=true)(hm:(bg m).length<=15000)(N:Nat)(hN:N<=20000)(h:Heap)(s:OvS)(hq:s.q.length=N)(hr:oz 1 s.rv (ints (bg s.R)))(hR:s.R<m)(rv1:s.rv.val=true)(k:Nat)(hk:k<N)(d:Nat)(hd:d<=9999)(lo:Nat)(hlo:lo<=h.length) :
  tK (run lib) ⟨lo,h.length+6,0,none⟩ (h.length+0) 1 [.int .i64 k,.int .i64 d] (ovH h v u N s)=some (.bool true,ovH h v u N (Zl u m d k s)):=by
 obtain⟨q,R,rv,s1,w2⟩:=s;obtain⟨w1,b1⟩:=s1;simp only[]at hq hr hR rv1;obtain⟨D,hD⟩:∃ D:kP,D=⟨9,h.length,h.length,6,ovE h v u⟩:=⟨_,rfl⟩;simp only[ovH,Zl,<-hD];have hRl:(bg R).length<=15000:=Np (aeI (Nat.le_of_lt hR)) hm;obtain⟨X,x1,x2,x3,x4,x5⟩:=aKp (d:=d) hr (by omega) hd
 obtain⟨n,hn⟩:∃ n,n=d+10000*R:=⟨_,rfl⟩;rw[<-hn]at x1⊢;obtain⟨t,ht⟩:∃ t,t=n/m:=⟨_,rfl⟩
 have ht9:t<=9999:=by
  have:n<10000*m:=by omega
  have:=Nat.div_lt_of_lt_mul (by rw[Y4];exact this:n<m*10000)
  omega
 have hnl:(bg n).length<=15001:=by
  have h1:n<=10000*m:=by omega
  have h2:=aeI h1;rw[<-apl hm0]at h2;simp at h2;omega
 have hmt:n-m*t=n%m:=by rw[ht];have:=Nat.div_add_mod n m;omega
 rw[<-ht];obtain⟨W,hW⟩:∃ W,W=if R=0 then w2 else w2+1:=⟨_,rfl⟩
 have ha':bV lib ⟨h.length,h.length,6,some (h.length+0,1)⟩ r9.xQ ((r9.ps.zip [.int .i64 k,.int .i64 d]).foldl (fun e p=>e.set p.1 p.2) (ovE h v u),h++[(1,.aV D .ready),(w1,b1),(w2,.dead),(1,.arr 1 (ints q)),(1,.box [.ref (h.length+3) 1 1 0 N N]),(1,.box [rv])]) =
   some (.norm,([(3,.iE [u]),(4,.bq (h.length+4) 1 0),(5,.bq (h.length+5) 1 0),(6,.int .i64 k),(7,.int .i64 d)],h++[(1,.aV D .ready),(w1,b1),(w2,.dead),(1,.arr 1 (ints q)),(1,.box [.ref (h.length+3) 1 1 0 N N]),(1,.box [rv])])):=by
  simp(maxSteps:=1000000)(disch:=omega)only[go_sem,r9,ovE,List.zip_cons_cons,ZU,List.foldl_cons,TA]
 have hg:(h++[(1,aU.aV D .ready),(w1,b1),(w2,.dead),(1,.arr 1 (ints q)),(1,.box [.ref (h.length+3) 1 1 0 N N]),(1,.box [rv])])[h.length+0]?=some (1,.aV ⟨9,h.length,h.length,6,ovE h v u⟩ .ready):=by rw[ku,<-hD];rfl
 have hb:bV lib ⟨h.length,h.length,6,some (h.length+0,1)⟩ r9.body ([(3,.iE [u]),(4,.bq (h.length+4) 1 0),(5,.bq (h.length+5) 1 0),(6,.int .i64 k),(7,.int .i64 d)],(h++[(1,aU.aV D .ready),(w1,b1),(w2,aU.dead),(1,aU.arr 1 (ints q)),(1,aU.box [.ref (h.length+3) 1 1 0 N N]),(1,aU.box [rv])]).set (h.length+0) (1,.aV D .busy)) =
   some (.norm,([],h++[(1,.aV D .busy),(w1+1,.box [.fn (1000+147) [u]]),(W,.dead),(1,.arr 1 (ints (q.set k t))),(1,.box [.ref (h.length+3) 1 1 0 N N]),(1,.box [.eY 1 (ints (bg (n%m)))])])):=by
  rw[o7];have src:=fun H:Heap=>asP (hr.sl H);obtain⟨Y,y1,y2⟩:=x5 h [(1,.aV D .busy),(w1,b1),(w2,.dead),(1,.arr 1 (ints q)),(1,.box [.ref (h.length+3) 1 1 0 N N]),(1,.box [rv])] w2 (h.length+0,1) rfl
  have y1':(wG ⟨h.length,h.length,6,some (h.length+0,1)⟩ (1002-1000) 1 17592186044416 (.fT 1 [.int .i64 d]) (ints (bg R)) (h++[(1,.aV D .busy),(w1,b1),(w2,.dead),(1,.arr 1 (ints q)),(1,.box [.ref (h.length+3) 1 1 0 N N]),(1,.box [rv])])).bind (fun r=>gI h.length false r.1 r.2)=some (Y,h++[(1,.aV D .busy),(w1,b1),(W,.dead),(1,.arr 1 (ints q)),(1,.box [.ref (h.length+3) 1 1 0 N N]),(1,.box [rv])]):=by
   rw[y1,hW];by_cases h0:R=0
   ·rw[if_pos h0,if_pos h0]
   ·rw[if_neg h0,if_neg h0];rfl
  have p1:qE ⟨h.length,h.length,6,some (h.length+0,1)⟩ (h++[(1,.aV D .busy),(w1,b1),(W,.dead),(1,.arr 1 (ints q)),(1,.box [.ref (h.length+3) 1 1 0 N N]),(1,.box [rv])]) 1 (.bq (h.length+5) 1 0) X=some (h++[(1,.aV D .busy),(w1,b1),(W,.dead),(1,.arr 1 (ints q)),(1,.box [.ref (h.length+3) 1 1 0 N N]),(1,.box [X])]):=by
   rw[Ro (iJ _) x2,if_pos ⟨by rw[x4];rfl,x3⟩]
   simp(maxSteps:=1000000)(disch:=omega)only[go_sem,x4]
  have p2:mK ⟨h.length,h.length,6,some (h.length+0,1)⟩ 1 (.box [.yX]) (h++[(1,.aV D .busy),(w1,b1),(W,.dead),(1,.arr 1 (ints q)),(1,.box [.ref (h.length+3) 1 1 0 N N]),(1,.box [X])])=some (w1+1,h++[(1,.aV D .busy),(w1+1,.box [.yX]),(W,.dead),(1,.arr 1 (ints q)),(1,.box [.ref (h.length+3) 1 1 0 N N]),(1,.box [X])]):=by
   rw[Zk (by rfl)]
   simp(maxSteps:=1000000)(disch:=omega)only[go_sem]
  have p3:qE ⟨h.length,h.length,6,some (h.length+0,1)⟩ (h++[(1,.aV D .busy),(w1+1,.box [.yX]),(W,.dead),(1,.arr 1 (ints q)),(1,.box [.ref (h.length+3) 1 1 0 N N]),(1,.box [X])]) 1 (.bq (h.length+1) (w1+1) 0) (.fn (1000+147) [u])=some (h++[(1,.aV D .busy),(w1+1,.box [.fn (1000+147) [u]]),(W,.dead),(1,.arr 1 (ints q)),(1,.box [.ref (h.length+3) 1 1 0 N N]),(1,.box [X])]):=by
   rw[Ro (iJ _) (by simp[AV.closed,AV.EY,uc]),if_pos ⟨rfl,rfl⟩]
   simp(maxSteps:=1000000)(disch:=omega)only[go_sem]
  have q1:vJ 1 (.ref (h.length+3) 1 1 0 N N) (.int .i64 k)=some k:=by simp[vJ,xB,DY,idx];omega
  have sr:=aKg (f:=148) (caps:=[.bq (h.length+1) (w1+1) 0,.bq (h.length+5) 1 0]) (h:=h++[(1,.aV D .busy),(w1+1,.box [.fn (1000+147) [u]]),(W,.dead),(1,.arr 1 (ints q)),(1,.box [.ref (h.length+3) 1 1 0 N N]),(1,.box [X])]) (t:=t) (n:=9999) (by omega) (by omega)
   (fun d hd=>by rw[ht];exact aKn hm0 hu x1 (by omega) (by omega) _ _ _ _ _ (by rw[ku];rfl) (by rw[ku];rfl) d hd _)
  rw[Nat.min_eq_right ht9,show ((9999:Nat):Int)=9999 from rfl]at sr
  have p4:=asQ (cx:=⟨h.length,h.length,6,some (h.length+0,1)⟩) (h:=h++[(1,.aV D .busy),(w1+1,.box [.fn (1000+147) [u]]),(W,.dead),(1,.arr 1 (ints q)),(1,.box [.ref (h.length+3) 1 1 0 N N]),(1,.box [X])]) (id:=h.length+3) (ak:=1) (o:=0) (len:=N) (fill:=N) (i:=k) (k:=.i64) (l:=q) (n:=(t:Int)) (by rw[ku];rfl) hq (by omega) hk (by simp only[];omega)
  simp only[F6,o7,List.set_cons_succ,List.set_cons_zero]at p4;have so:=Sl.aki (h:=h) (fr:=[(1,.aV D .busy),(w1+1,.box [.fn (1000+147) [u]]),(W,.dead),(1,.arr 1 (ints (q.set k t))),(1,.box [.ref (h.length+3) 1 1 0 N N]),(1,.box [X])]) (s:=3) (ak:=1) (z:=1) (es:=ints (q.set k t)) rfl;simp only[DI,Td,hq]at so;have q2:=fun off=>Ab (off:=off) so.DC (show k<(ints (q.set k (t:Int))).length by simp;omega)
  simp only[acy,List.getElem_set_self]at q2;have hby:=fun H lo=>auy (k:=t) hu (by omega) (by omega) H lo
  have hml:(bg (m*t)).length<=50000:=by
   have h1:=apn m t;have h2:=ajt 1 t (by omega)
   omega
  have hmi:=fun H lo=>apg (a:=n) (b:=m*t) (u:=.eY 1 (ints (bg (m*t)))) x1 (.inr ⟨1,.inl rfl,.inl rfl⟩) (by rw[ht];exact Nat.mul_div_le n m) (by omega) H lo
  rw[hmt]at hmi
  have p5:∀ es:List AV,qE ⟨h.length,h.length,6,some (h.length+0,1)⟩ (h++[(1,.aV D .busy),(w1+1,.box [.fn (1000+147) [u]]),(W,.dead),(1,.arr 1 (ints (q.set k t))),(1,.box [.ref (h.length+3) 1 1 0 N N]),(1,.box [X])]) 1 (.bq (h.length+5) 1 0) (.eY 1 es)=some (h++[(1,.aV D .busy),(w1+1,.box [.fn (1000+147) [u]]),(W,.dead),(1,.arr 1 (ints (q.set k t))),(1,.box [.ref (h.length+3) 1 1 0 N N]),(1,.box [.eY 1 es])]):=fun es=>by
   rw[Ro (iJ _) rfl,if_pos ⟨rfl,rfl⟩];simp(maxSteps:=1000000)(disch:=omega)only[go_sem]
  simp only[ints]at p4 p5 y1' p1 p2 p3 q2 sr hby hmi src⊢;have xw:=aKq x1;have n1:¬ h.length=h.length+4:=by omega
  have n2:¬ h.length=h.length+1:=by omega
  simp(maxSteps:=1000000)(disch:=omega)only[go_sem,r9,n1,n2,src,y1',y2,xw,p1,p2,p3,q1,sr,p4,q2,hby,hmi,p5]
 have:=Zb (L:=lib) (cx:=⟨lo,h.length+6,0,none⟩) hg hlo (by omega) (by omega) (by simp[AV.EY,AV.closed]) (x:=r9) rfl rfl ha' (by rw[ku];rfl) hb (by rw[ku];rfl)
 rw[this,o7,hW];rfl
end Go.VI.Dump
namespace Go.VI.Dump
open Go.VI.Num
theorem aKt{d T m R:Nat}(hm:m≠0)(hR:R=T%m):(d+10000*T)/m=(d+10000*R)/m+10000*(T/m)/\(d+10000*T)%m=(d+10000*R)%m:=by
 have h:=Nat.div_add_mod T m
 have e:d+10000*T=(d+10000*R)+m*(10000*(T/m)):=by
  have e1:m*(10000*(T/m))=10000*(m*(T/m)):=by rw[<-Nat.mul_assoc,Y4 m 10000,Nat.mul_assoc]
  rw[e1,hR];generalize m*(T/m)=X at*;omega
 rw[e];exact⟨Nat.add_mul_div_left _ _ (by omega),Nat.add_mul_mod_self_left _ _ _⟩
theorem aB3{q:List Int}{k:Nat}(hk:k<q.length)(x:Int):(q.set k x).drop k=x::q.drop (k+1):=by
 rw[JB (by simpa using hk)]
 simp[List.drop_set]
end Go.VI.Dump
namespace Go.VI.Dump
open Go.VI.Num
def ovI(a m N k:Nat)(s:OvS):Prop:=s.q.length=N/\oz 1 s.rv (ints (bg s.R))/\s.rv.val=true/\s.R=(gv ((bg a).drop k)).toNat%m/\gv (s.q.drop k)=((gv ((bg a).drop k)).toNat/m:Nat)/\qG (s.q.drop k)
theorem aB4{u:AV}{a m N:Nat}(hm:m≠0)(hN:N=(bg a).length)(k:Nat)(s:OvS)(hk:k<N)(d:Nat)(hd:((bg a).getD k 0).toNat=d)(hi:ovI a m N (k+1) s):ovI a m N k (Zl u m d k s):=by
 obtain⟨h1,h2,h3,h4,h5,h6⟩:=hi;have hka:k<(bg a).length:=by omega
 have gm:(bg a).getD k 0=(bg a)[k]:=by rw[Md,Fv hka];rfl
 have hx:=Rp a (bg a)[k] (JC hka);have hdg:qG ((bg a).drop (k+1)):=fun x hx=>Rp a x (List.mem_of_mem_drop hx);have hg:=YP hdg;rw[gm]at hd
 have hT:(gv ((bg a).drop k)).toNat=d+10000*(gv ((bg a).drop (k+1))).toNat:=by
  rw[JB hka,gv];omega
 obtain⟨e1,e2⟩:=aKt (d:=d) hm h4;have hRm:s.R<m:=by rw[h4];exact Nat.mod_lt _ (by omega)
 have ht:(d+10000*s.R)/m<=9999:=by
  have h9:d<=9999:=by omega
  have:=Nat.div_lt_of_lt_mul (show d+10000*s.R<m*10000 by omega)
  omega
 refine⟨by simp[Zl,h1],.inr ⟨1,.inl rfl,.inl rfl⟩,rfl, ?_, ?_, ?_⟩
 ·rw[hT,e2];rfl
 ·simp only[Zl];rw[aB3 (by omega),gv,h5,hT,e1]
  generalize (d+10000*s.R)/m=t;generalize (gv ((bg a).drop (k+1))).toNat/m=Q;omega
 ·simp only[Zl];rw[aB3 (by omega)]
  refine qG.cons.mpr ⟨?_,h6⟩;generalize (d+10000*s.R)/m=t at*;omega
end Go.VI.Dump
namespace Go.VI.Dump
open Go.VI.Num
theorem aKu{l:List Int}(hl:l.length<=1000000)(cx:Cx)(H:Heap)(id:Nat)(hid:H[id]?=some (1,.arr 1 (ints l))):∀ k:Nat,k<=l.length ->
  bV lib cx (.loop akv) ([(0,.ref id 1 1 0 k l.length)],H)=some (.exit 0,([(0,.ref id 1 1 0 (SB l k) l.length)],H)):=by
 intro k
 induction k with
 |zero =>
  intro hk;rw[jm];have s3:LZ false (.ref id 1 1 0 0 l.length)=some (.int .i64 0):=rfl;simp only[SB]
  simp(maxSteps:=1000000)(disch:=omega)only[go_sem,s3,DV]
 |succ k ih =>
  intro hk;have s3:LZ false (.ref id 1 1 0 (k+1) l.length)=some (.int .i64 ((k:Int)+1)):=rfl;have c1:(0:Int)<(k:Int)+1:=by omega
  have e0:(k:Int)+1-1=k:=by omega
  have e3:vJ 1 (.ref id 1 1 0 (k+1) l.length) (.int .i64 k)=some k:=by simp[vJ,xB,DY,idx]
  have hg:l.getD k 0=l[k]:=by rw[Md,Fv (by omega)];rfl
  have e4:qL H (.nS (.ref id 1 1 0 (k+1) l.length) k 0)=some [.int .i64 l[k]]:=by
   have hb:k+1<=l.length:=hk;have hk':k<l.length:=by omega
   simp only[qL,wF,hid,DI];simp[hb,ints,IA,hk',AV.cells]
  have hsl:Rc (some 1) (.ref id 1 1 0 (k+1) l.length) none (some (.int .i64 k))=some (.ref id 1 1 0 k l.length):=by
   have hb:bnd (some (.int .i64 k)) (k+1) (k+1)=some k:=by rw[aou (by omega) (by omega)];simp
   rw[asU,hb];simp[bnd]
  have ih':=ih (by omega)
  simp only[SB,hg];rw[jm];by_cases c2:l[k]=0
  ·rw[if_pos c2];simp(maxSteps:=1000000)(disch:=omega)only[go_sem,s3,c1,e0,e3,e4,c2,hsl,ih']
  ·rw[if_neg c2];simp(maxSteps:=1000000)(disch:=omega)only[go_sem,s3,c1,e0,e3,e4,c2]
theorem aB5{l:List Int}(hl:l.length<=1000000)(h:Heap)(id:Nat)(hid:h[id]?=some (1,.arr 1 (ints l)))(N:Nat)(hN:l.length=N)(lo:Nat):(run lib).fn 146 [.ref id 1 1 0 N N] h lo=some (.ref id 1 1 0 (IU l).length N,h):=by
 subst hN;have e:=fun cx=>aKu hl cx h id hid l.length (iJ _);have hlt:id<h.length:=(kS.mp hid).1
 have hg:∀ t N,tJ h.length (.ref id 1 1 0 t N) h=some (.ref id 1 1 0 t N):=fun t N=>by
  simp[tJ,give,gI,show ¬ h.length<=id by omega]
 have ht:(IU l).length=SB l l.length:=by
  have:=aoS l l.length;simp[IU];omega
 rw[jH (x:=aco) rfl rfl rfl rfl,ht];simp(maxSteps:=1000000)(disch:=omega)only[go_sem,aco,e,hg,Option.map_some]
def ovQ(a m:Nat):AV:=if (bg (a/m)).length=(bg a).length then .own 1 (ints (bg (a/m)))else .eY 1 (ints (bg (a/m)))
def amG(a m:Nat):AV:=if a=0 then .own 0 []else .eY 1 (ints (bg (a%m)))
def YS(a m:Nat):AV:=if a=0 then .eY 0 []else .eY 1 (ints (bg (a%m)))
@[go_sem] theorem aSP(a m:Nat):yY (ovQ a m)=.eY 1 (ints (bg (a/m))):=by unfold ovQ;split<;>rfl
@[go_sem] theorem aSQ(a m:Nat):yY (amG a m)=YS a m:=by unfold amG YS;split<;>rfl
@[go_sem] theorem aSR(a m:Nat):(YS a m).val=true:=by unfold YS;split<;>rfl
@[go_sem] theorem aSS(a m:Nat):(YS a m).cells=[YS a m]:=by unfold YS;split<;>rfl
@[go_sem] theorem aST(a m:Nat):(YS a m).closed=true:=by unfold YS;split<;>rfl
theorem aB6(a m:Nat):oz 1 (YS a m) (ints (bg (a%m))):=by
 unfold YS;by_cases h:a=0
 ·rw[if_pos h];subst h;rw[Nat.zero_mod,abF];exact .inr ⟨0,.inl rfl,.inr rfl⟩
 ·rw[if_neg h];exact .inr ⟨1,.inl rfl,.inl rfl⟩
theorem akG(l:List Int):oz 1 (.eY 1 (ints l)) (ints l):=.inr ⟨1,.inl rfl,.inl rfl⟩
theorem aB7{u:AV}{a m N:Nat}(hm:m≠0)(hN:N=(bg a).length)(s0:OvS)(h0:ovI a m N N s0):∀ k s,k<=N->ovI a m N k s->ovI a m N 0 (Mq (fun s k=>(true,Zl u m ((bg a).getD k 0).toNat k s)) k s)
 |0,s,_,h=>h
 |k+1,s,hk,h=>by
  simp only[Mq,if_true];exact aB7 hm hN s0 h0 k _ (by omega) (aB4 hm hN k s (by omega) _ rfl h)
end Go.VI.Dump
namespace Go.VI.Dump
open Go.VI.Num
theorem aKv{z:Nat}{v:AV}{es:List AV}(p:oz z v es):v.closed=true:=by
 rcases p with⟨rfl,rfl⟩|⟨z',rfl|rfl,hz⟩<;>rfl
theorem aB8{u:AV}{m:Nat}{D:Nat->Nat}:∀(k:Nat) (s:OvS),0<k->(Mq (fun s k=>(true,Zl u m (D k) k s)) k s).rv=.eY 1 (ints (bg (Mq (fun s k=>(true,Zl u m (D k) k s)) k s).R))
 |0,s,h=>by omega
 |1,s,h=>by simp only[Mq,if_true];rfl
 |k+2,s,h=>by
  rw[Mq,if_pos rfl];exact aB8 (k+1) _ (by omega)
theorem aKw{h fr:Heap}{l:List Int}{t N:Nat}{rv rv':AV}(hl:l.length=N)(ht:t<=N)(hf:fr[3]?=some (1,.arr 1 (ints l)))(hr:∀ H:Heap,give h.length rv H=some (rv',H)) :
  tJ h.length (.tuple [.ref (h.length+3) 1 1 0 t N,rv]) (h++fr)=some (.tuple [if t=N then .own 1 (ints l)else .eY 1 (ints (l.take t)),rv']):=by
 have hg:(h++fr)[h.length+3]?=some (1,.arr 1 (ints l)):=by rw[ku];exact hf
 have ha:wF (h++fr) (.ref (h.length+3) 1 1 0 t N)=some (ints (l.take t)):=by
  simp[wF,hg,hl,ht,ints,List.map_take]
 have hgv:give h.length (.ref (h.length+3) 1 1 0 t N) (h++fr)=some (if t=N then .own 1 (ints l)else .eY 1 (ints (l.take t)),(h++fr).set (h.length+3) (1,.dead)):=by
  by_cases c:t=N
  ·subst c;rw[if_pos rfl];rw[<-hl,QU]at ha;rw[<-hl];simp only[give,ha];simp
  ·rw[if_neg c];simp only[give];rw[if_neg (by omega)]
   simp[gI,ha]
 simp only[tJ,NH,hgv,hr,Option.bind_some,Option.map_some]
theorem aB9{v u:AV}{a m:Nat}(hm0:m≠0)(hv:oz 1 v (ints (bg a)))(hu:oz 1 u (ints (bg m)))(ha:(bg a).length<=15000)(hm:(bg m).length<=15000)(h:Heap)(lo:Nat) :
  (run lib).fn 110 [v,u] h lo=some (.tuple [ovQ a m,amG a m],h):=by
 obtain⟨v',f1,f1',f2,f3,f4,f5⟩:=YR hv;obtain⟨u',g1,g1',g2,g3,g4,g5⟩:=YR hu;have uc:=aKv g4;obtain⟨N,hN⟩:∃ N,N=(bg a).length:=⟨_,rfl⟩
 have i0:ovI a m N N ⟨List.replicate N 0,0,.bO,(0,.dead),0⟩:=by
  refine⟨by simp,.inl ⟨rfl,rfl⟩,rfl, ?_, ?_, ?_⟩
  ·rw[Zd (by omega)];simp[gv]
  ·rw[Zd (by simp),Zd (by omega)];simp[gv]
  ·rw[Zd (by simp)];exact qG.nil
 have hbk:=aph (H:=ovH h v' u' N) (nb:=h.length+6) (lo:=h.length) (id:=h.length+0) (Y:=fun s k=>(true,Zl u' m ((bg a).getD k 0).toNat k s)) (Iv:=ovI a m N) f4 (by omega) (fun s=>by simp[ovH]) (by omega)
  (fun k s hk hi _=>aB4 hm0 hN k s (by omega) _ rfl hi)
  (fun k s hk hi=>by
   have gm:(bg a).getD k 0=(bg a)[k]:=by rw[Md,Fv hk];rfl
   have hx:=Rp a (bg a)[k] (JC hk);have hR:s.R<m:=by rw[hi.2.2.2.1];exact Nat.mod_lt _ (by omega)
   have y:=aKr (v:=v') (u:=u') hm0 g4 uc hm N (by omega) h s hi.1 hi.2.1 hR hi.2.2.1 k (by omega) ((bg a).getD k 0).toNat (by rw[gm];omega) h.length (iJ _)
   have e:(((bg a).getD k 0).toNat:Int)=(bg a)[k]:=by rw[gm];omega
   rw[e]at y;exact y)
  ⟨List.replicate N 0,0,.bO,(0,.dead),0⟩ (by rw[<-hN];exact i0)
 have hfin:=aB7 (u:=u') hm0 hN _ i0 (bg a).length ⟨List.replicate N 0,0,.bO,(0,.dead),0⟩ (by omega) (by rw[<-hN];exact i0)
 have hrv:∀ H:Heap,give h.length (Mq (fun s k=>(true,Zl u' m ((bg a).getD k 0).toNat k s)) (bg a).length ⟨List.replicate N 0,0,.bO,(0,.dead),0⟩).rv H=some (amG a m,H):=by
  intro H;by_cases c:a=0
  ·subst c;rfl
  ·have hne:bg a≠[]:=fun e=>c (abG.mp e);have hR:=hfin.2.2.2.1;rw[List.drop_zero,Mc,abJ]at hR;rw[aB8 _ _ (SC.mpr hne),hR];unfold amG;rw[if_neg c];simp[give,gI]
 obtain⟨s',hs'⟩:∃ s',s'=Mq (fun s k=>(true,Zl u' m ((bg a).getD k 0).toNat k s)) (bg a).length ⟨List.replicate N 0,0,.bO,(0,.dead),0⟩:=⟨_,rfl⟩;rw[<-hs']at hbk hfin hrv;clear hs';obtain⟨q,R,rv,s1,w2⟩:=s';obtain⟨hq,hp,hval,hR,hQ,hdig⟩:=hfin;simp only[List.drop_zero,Mc,abJ]at hq hp hval hR hQ hdig hrv;have htr:IU q=bg (a/m):=by rw[akz hdig,hQ,abJ]
 have htl:(IU q).length<=N:=by simp[IU];omega
 have htk:q.take (bg (a/m)).length=bg (a/m):=by
  rw[<-htr];unfold IU;rw[JK,Nat.min_eq_left (aoS _ _)]
 have bw:=apj v v' f1 f1' f2 f5;have s1':=oW (hv.sl []).len;simp only[DI,<-hN]at s1';have rep:ints (List.replicate N 0)=List.replicate N (AV.int .i64 0):=by simp[ints]
 have g3':=abE (L:=lib) (lo:=h.length) (ns:=6) (s:=0) (g:=9) (it:=175) (v:=0) (caps:=[.iE [v']]) (env:=ovE h v' u') (h:=h) (b:=.dead) (fr:=[(0,.dead),(0,.dead),(0,.dead),(1,.arr 1 (ints (List.replicate N 0))),(1,.box [.ref (h.length+3) 1 1 0 N N]),(1,.box [.bO])])
  (fr':=[(1,.aV ⟨9,h.length,h.length,6,ovE h v' u'⟩ .ready),s1,(w2,.dead),(1,.arr 1 (ints q)),(1,.box [.ref (h.length+3) 1 1 0 N N]),(1,.box [rv])]) (f:=.t 14) rfl (by omega) rfl hbk rfl
 simp only[ovE,List.set_cons_zero,rep]at g3';have hmk:=fun hh=>aAi (h:=hh) (cx:=⟨h.length,h.length,6,none⟩) (s:=3) (z:=1) (zero:=.int .i64 0) (lim:=17592186044416) (k:=.i64) (k':=.i64) (a:=(N:Int)) (b:=(N:Int)) (by omega) (by omega) (by omega)
 have tr:=fun H hid lo=>aB5 (l:=q) (by omega) H (h.length+3) hid N hq lo
 have tr1:=tr (h++[(1,.dead),s1,(w2,.dead),(1,.arr 1 (ints q)),(1,.box [.ref (h.length+3) 1 1 0 N N]),(1,.box [rv])]) (by rw[ku];rfl)
 have og:=aKw (h:=h) (fr:=[(1,.dead),s1,(w2,.dead),(1,.arr 1 (ints q)),(1,.box [.ref (h.length+3) 1 1 0 (IU q).length N]),(1,.box [rv])]) (l:=q) hq htl rfl hrv;have hrc:rv.cells=[rv]:=by rcases hp with⟨rfl,_⟩|⟨z',rfl|rfl,hz⟩<;>rfl
 have hQv:(if (IU q).length=N then AV.own 1 (ints q)else .eY 1 (ints (q.take (IU q).length)))=ovQ a m:=by
  unfold ovQ;rw[htr,<-hN];by_cases c:(bg (a/m)).length=N
  ·rw[if_pos c,if_pos c];rw[c,<-hq,QU]at htk;rw[htk]
  ·rw[if_neg c,if_neg c,htk]
 rw[hQv]at og;have n1:¬ h.length=h.length+4:=by omega
 have n2:¬ h.length+4=h.length+5:=by omega
 have n3:¬ h.length+5=h.length+4:=by omega
 rw[jH (x:=atE) rfl rfl rfl rfl];simp(maxSteps:=1000000)(disch:=omega)only[go_sem,atE,f1,f2,f5,g1,g2,g5,s1',hmk,mkr,bw,g3',tr1,hrc,hval,n1,n2,n3,og]
end Go.VI.Dump
namespace Go.VI
theorem amH{α:Type}[BEq α][LawfulBEq α][DecidableEq α](a b:α):(a==b)=decide (a=b):=by rw[Bool.eq_iff_iff];simp
@[go_sem] theorem aSU(a b:List UInt8):xS .eql (.str a) (.str b)=some (.bool (decide (a=b))):=by simp only[xS,amH]
@[go_sem] theorem aSV(a b:List UInt8):xS .neq (.str a) (.str b)=some (.bool (decide (a≠b))):=by simp only[xS,amH];simp
theorem aB'{a b:List UInt8}(h:a.length+b.length<=1000000000000):xS .add (.str a) (.str b)=some (.str (a++b)):=by simp[xS,h]
theorem amI{L:Lib}{f:Nat}{args:List AV}{h:Heap}{lo:Nat}{r:AV}(ho:L.IW f args h=some r):(run L).fn f args h lo=some (r,h):=by rw[run_eq,ho]
theorem aKy{k:IntKind}(c:UInt8)(r:List UInt8)(h:Heap):al0 (.int k 0) h (.str (c::r))=some (.int .u8 c.toNat,h):=by simp[al0,aok,idx]
theorem aKz{k:IntKind}{l:List UInt8}{i:Nat}(hi:i<=l.length):Rc none (.str l) (some (.int k i)) none=some (.str (l.drop i)):=by
 simp[Rc,bnd];omega
theorem aKA{k:IntKind}{l:List UInt8}{i:Nat}(hi:i<=l.length):Rc none (.str l) none (some (.int k i))=some (.str (l.take i)):=by
 simp[Rc,bnd,hi]
end Go.VI
namespace Go.VI.Dump
open Go.VI.Num
theorem aCa(s p:List UInt8)(h:Heap)(lo:Nat):(run lib).fn 163 [.str s,.str p] h lo=some (.str (Lib.trimPrefix s p),h):=amI rfl
theorem aKB{s c:List UInt8}(hs:s.length<=1000)(hc:c.length<=1000)(ha:c.all (fun b=>decide (b.toNat<128))=true)(h:Heap)(lo:Nat):(run lib).fn 164 [.str s,.str c] h lo=some (.str (Lib.trimS s c),h):=by
 refine amI ?_
 show RU .trim [.str s,.str c] h=some _
 simp only[RU];rw[if_pos ⟨by unfold abC;omega,by unfold abC;omega,ha⟩]
theorem auD(s:List UInt8)(h:Heap)(lo:Nat):(run lib).fn 134 [.str s] h lo=some (.bool (ZP s),h):=by
 have tp:=fun H lo=>aCa s [45] H lo;have hb:body s=Lib.trimPrefix s [45]:=rfl;rw[<-hb]at tp;rw[jH (x:=ajg) rfl rfl rfl rfl];unfold ZP;generalize body s=d at*;by_cases c1:d=[]
 ·subst c1;simp(maxSteps:=1000000)(disch:=omega)only[go_sem,ajg,tp,List.isEmpty_nil]
 ·have c1':d.isEmpty=false:=by cases d with|nil=>exact absurd rfl c1|cons=>rfl
  by_cases c2:d.length<=200
  ·have c2':¬ (200:Int)<d.length:=by omega
   have tr:=aKB (s:=d) (c:=[48,49,50,51,52,53,54,55,56,57]) (by omega) (by decide) (by decide)
   have hds:ds=[48,49,50,51,52,53,54,55,56,57]:=rfl;rw[<-hds]at tr;rw[c1',decide_eq_true c2];by_cases c3:Lib.trimS d ds=[]
   ·rw[c3]at tr⊢;have hs:(s==[48])=decide (s=[48]):=amH s [48];rw[hs];by_cases c4:s=[48]
    ·subst c4;simp(maxSteps:=1000000)(disch:=omega)only[go_sem,ajg,tp,c1,c2',<-hds,tr,List.isEmpty_nil]
    ·obtain⟨c,r,rfl⟩:=akA c1;have hx:=fun H=>aKy (k:=.i64) c r H;have e:((c::r).head?==some 48)=decide (c=48):=by rw[amH];simp
     have e2:decide (((c.toNat:Nat):Int)=48)=decide (c=48):=by
      rw[decide_eq_decide,<-UInt8.toNat_inj];have:(48:UInt8).toNat=48:=rfl;omega
     rw[e];have e3:decide (((c.toNat:Nat):Int)≠48)=!decide (c=48):=by rw[<-e2];simp
     have aKC:¬ (200:Int)<(r.length:Int)+1:=by simp at c2;omega
     simp(maxSteps:=1000000)(disch:=omega)only[go_sem,ajg,tp,c1,Dm,aKC,<-hds,tr,c4,List.isEmpty_nil,hx];simp[e2]
   ·have c3':(Lib.trimS d ds).isEmpty=false:=by cases hh:Lib.trimS d ds with|nil=>exact absurd hh c3|cons=>rfl
    rw[c3'];simp(maxSteps:=1000000)(disch:=omega)only[go_sem,ajg,tp,c1,c2',<-hds,tr,c3]
  ·have c2':(200:Int)<d.length:=by omega
   rw[decide_eq_false c2];simp(maxSteps:=1000000)(disch:=omega)only[go_sem,ajg,tp,c1,c2']
end Go.VI.Dump
namespace Go.VI.Dump
open Go.VI.Num
theorem aKD{s:List UInt8}(hd:Tx s)(hn:s≠[])(hl:s.length<=18)(h:Heap)(lo:Nat):(run lib).fn 174 [.str s] h lo=some (.tuple [.int .i64 (dv 0 s:Nat),.zB],h):=by
 refine amI ?_;have e:=aJH hd hn hl
 show RU (.atoi _) [.str s] h=some _
 simp only[RU];rw[if_pos (by unfold abC;omega),e]
def psF(h:Heap)(neg:Bool)(acc:List Int)(B:Nat×aU):Heap:=[jw (0,.dead) 1 (ints acc),(1,.box [.bool neg,jJ (h.length+0) (0,.dead) 1 (ints acc)]),B]
theorem aKE(neg:Bool)(B:Nat×aU)(h:Heap):∀(f:Nat) (l:List UInt8) (acc:List Int),l.length<=f->Tx l->acc.length+l.length<=1000 ->
  bV lib ⟨h.length,h.length,3,none⟩ (.loop atO) ([(2,.bq (h.length+2) 1 0),(3,.str l),(4,.bq (h.length+1) 1 0)],h++psF h neg acc B) =
   some (.exit 0,([(2,.bq (h.length+2) 1 0),(4,.bq (h.length+1) 1 0)],h++psF h neg (acc++Sj f l) B)):=by
 intro f
 induction f with
 |zero =>
  intro l acc hl hd ha;have:l=[]:=List.length_eq_zero_iff.mp (by omega)
  subst this;rw[jm];simp only[Sj,Gs]
  simp(maxSteps:=1000000)(disch:=omega)only[go_sem,psF,DV]
 |succ f ih =>
  intro l acc hl hd ha;by_cases h0:l=[]
  ·subst h0;rw[jm];simp only[Sj,if_true,Gs];simp(maxSteps:=1000000)(disch:=omega)only[go_sem,psF,DV]
  ·have hlen:0<l.length:=SC.mpr h0;have hd1:Tx (l.take (l.length-4)):=fun x hx=>hd x (acU hx);have hd2:Tx (l.drop (l.length-4)):=fun x hx=>hd x (List.mem_of_mem_drop hx);have c1:(0:Int)<l.length:=by omega
   have em:max (0:Int) ((l.length:Int)-4)=((l.length-4:Nat):Int):=by omega
   have s1:=aKz (k:=.i64) (show l.length-4<=l.length by omega)
   have s2:=aKA (k:=.i64) (show l.length-4<=l.length by omega)
   have at1:=aKD hd2 (by intro e;have:=congrArg List.length e;simp at this;omega) (by simp;omega)
   have k:=ih (l.take (l.length-4)) (acc++[(dv 0 (l.drop (l.length-4)):Int)]) (by simp;omega) hd1 (by simp;omega)
   have e:acc++Sj (f+1) l=(acc++[(dv 0 (l.drop (l.length-4)):Int)])++Sj f (l.take (l.length-4)):=by simp[Sj,h0]
   rw[e];have ea:=fun x:Int=>RQ (lo:=h.length) (ns:=3) (s:=0) (z:=1) (lim:=17592186044416) (h:=h) (fr:=psF h neg acc B) (b0:=(0,.dead)) (es:=ints acc) (xs:=[.int .i64 x]) (by omega) (iJ _) rfl (by simp;omega)
   simp only[<-aBU,<-aBT,psF,List.set_cons_zero]at ea;generalize l.drop (l.length-4)=y at*;generalize dv 0 y=x at*;have hi:[AV.int .i64 (x:Int)]=ints [(x:Int)]:=rfl;simp only[psF]at k;rw[jm];simp(maxSteps:=1000000)(disch:=omega)only[go_sem,psF,c1,em,s1,s2,at1,hi,DI,ea,RF,k]
def abN(z:Int):AV:=.agg [.bool (decide (z<0)),.eY 1 (ints (bg z.natAbs))]
theorem aCb{z:Int}(hz:z.natAbs<10^200)(h:Heap)(lo:Nat):(run lib).fn 144 [.str (fZ z)] h lo=some (abN z,h):=by
 have tp:=fun H lo=>aCa (fZ z) [45] H lo;have hb:Lib.trimPrefix (fZ z) [45]=dec z.natAbs:=auj z;rw[hb]at tp
 have hneg:decide (((dec z.natAbs).length:Int)<(fZ z).length)=decide (z<0):=by
  rw[decide_eq_decide];unfold fZ;by_cases c:z<0
  ·rw[if_pos c];simp;omega
  ·rw[if_neg c];simp;omega
 have hl:=(amq (n:=z.natAbs) (k:=200) (by omega)).mpr hz
 obtain⟨k1,k2⟩:=aBv _ (dec z.natAbs) (iJ _) (amn _);rw[amo]at k1;have htr:=akz k2;rw[k1,abJ]at htr
 have hne:Sj (dec z.natAbs).length (dec z.natAbs)≠[]:=by
  have:=aeJ z.natAbs;obtain⟨c,r,e⟩:=akA this;rw[e];simp[Sj]
 have pl:=fun B=>aKE (decide (z<0)) B h _ (dec z.natAbs) [] (iJ _) (amn _) (by simp;omega)
 have hpl:(Sj (dec z.natAbs).length (dec z.natAbs)).length<=1000:=by
  have:∀ f l,(Sj f l).length<=f:=by
   intro f
   induction f with
   |zero=>intro l;exact iJ _
   |succ f ih =>
    intro l;simp only[Sj];split
    ·simp
    ·have:=ih (l.take (l.length-4));simp;omega
  have:=this (dec z.natAbs).length (dec z.natAbs);omega
 simp only[List.nil_append]at pl;generalize dec z.natAbs=d at*;generalize Sj d.length d=P at*;have aCc:ints P≠[]:=by intro e;exact hne (by simpa[ints]using e)
 simp only[psF,QV aCc,RI aCc,DI]at pl;have i0:jJ (h.length+0) (0,.dead) 1 (ints [])=.bO:=rfl;have j0:jw (0,.dead) 1 (ints [])=(0,.dead):=rfl;rw[i0,j0]at pl;have tr:=fun H hid lo=>aB5 (l:=P) (by omega) H (h.length+0) hid P.length rfl lo
 have tr1:=fun b2 b3=>tr (h++[(0+1,.arr 1 (ints P)),b2,b3]) (by rw[ku];rfl)
 have htl:(IU P).length<=P.length:=by simp[IU];omega
 have htk:P.take (IU P).length=bg z.natAbs:=by
  rw[<-htr];unfold IU;rw[JK,Nat.min_eq_left (aoS _ _)]
 have hfz:∀ b2 b3,gI h.length true (.ref (h.length+0) 1 1 0 (IU P).length P.length) (h++[(0+1,.arr 1 (ints P)),b2,b3])=some (.eY 1 (ints (bg z.natAbs)),h++[(1,.dead),b2,b3]):=fun b2 b3=>by
  have hg:(h++[(0+1,aU.arr 1 (ints P)),b2,b3])[h.length+0]?=some (1,.arr 1 (ints P)):=by rw[ku];rfl
  have ha:wF (h++[(0+1,aU.arr 1 (ints P)),b2,b3]) (.ref (h.length+0) 1 1 0 (IU P).length P.length)=some (ints (bg z.natAbs)):=by
   simp only[wF,hg];rw[if_pos (by simp[htl]),<-htk]
   simp[ints,List.map_take]
  simp only[gI];rw[if_pos (by omega),ha,o7]
  rfl
 rw[jH (x:=atP) rfl rfl rfl rfl];unfold abN;simp(maxSteps:=1000000)(disch:=omega)only[go_sem,atP,tp,hneg,RF,pl,tr1,hfz]
theorem amK{x y:Int}(hx:x.natAbs<10^200)(hy:y.natAbs<10^200)(h:Heap)(lo:Nat):(run lib).fn 109 [.str (fZ x),.str (fZ y)] h lo=some (.tuple [abN x,abN y,.bool true],h):=by
 have v1:=fun H lo=>auD (fZ x) H lo;have v2:=fun H lo=>auD (fZ y) H lo;have p1:=fun H lo=>aCb hx H lo;have p2:=fun H lo=>aCb hy H lo;rw[akB hx]at v1;rw[akB hy]at v2;simp only[abN]at p1 p2⊢;rw[jH (x:=atC) rfl rfl rfl rfl];simp(maxSteps:=1000000)(disch:=omega)only[go_sem,atC,v1,v2,p1,p2,RF]
end Go.VI.Dump
namespace Go.VI
def Mr(h:Heap)(W:List UInt8)(w:Nat):Nat×aU:=if W=[] then(0,.dead) else(w,.aV (kP.at (h.length+1) (.buf W)) (.nX (.buf W)))
def JL(h:Heap)(W:List UInt8)(w:Nat):Nat×aU:=(1,.aV (kP.at (h.length+2) (.nV (h.length+2) 1 (if W=[]then none else some (h.length+1,w)))) (.nX (.nV (h.length+2) 1 (if W=[]then none else some (h.length+1,w)))))
theorem aCd{h:Heap}{p:Nat×Nat}{R:Nat×aU}{W l:List UInt8}{w:Nat}(hl:l≠[])(hb:W.length+l.length<=Zr)(hw:W=[]->w=0) :
  YZ ⟨h.length,h.length,3,some p⟩ 1 (.lF (h.length+2) 1) (.str l) (h++[R,Mr h W w,JL h W w])=some (.tuple [.int .i64 l.length,.zB],h++[R,Mr h (W++l) (w+1),JL h (W++l) (w+1)]):=by
 have hne:W++l≠[]:=by simp[hl]
 by_cases h0:W=[]
 ·have:=hw h0;subst h0;subst this;have hg:(h++[R,(0,aU.dead),JL h [] 0])[h.length+2]?=some (JL h [] 0):=by rw[ku];rfl
  have hm:=Zk (lo:=h.length) (ns:=3) (s:=1) (p:=p) (b:=.aV (kP.at (h.length+1) (.buf l)) (.nX (.buf l))) (h:=h) (fr:=[R,(0,aU.dead),JL h [] 0]) rfl;simp only[List.getElem?_cons_succ,List.getElem?_cons_zero,ack,List.set_cons_succ,List.set_cons_zero,Ma,F6]at hm hb;rw[if_pos (by omega)]at hm
  simp only[Mr,if_true,hg,List.nil_append,if_neg hl];simp only[JL,if_true]at hg hm⊢;simp[YZ,hg,hl,hb,hm,o7];rfl
 ·have hg:(h++[R,Mr h W w,JL h W w])[h.length+2]?=some (JL h W w):=by rw[ku];rfl
  have hg1:(h++[R,Mr h W w,JL h W w])[h.length+1]?=some (Mr h W w):=by rw[ku];rfl
  simp only[Mr,JL,if_neg h0,if_neg hne]at hg hg1⊢;simp[YZ,hg,hg1,h0,hb,o7,kP.at];rfl
theorem aKF{h:Heap}{R:Nat×aU}{W:List UInt8}{w:Nat}(hl:W≠[]) :
  abW ⟨h.length,h.length,3,none⟩ (.lF (h.length+2) 1) (h++[R,Mr h W w,JL h W w])=some (.str W):=by
 have hg:(h++[R,Mr h W w,JL h W w])[h.length+2]?=some (JL h W w):=by rw[ku];rfl
 have hg1:(h++[R,Mr h W w,JL h W w])[h.length+1]?=some (Mr h W w):=by rw[ku];rfl
 simp only[Mr,JL,if_neg hl]at hg hg1⊢;simp[abW,hg,hg1,hl]
end Go.VI
namespace Go.VI.Dump
open Go.VI.Num
theorem aCe{n:Int}(h0:-9223372036854775808<=n)(h1:n<=9223372036854775807)(h:Heap)(lo:Nat):(run lib).fn 104 [.int .i64 n] h lo=some (.str (fZ n),h):=by
 refine amI ?_
 show RU .itoa [.int .i64 n] h=some _
 simp only[RU];rw[if_pos ⟨h0,h1⟩]
 have e:al9 n=fZ n:=by
  unfold al9 fZ;have e20:(10:Nat)^20=100000000000000000000:=by decide
  by_cases c:n<0
  ·rw[if_pos c,if_pos c,aug (by rw[e20];omega) (by omega)]
  ·have:n.toNat=n.natAbs:=by omega
   rw[if_neg c,if_neg c,aug (by rw[e20];omega) (by omega),this]
 rw[e]
theorem repeatL_one(c:UInt8):∀ n,Lib.repeatL [c] n=List.replicate n c
 |0=>rfl
 |n+1=>by rw[Lib.repeatL,repeatL_one c n];rfl
theorem aKG{n:Nat}(hn:n<=1000)(c:UInt8)(h:Heap)(lo:Nat):(run lib).fn 123 [.str [c],.int .i64 n] h lo=some (.str (List.replicate n c),h):=by
 refine amI ?_
 show RU .ako [.str [c],.int .i64 n] h=some _
 simp only[RU];rw[if_pos ⟨by omega,by simp[Zr];omega,by omega,by simp⟩,abJ,repeatL_one]
theorem aCf(d:Nat):fZ (d:Int)=dec d:=by
 unfold fZ;rw[if_neg (by omega),Int.natAbs_natCast]
def ZV(l:List Int)(k:Nat):List UInt8:=if k+1<l.length then Ty (l.getD k 0).toNat else dec (l.getD k 0).toNat
def txE(h:Heap)(v:AV)(neg:Bool):Env:=[(1,.iE [.bool neg,v]),(2,.str []),(3,.int .i64 0),(4,.lF (h.length+2) 1),(15,.fn 175 [.iE [v]])]
def txH(h:Heap)(v:AV)(neg:Bool)(s:List UInt8×Nat):Heap:=h++[(1,.aV ⟨10,h.length,h.length,3,txE h v neg⟩ .ready),Mr h s.1 s.2,JL h s.1 s.2]
theorem aCg{d:Nat}(h:d<=9999):(dec d).length<=4:=(amq (by omega)).mpr (by have:(10:Nat)^4=10000:=(by decide);omega)
theorem aKH{v:AV}{l:List Int}{neg:Bool}(hv:oz 1 v (ints l))(hl:l.length<=10000)(h:Heap)(k:Nat)(hk:k<l.length)(d:Nat)(hd:d<=9999)(hg:(l.getD k 0).toNat=d)(s:List UInt8×Nat)(hs:s.1.length<=100000)(hw:s.1=[]->s.2=0)(lo:Nat)(hlo:lo<=h.length) :
  tK (run lib) ⟨lo,h.length+3,0,none⟩ (h.length+0) 1 [.int .i64 k,.int .i64 d] (txH h v neg s)=some (.bool true,txH h v neg (s.1++ZV l k,s.2+1)):=by
 obtain⟨W,w⟩:=s;obtain⟨D,hD⟩:∃ D:kP,D=⟨10,h.length,h.length,3,txE h v neg⟩:=⟨_,rfl⟩;simp only[]at hs hw;simp only[txH,<-hD,ZV,hg];have s1:=oW (hv.sl []).len;rw[DI]at s1
 have ha':bV lib ⟨h.length,h.length,3,some (h.length+0,1)⟩ r10.xQ ((r10.ps.zip [.int .i64 k,.int .i64 d]).foldl (fun e p=>e.set p.1 p.2) (txE h v neg),h++[(1,.aV D .ready),Mr h W w,JL h W w]) =
   some (.norm,([(1,.iE [.bool neg,v]),(4,.lF (h.length+2) 1),(5,.int .i64 k),(6,.int .i64 d)],h++[(1,.aV D .ready),Mr h W w,JL h W w])):=by
  simp(maxSteps:=1000000)(disch:=omega)only[go_sem,r10,txE,List.zip_cons_cons,ZU,List.foldl_cons,TA]
 have hg0:(h++[(1,aU.aV D .ready),Mr h W w,JL h W w])[h.length+0]?=some (1,.aV ⟨10,h.length,h.length,3,txE h v neg⟩ .ready):=by rw[ku,<-hD];rfl
 have it:=fun H lo=>aCe (n:=(d:Int)) (by omega) (by omega) H lo
 rw[aCf]at it;have hd4:=aCg hd
 have hb:bV lib ⟨h.length,h.length,3,some (h.length+0,1)⟩ r10.body ([(1,.iE [.bool neg,v]),(4,.lF (h.length+2) 1),(5,.int .i64 k),(6,.int .i64 d)],(h++[(1,.aV D .ready),Mr h W w,JL h W w]).set (h.length+0) (1,.aV D .busy)) =
   some (.norm,([],h++[(1,.aV D .busy),Mr h (W++if k+1<l.length then Ty d else dec d) (w+1),JL h (W++if k+1<l.length then Ty d else dec d) (w+1)])):=by
  rw[o7];by_cases c:k+1<l.length
  ·rw[if_pos c];have c1:(k:Int)<(l.length:Int)-1:=by omega
   have rp:=fun H lo=>aKG (n:=4-(dec d).length) (by omega) 48 H lo
   have e4:(4:Int)-((dec d).length:Int)=((4-(dec d).length:Nat):Int):=by omega
   have ad:xS .add (.str (List.replicate (4-(dec d).length) 48)) (.str (dec d))=some (.str (Ty d)):=by
    rw[aB' (by simp;omega),aJF (by omega)]
   have bs:=aCd (h:=h) (p:=(h.length+0,1)) (R:=(1,.aV D .busy)) (W:=W) (l:=Ty d) (w:=w) (by simp[Ty]) (by simp[Ty,Zr];omega) hw
   simp(maxSteps:=1000000)(disch:=omega)only[go_sem,r10,it,s1,c1,e4,rp,ad,bs]
  ·rw[if_neg c];have c1:¬ (k:Int)<(l.length:Int)-1:=by omega
   have bs:=aCd (h:=h) (p:=(h.length+0,1)) (R:=(1,.aV D .busy)) (W:=W) (l:=dec d) (w:=w) (aeJ d) (by simp[Zr];omega) hw
   simp(maxSteps:=1000000)(disch:=omega)only[go_sem,r10,it,s1,c1,bs]
 have:=Zb (L:=lib) (cx:=⟨lo,h.length+3,0,none⟩) hg0 hlo (by omega) (by omega) (by simp[AV.EY,AV.closed]) (x:=r10) rfl rfl ha' (by rw[ku];rfl) hb (by rw[ku];rfl)
 rw[this,o7];rfl
def txI(l:List Int)(k:Nat)(s:List UInt8×Nat):Prop:=s.1=amr (l.drop k)/\s.1.length<=4*(l.length-k)/\(s.1=[]->s.2=0)
theorem aCh{l:List Int}(hd:qG l)(k:Nat)(s:List UInt8×Nat)(hk:k<l.length)(hi:txI l (k+1) s):txI l k (s.1++ZV l k,s.2+1):=by
 obtain⟨h1,h2,h3⟩:=hi;have gm:l.getD k 0=l[k]:=by rw[Md,Fv hk];rfl
 have hx:=hd l[k] (JC hk)
 have hlen:(ZV l k).length<=4:=by
  unfold ZV;split
  ·simp[Ty]
  ·exact aCg (by rw[gm];omega)
 have hne:ZV l k≠[]:=by
  unfold ZV;split
  ·simp[Ty]
  ·exact aeJ _
 refine⟨?_,by simp;omega,fun h=>by simp at h;exact absurd h.2 hne⟩
 simp only[];rw[JB hk,amr,h1];unfold ZV;rw[gm];by_cases c:k+1<l.length
 ·rw[if_pos c,if_neg (by intro e;have:=congrArg List.length e;simp at this;omega)]
 ·rw[if_neg c,Zd (by omega),if_pos rfl];rfl
def outT(z:Int):AV:=if z.natAbs<10^200 then .tuple [.str (fZ z),.int .i64 0]else .tuple [.str [],.int .i64 30]
def JE(neg:Bool)(n:Nat):Int:=if neg then -(n:Int)else n
theorem aCi(neg:Bool)(n:Nat):(JE neg n).natAbs=n:=by unfold JE;split<;>omega
theorem amM{v:AV}{n:Nat}(neg:Bool)(hv:oz 1 v (ints (bg n)))(hn:(bg n).length<=10000)(h:Heap)(lo:Nat) :
  (run lib).fn 114 [.agg [.bool neg,v]] h lo=some (outT (JE neg n),h):=by
 obtain⟨v',f1,f1',f2,f3,f4,f5⟩:=YR hv;have s1:=oW (f4.sl []).len;rw[DI]at s1;by_cases h0:n=0
 ·subst h0;have e:outT (JE neg 0)=.tuple [.str [48],.int .i64 0]:=by cases neg<;>rfl
  rw[abF]at s1;simp only[Ma,Gc]at s1;rw[e,jH (x:=x114) rfl rfl rfl rfl];simp(maxSteps:=1000000)(disch:=omega)only[go_sem,x114,f1,f2,f5,s1,Gc]
 ·have hne:bg n≠[]:=fun e=>h0 (abG.mp e);have hpos:=SC.mpr hne;have c0:¬ ((bg n).length:Int)=0:=by omega
  have i0:txI (bg n) (bg n).length ([],0):=⟨by rw[Zd (iJ _)];rfl,by simp,fun _=>rfl⟩
  have dg:=Rp n
  have hbk:=aph (H:=txH h v' neg) (nb:=h.length+3) (lo:=h.length) (id:=h.length+0) (Y:=fun s k=>(true,(s.1++ZV (bg n) k,s.2+1))) (Iv:=txI (bg n)) f4 (by omega) (fun s=>by simp[txH]) (by omega)
   (fun k s hk hi _=>aCh dg k s hk hi)
   (fun k s hk hi=>by
    have gm:(bg n).getD k 0=(bg n)[k]:=by rw[Md,Fv hk];rfl
    have hx:=dg (bg n)[k] (JC hk);have y:=aKH (v:=v') (l:=bg n) (neg:=neg) f4 hn h k hk ((bg n).getD k 0).toNat (by rw[gm];omega) rfl s (by have:=hi.2.1;omega) hi.2.2 h.length (iJ _)
    have e:(((bg n).getD k 0).toNat:Int)=(bg n)[k]:=by rw[gm];omega
    rw[e]at y;exact y) ([],0) i0
  have hfin:=auA (Y:=fun s k=>(true,(s.1++ZV (bg n) k,s.2+1))) (Iv:=txI (bg n)) (fun s k=>rfl) (fun k s hk hi=>aCh dg k s hk hi) (bg n).length ([],0) (iJ _) i0;obtain⟨s',hs'⟩:∃ s',s'=Mq (fun(s:List UInt8×Nat) k=>(true,(s.1++ZV (bg n) k,s.2+1))) (bg n).length ([],0):=⟨_,rfl⟩;rw[<-hs']at hbk hfin;clear hs';obtain⟨W,w⟩:=s';have hW:W=dec n:=by have:=hfin.1;rw[List.drop_zero,aJG h0]at this;exact this
  subst hW;have bw:=apj v' v' f1' f1' f3 f5;have b0:Mr h [] 0=(0,.dead):=rfl;have b1:JL h [] 0=(1,.aV (kP.at (h.length+2) (.nV (h.length+2) 1 none)) (.nX (.nV (h.length+2) 1 none))):=rfl;simp only[txH,b0,b1]at hbk
  have g3':=abE (L:=lib) (lo:=h.length) (ns:=3) (s:=0) (g:=10) (it:=175) (v:=0) (caps:=[.iE [v']]) (env:=txE h v' neg) (h:=h) (b:=.dead) (fr:=[(0,.dead),(0,.dead),(1,.aV (kP.at (h.length+2) (.nV (h.length+2) 1 none)) (.nX (.nV (h.length+2) 1 none)))])
   (fr':=[(1,.aV ⟨10,h.length,h.length,3,txE h v' neg⟩ .ready),Mr h (dec n) w,JL h (dec n) w]) (f:=.t 15) rfl (by omega) rfl hbk rfl
  simp only[txE,List.set_cons_zero]at g3';have be:=aKF (h:=h) (R:=(1,.dead)) (W:=dec n) (w:=w) (aeJ n);have hlen:=amq (n:=n) (k:=200) (by omega)
  have hbig:(dec n).length<=100000:=by
   have:=hfin.2.1;simp only[]at this;omega
  have ad:xS .add (.str [45]) (.str (dec n))=some (.str (45::dec n)):=by rw[aB' (by simp;omega)];rfl
  rw[jH (x:=x114) rfl rfl rfl rfl];unfold outT;rw[aCi];by_cases c:n<10^200
  ·have c1:¬ (200:Int)<(dec n).length:=by have:=hlen.mpr c;omega
   rw[if_pos c]
   cases neg with
   |true =>
    have e:fZ (JE true n)=45::dec n:=by
     unfold fZ JE;rw[if_pos rfl,if_pos (by omega)]
     have:(-(n:Int)).natAbs=n:=by omega
     rw[this]
    rw[e]
    simp(maxSteps:=1000000)(disch:=omega)only[go_sem,x114,f1,f2,f5,s1,c0,o7,bw,g3',be,c1,ad]
   |false =>
    have e:fZ (JE false n)=dec n:=by
     unfold JE;rw[if_neg (by simp),aCf]
    rw[e];simp(maxSteps:=1000000)(disch:=omega)only[go_sem,x114,f1,f2,f5,s1,c0,o7,bw,g3',be,c1,ad]
  ·have c1:(200:Int)<(dec n).length:=by
    rcases Int.lt_or_le (200:Int) (dec n).length with h|h
    ·exact h
    ·exact absurd (hlen.mp (by omega)) c
   rw[if_neg c];simp(maxSteps:=1000000)(disch:=omega)only[go_sem,x114,f1,f2,f5,s1,c0,o7,bw,g3',be,c1,ad]
end Go.VI.Dump
namespace Go.VI.Dump
open Go.VI.Num
theorem aKI(x:Int):JE (decide (x<0)) x.natAbs=x:=by
 unfold JE;by_cases c:x<0
 ·rw[decide_eq_true c,if_pos rfl];omega
 ·rw[decide_eq_false c,if_neg (by simp)];omega
def plS(a:Bool)(n:Nat)(b:Bool)(m:Nat):Bool×Nat:=if a=b then(a,n+m)else if m<=n then(a,n-m) else(b,m-n)
theorem aKJ(a:Bool)(n:Nat)(b:Bool)(m:Nat):JE (plS a n b m).1 (plS a n b m).2=JE a n+JE b m:=by
 unfold plS;by_cases c:a=b
 ·subst c;rw[if_pos rfl];cases a<;>simp[JE]<;>omega
 ·rw[if_neg c];by_cases c2:m<=n
  ·rw[if_pos c2];cases a<;>cases b<;>simp[JE]at c⊢<;>omega
  ·rw[if_neg c2];cases a<;>cases b<;>simp[JE]at c⊢<;>omega
theorem aKK(a b:Int):(0<=qd a b)↔b<=a:=by
 unfold qd;by_cases h1:a<b
 ·rw[if_pos h1];omega
 ·rw[if_neg h1];by_cases h2:a=b
  ·rw[if_pos h2];omega
  ·rw[if_neg h2];omega
theorem aKL{v u:AV}{n m:Nat}(a b:Bool)(hv:oz 1 v (ints (bg n)))(hu:oz 1 u (ints (bg m)))(hn:(bg n).length<=50000)(hm:(bg m).length<=50000)(h:Heap)(lo:Nat) :
  (run lib).fn 162 [.agg [.bool a,v],.agg [.bool b,u]] h lo=some (.agg [.bool (plS a n b m).1,.eY 1 (ints (bg (plS a n b m).2))],h):=by
 obtain⟨v',f1,f1',f2,f3,f4,f5⟩:=YR hv;obtain⟨u',g1,g1',g2,g3,g4,g5⟩:=YR hu;have pl:=fun H lo=>apf f4 g4 hn hm H lo;have cm:=fun H lo=>apk f4 g4 (by omega) (by omega) H lo
 rw[aud]at cm;have ge:=aKK (n:Int) (m:Int);generalize qd (n:Int) (m:Int)=q at*;have eb:(a==b)=decide (a=b):=amH a b;rw[jH (x:=aml) rfl rfl rfl rfl];unfold plS;by_cases c:a=b
 ·rw[decide_eq_true c]at eb;rw[if_pos c];simp(maxSteps:=1000000)(disch:=omega)only[go_sem,aml,f1,g1,eb,pl,RF]
 ·rw[decide_eq_false c]at eb;rw[if_neg c];by_cases c2:m<=n
  ·have mi:=fun H lo=>apg f4 g4 c2 hn H lo;have c3:(0:Int)<=q:=by omega
   rw[if_pos c2];simp(maxSteps:=1000000)(disch:=omega)only[go_sem,aml,f1,g1,eb,cm,c3,mi,RF]
  ·have mi:=fun H lo=>apg g4 f4 (by omega) hm H lo
   have c3:¬ (0:Int)<=q:=by omega
   rw[if_neg c2];simp(maxSteps:=1000000)(disch:=omega)only[go_sem,aml,f1,g1,eb,cm,c3,mi,RF]
theorem aKM(h:Heap)(lo:Nat):(run lib).fn 112 [] h lo=some (.fT 1 [.int .i64 1],h):=by
 have hg2:tJ h.length (.fT 1 [.int .i64 1]) h=some (.fT 1 [.int .i64 1]):=rfl;rw[jH (x:=x112) rfl rfl rfl rfl];simp(maxSteps:=1000000)(disch:=omega)only[go_sem,x112,hg2,Option.map_some]
def Fit(z:Int):Prop:=z.natAbs<10^200
def auE(z:Int):List UInt8:=if z.natAbs<10^200 then fZ z else[]
def auF(z:Int):Int:=if z.natAbs<10^200 then 0 else 30
theorem apo(z:Int):outT z=.tuple [.str (auE z),.int .i64 (auF z)]:=by
 unfold outT auE auF;split<;>rfl
theorem ajv{z:Int}(h:Fit z):outT z=.tuple [.str (fZ z),.int .i64 0]:=if_pos h
theorem Zm{z:Int}(h:Fit z):(bg z.natAbs).length<=50:=by
 refine ajt 50 _ ?_;have e:(10000:Nat)^50=10^200:=by rw[show (10000:Nat)=10^4 from rfl,<-Nat.pow_mul]
 rw[e];exact h
theorem TB(z:Int):oz 1 (.eY 1 (ints (bg z.natAbs))) (ints (bg z.natAbs)):=akG _
theorem aKN{a b:Bool}{n m k:Nat}(hn:(bg n).length<=k)(hm:(bg m).length<=k):(bg (plS a n b m).2).length<=k+1:=by
 have h1:=apm n;have h2:=apm m;have h3:n<10000^k:=Zv h1 (acr (by omega) hn)
 have h4:m<10000^k:=Zv h2 (acr (by omega) hm)
 refine ajt _ _ ?_;rw[Nat.pow_succ];unfold plS;generalize 10000^k=X at*;split
 ·simp only[];omega
 ·split
  ·simp only[];omega
  ·simp only[];omega
theorem auG{x y:Int}(hx:Fit x)(hy:Fit y)(h:Heap)(lo:Nat):(run lib).fn 135 [.str (fZ x),.str (fZ y)] h lo=some (outT (x-y),h):=by
 have bo:=fun H lo=>amK hx hy H lo;have lx:=Zm hx;have ly:=Zm hy;have sp:=fun H lo=>aKL (decide (x<0)) (!decide (y<0)) (TB x) (TB y) (by omega) (by omega) H lo
 have pv:=aKJ (decide (x<0)) x.natAbs (!decide (y<0)) y.natAbs;have pn:=aKN (a:=decide (x<0)) (b:=!decide (y<0)) lx ly
 have hneg:JE (!decide (y<0)) y.natAbs=-y:=by
  unfold JE;by_cases c:y<0
  ·rw[decide_eq_true c,Bool.not_true,if_neg (by simp)];omega
  ·rw[decide_eq_false c,Bool.not_false,if_pos rfl];omega
 rw[aKI,hneg,<-Int.sub_eq_add_neg]at pv;generalize plS (decide (x<0)) x.natAbs (!decide (y<0)) y.natAbs=p at*;have tx:=fun H lo=>amM (n:=p.2) p.1 (akG _) (by omega) H lo
 rw[pv,apo]at tx;simp only[abN]at bo;rw[apo,jH (x:=atM) rfl rfl rfl rfl];simp(maxSteps:=1000000)(disch:=omega)only[go_sem,atM,bo,sp,tx,RF]
theorem aKO(x y:Int):JE (!(decide (x<0)==decide (y<0))) (x.natAbs*y.natAbs)=x*y:=by
 have e:((x.natAbs*y.natAbs:Nat):Int)=(x*y).natAbs:=by rw[Int.natAbs_mul]
 unfold JE;rw[e];by_cases c1:x<0
 ·by_cases c2:y<0
  ·rw[decide_eq_true c1,decide_eq_true c2,if_neg (by simp)]
   have:=Int.mul_nonneg_of_nonpos_of_nonpos (Int.le_of_lt c1) (Int.le_of_lt c2);omega
  ·rw[decide_eq_true c1,decide_eq_false c2,if_pos (by simp)]
   have:=Int.mul_nonpos_of_nonpos_of_nonneg (Int.le_of_lt c1) (by omega:0<=y);omega
 ·by_cases c2:y<0
  ·rw[decide_eq_false c1,decide_eq_true c2,if_pos (by simp)]
   have:=Int.mul_nonpos_of_nonneg_of_nonpos (by omega:0<=x) (Int.le_of_lt c2);omega
  ·rw[decide_eq_false c1,decide_eq_false c2,if_neg (by simp)]
   have:=Int.mul_nonneg (by omega:0<=x) (by omega:0<=y);omega
theorem aCj{x y:Int}(hx:Fit x)(hy:Fit y)(h:Heap)(lo:Nat):(run lib).fn 161 [.str (fZ x),.str (fZ y)] h lo=some (outT (x*y),h):=by
 have bo:=fun H lo=>amK hx hy H lo;have lx:=Zm hx;have ly:=Zm hy;have ti:=fun H lo=>aKl (TB x) (TB y) (by omega) (by omega) H lo
 have hl:=apn x.natAbs y.natAbs
 obtain⟨P,hP,hw⟩:∃ P,oz 1 P (ints (bg (x.natAbs*y.natAbs)))/\weak (if y.natAbs=0 then AV.own 0 []else .eY 1 (ints (bg (x.natAbs*y.natAbs))))=P/\P.val=true/\P.cells=[P]:=by
  by_cases c:y.natAbs=0
  ·refine⟨.eY 0 [], ?_,by rw[if_pos c];rfl,rfl,rfl⟩
   rw[c,Nat.mul_zero,abF];exact .inr ⟨0,.inl rfl,.inr rfl⟩
  ·exact⟨.eY 1 (ints (bg (x.natAbs*y.natAbs))),akG _,by rw[if_neg c];rfl,rfl,rfl⟩
 have tx:=fun H lo=>amM (n:=x.natAbs*y.natAbs) (!(decide (x<0)==decide (y<0))) hP (by omega) H lo
 rw[aKO,apo]at tx;simp only[abN]at bo;obtain⟨hw1,hw2,hw3⟩:=hw;generalize (if y.natAbs=0 then AV.own 0 []else .eY 1 (ints (bg (x.natAbs*y.natAbs))))=Q at*;rw[apo,jH (x:=atY) rfl rfl rfl rfl];simp(maxSteps:=1000000)(disch:=omega)only[go_sem,atY,bo,ti,hw1,hw2,hw3,tx,RF]
theorem apq(s:List UInt8)(h:Heap)(lo:Nat):(run lib).fn 102 [.str s] h lo=some (.bool (ZP s),h):=by
 have bo:=fun H lo=>auD s H lo;rw[jH (x:=x102) rfl rfl rfl rfl];simp(maxSteps:=1000000)(disch:=omega)only[go_sem,x102,bo]
theorem auH{x y:Int}(hx:Fit x)(hy:Fit y)(h:Heap)(lo:Nat):(run lib).fn 82 [.str (fZ x),.str (fZ y)] h lo=some (.int .i64 (qd x y),h):=by
 have bo:=fun H lo=>amK hx hy H lo;have lx:=Zm hx;have ly:=Zm hy;have cm:=fun H lo=>apk (TB x) (TB y) (by omega) (by omega) H lo
 have cn:=fun H lo=>apk (TB y) (TB x) (by omega) (by omega) H lo
 rw[aud]at cm cn;simp only[abN]at bo;rw[jH (x:=x82) rfl rfl rfl rfl];by_cases c1:x<0
 ·rw[decide_eq_true c1]at bo;by_cases c2:y<0
  ·rw[decide_eq_true c2]at bo
   have e:qd (y.natAbs:Int) (x.natAbs:Int)=qd x y:=by
    unfold qd;have e1:(y.natAbs:Int)=-y:=by omega
    have e2:(x.natAbs:Int)=-x:=by omega
    rw[e1,e2];simp only[show (-y < -x)=(x<y) by simp,show (-y=-x)=(x=y) by rw[eq_iff_iff];omega]
   rw[e]at cn;simp(maxSteps:=1000000)(disch:=omega)only[go_sem,x82,bo,cn,RF]
  ·rw[decide_eq_false c2]at bo;have e:qd x y=-1:=if_pos (by omega)
   rw[e];simp(maxSteps:=1000000)(disch:=omega)only[go_sem,x82,bo,RF]
 ·rw[decide_eq_false c1]at bo;by_cases c2:y<0
  ·rw[decide_eq_true c2]at bo;have e:qd x y=1:=by unfold qd;rw[if_neg (by omega),if_neg (by omega)]
   rw[e];simp(maxSteps:=1000000)(disch:=omega)only[go_sem,x82,bo,RF]
  ·rw[decide_eq_false c2]at bo;have e1:(y.natAbs:Int)=y:=by omega
   have e2:(x.natAbs:Int)=x:=by omega
   rw[e1,e2]at cm;simp(maxSteps:=1000000)(disch:=omega)only[go_sem,x82,bo,cm,RF]
theorem aCk{n:Int}(h0:-9223372036854775808<=n)(h1:n<=9223372036854775807)(h:Heap)(lo:Nat):(run lib).fn 74 [.int .i64 n] h lo=some (.str (fZ n),h):=by
 have it:=fun H lo=>aCe h0 h1 H lo;rw[jH (x:=x74) rfl rfl rfl rfl];simp(maxSteps:=1000000)(disch:=omega)only[go_sem,x74,it]
end Go.VI.Dump
namespace Go.VI.Dump
open Go.VI.Num
def dvQ(x y:Int):Nat:=if x<0/\x.natAbs%y.natAbs≠0 then x.natAbs/y.natAbs+1 else x.natAbs/y.natAbs
def dvR(x y:Int):Nat:=if x<0/\x.natAbs%y.natAbs≠0 then y.natAbs-x.natAbs%y.natAbs else x.natAbs%y.natAbs
theorem auI{x y:Int}(hy:y≠0):JE (!(decide (x<0)==decide (y<0))) (dvQ x y)=x/y/\(dvR x y:Int)=x%y:=by
 have hpos:0<y.natAbs:=by omega
 have hlt:=Nat.mod_lt x.natAbs hpos;have hdm:=Nat.div_add_mod x.natAbs y.natAbs;obtain⟨m,hm⟩:∃ m,m=y.natAbs:=⟨_,rfl⟩;obtain⟨n,hn⟩:∃ n,n=x.natAbs:=⟨_,rfl⟩
 have key:∀(Q:Int) (R:Nat),(R:Int)+(m:Int)*Q=x->R<m->x/(m:Int)=Q/\x%(m:Int)=R:=fun Q R h1 h2 =>
  (Int.ediv_emod_unique (by omega)).mpr ⟨h1,by omega,by omega⟩
 have fin:∀(Q:Int) (R:Nat),(R:Int)+(m:Int)*Q=x->R<m->(if y<0 then -Q else Q)=x/y/\(R:Int)=x%y:=fun Q R h1 h2=>by
  obtain⟨k1,k2⟩:=key Q R h1 h2;by_cases c:y<0
  ·have ey:y=-(m:Int):=by omega
   rw[if_pos c,ey,Int.ediv_neg,Int.emod_neg,k1,k2];exact⟨rfl,rfl⟩
  ·have ey:y=(m:Int):=by omega
   rw[if_neg c,ey,k1,k2];exact⟨rfl,rfl⟩
 unfold dvQ dvR JE;rw[<-hm]at hlt hdm hpos⊢;rw[<-hn]at hlt hdm⊢
 have hcast:((n/m:Nat):Int)*(m:Int)+((n%m:Nat):Int)=n:=by
  rw[<-Int.natCast_mul,<-Int.natCast_add,Y4,hdm]
 generalize n/m=q at*;generalize n%m=r at*;by_cases c1:x<0
 ·by_cases c3:r=0
  ·have:=fin (-(q:Int)) 0 (by rw[Int.mul_neg,Int.mul_comm];generalize (q:Int)*(m:Int)=Z at*;omega) hpos
   have eQ:(if x<0/\r≠0 then q+1 else q)=q:=if_neg (by omega)
   have eR:(if x<0/\r≠0 then m-r else r)=0:=by rw[if_neg (by omega),c3]
   rw[eQ,eR];by_cases c2:y<0
   ·rw[if_pos c2]at this;rw[decide_eq_true c1,decide_eq_true c2,if_neg (by simp)]
    rw[Int.neg_neg]at this;exact this
   ·rw[if_neg c2]at this;rw[decide_eq_true c1,decide_eq_false c2,if_pos (by simp)];exact this
  ·have:=fin (-((q:Int)+1)) (m-r) (by rw[Int.mul_neg,Int.mul_add,Int.mul_comm (m:Int) q];generalize (q:Int)*(m:Int)=Z at*;omega) (by omega)
   have eQ:(if x<0/\r≠0 then q+1 else q)=q+1:=if_pos ⟨c1,c3⟩;have eR:(if x<0/\r≠0 then m-r else r)=m-r:=if_pos ⟨c1,c3⟩;rw[eQ,eR];have e:((q+1:Nat):Int)=(q:Int)+1:=by omega
   rw[e];by_cases c2:y<0
   ·rw[if_pos c2]at this;rw[decide_eq_true c1,decide_eq_true c2,if_neg (by simp)]
    rw[Int.neg_neg]at this;exact this
   ·rw[if_neg c2]at this;rw[decide_eq_true c1,decide_eq_false c2,if_pos (by simp)];exact this
 ·have:=fin (q:Int) r (by rw[Int.mul_comm];generalize (q:Int)*(m:Int)=Z at*;omega) hlt
  have eQ:(if x<0/\r≠0 then q+1 else q)=q:=if_neg (by omega)
  have eR:(if x<0/\r≠0 then m-r else r)=r:=if_neg (by omega)
  rw[eQ,eR];by_cases c2:y<0
  ·rw[if_pos c2]at this;rw[decide_eq_false c1,decide_eq_true c2,if_pos (by simp)];exact this
  ·rw[if_neg c2]at this;rw[decide_eq_false c1,decide_eq_false c2,if_neg (by simp)];exact this
theorem aCl{x y:Int}(hy:y≠0):dvQ x y<=x.natAbs:=by
 have hpos:0<y.natAbs:=by omega
 have hdm:=Nat.div_add_mod x.natAbs y.natAbs;unfold dvQ;have h1:=Nat.div_le_self x.natAbs y.natAbs;have h2:x.natAbs/y.natAbs<=y.natAbs*(x.natAbs/y.natAbs):=Nat.le_mul_of_pos_left _ hpos;generalize x.natAbs/y.natAbs=q at*;generalize x.natAbs%y.natAbs=r at*;generalize y.natAbs*q=Z at*;split<;>omega
theorem amN{x y:Int}(hx:Fit x)(hy:y≠0):Fit (x/y):=by
 have h1:=(auI (x:=x) hy).1;have h2:=aCl (x:=x) hy;unfold Fit at*;rw[<-h1,aCi];exact Nat.lt_of_le_of_lt h2 hx
theorem avt{x y:Int}(hy:Fit y)(hy0:y≠0):Fit (x%y):=by
 have h1:=(auI (x:=x) hy0).2;have h2:=Nat.mod_lt x.natAbs (show 0<y.natAbs by omega)
 have h3:dvR x y<=y.natAbs:=by unfold dvR;split<;>omega
 have h4:(x%y).natAbs<=y.natAbs:=by omega
 exact Nat.lt_of_le_of_lt h4 hy
def aps(x y:Int):AV:=.tuple [.str (fZ (x/y)),.str (fZ (x%y)),.int .i64 0]
theorem avU{x y:Int}(hx:Fit x)(hy:Fit y)(hy0:y≠0)(h:Heap)(lo:Nat):(run lib).fn 81 [.str (fZ x),.str (fZ y)] h lo=some (aps x y,h):=by
 have bo:=fun H lo=>amK hx hy H lo;have lx:=Zm hx;have ly:=Zm hy;have hm0:y.natAbs≠0:=by omega
 have ov:=fun H lo=>aB9 hm0 (TB x) (TB y) (by omega) (by omega) H lo
 obtain⟨d1,d2⟩:=auI (x:=x) hy0;have hql:=aCl (x:=x) hy0;have fq:=amN (y:=y) hx hy0;have fr:=avt (x:=x) hy hy0;simp only[abN]at bo
 have hyl:¬ ((bg y.natAbs).length:Int)=0:=by
  have:bg y.natAbs≠[]:=fun e=>hm0 (abG.mp e);have:=SC.mpr this;omega
 have s2:=oW ((TB y).sl []).len;rw[DI]at s2;have rp:=aB6 x.natAbs y.natAbs;have s1:=oW (rp.sl []).len;rw[DI]at s1;have hrl:(bg (x.natAbs%y.natAbs)).length<=50:=Np (aeI (Nat.le_of_lt (Nat.mod_lt _ (by omega)))) ly
 have tq:=fun H lo=>amM (v:=.eY 1 (ints (bg (dvQ x y)))) (n:=dvQ x y) (!(decide (x<0)==decide (y<0))) (akG _) (by have:=aeI hql;omega) H lo
 rw[d1,ajv fq]at tq
 have tr:=fun v hv H lo=>amM (v:=v) (n:=dvR x y) false hv (by
  have h2:=fr;have e:(x%y).natAbs=dvR x y:=by omega
  have:=Zm h2;rw[e]at this;omega) H lo
 have es:JE false (dvR x y)=x%y:=by rw[<-d2];rfl
 rw[es,ajv fr]at tr;unfold aps;rw[jH (x:=x81) rfl rfl rfl rfl];by_cases c:x<0/\x.natAbs%y.natAbs≠0
 ·obtain⟨c1,c2⟩:=c
  have c3:(0:Int)<(bg (x.natAbs%y.natAbs)).length:=by
   have:bg (x.natAbs%y.natAbs)≠[]:=fun e=>c2 (abG.mp e);have:=SC.mpr this;omega
  have pl:=fun H lo=>apf (v:=.eY 1 (ints (bg (x.natAbs/y.natAbs)))) (u:=.fT 1 [.int .i64 1]) (a:=x.natAbs/y.natAbs) (b:=1) (akG _) (.inr ⟨1,.inr rfl,.inl rfl⟩) (by have:=aeI (Nat.div_le_self x.natAbs y.natAbs);omega) (by decide) H lo
  have mi:=fun H lo=>apg (TB y) rp (Nat.le_of_lt (Nat.mod_lt _ (by omega))) (by omega) H lo
  have eq:dvQ x y=x.natAbs/y.natAbs+1:=if_pos ⟨c1,c2⟩;have er:dvR x y=y.natAbs-x.natAbs%y.natAbs:=if_pos ⟨c1,c2⟩;rw[eq]at tq;have tr1:=tr (.eY 1 (ints (bg (y.natAbs-x.natAbs%y.natAbs)))) (by rw[er];exact akG _)
  rw[decide_eq_true c1]at bo tq;have hwk:weak (.fT 1 [.int .i64 1])=.fT 1 [.int .i64 1]:=rfl;simp(maxSteps:=1000000)(disch:=omega)only[go_sem,x81,bo,RF,s2,hyl,ov,s1,c3,aKM,hwk,pl,mi,tq,tr1]
 ·have eq:dvQ x y=x.natAbs/y.natAbs:=if_neg c;have er:dvR x y=x.natAbs%y.natAbs:=if_neg c;rw[eq]at tq;have tr1:=tr (YS x.natAbs y.natAbs) (by rw[er];exact rp)
  by_cases c1:x<0
  ·have c2:x.natAbs%y.natAbs=0:=by omega
   have c3:¬ (0:Int)<(bg (x.natAbs%y.natAbs)).length:=by rw[c2,abF];simp
   rw[decide_eq_true c1]at bo tq;simp(maxSteps:=1000000)(disch:=omega)only[go_sem,x81,bo,RF,s2,hyl,ov,s1,c3,tq,tr1]
  ·rw[decide_eq_false c1]at bo tq;simp(maxSteps:=1000000)(disch:=omega)only[go_sem,x81,bo,RF,s2,hyl,ov,s1,tq,tr1]
end Go.VI.Dump
namespace Go.VI.Num
end Go.VI.Num
namespace Go.VI.Dump
open Go.VI.Num
theorem aKQ{z:Nat}{v:AV}{es:List AV}(p:oz z v es):v.cells=[v]:=by
 rcases p with⟨rfl,rfl⟩|⟨z',rfl|rfl,hz⟩<;>rfl
theorem aKR{z:Nat}{v:AV}{es:List AV}(p:oz z v es):v.val=true:=by
 rcases p with⟨rfl,rfl⟩|⟨z',rfl|rfl,hz⟩<;>rfl
theorem aKS(cx:Cx)(H:Heap):∀(b a:Nat) (v u:AV),oz 1 v (ints (bg a))->oz 1 u (ints (bg b))->(bg a).length<=1000->(bg b).length<=1000 ->
  ∃ w,oz 1 w (ints (bg (Nat.gcd a b)))/\bV lib cx (.loop atB) ([(9,v),(10,u)],H)=some (.exit 0,([(9,w)],H)):=by
 intro b
 induction b using Nat.strongRecOn with
 |_ b ih =>
  intro a v u hv hu ha hb;have s1:=oW (hu.sl []).len;rw[DI]at s1;by_cases h0:b=0
  ·subst h0;refine⟨v,by rw[Nat.gcd_zero_right];exact hv, ?_⟩
   have c1:¬ (0:Int)<(bg 0).length:=by simp[abF]
   rw[jm];simp(maxSteps:=1000000)(disch:=omega)only[go_sem,s1,c1]
  ·have hpos:0<b:=by omega
   have hlt:=Nat.mod_lt a hpos;have hl2:(bg (a%b)).length<=1000:=Np (aeI (Nat.le_of_lt hlt)) hb;obtain⟨w,w1,w2⟩:=ih (a%b) hlt b u (YS a b) hu (aB6 a b) hb hl2;refine⟨w, ?_, ?_⟩
   ·have e:Nat.gcd a b=Nat.gcd b (a%b):=by rw[Nat.gcd_comm a b,Nat.gcd_rec,Nat.gcd_comm]
    rw[e];exact w1
   ·have c1:(0:Int)<(bg b).length:=by
     have:bg b≠[]:=fun e=>h0 (abG.mp e);have:=SC.mpr this;omega
    have ov:=fun H lo=>aB9 h0 hv hu (by omega) (by omega) H lo
    rw[jm];simp(maxSteps:=1000000)(disch:=omega)only[go_sem,s1,c1,ov,w2]
theorem aCm{x y:Int}(hx:Fit x)(hy:Fit y):Fit ((Int.gcd x y:Nat):Int):=by
 unfold Fit at*;rw[Int.natAbs_natCast];unfold Int.gcd;rcases Y3 x.natAbs with h|h
 ·rw[h,Nat.gcd_zero_left];exact hy
 ·exact Nat.lt_of_le_of_lt (Nat.gcd_le_left _ h) hx
theorem aCn{x y:Int}(hx:Fit x)(hy:Fit y)(h:Heap)(lo:Nat):(run lib).fn 105 [.str (fZ x),.str (fZ y)] h lo=some (.tuple [.str (fZ (Int.gcd x y:Nat)),.int .i64 0],h):=by
 have bo:=fun H lo=>amK hx hy H lo;have lx:=Zm hx;have ly:=Zm hy;have fg:=aCm hx hy;obtain⟨w,w1,w2⟩:=aKS ⟨h.length,h.length,2,none⟩ (h++[(1,.box [.bool (decide (x<0)),.eY 1 (ints (bg x.natAbs))]),(1,.box [.bool (decide (y<0)),.eY 1 (ints (bg y.natAbs))])]) y.natAbs x.natAbs _ _ (TB x) (TB y) (by omega) (by omega)
 have hw1:=aKQ w1;have hw2:=aKR w1;have tx:=fun H lo=>amM (n:=Nat.gcd x.natAbs y.natAbs) false w1 (by have:=Zm fg;rw[Int.natAbs_natCast]at this;unfold Int.gcd at this;omega) H lo
 have es:JE false (Nat.gcd x.natAbs y.natAbs)=((Int.gcd x y:Nat):Int):=rfl;rw[es,ajv fg]at tx;simp only[abN]at bo;rw[jH (x:=x105) rfl rfl rfl rfl];simp(maxSteps:=1000000)(disch:=omega)only[go_sem,x105,bo,RF,w2,hw1,hw2,tx]
end Go.VI.Dump
namespace Go.VI.Dump
open Go.VI.Num
def nC(s t:List UInt8):AV:=.agg [.str s,.str t]
def rt(q:Rat):AV:=nC (fZ q.num) (fZ (q.den:Int))
def JF(o:Option Rat):AV:=match o with|some q=>.tuple [rt q,.int .i64 0]|none=>.tuple [nC [] [],.int .i64 40]
theorem acC:fZ 0=[48]:=rfl
theorem apt:Fit 0:=by unfold Fit;decide
theorem TD{q:Rat}(h:JD q):Fit (q.den:Int):=by unfold Fit;rw[Int.natAbs_natCast];exact h.2
theorem aKT(x:Int):decide (qd x 0<=0)=!decide (0<x):=by
 unfold qd;by_cases h1:x<0
 ·rw[if_pos h1,decide_eq_false (show ¬ 0<x by omega)];rfl
 ·rw[if_neg h1];by_cases h2:x=0
  ·rw[if_pos h2,decide_eq_false (show ¬ 0<x by omega)];rfl
  ·rw[if_neg h2,decide_eq_true (show 0<x by omega)];rfl
theorem aKU(z:Int):decide (fZ z=[49])=decide (z=1):=by
 rw[decide_eq_decide,<-aBx];exact⟨aBu,fun h=>by rw[h]⟩
theorem amO(s t:List UInt8)(h:Heap)(lo:Nat):(run lib).fn 78 [nC s t] h lo=some (.bool (Me s t),h):=by
 have v1:=fun H lo=>apq s H lo;have v2:=fun H lo=>apq t H lo;unfold nC Me;rw[jH (x:=x78) rfl rfl rfl rfl]
 cases c1:ZP s with
 |false =>
  rw[c1]at v1
  simp(maxSteps:=1000000)(disch:=omega)only[go_sem,x78,v1]
 |true =>
  rw[c1]at v1
  cases c2:ZP t with
  |false =>
   rw[c2]at v2
   simp(maxSteps:=1000000)(disch:=omega)only[go_sem,x78,v1,v2]
  |true =>
   rw[c2]at v2;obtain⟨e1,f1⟩:=aBt c1;obtain⟨e2,f2⟩:=aBt c2;have cm:=fun H lo=>auH (x:=zv t) (y:=0) f2 apt H lo;rw[acC,<-e2]at cm;have gc:=fun H lo=>aCn f1 f2 H lo;rw[<-e1,<-e2]at gc;have cl:=aKT (zv t);have g1:=aKU ((Int.gcd (zv s) (zv t):Nat):Int);generalize fZ ((Int.gcd (zv s) (zv t):Nat):Int)=G at*;generalize qd (zv t) 0=q at*;by_cases c3:0<zv t
   ·rw[decide_eq_true c3]at cl⊢;have cl':¬ q<=0:=by simpa using cl
    by_cases c4:G=[49]
    ·have c5:(Int.gcd (zv s) (zv t)==1)=true:=by
      rw[decide_eq_true c4]at g1;have:=of_decide_eq_true g1.symm;simp only[beq_iff_eq];omega
     rw[c5];simp(maxSteps:=1000000)(disch:=omega)only[go_sem,x78,v1,v2,cm,cl',gc,c4]
    ·have c5:(Int.gcd (zv s) (zv t)==1)=false:=by
      rw[decide_eq_false c4]at g1;have:=of_decide_eq_false g1.symm;simp only[beq_eq_false_iff_ne,ne_eq];omega
     rw[c5];simp(maxSteps:=1000000)(disch:=omega)only[go_sem,x78,v1,v2,cm,cl',gc,c4]
   ·rw[decide_eq_false c3]at cl⊢;have cl':q<=0:=by simpa using cl
    simp(maxSteps:=1000000)(disch:=omega)only[go_sem,x78,v1,v2,cm,cl']
end Go.VI.Dump
namespace Go.VI.Dump
open Go.VI.Num
@[reducible] def okB:Nat×aU:=(1,.box [.bool false])
@[reducible] def y5:Nat×aU:=(1,.box [.bool true])
theorem amP(h:Heap)(id:Nat)(b:Nat×aU):(h.set id b).take h.length=h.set id b:=ZC (by simp)
theorem abO{H:Heap}{id:Nat}{cs:List AV}(hid:H[id]?=some (1,.box cs)):qL H (.bq id 1 0)=some cs:=by simp[qL,hid]
theorem aCo{H:Heap}{id:Nat}{b:Nat×aU}(hid:H[id]?=some b):H.set id b=H:=by
 obtain⟨h1,h2⟩:=kS.mp hid;rw[<-h2];exact List.set_getElem_self h1
theorem amQ{H:Heap}{id base lo ns:Nat}{a b:Bool}(hid:H[id]?=some (1,.box [.bool a]))(hlo:lo<=id)(Df:Option (Nat×Nat)):qE ⟨lo,base,ns,Df⟩ H 1 (.bq id 1 0) (.bool b)=some (H.set id (1,.box [.bool b])):=by
 cases Df<;>simp[qE,AV.cells,AV.val,hid,hlo,splice,AV.closed]
theorem aCp{h:Heap}{id:Nat}(hid:h[id]?=some y5)(f:AV)(a b:List UInt8){lo:Nat}(hlo:lo<=id):(run lib).fn 125 [.bq id 1 0,f,.str a,.str b] h lo=some (.str [],h):=by
 have hlt:id<h.length:=(kS.mp hid).1;have p:=abO hid;rw[AA (x:=ajf) rfl rfl rfl rfl (by omega)]
 simp(maxSteps:=1000000)(disch:=omega)only[go_sem,ajf,p,QU]
theorem akI{h:Heap}{id:Nat}(hid:h[id]?=some okB){g:Nat}(hg0:g<1000){a b s:List UInt8}(hg:∀ lo,(run lib).fn g [.str a,.str b] h lo=some (.tuple [.str s,.int .i64 0],h)){lo:Nat}(hlo:lo<=id) :
  (run lib).fn 125 [.bq id 1 0,.fn g [],.str a,.str b] h lo=some (.str s,h):=by
 have hlt:id<h.length:=(kS.mp hid).1;have p:=abO hid;have st:=amQ (base:=h.length) (ns:=0) (b:=false) hid hlo none;rw[aCo hid]at st;rw[AA (x:=ajf) rfl rfl rfl rfl (by omega)]
 simp(maxSteps:=1000000)(disch:=omega)only[go_sem,ajf,p,hg,hg0,st,QU]
theorem aCq{h:Heap}{id:Nat}(hid:h[id]?=some okB){g:Nat}(hg0:g<1000){a b s:List UInt8}{e:Int}(he:e≠0)(hg:∀ lo,(run lib).fn g [.str a,.str b] h lo=some (.tuple [.str s,.int .i64 e],h)){lo:Nat}(hlo:lo<=id) :
  (run lib).fn 125 [.bq id 1 0,.fn g [],.str a,.str b] h lo=some (.str s,h.set id y5):=by
 have hlt:id<h.length:=(kS.mp hid).1;have p:=abO hid;have st:=amQ (base:=h.length) (ns:=0) (b:=true) hid hlo none;rw[AA (x:=ajf) rfl rfl rfl rfl (by omega)]
 simp(maxSteps:=1000000)(disch:=omega)only[go_sem,ajf,p,hg,hg0,he,st,amP]
theorem aKV{h:Heap}{id:Nat}(hid:h[id]?=some y5)(a b:List UInt8){lo:Nat}(hlo:lo<=id):(run lib).fn 124 [.bq id 1 0,.str a,.str b] h lo=some (.str [],h):=by
 have hlt:id<h.length:=(kS.mp hid).1;have d:=fun f {lo} (hlo:lo<=id)=>aCp hid f a b (lo:=lo) hlo;rw[AA (x:=aje) rfl rfl rfl rfl (by omega)]
 simp(maxSteps:=1000000)(disch:=omega)only[go_sem,aje,d,hlo,QU,amP]
theorem aKW{h:Heap}{id:Nat}(hid:h[id]?=some okB){x y:Int}(hx:Fit x)(hy:Fit y)(hf:Fit (x*y)){lo:Nat}(hlo:lo<=id) :
  (run lib).fn 124 [.bq id 1 0,.str (fZ x),.str (fZ y)] h lo=some (.str (fZ (x*y)),h):=by
 have hlt:id<h.length:=(kS.mp hid).1;have d:=fun{lo} (hlo:lo<=id)=>akI hid (g:=161) (by decide) (a:=fZ x) (b:=fZ y) (s:=fZ (x*y)) (fun lo=>by rw[aCj hx hy,ajv hf]) (lo:=lo) hlo
 rw[AA (x:=aje) rfl rfl rfl rfl (by omega)]
 simp(maxSteps:=1000000)(disch:=omega)only[go_sem,aje,d,hlo,QU,amP]
theorem aKX{h:Heap}{id:Nat}(hid:h[id]?=some okB){x y:Int}(hx:Fit x)(hy:Fit y)(hf:¬ Fit (x*y)){lo:Nat}(hlo:lo<=id) :
  (run lib).fn 124 [.bq id 1 0,.str (fZ x),.str (fZ y)] h lo=some (.str [],h.set id y5):=by
 have hlt:id<h.length:=(kS.mp hid).1;have d:=fun{lo} (hlo:lo<=id)=>aCq hid (g:=161) (by decide) (a:=fZ x) (b:=fZ y) (s:=[]) (e:=30) (by decide) (fun lo=>by rw[aCj hx hy];show some (outT (x*y),h)=_;unfold outT;rw[if_neg (show ¬ (x*y).natAbs<10^200 from hf)]) (lo:=lo) hlo
 rw[AA (x:=aje) rfl rfl rfl rfl (by omega)]
 simp(maxSteps:=1000000)(disch:=omega)only[go_sem,aje,d,hlo,QU,amP]
theorem aKY{x y:Int}(hx:Fit x)(hy:Fit y)(h0:y≠0)(hq:Fit (x/y))(h:Heap)(lo:Nat):(run lib).fn 165 [.str (fZ x),.str (fZ y)] h lo=some (.tuple [.str (fZ (x/y)),.int .i64 0],h):=by
 have dv:=fun H lo=>avU hx hy h0 H lo;unfold aps at dv;have oS:auE (x/y)=fZ (x/y):=if_pos hq;have oE:auF (x/y)=0:=if_pos hq;rw[jH (x:=atZ) rfl rfl rfl rfl];simp(maxSteps:=1000000)(disch:=omega)only[go_sem,atZ,dv,oS,oE]
theorem aCr{h:Heap}{id:Nat}(hid:h[id]?=some okB){x y:Int}(hx:Fit x)(hy:Fit y)(h0:y≠0)(hq:Fit (x/y)){lo:Nat}(hlo:lo<=id) :
  (run lib).fn 136 [.bq id 1 0,.str (fZ x),.str (fZ y)] h lo=some (.str (fZ (x/y)),h):=by
 have hlt:id<h.length:=(kS.mp hid).1;have d:=fun{lo} (hlo:lo<=id)=>akI hid (g:=165) (by decide) (a:=fZ x) (b:=fZ y) (s:=fZ (x/y)) (fun lo=>aKY hx hy h0 hq h lo) (lo:=lo) hlo
 rw[AA (x:=atN) rfl rfl rfl rfl (by omega)]
 simp(maxSteps:=1000000)(disch:=omega)only[go_sem,atN,d,hlo,QU,amP]
end Go.VI.Dump
namespace Go.VI.Dump
open Go.VI.Num
theorem aKZ(x:Int):(qd x 0<0)↔x<0:=by
 unfold qd;by_cases h1:x<0
 ·rw[if_pos h1];omega
 ·rw[if_neg h1];by_cases h2:x=0
  ·rw[if_pos h2];omega
  ·rw[if_neg h2];omega
theorem apv{x:Int}(h:Fit x):Fit (-x):=by unfold Fit at*;rw[Int.natAbs_neg];exact h
theorem aK0{n d:Int}(h:d≠0):((Int.gcd n d:Nat):Int)≠0:=by
 intro e;have:Int.gcd n d=0:=by omega
 exact h (Int.gcd_eq_zero_iff.mp this).2
theorem apw{d:Int}(h:d≠0):¬ fZ d=[48]:=fun e=>h (aBu (e.trans acC.symm))
theorem reduced_bad{h:Heap}{id:Nat}(hid:h[id]?=some y5)(n d:List UInt8){lo:Nat}(hlo:lo<=id):(run lib).fn 103 [.bq id 1 0,.str n,.str d] h lo=some (JF none,h):=by
 have hlt:id<h.length:=(kS.mp hid).1;have p:=fun fr=>abO (IB (fr:=fr) hid);rw[AA (x:=x103) rfl rfl rfl rfl (by omega)]
 simp(maxSteps:=1000000)(disch:=omega)only[go_sem,x103,p,JF,nC,List.take_left']
theorem reduced_zero{h:Heap}{id:Nat}(hid:h[id]?=some okB)(n:List UInt8){lo:Nat}(hlo:lo<=id):(run lib).fn 103 [.bq id 1 0,.str n,.str [48]] h lo=some (JF none,h):=by
 have hlt:id<h.length:=(kS.mp hid).1;have p:=fun fr=>abO (IB (fr:=fr) hid);rw[AA (x:=x103) rfl rfl rfl rfl (by omega)]
 simp(maxSteps:=1000000)(disch:=omega)only[go_sem,x103,p,JF,nC,List.take_left']
theorem reduced_ok{h:Heap}{id:Nat}(hid:h[id]?=some okB){n d:Int}(hn:Fit n)(hd:Fit d)(h0:d≠0){lo:Nat}(hlo:lo<=id) :
  (run lib).fn 103 [.bq id 1 0,.str (fZ n),.str (fZ d)] h lo=some (JF (some (Rat.divInt n d)),h):=by
 have hlt:id<h.length:=(kS.mp hid).1;have p:=fun fr=>abO (IB (fr:=fr) hid);have hz:=apw h0;have cm:=fun H lo=>auH hd apt H lo;rw[acC]at cm;have cl:=aKZ d
 have fin:∀{N D:Int},Fit N->Fit D->0<D->Rat.divInt N D=Rat.divInt n d->∃ G:Int,(∀ fr {lo},lo<=id->(run lib).fn 125 [.bq id 1 0,.fn 105 [],.str (fZ N),.str (fZ D)] (h++fr) lo=some (.str (fZ G),h++fr)) /\
   (∀ fr {lo},lo<=id->(run lib).fn 136 [.bq id 1 0,.str (fZ N),.str (fZ G)] (h++fr) lo=some (.str (fZ (Rat.divInt n d).num),h++fr)) /\
   (∀ fr {lo},lo<=id->(run lib).fn 136 [.bq id 1 0,.str (fZ D),.str (fZ G)] (h++fr) lo=some (.str (fZ ((Rat.divInt n d).den:Int)),h++fr)):=by
  intro N D hN hD hp he;have hG:=aCm hN hD;have hG0:=aK0 (n:=N) (d:=D) (by omega)
  refine⟨(Int.gcd N D:Nat),fun fr lo hlo=>akI (IB (fr:=fr) hid) (by decide) (fun lo=>aCn hN hD _ _) hlo,fun fr lo hlo=>?_,fun fr lo hlo=>?_⟩
  ·rw[<-he,aJI hp];exact aCr (IB (fr:=fr) hid) hN hG hG0 (amN hN hG0) hlo
  ·rw[<-he,aJJ hp];exact aCr (IB (fr:=fr) hid) hD hG hG0 (amN hD hG0) hlo
 generalize qd d 0=q at*;rw[AA (x:=x103) rfl rfl rfl rfl (by omega)]
 by_cases c:d<0
 ·obtain⟨G,g1,g2,g3⟩:=fin (apv hn) (apv hd) (by omega) (Rat.neg_divInt_neg n d)
  have s1:=fun fr {lo} (hlo:lo<=id)=>akI (h:=h++fr) (IB (fr:=fr) hid) (g:=135) (by decide) (a:=[48]) (b:=fZ n) (s:=fZ (-n)) (fun lo=>by rw[<-acC,auG apt hn,Int.zero_sub,ajv (apv hn)]) hlo
  have s2:=fun fr {lo} (hlo:lo<=id)=>akI (h:=h++fr) (IB (fr:=fr) hid) (g:=135) (by decide) (a:=[48]) (b:=fZ d) (s:=fZ (-d)) (fun lo=>by rw[<-acC,auG apt hd,Int.zero_sub,ajv (apv hd)]) hlo
  have cl':q<0:=cl.mpr c;clear fin;simp(maxSteps:=1000000)(disch:=omega)only[go_sem,x103,p,hz,cm,cl',s1,s2,g1,g2,g3,hlo,JF,rt,nC,List.take_left']
 ·obtain⟨G,g1,g2,g3⟩:=fin hn hd (by omega) rfl
  have cl':¬ q<0:=fun h=>c (cl.mp h);clear fin;simp(maxSteps:=1000000)(disch:=omega)only[go_sem,x103,p,hz,cm,cl',g1,g2,g3,hlo,JF,rt,nC,List.take_left']
theorem aK1{n d:Int}(hn:Fit n)(hd:Fit d)(h:Heap)(lo:Nat):(run lib).fn 73 [.str (fZ n),.str (fZ d)] h lo=some (JF (akC n d),h):=by
 have v1:=fun H lo=>apq (fZ n) H lo;have v2:=fun H lo=>apq (fZ d) H lo;rw[akB hn]at v1;rw[akB hd]at v2;unfold akC;rw[jH (x:=x73) rfl rfl rfl rfl];by_cases c:d=0
 ·subst c;rw[if_pos rfl,acC]at *;have r:=fun X {lo} hlo=>reduced_zero (h:=h++[okB,X]) (id:=h.length+0) (by rw[ku];rfl) (fZ n) (lo:=lo) hlo
  simp(maxSteps:=1000000)(disch:=omega)only[go_sem,x73,v1,v2,r,JF,nC]
 ·rw[if_neg c];have r:=fun X {lo} hlo=>reduced_ok (h:=h++[okB,X]) (id:=h.length+0) (by rw[ku];rfl) hn hd c (lo:=lo) hlo
  generalize Rat.divInt n d=Q at*;simp(maxSteps:=1000000)(disch:=omega)only[go_sem,x73,v1,v2,r,JF,rt,nC]
end Go.VI.Dump
namespace Go.VI.Dump
open Go.VI.Num
def abP(a:Bool)(v:Bool):Bool:=a||!v
theorem aCs{h:Heap}{id:Nat}{a:Bool}(hid:h[id]?=some (1,.box [.bool a])){lo:Nat}(hlo:lo<=id)(es:List AV)(k:Nat)(s t:List UInt8)(he:es[k]?=some (nC s t))(hl:es.length<=10)(w:Nat)(b:aU)(hb:b=.dead\/∃ cs,b=.box cs)(r:Option (Ex×Env×Heap))
  (N:Int) (hN:(es.length:Int)=N) (hr:bV lib ⟨lo,h.length,1,none⟩ (.loop amj) ([(0,.bq id 1 0),(6,.fT 2 es),(7,.int .i64 N),(8,.int .i64 ((k:Int)+1))],h.set id (1,.box [.bool (abP a (Me s t))])++[(w+1,.box [.str s,.str t])])=r) :
  bV lib ⟨lo,h.length,1,none⟩ (.loop amj) ([(0,.bq id 1 0),(6,.fT 2 es),(7,.int .i64 N),(8,.int .i64 k)],h++[(w,b)])=r:=by
 have hlt:id<h.length:=(kS.mp hid).1;have hk:k<es.length:=(kS.mp he).1;have p:=fun fr=>abO (IB (fr:=fr) hid);have st:=fun fr (c:Bool)=>amQ (H:=h++fr) (base:=h.length) (ns:=1) (b:=c) (IB (fr:=fr) hid) hlo none;have sp:=fun fr c=>aot (fr:=fr) c hid;simp only[sp]at st;have c1:(k:Int)<N:=by omega
 have hs:Sl (h++[(w,b)]) 2 (.fT 2 es) es:=(show oz 2 (.fT 2 es) es from .inr ⟨2,.inr rfl,.inl rfl⟩).sl _
 have e3:vJ 2 (.fT 2 es) (.int .i64 k)=some k:=by rw[Bu hs (by omega) (by omega)];simp
 have e4:∀ off fr,qL (h++fr) (.nS (.fT 2 es) k off)=some ((nC s t).cells.drop off):=fun off fr=>by
  have:=Ab (off:=off) ((show oz 2 (.fT 2 es) es from .inr ⟨2,.inr rfl,.inl rfl⟩).sl (h++fr)).DC hk
  rw[this];have:es[k]=nC s t:=by rw[Fv hk]at he;exact Option.some.inj he
  rw[this]
 have v:=fun H lo=>amO s t H lo;simp only[nC,AV.cells]at e4 v;rw[jm]
 cases a with
 |true =>
  simp only[abP,Bool.true_or]at hr;rcases hb with rfl|⟨cs,rfl⟩
  ·simp(maxSteps:=1000000)(disch:=omega)only[go_sem,c1,e3,e4,p,st];exact hr
  ·simp(maxSteps:=1000000)(disch:=omega)only[go_sem,c1,e3,e4,p,st]
   exact hr
 |false =>
  cases c2:Me s t with
  |true =>
   rw[c2]at v hr;simp only[abP,Bool.false_or,Bool.not_true]at hr;rcases hb with rfl|⟨cs,rfl⟩
   ·simp(maxSteps:=1000000)(disch:=omega)only[go_sem,c1,e3,e4,p,v,st];exact hr
   ·simp(maxSteps:=1000000)(disch:=omega)only[go_sem,c1,e3,e4,p,v,st]
    exact hr
  |false =>
   rw[c2]at v hr;simp only[abP,Bool.false_or,Bool.not_false]at hr;rcases hb with rfl|⟨cs,rfl⟩
   ·simp(maxSteps:=1000000)(disch:=omega)only[go_sem,c1,e3,e4,p,v,st];exact hr
   ·simp(maxSteps:=1000000)(disch:=omega)only[go_sem,c1,e3,e4,p,v,st];exact hr
theorem aK2(h:Heap)(id:Nat)(X:Nat×aU)(fr:Heap):(h.set id X++fr).take h.length=h.set id X:=by
 rw[List.take_append_of_le_length (by simp),ZC (by simp)]
theorem aK3{lo B:Nat}(H:Heap)(id:Nat)(es:List AV)(N:Int):bV lib ⟨lo,B,1,none⟩ (.loop amj) ([(0,.bq id 1 0),(6,.fT 2 es),(7,.int .i64 N),(8,.int .i64 N)],H)=some (.exit 0,([],H)):=by
 rw[jm];simp(maxSteps:=1000000)(disch:=omega)only[go_sem,DV]
theorem aK4{h:Heap}{id:Nat}(hid:h[id]?=some okB)(s t u v:List UInt8){lo:Nat}(hlo:lo<=id):(run lib).fn 122 [.bq id 1 0,.fT 2 [nC s t,nC u v]] h lo=some (.tuple [],h.set id (1,.box [.bool (!(Me s t&&Me u v))])):=by
 have hlt:id<h.length:=(kS.mp hid).1;have e:(abP (abP false (Me s t)) (Me u v))=!(Me s t&&Me u v):=by unfold abP;cases Me s t<;>cases Me u v<;>rfl
 have zl:(h.set id (1,.box [.bool (abP false (Me s t))]))[id]?=some (1,.box [.bool (abP false (Me s t))]):=L8 hlt;have c2:=aCs (h:=h.set id (1,.box [.bool (abP false (Me s t))])) zl hlo [nC s t,nC u v] 1 u v rfl (by simp) 1 (.box [.str s,.str t]) (.inr ⟨_,rfl⟩) _ 2 rfl (aK3 _ id [nC s t,nC u v] 2)
 rw[Td,List.set_set,e]at c2;have lp:=aCs (a:=false) hid hlo [nC s t,nC u v] 0 s t rfl (by simp) 0 .dead (.inl rfl) _ 2 rfl c2
 have ln:LZ false (.fT 2 [nC s t,nC u v])=some (.int .i64 2):=rfl;simp only[Gc]at lp;generalize [nC s t,nC u v]=es at*;rw[AA (x:=atJ) rfl rfl rfl rfl (by omega)]
 simp(maxSteps:=1000000)(disch:=omega)only[go_sem,atJ,ln,lp,aK2]
end Go.VI.Dump
namespace Go.VI.Dump
open Go.VI.Num
theorem akJ{z:Int}(h:Fit z):Rs z=true:=decide_eq_true h
theorem akK{z:Int}(h:¬ Fit z):Rs z=false:=decide_eq_false h
theorem aCt(q:Rat):(q.den:Int)≠0:=by have:=q.den_pos;omega
theorem aCu(a b:Rat):(a.den:Int)*b.den≠0:=Int.mul_ne_zero (aCt a) (aCt b)
section
variable (h:Heap)
theorem ajw(X:Nat×aU):(h++[okB,X])[h.length+0]?=some okB:=by rw[ku];rfl
theorem avV(X:Nat×aU):(h++[y5,X])[h.length+0]?=some y5:=by rw[ku];rfl
theorem aCv(X:Nat×aU):(h++[okB,X]).set (h.length+0) y5=h++[y5,X]:=by rw[o7];rfl
theorem aK5(X:Nat×aU):(h++[okB,X]).set (h.length+0) okB=h++[okB,X]:=by rw[o7];rfl
theorem aCw{s t u v:List UInt8}(h1:Me s t=true)(h2:Me u v=true)(X:Nat×aU){lo:Nat}(hlo:lo<=h.length+0):(run lib).fn 122 [.bq (h.length+0) 1 0,.fT 2 [.agg [.str s,.str t],.agg [.str u,.str v]]] (h++[okB,X]) lo=some (.tuple [],h++[okB,X]):=by
 have:=aK4 (ajw h X) s t u v hlo;rw[h1,h2]at this;exact this.trans (congrArg (fun H=>some (AV.tuple [],H)) (aK5 h X))
theorem amR{x y z:Int}(hx:Fit x)(hy:Fit y)(e:z=x*y)(hf:Fit z)(X:Nat×aU){lo:Nat}(hlo:lo<=h.length+0):(run lib).fn 124 [.bq (h.length+0) 1 0,.str (fZ x),.str (fZ y)] (h++[okB,X]) lo=some (.str (fZ z),h++[okB,X]):=by
 subst e;exact aKW (ajw h X) hx hy hf hlo
theorem amS{x y z:Int}(hx:Fit x)(hy:Fit y)(e:z=x*y)(hf:¬ Fit z)(X:Nat×aU){lo:Nat}(hlo:lo<=h.length+0):(run lib).fn 124 [.bq (h.length+0) 1 0,.str (fZ x),.str (fZ y)] (h++[okB,X]) lo=some (.str [],h++[y5,X]):=by
 subst e;rw[<-aCv h X];exact aKX (ajw h X) hx hy hf hlo
theorem apy(a b:List UInt8)(X:Nat×aU){lo:Nat}(hlo:lo<=h.length+0):(run lib).fn 124 [.bq (h.length+0) 1 0,.str a,.str b] (h++[y5,X]) lo=some (.str [],h++[y5,X]):=aKV (avV h X) a b hlo
theorem aCx(f:AV)(a b:List UInt8)(X:Nat×aU){lo:Nat}(hlo:lo<=h.length+0):(run lib).fn 125 [.bq (h.length+0) 1 0,f,.str a,.str b] (h++[y5,X]) lo=some (.str [],h++[y5,X]):=aCp (avV h X) f a b hlo
theorem aK6{g:Nat}(hg0:g<1000){x y z:Int}(hg:∀ h lo,(run lib).fn g [.str (fZ x),.str (fZ y)] h lo=some (outT z,h))(hf:Fit z)(X:Nat×aU){lo:Nat}(hlo:lo<=h.length+0):(run lib).fn 125 [.bq (h.length+0) 1 0,.fn g [],.str (fZ x),.str (fZ y)] (h++[okB,X]) lo=some (.str (fZ z),h++[okB,X]) :=
 akI (ajw h X) hg0 (fun lo=>by rw[hg,ajv hf]) hlo
theorem aK7{g:Nat}(hg0:g<1000){x y z:Int}(hg:∀ h lo,(run lib).fn g [.str (fZ x),.str (fZ y)] h lo=some (outT z,h))(hf:¬ Fit z)(X:Nat×aU){lo:Nat}(hlo:lo<=h.length+0):(run lib).fn 125 [.bq (h.length+0) 1 0,.fn g [],.str (fZ x),.str (fZ y)] (h++[okB,X]) lo=some (.str [],h++[y5,X]):=by
 rw[<-aCv h X];exact aCq (ajw h X) hg0 (e:=30) (by decide) (fun lo=>by rw[hg];unfold outT;rw[if_neg (show ¬ z.natAbs<10^200 from hf)]) hlo
theorem akL(n d:List UInt8)(X:Nat×aU){lo:Nat}(hlo:lo<=h.length+0):(run lib).fn 103 [.bq (h.length+0) 1 0,.str n,.str d] (h++[y5,X]) lo=some (.tuple [.agg [.str [],.str []],.int .i64 40],h++[y5,X]):=reduced_bad (avV h X) n d hlo
theorem aCy{n d:Int}(hn:Fit n)(hd:Fit d)(h0:d≠0)(X:Nat×aU){lo:Nat}(hlo:lo<=h.length+0):(run lib).fn 103 [.bq (h.length+0) 1 0,.str (fZ n),.str (fZ d)] (h++[okB,X]) lo=some (.tuple [.agg [.str (fZ (Rat.divInt n d).num),.str (fZ ((Rat.divInt n d).den:Int))],.int .i64 0],h++[okB,X]):=reduced_ok (ajw h X) hn hd h0 hlo
theorem aK8(n:Int)(X:Nat×aU){lo:Nat}(hlo:lo<=h.length+0):(run lib).fn 103 [.bq (h.length+0) 1 0,.str (fZ n),.str (fZ 0)] (h++[okB,X]) lo=some (.tuple [.agg [.str [],.str []],.int .i64 40],h++[okB,X]):=reduced_zero (ajw h X) _ hlo
end
end Go.VI.Dump
namespace Go.VI.Dump
open Go.VI.Num
theorem Dn(cs:List AV):(AV.iE cs).closed=true:=by simp[AV.closed]
theorem aCz{a b:Rat}(ha:JD a)(hb:JD b)(h:Heap)(lo:Nat):(run lib).fn 133 [rt a,rt b] h lo=some (JF (ajl a b),h):=by
 have ck:=fun X {lo} hlo=>aCw h (ajk ha) (ajk hb) X (lo:=lo) hlo;have q:=aJS a b;have qz:=aJT (a:=a) (b:=b);unfold ajl rt nC;obtain⟨x,ex⟩:∃ x,x=a.num*b.den:=⟨_,rfl⟩;obtain⟨y,ey⟩:∃ y,y=(a.den:Int)*b.num:=⟨_,rfl⟩;rw[<-ex,<-ey]at q⊢;rw[<-ey]at qz;rw[jH (x:=akr) rfl rfl rfl rfl];by_cases c1:Fit x
 ·have m1:=fun X {lo} hlo=>amR h ha.1 (TD hb) ex c1 X (lo:=lo) hlo;rw[akJ c1];by_cases c2:Fit y
  ·have m2:=fun X {lo} hlo=>amR h (TD ha) hb.1 ey c2 X (lo:=lo) hlo;rw[akJ c2];by_cases c3:b=0
   ·have r:=fun X {lo} hlo=>aK8 h x X (lo:=lo) hlo;have y0:y=0:=qz.mpr c3;rw[y0]at m2;rw[decide_eq_false (show ¬ b≠0 from fun h=>h c3)]
    simp(maxSteps:=1000000)(disch:=omega)only[go_sem,akr,ck,m1,m2,r,JF,rt,nC]
   ·have hd:y≠0:=fun h=>c3 (qz.mp h);have r:=fun X {lo} hlo=>aCy h c1 c2 hd X (lo:=lo) hlo;rw[q]at r;rw[decide_eq_true (show b≠0 from c3)]
    generalize a/b=Q at*;simp(maxSteps:=1000000)(disch:=omega)only[go_sem,akr,ck,m1,m2,r,JF,rt,nC]
  ·have m2:=fun X {lo} hlo=>amS h (TD ha) hb.1 ey c2 X (lo:=lo) hlo;rw[akK c2];simp(maxSteps:=1000000)(disch:=omega)only[go_sem,akr,ck,m1,m2,akL,JF,rt,nC]
 ·have m1:=fun X {lo} hlo=>amS h ha.1 (TD hb) ex c1 X (lo:=lo) hlo;rw[akK c1];simp(maxSteps:=1000000)(disch:=omega)only[go_sem,akr,ck,m1,apy,akL,JF,rt,nC]
theorem aK9{g:Nat}(hg0:g<1000){a b:Rat}(ha:JD a)(hb:JD b){z:Int}(hg:Fit (a.num*b.den)->Fit (b.num*a.den)->∀ h lo,(run lib).fn g [.str (fZ (a.num*b.den)),.str (fZ (b.num*a.den))] h lo=some (outT z,h))(h:Heap)(lo:Nat) :
  (run lib).fn 157 [.fn g [],rt a,rt b] h lo=some (JF (if Rs (a.num*b.den)&&Rs (b.num*a.den)&&Rs z&&Rs ((a.den:Int)*b.den)then some (Rat.divInt z ((a.den:Int)*b.den))else none),h):=by
 have ck:=fun X {lo} hlo=>aCw h (ajk ha) (ajk hb) X (lo:=lo) hlo;have hd:=aCu a b;unfold rt nC;obtain⟨x,ex⟩:∃ x,x=a.num*b.den:=⟨_,rfl⟩;obtain⟨u,eu⟩:∃ u,u=b.num*a.den:=⟨_,rfl⟩;obtain⟨y,ey⟩:∃ y,y=(a.den:Int)*b.den:=⟨_,rfl⟩;rw[<-ex,<-eu]at hg;rw[<-ex,<-eu,<-ey];rw[<-ey]at hd;rw[jH (x:=x157) rfl rfl rfl rfl];by_cases c1:Fit x
 ·have m1:=fun X {lo} hlo=>amR h ha.1 (TD hb) ex c1 X (lo:=lo) hlo;rw[akJ c1];by_cases c2:Fit u
  ·have m2:=fun X {lo} hlo=>amR h hb.1 (TD ha) eu c2 X (lo:=lo) hlo;rw[akJ c2];by_cases c3:Fit z
   ·have d:=fun X {lo} hlo=>aK6 h hg0 (hg c1 c2) c3 X (lo:=lo) hlo;rw[akJ c3];by_cases c4:Fit y
    ·have m3:=fun X {lo} hlo=>amR h (TD ha) (TD hb) ey c4 X (lo:=lo) hlo;have r:=fun X {lo} hlo=>aCy h c3 c4 hd X (lo:=lo) hlo;rw[akJ c4];generalize Rat.divInt z y=Q at*;simp(maxSteps:=1000000)(disch:=omega)only[go_sem,x157,Dn,ck,m1,m2,d,m3,r,JF,rt,nC]
    ·have m3:=fun X {lo} hlo=>amS h (TD ha) (TD hb) ey c4 X (lo:=lo) hlo;rw[akK c4];simp(maxSteps:=1000000)(disch:=omega)only[go_sem,x157,Dn,ck,m1,m2,d,m3,akL,JF,rt,nC]
   ·have d:=fun X {lo} hlo=>aK7 h hg0 (hg c1 c2) c3 X (lo:=lo) hlo;rw[akK c3];simp(maxSteps:=1000000)(disch:=omega)only[go_sem,x157,Dn,ck,m1,m2,d,apy,akL,JF,rt,nC]
  ·have m2:=fun X {lo} hlo=>amS h hb.1 (TD ha) eu c2 X (lo:=lo) hlo;rw[akK c2];simp(maxSteps:=1000000)(disch:=omega)only[go_sem,x157,Dn,ck,m1,m2,aCx,apy,akL,JF,rt,nC]
 ·have m1:=fun X {lo} hlo=>amS h ha.1 (TD hb) ex c1 X (lo:=lo) hlo;rw[akK c1];simp(maxSteps:=1000000)(disch:=omega)only[go_sem,x157,Dn,ck,m1,aCx,apy,akL,JF,rt,nC]
theorem aCA(o:Option Rat):∃ s t e,JF o=.tuple [.agg [.str s,.str t],.int .i64 e]:=by
 cases o with
 |none=>exact⟨_,_,_,rfl⟩
 |some q=>exact⟨_,_,_,rfl⟩
theorem aCB{a b:Rat}(ha:JD a)(hb:JD b)(h:Heap)(lo:Nat):(run lib).fn 119 [rt a,rt b] h lo=some (JF (Ze a b),h):=by
 have s:=fun H lo=>aK9 (g:=135) (by decide) ha hb (z:=a.num*b.den-b.num*a.den) (fun h1 h2 H lo=>auG h1 h2 H lo) H lo
 rw[aBw]at s;unfold Ze;generalize (if Rs (a.num*b.den)&&Rs (b.num*a.den)&&Rs (a.num*b.den-b.num*a.den)&&Rs ((a.den:Int)*b.den)then some (a-b)else none)=o at*;obtain⟨s1,s2,e,he⟩:=aCA o;rw[he]at s⊢;unfold rt nC at s⊢;rw[jH (x:=atI) rfl rfl rfl rfl];simp(maxSteps:=1000000)(disch:=omega)only[go_sem,atI,s]
theorem aK'{n d:Int}(hn:Fit n)(hd:Fit d)(hn1:-9223372036854775808<=n/\n<=9223372036854775807)(hd1:-9223372036854775808<=d/\d<=9223372036854775807)(h:Heap)(lo:Nat):(run lib).fn 39 [.int .i64 n,.int .i64 d] h lo=some (JF (akC n d),h):=by
 have f1:=fun H lo=>aCk hn1.1 hn1.2 H lo;have f2:=fun H lo=>aCk hd1.1 hd1.2 H lo;have m:=fun H lo=>aK1 hn hd H lo;obtain⟨s1,s2,e,he⟩:=aCA (akC n d);rw[he]at m⊢;rw[jH (x:=x39) rfl rfl rfl rfl];simp(maxSteps:=1000000)(disch:=omega)only[go_sem,x39,f1,f2,m]
end Go.VI.Dump
namespace Go.VI.Dump
open Go.VI.Num
theorem aLa(x y:Int):(qd x y=-1/\x<y)\/(qd x y=0/\x=y)\/(qd x y=1/\y<x):=by
 unfold qd;by_cases h1:x<y
 ·rw[if_pos h1];omega
 ·rw[if_neg h1];by_cases h2:x=y
  ·rw[if_pos h2];omega
  ·rw[if_neg h2];omega
theorem aLb(h:Heap):∀(k:Nat) (n d m c σ:Int),d.toNat<=k->0<d->0<c->Fit n->Fit d->Fit m->Fit c->(σ=1\/σ=-1)->∃ env' fr',fr'.length=2 /\
  bV lib ⟨h.length,h.length,2,none⟩ (.loop atd) ([(2,.bq (h.length+0) 1 0),(3,.bq (h.length+1) 1 0),(5,.int .i64 σ)],h++[(1,.box [.str (fZ n),.str (fZ d)]),(1,.box [.str (fZ m),.str (fZ c)])]) =
   some (.ret,(env',h++fr'))/\env'.get 4=.int .i64 (σ*qd (n*c) (m*d)):=by
 intro k
 induction k with
 |zero=>intro n d m c σ h1 h2;omega
 |succ k ih =>
  intro n d m c σ hk hd hc fn fd fm fc hσ;have v1:=fun H lo=>avU fn fd (by omega) H lo
  have v2:=fun H lo=>avU fm fc (by omega) H lo
  unfold aps at v1 v2;have fp:=amN fn (show d≠0 by omega)
  have fq:=amN fm (show c≠0 by omega)
  have fr:=avt (x:=n) fd (by omega)
  have fs:=avt (x:=m) fc (by omega)
  have cm:=fun H lo=>auH fp fq H lo;have ne:=aJR (n:=n) (m:=m) hd hc;have eq:=round_eq (n:=n) (d:=d) (m:=m) (c:=c);have r0:=Int.emod_nonneg n (show d≠0 by omega)
  have s0:=Int.emod_nonneg m (show c≠0 by omega)
  have r1:=Int.emod_lt_of_pos n hd;have s1:=Int.emod_lt_of_pos m hc;have cc:=aLa (n/d) (m/c);generalize n/d=p at*;generalize m/c=q at*;generalize n%d=r at*;generalize m%c=s at*;rcases cc with⟨e,l⟩|⟨e,l⟩|⟨e,l⟩
  ·have e2:=ne (by omega)
   rw[e]at e2 cm;refine⟨[(4,.int .i64 (σ*-1))],[(1,.box [.str (fZ n),.str (fZ d)]),(1,.box [.str (fZ m),.str (fZ c)])],rfl, ?_,by rw[<-e2];rfl⟩
   rw[jm];rcases hσ with rfl|rfl
   ·simp(maxSteps:=1000000)(disch:=omega)only[go_sem,v1,v2,cm]
   ·simp(maxSteps:=1000000)(disch:=omega)only[go_sem,v1,v2,cm]
  ·have e2:=eq l;rw[e]at cm;by_cases hr:r=0
   ·subst hr;rw[acC]at v1;rw[Int.zero_mul]at e2;by_cases hs:s=0
    ·subst hs;rw[acC]at v2;refine⟨[(4,.int .i64 0)],[(1,.box [.str (fZ n),.str (fZ d)]),(1,.box [.str (fZ m),.str (fZ c)])],rfl, ?_,by rw[e2,Int.zero_mul,show qd 0 0=0 from rfl,Int.mul_zero];rfl⟩
     rw[jm];rcases hσ with rfl|rfl
     ·simp(maxSteps:=1000000)(disch:=omega)only[go_sem,v1,v2,cm]
     ·simp(maxSteps:=1000000)(disch:=omega)only[go_sem,v1,v2,cm]
    ·have hz:=apw hs;have hp:0<s*d:=Int.mul_pos (by omega) hd
     refine⟨[(4,.int .i64 (-σ))],[(1,.box [.str (fZ n),.str (fZ d)]),(1,.box [.str (fZ m),.str (fZ c)])],rfl, ?_,by rw[e2,show qd 0 (s*d)=-1 from if_pos hp,Int.mul_neg,Int.mul_one];rfl⟩
     rw[jm];rcases hσ with rfl|rfl
     ·simp(maxSteps:=1000000)(disch:=omega)only[go_sem,v1,v2,cm,hz]
     ·simp(maxSteps:=1000000)(disch:=omega)only[go_sem,v1,v2,cm,hz]
   ·have hy:=apw hr;by_cases hs:s=0
    ·subst hs;rw[acC]at v2;have hp:0<r*c:=Int.mul_pos (by omega) hc
     refine⟨[(4,.int .i64 σ)],[(1,.box [.str (fZ n),.str (fZ d)]),(1,.box [.str (fZ m),.str (fZ c)])],rfl, ?_,by rw[e2,Int.zero_mul,show qd (r*c) 0=1 from by unfold qd;rw[if_neg (by omega),if_neg (by omega)],Int.mul_one];rfl⟩
     rw[jm];rcases hσ with rfl|rfl
     ·simp(maxSteps:=1000000)(disch:=omega)only[go_sem,v1,v2,cm,hy]
     ·simp(maxSteps:=1000000)(disch:=omega)only[go_sem,v1,v2,cm,hy]
    ·have hz:=apw hs;obtain⟨env',fr',l',w',g'⟩:=ih d r c s (-σ) (by omega) (by omega) (by omega) fd fr fc fs (by omega)
     refine⟨env',fr',l', ?_, ?_⟩
     ·have hne1:¬ h.length+0=h.length+1:=by omega
      have hne2:¬ h.length+1=h.length+0:=by omega
      rw[jm];rcases hσ with rfl|rfl
      ·simp(maxSteps:=1000000)(disch:=omega)only[go_sem,v1,v2,cm,hy,hz,hne1,hne2];exact w'
      ·simp(maxSteps:=1000000)(disch:=omega)only[go_sem,v1,v2,cm,hy,hz,hne1,hne2];exact w'
     ·rw[g',e2,round_swap,Int.neg_mul_neg]
  ·have e2:=ne (by omega)
   rw[e]at e2 cm;refine⟨[(4,.int .i64 (σ*1))],[(1,.box [.str (fZ n),.str (fZ d)]),(1,.box [.str (fZ m),.str (fZ c)])],rfl, ?_,by rw[<-e2];rfl⟩
   rw[jm];rcases hσ with rfl|rfl
   ·simp(maxSteps:=1000000)(disch:=omega)only[go_sem,v1,v2,cm]
   ·simp(maxSteps:=1000000)(disch:=omega)only[go_sem,v1,v2,cm]
theorem aCC{a b:Rat}(ha:JD a)(hb:JD b)(h:Heap)(lo:Nat):(run lib).fn 42 [rt a,rt b] h lo=some (.int .i64 (Mf a b),h):=by
 have va:=fun H lo=>amO (fZ a.num) (fZ (a.den:Int)) H lo;have vb:=fun H lo=>amO (fZ b.num) (fZ (b.den:Int)) H lo;rw[ajk ha]at va;rw[ajk hb]at vb;obtain⟨env',fr',l,w,g⟩:=aLb h _ a.num (a.den:Int) b.num (b.den:Int) 1 (iJ _) (by have:=a.den_pos;omega) (by have:=b.den_pos;omega) ha.1 (TD ha) hb.1 (TD hb) (.inl rfl)
 rw[Int.one_mul]at g;unfold Mf;unfold rt nC at*;rw[jH (x:=x42) rfl rfl rfl rfl];simp(maxSteps:=1000000)(disch:=omega)only[go_sem,x42,va,vb,w,g,List.take_left']
end Go.VI.Dump
namespace Go.VI.Dump
open Go.VI.Num
end Go.VI.Dump
namespace Go.VI
end Go.VI
namespace Go.VI.Dump
open Go.VI.Num
end Go.VI.Dump
namespace Go.VI.Dump
open Go.VI.Num
instance (z:Int):Decidable (Fit z):=inferInstanceAs (Decidable (_<_))
end Go.VI.Dump
namespace Go.VI.Dump
open Go.VI.Num
end Go.VI.Dump
namespace Go.VI.Dump
open Go.VI.Num
end Go.VI.Dump
namespace Go.VI.Num
end Go.VI.Num
namespace Go.VI.Dump
open Go.VI.Num
end Go.VI.Dump
namespace Go.VI.Num
end Go.VI.Num
namespace Go.VI.Dump
open Go.VI.Num
end Go.VI.Dump
namespace Go.VI.Dump
open Go.VI.Num
end Go.VI.Dump
namespace Go.VI.Dump
open Go.VI.Num
end Go.VI.Dump
namespace Go.VI.Dump
open Go.VI.Num
end Go.VI.Dump
namespace Go.VI.Dump
open Go.VI.Num
end Go.VI.Dump
namespace Go.VI.Dump
open Go.VI.Num
end Go.VI.Dump
