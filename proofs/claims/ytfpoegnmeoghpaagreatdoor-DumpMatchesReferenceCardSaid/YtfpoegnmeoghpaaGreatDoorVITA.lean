/- Calls and rounds: a dead block may be any other. -/
import Derived.Test.YtfpoegnmeoghpaaGreatDoorVIT
set_option linter.unusedVariables false
set_option linter.unusedSimpArgs false
namespace Go.VI
set_option linter.unusedSectionVars false
variable [bJ][Rounds]
section
variable {aQ:Nat->Bool}{call:Callee}{i v:Nat}{b:Nat×av}
theorem S9{env:Env}{h:Heap}{r:lK}{a:AV}(hx:rT env h r=some a)(hd:h[i]?=some (v,.dead)):rT env (h.set i b) r=some a:=by
 cases r with
 |tmp t=>exact hx
 |cell t sh =>
  simp only[rT]at hx⊢;obtain⟨cs,h1,h2⟩:=bE.mp hx;exact bE.mpr ⟨cs,KF h1 hd,h2⟩
theorem Ta{env:Env}{h:Heap}:∀{rs:List lK} {as:List AV},ni env h rs=some as->h[i]?=some (v,.dead)->ni env (h.set i b) rs=some as
 |[],as,hx,_=>hx
 |r::rs,as,hx,hd=>by
  simp only[ni]at hx⊢;obtain⟨a,h1,hx⟩:=bE.mp hx;obtain⟨as',h2,rfl⟩:=mE.mp hx;exact bE.mpr ⟨a,S9 h1 hd,mE.mpr ⟨as',Ta h2 hd,rfl⟩⟩
theorem acy{env:Env}{h:Heap}{rs:List lK}{a:AV}(hx:nX env h rs=some a)(hd:h[i]?=some (v,.dead)):nX env (h.set i b) rs=some a:=by
 unfold nX at hx⊢;split at hx
 ·exact S9 hx hd
 ·obtain⟨as,h1,rfl⟩:=mE.mp hx;exact mE.mpr ⟨as,Ta h1 hd,rfl⟩
theorem Tc{base:Nat}{a a':AV}{h h':Heap}(hx:give base a h=some (a',h'))(hd:h[i]?=some (v,.dead))(hi:i<base):h'[i]?=some (v,.dead)/\give base a (h.set i b)=some (a',h'.set i b):=by
 unfold give at hx⊢;split at hx
 ·simp only[aP,ax]at hx⊢;obtain⟨rfl,rfl⟩:=hx;exact⟨hd,rfl,rfl⟩
 ·split at hx
  ·rename_i hc;rw[if_pos hc];obtain⟨es,h1,he⟩:=mE.mp hx;simp only[ax]at he;obtain⟨rfl,rfl⟩:=he;refine⟨nE (by omega) hd,mE.mpr ⟨es,D7 h1 hd, ?_⟩⟩
   rw[mQ _ _ (by omega)]
  ·rename_i hc;rw[if_neg hc];exact wZ _ _ _ _ hx hd hi
 ·exact wZ _ _ _ _ hx hd hi
theorem Td{base:Nat}(hi:i<base):∀{as as':List AV} {h h':Heap},l6 base as h=some (as',h')->h[i]?=some (v,.dead)->h'[i]?=some (v,.dead)/\l6 base as (h.set i b)=some (as',h'.set i b)
 |[],as',h,h',hx,hd=>by
  simp only[l6,aP,ax]at hx⊢;obtain⟨rfl,rfl⟩:=hx
  exact⟨hd,rfl,rfl⟩
 |a::as,as',h,h',hx,hd=>by
  simp only[l6]at hx⊢;obtain⟨⟨a1,h1⟩,h2,hx⟩:=bE.mp hx;obtain⟨⟨as1,h3⟩,h4,he⟩:=mE.mp hx;simp only[ax]at he;obtain⟨rfl,rfl⟩:=he;obtain⟨k1,k2⟩:=Tc (b:=b) h2 hd hi;obtain⟨k3,k4⟩:=Td hi h4 k1;exact⟨k3,bE.mpr ⟨_,k2,mE.mpr ⟨_,k4,rfl⟩⟩⟩
theorem acz{base:Nat}{a r:AV}{h:Heap}(hx:eF base a h=some r)(hd:h[i]?=some (v,.dead))(hi:i<base):eF base a (h.set i b)=some r:=by
 unfold eF at hx⊢;split at hx
 ·obtain⟨⟨as,h1⟩,h2,rfl⟩:=mE.mp hx;exact mE.mpr ⟨_,(Td hi h2 hd).2,rfl⟩
 ·obtain⟨⟨as,h1⟩,h2,rfl⟩:=mE.mp hx;exact mE.mpr ⟨_,(Tc h2 hd hi).2,rfl⟩
theorem acA{n:Nat}(hc:mP aQ call){x:aW}{args:List AV}{h:Heap}{lo:Nat}{r:AV}{h':Heap}(he:enter x (fun cx=>exec call cx n) args h lo=some (r,h'))(hd:h[i]?=some (v,.dead))(hi:i<lo\/x.isOpen=false\/x.code.still aQ=true) :
  h'[i]?=some (v,.dead)/\enter x (fun cx=>exec call cx n) args (h.set i b) lo=some (r,h'.set i b):=by
 have hlt:i<h.length:=(bO.mp hd).1;unfold enter at he⊢;simp only[qJ]at he⊢;split at he
 ·rename_i hal;rw[if_pos hal];obtain⟨⟨e,env',h1⟩,hx,he⟩:=bE.mp he;have hset:h.set i b++List.replicate x.ns (0,av.dead)=(h++List.replicate x.ns (0,av.dead)).set i b:=by rw[List.set_append_left _ _ hlt]
  rw[hset];have hd0:(h++List.replicate x.ns (0,av.dead))[i]?=some (v,.dead):=by rw[gN hlt];exact hd
  have hcx:i<(if x.isOpen=true then lo else h.length)\/x.code.still aQ=true:=by
   split
   ·rename_i ho;rcases hi with h|h|h
    ·exact .inl h
    ·rw[h]at ho;cases ho
    ·exact .inr h
   ·exact .inl hlt
  have hle:(if x.isOpen=true then lo else h.length)<=h.length:=by
   split
   ·rename_i ho;exact hal.2 ho
   ·exact aV _
  obtain⟨k1,k2⟩:=KJ (b:=b) hc (cx:=⟨if x.isOpen=true then lo else h.length,h.length,x.ns,none⟩) hle (fun _ _ h=>by cases h) n x.code hx hd0 hlt hcx
  rw[k2];simp only[Option.bind_some]
  have fin:∀(hr:((nX env' h1 x.res).bind fun v=>(eF h.length v h1).map fun r=>(r,if x.isOpen then h1.take h.length else h))=some (r,h')),
    h'[i]?=some (v,.dead)/\((nX env' (h1.set i b) x.res).bind fun v=>(eF h.length v (h1.set i b)).map fun r=>(r,if x.isOpen then(h1.set i b).take h.length else h.set i b))=some (r,h'.set i b):=by
   intro hr;obtain⟨a,g1,g2⟩:=bE.mp hr;obtain⟨r',g3,g4⟩:=mE.mp g2;simp only[ax]at g4;obtain⟨rfl,rfl⟩:=g4;refine⟨?_,bE.mpr ⟨a,acy g1 k1,mE.mpr ⟨_,acz g3 k1 hlt, ?_⟩⟩⟩
   ·split
    ·rw[sD hlt];exact k1
    ·exact hd
   ·split
    ·rw[List.take_set]
    ·rfl
  cases e with
  |exit id=>cases he
  |norm=>exact fin he
  |ret=>exact fin he
 ·cases he
theorem acB{n:Nat}(hc:mP aQ call){x:iR}{d:bQ}{id aj:Nat}{args:List AV}{h:Heap}{e:Ex}{h':Heap}(hr:round x (fun cx=>exec call cx n) d id aj args h=some (e,h'))(hd:h[i]?=some (v,.dead))(hi:i<d.lo)(hlo:d.lo<=d.base)(hid:d.lo<=id) :
  h'[i]?=some (v,.dead)/\round x (fun cx=>exec call cx n) d id aj args (h.set i b)=some (e,h'.set i b):=by
 unfold round at hr⊢;split at hr
 ·rename_i hal;rw[if_pos hal];dsimp only;obtain⟨⟨e1,jT,h1⟩,g1,g2⟩:=bE.mp hr;clear hr;obtain⟨k1,k2⟩:=KJ (b:=b) hc (cx:={ lo:=d.lo,base:=d.base,ns:=d.ns,ic:=some (id,aj) }) hlo (fun id' vG h=>by cases h;omega) n x.fZ g1 hd (by simp only[];omega) (.inl hi)
  rw[k2];simp only[Option.bind_some];dsimp only at g2;split at g2
  ·rename_i he;rw[if_pos he,eG (by omega)]
   split at g2
   ·rename_i v1 d1 xq;rw[xq];dsimp only;split at g2
    ·rename_i hv;rw[if_pos hv];obtain⟨⟨e2,gB,h3⟩,g3,g4⟩:=bE.mp g2;clear g2;obtain⟨k3,k4⟩:=KJ (b:=b) hc (cx:={ lo:=d.lo,base:=d.base,ns:=d.ns,ic:=some (id,aj) }) hlo (fun id' vG h=>by cases h;omega) n x.body g3 (nE (by omega) k1) (by simp only[];omega) (.inl hi)
     rw[mQ _ _ (by omega),k4]
     simp only[Option.bind_some];dsimp only at g4;rw[eG (by omega)]
     split at g4
     ·rename_i v2 d2 gD;rw[gD];dsimp only;split at g4
      ·rename_i hv2;rw[if_pos hv2];simp only[aP,ax]at g4⊢;obtain⟨rfl,rfl⟩:=g4;exact⟨nE (by omega) k3,rfl,mQ _ _ (by omega)⟩
      ·cases g4
     ·cases g4
    ·cases g2
   ·cases g2
  ·cases g2
 ·cases hr
end
mutual
theorem acC{i v:Nat}{b:Nat×av}{h:Heap}:∀(x y:AV),view h x=some y->h[i]?=some (v,av.dead)->view (h.set i b) x=some y
 |.agg cs,y,hv,hd=>by
  simp only[view,mE]at hv⊢;obtain⟨cs',h1,rfl⟩:=hv
  exact⟨cs',Hw cs cs' h1 hd,rfl⟩
 |.fn f cs,y,hv,hd=>by
  simp only[view,mE]at hv⊢;obtain⟨cs',h1,rfl⟩:=hv
  exact⟨cs',Hw cs cs' h1 hd,rfl⟩
 |.ref id aj z off len fill,y,hv,hd=>by
  simp only[view,mE]at hv⊢;obtain⟨es,h1,rfl⟩:=hv
  exact⟨es,D7 h1 hd,rfl⟩
 |.own ..,y,hv,hd|.tuple ..,y,hv,hd|.aJ ..,y,hv,hd|.di ..,y,hv,hd|.cZ ..,y,hv,hd|.undef,y,hv,hd|.eZ ..,y,hv,hd=>by simp[view]at hv
 |.bool _,y,hv,hd|.int _ _,y,hv,hd|.str _,y,hv,hd|.gZ,y,hv,hd|.iG,y,hv,hd|.aD,y,hv,hd|.aN _ _,y,hv,hd|.aM _ _,y,hv,hd|.nilPtr,y,hv,hd|.bD _,y,hv,hd=>by simpa[view]using hv
theorem Hw{i v:Nat}{b:Nat×av}{h:Heap}:∀(xs ys:List AV),qB h xs=some ys->h[i]?=some (v,av.dead)->qB (h.set i b) xs=some ys
 |[],ys,hv,hd=>by simpa[qB]using hv
 |x::xs,ys,hv,hd=>by
  simp only[qB,bE,mE]at hv⊢;obtain⟨y,h1,ys',h2,rfl⟩:=hv;exact⟨y,acC x y h1 hd,ys',Hw xs ys' h2 hd,rfl⟩
end
theorem acD{aQ:Nat->Bool}{call:Callee}(hc:mP aQ call){n:Nat}{x:aW}{w:Bool}{args:List AV}{h:Heap}{lo:Nat}{r:AV}{h':Heap}{i v:Nat}{b:Nat×av}(he:lM x (fun cx=>exec call cx n) w args h lo=some (r,h'))(hd:h[i]?=some (v,.dead))
  (hi:i<lo\/x.isOpen=false\/x.code.still aQ=true):h'[i]?=some (v,.dead)/\lM x (fun cx=>exec call cx n) w args (h.set i b) lo=some (r,h'.set i b):=by
 unfold lM at he⊢;split at he
 ·rename_i hw;obtain⟨vs,h1,h2⟩:=bE.mp he;obtain⟨q,h3,h4⟩:=bE.mp h2;split at h4
  ·rename_i hf;simp only[aP,ax]at h4;obtain⟨rfl,rfl⟩:=h4;refine⟨hd, ?_⟩;rw[if_pos hw];refine bE.mpr ⟨vs,Hw _ _ h1 hd,bE.mpr ⟨q,h3, ?_⟩⟩;rw[if_pos hf]
  ·cases h4
 ·rename_i hw;rw[if_neg hw];exact acA hc he hd hi
section
variable {aQ:Nat->Bool}{call:Callee}{i v:Nat}
mutual
theorem Hy{base:Nat}{keep:Bool}(hi:i<base):∀(x:AV) (h:Heap) (x':AV) (h':Heap),aU base keep x h=some (x',h')->h'[i]?=h[i]?
 |.agg cs,h,x',h',hf|.tuple cs,h,x',h',hf|.fn _ cs,h,x',h',hf=>by
  simp only[aU,mE,ax]at hf;obtain⟨⟨cs',h1⟩,hf,rfl,rfl⟩:=hf
  exact Te hi cs h cs' h1 hf
 |.eZ _ y,h,x',h',hf=>by
  simp only[aU,mE,ax]at hf;obtain⟨⟨cs',h1⟩,hf,rfl,rfl⟩:=hf
  exact Hy hi y h cs' h1 hf
 |.ref id aj z off len fill,h,x',h',hf=>by
  simp only[aU]at hf;split at hf
  ·simp only[mE,ax]at hf;obtain⟨es,h1,rfl,rfl⟩:=hf;rw[eG (by omega)]
  ·split at hf
   ·simp only[aP,ax]at hf;obtain⟨rfl,rfl⟩:=hf;rfl
   ·cases hf
 |.own ..,h,x',h',hf|.aJ ..,h,x',h',hf|.di ..,h,x',h',hf|.cZ ..,h,x',h',hf=>by simp[aU]at hf
 |.aD,h,x',h',hf|.undef,h,x',h',hf|.bool _,h,x',h',hf|.int _ _,h,x',h',hf|.str _,h,x',h',hf|.gZ,h,x',h',hf|.iG,h,x',h',hf|.aN _ _,h,x',h',hf|.aM _ _,h,x',h',hf|.nilPtr,h,x',h',hf|.bD _,h,x',h',hf=>by
  simp only[aU,aP,ax]at hf;obtain⟨rfl,rfl⟩:=hf;rfl
theorem Te{base:Nat}{keep:Bool}(hi:i<base):∀(cs:List AV) (h:Heap) (cs':List AV) (h':Heap),gU base keep cs h=some (cs',h')->h'[i]?=h[i]?
 |[],h,cs',h',hf=>by
  simp only[gU,aP,ax]at hf;obtain⟨rfl,rfl⟩:=hf
  rfl
 |c::cs,h,cs',h',hf=>by
  simp only[gU,bE,mE,ax]at hf;obtain⟨⟨c1,h1⟩,f1,⟨cs1,h2⟩,f2,rfl,rfl⟩:=hf;rw[Te hi cs h1 cs1 h2 f2,Hy hi c h c1 h1 f1]
end
theorem Tf{cx:Cx}{s aj:Nat}{x:av}{h h':Heap}(hm:bV cx s x h=some (aj,h'))(hi:i<cx.base):h'[i]?=h[i]?:=by
 unfold bV at hm;split at hm
 ·split at hm
  ·simp only[aP,ax]at hm;obtain⟨rfl,rfl⟩:=hm;rw[eG (by omega)]
  ·cases hm
 ·cases hm
theorem Lf{h:Heap}{id:Nat}{y:Nat×av}(hy:y.2≠.dead)(hd:(h.set id y)[i]?=some (v,.dead)):h[i]?=some (v,.dead):=by
 by_cases c:id=i
 ·subst c;rw[List.getElem?_set]at hd;simp only[if_true]at hd;split at hd
  ·cases hd;exact absurd rfl hy
  ·cases hd
 ·rwa [eG c]at hd
theorem acE{cx:Cx}{h h':Heap}{sz:Nat}{p x:AV}(hp:dK cx h sz p x=some h')(hi:i<cx.base)(hd:h'[i]?=some (v,.dead)):h[i]?=some (v,.dead):=by
 unfold dK at hp;split at hp
 ·split at hp
  ·split at hp
   ·split at hp
    ·obtain⟨cs',_,rfl⟩:=mE.mp hp;exact Lf (by simp) hd
    ·cases hp
   ·cases hp
  ·obtain⟨⟨x1,h1⟩,hf,hp⟩:=bE.mp hp;have hk:=Hy hi _ _ _ _ hf;rw[<-hk];dsimp only at hp;split at hp
   ·split at hp
    ·split at hp
     ·obtain⟨cs',_,rfl⟩:=mE.mp hp;exact Lf (by simp) hd
     ·split at hp
      ·split at hp
       ·cases hp
       ·simp only[aP]at hp;subst hp;exact Lf (by simp) hd
      ·cases hp
     ·cases hp
    ·cases hp
   ·cases hp
  ·cases hp
 ·cases hp
theorem Tg(hc:mP aQ call){cx:Cx}{env:Env}{h h':Heap}{x:bC}(hs:x.still aQ=true)(hck:x.jR.all (dn.ok cx env h)=true){r:AV}(hx:xi call cx env h x.op=some (r,h'))(hi:i<cx.base)(hd:h'[i]?=some (v,.dead)):h[i]?=some (v,.dead):=by
 have hst:=Rt hs hck hx;unfold bC.still at hs;cases hop:x.op<;>rw[hop]at hs hx hst<;>try (cases hs)
 case call f args own =>
  simp only[bg,rX]at hs;obtain⟨rfl,_⟩:=hs;obtain⟨g,cs,hf,hg⟩:=hst f args [] rfl;simp only[xi,hf]at hx;obtain⟨⟨r1,h1⟩,h2,hx⟩:=bE.mp hx;simp only[aP,ax]at hx;obtain⟨_,rfl⟩:=hx;exact hc.kp h2 hg hd
 all_goals simp only[xi]at hx
 case alloc s zero =>
  obtain⟨⟨aj,h1⟩,h2,he⟩:=mE.mp hx;simp only[ax]at he;obtain⟨rfl,rfl⟩:=he
  rwa [Tf h2 hi]at hd
 case box s y =>
  split at hx
  ·obtain⟨⟨aj,h1⟩,h2,he⟩:=mE.mp hx;simp only[ax]at he;obtain⟨rfl,rfl⟩:=he
   rwa [Tf h2 hi]at hd
  ·cases hx
 case bS y =>
  split at hx
  ·obtain⟨⟨aj,h1⟩,h2,he⟩:=mE.mp hx;simp only[ax]at he;obtain⟨rfl,rfl⟩:=he
   rwa [Hy hi _ _ _ _ h2]at hd
  ·cases hx
 case store sz y z =>
  obtain⟨h1,h2,he⟩:=mE.mp hx;simp only[ax]at he;obtain⟨rfl,rfl⟩:=he;exact acE h2 hi hd
 case load sh y =>
  obtain⟨cs,h2,hx⟩:=bE.mp hx;obtain⟨q,h3,he⟩:=mE.mp hx;simp only[ax]at he;obtain⟨rfl,rfl⟩:=he;exact hd
 case qy z y k =>
  split at hx
  ·obtain⟨n,h2,hx⟩:=bE.mp hx;obtain⟨q,h3,he⟩:=mE.mp hx;simp only[ax]at he;obtain⟨rfl,rfl⟩:=he;exact hd
  ·cases hx
 case mK y k =>
  split at hx
  ·obtain⟨n,h2,hx⟩:=bE.mp hx;obtain⟨q,h3,he⟩:=mE.mp hx;simp only[ax]at he;obtain⟨rfl,rfl⟩:=he;exact hd
  ·cases hx
 all_goals first
  |(simp only[aP,ax]at hx;obtain⟨rfl,rfl⟩:=hx;exact hd)
  |(obtain⟨q,h3,he⟩:=mE.mp hx;simp only[ax]at he;obtain⟨rfl,rfl⟩:=he;exact hd)
  |(obtain⟨q0,h2,hx⟩:=bE.mp hx;obtain⟨q,h3,he⟩:=mE.mp hx;simp only[ax]at he;obtain⟨rfl,rfl⟩:=he;exact hd)
theorem acF(hc:mP aQ call){cx:Cx}{env env':Env}{h h':Heap}{x:bC}(hs:x.still aQ=true)(hx:iA call cx x env h=some (env',h'))(hi:i<cx.base)(hd:h'[i]?=some (v,.dead)):h[i]?=some (v,.dead):=by
 unfold iA at hx;split at hx
 ·obtain⟨⟨r,h1⟩,h2,he⟩:=mE.mp hx;simp only[ax]at he;obtain⟨rfl,rfl⟩:=he;obtain⟨k1,k2⟩:=lQ h2;exact Tg hc hs k2 k1 hi hd
 ·obtain⟨q,hq,hx⟩:=bE.mp hx;split at hx
  ·obtain⟨⟨r,h1⟩,h2,he⟩:=mE.mp hx;simp only[ax]at he;obtain⟨rfl,rfl⟩:=he;obtain⟨k1,k2⟩:=lQ h2;exact Tg hc hs k2 k1 hi hd
  ·simp only[aP,ax]at hx;obtain⟨rfl,rfl⟩:=hx;exact hd
theorem Ti(hc:mP aQ call){cx:Cx}(hi:i<cx.base):∀(os:List bC) {env env':Env} {h h':Heap},os.all (bC.still aQ)=true->fQ call cx os env h=some (env',h')->h'[i]?=some (v,.dead)->h[i]?=some (v,.dead)
 |[],env,env',h,h',hs,hx,hd=>by
  simp only[fQ,aP,ax]at hx;obtain⟨rfl,rfl⟩:=hx
  exact hd
 |o::os,env,env',h,h',hs,hx,hd=>by
  simp only[uw,bg]at hs;obtain⟨⟨e1,h1⟩,h2,hx⟩:=bE.mp hx;exact acF hc hs.1 h2 hi (Ti hc hi os hs.2 hx hd)
theorem Lg{cx:Cx}(hi:i<cx.base):∀(ss:List Nat) (h:Heap),(jh cx ss h)[i]?=h[i]?
 |[],h=>rfl
 |s::ss,h=>by
  simp only[jh];split
  ·rw[Lg hi ss,eG (by omega)]
  ·exact Lg hi ss h
theorem acG(hc:mP aQ call){cx:Cx}(hi:i<cx.base)(n:Nat):∀(x:XC) {env:Env} {h:Heap} {e:Ex} {env':Env} {h':Heap},x.still aQ=true->exec call cx n x (env,h)=some (e,(env',h'))->h'[i]?=some (v,.dead)->h[i]?=some (v,.dead):=by
 intro x
 induction x with
 |skip|exit|ret =>
  intro env h e env' h' hs hx hd;simp only[exec,aP,ax]at hx;obtain⟨rfl,rfl,rfl⟩:=hx
  exact hd
 |reg draw keep kill ops =>
  intro env h e env' h' hs hx hd;simp only[exec,mE,ax]at hx;obtain⟨⟨e1,h1⟩,h2,rfl,rfl,rfl⟩:=hx;have:=Ti hc hi _ hs h2 hd
  rwa [Lg hi]at this
 |seq p q yx zN =>
  intro env h e env' h' hs hx hd;simp only[XC.still,bg]at hs;obtain⟨⟨e1,jT,h1⟩,h2,hx⟩:=bE.mp hx;dsimp only at hx;split at hx
  ·exact yx hs.1 h2 (zN hs.2 hx hd)
  ·simp only[aP,ax]at hx;obtain⟨rfl,rfl,rfl⟩:=hx
   exact yx hs.1 h2 hd
 |cond c p q yx zN =>
  intro env h e env' h' hs hx hd;simp only[XC.still,bg]at hs;obtain⟨r,h2,hx⟩:=bE.mp hx
  cases r with
  |true=>exact yx hs.1 hx hd
  |false=>exact zN hs.2 hx hd
 |blk id p ih =>
  intro env h e env' h' hs hx hd;obtain⟨⟨e1,jT,h1⟩,h2,he⟩:=mE.mp hx;unfold Ex.jy at he;split at he
  ·simp only[ax]at he;obtain⟨rfl,rfl,rfl⟩:=he;exact ih hs h2 hd
  ·simp only[ax]at he;obtain⟨rfl,rfl,rfl⟩:=he
   exact ih hs h2 hd
 |loop p ih =>
  intro env h e env' h' hs hx hd;simp only[exec]at hx
  have key:∀(k:Nat) {env:Env} {h:Heap} {e:Ex} {env':Env} {h':Heap},iter (exec call cx n p) k (env,h)=some (e,(env',h'))->h'[i]?=some (v,.dead)->h[i]?=some (v,.dead):=by
   intro k
   induction k with
   |zero=>intro env h e env' h' hx;simp[iter]at hx
   |succ k ihk =>
    intro env h e env' h' hx hd;simp only[iter,bE]at hx;obtain⟨⟨e1,jT,h1⟩,hx1,hx2⟩:=hx;dsimp only at hx2;split at hx2
    ·exact ih hs hx1 (ihk hx2 hd)
    ·simp only[aP,ax]at hx2;obtain⟨rfl,rfl,rfl⟩:=hx2;exact ih hs hx1 hd
  exact key n hx hd
 |jG s f g=>intro env h e env' h' hs;cases hs
 |pre ps p ih =>
  intro env h e env' h' hs hx hd
  exact ih (env:=env.keep ps) hs hx hd
 |fz t p ih=>intro env h e env' h' hs;cases hs
theorem acH{n:Nat}(hc:mP aQ call){x:aW}{args:List AV}{h:Heap}{lo:Nat}{r:AV}{h':Heap}(he:enter x (fun cx=>exec call cx n) args h lo=some (r,h'))(hs:x.isOpen=false\/x.code.still aQ=true)(hd:h'[i]?=some (v,.dead)):h[i]?=some (v,.dead):=by
 unfold enter at he;split at he
 ·obtain⟨⟨e,env',h1⟩,hx,he⟩:=bE.mp he
  have fin:((nX env' h1 x.res).bind fun v=>(eF h.length v h1).map fun r=>(r,if x.isOpen then h1.take h.length else h))=some (r,h')->h[i]?=some (v,.dead):=by
   intro hr;obtain⟨a,g1,g2⟩:=bE.mp hr;obtain⟨r',g3,g4⟩:=mE.mp g2;simp only[ax]at g4;obtain⟨rfl,rfl⟩:=g4;by_cases ho:x.isOpen=true
   ·rw[if_pos ho]at hd;have hst:=hs.resolve_left (by rw[ho];simp)
    rcases gJ i h.length with hlt|hge
    ·rw[jI,if_pos hlt]at hd;have:=acG (cx:=⟨if x.isOpen=true then lo else h.length,h.length,x.ns,none⟩) hc hlt n x.code hst hx hd
     rwa [gN hlt]at this
    ·rw[jI,if_neg (by omega)]at hd;cases hd
   ·rw[if_neg ho]at hd;exact hd
  cases e with
  |exit id=>cases he
  |norm=>exact fin he
  |ret=>exact fin he
 ·cases he
theorem acI{n:Nat}(hc:mP aQ call){x:aW}{w:Bool}{args:List AV}{h:Heap}{lo:Nat}{r:AV}{h':Heap}(he:lM x (fun cx=>exec call cx n) w args h lo=some (r,h'))(hs:x.isOpen=false\/x.code.still aQ=true)(hd:h'[i]?=some (v,.dead)):h[i]?=some (v,.dead):=by
 unfold lM at he;split at he
 ·obtain⟨vs,h1,h2⟩:=bE.mp he;obtain⟨q,h3,h4⟩:=bE.mp h2;split at h4
  ·simp only[aP,ax]at h4;obtain⟨rfl,rfl⟩:=h4;exact hd
  ·cases h4
 ·exact acH hc he hs hd
end
theorem Tj{aQ:Nat->Bool}{L:Lib}(hf:∀ f x,L.iW f=some x->aQ f=true->x.isOpen=false)(hg:∀ f x,L.iW f=some x->aQ (f+5000)=true->x.code.still aQ=true)(ho:∀ f args h r,L.jS f args h=some r->∀ i v b,h[i]?=some (v,av.dead)->L.jS f args (h.set i b)=some r)(hn:∀ f args h,L.jS f args h=none->∀ i v b,h[i]?=some (v,av.dead)->(L.iW f).isSome=true->L.jS f args (h.set i b)=none):∀ n,mP aQ (ex L n)
 |0=>⟨fun{f args h lo r h'} hx=>by simp[ex]at hx,fun{f args h lo r h'} hx=>by simp[ex]at hx,fun{d id aj args h e h'} hx=>by simp[ex]at hx⟩
 |n+1=>by
  have ih:=Tj hf hg ho hn n;refine⟨fun{f args h lo r h'} hx {i v b} hd hi=>?_,fun{f args h lo r h'} hx hcl {i v} hd=>?_,fun{d id aj args h e h'} hx {i v b} hd hi hlo hid=>?_⟩
  ·simp only[ex]at hx⊢;split at hx
   ·rename_i q hq;simp only[aP,ax]at hx;obtain⟨rfl,rfl⟩:=hx;rw[ho f args h q hq i v b hd];exact⟨hd,rfl⟩
   ·rename_i hq;obtain⟨x,hx1,hx2⟩:=bE.mp hx;obtain⟨k1,k2⟩:=acD (b:=b) ih hx2 hd (hi.imp (fun h=>h) (Or.imp (hf f x hx1) (hg f x hx1)));rw[hn f args h hq i v b hd (by rw[hx1];rfl)]
    exact⟨k1,bE.mpr ⟨x,hx1,k2⟩⟩
  ·simp only[ex]at hx;split at hx
   ·simp only[aP,ax]at hx;obtain⟨rfl,rfl⟩:=hx;exact hd
   ·obtain⟨x,hx1,hx2⟩:=bE.mp hx;exact acI ih hx2 (hcl.imp (hf f x hx1) (hg f x hx1)) hd
  ·simp only[ex]at hx⊢;obtain⟨x,hx1,hx2⟩:=bE.mp hx;obtain⟨k1,k2⟩:=acB (b:=b) ih hx2 hd hi hlo hid;exact⟨k1,bE.mpr ⟨x,hx1,k2⟩⟩
end Go.VI
