/- Calls and rounds: a dead block may be any other. -/
import Derived.Test.YtfpoegnmeoghpaaGreatDoorVIT
set_option linter.unusedVariables false
set_option linter.unusedSimpArgs false
namespace Go.VI
set_option linter.unusedSectionVars false
variable [dH][Rounds]
section
variable {aZ:Nat->Bool}{call:Callee}{i v:Nat}{b:Nat×au}
theorem aao{env:Env}{h:Heap}{r:qR}{a:AV}(hx:yt env h r=some a)(hd:h[i]?=some (v,.dead)):yt env (h.set i b) r=some a:=by
 cases r with
 |tmp t=>exact hx
 |cell t sh =>
  simp only[yt]at hx⊢;obtain⟨cs,h1,h2⟩:=bE.mp hx;exact bE.mpr ⟨cs,RN h1 hd,h2⟩
theorem aap{env:Env}{h:Heap}:∀{rs:List qR} {as:List AV},sQ env h rs=some as->h[i]?=some (v,.dead)->sQ env (h.set i b) rs=some as
 |[],as,hx,_=>hx
 |r::rs,as,hx,hd=>by
  simp only[sQ]at hx⊢;obtain⟨a,h1,hx⟩:=bE.mp hx;obtain⟨as',h2,rfl⟩:=mE.mp hx;exact bE.mpr ⟨a,aao h1 hd,mE.mpr ⟨as',aap h2 hd,rfl⟩⟩
theorem ahS{env:Env}{h:Heap}{rs:List qR}{a:AV}(hx:uD env h rs=some a)(hd:h[i]?=some (v,.dead)):uD env (h.set i b) rs=some a:=by
 unfold uD at hx⊢;split at hx
 ·exact aao hx hd
 ·obtain⟨as,h1,rfl⟩:=mE.mp hx;exact mE.mpr ⟨as,aap h1 hd,rfl⟩
theorem aaq{base:Nat}{a a':AV}{h h':Heap}(hx:give base a h=some (a',h'))(hd:h[i]?=some (v,.dead))(hi:i<base):h'[i]?=some (v,.dead)/\give base a (h.set i b)=some (a',h'.set i b):=by
 unfold give at hx⊢;split at hx
 ·simp only[aS,aB]at hx⊢;obtain⟨rfl,rfl⟩:=hx;exact⟨hd,rfl,rfl⟩
 ·split at hx
  ·rename_i hc;rw[if_pos hc];obtain⟨es,h1,he⟩:=mE.mp hx;simp only[aB]at he;obtain⟨rfl,rfl⟩:=he;refine⟨sZ (by omega) hd,mE.mpr ⟨es,Kl h1 hd, ?_⟩⟩
   rw[rM _ _ (by omega)]
  ·rename_i hc;rw[if_neg hc];exact Cj _ _ _ _ hx hd hi
 ·exact Cj _ _ _ _ hx hd hi
theorem aar{base:Nat}(hi:i<base):∀{as as':List AV} {h h':Heap},rA base as h=some (as',h')->h[i]?=some (v,.dead)->h'[i]?=some (v,.dead)/\rA base as (h.set i b)=some (as',h'.set i b)
 |[],as',h,h',hx,hd=>by
  simp only[rA,aS,aB]at hx⊢;obtain⟨rfl,rfl⟩:=hx
  exact⟨hd,rfl,rfl⟩
 |a::as,as',h,h',hx,hd=>by
  simp only[rA]at hx⊢;obtain⟨⟨a1,h1⟩,h2,hx⟩:=bE.mp hx;obtain⟨⟨as1,h3⟩,h4,he⟩:=mE.mp hx;simp only[aB]at he;obtain⟨rfl,rfl⟩:=he;obtain⟨k1,k2⟩:=aaq (b:=b) h2 hd hi;obtain⟨k3,k4⟩:=aar hi h4 k1;exact⟨k3,bE.mpr ⟨_,k2,mE.mpr ⟨_,k4,rfl⟩⟩⟩
theorem ahT{base:Nat}{a r:AV}{h:Heap}(hx:jf base a h=some r)(hd:h[i]?=some (v,.dead))(hi:i<base):jf base a (h.set i b)=some r:=by
 unfold jf at hx⊢;split at hx
 ·obtain⟨⟨as,h1⟩,h2,rfl⟩:=mE.mp hx;exact mE.mpr ⟨_,(aar hi h2 hd).2,rfl⟩
 ·obtain⟨⟨as,h1⟩,h2,rfl⟩:=mE.mp hx;exact mE.mpr ⟨_,(aaq h2 hd hi).2,rfl⟩
theorem ahU{n:Nat}(hc:sG aZ call){x:bJ}{args:List AV}{h:Heap}{lo:Nat}{r:AV}{h':Heap}(he:enter x (fun cx=>exec call cx n) args h lo=some (r,h'))(hd:h[i]?=some (v,.dead))(hi:i<lo\/x.isOpen=false\/x.code.still aZ=true) :
  h'[i]?=some (v,.dead)/\enter x (fun cx=>exec call cx n) args (h.set i b) lo=some (r,h'.set i b):=by
 have hlt:i<h.length:=(dQ.mp hd).1;unfold enter at he⊢;simp only[vV]at he⊢;split at he
 ·rename_i hal;rw[if_pos hal];obtain⟨⟨e,env',h1⟩,hx,he⟩:=bE.mp he;have hset:h.set i b++List.replicate x.ns (0,au.dead)=(h++List.replicate x.ns (0,au.dead)).set i b:=by rw[List.set_append_left _ _ hlt]
  rw[hset];have hd0:(h++List.replicate x.ns (0,au.dead))[i]?=some (v,.dead):=by rw[kY hlt];exact hd
  have hcx:i<(if x.isOpen=true then lo else h.length)\/x.code.still aZ=true:=by
   split
   ·rename_i ho;rcases hi with h|h|h
    ·exact .inl h
    ·rw[h]at ho;cases ho
    ·exact .inr h
   ·exact .inl hlt
  have hle:(if x.isOpen=true then lo else h.length)<=h.length:=by
   split
   ·rename_i ho;exact hal.2 ho
   ·exact bC _
  obtain⟨k1,k2⟩:=RU (b:=b) hc (cx:=⟨if x.isOpen=true then lo else h.length,h.length,x.ns,none⟩) hle (fun _ _ h=>by cases h) n x.code hx hd0 hlt hcx
  rw[k2];simp only[Option.bind_some]
  have fin:∀(hr:((uD env' h1 x.res).bind fun v=>(jf h.length v h1).map fun r=>(r,if x.isOpen then h1.take h.length else h))=some (r,h')),
    h'[i]?=some (v,.dead)/\((uD env' (h1.set i b) x.res).bind fun v=>(jf h.length v (h1.set i b)).map fun r=>(r,if x.isOpen then(h1.set i b).take h.length else h.set i b))=some (r,h'.set i b):=by
   intro hr;obtain⟨a,g1,g2⟩:=bE.mp hr;obtain⟨r',g3,g4⟩:=mE.mp g2;simp only[aB]at g4;obtain⟨rfl,rfl⟩:=g4;refine⟨?_,bE.mpr ⟨a,ahS g1 k1,mE.mpr ⟨_,ahT g3 k1 hlt, ?_⟩⟩⟩
   ·split
    ·rw[yH hlt];exact k1
    ·exact hd
   ·split
    ·rw[List.take_set]
    ·rfl
  cases e with
  |exit id=>cases he
  |norm=>exact fin he
  |ret=>exact fin he
 ·cases he
theorem ahV{n:Nat}(hc:sG aZ call){x:l6}{d:dO}{id ai:Nat}{args:List AV}{h:Heap}{e:Ex}{h':Heap}(hr:round x (fun cx=>exec call cx n) d id ai args h=some (e,h'))(hd:h[i]?=some (v,.dead))(hi:i<d.lo)(hlo:d.lo<=d.base)(hid:d.lo<=id) :
  h'[i]?=some (v,.dead)/\round x (fun cx=>exec call cx n) d id ai args (h.set i b)=some (e,h'.set i b):=by
 unfold round at hr⊢;split at hr
 ·rename_i hal;rw[if_pos hal];dsimp only;obtain⟨⟨e1,pz,h1⟩,g1,g2⟩:=bE.mp hr;clear hr;obtain⟨k1,k2⟩:=RU (b:=b) hc (cx:={ lo:=d.lo,base:=d.base,ns:=d.ns,kW:=some (id,ai) }) hlo (fun id' AL h=>by cases h;omega) n x.jE g1 hd (by simp only[];omega) (.inl hi)
  rw[k2];simp only[Option.bind_some];dsimp only at g2;split at g2
  ·rename_i he;rw[if_pos he,iH (by omega)]
   split at g2
   ·rename_i v1 d1 vQ;rw[vQ];dsimp only;split at g2
    ·rename_i hv;rw[if_pos hv];obtain⟨⟨e2,jl,h3⟩,g3,g4⟩:=bE.mp g2;clear g2;obtain⟨k3,k4⟩:=RU (b:=b) hc (cx:={ lo:=d.lo,base:=d.base,ns:=d.ns,kW:=some (id,ai) }) hlo (fun id' AL h=>by cases h;omega) n x.body g3 (sZ (by omega) k1) (by simp only[];omega) (.inl hi)
     rw[rM _ _ (by omega),k4]
     simp only[Option.bind_some];dsimp only at g4;rw[iH (by omega)]
     split at g4
     ·rename_i v2 d2 lg;rw[lg];dsimp only;split at g4
      ·rename_i hv2;rw[if_pos hv2];simp only[aS,aB]at g4⊢;obtain⟨rfl,rfl⟩:=g4;exact⟨sZ (by omega) k3,rfl,rM _ _ (by omega)⟩
      ·cases g4
     ·cases g4
    ·cases g2
   ·cases g2
  ·cases g2
 ·cases hr
end
mutual
theorem ahW{i v:Nat}{b:Nat×au}{h:Heap}:∀(x y:AV),view h x=some y->h[i]?=some (v,au.dead)->view (h.set i b) x=some y
 |.agg cs,y,hv,hd=>by
  simp only[view,mE]at hv⊢;obtain⟨cs',h1,rfl⟩:=hv
  exact⟨cs',Oy cs cs' h1 hd,rfl⟩
 |.fn f cs,y,hv,hd=>by
  simp only[view,mE]at hv⊢;obtain⟨cs',h1,rfl⟩:=hv
  exact⟨cs',Oy cs cs' h1 hd,rfl⟩
 |.ref id ai z off len fill,y,hv,hd=>by
  simp only[view,mE]at hv⊢;obtain⟨es,h1,rfl⟩:=hv
  exact⟨es,Kl h1 hd,rfl⟩
 |.own ..,y,hv,hd|.tuple ..,y,hv,hd|.aF ..,y,hv,hd|.gu ..,y,hv,hd|.dY ..,y,hv,hd|.undef,y,hv,hd|.iG ..,y,hv,hd=>by simp[view]at hv
 |.bool _,y,hv,hd|.int _ _,y,hv,hd|.str _,y,hv,hd|.jR,y,hv,hd|.j6,y,hv,hd|.aP,y,hv,hd|.aW _ _,y,hv,hd|.bF _ _,y,hv,hd|.nilPtr,y,hv,hd|.bR _,y,hv,hd=>by simpa[view]using hv
theorem Oy{i v:Nat}{b:Nat×au}{h:Heap}:∀(xs ys:List AV),wZ h xs=some ys->h[i]?=some (v,au.dead)->wZ (h.set i b) xs=some ys
 |[],ys,hv,hd=>by simpa[wZ]using hv
 |x::xs,ys,hv,hd=>by
  simp only[wZ,bE,mE]at hv⊢;obtain⟨y,h1,ys',h2,rfl⟩:=hv;exact⟨y,ahW x y h1 hd,ys',Oy xs ys' h2 hd,rfl⟩
end
theorem ahY{aZ:Nat->Bool}{call:Callee}(hc:sG aZ call){n:Nat}{x:bJ}{w:Bool}{args:List AV}{h:Heap}{lo:Nat}{r:AV}{h':Heap}{i v:Nat}{b:Nat×au}(he:qV x (fun cx=>exec call cx n) w args h lo=some (r,h'))(hd:h[i]?=some (v,.dead))
  (hi:i<lo\/x.isOpen=false\/x.code.still aZ=true):h'[i]?=some (v,.dead)/\qV x (fun cx=>exec call cx n) w args (h.set i b) lo=some (r,h'.set i b):=by
 unfold qV at he⊢;split at he
 ·rename_i hw;obtain⟨vs,h1,h2⟩:=bE.mp he;obtain⟨q,h3,h4⟩:=bE.mp h2;split at h4
  ·rename_i hf;simp only[aS,aB]at h4;obtain⟨rfl,rfl⟩:=h4;refine⟨hd, ?_⟩;rw[if_pos hw];refine bE.mpr ⟨vs,Oy _ _ h1 hd,bE.mpr ⟨q,h3, ?_⟩⟩;rw[if_pos hf]
  ·cases h4
 ·rename_i hw;rw[if_neg hw];exact ahU hc he hd hi
section
variable {aZ:Nat->Bool}{call:Callee}{i v:Nat}
mutual
theorem Oz{base:Nat}{keep:Bool}(hi:i<base):∀(x:AV) (h:Heap) (x':AV) (h':Heap),bL base keep x h=some (x',h')->h'[i]?=h[i]?
 |.agg cs,h,x',h',hf|.tuple cs,h,x',h',hf|.fn _ cs,h,x',h',hf=>by
  simp only[bL,mE,aB]at hf;obtain⟨⟨cs',h1⟩,hf,rfl,rfl⟩:=hf
  exact aas hi cs h cs' h1 hf
 |.iG _ y,h,x',h',hf=>by
  simp only[bL,mE,aB]at hf;obtain⟨⟨cs',h1⟩,hf,rfl,rfl⟩:=hf
  exact Oz hi y h cs' h1 hf
 |.ref id ai z off len fill,h,x',h',hf=>by
  simp only[bL]at hf;split at hf
  ·simp only[mE,aB]at hf;obtain⟨es,h1,rfl,rfl⟩:=hf;rw[iH (by omega)]
  ·split at hf
   ·simp only[aS,aB]at hf;obtain⟨rfl,rfl⟩:=hf;rfl
   ·cases hf
 |.own ..,h,x',h',hf|.aF ..,h,x',h',hf|.gu ..,h,x',h',hf|.dY ..,h,x',h',hf=>by simp[bL]at hf
 |.aP,h,x',h',hf|.undef,h,x',h',hf|.bool _,h,x',h',hf|.int _ _,h,x',h',hf|.str _,h,x',h',hf|.jR,h,x',h',hf|.j6,h,x',h',hf|.aW _ _,h,x',h',hf|.bF _ _,h,x',h',hf|.nilPtr,h,x',h',hf|.bR _,h,x',h',hf=>by
  simp only[bL,aS,aB]at hf;obtain⟨rfl,rfl⟩:=hf;rfl
theorem aas{base:Nat}{keep:Bool}(hi:i<base):∀(cs:List AV) (h:Heap) (cs':List AV) (h':Heap),jT base keep cs h=some (cs',h')->h'[i]?=h[i]?
 |[],h,cs',h',hf=>by
  simp only[jT,aS,aB]at hf;obtain⟨rfl,rfl⟩:=hf
  rfl
 |c::cs,h,cs',h',hf=>by
  simp only[jT,bE,mE,aB]at hf;obtain⟨⟨c1,h1⟩,f1,⟨cs1,h2⟩,f2,rfl,rfl⟩:=hf;rw[aas hi cs h1 cs1 h2 f2,Oz hi c h c1 h1 f1]
end
theorem aat{cx:Cx}{s ai:Nat}{x:au}{h h':Heap}(hm:fB cx s x h=some (ai,h'))(hi:i<cx.base):h'[i]?=h[i]?:=by
 unfold fB at hm;split at hm
 ·split at hm
  ·simp only[aS,aB]at hm;obtain⟨rfl,rfl⟩:=hm;rw[iH (by omega)]
  ·cases hm
 ·cases hm
theorem SF{h:Heap}{id:Nat}{y:Nat×au}(hy:y.2≠.dead)(hd:(h.set id y)[i]?=some (v,.dead)):h[i]?=some (v,.dead):=by
 by_cases c:id=i
 ·subst c;rw[List.getElem?_set]at hd;simp only[if_true]at hd;split at hd
  ·cases hd;exact absurd rfl hy
  ·cases hd
 ·rwa [iH c]at hd
theorem ahZ{cx:Cx}{h h':Heap}{sz:Nat}{p x:AV}(hp:iX cx h sz p x=some h')(hi:i<cx.base)(hd:h'[i]?=some (v,.dead)):h[i]?=some (v,.dead):=by
 unfold iX at hp;split at hp
 ·split at hp
  ·split at hp
   ·split at hp
    ·obtain⟨cs',_,rfl⟩:=mE.mp hp;exact SF (by simp) hd
    ·cases hp
   ·cases hp
  ·obtain⟨⟨x1,h1⟩,hf,hp⟩:=bE.mp hp;have hk:=Oz hi _ _ _ _ hf;rw[<-hk];dsimp only at hp;split at hp
   ·split at hp
    ·split at hp
     ·obtain⟨cs',_,rfl⟩:=mE.mp hp;exact SF (by simp) hd
     ·split at hp
      ·split at hp
       ·cases hp
       ·simp only[aS]at hp;subst hp;exact SF (by simp) hd
      ·cases hp
     ·cases hp
    ·cases hp
   ·cases hp
  ·cases hp
 ·cases hp
theorem aau(hc:sG aZ call){cx:Cx}{env:Env}{h h':Heap}{x:bT}(hs:x.still aZ=true)(hck:x.nV.all (fQ.ok cx env h)=true){r:AV}(hx:xi call cx env h x.op=some (r,h'))(hi:i<cx.base)(hd:h'[i]?=some (v,.dead)):h[i]?=some (v,.dead):=by
 have hst:=Zd hs hck hx;unfold bT.still at hs;cases hop:x.op<;>rw[hop]at hs hx hst<;>try (cases hs)
 case call f args own =>
  simp only[bM,yA]at hs;obtain⟨rfl,_⟩:=hs;obtain⟨g,cs,hf,hg⟩:=hst f args [] rfl;simp only[xi,hf]at hx;obtain⟨⟨r1,h1⟩,h2,hx⟩:=bE.mp hx;simp only[aS,aB]at hx;obtain⟨_,rfl⟩:=hx;exact hc.kp h2 hg hd
 all_goals simp only[xi]at hx
 case alloc s zero =>
  obtain⟨⟨ai,h1⟩,h2,he⟩:=mE.mp hx;simp only[aB]at he;obtain⟨rfl,rfl⟩:=he
  rwa [aat h2 hi]at hd
 case box s y =>
  split at hx
  ·obtain⟨⟨ai,h1⟩,h2,he⟩:=mE.mp hx;simp only[aB]at he;obtain⟨rfl,rfl⟩:=he
   rwa [aat h2 hi]at hd
  ·cases hx
 case dV y =>
  split at hx
  ·obtain⟨⟨ai,h1⟩,h2,he⟩:=mE.mp hx;simp only[aB]at he;obtain⟨rfl,rfl⟩:=he
   rwa [Oz hi _ _ _ _ h2]at hd
  ·cases hx
 case store sz y z =>
  obtain⟨h1,h2,he⟩:=mE.mp hx;simp only[aB]at he;obtain⟨rfl,rfl⟩:=he;exact ahZ h2 hi hd
 case load sh y =>
  obtain⟨cs,h2,hx⟩:=bE.mp hx;obtain⟨q,h3,he⟩:=mE.mp hx;simp only[aB]at he;obtain⟨rfl,rfl⟩:=he;exact hd
 case u7 z y k =>
  split at hx
  ·obtain⟨n,h2,hx⟩:=bE.mp hx;obtain⟨q,h3,he⟩:=mE.mp hx;simp only[aB]at he;obtain⟨rfl,rfl⟩:=he;exact hd
  ·cases hx
 case rY y k =>
  split at hx
  ·obtain⟨n,h2,hx⟩:=bE.mp hx;obtain⟨q,h3,he⟩:=mE.mp hx;simp only[aB]at he;obtain⟨rfl,rfl⟩:=he;exact hd
  ·cases hx
 all_goals first
  |(simp only[aS,aB]at hx;obtain⟨rfl,rfl⟩:=hx;exact hd)
  |(obtain⟨q,h3,he⟩:=mE.mp hx;simp only[aB]at he;obtain⟨rfl,rfl⟩:=he;exact hd)
  |(obtain⟨q0,h2,hx⟩:=bE.mp hx;obtain⟨q,h3,he⟩:=mE.mp hx;simp only[aB]at he;obtain⟨rfl,rfl⟩:=he;exact hd)
theorem ah1(hc:sG aZ call){cx:Cx}{env env':Env}{h h':Heap}{x:bT}(hs:x.still aZ=true)(hx:lG call cx x env h=some (env',h'))(hi:i<cx.base)(hd:h'[i]?=some (v,.dead)):h[i]?=some (v,.dead):=by
 unfold lG at hx;split at hx
 ·obtain⟨⟨r,h1⟩,h2,he⟩:=mE.mp hx;simp only[aB]at he;obtain⟨rfl,rfl⟩:=he;obtain⟨k1,k2⟩:=oQ h2;exact aau hc hs k2 k1 hi hd
 ·obtain⟨q,hq,hx⟩:=bE.mp hx;split at hx
  ·obtain⟨⟨r,h1⟩,h2,he⟩:=mE.mp hx;simp only[aB]at he;obtain⟨rfl,rfl⟩:=he;obtain⟨k1,k2⟩:=oQ h2;exact aau hc hs k2 k1 hi hd
  ·simp only[aS,aB]at hx;obtain⟨rfl,rfl⟩:=hx;exact hd
theorem aav(hc:sG aZ call){cx:Cx}(hi:i<cx.base):∀(os:List bT) {env env':Env} {h h':Heap},os.all (bT.still aZ)=true->jN call cx os env h=some (env',h')->h'[i]?=some (v,.dead)->h[i]?=some (v,.dead)
 |[],env,env',h,h',hs,hx,hd=>by
  simp only[jN,aS,aB]at hx;obtain⟨rfl,rfl⟩:=hx
  exact hd
 |o::os,env,env',h,h',hs,hx,hd=>by
  simp only[vY,bM]at hs;obtain⟨⟨e1,h1⟩,h2,hx⟩:=bE.mp hx;exact ah1 hc hs.1 h2 hi (aav hc hi os hs.2 hx hd)
theorem SG{cx:Cx}(hi:i<cx.base):∀(ss:List Nat) (h:Heap),(nD cx ss h)[i]?=h[i]?
 |[],h=>rfl
 |s::ss,h=>by
  simp only[nD];split
  ·rw[SG hi ss,iH (by omega)]
  ·exact SG hi ss h
theorem ah2(hc:sG aZ call){cx:Cx}(hi:i<cx.base)(n:Nat):∀(x:XC) {env:Env} {h:Heap} {e:Ex} {env':Env} {h':Heap},x.still aZ=true->exec call cx n x (env,h)=some (e,(env',h'))->h'[i]?=some (v,.dead)->h[i]?=some (v,.dead):=by
 intro x
 induction x with
 |skip|exit|ret =>
  intro env h e env' h' hs hx hd;simp only[exec,aS,aB]at hx;obtain⟨rfl,rfl,rfl⟩:=hx
  exact hd
 |reg draw keep kill ops =>
  intro env h e env' h' hs hx hd;simp only[exec,mE,aB]at hx;obtain⟨⟨e1,h1⟩,h2,rfl,rfl,rfl⟩:=hx;have:=aav hc hi _ hs h2 hd
  rwa [SG hi]at this
 |seq p q Dv EW =>
  intro env h e env' h' hs hx hd;simp only[XC.still,bM]at hs;obtain⟨⟨e1,pz,h1⟩,h2,hx⟩:=bE.mp hx;dsimp only at hx;split at hx
  ·exact Dv hs.1 h2 (EW hs.2 hx hd)
  ·simp only[aS,aB]at hx;obtain⟨rfl,rfl,rfl⟩:=hx
   exact Dv hs.1 h2 hd
 |cond c p q Dv EW =>
  intro env h e env' h' hs hx hd;simp only[XC.still,bM]at hs;obtain⟨r,h2,hx⟩:=bE.mp hx
  cases r with
  |true=>exact Dv hs.1 hx hd
  |false=>exact EW hs.2 hx hd
 |blk id p ih =>
  intro env h e env' h' hs hx hd;obtain⟨⟨e1,pz,h1⟩,h2,he⟩:=mE.mp hx;unfold Ex.nW at he;split at he
  ·simp only[aB]at he;obtain⟨rfl,rfl,rfl⟩:=he;exact ih hs h2 hd
  ·simp only[aB]at he;obtain⟨rfl,rfl,rfl⟩:=he
   exact ih hs h2 hd
 |loop p ih =>
  intro env h e env' h' hs hx hd;simp only[exec]at hx
  have key:∀(k:Nat) {env:Env} {h:Heap} {e:Ex} {env':Env} {h':Heap},iter (exec call cx n p) k (env,h)=some (e,(env',h'))->h'[i]?=some (v,.dead)->h[i]?=some (v,.dead):=by
   intro k
   induction k with
   |zero=>intro env h e env' h' hx;simp[iter]at hx
   |succ k ihk =>
    intro env h e env' h' hx hd;simp only[iter,bE]at hx;obtain⟨⟨e1,pz,h1⟩,hx1,hx2⟩:=hx;dsimp only at hx2;split at hx2
    ·exact ih hs hx1 (ihk hx2 hd)
    ·simp only[aS,aB]at hx2;obtain⟨rfl,rfl,rfl⟩:=hx2;exact ih hs hx1 hd
  exact key n hx hd
 |mI s f g=>intro env h e env' h' hs;cases hs
 |pre ps p ih =>
  intro env h e env' h' hs hx hd
  exact ih (env:=env.keep ps) hs hx hd
 |fz t p ih=>intro env h e env' h' hs;cases hs
theorem ah3{n:Nat}(hc:sG aZ call){x:bJ}{args:List AV}{h:Heap}{lo:Nat}{r:AV}{h':Heap}(he:enter x (fun cx=>exec call cx n) args h lo=some (r,h'))(hs:x.isOpen=false\/x.code.still aZ=true)(hd:h'[i]?=some (v,.dead)):h[i]?=some (v,.dead):=by
 unfold enter at he;split at he
 ·obtain⟨⟨e,env',h1⟩,hx,he⟩:=bE.mp he
  have fin:((uD env' h1 x.res).bind fun v=>(jf h.length v h1).map fun r=>(r,if x.isOpen then h1.take h.length else h))=some (r,h')->h[i]?=some (v,.dead):=by
   intro hr;obtain⟨a,g1,g2⟩:=bE.mp hr;obtain⟨r',g3,g4⟩:=mE.mp g2;simp only[aB]at g4;obtain⟨rfl,rfl⟩:=g4;by_cases ho:x.isOpen=true
   ·rw[if_pos ho]at hd;have hst:=hs.resolve_left (by rw[ho];simp)
    rcases kZ i h.length with hlt|hge
    ·rw[nH,if_pos hlt]at hd;have:=ah2 (cx:=⟨if x.isOpen=true then lo else h.length,h.length,x.ns,none⟩) hc hlt n x.code hst hx hd
     rwa [kY hlt]at this
    ·rw[nH,if_neg (by omega)]at hd;cases hd
   ·rw[if_neg ho]at hd;exact hd
  cases e with
  |exit id=>cases he
  |norm=>exact fin he
  |ret=>exact fin he
 ·cases he
theorem aia{n:Nat}(hc:sG aZ call){x:bJ}{w:Bool}{args:List AV}{h:Heap}{lo:Nat}{r:AV}{h':Heap}(he:qV x (fun cx=>exec call cx n) w args h lo=some (r,h'))(hs:x.isOpen=false\/x.code.still aZ=true)(hd:h'[i]?=some (v,.dead)):h[i]?=some (v,.dead):=by
 unfold qV at he;split at he
 ·obtain⟨vs,h1,h2⟩:=bE.mp he;obtain⟨q,h3,h4⟩:=bE.mp h2;split at h4
  ·simp only[aS,aB]at h4;obtain⟨rfl,rfl⟩:=h4;exact hd
  ·cases h4
 ·exact ah3 hc he hs hd
end
theorem aaw{aZ:Nat->Bool}{L:Lib}(hf:∀ f x,L.mM f=some x->aZ f=true->x.isOpen=false)(hg:∀ f x,L.mM f=some x->aZ (f+5000)=true->x.code.still aZ=true)(ho:∀ f args h r,L.pq f args h=some r->∀ i v b,h[i]?=some (v,au.dead)->L.pq f args (h.set i b)=some r)(hn:∀ f args h,L.pq f args h=none->∀ i v b,h[i]?=some (v,au.dead)->(L.mM f).isSome=true->L.pq f args (h.set i b)=none):∀ n,sG aZ (ex L n)
 |0=>⟨fun{f args h lo r h'} hx=>by simp[ex]at hx,fun{f args h lo r h'} hx=>by simp[ex]at hx,fun{d id ai args h e h'} hx=>by simp[ex]at hx⟩
 |n+1=>by
  have ih:=aaw hf hg ho hn n;refine⟨fun{f args h lo r h'} hx {i v b} hd hi=>?_,fun{f args h lo r h'} hx hcl {i v} hd=>?_,fun{d id ai args h e h'} hx {i v b} hd hi hlo hid=>?_⟩
  ·simp only[ex]at hx⊢;split at hx
   ·rename_i q hq;simp only[aS,aB]at hx;obtain⟨rfl,rfl⟩:=hx;rw[ho f args h q hq i v b hd];exact⟨hd,rfl⟩
   ·rename_i hq;obtain⟨x,hx1,hx2⟩:=bE.mp hx;obtain⟨k1,k2⟩:=ahY (b:=b) ih hx2 hd (hi.imp (fun h=>h) (Or.imp (hf f x hx1) (hg f x hx1)));rw[hn f args h hq i v b hd (by rw[hx1];rfl)]
    exact⟨k1,bE.mpr ⟨x,hx1,k2⟩⟩
  ·simp only[ex]at hx;split at hx
   ·simp only[aS,aB]at hx;obtain⟨rfl,rfl⟩:=hx;exact hd
   ·obtain⟨x,hx1,hx2⟩:=bE.mp hx;exact aia ih hx2 (hcl.imp (hf f x hx1) (hg f x hx1)) hd
  ·simp only[ex]at hx⊢;obtain⟨x,hx1,hx2⟩:=bE.mp hx;obtain⟨k1,k2⟩:=ahV (b:=b) ih hx2 hd hi hlo hid;exact⟨k1,bE.mpr ⟨x,hx1,k2⟩⟩
end Go.VI
