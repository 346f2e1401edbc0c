/- Calls and rounds: a dead block may be any other. -/
import Derived.Test.YtfpoegnmeoghpaaGreatDoorVIT
set_option linter.unusedVariables false
set_option linter.unusedSimpArgs false
namespace Go.VI
set_option linter.unusedSectionVars false
variable [kH][Rounds]
section
variable {eB:Nat->Bool}{call:Callee}{i v:Nat}{b:Nat×aU}
theorem azL{env:Env}{h:Heap}{r:LY}{a:AV}(hx:Y0 env h r=some a)(hd:h[i]?=some (v,.dead)):Y0 env (h.set i b) r=some a:=by
 cases r with
 |tmp t=>exact hx
 |cell t sh =>
  simp only[Y0]at hx⊢;obtain⟨cs,h1,h2⟩:=bE.mp hx;exact bE.mpr ⟨cs,ar5 h1 hd,h2⟩
theorem azM{env:Env}{h:Heap}:∀{rs:List LY} {as:List AV},Rh env h rs=some as->h[i]?=some (v,.dead)->Rh env (h.set i b) rs=some as
 |[],as,hx,_=>hx
 |r::rs,as,hx,hd=>by
  simp only[Rh]at hx⊢;obtain⟨a,h1,hx⟩:=bE.mp hx;obtain⟨as',h2,rfl⟩:=mE.mp hx;exact bE.mpr ⟨a,azL h1 hd,mE.mpr ⟨as',azM h2 hd,rfl⟩⟩
theorem aGO{env:Env}{h:Heap}{rs:List LY}{a:AV}(hx:Ry env h rs=some a)(hd:h[i]?=some (v,.dead)):Ry env (h.set i b) rs=some a:=by
 unfold Ry at hx⊢;split at hx
 ·exact azL hx hd
 ·obtain⟨as,h1,rfl⟩:=mE.mp hx;exact mE.mpr ⟨as,azM h1 hd,rfl⟩
theorem azN{base:Nat}{a a':AV}{h h':Heap}(hx:give base a h=some (a',h'))(hd:h[i]?=some (v,.dead))(hi:i<base):h'[i]?=some (v,.dead)/\give base a (h.set i b)=some (a',h'.set i b):=by
 unfold give at hx⊢;split at hx
 ·simp only[dz,bf]at hx⊢;obtain⟨rfl,rfl⟩:=hx;exact⟨hd,rfl,rfl⟩
 ·split at hx
  ·rename_i hc;rw[if_pos hc];obtain⟨es,h1,he⟩:=mE.mp hx;simp only[bf]at he;obtain⟨rfl,rfl⟩:=he;refine⟨Rm (by omega) hd,mE.mpr ⟨es,alH h1 hd, ?_⟩⟩
   rw[QT _ _ (by omega)]
  ·rename_i hc;rw[if_neg hc];exact ac0 _ _ _ _ hx hd hi
 ·exact ac0 _ _ _ _ hx hd hi
theorem azO{base:Nat}(hi:i<base):∀{as as':List AV} {h h':Heap},NH base as h=some (as',h')->h[i]?=some (v,.dead)->h'[i]?=some (v,.dead)/\NH base as (h.set i b)=some (as',h'.set i b)
 |[],as',h,h',hx,hd=>by
  simp only[NH,dz,bf]at hx⊢;obtain⟨rfl,rfl⟩:=hx
  exact⟨hd,rfl,rfl⟩
 |a::as,as',h,h',hx,hd=>by
  simp only[NH]at hx⊢;obtain⟨⟨a1,h1⟩,h2,hx⟩:=bE.mp hx;obtain⟨⟨as1,h3⟩,h4,he⟩:=mE.mp hx;simp only[bf]at he;obtain⟨rfl,rfl⟩:=he;obtain⟨k1,k2⟩:=azN (b:=b) h2 hd hi;obtain⟨k3,k4⟩:=azO hi h4 k1;exact⟨k3,bE.mpr ⟨_,k2,mE.mpr ⟨_,k4,rfl⟩⟩⟩
theorem aGP{base:Nat}{a r:AV}{h:Heap}(hx:tJ base a h=some r)(hd:h[i]?=some (v,.dead))(hi:i<base):tJ base a (h.set i b)=some r:=by
 unfold tJ at hx⊢;split at hx
 ·obtain⟨⟨as,h1⟩,h2,rfl⟩:=mE.mp hx;exact mE.mpr ⟨_,(azO hi h2 hd).2,rfl⟩
 ·obtain⟨⟨as,h1⟩,h2,rfl⟩:=mE.mp hx;exact mE.mpr ⟨_,(azN h2 hd hi).2,rfl⟩
theorem aGQ{n:Nat}(hc:Qy eB call){x:gH}{args:List AV}{h:Heap}{lo:Nat}{r:AV}{h':Heap}(he:enter x (fun cx=>exec call cx n) args h lo=some (r,h'))(hd:h[i]?=some (v,.dead))(hi:i<lo\/x.isOpen=false\/x.code.still eB=true) :
  h'[i]?=some (v,.dead)/\enter x (fun cx=>exec call cx n) args (h.set i b) lo=some (r,h'.set i b):=by
 have hlt:i<h.length:=(kS.mp hd).1;unfold enter at he⊢;simp only[Td]at he⊢;split at he
 ·rename_i hal;rw[if_pos hal];obtain⟨⟨e,env',h1⟩,hx,he⟩:=bE.mp he;have hset:h.set i b++List.replicate x.ns (0,aU.dead)=(h++List.replicate x.ns (0,aU.dead)).set i b:=by rw[List.set_append_left _ _ hlt]
  rw[hset];have hd0:(h++List.replicate x.ns (0,aU.dead))[i]?=some (v,.dead):=by rw[zy hlt];exact hd
  have hcx:i<(if x.isOpen=true then lo else h.length)\/x.code.still eB=true:=by
   split
   ·rename_i ho;rcases hi with h|h|h
    ·exact .inl h
    ·rw[h]at ho;cases ho
    ·exact .inr h
   ·exact .inl hlt
  have hle:(if x.isOpen=true then lo else h.length)<=h.length:=by
   split
   ·rename_i ho;exact hal.2 ho
   ·exact iJ _
  obtain⟨k1,k2⟩:=ar8 (b:=b) hc (cx:=⟨if x.isOpen=true then lo else h.length,h.length,x.ns,none⟩) hle (fun _ _ h=>by cases h) n x.code hx hd0 hlt hcx
  rw[k2];simp only[Option.bind_some]
  have fin:∀(hr:((Ry env' h1 x.res).bind fun v=>(tJ h.length v h1).map fun r=>(r,if x.isOpen then h1.take h.length else h))=some (r,h')),
    h'[i]?=some (v,.dead)/\((Ry env' (h1.set i b) x.res).bind fun v=>(tJ h.length v (h1.set i b)).map fun r=>(r,if x.isOpen then(h1.set i b).take h.length else h.set i b))=some (r,h'.set i b):=by
   intro hr;obtain⟨a,g1,g2⟩:=bE.mp hr;obtain⟨r',g3,g4⟩:=mE.mp g2;simp only[bf]at g4;obtain⟨rfl,rfl⟩:=g4;refine⟨?_,bE.mpr ⟨a,aGO g1 k1,mE.mpr ⟨_,aGP g3 k1 hlt, ?_⟩⟩⟩
   ·split
    ·rw[Y9 hlt];exact k1
    ·exact hd
   ·split
    ·rw[List.take_set]
    ·rfl
  cases e with
  |exit id=>cases he
  |norm=>exact fin he
  |ret=>exact fin he
 ·cases he
theorem aGR{n:Nat}(hc:Qy eB call){x:DU}{d:kP}{id ak:Nat}{args:List AV}{h:Heap}{e:Ex}{h':Heap}(hr:round x (fun cx=>exec call cx n) d id ak args h=some (e,h'))(hd:h[i]?=some (v,.dead))(hi:i<d.lo)(hlo:d.lo<=d.base)(hid:d.lo<=id) :
  h'[i]?=some (v,.dead)/\round x (fun cx=>exec call cx n) d id ak args (h.set i b)=some (e,h'.set i b):=by
 unfold round at hr⊢;split at hr
 ·rename_i hal;rw[if_pos hal];dsimp only;obtain⟨⟨e1,I7,h1⟩,g1,g2⟩:=bE.mp hr;clear hr;obtain⟨k1,k2⟩:=ar8 (b:=b) hc (cx:={ lo:=d.lo,base:=d.base,ns:=d.ns,Df:=some (id,ak) }) hlo (fun id' abx h=>by cases h;omega) n x.xQ g1 hd (by simp only[];omega) (.inl hi)
  rw[k2];simp only[Option.bind_some];dsimp only at g2;split at g2
  ·rename_i he;rw[if_pos he,tL (by omega)]
   split at g2
   ·rename_i v1 d1 aci;rw[aci];dsimp only;split at g2
    ·rename_i hv;rw[if_pos hv];obtain⟨⟨e2,zk,h3⟩,g3,g4⟩:=bE.mp g2;clear g2;obtain⟨k3,k4⟩:=ar8 (b:=b) hc (cx:={ lo:=d.lo,base:=d.base,ns:=d.ns,Df:=some (id,ak) }) hlo (fun id' abx h=>by cases h;omega) n x.body g3 (Rm (by omega) k1) (by simp only[];omega) (.inl hi)
     rw[QT _ _ (by omega),k4]
     simp only[Option.bind_some];dsimp only at g4;rw[tL (by omega)]
     split at g4
     ·rename_i v2 d2 zl;rw[zl];dsimp only;split at g4
      ·rename_i hv2;rw[if_pos hv2];simp only[dz,bf]at g4⊢;obtain⟨rfl,rfl⟩:=g4;exact⟨Rm (by omega) k3,rfl,QT _ _ (by omega)⟩
      ·cases g4
     ·cases g4
    ·cases g2
   ·cases g2
  ·cases g2
 ·cases hr
end
mutual
theorem aGS{i v:Nat}{b:Nat×aU}{h:Heap}:∀(x y:AV),view h x=some y->h[i]?=some (v,aU.dead)->view (h.set i b) x=some y
 |.agg cs,y,hv,hd=>by
  simp only[view,mE]at hv⊢;obtain⟨cs',h1,rfl⟩:=hv
  exact⟨cs',aog cs cs' h1 hd,rfl⟩
 |.fn f cs,y,hv,hd=>by
  simp only[view,mE]at hv⊢;obtain⟨cs',h1,rfl⟩:=hv
  exact⟨cs',aog cs cs' h1 hd,rfl⟩
 |.ref id ak z off len fill,y,hv,hd=>by
  simp only[view,mE]at hv⊢;obtain⟨es,h1,rfl⟩:=hv
  exact⟨es,alH h1 hd,rfl⟩
 |.own ..,y,hv,hd|.tuple ..,y,hv,hd|.bq ..,y,hv,hd|.nS ..,y,hv,hd|.lF ..,y,hv,hd|.undef,y,hv,hd|.rM ..,y,hv,hd=>by simp[view]at hv
 |.bool _,y,hv,hd|.int _ _,y,hv,hd|.str _,y,hv,hd|.yX,y,hv,hd|.zB,y,hv,hd|.bO,y,hv,hd|.eY _ _,y,hv,hd|.fT _ _,y,hv,hd|.nilPtr,y,hv,hd|.iE _,y,hv,hd=>by simpa[view]using hv
theorem aog{i v:Nat}{b:Nat×aU}{h:Heap}:∀(xs ys:List AV),TW h xs=some ys->h[i]?=some (v,aU.dead)->TW (h.set i b) xs=some ys
 |[],ys,hv,hd=>by simpa[TW]using hv
 |x::xs,ys,hv,hd=>by
  simp only[TW,bE,mE]at hv⊢;obtain⟨y,h1,ys',h2,rfl⟩:=hv;exact⟨y,aGS x y h1 hd,ys',aog xs ys' h2 hd,rfl⟩
end
theorem aGT{eB:Nat->Bool}{call:Callee}(hc:Qy eB call){n:Nat}{x:gH}{w:Bool}{args:List AV}{h:Heap}{lo:Nat}{r:AV}{h':Heap}{i v:Nat}{b:Nat×aU}(he:L6 x (fun cx=>exec call cx n) w args h lo=some (r,h'))(hd:h[i]?=some (v,.dead))
  (hi:i<lo\/x.isOpen=false\/x.code.still eB=true):h'[i]?=some (v,.dead)/\L6 x (fun cx=>exec call cx n) w args (h.set i b) lo=some (r,h'.set i b):=by
 unfold L6 at he⊢;split at he
 ·rename_i hw;obtain⟨vs,h1,h2⟩:=bE.mp he;obtain⟨q,h3,h4⟩:=bE.mp h2;split at h4
  ·rename_i hf;simp only[dz,bf]at h4;obtain⟨rfl,rfl⟩:=h4;refine⟨hd, ?_⟩;rw[if_pos hw];refine bE.mpr ⟨vs,aog _ _ h1 hd,bE.mpr ⟨q,h3, ?_⟩⟩;rw[if_pos hf]
  ·cases h4
 ·rename_i hw;rw[if_neg hw];exact aGQ hc he hd hi
section
variable {eB:Nat->Bool}{call:Callee}{i v:Nat}
mutual
theorem aoh{base:Nat}{keep:Bool}(hi:i<base):∀(x:AV) (h:Heap) (x':AV) (h':Heap),gI base keep x h=some (x',h')->h'[i]?=h[i]?
 |.agg cs,h,x',h',hf|.tuple cs,h,x',h',hf|.fn _ cs,h,x',h',hf=>by
  simp only[gI,mE,bf]at hf;obtain⟨⟨cs',h1⟩,hf,rfl,rfl⟩:=hf
  exact azP hi cs h cs' h1 hf
 |.rM _ y,h,x',h',hf=>by
  simp only[gI,mE,bf]at hf;obtain⟨⟨cs',h1⟩,hf,rfl,rfl⟩:=hf
  exact aoh hi y h cs' h1 hf
 |.ref id ak z off len fill,h,x',h',hf=>by
  simp only[gI]at hf;split at hf
  ·simp only[mE,bf]at hf;obtain⟨es,h1,rfl,rfl⟩:=hf;rw[tL (by omega)]
  ·split at hf
   ·simp only[dz,bf]at hf;obtain⟨rfl,rfl⟩:=hf;rfl
   ·cases hf
 |.own ..,h,x',h',hf|.bq ..,h,x',h',hf|.nS ..,h,x',h',hf|.lF ..,h,x',h',hf=>by simp[gI]at hf
 |.bO,h,x',h',hf|.undef,h,x',h',hf|.bool _,h,x',h',hf|.int _ _,h,x',h',hf|.str _,h,x',h',hf|.yX,h,x',h',hf|.zB,h,x',h',hf|.eY _ _,h,x',h',hf|.fT _ _,h,x',h',hf|.nilPtr,h,x',h',hf|.iE _,h,x',h',hf=>by
  simp only[gI,dz,bf]at hf;obtain⟨rfl,rfl⟩:=hf;rfl
theorem azP{base:Nat}{keep:Bool}(hi:i<base):∀(cs:List AV) (h:Heap) (cs':List AV) (h':Heap),zx base keep cs h=some (cs',h')->h'[i]?=h[i]?
 |[],h,cs',h',hf=>by
  simp only[zx,dz,bf]at hf;obtain⟨rfl,rfl⟩:=hf
  rfl
 |c::cs,h,cs',h',hf=>by
  simp only[zx,bE,mE,bf]at hf;obtain⟨⟨c1,h1⟩,f1,⟨cs1,h2⟩,f2,rfl,rfl⟩:=hf;rw[azP hi cs h1 cs1 h2 f2,aoh hi c h c1 h1 f1]
end
theorem azQ{cx:Cx}{s ak:Nat}{x:aU}{h h':Heap}(hm:mK cx s x h=some (ak,h'))(hi:i<cx.base):h'[i]?=h[i]?:=by
 unfold mK at hm;split at hm
 ·split at hm
  ·simp only[dz,bf]at hm;obtain⟨rfl,rfl⟩:=hm;rw[tL (by omega)]
  ·cases hm
 ·cases hm
theorem asC{h:Heap}{id:Nat}{y:Nat×aU}(hy:y.2≠.dead)(hd:(h.set id y)[i]?=some (v,.dead)):h[i]?=some (v,.dead):=by
 by_cases c:id=i
 ·subst c;rw[List.getElem?_set]at hd;simp only[if_true]at hd;split at hd
  ·cases hd;exact absurd rfl hy
  ·cases hd
 ·rwa [tL c]at hd
theorem aGU{cx:Cx}{h h':Heap}{sz:Nat}{p x:AV}(hp:qE cx h sz p x=some h')(hi:i<cx.base)(hd:h'[i]?=some (v,.dead)):h[i]?=some (v,.dead):=by
 unfold qE at hp;split at hp
 ·split at hp
  ·split at hp
   ·split at hp
    ·obtain⟨cs',_,rfl⟩:=mE.mp hp;exact asC (by simp) hd
    ·cases hp
   ·cases hp
  ·obtain⟨⟨x1,h1⟩,hf,hp⟩:=bE.mp hp;have hk:=aoh hi _ _ _ _ hf;rw[<-hk];dsimp only at hp;split at hp
   ·split at hp
    ·split at hp
     ·obtain⟨cs',_,rfl⟩:=mE.mp hp;exact asC (by simp) hd
     ·split at hp
      ·split at hp
       ·cases hp
       ·simp only[dz]at hp;subst hp;exact asC (by simp) hd
      ·cases hp
     ·cases hp
    ·cases hp
   ·cases hp
  ·cases hp
 ·cases hp
theorem azR(hc:Qy eB call){cx:Cx}{env:Env}{h h':Heap}{x:jc}(hs:x.still eB=true)(hck:x.GI.all (ou.ok cx env h)=true){r:AV}(hx:xi call cx env h x.op=some (r,h'))(hi:i<cx.base)(hd:h'[i]?=some (v,.dead)):h[i]?=some (v,.dead):=by
 have hst:=ayI hs hck hx;unfold jc.still at hs;cases hop:x.op<;>rw[hop]at hs hx hst<;>try (cases hs)
 case call f args own =>
  simp only[fw,Zz]at hs;obtain⟨rfl,_⟩:=hs;obtain⟨g,cs,hf,hg⟩:=hst f args [] rfl;simp only[xi,hf]at hx;obtain⟨⟨r1,h1⟩,h2,hx⟩:=bE.mp hx;simp only[dz,bf]at hx;obtain⟨_,rfl⟩:=hx;exact hc.kp h2 hg hd
 all_goals simp only[xi]at hx
 case alloc s zero =>
  obtain⟨⟨ak,h1⟩,h2,he⟩:=mE.mp hx;simp only[bf]at he;obtain⟨rfl,rfl⟩:=he
  rwa [azQ h2 hi]at hd
 case box s y =>
  split at hx
  ·obtain⟨⟨ak,h1⟩,h2,he⟩:=mE.mp hx;simp only[bf]at he;obtain⟨rfl,rfl⟩:=he
   rwa [azQ h2 hi]at hd
  ·cases hx
 case nK y =>
  split at hx
  ·obtain⟨⟨ak,h1⟩,h2,he⟩:=mE.mp hx;simp only[bf]at he;obtain⟨rfl,rfl⟩:=he
   rwa [aoh hi _ _ _ _ h2]at hd
  ·cases hx
 case store sz y z =>
  obtain⟨h1,h2,he⟩:=mE.mp hx;simp only[bf]at he;obtain⟨rfl,rfl⟩:=he;exact aGU h2 hi hd
 case load sh y =>
  obtain⟨cs,h2,hx⟩:=bE.mp hx;obtain⟨q,h3,he⟩:=mE.mp hx;simp only[bf]at he;obtain⟨rfl,rfl⟩:=he;exact hd
 case TT z y k =>
  split at hx
  ·obtain⟨n,h2,hx⟩:=bE.mp hx;obtain⟨q,h3,he⟩:=mE.mp hx;simp only[bf]at he;obtain⟨rfl,rfl⟩:=he;exact hd
  ·cases hx
 case Oa y k =>
  split at hx
  ·obtain⟨n,h2,hx⟩:=bE.mp hx;obtain⟨q,h3,he⟩:=mE.mp hx;simp only[bf]at he;obtain⟨rfl,rfl⟩:=he;exact hd
  ·cases hx
 all_goals first
  |(simp only[dz,bf]at hx;obtain⟨rfl,rfl⟩:=hx;exact hd)
  |(obtain⟨q,h3,he⟩:=mE.mp hx;simp only[bf]at he;obtain⟨rfl,rfl⟩:=he;exact hd)
  |(obtain⟨q0,h2,hx⟩:=bE.mp hx;obtain⟨q,h3,he⟩:=mE.mp hx;simp only[bf]at he;obtain⟨rfl,rfl⟩:=he;exact hd)
theorem aGV(hc:Qy eB call){cx:Cx}{env env':Env}{h h':Heap}{x:jc}(hs:x.still eB=true)(hx:Dh call cx x env h=some (env',h'))(hi:i<cx.base)(hd:h'[i]?=some (v,.dead)):h[i]?=some (v,.dead):=by
 unfold Dh at hx;split at hx
 ·obtain⟨⟨r,h1⟩,h2,he⟩:=mE.mp hx;simp only[bf]at he;obtain⟨rfl,rfl⟩:=he;obtain⟨k1,k2⟩:=IQ h2;exact azR hc hs k2 k1 hi hd
 ·obtain⟨q,hq,hx⟩:=bE.mp hx;split at hx
  ·obtain⟨⟨r,h1⟩,h2,he⟩:=mE.mp hx;simp only[bf]at he;obtain⟨rfl,rfl⟩:=he;obtain⟨k1,k2⟩:=IQ h2;exact azR hc hs k2 k1 hi hd
  ·simp only[dz,bf]at hx;obtain⟨rfl,rfl⟩:=hx;exact hd
theorem azS(hc:Qy eB call){cx:Cx}(hi:i<cx.base):∀(os:List jc) {env env':Env} {h h':Heap},os.all (jc.still eB)=true->xZ call cx os env h=some (env',h')->h'[i]?=some (v,.dead)->h[i]?=some (v,.dead)
 |[],env,env',h,h',hs,hx,hd=>by
  simp only[xZ,dz,bf]at hx;obtain⟨rfl,rfl⟩:=hx
  exact hd
 |o::os,env,env',h,h',hs,hx,hd=>by
  simp only[YL,fw]at hs;obtain⟨⟨e1,h1⟩,h2,hx⟩:=bE.mp hx;exact aGV hc hs.1 h2 hi (azS hc hi os hs.2 hx hd)
theorem asD{cx:Cx}(hi:i<cx.base):∀(ss:List Nat) (h:Heap),(Gp cx ss h)[i]?=h[i]?
 |[],h=>rfl
 |s::ss,h=>by
  simp only[Gp];split
  ·rw[asD hi ss,tL (by omega)]
  ·exact asD hi ss h
theorem aGW(hc:Qy eB call){cx:Cx}(hi:i<cx.base)(n:Nat):∀(x:XC) {env:Env} {h:Heap} {e:Ex} {env':Env} {h':Heap},x.still eB=true->exec call cx n x (env,h)=some (e,(env',h'))->h'[i]?=some (v,.dead)->h[i]?=some (v,.dead):=by
 intro x
 induction x with
 |skip|exit|ret =>
  intro env h e env' h' hs hx hd;simp only[exec,dz,bf]at hx;obtain⟨rfl,rfl,rfl⟩:=hx
  exact hd
 |reg draw keep kill ops =>
  intro env h e env' h' hs hx hd;simp only[exec,mE,bf]at hx;obtain⟨⟨e1,h1⟩,h2,rfl,rfl,rfl⟩:=hx;have:=azS hc hi _ hs h2 hd
  rwa [asD hi]at this
 |seq p q ihp ihq =>
  intro env h e env' h' hs hx hd;simp only[XC.still,fw]at hs;obtain⟨⟨e1,I7,h1⟩,h2,hx⟩:=bE.mp hx;dsimp only at hx;split at hx
  ·exact ihp hs.1 h2 (ihq hs.2 hx hd)
  ·simp only[dz,bf]at hx;obtain⟨rfl,rfl,rfl⟩:=hx
   exact ihp hs.1 h2 hd
 |cond c p q ihp ihq =>
  intro env h e env' h' hs hx hd;simp only[XC.still,fw]at hs;obtain⟨r,h2,hx⟩:=bE.mp hx
  cases r with
  |true=>exact ihp hs.1 hx hd
  |false=>exact ihq hs.2 hx hd
 |blk id p ih =>
  intro env h e env' h' hs hx hd;obtain⟨⟨e1,I7,h1⟩,h2,he⟩:=mE.mp hx;unfold Ex.Ir at he;split at he
  ·simp only[bf]at he;obtain⟨rfl,rfl,rfl⟩:=he;exact ih hs h2 hd
  ·simp only[bf]at he;obtain⟨rfl,rfl,rfl⟩:=he
   exact ih hs h2 hd
 |loop p ih =>
  intro env h e env' h' hs hx hd;simp only[exec]at hx
  have key:∀(k:Nat) {env:Env} {h:Heap} {e:Ex} {env':Env} {h':Heap},iter (exec call cx n p) k (env,h)=some (e,(env',h'))->h'[i]?=some (v,.dead)->h[i]?=some (v,.dead):=by
   intro k
   induction k with
   |zero=>intro env h e env' h' hx;simp[iter]at hx
   |succ k ihk =>
    intro env h e env' h' hx hd;simp only[iter,bE]at hx;obtain⟨⟨e1,I7,h1⟩,hx1,hx2⟩:=hx;dsimp only at hx2;split at hx2
    ·exact ih hs hx1 (ihk hx2 hd)
    ·simp only[dz,bf]at hx2;obtain⟨rfl,rfl,rfl⟩:=hx2;exact ih hs hx1 hd
  exact key n hx hd
 |Gm s f g=>intro env h e env' h' hs;cases hs
 |pre ps p ih =>
  intro env h e env' h' hs hx hd;exact ih (env:=env.keep ps) hs hx hd
theorem aGX{n:Nat}(hc:Qy eB call){x:gH}{args:List AV}{h:Heap}{lo:Nat}{r:AV}{h':Heap}(he:enter x (fun cx=>exec call cx n) args h lo=some (r,h'))(hs:x.isOpen=false\/x.code.still eB=true)(hd:h'[i]?=some (v,.dead)):h[i]?=some (v,.dead):=by
 unfold enter at he;split at he
 ·obtain⟨⟨e,env',h1⟩,hx,he⟩:=bE.mp he
  have fin:((Ry env' h1 x.res).bind fun v=>(tJ h.length v h1).map fun r=>(r,if x.isOpen then h1.take h.length else h))=some (r,h')->h[i]?=some (v,.dead):=by
   intro hr;obtain⟨a,g1,g2⟩:=bE.mp hr;obtain⟨r',g3,g4⟩:=mE.mp g2;simp only[bf]at g4;obtain⟨rfl,rfl⟩:=g4;by_cases ho:x.isOpen=true
   ·rw[if_pos ho]at hd;have hst:=hs.resolve_left (by rw[ho];simp)
    rcases Fz i h.length with hlt|hge
    ·rw[IA,if_pos hlt]at hd;have:=aGW (cx:=⟨if x.isOpen=true then lo else h.length,h.length,x.ns,none⟩) hc hlt n x.code hst hx hd
     rwa [zy hlt]at this
    ·rw[IA,if_neg (by omega)]at hd;cases hd
   ·rw[if_neg ho]at hd;exact hd
  cases e with
  |exit id=>cases he
  |norm=>exact fin he
  |ret=>exact fin he
 ·cases he
theorem aGY{n:Nat}(hc:Qy eB call){x:gH}{w:Bool}{args:List AV}{h:Heap}{lo:Nat}{r:AV}{h':Heap}(he:L6 x (fun cx=>exec call cx n) w args h lo=some (r,h'))(hs:x.isOpen=false\/x.code.still eB=true)(hd:h'[i]?=some (v,.dead)):h[i]?=some (v,.dead):=by
 unfold L6 at he;split at he
 ·obtain⟨vs,h1,h2⟩:=bE.mp he;obtain⟨q,h3,h4⟩:=bE.mp h2;split at h4
  ·simp only[dz,bf]at h4;obtain⟨rfl,rfl⟩:=h4;exact hd
  ·cases h4
 ·exact aGX hc he hs hd
end
theorem azT{eB:Nat->Bool}{L:Lib}(hf:∀ f x,L.FJ f=some x->eB f=true->x.isOpen=false)(hg:∀ f x,L.FJ f=some x->eB (f+5000)=true->x.code.still eB=true)(ho:∀ f args h r,L.IW f args h=some r->∀ i v b,h[i]?=some (v,aU.dead)->L.IW f args (h.set i b)=some r)(hn:∀ f args h,L.IW f args h=none->∀ i v b,h[i]?=some (v,aU.dead)->(L.FJ f).isSome=true->L.IW f args (h.set i b)=none):∀ n,Qy eB (ex L n)
 |0=>⟨fun{f args h lo r h'} hx=>by simp[ex]at hx,fun{f args h lo r h'} hx=>by simp[ex]at hx,fun{d id ak args h e h'} hx=>by simp[ex]at hx⟩
 |n+1=>by
  have ih:=azT hf hg ho hn n;refine⟨fun{f args h lo r h'} hx {i v b} hd hi=>?_,fun{f args h lo r h'} hx hcl {i v} hd=>?_,fun{d id ak args h e h'} hx {i v b} hd hi hlo hid=>?_⟩
  ·simp only[ex]at hx⊢;split at hx
   ·rename_i q hq;simp only[dz,bf]at hx;obtain⟨rfl,rfl⟩:=hx;rw[ho f args h q hq i v b hd];exact⟨hd,rfl⟩
   ·rename_i hq;obtain⟨x,hx1,hx2⟩:=bE.mp hx;obtain⟨k1,k2⟩:=aGT (b:=b) ih hx2 hd (hi.imp (fun h=>h) (Or.imp (hf f x hx1) (hg f x hx1)));rw[hn f args h hq i v b hd (by rw[hx1];rfl)]
    exact⟨k1,bE.mpr ⟨x,hx1,k2⟩⟩
  ·simp only[ex]at hx;split at hx
   ·simp only[dz,bf]at hx;obtain⟨rfl,rfl⟩:=hx;exact hd
   ·obtain⟨x,hx1,hx2⟩:=bE.mp hx;exact aGY ih hx2 (hcl.imp (hf f x hx1) (hg f x hx1)) hd
  ·simp only[ex]at hx⊢;obtain⟨x,hx1,hx2⟩:=bE.mp hx;obtain⟨k1,k2⟩:=aGR (b:=b) ih hx2 hd hi hlo hid;exact⟨k1,bE.mpr ⟨x,hx1,k2⟩⟩
end Go.VI
