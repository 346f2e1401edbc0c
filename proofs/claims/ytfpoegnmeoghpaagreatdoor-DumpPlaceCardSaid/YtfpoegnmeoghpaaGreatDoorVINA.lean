/- What lies where nothing is looked at makes no difference: a block that is dead may be any other. -/
import Derived.Test.YtfpoegnmeoghpaaGreatDoorVIN
set_option linter.unusedVariables false
set_option linter.unusedSimpArgs false
namespace Go.VI
set_option linter.unusedSectionVars false
variable [kH][Rounds]
section
variable {i v:Nat}{b:Nat×aU}{h:Heap}
theorem ZF{id:Nat}{x:Nat×aU}(hd:h[i]?=some (v,aU.dead))(hid:h[id]?=some x)(hx:x.2≠.dead):id≠i:=by
 rintro rfl;rw[hd]at hid;cases hid;exact hx rfl
theorem alH{x:AV}{es:List AV}(hx:wF h x=some es)(hd:h[i]?=some (v,aU.dead)):wF (h.set i b) x=some es:=by
 unfold wF at hx⊢;split at hx
 ·exact hx
 ·exact hx
 ·exact hx
 ·rename_i id ak z off len fill;split at hx
  ·rename_i w z' es' hid;have hne:=ZF hd hid (by simp)
   rw[tL (by omega),hid]
   exact hx
  ·cases hx
 ·cases hx
theorem alI{x:AV}{z:Nat}{es:List AV}(hx:JH h z x=some es)(hd:h[i]?=some (v,aU.dead)):JH (h.set i b) z x=some es:=by
 unfold JH at hx⊢;split at hx
 ·rw[if_pos (by assumption)];exact alH hx hd
 ·cases hx
theorem ar5{x:AV}{cs:List AV}(hx:qL h x=some cs)(hd:h[i]?=some (v,aU.dead)):qL (h.set i b) x=some cs:=by
 unfold qL at hx⊢;split at hx
 ·exact hx
 ·rename_i id ak off;split at hx
  ·rename_i w cs' hid;have hne:=ZF hd hid (by simp)
   rw[tL (by omega),hid]
   exact hx
  ·cases hx
 ·rename_i u k off;obtain⟨es,h1,h2⟩:=bE.mp hx;exact bE.mpr ⟨es,alH h1 hd,h2⟩
 ·cases hx
theorem aFs{x:AV}{z:Nat}{es:List AV}(hx:Rf h z x=some es)(hd:h[i]?=some (v,aU.dead)):Rf (h.set i b) z x=some es:=by
 unfold Rf at hx⊢;split at hx
 ·exact hx
 ·exact alI hx hd
theorem Rm{id:Nat}{x:Nat×aU}(hne:id≠i)(hd:h[i]?=some (v,aU.dead)):(h.set id x)[i]?=some (v,aU.dead):=by rw[tL hne];exact hd
mutual
theorem ac0{base:Nat}{keep:Bool}:∀(x:AV) (h:Heap) (x':AV) (h':Heap),gI base keep x h=some (x',h')->h[i]?=some (v,aU.dead)->i<base->h'[i]?=some (v,aU.dead)/\gI base keep x (h.set i b)=some (x',h'.set i b)
 |.agg cs,h,x',h',hf,hd,hb|.tuple cs,h,x',h',hf,hd,hb|.fn _ cs,h,x',h',hf,hd,hb=>by
  simp only[gI,mE,bf]at hf⊢;obtain⟨⟨cs',h1⟩,hf,rfl,rfl⟩:=hf;obtain⟨k1,k2⟩:=ayE cs h cs' h1 hf hd hb
  exact⟨k1,_,k2,rfl,rfl⟩
 |.rM _ y,h,x',h',hf,hd,hb=>by
  simp only[gI,mE,bf]at hf⊢;obtain⟨⟨cs',h1⟩,hf,rfl,rfl⟩:=hf;obtain⟨k1,k2⟩:=ac0 y h cs' h1 hf hd hb
  exact⟨k1,_,k2,rfl,rfl⟩
 |.ref id ak z off len fill,h,x',h',hf,hd,hb=>by
  simp only[gI]at hf⊢;split at hf
  ·rename_i hle;rw[if_pos hle];simp only[mE,bf]at hf⊢;obtain⟨es,h1,rfl,rfl⟩:=hf;exact⟨Rm (by omega) hd,es,alH h1 hd,rfl,QT _ _ (by omega)⟩
  ·rename_i hle;rw[if_neg hle];split at hf
   ·rename_i hk;rw[if_pos hk];simp only[dz,bf]at hf⊢;obtain⟨rfl,rfl⟩:=hf;exact⟨hd,rfl,rfl⟩
   ·cases hf
 |.own ..,h,x',h',hf,hd,hb|.bq ..,h,x',h',hf,hd,hb|.nS ..,h,x',h',hf,hd,hb|.lF ..,h,x',h',hf,hd,hb=>by simp[gI]at hf
 |.bO,h,x',h',hf,hd,hb|.undef,h,x',h',hf,hd,hb|.bool _,h,x',h',hf,hd,hb|.int _ _,h,x',h',hf,hd,hb|.str _,h,x',h',hf,hd,hb|.yX,h,x',h',hf,hd,hb|.zB,h,x',h',hf,hd,hb|.eY _ _,h,x',h',hf,hd,hb|.fT _ _,h,x',h',hf,hd,hb|.nilPtr,h,x',h',hf,hd,hb|.iE _,h,x',h',hf,hd,hb=>by
  simp only[gI,dz,bf]at hf⊢;obtain⟨rfl,rfl⟩:=hf;exact⟨hd,rfl,rfl⟩
theorem ayE{base:Nat}{keep:Bool}:∀(cs:List AV) (h:Heap) (cs':List AV) (h':Heap),zx base keep cs h=some (cs',h')->h[i]?=some (v,aU.dead)->i<base->h'[i]?=some (v,aU.dead)/\zx base keep cs (h.set i b)=some (cs',h'.set i b)
 |[],h,cs',h',hf,hd,hb=>by
  simp only[zx,dz,bf]at hf⊢;obtain⟨rfl,rfl⟩:=hf
  exact⟨hd,rfl,rfl⟩
 |c::cs,h,cs',h',hf,hd,hb=>by
  simp only[zx,bE,mE,bf]at hf⊢;obtain⟨⟨c1,h1⟩,f1,⟨cs1,h2⟩,f2,rfl,rfl⟩:=hf;obtain⟨k1,k2⟩:=ac0 c h c1 h1 f1 hd hb;obtain⟨k3,k4⟩:=ayE cs h1 cs1 h2 f2 k1 hb;exact⟨k3,_,k2,_,k4,rfl,rfl⟩
end
theorem acd{cx:Cx}{s ak:Nat}{x:aU}{h':Heap}(hm:mK cx s x h=some (ak,h'))(hd:h[i]?=some (v,aU.dead))(hi:i<cx.base):h'[i]?=some (v,aU.dead)/\mK cx s x (h.set i b)=some (ak,h'.set i b):=by
 unfold mK at hm⊢;split at hm
 ·rename_i hc;rw[if_pos hc,tL (by omega)]
  split at hm
  ·rename_i v0 rY hid;rw[hid];simp only[dz,bf]at hm⊢;obtain⟨rfl,rfl⟩:=hm;exact⟨Rm (by omega) hd,rfl,QT _ _ (by omega)⟩
  ·cases hm
 ·cases hm
theorem alJ{cx:Cx}(hi:i<cx.base):∀(own:List (Nat×Nat)) (cs cs':List AV) (h h':Heap),Dz cx own cs h=some (cs',h')->h[i]?=some (v,aU.dead)->h'[i]?=some (v,aU.dead)/\Dz cx own cs (h.set i b)=some (cs',h'.set i b)
 |[],cs,cs',h,h',ht,hd=>by
  simp only[Dz,dz,bf]at ht⊢;obtain⟨rfl,rfl⟩:=ht
  exact⟨hd,rfl,rfl⟩
 |(j,s)::r,cs,cs',h,h',ht,hd=>by
  simp only[Dz]at ht⊢;split at ht
  ·split at ht
   ·rename_i hc;rw[if_pos hc];exact alJ hi r _ _ _ _ ht hd
   ·rename_i hc;rw[if_neg hc];obtain⟨⟨ak,h1⟩,hm,ht⟩:=bE.mp ht;obtain⟨k1,k2⟩:=acd (b:=b) hm hd hi;obtain⟨k3,k4⟩:=alJ hi r _ _ _ _ ht k1;exact⟨k3,bE.mpr ⟨_,k2,k4⟩⟩
  ·exact alJ hi r _ _ _ _ ht hd
theorem ayF{base z:Nat}{env:Env}(hi:i<base):∀(ps:List (Nat×bD)) (es es':List AV) (h h':Heap),FI env base z ps es h=some (es',h')->h[i]?=some (v,aU.dead)->h'[i]?=some (v,aU.dead)/\FI env base z ps es (h.set i b)=some (es',h'.set i b)
 |[],es,es',h,h',ht,hd=>by
  simp only[FI,dz,bf]at ht⊢;obtain⟨rfl,rfl⟩:=ht
  exact⟨hd,rfl,rfl⟩
 |(k,x)::ps,es,es',h,h',ht,hd=>by
  simp only[FI]at ht⊢;obtain⟨⟨y,h1⟩,hf,ht⟩:=bE.mp ht;dsimp only at ht;split at ht
  ·rename_i hc;obtain⟨k1,k2⟩:=ac0 (b:=b) _ _ _ _ hf hd hi;obtain⟨k3,k4⟩:=ayF hi ps _ _ _ _ ht k1;refine⟨k3,bE.mpr ⟨_,k2, ?_⟩⟩;dsimp only;rw[if_pos hc];exact k4
  ·cases ht
theorem aFt{cx:Cx}{sz:Nat}{p x:AV}{h':Heap}(hp:qE cx h sz p x=some h')(hd:h[i]?=some (v,aU.dead))(hi:i<cx.base):h'[i]?=some (v,aU.dead)/\qE cx (h.set i b) sz p x=some (h'.set i b):=by
 unfold qE at hp⊢;split at hp
 ·rename_i hc0;rw[if_pos hc0];split at hp
  ·rename_i id ak off;split at hp
   ·rename_i w cs hid;have hne:=ZF hd hid (by simp)
    rw[tL (by omega),hid]
    dsimp only;split at hp
    ·rename_i hc;rw[if_pos hc];obtain⟨cs',hsp,rfl⟩:=mE.mp hp;exact⟨Rm hne hd,mE.mpr ⟨cs',hsp,QT _ _ (Ne.symm hne)⟩⟩
    ·cases hp
   ·cases hp
  ·rename_i id ak z o len fill k off;obtain⟨⟨x1,h1⟩,hf,hp⟩:=bE.mp hp;obtain⟨k1,k2⟩:=ac0 (b:=b) _ _ _ _ hf hd (by omega)
   dsimp only at hp;split at hp
   ·rename_i w z' es hid;have hne:=ZF k1 hid (by simp)
    split at hp
    ·rename_i hc;split at hp
     ·rename_i cs hes;obtain⟨cs',hsp,rfl⟩:=mE.mp hp;refine⟨Rm hne k1,bE.mpr ⟨_,k2, ?_⟩⟩;dsimp only;rw[tL (by omega),hid]
      dsimp only;rw[if_pos hc,hes];exact mE.mpr ⟨cs',hsp,QT _ _ (Ne.symm hne)⟩
     ·rename_i e0 hna hes;split at hp
      ·rename_i hc2;split at hp
       ·cases hp
       ·rename_i ar6;simp only[dz]at hp;subst hp;refine⟨Rm hne k1,bE.mpr ⟨_,k2, ?_⟩⟩;dsimp only;rw[tL (by omega),hid]
        dsimp only;rw[if_pos hc,hes];split
        ·rename_i heq;cases heq;exact absurd rfl (hna _)
        ·rename_i heq;cases heq;rw[if_pos hc2];split
         ·exact absurd rfl (ar6 _)
         ·rw[QT _ _ (Ne.symm hne)]
        ·rename_i heq;cases heq
      ·cases hp
     ·cases hp
    ·cases hp
   ·cases hp
  ·cases hp
 ·cases hp
theorem aFu{cx:Cx}{z:Nat}{x y:AV}{ys:List AV}{h':Heap}(hp:Rx cx z x ys h=some (y,h'))(hd:h[i]?=some (v,aU.dead)):h'[i]?=some (v,aU.dead)/\Rx cx z x ys (h.set i b)=some (y,h'.set i b):=by
 unfold Rx at hp⊢;split at hp
 ·rename_i hz;rw[if_pos hz];split at hp
  ·cases hp
  ·rename_i len hlen;split at hp
   ·rename_i h0;rw[if_pos h0];simp only[dz,bf]at hp⊢;obtain⟨rfl,rfl⟩:=hp;exact⟨hd,rfl,rfl⟩
   ·rename_i h0;rw[if_neg h0];split at hp
    ·rename_i id ak z' off len fill;split at hp
     ·rename_i w z'' es hid;have hne:=ZF hd hid (by simp)
      rw[tL (by omega),hid]
      dsimp only;split at hp
      ·rename_i hc;rw[if_pos hc];simp only[dz,bf]at hp⊢;obtain⟨rfl,rfl⟩:=hp;exact⟨Rm hne hd,rfl,QT _ _ (Ne.symm hne)⟩
      ·cases hp
     ·cases hp
    ·cases hp
 ·cases hp
theorem ayG{cx:Cx}{s z lim:Nat}{x y:AV}{xs:List AV}{h':Heap}(hp:wG cx s z lim x xs h=some (y,h'))(hd:h[i]?=some (v,aU.dead))(hi:i<cx.base):h'[i]?=some (v,aU.dead)/\wG cx s z lim x xs (h.set i b)=some (y,h'.set i b):=by
 unfold wG at hp⊢;split at hp
 ·split at hp
  ·rename_i hc;rw[if_pos hc];simp only[dz,bf]at hp⊢;obtain⟨rfl,rfl⟩:=hp;exact⟨hd,rfl,rfl⟩
  ·rename_i hc;rw[if_neg hc];split at hp
   ·rename_i hc2;rw[if_pos hc2];obtain⟨⟨ak,h1⟩,hm,he⟩:=mE.mp hp;simp only[bf]at he;obtain⟨rfl,rfl⟩:=he;obtain⟨k1,k2⟩:=acd (b:=b) hm hd (by omega)
    exact⟨k1,mE.mpr ⟨_,k2,rfl⟩⟩
   ·cases hp
 ·split at hp
  ·rename_i hc0;rw[if_pos hc0];split at hp
   ·rename_i hc;rw[if_pos hc];simp only[dz,bf]at hp⊢;obtain⟨rfl,rfl⟩:=hp;exact⟨hd,rfl,rfl⟩
   ·rename_i hc;rw[if_neg hc];split at hp
    ·rename_i hc2;rw[if_pos hc2];obtain⟨⟨ak,h1⟩,hm,he⟩:=mE.mp hp;simp only[bf]at he;obtain⟨rfl,rfl⟩:=he;obtain⟨k1,k2⟩:=acd (b:=b) hm hd (by omega)
     exact⟨k1,mE.mpr ⟨_,k2,rfl⟩⟩
    ·cases hp
  ·cases hp
 ·rename_i id ak z' off len fill;split at hp
  ·rename_i w z'' es hid;have hne:=ZF hd hid (by simp)
   rw[tL (by omega),hid]
   dsimp only;split at hp
   ·rename_i hc;rw[if_pos hc];simp only[dz,bf]at hp⊢;obtain⟨rfl,rfl⟩:=hp;exact⟨Rm hne hd,rfl,QT _ _ (Ne.symm hne)⟩
   ·cases hp
  ·cases hp
 ·cases hp
theorem ayH{cx:Cx}{x r:AV}(hx:abW cx x h=some r)(hd:h[i]?=some (v,aU.dead)):abW cx x (h.set i b)=some r:=by
 unfold abW at hx⊢;split at hx
 ·rename_i id ak;split at hx
  ·rename_i v1 d me mv lk hid;have hne:=ZF hd hid (by simp)
   rw[tL (by omega),hid]
   dsimp only;split at hx
   ·rename_i hc;rw[if_pos hc];split at hx
    ·exact hx
    ·rename_i id2 Gd;split at hx
     ·rename_i v2 d2 l zl;have hne2:=ZF hd zl (by simp)
      rw[tL (by omega),zl]
      exact hx
     ·cases hx
   ·cases hx
  ·cases hx
 ·cases hx
theorem aFv{cx:Cx}{s:Nat}{x y r:AV}{h':Heap}(hx:YZ cx s x y h=some (r,h'))(hd:h[i]?=some (v,aU.dead))(hi:i<cx.base):h'[i]?=some (v,aU.dead)/\YZ cx s x y (h.set i b)=some (r,h'.set i b):=by
 unfold YZ at hx⊢;split at hx
 ·rename_i id ak l;split at hx
  ·rename_i v1 d me mv lk hid;have hne:=ZF hd hid (by simp)
   dsimp only;rw[tL (by omega),hid]
   dsimp only;split at hx
   ·rename_i hc;rw[if_pos hc];split at hx
    ·split at hx
     ·cases hx
     ·rename_i hl;rw[if_neg hl];split at hx
      ·rename_i hc2;rw[if_pos hc2];obtain⟨⟨v2,h1⟩,hm,he⟩:=mE.mp hx;simp only[bf]at he;obtain⟨rfl,rfl⟩:=he;obtain⟨k1,k2⟩:=acd (b:=b) hm hd hi;exact⟨Rm hne k1,mE.mpr ⟨_,k2,by rw[QT _ _ (by omega)]⟩⟩
      ·cases hx
    ·rename_i id2 Gd;split at hx
     ·rename_i v2 d2 l0 zl;have hne2:=ZF hd zl (by simp)
      rw[tL (by omega),zl]
      dsimp only;split at hx
      ·rename_i hc2;rw[if_pos hc2];simp only[dz,bf]at hx⊢;obtain⟨rfl,rfl⟩:=hx;exact⟨Rm hne (Rm hne2 hd),rfl,by rw[QT (i:=i) _ _ (by omega),QT (i:=i) _ _ (by omega)]⟩
      ·cases hx
     ·cases hx
   ·cases hx
  ·cases hx
 ·cases hx
end
section
variable {i v:Nat}{b:Nat×aU}{eB:Nat->Bool}{call:Callee}
theorem aFw(hc:Qy eB call){cx:Cx}{id ak:Nat}{args:List AV}{h h':Heap}{r:AV}(hx:tK call cx id ak args h=some (r,h'))(hd:h[i]?=some (v,.dead))(hi:i<cx.lo):h'[i]?=some (v,.dead)/\tK call cx id ak args (h.set i b)=some (r,h'.set i b):=by
 unfold tK at hx⊢;split at hx
 ·rename_i w d hid;have hne:=ZF hd hid (by simp)
  rw[tL (by omega),hid]
  dsimp only;split at hx
  ·rename_i hcond;rw[if_pos hcond];obtain⟨⟨e,h1⟩,h2,he⟩:=mE.mp hx;simp only[bf]at he;obtain⟨rfl,rfl⟩:=he;obtain⟨k1,k2⟩:=hc.rd h2 (b:=b) hd (by omega) hcond.2.2.2.1 hcond.2.2.1
   exact⟨k1,mE.mpr ⟨_,k2,rfl⟩⟩
  ·cases hx
 ·cases hx
theorem alK(hc:Qy eB call){cx:Cx}(hlo:cx.lo<=cx.base){env:Env}{h h':Heap}{f:bD}{args:List bD}{own:List (Nat×Nat)}{r:AV}(hx:xi call cx env h (.call f args own)=some (r,h'))(hd:h[i]?=some (v,.dead))(hi:i<cx.lo\/(own=[]\/i<cx.base)/\∃ g cs,f.ev env=.fn g cs/\(eB (u7 g)=true\/eB (u7 g+5000)=true)) :
  h'[i]?=some (v,.dead)/\xi call cx env (h.set i b) (.call f args own)=some (r,h'.set i b):=by
 simp only[xi]at hx⊢;split at hx
 ·rename_i g caps hf;obtain⟨⟨r1,h1⟩,h2,hx⟩:=bE.mp hx;obtain⟨k1,k2⟩:=hc.fn h2 (b:=b) hd (hi.imp (fun h=>h) fun⟨_,g',cs',h1,h2⟩=>by rw[hf]at h1;cases h1;exact h2)
  rw[k2];simp only[Option.bind_some];dsimp only at hx;split at hx
  ·simp only[dz,bf]at hx⊢;obtain⟨rfl,rfl⟩:=hx;exact⟨k1,rfl,rfl⟩
  ·rename_i hne
   have hi':i<cx.base:=by
    rcases hi with hi|⟨ho|ho,_⟩
    ·omega
    ·exact absurd ho (by rintro rfl;exact hne rfl)
    ·exact ho
   split at hx
   ·obtain⟨⟨cs',h3⟩,h4,he⟩:=mE.mp hx;simp only[bf]at he;obtain⟨rfl,rfl⟩:=he;obtain⟨k3,k4⟩:=alJ (b:=b) hi' _ _ _ _ _ h4 k1;exact⟨k3,mE.mpr ⟨_,k4,rfl⟩⟩
   ·obtain⟨⟨cs',h3⟩,h4,hx⟩:=bE.mp hx;obtain⟨q,h5,he⟩:=mE.mp hx;simp only[bf]at he;obtain⟨rfl,rfl⟩:=he;obtain⟨k3,k4⟩:=alJ (b:=b) hi' _ _ _ _ _ h4 k1;exact⟨k3,bE.mpr ⟨_,k4,mE.mpr ⟨q,h5,rfl⟩⟩⟩
 ·split at hx
  ·rename_i id ak hf hown;rw[if_pos hown];refine aFw hc hx hd ?_;rcases hi with hi|⟨_,g',cs',h1,_⟩
   ·exact hi
   ·rw[hf]at h1;cases h1
  ·cases hx
 ·cases hx
theorem aFx(hc:Qy eB call){cx:Cx}(hlo:cx.lo<=cx.base){env:Env}{h h':Heap}{o:XI}{r:AV}(hx:xi call cx env h o=some (r,h'))(hd:h[i]?=some (v,.dead))(hi:i<cx.base)(hq:i<cx.lo\/(∀ f args own,o=.call f args own->∃ g cs,f.ev env=.fn g cs/\(eB (u7 g)=true\/eB (u7 g+5000)=true))/\(∀ ts f args,o≠.FH ts f args)/\∀ t f args,o≠.Rb t f args) :
  h'[i]?=some (v,.dead)/\xi call cx env (h.set i b) o=some (r,h'.set i b):=by
 cases o
 case call f args own=>exact alK hc hlo hx hd (hq.imp id fun h=>⟨.inr hi,h.1 _ _ _ rfl⟩)
 case FH ts f args =>
  obtain⟨g,cs,hf⟩:=aDT hx;obtain⟨hx1,hk⟩:=alc hx;obtain⟨k1,k2⟩:=alK (b:=b) hc hlo hx1 hd (.inl (hq.resolve_right fun q=>q.2.1 _ _ _ rfl));exact⟨k1,aDU hf k2 (aDV hd hk)⟩
 case Rb t f args =>
  have hi2:i<cx.lo:=hq.resolve_right fun q=>q.2.2 _ _ _ rfl;obtain⟨id,v',o',g,caps,ht,hf,hc1,hx1⟩:=arB hx;obtain⟨k1,k2⟩:=alK (cx:=⟨cx.lo,id-1,1,none⟩) (b:=b) hc (by show cx.lo<=id-1;omega) hx1 hd (.inl hi2)
  exact⟨k1,by rw[arA ht hf,if_pos hc1];exact k2⟩
 all_goals simp only[xi]at hx⊢
 case pF z zero n ps =>
  obtain⟨⟨es,h1⟩,h2,he⟩:=mE.mp hx;simp only[bf]at he;obtain⟨rfl,rfl⟩:=he;obtain⟨k1,k2⟩:=ayF (b:=b) (show i<cx.base by omega) _ _ _ _ _ h2 hd
  exact⟨k1,mE.mpr ⟨_,k2,rfl⟩⟩
 case Zo s =>
  obtain⟨⟨ak,h1⟩,h2,he⟩:=mE.mp hx;simp only[bf]at he;obtain⟨rfl,rfl⟩:=he;obtain⟨k1,k2⟩:=acd (b:=b) h2 hd (by omega)
  exact⟨Rm (by omega) k1,mE.mpr ⟨_,k2,by rw[QT _ _ (by omega)]⟩⟩
 case YW f x =>
  obtain⟨q,h2,he⟩:=mE.mp hx;simp only[bf]at he;obtain⟨rfl,rfl⟩:=he;exact⟨hd,mE.mpr ⟨_,ayH h2 hd,rfl⟩⟩
 case YX x =>
  obtain⟨es,h1,hx⟩:=bE.mp hx;obtain⟨q,h2,he⟩:=mE.mp hx;simp only[bf]at he;obtain⟨rfl,rfl⟩:=he;exact⟨hd,bE.mpr ⟨_,alI h1 hd,mE.mpr ⟨_,h2,rfl⟩⟩⟩
 case Zp tt x =>
  split at hx
  ·rename_i hc;rw[if_pos hc];simp only[dz,bf]at hx⊢;obtain⟨rfl,rfl⟩:=hx;exact⟨hd,rfl,rfl⟩
  ·cases hx
 case YV s f x y=>exact aFv hx hd (by omega)
 case store sz x y =>
  obtain⟨h1,h2,he⟩:=mE.mp hx;simp only[bf]at he;obtain⟨rfl,rfl⟩:=he;obtain⟨k1,k2⟩:=aFt (b:=b) h2 hd hi;exact⟨k1,mE.mpr ⟨_,k2,rfl⟩⟩
 case alloc s zero =>
  obtain⟨⟨ak,h1⟩,h2,he⟩:=mE.mp hx;simp only[bf]at he;obtain⟨rfl,rfl⟩:=he;obtain⟨k1,k2⟩:=acd (b:=b) h2 hd (by omega)
  exact⟨k1,mE.mpr ⟨_,k2,rfl⟩⟩
 case box s x =>
  split at hx
  ·rename_i hval;rw[if_pos hval];obtain⟨⟨ak,h1⟩,h2,he⟩:=mE.mp hx;simp only[bf]at he;obtain⟨rfl,rfl⟩:=he;obtain⟨k1,k2⟩:=acd (b:=b) h2 hd (by omega)
   exact⟨k1,mE.mpr ⟨_,k2,rfl⟩⟩
  ·cases hx
 case nK x =>
  split at hx
  ·rename_i hval;rw[if_pos hval];obtain⟨⟨ak,h1⟩,h2,he⟩:=mE.mp hx;simp only[bf]at he;obtain⟨rfl,rfl⟩:=he;obtain⟨k1,k2⟩:=ac0 (b:=b) _ _ _ _ h2 hd (by omega)
   exact⟨k1,mE.mpr ⟨_,k2,rfl⟩⟩
  ·cases hx
 case mk s z zero lim n c =>
  split at hx
  ·split at hx
   ·rename_i hz;rw[if_pos hz];simp only[dz,bf]at hx⊢;obtain⟨rfl,rfl⟩:=hx;exact⟨hd,rfl,rfl⟩
   rename_i hz;rw[if_neg hz];split at hx
   ·rename_i hcond;rw[if_pos hcond];obtain⟨⟨ak,h1⟩,h2,he⟩:=mE.mp hx;simp only[bf]at he;obtain⟨rfl,rfl⟩:=he;obtain⟨k1,k2⟩:=acd (b:=b) h2 hd (by omega)
    exact⟨k1,mE.mpr ⟨_,k2,rfl⟩⟩
   ·cases hx
  ·cases hx
 case app s z lim x y =>
  obtain⟨xs,h2,hx⟩:=bE.mp hx
  have k:h'[i]?=some (v,aU.dead)/\acK cx s z lim (x.ev env) xs (h.set i b)=some (r,h'.set i b):=by
   unfold acK at hx⊢;split at hx
   ·rename_i hs;rw[if_pos hs];exact ayG (b:=b) hx hd hi
   ·rename_i hs;rw[if_neg hs];obtain⟨⟨v1,h1⟩,h3,h4⟩:=bE.mp hx;obtain⟨k1,k2⟩:=ayG (b:=b) h3 hd hi;obtain⟨k3,k4⟩:=ac0 (b:=b) _ _ _ _ h4 k1 (by omega)
    exact⟨k3,bE.mpr ⟨_,k2,k4⟩⟩
  exact⟨k.1,bE.mpr ⟨xs,aFs h2 hd,k.2⟩⟩
 case Zq x=>cases hx
 case copy z x y =>
  obtain⟨xs,h2,hx⟩:=bE.mp hx;obtain⟨k1,k2⟩:=aFu (b:=b) hx hd;exact⟨k1,bE.mpr ⟨xs,alI h2 hd,k2⟩⟩
 case load sh x =>
  obtain⟨cs,h2,hx⟩:=bE.mp hx;obtain⟨q,h3,he⟩:=mE.mp hx;simp only[bf]at he;obtain⟨rfl,rfl⟩:=he;exact⟨hd,bE.mpr ⟨cs,ar5 h2 hd,mE.mpr ⟨q,h3,rfl⟩⟩⟩
 case TT z x k =>
  split at hx
  ·rename_i hval;rw[if_pos hval];obtain⟨n,h2,hx⟩:=bE.mp hx;obtain⟨q,h3,he⟩:=mE.mp hx;simp only[bf]at he;obtain⟨rfl,rfl⟩:=he;exact⟨hd,bE.mpr ⟨n,h2,mE.mpr ⟨q,h3,rfl⟩⟩⟩
  ·cases hx
 case Oa x k =>
  split at hx
  ·obtain⟨n,h2,hx⟩:=bE.mp hx;obtain⟨q,h3,he⟩:=mE.mp hx;simp only[bf]at he;obtain⟨rfl,rfl⟩:=he;exact⟨hd,bE.mpr ⟨n,h2,mE.mpr ⟨q,h3,rfl⟩⟩⟩
  ·cases hx
 all_goals first
  |(simp only[dz,bf]at hx⊢;obtain⟨rfl,rfl⟩:=hx;exact⟨hd,rfl,rfl⟩)
  |(obtain⟨q,h3,he⟩:=mE.mp hx;simp only[bf]at he;obtain⟨rfl,rfl⟩:=he;exact⟨hd,mE.mpr ⟨q,h3,rfl⟩⟩)
  |(obtain⟨q0,h2,hx⟩:=bE.mp hx;obtain⟨q,h3,he⟩:=mE.mp hx;simp only[bf]at he;obtain⟨rfl,rfl⟩:=he;exact⟨hd,bE.mpr ⟨q0,h2,mE.mpr ⟨q,h3,rfl⟩⟩⟩)
theorem aFy{cx:Cx}(hi:i<cx.base){env:Env}{h:Heap}(l:List ou):l.all (ou.ok cx env (h.set i b))=l.all (ou.ok cx env h):=by
 induction l with
 |nil=>rfl
 |cons c l ih =>
  simp only[YL,ih];congr 1;cases c<;>simp only[ou.ok]
  all_goals rw[tL (by omega)]
theorem ayI{cx:Cx}{env:Env}{h:Heap}{x:jc}(hs:x.still eB=true)(hc:x.GI.all (ou.ok cx env h)=true){r:AV×Heap}(hx:xi call cx env h x.op=some r):∀ f args own,x.op=.call f args own->∃ g cs,f.ev env=.fn g cs/\(eB (u7 g)=true\/eB (u7 g+5000)=true):=by
 intro f args own hop;unfold jc.still at hs;rw[hop]at hs;simp only[fw,Jz]at hs;rcases hs.2 with ho|ho
 ·unfold jc.oneOf at ho;split at ho
  ·rename_i t;obtain⟨c,hcm,hc2⟩:=YM.mp ho;have hk:=Gq.mp hc c hcm;cases c<;>simp only[uM]at hc2;rename_i t' gs;simp only[fw,beq_iff_eq]at hc2;obtain⟨rfl,hgs⟩:=hc2;simp only[ou.ok]at hk;split at hk
   ·rename_i g cs hf;exact⟨g,cs,hf,.inl (Gq.mp hgs g (by simpa using hk))⟩
   ·cases hk
  ·rename_i g cs;exact⟨g,cs,rfl,.inl ho⟩
  ·cases ho
 ·unfold calm at ho;split at ho
  ·rename_i g cs;exact⟨g,cs,rfl,.inr ho⟩
  ·cases ho
theorem aFz(hc:Qy eB call){cx:Cx}(hlo:cx.lo<=cx.base){env env':Env}{h h':Heap}{o:jc}(hx:Dh call cx o env h=some (env',h'))(hd:h[i]?=some (v,.dead))(hi:i<cx.base)(hq:i<cx.lo\/o.still eB=true):h'[i]?=some (v,.dead)/\Dh call cx o env (h.set i b)=some (env',h'.set i b):=by
 have key:∀{r:AV} {h':Heap},l6 call cx env h o=some (r,h')->h'[i]?=some (v,.dead)/\l6 call cx env (h.set i b) o=some (r,h'.set i b):=by
  intro r h' hx;obtain⟨h1,h2⟩:=IQ hx;obtain⟨k1,k2⟩:=aFx (b:=b) hc hlo h1 hd hi (hq.imp id fun hq=>⟨ayI hq h2 h1,⟨fun ts f args e=>(by unfold jc.still at hq;rw[e]at hq;cases hq),fun ts f args e=>(by unfold jc.still at hq;rw[e]at hq;cases hq)⟩⟩)
  refine⟨k1, ?_⟩;unfold l6;rw[aFy (by omega),if_pos h2]
  exact k2
 unfold Dh at hx⊢;split at hx
 ·rename_i hg;obtain⟨⟨r,h1⟩,h2,he⟩:=mE.mp hx;simp only[bf]at he;obtain⟨rfl,rfl⟩:=he;obtain⟨k1,k2⟩:=key h2;exact⟨k1,mE.mpr ⟨_,k2,rfl⟩⟩
 ·rename_i g want hg;obtain⟨q,hq,hx⟩:=bE.mp hx;rw[hq];simp only[Option.bind_some];split at hx
  ·rename_i hw;rw[if_pos hw];obtain⟨⟨r,h1⟩,h2,he⟩:=mE.mp hx;simp only[bf]at he;obtain⟨rfl,rfl⟩:=he;obtain⟨k1,k2⟩:=key h2;exact⟨k1,mE.mpr ⟨_,k2,rfl⟩⟩
  ·rename_i hw;rw[if_neg hw];simp only[dz,bf]at hx⊢;obtain⟨rfl,rfl⟩:=hx;exact⟨hd,rfl,rfl⟩
theorem ayJ(hc:Qy eB call){cx:Cx}(hlo:cx.lo<=cx.base):∀(os:List jc) {env env':Env} {h h':Heap},xZ call cx os env h=some (env',h')->h[i]?=some (v,.dead)->i<cx.base->(i<cx.lo\/os.all (jc.still eB)=true)->h'[i]?=some (v,.dead)/\xZ call cx os env (h.set i b)=some (env',h'.set i b)
 |[],env,env',h,h',hx,hd,hi,hq=>by
  simp only[xZ,dz,bf]at hx⊢;obtain⟨rfl,rfl⟩:=hx
  exact⟨hd,rfl,rfl⟩
 |o::os,env,env',h,h',hx,hd,hi,hq=>by
  obtain⟨⟨e1,h1⟩,h2,hx⟩:=bE.mp hx;obtain⟨k1,k2⟩:=aFz (b:=b) hc hlo h2 hd hi (hq.imp id fun hq=>by simp only[YL,fw]at hq;exact hq.1)
  obtain⟨k3,k4⟩:=ayJ hc hlo os hx k1 hi (hq.imp id fun hq=>by simp only[YL,fw]at hq;exact hq.2)
  exact⟨k3,bE.mpr ⟨_,k2,k4⟩⟩
theorem ar7{cx:Cx}(hi:i<cx.base):∀(ss:List Nat) (h:Heap),h[i]?=some (v,.dead)->(Gp cx ss h)[i]?=some (v,.dead)/\Gp cx ss (h.set i b)=(Gp cx ss h).set i b
 |[],h,hd=>⟨hd,rfl⟩
 |s::ss,h,hd=>by
  simp only[Gp];rw[tL (by omega)]
  split
  ·rename_i w k hid;rw[hid];dsimp only;rw[QT _ _ (show i≠cx.base+s by omega)]
   exact ar7 hi ss _ (Rm (by omega) hd)
  ·rename_i hid;rw[hid];exact ar7 hi ss h hd
theorem ar8(hc:Qy eB call){cx:Cx}(hlo:cx.lo<=cx.base)(hr:∀ id ak,cx.Df=some (id,ak)->i<id)(n:Nat):∀(x:XC) {env:Env} {h:Heap} {e:Ex} {env':Env} {h':Heap},exec call cx n x (env,h)=some (e,(env',h'))->h[i]?=some (v,.dead)->i<cx.base->(i<cx.lo\/x.still eB=true) ->
  h'[i]?=some (v,.dead)/\exec call cx n x (env,h.set i b)=some (e,(env',h'.set i b)):=by
 intro x
 induction x with
 |skip|exit|ret =>
  intro env h e env' h' hx hd hi hq;simp only[exec,dz,bf]at hx⊢;obtain⟨rfl,rfl,rfl⟩:=hx
  exact⟨hd,rfl,rfl,rfl⟩
 |reg draw keep kill ops =>
  intro env h e env' h' hx hd hi hq;obtain⟨kd,ke⟩:=ar7 (b:=b) hi kill h hd;simp only[exec,mE,bf,ke]at hx⊢;obtain⟨⟨e1,h1⟩,h2,rfl,rfl,rfl⟩:=hx;obtain⟨k1,k2⟩:=ayJ (b:=b) hc hlo _ h2 kd hi hq
  exact⟨k1,_,k2,rfl,rfl,rfl⟩
 |seq p q ihp ihq =>
  intro env h e env' h' hx hd hi hq;obtain⟨⟨e1,I7,h1⟩,h2,hx⟩:=bE.mp hx;have hq':i<cx.lo\/(p.still eB=true/\q.still eB=true):=hq.imp id fun hq=>by simpa[XC.still]using hq
  obtain⟨k1,k2⟩:=ihp h2 hd hi (hq'.imp id (·.1));dsimp only at hx;split at hx
  ·rename_i he;obtain⟨k3,k4⟩:=ihq hx k1 hi (hq'.imp id (·.2));refine⟨k3,bE.mpr ⟨_,k2, ?_⟩⟩;dsimp only;rw[if_pos he];exact k4
  ·rename_i he;simp only[dz,bf]at hx;obtain⟨rfl,rfl,rfl⟩:=hx;refine⟨k1,bE.mpr ⟨_,k2, ?_⟩⟩;dsimp only
   rw[if_neg he]
 |cond c p q ihp ihq =>
  intro env h e env' h' hx hd hi hq;have hq':i<cx.lo\/(p.still eB=true/\q.still eB=true):=hq.imp id fun hq=>by simpa[XC.still]using hq
  obtain⟨r,h2,hx⟩:=bE.mp hx
  cases r with
  |true =>
   obtain⟨k1,k2⟩:=ihp hx hd hi (hq'.imp id (·.1))
   exact⟨k1,bE.mpr ⟨_,h2,k2⟩⟩
  |false =>
   obtain⟨k1,k2⟩:=ihq hx hd hi (hq'.imp id (·.2))
   exact⟨k1,bE.mpr ⟨_,h2,k2⟩⟩
 |blk id p ih =>
  intro env h e env' h' hx hd hi hq;obtain⟨⟨e1,I7,h1⟩,h2,he⟩:=mE.mp hx;obtain⟨k1,k2⟩:=ih h2 hd hi hq;unfold Ex.Ir at he;split at he
  ·rename_i hee;simp only[bf]at he;obtain⟨rfl,rfl,rfl⟩:=he;refine⟨k1,mE.mpr ⟨_,k2, ?_⟩⟩;unfold Ex.Ir;rw[if_pos hee]
  ·rename_i hee;simp only[bf]at he;obtain⟨rfl,rfl,rfl⟩:=he;refine⟨k1,mE.mpr ⟨_,k2, ?_⟩⟩;unfold Ex.Ir
   rw[if_neg hee]
 |loop p ih =>
  intro env h e env' h' hx hd hi hq;simp only[exec]at hx⊢
  have key:∀(k:Nat) {env:Env} {h:Heap} {e:Ex} {env':Env} {h':Heap},iter (exec call cx n p) k (env,h)=some (e,(env',h'))->h[i]?=some (v,.dead)->h'[i]?=some (v,.dead)/\iter (exec call cx n p) k (env,h.set i b)=some (e,(env',h'.set i b)):=by
   intro k
   induction k with
   |zero=>intro env h e env' h' hx;simp[iter]at hx
   |succ k ihk =>
    intro env h e env' h' hx hd;simp only[iter,bE]at hx⊢;obtain⟨⟨e1,I7,h1⟩,hx1,hx2⟩:=hx;obtain⟨k1,k2⟩:=ih hx1 hd hi hq;dsimp only at hx2;split at hx2
    ·rename_i he;obtain⟨k3,k4⟩:=ihk hx2 k1;refine⟨k3,_,k2, ?_⟩;dsimp only;rw[if_pos he];exact k4
    ·rename_i he;simp only[dz,bf]at hx2;obtain⟨rfl,rfl,rfl⟩:=hx2;refine⟨k1,_,k2, ?_⟩;dsimp only;rw[if_neg he]
  exact key n hx hd
 |Gm s f g =>
  intro env h e env' h' hx hd hi hq;have hi2:i<cx.lo:=hq.resolve_right (by simp[XC.still])
  have hro:abY cx (h.set i b)=abY cx h:=by
   unfold abY;split
   ·rfl
   ·rename_i id ak hcx;rw[tL (by have:=hr id ak hcx;omega)]
  simp only[exec,hro]at hx⊢;split at hx
  ·obtain⟨⟨ak,h1⟩,hmk,hx1⟩:=bE.mp hx;obtain⟨⟨r0,h2⟩,hcall,hx2⟩:=bE.mp hx1;clear hx hx1;obtain⟨k1,k2⟩:=acd (b:=b) hmk hd (by omega)
   obtain⟨k3,k4⟩:=hc.fn hcall (b:=b) k1 (.inl hi2);dsimp only at hx2;have hget:(h2.set i b)[cx.base+s]?=h2[cx.base+s]?:=tL (by omega)
   split at hx2
   ·rename_i w d2 hid;split at hx2
    ·rename_i hw;simp only[dz,bf]at hx2;obtain⟨rfl,rfl,rfl⟩:=hx2;refine⟨Rm (by omega) k3,bE.mpr ⟨_,k2,bE.mpr ⟨_,k4, ?_⟩⟩⟩
     dsimp only;rw[hget,hid];dsimp only;rw[if_pos hw,QT _ _ (by omega)]
    ·cases hx2
   ·rename_i w d2 e2 hid;split at hx2
    ·rename_i hw;simp only[dz,bf]at hx2;obtain⟨rfl,rfl,rfl⟩:=hx2;refine⟨Rm (by omega) k3,bE.mpr ⟨_,k2,bE.mpr ⟨_,k4, ?_⟩⟩⟩
     dsimp only;rw[hget,hid];dsimp only;rw[if_pos hw,QT _ _ (by omega)]
    ·cases hx2
   ·cases hx2
  ·cases hx
 |pre ps p ih =>
  intro env h e env' h' hx hd hi hq;exact ih (env:=env.keep ps) hx hd hi hq
end
end Go.VI
