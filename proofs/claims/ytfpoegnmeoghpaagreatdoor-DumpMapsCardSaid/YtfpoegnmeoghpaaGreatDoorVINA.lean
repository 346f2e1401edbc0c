/- What lies where nothing is looked at makes no difference: a block that is dead may be any other. -/
import Derived.Test.YtfpoegnmeoghpaaGreatDoorVIN
set_option linter.unusedVariables false
set_option linter.unusedSimpArgs false
namespace Go.VI
set_option linter.unusedSectionVars false
variable [dH][Rounds]
section
variable {i v:Nat}{b:Nat×au}{h:Heap}
theorem zJ{id:Nat}{x:Nat×au}(hd:h[i]?=some (v,au.dead))(hid:h[id]?=some x)(hx:x.2≠.dead):id≠i:=by
 rintro rfl;rw[hd]at hid;cases hid;exact hx rfl
theorem Kl{x:AV}{es:List AV}(hx:iV h x=some es)(hd:h[i]?=some (v,au.dead)):iV (h.set i b) x=some es:=by
 unfold iV at hx⊢;split at hx
 ·exact hx
 ·exact hx
 ·exact hx
 ·rename_i id ai z off len fill;split at hx
  ·rename_i w z' es' hid;have hne:=zJ hd hid (by simp)
   rw[iH (by omega),hid]
   exact hx
  ·cases hx
 ·cases hx
theorem Km{x:AV}{z:Nat}{es:List AV}(hx:oG h z x=some es)(hd:h[i]?=some (v,au.dead)):oG (h.set i b) z x=some es:=by
 unfold oG at hx⊢;split at hx
 ·rw[if_pos (by assumption)];exact Kl hx hd
 ·cases hx
theorem RN{x:AV}{cs:List AV}(hx:ig h x=some cs)(hd:h[i]?=some (v,au.dead)):ig (h.set i b) x=some cs:=by
 unfold ig at hx⊢;split at hx
 ·exact hx
 ·rename_i id ai off;split at hx
  ·rename_i w cs' hid;have hne:=zJ hd hid (by simp)
   rw[iH (by omega),hid]
   exact hx
  ·cases hx
 ·rename_i u k off;obtain⟨es,h1,h2⟩:=bE.mp hx;exact bE.mpr ⟨es,Kl h1 hd,h2⟩
 ·cases hx
theorem agq{x:AV}{z:Nat}{es:List AV}(hx:sP h z x=some es)(hd:h[i]?=some (v,au.dead)):sP (h.set i b) z x=some es:=by
 unfold sP at hx⊢;split at hx
 ·exact hx
 ·exact Km hx hd
theorem sZ{id:Nat}{x:Nat×au}(hne:id≠i)(hd:h[i]?=some (v,au.dead)):(h.set id x)[i]?=some (v,au.dead):=by rw[iH hne];exact hd
mutual
theorem Cj{base:Nat}{keep:Bool}:∀(x:AV) (h:Heap) (x':AV) (h':Heap),bL base keep x h=some (x',h')->h[i]?=some (v,au.dead)->i<base->h'[i]?=some (v,au.dead)/\bL base keep x (h.set i b)=some (x',h'.set i b)
 |.agg cs,h,x',h',hf,hd,hb|.tuple cs,h,x',h',hf,hd,hb|.fn _ cs,h,x',h',hf,hd,hb=>by
  simp only[bL,mE,aB]at hf⊢;obtain⟨⟨cs',h1⟩,hf,rfl,rfl⟩:=hf;obtain⟨k1,k2⟩:=RO cs h cs' h1 hf hd hb
  exact⟨k1,_,k2,rfl,rfl⟩
 |.iG _ y,h,x',h',hf,hd,hb=>by
  simp only[bL,mE,aB]at hf⊢;obtain⟨⟨cs',h1⟩,hf,rfl,rfl⟩:=hf;obtain⟨k1,k2⟩:=Cj y h cs' h1 hf hd hb
  exact⟨k1,_,k2,rfl,rfl⟩
 |.ref id ai z off len fill,h,x',h',hf,hd,hb=>by
  simp only[bL]at hf⊢;split at hf
  ·rename_i hle;rw[if_pos hle];simp only[mE,aB]at hf⊢;obtain⟨es,h1,rfl,rfl⟩:=hf;exact⟨sZ (by omega) hd,es,Kl h1 hd,rfl,rM _ _ (by omega)⟩
  ·rename_i hle;rw[if_neg hle];split at hf
   ·rename_i hk;rw[if_pos hk];simp only[aS,aB]at hf⊢;obtain⟨rfl,rfl⟩:=hf;exact⟨hd,rfl,rfl⟩
   ·cases hf
 |.own ..,h,x',h',hf,hd,hb|.aF ..,h,x',h',hf,hd,hb|.gu ..,h,x',h',hf,hd,hb|.dY ..,h,x',h',hf,hd,hb=>by simp[bL]at hf
 |.aP,h,x',h',hf,hd,hb|.undef,h,x',h',hf,hd,hb|.bool _,h,x',h',hf,hd,hb|.int _ _,h,x',h',hf,hd,hb|.str _,h,x',h',hf,hd,hb|.jR,h,x',h',hf,hd,hb|.j6,h,x',h',hf,hd,hb|.aW _ _,h,x',h',hf,hd,hb|.bF _ _,h,x',h',hf,hd,hb|.nilPtr,h,x',h',hf,hd,hb|.bR _,h,x',h',hf,hd,hb=>by
  simp only[bL,aS,aB]at hf⊢;obtain⟨rfl,rfl⟩:=hf;exact⟨hd,rfl,rfl⟩
theorem RO{base:Nat}{keep:Bool}:∀(cs:List AV) (h:Heap) (cs':List AV) (h':Heap),jT base keep cs h=some (cs',h')->h[i]?=some (v,au.dead)->i<base->h'[i]?=some (v,au.dead)/\jT base keep cs (h.set i b)=some (cs',h'.set i b)
 |[],h,cs',h',hf,hd,hb=>by
  simp only[jT,aS,aB]at hf⊢;obtain⟨rfl,rfl⟩:=hf
  exact⟨hd,rfl,rfl⟩
 |c::cs,h,cs',h',hf,hd,hb=>by
  simp only[jT,bE,mE,aB]at hf⊢;obtain⟨⟨c1,h1⟩,f1,⟨cs1,h2⟩,f2,rfl,rfl⟩:=hf;obtain⟨k1,k2⟩:=Cj c h c1 h1 f1 hd hb;obtain⟨k3,k4⟩:=RO cs h1 cs1 h2 f2 k1 hb;exact⟨k3,_,k2,_,k4,rfl,rfl⟩
end
theorem Cn{cx:Cx}{s ai:Nat}{x:au}{h':Heap}(hm:fB cx s x h=some (ai,h'))(hd:h[i]?=some (v,au.dead))(hi:i<cx.base):h'[i]?=some (v,au.dead)/\fB cx s x (h.set i b)=some (ai,h'.set i b):=by
 unfold fB at hm⊢;split at hm
 ·rename_i hc;rw[if_pos hc,iH (by omega)]
  split at hm
  ·rename_i v0 iI hid;rw[hid];simp only[aS,aB]at hm⊢;obtain⟨rfl,rfl⟩:=hm;exact⟨sZ (by omega) hd,rfl,rM _ _ (by omega)⟩
  ·cases hm
 ·cases hm
theorem Ko{cx:Cx}(hi:i<cx.base):∀(own:List (Nat×Nat)) (cs cs':List AV) (h h':Heap),qB cx own cs h=some (cs',h')->h[i]?=some (v,au.dead)->h'[i]?=some (v,au.dead)/\qB cx own cs (h.set i b)=some (cs',h'.set i b)
 |[],cs,cs',h,h',ht,hd=>by
  simp only[qB,aS,aB]at ht⊢;obtain⟨rfl,rfl⟩:=ht
  exact⟨hd,rfl,rfl⟩
 |(j,s)::r,cs,cs',h,h',ht,hd=>by
  simp only[qB]at ht⊢;split at ht
  ·split at ht
   ·rename_i hc;rw[if_pos hc];exact Ko hi r _ _ _ _ ht hd
   ·rename_i hc;rw[if_neg hc];obtain⟨⟨ai,h1⟩,hm,ht⟩:=bE.mp ht;obtain⟨k1,k2⟩:=Cn (b:=b) hm hd hi;obtain⟨k3,k4⟩:=Ko hi r _ _ _ _ ht k1;exact⟨k3,bE.mpr ⟨_,k2,k4⟩⟩
  ·exact Ko hi r _ _ _ _ ht hd
theorem Y9{base z:Nat}{env:Env}(hi:i<base):∀(ps:List (Nat×aL)) (es es':List AV) (h h':Heap),mK env base z ps es h=some (es',h')->h[i]?=some (v,au.dead)->h'[i]?=some (v,au.dead)/\mK env base z ps es (h.set i b)=some (es',h'.set i b)
 |[],es,es',h,h',ht,hd=>by
  simp only[mK,aS,aB]at ht⊢;obtain⟨rfl,rfl⟩:=ht
  exact⟨hd,rfl,rfl⟩
 |(k,x)::ps,es,es',h,h',ht,hd=>by
  simp only[mK]at ht⊢;obtain⟨⟨y,h1⟩,hf,ht⟩:=bE.mp ht;dsimp only at ht;split at ht
  ·rename_i hc;obtain⟨k1,k2⟩:=Cj (b:=b) _ _ _ _ hf hd hi;obtain⟨k3,k4⟩:=Y9 hi ps _ _ _ _ ht k1;refine⟨k3,bE.mpr ⟨_,k2, ?_⟩⟩;dsimp only;rw[if_pos hc];exact k4
  ·cases ht
theorem agr{cx:Cx}{sz:Nat}{p x:AV}{h':Heap}(hp:iX cx h sz p x=some h')(hd:h[i]?=some (v,au.dead))(hi:i<cx.base):h'[i]?=some (v,au.dead)/\iX cx (h.set i b) sz p x=some (h'.set i b):=by
 unfold iX at hp⊢;split at hp
 ·rename_i hc0;rw[if_pos hc0];split at hp
  ·rename_i id ai off;split at hp
   ·rename_i w cs hid;have hne:=zJ hd hid (by simp)
    rw[iH (by omega),hid]
    dsimp only;split at hp
    ·rename_i hc;rw[if_pos hc];obtain⟨cs',hsp,rfl⟩:=mE.mp hp;exact⟨sZ hne hd,mE.mpr ⟨cs',hsp,rM _ _ (Ne.symm hne)⟩⟩
    ·cases hp
   ·cases hp
  ·rename_i id ai z o len fill k off;obtain⟨⟨x1,h1⟩,hf,hp⟩:=bE.mp hp;obtain⟨k1,k2⟩:=Cj (b:=b) _ _ _ _ hf hd (by omega)
   dsimp only at hp;split at hp
   ·rename_i w z' es hid;have hne:=zJ k1 hid (by simp)
    split at hp
    ·rename_i hc;split at hp
     ·rename_i cs hes;obtain⟨cs',hsp,rfl⟩:=mE.mp hp;refine⟨sZ hne k1,bE.mpr ⟨_,k2, ?_⟩⟩;dsimp only;rw[iH (by omega),hid]
      dsimp only;rw[if_pos hc,hes];exact mE.mpr ⟨cs',hsp,rM _ _ (Ne.symm hne)⟩
     ·rename_i e0 hna hes;split at hp
      ·rename_i hc2;split at hp
       ·cases hp
       ·rename_i RP;simp only[aS]at hp;subst hp;refine⟨sZ hne k1,bE.mpr ⟨_,k2, ?_⟩⟩;dsimp only;rw[iH (by omega),hid]
        dsimp only;rw[if_pos hc,hes];split
        ·rename_i heq;cases heq;exact absurd rfl (hna _)
        ·rename_i heq;cases heq;rw[if_pos hc2];split
         ·exact absurd rfl (RP _)
         ·rw[rM _ _ (Ne.symm hne)]
        ·rename_i heq;cases heq
      ·cases hp
     ·cases hp
    ·cases hp
   ·cases hp
  ·cases hp
 ·cases hp
theorem ags{cx:Cx}{z:Nat}{x y:AV}{ys:List AV}{h':Heap}(hp:uy cx z x ys h=some (y,h'))(hd:h[i]?=some (v,au.dead)):h'[i]?=some (v,au.dead)/\uy cx z x ys (h.set i b)=some (y,h'.set i b):=by
 unfold uy at hp⊢;split at hp
 ·rename_i hz;rw[if_pos hz];split at hp
  ·cases hp
  ·rename_i len hlen;split at hp
   ·rename_i h0;rw[if_pos h0];simp only[aS,aB]at hp⊢;obtain⟨rfl,rfl⟩:=hp;exact⟨hd,rfl,rfl⟩
   ·rename_i h0;rw[if_neg h0];split at hp
    ·rename_i id ai z' off len fill;split at hp
     ·rename_i w BP es hid;have hne:=zJ hd hid (by simp)
      rw[iH (by omega),hid]
      dsimp only;split at hp
      ·rename_i hc;rw[if_pos hc];simp only[aS,aB]at hp⊢;obtain⟨rfl,rfl⟩:=hp;exact⟨sZ hne hd,rfl,rM _ _ (Ne.symm hne)⟩
      ·cases hp
     ·cases hp
    ·cases hp
 ·cases hp
theorem Zb{cx:Cx}{s z lim:Nat}{x y:AV}{xs:List AV}{h':Heap}(hp:ji cx s z lim x xs h=some (y,h'))(hd:h[i]?=some (v,au.dead))(hi:i<cx.base):h'[i]?=some (v,au.dead)/\ji cx s z lim x xs (h.set i b)=some (y,h'.set i b):=by
 unfold ji at hp⊢;split at hp
 ·split at hp
  ·rename_i hc;rw[if_pos hc];simp only[aS,aB]at hp⊢;obtain⟨rfl,rfl⟩:=hp;exact⟨hd,rfl,rfl⟩
  ·rename_i hc;rw[if_neg hc];split at hp
   ·rename_i hc2;rw[if_pos hc2];obtain⟨⟨ai,h1⟩,hm,he⟩:=mE.mp hp;simp only[aB]at he;obtain⟨rfl,rfl⟩:=he;obtain⟨k1,k2⟩:=Cn (b:=b) hm hd (by omega)
    exact⟨k1,mE.mpr ⟨_,k2,rfl⟩⟩
   ·cases hp
 ·split at hp
  ·rename_i hc0;rw[if_pos hc0];split at hp
   ·rename_i hc;rw[if_pos hc];simp only[aS,aB]at hp⊢;obtain⟨rfl,rfl⟩:=hp;exact⟨hd,rfl,rfl⟩
   ·rename_i hc;rw[if_neg hc];split at hp
    ·rename_i hc2;rw[if_pos hc2];obtain⟨⟨ai,h1⟩,hm,he⟩:=mE.mp hp;simp only[aB]at he;obtain⟨rfl,rfl⟩:=he;obtain⟨k1,k2⟩:=Cn (b:=b) hm hd (by omega)
     exact⟨k1,mE.mpr ⟨_,k2,rfl⟩⟩
    ·cases hp
  ·cases hp
 ·rename_i id ai z' off len fill;split at hp
  ·rename_i w BP es hid;have hne:=zJ hd hid (by simp)
   rw[iH (by omega),hid]
   dsimp only;split at hp
   ·rename_i hc;rw[if_pos hc];simp only[aS,aB]at hp⊢;obtain⟨rfl,rfl⟩:=hp;exact⟨sZ hne hd,rfl,rM _ _ (Ne.symm hne)⟩
   ·cases hp
  ·cases hp
 ·cases hp
theorem Zc{cx:Cx}{x r:AV}(hx:BQ cx x h=some r)(hd:h[i]?=some (v,au.dead)):BQ cx x (h.set i b)=some r:=by
 unfold BQ at hx⊢;split at hx
 ·rename_i id ai;split at hx
  ·rename_i v1 d me mv lk hid;have hne:=zJ hd hid (by simp)
   rw[iH (by omega),hid]
   dsimp only;split at hx
   ·rename_i hc;rw[if_pos hc];split at hx
    ·exact hx
    ·rename_i id2 mY;split at hx
     ·rename_i v2 d2 l lg;have hne2:=zJ hd lg (by simp)
      rw[iH (by omega),lg]
      exact hx
     ·cases hx
   ·cases hx
  ·cases hx
 ·cases hx
theorem agt{cx:Cx}{s:Nat}{x y r:AV}{h':Heap}(hx:yj cx s x y h=some (r,h'))(hd:h[i]?=some (v,au.dead))(hi:i<cx.base):h'[i]?=some (v,au.dead)/\yj cx s x y (h.set i b)=some (r,h'.set i b):=by
 unfold yj at hx⊢;split at hx
 ·rename_i id ai l;split at hx
  ·rename_i v1 d me mv lk hid;have hne:=zJ hd hid (by simp)
   dsimp only;rw[iH (by omega),hid]
   dsimp only;split at hx
   ·rename_i hc;rw[if_pos hc];split at hx
    ·split at hx
     ·cases hx
     ·rename_i hl;rw[if_neg hl];split at hx
      ·rename_i hc2;rw[if_pos hc2];obtain⟨⟨v2,h1⟩,hm,he⟩:=mE.mp hx;simp only[aB]at he;obtain⟨rfl,rfl⟩:=he;obtain⟨k1,k2⟩:=Cn (b:=b) hm hd hi;exact⟨sZ hne k1,mE.mpr ⟨_,k2,by rw[rM _ _ (by omega)]⟩⟩
      ·cases hx
    ·rename_i id2 mY;split at hx
     ·rename_i v2 d2 l0 lg;have hne2:=zJ hd lg (by simp)
      rw[iH (by omega),lg]
      dsimp only;split at hx
      ·rename_i hc2;rw[if_pos hc2];simp only[aS,aB]at hx⊢;obtain⟨rfl,rfl⟩:=hx;exact⟨sZ hne (sZ hne2 hd),rfl,by rw[rM (i:=i) _ _ (by omega),rM (i:=i) _ _ (by omega)]⟩
      ·cases hx
     ·cases hx
   ·cases hx
  ·cases hx
 ·cases hx
end
section
variable {i v:Nat}{b:Nat×au}{aZ:Nat->Bool}{call:Callee}
theorem agu(hc:sG aZ call){cx:Cx}{id ai:Nat}{args:List AV}{h h':Heap}{r:AV}(hx:iY call cx id ai args h=some (r,h'))(hd:h[i]?=some (v,.dead))(hi:i<cx.lo):h'[i]?=some (v,.dead)/\iY call cx id ai args (h.set i b)=some (r,h'.set i b):=by
 unfold iY at hx⊢;split at hx
 ·rename_i w d hid;have hne:=zJ hd hid (by simp)
  rw[iH (by omega),hid]
  dsimp only;split at hx
  ·rename_i hcond;rw[if_pos hcond];obtain⟨⟨e,h1⟩,h2,he⟩:=mE.mp hx;simp only[aB]at he;obtain⟨rfl,rfl⟩:=he;obtain⟨k1,k2⟩:=hc.rd h2 (b:=b) hd (by omega) hcond.2.2.2.1 hcond.2.2.1
   exact⟨k1,mE.mpr ⟨_,k2,rfl⟩⟩
  ·cases hx
 ·cases hx
theorem agv{base:Nat}{x:AV}{h:Heap}{x':AV}{h':Heap}{i v:Nat}{b:Nat×au}(hf:rX base x h=some (x',h'))(hd:h[i]?=some (v,au.dead))(hb:i<base):h'[i]?=some (v,au.dead)/\rX base x (h.set i b)=some (x',h'.set i b):=by
 cases x<;>simp only[rX]at hf⊢<;>(try exact Cj _ _ _ _ hf hd hb);rename_i id ai off;split at hf
 ·rename_i v0 cs hid;obtain⟨⟨cs',h1⟩,h2,hf⟩:=bE.mp hf;dsimp only at hf;split at hf
  ·rename_i v1 cs1 vQ;split at hf
   ·rename_i hc;simp only[aS,aB]at hf;obtain⟨rfl,rfl⟩:=hf;obtain⟨k1,k2⟩:=RO (b:=b) _ _ _ _ h2 hd hb;have hne:i≠id:=by omega
    rw[iH hne,hid];dsimp only;rw[k2];simp only[Option.bind_some];rw[iH hne,vQ];dsimp only;rw[if_pos hc,rM _ _ hne];exact⟨by rw[iH (Ne.symm hne)];exact k1,rfl⟩
   ·cases hf
  ·cases hf
 ·cases hf
theorem N8(hc:sG aZ call){cx:Cx}(hlo:cx.lo<=cx.base){env:Env}{h h':Heap}{f:aL}{args:List aL}{own:List (Nat×Nat)}{r:AV}(hx:xi call cx env h (.call f args own)=some (r,h'))(hd:h[i]?=some (v,.dead))(hi:i<cx.lo\/(own=[]\/i<cx.base)/\∃ g cs,f.ev env=.fn g cs/\(aZ (jr g)=true\/aZ (jr g+5000)=true)) :
  h'[i]?=some (v,.dead)/\xi call cx env (h.set i b) (.call f args own)=some (r,h'.set i b):=by
 simp only[xi]at hx⊢;split at hx
 ·rename_i g caps hf;obtain⟨⟨r1,h1⟩,h2,hx⟩:=bE.mp hx;obtain⟨k1,k2⟩:=hc.fn h2 (b:=b) hd (hi.imp (fun h=>h) fun⟨_,g',cs',h1,h2⟩=>by rw[hf]at h1;cases h1;exact h2)
  rw[k2];simp only[Option.bind_some];dsimp only at hx;split at hx
  ·simp only[aS,aB]at hx⊢;obtain⟨rfl,rfl⟩:=hx;exact⟨k1,rfl,rfl⟩
  ·rename_i hne
   have hi':i<cx.base:=by
    rcases hi with hi|⟨ho|ho,_⟩
    ·omega
    ·exact absurd ho (by rintro rfl;exact hne rfl)
    ·exact ho
   split at hx
   ·obtain⟨⟨cs',h3⟩,h4,he⟩:=mE.mp hx;simp only[aB]at he;obtain⟨rfl,rfl⟩:=he;obtain⟨k3,k4⟩:=Ko (b:=b) hi' _ _ _ _ _ h4 k1;exact⟨k3,mE.mpr ⟨_,k4,rfl⟩⟩
   ·obtain⟨⟨cs',h3⟩,h4,hx⟩:=bE.mp hx;obtain⟨q,h5,he⟩:=mE.mp hx;simp only[aB]at he;obtain⟨rfl,rfl⟩:=he;obtain⟨k3,k4⟩:=Ko (b:=b) hi' _ _ _ _ _ h4 k1;exact⟨k3,bE.mpr ⟨_,k4,mE.mpr ⟨q,h5,rfl⟩⟩⟩
 ·split at hx
  ·rename_i id ai hf hown;rw[if_pos hown];refine agu hc hx hd ?_;rcases hi with hi|⟨_,g',cs',h1,_⟩
   ·exact hi
   ·rw[hf]at h1;cases h1
  ·cases hx
 ·cases hx
theorem agw(hc:sG aZ call){cx:Cx}(hlo:cx.lo<=cx.base){env:Env}{h h':Heap}{o:XI}{r:AV}(hx:xi call cx env h o=some (r,h'))(hd:h[i]?=some (v,.dead))(hi:i<cx.base)(hq:i<cx.lo\/(∀ f args own,o=.call f args own->∃ g cs,f.ev env=.fn g cs/\(aZ (jr g)=true\/aZ (jr g+5000)=true))/\∀ ts f args,o≠.mH ts f args) :
  h'[i]?=some (v,.dead)/\xi call cx env (h.set i b) o=some (r,h'.set i b):=by
 cases o
 case call f args own=>exact N8 hc hlo hx hd (hq.imp id fun h=>⟨.inr hi,h.1 _ _ _ rfl⟩)
 case mH ts f args =>
  obtain⟨g,cs,hf⟩:=aeI hx;obtain⟨hx1,hk⟩:=Jw hx;obtain⟨k1,k2⟩:=N8 (b:=b) hc hlo hx1 hd (.inl (hq.resolve_right fun q=>q.2 _ _ _ rfl));exact⟨k1,aeJ hf k2 (aeK hd hk)⟩
 all_goals simp only[xi]at hx⊢
 case gW z zero n ps =>
  obtain⟨⟨es,h1⟩,h2,he⟩:=mE.mp hx;simp only[aB]at he;obtain⟨rfl,rfl⟩:=he;obtain⟨k1,k2⟩:=Y9 (b:=b) (show i<cx.base by omega) _ _ _ _ _ h2 hd
  exact⟨k1,mE.mpr ⟨_,k2,rfl⟩⟩
 case zk s =>
  obtain⟨⟨ai,h1⟩,h2,he⟩:=mE.mp hx;simp only[aB]at he;obtain⟨rfl,rfl⟩:=he;obtain⟨k1,k2⟩:=Cn (b:=b) h2 hd (by omega)
  exact⟨sZ (by omega) k1,mE.mpr ⟨_,k2,by rw[rM _ _ (by omega)]⟩⟩
 case yg f x =>
  obtain⟨q,h2,he⟩:=mE.mp hx;simp only[aB]at he;obtain⟨rfl,rfl⟩:=he;exact⟨hd,mE.mpr ⟨_,Zc h2 hd,rfl⟩⟩
 case yh x =>
  obtain⟨es,h1,hx⟩:=bE.mp hx;obtain⟨q,h2,he⟩:=mE.mp hx;simp only[aB]at he;obtain⟨rfl,rfl⟩:=he;exact⟨hd,bE.mpr ⟨_,Km h1 hd,mE.mpr ⟨_,h2,rfl⟩⟩⟩
 case zl tt x =>
  split at hx
  ·rename_i hc;rw[if_pos hc];simp only[aS,aB]at hx⊢;obtain⟨rfl,rfl⟩:=hx;exact⟨hd,rfl,rfl⟩
  ·cases hx
 case yc s f x y=>exact agt hx hd (by omega)
 case store sz x y =>
  obtain⟨h1,h2,he⟩:=mE.mp hx;simp only[aB]at he;obtain⟨rfl,rfl⟩:=he;obtain⟨k1,k2⟩:=agr (b:=b) h2 hd hi;exact⟨k1,mE.mpr ⟨_,k2,rfl⟩⟩
 case alloc s zero =>
  obtain⟨⟨ai,h1⟩,h2,he⟩:=mE.mp hx;simp only[aB]at he;obtain⟨rfl,rfl⟩:=he;obtain⟨k1,k2⟩:=Cn (b:=b) h2 hd (by omega)
  exact⟨k1,mE.mpr ⟨_,k2,rfl⟩⟩
 case box s x =>
  split at hx
  ·rename_i hval;rw[if_pos hval];obtain⟨⟨ai,h1⟩,h2,he⟩:=mE.mp hx;simp only[aB]at he;obtain⟨rfl,rfl⟩:=he;obtain⟨k1,k2⟩:=Cn (b:=b) h2 hd (by omega)
   exact⟨k1,mE.mpr ⟨_,k2,rfl⟩⟩
  ·cases hx
 case dV x =>
  split at hx
  ·rename_i hval;rw[if_pos hval];obtain⟨⟨ai,h1⟩,h2,he⟩:=mE.mp hx;simp only[aB]at he;obtain⟨rfl,rfl⟩:=he;obtain⟨k1,k2⟩:=Cj (b:=b) _ _ _ _ h2 hd (by omega)
   exact⟨k1,mE.mpr ⟨_,k2,rfl⟩⟩
  ·cases hx
 case mk s z zero lim n c =>
  split at hx
  ·split at hx
   ·rename_i hz;rw[if_pos hz];simp only[aS,aB]at hx⊢;obtain⟨rfl,rfl⟩:=hx;exact⟨hd,rfl,rfl⟩
   rename_i hz;rw[if_neg hz];split at hx
   ·rename_i hcond;rw[if_pos hcond];obtain⟨⟨ai,h1⟩,h2,he⟩:=mE.mp hx;simp only[aB]at he;obtain⟨rfl,rfl⟩:=he;obtain⟨k1,k2⟩:=Cn (b:=b) h2 hd (by omega)
    exact⟨k1,mE.mpr ⟨_,k2,rfl⟩⟩
   ·cases hx
  ·cases hx
 case app s z lim x y =>
  obtain⟨xs,h2,hx⟩:=bE.mp hx
  have k:h'[i]?=some (v,au.dead)/\Db cx s z lim (x.ev env) xs (h.set i b)=some (r,h'.set i b):=by
   unfold Db at hx⊢;split at hx
   ·rename_i hs;rw[if_pos hs];exact Zb (b:=b) hx hd hi
   ·rename_i hs;rw[if_neg hs];obtain⟨⟨v1,h1⟩,h3,h4⟩:=bE.mp hx;obtain⟨k1,k2⟩:=Zb (b:=b) h3 hd hi;obtain⟨k3,k4⟩:=Cj (b:=b) _ _ _ _ h4 k1 (by omega)
    exact⟨k3,bE.mpr ⟨_,k2,k4⟩⟩
  exact⟨k.1,bE.mpr ⟨xs,agq h2 hd,k.2⟩⟩
 case zw x=>cases hx
 case copy z x y =>
  obtain⟨xs,h2,hx⟩:=bE.mp hx;obtain⟨k1,k2⟩:=ags (b:=b) hx hd;exact⟨k1,bE.mpr ⟨xs,Km h2 hd,k2⟩⟩
 case load sh x =>
  obtain⟨cs,h2,hx⟩:=bE.mp hx;obtain⟨q,h3,he⟩:=mE.mp hx;simp only[aB]at he;obtain⟨rfl,rfl⟩:=he;exact⟨hd,bE.mpr ⟨cs,RN h2 hd,mE.mpr ⟨q,h3,rfl⟩⟩⟩
 case u7 z x k =>
  split at hx
  ·rename_i hval;rw[if_pos hval];obtain⟨n,h2,hx⟩:=bE.mp hx;obtain⟨q,h3,he⟩:=mE.mp hx;simp only[aB]at he;obtain⟨rfl,rfl⟩:=he;exact⟨hd,bE.mpr ⟨n,h2,mE.mpr ⟨q,h3,rfl⟩⟩⟩
  ·cases hx
 case rY x k =>
  split at hx
  ·obtain⟨n,h2,hx⟩:=bE.mp hx;obtain⟨q,h3,he⟩:=mE.mp hx;simp only[aB]at he;obtain⟨rfl,rfl⟩:=he;exact⟨hd,bE.mpr ⟨n,h2,mE.mpr ⟨q,h3,rfl⟩⟩⟩
  ·cases hx
 all_goals first
  |(simp only[aS,aB]at hx⊢;obtain⟨rfl,rfl⟩:=hx;exact⟨hd,rfl,rfl⟩)
  |(obtain⟨q,h3,he⟩:=mE.mp hx;simp only[aB]at he;obtain⟨rfl,rfl⟩:=he;exact⟨hd,mE.mpr ⟨q,h3,rfl⟩⟩)
  |(obtain⟨q0,h2,hx⟩:=bE.mp hx;obtain⟨q,h3,he⟩:=mE.mp hx;simp only[aB]at he;obtain⟨rfl,rfl⟩:=he;exact⟨hd,bE.mpr ⟨q0,h2,mE.mpr ⟨q,h3,rfl⟩⟩⟩)
theorem agx{cx:Cx}(hi:i<cx.base){env:Env}{h:Heap}(l:List fQ):l.all (fQ.ok cx env (h.set i b))=l.all (fQ.ok cx env h):=by
 induction l with
 |nil=>rfl
 |cons c l ih =>
  simp only[vY,ih];congr 1;cases c<;>simp only[fQ.ok]
  all_goals rw[iH (by omega)]
theorem Zd{cx:Cx}{env:Env}{h:Heap}{x:bT}(hs:x.still aZ=true)(hc:x.nV.all (fQ.ok cx env h)=true){r:AV×Heap}(hx:xi call cx env h x.op=some r):∀ f args own,x.op=.call f args own->∃ g cs,f.ev env=.fn g cs/\(aZ (jr g)=true\/aZ (jr g+5000)=true):=by
 intro f args own hop;unfold bT.still at hs;rw[hop]at hs;simp only[bM,pE]at hs;rcases hs.2 with ho|ho
 ·unfold bT.oneOf at ho;split at ho
  ·rename_i t;obtain⟨c,hcm,hc2⟩:=xu.mp ho;have hk:=nE.mp hc c hcm;cases c<;>simp only[iw]at hc2;rename_i t' gs;simp only[bM,beq_iff_eq]at hc2;obtain⟨rfl,hgs⟩:=hc2;simp only[fQ.ok]at hk;split at hk
   ·rename_i g cs hf;exact⟨g,cs,hf,.inl (nE.mp hgs g (by simpa using hk))⟩
   ·cases hk
  ·rename_i g cs;exact⟨g,cs,rfl,.inl ho⟩
  ·cases ho
 ·unfold calm at ho;split at ho
  ·rename_i g cs;exact⟨g,cs,rfl,.inr ho⟩
  ·cases ho
theorem agy(hc:sG aZ call){cx:Cx}(hlo:cx.lo<=cx.base){env env':Env}{h h':Heap}{o:bT}(hx:lG call cx o env h=some (env',h'))(hd:h[i]?=some (v,.dead))(hi:i<cx.base)(hq:i<cx.lo\/o.still aZ=true):h'[i]?=some (v,.dead)/\lG call cx o env (h.set i b)=some (env',h'.set i b):=by
 have key:∀{r:AV} {h':Heap},fI call cx env h o=some (r,h')->h'[i]?=some (v,.dead)/\fI call cx env (h.set i b) o=some (r,h'.set i b):=by
  intro r h' hx;obtain⟨h1,h2⟩:=oQ hx;obtain⟨k1,k2⟩:=agw (b:=b) hc hlo h1 hd hi (hq.imp id fun hq=>⟨Zd hq h2 h1,fun ts f args e=>by unfold bT.still at hq;rw[e]at hq;cases hq⟩)
  refine⟨k1, ?_⟩;unfold fI;rw[agx (by omega),if_pos h2]
  exact k2
 unfold lG at hx⊢;split at hx
 ·rename_i hg;obtain⟨⟨r,h1⟩,h2,he⟩:=mE.mp hx;simp only[aB]at he;obtain⟨rfl,rfl⟩:=he;obtain⟨k1,k2⟩:=key h2;exact⟨k1,mE.mpr ⟨_,k2,rfl⟩⟩
 ·rename_i g want hg;obtain⟨q,hq,hx⟩:=bE.mp hx;rw[hq];simp only[Option.bind_some];split at hx
  ·rename_i hw;rw[if_pos hw];obtain⟨⟨r,h1⟩,h2,he⟩:=mE.mp hx;simp only[aB]at he;obtain⟨rfl,rfl⟩:=he;obtain⟨k1,k2⟩:=key h2;exact⟨k1,mE.mpr ⟨_,k2,rfl⟩⟩
  ·rename_i hw;rw[if_neg hw];simp only[aS,aB]at hx⊢;obtain⟨rfl,rfl⟩:=hx;exact⟨hd,rfl,rfl⟩
theorem Ze(hc:sG aZ call){cx:Cx}(hlo:cx.lo<=cx.base):∀(os:List bT) {env env':Env} {h h':Heap},jN call cx os env h=some (env',h')->h[i]?=some (v,.dead)->i<cx.base->(i<cx.lo\/os.all (bT.still aZ)=true)->h'[i]?=some (v,.dead)/\jN call cx os env (h.set i b)=some (env',h'.set i b)
 |[],env,env',h,h',hx,hd,hi,hq=>by
  simp only[jN,aS,aB]at hx⊢;obtain⟨rfl,rfl⟩:=hx
  exact⟨hd,rfl,rfl⟩
 |o::os,env,env',h,h',hx,hd,hi,hq=>by
  obtain⟨⟨e1,h1⟩,h2,hx⟩:=bE.mp hx;obtain⟨k1,k2⟩:=agy (b:=b) hc hlo h2 hd hi (hq.imp id fun hq=>by simp only[vY,bM]at hq;exact hq.1)
  obtain⟨k3,k4⟩:=Ze hc hlo os hx k1 hi (hq.imp id fun hq=>by simp only[vY,bM]at hq;exact hq.2)
  exact⟨k3,bE.mpr ⟨_,k2,k4⟩⟩
theorem RQ{cx:Cx}(hi:i<cx.base):∀(ss:List Nat) (h:Heap),h[i]?=some (v,.dead)->(nD cx ss h)[i]?=some (v,.dead)/\nD cx ss (h.set i b)=(nD cx ss h).set i b
 |[],h,hd=>⟨hd,rfl⟩
 |s::ss,h,hd=>by
  simp only[nD];rw[iH (by omega)]
  split
  ·rename_i w k hid;rw[hid];dsimp only;rw[rM _ _ (show i≠cx.base+s by omega)]
   exact RQ hi ss _ (sZ (by omega) hd)
  ·rename_i hid;rw[hid];exact RQ hi ss h hd
theorem RU(hc:sG aZ call){cx:Cx}(hlo:cx.lo<=cx.base)(hr:∀ id ai,cx.kW=some (id,ai)->i<id)(n:Nat):∀(x:XC) {env:Env} {h:Heap} {e:Ex} {env':Env} {h':Heap},exec call cx n x (env,h)=some (e,(env',h'))->h[i]?=some (v,.dead)->i<cx.base->(i<cx.lo\/x.still aZ=true) ->
  h'[i]?=some (v,.dead)/\exec call cx n x (env,h.set i b)=some (e,(env',h'.set i b)):=by
 intro x
 induction x with
 |skip|exit|ret =>
  intro env h e env' h' hx hd hi hq;simp only[exec,aS,aB]at hx⊢;obtain⟨rfl,rfl,rfl⟩:=hx
  exact⟨hd,rfl,rfl,rfl⟩
 |reg draw keep kill ops =>
  intro env h e env' h' hx hd hi hq;obtain⟨kd,ke⟩:=RQ (b:=b) hi kill h hd;simp only[exec,mE,aB,ke]at hx⊢;obtain⟨⟨e1,h1⟩,h2,rfl,rfl,rfl⟩:=hx;obtain⟨k1,k2⟩:=Ze (b:=b) hc hlo _ h2 kd hi hq
  exact⟨k1,_,k2,rfl,rfl,rfl⟩
 |seq p q Dv EW =>
  intro env h e env' h' hx hd hi hq;obtain⟨⟨e1,pz,h1⟩,h2,hx⟩:=bE.mp hx;have hq':i<cx.lo\/(p.still aZ=true/\q.still aZ=true):=hq.imp id fun hq=>by simpa[XC.still]using hq
  obtain⟨k1,k2⟩:=Dv h2 hd hi (hq'.imp id (·.1));dsimp only at hx;split at hx
  ·rename_i he;obtain⟨k3,k4⟩:=EW hx k1 hi (hq'.imp id (·.2));refine⟨k3,bE.mpr ⟨_,k2, ?_⟩⟩;dsimp only;rw[if_pos he];exact k4
  ·rename_i he;simp only[aS,aB]at hx;obtain⟨rfl,rfl,rfl⟩:=hx;refine⟨k1,bE.mpr ⟨_,k2, ?_⟩⟩;dsimp only
   rw[if_neg he]
 |cond c p q Dv EW =>
  intro env h e env' h' hx hd hi hq;have hq':i<cx.lo\/(p.still aZ=true/\q.still aZ=true):=hq.imp id fun hq=>by simpa[XC.still]using hq
  obtain⟨r,h2,hx⟩:=bE.mp hx
  cases r with
  |true =>
   obtain⟨k1,k2⟩:=Dv hx hd hi (hq'.imp id (·.1))
   exact⟨k1,bE.mpr ⟨_,h2,k2⟩⟩
  |false =>
   obtain⟨k1,k2⟩:=EW hx hd hi (hq'.imp id (·.2))
   exact⟨k1,bE.mpr ⟨_,h2,k2⟩⟩
 |blk id p ih =>
  intro env h e env' h' hx hd hi hq;obtain⟨⟨e1,pz,h1⟩,h2,he⟩:=mE.mp hx;obtain⟨k1,k2⟩:=ih h2 hd hi hq;unfold Ex.nW at he;split at he
  ·rename_i hee;simp only[aB]at he;obtain⟨rfl,rfl,rfl⟩:=he;refine⟨k1,mE.mpr ⟨_,k2, ?_⟩⟩;unfold Ex.nW;rw[if_pos hee]
  ·rename_i hee;simp only[aB]at he;obtain⟨rfl,rfl,rfl⟩:=he;refine⟨k1,mE.mpr ⟨_,k2, ?_⟩⟩;unfold Ex.nW
   rw[if_neg hee]
 |loop p ih =>
  intro env h e env' h' hx hd hi hq;simp only[exec]at hx⊢
  have key:∀(k:Nat) {env:Env} {h:Heap} {e:Ex} {env':Env} {h':Heap},iter (exec call cx n p) k (env,h)=some (e,(env',h'))->h[i]?=some (v,.dead)->h'[i]?=some (v,.dead)/\iter (exec call cx n p) k (env,h.set i b)=some (e,(env',h'.set i b)):=by
   intro k
   induction k with
   |zero=>intro env h e env' h' hx;simp[iter]at hx
   |succ k ihk =>
    intro env h e env' h' hx hd;simp only[iter,bE]at hx⊢;obtain⟨⟨e1,pz,h1⟩,hx1,hx2⟩:=hx;obtain⟨k1,k2⟩:=ih hx1 hd hi hq;dsimp only at hx2;split at hx2
    ·rename_i he;obtain⟨k3,k4⟩:=ihk hx2 k1;refine⟨k3,_,k2, ?_⟩;dsimp only;rw[if_pos he];exact k4
    ·rename_i he;simp only[aS,aB]at hx2;obtain⟨rfl,rfl,rfl⟩:=hx2;refine⟨k1,_,k2, ?_⟩;dsimp only;rw[if_neg he]
  exact key n hx hd
 |mI s f g =>
  intro env h e env' h' hx hd hi hq;have hi2:i<cx.lo:=hq.resolve_right (by simp[XC.still])
  have hro:Ar cx (h.set i b)=Ar cx h:=by
   unfold Ar;split
   ·rfl
   ·rename_i id ai hcx;rw[iH (by have:=hr id ai hcx;omega)]
  simp only[exec,hro]at hx⊢;split at hx
  ·obtain⟨⟨ai,h1⟩,hmk,hx1⟩:=bE.mp hx;obtain⟨⟨r0,h2⟩,hcall,hx2⟩:=bE.mp hx1;clear hx hx1;obtain⟨k1,k2⟩:=Cn (b:=b) hmk hd (by omega)
   obtain⟨k3,k4⟩:=hc.fn hcall (b:=b) k1 (.inl hi2);dsimp only at hx2;have hget:(h2.set i b)[cx.base+s]?=h2[cx.base+s]?:=iH (by omega)
   split at hx2
   ·rename_i w d2 hid;split at hx2
    ·rename_i hw;simp only[aS,aB]at hx2;obtain⟨rfl,rfl,rfl⟩:=hx2;refine⟨sZ (by omega) k3,bE.mpr ⟨_,k2,bE.mpr ⟨_,k4, ?_⟩⟩⟩
     dsimp only;rw[hget,hid];dsimp only;rw[if_pos hw,rM _ _ (by omega)]
    ·cases hx2
   ·rename_i w d2 e2 hid;split at hx2
    ·rename_i hw;simp only[aS,aB]at hx2;obtain⟨rfl,rfl,rfl⟩:=hx2;refine⟨sZ (by omega) k3,bE.mpr ⟨_,k2,bE.mpr ⟨_,k4, ?_⟩⟩⟩
     dsimp only;rw[hget,hid];dsimp only;rw[if_pos hw,rM _ _ (by omega)]
    ·cases hx2
   ·cases hx2
  ·cases hx
 |pre ps p ih =>
  intro env h e env' h' hx hd hi hq
  exact ih (env:=env.keep ps) hx hd hi hq
 |fz t p ih =>
  intro env h e env' h' hx hd hi hq;have hi2:i<cx.lo:=hq.resolve_right (by simp[XC.still])
  obtain⟨⟨v',h1⟩,h2,hx⟩:=bE.mp hx;obtain⟨k1,k2⟩:=agv (b:=b) h2 hd (show i<cx.base by omega)
  obtain⟨k3,k4⟩:=ih (env:=env.set t v') hx k1 hi (.inl hi2);exact⟨k3,bE.mpr ⟨_,k2,k4⟩⟩
end
end Go.VI
