/- What lies where nothing is looked at makes no difference: a block that is dead may be any other. -/
import Derived.Test.YtfpoegnmeoghpaaGreatDoorVIN
set_option linter.unusedVariables false
set_option linter.unusedSimpArgs false
namespace Go.VI
set_option linter.unusedSectionVars false
variable [bJ][Rounds]
section
variable {i v:Nat}{b:Nat×av}{h:Heap}
theorem uy{id:Nat}{x:Nat×av}(hd:h[i]?=some (v,av.dead))(hid:h[id]?=some x)(hx:x.2≠.dead):id≠i:=by
 rintro rfl;rw[hd]at hid;cases hid;exact hx rfl
theorem D7{x:AV}{es:List AV}(hx:dW h x=some es)(hd:h[i]?=some (v,av.dead)):dW (h.set i b) x=some es:=by
 unfold dW at hx⊢;split at hx
 ·exact hx
 ·exact hx
 ·exact hx
 ·rename_i id aj z off len fill;split at hx
  ·rename_i w z' es' hid;have hne:=uy hd hid (by simp)
   rw[eG (by omega),hid]
   exact hx
  ·cases hx
 ·cases hx
theorem D8{x:AV}{z:Nat}{es:List AV}(hx:jv h z x=some es)(hd:h[i]?=some (v,av.dead)):jv (h.set i b) z x=some es:=by
 unfold jv at hx⊢;split at hx
 ·rw[if_pos (by assumption)];exact D7 hx hd
 ·cases hx
theorem KF{x:AV}{cs:List AV}(hx:eD h x=some cs)(hd:h[i]?=some (v,av.dead)):eD (h.set i b) x=some cs:=by
 unfold eD at hx⊢;split at hx
 ·exact hx
 ·rename_i id aj off;split at hx
  ·rename_i w cs' hid;have hne:=uy hd hid (by simp)
   rw[eG (by omega),hid]
   exact hx
  ·cases hx
 ·rename_i u k off;obtain⟨es,h1,h2⟩:=bE.mp hx;exact bE.mpr ⟨es,D7 h1 hd,h2⟩
 ·cases hx
theorem aa5{x:AV}{z:Nat}{es:List AV}(hx:kL h z x=some es)(hd:h[i]?=some (v,av.dead)):kL (h.set i b) z x=some es:=by
 unfold kL at hx⊢;split at hx
 ·exact hx
 ·exact D8 hx hd
theorem nE{id:Nat}{x:Nat×av}(hne:id≠i)(hd:h[i]?=some (v,av.dead)):(h.set id x)[i]?=some (v,av.dead):=by rw[eG hne];exact hd
mutual
theorem wZ{base:Nat}{keep:Bool}:∀(x:AV) (h:Heap) (x':AV) (h':Heap),aU base keep x h=some (x',h')->h[i]?=some (v,av.dead)->i<base->h'[i]?=some (v,av.dead)/\aU base keep x (h.set i b)=some (x',h'.set i b)
 |.agg cs,h,x',h',hf,hd,hb|.tuple cs,h,x',h',hf,hd,hb|.fn _ cs,h,x',h',hf,hd,hb=>by
  simp only[aU,mE,ax]at hf⊢;obtain⟨⟨cs',h1⟩,hf,rfl,rfl⟩:=hf;obtain⟨k1,k2⟩:=Ro cs h cs' h1 hf hd hb
  exact⟨k1,_,k2,rfl,rfl⟩
 |.eZ _ y,h,x',h',hf,hd,hb=>by
  simp only[aU,mE,ax]at hf⊢;obtain⟨⟨cs',h1⟩,hf,rfl,rfl⟩:=hf;obtain⟨k1,k2⟩:=wZ y h cs' h1 hf hd hb
  exact⟨k1,_,k2,rfl,rfl⟩
 |.ref id aj z off len fill,h,x',h',hf,hd,hb=>by
  simp only[aU]at hf⊢;split at hf
  ·rename_i hle;rw[if_pos hle];simp only[mE,ax]at hf⊢;obtain⟨es,h1,rfl,rfl⟩:=hf;exact⟨nE (by omega) hd,es,D7 h1 hd,rfl,mQ _ _ (by omega)⟩
  ·rename_i hle;rw[if_neg hle];split at hf
   ·rename_i hk;rw[if_pos hk];simp only[aP,ax]at hf⊢;obtain⟨rfl,rfl⟩:=hf;exact⟨hd,rfl,rfl⟩
   ·cases hf
 |.own ..,h,x',h',hf,hd,hb|.aJ ..,h,x',h',hf,hd,hb|.di ..,h,x',h',hf,hd,hb|.cZ ..,h,x',h',hf,hd,hb=>by simp[aU]at hf
 |.aD,h,x',h',hf,hd,hb|.undef,h,x',h',hf,hd,hb|.bool _,h,x',h',hf,hd,hb|.int _ _,h,x',h',hf,hd,hb|.str _,h,x',h',hf,hd,hb|.gZ,h,x',h',hf,hd,hb|.iG,h,x',h',hf,hd,hb|.aN _ _,h,x',h',hf,hd,hb|.aM _ _,h,x',h',hf,hd,hb|.nilPtr,h,x',h',hf,hd,hb|.bD _,h,x',h',hf,hd,hb=>by
  simp only[aU,aP,ax]at hf⊢;obtain⟨rfl,rfl⟩:=hf;exact⟨hd,rfl,rfl⟩
theorem Ro{base:Nat}{keep:Bool}:∀(cs:List AV) (h:Heap) (cs':List AV) (h':Heap),gU base keep cs h=some (cs',h')->h[i]?=some (v,av.dead)->i<base->h'[i]?=some (v,av.dead)/\gU base keep cs (h.set i b)=some (cs',h'.set i b)
 |[],h,cs',h',hf,hd,hb=>by
  simp only[gU,aP,ax]at hf⊢;obtain⟨rfl,rfl⟩:=hf
  exact⟨hd,rfl,rfl⟩
 |c::cs,h,cs',h',hf,hd,hb=>by
  simp only[gU,bE,mE,ax]at hf⊢;obtain⟨⟨c1,h1⟩,f1,⟨cs1,h2⟩,f2,rfl,rfl⟩:=hf;obtain⟨k1,k2⟩:=wZ c h c1 h1 f1 hd hb;obtain⟨k3,k4⟩:=Ro cs h1 cs1 h2 f2 k1 hb;exact⟨k3,_,k2,_,k4,rfl,rfl⟩
end
theorem w9{cx:Cx}{s aj:Nat}{x:av}{h':Heap}(hm:bV cx s x h=some (aj,h'))(hd:h[i]?=some (v,av.dead))(hi:i<cx.base):h'[i]?=some (v,av.dead)/\bV cx s x (h.set i b)=some (aj,h'.set i b):=by
 unfold bV at hm⊢;split at hm
 ·rename_i hc;rw[if_pos hc,eG (by omega)]
  split at hm
  ·rename_i v0 dX hid;rw[hid];simp only[aP,ax]at hm⊢;obtain⟨rfl,rfl⟩:=hm;exact⟨nE (by omega) hd,rfl,mQ _ _ (by omega)⟩
  ·cases hm
 ·cases hm
theorem D9{cx:Cx}(hi:i<cx.base):∀(own:List (Nat×Nat)) (cs cs':List AV) (h h':Heap),iN cx own cs h=some (cs',h')->h[i]?=some (v,av.dead)->h'[i]?=some (v,av.dead)/\iN cx own cs (h.set i b)=some (cs',h'.set i b)
 |[],cs,cs',h,h',ht,hd=>by
  simp only[iN,aP,ax]at ht⊢;obtain⟨rfl,rfl⟩:=ht
  exact⟨hd,rfl,rfl⟩
 |(j,s)::r,cs,cs',h,h',ht,hd=>by
  simp only[iN]at ht⊢;split at ht
  ·split at ht
   ·rename_i hc;rw[if_pos hc];exact D9 hi r _ _ _ _ ht hd
   ·rename_i hc;rw[if_neg hc];obtain⟨⟨aj,h1⟩,hm,ht⟩:=bE.mp ht;obtain⟨k1,k2⟩:=w9 (b:=b) hm hd hi;obtain⟨k3,k4⟩:=D9 hi r _ _ _ _ ht k1;exact⟨k3,bE.mpr ⟨_,k2,k4⟩⟩
  ·exact D9 hi r _ _ _ _ ht hd
theorem Rp{base z:Nat}{env:Env}(hi:i<base):∀(ps:List (Nat×aK)) (es es':List AV) (h h':Heap),iV env base z ps es h=some (es',h')->h[i]?=some (v,av.dead)->h'[i]?=some (v,av.dead)/\iV env base z ps es (h.set i b)=some (es',h'.set i b)
 |[],es,es',h,h',ht,hd=>by
  simp only[iV,aP,ax]at ht⊢;obtain⟨rfl,rfl⟩:=ht
  exact⟨hd,rfl,rfl⟩
 |(k,x)::ps,es,es',h,h',ht,hd=>by
  simp only[iV]at ht⊢;obtain⟨⟨y,h1⟩,hf,ht⟩:=bE.mp ht;dsimp only at ht;split at ht
  ·rename_i hc;obtain⟨k1,k2⟩:=wZ (b:=b) _ _ _ _ hf hd hi;obtain⟨k3,k4⟩:=Rp hi ps _ _ _ _ ht k1;refine⟨k3,bE.mpr ⟨_,k2, ?_⟩⟩;dsimp only;rw[if_pos hc];exact k4
  ·cases ht
theorem aa6{cx:Cx}{sz:Nat}{p x:AV}{h':Heap}(hp:dK cx h sz p x=some h')(hd:h[i]?=some (v,av.dead))(hi:i<cx.base):h'[i]?=some (v,av.dead)/\dK cx (h.set i b) sz p x=some (h'.set i b):=by
 unfold dK at hp⊢;split at hp
 ·rename_i hc0;rw[if_pos hc0];split at hp
  ·rename_i id aj off;split at hp
   ·rename_i w cs hid;have hne:=uy hd hid (by simp)
    rw[eG (by omega),hid]
    dsimp only;split at hp
    ·rename_i hc;rw[if_pos hc];obtain⟨cs',hsp,rfl⟩:=mE.mp hp;exact⟨nE hne hd,mE.mpr ⟨cs',hsp,mQ _ _ (Ne.symm hne)⟩⟩
    ·cases hp
   ·cases hp
  ·rename_i id aj z o len fill k off;obtain⟨⟨x1,h1⟩,hf,hp⟩:=bE.mp hp;obtain⟨k1,k2⟩:=wZ (b:=b) _ _ _ _ hf hd (by omega)
   dsimp only at hp;split at hp
   ·rename_i w z' es hid;have hne:=uy k1 hid (by simp)
    split at hp
    ·rename_i hc;split at hp
     ·rename_i cs hes;obtain⟨cs',hsp,rfl⟩:=mE.mp hp;refine⟨nE hne k1,bE.mpr ⟨_,k2, ?_⟩⟩;dsimp only;rw[eG (by omega),hid]
      dsimp only;rw[if_pos hc,hes];exact mE.mpr ⟨cs',hsp,mQ _ _ (Ne.symm hne)⟩
     ·rename_i e0 hna hes;split at hp
      ·rename_i hc2;split at hp
       ·cases hp
       ·rename_i KG;simp only[aP]at hp;subst hp;refine⟨nE hne k1,bE.mpr ⟨_,k2, ?_⟩⟩;dsimp only;rw[eG (by omega),hid]
        dsimp only;rw[if_pos hc,hes];split
        ·rename_i heq;cases heq;exact absurd rfl (hna _)
        ·rename_i heq;cases heq;rw[if_pos hc2];split
         ·exact absurd rfl (KG _)
         ·rw[mQ _ _ (Ne.symm hne)]
        ·rename_i heq;cases heq
      ·cases hp
     ·cases hp
    ·cases hp
   ·cases hp
  ·cases hp
 ·cases hp
theorem aa7{cx:Cx}{z:Nat}{x y:AV}{ys:List AV}{h':Heap}(hp:nW cx z x ys h=some (y,h'))(hd:h[i]?=some (v,av.dead)):h'[i]?=some (v,av.dead)/\nW cx z x ys (h.set i b)=some (y,h'.set i b):=by
 unfold nW at hp⊢;split at hp
 ·rename_i hz;rw[if_pos hz];split at hp
  ·cases hp
  ·rename_i len hlen;split at hp
   ·rename_i h0;rw[if_pos h0];simp only[aP,ax]at hp⊢;obtain⟨rfl,rfl⟩:=hp;exact⟨hd,rfl,rfl⟩
   ·rename_i h0;rw[if_neg h0];split at hp
    ·rename_i id aj z' off len fill;split at hp
     ·rename_i w wL es hid;have hne:=uy hd hid (by simp)
      rw[eG (by omega),hid]
      dsimp only;split at hp
      ·rename_i hc;rw[if_pos hc];simp only[aP,ax]at hp⊢;obtain⟨rfl,rfl⟩:=hp;exact⟨nE hne hd,rfl,mQ _ _ (Ne.symm hne)⟩
      ·cases hp
     ·cases hp
    ·cases hp
 ·cases hp
theorem Rq{cx:Cx}{s z lim:Nat}{x y:AV}{xs:List AV}{h':Heap}(hp:dP cx s z lim x xs h=some (y,h'))(hd:h[i]?=some (v,av.dead))(hi:i<cx.base):h'[i]?=some (v,av.dead)/\dP cx s z lim x xs (h.set i b)=some (y,h'.set i b):=by
 unfold dP at hp⊢;split at hp
 ·split at hp
  ·rename_i hc;rw[if_pos hc];simp only[aP,ax]at hp⊢;obtain⟨rfl,rfl⟩:=hp;exact⟨hd,rfl,rfl⟩
  ·rename_i hc;rw[if_neg hc];split at hp
   ·rename_i hc2;rw[if_pos hc2];obtain⟨⟨aj,h1⟩,hm,he⟩:=mE.mp hp;simp only[ax]at he;obtain⟨rfl,rfl⟩:=he;obtain⟨k1,k2⟩:=w9 (b:=b) hm hd (by omega)
    exact⟨k1,mE.mpr ⟨_,k2,rfl⟩⟩
   ·cases hp
 ·split at hp
  ·rename_i hc0;rw[if_pos hc0];split at hp
   ·rename_i hc;rw[if_pos hc];simp only[aP,ax]at hp⊢;obtain⟨rfl,rfl⟩:=hp;exact⟨hd,rfl,rfl⟩
   ·rename_i hc;rw[if_neg hc];split at hp
    ·rename_i hc2;rw[if_pos hc2];obtain⟨⟨aj,h1⟩,hm,he⟩:=mE.mp hp;simp only[ax]at he;obtain⟨rfl,rfl⟩:=he;obtain⟨k1,k2⟩:=w9 (b:=b) hm hd (by omega)
     exact⟨k1,mE.mpr ⟨_,k2,rfl⟩⟩
    ·cases hp
  ·cases hp
 ·rename_i id aj z' off len fill;split at hp
  ·rename_i w wL es hid;have hne:=uy hd hid (by simp)
   rw[eG (by omega),hid]
   dsimp only;split at hp
   ·rename_i hc;rw[if_pos hc];simp only[aP,ax]at hp⊢;obtain⟨rfl,rfl⟩:=hp;exact⟨nE hne hd,rfl,mQ _ _ (Ne.symm hne)⟩
   ·cases hp
  ·cases hp
 ·cases hp
theorem Rs{cx:Cx}{x r:AV}(hx:wM cx x h=some r)(hd:h[i]?=some (v,av.dead)):wM cx x (h.set i b)=some r:=by
 unfold wM at hx⊢;split at hx
 ·rename_i id aj;split at hx
  ·rename_i v1 d me mv lk hid;have hne:=uy hd hid (by simp)
   rw[eG (by omega),hid]
   dsimp only;split at hx
   ·rename_i hc;rw[if_pos hc];split at hx
    ·exact hx
    ·rename_i id2 jd;split at hx
     ·rename_i v2 d2 l gD;have hne2:=uy hd gD (by simp)
      rw[eG (by omega),gD]
      exact hx
     ·cases hx
   ·cases hx
  ·cases hx
 ·cases hx
theorem aa8{cx:Cx}{s:Nat}{x y r:AV}{h':Heap}(hx:rR cx s x y h=some (r,h'))(hd:h[i]?=some (v,av.dead))(hi:i<cx.base):h'[i]?=some (v,av.dead)/\rR cx s x y (h.set i b)=some (r,h'.set i b):=by
 unfold rR at hx⊢;split at hx
 ·rename_i id aj l;split at hx
  ·rename_i v1 d me mv lk hid;have hne:=uy hd hid (by simp)
   dsimp only;rw[eG (by omega),hid]
   dsimp only;split at hx
   ·rename_i hc;rw[if_pos hc];split at hx
    ·split at hx
     ·cases hx
     ·rename_i hl;rw[if_neg hl];split at hx
      ·rename_i hc2;rw[if_pos hc2];obtain⟨⟨v2,h1⟩,hm,he⟩:=mE.mp hx;simp only[ax]at he;obtain⟨rfl,rfl⟩:=he;obtain⟨k1,k2⟩:=w9 (b:=b) hm hd hi;exact⟨nE hne k1,mE.mpr ⟨_,k2,by rw[mQ _ _ (by omega)]⟩⟩
      ·cases hx
    ·rename_i id2 jd;split at hx
     ·rename_i v2 d2 l0 gD;have hne2:=uy hd gD (by simp)
      rw[eG (by omega),gD]
      dsimp only;split at hx
      ·rename_i hc2;rw[if_pos hc2];simp only[aP,ax]at hx⊢;obtain⟨rfl,rfl⟩:=hx;exact⟨nE hne (nE hne2 hd),rfl,by rw[mQ (i:=i) _ _ (by omega),mQ (i:=i) _ _ (by omega)]⟩
      ·cases hx
     ·cases hx
   ·cases hx
  ·cases hx
 ·cases hx
end
section
variable {i v:Nat}{b:Nat×av}{aQ:Nat->Bool}{call:Callee}
theorem aa9(hc:mP aQ call){cx:Cx}{id aj:Nat}{args:List AV}{h h':Heap}{r:AV}(hx:fF call cx id aj args h=some (r,h'))(hd:h[i]?=some (v,.dead))(hi:i<cx.lo):h'[i]?=some (v,.dead)/\fF call cx id aj args (h.set i b)=some (r,h'.set i b):=by
 unfold fF at hx⊢;split at hx
 ·rename_i w d hid;have hne:=uy hd hid (by simp)
  rw[eG (by omega),hid]
  dsimp only;split at hx
  ·rename_i hcond;rw[if_pos hcond];obtain⟨⟨e,h1⟩,h2,he⟩:=mE.mp hx;simp only[ax]at he;obtain⟨rfl,rfl⟩:=he;obtain⟨k1,k2⟩:=hc.rd h2 (b:=b) hd (by omega) hcond.2.2.2.1 hcond.2.2.1
   exact⟨k1,mE.mpr ⟨_,k2,rfl⟩⟩
  ·cases hx
 ·cases hx
theorem KH(hc:mP aQ call){cx:Cx}(hlo:cx.lo<=cx.base){env:Env}{h h':Heap}{f:aK}{args:List aK}{own:List (Nat×Nat)}{r:AV}(hx:xi call cx env h (.call f args own)=some (r,h'))(hd:h[i]?=some (v,.dead))(hi:i<cx.lo\/(own=[]\/i<cx.base)/\∃ g cs,f.ev env=.fn g cs/\(aQ (iq g)=true\/aQ (iq g+5000)=true)) :
  h'[i]?=some (v,.dead)/\xi call cx env (h.set i b) (.call f args own)=some (r,h'.set i b):=by
 simp only[xi]at hx⊢;split at hx
 ·rename_i g caps hf;obtain⟨⟨r1,h1⟩,h2,hx⟩:=bE.mp hx;obtain⟨k1,k2⟩:=hc.fn h2 (b:=b) hd (hi.imp (fun h=>h) fun⟨_,g',cs',h1,h2⟩=>by rw[hf]at h1;cases h1;exact h2)
  rw[k2];simp only[Option.bind_some];dsimp only at hx;split at hx
  ·simp only[aP,ax]at hx⊢;obtain⟨rfl,rfl⟩:=hx;exact⟨k1,rfl,rfl⟩
  ·rename_i hne
   have hi':i<cx.base:=by
    rcases hi with hi|⟨ho|ho,_⟩
    ·omega
    ·exact absurd ho (by rintro rfl;exact hne rfl)
    ·exact ho
   split at hx
   ·obtain⟨⟨cs',h3⟩,h4,he⟩:=mE.mp hx;simp only[ax]at he;obtain⟨rfl,rfl⟩:=he;obtain⟨k3,k4⟩:=D9 (b:=b) hi' _ _ _ _ _ h4 k1;exact⟨k3,mE.mpr ⟨_,k4,rfl⟩⟩
   ·obtain⟨⟨cs',h3⟩,h4,hx⟩:=bE.mp hx;obtain⟨q,h5,he⟩:=mE.mp hx;simp only[ax]at he;obtain⟨rfl,rfl⟩:=he;obtain⟨k3,k4⟩:=D9 (b:=b) hi' _ _ _ _ _ h4 k1;exact⟨k3,bE.mpr ⟨_,k4,mE.mpr ⟨q,h5,rfl⟩⟩⟩
 ·split at hx
  ·rename_i id aj hf hown;rw[if_pos hown];refine aa9 hc hx hd ?_;rcases hi with hi|⟨_,g',cs',h1,_⟩
   ·exact hi
   ·rw[hf]at h1;cases h1
  ·cases hx
 ·cases hx
theorem aa'(hc:mP aQ call){cx:Cx}(hlo:cx.lo<=cx.base){env:Env}{h h':Heap}{o:XI}{r:AV}(hx:xi call cx env h o=some (r,h'))(hd:h[i]?=some (v,.dead))(hi:i<cx.base)(hq:i<cx.lo\/∀ f args own,o=.call f args own->∃ g cs,f.ev env=.fn g cs/\(aQ (iq g)=true\/aQ (iq g+5000)=true)) :
  h'[i]?=some (v,.dead)/\xi call cx env (h.set i b) o=some (r,h'.set i b):=by
 cases o
 case call f args own=>exact KH hc hlo hx hd (hq.imp id fun h=>⟨.inr hi,h _ _ _ rfl⟩)
 all_goals simp only[xi]at hx⊢
 case bY z zero n ps =>
  obtain⟨⟨es,h1⟩,h2,he⟩:=mE.mp hx;simp only[ax]at he;obtain⟨rfl,rfl⟩:=he;obtain⟨k1,k2⟩:=Rp (b:=b) (show i<cx.base by omega) _ _ _ _ _ h2 hd
  exact⟨k1,mE.mpr ⟨_,k2,rfl⟩⟩
 case tT s =>
  obtain⟨⟨aj,h1⟩,h2,he⟩:=mE.mp hx;simp only[ax]at he;obtain⟨rfl,rfl⟩:=he;obtain⟨k1,k2⟩:=w9 (b:=b) h2 hd (by omega)
  exact⟨nE (by omega) k1,mE.mpr ⟨_,k2,by rw[mQ _ _ (by omega)]⟩⟩
 case rO f x =>
  obtain⟨q,h2,he⟩:=mE.mp hx;simp only[ax]at he;obtain⟨rfl,rfl⟩:=he;exact⟨hd,mE.mpr ⟨_,Rs h2 hd,rfl⟩⟩
 case rP x =>
  obtain⟨es,h1,hx⟩:=bE.mp hx;obtain⟨q,h2,he⟩:=mE.mp hx;simp only[ax]at he;obtain⟨rfl,rfl⟩:=he;exact⟨hd,bE.mpr ⟨_,D8 h1 hd,mE.mpr ⟨_,h2,rfl⟩⟩⟩
 case tV tt x =>
  split at hx
  ·rename_i hc;rw[if_pos hc];simp only[aP,ax]at hx⊢;obtain⟨rfl,rfl⟩:=hx;exact⟨hd,rfl,rfl⟩
  ·cases hx
 case rM s f x y=>exact aa8 hx hd (by omega)
 case store sz x y =>
  obtain⟨h1,h2,he⟩:=mE.mp hx;simp only[ax]at he;obtain⟨rfl,rfl⟩:=he;obtain⟨k1,k2⟩:=aa6 (b:=b) h2 hd hi;exact⟨k1,mE.mpr ⟨_,k2,rfl⟩⟩
 case alloc s zero =>
  obtain⟨⟨aj,h1⟩,h2,he⟩:=mE.mp hx;simp only[ax]at he;obtain⟨rfl,rfl⟩:=he;obtain⟨k1,k2⟩:=w9 (b:=b) h2 hd (by omega)
  exact⟨k1,mE.mpr ⟨_,k2,rfl⟩⟩
 case box s x =>
  split at hx
  ·rename_i hval;rw[if_pos hval];obtain⟨⟨aj,h1⟩,h2,he⟩:=mE.mp hx;simp only[ax]at he;obtain⟨rfl,rfl⟩:=he;obtain⟨k1,k2⟩:=w9 (b:=b) h2 hd (by omega)
   exact⟨k1,mE.mpr ⟨_,k2,rfl⟩⟩
  ·cases hx
 case bS x =>
  split at hx
  ·rename_i hval;rw[if_pos hval];obtain⟨⟨aj,h1⟩,h2,he⟩:=mE.mp hx;simp only[ax]at he;obtain⟨rfl,rfl⟩:=he;obtain⟨k1,k2⟩:=wZ (b:=b) _ _ _ _ h2 hd (by omega)
   exact⟨k1,mE.mpr ⟨_,k2,rfl⟩⟩
  ·cases hx
 case mk s z zero lim n c =>
  split at hx
  ·split at hx
   ·rename_i hz;rw[if_pos hz];simp only[aP,ax]at hx⊢;obtain⟨rfl,rfl⟩:=hx;exact⟨hd,rfl,rfl⟩
   rename_i hz;rw[if_neg hz];split at hx
   ·rename_i hcond;rw[if_pos hcond];obtain⟨⟨aj,h1⟩,h2,he⟩:=mE.mp hx;simp only[ax]at he;obtain⟨rfl,rfl⟩:=he;obtain⟨k1,k2⟩:=w9 (b:=b) h2 hd (by omega)
    exact⟨k1,mE.mpr ⟨_,k2,rfl⟩⟩
   ·cases hx
  ·cases hx
 case app s z lim x y =>
  obtain⟨xs,h2,hx⟩:=bE.mp hx
  have k:h'[i]?=some (v,av.dead)/\xY cx s z lim (x.ev env) xs (h.set i b)=some (r,h'.set i b):=by
   unfold xY at hx⊢;split at hx
   ·rename_i hs;rw[if_pos hs];exact Rq (b:=b) hx hd hi
   ·rename_i hs;rw[if_neg hs];obtain⟨⟨v1,h1⟩,h3,h4⟩:=bE.mp hx;obtain⟨k1,k2⟩:=Rq (b:=b) h3 hd hi;obtain⟨k3,k4⟩:=wZ (b:=b) _ _ _ _ h4 k1 (by omega)
    exact⟨k3,bE.mpr ⟨_,k2,k4⟩⟩
  exact⟨k.1,bE.mpr ⟨xs,aa5 h2 hd,k.2⟩⟩
 case tX x=>cases hx
 case copy z x y =>
  obtain⟨xs,h2,hx⟩:=bE.mp hx;obtain⟨k1,k2⟩:=aa7 (b:=b) hx hd;exact⟨k1,bE.mpr ⟨xs,D8 h2 hd,k2⟩⟩
 case load sh x =>
  obtain⟨cs,h2,hx⟩:=bE.mp hx;obtain⟨q,h3,he⟩:=mE.mp hx;simp only[ax]at he;obtain⟨rfl,rfl⟩:=he;exact⟨hd,bE.mpr ⟨cs,KF h2 hd,mE.mpr ⟨q,h3,rfl⟩⟩⟩
 case qy z x k =>
  split at hx
  ·rename_i hval;rw[if_pos hval];obtain⟨n,h2,hx⟩:=bE.mp hx;obtain⟨q,h3,he⟩:=mE.mp hx;simp only[ax]at he;obtain⟨rfl,rfl⟩:=he;exact⟨hd,bE.mpr ⟨n,h2,mE.mpr ⟨q,h3,rfl⟩⟩⟩
  ·cases hx
 case mK x k =>
  split at hx
  ·obtain⟨n,h2,hx⟩:=bE.mp hx;obtain⟨q,h3,he⟩:=mE.mp hx;simp only[ax]at he;obtain⟨rfl,rfl⟩:=he;exact⟨hd,bE.mpr ⟨n,h2,mE.mpr ⟨q,h3,rfl⟩⟩⟩
  ·cases hx
 all_goals first
  |(simp only[aP,ax]at hx⊢;obtain⟨rfl,rfl⟩:=hx;exact⟨hd,rfl,rfl⟩)
  |(obtain⟨q,h3,he⟩:=mE.mp hx;simp only[ax]at he;obtain⟨rfl,rfl⟩:=he;exact⟨hd,mE.mpr ⟨q,h3,rfl⟩⟩)
  |(obtain⟨q0,h2,hx⟩:=bE.mp hx;obtain⟨q,h3,he⟩:=mE.mp hx;simp only[ax]at he;obtain⟨rfl,rfl⟩:=he;exact⟨hd,bE.mpr ⟨q0,h2,mE.mpr ⟨q,h3,rfl⟩⟩⟩)
theorem abb{cx:Cx}(hi:i<cx.base){env:Env}{h:Heap}(l:List dn):l.all (dn.ok cx env (h.set i b))=l.all (dn.ok cx env h):=by
 induction l with
 |nil=>rfl
 |cons c l ih =>
  simp only[uw,ih];congr 1;cases c<;>simp only[dn.ok]
  all_goals rw[eG (by omega)]
theorem Rt{cx:Cx}{env:Env}{h:Heap}{x:bC}(hs:x.still aQ=true)(hc:x.jR.all (dn.ok cx env h)=true){r:AV×Heap}(hx:xi call cx env h x.op=some r):∀ f args own,x.op=.call f args own->∃ g cs,f.ev env=.fn g cs/\(aQ (iq g)=true\/aQ (iq g+5000)=true):=by
 intro f args own hop;unfold bC.still at hs;rw[hop]at hs;simp only[bg,kN]at hs;rcases hs.2 with ho|ho
 ·unfold bC.oneOf at ho;split at ho
  ·rename_i t;obtain⟨c,hcm,hc2⟩:=rZ.mp ho;have hk:=kr.mp hc c hcm;cases c<;>simp only[fJ]at hc2;rename_i t' gs;simp only[bg,beq_iff_eq]at hc2;obtain⟨rfl,hgs⟩:=hc2;simp only[dn.ok]at hk;split at hk
   ·rename_i g cs hf;exact⟨g,cs,hf,.inl (kr.mp hgs g (by simpa using hk))⟩
   ·cases hk
  ·rename_i g cs;exact⟨g,cs,rfl,.inl ho⟩
  ·cases ho
 ·unfold calm at ho;split at ho
  ·rename_i g cs;exact⟨g,cs,rfl,.inr ho⟩
  ·cases ho
theorem abd(hc:mP aQ call){cx:Cx}(hlo:cx.lo<=cx.base){env env':Env}{h h':Heap}{o:bC}(hx:iA call cx o env h=some (env',h'))(hd:h[i]?=some (v,.dead))(hi:i<cx.base)(hq:i<cx.lo\/o.still aQ=true):h'[i]?=some (v,.dead)/\iA call cx o env (h.set i b)=some (env',h'.set i b):=by
 have key:∀{r:AV} {h':Heap},cO call cx env h o=some (r,h')->h'[i]?=some (v,.dead)/\cO call cx env (h.set i b) o=some (r,h'.set i b):=by
  intro r h' hx;obtain⟨h1,h2⟩:=lQ hx;obtain⟨k1,k2⟩:=aa' (b:=b) hc hlo h1 hd hi (hq.imp id fun hq=>Rt hq h2 h1);refine⟨k1, ?_⟩;unfold cO;rw[abb (by omega),if_pos h2]
  exact k2
 unfold iA at hx⊢;split at hx
 ·rename_i hg;obtain⟨⟨r,h1⟩,h2,he⟩:=mE.mp hx;simp only[ax]at he;obtain⟨rfl,rfl⟩:=he;obtain⟨k1,k2⟩:=key h2;exact⟨k1,mE.mpr ⟨_,k2,rfl⟩⟩
 ·rename_i g want hg;obtain⟨q,hq,hx⟩:=bE.mp hx;rw[hq];simp only[Option.bind_some];split at hx
  ·rename_i hw;rw[if_pos hw];obtain⟨⟨r,h1⟩,h2,he⟩:=mE.mp hx;simp only[ax]at he;obtain⟨rfl,rfl⟩:=he;obtain⟨k1,k2⟩:=key h2;exact⟨k1,mE.mpr ⟨_,k2,rfl⟩⟩
  ·rename_i hw;rw[if_neg hw];simp only[aP,ax]at hx⊢;obtain⟨rfl,rfl⟩:=hx;exact⟨hd,rfl,rfl⟩
theorem Ru(hc:mP aQ call){cx:Cx}(hlo:cx.lo<=cx.base):∀(os:List bC) {env env':Env} {h h':Heap},fQ call cx os env h=some (env',h')->h[i]?=some (v,.dead)->i<cx.base->(i<cx.lo\/os.all (bC.still aQ)=true)->h'[i]?=some (v,.dead)/\fQ call cx os env (h.set i b)=some (env',h'.set i b)
 |[],env,env',h,h',hx,hd,hi,hq=>by
  simp only[fQ,aP,ax]at hx⊢;obtain⟨rfl,rfl⟩:=hx
  exact⟨hd,rfl,rfl⟩
 |o::os,env,env',h,h',hx,hd,hi,hq=>by
  obtain⟨⟨e1,h1⟩,h2,hx⟩:=bE.mp hx;obtain⟨k1,k2⟩:=abd (b:=b) hc hlo h2 hd hi (hq.imp id fun hq=>by simp only[uw,bg]at hq;exact hq.1)
  obtain⟨k3,k4⟩:=Ru hc hlo os hx k1 hi (hq.imp id fun hq=>by simp only[uw,bg]at hq;exact hq.2)
  exact⟨k3,bE.mpr ⟨_,k2,k4⟩⟩
theorem KI{cx:Cx}(hi:i<cx.base):∀(ss:List Nat) (h:Heap),h[i]?=some (v,.dead)->(jh cx ss h)[i]?=some (v,.dead)/\jh cx ss (h.set i b)=(jh cx ss h).set i b
 |[],h,hd=>⟨hd,rfl⟩
 |s::ss,h,hd=>by
  simp only[jh];rw[eG (by omega)]
  split
  ·rename_i w k hid;rw[hid];dsimp only;rw[mQ _ _ (show i≠cx.base+s by omega)]
   exact KI hi ss _ (nE (by omega) hd)
  ·rename_i hid;rw[hid];exact KI hi ss h hd
theorem KJ(hc:mP aQ call){cx:Cx}(hlo:cx.lo<=cx.base)(hr:∀ id aj,cx.ic=some (id,aj)->i<id)(n:Nat):∀(x:XC) {env:Env} {h:Heap} {e:Ex} {env':Env} {h':Heap},exec call cx n x (env,h)=some (e,(env',h'))->h[i]?=some (v,.dead)->i<cx.base->(i<cx.lo\/x.still aQ=true) ->
  h'[i]?=some (v,.dead)/\exec call cx n x (env,h.set i b)=some (e,(env',h'.set i b)):=by
 intro x
 induction x with
 |skip|exit|ret =>
  intro env h e env' h' hx hd hi hq;simp only[exec,aP,ax]at hx⊢;obtain⟨rfl,rfl,rfl⟩:=hx
  exact⟨hd,rfl,rfl,rfl⟩
 |reg draw keep kill ops =>
  intro env h e env' h' hx hd hi hq;obtain⟨kd,ke⟩:=KI (b:=b) hi kill h hd;simp only[exec,mE,ax,ke]at hx⊢;obtain⟨⟨e1,h1⟩,h2,rfl,rfl,rfl⟩:=hx;obtain⟨k1,k2⟩:=Ru (b:=b) hc hlo _ h2 kd hi hq
  exact⟨k1,_,k2,rfl,rfl,rfl⟩
 |seq p q yx zN =>
  intro env h e env' h' hx hd hi hq;obtain⟨⟨e1,jT,h1⟩,h2,hx⟩:=bE.mp hx;have hq':i<cx.lo\/(p.still aQ=true/\q.still aQ=true):=hq.imp id fun hq=>by simpa[XC.still]using hq
  obtain⟨k1,k2⟩:=yx h2 hd hi (hq'.imp id (·.1));dsimp only at hx;split at hx
  ·rename_i he;obtain⟨k3,k4⟩:=zN hx k1 hi (hq'.imp id (·.2));refine⟨k3,bE.mpr ⟨_,k2, ?_⟩⟩;dsimp only;rw[if_pos he];exact k4
  ·rename_i he;simp only[aP,ax]at hx;obtain⟨rfl,rfl,rfl⟩:=hx;refine⟨k1,bE.mpr ⟨_,k2, ?_⟩⟩;dsimp only
   rw[if_neg he]
 |cond c p q yx zN =>
  intro env h e env' h' hx hd hi hq;have hq':i<cx.lo\/(p.still aQ=true/\q.still aQ=true):=hq.imp id fun hq=>by simpa[XC.still]using hq
  obtain⟨r,h2,hx⟩:=bE.mp hx
  cases r with
  |true =>
   obtain⟨k1,k2⟩:=yx hx hd hi (hq'.imp id (·.1))
   exact⟨k1,bE.mpr ⟨_,h2,k2⟩⟩
  |false =>
   obtain⟨k1,k2⟩:=zN hx hd hi (hq'.imp id (·.2))
   exact⟨k1,bE.mpr ⟨_,h2,k2⟩⟩
 |blk id p ih =>
  intro env h e env' h' hx hd hi hq;obtain⟨⟨e1,jT,h1⟩,h2,he⟩:=mE.mp hx;obtain⟨k1,k2⟩:=ih h2 hd hi hq;unfold Ex.jy at he;split at he
  ·rename_i hee;simp only[ax]at he;obtain⟨rfl,rfl,rfl⟩:=he;refine⟨k1,mE.mpr ⟨_,k2, ?_⟩⟩;unfold Ex.jy;rw[if_pos hee]
  ·rename_i hee;simp only[ax]at he;obtain⟨rfl,rfl,rfl⟩:=he;refine⟨k1,mE.mpr ⟨_,k2, ?_⟩⟩;unfold Ex.jy
   rw[if_neg hee]
 |loop p ih =>
  intro env h e env' h' hx hd hi hq;simp only[exec]at hx⊢
  have key:∀(k:Nat) {env:Env} {h:Heap} {e:Ex} {env':Env} {h':Heap},iter (exec call cx n p) k (env,h)=some (e,(env',h'))->h[i]?=some (v,.dead)->h'[i]?=some (v,.dead)/\iter (exec call cx n p) k (env,h.set i b)=some (e,(env',h'.set i b)):=by
   intro k
   induction k with
   |zero=>intro env h e env' h' hx;simp[iter]at hx
   |succ k ihk =>
    intro env h e env' h' hx hd;simp only[iter,bE]at hx⊢;obtain⟨⟨e1,jT,h1⟩,hx1,hx2⟩:=hx;obtain⟨k1,k2⟩:=ih hx1 hd hi hq;dsimp only at hx2;split at hx2
    ·rename_i he;obtain⟨k3,k4⟩:=ihk hx2 k1;refine⟨k3,_,k2, ?_⟩;dsimp only;rw[if_pos he];exact k4
    ·rename_i he;simp only[aP,ax]at hx2;obtain⟨rfl,rfl,rfl⟩:=hx2;refine⟨k1,_,k2, ?_⟩;dsimp only;rw[if_neg he]
  exact key n hx hd
 |jG s f g =>
  intro env h e env' h' hx hd hi hq;have hi2:i<cx.lo:=hq.resolve_right (by simp[XC.still])
  have hro:xZ cx (h.set i b)=xZ cx h:=by
   unfold xZ;split
   ·rfl
   ·rename_i id aj hcx;rw[eG (by have:=hr id aj hcx;omega)]
  simp only[exec,hro]at hx⊢;split at hx
  ·obtain⟨⟨aj,h1⟩,hmk,hx1⟩:=bE.mp hx;obtain⟨⟨r0,h2⟩,hcall,hx2⟩:=bE.mp hx1;clear hx hx1;obtain⟨k1,k2⟩:=w9 (b:=b) hmk hd (by omega)
   obtain⟨k3,k4⟩:=hc.fn hcall (b:=b) k1 (.inl hi2);dsimp only at hx2;have hget:(h2.set i b)[cx.base+s]?=h2[cx.base+s]?:=eG (by omega)
   split at hx2
   ·rename_i w d2 hid;split at hx2
    ·rename_i hw;simp only[aP,ax]at hx2;obtain⟨rfl,rfl,rfl⟩:=hx2;refine⟨nE (by omega) k3,bE.mpr ⟨_,k2,bE.mpr ⟨_,k4, ?_⟩⟩⟩
     dsimp only;rw[hget,hid];dsimp only;rw[if_pos hw,mQ _ _ (by omega)]
    ·cases hx2
   ·rename_i w d2 e2 hid;split at hx2
    ·rename_i hw;simp only[aP,ax]at hx2;obtain⟨rfl,rfl,rfl⟩:=hx2;refine⟨nE (by omega) k3,bE.mpr ⟨_,k2,bE.mpr ⟨_,k4, ?_⟩⟩⟩
     dsimp only;rw[hget,hid];dsimp only;rw[if_pos hw,mQ _ _ (by omega)]
    ·cases hx2
   ·cases hx2
  ·cases hx
 |pre ps p ih =>
  intro env h e env' h' hx hd hi hq
  exact ih (env:=env.keep ps) hx hd hi hq
 |fz t p ih =>
  intro env h e env' h' hx hd hi hq;have hi2:i<cx.lo:=hq.resolve_right (by simp[XC.still])
  obtain⟨⟨v',h1⟩,h2,hx⟩:=bE.mp hx;obtain⟨k1,k2⟩:=wZ (b:=b) _ _ _ _ h2 hd (show i<cx.base by omega)
  obtain⟨k3,k4⟩:=ih (env:=env.set t v') hx k1 hi (.inl hi2);exact⟨k3,bE.mpr ⟨_,k2,k4⟩⟩
end
end Go.VI
