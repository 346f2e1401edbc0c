/- Operations exchanged. -/
import Derived.Test.YtfpoegnmeoghpaaGreatDoorVINB
set_option linter.unusedVariables false
set_option linter.unusedSimpArgs false
namespace Go.VI
set_option linter.unusedSectionVars false
variable [bJ][Rounds]
section
variable {P:Program}{aQ:Nat->Bool}{call:Callee}{cx:Cx}{e:Env}{h:Heap}{x y:bC}
theorem RJ{base z:Nat}{env:Env}:∀(ps:List (Nat×aK)) (es es':List AV) (h h':Heap),(∀ p∈ps,(p.2.ev env).closed=true)->iV env base z ps es h=some (es',h')->h'=h/\∀ h2,iV env base z ps es h2=some (es',h2)
 |[],es,es',h,h',_,ht=>by
  simp only[iV,aP,ax]at ht;obtain⟨rfl,rfl⟩:=ht
  exact⟨rfl,fun h2=>by simp[iV]⟩
 |(k,x)::ps,es,es',h,h',hc,ht=>by
  simp only[iV]at ht;obtain⟨⟨y,h1⟩,hf,ht2⟩:=bE.mp ht;clear ht;dsimp only at ht2;split at ht2
  ·rename_i hcond;obtain⟨rfl,k2⟩:=Ea _ _ _ _ (hc (k,x) (by simp)) hf
   obtain⟨rfl,k4⟩:=RJ ps _ _ _ _ (fun p hp=>hc p (by simp[hp])) ht2
   refine⟨rfl,fun h2=>?_⟩;simp only[iV];refine bE.mpr ⟨_,k2 h2, ?_⟩;dsimp only;rw[if_pos hcond];exact k4 h2
  ·cases ht2
omit [bJ] [Rounds] in
theorem abt{v:AV}{h:Heap}{cs:List AV}(hc:v.closed=true)(hp:eD h v=some cs)(h':Heap):eD h' v=some cs:=by
 cases v<;>simp only[AV.closed,eD,fJ,reduceCtorEq]at hc hp⊢;exact hp
theorem RN(hc:x.gu aQ=0){v:AV}{h1:Heap}(hx:cO call cx e h x=some (v,h1)):h1=h/\∀ h2,cO call cx e h2 x=some (v,h2):=by
 obtain⟨hx1,hx2⟩:=lQ hx
 have fin:x.plain=true->(h1=h/\∀ h2,xi call cx e h2 x.op=some (v,h2))->h1=h/\∀ h2,cO call cx e h2 x=some (v,h2) :=
  fun hp ⟨a,b⟩=>⟨a,fun h2=>qK (by rw[<-uz hp];exact hx2) (b h2)⟩
 cases hop:x.op<;>rw[hop]at hx1 fin<;>simp only[bC.gu,hop]at hc
 case load sh p =>
  split at hc
  ·rename_i hp;split at hc
   ·rename_i hsh;refine fin hp ?_;simp only[xi]at hx1⊢;obtain⟨cs,h2,hx3⟩:=bE.mp hx1;obtain⟨q,h3,he⟩:=mE.mp hx3;simp only[ax]at he;obtain⟨rfl,rfl⟩:=he;exact⟨rfl,fun h'=>bE.mpr ⟨cs,abt (GV hsh hx2) h2 h',mE.mpr ⟨q,h3,rfl⟩⟩⟩
   ·(repeat' split at hc)<;>cases hc
  ·cases hc
 case call=>(repeat' split at hc)<;>cases hc
 case alloc=>split at hc<;>cases hc
 case box=>split at hc<;>cases hc
 case store=>(repeat' split at hc)<;>cases hc
 case mk=>split at hc<;>cases hc
 case app=>split at hc<;>cases hc
 case bY z zero n ps =>
  split at hc
  ·rename_i hcond;simp only[bg,kr]at hcond;refine fin hcond.2 ?_;simp only[xi]at hx1⊢;obtain⟨⟨es,h2⟩,hs,he⟩:=mE.mp hx1;simp only[ax]at he;obtain⟨rfl,rfl⟩:=he;obtain⟨k1,k2⟩:=RJ ps _ _ _ _ (fun p hp=>GV (hcond.1 p hp) hx2) hs;exact⟨k1,fun h2=>mE.mpr ⟨_,k2 h2,rfl⟩⟩
  ·cases hc
 case bS p =>
  split at hc
  ·rename_i hcond;simp only[bg]at hcond;refine fin hcond.2 ?_;simp only[xi]at hx1⊢;split at hx1
   ·rename_i hval;obtain⟨⟨es,h2⟩,hs,he⟩:=mE.mp hx1;simp only[ax]at he;obtain⟨rfl,rfl⟩:=he;obtain⟨k1,k2⟩:=Ea _ _ _ _ (GV hcond.1 hx2) hs;exact⟨k1,fun h2=>by rw[if_pos hval];exact mE.mpr ⟨_,k2 h2,rfl⟩⟩
   ·cases hx1
  ·cases hc
 case copy=>cases hc
 case tT=>cases hc
 case rM=>cases hc
 case tX=>cases hc
 case rP=>split at hc<;>cases hc
 case rO=>split at hc<;>cases hc
 all_goals
  split at hc
  ·rename_i hp;refine fin hp ?_;clear fin hx hx2;simp only[xi]at hx1⊢
   first
    |(simp only[aP,ax]at hx1;obtain⟨rfl,rfl⟩:=hx1;exact⟨rfl,fun _=>rfl⟩)
    | (split at hx1
       ·rename_i hz;simp only[aP,ax]at hx1;obtain⟨rfl,rfl⟩:=hx1;exact⟨rfl,fun _=>by rw[if_pos hz]⟩
       ·cases hx1)
    |(obtain⟨q,h3,he⟩:=mE.mp hx1;simp only[ax]at he;obtain⟨rfl,rfl⟩:=he;exact⟨rfl,fun _=>mE.mpr ⟨q,h3,rfl⟩⟩)
    |(obtain⟨q0,h2,hx1⟩:=bE.mp hx1;obtain⟨q,h3,he⟩:=mE.mp hx1;simp only[ax]at he;obtain⟨rfl,rfl⟩:=he;exact⟨rfl,fun _=>bE.mpr ⟨q0,h2,mE.mpr ⟨q,h3,rfl⟩⟩⟩)
    | (split at hx1
       ·obtain⟨q,h3,he⟩:=mE.mp hx1;simp only[ax]at he;obtain⟨rfl,rfl⟩:=he;exact⟨rfl,fun _=>mE.mpr ⟨q,h3,rfl⟩⟩
       ·cases hx1)
    | (split at hx1
       ·obtain⟨q0,h2,hx1⟩:=bE.mp hx1;obtain⟨q,h3,he⟩:=mE.mp hx1;simp only[ax]at he;obtain⟨rfl,rfl⟩:=he;exact⟨rfl,fun _=>bE.mpr ⟨q0,h2,mE.mpr ⟨q,h3,rfl⟩⟩⟩
       ·cases hx1)
    | (split at hx1
       ·rename_i hz;obtain⟨q0,h2,hx1⟩:=bE.mp hx1;obtain⟨q,h3,he⟩:=mE.mp hx1;simp only[ax]at he;obtain⟨rfl,rfl⟩:=he;exact⟨rfl,fun _=>by rw[if_pos hz];exact bE.mpr ⟨q0,h2,mE.mpr ⟨q,h3,rfl⟩⟩⟩
       ·cases hx1)
  ·cases hc
theorem abu{f:aK}(ho:x.oneOf aQ f=true)(hc:x.jR.all (dn.ok cx e h)=true){g:Nat}{cs:List AV}(hf:f.ev e=.fn g cs):aQ (iq g)=true:=by
 unfold bC.oneOf at ho;split at ho
 ·rename_i t;obtain⟨c,hcm,hc2⟩:=rZ.mp ho;have:=kr.mp hc c hcm;cases c<;>simp only[fJ]at hc2;rename_i t' gs;simp only[bg,beq_iff_eq]at hc2;obtain⟨rfl,hgs⟩:=hc2;simp only[dn.ok]at this;have hf':e.get t=.fn g cs:=hf;rw[hf']at this;exact kr.mp hgs g (by simpa using this)
 ·simp only[aK.ev,AV.fn.injEq]at hf;rw[<-hf.1];exact ho
 ·cases ho
theorem KN(hcall:nA P aQ call)(hlo:cx.lo<=cx.base)(hc:x.gu aQ=1\/x.gu aQ=3\/x.gu aQ=4){v:AV}{h1:Heap}(hx:cO call cx e h x=some (v,h1)) :
  h1=h/\∀ i w b,h[i]?=some (w,.dead)->cO call cx e (h.set i b) x=some (v,h.set i b):=by
 obtain⟨hx1,hx2⟩:=lQ hx;cases hop:x.op
 case load sh p =>
  have hp:x.plain=true:=by
   simp only[bC.gu,hop]at hc;by_cases hp:x.plain=true
   ·exact hp
   ·rw[if_neg hp]at hc;simp at hc
  rw[hop]at hx1;simp only[xi]at hx1;obtain⟨cs,h2,hx3⟩:=bE.mp hx1;obtain⟨q,h3,he⟩:=mE.mp hx3;simp only[ax]at he;obtain⟨rfl,rfl⟩:=he;refine⟨rfl,fun i w b hd=>qK (by rw[<-uz hp];exact hx2) ?_⟩
  rw[hop];simp only[xi];exact bE.mpr ⟨cs,KF h2 hd,mE.mpr ⟨q,h3,rfl⟩⟩
 case call f args own =>
  have hp:(own.isEmpty&&x.oneOf aQ f&&x.plain)=true:=by
   simp only[bC.gu,hop]at hc;by_cases hp:(own.isEmpty&&x.oneOf aQ f&&x.plain)=true
   ·exact hp
   ·rw[if_neg hp]at hc;split at hc<;>simp at hc
  simp only[bg,rX]at hp;obtain⟨⟨rfl,hof⟩,hp⟩:=hp;rw[hop]at hx1
  have hfn:∃ g cs,f.ev e=.fn g cs:=by
   simp only[xi]at hx1;split at hx1
   ·rename_i g cs hf;exact⟨g,cs,hf⟩
   ·rename_i id aj hf;unfold bC.oneOf at hof;split at hof
    ·rename_i t;obtain⟨c,hcm,hc2⟩:=rZ.mp hof;have:=kr.mp hx2 c hcm;cases c<;>simp only[fJ]at hc2;rename_i t' gs;simp only[bg,beq_iff_eq]at hc2;obtain⟨rfl,hgs⟩:=hc2;simp only[dn.ok]at this;have hf':e.get t=.cZ id aj:=hf;rw[hf']at this;cases this
    ·simp[aK.ev]at hf
    ·cases hof
   ·cases hx1
  obtain⟨g,cs,hf⟩:=hfn;have BA:=abu hof hx2 hf
  have hh:h1=h:=by
   simp only[xi,hf]at hx1;obtain⟨⟨r,h2⟩,h3,hx1⟩:=bE.mp hx1;simp only[aP,ax]at hx1;obtain⟨_,rfl⟩:=hx1;exact hcall.shut BA h3
  subst hh;refine⟨rfl,fun i w b hd=>qK (by rw[<-uz hp];exact hx2) ?_⟩
  rw[hop];exact(KH (b:=b) hcall.ext hlo hx1 hd (.inr ⟨.inl rfl,g,cs,hf,.inl BA⟩)).2
 case rO f p =>
  have hp:x.plain=true:=by
   simp only[bC.gu,hop]at hc;by_cases hp:x.plain=true
   ·exact hp
   ·rw[if_neg hp]at hc;simp at hc
  rw[hop]at hx1;simp only[xi]at hx1;obtain⟨q,h3,he⟩:=mE.mp hx1;simp only[ax]at he;obtain⟨rfl,rfl⟩:=he;refine⟨rfl,fun i w b hd=>qK (by rw[<-uz hp];exact hx2) ?_⟩
  rw[hop];simp only[xi];exact mE.mpr ⟨q,Rs h3 hd,rfl⟩
 case rP p =>
  have hp:x.plain=true:=by
   simp only[bC.gu,hop]at hc;by_cases hp:x.plain=true
   ·exact hp
   ·rw[if_neg hp]at hc;simp at hc
  rw[hop]at hx1;simp only[xi]at hx1;obtain⟨es,h2,hx3⟩:=bE.mp hx1;obtain⟨q,h3,he⟩:=mE.mp hx3;simp only[ax]at he;obtain⟨rfl,rfl⟩:=he;refine⟨rfl,fun i w b hd=>qK (by rw[<-uz hp];exact hx2) ?_⟩
  rw[hop];simp only[xi];exact bE.mpr ⟨es,D8 h2 hd,mE.mpr ⟨q,h3,rfl⟩⟩
 all_goals (simp only[bC.gu,hop]at hc;(repeat' split at hc)<;>simp at hc)
theorem GZ{c:Nat}(hc:x.gu aQ=c)(h3:3<=c)(h7:c<=7){v:AV}{h1:Heap}(hx:cO call cx e h x=some (v,h1)):∃ S w,pO c S (fun h=>cO call cx e h x) h v w/\h1=appW w h:=by
 cases hop:x.op<;>simp only[bC.gu,hop]at hc
 case load sh p =>
  split at hc
  ·rename_i hp;split at hc
   ·omega
   split at hc
   ·rename_i he;subst hc;obtain⟨S,k1,k2⟩:=RB hop hp hx (.inl ⟨rfl,he⟩);exact⟨S,none,k1,k2⟩
   ·split at hc
    ·rename_i he;subst hc;obtain⟨S,k1,k2⟩:=RB hop hp hx (.inr ⟨rfl,he⟩);exact⟨S,none,k1,k2⟩
    ·omega
  ·omega
 case alloc s zero =>
  split at hc
  ·rename_i hp;simp only[bg]at hp;subst hc;exact RF (.inl ⟨_,hop⟩) hp.1 hp.2 hx
  ·omega
 case box s p =>
  split at hc
  ·rename_i hp;simp only[bg]at hp;subst hc;exact RF (.inr ⟨_,hop⟩) hp.1 hp.2 hx
  ·omega
 case store sz p q =>
  split at hc
  ·rename_i hp;split at hc
   ·rename_i hb;subst hc;exact abn hop hp hb hx
   ·split at hc
    ·rename_i hb;simp only[bg]at hb;subst hc;exact abo hop hp hb.1 hb.2 hx
    ·omega
  ·omega
 case mk s z zero lim n k =>
  split at hc
  ·rename_i hp;simp only[bg]at hp;subst hc;exact abp hop (by simpa using hp.1.1) hp.1.2 hp.2 hx
  ·omega
 case app s z lim p q =>
  split at hc
  ·rename_i hp;simp only[bg]at hp;subst hc;exact abq hop (by simpa using hp.1.1) hp.1.2 hp.2 hx
  ·omega
 case call f args own=>split at hc;(· omega);(split at hc<;>omega)
 all_goals first|(split at hc<;>omega)|omega
theorem abv(hc:x.gu aQ=8):∃ f args,x.op=.call f args []/\calm aQ f=true/\x.plain=true:=by
 cases hop:x.op<;>simp only[bC.gu,hop]at hc
 case call f args own =>
  split at hc
  ·omega
  ·split at hc
   ·rename_i h;simp only[bg,rX]at h;obtain⟨⟨rfl,h1⟩,h2⟩:=h;exact⟨f,args,rfl,h1,h2⟩
   ·omega
 all_goals ((repeat' split at hc)<;>omega)
theorem comm(hcall:nA P aQ call)(hlo:cx.lo<=cx.base)(hs:GN (x.gu aQ) (y.gu aQ)=true){vx vy:AV}{h1 h2:Heap}(hx:cO call cx e h x=some (vx,h1))(hy:cO call cx e h1 y=some (vy,h2)) :
  ∃ h1',cO call cx e h y=some (vy,h1')/\cO call cx e h1' x=some (vx,h2):=by
 by_cases hx0:x.gu aQ=0
 ·obtain⟨rfl,hall⟩:=RN hx0 hx;exact⟨h2,hy,hall h2⟩
 by_cases hy0:y.gu aQ=0
 ·obtain⟨rfl,hall⟩:=RN hy0 hy;exact⟨h,hall h,hx⟩
 have hrr:(x.gu aQ=1\/x.gu aQ=3\/x.gu aQ=4)->(y.gu aQ=1\/y.gu aQ=3\/y.gu aQ=4)->∃ h1',cO call cx e h y=some (vy,h1')/\cO call cx e h1' x=some (vx,h2):=by
  intro a b;obtain⟨rfl,_⟩:=KN hcall hlo a hx;obtain⟨rfl,_⟩:=KN hcall hlo b hy;exact⟨_,hy,hx⟩
 have hra:(x.gu aQ=1\/x.gu aQ=3\/x.gu aQ=4)->y.gu aQ=5->∃ h1',cO call cx e h y=some (vy,h1')/\cO call cx e h1' x=some (vx,h2):=by
  intro a b;obtain⟨rfl,hext⟩:=KN hcall hlo a hx;obtain⟨S,w,k1,rfl⟩:=GZ b (by omega) (by omega) hy
  cases w with
  |none=>exact⟨_,hy,hx⟩
  |some p =>
   obtain⟨i,bb⟩:=p;obtain⟨⟨q,q1,q2⟩,_⟩:=k1.wt i bb rfl;obtain⟨w0,b0⟩:=q
   have:b0=.dead:=by
    simp only[yA,beq_iff_eq]at q2;cases b0<;>simp[av.kind]at q2⊢
   subst this;exact⟨_,hy,hext i w0 bb q1⟩
 have hap:3<=x.gu aQ->3<=y.gu aQ->(x.gu aQ,y.gu aQ)∈Bz->∃ h1',cO call cx e h y=some (vy,h1')/\cO call cx e h1' x=some (vx,h2):=by
  intro a b hac;have RO:∀ p∈Bz,p.1<=7/\p.2<=7:=by decide
  obtain⟨S,w,k1,rfl⟩:=GZ rfl a (RO _ hac).1 hx;obtain⟨S',w',k1',rfl⟩:=GZ rfl b (RO _ hac).2 hy;exact abk hac k1 k1'
 have KO:x.gu aQ=8->y.gu aQ=5->∃ h1',cO call cx e h y=some (vy,h1')/\cO call cx e h1' x=some (vx,h2):=by
  intro a b;obtain⟨f,args,hop,hcm,hpl⟩:=abv a;obtain⟨S,w,k1,rfl⟩:=GZ b (by omega) (by omega) hy
  obtain⟨hx1,hx2⟩:=lQ hx;rw[hop]at hx1
  obtain⟨g,cs,hf,hg⟩:∃ g cs,f.ev e=.fn g cs/\aQ (iq g+5000)=true:=by
   unfold calm at hcm;split at hcm
   ·rename_i g cs;exact⟨g,cs,rfl,hcm⟩
   ·cases hcm
  have KP:∃ r,call.fn (iq g) (pE g (evs e args) cs) h cx.lo=some (r,h1):=by
   simp only[xi,hf]at hx1;obtain⟨⟨r,h3⟩,h4,hx1⟩:=bE.mp hx1;simp only[aP,ax]at hx1;obtain⟨_,rfl⟩:=hx1;exact⟨r,h4⟩
  obtain⟨r,KP⟩:=KP
  cases w with
  |none=>exact⟨h,k1.loc.run h (fun id hid=>by obtain⟨z,_,q⟩:=k1.rd id hid (by simp);simp[xg]at q),hx⟩
  |some p =>
   obtain⟨i,bb⟩:=p;obtain⟨⟨q,q1,q2⟩,_⟩:=k1.wt i bb rfl;obtain⟨w0,b0⟩:=q
   have:b0=.dead:=by
    simp only[yA,beq_iff_eq]at q2;cases b0<;>simp[av.kind]at q2⊢
   subst this
   have hS:∀ id,S id->id=i:=fun id hid=>by
    apply Classical.byContradiction;intro hne;obtain⟨z,_,q⟩:=k1.rd id hid (fun b hb=>hne (by cases hb;rfl))
    simp[xg]at q
   have GY:=hcall.ext.kp KP (.inr hg) q1;refine⟨h.set i bb,k1.loc.run h (fun id hid=>by rw[hS id hid,GY,q1]),qK (by rw[<-uz hpl];exact hx2) ?_⟩
   rw[hop];exact(KH (b:=bb) hcall.ext hlo hx1 GY (.inr ⟨.inl rfl,g,cs,hf,.inr hg⟩)).2
 revert hs hx0 hy0 hrr hra hap KO;generalize x.gu aQ=a;generalize y.gu aQ=c;intro hs hx0 hy0 hrr hra hap KO;unfold GN at hs;simp only[kN,beq_iff_eq,hx0,hy0,false_or]at hs;split at hs
 all_goals first
  |exact hrr (by decide) (by decide)
  |exact hra (by decide) (by decide)
  |exact KO (by decide) (by decide)
  |exact hap (by decide) (by decide) (by decide)
  |(cases hs)
theorem G5{z:bC}{p q:aK}(hn:z.neq p q=true)(hc:z.jR.all (dn.ok cx e h)=true):∃ i vi oi j vj oj,p.ev e=.aJ i vi oi/\q.ev e=.aJ j vj oj/\i≠j:=by
 unfold bC.neq at hn;split at hn
 ·rename_i a b;obtain⟨c,hcm,hc2⟩:=rZ.mp hn;have h1:=kr.mp hc c hcm;cases c<;>simp only[fJ]at hc2;rename_i a' b';simp only[kN,bg,beq_iff_eq]at hc2;simp only[dn.ok]at h1;split at h1
  ·rename_i i vi oi j vj oj g1 g2;have hij:i≠j:=by simpa using h1
   rcases hc2 with⟨rfl,rfl⟩|⟨rfl,rfl⟩
   ·exact⟨i,vi,oi,j,vj,oj,g1,g2,hij⟩
   ·exact⟨j,vj,oj,i,vi,oi,g2,g1,fun e=>hij e.symm⟩
  ·cases h1
 ·cases hn
theorem abw{cx:Cx}{h h1:Heap}{sz j vj oj:Nat}{v:AV}(hp:dK cx h sz (.aJ j vj oj) v=some h1):∃ b,h1=h.set j b:=by
 unfold dK at hp;split at hp
 ·dsimp only at hp;split at hp
  ·split at hp
   ·obtain⟨cs,_,rfl⟩:=mE.mp hp;exact⟨_,rfl⟩
   ·cases hp
  ·cases hp
 ·cases hp
theorem RP{z:bC}{sh:Sh}{p:aK}{i vi oi j:Nat}{b:Nat×av}(hop:z.op=.load sh p)(hz:z.plain=true)(hp:p.ev e=.aJ i vi oi)(hij:i≠j){v:AV}{h1:Heap}(hx:cO call cx e h z=some (v,h1)) :
  h1=h/\cO call cx e (h.set j b) z=some (v,h.set j b)/\∀ h0 b0,h=h0.set j b0->cO call cx e h0 z=some (v,h0):=by
 obtain⟨hx1,hx2⟩:=lQ hx;rw[hop]at hx1;simp only[xi,hp]at hx1;obtain⟨cs,h2,hx3⟩:=bE.mp hx1;obtain⟨q,h3,he⟩:=mE.mp hx3;simp only[ax]at he;obtain⟨rfl,rfl⟩:=he
 have go:∀ h':Heap,h'[i]?=h[i]?->cO call cx e h' z=some (q,h'):=fun h' hh=>by
  refine qK (by rw[<-uz hz];exact hx2) ?_
  rw[hop];simp only[xi,hp];have:eD h' (.aJ i vi oi)=eD h (.aJ i vi oi):=by simp only[eD,hh]
  rw[this,h2];simp only[Option.bind_some,h3,Option.map_some]
 refine⟨rfl,go _ (by rw[eG (fun e=>hij e.symm)]),fun h0 b0 hh=>go h0 (by rw[hh,eG (fun e=>hij e.symm)])⟩
theorem RQ{z:bC}{sz:Nat}{p y:aK}{j vj oj:Nat}(hop:z.op=.store sz p y)(hp:p.ev e=.aJ j vj oj){v:AV}{h1:Heap}(hx:cO call cx e h z=some (v,h1)):∃ b,h1=h.set j b:=by
 obtain⟨hx1,_⟩:=lQ hx;rw[hop]at hx1;simp only[xi,hp]at hx1;obtain⟨h2,h3,he⟩:=mE.mp hx1;simp only[ax]at he;obtain⟨_,rfl⟩:=he;exact abw h3
theorem abx(hs:GQ x y=true){vx vy:AV}{h1 h2:Heap}(hx:cO call cx e h x=some (vx,h1))(hy:cO call cx e h1 y=some (vy,h2)) :
  ∃ h1',cO call cx e h y=some (vy,h1')/\cO call cx e h1' x=some (vx,h2):=by
 unfold GQ at hs;simp only[bg]at hs;obtain⟨⟨px,py⟩,hs⟩:=hs;have RU:=(lQ hx).2;have RV:=(lQ hy).2;split at hs
 ·rename_i sh p sz q w ox oy;rw[kN]at hs;obtain⟨i,vi,oi,j,vj,oj,e1,e2,hij⟩:=hs.elim (fun k=>G5 k RU) (fun k=>G5 k RV);obtain⟨b,rfl⟩:=RQ oy e2 hy;obtain⟨rfl,k2,_⟩:=RP (b:=b) ox px e1 hij hx;exact⟨_,hy,k2⟩
 ·rename_i sz q w sh p ox oy;rw[kN]at hs;obtain⟨i,vi,oi,j,vj,oj,e1,e2,hij⟩:=hs.elim (fun k=>G5 k RU) (fun k=>G5 k RV);obtain⟨b,rfl⟩:=RQ ox e2 hx;obtain⟨rfl,_,k3⟩:=RP (b:=b) oy py e1 hij hy;exact⟨h,k3 h b rfl,hx⟩
 ·cases hs
theorem RX{e1:Env}{h1:Heap}(hx:iA call cx x e h=some (e1,h1)) :
  (∃ v,cO call cx e h x=some (v,h1)/\e1=e.put x.dst v/\∀ h' v' h1',cO call cx e h' x=some (v',h1')->iA call cx x e h'=some (e.put x.dst v',h1'))\/(e1=e.put x.dst (.tuple [])/\h1=h/\∀ h',iA call cx x e h'=some (e.put x.dst (.tuple []),h')):=by
 unfold iA at hx⊢;split at hx
 ·rename_i hg;obtain⟨⟨v,h2⟩,h3,he⟩:=mE.mp hx;simp only[ax]at he;obtain⟨rfl,rfl⟩:=he;exact .inl ⟨v,h3,rfl,fun h' v' h1' hh=>mE.mpr ⟨_,hh,rfl⟩⟩
 ·rename_i g want hg;obtain⟨b,hb,hx2⟩:=bE.mp hx;clear hx;rw[hb];simp only[Option.bind_some];split at hx2
  ·rename_i hw;obtain⟨⟨v,h2⟩,h3,he⟩:=mE.mp hx2;simp only[ax]at he;obtain⟨rfl,rfl⟩:=he;exact .inl ⟨v,h3,rfl,fun h' v' h1' hh=>by rw[if_pos hw];exact mE.mpr ⟨_,hh,rfl⟩⟩
  ·rename_i hw;simp only[aP,ax]at hx2;obtain⟨rfl,rfl⟩:=hx2;exact .inr ⟨rfl,rfl,fun h'=>by rw[if_neg hw]⟩
theorem aby(hcall:nA P aQ call)(hlo:cx.lo<=cx.base)(hs:(GN (x.gu aQ) (y.gu aQ)||GQ x y)=true){ex ey:Env}{h1 h2:Heap}(hx:iA call cx x e h=some (ex,h1))(hy:iA call cx y e h1=some (ey,h2)) :
  ∃ h1',iA call cx y e h=some (ey,h1')/\iA call cx x e h1'=some (ex,h2):=by
 rcases RX hx with⟨vx,x1,rfl,x2⟩|⟨rfl,rfl,x2⟩
 ·rcases RX hy with⟨vy,y1,rfl,y2⟩|⟨rfl,rfl,y2⟩
  ·rw[kN]at hs;rcases hs with hs|hs
   ·obtain⟨h1',k1,k2⟩:=comm hcall hlo hs x1 y1;exact⟨h1',y2 _ _ _ k1,x2 _ _ _ k2⟩
   ·obtain⟨h1',k1,k2⟩:=abx hs x1 y1;exact⟨h1',y2 _ _ _ k1,x2 _ _ _ k2⟩
  ·exact⟨h,y2 h,hx⟩
 ·exact⟨h2,hy,x2 h2⟩
theorem swap(hcall:nA P aQ call)(hlo:cx.lo<=cx.base){e1 e2:Env}{h1 h2:Heap}(hs:D6 aQ x y=true)(hx:iA call cx x e h=some (e1,h1))(hy:iA call cx y e1 h1=some (e2,h2)) :
  ∃ wY h1' e2',iA call cx y e h=some (wY,h1')/\iA call cx x wY h1'=some (e2',h2)/\pM e2 e2':=by
 simp only[D6,bg,kr,ku]at hs;obtain⟨⟨⟨s1,s2⟩,s3⟩,s4⟩:=hs;obtain⟨vx,rfl,_⟩:=GR (e':=e) (fun _ _=>rfl) hx
 have abz:∀ t∈y.tmps,(e.put x.dst vx).get t=e.get t:=fun t ht=>by
  rw[Env.get_put,if_neg];have:=s1 t ht;simpa[bC.writes]using this
 obtain⟨vy,rfl,hy'⟩:=GR abz hy
 have abA:∀ t∈x.tmps,e.get t=(e.put y.dst vy).get t:=fun t ht=>by
  rw[Env.get_put,if_neg];have:=s2 t ht;simpa[bC.writes]using this
 have heq:pM ((e.put x.dst vx).put y.dst vy) ((e.put y.dst vy).put x.dst vx):=fun t=>by
  simp only[Env.get_put];by_cases h1:y.dst=some t
  ·by_cases h2:x.dst=some t
   ·rw[h2]at s3;simp[bC.writes,h1]at s3
   ·simp[h1,h2]
  ·by_cases h2:x.dst=some t<;>simp[h1,h2]
 obtain⟨h1',k1,k2⟩:=aby hcall hlo s4 hx hy';obtain⟨v,he,hx2⟩:=GR abA k2;refine⟨_,h1',_,k1,hx2, ?_⟩;intro t;rw[heq t,Env.get_put (e.put y.dst vy) x.dst v,Env.get_put (e.put y.dst vy) x.dst vx];have:=congrArg (fun E=>Env.get E t) he;simp only[Env.get_put]at this;by_cases h:x.dst=some t
 ·simpa[h]using this
 ·simp[h]
end
theorem bubble{P:Program}{aQ:Nat->Bool}{call:Callee}(hcall:nA P aQ call){cx:Cx}(hlo:cx.lo<=cx.base){s:bC}:∀{l1 l2:List bC} {e e1:Env} {h h1:Heap},(∀ y∈l1,D6 aQ y s=true)->fQ call cx (l1++s::l2) e h=some (e1,h1) ->
  ∃ wY,fQ call cx (s::(l1++l2)) e h=some (wY,h1)/\pM e1 wY
 |[],l2,e,e1,h,h1,_,hx=>⟨e1,hx,fun _=>rfl⟩
 |y::l1,l2,e,e1,h,h1,hs,hx=>by
  obtain⟨⟨e2,h2⟩,hy,hx⟩:=bE.mp hx;obtain⟨e3,hx,heq⟩:=bubble hcall hlo (fun z hz=>hs z (by simp[hz])) hx
  obtain⟨⟨e4,h4⟩,hs',hx⟩:=bE.mp hx;obtain⟨e5,h5,e6,k1,k2,k3⟩:=swap hcall hlo (hs y (by simp)) hy hs'
  obtain⟨e7,k4,k5⟩:=Rn k3 hx;refine⟨e7, ?_,heq.trans k5⟩;exact bE.mpr ⟨_,k1,bE.mpr ⟨_,k2,k4⟩⟩
end Go.VI
