/- Operations exchanged. -/
import Derived.Test.YtfpoegnmeoghpaaGreatDoorVINB
set_option linter.unusedVariables false
set_option linter.unusedSimpArgs false
namespace Go.VI
set_option linter.unusedSectionVars false
variable [kH][Rounds]
section
variable {P:Program}{eB:Nat->Bool}{call:Callee}{cx:Cx}{e:Env}{h:Heap}{x y:jc}
theorem ayW{base z:Nat}{env:Env}:∀(ps:List (Nat×bD)) (es es':List AV) (h h':Heap),(∀ p∈ps,(p.2.ev env).closed=true)->FI env base z ps es h=some (es',h')->h'=h/\∀ h2,FI env base z ps es h2=some (es',h2)
 |[],es,es',h,h',_,ht=>by
  simp only[FI,dz,bf]at ht;obtain⟨rfl,rfl⟩:=ht
  exact⟨rfl,fun h2=>by simp[FI]⟩
 |(k,x)::ps,es,es',h,h',hc,ht=>by
  simp only[FI]at ht;obtain⟨⟨y,h1⟩,hf,ht2⟩:=bE.mp ht;clear ht;dsimp only at ht2;split at ht2
  ·rename_i hcond;obtain⟨rfl,k2⟩:=alL _ _ _ _ (hc (k,x) (by simp)) hf
   obtain⟨rfl,k4⟩:=ayW ps _ _ _ _ (fun p hp=>hc p (by simp[hp])) ht2
   refine⟨rfl,fun h2=>?_⟩;simp only[FI];refine bE.mpr ⟨_,k2 h2, ?_⟩;dsimp only;rw[if_pos hcond];exact k4 h2
  ·cases ht2
omit [kH] [Rounds] in
theorem aFN{v:AV}{h:Heap}{cs:List AV}(hc:v.closed=true)(hp:qL h v=some cs)(h':Heap):qL h' v=some cs:=by
 cases v<;>simp only[AV.closed,qL,uM,reduceCtorEq]at hc hp⊢;exact hp
theorem ayX(hc:x.yZ eB=0){v:AV}{h1:Heap}(hx:l6 call cx e h x=some (v,h1)):h1=h/\∀ h2,l6 call cx e h2 x=some (v,h2):=by
 obtain⟨hx1,hx2⟩:=IQ hx
 have fin:x.plain=true->(h1=h/\∀ h2,xi call cx e h2 x.op=some (v,h2))->h1=h/\∀ h2,l6 call cx e h2 x=some (v,h2) :=
  fun hp ⟨a,b⟩=>⟨a,fun h2=>Tg (by rw[<-Y5 hp];exact hx2) (b h2)⟩
 cases hop:x.op<;>rw[hop]at hx1 fin<;>simp only[jc.yZ,hop]at hc
 case load sh p =>
  split at hc
  ·rename_i hp;split at hc
   ·rename_i hsh;refine fin hp ?_;simp only[xi]at hx1⊢;obtain⟨cs,h2,hx3⟩:=bE.mp hx1;obtain⟨q,h3,he⟩:=mE.mp hx3;simp only[bf]at he;obtain⟨rfl,rfl⟩:=he;exact⟨rfl,fun h'=>bE.mpr ⟨cs,aFN (anY hsh hx2) h2 h',mE.mpr ⟨q,h3,rfl⟩⟩⟩
   ·(repeat' split at hc)<;>cases hc
  ·cases hc
 case call=>(repeat' split at hc)<;>cases hc
 case alloc=>split at hc<;>cases hc
 case box=>split at hc<;>cases hc
 case store=>(repeat' split at hc)<;>cases hc
 case mk=>split at hc<;>cases hc
 case app=>split at hc<;>cases hc
 case pF z zero n ps =>
  split at hc
  ·rename_i hcond;simp only[fw,Gq]at hcond;refine fin hcond.2 ?_;simp only[xi]at hx1⊢;obtain⟨⟨es,h2⟩,hs,he⟩:=mE.mp hx1;simp only[bf]at he;obtain⟨rfl,rfl⟩:=he;obtain⟨k1,k2⟩:=ayW ps _ _ _ _ (fun p hp=>anY (hcond.1 p hp) hx2) hs;exact⟨k1,fun h2=>mE.mpr ⟨_,k2 h2,rfl⟩⟩
  ·cases hc
 case nK p =>
  split at hc
  ·rename_i hcond;simp only[fw]at hcond;refine fin hcond.2 ?_;simp only[xi]at hx1⊢;split at hx1
   ·rename_i hval;obtain⟨⟨es,h2⟩,hs,he⟩:=mE.mp hx1;simp only[bf]at he;obtain⟨rfl,rfl⟩:=he;obtain⟨k1,k2⟩:=alL _ _ _ _ (anY hcond.1 hx2) hs;exact⟨k1,fun h2=>by rw[if_pos hval];exact mE.mpr ⟨_,k2 h2,rfl⟩⟩
   ·cases hx1
  ·cases hc
 case copy=>cases hc
 case Zo=>cases hc
 case YV=>cases hc
 case Zq=>cases hc
 case FH=>split at hc<;>cases hc
 case Rb=>cases hc
 case YX=>split at hc<;>cases hc
 case YW=>split at hc<;>cases hc
 all_goals
  split at hc
  ·rename_i hp;refine fin hp ?_;clear fin hx hx2;simp only[xi]at hx1⊢
   first
    |(simp only[dz,bf]at hx1;obtain⟨rfl,rfl⟩:=hx1;exact⟨rfl,fun _=>rfl⟩)
    | (split at hx1
       ·rename_i hz;simp only[dz,bf]at hx1;obtain⟨rfl,rfl⟩:=hx1;exact⟨rfl,fun _=>by rw[if_pos hz]⟩
       ·cases hx1)
    |(obtain⟨q,h3,he⟩:=mE.mp hx1;simp only[bf]at he;obtain⟨rfl,rfl⟩:=he;exact⟨rfl,fun _=>mE.mpr ⟨q,h3,rfl⟩⟩)
    |(obtain⟨q0,h2,hx1⟩:=bE.mp hx1;obtain⟨q,h3,he⟩:=mE.mp hx1;simp only[bf]at he;obtain⟨rfl,rfl⟩:=he;exact⟨rfl,fun _=>bE.mpr ⟨q0,h2,mE.mpr ⟨q,h3,rfl⟩⟩⟩)
    | (split at hx1
       ·obtain⟨q,h3,he⟩:=mE.mp hx1;simp only[bf]at he;obtain⟨rfl,rfl⟩:=he;exact⟨rfl,fun _=>mE.mpr ⟨q,h3,rfl⟩⟩
       ·cases hx1)
    | (split at hx1
       ·obtain⟨q0,h2,hx1⟩:=bE.mp hx1;obtain⟨q,h3,he⟩:=mE.mp hx1;simp only[bf]at he;obtain⟨rfl,rfl⟩:=he;exact⟨rfl,fun _=>bE.mpr ⟨q0,h2,mE.mpr ⟨q,h3,rfl⟩⟩⟩
       ·cases hx1)
    | (split at hx1
       ·rename_i hz;obtain⟨q0,h2,hx1⟩:=bE.mp hx1;obtain⟨q,h3,he⟩:=mE.mp hx1;simp only[bf]at he;obtain⟨rfl,rfl⟩:=he;exact⟨rfl,fun _=>by rw[if_pos hz];exact bE.mpr ⟨q0,h2,mE.mpr ⟨q,h3,rfl⟩⟩⟩
       ·cases hx1)
  ·cases hc
theorem aFO{f:bD}(ho:x.oneOf eB f=true)(hc:x.GI.all (ou.ok cx e h)=true){g:Nat}{cs:List AV}(hf:f.ev e=.fn g cs):eB (u7 g)=true:=by
 unfold jc.oneOf at ho;split at ho
 ·rename_i t;obtain⟨c,hcm,hc2⟩:=YM.mp ho;have:=Gq.mp hc c hcm;cases c<;>simp only[uM]at hc2;rename_i t' gs;simp only[fw,beq_iff_eq]at hc2;obtain⟨rfl,hgs⟩:=hc2;simp only[ou.ok]at this;have hf':e.get t=.fn g cs:=hf;rw[hf']at this;exact Gq.mp hgs g (by simpa using this)
 ·simp only[bD.ev,AV.fn.injEq]at hf;rw[<-hf.1];exact ho
 ·cases ho
theorem asa(hcall:Rk P eB call)(hlo:cx.lo<=cx.base)(hc:x.yZ eB=1\/x.yZ eB=3\/x.yZ eB=4){v:AV}{h1:Heap}(hx:l6 call cx e h x=some (v,h1)) :
  h1=h/\∀ i w b,h[i]?=some (w,.dead)->l6 call cx e (h.set i b) x=some (v,h.set i b):=by
 obtain⟨hx1,hx2⟩:=IQ hx;cases hop:x.op
 case load sh p =>
  have hp:x.plain=true:=by
   simp only[jc.yZ,hop]at hc;by_cases hp:x.plain=true
   ·exact hp
   ·rw[if_neg hp]at hc;simp at hc
  rw[hop]at hx1;simp only[xi]at hx1;obtain⟨cs,h2,hx3⟩:=bE.mp hx1;obtain⟨q,h3,he⟩:=mE.mp hx3;simp only[bf]at he;obtain⟨rfl,rfl⟩:=he;refine⟨rfl,fun i w b hd=>Tg (by rw[<-Y5 hp];exact hx2) ?_⟩
  rw[hop];simp only[xi];exact bE.mpr ⟨cs,ar5 h2 hd,mE.mpr ⟨q,h3,rfl⟩⟩
 case call f args own =>
  have hp:(own.isEmpty&&x.oneOf eB f&&x.plain)=true:=by
   simp only[jc.yZ,hop]at hc;by_cases hp:(own.isEmpty&&x.oneOf eB f&&x.plain)=true
   ·exact hp
   ·rw[if_neg hp]at hc;split at hc<;>simp at hc
  simp only[fw,Zz]at hp;obtain⟨⟨rfl,hof⟩,hp⟩:=hp;rw[hop]at hx1
  have hfn:∃ g cs,f.ev e=.fn g cs:=by
   simp only[xi]at hx1;split at hx1
   ·rename_i g cs hf;exact⟨g,cs,hf⟩
   ·rename_i id ak hf;unfold jc.oneOf at hof;split at hof
    ·rename_i t;obtain⟨c,hcm,hc2⟩:=YM.mp hof;have:=Gq.mp hx2 c hcm;cases c<;>simp only[uM]at hc2;rename_i t' gs;simp only[fw,beq_iff_eq]at hc2;obtain⟨rfl,hgs⟩:=hc2;simp only[ou.ok]at this;have hf':e.get t=.lF id ak:=hf;rw[hf']at this;cases this
    ·simp[bD.ev]at hf
    ·cases hof
   ·cases hx1
  obtain⟨g,cs,hf⟩:=hfn;have aj6:=aFO hof hx2 hf
  have hh:h1=h:=by
   simp only[xi,hf]at hx1;obtain⟨⟨r,h2⟩,h3,hx1⟩:=bE.mp hx1;simp only[dz,bf]at hx1;obtain⟨_,rfl⟩:=hx1;exact hcall.shut aj6 h3
  subst hh;refine⟨rfl,fun i w b hd=>Tg (by rw[<-Y5 hp];exact hx2) ?_⟩
  rw[hop];exact(alK (b:=b) hcall.ext hlo hx1 hd (.inr ⟨.inl rfl,g,cs,hf,.inl aj6⟩)).2
 case YW f p =>
  have hp:x.plain=true:=by
   simp only[jc.yZ,hop]at hc;by_cases hp:x.plain=true
   ·exact hp
   ·rw[if_neg hp]at hc;simp at hc
  rw[hop]at hx1;simp only[xi]at hx1;obtain⟨q,h3,he⟩:=mE.mp hx1;simp only[bf]at he;obtain⟨rfl,rfl⟩:=he;refine⟨rfl,fun i w b hd=>Tg (by rw[<-Y5 hp];exact hx2) ?_⟩
  rw[hop];simp only[xi];exact mE.mpr ⟨q,ayH h3 hd,rfl⟩
 case YX p =>
  have hp:x.plain=true:=by
   simp only[jc.yZ,hop]at hc;by_cases hp:x.plain=true
   ·exact hp
   ·rw[if_neg hp]at hc;simp at hc
  rw[hop]at hx1;simp only[xi]at hx1;obtain⟨es,h2,hx3⟩:=bE.mp hx1;obtain⟨q,h3,he⟩:=mE.mp hx3;simp only[bf]at he;obtain⟨rfl,rfl⟩:=he;refine⟨rfl,fun i w b hd=>Tg (by rw[<-Y5 hp];exact hx2) ?_⟩
  rw[hop];simp only[xi];exact bE.mpr ⟨es,alI h2 hd,mE.mpr ⟨q,h3,rfl⟩⟩
 all_goals (simp only[jc.yZ,hop]at hc;(repeat' split at hc)<;>simp at hc)
theorem an1{c:Nat}(hc:x.yZ eB=c)(h3:3<=c)(h7:c<=7){v:AV}{h1:Heap}(hx:l6 call cx e h x=some (v,h1)):∃ S w,Tf c S (fun h=>l6 call cx e h x) h v w/\h1=appW w h:=by
 cases hop:x.op<;>simp only[jc.yZ,hop]at hc
 case load sh p =>
  split at hc
  ·rename_i hp;split at hc
   ·omega
   split at hc
   ·rename_i he;subst hc;obtain⟨S,k1,k2⟩:=ayQ hop hp hx (.inl ⟨rfl,he⟩);exact⟨S,none,k1,k2⟩
   ·split at hc
    ·rename_i he;subst hc;obtain⟨S,k1,k2⟩:=ayQ hop hp hx (.inr ⟨rfl,he⟩);exact⟨S,none,k1,k2⟩
    ·omega
  ·omega
 case alloc s zero =>
  split at hc
  ·rename_i hp;simp only[fw]at hp;subst hc;exact ayS (.inl ⟨_,hop⟩) hp.1 hp.2 hx
  ·omega
 case box s p =>
  split at hc
  ·rename_i hp;simp only[fw]at hp;subst hc;exact ayS (.inr ⟨_,hop⟩) hp.1 hp.2 hx
  ·omega
 case store sz p q =>
  split at hc
  ·rename_i hp;split at hc
   ·rename_i hb;subst hc;exact aFI hop hp hb hx
   ·split at hc
    ·rename_i hb;simp only[fw]at hb;subst hc;exact aFJ hop hp hb.1 hb.2 hx
    ·omega
  ·omega
 case mk s z zero lim n k =>
  split at hc
  ·rename_i hp;simp only[fw]at hp;subst hc;exact aFK hop (by simpa using hp.1.1) hp.1.2 hp.2 hx
  ·omega
 case app s z lim p q =>
  split at hc
  ·rename_i hp;simp only[fw]at hp;subst hc;exact aFL hop (by simpa using hp.1.1) hp.1.2 hp.2 hx
  ·omega
 case call f args own=>split at hc;(· omega);(split at hc<;>omega)
 all_goals first|(split at hc<;>omega)|omega
theorem aFP(hc:x.yZ eB=8):∃ f args,x.op=.call f args []/\calm eB f=true/\x.plain=true:=by
 cases hop:x.op<;>simp only[jc.yZ,hop]at hc
 case call f args own =>
  split at hc
  ·omega
  ·split at hc
   ·rename_i h;simp only[fw,Zz]at h;obtain⟨⟨rfl,h1⟩,h2⟩:=h;exact⟨f,args,rfl,h1,h2⟩
   ·omega
 all_goals ((repeat' split at hc)<;>omega)
theorem comm(hcall:Rk P eB call)(hlo:cx.lo<=cx.base)(hs:anS (x.yZ eB) (y.yZ eB)=true){vx vy:AV}{h1 h2:Heap}(hx:l6 call cx e h x=some (vx,h1))(hy:l6 call cx e h1 y=some (vy,h2)) :
  ∃ h1',l6 call cx e h y=some (vy,h1')/\l6 call cx e h1' x=some (vx,h2):=by
 by_cases hx0:x.yZ eB=0
 ·obtain⟨rfl,hall⟩:=ayX hx0 hx;exact⟨h2,hy,hall h2⟩
 by_cases hy0:y.yZ eB=0
 ·obtain⟨rfl,hall⟩:=ayX hy0 hy;exact⟨h,hall h,hx⟩
 have hrr:(x.yZ eB=1\/x.yZ eB=3\/x.yZ eB=4)->(y.yZ eB=1\/y.yZ eB=3\/y.yZ eB=4)->∃ h1',l6 call cx e h y=some (vy,h1')/\l6 call cx e h1' x=some (vx,h2):=by
  intro a b;obtain⟨rfl,_⟩:=asa hcall hlo a hx;obtain⟨rfl,_⟩:=asa hcall hlo b hy;exact⟨_,hy,hx⟩
 have hra:(x.yZ eB=1\/x.yZ eB=3\/x.yZ eB=4)->y.yZ eB=5->∃ h1',l6 call cx e h y=some (vy,h1')/\l6 call cx e h1' x=some (vx,h2):=by
  intro a b;obtain⟨rfl,hext⟩:=asa hcall hlo a hx;obtain⟨S,w,k1,rfl⟩:=an1 b (by omega) (by omega) hy
  cases w with
  |none=>exact⟨_,hy,hx⟩
  |some p =>
   obtain⟨i,bb⟩:=p;obtain⟨⟨q,q1,q2⟩,_⟩:=k1.wt i bb rfl;obtain⟨w0,b0⟩:=q
   have:b0=.dead:=by
    simp only[ac2,beq_iff_eq]at q2;cases b0<;>simp[aU.kind]at q2⊢
   subst this;exact⟨_,hy,hext i w0 bb q1⟩
 have hap:3<=x.yZ eB->3<=y.yZ eB->(x.yZ eB,y.yZ eB)∈aj5->∃ h1',l6 call cx e h y=some (vy,h1')/\l6 call cx e h1' x=some (vx,h2):=by
  intro a b hac;have h77:∀ p∈aj5,p.1<=7/\p.2<=7:=by decide
  obtain⟨S,w,k1,rfl⟩:=an1 rfl a (h77 _ hac).1 hx;obtain⟨S',w',k1',rfl⟩:=an1 rfl b (h77 _ hac).2 hy;exact aFF hac k1 k1'
 have hqa:x.yZ eB=8->y.yZ eB=5->∃ h1',l6 call cx e h y=some (vy,h1')/\l6 call cx e h1' x=some (vx,h2):=by
  intro a b;obtain⟨f,args,hop,hcm,hpl⟩:=aFP a;obtain⟨S,w,k1,rfl⟩:=an1 b (by omega) (by omega) hy
  obtain⟨hx1,hx2⟩:=IQ hx;rw[hop]at hx1
  obtain⟨g,cs,hf,hg⟩:∃ g cs,f.ev e=.fn g cs/\eB (u7 g+5000)=true:=by
   unfold calm at hcm;split at hcm
   ·rename_i g cs;exact⟨g,cs,rfl,hcm⟩
   ·cases hcm
  have asc:∃ r,call.fn (u7 g) (II g (evs e args) cs) h cx.lo=some (r,h1):=by
   simp only[xi,hf]at hx1;obtain⟨⟨r,h3⟩,h4,hx1⟩:=bE.mp hx1;simp only[dz,bf]at hx1;obtain⟨_,rfl⟩:=hx1;exact⟨r,h4⟩
  obtain⟨r,asc⟩:=asc
  cases w with
  |none=>exact⟨h,k1.loc.run h (fun id hid=>by obtain⟨z,_,q⟩:=k1.rd id hid (by simp);simp[ace]at q),hx⟩
  |some p =>
   obtain⟨i,bb⟩:=p;obtain⟨⟨q,q1,q2⟩,_⟩:=k1.wt i bb rfl;obtain⟨w0,b0⟩:=q
   have:b0=.dead:=by
    simp only[ac2,beq_iff_eq]at q2;cases b0<;>simp[aU.kind]at q2⊢
   subst this
   have hS:∀ id,S id->id=i:=fun id hid=>by
    apply Classical.byContradiction;intro hne;obtain⟨z,_,q⟩:=k1.rd id hid (fun b hb=>hne (by cases hb;rfl))
    simp[ace]at q
   have an0:=hcall.ext.kp asc (.inr hg) q1;refine⟨h.set i bb,k1.loc.run h (fun id hid=>by rw[hS id hid,an0,q1]),Tg (by rw[<-Y5 hpl];exact hx2) ?_⟩
   rw[hop];exact(alK (b:=bb) hcall.ext hlo hx1 an0 (.inr ⟨.inl rfl,g,cs,hf,.inr hg⟩)).2
 revert hs hx0 hy0 hrr hra hap hqa;generalize x.yZ eB=a;generalize y.yZ eB=c;intro hs hx0 hy0 hrr hra hap hqa;unfold anS at hs;simp only[Jz,beq_iff_eq,hx0,hy0,false_or]at hs;split at hs
 all_goals first
  |exact hrr (by decide) (by decide)
  |exact hra (by decide) (by decide)
  |exact hqa (by decide) (by decide)
  |exact hap (by decide) (by decide) (by decide)
  |(cases hs)
theorem an2{z:jc}{p q:bD}(hn:z.neq p q=true)(hc:z.GI.all (ou.ok cx e h)=true):∃ i vi oi j vj oj,p.ev e=.bq i vi oi/\q.ev e=.bq j vj oj/\i≠j:=by
 unfold jc.neq at hn;split at hn
 ·rename_i a b;obtain⟨c,hcm,hc2⟩:=YM.mp hn;have h1:=Gq.mp hc c hcm;cases c<;>simp only[uM]at hc2;rename_i a' b';simp only[Jz,fw,beq_iff_eq]at hc2;simp only[ou.ok]at h1;split at h1
  ·rename_i i vi oi j vj oj g1 g2;have hij:i≠j:=by simpa using h1
   rcases hc2 with⟨rfl,rfl⟩|⟨rfl,rfl⟩
   ·exact⟨i,vi,oi,j,vj,oj,g1,g2,hij⟩
   ·exact⟨j,vj,oj,i,vi,oi,g2,g1,fun e=>hij e.symm⟩
  ·cases h1
 ·cases hn
theorem aFQ{cx:Cx}{h h1:Heap}{sz j vj oj:Nat}{v:AV}(hp:qE cx h sz (.bq j vj oj) v=some h1):∃ b,h1=h.set j b:=by
 unfold qE at hp;split at hp
 ·dsimp only at hp;split at hp
  ·split at hp
   ·obtain⟨cs,_,rfl⟩:=mE.mp hp;exact⟨_,rfl⟩
   ·cases hp
  ·cases hp
 ·cases hp
theorem ayZ{z:jc}{sh:Sh}{p:bD}{i vi oi j:Nat}{b:Nat×aU}(hop:z.op=.load sh p)(hz:z.plain=true)(hp:p.ev e=.bq i vi oi)(hij:i≠j){v:AV}{h1:Heap}(hx:l6 call cx e h z=some (v,h1)) :
  h1=h/\l6 call cx e (h.set j b) z=some (v,h.set j b)/\∀ h0 b0,h=h0.set j b0->l6 call cx e h0 z=some (v,h0):=by
 obtain⟨hx1,hx2⟩:=IQ hx;rw[hop]at hx1;simp only[xi,hp]at hx1;obtain⟨cs,h2,hx3⟩:=bE.mp hx1;obtain⟨q,h3,he⟩:=mE.mp hx3;simp only[bf]at he;obtain⟨rfl,rfl⟩:=he
 have go:∀ h':Heap,h'[i]?=h[i]?->l6 call cx e h' z=some (q,h'):=fun h' hh=>by
  refine Tg (by rw[<-Y5 hz];exact hx2) ?_
  rw[hop];simp only[xi,hp];have:qL h' (.bq i vi oi)=qL h (.bq i vi oi):=by simp only[qL,hh]
  rw[this,h2];simp only[Option.bind_some,h3,Option.map_some]
 refine⟨rfl,go _ (by rw[tL (fun e=>hij e.symm)]),fun h0 b0 hh=>go h0 (by rw[hh,tL (fun e=>hij e.symm)])⟩
theorem ay0{z:jc}{sz:Nat}{p y:bD}{j vj oj:Nat}(hop:z.op=.store sz p y)(hp:p.ev e=.bq j vj oj){v:AV}{h1:Heap}(hx:l6 call cx e h z=some (v,h1)):∃ b,h1=h.set j b:=by
 obtain⟨hx1,_⟩:=IQ hx;rw[hop]at hx1;simp only[xi,hp]at hx1;obtain⟨h2,h3,he⟩:=mE.mp hx1;simp only[bf]at he;obtain⟨_,rfl⟩:=he;exact aFQ h3
theorem aFR(hs:anT x y=true){vx vy:AV}{h1 h2:Heap}(hx:l6 call cx e h x=some (vx,h1))(hy:l6 call cx e h1 y=some (vy,h2)) :
  ∃ h1',l6 call cx e h y=some (vy,h1')/\l6 call cx e h1' x=some (vx,h2):=by
 unfold anT at hs;simp only[fw]at hs;obtain⟨⟨px,py⟩,hs⟩:=hs;have cx':=(IQ hx).2;have cy':=(IQ hy).2;split at hs
 ·rename_i sh p sz q w ox oy;rw[Jz]at hs;obtain⟨i,vi,oi,j,vj,oj,e1,e2,hij⟩:=hs.elim (fun k=>an2 k cx') (fun k=>an2 k cy');obtain⟨b,rfl⟩:=ay0 oy e2 hy;obtain⟨rfl,k2,_⟩:=ayZ (b:=b) ox px e1 hij hx;exact⟨_,hy,k2⟩
 ·rename_i sz q w sh p ox oy;rw[Jz]at hs;obtain⟨i,vi,oi,j,vj,oj,e1,e2,hij⟩:=hs.elim (fun k=>an2 k cx') (fun k=>an2 k cy');obtain⟨b,rfl⟩:=ay0 ox e2 hx;obtain⟨rfl,_,k3⟩:=ayZ (b:=b) oy py e1 hij hy;exact⟨h,k3 h b rfl,hx⟩
 ·cases hs
theorem ay5{z:jc}{sh:Sh}{p:bD}(hop:z.op=.load sh p)(hz:z.plain=true){v:AV}{h1:Heap}(hx:l6 call cx e h z=some (v,h1)) :
  h1=h/\∀ h',qL h' (p.ev e)=qL h (p.ev e)->l6 call cx e h' z=some (v,h'):=by
 obtain⟨hx1,hx2⟩:=IQ hx;rw[hop]at hx1;simp only[xi]at hx1;obtain⟨cs,h2,hx3⟩:=bE.mp hx1;obtain⟨q,h3,he⟩:=mE.mp hx3;simp only[bf]at he;obtain⟨rfl,rfl⟩:=he;refine⟨rfl,fun h' hh=>Tg (by rw[<-Y5 hz];exact hx2) ?_⟩
 rw[hop];simp only[xi];rw[hh,h2];simp only[Option.bind_some,h3,Option.map_some]
theorem aFS{ts:List Nat}{t:Nat}{h':Heap}(hk:keeps e h h' ts=true)(ht:ts.contains t=true):qL h' (e.get t)=qL h (e.get t):=by
 unfold keeps at hk;have:=Gq.mp hk t (by simpa using ht)
 split at this
 ·rename_i he;have hi:=axs this;rw[he];simp only[qL,hi]
 ·rename_i he;rw[he];rfl
 ·cases this
theorem ay6{z:jc}{ts:List Nat}{p:Nat}{h' h0:Heap}(hk:keeps e h h' ts=true)(hz:z.anU p ts=true)(hc:z.GI.all (ou.ok cx e h0)=true):qL h' (e.get p)=qL h (e.get p):=by
 unfold jc.anU at hz;rw[Jz]at hz;rcases hz with hz|hz
 ·exact aFS hk hz
 ·obtain⟨c,hcm,hc2⟩:=YM.mp hz;have h1:=Gq.mp hc c hcm;cases c<;>simp only[uM]at hc2;rename_i p' t;simp only[fw,beq_iff_eq]at hc2;obtain⟨rfl,ht⟩:=hc2;have h2:=Gq.mp (by unfold keeps at hk;exact hk) t (by simpa using ht)
  simp only[ou.ok]at h1;split at h1
  ·rename_i i vi oi j vj oj g1 g2;have hij:i=j:=by simpa using h1
   subst hij;rw[g2]at h2;have hi:=axs h2;rw[g1];simp only[qL,hi]
  ·rename_i g1 g2;rw[g1];rfl
  ·cases h1
theorem aFT(hs:anV x y=true){vx vy:AV}{h1 h2:Heap}(hx:l6 call cx e h x=some (vx,h1))(hy:l6 call cx e h1 y=some (vy,h2)) :
  ∃ h1',l6 call cx e h y=some (vy,h1')/\l6 call cx e h1' x=some (vx,h2):=by
 unfold anV at hs;simp only[fw]at hs;obtain⟨⟨px,py⟩,hs⟩:=hs;split at hs
 ·rename_i sh p ts f args ox oy;obtain⟨rfl,hl⟩:=ay5 ox px hx;obtain⟨hy1,_⟩:=IQ hy;rw[oy]at hy1;exact⟨h2,hy,hl h2 (ay6 (alc hy1).2 hs (IQ hx).2)⟩
 ·rename_i ts f args sh p ox oy;obtain⟨rfl,hl⟩:=ay5 oy py hy;obtain⟨hx1,_⟩:=IQ hx;rw[ox]at hx1;exact⟨h,hl h (ay6 (alc hx1).2 hs (IQ hy).2).symm,hx⟩
 ·cases hs
theorem ay7{e1:Env}{h1:Heap}(hx:Dh call cx x e h=some (e1,h1)) :
  (∃ v,l6 call cx e h x=some (v,h1)/\e1=e.put x.dst v/\∀ h' v' h1',l6 call cx e h' x=some (v',h1')->Dh call cx x e h'=some (e.put x.dst v',h1'))\/(e1=e.put x.dst (.tuple [])/\h1=h/\∀ h',Dh call cx x e h'=some (e.put x.dst (.tuple []),h')):=by
 unfold Dh at hx⊢;split at hx
 ·rename_i hg;obtain⟨⟨v,h2⟩,h3,he⟩:=mE.mp hx;simp only[bf]at he;obtain⟨rfl,rfl⟩:=he;exact .inl ⟨v,h3,rfl,fun h' v' h1' hh=>mE.mpr ⟨_,hh,rfl⟩⟩
 ·rename_i g want hg;obtain⟨b,hb,hx2⟩:=bE.mp hx;clear hx;rw[hb];simp only[Option.bind_some];split at hx2
  ·rename_i hw;obtain⟨⟨v,h2⟩,h3,he⟩:=mE.mp hx2;simp only[bf]at he;obtain⟨rfl,rfl⟩:=he;exact .inl ⟨v,h3,rfl,fun h' v' h1' hh=>by rw[if_pos hw];exact mE.mpr ⟨_,hh,rfl⟩⟩
  ·rename_i hw;simp only[dz,bf]at hx2;obtain⟨rfl,rfl⟩:=hx2;exact .inr ⟨rfl,rfl,fun h'=>by rw[if_neg hw]⟩
theorem aFU(hcall:Rk P eB call)(hlo:cx.lo<=cx.base)(hs:(anS (x.yZ eB) (y.yZ eB)||anT x y||anV x y)=true){ex ey:Env}{h1 h2:Heap}(hx:Dh call cx x e h=some (ex,h1))(hy:Dh call cx y e h1=some (ey,h2)) :
  ∃ h1',Dh call cx y e h=some (ey,h1')/\Dh call cx x e h1'=some (ex,h2):=by
 rcases ay7 hx with⟨vx,x1,rfl,x2⟩|⟨rfl,rfl,x2⟩
 ·rcases ay7 hy with⟨vy,y1,rfl,y2⟩|⟨rfl,rfl,y2⟩
  ·rw[Jz,Jz]at hs;rcases hs with(hs|hs)|hs
   ·obtain⟨h1',k1,k2⟩:=comm hcall hlo hs x1 y1;exact⟨h1',y2 _ _ _ k1,x2 _ _ _ k2⟩
   ·obtain⟨h1',k1,k2⟩:=aFR hs x1 y1;exact⟨h1',y2 _ _ _ k1,x2 _ _ _ k2⟩
   ·obtain⟨h1',k1,k2⟩:=aFT hs x1 y1;exact⟨h1',y2 _ _ _ k1,x2 _ _ _ k2⟩
  ·exact⟨h,y2 h,hx⟩
 ·exact⟨h2,hy,x2 h2⟩
theorem swap(hcall:Rk P eB call)(hlo:cx.lo<=cx.base){e1 e2:Env}{h1 h2:Heap}(hs:alG eB x y=true)(hx:Dh call cx x e h=some (e1,h1))(hy:Dh call cx y e1 h1=some (e2,h2)) :
  ∃ e1' h1' e2',Dh call cx y e h=some (e1',h1')/\Dh call cx x e1' h1'=some (e2',h2)/\Te e2 e2':=by
 simp only[alG,fw,Gq,IK]at hs;obtain⟨⟨⟨s1,s2⟩,s3⟩,s4⟩:=hs;obtain⟨vx,rfl,_⟩:=anW (e':=e) (fun _ _=>rfl) hx
 have aFV:∀ t∈y.tmps,(e.put x.dst vx).get t=e.get t:=fun t ht=>by
  rw[Env.get_put,if_neg];have:=s1 t ht;simpa[jc.writes]using this
 obtain⟨vy,rfl,hy'⟩:=anW aFV hy
 have aFW:∀ t∈x.tmps,e.get t=(e.put y.dst vy).get t:=fun t ht=>by
  rw[Env.get_put,if_neg];have:=s2 t ht;simpa[jc.writes]using this
 have heq:Te ((e.put x.dst vx).put y.dst vy) ((e.put y.dst vy).put x.dst vx):=fun t=>by
  simp only[Env.get_put];by_cases h1:y.dst=some t
  ·by_cases h2:x.dst=some t
   ·rw[h2]at s3;simp[jc.writes,h1]at s3
   ·simp[h1,h2]
  ·by_cases h2:x.dst=some t<;>simp[h1,h2]
 obtain⟨h1',k1,k2⟩:=aFU hcall hlo s4 hx hy';obtain⟨v,he,hx2⟩:=anW aFW k2;refine⟨_,h1',_,k1,hx2, ?_⟩;intro t;rw[heq t,Env.get_put (e.put y.dst vy) x.dst v,Env.get_put (e.put y.dst vy) x.dst vx];have:=congrArg (fun E=>Env.get E t) he;simp only[Env.get_put]at this;by_cases h:x.dst=some t
 ·simpa[h]using this
 ·simp[h]
end
theorem bubble{P:Program}{eB:Nat->Bool}{call:Callee}(hcall:Rk P eB call){cx:Cx}(hlo:cx.lo<=cx.base){s:jc}:∀{l1 l2:List jc} {e e1:Env} {h h1:Heap},(∀ y∈l1,alG eB y s=true)->xZ call cx (l1++s::l2) e h=some (e1,h1) ->
  ∃ e1',xZ call cx (s::(l1++l2)) e h=some (e1',h1)/\Te e1 e1'
 |[],l2,e,e1,h,h1,_,hx=>⟨e1,hx,fun _=>rfl⟩
 |y::l1,l2,e,e1,h,h1,hs,hx=>by
  obtain⟨⟨e2,h2⟩,hy,hx⟩:=bE.mp hx;obtain⟨e3,hx,heq⟩:=bubble hcall hlo (fun z hz=>hs z (by simp[hz])) hx
  obtain⟨⟨e4,h4⟩,hs',hx⟩:=bE.mp hx;obtain⟨e5,h5,e6,k1,k2,k3⟩:=swap hcall hlo (hs y (by simp)) hy hs'
  obtain⟨e7,k4,k5⟩:=ayD k3 hx;refine⟨e7, ?_,heq.trans k5⟩;exact bE.mpr ⟨_,k1,bE.mpr ⟨_,k2,k4⟩⟩
end Go.VI
