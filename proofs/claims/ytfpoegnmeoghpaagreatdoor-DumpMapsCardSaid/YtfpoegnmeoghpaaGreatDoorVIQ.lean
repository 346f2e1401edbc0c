/- Code and calls: the evaluator's answers are the machine's. -/
import Derived.Test.YtfpoegnmeoghpaaGreatDoorVIP
set_option linter.unusedVariables false
set_option linter.unusedSimpArgs false
namespace Go.VI
set_option linter.unusedSectionVars false
variable [dH][Rounds]
def XC.core:XC->XC
 |.pre _ x=>x.core
 |.fz _ x=>x.core
 |x=>x
def wu:Code->Bool
 |.seq a b=>wu a&&wu b
 |.label _=>false
 |_=>true
theorem Ku:∀{c:Code} (l:Nat),wu c=true->findLabel c l=none
 |.seq a b,l,h=>by
  simp only[wu,bM]at h
  simp only[findLabel,Ku l h.1,Ku l h.2]
 |.skip,_,_|.region ..,_,_|.cond ..,_,_|.block ..,_,_|.loop _,_,_|.rangeFunc ..,_,_|.exit _,_,_|.scope _,_,_|.goto _,_,_|.ret,_,_|.refuse _,_,_=>rfl
 |.label _,_,h=>by cases h
def XC.vz(o:Nat):XC->Bool
 |.skip|.ret|.reg ..=>true
 |.exit i=>!(i==o)
 |.seq a b|.cond _ a b=>a.vz o&&b.vz o
 |.blk _ c|.loop c|.pre _ c|.fz _ c=>c.vz o
 |.mI ..=>false
section
variable (P:Program)(aZ:Nat->Bool)(iq:Nat->Option l6)(N:Nat)
def jU:Code->XC->Bool
 |.skip,y=>match y.core with|.skip=>true|_=>false
 |.region _ ops draw,y=>match y.core with|.reg R6 _ _ xs=>draw==R6&&Dx P ops.toList N ops.toList xs&&(!draw||R4 aZ ops.toList xs)|_=>false
 |.seq a b,y=>match y.core with|.seq x y=>jU a x&&jU b y|_=>false
 |.cond c a b,y=>match y.core with|.cond c' x y=>iA c c'&&jU a x&&jU b y|_=>false
 |.block i c,y=>match y.core with|.blk j x=>i==j&&decide (i<1000)&&jU c x|_=>false
 |.loop c,y=>match y.core with|.loop x=>jU c x|_=>false
 |.exit i,y=>match y.core with|.exit j=>i==j&&decide (i<1000)|_=>false
 |.label _,y=>match y.core with|.skip=>true|_=>false
 |.goto l,y=>match y.core with|.exit j=>j==1000+l|_=>false
 |.scope s,y=>match y.core,s with|.blk o (.seq (.blk g x) (.loop (.blk g' (.seq z (.exit o'))))),.seq a (.seq (.label l) b)=>o'==o&&g==1000+l&&g'==g&&!(o==g)&&x.vz o&&z.vz o&&wu a&&wu b&&jU a x&&jU b z|.blk o (.seq (.blk g (.seq x u)) (.loop (.blk g' (.seq z (.exit o'))))),.seq a (.seq c (.seq (.label l) b))=>o'==o&&g==1000+l&&g'==g&&!(o==g)&&x.vz o&&u.vz o&&z.vz o&&wu a&&wu c&&wu b&&jU a x&&jU c u&&jU b z|_,_=>false
 |.ret,y=>match y.core with|.ret=>true|_=>false
 |.rangeFunc f ps a b,y=>match y.core with|.mI _ f' g=>iA f f'&&(match iq g with|some x=>x.ps==ps.toList&&ps.toList.all (fun p=>decide (p<N))&&jU a x.jE&&jU b x.body|none=>false)|_=>false
 |_,_=>false
theorem GN{s:Code}{y:XC}(h:∀ o x,y.core≠.blk o x):jU P aZ iq N (.scope s) y=false:=by
 unfold jU;split
 ·rename_i heq;exact absurd heq (h _ _)
 ·first|(rename_i heq;exact absurd heq (h _ _))|(rename_i heq _;exact absurd heq (h _ _))|(rename_i heq _ _;exact absurd heq (h _ _))
 ·rfl
theorem ZQ{s:Code}{y y':XC}(h:y.core=y'.core):jU P aZ iq N (.scope s) y=jU P aZ iq N (.scope s) y':=by
 unfold jU;rw[h]
def Ot(g:Nat)(ps:Array Tmp)(a b:Code):Bool :=
 match iq g with
 |some x=>x.ps==ps.toList&&ps.toList.all (fun p=>decide (p<N))&&jU P aZ iq N a x.jE&&jU P aZ iq N b x.body
 |none=>false
def rO:List ResultVar->List qR->Bool
 |[],[]=>true
 |.tmp t::rs,.tmp t'::xs=>t==t'&&rO rs xs
 |.cell t ty::rs,.cell t' sh::xs=>t==t'&&JK P ty sh&&rO rs xs
 |_,_=>false
end
def EZ(P:Program)(aZ:Nat->Bool)(iq:Nat->Option l6)(f:Nat)(x:bJ):Bool :=
 match P.funcs[f]? with
 | some fn => decide (fn.name ≠ "runtime.NumGoroutine") && decide (x.np ≤ fn.ntmps) && ((!x.isOpen || !aZ f) && (!aZ (f + 5000) || x.code.still aZ)) && rO P fn.results.toList x.res &&
  (match fn.body with|some c=>jU P aZ iq fn.ntmps c x.code|none=>false)
 |none=>false
structure GQ(P:Program)(aZ:Nat->Bool)(iq:Nat->Option l6):Prop where
 iff:∀{g N:Nat} {ps:Array Tmp} {a b:Code},Rounds.ok g N ps a b↔Ot P aZ iq N g ps a b=true
def yD:Ex->Exit
 |.norm=>.normal
 |.exit id=>if id<1000 then .exit id else .goto (id-1000)
 |.ret=>.ret
theorem Dy{i:Nat}(h:i<1000):yD (.exit i)=.exit i:=if_pos h
theorem Dz{i:Nat}(h:¬ i<1000):yD (.exit i)=.goto (i-1000):=if_neg h
theorem ag'{K K':Act->World->Prop}{Q:Exit->Act->World->Prop}{e:Ex}{a:Act}{w:World}(he:e≠.norm)(h:(Exit.then K Q) (yD e) a w):(Exit.then K' Q) (yD e) a w:=by
 cases e with
 |norm=>exact absurd rfl he
 |exit id =>
  by_cases hid:id<1000
  ·rw[Dy hid]at h⊢;exact h
  ·rw[Dz hid]at h⊢;exact h
 |ret=>exact h
theorem R7{K:Act->World->Prop}{Q:Exit->Act->World->Prop}{e:Ex}{a:Act}{w:World}(he:e≠.norm)(h:Q (yD e) a w):(Exit.then K Q) (yD e) a w:=by
 cases e with
 |norm=>exact absurd rfl he
 |exit id =>
  by_cases hid:id<1000
  ·rw[Dy hid]at h⊢;exact h
  ·rw[Dz hid]at h⊢;exact h
 |ret=>exact h
section
variable {P:Program}{aZ:Nat->Bool}{iq:Nat->Option l6}{N:Cq}{call:Callee}{cx:Cx}
def DC(N:Cq)(lo:Nat)(w:World)(m:Map)(h:Heap)(e:Ex)(env':Env)(h':Heap):Exit->Act->World->Prop :=
 fun e' a' w'=>e'=yD e/\∃ m',Step lo w m h w' m' h'/\Inv w' m' h'/\Fr N w' m' h' env' a'
theorem Fr.keep{w:World}{m:Map}{h:Heap}{env:Env}{a:Act}(hf:Fr N w m h env a)(ps:List Nat):Fr N w m h (env.keep ps) a :=
 ⟨⟨fun t=>by
  rw[Env.agn];split
  ·exact hf.env.at' t
  ·simp[R],hf.env.kI⟩,hf.size,hf.defers,hf.kW,hf.bound⟩
theorem Fr.eq{w:World}{m:Map}{h:Heap}{env env':Env}{a:Act}(hf:Fr N w m h env a)(he:vW env' env):Fr N w m h env' a :=
 ⟨⟨fun t=>by rw[he t];exact hf.env.at' t,hf.env.kI⟩,hf.size,hf.defers,hf.kW,hf.bound⟩
theorem aha{M:Nat}{ops:Array Oper}{xs:List bT}(hk:Dx P ops.toList M ops.toList xs=true) :
  (List.range ops.size).length=xs.length/\∀(k i:Nat) x,(List.range ops.size)[k]?=some i->xs[k]?=some x->∃ o,ops[i]?=some o/\GL P ops.toList M o x=true:=by
 obtain⟨h1,h2⟩:=Oh hk;refine⟨by simpa using h1,fun k i x hk hx=>?_⟩
 have hk':k<ops.size/\k=i:=by
  have:=dQ.mp hk;obtain⟨hlt,he⟩:=this;simp at hlt he;exact⟨hlt,he⟩
 obtain⟨hlt,rfl⟩:=hk';have ho:ops[k]?=some ops[k]:=by simp[hlt]
 exact⟨ops[k],ho,h2 k ops[k] x (by simp[hlt]) hx⟩
theorem ahb(xs:List bT):∀ n,n=xs.length->(List.range n).filterMap (xs[·]?)=xs:=by
 rintro n rfl;refine zC fun i=>?_
 have:(List.range xs.length).filterMap (xs[·]?)=xs:=by
  have h1:∀(l:List bT) (k:Nat) (full:List bT),(∀ j,l[j]?=full[k+j]?)->(List.range' k l.length).filterMap (full[·]?)=l:=by
   intro l
   induction l with
   |nil=>intro k full _;rfl
   |cons x l ih =>
    intro k full hf;have h0:full[k]?=some x:=by have:=hf 0;simpa using this.symm
    simp only[List.length_cons,List.range'_succ,List.filterMap_cons,h0];rw[ih (k+1) full fun j=>by have:=hf (j+1);simpa[Nat.add_assoc,Nat.add_comm 1 j]using this]
  rw[List.range_eq_range'];exact h1 xs 0 xs fun j=>by simp
 rw[this]
def roundsIn(F:Fence)(P:Program)(c:Code)(Q:Exit->Act->World->Prop):Nat->Act->World->Prop
 |0,_,_=>False
 |n+1,a,w=>c.wpIn F 0 P (Exit.then (roundsIn F P c Q n) Q) a w
theorem wpIn_loop_rounds{F:Fence}{P:Program}{c:Code}{Q:Exit->Act->World->Prop}{a:Act}{w:World}(n:Nat)(h:roundsIn F P c Q n a w):(Code.loop c).wpIn F 0 P Q a w:=by
 intro b k cs hro hb hr
 have key:∀ n a w,roundsIn F P c Q n a w->∃ e a' w',Q e a' w'/\ArrivesIn (Machine.fenced P F) P (lone (b.atR a (.code c::.inLoop c::k)) cs w) b k cs e a' w':=by
  intro n
  induction n with
  |zero=>intro a w h;exact h.elim
  |succ n ih =>
   intro a w h;obtain⟨e,a₁,w₁,hq,harr⟩:=h b (.inLoop c::k) cs hro hb hr
   cases e with
   |normal =>
    obtain⟨e₂,a₂,w₂,hq₂,harr₂⟩:=ih a₁ w₁ hq
    exact⟨e₂,a₂,w₂,hq₂,.of_steps (StepsIn.trans harr (.one (fenced_calm hb hr rfl) stepR_inLoop)) harr₂⟩
   |exit id=>exact⟨_,a₁,w₁,hq,.pass (x:=.inLoop c) rfl (fun _ _=>.inl (by simp)) harr⟩
   |goto l=>exact⟨_,a₁,w₁,hq,.pass (x:=.inLoop c) rfl (fun _ _=>.inl (by simp)) harr⟩
   |ret=>exact⟨_,a₁,w₁,hq,.pass (x:=.inLoop c) rfl (fun _ _=>.inl (by simp)) harr⟩
   |panic ch=>exact⟨_,a₁,w₁,hq,.pass (x:=.inLoop c) rfl (fun _ _=>.inl (by simp)) harr⟩
   |outgrown=>exact⟨_,a₁,w₁,hq,.pass (x:=.inLoop c) rfl (fun _ _=>.inl (by simp)) harr⟩
 obtain⟨e,a',w',hq,harr⟩:=key n a w h;exact⟨e,a',w',hq,.of_steps (.one (fenced_calm hb hr rfl) stepR_loop) harr⟩
theorem ZR{P:Program}{b:Frame}{a:Act}{c:Code}{k:List Item}{cs:List Frame}{w:World} :
  step P (lone (b.atR a (.code (.scope c)::k)) cs w)=.next (lone (b.atR a (.code c::.inScope c::k)) cs w) :=
 step_lone_go (by simp[stepG,stepG.exec,Frame.atR])
theorem ahc{P:Program}{b:Frame}{a:Act}{c:Code}{k:List Item}{cs:List Frame}{w:World} :
  step P (lone (b.atR a (.inScope c::k)) cs w)=.next (lone (b.atR a k) cs w) :=
 step_lone_go (by simp[stepG,stepG.exec,Frame.atR])
def GR(F:Fence)(P:Program)(l:Nat)(c:Code)(Q:Exit->Act->World->Prop):Nat->Act->World->Prop
 |0,_,_=>False
 |k+1,a,w=>c.wpIn F 0 P (fun e a w=>(e=.goto l/\GR F P l c Q k a w)\/(e≠.goto l/\Q e a w)) a w
theorem ZT{x z:Code}{l:Nat}(hx:wu x=true)(hz:wu z=true)(t:Nat):findLabel (.seq x (.seq (.label l) z)) t=if t=l then some (.seq .skip z)else none:=by
 simp only[findLabel,Ku t hx];by_cases ht:t=l
 ·subst ht;simp
 ·have:(l==t)=false:=by simp;exact fun h=>ht h.symm
  simp[this,Ku t hz,ht]
theorem ahd{x y z:Code}{l:Nat}(hx:wu x=true)(hy:wu y=true)(hz:wu z=true)(t:Nat):findLabel (.seq x (.seq y (.seq (.label l) z))) t=if t=l then some (.seq .skip z)else none:=by
 rw[<-ZT (x:=y) hy hz t];simp only[findLabel,Ku t hx]
theorem ahe{F:Fence}{P:Program}{S z:Code}{l:Nat}{Q:Exit->Act->World->Prop}{a:Act}{w:World}(hf:∀ t,findLabel S t=if t=l then some (.seq .skip z)else none)
  (h:S.wpIn F 0 P (fun e a w=>(e=.goto l/\∃ k,GR F P l z Q k a w)\/(e≠.goto l/\Q e a w)) a w):(Code.scope S).wpIn F 0 P Q a w:=by
 intro b k cs hro hb hr
 -- what comes behind a part of the scope
 have pass:∀{mm:Machine} {e:Exit} {a₁:Act} {w₁:World},e≠.goto l->Q e a₁ w₁->ArrivesIn (Machine.fenced P F) P mm b (.inScope S::k) cs e a₁ w₁->∃ e a' w',Q e a' w'/\ArrivesIn (Machine.fenced P F) P mm b k cs e a' w':=by
  intro mm e a₁ w₁ hne hq harr
  cases e with
  |normal=>exact⟨_,a₁,w₁,hq,StepsIn.trans harr (.one (fenced_calm hb hr rfl) ahc)⟩
  |exit id =>
   have Kv:exitTo id (.inScope S::k)=exitTo id k:=by simp[exitTo]
   exact⟨_,a₁,w₁,hq,fun k' hk=>harr.1 k' (by rw[Kv];exact hk),fun hr' hk=>harr.2 hr' (by rw[Kv];exact hk)⟩
  |goto t =>
   have ht:t≠l:=fun e=>hne (by rw[e])
   have Kv:gotoIn t (.inScope S::k)=gotoIn t k:=by simp[gotoIn,hf,ht]
   exact⟨_,a₁,w₁,hq,fun k' hk=>harr.1 k' (by rw[Kv];exact hk),fun hr' hk=>harr.2 hr' (by rw[Kv];exact hk)⟩
  |ret=>exact⟨_,a₁,w₁,hq,harr⟩
  |panic ch=>exact⟨_,a₁,w₁,hq,harr⟩
  |outgrown=>exact⟨_,a₁,w₁,hq,harr⟩
 have jump:∀{mm:Machine} {a₁:Act} {w₁:World},ArrivesIn (Machine.fenced P F) P mm b (.inScope S::k) cs (.goto l) a₁ w₁->StepsIn (Machine.fenced P F) P mm (lone (b.atR a₁ (.code (.seq .skip z)::.inScope S::k)) cs w₁):=by
  intro mm a₁ w₁ harr;exact harr.1 _ (by simp[gotoIn,hf])
 have key:∀ n a w,GR F P l z Q n a w->∃ e a' w',Q e a' w'/\ArrivesIn (Machine.fenced P F) P (lone (b.atR a (.code (.seq .skip z)::.inScope S::k)) cs w) b k cs e a' w':=by
  intro n
  induction n with
  |zero=>intro a w h;exact h.elim
  |succ n ih =>
   intro a w h;have hs:(Code.seq .skip z).wpIn F 0 P (fun e a w=>(e=.goto l/\GR F P l z Q n a w)\/(e≠.goto l/\Q e a w)) a w:=wpIn_seq (wpIn_skip h);obtain⟨e,a₁,w₁,hq,harr⟩:=hs b (.inScope S::k) cs hro hb hr;rcases hq with⟨rfl,hn⟩|⟨hne,hq⟩
   ·obtain⟨e2,a2,w2,q2,r2⟩:=ih a₁ w₁ hn;exact⟨e2,a2,w2,q2,.of_steps (jump harr) r2⟩
   ·exact pass hne hq harr
 obtain⟨e,a₁,w₁,hq,harr⟩:=h b (.inScope S::k) cs hro hb hr;rcases hq with⟨rfl,n,hn⟩|⟨hne,hq⟩
 ·obtain⟨e2,a2,w2,q2,r2⟩:=key n a₁ w₁ hn;exact⟨e2,a2,w2,q2,.of_steps (.one (fenced_calm hb hr rfl) ZR) (.of_steps (jump harr) r2)⟩
 ·obtain⟨e2,a2,w2,q2,r2⟩:=pass hne hq harr;exact⟨e2,a2,w2,q2,.of_steps (.one (fenced_calm hb hr rfl) ZR) r2⟩
theorem ahf{w:World}{m:Map}{h:Heap}{env:Env}{a:Act}(hi:Inv w m h)(hf:Fr N w m h env a)(hrnd:cx.kW=N.kW)(hr:Ar cx h=true)(fn:FuncId)(ps:Array Tmp)(jE body:Code) :
  ∃ l mark w1 r,(Instr.enterLoop fn a.tmps ps jE body N.ro).run P w=.ok (l,mark) w1/\w.heap.size<=l/\RowKit.Below w.heap.size w w1/\w1.heap[l]?=some (.loop r)/\r.state=.ready/\r.pending=none/\r.tmps=a.tmps/\r.params=ps/\r.assign=jE/\r.body=body /\
   ∃ Ds:List Nat,mark=Ds.map (fun D=>{ target:=.collected D,args:=#[] })/\Ds.Nodup/\∀ D∈Ds,w.heap.size<=D/\D≠l/\w1.heap[D]?=some (.deferred (some [])):=by
 cases hro:N.ro with
 |none =>
  refine⟨w.heap.size+1,_,_,{ state:=.ready,pending:=none,fn,tmps:=a.tmps,params:=ps,assign:=jE,body,defers:=w.heap.size },run_enterLoop_outer _ _ _ _ _,by omega, ?_, ?_,rfl,rfl,rfl,rfl,rfl,rfl,[w.heap.size],rfl,by simp, ?_⟩
  ·exact((RowKit.Below.refl _ _).alloc (bC _) _).alloc (by simp) _
  ·have:=World.alloc_heap_new (w.alloc (.deferred (some []))) (.loop { state:=.ready,pending:=none,fn,tmps:=a.tmps,params:=ps,assign:=jE,body,defers:=w.heap.size })
   rwa [World.size_alloc]at this
  ·intro D hD;simp only[Cr]at hD;subst hD;refine⟨bC _,by omega, ?_⟩
   exact(RowKit.Below.heap_alloc _ _ _ (by simp)).trans (World.alloc_heap_new w _)
 |some l0 =>
  have hra:=hf.kW;rw[hro]at hra
  cases hr2:N.kW with
  |none=>rw[hr2]at hra;exact hra.elim
  |some p =>
   obtain⟨id,ai⟩:=p;rw[hr2]at hra;unfold Ar at hr;rw[hrnd,hr2]at hr;have hr1:=hr;dsimp only at hr1;split at hr1
   ·rename_i v d st hid;simp only[beq_iff_eq,bM]at hr1;obtain⟨rfl,hlp⟩:=hr1;obtain⟨v0,blk,q1,q2,q3⟩:=hra;rw[hid]at q1;cases q1;have hm:=q3 rfl d st rfl;obtain⟨b,o,e1,e2,e3⟩:=hi.ax id _ d st hid;obtain⟨r0,rfl,_⟩:=e3.loop hlp;rw[hm]at e1;cases e1;refine⟨w.heap.size,_,_,{ state:=.ready,pending:=none,fn,tmps:=a.tmps,params:=ps,assign:=jE,body,defers:=r0.defers },run_enterLoop_inner e2 _ _ _ _ _,by omega, ?_, ?_,rfl,rfl,rfl,rfl,rfl,rfl,[],rfl,by simp,by simp⟩
    ·exact(RowKit.Below.refl _ _).alloc (bC _) _
    ·exact World.alloc_heap_new w _
   ·cases hr1
theorem ahg{w:World}{f:FuncId}(he:Enters P f)(args:Array Value):(callFunc f args).run P w=.ok (.enter f args) w:=by
 obtain⟨fn,hfn,hname,hbody⟩:=he;have hb':fn.body.isNone=false:=by cases ET:fn.body<;>simp_all
 simp only[callFunc,Sem.run_bind,run_program,Result.andThen_ok,hfn];simp[hname,hb']
theorem Kw(w:World)(l:Nat)(o:Obj)(k:Nat):(w.putObj l o).heap[k]?=if k=l then(if l<w.heap.size then some o else none)else w.heap[k]?:=by
 by_cases hk:k=l
 ·subst hk;rw[if_pos rfl];split
  ·rename_i h;exact World.putObj_heap_same h
  ·rename_i h;rw[Array.getElem?_eq_none];simp[World.putObj]at *;omega
 ·rw[if_neg hk];exact World.putObj_heap_other hk
theorem R8{w:World}{m:Map}{h:Heap}{id ai l:Nat}{d:dO}{st:RS}(hi:Inv w m h)(hid:h[id]?=some (ai,.ax d st))(hm:m[id]?=some l)(o:Obj){lo:Nat}(hlo:lo<=id) :
  (Step lo w m h (w.putObj l o) m (h.set id (ai,.dead))/\Inv (w.putObj l o) m (h.set id (ai,.dead))) /\
  ∀ st',st.loop=true->st'.loop=true->pU w (Live m h) m h o d st'->Step lo w m h (w.putObj l o) m (h.set id (ai,.ax d st'))/\Inv (w.putObj l o) m (h.set id (ai,.ax d st')):=by
 have hlt:=hi.lt hid (by simp) hm
 have hold:∀ b,b<w.heap.size->(b=l->au.ax d st=.dead)->(w.putObj l o).heap[b]?=w.heap[b]?:=by
  intro b _ he;rw[Kw,if_neg (fun h=>by cases he h)]
 have hmm:m.set id l=m:=by
  refine zC fun j=>?_;by_cases hj:j=id
  ·subst hj;rw[rJ (by rw[hi.len];exact(dQ.mp hid).1),hm]
  ·exact iH (by omega)
 have hsz:w.heap.size<=(w.putObj l o).heap.size:=by simp[World.putObj]
 constructor
 ·have p:Put w m h id ai (.ax d st) l (w.putObj l o) ai .dead l:=⟨hi,hid,hm,rfl,rfl,rfl,hsz,hold,bC _,.inl rfl,fun _=>.inl rfl⟩;have s:=p.step (lo:=lo) hlo;have i:=p.JA (by simp) (fun h=>absurd rfl h)
  rw[hmm]at s i;exact⟨s,i⟩
 ·intro st' hl1 hl2 hr
  have p:Put w m h id ai (.ax d st) l (w.putObj l o) ai (.ax d st') l :=
   ⟨hi,hid,hm,rfl,rfl,rfl,hsz,hold,bC _,.inr (.inl ⟨rfl,by simp⟩),fun _=>.inr (.inr (.inl ⟨d,st,d,st',rfl,rfl,by rw[hmm],by rw[RS.WU hl1,RS.WU hl2],fun l e=>by rw[e]at hl2;cases hl2⟩))⟩
  have s:=p.step (lo:=lo) hlo
  have i:=p.EM (fun h=>by cases h) (fun d2 st2 he=>by
   cases he;exact⟨o,by rw[Kw,if_pos rfl,if_pos hlt],hr.ids s.ids s.keep (by simp)⟩)
  rw[hmm]at s i;exact⟨s,i⟩
theorem ahh(hc:sV P aZ call)(hrd:GQ P aZ iq)(hlo:cx.lo<=cx.base)(hrnd:cx.kW=N.kW){n s g:Nat}{f:aL}{f0:Operand}{ps:Array Tmp}{jE body:Code}(hkf:iA f0 f=true)(hkr:Ot P aZ iq N.N g ps jE body=true)
  {w:World} {m:Map} {h:Heap} {env:Env} {a:Act} {e:Ex} {env':Env} {h':Heap} (hi:Inv w m h) (hf:Fr N w m h env a) (hb:cx.base+cx.ns<=h.length) (hx:exec call cx n (.mI s f g) (env,h)=some (e,(env',h'))) :
  (Code.rangeFunc f0 ps jE body).wpIn (mQ N.ro) 0 P (DC N cx.lo w m h e env' h') a w:=by
 simp only[exec]at hx;split at hx
 ·rename_i it caps hfv ahl;obtain⟨⟨ai,h1⟩,hmk,hx1⟩:=bE.mp hx;obtain⟨⟨r0,h2⟩,hcall,hx2⟩:=bE.mp hx1;clear hx hx1;dsimp only at hcall hx2;have hx:=hx2;clear hx2;have rf:=iQ hf.env hkf;rw[hfv]at rf;simp only[R]at rf;obtain⟨vs,ef,rc⟩:=rf;obtain⟨hent,RF⟩:=hc.does hcall;refine wpIn_rangeFunc fun fn _=>?_;obtain⟨l,mark,w1,r,hel,hl1,hbel,hlp,hst,hpe,ZU,hps,has,hbo,Ds,hmark,hDn,hD⟩:=ahf (P:=P) hi hf hrnd ahl fn ps jE body;obtain⟨v0,iI,b0,p,rfl,hs⟩:=Rv hi hmk hbel hl1;have s1:=p.step (lo:=cx.lo) (by omega)
  have i1:=p.EM (fun hh=>by cases hh) (fun d2 st2 he=>by
   cases he;refine⟨_,hlp,r,rfl,⟨hst,hpe⟩,hlo,by simpa using hb, ?_,fun t=>?_⟩
   ·rw[ZU,hps,has,hbo,hf.size];exact hrd.iff.mpr hkr
   ·rw[ZU];exact R.step s1.ids s1.keep _ _ (hf.env.at' t))
  have hyl:R w1 (Live (m.set (cx.base+s) l) (h.set (cx.base+s) (ai,.ax ⟨g,cx.lo,cx.base,cx.ns,env⟩ .ready))) (m.set (cx.base+s) l) (h.set (cx.base+s) (ai,.ax ⟨g,cx.lo,cx.base,cx.ns,env⟩ .ready)) (.dY (cx.base+s) ai) (.func (.yield l) #[] #[]):=by
   simp only[R];exact⟨0,l,rfl,ai,_,p.hset,bC _,fun _ d st e=>by cases e;exact⟨rfl,p.oM⟩⟩
  obtain⟨y,hy⟩:∃ y:Value,y=.func (.yield l) #[] #[]:=⟨_,rfl⟩;refine⟨l,mark,w1,if it<1000 then{ target:=.fn (.func it) vs.toArray,args:=#[y] } else{ target:=.fn (.func (it-1000)) #[],args:=vs.toArray.push y },w1,jr it,(sW it [y] vs).toArray,w1,hel, ?_,fun _ _=>trivial, ?_,fun h=>by simp[Fence.wide]at h, ?_⟩
  ·rw[hy];simp only[resolve,ef];unfold Aw;by_cases hg:it<1000
   ·rw[if_pos hg,if_pos hg];simp[go_sem]
   ·rw[if_neg hg,if_neg hg];simp[go_sem]
  ·have:=ahg (w:=w1) hent (sW it [y] vs).toArray;by_cases hg:it<1000
   ·have e1:jr it=it:=by unfold jr;rw[if_pos hg]
    have e2:sW it [y] vs=y::vs:=by unfold sW;rw[if_pos hg];rfl
    rw[e1,e2]at this⊢;rw[if_pos hg];simp only[invoke];simpa[go_sem]using this
   ·have e1:jr it=it-1000:=by unfold jr;rw[if_neg hg]
    have e2:sW it [y] vs=vs++[y]:=by unfold sW;rw[if_neg hg]
    rw[e1,e2]at this⊢;rw[if_neg hg];simp only[invoke];simpa[go_sem]using this
  ·have RG:=RF w1 _ (sW it [y] vs) i1 (Yd (by
    simp only[RL];exact⟨_,_,rfl,by rw[hy];exact hyl,rfl⟩) (RL.step s1.ids s1.keep _ _ rc)) (by simp;omega)
   have Kj:CallsIn (mQ N.ro) (0-1) P (jr it) (sW it [y] vs).toArray w1 _:=callsIn_wide.mpr RG;refine Kj.mono ?_;rintro e' w' ⟨u,m',rfl,s2,i2,_⟩
   -- the record is where it was
   have ahn:zB m' h2 (cx.base+s) ai l:=zB.step s2.ids ⟨ai,_,p.hset,bC _,fun _ _ _ _=>p.oM⟩;have s12:=s1.trans s2
   have hmarks:∀{w4:World} {m4:Map} {h4:Heap},Step cx.lo w1 (m.set (cx.base+s) l) (h.set (cx.base+s) (ai,.ax ⟨g,cx.lo,cx.base,cx.ns,env⟩ .ready)) w4 m4 h4->Fr N w4 m4 h4 env { a with defers:=mark++a.defers }:=by
    intro w4 m4 h4 s4;have Ky:=(hf.step s1).step s4;refine⟨⟨Ky.env.at',Ky.env.kI⟩,Ky.size, ?_,Ky.kW,Ky.bound⟩
    have hm1:Marks N.B w1 (m.set (cx.base+s) l) (h.set (cx.base+s) (ai,.ax ⟨g,cx.lo,cx.base,cx.ns,env⟩ .ready)) (mark++a.defers):=by
     obtain⟨Es,he1,he2,ZV⟩:=hf.defers;refine⟨Ds++Es,by rw[hmark,he1,List.map_append], ?_,fun D zL=>?_⟩
     ·rw[List.nodup_append];refine⟨hDn,he2,fun x hx y hy hxy=>?_⟩;subst hxy;obtain⟨_,k2,_⟩:=ZV x hy;have:=(EG.mp k2).1;have:=(hD x hx).1;omega
     ·rcases lX.mp zL with zL|zL
      ·obtain⟨k1,k2,k3⟩:=hD D zL;refine⟨ng hf.bound k1,k3, ?_⟩;rintro⟨k,v,blk,g1,g2,g3⟩;by_cases hk:k=cx.base+s
       ·subst hk;rw[p.oM]at g3;cases g3;exact k2 rfl
       ·rw[(p.other hk).1]at g1;rw[(p.other hk).2]at g3;have:=hi.lt g1 g2 g3;omega
      ·obtain⟨k1,k2,k3⟩:=ZV D zL;have hlt:=(EG.mp k2).1;exact⟨k1,(s1.old D hlt k3).trans k2,(s1.keep.out hlt k3).2⟩
    exact hm1.step s4
   have fin:∀{d2:dO} {st2:RS},h2[cx.base+s]?=some (ai,.ax d2 st2)->st2.loop=true->∃ r2,w'.heap[l]?=some (.loop r2)/\st2.is r2/\∀(w4:World),w4=w'.putObj l (.loop { r2 with state:=.exhausted }) ->
     Step cx.lo w m h w4 m' (h2.set (cx.base+s) (ai,.dead))/\Inv w4 m' (h2.set (cx.base+s) (ai,.dead))/\Fr N w4 m' (h2.set (cx.base+s) (ai,.dead)) env { a with defers:=mark++a.defers }:=by
    intro d2 st2 hid ahq;obtain⟨v3,ahr,q1,q2,q3⟩:=ahn;rw[hid]at q1;cases q1;have hm2:=q3 rfl d2 st2 rfl;obtain⟨b,o,e1,e2,e4⟩:=i2.ax _ _ _ _ hid;obtain⟨r2,rfl,e3,_⟩:=e4.loop ahq;rw[hm2]at e1;cases e1;refine⟨r2,e2,e3,fun w4 hw4=>?_⟩;subst hw4;obtain⟨⟨s3,i3⟩,_⟩:=R8 i2 hid hm2 (.loop { r2 with state:=.exhausted }) (lo:=cx.lo) (by omega)
    exact⟨s12.trans s3,i3,hmarks (s2.trans s3)⟩
   show ∃ jump w4,(Instr.endLoop l).run P w'=.ok jump w4/\_
   split at hx
   ·rename_i v3 d2 hid;split at hx
    ·rename_i hv;subst hv;simp only[aS,aB]at hx;obtain⟨rfl,rfl,rfl⟩:=hx;obtain⟨r2,k1,k2,k3⟩:=fin hid rfl;obtain⟨g1,g2,g3⟩:=k3 _ rfl;refine⟨none,_,(run_endLoop (P:=P) k1 (by rw[k2.1];simp)).trans (congrArg (fun j=>Result.ok j _) k2.2), ?_⟩
     exact⟨rfl,m',g1,g2,g3⟩
    ·cases hx
   ·rename_i v3 d2 e2 hid;split at hx
    ·rename_i hv;subst hv;simp only[aS,aB]at hx;obtain⟨rfl,rfl,rfl⟩:=hx;obtain⟨r2,k1,k2,k3⟩:=fin hid rfl;obtain⟨g1,g2,g3⟩:=k3 _ rfl
     cases e2 with
     |norm=>exact k2.elim
     |exit i =>
      refine⟨some (Gs i),_,(run_endLoop (P:=P) k1 (by rw[k2.1];simp)).trans (congrArg (fun j=>Result.ok j _) k2.2), ?_⟩
      show (Gs i).wpIn _ _ _ _ _ _
      unfold Gs;by_cases hi:i<1000
      ·rw[if_pos hi];exact wpIn_exit ⟨(Dy hi).symm,m',g1,g2,g3⟩
      ·rw[if_neg hi]
       exact wpIn_goto ⟨(Dz hi).symm,m',g1,g2,g3⟩
     |ret =>
      refine⟨some .ret,_,(run_endLoop (P:=P) k1 (by rw[k2.1];simp)).trans (congrArg (fun j=>Result.ok j _) k2.2), ?_⟩
      exact wpIn_ret ⟨rfl,m',g1,g2,g3⟩
    ·cases hx
   ·cases hx
 ·cases hx
theorem R9{w:World}{m:Map}(hlo:cx.lo<=cx.base):∀(ss:List Nat) (h:Heap),Inv w m h->Step cx.lo w m h w m (nD cx ss h)/\Inv w m (nD cx ss h)
 |[],h,hi=>⟨Step.refl _ _ _ _,hi⟩
 |s::ss,h,hi=>by
  simp only[nD];split
  ·rename_i v b hid;obtain⟨s1,i1,_⟩:=JB (lo:=cx.lo) hi hid (by omega)
   obtain⟨s2,i2⟩:=R9 hlo ss _ i1;exact⟨s1.trans s2,i2⟩
  ·exact R9 hlo ss h hi
theorem ZW(n o:Nat):∀(x:XC) {st:St} {r:Ex×St},x.vz o=true->exec call cx n x st=some r->r.1≠.exit o:=by
 intro x
 induction x with
 |skip=>intro st r _ h;simp only[exec,aS]at h;subst h;simp
 |ret=>intro st r _ h;simp only[exec,aS]at h;subst h;simp
 |reg draw keep kill xs =>
  intro st r _ h;obtain⟨env,hp⟩:=st;simp only[exec,mE]at h;obtain⟨_,_,rfl⟩:=h
  simp
 |exit id =>
  intro st r hx h;simp only[XC.vz,sD,beq_eq_false_iff_ne]at hx;simp only[exec,aS]at h;subst h
  simpa using hx
 |seq x y pX ihy =>
  intro st r hx h;simp only[XC.vz,bM]at hx;simp only[exec,bE]at h;obtain⟨⟨e1,st1⟩,h1,h2⟩:=h;simp only at h2;split at h2
  ·exact ihy hx.2 h2
  ·simp only[aS]at h2;subst h2
   exact pX hx.1 h1
 |cond c x y pX ihy =>
  intro st r hx h;simp only[XC.vz,bM]at hx;simp only[exec,bE]at h;obtain⟨b,_,h2⟩:=h
  cases b with
  |true=>exact pX hx.1 h2
  |false=>exact ihy hx.2 h2
 |blk id x pX =>
  intro st r hx h;simp only[exec,mE]at h;obtain⟨r1,h1,rfl⟩:=h;have:=pX hx h1;unfold Ex.nW;split
  ·simp
  ·exact this
 |loop x pX =>
  intro st r hx h;simp only[exec]at h
  have key:∀ k st,iter (exec call cx n x) k st=some r->r.1≠.exit o:=by
   intro k
   induction k with
   |zero=>intro st h;simp[iter]at h
   |succ k ihk =>
    intro st h;simp only[iter,bE]at h;obtain⟨⟨e1,st1⟩,h1,h2⟩:=h;simp only at h2;split at h2
    ·exact ihk _ h2
    ·simp only[aS]at h2;subst h2;exact pX hx h1
  exact key n st h
 |mI s f g=>intro st r hx h;cases hx
 |pre ps x pX=>intro st r hx h;simp only[exec]at h;exact pX hx h
 |fz t x pX =>
  intro st r hx h;simp only[exec,bE]at h;obtain⟨_,_,h2⟩:=h;exact pX hx h2
theorem Sb(hc:sV P aZ call)(hrd:GQ P aZ iq)(hm:P.follows .mixedOrders=true)(hlo:cx.lo<=cx.base)(hrnd:cx.kW=N.kW)(n:Nat):∀(x:XC) (c:Code) {w:World} {m:Map} {h:Heap} {env:Env} {a:Act} {e:Ex} {env':Env} {h':Heap},jU P aZ iq N.N c x=true ->
  Inv w m h->Fr N w m h env a->cx.base+cx.ns<=h.length->exec call cx n x (env,h)=some (e,(env',h'))->c.wpIn (mQ N.ro) 0 P (DC N cx.lo w m h e env' h') a w:=by
 have main:∀(k:Nat) (x:XC),SizeOf.sizeOf x=k->∀(c:Code) {w:World} {m:Map} {h:Heap} {env:Env} {a:Act} {e:Ex} {env':Env} {h':Heap},jU P aZ iq N.N c x=true ->
  Inv w m h->Fr N w m h env a->cx.base+cx.ns<=h.length->exec call cx n x (env,h)=some (e,(env',h'))->c.wpIn (mQ N.ro) 0 P (DC N cx.lo w m h e env' h') a w:=?_
 ·exact fun x=>main _ x rfl
 intro k
 induction k using Nat.strongRecOn with
 |_ k IH =>
 intro x hsz
 have yE:∀ y:XC,SizeOf.sizeOf y<SizeOf.sizeOf x->∀(c:Code) {w:World} {m:Map} {h:Heap} {env:Env} {a:Act} {e:Ex} {env':Env} {h':Heap},jU P aZ iq N.N c y=true ->
  Inv w m h->Fr N w m h env a->cx.base+cx.ns<=h.length->exec call cx n y (env,h)=some (e,(env',h'))->c.wpIn (mQ N.ro) 0 P (DC N cx.lo w m h e env' h') a w:=fun y hy=>IH (SizeOf.sizeOf y) (hsz▸hy) y rfl
 clear IH hsz
 cases x with
 |skip =>
  intro c w m h env a e env' h' hk hi hf hb hx;simp only[exec,aS,aB]at hx;obtain⟨rfl,rfl,rfl⟩:=hx;unfold jU at hk;split at hk<;>simp only[XC.core,iw]at hk
  ·exact wpIn_skip ⟨rfl,m,Step.refl _ _ _ _,hi,hf⟩
  ·exact wpIn_label ⟨rfl,m,Step.refl _ _ _ _,hi,hf⟩
 |exit id =>
  intro c w m h env a e env' h' hk hi hf hb hx;simp only[exec,aS,aB]at hx;obtain⟨rfl,rfl,rfl⟩:=hx;unfold jU at hk;split at hk<;>simp only[XC.core,iw]at hk
  ·simp only[bM,beq_iff_eq,decide_eq_true_eq]at hk;obtain⟨rfl,hlt⟩:=hk;exact wpIn_exit ⟨(Dy hlt).symm,m,Step.refl _ _ _ _,hi,hf⟩
  ·rename_i l;simp only[beq_iff_eq]at hk;subst hk
   exact wpIn_goto ⟨by rw[Dz (by omega),Nat.add_sub_cancel_left],m,Step.refl _ _ _ _,hi,hf⟩
 |ret =>
  intro c w m h env a e env' h' hk hi hf hb hx;cases c<;>first|simp only[jU,XC.core,iw]at hk|exact absurd hk (by rw[GN P aZ iq N.N (fun _ _ h=>by cases h)];simp)
  simp only[exec,aS,aB]at hx;obtain⟨rfl,rfl,rfl⟩:=hx
  exact wpIn_ret ⟨rfl,m,Step.refl _ _ _ _,hi,hf⟩
 |reg draw keep kill xs =>
  intro c w m h env a e env' h' hk hi hf hb hx;cases c<;>first|simp only[jU,XC.core,iw]at hk|exact absurd hk (by rw[GN P aZ iq N.N (fun _ _ h=>by cases h)];simp)
  rename_i id ops R6;simp only[bM,beq_iff_eq]at hk;obtain⟨⟨rfl,hk1⟩,hk2⟩:=hk;simp only[exec,mE,aB]at hx;obtain⟨⟨pz,h1⟩,hx,rfl,rfl,rfl⟩:=hx;obtain⟨sk,ik⟩:=R9 (cx:=cx) hlo kill h hi;have fk:=hf.step sk;have hbk:cx.base+cx.ns<=(nD cx kill h).length:=by rw[sk.len];exact hb
  cases R6 with
  |false =>
   refine wpIn_region ?_;obtain⟨r1,r2⟩:=aha hk1
   exact ZG hc hlo _ _ r1 r2 ik fk (by omega) hx fun a' w' m' s1 i1 f1=>⟨rfl,m',sk.trans s1,i1,f1.keep keep⟩
  |true =>
   simp only[Bool.not_true,Bool.false_or]at hk2;refine wpIn_region_any hm ?_;have hbel:RowKit.Below w.heap.size w { w with drawn:=w.drawn+1 }:=(RowKit.Below.refl _ _).drew
   have s0:=Ay (lo:=cx.lo) ik hbel;have hlen:ops.size=xs.length:=by have:=(Oh hk1).1;simpa using this
   have hany:=ag0 (Q:=DC N cx.lo w m h .norm (pz.keep keep) h1) hc hlo hk1 hk2 (List.range ops.size) (Array.replicate ops.size false) (List.pairwise_lt_range) (by simp) (fun i=>by
     simp only[List.mem_range];constructor
     ·intro hi;exact⟨hi,by simp[hi]⟩
     ·intro hi;exact hi.1)
    (fun k hk hkn=>by simp[hkn]at hk) (BZ ik hbel) (fk.step s0) (by omega) (by rw[ahb xs _ hlen];exact hx)
    (fun Kt heq a' w' m' s1 i1 f1=>⟨rfl,m',(sk.trans s0).trans s1,i1,(f1.eq heq).keep keep⟩)
   simpa using hany
 |seq x y =>
  have pX:=yE x (by simp only[XC.seq.sizeOf_spec];omega)
  have ihy:=yE y (by simp only[XC.seq.sizeOf_spec];omega)
  intro c w m h env a e env' h' hk hi hf hb hx;cases c<;>first|simp only[jU,XC.core,iw]at hk|exact absurd hk (by rw[GN P aZ iq N.N (fun _ _ h=>by cases h)];simp)
  rename_i p q;simp only[bM]at hk;simp only[exec,bE]at hx;obtain⟨⟨e1,pz,h1⟩,hx1,hx2⟩:=hx;simp only at hx2;refine wpIn_seq (wpIn_mono (pX p hk.1 hi hf hb hx1) ?_);rintro e' a' w' ⟨rfl,m',s1,i1,f1⟩;split at hx2
  ·rename_i he;subst he
   show q.wpIn (mQ N.ro) 0 P _ a' w'
   refine wpIn_mono (ihy q hk.2 i1 f1 (by rw[s1.len];exact hb) hx2) ?_
   rintro ZX a'' w'' ⟨rfl,m'',s2,i2,f2⟩;exact⟨rfl,m'',s1.trans s2,i2,f2⟩
  ·rename_i he;simp only[aS,aB]at hx2;obtain⟨rfl,rfl,rfl⟩:=hx2
   exact R7 he ⟨rfl,m',s1,i1,f1⟩
 |cond c0 x y =>
  have pX:=yE x (by simp only[XC.cond.sizeOf_spec];omega)
  have ihy:=yE y (by simp only[XC.cond.sizeOf_spec];omega)
  intro c w m h env a e env' h' hk hi hf hb hx;cases c<;>first|simp only[jU,XC.core,iw]at hk|exact absurd hk (by rw[GN P aZ iq N.N (fun _ _ h=>by cases h)];simp)
  rename_i c1 p q;simp only[bM]at hk;simp only[exec,bE]at hx;obtain⟨r,hr,hx⟩:=hx;have hv:=Xm (iQ hf.env hk.1.1) hr;refine wpIn_cond hv ?_
  cases r with
  |true=>exact pX p hk.1.2 hi hf hb hx
  |false=>exact ihy q hk.2 hi hf hb hx
 |blk id x =>
  have pX:=yE x (by simp only[XC.blk.sizeOf_spec];omega)
  intro c w m h env a e env' h' hk hi hf hb hx;cases c<;>first|simp only[jU,XC.core,iw]at hk|skip
  ·rename_i id' p;simp only[bM,beq_iff_eq,decide_eq_true_eq]at hk;obtain⟨⟨rfl,hlt⟩,hk⟩:=hk;simp only[exec,mE]at hx;obtain⟨⟨e1,pz,h1⟩,hx,he⟩:=hx;refine wpIn_block (wpIn_mono (pX p hk hi hf hb hx) ?_);rintro e' a' w' ⟨rfl,m',s1,i1,f1⟩;unfold Ex.nW at he;split at he
   ·rename_i heq;simp only at heq;subst heq;simp only[aB]at he;obtain⟨rfl,rfl,rfl⟩:=he;rw[Dy hlt];simp only[Exit.inBlock,if_true];exact⟨rfl,m',s1,i1,f1⟩
   ·rename_i hne;simp only[aB]at he;obtain⟨rfl,rfl,rfl⟩:=he
    cases e1 with
    |norm=>exact⟨rfl,m',s1,i1,f1⟩
    |exit id2 =>
     simp only at hne;by_cases h2:id2<1000
     ·have e2:yD (.exit id2)=.exit id2:=Dy h2;rw[e2];simp only[Exit.inBlock];rw[if_neg (fun h=>hne (by rw[h]))]
      exact⟨e2.symm,m',s1,i1,f1⟩
     ·have e2:yD (.exit id2)=.goto (id2-1000):=Dz h2;rw[e2]
      exact⟨e2.symm,m',s1,i1,f1⟩
    |ret=>exact⟨rfl,m',s1,i1,f1⟩
  ·rename_i s;unfold jU at hk;simp only[XC.core]at hk
   obtain⟨l,x1,z1,b1,o',hfl,hog,hnx,hnz,hkb,hy,pre⟩:∃(l:Nat) (x1 z1:XC) (b1:Code) (o':Nat),(∀ t,findLabel s t=if t=l then some (.seq .skip b1)else none)/\¬ o'=1000+l/\x1.vz o'=true/\z1.vz o'=true/\jU P aZ iq N.N b1 z1=true/\XC.blk id x=.blk o' (.seq (.blk (1000+l) x1) (.loop (.blk (1000+l) (.seq z1 (.exit o'))))) /\
     ∀(e3:Ex) (yF:Env) (h3:Heap) (Q:Exit->Act->World->Prop),exec call cx n x1 (env,h)=some (e3,(yF,h3))->(∀ e' a' w',DC N cx.lo w m h e3 yF h3 e' a' w'->Exit.then ((Code.seq (.label l) b1).wpIn (mQ N.ro) 0 P Q) Q e' a' w')->s.wpIn (mQ N.ro) 0 P Q a w:=by
    split at hk
    ·rename_i o g x1 g' z1 o' a1 l b1 heq;cases heq;simp only[bM,beq_iff_eq,sD,beq_eq_false_iff_ne]at hk;obtain⟨⟨⟨⟨⟨⟨⟨⟨⟨rfl,rfl⟩,rfl⟩,hog⟩,hnx⟩,hnz⟩,hfa⟩,ET⟩,hka⟩,hkb⟩:=hk;have Sc:=fun{w:World} {m:Map} {h:Heap} {env:Env} {a:Act} {e:Ex} {env':Env} {h':Heap}=>@yE x1 (by simp only[XC.blk.sizeOf_spec,XC.seq.sizeOf_spec];omega) a1 w m h env a e env' h'
     exact⟨l,x1,z1,b1,_,ZT hfa ET,hog,hnx,hnz,hkb,rfl,fun e3 yF h3 Q hx3 after=>wpIn_seq (wpIn_mono (Sc hka hi hf hb hx3) after)⟩
    ·rename_i o g x1 u1 g' z1 o' a1 c1 l b1 hnl heq;cases heq;simp only[bM,beq_iff_eq,sD,beq_eq_false_iff_ne]at hk;obtain⟨⟨⟨⟨⟨⟨⟨⟨⟨⟨⟨⟨rfl,rfl⟩,rfl⟩,hog⟩,hnx⟩,hnu⟩,hnz⟩,hfa⟩,hfc⟩,ET⟩,hka⟩,hkc⟩,hkb⟩:=hk;have Sc:=fun{w:World} {m:Map} {h:Heap} {env:Env} {a:Act} {e:Ex} {env':Env} {h':Heap}=>@yE x1 (by simp only[XC.blk.sizeOf_spec,XC.seq.sizeOf_spec];omega) a1 w m h env a e env' h'
     have ahs:=fun{w:World} {m:Map} {h:Heap} {env:Env} {a:Act} {e:Ex} {env':Env} {h':Heap}=>@yE u1 (by simp only[XC.blk.sizeOf_spec,XC.seq.sizeOf_spec];omega) c1 w m h env a e env' h'
     refine⟨l,.seq x1 u1,z1,b1,_,ahd hfa hfc ET,hog,by simp only[XC.vz,hnx,hnu,w9],hnz,hkb,rfl,fun e3 yF h3 Q hx3 after=>?_⟩
     simp only[exec,bE]at hx3;obtain⟨⟨e1,pz,h1⟩,hx1,hx2⟩:=hx3;simp only at hx2;refine wpIn_seq (wpIn_mono (Sc hka hi hf hb hx1) ?_);rintro e' a' w' ⟨rfl,m',s1,i1,f1⟩;split at hx2
     ·rename_i he;subst he
      show (Code.seq c1 (.seq (.label l) b1)).wpIn (mQ N.ro) 0 P Q a' w'
      refine wpIn_seq (wpIn_mono (ahs hkc i1 f1 (by rw[s1.len];exact hb) hx2) ?_)
      rintro ZX a'' w'' ⟨rfl,m'',s2,i2,f2⟩;exact after _ _ _ ⟨rfl,m'',s1.trans s2,i2,f2⟩
     ·rename_i he;simp only[aS,aB]at hx2;obtain⟨rfl,rfl,rfl⟩:=hx2;exact ag' he (after _ a' w' ⟨rfl,m',s1,i1,f1⟩)
    ·cases hk
   ·cases hy;clear hk;have aht:=fun{w:World} {m:Map} {h:Heap} {env:Env} {a:Act} {e:Ex} {env':Env} {h':Heap}=>@yE z1 (by simp only[XC.blk.sizeOf_spec,XC.seq.sizeOf_spec,XC.loop.sizeOf_spec];omega) b1 w m h env a e env' h'
    have tl:yD (.exit (1000+l))=.goto l:=by rw[Dz (by omega),Nat.add_sub_cancel_left]
    have ZY:∀ e:Ex,e≠.exit (1000+l)->yD e≠.goto l:=by
     intro e he h
     cases e with
     |norm=>cases h
     |ret=>cases h
     |exit id =>
      by_cases h2:id<1000
      ·rw[Dy h2]at h;cases h
      ·rw[Dz h2]at h;simp only[Exit.goto.injEq]at h;have hid:id=1000+l:=by omega
       exact he (by rw[hid])
    -- the rounds behind the label
    have key:∀(k:Nat) {w2:World} {m2:Map} {h2:Heap} {jl:Env} {a2:Act} {eL:Ex} {Ou:Env} {hL:Heap},Step cx.lo w m h w2 m2 h2->Inv w2 m2 h2->Fr N w2 m2 h2 jl a2->cx.base+cx.ns<=h2.length ->
      iter (exec call cx n (.blk (1000+l) (.seq z1 (.exit id)))) k (jl,h2)=some (eL,(Ou,hL))->Ex.nW id (eL,(Ou,hL))=(e,(env',h')) ->
      GR (mQ N.ro) P l b1 (DC N cx.lo w m h e env' h') k a2 w2:=by
     intro k
     induction k with
     |zero=>intro w2 m2 h2 jl a2 eL Ou hL _ _ _ _ hit;simp[iter]at hit
     |succ k ihk =>
      intro w2 m2 h2 jl a2 eL Ou hL s2 i2 f2 hb2 hit hfin;simp only[iter,bE]at hit;obtain⟨⟨e1,pz,h1⟩,hx1,hx2⟩:=hit;simp only at hx2;simp only[exec,mE,bE]at hx1;obtain⟨⟨e3,yF,h3⟩,⟨⟨e4,GU,h4⟩,Z0,Kz⟩,hz3⟩:=hx1;have hno:=ZW (call:=call) (cx:=cx) n id z1 hnz Z0;unfold GR;refine wpIn_mono (aht hkb i2 f2 hb2 Z0) ?_;rintro e' a' w' ⟨rfl,m',s1,i1,f1⟩;simp only at Kz hno;by_cases Sd:e4=.norm
      ·subst Sd;simp only[if_true,aS,aB]at Kz;obtain⟨rfl,rfl,rfl⟩:=Kz
       have hbl:Ex.nW (1000+l) (.exit id,GU,h4)=(.exit id,GU,h4):=by
        unfold Ex.nW;rw[if_neg (by simpa using hog)]
       rw[hbl]at hz3;simp only[aB]at hz3;obtain⟨rfl,rfl,rfl⟩:=hz3;simp only[reduceCtorEq,if_false,aS,aB]at hx2;obtain⟨rfl,rfl,rfl⟩:=hx2;unfold Ex.nW at hfin;simp only[if_true,aB]at hfin;obtain⟨rfl,rfl,rfl⟩:=hfin;exact .inr ⟨by simp[yD],rfl,m',s2.trans s1,i1,f1⟩
      ·simp only[if_neg Sd,aS,aB]at Kz;obtain⟨rfl,rfl,rfl⟩:=Kz;by_cases Sg:e4=.exit (1000+l)
       ·subst Sg;have hbl:Ex.nW (1000+l) (.exit (1000+l),GU,h4)=(.norm,GU,h4):=by unfold Ex.nW;rw[if_pos rfl]
        rw[hbl]at hz3;simp only[aB]at hz3;obtain⟨rfl,rfl,rfl⟩:=hz3;simp only[if_true]at hx2;exact .inl ⟨tl,ihk (s2.trans s1) i1 f1 (by rw[s1.len];exact hb2) hx2 hfin⟩
       ·have hbl:Ex.nW (1000+l) (e4,GU,h4)=(e4,GU,h4):=by unfold Ex.nW;rw[if_neg Sg]
        rw[hbl]at hz3;simp only[aB]at hz3;obtain⟨rfl,rfl,rfl⟩:=hz3;simp only[if_neg Sd,aS,aB]at hx2;obtain⟨rfl,rfl,rfl⟩:=hx2;unfold Ex.nW at hfin;rw[if_neg hno]at hfin;simp only[aB]at hfin;obtain⟨rfl,rfl,rfl⟩:=hfin;exact .inr ⟨ZY _ Sg,rfl,m',s2.trans s1,i1,f1⟩
    simp only[exec,mE,bE]at hx;obtain⟨⟨e1,pz,h1⟩,⟨⟨e2,jl,h2⟩,⟨⟨e3,yF,h3⟩,hx3,hx4⟩,hx5⟩,hfin⟩:=hx;have hno:=ZW (call:=call) (cx:=cx) n id x1 hnx hx3;simp only at hx5 hno;refine ahe hfl (pre _ _ _ _ hx3 ?_);rintro e' a' w' ⟨rfl,m',s1,i1,f1⟩;have hb1:cx.base+cx.ns<=h3.length:=by rw[s1.len];exact hb
    by_cases Si:e3=.norm
    ·subst Si;have hbl:Ex.nW (1000+l) (.norm,yF,h3)=(.norm,yF,h3):=by unfold Ex.nW;rw[if_neg (by simp)]
     rw[hbl]at hx4;simp only[aB]at hx4;obtain⟨rfl,rfl,rfl⟩:=hx4;simp only[if_true]at hx5
     show (Code.seq (.label l) b1).wpIn (mQ N.ro) 0 P _ a' w'
     refine wpIn_seq (wpIn_label ?_);have hr:=key n s1 i1 f1 hb1 hx5 hfin
     cases n with
     |zero=>exact hr.elim
     |succ k =>
      refine wpIn_mono hr ?_;rintro ZX a'' w'' (⟨rfl,hk⟩|⟨hne,hq⟩)
      ·exact .inl ⟨rfl,_,hk⟩
      ·exact .inr ⟨hne,hq⟩
    ·refine R7 Si ?_;by_cases Sj:e3=.exit (1000+l)
     ·subst Sj;have hbl:Ex.nW (1000+l) (.exit (1000+l),yF,h3)=(.norm,yF,h3):=by unfold Ex.nW;rw[if_pos rfl]
      rw[hbl]at hx4;simp only[aB]at hx4;obtain⟨rfl,rfl,rfl⟩:=hx4;simp only[if_true]at hx5;exact .inl ⟨tl,_,key n s1 i1 f1 hb1 hx5 hfin⟩
     ·have hbl:Ex.nW (1000+l) (e3,yF,h3)=(e3,yF,h3):=by unfold Ex.nW;rw[if_neg Sj]
      rw[hbl]at hx4;simp only[aB]at hx4;obtain⟨rfl,rfl,rfl⟩:=hx4;simp only[if_neg Si,aS,aB]at hx5;obtain⟨rfl,rfl,rfl⟩:=hx5;unfold Ex.nW at hfin;rw[if_neg hno]at hfin;simp only[aB]at hfin;obtain⟨rfl,rfl,rfl⟩:=hfin
      exact .inr ⟨ZY _ Sj,rfl,m',s1,i1,f1⟩
 |loop x =>
  have pX:=yE x (by simp only[XC.loop.sizeOf_spec];omega)
  intro c w m h env a e env' h' hk hi hf hb hx;cases c<;>first|simp only[jU,XC.core,iw]at hk|exact absurd hk (by rw[GN P aZ iq N.N (fun _ _ h=>by cases h)];simp)
  rename_i p;simp only[exec]at hx
  have key:∀(k:Nat) {w2:World} {m2:Map} {h2:Heap} {jl:Env} {a2:Act},Step cx.lo w m h w2 m2 h2->Inv w2 m2 h2->Fr N w2 m2 h2 jl a2->cx.base+cx.ns<=h2.length->iter (exec call cx n x) k (jl,h2)=some (e,(env',h')) ->
    roundsIn (mQ N.ro) P p (DC N cx.lo w m h e env' h') k a2 w2:=by
   intro k
   induction k with
   |zero=>intro w2 m2 h2 jl a2 _ _ _ _ hit;simp[iter]at hit
   |succ k ihk =>
    intro w2 m2 h2 jl a2 s2 i2 f2 hb2 hit;simp only[iter,bE]at hit;obtain⟨⟨e1,pz,h1⟩,hx1,hx2⟩:=hit;simp only at hx2;unfold roundsIn;refine wpIn_mono (pX p hk i2 f2 hb2 hx1) ?_;rintro e' a' w' ⟨rfl,m',s1,i1,f1⟩;split at hx2
    ·rename_i he;subst he;exact ihk (s2.trans s1) i1 f1 (by rw[s1.len];exact hb2) hx2
    ·rename_i he;simp only[aS,aB]at hx2;obtain⟨rfl,rfl,rfl⟩:=hx2;exact R7 he ⟨rfl,m',s2.trans s1,i1,f1⟩
  exact wpIn_loop_rounds n (key n (Step.refl _ _ _ _) hi hf hb hx)
 |mI s f g =>
  intro c w m h env a e env' h' hk hi hf hb hx;cases c<;>first|simp only[jU,XC.core,iw]at hk|exact absurd hk (by rw[GN P aZ iq N.N (fun _ _ h=>by cases h)];simp)
  rename_i f0 ps jE body;simp only[bM]at hk
  exact ahh hc hrd hlo hrnd hk.1 hk.2 hi hf hb hx
 |pre ps x =>
  have pX:=yE x (by simp only[XC.pre.sizeOf_spec];omega)
  intro c w m h env a e env' h' hk hi hf hb hx
  have hk':jU P aZ iq N.N c x=true:=by
   cases c<;>first|(simp only[jU,XC.core]at hk⊢;first|exact hk|done)|(rw[<-hk];exact ZQ P aZ iq N.N rfl)
  exact pX c hk' hi (hf.keep ps) hb hx
 |fz t x =>
  have pX:=yE x (by simp only[XC.fz.sizeOf_spec];omega)
  intro c w m h env a e env' h' hk hi hf hb hx
  have hk':jU P aZ iq N.N c x=true:=by
   cases c<;>first|(simp only[jU,XC.core]at hk⊢;first|exact hk|done)|(rw[<-hk];exact ZQ P aZ iq N.N rfl)
  simp only[exec,bE]at hx;obtain⟨⟨v,h1⟩,hz,hx⟩:=hx;obtain⟨s,i,r⟩:=afE hlo hi (hf.env.at' t) hz;have fs:=hf.step s
  have f1:Fr N w m h1 (env.set t v) a:=⟨⟨fun q=>by
   rw[Env.RI];split
   ·rename_i hq;subst hq;exact r
   ·exact fs.env.at' q,fs.env.kI⟩,fs.size,fs.defers,fs.kW,fs.bound⟩
  refine wpIn_mono (pX c hk' i f1 (by rw[s.len];exact hb) hx) ?_
  rintro e' a' w' ⟨rfl,m',s1,i1,f1⟩;exact⟨rfl,m',s.trans s1,i1,f1⟩
end
end Go.VI
