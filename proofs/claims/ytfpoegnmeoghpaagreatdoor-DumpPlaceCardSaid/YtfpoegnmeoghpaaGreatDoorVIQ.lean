/- Code and calls: the evaluator's answers are the machine's. -/
import Derived.Test.YtfpoegnmeoghpaaGreatDoorVIP
set_option linter.unusedVariables false
set_option linter.unusedSimpArgs false
namespace Go.VI
set_option linter.unusedSectionVars false
variable [kH][Rounds]
def XC.core:XC->XC
 |.pre _ x=>x.core
 |x=>x
def Tn:Code->Bool
 |.seq a b=>Tn a&&Tn b
 |.label _=>false
 |_=>true
theorem alO:∀{c:Code} (l:Nat),Tn c=true->findLabel c l=none
 |.seq a b,l,h=>by
  simp only[Tn,fw]at h
  simp only[findLabel,alO l h.1,alO l h.2]
 |.skip,_,_|.region ..,_,_|.cond ..,_,_|.block ..,_,_|.loop _,_,_|.rangeFunc ..,_,_|.exit _,_,_|.scope _,_,_|.goto _,_,_|.ret,_,_|.refuse _,_,_=>rfl
 |.label _,_,h=>by cases h
def XC.SA(o:Nat):XC->Bool
 |.skip|.ret|.reg ..=>true
 |.exit i=>!(i==o)
 |.seq a b|.cond _ a b=>a.SA o&&b.SA o
 |.blk _ c|.loop c|.pre _ c=>c.SA o
 |.Gm ..=>false
section
variable (P:Program)(eB:Nat->Bool)(qR:Nat->Option DU)(N:Nat)
def zD:Code->XC->Bool
 |.skip,y=>match y.core with|.skip=>true|_=>false
 |.region _ ops draw,y=>match y.core with|.reg ash _ _ xs=>draw==ash&&ac3 P ops.toList N ops.toList xs&&(!draw||ase eB ops.toList xs)|_=>false
 |.seq a b,y=>match y.core with|.seq x y=>zD a x&&zD b y|_=>false
 |.cond c a b,y=>match y.core with|.cond c' x y=>qU c c'&&zD a x&&zD b y|_=>false
 |.block i c,y=>match y.core with|.blk j x=>i==j&&decide (i<1000)&&zD c x|_=>false
 |.loop c,y=>match y.core with|.loop x=>zD c x|_=>false
 |.exit i,y=>match y.core with|.exit j=>i==j&&decide (i<1000)|_=>false
 |.label _,y=>match y.core with|.skip=>true|_=>false
 |.goto l,y=>match y.core with|.exit j=>j==1000+l|_=>false
 |.scope s,y=>match y.core,s with|.blk o (.seq (.blk g x) (.loop (.blk g' (.seq z (.exit o'))))),.seq a (.seq (.label l) b)=>o'==o&&g==1000+l&&g'==g&&!(o==g)&&x.SA o&&z.SA o&&Tn a&&Tn b&&zD a x&&zD b z|.blk o (.seq (.blk g (.seq x u)) (.loop (.blk g' (.seq z (.exit o'))))),.seq a (.seq c (.seq (.label l) b))=>o'==o&&g==1000+l&&g'==g&&!(o==g)&&x.SA o&&u.SA o&&z.SA o&&Tn a&&Tn c&&Tn b&&zD a x&&zD c u&&zD b z|_,_=>false
 |.ret,y=>match y.core with|.ret=>true|_=>false
 |.rangeFunc f ps a b,y=>match y.core with|.Gm _ f' g=>qU f f'&&(match qR g with|some x=>x.ps==ps.toList&&ps.toList.all (fun p=>decide (p<N))&&zD a x.xQ&&zD b x.body|none=>false)|_=>false
 |_,_=>false
theorem aj8{s:Code}{y:XC}(h:∀ o x,y.core≠.blk o x):zD P eB qR N (.scope s) y=false:=by
 unfold zD;split
 ·rename_i heq;exact absurd heq (h _ _)
 ·first|(rename_i heq;exact absurd heq (h _ _))|(rename_i heq _;exact absurd heq (h _ _))|(rename_i heq _ _;exact absurd heq (h _ _))
 ·rfl
theorem aF7{s:Code}{y y':XC}(h:y.core=y'.core):zD P eB qR N (.scope s) y=zD P eB qR N (.scope s) y':=by
 unfold zD;rw[h]
def aoa(g:Nat)(ps:Array Tmp)(a b:Code):Bool :=
 match qR g with
 |some x=>x.ps==ps.toList&&ps.toList.all (fun p=>decide (p<N))&&zD P eB qR N a x.xQ&&zD P eB qR N b x.body
 |none=>false
def Ns:List ResultVar->List LY->Bool
 |[],[]=>true
 |.tmp t::rs,.tmp t'::xs=>t==t'&&Ns rs xs
 |.cell t ty::rs,.cell t' sh::xs=>t==t'&&aln P ty sh&&Ns rs xs
 |_,_=>false
end
def ai2(P:Program)(eB:Nat->Bool)(qR:Nat->Option DU)(f:Nat)(x:gH):Bool :=
 match P.funcs[f]? with
 | some fn => decide (fn.name ≠ "runtime.NumGoroutine") && decide (x.np ≤ fn.ntmps) && ((!x.isOpen || !eB f) && (!eB (f + 5000) || x.code.still eB)) && Ns P fn.results.toList x.res &&
  (match fn.body with|some c=>zD P eB qR fn.ntmps c x.code|none=>false)
 |none=>false
structure aj9(P:Program)(eB:Nat->Bool)(qR:Nat->Option DU):Prop where
 iff:∀{g N:Nat} {ps:Array Tmp} {a b:Code},Rounds.ok g N ps a b↔aoa P eB qR N g ps a b=true
def Y6:Ex->Exit
 |.norm=>.normal
 |.exit id=>if id<1000 then .exit id else .goto (id-1000)
 |.ret=>.ret
theorem ac4{i:Nat}(h:i<1000):Y6 (.exit i)=.exit i:=if_pos h
theorem ac5{i:Nat}(h:¬ i<1000):Y6 (.exit i)=.goto (i-1000):=if_neg h
theorem aF8{K K':Act->World->Prop}{Q:Exit->Act->World->Prop}{e:Ex}{a:Act}{w:World}(he:e≠.norm)(h:(Exit.then K Q) (Y6 e) a w):(Exit.then K' Q) (Y6 e) a w:=by
 cases e with
 |norm=>exact absurd rfl he
 |exit id =>
  by_cases hid:id<1000
  ·rw[ac4 hid]at h⊢;exact h
  ·rw[ac5 hid]at h⊢;exact h
 |ret=>exact h
theorem asi{K:Act->World->Prop}{Q:Exit->Act->World->Prop}{e:Ex}{a:Act}{w:World}(he:e≠.norm)(h:Q (Y6 e) a w):(Exit.then K Q) (Y6 e) a w:=by
 cases e with
 |norm=>exact absurd rfl he
 |exit id =>
  by_cases hid:id<1000
  ·rw[ac4 hid]at h⊢;exact h
  ·rw[ac5 hid]at h⊢;exact h
 |ret=>exact h
section
variable {P:Program}{eB:Nat->Bool}{qR:Nat->Option DU}{N:acf}{call:Callee}{cx:Cx}
def ac6(N:acf)(lo:Nat)(w:World)(m:Map)(h:Heap)(e:Ex)(env':Env)(h':Heap):Exit->Act->World->Prop :=
 fun e' a' w'=>e'=Y6 e/\∃ m',Step lo w m h w' m' h'/\Inv w' m' h'/\Fr N w' m' h' env' a'
theorem Fr.keep{w:World}{m:Map}{h:Heap}{env:Env}{a:Act}(hf:Fr N w m h env a)(ps:List Nat):Fr N w m h (env.keep ps) a :=
 ⟨⟨fun t=>by
  rw[Env.aFq];split
  ·exact hf.env.at' t
  ·simp[R],hf.env.CX⟩,hf.size,hf.defers,hf.Df,hf.bound⟩
theorem Fr.eq{w:World}{m:Map}{h:Heap}{env env':Env}{a:Act}(hf:Fr N w m h env a)(he:Te env' env):Fr N w m h env' a :=
 ⟨⟨fun t=>by rw[he t];exact hf.env.at' t,hf.env.CX⟩,hf.size,hf.defers,hf.Df,hf.bound⟩
theorem aF9{M:Nat}{ops:Array Oper}{xs:List jc}(hk:ac3 P ops.toList M ops.toList xs=true) :
  (List.range ops.size).length=xs.length/\∀(k i:Nat) x,(List.range ops.size)[k]?=some i->xs[k]?=some x->∃ o,ops[i]?=some o/\aj7 P ops.toList M o x=true:=by
 obtain⟨h1,h2⟩:=an4 hk;refine⟨by simpa using h1,fun k i x hk hx=>?_⟩
 have hk':k<ops.size/\k=i:=by
  have:=kS.mp hk;obtain⟨hlt,he⟩:=this;simp at hlt he;exact⟨hlt,he⟩
 obtain⟨hlt,rfl⟩:=hk';have ho:ops[k]?=some ops[k]:=by simp[hlt]
 exact⟨ops[k],ho,h2 k ops[k] x (by simp[hlt]) hx⟩
theorem aF'(xs:List jc):∀ n,n=xs.length->(List.range n).filterMap (xs[·]?)=xs:=by
 rintro n rfl;refine Zy fun i=>?_
 have:(List.range xs.length).filterMap (xs[·]?)=xs:=by
  have h1:∀(l:List jc) (k:Nat) (full:List jc),(∀ j,l[j]?=full[k+j]?)->(List.range' k l.length).filterMap (full[·]?)=l:=by
   intro l
   induction l with
   |nil=>intro k full _;rfl
   |cons x l ih =>
    intro k full hf;have h0:full[k]?=some x:=by have:=hf 0;simpa using this.symm
    simp only[List.length_cons,List.range'_succ,List.filterMap_cons,h0];rw[ih (k+1) full fun j=>by have:=hf (j+1);simpa[Nat.add_assoc,Nat.add_comm 1 j]using this]
  rw[List.range_eq_range'];exact h1 xs 0 xs fun j=>by simp
 rw[this]
def roundsIn(F:Fence)(P:Program)(c:Code)(Q:Exit->Act->World->Prop):Nat->Act->World->Prop
 |0,_,_=>False
 |n+1,a,w=>c.wpIn F 0 P (Exit.then (roundsIn F P c Q n) Q) a w
theorem wpIn_loop_rounds{F:Fence}{P:Program}{c:Code}{Q:Exit->Act->World->Prop}{a:Act}{w:World}(n:Nat)(h:roundsIn F P c Q n a w):(Code.loop c).wpIn F 0 P Q a w:=by
 intro b k cs hro hb hr
 have key:∀ n a w,roundsIn F P c Q n a w->∃ e a' w',Q e a' w'/\ArrivesIn (Machine.fenced P F) P (lone (b.atR a (.code c::.inLoop c::k)) cs w) b k cs e a' w':=by
  intro n
  induction n with
  |zero=>intro a w h;exact h.elim
  |succ n ih =>
   intro a w h;obtain⟨e,a₁,w₁,hq,harr⟩:=h b (.inLoop c::k) cs hro hb hr
   cases e with
   |normal =>
    obtain⟨e₂,a₂,w₂,hq₂,harr₂⟩:=ih a₁ w₁ hq
    exact⟨e₂,a₂,w₂,hq₂,.of_steps (StepsIn.trans harr (.one (fenced_calm hb hr rfl) stepR_inLoop)) harr₂⟩
   |exit id=>exact⟨_,a₁,w₁,hq,.pass (x:=.inLoop c) rfl (fun _ _=>.inl (by simp)) harr⟩
   |goto l=>exact⟨_,a₁,w₁,hq,.pass (x:=.inLoop c) rfl (fun _ _=>.inl (by simp)) harr⟩
   |ret=>exact⟨_,a₁,w₁,hq,.pass (x:=.inLoop c) rfl (fun _ _=>.inl (by simp)) harr⟩
   |panic ch=>exact⟨_,a₁,w₁,hq,.pass (x:=.inLoop c) rfl (fun _ _=>.inl (by simp)) harr⟩
   |outgrown=>exact⟨_,a₁,w₁,hq,.pass (x:=.inLoop c) rfl (fun _ _=>.inl (by simp)) harr⟩
 obtain⟨e,a',w',hq,harr⟩:=key n a w h;exact⟨e,a',w',hq,.of_steps (.one (fenced_calm hb hr rfl) stepR_loop) harr⟩
theorem azi{P:Program}{b:Frame}{a:Act}{c:Code}{k:List Item}{cs:List Frame}{w:World} :
  step P (lone (b.atR a (.code (.scope c)::k)) cs w)=.next (lone (b.atR a (.code c::.inScope c::k)) cs w) :=
 step_lone_go (by simp[stepG,stepG.exec,Frame.atR])
theorem aGa{P:Program}{b:Frame}{a:Act}{c:Code}{k:List Item}{cs:List Frame}{w:World} :
  step P (lone (b.atR a (.inScope c::k)) cs w)=.next (lone (b.atR a k) cs w) :=
 step_lone_go (by simp[stepG,stepG.exec,Frame.atR])
def aj'(F:Fence)(P:Program)(l:Nat)(c:Code)(Q:Exit->Act->World->Prop):Nat->Act->World->Prop
 |0,_,_=>False
 |k+1,a,w=>c.wpIn F 0 P (fun e a w=>(e=.goto l/\aj' F P l c Q k a w)\/(e≠.goto l/\Q e a w)) a w
theorem azj{x z:Code}{l:Nat}(hx:Tn x=true)(hz:Tn z=true)(t:Nat):findLabel (.seq x (.seq (.label l) z)) t=if t=l then some (.seq .skip z)else none:=by
 simp only[findLabel,alO t hx];by_cases ht:t=l
 ·subst ht;simp
 ·have:(l==t)=false:=by simp;exact fun h=>ht h.symm
  simp[this,alO t hz,ht]
theorem aGb{x y z:Code}{l:Nat}(hx:Tn x=true)(hy:Tn y=true)(hz:Tn z=true)(t:Nat):findLabel (.seq x (.seq y (.seq (.label l) z))) t=if t=l then some (.seq .skip z)else none:=by
 rw[<-azj (x:=y) hy hz t];simp only[findLabel,alO t hx]
theorem aGc{F:Fence}{P:Program}{S z:Code}{l:Nat}{Q:Exit->Act->World->Prop}{a:Act}{w:World}(hf:∀ t,findLabel S t=if t=l then some (.seq .skip z)else none)
  (h:S.wpIn F 0 P (fun e a w=>(e=.goto l/\∃ k,aj' F P l z Q k a w)\/(e≠.goto l/\Q e a w)) a w):(Code.scope S).wpIn F 0 P Q a w:=by
 intro b k cs hro hb hr
 -- what comes behind a part of the scope
 have pass:∀{mm:Machine} {e:Exit} {a₁:Act} {w₁:World},e≠.goto l->Q e a₁ w₁->ArrivesIn (Machine.fenced P F) P mm b (.inScope S::k) cs e a₁ w₁->∃ e a' w',Q e a' w'/\ArrivesIn (Machine.fenced P F) P mm b k cs e a' w':=by
  intro mm e a₁ w₁ hne hq harr
  cases e with
  |normal=>exact⟨_,a₁,w₁,hq,StepsIn.trans harr (.one (fenced_calm hb hr rfl) aGa)⟩
  |exit id =>
   have hxx:exitTo id (.inScope S::k)=exitTo id k:=by simp[exitTo]
   exact⟨_,a₁,w₁,hq,fun k' hk=>harr.1 k' (by rw[hxx];exact hk),fun hr' hk=>harr.2 hr' (by rw[hxx];exact hk)⟩
  |goto t =>
   have ht:t≠l:=fun e=>hne (by rw[e])
   have hxx:gotoIn t (.inScope S::k)=gotoIn t k:=by simp[gotoIn,hf,ht]
   exact⟨_,a₁,w₁,hq,fun k' hk=>harr.1 k' (by rw[hxx];exact hk),fun hr' hk=>harr.2 hr' (by rw[hxx];exact hk)⟩
  |ret=>exact⟨_,a₁,w₁,hq,harr⟩
  |panic ch=>exact⟨_,a₁,w₁,hq,harr⟩
  |outgrown=>exact⟨_,a₁,w₁,hq,harr⟩
 have jump:∀{mm:Machine} {a₁:Act} {w₁:World},ArrivesIn (Machine.fenced P F) P mm b (.inScope S::k) cs (.goto l) a₁ w₁->StepsIn (Machine.fenced P F) P mm (lone (b.atR a₁ (.code (.seq .skip z)::.inScope S::k)) cs w₁):=by
  intro mm a₁ w₁ harr;exact harr.1 _ (by simp[gotoIn,hf])
 have key:∀ n a w,aj' F P l z Q n a w->∃ e a' w',Q e a' w'/\ArrivesIn (Machine.fenced P F) P (lone (b.atR a (.code (.seq .skip z)::.inScope S::k)) cs w) b k cs e a' w':=by
  intro n
  induction n with
  |zero=>intro a w h;exact h.elim
  |succ n ih =>
   intro a w h;have hs:(Code.seq .skip z).wpIn F 0 P (fun e a w=>(e=.goto l/\aj' F P l z Q n a w)\/(e≠.goto l/\Q e a w)) a w:=wpIn_seq (wpIn_skip h);obtain⟨e,a₁,w₁,hq,harr⟩:=hs b (.inScope S::k) cs hro hb hr;rcases hq with⟨rfl,hn⟩|⟨hne,hq⟩
   ·obtain⟨e2,a2,w2,q2,r2⟩:=ih a₁ w₁ hn;exact⟨e2,a2,w2,q2,.of_steps (jump harr) r2⟩
   ·exact pass hne hq harr
 obtain⟨e,a₁,w₁,hq,harr⟩:=h b (.inScope S::k) cs hro hb hr;rcases hq with⟨rfl,n,hn⟩|⟨hne,hq⟩
 ·obtain⟨e2,a2,w2,q2,r2⟩:=key n a₁ w₁ hn;exact⟨e2,a2,w2,q2,.of_steps (.one (fenced_calm hb hr rfl) azi) (.of_steps (jump harr) r2)⟩
 ·obtain⟨e2,a2,w2,q2,r2⟩:=pass hne hq harr;exact⟨e2,a2,w2,q2,.of_steps (.one (fenced_calm hb hr rfl) azi) r2⟩
theorem aGd{w:World}{m:Map}{h:Heap}{env:Env}{a:Act}(hi:Inv w m h)(hf:Fr N w m h env a)(hrnd:cx.Df=N.Df)(hr:abY cx h=true)(fn:FuncId)(ps:Array Tmp)(xQ body:Code) :
  ∃ l mark w1 r,(Instr.enterLoop fn a.tmps ps xQ body N.ro).run P w=.ok (l,mark) w1/\w.heap.size<=l/\RowKit.Below w.heap.size w w1/\w1.heap[l]?=some (.loop r)/\r.state=.ready/\r.pending=none/\r.tmps=a.tmps/\r.params=ps/\r.assign=xQ/\r.body=body /\
   ∃ Ds:List Nat,mark=Ds.map (fun D=>{ target:=.collected D,args:=#[] })/\Ds.Nodup/\∀ D∈Ds,w.heap.size<=D/\D≠l/\w1.heap[D]?=some (.deferred (some [])):=by
 cases hro:N.ro with
 |none =>
  refine⟨w.heap.size+1,_,_,{ state:=.ready,pending:=none,fn,tmps:=a.tmps,params:=ps,assign:=xQ,body,defers:=w.heap.size },run_enterLoop_outer _ _ _ _ _,by omega, ?_, ?_,rfl,rfl,rfl,rfl,rfl,rfl,[w.heap.size],rfl,by simp, ?_⟩
  ·exact((RowKit.Below.refl _ _).alloc (iJ _) _).alloc (by simp) _
  ·have:=World.alloc_heap_new (w.alloc (.deferred (some []))) (.loop { state:=.ready,pending:=none,fn,tmps:=a.tmps,params:=ps,assign:=xQ,body,defers:=w.heap.size })
   rwa [World.size_alloc]at this
  ·intro D hD;simp only[ach]at hD;subst hD;refine⟨iJ _,by omega, ?_⟩
   exact(RowKit.Below.heap_alloc _ _ _ (by simp)).trans (World.alloc_heap_new w _)
 |some l0 =>
  have hra:=hf.Df;rw[hro]at hra
  cases hr2:N.Df with
  |none=>rw[hr2]at hra;exact hra.elim
  |some p =>
   obtain⟨id,ak⟩:=p;rw[hr2]at hra;unfold abY at hr;rw[hrnd,hr2]at hr;have hr1:=hr;dsimp only at hr1;split at hr1
   ·rename_i v d st hid;simp only[beq_iff_eq,fw]at hr1;obtain⟨rfl,hlp⟩:=hr1;obtain⟨v0,blk,q1,q2,q3⟩:=hra;rw[hid]at q1;cases q1;have hm:=q3 rfl d st rfl;obtain⟨b,o,e1,e2,e3⟩:=hi.aV id _ d st hid;obtain⟨r0,rfl,_⟩:=e3.loop hlp;rw[hm]at e1;cases e1;refine⟨w.heap.size,_,_,{ state:=.ready,pending:=none,fn,tmps:=a.tmps,params:=ps,assign:=xQ,body,defers:=r0.defers },run_enterLoop_inner e2 _ _ _ _ _,by omega, ?_, ?_,rfl,rfl,rfl,rfl,rfl,rfl,[],rfl,by simp,by simp⟩
    ·exact(RowKit.Below.refl _ _).alloc (iJ _) _
    ·exact World.alloc_heap_new w _
   ·cases hr1
theorem aGe{w:World}{f:FuncId}(he:Enters P f)(args:Array Value):(callFunc f args).run P w=.ok (.enter f args) w:=by
 obtain⟨fn,hfn,hname,hbody⟩:=he;have hb':fn.body.isNone=false:=by cases hfb:fn.body<;>simp_all
 simp only[callFunc,Sem.run_bind,run_program,Result.andThen_ok,hfn];simp[hname,hb']
theorem alQ(w:World)(l:Nat)(o:Obj)(k:Nat):(w.putObj l o).heap[k]?=if k=l then(if l<w.heap.size then some o else none)else w.heap[k]?:=by
 by_cases hk:k=l
 ·subst hk;rw[if_pos rfl];split
  ·rename_i h;exact World.putObj_heap_same h
  ·rename_i h;rw[Array.getElem?_eq_none];simp[World.putObj]at *;omega
 ·rw[if_neg hk];exact World.putObj_heap_other hk
theorem asj{w:World}{m:Map}{h:Heap}{id ak l:Nat}{d:kP}{st:RS}(hi:Inv w m h)(hid:h[id]?=some (ak,.aV d st))(hm:m[id]?=some l)(o:Obj){lo:Nat}(hlo:lo<=id) :
  (Step lo w m h (w.putObj l o) m (h.set id (ak,.dead))/\Inv (w.putObj l o) m (h.set id (ak,.dead))) /\
  ∀ st',st.loop=true->st'.loop=true->JJ w (Live m h) m h o d st'->Step lo w m h (w.putObj l o) m (h.set id (ak,.aV d st'))/\Inv (w.putObj l o) m (h.set id (ak,.aV d st')):=by
 have hlt:=hi.lt hid (by simp) hm
 have hold:∀ b,b<w.heap.size->(b=l->aU.aV d st=.dead)->(w.putObj l o).heap[b]?=w.heap[b]?:=by
  intro b _ he;rw[alQ,if_neg (fun h=>by cases he h)]
 have hmm:m.set id l=m:=by
  refine Zy fun j=>?_;by_cases hj:j=id
  ·subst hj;rw[L8 (by rw[hi.len];exact(kS.mp hid).1),hm]
  ·exact tL (by omega)
 have hsz:w.heap.size<=(w.putObj l o).heap.size:=by simp[World.putObj]
 constructor
 ·have p:Put w m h id ak (.aV d st) l (w.putObj l o) ak .dead l:=⟨hi,hid,hm,rfl,rfl,rfl,hsz,hold,iJ _,.inl rfl,fun _=>.inl rfl⟩;have s:=p.step (lo:=lo) hlo;have i:=p.alf (by simp) (fun h=>absurd rfl h)
  rw[hmm]at s i;exact⟨s,i⟩
 ·intro st' hl1 hl2 hr
  have p:Put w m h id ak (.aV d st) l (w.putObj l o) ak (.aV d st') l :=
   ⟨hi,hid,hm,rfl,rfl,rfl,hsz,hold,iJ _,.inr (.inl ⟨rfl,by simp⟩),fun _=>.inr (.inr (.inl ⟨d,st,d,st',rfl,rfl,by rw[hmm],by rw[RS.axA hl1,RS.axA hl2],fun l e=>by rw[e]at hl2;cases hl2⟩))⟩
  have s:=p.step (lo:=lo) hlo
  have i:=p.aiT (fun h=>by cases h) (fun d2 st2 he=>by
   cases he;exact⟨o,by rw[alQ,if_pos rfl,if_pos hlt],hr.ids s.ids s.keep (by simp)⟩)
  rw[hmm]at s i;exact⟨s,i⟩
theorem aGf(hc:Rk P eB call)(hrd:aj9 P eB qR)(hlo:cx.lo<=cx.base)(hrnd:cx.Df=N.Df){n s g:Nat}{f:bD}{f0:Operand}{ps:Array Tmp}{xQ body:Code}(hkf:qU f0 f=true)(hkr:aoa P eB qR N.N g ps xQ body=true)
  {w:World} {m:Map} {h:Heap} {env:Env} {a:Act} {e:Ex} {env':Env} {h':Heap} (hi:Inv w m h) (hf:Fr N w m h env a) (hb:cx.base+cx.ns<=h.length) (hx:exec call cx n (.Gm s f g) (env,h)=some (e,(env',h'))) :
  (Code.rangeFunc f0 ps xQ body).wpIn (F8 N.ro) 0 P (ac6 N cx.lo w m h e env' h') a w:=by
 simp only[exec]at hx;split at hx
 ·rename_i it caps hfv aGi;obtain⟨⟨ak,h1⟩,hmk,hx1⟩:=bE.mp hx;obtain⟨⟨r0,h2⟩,hcall,hx2⟩:=bE.mp hx1;clear hx hx1;dsimp only at hcall hx2;have hx:=hx2;clear hx2;have rf:=tO hf.env hkf;rw[hfv]at rf;simp only[R]at rf;obtain⟨vs,ef,rc⟩:=rf;obtain⟨hent,ar1⟩:=hc.does hcall;refine wpIn_rangeFunc fun fn _=>?_;obtain⟨l,mark,w1,r,hel,hl1,hbel,hlp,hst,hpe,htm,hps,has,hbo,Ds,hmark,hDn,hD⟩:=aGd (P:=P) hi hf hrnd aGi fn ps xQ body;obtain⟨v0,rY,b0,p,rfl,hs⟩:=arS hi hmk hbel hl1;have s1:=p.step (lo:=cx.lo) (by omega)
  have i1:=p.aiT (fun hh=>by cases hh) (fun d2 st2 he=>by
   cases he;refine⟨_,hlp,r,rfl,⟨hst,hpe⟩,hlo,by simpa using hb, ?_,fun t=>?_⟩
   ·rw[htm,hps,has,hbo,hf.size];exact hrd.iff.mpr hkr
   ·rw[htm];exact R.step s1.ids s1.keep _ _ (hf.env.at' t))
  have hyl:R w1 (Live (m.set (cx.base+s) l) (h.set (cx.base+s) (ak,.aV ⟨g,cx.lo,cx.base,cx.ns,env⟩ .ready))) (m.set (cx.base+s) l) (h.set (cx.base+s) (ak,.aV ⟨g,cx.lo,cx.base,cx.ns,env⟩ .ready)) (.lF (cx.base+s) ak) (.func (.yield l) #[] #[]):=by
   simp only[R];exact⟨0,l,rfl,ak,_,p.hset,iJ _,fun _ d st e=>by cases e;exact⟨rfl,p.IJ⟩⟩
  obtain⟨y,hy⟩:∃ y:Value,y=.func (.yield l) #[] #[]:=⟨_,rfl⟩;refine⟨l,mark,w1,if it<1000 then{ target:=.fn (.func it) vs.toArray,args:=#[y] } else{ target:=.fn (.func (it-1000)) #[],args:=vs.toArray.push y },w1,u7 it,(Rl it [y] vs).toArray,w1,hel, ?_,fun _ _=>trivial, ?_,fun h=>by simp[Fence.wide]at h, ?_⟩
  ·rw[hy];simp only[resolve,ef];unfold fnV;by_cases hg:it<1000
   ·rw[if_pos hg,if_pos hg];simp[go_sem]
   ·rw[if_neg hg,if_neg hg];simp[go_sem]
  ·have:=aGe (w:=w1) hent (Rl it [y] vs).toArray;by_cases hg:it<1000
   ·have e1:u7 it=it:=by unfold u7;rw[if_pos hg]
    have e2:Rl it [y] vs=y::vs:=by unfold Rl;rw[if_pos hg];rfl
    rw[e1,e2]at this⊢;rw[if_pos hg];simp only[invoke];simpa[go_sem]using this
   ·have e1:u7 it=it-1000:=by unfold u7;rw[if_neg hg]
    have e2:Rl it [y] vs=vs++[y]:=by unfold Rl;rw[if_neg hg]
    rw[e1,e2]at this⊢;rw[if_neg hg];simp only[invoke];simpa[go_sem]using this
  ·have ar2:=ar1 w1 _ (Rl it [y] vs) i1 (ayt (by
    simp only[RL];exact⟨_,_,rfl,by rw[hy];exact hyl,rfl⟩) (RL.step s1.ids s1.keep _ _ rc)) (by simp;omega)
   have alE:CallsIn (F8 N.ro) (0-1) P (u7 it) (Rl it [y] vs).toArray w1 _:=callsIn_wide.mpr ar2;refine alE.mono ?_;rintro e' w' ⟨u,m',rfl,s2,i2,_⟩
   -- the record is where it was
   have aGk:Zw m' h2 (cx.base+s) ak l:=Zw.step s2.ids ⟨ak,_,p.hset,iJ _,fun _ _ _ _=>p.IJ⟩;have s12:=s1.trans s2
   have hmarks:∀{w4:World} {m4:Map} {h4:Heap},Step cx.lo w1 (m.set (cx.base+s) l) (h.set (cx.base+s) (ak,.aV ⟨g,cx.lo,cx.base,cx.ns,env⟩ .ready)) w4 m4 h4->Fr N w4 m4 h4 env { a with defers:=mark++a.defers }:=by
    intro w4 m4 h4 s4;have hf4:=(hf.step s1).step s4;refine⟨⟨hf4.env.at',hf4.env.CX⟩,hf4.size, ?_,hf4.Df,hf4.bound⟩
    have hm1:Marks N.B w1 (m.set (cx.base+s) l) (h.set (cx.base+s) (ak,.aV ⟨g,cx.lo,cx.base,cx.ns,env⟩ .ready)) (mark++a.defers):=by
     obtain⟨Es,he1,he2,he3⟩:=hf.defers;refine⟨Ds++Es,by rw[hmark,he1,List.map_append], ?_,fun D ZH=>?_⟩
     ·rw[List.nodup_append];refine⟨hDn,he2,fun x hx y hy hxy=>?_⟩;subst hxy;obtain⟨_,k2,_⟩:=he3 x hy;have:=(aiS.mp k2).1;have:=(hD x hx).1;omega
     ·rcases Di.mp ZH with ZH|ZH
      ·obtain⟨k1,k2,k3⟩:=hD D ZH;refine⟨Np hf.bound k1,k3, ?_⟩;rintro⟨k,v,blk,g1,g2,g3⟩;by_cases hk:k=cx.base+s
       ·subst hk;rw[p.IJ]at g3;cases g3;exact k2 rfl
       ·rw[(p.other hk).1]at g1;rw[(p.other hk).2]at g3;have:=hi.lt g1 g2 g3;omega
      ·obtain⟨k1,k2,k3⟩:=he3 D ZH;have hlt:=(aiS.mp k2).1;exact⟨k1,(s1.old D hlt k3).trans k2,(s1.keep.out hlt k3).2⟩
    exact hm1.step s4
   have fin:∀{d2:kP} {st2:RS},h2[cx.base+s]?=some (ak,.aV d2 st2)->st2.loop=true->∃ r2,w'.heap[l]?=some (.loop r2)/\st2.is r2/\∀(w4:World),w4=w'.putObj l (.loop { r2 with state:=.exhausted }) ->
     Step cx.lo w m h w4 m' (h2.set (cx.base+s) (ak,.dead))/\Inv w4 m' (h2.set (cx.base+s) (ak,.dead))/\Fr N w4 m' (h2.set (cx.base+s) (ak,.dead)) env { a with defers:=mark++a.defers }:=by
    intro d2 st2 hid aGm;obtain⟨v3,aGn,q1,q2,q3⟩:=aGk;rw[hid]at q1;cases q1;have hm2:=q3 rfl d2 st2 rfl;obtain⟨b,o,e1,e2,e4⟩:=i2.aV _ _ _ _ hid;obtain⟨r2,rfl,e3,_⟩:=e4.loop aGm;rw[hm2]at e1;cases e1;refine⟨r2,e2,e3,fun w4 hw4=>?_⟩;subst hw4;obtain⟨⟨s3,i3⟩,_⟩:=asj i2 hid hm2 (.loop { r2 with state:=.exhausted }) (lo:=cx.lo) (by omega)
    exact⟨s12.trans s3,i3,hmarks (s2.trans s3)⟩
   show ∃ jump w4,(Instr.endLoop l).run P w'=.ok jump w4/\_
   split at hx
   ·rename_i v3 d2 hid;split at hx
    ·rename_i hv;subst hv;simp only[dz,bf]at hx;obtain⟨rfl,rfl,rfl⟩:=hx;obtain⟨r2,k1,k2,k3⟩:=fin hid rfl;obtain⟨g1,g2,g3⟩:=k3 _ rfl;refine⟨none,_,(run_endLoop (P:=P) k1 (by rw[k2.1];simp)).trans (congrArg (fun j=>Result.ok j _) k2.2), ?_⟩
     exact⟨rfl,m',g1,g2,g3⟩
    ·cases hx
   ·rename_i v3 d2 e2 hid;split at hx
    ·rename_i hv;subst hv;simp only[dz,bf]at hx;obtain⟨rfl,rfl,rfl⟩:=hx;obtain⟨r2,k1,k2,k3⟩:=fin hid rfl;obtain⟨g1,g2,g3⟩:=k3 _ rfl
     cases e2 with
     |norm=>exact k2.elim
     |exit i =>
      refine⟨some (ajQ i),_,(run_endLoop (P:=P) k1 (by rw[k2.1];simp)).trans (congrArg (fun j=>Result.ok j _) k2.2), ?_⟩
      show (ajQ i).wpIn _ _ _ _ _ _
      unfold ajQ;by_cases hi:i<1000
      ·rw[if_pos hi];exact wpIn_exit ⟨(ac4 hi).symm,m',g1,g2,g3⟩
      ·rw[if_neg hi]
       exact wpIn_goto ⟨(ac5 hi).symm,m',g1,g2,g3⟩
     |ret =>
      refine⟨some .ret,_,(run_endLoop (P:=P) k1 (by rw[k2.1];simp)).trans (congrArg (fun j=>Result.ok j _) k2.2), ?_⟩
      exact wpIn_ret ⟨rfl,m',g1,g2,g3⟩
    ·cases hx
   ·cases hx
 ·cases hx
theorem asl{w:World}{m:Map}(hlo:cx.lo<=cx.base):∀(ss:List Nat) (h:Heap),Inv w m h->Step cx.lo w m h w m (Gp cx ss h)/\Inv w m (Gp cx ss h)
 |[],h,hi=>⟨Step.refl _ _ _ _,hi⟩
 |s::ss,h,hi=>by
  simp only[Gp];split
  ·rename_i v b hid;obtain⟨s1,i1,_⟩:=alg (lo:=cx.lo) hi hid (by omega)
   obtain⟨s2,i2⟩:=asl hlo ss _ i1;exact⟨s1.trans s2,i2⟩
  ·exact asl hlo ss h hi
theorem azm(n o:Nat):∀(x:XC) {st:St} {r:Ex×St},x.SA o=true->exec call cx n x st=some r->r.1≠.exit o:=by
 intro x
 induction x with
 |skip=>intro st r _ h;simp only[exec,dz]at h;subst h;simp
 |ret=>intro st r _ h;simp only[exec,dz]at h;subst h;simp
 |reg draw keep kill xs =>
  intro st r _ h;obtain⟨env,hp⟩:=st;simp only[exec,mE]at h;obtain⟨_,_,rfl⟩:=h
  simp
 |exit id =>
  intro st r hx h;simp only[XC.SA,IK,beq_eq_false_iff_ne]at hx;simp only[exec,dz]at h;subst h
  simpa using hx
 |seq x y Nt ihy =>
  intro st r hx h;simp only[XC.SA,fw]at hx;simp only[exec,bE]at h;obtain⟨⟨e1,st1⟩,h1,h2⟩:=h;simp only at h2;split at h2
  ·exact ihy hx.2 h2
  ·simp only[dz]at h2;subst h2
   exact Nt hx.1 h1
 |cond c x y Nt ihy =>
  intro st r hx h;simp only[XC.SA,fw]at hx;simp only[exec,bE]at h;obtain⟨b,_,h2⟩:=h
  cases b with
  |true=>exact Nt hx.1 h2
  |false=>exact ihy hx.2 h2
 |blk id x Nt =>
  intro st r hx h;simp only[exec,mE]at h;obtain⟨r1,h1,rfl⟩:=h;have:=Nt hx h1;unfold Ex.Ir;split
  ·simp
  ·exact this
 |loop x Nt =>
  intro st r hx h;simp only[exec]at h
  have key:∀ k st,iter (exec call cx n x) k st=some r->r.1≠.exit o:=by
   intro k
   induction k with
   |zero=>intro st h;simp[iter]at h
   |succ k ihk =>
    intro st h;simp only[iter,bE]at h;obtain⟨⟨e1,st1⟩,h1,h2⟩:=h;simp only at h2;split at h2
    ·exact ihk _ h2
    ·simp only[dz]at h2;subst h2;exact Nt hx h1
  exact key n st h
 |Gm s f g=>intro st r hx h;cases hx
 |pre ps x Nt=>intro st r hx h;simp only[exec]at h;exact Nt hx h
theorem asn(hc:Rk P eB call)(hrd:aj9 P eB qR)(hm:P.follows .mixedOrders=true)(hlo:cx.lo<=cx.base)(hrnd:cx.Df=N.Df)(n:Nat):∀(x:XC) (c:Code) {w:World} {m:Map} {h:Heap} {env:Env} {a:Act} {e:Ex} {env':Env} {h':Heap},zD P eB qR N.N c x=true ->
  Inv w m h->Fr N w m h env a->cx.base+cx.ns<=h.length->exec call cx n x (env,h)=some (e,(env',h'))->c.wpIn (F8 N.ro) 0 P (ac6 N cx.lo w m h e env' h') a w:=by
 have main:∀(k:Nat) (x:XC),SizeOf.sizeOf x=k->∀(c:Code) {w:World} {m:Map} {h:Heap} {env:Env} {a:Act} {e:Ex} {env':Env} {h':Heap},zD P eB qR N.N c x=true ->
  Inv w m h->Fr N w m h env a->cx.base+cx.ns<=h.length->exec call cx n x (env,h)=some (e,(env',h'))->c.wpIn (F8 N.ro) 0 P (ac6 N cx.lo w m h e env' h') a w:=?_
 ·exact fun x=>main _ x rfl
 intro k
 induction k using Nat.strongRecOn with
 |_ k IH =>
 intro x hsz
 have ZI:∀ y:XC,SizeOf.sizeOf y<SizeOf.sizeOf x->∀(c:Code) {w:World} {m:Map} {h:Heap} {env:Env} {a:Act} {e:Ex} {env':Env} {h':Heap},zD P eB qR N.N c y=true ->
  Inv w m h->Fr N w m h env a->cx.base+cx.ns<=h.length->exec call cx n y (env,h)=some (e,(env',h'))->c.wpIn (F8 N.ro) 0 P (ac6 N cx.lo w m h e env' h') a w:=fun y hy=>IH (SizeOf.sizeOf y) (hsz▸hy) y rfl
 clear IH hsz
 cases x with
 |skip =>
  intro c w m h env a e env' h' hk hi hf hb hx;simp only[exec,dz,bf]at hx;obtain⟨rfl,rfl,rfl⟩:=hx;unfold zD at hk;split at hk<;>simp only[XC.core,uM]at hk
  ·exact wpIn_skip ⟨rfl,m,Step.refl _ _ _ _,hi,hf⟩
  ·exact wpIn_label ⟨rfl,m,Step.refl _ _ _ _,hi,hf⟩
 |exit id =>
  intro c w m h env a e env' h' hk hi hf hb hx;simp only[exec,dz,bf]at hx;obtain⟨rfl,rfl,rfl⟩:=hx;unfold zD at hk;split at hk<;>simp only[XC.core,uM]at hk
  ·simp only[fw,beq_iff_eq,decide_eq_true_eq]at hk;obtain⟨rfl,hlt⟩:=hk;exact wpIn_exit ⟨(ac4 hlt).symm,m,Step.refl _ _ _ _,hi,hf⟩
  ·rename_i l;simp only[beq_iff_eq]at hk;subst hk
   exact wpIn_goto ⟨by rw[ac5 (by omega),Nat.add_sub_cancel_left],m,Step.refl _ _ _ _,hi,hf⟩
 |ret =>
  intro c w m h env a e env' h' hk hi hf hb hx;cases c<;>first|simp only[zD,XC.core,uM]at hk|exact absurd hk (by rw[aj8 P eB qR N.N (fun _ _ h=>by cases h)];simp)
  simp only[exec,dz,bf]at hx;obtain⟨rfl,rfl,rfl⟩:=hx
  exact wpIn_ret ⟨rfl,m,Step.refl _ _ _ _,hi,hf⟩
 |reg draw keep kill xs =>
  intro c w m h env a e env' h' hk hi hf hb hx;cases c<;>first|simp only[zD,XC.core,uM]at hk|exact absurd hk (by rw[aj8 P eB qR N.N (fun _ _ h=>by cases h)];simp)
  rename_i id ops ash;simp only[fw,beq_iff_eq]at hk;obtain⟨⟨rfl,hk1⟩,hk2⟩:=hk;simp only[exec,mE,bf]at hx;obtain⟨⟨I7,h1⟩,hx,rfl,rfl,rfl⟩:=hx;obtain⟨sk,ik⟩:=asl (cx:=cx) hlo kill h hi;have fk:=hf.step sk;have hbk:cx.base+cx.ns<=(Gp cx kill h).length:=by rw[sk.len];exact hb
  cases ash with
  |false =>
   refine wpIn_region ?_;obtain⟨r1,r2⟩:=aF9 hk1
   exact ay9 hc hlo _ _ r1 r2 ik fk (by omega) hx fun a' w' m' s1 i1 f1=>⟨rfl,m',sk.trans s1,i1,f1.keep keep⟩
  |true =>
   simp only[Bool.not_true,Bool.false_or]at hk2;refine wpIn_region_any hm ?_;have hbel:RowKit.Below w.heap.size w { w with drawn:=w.drawn+1 }:=(RowKit.Below.refl _ _).drew
   have s0:=abq (lo:=cx.lo) ik hbel;have hlen:ops.size=xs.length:=by have:=(an4 hk1).1;simpa using this
   have hany:=aFZ (Q:=ac6 N cx.lo w m h .norm (I7.keep keep) h1) hc hlo hk1 hk2 (List.range ops.size) (Array.replicate ops.size false) (List.pairwise_lt_range) (by simp) (fun i=>by
     simp only[List.mem_range];constructor
     ·intro hi;exact⟨hi,by simp[hi]⟩
     ·intro hi;exact hi.1)
    (fun k hk hkn=>by simp[hkn]at hk) (ab3 ik hbel) (fk.step s0) (by omega) (by rw[aF' xs _ hlen];exact hx)
    (fun alN heq a' w' m' s1 i1 f1=>⟨rfl,m',(sk.trans s0).trans s1,i1,(f1.eq heq).keep keep⟩)
   simpa using hany
 |seq x y =>
  have Nt:=ZI x (by simp only[XC.seq.sizeOf_spec];omega)
  have ihy:=ZI y (by simp only[XC.seq.sizeOf_spec];omega)
  intro c w m h env a e env' h' hk hi hf hb hx;cases c<;>first|simp only[zD,XC.core,uM]at hk|exact absurd hk (by rw[aj8 P eB qR N.N (fun _ _ h=>by cases h)];simp)
  rename_i p q;simp only[fw]at hk;simp only[exec,bE]at hx;obtain⟨⟨e1,I7,h1⟩,hx1,hx2⟩:=hx;simp only at hx2;refine wpIn_seq (wpIn_mono (Nt p hk.1 hi hf hb hx1) ?_);rintro e' a' w' ⟨rfl,m',s1,i1,f1⟩;split at hx2
  ·rename_i he;subst he
   show q.wpIn (F8 N.ro) 0 P _ a' w'
   refine wpIn_mono (ihy q hk.2 i1 f1 (by rw[s1.len];exact hb) hx2) ?_
   rintro e'' a'' w'' ⟨rfl,m'',s2,i2,f2⟩;exact⟨rfl,m'',s1.trans s2,i2,f2⟩
  ·rename_i he;simp only[dz,bf]at hx2;obtain⟨rfl,rfl,rfl⟩:=hx2
   exact asi he ⟨rfl,m',s1,i1,f1⟩
 |cond c0 x y =>
  have Nt:=ZI x (by simp only[XC.cond.sizeOf_spec];omega)
  have ihy:=ZI y (by simp only[XC.cond.sizeOf_spec];omega)
  intro c w m h env a e env' h' hk hi hf hb hx;cases c<;>first|simp only[zD,XC.core,uM]at hk|exact absurd hk (by rw[aj8 P eB qR N.N (fun _ _ h=>by cases h)];simp)
  rename_i c1 p q;simp only[fw]at hk;simp only[exec,bE]at hx;obtain⟨r,hr,hx⟩:=hx;have hv:=axT (tO hf.env hk.1.1) hr;refine wpIn_cond hv ?_
  cases r with
  |true=>exact Nt p hk.1.2 hi hf hb hx
  |false=>exact ihy q hk.2 hi hf hb hx
 |blk id x =>
  have Nt:=ZI x (by simp only[XC.blk.sizeOf_spec];omega)
  intro c w m h env a e env' h' hk hi hf hb hx;cases c<;>first|simp only[zD,XC.core,uM]at hk|skip
  ·rename_i id' p;simp only[fw,beq_iff_eq,decide_eq_true_eq]at hk;obtain⟨⟨rfl,hlt⟩,hk⟩:=hk;simp only[exec,mE]at hx;obtain⟨⟨e1,I7,h1⟩,hx,he⟩:=hx;refine wpIn_block (wpIn_mono (Nt p hk hi hf hb hx) ?_);rintro e' a' w' ⟨rfl,m',s1,i1,f1⟩;unfold Ex.Ir at he;split at he
   ·rename_i heq;simp only at heq;subst heq;simp only[bf]at he;obtain⟨rfl,rfl,rfl⟩:=he;rw[ac4 hlt];simp only[Exit.inBlock,if_true];exact⟨rfl,m',s1,i1,f1⟩
   ·rename_i hne;simp only[bf]at he;obtain⟨rfl,rfl,rfl⟩:=he
    cases e1 with
    |norm=>exact⟨rfl,m',s1,i1,f1⟩
    |exit id2 =>
     simp only at hne;by_cases h2:id2<1000
     ·have e2:Y6 (.exit id2)=.exit id2:=ac4 h2;rw[e2];simp only[Exit.inBlock];rw[if_neg (fun h=>hne (by rw[h]))]
      exact⟨e2.symm,m',s1,i1,f1⟩
     ·have e2:Y6 (.exit id2)=.goto (id2-1000):=ac5 h2;rw[e2]
      exact⟨e2.symm,m',s1,i1,f1⟩
    |ret=>exact⟨rfl,m',s1,i1,f1⟩
  ·rename_i s;unfold zD at hk;simp only[XC.core]at hk
   obtain⟨l,x1,z1,b1,o',hfl,hog,hnx,hnz,hkb,hy,pre⟩:∃(l:Nat) (x1 z1:XC) (b1:Code) (o':Nat),(∀ t,findLabel s t=if t=l then some (.seq .skip b1)else none)/\¬ o'=1000+l/\x1.SA o'=true/\z1.SA o'=true/\zD P eB qR N.N b1 z1=true/\XC.blk id x=.blk o' (.seq (.blk (1000+l) x1) (.loop (.blk (1000+l) (.seq z1 (.exit o'))))) /\
     ∀(e3:Ex) (Y7:Env) (h3:Heap) (Q:Exit->Act->World->Prop),exec call cx n x1 (env,h)=some (e3,(Y7,h3))->(∀ e' a' w',ac6 N cx.lo w m h e3 Y7 h3 e' a' w'->Exit.then ((Code.seq (.label l) b1).wpIn (F8 N.ro) 0 P Q) Q e' a' w')->s.wpIn (F8 N.ro) 0 P Q a w:=by
    split at hk
    ·rename_i o g x1 g' z1 o' a1 l b1 heq;cases heq;simp only[fw,beq_iff_eq,IK,beq_eq_false_iff_ne]at hk;obtain⟨⟨⟨⟨⟨⟨⟨⟨⟨rfl,rfl⟩,rfl⟩,hog⟩,hnx⟩,hnz⟩,hfa⟩,hfb⟩,hka⟩,hkb⟩:=hk;have aso:=fun{w:World} {m:Map} {h:Heap} {env:Env} {a:Act} {e:Ex} {env':Env} {h':Heap}=>@ZI x1 (by simp only[XC.blk.sizeOf_spec,XC.seq.sizeOf_spec];omega) a1 w m h env a e env' h'
     exact⟨l,x1,z1,b1,_,azj hfa hfb,hog,hnx,hnz,hkb,rfl,fun e3 Y7 h3 Q hx3 after=>wpIn_seq (wpIn_mono (aso hka hi hf hb hx3) after)⟩
    ·rename_i o g x1 u1 g' z1 o' a1 c1 l b1 hnl heq;cases heq;simp only[fw,beq_iff_eq,IK,beq_eq_false_iff_ne]at hk;obtain⟨⟨⟨⟨⟨⟨⟨⟨⟨⟨⟨⟨rfl,rfl⟩,rfl⟩,hog⟩,hnx⟩,hnu⟩,hnz⟩,hfa⟩,hfc⟩,hfb⟩,hka⟩,hkc⟩,hkb⟩:=hk;have aso:=fun{w:World} {m:Map} {h:Heap} {env:Env} {a:Act} {e:Ex} {env':Env} {h':Heap}=>@ZI x1 (by simp only[XC.blk.sizeOf_spec,XC.seq.sizeOf_spec];omega) a1 w m h env a e env' h'
     have aGo:=fun{w:World} {m:Map} {h:Heap} {env:Env} {a:Act} {e:Ex} {env':Env} {h':Heap}=>@ZI u1 (by simp only[XC.blk.sizeOf_spec,XC.seq.sizeOf_spec];omega) c1 w m h env a e env' h'
     refine⟨l,.seq x1 u1,z1,b1,_,aGb hfa hfc hfb,hog,by simp only[XC.SA,hnx,hnu,Bool.and_self],hnz,hkb,rfl,fun e3 Y7 h3 Q hx3 after=>?_⟩
     simp only[exec,bE]at hx3;obtain⟨⟨e1,I7,h1⟩,hx1,hx2⟩:=hx3;simp only at hx2;refine wpIn_seq (wpIn_mono (aso hka hi hf hb hx1) ?_);rintro e' a' w' ⟨rfl,m',s1,i1,f1⟩;split at hx2
     ·rename_i he;subst he
      show (Code.seq c1 (.seq (.label l) b1)).wpIn (F8 N.ro) 0 P Q a' w'
      refine wpIn_seq (wpIn_mono (aGo hkc i1 f1 (by rw[s1.len];exact hb) hx2) ?_)
      rintro e'' a'' w'' ⟨rfl,m'',s2,i2,f2⟩;exact after _ _ _ ⟨rfl,m'',s1.trans s2,i2,f2⟩
     ·rename_i he;simp only[dz,bf]at hx2;obtain⟨rfl,rfl,rfl⟩:=hx2;exact aF8 he (after _ a' w' ⟨rfl,m',s1,i1,f1⟩)
    ·cases hk
   ·cases hy;clear hk;have aGp:=fun{w:World} {m:Map} {h:Heap} {env:Env} {a:Act} {e:Ex} {env':Env} {h':Heap}=>@ZI z1 (by simp only[XC.blk.sizeOf_spec,XC.seq.sizeOf_spec,XC.loop.sizeOf_spec];omega) b1 w m h env a e env' h'
    have tl:Y6 (.exit (1000+l))=.goto l:=by rw[ac5 (by omega),Nat.add_sub_cancel_left]
    have tne:∀ e:Ex,e≠.exit (1000+l)->Y6 e≠.goto l:=by
     intro e he h
     cases e with
     |norm=>cases h
     |ret=>cases h
     |exit id =>
      by_cases h2:id<1000
      ·rw[ac4 h2]at h;cases h
      ·rw[ac5 h2]at h;simp only[Exit.goto.injEq]at h;have hid:id=1000+l:=by omega
       exact he (by rw[hid])
    -- the rounds behind the label
    have key:∀(k:Nat) {w2:World} {m2:Map} {h2:Heap} {zk:Env} {a2:Act} {eL:Ex} {aob:Env} {hL:Heap},Step cx.lo w m h w2 m2 h2->Inv w2 m2 h2->Fr N w2 m2 h2 zk a2->cx.base+cx.ns<=h2.length ->
      iter (exec call cx n (.blk (1000+l) (.seq z1 (.exit id)))) k (zk,h2)=some (eL,(aob,hL))->Ex.Ir id (eL,(aob,hL))=(e,(env',h')) ->
      aj' (F8 N.ro) P l b1 (ac6 N cx.lo w m h e env' h') k a2 w2:=by
     intro k
     induction k with
     |zero=>intro w2 m2 h2 zk a2 eL aob hL _ _ _ _ hit;simp[iter]at hit
     |succ k ihk =>
      intro w2 m2 h2 zk a2 eL aob hL s2 i2 f2 hb2 hit hfin;simp only[iter,bE]at hit;obtain⟨⟨e1,I7,h1⟩,hx1,hx2⟩:=hit;simp only at hx2;simp only[exec,mE,bE]at hx1;obtain⟨⟨e3,Y7,h3⟩,⟨⟨e4,akb,h4⟩,hz4,hz5⟩,hz3⟩:=hx1;have hno:=azm (call:=call) (cx:=cx) n id z1 hnz hz4;unfold aj';refine wpIn_mono (aGp hkb i2 f2 hb2 hz4) ?_;rintro e' a' w' ⟨rfl,m',s1,i1,f1⟩;simp only at hz5 hno;by_cases h40:e4=.norm
      ·subst h40;simp only[if_true,dz,bf]at hz5;obtain⟨rfl,rfl,rfl⟩:=hz5
       have hbl:Ex.Ir (1000+l) (.exit id,akb,h4)=(.exit id,akb,h4):=by
        unfold Ex.Ir;rw[if_neg (by simpa using hog)]
       rw[hbl]at hz3;simp only[bf]at hz3;obtain⟨rfl,rfl,rfl⟩:=hz3;simp only[reduceCtorEq,if_false,dz,bf]at hx2;obtain⟨rfl,rfl,rfl⟩:=hx2;unfold Ex.Ir at hfin;simp only[if_true,bf]at hfin;obtain⟨rfl,rfl,rfl⟩:=hfin;exact .inr ⟨by simp[Y6],rfl,m',s2.trans s1,i1,f1⟩
      ·simp only[if_neg h40,dz,bf]at hz5;obtain⟨rfl,rfl,rfl⟩:=hz5;by_cases h4g:e4=.exit (1000+l)
       ·subst h4g;have hbl:Ex.Ir (1000+l) (.exit (1000+l),akb,h4)=(.norm,akb,h4):=by unfold Ex.Ir;rw[if_pos rfl]
        rw[hbl]at hz3;simp only[bf]at hz3;obtain⟨rfl,rfl,rfl⟩:=hz3;simp only[if_true]at hx2;exact .inl ⟨tl,ihk (s2.trans s1) i1 f1 (by rw[s1.len];exact hb2) hx2 hfin⟩
       ·have hbl:Ex.Ir (1000+l) (e4,akb,h4)=(e4,akb,h4):=by unfold Ex.Ir;rw[if_neg h4g]
        rw[hbl]at hz3;simp only[bf]at hz3;obtain⟨rfl,rfl,rfl⟩:=hz3;simp only[if_neg h40,dz,bf]at hx2;obtain⟨rfl,rfl,rfl⟩:=hx2;unfold Ex.Ir at hfin;rw[if_neg hno]at hfin;simp only[bf]at hfin;obtain⟨rfl,rfl,rfl⟩:=hfin;exact .inr ⟨tne _ h4g,rfl,m',s2.trans s1,i1,f1⟩
    simp only[exec,mE,bE]at hx;obtain⟨⟨e1,I7,h1⟩,⟨⟨e2,zk,h2⟩,⟨⟨e3,Y7,h3⟩,hx3,hx4⟩,hx5⟩,hfin⟩:=hx;have hno:=azm (call:=call) (cx:=cx) n id x1 hnx hx3;simp only at hx5 hno;refine aGc hfl (pre _ _ _ _ hx3 ?_);rintro e' a' w' ⟨rfl,m',s1,i1,f1⟩;have hb1:cx.base+cx.ns<=h3.length:=by rw[s1.len];exact hb
    by_cases h30:e3=.norm
    ·subst h30;have hbl:Ex.Ir (1000+l) (.norm,Y7,h3)=(.norm,Y7,h3):=by unfold Ex.Ir;rw[if_neg (by simp)]
     rw[hbl]at hx4;simp only[bf]at hx4;obtain⟨rfl,rfl,rfl⟩:=hx4;simp only[if_true]at hx5
     show (Code.seq (.label l) b1).wpIn (F8 N.ro) 0 P _ a' w'
     refine wpIn_seq (wpIn_label ?_);have hr:=key n s1 i1 f1 hb1 hx5 hfin
     cases n with
     |zero=>exact hr.elim
     |succ k =>
      refine wpIn_mono hr ?_;rintro e'' a'' w'' (⟨rfl,hk⟩|⟨hne,hq⟩)
      ·exact .inl ⟨rfl,_,hk⟩
      ·exact .inr ⟨hne,hq⟩
    ·refine asi h30 ?_;by_cases h3g:e3=.exit (1000+l)
     ·subst h3g;have hbl:Ex.Ir (1000+l) (.exit (1000+l),Y7,h3)=(.norm,Y7,h3):=by unfold Ex.Ir;rw[if_pos rfl]
      rw[hbl]at hx4;simp only[bf]at hx4;obtain⟨rfl,rfl,rfl⟩:=hx4;simp only[if_true]at hx5;exact .inl ⟨tl,_,key n s1 i1 f1 hb1 hx5 hfin⟩
     ·have hbl:Ex.Ir (1000+l) (e3,Y7,h3)=(e3,Y7,h3):=by unfold Ex.Ir;rw[if_neg h3g]
      rw[hbl]at hx4;simp only[bf]at hx4;obtain⟨rfl,rfl,rfl⟩:=hx4;simp only[if_neg h30,dz,bf]at hx5;obtain⟨rfl,rfl,rfl⟩:=hx5;unfold Ex.Ir at hfin;rw[if_neg hno]at hfin;simp only[bf]at hfin;obtain⟨rfl,rfl,rfl⟩:=hfin
      exact .inr ⟨tne _ h3g,rfl,m',s1,i1,f1⟩
 |loop x =>
  have Nt:=ZI x (by simp only[XC.loop.sizeOf_spec];omega)
  intro c w m h env a e env' h' hk hi hf hb hx;cases c<;>first|simp only[zD,XC.core,uM]at hk|exact absurd hk (by rw[aj8 P eB qR N.N (fun _ _ h=>by cases h)];simp)
  rename_i p;simp only[exec]at hx
  have key:∀(k:Nat) {w2:World} {m2:Map} {h2:Heap} {zk:Env} {a2:Act},Step cx.lo w m h w2 m2 h2->Inv w2 m2 h2->Fr N w2 m2 h2 zk a2->cx.base+cx.ns<=h2.length->iter (exec call cx n x) k (zk,h2)=some (e,(env',h')) ->
    roundsIn (F8 N.ro) P p (ac6 N cx.lo w m h e env' h') k a2 w2:=by
   intro k
   induction k with
   |zero=>intro w2 m2 h2 zk a2 _ _ _ _ hit;simp[iter]at hit
   |succ k ihk =>
    intro w2 m2 h2 zk a2 s2 i2 f2 hb2 hit;simp only[iter,bE]at hit;obtain⟨⟨e1,I7,h1⟩,hx1,hx2⟩:=hit;simp only at hx2;unfold roundsIn;refine wpIn_mono (Nt p hk i2 f2 hb2 hx1) ?_;rintro e' a' w' ⟨rfl,m',s1,i1,f1⟩;split at hx2
    ·rename_i he;subst he;exact ihk (s2.trans s1) i1 f1 (by rw[s1.len];exact hb2) hx2
    ·rename_i he;simp only[dz,bf]at hx2;obtain⟨rfl,rfl,rfl⟩:=hx2;exact asi he ⟨rfl,m',s2.trans s1,i1,f1⟩
  exact wpIn_loop_rounds n (key n (Step.refl _ _ _ _) hi hf hb hx)
 |Gm s f g =>
  intro c w m h env a e env' h' hk hi hf hb hx;cases c<;>first|simp only[zD,XC.core,uM]at hk|exact absurd hk (by rw[aj8 P eB qR N.N (fun _ _ h=>by cases h)];simp)
  rename_i f0 ps xQ body;simp only[fw]at hk
  exact aGf hc hrd hlo hrnd hk.1 hk.2 hi hf hb hx
 |pre ps x =>
  have Nt:=ZI x (by simp only[XC.pre.sizeOf_spec];omega)
  intro c w m h env a e env' h' hk hi hf hb hx
  have hk':zD P eB qR N.N c x=true:=by
   cases c<;>first|(simp only[zD,XC.core]at hk⊢;first|exact hk|done)|(rw[<-hk];exact aF7 P eB qR N.N rfl)
  exact Nt c hk' hi (hf.keep ps) hb hx
end
end Go.VI
