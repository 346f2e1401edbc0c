/- Code and calls: the evaluator's answers are the machine's. -/
import Derived.Test.YtfpoegnmeoghpaaGreatDoorVIP
set_option linter.unusedVariables false
set_option linter.unusedSimpArgs false
namespace Go.VI
set_option linter.unusedSectionVars false
variable [bJ][Rounds]
def XC.core:XC->XC
 |.pre _ x=>x.core
 |.fz _ x=>x.core
 |x=>x
def pU:Code->Bool
 |.seq a b=>pU a&&pU b
 |.label _=>false
 |_=>true
theorem Ed:∀{c:Code} (l:Nat),pU c=true->findLabel c l=none
 |.seq a b,l,h=>by
  simp only[pU,bg]at h
  simp only[findLabel,Ed l h.1,Ed l h.2]
 |.skip,_,_|.region ..,_,_|.cond ..,_,_|.block ..,_,_|.loop _,_,_|.rangeFunc ..,_,_|.exit _,_,_|.scope _,_,_|.goto _,_,_|.ret,_,_|.refuse _,_,_=>rfl
 |.label _,_,h=>by cases h
def XC.oQ(o:Nat):XC->Bool
 |.skip|.ret|.reg ..=>true
 |.exit i=>!(i==o)
 |.seq a b|.cond _ a b=>a.oQ o&&b.oQ o
 |.blk _ c|.loop c|.pre _ c|.fz _ c=>c.oQ o
 |.jG ..=>false
section
variable (P:Program)(aQ:Nat->Bool)(dN:Nat->Option iR)(N:Nat)
def gF:Code->XC->Bool
 |.skip,y=>match y.core with|.skip=>true|_=>false
 |.region _ ops draw,y=>match y.core with|.reg KT _ _ xs=>draw==KT&&yB P ops.toList N ops.toList xs&&(!draw||KR aQ ops.toList xs)|_=>false
 |.seq a b,y=>match y.core with|.seq x y=>gF a x&&gF b y|_=>false
 |.cond c a b,y=>match y.core with|.cond c' x y=>dY c c'&&gF a x&&gF b y|_=>false
 |.block i c,y=>match y.core with|.blk j x=>i==j&&decide (i<1000)&&gF c x|_=>false
 |.loop c,y=>match y.core with|.loop x=>gF c x|_=>false
 |.exit i,y=>match y.core with|.exit j=>i==j&&decide (i<1000)|_=>false
 |.label _,y=>match y.core with|.skip=>true|_=>false
 |.goto l,y=>match y.core with|.exit j=>j==1000+l|_=>false
 |.scope s,y=>match y.core,s with|.blk o (.seq (.blk g x) (.loop (.blk g' (.seq z (.exit o'))))),.seq a (.seq (.label l) b)=>o'==o&&g==1000+l&&g'==g&&!(o==g)&&x.oQ o&&z.oQ o&&pU a&&pU b&&gF a x&&gF b z|.blk o (.seq (.blk g (.seq x u)) (.loop (.blk g' (.seq z (.exit o'))))),.seq a (.seq c (.seq (.label l) b))=>o'==o&&g==1000+l&&g'==g&&!(o==g)&&x.oQ o&&u.oQ o&&z.oQ o&&pU a&&pU c&&pU b&&gF a x&&gF c u&&gF b z|_,_=>false
 |.ret,y=>match y.core with|.ret=>true|_=>false
 |.rangeFunc f ps a b,y=>match y.core with|.jG _ f' g=>dY f f'&&(match dN g with|some x=>x.ps==ps.toList&&ps.toList.all (fun p=>decide (p<N))&&gF a x.fZ&&gF b x.body|none=>false)|_=>false
 |_,_=>false
theorem BD{s:Code}{y:XC}(h:∀ o x,y.core≠.blk o x):gF P aQ dN N (.scope s) y=false:=by
 unfold gF;split
 ·rename_i heq;exact absurd heq (h _ _)
 ·first|(rename_i heq;exact absurd heq (h _ _))|(rename_i heq _;exact absurd heq (h _ _))|(rename_i heq _ _;exact absurd heq (h _ _))
 ·rfl
theorem Sd{s:Code}{y y':XC}(h:y.core=y'.core):gF P aQ dN N (.scope s) y=gF P aQ dN N (.scope s) y':=by
 unfold gF;rw[h]
def Ho(g:Nat)(ps:Array Tmp)(a b:Code):Bool :=
 match dN g with
 |some x=>x.ps==ps.toList&&ps.toList.all (fun p=>decide (p<N))&&gF P aQ dN N a x.fZ&&gF P aQ dN N b x.body
 |none=>false
def mo:List ResultVar->List lK->Bool
 |[],[]=>true
 |.tmp t::rs,.tmp t'::xs=>t==t'&&mo rs xs
 |.cell t ty::rs,.cell t' sh::xs=>t==t'&&DC P ty sh&&mo rs xs
 |_,_=>false
end
def zP(P:Program)(aQ:Nat->Bool)(dN:Nat->Option iR)(f:Nat)(x:aW):Bool :=
 match P.funcs[f]? with
 | some fn => decide (fn.name ≠ "runtime.NumGoroutine") && decide (x.np ≤ fn.ntmps) && ((!x.isOpen || !aQ f) && (!aQ (f + 5000) || x.code.still aQ)) && mo P fn.results.toList x.res &&
  (match fn.body with|some c=>gF P aQ dN fn.ntmps c x.code|none=>false)
 |none=>false
structure BF(P:Program)(aQ:Nat->Bool)(dN:Nat->Option iR):Prop where
 iff:∀{g N:Nat} {ps:Array Tmp} {a b:Code},Rounds.ok g N ps a b↔Ho P aQ dN N g ps a b=true
def si:Ex->Exit
 |.norm=>.normal
 |.exit id=>if id<1000 then .exit id else .goto (id-1000)
 |.ret=>.ret
theorem yC{i:Nat}(h:i<1000):si (.exit i)=.exit i:=if_pos h
theorem yD{i:Nat}(h:¬ i<1000):si (.exit i)=.goto (i-1000):=if_neg h
theorem abL{K K':Act->World->Prop}{Q:Exit->Act->World->Prop}{e:Ex}{a:Act}{w:World}(he:e≠.norm)(h:(Exit.then K Q) (si e) a w):(Exit.then K' Q) (si e) a w:=by
 cases e with
 |norm=>exact absurd rfl he
 |exit id =>
  by_cases hid:id<1000
  ·rw[yC hid]at h⊢;exact h
  ·rw[yD hid]at h⊢;exact h
 |ret=>exact h
theorem KU{K:Act->World->Prop}{Q:Exit->Act->World->Prop}{e:Ex}{a:Act}{w:World}(he:e≠.norm)(h:Q (si e) a w):(Exit.then K Q) (si e) a w:=by
 cases e with
 |norm=>exact absurd rfl he
 |exit id =>
  by_cases hid:id<1000
  ·rw[yC hid]at h⊢;exact h
  ·rw[yD hid]at h⊢;exact h
 |ret=>exact h
section
variable {P:Program}{aQ:Nat->Bool}{dN:Nat->Option iR}{N:xh}{call:Callee}{cx:Cx}
def yE(N:xh)(lo:Nat)(w:World)(m:Map)(h:Heap)(e:Ex)(env':Env)(h':Heap):Exit->Act->World->Prop :=
 fun e' a' w'=>e'=si e/\∃ m',Step lo w m h w' m' h'/\Inv w' m' h'/\Fr N w' m' h' env' a'
theorem Fr.keep{w:World}{m:Map}{h:Heap}{env:Env}{a:Act}(hf:Fr N w m h env a)(ps:List Nat):Fr N w m h (env.keep ps) a :=
 ⟨⟨fun t=>by
  rw[Env.aa3];split
  ·exact hf.env.at' t
  ·simp[R],hf.env.gV⟩,hf.size,hf.defers,hf.ic,hf.bound⟩
theorem Fr.eq{w:World}{m:Map}{h:Heap}{env env':Env}{a:Act}(hf:Fr N w m h env a)(he:pM env' env):Fr N w m h env' a :=
 ⟨⟨fun t=>by rw[he t];exact hf.env.at' t,hf.env.gV⟩,hf.size,hf.defers,hf.ic,hf.bound⟩
theorem abM{M:Nat}{ops:Array Oper}{xs:List bC}(hk:yB P ops.toList M ops.toList xs=true) :
  (List.range ops.size).length=xs.length/\∀(k i:Nat) x,(List.range ops.size)[k]?=some i->xs[k]?=some x->∃ o,ops[i]?=some o/\BB P ops.toList M o x=true:=by
 obtain⟨h1,h2⟩:=G7 hk;refine⟨by simpa using h1,fun k i x hk hx=>?_⟩
 have hk':k<ops.size/\k=i:=by
  have:=bO.mp hk;obtain⟨hlt,he⟩:=this;simp at hlt he;exact⟨hlt,he⟩
 obtain⟨hlt,rfl⟩:=hk';have ho:ops[k]?=some ops[k]:=by simp[hlt]
 exact⟨ops[k],ho,h2 k ops[k] x (by simp[hlt]) hx⟩
theorem abN(xs:List bC):∀ n,n=xs.length->(List.range n).filterMap (xs[·]?)=xs:=by
 rintro n rfl;refine uh fun i=>?_
 have:(List.range xs.length).filterMap (xs[·]?)=xs:=by
  have h1:∀(l:List bC) (k:Nat) (full:List bC),(∀ j,l[j]?=full[k+j]?)->(List.range' k l.length).filterMap (full[·]?)=l:=by
   intro l
   induction l with
   |nil=>intro k full _;rfl
   |cons x l ih =>
    intro k full hf;have h0:full[k]?=some x:=by have:=hf 0;simpa using this.symm
    simp only[List.length_cons,List.range'_succ,List.filterMap_cons,h0];rw[ih (k+1) full fun j=>by have:=hf (j+1);simpa[Nat.add_assoc,Nat.add_comm 1 j]using this]
  rw[List.range_eq_range'];exact h1 xs 0 xs fun j=>by simp
 rw[this]
def roundsIn(F:Fence)(P:Program)(c:Code)(Q:Exit->Act->World->Prop):Nat->Act->World->Prop
 |0,_,_=>False
 |n+1,a,w=>c.wpIn F 0 P (Exit.then (roundsIn F P c Q n) Q) a w
theorem wpIn_loop_rounds{F:Fence}{P:Program}{c:Code}{Q:Exit->Act->World->Prop}{a:Act}{w:World}(n:Nat)(h:roundsIn F P c Q n a w):(Code.loop c).wpIn F 0 P Q a w:=by
 intro b k cs hro hb hr
 have key:∀ n a w,roundsIn F P c Q n a w->∃ e a' w',Q e a' w'/\ArrivesIn (Machine.fenced P F) P (lone (b.atR a (.code c::.inLoop c::k)) cs w) b k cs e a' w':=by
  intro n
  induction n with
  |zero=>intro a w h;exact h.elim
  |succ n ih =>
   intro a w h;obtain⟨e,a₁,w₁,hq,harr⟩:=h b (.inLoop c::k) cs hro hb hr
   cases e with
   |normal =>
    obtain⟨e₂,a₂,w₂,hq₂,harr₂⟩:=ih a₁ w₁ hq
    exact⟨e₂,a₂,w₂,hq₂,.of_steps (StepsIn.trans harr (.one (fenced_calm hb hr rfl) stepR_inLoop)) harr₂⟩
   |exit id=>exact⟨_,a₁,w₁,hq,.pass (x:=.inLoop c) rfl (fun _ _=>.inl (by simp)) harr⟩
   |goto l=>exact⟨_,a₁,w₁,hq,.pass (x:=.inLoop c) rfl (fun _ _=>.inl (by simp)) harr⟩
   |ret=>exact⟨_,a₁,w₁,hq,.pass (x:=.inLoop c) rfl (fun _ _=>.inl (by simp)) harr⟩
   |panic ch=>exact⟨_,a₁,w₁,hq,.pass (x:=.inLoop c) rfl (fun _ _=>.inl (by simp)) harr⟩
   |outgrown=>exact⟨_,a₁,w₁,hq,.pass (x:=.inLoop c) rfl (fun _ _=>.inl (by simp)) harr⟩
 obtain⟨e,a',w',hq,harr⟩:=key n a w h;exact⟨e,a',w',hq,.of_steps (.one (fenced_calm hb hr rfl) stepR_loop) harr⟩
theorem Sg{P:Program}{b:Frame}{a:Act}{c:Code}{k:List Item}{cs:List Frame}{w:World} :
  step P (lone (b.atR a (.code (.scope c)::k)) cs w)=.next (lone (b.atR a (.code c::.inScope c::k)) cs w) :=
 step_lone_go (by simp[stepG,stepG.exec,Frame.atR])
theorem abO{P:Program}{b:Frame}{a:Act}{c:Code}{k:List Item}{cs:List Frame}{w:World} :
  step P (lone (b.atR a (.inScope c::k)) cs w)=.next (lone (b.atR a k) cs w) :=
 step_lone_go (by simp[stepG,stepG.exec,Frame.atR])
def BG(F:Fence)(P:Program)(l:Nat)(c:Code)(Q:Exit->Act->World->Prop):Nat->Act->World->Prop
 |0,_,_=>False
 |k+1,a,w=>c.wpIn F 0 P (fun e a w=>(e=.goto l/\BG F P l c Q k a w)\/(e≠.goto l/\Q e a w)) a w
theorem Si{x z:Code}{l:Nat}(hx:pU x=true)(hz:pU z=true)(t:Nat):findLabel (.seq x (.seq (.label l) z)) t=if t=l then some (.seq .skip z)else none:=by
 simp only[findLabel,Ed t hx];by_cases ht:t=l
 ·subst ht;simp
 ·have:(l==t)=false:=by simp;exact fun h=>ht h.symm
  simp[this,Ed t hz,ht]
theorem abP{x y z:Code}{l:Nat}(hx:pU x=true)(hy:pU y=true)(hz:pU z=true)(t:Nat):findLabel (.seq x (.seq y (.seq (.label l) z))) t=if t=l then some (.seq .skip z)else none:=by
 rw[<-Si (x:=y) hy hz t];simp only[findLabel,Ed t hx]
theorem abQ{F:Fence}{P:Program}{S z:Code}{l:Nat}{Q:Exit->Act->World->Prop}{a:Act}{w:World}(hf:∀ t,findLabel S t=if t=l then some (.seq .skip z)else none)
  (h:S.wpIn F 0 P (fun e a w=>(e=.goto l/\∃ k,BG F P l z Q k a w)\/(e≠.goto l/\Q e a w)) a w):(Code.scope S).wpIn F 0 P Q a w:=by
 intro b k cs hro hb hr
 -- what comes behind a part of the scope
 have pass:∀{mm:Machine} {e:Exit} {a₁:Act} {w₁:World},e≠.goto l->Q e a₁ w₁->ArrivesIn (Machine.fenced P F) P mm b (.inScope S::k) cs e a₁ w₁->∃ e a' w',Q e a' w'/\ArrivesIn (Machine.fenced P F) P mm b k cs e a' w':=by
  intro mm e a₁ w₁ hne hq harr
  cases e with
  |normal=>exact⟨_,a₁,w₁,hq,StepsIn.trans harr (.one (fenced_calm hb hr rfl) abO)⟩
  |exit id =>
   have Ee:exitTo id (.inScope S::k)=exitTo id k:=by simp[exitTo]
   exact⟨_,a₁,w₁,hq,fun k' hk=>harr.1 k' (by rw[Ee];exact hk),fun hr' hk=>harr.2 hr' (by rw[Ee];exact hk)⟩
  |goto t =>
   have ht:t≠l:=fun e=>hne (by rw[e])
   have Ee:gotoIn t (.inScope S::k)=gotoIn t k:=by simp[gotoIn,hf,ht]
   exact⟨_,a₁,w₁,hq,fun k' hk=>harr.1 k' (by rw[Ee];exact hk),fun hr' hk=>harr.2 hr' (by rw[Ee];exact hk)⟩
  |ret=>exact⟨_,a₁,w₁,hq,harr⟩
  |panic ch=>exact⟨_,a₁,w₁,hq,harr⟩
  |outgrown=>exact⟨_,a₁,w₁,hq,harr⟩
 have jump:∀{mm:Machine} {a₁:Act} {w₁:World},ArrivesIn (Machine.fenced P F) P mm b (.inScope S::k) cs (.goto l) a₁ w₁->StepsIn (Machine.fenced P F) P mm (lone (b.atR a₁ (.code (.seq .skip z)::.inScope S::k)) cs w₁):=by
  intro mm a₁ w₁ harr;exact harr.1 _ (by simp[gotoIn,hf])
 have key:∀ n a w,BG F P l z Q n a w->∃ e a' w',Q e a' w'/\ArrivesIn (Machine.fenced P F) P (lone (b.atR a (.code (.seq .skip z)::.inScope S::k)) cs w) b k cs e a' w':=by
  intro n
  induction n with
  |zero=>intro a w h;exact h.elim
  |succ n ih =>
   intro a w h;have hs:(Code.seq .skip z).wpIn F 0 P (fun e a w=>(e=.goto l/\BG F P l z Q n a w)\/(e≠.goto l/\Q e a w)) a w:=wpIn_seq (wpIn_skip h);obtain⟨e,a₁,w₁,hq,harr⟩:=hs b (.inScope S::k) cs hro hb hr;rcases hq with⟨rfl,hn⟩|⟨hne,hq⟩
   ·obtain⟨e2,a2,w2,q2,r2⟩:=ih a₁ w₁ hn;exact⟨e2,a2,w2,q2,.of_steps (jump harr) r2⟩
   ·exact pass hne hq harr
 obtain⟨e,a₁,w₁,hq,harr⟩:=h b (.inScope S::k) cs hro hb hr;rcases hq with⟨rfl,n,hn⟩|⟨hne,hq⟩
 ·obtain⟨e2,a2,w2,q2,r2⟩:=key n a₁ w₁ hn;exact⟨e2,a2,w2,q2,.of_steps (.one (fenced_calm hb hr rfl) Sg) (.of_steps (jump harr) r2)⟩
 ·obtain⟨e2,a2,w2,q2,r2⟩:=pass hne hq harr;exact⟨e2,a2,w2,q2,.of_steps (.one (fenced_calm hb hr rfl) Sg) r2⟩
theorem abR{w:World}{m:Map}{h:Heap}{env:Env}{a:Act}(hi:Inv w m h)(hf:Fr N w m h env a)(hrnd:cx.ic=N.ic)(hr:xZ cx h=true)(fn:FuncId)(ps:Array Tmp)(fZ body:Code) :
  ∃ l mark w1 r,(Instr.enterLoop fn a.tmps ps fZ body N.ro).run P w=.ok (l,mark) w1/\w.heap.size<=l/\RowKit.Below w.heap.size w w1/\w1.heap[l]?=some (.loop r)/\r.state=.ready/\r.pending=none/\r.tmps=a.tmps/\r.params=ps/\r.assign=fZ/\r.body=body /\
   ∃ Ds:List Nat,mark=Ds.map (fun D=>{ target:=.collected D,args:=#[] })/\Ds.Nodup/\∀ D∈Ds,w.heap.size<=D/\D≠l/\w1.heap[D]?=some (.deferred (some [])):=by
 cases hro:N.ro with
 |none =>
  refine⟨w.heap.size+1,_,_,{ state:=.ready,pending:=none,fn,tmps:=a.tmps,params:=ps,assign:=fZ,body,defers:=w.heap.size },run_enterLoop_outer _ _ _ _ _,by omega, ?_, ?_,rfl,rfl,rfl,rfl,rfl,rfl,[w.heap.size],rfl,by simp, ?_⟩
  ·exact((RowKit.Below.refl _ _).alloc (aV _) _).alloc (by simp) _
  ·have:=World.alloc_heap_new (w.alloc (.deferred (some []))) (.loop { state:=.ready,pending:=none,fn,tmps:=a.tmps,params:=ps,assign:=fZ,body,defers:=w.heap.size })
   rwa [World.size_alloc]at this
  ·intro D hD;simp only[xk]at hD;subst hD;refine⟨aV _,by omega, ?_⟩
   exact(RowKit.Below.heap_alloc _ _ _ (by simp)).trans (World.alloc_heap_new w _)
 |some l0 =>
  have hra:=hf.ic;rw[hro]at hra
  cases hr2:N.ic with
  |none=>rw[hr2]at hra;exact hra.elim
  |some p =>
   obtain⟨id,aj⟩:=p;rw[hr2]at hra;unfold xZ at hr;rw[hrnd,hr2]at hr;have hr1:=hr;dsimp only at hr1;split at hr1
   ·rename_i v d st hid;simp only[beq_iff_eq,bg]at hr1;obtain⟨rfl,hlp⟩:=hr1;obtain⟨v0,blk,q1,q2,q3⟩:=hra;rw[hid]at q1;cases q1;have hm:=q3 rfl d st rfl;obtain⟨b,o,e1,e2,e3⟩:=hi.ay id _ d st hid;obtain⟨r0,rfl,_⟩:=e3.loop hlp;rw[hm]at e1;cases e1;refine⟨w.heap.size,_,_,{ state:=.ready,pending:=none,fn,tmps:=a.tmps,params:=ps,assign:=fZ,body,defers:=r0.defers },run_enterLoop_inner e2 _ _ _ _ _,by omega, ?_, ?_,rfl,rfl,rfl,rfl,rfl,rfl,[],rfl,by simp,by simp⟩
    ·exact(RowKit.Below.refl _ _).alloc (aV _) _
    ·exact World.alloc_heap_new w _
   ·cases hr1
theorem abS{w:World}{f:FuncId}(he:Enters P f)(args:Array Value):(callFunc f args).run P w=.ok (.enter f args) w:=by
 obtain⟨fn,hfn,hname,hbody⟩:=he;have hb':fn.body.isNone=false:=by cases zL:fn.body<;>simp_all
 simp only[callFunc,Sem.run_bind,run_program,Result.andThen_ok,hfn];simp[hname,hb']
theorem Ef(w:World)(l:Nat)(o:Obj)(k:Nat):(w.putObj l o).heap[k]?=if k=l then(if l<w.heap.size then some o else none)else w.heap[k]?:=by
 by_cases hk:k=l
 ·subst hk;rw[if_pos rfl];split
  ·rename_i h;exact World.putObj_heap_same h
  ·rename_i h;rw[Array.getElem?_eq_none];simp[World.putObj]at *;omega
 ·rw[if_neg hk];exact World.putObj_heap_other hk
theorem KV{w:World}{m:Map}{h:Heap}{id aj l:Nat}{d:bQ}{st:RS}(hi:Inv w m h)(hid:h[id]?=some (aj,.ay d st))(hm:m[id]?=some l)(o:Obj){lo:Nat}(hlo:lo<=id) :
  (Step lo w m h (w.putObj l o) m (h.set id (aj,.dead))/\Inv (w.putObj l o) m (h.set id (aj,.dead))) /\
  ∀ st',st.loop=true->st'.loop=true->ko w (Live m h) m h o d st'->Step lo w m h (w.putObj l o) m (h.set id (aj,.ay d st'))/\Inv (w.putObj l o) m (h.set id (aj,.ay d st')):=by
 have hlt:=hi.lt hid (by simp) hm
 have hold:∀ b,b<w.heap.size->(b=l->av.ay d st=.dead)->(w.putObj l o).heap[b]?=w.heap[b]?:=by
  intro b _ he;rw[Ef,if_neg (fun h=>by cases he h)]
 have hmm:m.set id l=m:=by
  refine uh fun j=>?_;by_cases hj:j=id
  ·subst hj;rw[lN (by rw[hi.len];exact(bO.mp hid).1),hm]
  ·exact eG (by omega)
 have hsz:w.heap.size<=(w.putObj l o).heap.size:=by simp[World.putObj]
 constructor
 ·have p:Put w m h id aj (.ay d st) l (w.putObj l o) aj .dead l:=⟨hi,hid,hm,rfl,rfl,rfl,hsz,hold,aV _,.inl rfl,fun _=>.inl rfl⟩;have s:=p.step (lo:=lo) hlo;have i:=p.Dt (by simp) (fun h=>absurd rfl h)
  rw[hmm]at s i;exact⟨s,i⟩
 ·intro st' hl1 hl2 hr
  have p:Put w m h id aj (.ay d st) l (w.putObj l o) aj (.ay d st') l :=
   ⟨hi,hid,hm,rfl,rfl,rfl,hsz,hold,aV _,.inr (.inl ⟨rfl,by simp⟩),fun _=>.inr (.inr (.inl ⟨d,st,d,st',rfl,rfl,by rw[hmm],by rw[RS.Qe hl1,RS.Qe hl2],fun l e=>by rw[e]at hl2;cases hl2⟩))⟩
  have s:=p.step (lo:=lo) hlo
  have i:=p.zD (fun h=>by cases h) (fun d2 st2 he=>by
   cases he;exact⟨o,by rw[Ef,if_pos rfl,if_pos hlt],hr.ids s.ids s.keep (by simp)⟩)
  rw[hmm]at s i;exact⟨s,i⟩
theorem abT(hc:nA P aQ call)(hrd:BF P aQ dN)(hlo:cx.lo<=cx.base)(hrnd:cx.ic=N.ic){n s g:Nat}{f:aK}{f0:Operand}{ps:Array Tmp}{fZ body:Code}(hkf:dY f0 f=true)(hkr:Ho P aQ dN N.N g ps fZ body=true)
  {w:World} {m:Map} {h:Heap} {env:Env} {a:Act} {e:Ex} {env':Env} {h':Heap} (hi:Inv w m h) (hf:Fr N w m h env a) (hb:cx.base+cx.ns<=h.length) (hx:exec call cx n (.jG s f g) (env,h)=some (e,(env',h'))) :
  (Code.rangeFunc f0 ps fZ body).wpIn (iY N.ro) 0 P (yE N cx.lo w m h e env' h') a w:=by
 simp only[exec]at hx;split at hx
 ·rename_i it caps hfv abW;obtain⟨⟨aj,h1⟩,hmk,hx1⟩:=bE.mp hx;obtain⟨⟨r0,h2⟩,hcall,hx2⟩:=bE.mp hx1;clear hx hx1;dsimp only at hcall hx2;have hx:=hx2;clear hx2;have rf:=eX hf.env hkf;rw[hfv]at rf;simp only[R]at rf;obtain⟨vs,ef,rc⟩:=rf;obtain⟨hent,Ky⟩:=hc.does hcall;refine wpIn_rangeFunc fun fn _=>?_;obtain⟨l,mark,w1,r,hel,hl1,hbel,hlp,hst,hpe,Sj,hps,has,hbo,Ds,hmark,hDn,hD⟩:=abR (P:=P) hi hf hrnd abW fn ps fZ body;obtain⟨v0,dX,b0,p,rfl,hs⟩:=Km hi hmk hbel hl1;have s1:=p.step (lo:=cx.lo) (by omega)
  have i1:=p.zD (fun hh=>by cases hh) (fun d2 st2 he=>by
   cases he;refine⟨_,hlp,r,rfl,⟨hst,hpe⟩,hlo,by simpa using hb, ?_,fun t=>?_⟩
   ·rw[Sj,hps,has,hbo,hf.size];exact hrd.iff.mpr hkr
   ·rw[Sj];exact R.step s1.ids s1.keep _ _ (hf.env.at' t))
  have hyl:R w1 (Live (m.set (cx.base+s) l) (h.set (cx.base+s) (aj,.ay ⟨g,cx.lo,cx.base,cx.ns,env⟩ .ready))) (m.set (cx.base+s) l) (h.set (cx.base+s) (aj,.ay ⟨g,cx.lo,cx.base,cx.ns,env⟩ .ready)) (.cZ (cx.base+s) aj) (.func (.yield l) #[] #[]):=by
   simp only[R];exact⟨0,l,rfl,aj,_,p.hset,aV _,fun _ d st e=>by cases e;exact⟨rfl,p.jH⟩⟩
  obtain⟨y,hy⟩:∃ y:Value,y=.func (.yield l) #[] #[]:=⟨_,rfl⟩;refine⟨l,mark,w1,if it<1000 then{ target:=.fn (.func it) vs.toArray,args:=#[y] } else{ target:=.fn (.func (it-1000)) #[],args:=vs.toArray.push y },w1,iq it,(nD it [y] vs).toArray,w1,hel, ?_,fun _ _=>trivial, ?_,fun h=>by simp[Fence.wide]at h, ?_⟩
  ·rw[hy];simp only[resolve,ef];unfold wP;by_cases hg:it<1000
   ·rw[if_pos hg,if_pos hg];simp[go_sem]
   ·rw[if_neg hg,if_neg hg];simp[go_sem]
  ·have:=abS (w:=w1) hent (nD it [y] vs).toArray;by_cases hg:it<1000
   ·have e1:iq it=it:=by unfold iq;rw[if_pos hg]
    have e2:nD it [y] vs=y::vs:=by unfold nD;rw[if_pos hg];rfl
    rw[e1,e2]at this⊢;rw[if_pos hg];simp only[invoke];simpa[go_sem]using this
   ·have e1:iq it=it-1000:=by unfold iq;rw[if_neg hg]
    have e2:nD it [y] vs=vs++[y]:=by unfold nD;rw[if_neg hg]
    rw[e1,e2]at this⊢;rw[if_neg hg];simp only[invoke];simpa[go_sem]using this
  ·have Kz:=Ky w1 _ (nD it [y] vs) i1 (Rc (by
    simp only[RL];exact⟨_,_,rfl,by rw[hy];exact hyl,rfl⟩) (RL.step s1.ids s1.keep _ _ rc)) (by simp;omega)
   have D5:CallsIn (iY N.ro) (0-1) P (iq it) (nD it [y] vs).toArray w1 _:=callsIn_wide.mpr Kz;refine D5.mono ?_;rintro e' w' ⟨u,m',rfl,s2,i2,_⟩
   -- the record is where it was
   have abY:ug m' h2 (cx.base+s) aj l:=ug.step s2.ids ⟨aj,_,p.hset,aV _,fun _ _ _ _=>p.jH⟩;have s12:=s1.trans s2
   have hmarks:∀{w4:World} {m4:Map} {h4:Heap},Step cx.lo w1 (m.set (cx.base+s) l) (h.set (cx.base+s) (aj,.ay ⟨g,cx.lo,cx.base,cx.ns,env⟩ .ready)) w4 m4 h4->Fr N w4 m4 h4 env { a with defers:=mark++a.defers }:=by
    intro w4 m4 h4 s4;have Eg:=(hf.step s1).step s4;refine⟨⟨Eg.env.at',Eg.env.gV⟩,Eg.size, ?_,Eg.ic,Eg.bound⟩
    have hm1:Marks N.B w1 (m.set (cx.base+s) l) (h.set (cx.base+s) (aj,.ay ⟨g,cx.lo,cx.base,cx.ns,env⟩ .ready)) (mark++a.defers):=by
     obtain⟨Es,he1,he2,Sk⟩:=hf.defers;refine⟨Ds++Es,by rw[hmark,he1,List.map_append], ?_,fun D uE=>?_⟩
     ·rw[List.nodup_append];refine⟨hDn,he2,fun x hx y hy hxy=>?_⟩;subst hxy;obtain⟨_,k2,_⟩:=Sk x hy;have:=(zC.mp k2).1;have:=(hD x hx).1;omega
     ·rcases iJ.mp uE with uE|uE
      ·obtain⟨k1,k2,k3⟩:=hD D uE;refine⟨kY hf.bound k1,k3, ?_⟩;rintro⟨k,v,blk,g1,g2,g3⟩;by_cases hk:k=cx.base+s
       ·subst hk;rw[p.jH]at g3;cases g3;exact k2 rfl
       ·rw[(p.other hk).1]at g1;rw[(p.other hk).2]at g3;have:=hi.lt g1 g2 g3;omega
      ·obtain⟨k1,k2,k3⟩:=Sk D uE;have hlt:=(zC.mp k2).1;exact⟨k1,(s1.old D hlt k3).trans k2,(s1.keep.out hlt k3).2⟩
    exact hm1.step s4
   have fin:∀{d2:bQ} {st2:RS},h2[cx.base+s]?=some (aj,.ay d2 st2)->st2.loop=true->∃ r2,w'.heap[l]?=some (.loop r2)/\st2.is r2/\∀(w4:World),w4=w'.putObj l (.loop { r2 with state:=.exhausted }) ->
     Step cx.lo w m h w4 m' (h2.set (cx.base+s) (aj,.dead))/\Inv w4 m' (h2.set (cx.base+s) (aj,.dead))/\Fr N w4 m' (h2.set (cx.base+s) (aj,.dead)) env { a with defers:=mark++a.defers }:=by
    intro d2 st2 hid ab0;obtain⟨v3,ab1,q1,q2,q3⟩:=abY;rw[hid]at q1;cases q1;have hm2:=q3 rfl d2 st2 rfl;obtain⟨b,o,e1,e2,e4⟩:=i2.ay _ _ _ _ hid;obtain⟨r2,rfl,e3,_⟩:=e4.loop ab0;rw[hm2]at e1;cases e1;refine⟨r2,e2,e3,fun w4 hw4=>?_⟩;subst hw4;obtain⟨⟨s3,i3⟩,_⟩:=KV i2 hid hm2 (.loop { r2 with state:=.exhausted }) (lo:=cx.lo) (by omega)
    exact⟨s12.trans s3,i3,hmarks (s2.trans s3)⟩
   show ∃ jump w4,(Instr.endLoop l).run P w'=.ok jump w4/\_
   split at hx
   ·rename_i v3 d2 hid;split at hx
    ·rename_i hv;subst hv;simp only[aP,ax]at hx;obtain⟨rfl,rfl,rfl⟩:=hx;obtain⟨r2,k1,k2,k3⟩:=fin hid rfl;obtain⟨g1,g2,g3⟩:=k3 _ rfl;refine⟨none,_,(run_endLoop (P:=P) k1 (by rw[k2.1];simp)).trans (congrArg (fun j=>Result.ok j _) k2.2), ?_⟩
     exact⟨rfl,m',g1,g2,g3⟩
    ·cases hx
   ·rename_i v3 d2 e2 hid;split at hx
    ·rename_i hv;subst hv;simp only[aP,ax]at hx;obtain⟨rfl,rfl,rfl⟩:=hx;obtain⟨r2,k1,k2,k3⟩:=fin hid rfl;obtain⟨g1,g2,g3⟩:=k3 _ rfl
     cases e2 with
     |norm=>exact k2.elim
     |exit i =>
      refine⟨some (Bg i),_,(run_endLoop (P:=P) k1 (by rw[k2.1];simp)).trans (congrArg (fun j=>Result.ok j _) k2.2), ?_⟩
      show (Bg i).wpIn _ _ _ _ _ _
      unfold Bg;by_cases hi:i<1000
      ·rw[if_pos hi];exact wpIn_exit ⟨(yC hi).symm,m',g1,g2,g3⟩
      ·rw[if_neg hi]
       exact wpIn_goto ⟨(yD hi).symm,m',g1,g2,g3⟩
     |ret =>
      refine⟨some .ret,_,(run_endLoop (P:=P) k1 (by rw[k2.1];simp)).trans (congrArg (fun j=>Result.ok j _) k2.2), ?_⟩
      exact wpIn_ret ⟨rfl,m',g1,g2,g3⟩
    ·cases hx
   ·cases hx
 ·cases hx
theorem KW{w:World}{m:Map}(hlo:cx.lo<=cx.base):∀(ss:List Nat) (h:Heap),Inv w m h->Step cx.lo w m h w m (jh cx ss h)/\Inv w m (jh cx ss h)
 |[],h,hi=>⟨Step.refl _ _ _ _,hi⟩
 |s::ss,h,hi=>by
  simp only[jh];split
  ·rename_i v b hid;obtain⟨s1,i1,_⟩:=Du (lo:=cx.lo) hi hid (by omega)
   obtain⟨s2,i2⟩:=KW hlo ss _ i1;exact⟨s1.trans s2,i2⟩
  ·exact KW hlo ss h hi
theorem Sm(n o:Nat):∀(x:XC) {st:St} {r:Ex×St},x.oQ o=true->exec call cx n x st=some r->r.1≠.exit o:=by
 intro x
 induction x with
 |skip=>intro st r _ h;simp only[exec,aP]at h;subst h;simp
 |ret=>intro st r _ h;simp only[exec,aP]at h;subst h;simp
 |reg draw keep kill xs =>
  intro st r _ h;obtain⟨env,hp⟩:=st;simp only[exec,mE]at h;obtain⟨_,_,rfl⟩:=h
  simp
 |exit id =>
  intro st r hx h;simp only[XC.oQ,ku,beq_eq_false_iff_ne]at hx;simp only[exec,aP]at h;subst h
  simpa using hx
 |seq x y kD ihy =>
  intro st r hx h;simp only[XC.oQ,bg]at hx;simp only[exec,bE]at h;obtain⟨⟨e1,st1⟩,h1,h2⟩:=h;simp only at h2;split at h2
  ·exact ihy hx.2 h2
  ·simp only[aP]at h2;subst h2
   exact kD hx.1 h1
 |cond c x y kD ihy =>
  intro st r hx h;simp only[XC.oQ,bg]at hx;simp only[exec,bE]at h;obtain⟨b,_,h2⟩:=h
  cases b with
  |true=>exact kD hx.1 h2
  |false=>exact ihy hx.2 h2
 |blk id x kD =>
  intro st r hx h;simp only[exec,mE]at h;obtain⟨r1,h1,rfl⟩:=h;have:=kD hx h1;unfold Ex.jy;split
  ·simp
  ·exact this
 |loop x kD =>
  intro st r hx h;simp only[exec]at h
  have key:∀ k st,iter (exec call cx n x) k st=some r->r.1≠.exit o:=by
   intro k
   induction k with
   |zero=>intro st h;simp[iter]at h
   |succ k ihk =>
    intro st h;simp only[iter,bE]at h;obtain⟨⟨e1,st1⟩,h1,h2⟩:=h;simp only at h2;split at h2
    ·exact ihk _ h2
    ·simp only[aP]at h2;subst h2;exact kD hx h1
  exact key n st h
 |jG s f g=>intro st r hx h;cases hx
 |pre ps x kD=>intro st r hx h;simp only[exec]at h;exact kD hx h
 |fz t x kD =>
  intro st r hx h;simp only[exec,bE]at h;obtain⟨_,_,h2⟩:=h;exact kD hx h2
theorem KX(hc:nA P aQ call)(hrd:BF P aQ dN)(hm:P.follows .mixedOrders=true)(hlo:cx.lo<=cx.base)(hrnd:cx.ic=N.ic)(n:Nat):∀(x:XC) (c:Code) {w:World} {m:Map} {h:Heap} {env:Env} {a:Act} {e:Ex} {env':Env} {h':Heap},gF P aQ dN N.N c x=true ->
  Inv w m h->Fr N w m h env a->cx.base+cx.ns<=h.length->exec call cx n x (env,h)=some (e,(env',h'))->c.wpIn (iY N.ro) 0 P (yE N cx.lo w m h e env' h') a w:=by
 have main:∀(k:Nat) (x:XC),SizeOf.sizeOf x=k->∀(c:Code) {w:World} {m:Map} {h:Heap} {env:Env} {a:Act} {e:Ex} {env':Env} {h':Heap},gF P aQ dN N.N c x=true ->
  Inv w m h->Fr N w m h env a->cx.base+cx.ns<=h.length->exec call cx n x (env,h)=some (e,(env',h'))->c.wpIn (iY N.ro) 0 P (yE N cx.lo w m h e env' h') a w:=?_
 ·exact fun x=>main _ x rfl
 intro k
 induction k using Nat.strongRecOn with
 |_ k IH =>
 intro x hsz
 have sj:∀ y:XC,SizeOf.sizeOf y<SizeOf.sizeOf x->∀(c:Code) {w:World} {m:Map} {h:Heap} {env:Env} {a:Act} {e:Ex} {env':Env} {h':Heap},gF P aQ dN N.N c y=true ->
  Inv w m h->Fr N w m h env a->cx.base+cx.ns<=h.length->exec call cx n y (env,h)=some (e,(env',h'))->c.wpIn (iY N.ro) 0 P (yE N cx.lo w m h e env' h') a w:=fun y hy=>IH (SizeOf.sizeOf y) (hsz▸hy) y rfl
 clear IH hsz
 cases x with
 |skip =>
  intro c w m h env a e env' h' hk hi hf hb hx;simp only[exec,aP,ax]at hx;obtain⟨rfl,rfl,rfl⟩:=hx;unfold gF at hk;split at hk<;>simp only[XC.core,fJ]at hk
  ·exact wpIn_skip ⟨rfl,m,Step.refl _ _ _ _,hi,hf⟩
  ·exact wpIn_label ⟨rfl,m,Step.refl _ _ _ _,hi,hf⟩
 |exit id =>
  intro c w m h env a e env' h' hk hi hf hb hx;simp only[exec,aP,ax]at hx;obtain⟨rfl,rfl,rfl⟩:=hx;unfold gF at hk;split at hk<;>simp only[XC.core,fJ]at hk
  ·simp only[bg,beq_iff_eq,decide_eq_true_eq]at hk;obtain⟨rfl,hlt⟩:=hk;exact wpIn_exit ⟨(yC hlt).symm,m,Step.refl _ _ _ _,hi,hf⟩
  ·rename_i l;simp only[beq_iff_eq]at hk;subst hk
   exact wpIn_goto ⟨by rw[yD (by omega),Nat.add_sub_cancel_left],m,Step.refl _ _ _ _,hi,hf⟩
 |ret =>
  intro c w m h env a e env' h' hk hi hf hb hx;cases c<;>first|simp only[gF,XC.core,fJ]at hk|exact absurd hk (by rw[BD P aQ dN N.N (fun _ _ h=>by cases h)];simp)
  simp only[exec,aP,ax]at hx;obtain⟨rfl,rfl,rfl⟩:=hx
  exact wpIn_ret ⟨rfl,m,Step.refl _ _ _ _,hi,hf⟩
 |reg draw keep kill xs =>
  intro c w m h env a e env' h' hk hi hf hb hx;cases c<;>first|simp only[gF,XC.core,fJ]at hk|exact absurd hk (by rw[BD P aQ dN N.N (fun _ _ h=>by cases h)];simp)
  rename_i id ops KT;simp only[bg,beq_iff_eq]at hk;obtain⟨⟨rfl,hk1⟩,hk2⟩:=hk;simp only[exec,mE,ax]at hx;obtain⟨⟨jT,h1⟩,hx,rfl,rfl,rfl⟩:=hx;obtain⟨sk,ik⟩:=KW (cx:=cx) hlo kill h hi;have fk:=hf.step sk;have hbk:cx.base+cx.ns<=(jh cx kill h).length:=by rw[sk.len];exact hb
  cases KT with
  |false =>
   refine wpIn_region ?_;obtain⟨r1,r2⟩:=abM hk1
   exact RZ hc hlo _ _ r1 r2 ik fk (by omega) hx fun a' w' m' s1 i1 f1=>⟨rfl,m',sk.trans s1,i1,f1.keep keep⟩
  |true =>
   simp only[vH,Bool.false_or]at hk2;refine wpIn_region_any hm ?_;have hbel:RowKit.Below w.heap.size w { w with drawn:=w.drawn+1 }:=(RowKit.Below.refl _ _).drew
   have s0:=vz (lo:=cx.lo) ik hbel;have hlen:ops.size=xs.length:=by have:=(G7 hk1).1;simpa using this
   have hany:=abD (Q:=yE N cx.lo w m h .norm (jT.keep keep) h1) hc hlo hk1 hk2 (List.range ops.size) (Array.replicate ops.size false) (List.pairwise_lt_range) (by simp) (fun i=>by
     simp only[List.mem_range];constructor
     ·intro hi;exact⟨hi,by simp[hi]⟩
     ·intro hi;exact hi.1)
    (fun k hk hkn=>by simp[hkn]at hk) (wR ik hbel) (fk.step s0) (by omega) (by rw[abN xs _ hlen];exact hx)
    (fun Ec heq a' w' m' s1 i1 f1=>⟨rfl,m',(sk.trans s0).trans s1,i1,(f1.eq heq).keep keep⟩)
   simpa using hany
 |seq x y =>
  have kD:=sj x (by simp only[XC.seq.sizeOf_spec];omega)
  have ihy:=sj y (by simp only[XC.seq.sizeOf_spec];omega)
  intro c w m h env a e env' h' hk hi hf hb hx;cases c<;>first|simp only[gF,XC.core,fJ]at hk|exact absurd hk (by rw[BD P aQ dN N.N (fun _ _ h=>by cases h)];simp)
  rename_i p q;simp only[bg]at hk;simp only[exec,bE]at hx;obtain⟨⟨e1,jT,h1⟩,hx1,hx2⟩:=hx;simp only at hx2;refine wpIn_seq (wpIn_mono (kD p hk.1 hi hf hb hx1) ?_);rintro e' a' w' ⟨rfl,m',s1,i1,f1⟩;split at hx2
  ·rename_i he;subst he
   show q.wpIn (iY N.ro) 0 P _ a' w'
   refine wpIn_mono (ihy q hk.2 i1 f1 (by rw[s1.len];exact hb) hx2) ?_
   rintro Eh a'' w'' ⟨rfl,m'',s2,i2,f2⟩;exact⟨rfl,m'',s1.trans s2,i2,f2⟩
  ·rename_i he;simp only[aP,ax]at hx2;obtain⟨rfl,rfl,rfl⟩:=hx2
   exact KU he ⟨rfl,m',s1,i1,f1⟩
 |cond c0 x y =>
  have kD:=sj x (by simp only[XC.cond.sizeOf_spec];omega)
  have ihy:=sj y (by simp only[XC.cond.sizeOf_spec];omega)
  intro c w m h env a e env' h' hk hi hf hb hx;cases c<;>first|simp only[gF,XC.core,fJ]at hk|exact absurd hk (by rw[BD P aQ dN N.N (fun _ _ h=>by cases h)];simp)
  rename_i c1 p q;simp only[bg]at hk;simp only[exec,bE]at hx;obtain⟨r,hr,hx⟩:=hx;have hv:=Qx (eX hf.env hk.1.1) hr;refine wpIn_cond hv ?_
  cases r with
  |true=>exact kD p hk.1.2 hi hf hb hx
  |false=>exact ihy q hk.2 hi hf hb hx
 |blk id x =>
  have kD:=sj x (by simp only[XC.blk.sizeOf_spec];omega)
  intro c w m h env a e env' h' hk hi hf hb hx;cases c<;>first|simp only[gF,XC.core,fJ]at hk|skip
  ·rename_i id' p;simp only[bg,beq_iff_eq,decide_eq_true_eq]at hk;obtain⟨⟨rfl,hlt⟩,hk⟩:=hk;simp only[exec,mE]at hx;obtain⟨⟨e1,jT,h1⟩,hx,he⟩:=hx;refine wpIn_block (wpIn_mono (kD p hk hi hf hb hx) ?_);rintro e' a' w' ⟨rfl,m',s1,i1,f1⟩;unfold Ex.jy at he;split at he
   ·rename_i heq;simp only at heq;subst heq;simp only[ax]at he;obtain⟨rfl,rfl,rfl⟩:=he;rw[yC hlt];simp only[Exit.inBlock,if_true];exact⟨rfl,m',s1,i1,f1⟩
   ·rename_i hne;simp only[ax]at he;obtain⟨rfl,rfl,rfl⟩:=he
    cases e1 with
    |norm=>exact⟨rfl,m',s1,i1,f1⟩
    |exit id2 =>
     simp only at hne;by_cases h2:id2<1000
     ·have e2:si (.exit id2)=.exit id2:=yC h2;rw[e2];simp only[Exit.inBlock];rw[if_neg (fun h=>hne (by rw[h]))]
      exact⟨e2.symm,m',s1,i1,f1⟩
     ·have e2:si (.exit id2)=.goto (id2-1000):=yD h2;rw[e2]
      exact⟨e2.symm,m',s1,i1,f1⟩
    |ret=>exact⟨rfl,m',s1,i1,f1⟩
  ·rename_i s;unfold gF at hk;simp only[XC.core]at hk
   obtain⟨l,x1,z1,b1,o',hfl,hog,hnx,hnz,hkb,hy,pre⟩:∃(l:Nat) (x1 z1:XC) (b1:Code) (o':Nat),(∀ t,findLabel s t=if t=l then some (.seq .skip b1)else none)/\¬ o'=1000+l/\x1.oQ o'=true/\z1.oQ o'=true/\gF P aQ dN N.N b1 z1=true/\XC.blk id x=.blk o' (.seq (.blk (1000+l) x1) (.loop (.blk (1000+l) (.seq z1 (.exit o'))))) /\
     ∀(e3:Ex) (sw:Env) (h3:Heap) (Q:Exit->Act->World->Prop),exec call cx n x1 (env,h)=some (e3,(sw,h3))->(∀ e' a' w',yE N cx.lo w m h e3 sw h3 e' a' w'->Exit.then ((Code.seq (.label l) b1).wpIn (iY N.ro) 0 P Q) Q e' a' w')->s.wpIn (iY N.ro) 0 P Q a w:=by
    split at hk
    ·rename_i o g x1 g' z1 o' a1 l b1 heq;cases heq;simp only[bg,beq_iff_eq,ku,beq_eq_false_iff_ne]at hk;obtain⟨⟨⟨⟨⟨⟨⟨⟨⟨rfl,rfl⟩,rfl⟩,hog⟩,hnx⟩,hnz⟩,hfa⟩,zL⟩,hka⟩,hkb⟩:=hk;have KY:=fun{w:World} {m:Map} {h:Heap} {env:Env} {a:Act} {e:Ex} {env':Env} {h':Heap}=>@sj x1 (by simp only[XC.blk.sizeOf_spec,XC.seq.sizeOf_spec];omega) a1 w m h env a e env' h'
     exact⟨l,x1,z1,b1,_,Si hfa zL,hog,hnx,hnz,hkb,rfl,fun e3 sw h3 Q hx3 after=>wpIn_seq (wpIn_mono (KY hka hi hf hb hx3) after)⟩
    ·rename_i o g x1 u1 g' z1 o' a1 c1 l b1 hnl heq;cases heq;simp only[bg,beq_iff_eq,ku,beq_eq_false_iff_ne]at hk;obtain⟨⟨⟨⟨⟨⟨⟨⟨⟨⟨⟨⟨rfl,rfl⟩,rfl⟩,hog⟩,hnx⟩,hnu⟩,hnz⟩,hfa⟩,hfc⟩,zL⟩,hka⟩,hkc⟩,hkb⟩:=hk;have KY:=fun{w:World} {m:Map} {h:Heap} {env:Env} {a:Act} {e:Ex} {env':Env} {h':Heap}=>@sj x1 (by simp only[XC.blk.sizeOf_spec,XC.seq.sizeOf_spec];omega) a1 w m h env a e env' h'
     have ab2:=fun{w:World} {m:Map} {h:Heap} {env:Env} {a:Act} {e:Ex} {env':Env} {h':Heap}=>@sj u1 (by simp only[XC.blk.sizeOf_spec,XC.seq.sizeOf_spec];omega) c1 w m h env a e env' h'
     refine⟨l,.seq x1 u1,z1,b1,_,abP hfa hfc zL,hog,by simp only[XC.oQ,hnx,hnu,Bool.and_self],hnz,hkb,rfl,fun e3 sw h3 Q hx3 after=>?_⟩
     simp only[exec,bE]at hx3;obtain⟨⟨e1,jT,h1⟩,hx1,hx2⟩:=hx3;simp only at hx2;refine wpIn_seq (wpIn_mono (KY hka hi hf hb hx1) ?_);rintro e' a' w' ⟨rfl,m',s1,i1,f1⟩;split at hx2
     ·rename_i he;subst he
      show (Code.seq c1 (.seq (.label l) b1)).wpIn (iY N.ro) 0 P Q a' w'
      refine wpIn_seq (wpIn_mono (ab2 hkc i1 f1 (by rw[s1.len];exact hb) hx2) ?_)
      rintro Eh a'' w'' ⟨rfl,m'',s2,i2,f2⟩;exact after _ _ _ ⟨rfl,m'',s1.trans s2,i2,f2⟩
     ·rename_i he;simp only[aP,ax]at hx2;obtain⟨rfl,rfl,rfl⟩:=hx2;exact abL he (after _ a' w' ⟨rfl,m',s1,i1,f1⟩)
    ·cases hk
   ·cases hy;clear hk;have ab3:=fun{w:World} {m:Map} {h:Heap} {env:Env} {a:Act} {e:Ex} {env':Env} {h':Heap}=>@sj z1 (by simp only[XC.blk.sizeOf_spec,XC.seq.sizeOf_spec,XC.loop.sizeOf_spec];omega) b1 w m h env a e env' h'
    have tl:si (.exit (1000+l))=.goto l:=by rw[yD (by omega),Nat.add_sub_cancel_left]
    have Sq:∀ e:Ex,e≠.exit (1000+l)->si e≠.goto l:=by
     intro e he h
     cases e with
     |norm=>cases h
     |ret=>cases h
     |exit id =>
      by_cases h2:id<1000
      ·rw[yC h2]at h;cases h
      ·rw[yD h2]at h;simp only[Exit.goto.injEq]at h;have hid:id=1000+l:=by omega
       exact he (by rw[hid])
    -- the rounds behind the label
    have key:∀(k:Nat) {w2:World} {m2:Map} {h2:Heap} {gB:Env} {a2:Act} {eL:Ex} {Hq:Env} {hL:Heap},Step cx.lo w m h w2 m2 h2->Inv w2 m2 h2->Fr N w2 m2 h2 gB a2->cx.base+cx.ns<=h2.length ->
      iter (exec call cx n (.blk (1000+l) (.seq z1 (.exit id)))) k (gB,h2)=some (eL,(Hq,hL))->Ex.jy id (eL,(Hq,hL))=(e,(env',h')) ->
      BG (iY N.ro) P l b1 (yE N cx.lo w m h e env' h') k a2 w2:=by
     intro k
     induction k with
     |zero=>intro w2 m2 h2 gB a2 eL Hq hL _ _ _ _ hit;simp[iter]at hit
     |succ k ihk =>
      intro w2 m2 h2 gB a2 eL Hq hL s2 i2 f2 hb2 hit hfin;simp only[iter,bE]at hit;obtain⟨⟨e1,jT,h1⟩,hx1,hx2⟩:=hit;simp only at hx2;simp only[exec,mE,bE]at hx1;obtain⟨⟨e3,sw,h3⟩,⟨⟨e4,BH,h4⟩,Sr,Ei⟩,hz3⟩:=hx1;have hno:=Sm (call:=call) (cx:=cx) n id z1 hnz Sr;unfold BG;refine wpIn_mono (ab3 hkb i2 f2 hb2 Sr) ?_;rintro e' a' w' ⟨rfl,m',s1,i1,f1⟩;simp only at Ei hno;by_cases KZ:e4=.norm
      ·subst KZ;simp only[if_true,aP,ax]at Ei;obtain⟨rfl,rfl,rfl⟩:=Ei
       have hbl:Ex.jy (1000+l) (.exit id,BH,h4)=(.exit id,BH,h4):=by
        unfold Ex.jy;rw[if_neg (by simpa using hog)]
       rw[hbl]at hz3;simp only[ax]at hz3;obtain⟨rfl,rfl,rfl⟩:=hz3;simp only[reduceCtorEq,if_false,aP,ax]at hx2;obtain⟨rfl,rfl,rfl⟩:=hx2;unfold Ex.jy at hfin;simp only[if_true,ax]at hfin;obtain⟨rfl,rfl,rfl⟩:=hfin;exact .inr ⟨by simp[si],rfl,m',s2.trans s1,i1,f1⟩
      ·simp only[if_neg KZ,aP,ax]at Ei;obtain⟨rfl,rfl,rfl⟩:=Ei;by_cases K3:e4=.exit (1000+l)
       ·subst K3;have hbl:Ex.jy (1000+l) (.exit (1000+l),BH,h4)=(.norm,BH,h4):=by unfold Ex.jy;rw[if_pos rfl]
        rw[hbl]at hz3;simp only[ax]at hz3;obtain⟨rfl,rfl,rfl⟩:=hz3;simp only[if_true]at hx2;exact .inl ⟨tl,ihk (s2.trans s1) i1 f1 (by rw[s1.len];exact hb2) hx2 hfin⟩
       ·have hbl:Ex.jy (1000+l) (e4,BH,h4)=(e4,BH,h4):=by unfold Ex.jy;rw[if_neg K3]
        rw[hbl]at hz3;simp only[ax]at hz3;obtain⟨rfl,rfl,rfl⟩:=hz3;simp only[if_neg KZ,aP,ax]at hx2;obtain⟨rfl,rfl,rfl⟩:=hx2;unfold Ex.jy at hfin;rw[if_neg hno]at hfin;simp only[ax]at hfin;obtain⟨rfl,rfl,rfl⟩:=hfin;exact .inr ⟨Sq _ K3,rfl,m',s2.trans s1,i1,f1⟩
    simp only[exec,mE,bE]at hx;obtain⟨⟨e1,jT,h1⟩,⟨⟨e2,gB,h2⟩,⟨⟨e3,sw,h3⟩,hx3,hx4⟩,hx5⟩,hfin⟩:=hx;have hno:=Sm (call:=call) (cx:=cx) n id x1 hnx hx3;simp only at hx5 hno;refine abQ hfl (pre _ _ _ _ hx3 ?_);rintro e' a' w' ⟨rfl,m',s1,i1,f1⟩;have hb1:cx.base+cx.ns<=h3.length:=by rw[s1.len];exact hb
    by_cases K4:e3=.norm
    ·subst K4;have hbl:Ex.jy (1000+l) (.norm,sw,h3)=(.norm,sw,h3):=by unfold Ex.jy;rw[if_neg (by simp)]
     rw[hbl]at hx4;simp only[ax]at hx4;obtain⟨rfl,rfl,rfl⟩:=hx4;simp only[if_true]at hx5
     show (Code.seq (.label l) b1).wpIn (iY N.ro) 0 P _ a' w'
     refine wpIn_seq (wpIn_label ?_);have hr:=key n s1 i1 f1 hb1 hx5 hfin
     cases n with
     |zero=>exact hr.elim
     |succ k =>
      refine wpIn_mono hr ?_;rintro Eh a'' w'' (⟨rfl,hk⟩|⟨hne,hq⟩)
      ·exact .inl ⟨rfl,_,hk⟩
      ·exact .inr ⟨hne,hq⟩
    ·refine KU K4 ?_;by_cases K5:e3=.exit (1000+l)
     ·subst K5;have hbl:Ex.jy (1000+l) (.exit (1000+l),sw,h3)=(.norm,sw,h3):=by unfold Ex.jy;rw[if_pos rfl]
      rw[hbl]at hx4;simp only[ax]at hx4;obtain⟨rfl,rfl,rfl⟩:=hx4;simp only[if_true]at hx5;exact .inl ⟨tl,_,key n s1 i1 f1 hb1 hx5 hfin⟩
     ·have hbl:Ex.jy (1000+l) (e3,sw,h3)=(e3,sw,h3):=by unfold Ex.jy;rw[if_neg K5]
      rw[hbl]at hx4;simp only[ax]at hx4;obtain⟨rfl,rfl,rfl⟩:=hx4;simp only[if_neg K4,aP,ax]at hx5;obtain⟨rfl,rfl,rfl⟩:=hx5;unfold Ex.jy at hfin;rw[if_neg hno]at hfin;simp only[ax]at hfin;obtain⟨rfl,rfl,rfl⟩:=hfin
      exact .inr ⟨Sq _ K5,rfl,m',s1,i1,f1⟩
 |loop x =>
  have kD:=sj x (by simp only[XC.loop.sizeOf_spec];omega)
  intro c w m h env a e env' h' hk hi hf hb hx;cases c<;>first|simp only[gF,XC.core,fJ]at hk|exact absurd hk (by rw[BD P aQ dN N.N (fun _ _ h=>by cases h)];simp)
  rename_i p;simp only[exec]at hx
  have key:∀(k:Nat) {w2:World} {m2:Map} {h2:Heap} {gB:Env} {a2:Act},Step cx.lo w m h w2 m2 h2->Inv w2 m2 h2->Fr N w2 m2 h2 gB a2->cx.base+cx.ns<=h2.length->iter (exec call cx n x) k (gB,h2)=some (e,(env',h')) ->
    roundsIn (iY N.ro) P p (yE N cx.lo w m h e env' h') k a2 w2:=by
   intro k
   induction k with
   |zero=>intro w2 m2 h2 gB a2 _ _ _ _ hit;simp[iter]at hit
   |succ k ihk =>
    intro w2 m2 h2 gB a2 s2 i2 f2 hb2 hit;simp only[iter,bE]at hit;obtain⟨⟨e1,jT,h1⟩,hx1,hx2⟩:=hit;simp only at hx2;unfold roundsIn;refine wpIn_mono (kD p hk i2 f2 hb2 hx1) ?_;rintro e' a' w' ⟨rfl,m',s1,i1,f1⟩;split at hx2
    ·rename_i he;subst he;exact ihk (s2.trans s1) i1 f1 (by rw[s1.len];exact hb2) hx2
    ·rename_i he;simp only[aP,ax]at hx2;obtain⟨rfl,rfl,rfl⟩:=hx2;exact KU he ⟨rfl,m',s2.trans s1,i1,f1⟩
  exact wpIn_loop_rounds n (key n (Step.refl _ _ _ _) hi hf hb hx)
 |jG s f g =>
  intro c w m h env a e env' h' hk hi hf hb hx;cases c<;>first|simp only[gF,XC.core,fJ]at hk|exact absurd hk (by rw[BD P aQ dN N.N (fun _ _ h=>by cases h)];simp)
  rename_i f0 ps fZ body;simp only[bg]at hk
  exact abT hc hrd hlo hrnd hk.1 hk.2 hi hf hb hx
 |pre ps x =>
  have kD:=sj x (by simp only[XC.pre.sizeOf_spec];omega)
  intro c w m h env a e env' h' hk hi hf hb hx
  have hk':gF P aQ dN N.N c x=true:=by
   cases c<;>first|(simp only[gF,XC.core]at hk⊢;first|exact hk|done)|(rw[<-hk];exact Sd P aQ dN N.N rfl)
  exact kD c hk' hi (hf.keep ps) hb hx
 |fz t x =>
  have kD:=sj x (by simp only[XC.fz.sizeOf_spec];omega)
  intro c w m h env a e env' h' hk hi hf hb hx
  have hk':gF P aQ dN N.N c x=true:=by
   cases c<;>first|(simp only[gF,XC.core]at hk⊢;first|exact hk|done)|(rw[<-hk];exact Sd P aQ dN N.N rfl)
  simp only[exec,bE]at hx;obtain⟨⟨v,h1⟩,hz,hx⟩:=hx;obtain⟨s,i,r⟩:=zG hlo _ _ _ _ _ hi (hf.env.at' t) hz;have fs:=hf.step s
  have f1:Fr N w m h1 (env.set t v) a:=⟨⟨fun q=>by
   rw[Env.KC];split
   ·rename_i hq;subst hq;exact R.rU _ _ r
   ·exact fs.env.at' q,fs.env.gV⟩,fs.size,fs.defers,fs.ic,fs.bound⟩
  refine wpIn_mono (kD c hk' i f1 (by rw[s.len];exact hb) hx) ?_
  rintro e' a' w' ⟨rfl,m',s1,i1,f1⟩;exact⟨rfl,m',s.trans s1,i1,f1⟩
end
end Go.VI
