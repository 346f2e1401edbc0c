/- Code: from the evaluator's answer to the machine's. -/
import Derived.Test.YtfpoegnmeoghpaaGreatDoorVINC
import Derived.RangeFuncNested
set_option linter.unusedVariables false
set_option linter.unusedSimpArgs false
namespace Go.VI
set_option linter.unusedSectionVars false
variable [kH][Rounds]
def alM(N:Nat):Option Nat->Option Nat->Bool
 |none,none=>true
 |some d,some d'=>d==d'&&decide (d<N)
 |_,_=>false
def an3(ops:List Oper):Option (Nat×Bool)->Option (Nat×Bool)->Bool
 |none,none=>true
 |some (j,b),some (g,b')=>b==b'&&((ops[j]?).bind (·.dst)==some g)
 |_,_=>false
def aj7(P:Program)(ops:List Oper)(N:Nat)(o:Oper)(x:jc):Bool:=alM N o.dst x.dst&&an3 ops o.guard x.guard&&mg P o x.op
def ac3(P:Program)(ops:List Oper)(N:Nat):List Oper->List jc->Bool
 |[],[]=>true
 |o::os,x::xs=>aj7 P ops N o x&&ac3 P ops N os xs
 |_,_=>false
section
variable {P:Program}{eB:Nat->Bool}{call:Callee}{cx:Cx}
theorem an4{ops:List Oper}{N:Nat}:∀{os:List Oper} {xs:List jc},ac3 P ops N os xs=true->os.length=xs.length/\∀(i:Nat) o x,os[i]?=some o->xs[i]?=some x->aj7 P ops N o x=true
 |[],[],_=>⟨rfl,fun i o x h=>by simp at h⟩
 |o::os,x::xs,hk=>by
  simp only[ac3,fw]at hk;obtain⟨h1,h2⟩:=an4 hk.2;refine⟨by simp[h1],fun i o' x' ho hx=>?_⟩
  cases i with
  |zero=>simp at ho hx;subst ho hx;exact hk.1
  |succ i=>exact h2 i o' x' (by simpa using ho) (by simpa using hx)
 |[],_::_,hk=>by simp[ac3]at hk
 |_::_,[],hk=>by simp[ac3]at hk
def Marks(B:Nat)(w:World)(m:Map)(h:Heap)(ds:List Deferred):Prop :=
 ∃ Ds:List Nat,ds=Ds.map (fun D=>{ target:=.collected D,args:=#[] })/\Ds.Nodup/\∀ D∈Ds,B<=D/\w.heap[D]?=some (.deferred (some []))/\¬ Live m h D
def an5(m:Map)(h:Heap):Option Nat->Option (Nat×Nat)->Prop
 |none,none=>True
 |some l,some (id,ak)=>Zw m h id ak l
 |_,_=>False
structure acf where
 N:Nat
 B:Nat
 ro:Option Nat
 Df:Option (Nat×Nat)
structure Fr(N:acf)(w:World)(m:Map)(h:Heap)(env:Env)(a:Act):Prop where
 env:uO w m h env a
 size:a.tmps.size=N.N
 defers:Marks N.B w m h a.defers
 Df:an5 m h N.ro N.Df
 bound:N.B<=w.heap.size
theorem Marks.step{B:Nat}{w w':World}{m m':Map}{h h':Heap}{lo:Nat}{ds:List Deferred}(hm:Marks B w m h ds)(hs:Step lo w m h w' m' h'):Marks B w' m' h' ds:=by
 obtain⟨Ds,rfl,hn,hd⟩:=hm;refine⟨Ds,rfl,hn,fun D hD=>?_⟩;obtain⟨h1,h2,h3⟩:=hd D hD;have hlt:=(aiS.mp h2).1;exact⟨h1,(hs.old D hlt h3).trans h2,(hs.keep.out hlt h3).2⟩
theorem an5.step{w w':World}{m m':Map}{h h':Heap}{lo:Nat}(hs:Step lo w m h w' m' h'):∀{ro:Option Nat} {r:Option (Nat×Nat)},an5 m h ro r->an5 m' h' ro r
 |none,none,_=>trivial
 |some _,some (_,_),hr=>Zw.step hs.ids hr
 |some _,none,hr=>hr
 |none,some _,hr=>hr
theorem uO.step{w w':World}{m m':Map}{h h':Heap}{lo:Nat}{env:Env}{a:Act}(he:uO w m h env a)(hs:Step lo w m h w' m' h'):uO w' m' h' env a:=⟨fun t=>R.step hs.ids hs.keep _ _ (he.at' t),he.CX.keep hs.keep⟩
theorem Fr.step{N:acf}{w w':World}{m m':Map}{h h':Heap}{lo:Nat}{env:Env}{a:Act}(hf:Fr N w m h env a)(hs:Step lo w m h w' m' h'):Fr N w' m' h' env a:=⟨hf.env.step hs,hf.size,hf.defers.step hs,hf.Df.step hs,Np hf.bound hs.keep.size⟩
theorem Fr.put{N:acf}{w:World}{m:Map}{h:Heap}{env:Env}{a:Act}(hf:Fr N w m h env a){od xd:Option Nat}(hd:alM N.N od xd=true){v:AV}{u:Value}(hr:R w (Live m h) m h v u):Fr N w m h (env.put xd v) (a.put od u):=by
 cases od with
 |none=>cases xd with
  |none=>exact hf
  |some _=>simp[alM]at hd
 |some d=>cases xd with
  |none=>simp[alM]at hd
  |some d' =>
   simp only[alM,fw,beq_iff_eq,decide_eq_true_eq]at hd;obtain⟨rfl,hlt⟩:=hd;refine⟨⟨fun t=>?_,hf.env.CX⟩,by simp[Act.put,hf.size],by simpa[Act.put]using hf.defers,hf.Df,hf.bound⟩
   rw[Env.get_put];simp only[Act.put];by_cases ht:d=t
   ·subst ht;rw[if_pos rfl]
    have:(a.tmps.setIfInBounds d u).getD d undef=u:=by
     simp[hf.size,hlt]
    rw[this];exact hr
   ·rw[if_neg (by simp[ht])]
    have:(a.tmps.setIfInBounds d u).getD t undef=a.tmps.getD t undef:=by
     simp[Array.getElem?_setIfInBounds_ne ht]
    rw[this];exact hf.env.at' t
def After(N:acf)(lo:Nat)(w:World)(m:Map)(h:Heap)(env':Env)(h':Heap)(K:Act->World->Prop):Prop :=
 ∀ a' w' m',Step lo w m h w' m' h'->Inv w' m' h'->Fr N w' m' h' env' a'->K a' w'
theorem ay8(hc:Rk P eB call){ops:Array Oper}{N:acf}{w:World}{m:Map}{h:Heap}{env:Env}{a:Act}(hi:Inv w m h)(hf:Fr N w m h env a)(hlo:cx.lo<=cx.base)(hb:cx.base<=h.length){i:Nat}{o:Oper}{x:jc}(ho:ops[i]?=some o)
  (hk:aj7 P ops.toList N.N o x=true) {env':Env} {h':Heap} (hx:Dh call cx x env h=some (env',h')) {K:Act->World->Prop} {Q:Exit->Act->World->Prop} (hK:After N cx.lo w m h env' h' K):wpOpIn (F8 N.ro) 0 P ops Q i K a w:=by
 simp only[aj7,fw]at hk;obtain⟨⟨k1,k2⟩,k3⟩:=hk;unfold wpOpIn;rw[ho];simp only;unfold Dh at hx
 cases hg:x.guard with
 |none =>
  have hog:o.guard=none:=by
   rw[hg]at k2
   cases hog:o.guard with
   |none=>rfl
   |some p=>rw[hog]at k2;obtain⟨_,_⟩:=p;simp[an3]at k2
  rw[hg]at hx;simp only[mE,bf]at hx;obtain⟨⟨v,h1⟩,hx,rfl,rfl⟩:=hx;rw[if_pos (by simp[Region.wanted,hog])]
  refine(ayv hc hi hf.env hlo hb k3 (IQ hx).1 fun u w' m' s1 i1 r1=>?_)
  exact hK _ _ m' s1 i1 ((hf.step s1).put k1 r1)
 |some p =>
  obtain⟨g,want⟩:=p;rw[hg]at hx k2
  cases hog:o.guard with
  |none=>rw[hog]at k2;simp[an3]at k2
  |some q =>
   obtain⟨j,want'⟩:=q;rw[hog]at k2;simp only[an3,fw,beq_iff_eq]at k2;obtain⟨rfl,hj⟩:=k2;obtain⟨b,hb',hy⟩:=bE.mp hx;clear hx;have hdst:(ops[j]?).bind (·.dst)=some g:=by rw[<-hj];simp
   have hrg:=hf.env.at' g
   have hw:Region.wanted o (yielded ops a.tmps)=b:=by
    unfold ajK at hb';split at hb'
    ·rename_i c hc;simp only[dz]at hb';subst hb';rw[hc,abr]at hrg
     have hget:a.tmps[g]?=some (.bool c):=by
      simp only[Array.getD_eq_getD_getElem?]at hrg
      cases hgt:a.tmps[g]? with
      |none=>rw[hgt]at hrg;simp[undef]at hrg
      |some y=>rw[hgt]at hrg;simp at hrg;rw[hrg]
     simp only[Region.wanted,hog,yielded,hdst];simp[hget]
    ·rename_i hc;simp only[dz]at hb';subst hb';rw[hc]at hrg;simp only[R,RL]at hrg;obtain⟨vs,hv,rfl⟩:=hrg;simp only[Region.wanted,hog,yielded,hdst];simp only[Array.getD_eq_getD_getElem?]at hv
     cases hgt:a.tmps[g]? with
     |none=>simp[hgt]
     |some y=>rw[hgt]at hv;simp at hv;subst hv;simp[hgt]
    ·cases hb'
   rw[hw];split at hy
   ·rename_i hbw;subst hbw;simp only[mE,bf]at hy;obtain⟨⟨v,h1⟩,hx,rfl,rfl⟩:=hy;rw[if_pos (by simp)]
    refine(ayv hc hi hf.env hlo hb k3 (IQ hx).1 fun u w' m' s1 i1 r1=>?_);exact hK _ _ m' s1 i1 ((hf.step s1).put k1 r1)
   ·rename_i hbw;simp only[dz,bf]at hy;obtain⟨rfl,rfl⟩:=hy;rw[if_neg (by simpa using hbw)]
    exact⟨fun _ _=>trivial,hK _ _ m (Step.refl _ _ _ _) hi (hf.put k1 (by simp only[R];exact⟨[],rfl,by simp[RL]⟩))⟩
theorem ay9(hc:Rk P eB call){ops:Array Oper}{N:acf}(hlo:cx.lo<=cx.base){Q:Exit->Act->World->Prop}:∀(l:List Nat) (xs:List jc) {w:World} {m:Map} {h:Heap} {env:Env} {a:Act} {env':Env} {h':Heap},l.length=xs.length ->
  (∀(k i:Nat) x,l[k]?=some i->xs[k]?=some x->∃ o,ops[i]?=some o/\aj7 P ops.toList N.N o x=true)->Inv w m h->Fr N w m h env a->cx.base<=h.length->xZ call cx xs env h=some (env',h') ->
  After N cx.lo w m h env' h' (fun a' w'=>Q .normal a' w')->wpOpsIn (F8 N.ro) 0 P ops Q l a w
 |[],[],w,m,h,env,a,env',h',_,_,hi,hf,_,hx,hK=>by
  simp only[xZ,dz,bf]at hx;obtain⟨rfl,rfl⟩:=hx
  exact hK a w m (Step.refl _ _ _ _) hi hf
 |i::l,x::xs,w,m,h,env,a,env',h',hl,hall,hi,hf,hb,hx,hK=>by
  obtain⟨⟨e1,h1⟩,hx1,hx2⟩:=bE.mp hx;obtain⟨o,ho,hk⟩:=hall 0 i x rfl rfl;rw[wpOpsIn_cons];refine ay8 hc hi hf hlo hb ho hk hx1 fun a' w' m' s1 i1 f1=>?_;refine ay9 hc hlo l xs (by simpa using hl) (fun k i' x' h1 h2=>hall (k+1) i' x' (by simpa using h1) (by simpa using h2)) i1 f1 (by rw[s1.len];exact hb) hx2 fun a2 w2 m2 s2 i2 f2=>?_
  exact hK a2 w2 m2 (s1.trans s2) i2 f2
 |[],_::_,_,_,_,_,_,_,_,hl,_,_,_,_,_,_=>by simp at hl
 |_::_,[],_,_,_,_,_,_,_,hl,_,_,_,_,_,_=>by simp at hl
def abw(o:Oper):List Nat:=(o.after.toList.filter fun e=>Region.binds .any e).map (·.on)
def an6(M:List Nat)(es:List Nat):Nat:=es.foldl (fun s e=>s ||| 2^e ||| M.getD e 0) 0
def masks:List (List Nat)->List Nat->List Nat
 |[],acc=>acc
 |es::r,acc=>masks r (acc++[an6 acc es])
theorem ay'(M:List Nat)(j:Nat):∀(es:List Nat) (s:Nat),(es.foldl (fun s e=>s ||| 2^e ||| M.getD e 0) s).testBit j=true->s.testBit j=true\/∃ e∈es,e=j\/(M.getD e 0).testBit j=true
 |[],s,h=>.inl h
 |e::es,s,h=>by
  simp only[List.foldl_cons]at h;rcases ay' M j es _ h with h|⟨e',h1,h2⟩
  ·simp only[Nat.testBit_or,Jz,Nat.testBit_two_pow,decide_eq_true_eq]at h;rcases h with(h|h)|h
   ·exact .inl h
   ·exact .inr ⟨e,by simp,.inl h⟩
   ·exact .inr ⟨e,by simp,.inr h⟩
  ·exact .inr ⟨e',by simp[h1],h2⟩
def aFX(eB:Nat->Bool)(M:List Nat)(xs:List jc):Bool :=
 (List.range xs.length).all fun i=>(List.range i).all fun j =>
  (M.getD i 0).testBit j||(match xs[j]?,xs[i]? with|some x,some y=>alG eB x y|_,_=>false)
def ase(eB:Nat->Bool)(ops:List Oper)(xs:List jc):Bool :=
 let E:=ops.map abw
 let M:=masks E []
 ((List.range ops.length).all fun i=>((E.getD i []).all fun e=>decide (e<i))&&(M.getD i 0==an6 M (E.getD i [])))&&aFX eB M xs
theorem aFY{E:List (List Nat)}{M:List Nat}{n:Nat}(hE:∀ i,i<n->∀ e∈E.getD i [],e<i)(hM:∀ i,i<n->M.getD i 0=an6 M (E.getD i [])){L:Nat->Prop}(hL:∀ k,L k->k<n->∀ e∈E.getD k [],L e) :
  ∀(i:Nat),i<n->(∀ e∈E.getD i [],L e)->∀ j,(M.getD i 0).testBit j=true->L j:=by
 intro i
 induction i using Nat.strongRecOn with
 |_ i ih =>
  intro hi hd j hj;rw[hM i hi]at hj;rcases ay' M j _ 0 hj with h|⟨e,he,h⟩
  ·simp at h
  ·rcases h with rfl|h
   ·exact hd e he
   ·have hlt:=hE i hi e he;exact ih e hlt (by omega) (fun e' he'=>hL e (hd e he) (by omega) e' he') j h
theorem an7{n:Nat}{p:Nat->Bool}(h:(List.range n).all p=true){i:Nat}(hi:i<n):p i=true:=by
 rw[Gq]at h;exact h i (List.mem_range.mpr hi)
theorem aFZ(hc:Rk P eB call){ops:Array Oper}{N:acf}(hlo:cx.lo<=cx.base){Q:Exit->Act->World->Prop}{xs:List jc}(hk:ac3 P ops.toList N.N ops.toList xs=true)(hd:ase eB ops.toList xs=true) :
  ∀(rem:List Nat) (listed:Array Bool) {w:World} {m:Map} {h:Heap} {env:Env} {a:Act} {env':Env} {h':Heap},rem.Pairwise (·<·)->listed.size=ops.size->(∀ i,i∈rem↔i<ops.size/\listed.getD i false=false) ->
  (∀ k,listed.getD k false=true->k<ops.size->∀ e∈(ops.toList.map abw).getD k [],listed.getD e false=true) ->
  Inv w m h->Fr N w m h env a->cx.base<=h.length->xZ call cx (rem.filterMap (xs[·]?)) env h=some (env',h')->(∀ alN,Te env' alN->After N cx.lo w m h alN h' (fun a' w'=>Q .normal a' w')) ->
  wpAnyIn (F8 N.ro) 0 P .any ops Q rem.length listed a w:=by
 obtain⟨hlen,hget⟩:=an4 hk;simp only[ase,fw]at hd;obtain⟨hd1,hd2⟩:=hd
 have hE:∀ i,i<ops.size->∀ e∈(ops.toList.map abw).getD i [],e<i:=by
  intro i hi e he;have:=an7 hd1 (i:=i) (by simpa using hi)
  simp only[fw,Gq,decide_eq_true_eq]at this;exact this.1 e he
 have hM:∀ i,i<ops.size->(masks (ops.toList.map abw) []).getD i 0=an6 (masks (ops.toList.map abw) []) ((ops.toList.map abw).getD i []):=by
  intro i hi;have:=an7 hd1 (i:=i) (by simpa using hi)
  simp only[fw,beq_iff_eq]at this;exact this.2
 have hxl:xs.length=ops.size:=by rw[<-hlen];simp
 have aza:∀ i o,ops[i]?=some o->(ops.toList.map abw).getD i []=abw o:=by
  intro i o ho;simp[ho]
 intro rem;generalize hn:rem.length=n
 induction n generalizing rem with
 |zero =>
  intro listed w m h env a env' h' hp hsz ai1 hcl hi hf hb hx hK;have hr0:rem=[]:=JU hn;subst hr0;simp only[List.filterMap_nil,xZ,dz,bf]at hx;obtain⟨rfl,rfl⟩:=hx;refine⟨?_,hK env (fun _=>rfl) a w m (Step.refl _ _ _ _) hi hf⟩;rw[List.eq_nil_iff_forall_not_mem];intro j hj;obtain⟨h1,o,ho,_⟩:=mem_ready.mp hj;have hlt:j<ops.size:=(aiS.mp ho).1
  have:j∈([]:List Nat):=(ai1 j).mpr ⟨hlt,by
   have hjl:j<listed.size:=by omega
   simp[hjl]at h1⊢;exact h1⟩
  simp at this
 |succ n ih =>
  intro listed w m h env a env' h' hp hsz ai1 hcl hi hf hb hx hK;constructor
  ·-- there is always one that may come next
   intro hnil;exfalso
   cases rem with
   |nil=>simp at hn
   |cons i rem =>
    obtain⟨hlt,hul⟩:=(ai1 i).mp (by simp)
    have azc:i∈Region.ready .any ops listed:=by
     refine mem_ready.mpr ⟨?_,ops[i],by simp[hlt],fun e he hbind=>?_⟩
     ·have:i<listed.size:=by omega
      simp[this]at hul⊢;exact hul
     ·have hee:e.on∈(ops.toList.map abw).getD i []:=by
       rw[aza i ops[i] (by simp[hlt])]
       exact List.mem_map.mpr ⟨e,List.mem_filter.mpr ⟨by simpa using he,hbind⟩,rfl⟩
      have hlt2:=hE i hlt e.on hee
      cases hle:listed.getD e.on false with
      |true=>rfl
      |false =>
       have hin:=(ai1 e.on).mpr ⟨by omega,hle⟩
       rcases A9.mp hin with h|h
       ·omega
       ·have:=List.rel_of_pairwise_cons hp h;omega
    rw[hnil]at azc;simp at azc
  ·intro i hir;obtain⟨h1,o,ho,aF0⟩:=mem_ready.mp hir;have hlt:i<ops.size:=(aiS.mp ho).1;have hil:i<listed.size:=by omega
   have hin:i∈rem:=(ai1 i).mpr ⟨hlt,by simp[hil]at h1⊢;exact h1⟩
   obtain⟨l1,l2,rfl⟩:=List.append_of_mem hin;have hxi:∃ x,xs[i]?=some x:=⟨xs[i]'(by omega),by simp⟩
   obtain⟨x,hxi⟩:=hxi
   have hsplit:(l1++i::l2).filterMap (xs[·]?)=l1.filterMap (xs[·]?)++x::l2.filterMap (xs[·]?):=by
    rw[List.filterMap_append,List.filterMap_cons,hxi]
   rw[hsplit]at hx
   have azd:∀ e∈(ops.toList.map abw).getD i [],listed.getD e false=true:=by
    intro e he;rw[aza i o ho]at he;obtain⟨ed,hed,rfl⟩:=List.mem_map.mp he;obtain⟨aF1,aF2⟩:=List.mem_filter.mp hed;exact aF0 ed (by simpa using aF1) aF2
   have hswap:∀ y∈l1.filterMap (xs[·]?),alG eB y x=true:=by
    intro y hy;obtain⟨j,hj,hyj⟩:=List.mem_filterMap.mp hy
    have hji:j<i:=by
     rw[List.pairwise_append]at hp;exact hp.2.2 j hj i (by simp)
    have:=an7 (an7 hd2 (i:=i) (by omega)) hji
    simp only[Jz,hyj,hxi]at this;rcases this with h|h
    ·-- then it would have been listed
     have hjl:=aFY hE hM (L:=fun k=>listed.getD k false=true) (fun k hk hkn=>hcl k hk hkn) i hlt azd j h;have:=((ai1 j).mp (by simp[hj])).2
     rw[hjl]at this;cases this
    ·exact h
   obtain⟨e1',hx',heq⟩:=bubble hc hlo hswap hx;obtain⟨⟨e2,h2⟩,hx1,hx2⟩:=bE.mp hx';refine ay8 hc hi hf hlo hb ho (hget i o x (by simpa using ho) hxi) hx1 fun a' w' m' s1 i1 f1=>?_
   have hnd:i∉l1/\i∉l2:=by
    rw[List.pairwise_append]at hp;refine⟨fun h=>?_,fun h=>?_⟩
    ·have:=hp.2.2 i h i (by simp);omega
    ·have:=List.rel_of_pairwise_cons hp.2.1 h;omega
   have hset:∀ k,(listed.setIfInBounds i true).getD k false=if k=i then true else listed.getD k false:=by
    intro k;by_cases hk:k=i
    ·subst hk;simp[hil]
    ·rw[if_neg hk];exact getD_set_ne false (fun h=>hk h.symm)
   refine ih (l1++l2) (by simp at hn⊢;omega) (listed.setIfInBounds i true) ?_ (by simp[hsz]) (fun k=>?_) (fun k hk hkn e he=>?_) i1 f1 (by rw[s1.len];exact hb) (by rw[List.filterMap_append];exact hx2) fun alN aF3=>?_
   ·rw[List.pairwise_append]at hp⊢;exact⟨hp.1,(List.pairwise_cons.mp hp.2.1).2,fun p hp1 q hq=>hp.2.2 p hp1 q (by simp[hq])⟩
   ·rw[hset k];have:=ai1 k;simp only[Di,A9]at this⊢;by_cases hk:k=i
    ·subst hk;simp[hnd.1,hnd.2]
    ·rw[if_neg hk];rw[<-this];simp[hk]
   ·rw[hset]at hk⊢;by_cases hki:k=i
    ·subst hki;split
     ·rfl
     ·exact azd e he
    ·rw[if_neg hki]at hk;split
     ·rfl
     ·exact hcl k hk hkn e he
   ·intro a2 w2 m2 s2 i2 f2;exact hK alN (heq.trans aF3) a2 w2 m2 (s1.trans s2) i2 f2
end
end Go.VI
