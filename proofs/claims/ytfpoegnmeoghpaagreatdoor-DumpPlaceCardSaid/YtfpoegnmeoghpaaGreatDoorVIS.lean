/- Results, calls, rounds: the evaluator's answers are the machine's. -/
import Derived.Test.YtfpoegnmeoghpaaGreatDoorVIR
set_option linter.unusedVariables false
set_option linter.unusedSimpArgs false
namespace Go.VI
set_option linter.unusedSectionVars false
set_option linter.unnecessarySimpa false
variable [kH][Rounds]
section
variable {P:Program}{eB:Nat->Bool}{qR:Nat->Option DU}{call:Callee}
theorem azC:∀(args:List AV) (i t:Nat),(TU i args).get t=if i<=t then(args[t-i]?).getD .undef else .undef
 |[],i,t=>by simp[TU,Env.get]
 |v::vs,i,t=>by
  simp only[TU,Env.get,azC vs (i+1) t];by_cases h1:i=t
  ·subst h1;simp
  ·rw[if_neg h1];by_cases h2:i+1<=t
   ·rw[if_pos h2,if_pos (by omega),show t-i=(t-(i+1))+1 by omega,List.getElem?_cons_succ]
   ·rw[if_neg h2,if_neg (by omega)]
def alY(a:Act):ResultVar->Sem Value
 |.tmp t=>pure (a.tmps.getD t undef)
 |.cell b t=>do loadVar t (<-asAddr (a.tmps.getD b undef))
theorem aGB(fn:Func)(a:Act):results fn a.tmps=(do let vs <-fn.results.mapM (alY a);pure (if h:vs.size=1 then vs[0]else .tuple vs)):=by
 unfold results;congr 2
theorem aGC{w:World}{m:Map}{h:Heap}{env:Env}{a:Act}(hi:Inv w m h)(he:uO w m h env a){r:ResultVar}{x:LY}{v:AV}(hk:Ns P [r] [x]=true)(hv:Y0 env h x=some v) :
  ∃ u,(alY a r).run P w=.ok u w/\R w (Live m h) m h v u:=by
 cases r with
 |tmp t =>
  cases x with
  |tmp t' =>
   simp only[Ns,fw,beq_iff_eq]at hk;obtain⟨rfl,_⟩:=hk;simp only[Y0,dz]at hv;subst hv
   exact⟨_,rfl,he.at' t⟩
  |cell=>simp[Ns]at hk
 |cell b ty =>
  cases x with
  |tmp=>simp[Ns]at hk
  |cell t' sh =>
   simp only[Ns,fw,beq_iff_eq]at hk;obtain⟨⟨rfl,hs⟩,_⟩:=hk;simp only[Y0,bE]at hv;obtain⟨cs,hcs,hv⟩:=hv;obtain⟨ad,u,e,h1,h2⟩:=axZ (P:=P) hs (axG hi (he.at' b) hcs) hv;exact⟨u,by simp[alY,e,asAddr,h1],h2⟩
theorem azD{r:ResultVar}{x:LY}{rs:List ResultVar}{xs:List LY}(hk:Ns P (r::rs) (x::xs)=true):Ns P [r] [x]=true/\Ns P rs xs=true:=by
 cases r<;>cases x<;>simp_all[Ns]
theorem asz{w:World}{m:Map}{h:Heap}{env:Env}{a:Act}(hi:Inv w m h)(he:uO w m h env a):∀{rs:List ResultVar} {xs:List LY} {vs:List AV},Ns P rs xs=true->Rh env h xs=some vs ->
  ∃ us,(rs.mapM (alY a)).run P w=.ok us w/\RL w (Live m h) m h vs us
 |[],[],vs,_,hv=>by
  simp only[Rh,dz]at hv;subst hv
  exact⟨[],by simp,by simp[RL]⟩
 |r::rs,x::xs,vs,hk,hv=>by
  obtain⟨k1,k2⟩:=azD hk;simp only[Rh,bE,mE]at hv;obtain⟨v,hv1,vs',hv2,rfl⟩:=hv;obtain⟨u,h1,h2⟩:=aGC (P:=P) hi he k1 hv1;obtain⟨us,h3,h4⟩:=asz hi he k2 hv2;refine⟨u::us, ?_,by simp only[RL];exact⟨u,us,rfl,h2,h4⟩⟩
  rw[List.mapM_cons]
  simp only[Sem.run_bind,h1,Result.andThen_ok,h3,Sem.run_pure]
 |[],_::_,_,hk,_=>by simp[Ns]at hk
 |_::_,[],_,hk,_=>by cases ‹ResultVar›<;>simp[Ns]at hk
theorem azE:∀{rs:List ResultVar} {xs:List LY},Ns P rs xs=true->rs.length=xs.length
 |[],[],_=>rfl
 |r::rs,x::xs,hk=>by simp[azE (azD hk).2]
 |[],_::_,hk=>by simp[Ns]at hk
 |_::_,[],hk=>by cases ‹ResultVar›<;>simp[Ns]at hk
theorem aGD{w:World}{m:Map}{h:Heap}{env:Env}{a:Act}{fn:Func}(hi:Inv w m h)(he:uO w m h env a){xs:List LY}{v:AV}(hk:Ns P fn.results.toList xs=true)(hv:Ry env h xs=some v) :
  ∃ u,(results fn a.tmps).run P w=.ok u w/\R w (Live m h) m h v u:=by
 have hlen:=azE hk
 have hrun:∀{us:List Value},(fn.results.toList.mapM (alY a)).run P w=.ok us w ->
   (results fn a.tmps).run P w=.ok (if h:us.toArray.size=1 then us.toArray[0]else .tuple us.toArray) w:=by
  intro us hus;rw[aGB,Array.mapM_eq_mapM_toList];simp only[Sem.run_bind,Sem.run_map,hus,Result.andThen_ok,Sem.run_pure]
 unfold Ry at hv;split at hv
 ·rename_i r;have hall:Rh env h [r]=some [v]:=by simp[Rh,hv]
  obtain⟨us,h1,h2⟩:=asz (P:=P) hi he hk hall;simp only[RL]at h2;obtain⟨u,vw,rfl,h3,rfl⟩:=h2;exact⟨u,by have:=hrun h1;simpa using this,h3⟩
 ·rename_i hne;simp only[mE]at hv;obtain⟨vs,hv,rfl⟩:=hv;obtain⟨us,h1,h2⟩:=asz (P:=P) hi he hk hv;have hl1:=(RA _ _ h2).1
  have hl2:vs.length=xs.length:=by
   have:∀{xs:List LY} {vs:List AV},Rh env h xs=some vs->vs.length=xs.length:=by
    intro xs
    induction xs with
    |nil=>intro vs hv;simp[Rh]at hv;subst hv;rfl
    |cons x xs ih =>
     intro vs hv;simp only[Rh,bE,mE]at hv;obtain⟨_,_,vs',hv,rfl⟩:=hv;simp[ih hv]
   exact this hv
  have hn1:us.toArray.size≠1:=by
   intro h1';rw[List.size_toArray]at h1'
   match xs,hne,hl2 with
   |[],_,hl2=>rw[Ma]at hl2;omega
   |[r],hne,_=>exact hne r rfl
   |a::b::r,_,hl2=>rw[List.length_cons,List.length_cons]at hl2;omega
  refine⟨.tuple us.toArray, ?_,by simp only[R];exact⟨us,rfl,h2⟩⟩
  have:=hrun h1;rw[dif_neg hn1]at this;exact this
theorem Inv.toX{w:World}{m:Map}{h:Heap}(hi:Inv w m h):Yt w (Live m h) m h:=⟨hi,fun _ h=>h,hi.blk,hi.aV⟩
theorem aGF{w:World}{m:Map}{h:Heap}(hi:Inv w m h)(ns:Nat) :
  Inv w (m++List.replicate ns 0) (h++List.replicate ns (0,aU.dead))/\Nl w m h w (m++List.replicate ns 0) (h++List.replicate ns (0,aU.dead))/\(∀ b,Live (m++List.replicate ns 0) (h++List.replicate ns (0,aU.dead)) b↔Live m h b):=by
 have hold:∀{id:Nat},id<h.length->(h++List.replicate ns (0,aU.dead))[id]?=h[id]?/\(m++List.replicate ns 0)[id]?=m[id]?:=fun hid =>
  ⟨zy hid,zy (by rw[hi.len];exact hid)⟩
 have alZ:∀{id v:Nat} {blk:aU},(h++List.replicate ns (0,aU.dead))[id]?=some (v,blk)->blk≠.dead->id<h.length:=by
  intro id v blk hk hd;rcases Fz id h.length with h1|h1
  ·exact h1
  ·rw[Fx h1,List.getElem?_replicate]at hk;split at hk
   ·cases hk;exact absurd rfl hd
   ·cases hk
 have ab8:Nl w m h w (m++List.replicate ns 0) (h++List.replicate ns (0,aU.dead)):=by
  intro id v blk hk;have hlt:=(kS.mp hk).1;refine⟨v,blk,(hold hlt).1.trans hk,iJ _,fun _=>?_⟩
  cases blk with
  |dead=>exact .inl rfl
  |box cs=>exact .inr (.inl ⟨cs,cs,rfl,rfl,(hold hlt).2⟩)
  |aV d st=>exact .inr (.inr (.inl ⟨d,st,d,st,rfl,rfl,(hold hlt).2,rfl,fun l e=>⟨e,fun _ _=>rfl⟩⟩))
  |arr z es=>exact .inr (.inr (.inr ⟨z,es,es,rfl,rfl,iJ _,fun _=>⟨(hold hlt).2,fun _ _=>iJ _⟩⟩))
 have hlive:∀ b,Live (m++List.replicate ns 0) (h++List.replicate ns (0,aU.dead)) b↔Live m h b:=by
  intro b;constructor
  ·rintro⟨id,v,blk,h1,h2,h3⟩;have hlt:=alZ h1 h2;rw[(hold hlt).1]at h1;rw[(hold hlt).2]at h3;exact⟨id,v,blk,h1,h2,h3⟩
  ·rintro⟨id,v,blk,h1,h2,h3⟩;have hlt:=(kS.mp h1).1;exact⟨id,v,blk,(hold hlt).1.trans h1,h2,(hold hlt).2.trans h3⟩
 have hk:Keep w (Live m h) w (Live (m++List.replicate ns 0) (h++List.replicate ns (0,aU.dead))):=Keep.weaken fun b hb=>(hlive b).mp hb;refine⟨⟨by simp[hi.len],fun id v blk h1 h2=>?_,fun id v d st h1=>?_,fun id id' v v' blk qN b h1 h2 h3 h1' h2' h3'=>?_,hi.CX.keep hk⟩,ab8,hlive⟩
 ·have hlt:=alZ h1 (aU.ajP h2);rw[(hold hlt).1]at h1;obtain⟨b,c,ty,e1,e2,e3⟩:=hi.blk id v blk h1 h2;exact⟨b,c,ty,(hold hlt).2.trans e1,e2,e3.ids ab8 hk⟩
 ·have hlt:=alZ h1 (by simp)
  rw[(hold hlt).1]at h1;obtain⟨b,o,e1,e2,e3⟩:=hi.aV id v d st h1;exact⟨b,o,(hold hlt).2.trans e1,e2,e3.ids ab8 hk (by simp)⟩
 ·have hlt:=alZ h1 h2;have hlt':=alZ h1' h2';rw[(hold hlt).1]at h1;rw[(hold hlt).2]at h3;rw[(hold hlt').1]at h1';rw[(hold hlt').2]at h3';exact hi.inj id id' v v' blk qN b h1 h2 h3 h1' h2' h3'
theorem Dj.low{w:World}{X:Nat->Prop}{m m2:Map}{h h2:Heap}{base:Nat}(hs:∀ id,id<base->h2[id]?=h[id]?/\m2[id]?=m[id]?){B:List Nat}{v:AV}{u:Value}(hl:low base v)(hg:Dj w X m2 h2 B v u):Dj w X m h B v u:=by
 unfold Dj at hg⊢;split
 ·exact hg
 ·rename_i hne;split at hg
  ·exact absurd rfl (hne _ _)
  ·exact⟨hg.1,an8 hs _ _ hl hg.2⟩
theorem xU.low{w:World}{X:Nat->Prop}{m m2:Map}{h h2:Heap}{base:Nat}(hs:∀ id,id<base->h2[id]?=h[id]?/\m2[id]?=m[id]?):∀{B:List Nat} {cs:List AV} {us:List Value},Dk base cs->xU w X m2 h2 B cs us->xU w X m h B cs us
 |B,[],us,_,hg=>hg
 |B,c::cs,us,hl,hg=>by
  simp only[xU]at hg⊢;simp only[Dk]at hl;obtain⟨B1,B2,u,vw,rfl,rfl,g1,g2⟩:=hg;exact⟨B1,B2,u,vw,rfl,rfl,g1.low hs hl.1,xU.low hs hl.2 g2⟩
theorem Dj.less{w:World}{X X':Nat->Prop}(hx:∀ b,X' b->X b){m:Map}{h:Heap}{B:List Nat}{v:AV}{u:Value}(hg:Dj w X m h B v u):Dj w X' m h B v u:=by
 unfold Dj at hg⊢;split
 ·rcases hg with h|⟨hn,b,e,cap,c,ty,e1,e2,e3,e4,e5,e6⟩
  ·exact .inl h
  ·exact .inr ⟨hn,b,e,cap,c,ty,e1,e2,e3,e4,e5,e6.keep (Keep.weaken hx)⟩
 ·rename_i hne;split at hg
  ·exact absurd rfl (hne _ _)
  ·exact⟨hg.1,R.less hx _ _ hg.2⟩
theorem xU.less{w:World}{X X':Nat->Prop}(hx:∀ b,X' b->X b){m:Map}{h:Heap}:∀{B:List Nat} {cs:List AV} {us:List Value},xU w X m h B cs us->xU w X' m h B cs us
 |B,[],us,hg=>hg
 |B,c::cs,us,hg=>by
  simp only[xU]at hg⊢;obtain⟨B1,B2,u,vw,rfl,rfl,g1,g2⟩:=hg;exact⟨B1,B2,u,vw,rfl,rfl,g1.less hx,xU.less hx g2⟩
theorem aGG{base:Nat}{v:AV}{h h':Heap}{cs:List AV}(hne:∀ cs,v=.tuple cs->False)(hg:give base v h=some (.tuple cs,h')):False:=by
 have plain:∀{keep:Bool},gI base keep v h=some (.tuple cs,h')->False:=by
  intro keep hf
  cases v with
  |tuple cs=>exact hne _ rfl
  |ref id ak z off len fill =>
   simp only[gI]at hf;split at hf
   ·simp only[mE,bf]at hf;obtain⟨_,_,h,_⟩:=hf;cases h
   ·split at hf
    ·simp at hf
    ·cases hf
  |agg cs=>simp only[gI,mE,bf]at hf;obtain⟨_,_,h,_⟩:=hf;cases h
  |fn f cs=>simp only[gI,mE,bf]at hf;obtain⟨_,_,h,_⟩:=hf;cases h
  |rM t x=>simp only[gI,mE,bf]at hf;obtain⟨_,_,h,_⟩:=hf;cases h
  |_=>simp[gI]at hf
 unfold give at hg;split at hg
 ·simp at hg
 ·split at hg
  ·simp only[mE,bf]at hg;obtain⟨_,_,h,_⟩:=hg;cases h
  ·exact plain hg
 ·exact plain hg
theorem aGH{w:World}{m:Map}{h:Heap}{base:Nat}{v r:AV}{u:Value}(hi:Inv w m h)(hr:R w (Live m h) m h v u)(hg:tJ base v h=some r) :
  ∃ X' B h',Let base w (Live m h) m h X' h'/\RD w X' m h' B r u/\B.Nodup/\(∀ b∈B,X' b/\∃ id ak blk,base<=id/\h[id]?=some (ak,blk)/\blk≠aU.dead/\m[id]?=some b)/\low base r:=by
 unfold tJ at hg;split at hg
 ·rename_i cs;simp only[mE]at hg;obtain⟨⟨cs',h'⟩,hg,rfl⟩:=hg;simp only[R]at hr;obtain⟨us,rfl,hl⟩:=hr;obtain⟨X',B,l,g,n,q,lw⟩:=azh cs h _ us cs' h' hi.toX hl hg;exact⟨X',B,h',l,⟨us,rfl,g⟩,n,fun b hb=>⟨(q b hb).1,(q b hb).2.2⟩,by simpa only[low]using lw⟩
 ·rename_i hne;simp only[mE]at hg;obtain⟨⟨r',h'⟩,hg,rfl⟩:=hg;obtain⟨X',B,l,g,n,q,lw⟩:=azg hi.toX hr hg;refine⟨X',B,h',l, ?_, ?_,fun b hb=>⟨(q b hb).1,(q b hb).2.2⟩,lw⟩
  ·unfold RD;split
   ·rename_i heq;simp only at heq;subst heq;exact(aGG hne hg).elim
   ·exact g
  ·match B,n with
   |[],_=>exact List.nodup_nil
   |[_],_=>simp
structure Turned(Ds:List Nat)(w w2:World):Prop where
 os:w2.os=w.os
 tape:w2.tape=w.tape
 output:w2.output=w.output
 size:w2.heap.size=w.heap.size
 same:∀ b,b∉Ds->w2.heap[b]?=w.heap[b]?
 cell:∀ a:Addr,w2.cell? a=w.cell? a
 bsize:∀ b,bsize w2 b=bsize w b
theorem Turned.refl(w:World):Turned [] w w:=⟨rfl,rfl,rfl,rfl,fun _ _=>rfl,fun _=>rfl,fun _=>rfl⟩
theorem Turned.cons{D:Nat}{Ds:List Nat}{w w2:World}(hd:w.heap[D]?=some (.deferred (some [])))(ht:Turned Ds (w.putObj D (.deferred none)) w2):Turned (D::Ds) w w2:=by
 have hlt:=(aiS.mp hd).1;have hput:(w.putObj D (.deferred none)).heap[D]?=some (.deferred none):=by rw[alQ,if_pos rfl,if_pos hlt]
 have hne:∀ b,b≠D->(w.putObj D (.deferred none)).heap[b]?=w.heap[b]?:=fun b hb=>by rw[alQ,if_neg hb]
 refine⟨ht.os,ht.tape,ht.output,ht.size.trans (by simp[World.putObj]),fun b hb=>?_,fun a=>(ht.cell a).trans ?_,fun b=>(ht.bsize b).trans ?_⟩
 ·simp only[A9,not_or]at hb;exact(ht.same b hb.2).trans (hne b hb.1)
 ·by_cases ha:a.block=D
  ·unfold World.cell?;rw[ha,hput,hd]
  ·exact World.cell?_of_block (hne _ ha)
 ·by_cases ha:b=D
  ·subst ha;simp[VI.bsize,hput,hd]
  ·simp[VI.bsize,hne b ha]
theorem Turned.keep{Ds:List Nat}{w w2:World}(ht:Turned Ds w w2)(X:Nat->Prop):Keep w X w2 X:=⟨Nat.le_of_eq ht.size.symm,fun _ _=>ht.cell _,fun _ h=>.inl h⟩
theorem Turned.ids{Ds:List Nat}{w w2:World}(ht:Turned Ds w w2)(m:Map)(h:Heap):Nl w m h w2 m h:=by
 intro id v blk hk;refine⟨v,blk,hk,iJ _,fun _=>?_⟩
 cases blk with
 |dead=>exact .inl rfl
 |box cs=>exact .inr (.inl ⟨cs,cs,rfl,rfl,rfl⟩)
 |aV d st=>exact .inr (.inr (.inl ⟨d,st,d,st,rfl,rfl,rfl,rfl,fun l e=>⟨e,fun b _=>ht.bsize b⟩⟩))
 |arr z es=>exact .inr (.inr (.inr ⟨z,es,es,rfl,rfl,iJ _,fun _=>⟨rfl,fun b _=>Nat.le_of_eq (ht.bsize b).symm⟩⟩))
theorem Turned.inv{Ds:List Nat}{w w2:World}{m:Map}{h:Heap}(ht:Turned Ds w w2)(hi:Inv w m h)(hl:∀ D∈Ds,¬ Live m h D):Inv w2 m h where
 len:=hi.len
 blk:=fun id v blk h1 h2=>by
  obtain⟨b,c,ty,e1,e2,e3⟩:=hi.blk id v blk h1 h2;exact⟨b,c,ty,e1,(ht.same b fun hb=>hl b hb ⟨id,v,blk,h1,aU.ajP h2,e1⟩).trans e2,e3.ids (ht.ids m h) (ht.keep _)⟩
 aV:=fun id v d st h1=>by
  obtain⟨b,o,e1,e2,e3⟩:=hi.aV id v d st h1;exact⟨b,o,e1,(ht.same b fun hb=>hl b hb ⟨id,v,_,h1,by simp,e1⟩).trans e2,e3.ids (ht.ids m h) (ht.keep _) (iJ _)⟩
 inj:=hi.inj
 CX:=hi.CX.keep (ht.keep _)
theorem azF{F:Fence}{fn:Func}{tmps:Array Value}{Rr:Ending->World->Prop}:∀(Ds:List Nat) (w:World),Ds.Nodup->(∀ D∈Ds,w.heap[D]?=some (.deferred (some []))) ->
  (∀ w2,Turned Ds w w2->∃ v,(results fn tmps).run P w2=.ok v w2/\Rr (.returned v) w2)->LeavesInM F 0 P fn tmps Rr (Ds.map fun D=>{ target:=.collected D,args:=#[] }) .returning w
 |[],w,_,_,hk=>by
  simp only[List.map_nil,LeavesInM,LeavesIn]
  exact hk w (Turned.refl w)
 |D::Ds,w,hn,hd,hk=>by
  simp only[List.map_cons,LeavesInM];rw[List.nodup_cons]at hn;refine⟨by simp,.inl ⟨D,_,rfl,run_takeDeferred (hd D (by simp)),azF Ds _ hn.2 (fun D' hD'=>?_) fun w2 ht=>hk w2 (Turned.cons (hd D (by simp)) ht)⟩⟩
  rw[alQ,if_neg (fun(h:D'=D)=>hn.1 (by rw[<-h];exact hD'))]
  exact hd D' (by simp[hD'])
mutual
theorem R.low{w:World}{X:Nat->Prop}{m:Map}{h:Heap}:∀(a:AV) (u:Value),R w X m h a u->VI.low h.length a
 |.agg cs,u,hr=>by
  simp only[R]at hr;obtain⟨vs,_,_,h2⟩:=hr;simp only[VI.low]
  exact RL.low cs vs h2
 |.tuple cs,u,hr|.fn _ cs,u,hr=>by
  simp only[R]at hr;obtain⟨vs,_,h2⟩:=hr;simp only[VI.low]
  exact RL.low cs vs h2
 |.rM _ v,u,hr=>by
  simp only[R]at hr;obtain⟨vs,_,h2⟩:=hr;simp only[VI.low]
  exact R.low v vs h2
 |.ref id ..,u,hr=>by
  simp only[R]at hr;obtain⟨a,cap,_,_,_,v0,blk,h3,_⟩:=hr;simp only[VI.low]
  exact(kS.mp h3).1
 |.bq id ..,u,hr=>by
  simp only[R]at hr;obtain⟨a,_,v0,blk,h3,_⟩:=hr;simp only[VI.low]
  exact(kS.mp h3).1
 |.lF id ..,u,hr=>by
  simp only[R]at hr;obtain⟨k,a,_,v0,blk,h3,_⟩:=hr;simp only[VI.low]
  exact(kS.mp h3).1
 |.nS v i off,u,hr=>by
  simp only[VI.low]
  cases v with
  |eY z es|fT z es=>simp[VI.low]
  |ref id ak z o len fill =>
   simp only[R]at hr;obtain⟨a,_,v0,blk,h3,_⟩:=hr;simp only[VI.low]
   exact(kS.mp h3).1
  |_=>simp[R]at hr
 |.undef,_,_|.bool _,_,_|.int _ _,_,_|.str _,_,_|.yX,_,_|.zB,_,_|.bO,_,_|.eY _ _,_,_|.fT _ _,_,_|.own _ _,_,_|.nilPtr,_,_|.iE _,_,_=>by simp[VI.low]
theorem RL.low{w:World}{X:Nat->Prop}{m:Map}{h:Heap}:∀(cs:List AV) (us:List Value),RL w X m h cs us->Dk h.length cs
 |[],_,_=>by simp[Dk]
 |c::cs,us,hr=>by
  simp only[RL]at hr;obtain⟨u,vw,_,h1,h2⟩:=hr;simp only[Dk];exact⟨R.low c u h1,RL.low cs vw h2⟩
end
theorem Inv.azG{w:World}{m:Map}{h:Heap}(hi:Inv w m h):Kb h.length h:=by
 intro id v;refine⟨fun cs _ hk=>?_,fun d st hk=>⟨fun _=>?_,fun hge=>?_⟩⟩
 ·obtain⟨b,c,ty,_,_,e3⟩:=hi.blk id v _ hk rfl;exact RL.low _ _ e3.2
 ·obtain⟨b,o,_,_,h0⟩:=hi.aV id v d st hk;rcases h0.cases with⟨sd,rfl,h1,h2,h3⟩|⟨_,r,_,_,_,h4,_,h6⟩
  ·refine⟨h1,fun t=>?_⟩;rw[h2];have ka:∀{id ak k l:Nat},KAt m h id ak k l->id<h.length:=fun⟨_,_,q,_⟩=>(kS.mp q).1
   cases sd with
   |map=>simp[SD.env,Env.get,VI.low]
   |buf=>simp[SD.env,Env.get,VI.low]
   |nV me ak lk =>
    obtain⟨_,_,_,_,_,h4,h5⟩:=h3;have:=ka h4
    cases lk with
    |none =>
     simp only[SD.env,Env.get];split
     ·simpa only[VI.low]using this
     ·simp[VI.low]
    |some p =>
     obtain⟨a,b⟩:=p;obtain⟨g,n,cap,_,v0,blk,q,_⟩:=h5;have:=(kS.mp q).1;simp only[SD.env,Env.get];split
     ·simp only[VI.low];omega
     ·split
      ·simp only[VI.low];omega
      ·simp[VI.low]
  ·exact⟨h4,fun t=>R.low _ _ (h6 t)⟩
 ·have:=(kS.mp hk).1;omega
end
end Go.VI
