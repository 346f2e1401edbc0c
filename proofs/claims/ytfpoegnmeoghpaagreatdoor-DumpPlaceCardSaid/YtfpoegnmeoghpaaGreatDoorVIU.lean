/- Rounds of loops over functions; the end theorem. -/
import Derived.Test.YtfpoegnmeoghpaaGreatDoorVIV
set_option linter.unusedVariables false
set_option linter.unusedSimpArgs false
namespace Go.VI
set_option linter.unusedSectionVars false
section
variable [kH][Rounds]{P:Program}{eB:Nat->Bool}{qR:Nat->Option DU}{call:Callee}
theorem az3{w:World}{X:Nat->Prop}{m:Map}{h:Heap}:∀(ps:List Nat) (args:List AV) (vs:List Value) (env:Env) (tmps:Array Value),ps.length=args.length->RL w X m h args vs->(∀ p∈ps,p<tmps.size)->(∀ t,R w X m h (env.get t) (tmps.getD t undef)) ->
  ∀ t,R w X m h (((ps.zip args).foldl (fun e p=>e.set p.1 p.2) env).get t) (((ps.zip vs).foldl (fun tmps (p:Nat×Value)=>tmps.setIfInBounds p.1 p.2) tmps).getD t undef)
 |[],args,vs,env,tmps,_,_,_,he=>by simpa using he
 |p::ps,[],vs,env,tmps,hl,_,_,_=>by simp at hl
 |p::ps,a::args,vs,env,tmps,hl,hr,hp,he=>by
  simp only[RL]at hr;obtain⟨u,us,rfl,h1,h2⟩:=hr;simp only[List.zip_cons_cons,List.foldl_cons];refine az3 ps args us _ _ (by simpa using hl) h2 (fun q hq=>by simpa using hp q (by simp[hq])) fun t=>?_
  rw[Env.ayw];have hlt:=hp p (by simp)
  split
  ·rename_i heq;subst heq;have:(tmps.setIfInBounds p u).getD p undef=u:=by simp[hlt]
   rw[this];exact h1
  ·rename_i hne;have:(tmps.setIfInBounds p u).getD t undef=tmps.getD t undef:=by simp[Array.getElem?_setIfInBounds_ne hne]
   rw[this];exact he t
theorem az4:∀(l:List (Nat×Value)) (tmps:Array Value),(l.foldl (fun tmps (p:Nat×Value)=>tmps.setIfInBounds p.1 p.2) tmps).size=tmps.size
 |[],_=>rfl
 |_::l,tmps=>by rw[List.foldl_cons,az4 l];simp
theorem az5(r:Loop)(vs:List Value):abu r vs=(r.params.toList.zip vs).foldl (fun tmps (p:Nat×Value)=>tmps.setIfInBounds p.1 p.2) r.tmps:=by
 unfold abu;rw[<-Array.foldl_toList,Array.toList_zip]
theorem aG2{n:Nat}(hc:Rk P eB call)(hrd:aj9 P eB qR)(hm:P.follows .mixedOrders=true){d:kP}{x:DU}(hx0:qR d.g=some x){id ak:Nat}{args:List AV}{h:Heap}{e:Ex}{h':Heap}(hx:round x (fun cx=>exec call cx n) d id ak args h=some (e,h'))
  {w:World} {m:Map} {l:Nat} {r:Loop} {vs:List Value} (hi:Inv w m h) (hid:h[id]?=some (ak,.aV d .ready)) (hlo:d.lo<=id) (hml:m[id]?=some l) (hlp:w.heap[l]?=some (.loop r)) (hro:JJ w (Live m h) m h (.loop r) d .ready) (hl:RL w (Live m h) m h args vs) :
  r.params.size=vs.length/\RoundIn (F8 none) 0 P l r.fn (abu r vs) r.assign r.body w fun e' w'=>∃ m',e'=.returned (.bool (e==.norm))/\Step d.lo w m h w' m' h'/\Inv w' m' h':=by
 obtain⟨r',hr',hst,az6,az7,hok,aG3⟩:=hro;cases hr';have hok2:=hrd.iff.mp hok;unfold aoa at hok2;rw[hx0]at hok2;simp only[fw,beq_iff_eq,Gq,decide_eq_true_eq]at hok2;obtain⟨⟨⟨ok1,ok2⟩,ok3⟩,ok4⟩:=hok2;unfold round at hx;split at hx
 ·rename_i hal;obtain⟨⟨e1,I7,h1⟩,g1,g2⟩:=bE.mp hx;clear hx;dsimp only at g1 g2;have hvl:=(RA _ _ hl).1
  have hps:r.params.size=vs.length:=by
   have:x.ps.length=r.params.size:=by rw[ok1];simp
   omega
  refine⟨hps, ?_⟩;split at g2
  ·rename_i he1;subst he1;split at g2
   ·rename_i v1 d1 aci;split at g2
    ·rename_i hv1;subst hv1;obtain⟨⟨e2,zk,h3⟩,g3,g4⟩:=bE.mp g2;clear g2;dsimp only at g3 g4;split at g4
     ·rename_i v2 d2 zl;split at g4
      ·rename_i hv2;subst hv2;simp only[dz,bf]at g4;obtain⟨rfl,rfl⟩:=g4;have hy0:Zw m h id v2 l:=⟨v2,_,hid,iJ _,fun _ _ _ _=>hml⟩
       have hf0:Fr ⟨r.tmps.size,0,some l,some (id,v2)⟩ w m h ((x.ps.zip args).foldl (fun e p=>e.set p.1 p.2) d.env) { tmps:=abu r vs,defers:=[] }:=by
        refine⟨⟨fun t=>?_,hi.CX⟩, ?_,⟨[],rfl,List.nodup_nil,fun D hD=>by simp at hD⟩,hy0,Nat.zero_le _⟩
        ·show R w _ m h _ ((abu r vs).getD t undef)
         rw[az5,ok1];exact az3 _ _ _ _ _ (by rw[<-ok1];omega) hl (fun p hp=>ok2 p hp) aG3 t
        ·show (abu r vs).size=_
         rw[az5,az4]
       have aG7:=asn hc hrd hm (N:=⟨r.tmps.size,0,some l,some (id,v2)⟩) (cx:={ lo:=d.lo,base:=d.base,ns:=d.ns,Df:=some (id,v2) }) az6 rfl n x.xQ r.assign ok3 hi hf0 az7 g1;refine roundIn_of_wpIn (F:=F8 none) trivial (wpIn_mono aG7 ?_);rintro e' a1 w1 ⟨rfl,m1,s1,i1,f1⟩
       show ∃ w2,(Instr.beginRound l).run P w1=.ok () w2/\_
       -- the record is ready
       obtain⟨v3,aGn,q1,q2,q3⟩:=Zw.step s1.ids hy0;rw[aci]at q1;cases q1;have az8:=q3 rfl d1 .ready rfl;obtain⟨b,o,p1,p2,p3⟩:=i1.aV id _ d1 .ready aci;rw[az8]at p1;cases p1;obtain⟨r1,rfl,aG8,t1,t2,t3,t4⟩:=p3;obtain⟨_,hput⟩:=asj i1 aci az8 (.loop { r1 with state:=.busy }) (lo:=d.lo) hlo
       obtain⟨s2,i2⟩:=hput .busy rfl rfl ⟨_,rfl,rfl,t1,t2,t3,t4⟩;refine⟨_,run_beginRound p2 aG8.1, ?_⟩;have hbody:=asn hc hrd hm (N:=⟨r.tmps.size,0,some l,some (id,v2)⟩) (cx:={ lo:=d.lo,base:=d.base,ns:=d.ns,Df:=some (id,v2) }) az6 rfl n x.body r.body ok4 i2 (f1.step s2) (by rw[s2.len,s1.len];exact az7) g3
       refine wpIn_mono hbody ?_;rintro e' a3 w3 ⟨rfl,m3,s3,i3,f3⟩;obtain⟨v4,aOA,q4,q5,q6⟩:=Zw.step (s2.trans s3).ids (Zw.step s1.ids hy0);rw[zl]at q4;cases q4;have az9:=q6 rfl d2 .busy rfl;obtain⟨b3,o3,z1,z2,z3⟩:=i3.aV id _ d2 .busy zl;rw[az9]at z1;cases z1;obtain⟨r3,rfl,aOB,y1,y2,y3,y4⟩:=z3
       have fin:∀(jump:Option Code) (st:RS),st.is { r3 with state:=if jump.isNone then .ready else .done,pending:=jump }->st=(if e2=.norm then RS.ready else RS.done e2)->jump.isNone=(e2==.norm) ->
         ∃ v w',(Instr.endRound l jump).run P w3=.ok v w'/\∃ m',Ending.returned v=.returned (.bool (e2==.norm))/\Step d.lo w m h w' m' (h3.set id (v2,.aV d2 (if e2=.norm then .ready else .done e2)))/\Inv w' m' (h3.set id (v2,.aV d2 (if e2=.norm then .ready else .done e2))):=by
        intro jump st aG9 az' hj;obtain⟨_,aG'⟩:=asj i3 zl az9 (.loop { r3 with state:=if jump.isNone then .ready else .done,pending:=jump }) (lo:=d.lo) hlo
        obtain⟨s4,i4⟩:=aG' st rfl (by rw[az'];split<;>rfl) (JJ.mk aG9 y1 y2 y3 y4)
        rw[<-az'];refine⟨_,_,run_endRound jump z2,m3,by rw[hj],((s1.trans s2).trans s3).trans s4,i4⟩
       cases e2 with
       |norm=>exact fin none .ready ⟨rfl,rfl⟩ rfl rfl
       |exit i =>
        by_cases hi:i<1000
        ·have hj:ajQ i=.exit i:=if_pos hi;rw[ac4 hi];exact fin (some (.exit i)) (.done (.exit i)) ⟨rfl,by rw[hj]⟩ rfl rfl
        ·have hj:ajQ i=.goto (i-1000):=if_neg hi;rw[ac5 hi]
         exact fin (some (.goto (i-1000))) (.done (.exit i)) ⟨rfl,by rw[hj]⟩ rfl rfl
       |ret=>exact fin (some .ret) (.done .ret) ⟨rfl,rfl⟩ rfl rfl
      ·cases g4
     ·cases g4
    ·cases g2
   ·cases g2
  ·cases g2
 ·cases hx
def aAa(P:Program)(IW:Nat->List AV->Heap->Option AV):Prop :=
 ∀(f:Nat) (args:List AV) (h:Heap) (r:AV),IW f args h=some r->Enters P f/\∀(w:World) (m:Map) (vs:List Value),Inv w m h->RL w (Live m h) m h args vs ->
  Calls P f vs.toArray w fun e w'=>∃ u,e=.returned u/\RowKit.Below w.heap.size w w'/\ZE w w' m h r u
structure Tab(P:Program)(eB:Nat->Bool)(L:Lib):Prop where
 mixed:P.follows .mixedOrders=true
 fn:∀ f x,L.FJ f=some x->ai2 P eB L.qR f x=true
 IW:aAa P L.IW
 ext:∀ f args h r,L.IW f args h=some r->∀ i v b,h[i]?=some (v,aU.dead)->L.IW f args (h.set i b)=some r
 none:∀ f args h,L.IW f args h=none->∀ i v b,h[i]?=some (v,aU.dead)->(L.FJ f).isSome=true->L.IW f args (h.set i b)=none
 wr:∀ f,kH.ald f=true->alB P f
 bs:∀ f,kH.ale f=true->alC P f
theorem Tab.aAb{L:Lib}(ht:Tab P eB L)(n:Nat):Qy eB (ex L n):=by
 have hst:∀ f x,L.FJ f=some x->eB (f+5000)=true->x.code.still eB=true:=fun f x hf hc=>by
  have hk:=ht.fn f x hf;unfold ai2 at hk;split at hk
  ·simp only[fw]at hk;have:=hk.1.1.2.2;rw[hc]at this;simpa using this
  ·cases hk
 refine azT (fun f x hf hc=>?_) hst ht.ext ht.none n;have hk:=ht.fn f x hf;unfold ai2 at hk;split at hk
 ·simp only[fw]at hk;have:=hk.1.1.2.1;rw[hc]at this;simpa using this
 ·cases hk
theorem aAc{L:Lib}(hrd:aj9 P eB L.qR)(ht:Tab P eB L):∀ n,Rk P eB (ex L n)
 |0=>⟨fun{f args h lo r h'} hx=>by simp[ex]at hx,fun{f args h lo r h'} _ hx=>by simp[ex]at hx,fun{d id ak args h e h'} hx=>by simp[ex]at hx,ht.aAb 0,ht.wr,ht.bs⟩
 |n+1=>by
  have ih:=aAc hrd ht n;refine⟨fun{f args h lo r h'} hx=>?_,fun{f args h lo r h'} aj6 hx=>?_,fun{d id ak args h e h'} hx {w m l r vs} hi hid hlo hml hlp hro hl=>?_,ht.aAb (n+1),ht.wr,ht.bs⟩
  ·simp only[ex]at hx;split at hx
   ·rename_i q hq;simp only[dz,bf]at hx;obtain⟨rfl,rfl⟩:=hx;obtain⟨h1,h2⟩:=ht.IW f args h q hq;refine⟨h1,fun w m vs hi hl _=>(h2 w m vs hi hl).mono ?_⟩;rintro e w' ⟨u,rfl,hb,hr⟩;exact⟨u,m,rfl,abq hi hb,ab3 hi hb,hr⟩
   ·obtain⟨x,hf,hx⟩:=bE.mp hx;obtain⟨_,h1,h2⟩:=az2 ih (asy L n) hrd ht.mixed (ht.fn f x hf) hx;exact⟨h1,h2⟩
  ·simp only[ex]at hx;split at hx
   ·simp only[dz,bf]at hx;exact hx.2.symm
   ·obtain⟨x,hf,hx⟩:=bE.mp hx;exact(az2 ih (asy L n) hrd ht.mixed (ht.fn f x hf) hx).1 aj6
  ·simp only[ex]at hx;obtain⟨x,hf,hx⟩:=bE.mp hx;exact aG2 ih hrd ht.mixed hf hx hi hid hlo hml hlp hro hl
end
@[reducible] def aoj(P:Program)(eB:Nat->Bool)(qR:Nat->Option DU)(G:kH):Rounds :=
 letI:kH:=G
 ⟨fun g N ps a b=>aoa P eB qR N g ps a b=true⟩
theorem aHa{P:Program}{eB:Nat->Bool}{L:Lib}{G:kH}(ht:@Tab G (aoj P eB L.qR G) P eB L){f:Nat}{args:List AV}{b:Bool}{h':Heap}(hx:(run L).fn f args [] 0=some (.bool b,h')){w:World}(hg:@Y2 G w (fun _=>False)){vs:List Value}(hl:o9 w (fun _=>False) args vs) :
  Calls P f vs.toArray w fun e w'=>e=.returned (.bool b)/\RowKit.Below w.heap.size w w':=by
 letI:kH:=G
 letI:Rounds:=aoj P eB L.qR G
 obtain⟨n,hn⟩:=(I5 L).mp hx;have hc:=aAc (P:=P) (eB:=eB) (L:=L) ⟨Iff.rfl⟩ ht n;have hlive:∀ b,¬ Live [] [] b:=by rintro b ⟨id,v,blk,h,_⟩;simp at h
 have hi:Inv w [] []:=az1 hg;have hl':RL w (Live [] []) [] [] args vs:=RL.acO _ _ (o9.keep (Keep.weaken fun b hb=>absurd hb (hlive b)) _ _ hl);refine((hc.does hn).2 w [] vs hi hl' (iJ _)).mono ?_;rintro e w' ⟨u,m',rfl,s1,i1,r1⟩;have hr:=r1.weak;simp only[weak,yY,abr]at hr;subst hr;exact⟨rfl,s1.os,s1.tape,s1.output,s1.keep.size,fun q hq=>s1.old q hq (hlive q)⟩
end Go.VI
