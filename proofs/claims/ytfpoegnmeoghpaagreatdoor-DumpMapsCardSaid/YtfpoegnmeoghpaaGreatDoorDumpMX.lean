/- What the functions on integers compute, part MX. -/
import Derived.Test.YtfpoegnmeoghpaaGreatDoorDumpMV
import Derived.Test.YtfpoegnmeoghpaaGreatDoorDumpMA
import Derived.Test.YtfpoegnmeoghpaaGreatDoorDumpMW
import Derived.Test.YtfpoegnmeoghpaaGreatDoorDumpMB
set_option linter.unusedVariables false
set_option linter.unusedSimpArgs false
namespace Go.VI.Dump
open Go.VI.Num
/- BIGSTEPS -/
section
variable {σ:Type}{H:σ->Heap}{nb lo id iv:Nat}{step:σ->KQ->KQ->σ×Bool}{Iv:Nat->σ->Prop}
theorem apQ{v:AV}{l:List KQ}(hl:l.length<=9223372036854775807)(hv:∀ st,Sl (H st) 4 v (dN l))(hI:∀ st k (hk:k+1<l.length),Iv k st->(step st l[k] l[k+1]).2=true->Iv (k+1) (step st l[k] l[k+1]).1)
  (hy:∀ st k (hk:k+1<l.length),Iv k st->iY (run lib) ⟨lo,nb,0,none⟩ id iv [eZ l[k],eZ l[k+1]] (H st)=some (.bool (step st l[k] l[k+1]).2,H (step st l[k] l[k+1]).1)):∀(d k:Nat) (st:σ),k+d=l.length->0<k->Iv (k-1) st ->
  ∃ e env,e≠Ex.exit 1/\(e=.exit 0\/e=.ret)/\aQ lib ⟨lo,nb,0,none⟩ (.loop Hw) ([(0,.dY id iv),(1,.bR [v]),(3,.int .i64 k)],H st)=some (e,(env,H (pgo step st (l.drop (k-1))))):=by
 intro d
 induction d with
 |zero =>
  intro k st hk h0 hi;have lv:=iB (hv st).len;rw[zb]at lv;refine⟨.exit 0,[],by simp,.inl rfl, ?_⟩
  rw[adX (by omega),bU]
  have c:¬ (k:Int)<l.length:=by omega
  simp(maxSteps:=30000000)(disch:=omega)only[go_sem,lv,c]
 |succ d ih =>
  intro k st hk h0 hi;obtain⟨j,rfl⟩:∃ j,k=j+1:=⟨k-1,by omega⟩
  have hk':j+1<l.length:=by omega
  have lv:=iB (hv st).len;rw[zb]at lv;have c:((j+1:Nat):Int)<l.length:=by omega
  have e3:iM 4 v (.int .i64 ((j+1:Nat):Int))=some (j+1):=by rw[kr (hv st) (by omega) (by simp;omega)];rfl
  have e4:=fun off=>jV (off:=off) (hv st).jW (show j+1<(dN l).length by simp;omega)
  have f3:iM 4 v (.int .i64 (((j+1:Nat):Int)-1))=some j:=by rw[kr (hv st) (by omega) (by simp;omega)];simp
  have f4:=fun off=>jV (off:=off) (hv st).jW (show j<(dN l).length by simp;omega)
  have hi:Iv j st:=hi;have y:=hy st j hk' hi;have i2:=hI st j hk' hi;rw[show j+1-1=j by omega,adW hk']
  simp only[FZ]at e4 f4
  cases hc:(step st l[j] l[j+1]).2 with
  |false =>
   rw[hc]at y;rw[if_neg (by simp)]
   simp only[eZ]at e4 f4 y;refine⟨.ret,[],by simp,.inr rfl, ?_⟩
   rw[bU]
   simp(maxSteps:=30000000)(disch:=omega)only[go_sem,lv,c,e3,e4,f3,f4,y,mW]
  |true =>
   rw[hc]at y;rw[if_pos rfl];obtain⟨e,env,g1,g2,g3⟩:=ih (j+1+1) _ (by omega) (by omega) (i2 hc)
   rw[show j+1+1-1=j+1 by omega,jo]at g3
   simp only[eZ]at e4 f4 y;refine⟨e,env,g1,g2, ?_⟩;rw[bU];simp(maxSteps:=30000000)(disch:=omega)only[go_sem,lv,c,e3,e4,f3,f4,y,mW,g3]
theorem aed{v:AV}{l:List KQ}(hl:l.length<=9223372036854775807)(hv:∀ st,Sl (H st) 4 v (dN l))(hlen:∀ st,(H st).length=nb)(hlo:lo<=nb)(hI:∀ st k (hk:k+1<l.length),Iv k st->(step st l[k] l[k+1]).2=true->Iv (k+1) (step st l[k] l[k+1]).1)
  (hy:∀ st k (hk:k+1<l.length),Iv k st->iY (run lib) ⟨lo,nb,0,none⟩ id iv [eZ l[k],eZ l[k+1]] (H st)=some (.bool (step st l[k] l[k+1]).2,H (step st l[k] l[k+1]).1)) (st:σ) (hi:Iv 0 st) :
  (run lib).fn 132 [.dY id iv,.bR [v]] (H st) lo=some (.tuple [],H (pgo step st l)):=by
 have ho:=oZ (L:=lib) (f:=132) (x:=zP) (args:=[.dY id iv,.bR [v]]) (h:=H st) (lo:=lo) rfl rfl rfl rfl (by rw[hlen];exact hlo)
 have hr:List.replicate zP.ns (0,au.dead)=[]:=rfl;have tk:∀ s,(H s).take (H st).length=H s:=fun s=>by rw[hlen st,<-hlen s,qj]
 rw[ho,hr,nI,hlen];rcases vg l.length with h0|h0
 ·have lv:=iB (hv st).len;rw[zb,h0]at lv;have hp:pgo step st l=st:=by rw[qg h0];rfl
  have e:aQ lib ⟨lo,nb,0,none⟩ (.loop Hw) ([(0,.dY id iv),(1,.bR [v]),(3,.int .i64 1)],H st)=some (.exit 0,([],H st)):=by
   rw[bU];simp(maxSteps:=30000000)(disch:=omega)only[go_sem,lv]
  rw[hp];simp(maxSteps:=30000000)(disch:=omega)only[go_sem,zP,e,tk]
 ·obtain⟨e,env,g1,g2,g3⟩:=apQ hl hv hI hy (l.length-1) 1 st (by omega) (by omega) hi
  have c1:((1:Nat):Int)=1:=rfl;rw[c1,Nat.sub_self,List.drop_zero]at g3;rcases g2 with rfl|rfl
  ·simp(maxSteps:=30000000)(disch:=omega)only[go_sem,zP,g3,tk]
  ·simp(maxSteps:=30000000)(disch:=omega)only[go_sem,zP,g3,tk]
end
def rts(l:List Rat):List AV:=l.map rt
@[simp] theorem apR (l:List Rat):(rts l).length=l.length:=by simp [rts]
theorem apS(l:List Rat)(q:Rat):rts (l++[q])=rts l++[.agg [.str (aH q.num),.str (aH (q.den:Int))]]:=by simp[rts,rt,bY]
structure PS where
 es:List Rat
 b1:Nat×au
 b2:Nat×au
def Jo(h:Heap)(v:AV):Env:=[(2,.aP),(3,.int .i64 0),(4,.aF (h.length+5) 1 0),(5,.aF (h.length+4) 1 0),(13,.fn 132 [.bR [v]])]
def Wt(h:Heap)(v:AV):dO:=⟨7,h.length,h.length,6,Jo h v⟩
def M4(h:Heap)(v:AV)(st:PS):Heap:=h++[(1,.ax (Wt h v) .ready),st.b1,st.b2,bX (0,.dead) 2 (rts st.es),(1,.box [cu (h.length+3) (0,.dead) 2 (rts st.es)]),(1,.box [.bool false])]
def Eu(a b:KQ):Rat:=(b.2-a.2)/(b.1-a.1)
theorem QZ{a b:KQ}{q:Rat}(h:rU a b=some q):q=Eu a b/\gV q:=by
 obtain⟨y,hy,h⟩:=Option.bind_eq_some_iff.mp h;obtain⟨x,hx,h⟩:=Option.bind_eq_some_iff.mp h;obtain⟨⟨rfl,_⟩,hf⟩:=ao' h;rw[(BA hy).1,(BA hx).1];rw[(BA hy).1,(BA hx).1]at hf;exact⟨rfl,hf⟩
def BH(st:PS)(a b:KQ):PS×Bool:=(⟨st.es++[Eu a b],(st.b1.1+1,.box (ic b)),(st.b2.1+1,.box (ic a))⟩,true)
theorem apT{h:Heap}{v:AV}(st:PS){a b:KQ}(ha:o8 a)(hb:o8 b)(hs:(rU a b).isSome=true)(hl:st.es.length<=1000) :
  iY (run lib) ⟨h.length,h.length+6,0,none⟩ (h.length+0) 1 [eZ a,eZ b] (M4 h v st)=some (.bool (BH st a b).2,M4 h v (BH st a b).1):=by
 obtain⟨es,⟨v1,c1⟩,⟨v2,c2⟩⟩:=st;obtain⟨q,hq⟩:=xh.mp hs;obtain⟨rfl,hf⟩:=QZ hq;simp only at hl;obtain⟨D,hD⟩:∃ D:dO,D=Wt h v:=⟨_,rfl⟩;simp only[M4,BH,<-hD]
 have ha1:aQ lib ⟨h.length,h.length,6,some (h.length+0,1)⟩ r7.jE ((r7.ps.zip [eZ a,eZ b]).foldl (fun e p=>e.set p.1 p.2) (Jo h v),h++[(1,.ax D .ready),(v1,c1),(v2,c2),bX (0,.dead) 2 (rts es),(1,.box [cu (h.length+3) (0,.dead) 2 (rts es)]),(1,.box [.bool false])]) =
   some (.norm,([(4,.aF (h.length+5) 1 0),(5,.aF (h.length+4) 1 0),(6,.aF (h.length+2) (v2+1) 0),(7,.aF (h.length+1) (v1+1) 0)],h++[(1,.ax D .ready),(v1+1,.box (ic b)),(v2+1,.box (ic a)),bX (0,.dead) 2 (rts es),(1,.box [cu (h.length+3) (0,.dead) 2 (rts es)]),(1,.box [.bool false])])):=by
  have em:∀ fr:Heap,fB ⟨h.length,h.length,6,some (h.length+0,1)⟩ 2 (.box [.str [],.str [],.str [],.str []]) (h++fr)=vB 2 6 (.box [.str [],.str [],.str [],.str []]) h fr fr[2]?:=fun fr=>uW (by rfl)
  have MG:∀ fr:Heap,fB ⟨h.length,h.length,6,some (h.length+0,1)⟩ 1 (.box [.str [],.str [],.str [],.str []]) (h++fr)=vB 1 6 (.box [.str [],.str [],.str [],.str []]) h fr fr[1]?:=fun fr=>uW (by rfl)
  have es':=fun(fr:Heap) s ai (k:KQ)=>tX (lo:=h.length) (ns:=6) (sz:=4) (s:=s) (ai:=ai) (off:=0) (h:=h) (fr:=fr) (v:=eZ k) (p:=(h.length+0,1)) (bC _) (by rfl)
  simp only[eZ]at es'⊢;simp(maxSteps:=30000000)(disch:=omega)only[go_sem,r7,Jo,ic,em,MG,es',List.zip_cons_cons,Ac,List.foldl_cons,wL]
 have hb1:∃ jl,aQ lib ⟨h.length,h.length,6,some (h.length+0,1)⟩ r7.body ([(4,.aF (h.length+5) 1 0),(5,.aF (h.length+4) 1 0),(6,.aF (h.length+2) (v2+1) 0),(7,.aF (h.length+1) (v1+1) 0)],(h++[(1,au.ax D .ready),(v1+1,au.box (ic b)),(v2+1,au.box (ic a)),bX (0,.dead) 2 (rts es),(1,.box [cu (h.length+3) (0,.dead) 2 (rts es)]),(1,.box [.bool false])]).set (h.length+0) (1,.ax D .busy)) =
   some (.norm,(jl,h++[(1,.ax D .busy),(v1+1,.box (ic b)),(v2+1,.box (ic a)),bX (0,.dead) 2 (rts (es++[Eu a b])),(1,.box [cu (h.length+3) (0,.dead) 2 (rts (es++[Eu a b]))]),(1,.box [.bool false])])):=by
  refine⟨[], ?_⟩;rw[gy,List.set_cons_zero,apS];have pa:=fun(g:Heap) (es:List AV)=>QG (lo:=h.length) (ns:=6) (s:=4) (ai:=1) (off:=0) (h:=h) (p:=(h.length+0,1)) (fr:=g) (v:=cu (h.length+3) (0,.dead) 2 es) (bC _) (Wd (by omega)) ⟨by rw[tT];rfl,Ct _ _ _ _⟩
  have ap:=fun(g:Heap) (w:AV) (hg:g[3]?=some (bX (0,.dead) 2 (rts es)))=>(QF (p:=(h.length+0,1))).trans (wD (lo:=h.length) (ns:=6) (s:=3) (z:=2) (lim:=4398046511104) (h:=h) (fr:=g) (b0:=(0,.dead)) (es:=rts es) (xs:=[w]) (by omega) (by omega) hg (by simp;omega))
  have ck:=fun env (g:Heap)=>ad1 (lo:=h.length) (ns:=6) (p:=(h.length+0,1)) env h g;have sp:=Wl (h:=h++[(1,.ax D .busy),(v1+1,.box (ic b)),(v2+1,.box (ic a)),bX (0,.dead) 2 (rts es),(1,.box [cu (h.length+3) (0,.dead) 2 (rts es)]),okB]) (id:=h.length+5) (by rw[cO];rfl) ha hb hq (lo:=h.length) (by omega)
  have MP:=fun w=>ap [(1,.ax D .busy),(v1+1,.box (ic b)),(v2+1,.box (ic a)),bX (0,.dead) 2 (rts es),(1,.box [cu (h.length+3) (0,.dead) 2 (rts es)]),okB] w rfl;simp only[List.set_cons_succ,List.set_cons_zero]at MP;simp only[eZ,ic,BB,bY,okB]at sp MP⊢;simp(maxSteps:=30000000)(disch:=omega)only[go_sem,r7,sp,pa,MP,ck,Ga,tT,beq_self_eq_true,w9]
 obtain⟨jl,hb2⟩:=hb1;have hg:(h++[(1,au.ax D .ready),(v1,c1),(v2,c2),bX (0,.dead) 2 (rts es),(1,au.box [cu (h.length+3) (0,.dead) 2 (rts es)]),(1,au.box [.bool false])])[h.length+0]?=some (1,.ax ⟨7,h.length,h.length,6,Jo h v⟩ .ready):=by rw[cO,hD];rfl
 have:=xG (L:=lib) (cx:=⟨h.length,h.length+6,0,none⟩) hg (bC _) (by omega) (bC _) (by simp[eZ,AV.l5,AV.closed]) (x:=r7) rfl rfl ha1 (by rw[cO];rfl) hb2 (by rw[cO];rfl)
 rw[this,gy];rfl
def mG:List KQ->List Rat
 |a::b::r=>Eu a b::mG (b::r)
 |_=>[]
theorem aee:∀(l:List KQ) (st:PS),(pgo BH st l).es=st.es++mG l
 |[],st=>by simp[pgo,mG]
 |[a],st=>by simp[pgo,mG]
 |a::b::r,st=>by
  rw[pgo,mG];have e:(BH st a b).2=true:=rfl;rw[e];simp only[if_true];rw[aee (b::r)];simp[BH]
theorem aef:∀(l:List KQ) (bad:Bool),xW bad l=some false->bad=false/\∀ k (hk:k+1<l.length),rV l[k] l[k+1]=true/\(rU l[k] l[k+1]).isSome=true
 |[],bad,h=>by simp only[xW,aS]at h;exact⟨h,fun k hk=>absurd hk (by simp)⟩
 |[a],bad,h=>by simp only[xW,aS]at h;exact⟨h,fun k hk=>absurd hk (by simp)⟩
 |a::b::r,bad,h=>by
  rw[xW]at h
  cases hc:rV a b with
  |false=>rw[hc]at h;cases h
  |true =>
   rw[hc,if_pos rfl]at h;obtain⟨h1,h2⟩:=aef (b::r) _ h;simp only[Bool.or_eq_false_iff]at h1;refine⟨h1.1,fun k hk=>?_⟩
   cases k with
   |zero =>
    refine⟨hc, ?_⟩;have:=h1.2
    show (rU a b).isSome=true
    cases hs:rU a b with
    |none=>rw[hs]at this;cases this
    |some q=>rfl
   |succ k=>exact h2 k (by simpa using hk)
theorem Wu{l:List KQ}(h:pK l=true):2<=l.length/\l.length<=24/\∀ k (hk:k+1<l.length),rV l[k] l[k+1]=true/\(rU l[k] l[k+1]).isSome=true:=by
 unfold pK at h;simp only[bM,decide_eq_true_eq,beq_iff_eq]at h;exact⟨h.1,h.2.1,(aef l false h.2.2).2⟩
theorem apU(l:List KQ)(k:Nat)(st:PS)(a b:KQ)(h:st.es.length=k):(BH st a b).1.es.length=k+1:=by
 simp[BH,h]
theorem apV{l:List KQ}(h:2<=l.length):mG l≠[]:=by
 match l,h with
 |a::b::r,_=>simp[mG]
theorem apW{v:AV}{l:List KQ}(hp:cK 4 v (dN l))(hl:l.length<=9223372036854775807)(hf:∀ a∈l,o8 a)(h:Heap)(lo:Nat) :
  (run lib).fn 75 [.agg [v]] h lo=some (if pK l then .tuple [.own 2 (rts (mG l)),.int .i64 0]else .tuple [.own 0 [],.int .i64 190],h):=by
 obtain⟨q1,q2,f,z,hz,q3⟩:=MI hp;obtain⟨w,hw⟩:∃ w,w=oh f z (dN l):=⟨_,rfl⟩;have sl:∀ H,Sl H 4 w (dN l):=fun H=>by rw[hw];exact FR hz f H
 have w1:w.val=true:=by rw[hw];exact L9 _ _ _
 have w2:w.cells=[w]:=by rw[hw];exact Mg _ _ _
 have w3:∀ b k h,bL b k w h=some (w,h):=fun b k h=>by rw[hw];exact FP _ _ _ _ _ _
 have w4:w.closed=true:=by rw[hw];exact Mh _ _ _
 rw[<-hw]at q3;clear hw;have pv:=fun H lo=>MO (h:=H) (sl H) hl hf lo;have pr:=fun H lo=>Wm (v:=w) (v':=w) H w1 w3 w2 lo;rw[bW (x:=O1) rfl rfl rfl rfl]
 cases hv:pK l with
 |false =>
  rw[hv]at pv
  simp(maxSteps:=30000000)(disch:=omega)only[go_sem,O1,q1,q2,q3,w1,w2,w3,w4,pv]
 |true =>
  rw[hv]at pv;obtain⟨n2,n24,M5⟩:=Wu hv
  have g:=aed (id:=h.length+0) (iv:=1) (H:=M4 h w) (nb:=h.length+6) (lo:=h.length) (step:=BH) (Iv:=fun k st=>st.es.length=k) (v:=w) (l:=l) hl (fun st=>sl _) (fun st=>by simp[M4]) (by omega) (fun st k hk hi _=>apU l k st _ _ hi)
   (fun st k hk hi=>apT (h:=h) (v:=w) st (hf _ (l9 _)) (hf _ (l9 _)) (M5 k hk).2 (by omega)) ⟨[],(0,.dead),(0,.dead)⟩ rfl
  have ge:=aee l ⟨[],(0,.dead),(0,.dead)⟩;simp only[List.nil_append]at ge;obtain⟨st,hst⟩:∃ st,st=pgo BH ⟨[],(0,.dead),(0,.dead)⟩ l:=⟨_,rfl⟩;rw[<-hst]at g ge;obtain⟨es,B1,B2⟩:=st;simp only at ge;subst ge
  have g3:=Bb (L:=lib) (lo:=h.length) (ns:=6) (s:=0) (g:=7) (it:=132) (v:=0) (caps:=[.bR [w]]) (env:=Jo h w) (h:=h) (b:=.dead)
   (fr:=[(0,.dead),(0,.dead),(0,.dead),(0,.dead),(1,.box [.aP]),(1,.box [.bool false])])
   (fr':=[(1,.ax (Wt h w) .ready),B1,B2,bX (0,.dead) 2 (rts (mG l)),(1,.box [cu (h.length+3) (0,.dead) 2 (rts (mG l))]),(1,.box [.bool false])])
   (f:=.t 13) rfl (by omega) rfl g rfl
  simp only[Jo,List.set_cons_zero]at g3;have hne:rts (mG l)≠[]:=by simp[rts,apV n2]
  have g4:=Fh (s:=3) (z:=2) (h:=h) (b0:=(0,.dead)) (es:=rts (mG l)) (fr:=[(1+0,.dead),B1,B2,bX (0,.dead) 2 (rts (mG l)),(1,.box [cu (h.length+3) (0,.dead) 2 (rts (mG l))]),(1,.box [.bool false])]) rfl;rw[show qF 2 (rts (mG l))=.own 2 (rts (mG l))from if_neg hne]at g4
  simp(maxSteps:=30000000)(disch:=omega)only[go_sem,O1,q1,q2,q3,w1,w2,w3,w4,pv,pr,g3,g4,tT,Ct]
end Go.VI.Dump
namespace Go.VI
theorem apX{h1 h2:Heap}{n:Nat}(e1:h1.length=n)(e2:h2.length=n)(fr fr':Heap)(s:Nat):wX (h1++fr) (h2++fr') (n+s)=Fe fr[s]? fr'[s]?:=by
 have g:∀(g:Heap) (fr:Heap),g.length=n->(g++fr)[n+s]?=fr[s]?:=fun g fr e=>by subst e;exact cO g fr s
 unfold wX Fe;rw[g _ _ e1,g _ _ e2];rfl
theorem Wv{g:Heap}{nb:Nat}(hg:g.length=nb)(fr:Heap)(s:Nat)(b:Nat×au):(g++fr).set (nb+s) b=g++fr.set s b:=by subst hg;exact gy g fr s b
variable {L:Lib}
theorem apY{lo ns s g it v:Nat}{caps:List AV}{env:Env}{h h' fr fr':Heap}{f:aL}{b:au}{d':dO}{r:AV}(hn:h'.length=h.length)(hf:f.ev env=.fn it caps)(hs:s<ns)(hb:fr[s]?=some (v,b))
  (hc:(run L).fn it (.dY (h.length+s) (v+1)::caps) (h++fr.set s (v+1,.ax ⟨g,lo,h.length,ns,env⟩ .ready)) lo=some (r,h'++fr')) (hr:fr'[s]?=some (v+1,.ax d' .ready)) (hit:it<1000:=by decide) :
  aQ L ⟨lo,h.length,ns,none⟩ (.mI s f g) (env,h++fr)=some (.norm,(env,h'++fr'.set s (v+1,.dead))):=by
 rw[Nn];simp only[exec,hf,Ar]
 have hm:fB ⟨lo,h.length,ns,none⟩ s (.ax ⟨g,lo,h.length,ns,env⟩ .ready) (h++fr)=some (v+1,h++fr.set s (v+1,.ax ⟨g,lo,h.length,ns,env⟩ .ready)):=by
  rw[AP,hb,AO,if_pos hs]
 have e1:jr it=it:=by unfold jr;rw[if_pos hit]
 have e2:∀ y:AV,pO it [y] caps=y::caps:=fun y=>by unfold pO;rw[if_pos hit];rfl
 have gn:(h'++fr')[h.length+s]?=fr'[s]?:=by rw[<-hn,cO]
 rw[hm];simp only[Option.bind_some,e1,e2,hc,gn,hr,if_true,Wv hn]
theorem apZ{lo ns s g it v:Nat}{caps:List AV}{env:Env}{h h' fr fr':Heap}{f:aL}{b:au}{d':dO}{r:AV}{e:Ex}(hn:h'.length=h.length)(hf:f.ev env=.fn it caps)(hs:s<ns)(hb:fr[s]?=some (v,b))
  (hc:(run L).fn it (.dY (h.length+s) (v+1)::caps) (h++fr.set s (v+1,.ax ⟨g,lo,h.length,ns,env⟩ .ready)) lo=some (r,h'++fr')) (hr:fr'[s]?=some (v+1,.ax d' (.done e))) (hit:it<1000:=by decide) :
  aQ L ⟨lo,h.length,ns,none⟩ (.mI s f g) (env,h++fr)=some (e,(env,h'++fr'.set s (v+1,.dead))):=by
 rw[Nn];simp only[exec,hf,Ar]
 have hm:fB ⟨lo,h.length,ns,none⟩ s (.ax ⟨g,lo,h.length,ns,env⟩ .ready) (h++fr)=some (v+1,h++fr.set s (v+1,.ax ⟨g,lo,h.length,ns,env⟩ .ready)):=by
  rw[AP,hb,AO,if_pos hs]
 have e1:jr it=it:=by unfold jr;rw[if_pos hit]
 have e2:∀ y:AV,pO it [y] caps=y::caps:=fun y=>by unfold pO;rw[if_pos hit];rfl
 have gn:(h'++fr')[h.length+s]?=fr'[s]?:=by rw[<-hn,cO]
 rw[hm];simp only[Option.bind_some,e1,e2,hc,gn,hr,if_true,Wv hn]
end Go.VI
namespace Go.VI.Dump
open Go.VI.Num
/- BIGSTEPS -/
section
variable {h:Heap}{id lo:Nat}
theorem ap0(hid:h[id]?=some okB)(hlo:lo<=id){a b q:Rat}(ha:gV a)(hb:gV b)(hq:Bf a b=some q):(run lib).fn 118 [.aF id 1 0,.fn 121 [],rt a,rt b] h lo=some (rt q,h) :=
 QK hid (by decide) (fun H lo=>by have:=adp ha hb H lo;rw[hq]at this;exact this) hlo
theorem ap3(hid:h[id]?=some okB)(hlo:lo<=id){a b:Rat}(ha:gV a)(hb:gV b)(hq:Bf a b=none):(run lib).fn 118 [.aF id 1 0,.fn 121 [],rt a,rt b] h lo=some (bY [] [],h.set id gB) :=
 QL (e:=40) hid (by decide) (by decide) (fun H lo=>by have:=adp ha hb H lo;rw[hq]at this;exact this) hlo
theorem ap4(hid:h[id]?=some okB)(hlo:lo<=id){a b q:Rat}(ha:gV a)(hb:gV b)(hq:DR a b=some q):(run lib).fn 118 [.aF id 1 0,.fn 120 [],rt a,rt b] h lo=some (rt q,h) :=
 QK hid (by decide) (fun H lo=>by have:=ads ha hb H lo;rw[hq]at this;exact this) hlo
theorem ap5(hid:h[id]?=some okB)(hlo:lo<=id){a b:Rat}(ha:gV a)(hb:gV b)(hq:DR a b=none):(run lib).fn 118 [.aF id 1 0,.fn 120 [],rt a,rt b] h lo=some (bY [] [],h.set id gB) :=
 QL (e:=40) hid (by decide) (by decide) (fun H lo=>by have:=ads ha hb H lo;rw[hq]at this;exact this) hlo
end
theorem ap6{a b:Rat}:((aH a.num==aH b.num)&&(aH (a.den:Int)==aH (b.den:Int)))=decide (a=b):=by
 rw[Bool.eq_iff_iff];simp only[bM,decide_eq_true_eq,beq_iff_eq];constructor
 ·rintro⟨h1,h2⟩;exact Rat.ext (K7 h1) (by have:=K7 h2;omega)
 ·rintro rfl;exact⟨rfl,rfl⟩
theorem ap7(k:KQ)(x:Rat)(h:Heap)(lo:Nat):(run lib).fn 117 [eZ k,.bR [.str (aH x.num),.str (aH (x.den:Int))]] h lo=some (.bool (decide (k.1=x)),h):=by
 have e:Ap false [.s,.s] (.agg [.str (aH k.1.num),.str (aH (k.1.den:Int))]) (.agg [.str (aH x.num),.str (aH (x.den:Int))])=some (.bool (decide (k.1=x))):=by
  rw[<-ap6,aa0 (by simp) rfl rfl]
  simp[mX,Gh]
 unfold eZ;rw[bW (x:=TY) rfl rfl rfl rfl];simp(maxSteps:=30000000)(disch:=omega)only[go_sem,TY,e]
def wB(b:Bool)(h:Heap)(id:Nat):Heap:=match b with|true=>h.set id gB|false=>h
theorem M6(h:Heap)(id:Nat):wB true h id=h.set id gB:=rfl
theorem M7(h:Heap)(id:Nat):wB false h id=h:=rfl
structure VS where
 rs:RS
 bad:Bool
 b1:Nat×au
 b2:Nat×au
 b3:Nat×au
 res:List UInt8×List UInt8
def CY(h:Heap)(w:AV)(x:Rat):Env:=[(3,.aF (h.length+4) 1 0),(5,.bR [.str (aH x.num),.str (aH (x.den:Int))]),(6,.aF (h.length+5) 1 0),(25,.fn 132 [.bR [w]])]
def M8(h:Heap)(lo:Nat)(w:AV)(x:Rat):dO:=⟨8,lo,h.length,6,CY h w x⟩
def BI(h:Heap)(lo id:Nat)(w:AV)(x:Rat)(st:VS):Heap:=wB st.bad h id++[(1,.ax (M8 h lo w x) st.rs),st.b1,st.b2,st.b3,(1,.box [.aF id 1 0]),(1,.box [.str st.res.1,.str st.res.2])]
def dC:Option Rat->List AV
 |some d=>[.str (aH d.num),.str (aH (d.den:Int))]
 |none=>[.str [],.str []]
def vP:Option Rat->List UInt8×List UInt8
 |some y=>(aH y.num,aH (y.den:Int))
 |none=>([],[])
theorem Ww(d:Rat):dC (some d)=[.str (aH d.num),.str (aH (d.den:Int))]:=rfl
theorem ap8:dC none=[.str [],.str []]:=rfl
theorem Q0(d:Rat):vP (some d)=(aH d.num,aH (d.den:Int)):=rfl
theorem Jp:vP none=([],[]):=rfl
def BJ(a b:KQ)(x:Rat):Option Rat:=(um x a.1).bind fun d=>(rU a b).bind fun s=>(Bf s d).bind fun p=>DR a.2 p
def xY(a b:KQ)(x:Rat):Bool:=decide (a.1<x)&&decide (x<b.1)
def l7(x:Rat)(st:VS)(a b:KQ):VS×Bool :=
 if xY a b x then(⟨.done .ret,(BJ a b x).isNone,(st.b1.1+1,.box (ic b)),(st.b2.1+1,.box (ic a)),(st.b3.1+1,.box (dC (um x a.1))),vP (BJ a b x)⟩,false)
 else(⟨.ready,st.bad,(st.b1.1+1,.box (ic b)),(st.b2.1+1,.box (ic a)),st.b3,st.res⟩,true)
theorem M9(a b:Rat):decide (lY a b<0)=decide (a<b):=by
 rcases UW a b with⟨e,l⟩|⟨e,l⟩|⟨e,l⟩
 ·rw[e,decide_eq_true l];rfl
 ·rw[e,l,show decide (b<b)=false from decide_eq_false Rat.lt_irrefl];rfl
 ·rw[e,show decide (a<b)=false from decide_eq_false (by grind)];rfl
theorem aeg{h:Heap}{lo id:Nat}(hlh:lo<=h.length){w:AV}{x:Rat}{a b:KQ}{D:dO}{v1 v2:Nat}{c1 c2:au}{b3 b5:Nat×au} :
  aQ lib ⟨lo,h.length,6,some (h.length+0,1)⟩ r8.jE ((r8.ps.zip [eZ a,eZ b]).foldl (fun e p=>e.set p.1 p.2) (CY h w x),h++[(1,.ax D .ready),(v1,c1),(v2,c2),b3,(1,.box [.aF id 1 0]),b5]) =
   some (.norm,([(3,.aF (h.length+4) 1 0),(5,.bR [.str (aH x.num),.str (aH (x.den:Int))]),(6,.aF (h.length+5) 1 0),(8,.aF (h.length+2) (v2+1) 0),(9,.aF (h.length+1) (v1+1) 0)],h++[(1,.ax D .ready),(v1+1,.box (ic b)),(v2+1,.box (ic a)),b3,(1,.box [.aF id 1 0]),b5])):=by
 have em:∀ fr:Heap,fB ⟨lo,h.length,6,some (h.length+0,1)⟩ 2 (.box [.str [],.str [],.str [],.str []]) (h++fr)=vB 2 6 (.box [.str [],.str [],.str [],.str []]) h fr fr[2]?:=fun fr=>uW (by rfl)
 have MG:∀ fr:Heap,fB ⟨lo,h.length,6,some (h.length+0,1)⟩ 1 (.box [.str [],.str [],.str [],.str []]) (h++fr)=vB 1 6 (.box [.str [],.str [],.str [],.str []]) h fr fr[1]?:=fun fr=>uW (by rfl)
 have es':=fun(fr:Heap) s ai (k:KQ)=>tX (lo:=lo) (ns:=6) (sz:=4) (s:=s) (ai:=ai) (off:=0) (h:=h) (fr:=fr) (v:=eZ k) (p:=(h.length+0,1)) hlh (by rfl)
 simp only[eZ]at es'⊢;simp(maxSteps:=30000000)(disch:=omega)only[go_sem,r8,CY,ic,em,MG,es',List.zip_cons_cons,Ac,List.foldl_cons,wL]
theorem ap9{h:Heap}{lo id:Nat}(hid:h[id]?=some okB)(hlo:lo<=id){w:AV}{x:Rat}(hx:gV x){a b:KQ}(ha:o8 a)(hb:o8 b)(hn:xY a b x=false)(st:VS)(hr:st.rs=.ready)(hbd:st.bad=false) :
  iY (run lib) ⟨lo,h.length+6,0,none⟩ (h.length+0) 1 [eZ a,eZ b] (BI h lo id w x st)=some (.bool true,BI h lo id w x (l7 x st a b).1):=by
 obtain⟨rs,bad,⟨v1,c1⟩,⟨v2,c2⟩,b3,res⟩:=st;simp only at hr hbd;subst hr;subst hbd;have hlh:lo<=h.length:=by have:=(dQ.mp hid).1;omega
 obtain⟨D,hD⟩:∃ D:dO,D=M8 h lo w x:=⟨_,rfl⟩;unfold l7;rw[hn,if_neg Bool.false_ne_true];simp only[BI,<-hD,M7];have q1:=fun H lo=>Bq ha.x hx H lo;have q2:=fun H lo=>Bq hx hb.x H lo;simp only[rt,bY]at q1 q2;have n1:=M9 a.1 x;have n2:=M9 x b.1
 have hb2:∃ jl,aQ lib ⟨lo,h.length,6,some (h.length+0,1)⟩ r8.body ([(3,.aF (h.length+4) 1 0),(5,.bR [.str (aH x.num),.str (aH (x.den:Int))]),(6,.aF (h.length+5) 1 0),(8,.aF (h.length+2) (v2+1) 0),(9,.aF (h.length+1) (v1+1) 0)],(h++[(1,au.ax D .ready),(v1+1,.box (ic b)),(v2+1,.box (ic a)),b3,(1,.box [.aF id 1 0]),(1,.box [.str res.1,.str res.2])]).set (h.length+0) (1,.ax D .busy)) =
   some (.norm,(jl,h++[(1,.ax D .busy),(v1+1,.box (ic b)),(v2+1,.box (ic a)),b3,(1,.box [.aF id 1 0]),(1,.box [.str res.1,.str res.2])])):=by
  rw[gy,List.set_cons_zero];unfold xY at hn;by_cases c1:a.1<x
  ·rw[decide_eq_true c1,Bool.true_and]at hn;rw[hn]at n2;rw[decide_eq_true c1]at n1;have m1:lY a.1 x<0:=by simpa using n1
   have m2:¬ lY x b.1<0:=by simpa using n2
   refine⟨[(3,.aF (h.length+4) 1 0),(5,.bR [.str (aH x.num),.str (aH (x.den:Int))]),(6,.aF (h.length+5) 1 0),(8,.aF (h.length+2) (v2+1) 0),(9,.aF (h.length+1) (v1+1) 0),(39,.bool false)], ?_⟩;simp only[ic];simp(maxSteps:=30000000)(disch:=omega)only[go_sem,r8,q1,q2,m1,m2]
  ·rw[decide_eq_false c1]at n1;have m1:¬ lY a.1 x<0:=by simpa using n1
   refine⟨[(3,.aF (h.length+4) 1 0),(5,.bR [.str (aH x.num),.str (aH (x.den:Int))]),(6,.aF (h.length+5) 1 0),(8,.aF (h.length+2) (v2+1) 0),(9,.aF (h.length+1) (v1+1) 0),(39,.bool false)], ?_⟩;simp only[ic];simp(maxSteps:=30000000)(disch:=omega)only[go_sem,r8,q1,q2,m1]
 obtain⟨jl,hb2⟩:=hb2;have hg:(h++[(1,au.ax D .ready),(v1,c1),(v2,c2),b3,(1,.box [.aF id 1 0]),(1,.box [.str res.1,.str res.2])])[h.length+0]?=some (1,.ax ⟨8,lo,h.length,6,CY h w x⟩ .ready):=by rw[cO,hD];rfl
 have:=xG (L:=lib) (cx:=⟨lo,h.length+6,0,none⟩) hg (bC _) (by omega) hlh (by simp[eZ,AV.l5,AV.closed]) (x:=r8) rfl rfl (aeg hlh) (by rw[cO];rfl) hb2 (by rw[cO];rfl)
 rw[this,gy];rfl
theorem ap'{h:Heap}{lo id:Nat}(hid:h[id]?=some okB)(hlo:lo<=id){w:AV}{x:Rat}(hx:gV x){a b:KQ}(ha:o8 a)(hb:o8 b)(hs:(rU a b).isSome=true)(hn:xY a b x=true)(st:VS)(hr:st.rs=.ready)(hbd:st.bad=false) :
  iY (run lib) ⟨lo,h.length+6,0,none⟩ (h.length+0) 1 [eZ a,eZ b] (BI h lo id w x st)=some (.bool false,BI h lo id w x (l7 x st a b).1):=by
 obtain⟨rs,bad,⟨v1,c1⟩,⟨v2,c2⟩,⟨v3,c3⟩,⟨r1,r2⟩⟩:=st;simp only at hr hbd;subst hr;subst hbd;have hl:id<h.length:=(dQ.mp hid).1;have hlh:lo<=h.length:=by omega
 obtain⟨D,hD⟩:∃ D:dO,D=M8 h lo w x:=⟨_,rfl⟩;unfold l7;rw[hn,if_pos rfl];simp only[BI,<-hD,M7];have q1:=fun H lo=>Bq ha.x hx H lo;have q2:=fun H lo=>Bq hx hb.x H lo;simp only[rt,bY]at q1 q2;have n1:=M9 a.1 x;have n2:=M9 x b.1;unfold xY at hn;obtain⟨hn1,hn2⟩:=IY hn;rw[hn1]at n1;rw[hn2]at n2;have m1:lY a.1 x<0:=by simpa using n1
 have m2:lY x b.1<0:=by simpa using n2
 obtain⟨s,hs⟩:=xh.mp hs;have hn':(h.set id gB).length=h.length:=vV ..;have st:∀(fr:Heap),(h++fr).set id gB=h.set id gB++fr:=fun fr=>He _ hid
 have hb2:aQ lib ⟨lo,h.length,6,some (h.length+0,1)⟩ r8.body ([(3,.aF (h.length+4) 1 0),(5,.bR [.str (aH x.num),.str (aH (x.den:Int))]),(6,.aF (h.length+5) 1 0),(8,.aF (h.length+2) (v2+1) 0),(9,.aF (h.length+1) (v1+1) 0)],(h++[(1,au.ax D .ready),(v1+1,.box (ic b)),(v2+1,.box (ic a)),(v3,c3),(1,.box [.aF id 1 0]),(1,.box [.str r1,.str r2])]).set (h.length+0) (1,.ax D .busy)) =
   some (.ret,([],wB (BJ a b x).isNone h id++[(1,.ax D .busy),(v1+1,.box (ic b)),(v2+1,.box (ic a)),(v3+1,.box (dC (um x a.1))),(1,.box [.aF id 1 0]),(1,.box [.str (vP (BJ a b x)).1,.str (vP (BJ a b x)).2])])):=by
  rw[gy,List.set_cons_zero];have em:∀ fr:Heap,fB ⟨lo,h.length,6,some (h.length+0,1)⟩ 3 (.box [.str [],.str []]) (h++fr)=vB 3 6 (.box [.str [],.str []]) h fr fr[3]?:=fun fr=>uW (by rfl)
  have es:=fun(fr:Heap) s ai (t u:List UInt8)=>tX (lo:=lo) (ns:=6) (sz:=2) (s:=s) (ai:=ai) (off:=0) (h:=h) (fr:=fr) (v:=.agg [.str t,.str u]) (p:=(h.length+0,1)) hlh (by rfl)
  have es2:=fun(fr:Heap) s ai (t u:List UInt8)=>tX (lo:=lo) (ns:=6) (sz:=2) (s:=s) (ai:=ai) (off:=0) (h:=h.set id gB) (fr:=fr) (v:=.agg [.str t,.str u]) (p:=(h.length+0,1)) (by rw[hn'];exact hlh) (by rfl)
  have Q5:∀ fr:Heap,fB ⟨lo,(h.set id gB).length,6,some (h.length+0,1)⟩ 3 (.box [.str [],.str []]) (h.set id gB++fr)=vB 3 6 (.box [.str [],.str []]) (h.set id gB) fr fr[3]?:=fun fr=>uW (by rfl)
  rw[hn']at es2 Q5;have kp:=fun fr fr' s=>apX (n:=h.length) hn' hn' fr fr' s;unfold BJ;rw[hs]
  cases hd:um x a.1 with
  |some d =>
   have d1:=fun fr=>ME (h:=h++fr) (id:=id) (kD hid) hlo hx ha.x hd;have d2:=fun fr=>Wl (h:=h++fr) (id:=id) (kD hid) ha hb hs hlo;simp only[Option.bind_some]
   cases hm:Bf s d with
   |some p =>
    have d3:=fun fr=>ap0 (h:=h++fr) (id:=id) (kD hid) hlo (QZ hs).2 (BA hd).2 hm;simp only[Option.bind_some]
    cases hy:DR a.2 p with
    |some y =>
     have d4:=fun fr=>ap4 (h:=h++fr) (id:=id) (kD hid) hlo ha.y (adU hm).2 hy;simp only[eZ,ic,BB,bY,Ww,Q0,Option.isNone_some,M7]at d1 d2 d3 d4⊢
     simp(maxSteps:=30000000)(disch:=omega)only[go_sem,r8,q1,q2,m1,m2,em,es,d1,d2,d3,d4,beq_self_eq_true,w9]
    |none =>
     have d4:=fun fr=>ap5 (h:=h++fr) (id:=id) (kD hid) hlo ha.y (adU hm).2 hy;simp only[eZ,ic,BB,bY,Ww,Jp,Option.isNone_none,M6]at d1 d2 d3 d4⊢
     simp(maxSteps:=30000000)(disch:=omega)only[go_sem,r8,q1,q2,m1,m2,em,es,d1,d2,d3,d4,beq_self_eq_true,w9,st,hn',oq,es2,Q5,kp]
   |none =>
    have d3:=fun fr=>ap3 (h:=h++fr) (id:=id) (kD hid) hlo (QZ hs).2 (BA hd).2 hm;have bd:=fun fr f a b c d=>QJ (h:=h.set id gB++fr) (id:=id) (kD (QM hid gB)) f a b c d hlo;simp only[eZ,ic,BB,bY,Ww,Jp,Option.isNone_none,Option.bind_some,Option.bind_none,M6]at d1 d2 d3 bd⊢
    simp(maxSteps:=30000000)(disch:=omega)only[go_sem,r8,q1,q2,m1,m2,em,es,d1,d2,d3,bd,beq_self_eq_true,w9,st,hn',oq,es2,Q5,kp]
  |none =>
   have d1:=fun fr=>Wj (h:=h++fr) (id:=id) (kD hid) hlo hx ha.x hd;have d2:=fun fr=>adV (h:=h.set id gB++fr) (id:=id) (kD (QM hid gB)) a b hlo;have bd:=fun fr f a b c d=>QJ (h:=h.set id gB++fr) (id:=id) (kD (QM hid gB)) f a b c d hlo;simp only[eZ,ic,BB,bY,ap8,Jp,Option.isNone_none,Option.bind_none,M6]at d1 d2 bd⊢;simp(maxSteps:=30000000)(disch:=omega)only[go_sem,r8,q1,q2,m1,m2,em,es,d1,d2,bd,beq_self_eq_true,w9,st,hn',oq,es2,Q5,kp]
 have hg:(h++[(1,au.ax D .ready),(v1,c1),(v2,c2),(v3,c3),(1,.box [.aF id 1 0]),(1,.box [.str r1,.str r2])])[h.length+0]?=some (1,.ax ⟨8,lo,h.length,6,CY h w x⟩ .ready):=by rw[cO,hD];rfl
 have hwl:∀ b,(wB b h id).length=h.length:=fun b=>by cases b<;>simp[wB]
 have:=xG (L:=lib) (cx:=⟨lo,h.length+6,0,none⟩) hg (bC _) (by omega) hlh (by simp[eZ,AV.l5,AV.closed]) (x:=r8) rfl rfl (aeg hlh) (by rw[cO];rfl) hb2 (by rw[aow (hwl _)];rfl)
 rw[this,Wv (hwl _)];rfl
end Go.VI.Dump
namespace Go.VI.Dump
open Go.VI.Num
/- BIGSTEPS -/
def Gg(x:Rat):List KQ->Option (Option Rat)
 |a::b::r=>if xY a b x then some (BJ a b x)else Gg x (b::r)
 |_=>none
theorem aeh(x:Rat):∀(l:List KQ) (st:VS),st.rs=.ready->st.bad=false->(match Gg x l with
  |some o=>(pgo (l7 x) st l).rs=.done .ret/\(pgo (l7 x) st l).bad=o.isNone/\(pgo (l7 x) st l).res=vP o
  |none=>(pgo (l7 x) st l).rs=.ready/\(pgo (l7 x) st l).bad=false/\(pgo (l7 x) st l).res=st.res)
 |[],st,h,hb=>⟨h,hb,rfl⟩
 |[a],st,h,hb=>⟨h,hb,rfl⟩
 |a::b::r,st,h,hb=>by
  rw[Gg,pgo]
  cases hc:xY a b x with
  |true =>
   have e:(l7 x st a b).2=false:=by simp[l7,hc]
   rw[e];simp only[iw,if_false,if_true]
   simp[l7,hc]
  |false =>
   have e:(l7 x st a b).2=true:=by simp[l7,hc]
   rw[e];simp only[iw,if_false,if_true];have i:=aeh x (b::r) (l7 x st a b).1 (by simp[l7,hc]) (by simp[l7,hc,hb])
   have er:(l7 x st a b).1.res=st.res:=by simp[l7,hc]
   rw[er]at i;exact i
def BK(l:List KQ)(x:Rat):Option Rat:=match qK l (fun k=>decide (k.1=x)) 0 with
 |some r=>(l[r]?).map (·.2)
 |none=>(Gg x l).getD none
theorem aqa{x:Rat}{st:VS}{a b:KQ}(hr:st.rs=.ready)(hb:st.bad=false)(hc:(l7 x st a b).2=true):(l7 x st a b).1.rs=.ready/\(l7 x st a b).1.bad=false:=by
 cases h:xY a b x
 ·simp[l7,h,hb]
 ·simp[l7,h]at hc
theorem aqb{h:Heap}{id lo:Nat}(hid:h[id]?=some okB)(hlo:lo<=id){v:AV}{l:List KQ}(hp:cK 4 v (dN l))(hf:∀ a∈l,o8 a)(hw:pK l=true){x:Rat}(hx:gV x) :
  (run lib).fn 83 [.aF id 1 0,.agg [v],rt x] h lo=some (.agg [.str (vP (BK l x)).1,.str (vP (BK l x)).2],wB (BK l x).isNone h id):=by
 obtain⟨q1,q2,f,z,hz,q3⟩:=MI hp;obtain⟨w,uY⟩:∃ w,w=oh f z (dN l):=⟨_,rfl⟩;have sl:∀ H,Sl H 4 w (dN l):=fun H=>by rw[uY];exact FR hz f H
 have w1:w.val=true:=by rw[uY];exact L9 _ _ _
 have w2:w.cells=[w]:=by rw[uY];exact Mg _ _ _
 have w3:∀ b k h,bL b k w h=some (w,h):=fun b k h=>by rw[uY];exact FP _ _ _ _ _ _
 have w4:w.closed=true:=by rw[uY];exact Mh _ _ _
 rw[<-uY]at q3;clear uY;obtain⟨n2,n24,M5⟩:=Wu hw;have hlen:l.length<=9223372036854775807:=by omega
 have hl:id<h.length:=(dQ.mp hid).1;have hlh:lo<=h.length:=by omega
 have cb:(AV.aF id 1 0).cells=[.aF id 1 0]:=rfl;have pr:=fun H lo=>Wm (v:=w) (v':=w) H w1 w3 w2 lo;have ix:=fun H lo=>adY (g:=117) (caps:=[.bR [.str (aH x.num),.str (aH (x.den:Int))]]) (p:=fun k=>decide (k.1=x)) (sl H) hlen (by decide) (fun k _ lo=>ap7 k x H lo) lo
 rw[oZ (x:=x83) rfl rfl rfl rfl hlh];unfold BK
 cases hr:qK l (fun k=>decide (k.1=x)) 0 with
 |some r =>
  have hix:za l (fun k=>decide (k.1=x))=r:=by unfold za;rw[hr]
  rw[hix]at ix
  have hrl:r<l.length:=by
   unfold qK at hr;rw[List.drop_zero]at hr;obtain⟨k,hk,rfl⟩:=Option.map_eq_some_iff.mp hr;have:=(List.findIdx?_eq_some_iff_getElem.mp hk).1;omega
  have c1:(0:Int)<=r:=by omega
  have e3:iM 4 w (.int .i64 (r:Int))=some r:=by rw[kr (sl []) (by omega) (by simp;omega)];rfl
  have e4:=fun H off=>jV (off:=off) (sl H).jW (show r<(dN l).length by simp;omega)
  simp only[FZ,eZ]at e4;simp only[kN hrl,Option.map_some,Q0,Option.isNone_some,M7];simp only[rt,bY]
  simp(maxSteps:=30000000)(disch:=omega)only[go_sem,x83,q1,q2,q3,w1,w2,w3,w4,ix,c1,e3,e4,Bz]
 |none =>
  have hix:za l (fun k=>decide (k.1=x))=-1:=by unfold za;rw[hr]
  rw[hix]at ix;have hwl:∀ b,(wB b h id).length=h.length:=fun b=>by cases b<;>simp[wB]
  have hyl:∀(st:VS) k (hk:k+1<l.length),st.rs=.ready/\st.bad=false->iY (run lib) ⟨lo,h.length+6,0,none⟩ (h.length+0) 1 [eZ l[k],eZ l[k+1]] (BI h lo id w x st)=some (.bool (l7 x st l[k] l[k+1]).2,BI h lo id w x (l7 x st l[k] l[k+1]).1):=by
   intro st k hk hi
   cases hb:xY l[k] l[k+1] x with
   |true=>rw[ap' hid hlo hx (hf _ (l9 _)) (hf _ (l9 _)) (M5 k hk).2 hb st hi.1 hi.2];simp[l7,hb]
   |false=>rw[ap9 hid hlo hx (hf _ (l9 _)) (hf _ (l9 _)) hb st hi.1 hi.2];simp[l7,hb]
  have g:=aed (id:=h.length+0) (iv:=1) (H:=BI h lo id w x) (nb:=h.length+6) (lo:=lo) (step:=l7 x) (Iv:=fun k st=>st.rs=.ready/\st.bad=false) (v:=w) (l:=l) hlen (fun st=>sl _) (fun st=>by simp[BI,hwl]) (by omega) (fun st k hk hi hc=>aqa hi.1 hi.2 hc)
   hyl ⟨.ready,false,(0,.dead),(0,.dead),(0,.dead),([],[])⟩ ⟨rfl,rfl⟩
  have hv:=aeh x l ⟨.ready,false,(0,.dead),(0,.dead),(0,.dead),([],[])⟩ rfl rfl;obtain⟨st,hst⟩:∃ st,st=pgo (l7 x) ⟨.ready,false,(0,.dead),(0,.dead),(0,.dead),([],[])⟩ l:=⟨_,rfl⟩;rw[<-hst]at g hv;obtain⟨rs,bad,B1,B2,B3,res⟩:=st;simp only
  cases hg:Gg x l with
  |some o =>
   rw[hg]at hv;obtain⟨rfl,rfl,rfl⟩:=hv
   have g3:=apZ (L:=lib) (lo:=lo) (ns:=6) (s:=0) (g:=8) (it:=132) (v:=0) (caps:=[.bR [w]]) (env:=CY h w x) (h:=h) (b:=.dead) (h':=wB o.isNone h id)
    (fr:=[(0,.dead),(0,.dead),(0,.dead),(0,.dead),(1,.box [.aF id 1 0]),(1,.box [.str [],.str []])])
    (fr':=[(1,.ax (M8 h lo w x) (.done .ret)),B1,B2,B3,(1,.box [.aF id 1 0]),(1,.box [.str (vP o).1,.str (vP o).2])])
    (f:=.t 25) (hwl _) rfl (by omega) rfl g rfl
   simp only[CY,List.set_cons_zero]at g3
   have tk:∀(fr:Heap),(wB o.isNone h id++fr).take h.length=wB o.isNone h id:=fun fr=>by
    have:=Bz (l₁:=wB o.isNone h id) (l₂:=fr);rwa [hwl]at this
   simp only[Option.getD_some];have pn:=fun(fr:Heap) (s ai off:Nat)=>oq (hwl o.isNone) fr s ai off;simp only[rt,bY]
   simp(maxSteps:=30000000)(disch:=omega)only[go_sem,x83,q1,q2,q3,w1,w2,w3,w4,ix,pr,cb,g3,tk,pn]
  |none =>
   rw[hg]at hv;obtain⟨rfl,rfl,rfl⟩:=hv
   have g3:=apY (L:=lib) (lo:=lo) (ns:=6) (s:=0) (g:=8) (it:=132) (v:=0) (caps:=[.bR [w]]) (env:=CY h w x) (h:=h) (b:=.dead) (h':=h)
    (fr:=[(0,.dead),(0,.dead),(0,.dead),(0,.dead),(1,.box [.aF id 1 0]),(1,.box [.str [],.str []])])
    (fr':=[(1,.ax (M8 h lo w x) .ready),B1,B2,B3,(1,.box [.aF id 1 0]),(1,.box [.str [],.str []])])
    (f:=.t 25) rfl rfl (by omega) rfl g rfl
   simp only[CY,List.set_cons_zero]at g3;have nk:wW (.aF id 1 0)=some (.aF id 1 0):=rfl;have s0:=fun(fr:Heap) b=>FN (H:=h++fr) (id:=id) (base:=h.length) (lo:=lo) (ns:=6) (a:=false) (b:=b) (kD hid) hlo none;have st:∀(fr:Heap),(h++fr).set id gB=h.set id gB++fr:=fun fr=>He _ hid;have hn':(h.set id gB).length=h.length:=vV ..
   have tk:∀(fr:Heap),(h.set id gB++fr).take h.length=h.set id gB:=fun fr=>by
    have:=Bz (l₁:=h.set id gB) (l₂:=fr);rwa [vV]at this
   simp only[Option.getD_none,Jp,Option.isNone_none,M6];simp only[rt,bY];simp(maxSteps:=30000000)(disch:=omega)only[go_sem,x83,q1,q2,q3,w1,w2,w3,w4,ix,pr,cb,g3,nk,s0,st,hn',tk,oq,rz]
end Go.VI.Dump
namespace Go.VI.Dump
open Go.VI.Num
/- BIGSTEPS -/
def Jq(l:List KQ)(x:Rat):Option Rat:=if pK l then BK l x else none
def Na(o:Option Rat):AV:=.int .i64 (if o.isSome then 0 else 190)
theorem aqc{v:AV}{l:List KQ}(hp:cK 4 v (dN l))(hl:l.length<=9223372036854775807)(hf:∀ a∈l,o8 a){x:Rat}(hx:gV x)(h:Heap)(lo:Nat) :
  (run lib).fn 43 [.agg [v],rt x] h lo=some (.tuple [.agg [.str (vP (Jq l x)).1,.str (vP (Jq l x)).2],Na (Jq l x)],h):=by
 obtain⟨q1,q2,f,z,hz,q3⟩:=MI hp;obtain⟨w,uY⟩:∃ w,w=oh f z (dN l):=⟨_,rfl⟩;have sl:∀ H,Sl H 4 w (dN l):=fun H=>by rw[uY];exact FR hz f H
 have pw:cK 4 w (dN l):=by rw[uY];unfold oh;split<;>exact .inr ⟨z,by simp,hz⟩
 have w1:w.val=true:=by rw[uY];exact L9 _ _ _
 have w2:w.cells=[w]:=by rw[uY];exact Mg _ _ _
 have w3:∀ b k h,bL b k w h=some (w,h):=fun b k h=>by rw[uY];exact FP _ _ _ _ _ _
 have w4:w.closed=true:=by rw[uY];exact Mh _ _ _
 rw[<-uY]at q3;clear uY;have pv:=fun H lo=>MO (h:=H) (sl H) hl hf lo;have xv:=fun H lo=>Ea (aH x.num) (aH (x.den:Int)) H lo;rw[MF hx]at xv;unfold Jq;rw[bW (x:=x43) rfl rfl rfl rfl]
 cases hv:pK l with
 |false =>
  rw[hv]at pv;simp only[iw,if_false,Jp,Na,Option.isSome_none];simp only[rt,bY]at xv⊢
  simp(maxSteps:=30000000)(disch:=omega)only[go_sem,x43,q1,q2,q3,w1,w2,w3,w4,pv,xv]
 |true =>
  rw[hv]at pv;simp only[if_true];have vl:=fun(fr:Heap) (hfr:fr[1]?=some okB)=>aqb (h:=h++fr) (id:=h.length+1) (lo:=h.length) (by rw[cO,hfr]) (by omega) pw hf hv hx
  have vl:=vl [(0,.dead),okB,(1,.box [.str [],.str []])] rfl
  cases ho:BK l x with
  |none =>
   rw[ho]at vl;simp only[Jp,Option.isNone_none,M6,Na,Option.isSome_none,iw,if_false,gy,List.set_cons_succ,List.set_cons_zero]at vl⊢;simp only[rt,bY]at xv vl⊢
   simp(maxSteps:=30000000)(disch:=omega)only[go_sem,x43,q1,q2,q3,w1,w2,w3,w4,pv,xv,vl]
  |some y =>
   rw[ho]at vl;simp only[Q0,Option.isNone_some,M7,Na,Option.isSome_some,if_true]at vl⊢;simp only[rt,bY]at xv vl⊢;simp(maxSteps:=30000000)(disch:=omega)only[go_sem,x43,q1,q2,q3,w1,w2,w3,w4,pv,xv,vl]
end Go.VI.Dump
namespace Go.VI.Dump
open Go.VI.Num
/- BIGSTEPS -/
structure Jr(l:List KQ)(w:AV):Prop where
 sl:∀ H,Sl H 4 w (dN l)
 pu:cK 4 w (dN l)
 v:w.val=true
 c:w.cells=[w]
 z:∀ b k h,bL b k w h=some (w,h)
 cl:w.closed=true
 nn:l≠[]->Gi false w=some (.bool false)
theorem aqd{f:Bool}{z:Nat}{l:List KQ}(hz:z=4\/dN l=[]):Jr l (oh f z (dN l)):=by
 refine⟨fun H=>FR hz f H,by unfold oh;split<;>exact .inr ⟨z,by simp,hz⟩,L9 _ _ _,Mg _ _ _,fun b k h=>FP _ _ _ _ _ _,Mh _ _ _,fun hn=>?_⟩
 cases l with
 |nil=>exact absurd rfl hn
 |cons a r=>unfold oh;split<;>rfl
theorem Wx{v:AV}{l:List KQ}(hp:cK 4 v (dN l)):v.val=true/\v.cells=[v]/\∃ w,Jr l w/\∀ b k h,bL b k v h=some (w,h):=by
 obtain⟨q1,q2,f,z,hz,q3⟩:=MI hp;exact⟨q1,q2,_,aqd hz,q3⟩
theorem aqe{v:AV}{l:List KQ}(hp:cK 4 v (dN l))(hl:l.length<=9223372036854775807)(hf:∀ a∈l,o8 a)(ok:Bool):∃ w,Jr l w/\∀(h:Heap) (lo:Nat),
  (run lib).fn 72 [.agg [v],.bool ok] h lo=some (if (ok&&pK l)then .tuple [.agg [w],.int .i64 0]else .tuple [.agg [.aW 0 []],.int .i64 190],h):=by
 obtain⟨q1,q2,w,pw,q3⟩:=Wx hp;refine⟨w,pw,fun h lo=>?_⟩;have pv:=fun H lo=>MO (h:=H) (pw.sl H) hl hf lo;have w1:=pw.v;have w2:=pw.c;have w3:=pw.z;have w4:=pw.cl;rw[bW (x:=KP) rfl rfl rfl rfl]
 cases ok with
 |false =>
  simp only[Bool.false_and,iw,if_false]
  simp(maxSteps:=30000000)(disch:=omega)only[go_sem,KP,q1,q2,q3,w1,w2,w3,w4]
 |true =>
  cases hv:pK l with
  |false =>
   rw[hv]at pv;simp only[Bool.and_false,iw,if_false]
   simp(maxSteps:=30000000)(disch:=omega)only[go_sem,KP,q1,q2,q3,w1,w2,w3,w4,pv]
  |true =>
   rw[hv]at pv;simp only[w9,if_true];simp(maxSteps:=30000000)(disch:=omega)only[go_sem,KP,q1,q2,q3,w1,w2,w3,w4,pv]
theorem aqf{w:AV}{l:List KQ}(pw:Jr l w)(hn:l≠[])(hl:l.length<=100000)(h:Heap)(lo:Nat):(run lib).fn 71 [w] h lo=some (.own 4 (dN l),h):=by
 have nn:=pw.nn hn;have src:=fun H=>KJ (pw.sl H);have hk:dN l≠[]:=by simpa[dN]using hn
 have ap:=abj (lo:=h.length) (ns:=1) (s:=0) (z:=4) (lim:=2199023255552) (ai:=0) (h:=h) (fr:=[(0,.dead)]) (b:=.dead) (xs:=dN l) (by omega) rfl hk (by simp;omega)
 have gv:=Hl (s:=0) (ai:=1) (z:=4) (h:=h) (fr:=[(1,.arr 4 (dN l))]) (es:=dN l) rfl;rw[bW (x:=TI) rfl rfl rfl rfl]
 have gr:jf h.length (.ref (h.length+0) 1 4 0 (dN l).length (dN l).length) (h++[(1,.arr 4 (dN l))])=some (.own 4 (dN l)):=by
  simp only[jf,gv,Option.map_some]
 simp(maxSteps:=30000000)(disch:=omega)only[go_sem,TI,nn,src,ap,gr]
def swp(a:KQ):KQ:=(a.2,a.1)
def rW(l:List KQ)(k:Nat):List KQ:=(l.take k).map swp++l.drop k
theorem aej(l:List KQ)(k:Nat)(h:k<=l.length):(rW l k).length=l.length:=by simp[rW];omega
theorem aqg{l:List KQ}{k:Nat}(h:k<l.length):(rW l k)[k]'(by rw[aej _ _ (by omega)];exact h)=l[k]:=by
 unfold rW;rw[List.getElem_append_right (by simp[Nat.min_le_left])]
 simp[zG (show k<=l.length by omega)]
theorem aqh{l:List KQ}{k:Nat}(h:k<l.length):(rW l k).set k (swp l[k])=rW l (k+1):=by
 unfold rW;have h1:((l.take k).map swp).length=k:=by simp;omega
 have h2:(l.take k).map swp++l.drop k=(l.take k).map swp++l[k]::l.drop (k+1):=by rw[<-qH h]
 rw[h2,List.set_append_right _ _ (by omega),h1,Nat.sub_self,List.set_cons_zero,zR h,List.map_append,jO]
 rfl
theorem aqi{lo ns:Nat}{h fr:Heap}{s ai len i:Nat}{l:List KQ}{a:KQ}(hid:fr[s]?=some (ai,.arr 4 (dN l)))(hl:l.length=len)(hi:i<l.length)(hlo:lo<=h.length) :
  iX ⟨lo,h.length,ns,none⟩ (h++fr) 4 (.gu (.ref (h.length+s) ai 4 0 len len) i 0) (eZ a)=some (h++fr.set s (ai,.arr 4 (dN (l.set i a)))):=by
 have he:(dN l)[i]?=some (eZ l[i]):=by simp[dN,hi]
 have mP:(h++fr)[h.length+s]?=some (ai,.arr 4 (dN l)):=by rw[cO];exact hid
 subst hl;unfold eZ at*;simp only[iX,bL,jT,AV.cells,AV.val,mP,zb,oO,bC,hi,and_self,if_true,Option.bind_some,he,List.length_cons,List.length_nil,show lo<=h.length+s by omega,splice,Option.map_some]
 simp[gy,dN,eZ,List.map_set]
theorem aqj(h:Heap)(l:List KQ)(hl:l.length<=100000)(ok:Bool)(B:Nat×au):∀(d k:Nat),k+d=l.length->∀ b0:Nat×au,∃ b1:Nat×au,
  aQ lib ⟨h.length,h.length,4,none⟩ (.loop Tw) ([(2,.aF (h.length+3) 1 0),(4,.bool ok),(5,.aF (h.length+2) 1 0),(15,.ref (h.length+1) 1 4 0 l.length l.length),(16,.int .i64 l.length),(17,.int .i64 k)],h++[b0,(1,.arr 4 (dN (rW l k))),(1,.box [.ref (h.length+1) 1 4 0 l.length l.length]),B]) =
   some (.exit 0,([(2,.aF (h.length+3) 1 0),(4,.bool ok),(5,.aF (h.length+2) 1 0)],h++[b1,(1,.arr 4 (dN (l.map swp))),(1,.box [.ref (h.length+1) 1 4 0 l.length l.length]),B])):=by
 intro d
 induction d with
 |zero =>
  intro k hk b0;obtain rfl:k=l.length:=by omega
  have e:rW l l.length=l.map swp:=by simp[rW]
  refine⟨b0, ?_⟩;rw[e,bU]
  simp(maxSteps:=30000000)(disch:=omega)only[go_sem,nR]
 |succ d ih =>
  intro k hk b0;obtain⟨v0,c0⟩:=b0;have hk':k<l.length:=by omega
  have h1:(k:Int)<l.length:=by omega
  have hu:(rW l k).length=l.length:=aej _ _ (by omega)
  obtain⟨b1,e⟩:=ih (k+1) (by omega) (v0+1,.box (ic l[k]))
  rw[jo]at e;refine⟨b1, ?_⟩
  have sl:=fun(fr:Heap) (hfr:fr[1]?=some (1,.arr 4 (dN (rW l k))))=>by
   have:=Sl.G5 (h:=h) (fr:=fr) (s:=1) (ai:=1) (z:=4) (es:=dN (rW l k)) hfr;rw[zb,hu]at this;exact this
  have e3:iM 4 (.ref (h.length+1) 1 4 0 l.length l.length) (.int .i64 (k:Int))=some k:=by rw[kr (sl [b1,(1,.arr 4 (dN (rW l k)))] rfl) (by omega) (by simp;omega)];rfl
  have e4:=fun fr hfr off=>jV (off:=off) (sl fr hfr).jW (show k<(dN (rW l k)).length by simp;omega)
  simp only[FZ,aqg hk',eZ]at e4;have e5:=fun b=>e4 [b,(1,.arr 4 (dN (rW l k))),(1,.box [.ref (h.length+1) 1 4 0 l.length l.length]),B] rfl;have ps:=fun b=>aqi (lo:=h.length) (ns:=4) (h:=h) (fr:=[b,(1,.arr 4 (dN (rW l k))),(1,.box [.ref (h.length+1) 1 4 0 l.length l.length]),B]) (s:=1) (ai:=1) (i:=k) (a:=swp l[k]) rfl hu (by omega) (bC _)
  simp only[aqh hk']at ps;simp only[swp,eZ,List.set_cons_succ,List.set_cons_zero]at ps;simp only[ic]at e;rw[bU];simp(maxSteps:=30000000)(disch:=omega)only[go_sem,h1,e3,e5,ps,e]
theorem aqk{a:KQ}(h:o8 a):o8 (swp a):=⟨h.y,h.x⟩
theorem aql{v:AV}{l:List KQ}(hp:cK 4 v (dN l))(hn:l≠[])(hl:l.length<=100000)(hf:∀ a∈l,o8 a):∃ w,Jr (l.map swp) w/\∀(h:Heap) (lo:Nat),
  (run lib).fn 38 [.agg [v]] h lo=some (if (pK l&&pK (l.map swp))then .tuple [.agg [w],.int .i64 0]else .tuple [.agg [.aW 0 []],.int .i64 190],h):=by
 obtain⟨q1,q2,w,pw,q3⟩:=Wx hp;have hk:dN (l.map swp)≠[]:=by simpa[dN]using hn
 have pm:cK 4 (.aW 4 (dN (l.map swp))) (dN (l.map swp)):=.inr ⟨4,.inl rfl,.inl rfl⟩;obtain⟨w',pw',hc⟩:=aqe pm (by simp;omega) (fun a ha=>by obtain⟨b,hb,rfl⟩:=List.mem_map.mp ha;exact aqk (hf b hb)) (pK l)
 refine⟨w',pw',fun h lo=>?_⟩;have pv:=fun H lo=>MO (h:=H) (pw.sl H) (by omega) hf lo
 have w1:=pw.v;have w2:=pw.c;have w3:=pw.z;have w4:=pw.cl;have ck:=fun H lo=>aqf pw hn hl H lo;obtain⟨b1,e⟩:=aqj h l hl (pK l) (1,.box [.aP]) l.length 0 (by omega) (0,.dead)
 have e0:rW l 0=l:=by simp[rW]
 have hz:((0:Nat):Int)=0:=rfl;rw[e0,hz]at e;have hkl:(dN l)≠[]:=by simpa[dN]using hn
 have ow:=Ta (lo:=h.length) (ns:=4) (s:=1) (z:=4) (h:=h) (fr:=[(0,.dead),(0,.dead),(0,.dead),(1,.box [.aP])]) (b0:=(0,.dead)) (es:=dN l) (by omega) rfl hkl
 rw[show qF 4 (dN l)=.own 4 (dN l)from if_neg hkl,zb]at ow
 have lr:oH false (.ref (h.length+1) 1 4 0 l.length l.length)=some (.int .i64 l.length):=by
  have:=iB (Sl.G5 (h:=h) (fr:=[(0,.dead),(1,.arr 4 (dN l))]) (s:=1) (ai:=1) (z:=4) (es:=dN l) rfl).len
  rwa [zb]at this
 have fz:∀ B:Nat×au,bL h.length false (.ref (h.length+1) 1 4 0 l.length l.length) (h++[b1,(1,.arr 4 (dN (l.map swp))),B,(1,.box [.aP])])=some (.aW 4 (dN (l.map swp)),h++[b1,(1,.dead),B,(1,.box [.aP])]):=fun B=>by
  have hg:(h++[b1,(1,.arr 4 (dN (l.map swp))),B,(1,.box [.aP])])[h.length+1]?=some (1,.arr 4 (dN (l.map swp))):=by rw[cO];rfl
  have hs:=gy h [b1,(1,.arr 4 (dN (l.map swp))),B,(1,.box [.aP])] 1 (1,.dead);have ht:(dN (l.map swp)).take l.length=dN (l.map swp):=Az (by simp)
  simp[bL,iV,hg,hs,ht]
 have le:h.length<=h.length+2:=by omega
 rw[bW (x:=x38) rfl rfl rfl rfl]
 cases hB:(pK l&&pK (l.map swp)) with
 |false =>
  simp only[hB,iw,if_false]at hc⊢
  simp(maxSteps:=30000000)(disch:=omega)only[go_sem,x38,q1,q2,q3,w1,w2,w3,w4,pv,ck,ow,lr,e,fz,hc,gy,le]
 |true =>
  simp only[hB,if_true]at hc⊢;have w5:=pw'.v;have w6:=pw'.c;have w7:=pw'.z;simp(maxSteps:=30000000)(disch:=omega)only[go_sem,x38,q1,q2,q3,w1,w2,w3,w4,pv,ck,ow,lr,e,fz,hc,gy,le,w5,w6,w7]
end Go.VI.Dump
namespace Go.VI.Dump
open Go.VI.Num
/- BIGSTEPS -/
theorem aqm(l:List Rat)(k:Nat)(h:k<(rts l).length):(rts l)[k]=rt (l[k]'(by simpa using h)):=by simp[rts]
theorem aqn{h:Heap}{v:AV}{l:List Rat}(hv:Sl h 2 v (rts l))(hl:l.length<=9223372036854775807){g:Nat}(hg:g<1000){caps:List AV}{p:Rat->Bool}
  (hF:∀ x∈l,∀ lo,(run lib).fn g (rt x::caps) h lo=some (.bool (p x),h)) (lo:Nat):∀(d k:Nat),k+d=l.length ->
  aQ lib ⟨lo,h.length,0,none⟩ (.loop TQ) ([(0,v),(1,.fn g caps),(7,.int .i64 l.length),(8,.int .i64 k)],h) =
   match qK l p k with|some r=>some (.ret,([(4,.int .i64 r)],h))|none=>some (.exit 0,([],h)):=by
 intro d
 induction d with
 |zero =>
  intro k hk;obtain rfl:k=l.length:=by omega
  rw[VL,bU]
  simp(maxSteps:=30000000)(disch:=omega)only[go_sem,nR]
 |succ d ih =>
  intro k hk;have hk':k<l.length:=by omega
  have h1:(k:Int)<l.length:=by omega
  have e3:iM 2 v (.int .i64 k)=some k:=by rw[kr hv (by omega) (by simp;omega)];simp
  have e4:=fun off=>jV (off:=off) hv.jW (show k<(rts l).length by simp;omega)
  simp only[aqm,rt,bY]at e4;have f:=fun lo=>hF l[k] (l9 _) lo;simp only[rt,bY]at f
  cases hp:p l[k] with
  |true =>
   rw[VO hk' hp,bU];rw[hp]at f
   simp(maxSteps:=30000000)(disch:=omega)only[go_sem,h1,e3,e4,f,hg,List.cons_append,List.nil_append]
  |false =>
   rw[VP hk' hp,bU];rw[hp]at f;have e:=ih (k+1) (by omega)
   rw[jo]at e;simp(maxSteps:=30000000)(disch:=omega)only[go_sem,h1,e3,e4,f,hg,List.cons_append,List.nil_append,e]
theorem aqo{h:Heap}{v:AV}{l:List Rat}(hv:Sl h 2 v (rts l))(hl:l.length<=9223372036854775807){g:Nat}(hg:g<1000){caps:List AV}{p:Rat->Bool}
  (hF:∀ x∈l,∀ lo,(run lib).fn g (rt x::caps) h lo=some (.bool (p x),h)) (lo:Nat):(run lib).fn 106 [v,.fn g caps] h lo=some (.int .i64 (za l p),h):=by
 have e:=aqn hv hl hg hF h.length l.length 0 (by omega)
 have ll:=iB hv.len;rw[apR]at ll;unfold za;simp only[qX]at e;rw[bW (x:=O6) rfl rfl rfl rfl]
 cases hr:qK l p 0 with
 |none=>rw[hr]at e;simp(maxSteps:=30000000)(disch:=omega)only[go_sem,O6,ll,e]
 |some r=>rw[hr]at e;simp(maxSteps:=30000000)(disch:=omega)only[go_sem,O6,ll,e]
theorem aqp{h:Heap}{v:AV}{l:List Rat}(hv:Sl h 2 v (rts l))(hl:l.length<=9223372036854775807){g:Nat}(hg:g<1000){caps:List AV}{p:Rat->Bool}
  (hF:∀ x∈l,∀ lo,(run lib).fn g (rt x::caps) h lo=some (.bool (p x),h)) (lo:Nat):(run lib).fn 79 [v,.fn g caps] h lo=some (.bool (l.any p),h):=by
 have e:=fun lo=>aqo hv hl hg hF lo;have hn:=VT (l:=l) (p:=p);rw[<-hn];rw[bW (x:=TL) rfl rfl rfl rfl];simp(maxSteps:=30000000)(disch:=omega)only[go_sem,TL,e]
theorem aek(a b:Rat):decide (lY a b<=0)=decide (a<=b):=by
 rcases UW a b with⟨e,l⟩|⟨e,l⟩|⟨e,l⟩
 ·rw[e,show decide (a<=b)=true from decide_eq_true (by grind)];rfl
 ·rw[e,l,show decide (b<=b)=true from decide_eq_true Rat.le_refl];rfl
 ·rw[e,show decide (a<=b)=false from decide_eq_false (by grind)];rfl
def CZ(a x b:Rat):Bool:=decide (a<=x)&&decide (x<=b)
theorem aqr{a x b:Rat}(ha:gV a)(hx:gV x)(hb:gV b)(h:Heap)(lo:Nat):(run lib).fn 77 [rt a,rt x,rt b] h lo=some (.bool (CZ a x b),h):=by
 have q1:=fun H lo=>Bq ha hx H lo;have q2:=fun H lo=>Bq hx hb H lo;have n1:=aek a x;have n2:=aek x b;unfold CZ;rw[<-n1,<-n2];simp only[rt,bY]at q1 q2⊢;rw[bW (x:=O3) rfl rfl rfl rfl];by_cases c1:lY a x<=0
 ·simp(maxSteps:=30000000)(disch:=omega)only[go_sem,O3,q1,q2,c1]
 ·simp(maxSteps:=30000000)(disch:=omega)only[go_sem,O3,q1,q2,c1]
theorem aqs{a x b:Rat}(ha:gV a)(hx:gV x)(hb:gV b)(h:Heap)(lo:Nat) :
  (run lib).fn 76 [rt x,.bR [.str (aH a.num),.str (aH (a.den:Int))],.bR [.str (aH b.num),.str (aH (b.den:Int))]] h lo=some (.bool (!CZ a x b),h):=by
 have q:=fun H lo=>aqr ha hx hb H lo;simp only[rt,bY]at q⊢;rw[bW (x:=TK) rfl rfl rfl rfl];simp(maxSteps:=30000000)(disch:=omega)only[go_sem,TK,q]
theorem ael{l:List KQ}(hw:∀ k (hk:k+1<l.length),(rU l[k] l[k+1]).isSome=true):∀ q∈mG l,gV q:=by
 match l with
 |[]=>intro q hq;simp[mG]at hq
 |[a]=>intro q hq;simp[mG]at hq
 |a::b::r =>
  intro q hq;rw[mG,ko]at hq;rcases hq with rfl|hq
  ·obtain⟨s,hs⟩:=xh.mp (hw 0 (by simp))
   obtain⟨e,hf⟩:=QZ hs;rw[e]at hf;exact hf
  ·exact ael (l:=b::r) (fun k hk=>hw (k+1) (by simpa using hk)) q hq
theorem aem:∀ l:List KQ,(mG l).length<=l.length
 |[]=>by simp[mG]
 |[a]=>by simp[mG]
 |a::b::r=>by
  have:=aem (b::r);simp only[mG,List.length_cons]at this⊢;omega
theorem aqt{v:AV}{l:List KQ}(hp:cK 4 v (dN l))(hl:l.length<=9223372036854775807)(hf:∀ a∈l,o8 a){a b:Rat}(ha:gV a)(hb:gV b)(h:Heap)(lo:Nat) :
  (run lib).fn 40 [.agg [v],rt a,rt b] h lo=some (.bool (pK l&&!((mG l).any fun q=>!CZ a q b)),h):=by
 obtain⟨q1,q2,w,pw,q3⟩:=Wx hp;have w1:=pw.v;have w2:=pw.c;have w3:=pw.z;have w4:=pw.cl;have sp:=fun H lo=>apW pw.pu hl hf H lo;have va:=fun H lo=>Ea (aH a.num) (aH (a.den:Int)) H lo;have vb:=fun H lo=>Ea (aH b.num) (aH (b.den:Int)) H lo;rw[MF ha]at va;rw[MF hb]at vb;rw[bW (x:=x40) rfl rfl rfl rfl]
 cases hv:pK l with
 |false =>
  simp only[hv,iw,if_false]at sp;simp only[Bool.false_and];simp only[rt,bY]at va vb⊢
  simp(maxSteps:=30000000)(disch:=omega)only[go_sem,x40,q1,q2,q3,w1,w2,w3,w4,sp,va,vb]
 |true =>
  simp only[hv,if_true]at sp;obtain⟨n2,n24,M5⟩:=Wu hv;have cf:=fun H lo=>aqp (v:=.aW 2 (rts (mG l))) (g:=76) (caps:=[.bR [.str (aH a.num),.str (aH (a.den:Int))],.bR [.str (aH b.num),.str (aH (b.den:Int))]]) (p:=fun q=>!CZ a q b) (Sl.aW H 2 (rts (mG l))) (by have:=aem l;omega) (by decide) (fun q hq lo=>aqs ha (ael (fun k hk=>(M5 k hk).2) q hq) hb H lo) lo
  simp only[Bool.true_and];simp only[rt,bY]at va vb⊢;simp(maxSteps:=30000000)(disch:=omega)only[go_sem,x40,q1,q2,q3,w1,w2,w3,w4,sp,va,vb,cf]
end Go.VI.Dump
namespace Go.VI.Dump
open Go.VI.Num
def Sm(B:Nat)(q:Rat):Prop:=q.num.natAbs<=B/\q.den<=B
theorem aen{z:Int}(h:xK z):Sm 100000 (z:Rat):=⟨by rw[Ie];exact Qe h,by rw[Rat.den_intCast];decide⟩
theorem aeo{a b:Int}(ha:xK a)(hb:xK b)(h0:b≠0):Sm 100000 ((a:Rat)/(b:Rat)):=by
 rw[<-Rat.divInt_eq_div];obtain⟨h1,h2⟩:=UZ (n:=a) h0;exact⟨ng h1 (Qe ha),ng h2 (Qe hb)⟩
theorem Wz:10^40<=10^200:=yP (by decide) (by decide)
theorem Js{z:Int}(h:z.natAbs<10^40):mD z=true:=decide_eq_true (uF h Wz)
theorem Q6:10^40=10000000000000000000000000000000000000000:=by decide
theorem aqu{B C:Nat}{a b:Rat}(ha:Sm B a)(hb:Sm C b)(h:B*C<10^40):Bf a b=some (a*b)/\Sm (B*C) (a*b):=by
 have h1:(a.num*b.num).natAbs<=B*C:=by rw[Int.natAbs_mul];exact Nat.mul_le_mul ha.1 hb.1
 have h2:((a.den:Int)*b.den).natAbs<=B*C:=by rw[Int.natAbs_mul,vC,vC];exact Nat.mul_le_mul ha.2 hb.2
 refine⟨?_, ?_⟩
 ·unfold Bf;rw[Js (by omega),Js (by omega)]
  rfl
 ·rw[<-UX];obtain⟨k1,k2⟩:=UZ (n:=a.num*b.num) (IG a b);exact⟨ng k1 h1,ng k2 h2⟩
theorem aqv{B C:Nat}{a b:Rat}(ha:Sm B a)(hb:Sm C b)(h:2*(B*C)<10^40):DR a b=some (a+b)/\Sm (2*(B*C)) (a+b):=by
 have h1:(a.num*b.den).natAbs<=B*C:=by rw[Int.natAbs_mul,vC];exact Nat.mul_le_mul ha.1 hb.2
 have h2:(b.num*a.den).natAbs<=B*C:=by rw[Int.natAbs_mul,vC,vk];exact Nat.mul_le_mul ha.2 hb.1
 have h3:((a.den:Int)*b.den).natAbs<=B*C:=by rw[Int.natAbs_mul,vC,vC];exact Nat.mul_le_mul ha.2 hb.2
 have h4:(a.num*b.den+b.num*a.den).natAbs<=2*(B*C):=by
  have:=Int.natAbs_add_le (a.num*b.den) (b.num*a.den);omega
 refine⟨?_, ?_⟩
 ·unfold DR;rw[Js (by omega),Js (by omega),Js (by omega),Js (by omega)]
  rfl
 ·rw[<-acg];obtain⟨k1,k2⟩:=UZ (n:=a.num*b.den+b.num*a.den) (IG a b);exact⟨ng k1 h4,ng k2 (by omega)⟩
theorem aep{B:Nat}{q:Rat}(h:Sm B q)(hB:B<10^40):gV q:=⟨uF (Nat.lt_of_le_of_lt h.1 hB) Wz,uF (Nat.lt_of_le_of_lt h.2 hB) Wz⟩
def sw(p:Pr):Pr:=(p.2,p.1)
theorem Nb{p:Pr}(h:ze p):ze (sw p):=⟨h.2,h.1⟩
theorem aqw(K:List Pr):(K.map qk).map swp=(K.map sw).map qk:=by
 rw[List.map_map,List.map_map];rfl
theorem aqx{l:iD}{A:List Int}{a:Pr}{K:List Pr}(h:Kn l A a K):(∀ p∈a::K,ze p)->xW false (((a::K).map sw).map qk)=some false:=by
 induction h with
 |one a=>intro _;rfl
 |@cons a b K s h ih =>
  intro hp;have i:=ih fun p h=>hp p (Du _ h);rw[List.map_cons,List.map_cons]at i;rw[List.map_cons,List.map_cons,List.map_cons,List.map_cons,xW]
  have hi:rV (qk (sw a)) (qk (sw b))=true:=by
   have h1:(qk (sw a)).1<(qk (sw b)).1:=Rat.intCast_lt_intCast.mpr s.y;have h2:(qk (sw a)).2<(qk (sw b)).2:=Rat.intCast_lt_intCast.mpr s.x;unfold rV;rw[decide_eq_true h1,decide_eq_true h2];rfl
  rw[hi,if_pos rfl,Wq (Nb (hp a (by simp))) (Nb (hp b (by simp))) s.y]
  exact i
def C8(p q:Pr)(t:Int):Rat:=(p.1:Rat)+QS (sw p) (sw q)*((t-p.2:Int):Rat)
theorem aqy{p q:Pr}(hp:ze p)(hq:ze q)(hy:p.2<q.2){t:Int}(h1:p.2<=t)(h2:t<=q.2):BJ (qk (sw p)) (qk (sw q)) (t:Rat)=some (C8 p q t)/\gV (C8 p q t):=by
 have hs:=Wq (Nb hp) (Nb hq) hy;obtain⟨⟨a1,a2⟩,a3,a4⟩:=hp;obtain⟨⟨b1,b2⟩,b3,b4⟩:=hq;have hd:um (t:Rat) (qk (sw p)).1=some ((t-p.2:Int):Rat):=U5 ⟨by omega,by omega⟩ ⟨by simp only[sw];omega,by simp only[sw];omega⟩
 have s1:Sm 100000 (QS (sw p) (sw q)):=aeo ⟨by simp only[sw];omega,by simp only[sw];omega⟩ ⟨by simp only[sw];omega,by simp only[sw];omega⟩ (by simp only[sw];omega)
 have s2:Sm 100000 ((t-p.2:Int):Rat):=aen ⟨by omega,by omega⟩
 obtain⟨m1,m2⟩:=aqu s1 s2 (by rw[Q6];decide)
 have s3:Sm 100000 (p.1:Rat):=aen ⟨by omega,by omega⟩
 obtain⟨k1,k2⟩:=aqv s3 m2 (by rw[Q6];decide)
 refine⟨?_,aep k2 (by rw[Q6];decide)⟩
 unfold BJ;rw[hd,hs];simp only[Option.bind_some];rw[m1];exact k1
theorem aer{q:Rat}(hq:gV q){z:Int}(h1:(z:Rat)<=q)(h2:q<((z+1:Int):Rat)):Ef q 0 false=some (z:Rat):=by
 have hf:CF q 0=z:=by
  have e:CF q 0=q.floor:=by
   rw[amB];congr 1
   show q*((10^0:Int):Rat)=q
   rw[Int.pow_zero];exact Rat.mul_one q
  rw[e];have a1:=Rat.le_floor_iff.mpr h1
  have a2:¬ (z+1)<=q.floor:=fun h=>by
   have:=Rat.le_floor_iff.mp h;exact absurd h2 (Rat.not_lt.mpr this)
  omega
 unfold Ef
 have hz:mD (q.num*10^0)=true:=by
  rw[Int.pow_zero,Int.mul_one];exact decide_eq_true hq.1
 rw[hz,if_pos rfl];simp only[iw,if_false];unfold P8;rw[hf,Rat.divInt_eq_div,Int.pow_zero];have e1:((1:Int):Rat)=1:=rfl;rw[e1];congr 1;grind
theorem aqz{N D T z:Int}(hD:0<D)(h1:z*D<=N*T)(h2:N*T<(z+1)*D):(z:Rat)<=(N:Rat)/(D:Rat)*(T:Rat)/\(N:Rat)/(D:Rat)*(T:Rat)<((z+1:Int):Rat):=by
 have hp:(0:Rat)<(D:Rat):=Rat.intCast_pos.mpr hD;have h0:(D:Rat)≠0:=fun e=>by rw[e]at hp;exact absurd hp (by decide)
 have hX:(N:Rat)/(D:Rat)*(T:Rat)*(D:Rat)=((N*T:Int):Rat):=by
  rw[Rat.mul_assoc,Rat.mul_comm (T:Rat),<-Rat.mul_assoc,Rat.div_mul_cancel h0,Rat.intCast_mul]
 constructor
 ·refine Rat.le_of_mul_le_mul_right (c:=(D:Rat)) ?_ hp;rw[hX,<-Rat.intCast_mul];exact Rat.intCast_le_intCast.mpr h1
 ·refine Rat.not_le.mp fun h=>?_;have:=Rat.mul_le_mul_of_nonneg_right h (Rat.le_of_lt hp);rw[hX,<-Rat.intCast_mul]at this;have:=Rat.intCast_le_intCast.mp this;omega
theorem aes{l:iD}(hE:1<=l.E){A:List Int}{p q:Pr}(s:Seg l A p q){t:Int}(h1:p.2<=t)(h2:t<q.2):∃ z,A[t.toNat]?=some z/\(z:Rat)<=C8 p q t/\C8 p q t<((z+1:Int):Rat):=by
 obtain⟨sx,sy,f,ln,ar⟩:=s;have ha:=ar t h1 h2
 have key:∀ z:Int,z*(q.2-p.2)<=(q.1-p.1)*(t-p.2)->(q.1-p.1)*(t-p.2)<(z+1)*(q.2-p.2)->((p.1+z:Int):Rat)<=C8 p q t/\C8 p q t<((p.1+z+1:Int):Rat):=fun z k1 k2=>by
  obtain⟨f1,f2⟩:=aqz (show 0<q.2-p.2 by omega) k1 k2
  unfold C8 QS;simp only[sw];rw[Rat.intCast_add,show p.1+z+1=p.1+(z+1) by omega,Rat.intCast_add p.1 (z+1)]
  exact⟨Rat.add_le_add_left.mpr f1,Rat.add_lt_add_left.mpr f2⟩
 cases f with
 |false =>
  simp only[Line,iw,if_false]at ln;simp only[vl,iw,if_false]at ha;refine⟨_,ha,key (t-p.2) ?_ ?_⟩
  ·rw[ln,vo];exact pW _
  ·rw[<-ln,vo (q.2-p.2),Int.add_mul];omega
 |true =>
  simp only[Line,if_true]at ln;simp only[vl,if_true]at ha;obtain⟨n,e1,e2⟩:=ln
  have hn:(0:Int)<n:=by
   rcases vg n with rfl|h
   ·simp at e1;omega
   ·omega
  have d1:l.E*(t-p.2)/(l.E+1)*(l.E+1)<=l.E*(t-p.2):=Int.ediv_mul_le _ (by omega)
  have d2:l.E*(t-p.2)<(l.E*(t-p.2)/(l.E+1)+1)*(l.E+1):=Int.lt_ediv_add_one_mul_self _ (by omega)
  have g1:q.1-p.1=n*l.E:=by omega
  have g2:q.2-p.2=n*(l.E+1):=by omega
  refine⟨_,ha,key (l.E*(t-p.2)/(l.E+1)) ?_ ?_⟩
  ·rw[g1,g2,Int.mul_assoc,Int.mul_left_comm];exact Cw d1 (by omega)
  ·rw[g1,g2,Int.mul_assoc,Int.mul_left_comm (_+1)];exact Int.mul_lt_mul_of_pos_left d2 hn
theorem aqA{l:iD}(hE:1<=l.E){A:List Int}{p q:Pr}(s:Seg l A p q):CZ 1 (Eu (qk p) (qk q)) (((l.E+1:Int):Rat)/(l.E:Rat))=true:=by
 obtain⟨sx,sy,f,ln,_⟩:=s
 have e:Eu (qk p) (qk q)=((q.2-p.2:Int):Rat)/((q.1-p.1:Int):Rat):=by
  unfold Eu qk;simp only[Rat.intCast_sub]
 have hx:(0:Rat)<((q.1-p.1:Int):Rat):=Rat.intCast_pos.mpr (by omega)
 have hE0:(0:Rat)<(l.E:Rat):=Rat.intCast_pos.mpr (by omega)
 have hx0:((q.1-p.1:Int):Rat)≠0:=fun e=>by rw[e]at hx;exact absurd hx (by decide)
 have hE1:(l.E:Rat)≠0:=fun e=>by rw[e]at hE0;exact absurd hE0 (by decide)
 have c1:(1:Rat)<=((l.E+1:Int):Rat)/(l.E:Rat):=by
  refine Rat.le_of_mul_le_mul_right (c:=(l.E:Rat)) ?_ hE0;rw[Rat.div_mul_cancel hE1,Rat.one_mul];exact Rat.intCast_le_intCast.mpr (by omega)
 unfold CZ;rw[e]
 cases f with
 |false =>
  simp only[Line,iw,if_false]at ln;rw[ln]
  have:((q.1-p.1:Int):Rat)/((q.1-p.1:Int):Rat)=1:=by
   generalize ((q.1-p.1:Int):Rat)=X at*;grind
  rw[this,decide_eq_true Rat.le_refl,decide_eq_true c1]
  rfl
 |true =>
  simp only[Line,if_true]at ln;obtain⟨n,e1,e2⟩:=ln;have g1:q.1-p.1=n*l.E:=by omega
  have g2:q.2-p.2=n*(l.E+1):=by omega
  have:((q.2-p.2:Int):Rat)/((q.1-p.1:Int):Rat)=((l.E+1:Int):Rat)/(l.E:Rat):=by
   rw[g1]at hx0;rw[g1,g2,Rat.intCast_mul,Rat.intCast_mul];rw[Rat.intCast_mul]at hx0;generalize (((n:Int)):Rat)=N at*;generalize (l.E:Rat)=E at*;generalize ((l.E+1:Int):Rat)=F at*;grind
  rw[this,decide_eq_true c1,decide_eq_true Rat.le_refl];rfl
theorem aqB{l:iD}(hE:1<=l.E){A:List Int}{a:Pr}{K:List Pr}(h:Kn l A a K):(mG ((a::K).map qk)).any (fun q=>!CZ 1 q (((l.E+1:Int):Rat)/(l.E:Rat)))=false:=by
 induction h with
 |one a=>rfl
 |@cons a b K s h ih =>
  rw[List.map_cons]at ih;rw[List.map_cons,List.map_cons,mG,List.any_cons,aqA hE s,ih];rfl
theorem aqC{l:iD}{A:List Int}{a:Pr}{K:List Pr}(h:Kn l A a K):∀ p∈a::K,∀ y,((a::K).getLast?).map (·.2)=some y->p.2<y->∃ q∈a::K,Seg l A p q:=by
 induction h with
 |one a =>
  intro p hp y hy hlt;obtain rfl:p=a:=by simpa using hp
  simp at hy
  omega
 |@cons a b K s h ih =>
  intro p hp y hy hlt;rw[List.getLast?_cons_cons]at hy;rcases ko.mp hp with rfl|hp
  ·exact⟨b,by simp,s⟩
  ·obtain⟨q,hq,sq⟩:=ih p hp y hy hlt;exact⟨q,Du _ hq,sq⟩
theorem aqD{l:iD}{A:List Int}{t:Int}{a:Pr}{K:List Pr}(h:Kn l A a K):a.2<t->(∀ p∈K,p.2≠t)->∀ y,((a::K).getLast?).map (·.2)=some y->t<y ->
  ∃ p q,Seg l A p q/\p∈a::K/\q∈a::K/\p.2<t/\t<q.2/\Gg (t:Rat) (((a::K).map sw).map qk)=some (BJ (qk (sw p)) (qk (sw q)) (t:Rat)):=by
 induction h with
 |one a =>
  intro h1 _ y hy hlt;simp at hy
  omega
 |@cons a b K s h ih =>
  intro h1 hne y hy hlt;rw[List.getLast?_cons_cons]at hy;rw[List.map_cons,List.map_cons,List.map_cons,List.map_cons,Gg];have k1:decide ((qk (sw a)).1<(t:Rat))=true:=decide_eq_true (Rat.intCast_lt_intCast.mpr h1);by_cases c:t<b.2
  ·have k2:decide ((t:Rat)<(qk (sw b)).1)=true:=decide_eq_true (Rat.intCast_lt_intCast.mpr c);have hb:xY (qk (sw a)) (qk (sw b)) (t:Rat)=true:=by unfold xY;rw[k1,k2];rfl
   rw[hb,if_pos rfl];exact⟨a,b,s,by simp,by simp,h1,c,rfl⟩
  ·have k2:decide ((t:Rat)<(qk (sw b)).1)=false:=decide_eq_false fun h=>c (Rat.intCast_lt_intCast.mp h);have hb:xY (qk (sw a)) (qk (sw b)) (t:Rat)=false:=by unfold xY;rw[k1,k2];rfl
   rw[hb,if_neg Bool.false_ne_true];have hbt:=hne b (by simp)
   obtain⟨p,q,g1,g2,g3,g4⟩:=ih (by omega) (fun p hp=>hne p (Du _ hp)) y hy hlt
   rw[List.map_cons,List.map_cons]at g4;exact⟨p,q,g1,Du _ g2,Du _ g3,g4⟩
theorem aqE{l:iD}(hE:1<=l.E){A:List Int}{a:Pr}{K:List Pr}(h:Kn l A a K)(hp:∀ p∈a::K,ze p){y t:Int}(hy:((a::K).getLast?).map (·.2)=some y)(h1:a.2<=t)(h2:t<y) :
  ∃ s z,BK (((a::K).map sw).map qk) (t:Rat)=some s/\gV s/\A[t.toNat]?=some z/\Ef s 0 false=some (z:Rat):=by
 unfold BK
 cases hr:qK (((a::K).map sw).map qk) (fun k=>decide (k.1=(t:Rat))) 0 with
 |some r =>
  unfold qK at hr;rw[List.drop_zero]at hr;obtain⟨k,hk,rfl⟩:=Option.map_eq_some_iff.mp hr;obtain⟨k1,k2,_⟩:=List.findIdx?_eq_some_iff_getElem.mp hk;have hlt:k<(a::K).length:=by simpa using k1
  have e:(((a::K).map sw).map qk)[k]=qk (sw (a::K)[k]):=by rw[List.getElem_map,List.getElem_map]
  rw[e]at k2;have ht:(a::K)[k].2=t:=Rat.intCast_inj.mp (of_decide_eq_true k2);obtain⟨q,hq,sq⟩:=aqC h (a::K)[k] (l9 _) y hy (by omega)
  have hP:=hp _ (l9 hlt);have hQ:=hp q hq;obtain⟨z,z1,z2,z3⟩:=aes hE sq (t:=t) (by omega) (by have:=sq.y;omega)
  have hi:C8 (a::K)[k] q t=(((a::K)[k].1:Int):Rat):=by
   unfold C8;rw[show t-(a::K)[k].2=0 by omega]
   have:((0:Int):Rat)=0:=rfl;rw[this,Rat.mul_zero,Rat.add_zero]
  rw[hi]at z2 z3;have z2:=Rat.intCast_le_intCast.mp z2;have z3:=Rat.intCast_lt_intCast.mp z3;obtain rfl:z=(a::K)[k].1:=by omega
  have hF:gV (((a::K)[k].1:Int):Rat):=CJ ⟨by have:=hP.1;omega,by have:=hP.1;omega⟩
  refine⟨_,_, ?_,hF,z1,aer hF Rat.le_refl (Rat.intCast_lt_intCast.mpr (by omega))⟩
  simp only[Nat.add_zero];rw[kN k1,e]
  rfl
 |none =>
  have hne:∀ p∈a::K,p.2≠t:=fun p hp e=>by
   unfold qK at hr;rw[List.drop_zero]at hr;have:=List.findIdx?_eq_none_iff.mp (Option.map_eq_none_iff.mp hr) (qk (sw p)) (List.mem_map_of_mem (List.mem_map_of_mem hp));have:=of_decide_eq_false this;exact this (by rw[<-e];rfl)
  obtain⟨p,q,s,m1,m2,h3,h4,hf⟩:=aqD h (by have:=hne a (by simp);omega) (fun p hp=>hne p (Du _ hp)) y hy h2
  obtain⟨v1,v2⟩:=aqy (hp p m1) (hp q m2) s.y (t:=t) (by omega) (by omega)
  obtain⟨z,z1,z2,z3⟩:=aes hE s (t:=t) (by omega) h4
  refine⟨_,z, ?_,v2,z1,aer v2 z2 z3⟩;simp only;rw[hf,v1];rfl
end Go.VI.Dump
namespace Go.VI.Dump
open Go.VI.Num
/- BIGSTEPS -/
def qM:Heap:=List.replicate 7 (0,.dead)
abbrev lD:Heap:=qM++[(1,.box [.aW 0 []]),(1,.box [.aW 4 (gF [(4,5),(8,11),(12,15)])]),(1,.box [.int .i64 12,.int .i64 3,.int .i64 2,pV x0,cV x0])]
set_option maxRecDepth 100000
theorem aqF:(run lib).fn 14 [.agg [.int .i64 4,.int .i64 1,.int .i64 2,.aP,.bF 2 [.agg [.int .i64 0,.int .i64 3]]]] lD qM.length=some (.tuple [.own 1 (ints [-1,-1,-1,3]),.int .i64 0],lD):=(pR lib).mpr ⟨3000,by kernel_rfl⟩
theorem aqG:(run lib).fn 14 [.agg [.int .i64 0,.int .i64 0,.int .i64 0,.aP,.aP]] lD qM.length=some (.tuple [.own 0 [],.int .i64 200],lD):=(pR lib).mpr ⟨3000,by kernel_rfl⟩
theorem aqH:(run lib).fn 22 [.agg [.int .i64 0,.int .i64 0,.int .i64 0,.aP,.aP]] lD qM.length=some (.bool false,lD):=(pR lib).mpr ⟨3000,by kernel_rfl⟩
theorem aqI:(run lib).fn 29 [v0,.bF 3 [.agg [.int .i64 0,.int .i64 5,.int .i64 7],.agg [.int .i64 5,.int .i64 12,.int .i64 8]]] lD qM.length=some (.tuple [.own 3 [.agg [.int .i64 0,.int .i64 3,.int .i64 0],.agg [.int .i64 3,.int .i64 7,.int .i64 7],.agg [.int .i64 7,.int .i64 15,.int .i64 8]],.int .i64 0],lD):=(pR lib).mpr ⟨3000,by kernel_rfl⟩
theorem aqJ:(run lib).fn 24 [.aW 1 (ints [-1,-1,-1,0,1,4,4,5,6,6,7,8,9,10,11]),.bF 1 [.int .i64 (-1),.int .i64 (-1),.int .i64 (-1),.int .i64 0,.int .i64 1,.int .i64 4,.int .i64 4,.int .i64 5,.int .i64 6,.int .i64 6,.int .i64 7,.int .i64 8,.int .i64 9,.int .i64 10,.int .i64 11]] lD qM.length=some (.bool true,lD):=(pR lib).mpr ⟨3000,by kernel_rfl⟩
theorem aqK:(run lib).fn 24 [.aW 1 (ints [3,3,3,2,1,1,2,2,3,3,3,3]),.bF 1 [.int .i64 3,.int .i64 3,.int .i64 3,.int .i64 2,.int .i64 1,.int .i64 1,.int .i64 2,.int .i64 2,.int .i64 3,.int .i64 3,.int .i64 3,.int .i64 3]] lD qM.length=some (.bool true,lD):=(pR lib).mpr ⟨3000,by kernel_rfl⟩
theorem aqL:(run lib).fn 24 [.aW 1 (ints [8]),.bF 1 [.int .i64 8]] lD qM.length=some (.bool true,lD):=(pR lib).mpr ⟨3000,by kernel_rfl⟩
theorem aqM:(run lib).fn 24 [.aW 1 (ints [-1,-1,-1,3]),.bF 1 [.int .i64 (-1),.int .i64 (-1),.int .i64 (-1),.int .i64 3]] lD qM.length=some (.bool true,lD):=(pR lib).mpr ⟨3000,by kernel_rfl⟩
theorem aqN:(run lib).fn 41 [.int .i64 4] lD qM.length=some (.agg [.str [52],.str [49]],lD):=(pR lib).mpr ⟨3000,by kernel_rfl⟩
theorem aqO:(run lib).fn 41 [.int .i64 5] lD qM.length=some (.agg [.str [53],.str [49]],lD):=(pR lib).mpr ⟨3000,by kernel_rfl⟩
theorem aqP:(run lib).fn 41 [.int .i64 8] lD qM.length=some (.agg [.str [56],.str [49]],lD):=(pR lib).mpr ⟨3000,by kernel_rfl⟩
theorem aqQ:(run lib).fn 41 [.int .i64 11] lD qM.length=some (.agg [.str [49,49],.str [49]],lD):=(pR lib).mpr ⟨3000,by kernel_rfl⟩
theorem aqR:(run lib).fn 41 [.int .i64 12] lD qM.length=some (.agg [.str [49,50],.str [49]],lD):=(pR lib).mpr ⟨3000,by kernel_rfl⟩
theorem aqS:(run lib).fn 41 [.int .i64 15] lD qM.length=some (.agg [.str [49,53],.str [49]],lD):=(pR lib).mpr ⟨3000,by kernel_rfl⟩
theorem aqT:(run lib).fn 28 [.agg [.aW 4 (gF [(4,5),(8,11),(12,15)])],.agg [.bF 4 [.agg [.str [52],.str [49],.str [53],.str [49]],.agg [.str [56],.str [49],.str [49,49],.str [49]],.agg [.str [49,50],.str [49],.str [49,53],.str [49]]]]] lD qM.length=some (.bool true,lD):=(pR lib).mpr ⟨3000,by kernel_rfl⟩
theorem aqU:(run lib).fn 31 [.aW 3 [.agg [.int .i64 0,.int .i64 3,.int .i64 0],.agg [.int .i64 3,.int .i64 7,.int .i64 7],.agg [.int .i64 7,.int .i64 15,.int .i64 8]],.bF 3 [.agg [.int .i64 0,.int .i64 3,.int .i64 0],.agg [.int .i64 3,.int .i64 7,.int .i64 7],.agg [.int .i64 7,.int .i64 15,.int .i64 8]]] lD qM.length=some (.bool true,lD):=(pR lib).mpr ⟨3000,by kernel_rfl⟩
theorem aqV:(run lib).fn 25 [.aW 2 (pts [(0,2),(4,12)]),.bF 2 [.agg [.int .i64 0,.int .i64 2],.agg [.int .i64 4,.int .i64 12]]] lD qM.length=some (.bool true,lD):=(pR lib).mpr ⟨3000,by kernel_rfl⟩
end Go.VI.Dump
namespace Go.VI.Dump
open Go.VI.Num
/- BIGSTEPS -/
set_option pp.maxSteps 200000 in
set_option pp.deepTerms true in
theorem aqW(lo:Nat):(run lib).fn 11 [] qM lo=some (.bool true,qM):=by
 obtain⟨e,ch⟩:=ch0;have a1:∀ H lo,(run lib).fn 14 [nA x0] H lo=_:=fun H lo=>adP Gf Jm (x:=x0) ch H lo;have a2:∀ H lo,(run lib).fn 16 [nA x0] H lo=_:=fun H lo=>ao2 Gf Jm (x:=x0) ch H lo;have a3:∀ H lo,(run lib).fn 18 [nA x0] H lo=_:=fun H lo=>ao8 Gf Jm (x:=x0) ch H lo;have a4:∀ H lo,(run lib).fn 20 [nA x0] H lo=_:=fun H lo=>QI Gf Jm (x:=x0) H lo;have a5:∀ H lo,(run lib).fn 26 [nA x0,.int .i64 (1:Nat)] H lo=_:=fun H lo=>ad7 Gf Jm (x:=x0) ch (k:=1) (by decide) H lo
 have a6:∀ H lo,(run lib).fn 26 [nA x0,.int .i64 2] H lo=_:=fun H lo=>apu Gf Jm (x:=x0) (k:=2) (.inr (by decide)) H lo
 have a7:∀ H lo,(run lib).fn 22 [nA x0] H lo=some (.bool true,H):=fun H lo=>Mi Gf H lo;have r1:(kG x0.l)[1]'(by decide)=((4,12):Pr):=by decide
 rw[r1]at a5;have ev:nA x0=v0:=rfl;simp only[ev,show x0.l=l0 from rfl,apG,apH,apI,apJ,apK]at a1 a2 a3 a4 a5 a6 a7
 rw[show qF 1 (ints [3,3,3,2,1,1,2,2,3,3,3,3])=.own 1 (ints [3,3,3,2,1,1,2,2,3,3,3,3])from rfl]at a2
 rw[show QH (ints [8])=.own 1 (ints [8])from rfl]at a3
 rw[show qF 2 (pts [(0,2),(4,12)])=.own 2 (pts [(0,2),(4,12)])from rfl]at a4
 rw[show (((1:Nat):Int))=1 from rfl]at a5
 have a8:=apN;simp only[v0]at a1 a2 a3 a4 a5 a6 a7 a8;obtain⟨h,hh⟩:∃ h,h=qM:=⟨_,rfl⟩;have b1:=aqF;have b2:=aqG;have b3:=aqH;have b4:=aqI;have b5:=aqJ;have b6:=aqK;have b7:=aqL;have b8:=aqM;have b9:=aqN;have b10:=aqO;have b11:=aqP;have b12:=aqQ;have b13:=aqR;have b14:=aqS;have b15:=aqT;have b16:=aqU;have b17:=aqV;simp only[lD,<-hh,v0]at b1 b2 b3 b4 b5 b6 b7 b8 b9 b10 b11 b12 b13 b14 b15 b16 b17;rw[<-hh];rw[bW (x:=Tk) rfl rfl rfl rfl];simp(maxSteps:=30000000)(disch:=omega)only[go_sem,Tk,b1,b2,b3,b4,b5,b6,b7,b8,b9,b10,b11,b12,b13,b14,b15,b16,b17,a1,a2,a3,a4,a5,a6,a7,a8,aeb,aec,apL,apM]
end Go.VI.Dump
namespace Go.VI.Dump
open Go.VI.Num
/- BIGSTEPS -/
theorem aqX{c n:Int}(hn:0<n)(hc:o6 c)(h:Heap)(lo:Nat):(run lib).fn 13 [.int .i64 c,.int .i64 n] h lo=some (.int .i64 (lQ c n),h):=by
 obtain⟨h1,h2⟩:=hc;unfold lQ;rw[bW (x:=OU) rfl rfl rfl rfl];by_cases c0:c<0
 ·rw[if_pos c0];simp(maxSteps:=30000000)(disch:=omega)only[go_sem,OU,c0]
 ·rw[if_neg c0];simp(maxSteps:=30000000)(disch:=omega)only[go_sem,OU,c0]
theorem aqY{z:Int}(hz:z.natAbs<100000)(h:Heap)(lo:Nat):(run lib).fn 80 [.int .i64 z,.int .i64 1] h lo=some (.tuple [.agg [.str (aH z),.str [49]],.int .i64 0],h):=by
 have:=aoo (n:=z) (d:=1) (Jg hz) (Jg (by decide)) (by omega) (by decide) h lo
 rw[ad2]at this;exact this
theorem Nc{z:Int}(hz:z.natAbs<100000)(h:Heap)(lo:Nat):(run lib).fn 41 [.int .i64 z] h lo=some (.agg [.str (aH z),.str [49]],h):=by
 have e1:=fun H lo=>aqY hz H lo;rw[bW (x:=x41) rfl rfl rfl rfl];simp(maxSteps:=30000000)(disch:=omega)only[go_sem,x41,e1]
theorem Q7(p:Pr):eZ (qk p)=.agg [.str (aH p.1),.str [49],.str (aH p.2),.str [49]]:=by
 simp[qk,eZ,K8]
theorem WA(z:Int):rt (z:Rat)=.agg [.str (aH z),.str [49]]:=by
 simp[rt,bY,K8]
theorem aeu(s t:List UInt8):Ap true [.s,.s] (.agg [.str s,.str t]) (.agg [.str s,.str t])=some (.bool false):=by
 rw[aa0 (by simp) rfl rfl]
 simp[mX,Gh]
structure MK(A:List Int)(r a:Pr)(K:List Pr)(y:Int):Prop where
 ok:∀ p∈a::K,ze p
 r0:0<=r.1
 val:∀ t:Int,a.2<=t->t<y->∃ s z,BK (((a::K).map sw).map qk) (t:Rat)=some s/\gV s/\A[t.toNat]?=some z/\Ef s 0 false=some (z:Rat)
 pre:∀(t:Nat) v,(t:Int)<a.2->A[t]?=some v->v<r.1
 post:∀(t:Nat) v,y<=t->A[t]?=some v->v=-1\/r.2<=v
 last:K.getLast?=some (r.2,y)
 len:1<=K.length/\K.length<=11
 wv:pK (((a::K).map sw).map qk)=true
 sm:∀ v∈A,-1000<=v/\v<=1000
set_option maxHeartbeats 4000000 in
theorem aqZ{A:List Int}{r a:Pr}{K:List Pr}{y:Int}(m:MK A r a K y)(hA:A.length<=2000){R:List Pr}{k:Nat}(hk:R[k]?=some r)(hR:R.length<=1000){w:AV}(pw:Jr (((a::K).map sw).map qk) w)(h:Heap)(B3 B6:Nat×au) :
  ∀(d t:Nat),t+d=A.length->∀ B0 B1 B2:Nat×au,∃ C0 C1 C2:Nat×au,
  aQ lib ⟨h.length,h.length,7,none⟩ (.loop Tj) ([(11,.bool true),(13,.aW 1 (ints A)),(15,jC 2 (pts R)),(17,.int .i64 k),(18,.aF (h.length+5) 1 0),(20,.aF (h.length+4) 1 0),(24,.int .i64 t)],h++[B0,B1,B2,B3,(1,.box [w]),(1,.box [.aW 4 (gF (a::K))]),B6]) =
   some (.exit 0,([(11,.bool true)],h++[C0,C1,C2,B3,(1,.box [w]),(1,.box [.aW 4 (gF (a::K))]),B6])):=by
 have hkl:k<R.length:=(dQ.mp hk).1;have hkr:R[k]=r:=(dQ.mp hk).2;obtain⟨hK1,hK2⟩:=m.len;have qm:(gF (a::K)).length=K.length+1:=by rw[QO,List.length_cons]
 have sl:=fun H=>aea H 1 (ints A);have sr:=fun H=>Jk 2 (pts R) H;have sq:=fun H=>Sl.aW H 4 (gF (a::K));have la:=iB (sl h).len;have lq:=iB (sq h).len;rw[jY]at la;rw[QO,List.length_cons]at lq;have rk:iM 2 (jC 2 (pts R)) (.int .i64 k)=some k:=by rw[kr (sr h) (by omega) (by simp;omega)];simp
 have rl:=fun off H=>jV (off:=off) (sr H).jW (show k<(pts R).length by simp;exact hkl)
 simp only[FO,pt,hkr]at rl
 have q0:iM 4 (.aW 4 (gF (a::K))) (.int .i64 0)=some 0:=by
  rw[kr (sq h) (by omega) (by rw[qm];omega)];rfl
 have qn:iM 4 (.aW 4 (gF (a::K))) (.int .i64 (((K.length+1:Nat):Int)-1))=some K.length:=by
  rw[kr (sq h) (by omega) (by rw[qm];omega)];congr 1;omega
 have hl0:(a::K)[K.length]=(r.2,y):=by
  have:=m.last
  cases K with
  |nil=>simp at this
  |cons b K =>
   rw[List.getLast?_eq_some_getLast (by simp),aS]at this
   rw[<-this,List.getLast_eq_getElem];simp
 have e0:=fun off H=>jV (off:=off) (sq H).jW (show 0<(gF (a::K)).length by rw[qm];omega)
 have en:=fun off H=>jV (off:=off) (sq H).jW (show K.length<(gF (a::K)).length by rw[qm];omega)
 have g0:(gF (a::K))[0]'(by rw[qm];omega)=.agg [.str (aH a.1),.str [49],.str (aH a.2),.str [49]]:=by
  have:=Q7 a;rw[<-this];rfl
 have gn:(gF (a::K))[K.length]'(by rw[qm];omega)=.agg [.str (aH r.2),.str [49],.str (aH y),.str [49]]:=by
  have e:=FZ ((a::K).map qk) K.length (by simp)
  rw[List.getElem_map,hl0,Q7]at e;exact e
 simp only[g0,gn]at e0 en;have hao:=m.ok a (by simp)
 have hlo:=m.ok (r.2,y) (by rw[<-hl0];exact l9 _)
 obtain⟨⟨ax1,ax2⟩,ay1,ay2⟩:=hao;obtain⟨⟨lx1,lx2⟩,ly1,ly2⟩:=hlo;simp only at lx1 lx2 ly1 ly2;have m0:=m.r0
 have pA:=fun{x:Rat} (hx:gV x) H lo=>aqc (v:=w) pw.pu (by simp;have:=m.len;omega) (fun b hb=>by
  obtain⟨p,hp,rfl⟩:=List.mem_map.mp hb;obtain⟨p',hp',rfl⟩:=List.mem_map.mp hp;exact Wp (Nb (m.ok p' hp'))) hx H lo
 have hat:∀ x:Rat,Jq (((a::K).map sw).map qk) x=BK (((a::K).map sw).map qk) x:=fun x=>by unfold Jq;rw[if_pos m.wv]
 simp only[hat]at pA;have w1:=pw.v;have w2:=pw.c;have w3:=pw.z;have w4:=pw.cl;intro d
 induction d with
 |zero =>
  intro t ht B0 B1 B2;refine⟨B0,B1,B2, ?_⟩;have c:¬ (t:Int)<A.length:=by omega
  rw[bU]
  simp(maxSteps:=30000000)(disch:=omega)only[go_sem,la,c]
 |succ d ih =>
  intro t ht B0 B1 B2;obtain⟨v0,c0⟩:=B0;obtain⟨v1,c1⟩:=B1;obtain⟨v2,c2⟩:=B2;have htl:t<A.length:=by omega
  have c:(t:Int)<A.length:=by omega
  have tI:xK (t:Int):=⟨by omega,by omega⟩
  have wt:=fun H lo=>Nc (z:=(t:Int)) (by omega) H lo
  have qa:=fun H lo=>Bq (CJ tI) (CJ (z:=a.2) ⟨by omega,by omega⟩) H lo
  have qy:=fun H lo=>Bq (CJ tI) (CJ (z:=y) ⟨by omega,by omega⟩) H lo
  simp only[WA]at qa qy;have n1:=M9 ((t:Int):Rat) (a.2:Rat);have n2:=Wn ((t:Int):Rat) (y:Rat);have f3:iM 1 (.aW 1 (ints A)) (.int .i64 t)=some t:=by rw[kr (sl h) (by omega) (by simp;omega)];simp
  have f4:=fun off H=>jV (off:=off) (sl H).jW (show t<(ints A).length by simp;omega)
  simp only[uo]at f4;have hAt:A[t]?=some A[t]:=kN htl;have hsm:=m.sm A[t] (l9 _);by_cases c1':(t:Int)<a.2
  ·have m1:lY ((t:Int):Rat) (a.2:Rat)<0:=by
    have hlt:((t:Int):Rat)<(a.2:Rat):=Rat.intCast_lt_intCast.mpr c1';simpa only[hlt,decide_true,decide_eq_true_eq]using n1
   have hp:=m.pre t A[t] c1' hAt;obtain⟨C0,C1,C2,e⟩:=ih (t+1) (by omega) (v0,c0) (v1,c1) (v2+1,.box [.str (aH (t:Int)),.str [49]])
   rw[jo]at e;refine⟨C0,C1,C2, ?_⟩;generalize A[t]=v at*;have g:¬ r.1<=v:=by omega
   rw[bU];simp(maxSteps:=30000000)(disch:=omega)only[go_sem,la,c,wt,q0,e0,qa,m1,f3,f4,rk,rl,g,e]
  ·have m1:¬ lY ((t:Int):Rat) (a.2:Rat)<0:=by
    have hlt:¬ ((t:Int):Rat)<(a.2:Rat):=fun h=>c1' (Rat.intCast_lt_intCast.mp h);simpa only[hlt,decide_false,decide_eq_false_iff_not]using n1
   by_cases c2':y<=(t:Int)
   ·have m2:0<=lY ((t:Int):Rat) (y:Rat):=by
     have hlt:¬ ((t:Int):Rat)<(y:Rat):=fun h=>by have:=Rat.intCast_lt_intCast.mp h;omega
     simpa only[hlt,decide_false,Bool.not_false,decide_eq_true_eq]using n2
    have hp:=m.post t A[t] c2' hAt;obtain⟨C0,C1,C2,e⟩:=ih (t+1) (by omega) (v0,c0) (v1,c1) (v2+1,.box [.str (aH (t:Int)),.str [49]])
    rw[jo]at e;refine⟨C0,C1,C2, ?_⟩;generalize A[t]=v at*;by_cases g:r.1<=v
    ·have g2:¬ v<r.2:=by omega
     rw[bU];simp(maxSteps:=30000000)(disch:=omega)only[go_sem,la,c,wt,q0,e0,qa,m1,lq,qn,en,qy,m2,f3,f4,rk,rl,g,g2,e]
    ·rw[bU];simp(maxSteps:=30000000)(disch:=omega)only[go_sem,la,c,wt,q0,e0,qa,m1,lq,qn,en,qy,m2,f3,f4,rk,rl,g,e]
   ·have m2:¬ 0<=lY ((t:Int):Rat) (y:Rat):=by
     have hlt:((t:Int):Rat)<(y:Rat):=Rat.intCast_lt_intCast.mpr (show (t:Int)<y by omega)
     simpa only[hlt,decide_true,Bool.not_true,decide_eq_false_iff_not]using n2
    obtain⟨s,z,u1,u2,u3,u4⟩:=m.val t (by omega) (by omega)
    rw[wK,hAt,aS]at u3;subst u3;have Lx:=fun H lo=>pA (CJ tI) H lo;rw[u1]at Lx;have dn:=fun H lo=>anN u2 (p:=0) (by decide) H lo
    rw[u4]at dn;obtain⟨C0,C1,C2,e⟩:=ih (t+1) (by omega) (v0+1,.box [.str (aH A[t]),.str [49]]) (v1+1,.box [.str (aH s.num),.str (aH (s.den:Int))]) (v2+1,.box [.str (aH (t:Int)),.str [49]])
    rw[jo]at e;refine⟨C0,C1,C2, ?_⟩;generalize A[t]=v at*;have wv:=fun H lo=>Nc (z:=v) (by omega) H lo
    have z0:((0:Nat):Int)=0:=rfl;simp only[jI,WA,z0,Q0,Na,Option.isSome_some,if_true]at dn Lx;simp only[rt,bY]at dn;rw[bU];simp(maxSteps:=30000000)(disch:=omega)only[go_sem,la,c,wt,q0,e0,qa,m1,lq,qn,en,qy,m2,f3,f4,rk,rl,Lx,dn,wv,aeu,w1,w2,w3,w4,e]
theorem aq4{l:iD}(ok:lS l){r:Pr}(hr:Run l r){xs:List Stp}{e:Int}(h:Ch l 0 l.D xs e){a:Pr}{K:List Pr}{y:Int}(m:Qd l r xs a K y):MK (nZ l xs) r a K y where
 ok:=Jj ok hr h m
 r0:=hr.lo
 val:=fun t h1 h2=>aqE ok.E.1 m.kn (Jj ok hr h m) (by rw[<-List.getLast?_cons_cons (a:=a) (b:=a)]<;>simp[m.last,List.getLast?_cons]) h1 h2
 pre:=m.pre
 post:=m.post
 last:=m.last
 len:=m.len
 wv:=by
  unfold pK;have:=m.len;rw[aqx m.kn (Jj ok hr h m),List.length_map,List.length_map,List.length_cons,decide_eq_true (by omega),decide_eq_true (by omega)]
  rfl
 sm:=fun v hv=>by
  have hL:=ok.L;unfold nZ at hv;rcases lX.mp hv with hv|hv
  ·have:=(List.mem_replicate.mp hv).2;omega
  ·have:=h.mem ok.E.1 v hv;omega
set_option maxHeartbeats 4000000 in
theorem aq5{h:Heap}(hs:∀ lo,(run lib).fn 11 [] (h++[(0,.dead),(0,.dead),(0,.dead),(0,.dead),(0,.dead),(0,.dead),(0,.dead)]) lo=some (.bool true,h++[(0,.dead),(0,.dead),(0,.dead),(0,.dead),(0,.dead),(0,.dead),(0,.dead)])){a b c k:Int}(ha:o6 a)(hb:o6 b)(hc:o6 c)(hkI:o6 k){v:AV}{d:List Tr}(hv:∀ H,Sl H 3 v (BD d))(hl:d.length<=9223372036854775807)(hi:∀ x∈d,o6 x.1/\o6 x.2.1/\o6 x.2.2)(lo:Nat) :
  (run lib).fn 10 [.int .i64 a,.int .i64 b,.int .i64 c,v,.int .i64 k] h lo=some (.bool true,h):=by
 have md:=fun H lo=>apz ha hb hc (hv H) hl hi lo;obtain⟨xs,e,ch⟩:=apE a b c d;have ok:=QX a b c d;generalize BG a b c d=l at*;have o:=apA ok;have ar:=fun H lo=>adP o ok (x:=Ao l) ch H lo;have rr:=fun H lo=>QI o ok (x:=Ao l) H lo;rw[<-apD]at md;rw[MX]at ar rr;have hlen:=apF ok ch;have hdl:=ch.dl ok.D.1 (pW _);have oL:=ok.L;have oD:=ok.D;have oE:=ok.E;have la:=iB (aea h 1 (ints (nZ l xs))).len;have lr:=iB (Jk 2 (pts (kG l)) h).len;rw[jY]at la;rw[Bw]at lr;obtain⟨w1,w2⟩:=aop (hv h);have hRl:(kG l).length<=1000:=by have:=acu (L:=l.L) l.C 0;have:=ok.c4;unfold kG;omega
 unfold nA at md ar rr;simp only[VW,MX]at md ar rr;by_cases hR:kG l=[]
 ·have l0:((kG l).length:Int)=0:=by rw[hR];rfl
  rw[bW (x:=x10) rfl rfl rfl rfl];simp(maxSteps:=30000000)(disch:=omega)only[go_sem,x10,hs,md,ar,rr,la,lr,l0,w1,w2]
 ·have hR0:0<(kG l).length:=uj.mpr hR;obtain⟨p1,p2⟩:=Bg k (show (0:Int)<(kG l).length by omega)
  have pk:=fun H lo=>aqX (show (0:Int)<(kG l).length by omega) hkI H lo
  obtain⟨j,hj⟩:∃ j:Nat,lQ k (kG l).length=j:=⟨(lQ k (kG l).length).toNat,by omega⟩
  rw[hj]at pk p2;have hjl:j<(kG l).length:=by omega
  have hrn:=acv ok (l9 hjl);obtain⟨p,K,y,m⟩:=map_ok ok hrn ch;have dm:=fun H lo=>ad7 o ok (x:=Ao l) ch (k:=j) (by rw[MX];exact hjl) H lo
  unfold nA at dm;simp only[MX]at dm;rw[m.eq]at dm;have mk:=aq4 ok hrn ch m;have mv:=ad5 ok hrn ch m;have mp:=Jj ok hrn ch m;have hkr:(kG l)[j]?=some (kG l)[j]:=kN hjl;have rl:=fun off H=>jV (off:=off) (Jk 2 (pts (kG l)) H).jW (show j<(pts (kG l)).length by simp;exact hjl)
  simp only[FO,pt]at rl;have rk:iM 2 (jC 2 (pts (kG l))) (.int .i64 j)=some j:=by rw[kr (Jk 2 (pts (kG l)) h) (by omega) (by simp;omega)];simp
  generalize (kG l)[j]=r at*;have x0:=m.x0;have hr1:=hrn.lo;have hr2:=hrn.lt;have hr3:=hrn.hi;obtain⟨hK1,hK2⟩:=m.len;have qm:(gF (p::K)).length=K.length+1:=by rw[QO,List.length_cons]
  have sq:=fun H=>Sl.aW H 4 (gF (p::K));have lq:=iB (sq h).len;rw[qm]at lq
  have q0:iM 4 (.aW 4 (gF (p::K))) (.int .i64 0)=some 0:=by
   rw[kr (sq h) (by omega) (by rw[qm];omega)];rfl
  have qn:iM 4 (.aW 4 (gF (p::K))) (.int .i64 (((K.length+1:Nat):Int)-1))=some K.length:=by
   rw[kr (sq h) (by omega) (by rw[qm];omega)];congr 1;omega
  have hl0:(p::K)[K.length]=(r.2,y):=by
   have:=m.last
   cases K with
   |nil=>simp at this
   |cons b K =>
    rw[List.getLast?_eq_some_getLast (by simp),aS]at this
    rw[<-this,List.getLast_eq_getElem];simp
  have e0:=fun off H=>jV (off:=off) (sq H).jW (show 0<(gF (p::K)).length by rw[qm];omega)
  have en:=fun off H=>jV (off:=off) (sq H).jW (show K.length<(gF (p::K)).length by rw[qm];omega)
  have g0:(gF (p::K))[0]'(by rw[qm];omega)=.agg [.str (aH r.1),.str [49],.str (aH p.2),.str [49]]:=by
   have:=Q7 p;rw[x0]at this;rw[<-this];rfl
  have gn:(gF (p::K))[K.length]'(by rw[qm];omega)=.agg [.str (aH r.2),.str [49],.str (aH y),.str [49]]:=by
   have e:=FZ ((p::K).map qk) K.length (by simp)
   rw[List.getElem_map,hl0,Q7]at e;exact e
  simp only[g0,gn]at e0 en;have pm:cK 4 (.aW 4 (gF (p::K))) (dN ((p::K).map qk)):=.inr ⟨4,.inl rfl,.inl rfl⟩;have hfk:∀ q∈(p::K).map qk,o8 q:=fun q hq=>by obtain⟨q',hq',rfl⟩:=List.mem_map.mp hq;exact Wp (mp q' hq')
  obtain⟨w,pw,iv⟩:=aql pm (by simp) (by simp;omega) hfk
  rw[aqw]at pw iv;simp only[mv,mk.wv,w9,if_true]at iv;have of:=fun H lo=>adu (n:=l.E+1) (d:=l.E) (Jg (by omega)) (Jg (by omega)) (by omega) (by omega) H lo
  have hmq:yQ (l.E+1) l.E=some (((l.E+1:Int):Rat)/(l.E:Rat)):=by
   unfold yQ;rw[if_neg (by omega),Rat.divInt_eq_div]
  have hsm:=aeo (a:=l.E+1) (b:=l.E) ⟨by omega,by omega⟩ ⟨by omega,by omega⟩ (by omega)
  have wi:=fun H lo=>aqt pm (by simp;omega) hfk (CJ (z:=1) ⟨by decide,by decide⟩) (aep hsm (by rw[Q6];decide)) H lo
  have sp:(mG ((p::K).map qk)).any (fun q=>!CZ ((1:Int):Rat) q (((l.E+1:Int):Rat)/(l.E:Rat)))=false:=aqB oE.1 m.kn;simp only[mv,sp,Bool.not_false,w9,WA]at wi;rw[hmq]at of;generalize ((l.E+1:Int):Rat)/(l.E:Rat)=mo at*;have h1:=fun H lo=>Nc (z:=1) (by decide) H lo
  have h2:=fun H lo=>Nc (z:=r.1) (by omega) H lo
  have h3:=fun H lo=>Nc (z:=r.2) (by omega) H lo
  have n2:¬ ((K.length+1:Nat):Int)<2:=by omega
  have lp:=fun B3 B6=>aqZ mk (by omega) hkr hRl pw h B3 B6 (nZ l xs).length 0 (by omega) (0,.dead) (0,.dead) (0,.dead)
  have z0:((0:Nat):Int)=0:=rfl;obtain⟨C0,C1,C2,e1⟩:=lp (1,.box [.str (aH mo.num),.str (aH (mo.den:Int))]) (1,.box (VW (Ao l)));rw[z0]at e1;simp only[VW,MX]at e1;have v1:=pw.v;have v2:=pw.c;have v3:=pw.z;have v4:=pw.cl;simp only[jI,rt,bY]at of wi;have ne0:¬ ((kG l).length:Int)=0:=by omega
  rw[bW (x:=x10) rfl rfl rfl rfl];simp(maxSteps:=30000000)(disch:=omega)only[go_sem,x10,hs,md,ar,rr,la,lr,ne0,w1,w2,pk,dm,iv,of,lq,n2,h1,h2,h3,wi,q0,qn,e0,en,rk,rl,aeu,v1,v2,v3,v4,e1]
def WB:List jG:=[.int .i64,.int .i64,.int .i64,.slice 3 (.agg [.int .i64,.int .i64,.int .i64]),.int .i64]
theorem aq9(xs:List AV)(ht:G6 WB xs):∃ h',(run lib).fn 10 xs [] 0=some (.bool true,h'):=by
 simp only[WB,G6]at ht;obtain⟨c0,r0,rfl,t0,c1,r1,rfl,t1,c2,r2,rfl,t2,c3,r3,rfl,t3,c4,r4,rfl,t4,rfl⟩:=ht;obtain⟨a,e0,h0⟩:=QY t0;obtain⟨b,e1,h1⟩:=QY t1;obtain⟨c,e2,h2⟩:=QY t2;obtain⟨d,s3,l3,h3⟩:=apO t3;obtain⟨k,e4,h4⟩:=QY t4;rw[e0,e1,e2,e4];exact⟨_,aq5 (h:=[]) aqW h0 h1 h2 h4 s3 l3 h3 0⟩
end Go.VI.Dump
