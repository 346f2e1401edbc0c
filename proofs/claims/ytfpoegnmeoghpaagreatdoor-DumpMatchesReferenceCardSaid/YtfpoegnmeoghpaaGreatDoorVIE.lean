/- What reading says: slices, pointers; a value handed on for good. -/
import Derived.Test.YtfpoegnmeoghpaaGreatDoorVID
set_option linter.unusedVariables false
set_option linter.unusedSimpArgs false
namespace Go.VI
set_option linter.unusedSectionVars false
variable [bJ][Rounds]
section
variable {w:World}{X:Nat->Prop}{m:Map}{h:Heap}
theorem wS{z:Nat}:∀(l:List AV) (b o:Nat),(∀(i:Nat) e,l[i]?=some e->∃ v:Value,RC w X e v/\v.cells.size=z/\ones v.cells.toList/\vw w b (o+i*z) v.cells.toList)->ji w X z l b o
 |[],_,_,_=>by simp[ji]
 |e::es,b,o,h=>by
  simp only[ji];refine⟨by simpa using h 0 e rfl,wS es b (o+z) fun i e' he=>?_⟩
  obtain⟨v,h1,h2,h3,h4⟩:=h (i+1) e' (by simpa using he)
  exact⟨v,h1,h2,h3,by rw[gX,Nat.one_mul,Nat.add_comm (i*z),<-Nat.add_assoc]at h4;exact h4⟩
theorem zF{z:Nat}:∀(l:List AV) (b o:Nat),ji w X z l b o->∀(i:Nat) e,l[i]?=some e->∃ v:Value,RC w X e v/\v.cells.size=z/\ones v.cells.toList/\vw w b (o+i*z) v.cells.toList
 |[],_,_,_,i,e,he=>by simp at he
 |x::es,b,o,h,i,e,he=>by
  simp only[ji]at h
  cases i with
  |zero=>simp at he;subst he;simpa using h.1
  |succ i =>
   obtain⟨v,h1,h2,h3,h4⟩:=zF es b (o+z) h.2 i e (by simpa using he)
   exact⟨v,h1,h2,h3,by rw[gX,Nat.one_mul,Nat.add_comm (i*z),<-Nat.add_assoc];exact h4⟩
theorem Dv:∀(l:List AV) (b o:Nat),(∀(j:Nat) c,l[j]?=some c->∃ u,w.cell? ⟨b,o+j,none⟩=some u/\u.oneCell'=true/\RC w X c u)->iO w X l b o
 |[],_,_,_=>by simp[iO]
 |c::cs,b,o,h=>by
  simp only[iO];refine⟨by simpa using h 0 c rfl,Dv cs b (o+1) fun j c' hc=>?_⟩
  obtain⟨u,h1,h2⟩:=h (j+1) c' (by simpa using hc)
  exact⟨u,by rw[show o+1+j=o+(j+1) by omega];exact h1,h2⟩
theorem Gl:∀(l:List AV) (b o:Nat),iO w X l b o->∀(j:Nat) c,l[j]?=some c->∃ u,w.cell? ⟨b,o+j,none⟩=some u/\u.oneCell'=true/\RC w X c u
 |[],_,_,_,j,c,hc=>by simp at hc
 |x::cs,b,o,h,j,c,hc=>by
  simp only[iO]at h
  cases j with
  |zero=>simp at hc;subst hc;simpa using h.1
  |succ j =>
   obtain⟨u,h1,h2⟩:=Gl cs b (o+1) h.2 j c (by simpa using hc)
   exact⟨u,by rw[show o+(j+1)=o+1+j by omega];exact h1,h2⟩
theorem Dw:∀(cs:List AV) (vs:List Value),dH w X cs vs->vs.length=cs.length/\∀(j:Nat) c,cs[j]?=some c->∃ u,vs[j]?=some u/\RC w X c u
 |[],vs,h=>by simp only[dH]at h;subst h;simp
 |x::cs,vs,h=>by
  simp only[dH]at h;obtain⟨u,us,rfl,h1,h2⟩:=h;obtain⟨g1,g2⟩:=Dw cs us h2;refine⟨by simp[g1],fun j c hc=>?_⟩
  cases j with
  |zero=>simp at hc;subst hc;exact⟨u,rfl,h1⟩
  |succ j=>simpa using g2 j c (by simpa using hc)
theorem nZ:∀(cs:List AV) (vs:List Value),RL w X m h cs vs->vs.length=cs.length/\∀(j:Nat) c,cs[j]?=some c->∃ u,vs[j]?=some u/\R w X m h c u
 |[],vs,h=>by simp only[RL]at h;subst h;simp
 |x::cs,vs,h=>by
  simp only[RL]at h;obtain⟨u,us,rfl,h1,h2⟩:=h;obtain⟨g1,g2⟩:=nZ cs us h2;refine⟨by simp[g1],fun j c hc=>?_⟩
  cases j with
  |zero=>simp at hc;subst hc;exact⟨u,rfl,h1⟩
  |succ j=>simpa using g2 j c (by simpa using hc)
theorem Dx:∀(cs:List AV) (vs:List Value),vs.length=cs.length->(∀(j:Nat) c,cs[j]?=some c->∃ u,vs[j]?=some u/\R w X m h c u)->RL w X m h cs vs
 |[],vs,hl,_=>by simp only[RL];exact kZ hl
 |x::cs,[],hl,_=>by simp at hl
 |x::cs,u::us,hl,hg=>by
  simp only[RL];obtain⟨u',e,h1⟩:=hg 0 x rfl;cases e;exact⟨u,us,rfl,h1,Dx cs us (by simpa using hl) fun j c hc=>by simpa using hg (j+1) c (by simpa using hc)⟩
theorem Qh:∀(cs:List AV) (vs:List Value),vs.length=cs.length->(∀(j:Nat) c,cs[j]?=some c->∃ u,vs[j]?=some u/\RC w X c u)->dH w X cs vs
 |[],vs,hl,_=>by simp only[dH];exact kZ hl
 |x::cs,[],hl,_=>by simp at hl
 |x::cs,u::us,hl,hg=>by
  simp only[dH];obtain⟨u',e,h1⟩:=hg 0 x rfl;cases e;exact⟨u,us,rfl,h1,Qh cs us (by simpa using hl) fun j c hc=>by simpa using hg (j+1) c (by simpa using hc)⟩
theorem R.val:∀{a:AV} {u:Value},a.val=true->R w X m h a u->(∃ cs vs,a=.agg cs/\u=.agg vs.toArray/\ones vs/\RL w X m h cs vs)\/(a.cells=[a]/\u.cells=#[u]/\u.oneCell'=true)
 |.undef,_,hv,_|.tuple _,_,hv,_|.own ..,_,hv,_=>by simp[AV.val]at hv
 |.agg cs,u,_,hr=>by
  simp only[R]at hr;obtain⟨vs,e,h1,h2⟩:=hr
  exact .inl ⟨cs,vs,rfl,e,h1,h2⟩
 |.fn _ cs,u,_,hr=>by
  simp only[R]at hr;obtain⟨vs,rfl,h1⟩:=hr;unfold wP
  split<;>exact .inr ⟨rfl,rfl,rfl⟩
 |.cZ _ _,u,_,hr=>by
  simp only[R]at hr;obtain⟨k,l,rfl,h1⟩:=hr
  rcases k with _|_|k<;>exact .inr ⟨rfl,rfl,rfl⟩
 |.eZ t x,u,_,hr=>by
  simp only[R]at hr;obtain⟨vs,rfl,h1⟩:=hr
  exact .inr ⟨rfl,rfl,rfl⟩
 |.bool _,u,_,hr|.int _ _,u,_,hr|.str _,u,_,hr|.gZ,u,_,hr|.iG,u,_,hr|.aD,u,_,hr|.nilPtr,u,_,hr=>by
  simp only[R,RC]at hr;subst hr
  exact .inr ⟨rfl,rfl,rfl⟩
 |.aN _ _,u,_,hr=>by
  simp only[R,RC]at hr;obtain⟨a,cap,rfl,_⟩:=hr
  exact .inr ⟨rfl,rfl,rfl⟩
 |.aM _ _,u,_,hr=>by
  simp only[R,RC]at hr;obtain⟨a,rfl,_⟩:=hr
  exact .inr ⟨rfl,rfl,rfl⟩
 |.bD _,u,_,hr=>by
  simp only[R,RC]at hr;obtain⟨a,o,rfl,_⟩:=hr
  exact .inr ⟨rfl,rfl,rfl⟩
 |.ref ..,u,_,hr=>by
  simp only[R]at hr;obtain⟨a,cap,rfl,_⟩:=hr
  exact .inr ⟨rfl,rfl,rfl⟩
 |.aJ ..,u,_,hr=>by
  simp only[R]at hr;obtain⟨a,rfl,_⟩:=hr
  exact .inr ⟨rfl,rfl,rfl⟩
 |.di x i off,u,_,hr=>by
  cases x with
  |aN z es|aM z es =>
   simp only[R]at hr;obtain⟨a,o,rfl,_⟩:=hr
   exact .inr ⟨rfl,rfl,rfl⟩
  |ref id aj z o len fill =>
   simp only[R]at hr;obtain⟨a,rfl,_⟩:=hr
   exact .inr ⟨rfl,rfl,rfl⟩
  |_=>simp[R]at hr
theorem R.cells{a:AV}{u:Value}(hv:a.val=true)(hr:R w X m h a u):u.cells.size=a.cells.length/\ones u.cells.toList/\RL w X m h a.cells u.cells.toList:=by
 rcases R.val hv hr with⟨cs,vs,rfl,rfl,h1,h2⟩|⟨h1,h2,h3⟩
 ·refine⟨?_,by simpa[Value.cells]using h1,by simpa[Value.cells,AV.cells]using h2⟩
  simp[Value.cells,AV.cells,(nZ cs vs h2).1]
 ·rw[h1,h2];refine⟨rfl,fun x hx=>?_, ?_⟩
  ·simp at hx;subst hx;exact h3
  ·simp only[RL];exact⟨u,[],rfl,hr,rfl⟩
theorem RC.cells{e:AV}{v:Value}(hr:RC w X e v)(h0:0<v.cells.size)(h1:ones v.cells.toList):∀(j:Nat) c,e.cells[j]?=some c->∃ u,v.cells.toList[j]?=some u/\u.oneCell'=true/\RC w X c u:=by
 have fin:∀(j:Nat) u,v.cells.toList[j]?=some u->u.oneCell'=true:=fun j u hu=>h1 u (wT hu);intro j c hc
 cases e with
 |agg cs =>
  simp only[RC]at hr;obtain⟨vs,rfl,g1,g2⟩:=hr;obtain⟨u,hu,hr⟩:=(Dw cs vs g2).2 j c hc
  exact⟨u,by simpa[Value.cells]using hu,fin j u (by simpa[Value.cells]using hu),hr⟩
 |undef =>
  simp only[AV.cells]at hc
  cases j with
  |zero =>
   simp at hc;subst hc;refine⟨v.cells[0], ?_, ?_,by simp[RC]⟩
   ·simp[h0]
   ·exact fin 0 _ (by simp[h0])
  |succ j=>simp at hc
 |own=>simp[RC]at hr
 |ref=>simp[RC]at hr
 |aJ=>simp[RC]at hr
 |di=>simp[RC]at hr
 |cZ=>simp[RC]at hr
 |tuple cs =>
  simp only[AV.cells]at hc
  cases j with
  |zero =>
   simp at hc;subst hc;have hr':=hr;simp only[RC]at hr';obtain⟨vs,rfl,_⟩:=hr'
   exact⟨.tuple vs.toArray,rfl,fin 0 _ rfl,hr⟩
  |succ j=>simp at hc
 |_ =>
  simp only[AV.cells]at hc
  cases j with
  |zero =>
   simp at hc;subst hc
   have h2:v.cells=#[v]:=by
    have hv:R w X ([]:Map) ([]:Heap) _ v:=R.rU _ v hr;rcases R.val (by rfl) hv with⟨cs,vs,e,_⟩|⟨_,h2,_⟩
    ·cases e
    ·exact h2
   exact⟨v,by rw[h2];rfl,fin 0 v (by rw[h2];rfl),hr⟩
  |succ j=>simp at hc
def Qi(w:World)(X:Nat->Prop)(z:Nat)(es:List AV)(u:Value):Prop :=
 ∃ a cap,u=.slice a es.length cap/\es.length<=cap/\(es=[]\/∃ b o,a=some ⟨b,o,none⟩/\b<w.heap.size/\0<z/\ji w X z es b o)
theorem fK.elems{z:Nat}{es:List AV}{c:Array Value}{b:Nat}{ty:TypeId}{fr:Nat×Nat}(hb:w.heap[b]?=some (.cells c ty fr))(ha:fK w X z es c.toList){i:Nat}{e:AV}(he:es[i]?=some e) :
  ∃ v:Value,RC w X e v/\v.cells.size=z/\ones v.cells.toList/\vw w b (i*z) v.cells.toList:=by
 obtain⟨v,h1,h2,h3,h4⟩:=ha.2 i e he;exact⟨v,h1,h2,h3,fun j u hu=>by rw[cell_of_row w b _ c ty fr hb];simpa using h4 j u hu⟩
theorem Dy(hi:Inv w m h){id aj z off len fill:Nat}{u:Value}{es:List AV}(hr:R w (Live m h) m h (.ref id aj z off len fill) u)(hl:dW h (.ref id aj z off len fill)=some es) :
  ∃ a cap es0,u=.slice a len cap/\len<=cap/\es.length=len/\h[id]?=some (aj,.arr z es0)/\es0.length=fill/\off+len<=fill/\es=(es0.drop off).take len /\
   (cap=0\/∃ b,m[id]?=some b/\a=some ⟨b,off*z,none⟩/\b<w.heap.size/\0<z/\ji w (Live m h) z es b (off*z)/\fill<=off+cap/\(off+cap)*z<=bsize w b):=by
 simp only[R]at hr;obtain⟨a,cap,e,hc,hnone,v0,blk,hid,hv,hf⟩:=hr;simp only[dW,hid]at hl
 cases blk with
 |arr wL es0 =>
  simp only at hl;split at hl
  ·rename_i hcond;obtain⟨rfl,rfl,rfl,hle⟩:=hcond;simp only[aP]at hl;subst hl;have hlen:((es0.drop off).take len).length=len:=by simp;omega
   refine⟨a,cap,es0,e,hc,hlen,hid,rfl,hle,rfl, ?_⟩;obtain⟨_,_,h3⟩:=hf rfl _ es0 rfl;obtain⟨b,hm,h4⟩:=h3 rfl;refine Or.imp_right ?_ h4;rintro⟨ea,q1,q2⟩;obtain⟨b',c,ty,hm',hb,hz0,hok⟩:=hi.blk id _ _ hid (by simp)
   rw[hm]at hm';cases hm';refine⟨b,hm,ea,hi.lt hid (by simp) hm,hz0,wS _ _ _ fun i e' he'=>?_,q1,q2⟩
   have hil:i<len:=by have:=(bO.mp he').1;omega
   have:es0[off+i]?=some e':=by rw[jI,if_pos hil,mg]at he';exact he'
   obtain⟨v,g1,g2,g3,g4⟩:=fK.elems hb hok this;exact⟨v,g1,g2,g3,by rw[<-gX];exact g4⟩
  ·cases hl
 |_=>simp at hl
theorem Gm(hi:Inv w m h){x:AV}{u:Value}{es:List AV}{z:Nat}(hr:R w (Live m h) m h x u)(hl:dW h x=some es)(hz:fe z x=true):Qi w (Live m h) z es u:=by
 cases x with
 |aD =>
  simp only[dW,aP]at hl;subst hl;simp only[R,RC]at hr
  exact⟨none,0,hr,aV _,.inl rfl⟩
 |aN z' es' =>
  simp only[dW,aP]at hl;subst hl;simp only[R,RC]at hr;obtain⟨a,cap,e,hc,h2⟩:=hr;refine⟨a,cap,e,hc, ?_⟩;by_cases hn:es'=[]
  ·exact .inl hn
  ·obtain⟨b,o,ea,hb,_,h0,hE⟩:=h2.resolve_left hn;have hzz:z=z':=by simp only[fe,kN,beq_iff_eq,rX]at hz;exact hz.resolve_right hn
   subst hzz
   exact .inr ⟨b,o,ea,hb,h0,hE⟩
 |aM z' es' =>
  simp only[dW,aP]at hl;subst hl;simp only[R,RC]at hr;obtain⟨a,e,h2⟩:=hr;refine⟨a,_,e,aV _, ?_⟩;by_cases hn:es'=[]
  ·exact .inl hn
  ·obtain⟨b,o,ea,hb,_,h0,hE⟩:=h2.resolve_left hn;have hzz:z=z':=by simp only[fe,kN,beq_iff_eq,rX]at hz;exact hz.resolve_right hn
   subst hzz
   exact .inr ⟨b,o,ea,hb,h0,hE⟩
 |ref id aj z' off len fill =>
  simp only[fe,beq_iff_eq]at hz;subst hz;obtain⟨a,cap,es0,e,hc,hlen,_,_,_,_,hmem⟩:=Dy hi hr hl;refine⟨a,cap,by rw[hlen];exact e,by rw[hlen];exact hc, ?_⟩
  rcases hmem with h0|⟨b,hm,ea,hb,hz0,hE,_⟩
  ·exact .inl (kZ (by omega))
  ·exact .inr ⟨b,_,ea,hb,hz0,hE⟩
 |_=>simp[dW]at hl
theorem Qj{x:AV}{u:Value}{n:Nat}(hr:R w X m h x u)(hl:iH x=some n):∃ a cap,u=.slice a n cap/\n<=cap:=by
 cases x with
 |aD=>simp[iH]at hl;subst hl;simp only[R,RC]at hr;exact⟨none,0,hr,aV _⟩
 |aN z es=>simp[iH]at hl;subst hl;simp only[R,RC]at hr;obtain⟨a,cap,e,hc,_⟩:=hr;exact⟨a,cap,e,hc⟩
 |aM z es=>simp[iH]at hl;subst hl;simp only[R,RC]at hr;obtain⟨a,e,_⟩:=hr;exact⟨a,_,e,aV _⟩
 |ref=>simp[iH]at hl;subst hl;simp only[R]at hr;obtain⟨a,cap,e,hc,_⟩:=hr;exact⟨a,cap,e,hc⟩
 |_=>simp[iH]at hl
def J9(w:World)(X:Nat->Prop)(m:Map)(h:Heap)(cs:List AV)(u:Value):Prop :=
 ∃ b o,u=.pointer (some ⟨b,o,none⟩)/\∀(j:Nat) c,cs[j]?=some c->∃ x,w.cell? ⟨b,o+j,none⟩=some x/\x.oneCell'=true/\R w X m h c x
theorem iO.ptr{cs:List AV}{b o:Nat}(hm:iO w X cs b o):J9 w X m h cs (.pointer (some ⟨b,o,none⟩)) :=
 ⟨b,o,rfl,fun j c hc=>let ⟨u,h1,h2,h3⟩:=Gl cs b o hm j c hc;⟨u,h1,h2,R.rU c u h3⟩⟩
theorem Qk(hi:Inv w m h){p:AV}{u:Value}{cs:List AV}(hr:R w (Live m h) m h p u)(hc:eD h p=some cs):J9 w (Live m h) m h cs u:=by
 cases p with
 |bD cs' =>
  simp only[eD,aP]at hc;subst hc;simp only[R,RC]at hr;obtain⟨b,o,rfl,_,_,hm⟩:=hr
  exact hm.ptr
 |aJ id aj off =>
  simp only[R]at hr;obtain⟨a,rfl,v0,blk,hid,hv,hf⟩:=hr;simp only[eD,hid]at hc
  cases blk with
  |box cs0 =>
   simp only at hc;split at hc
   ·rename_i ZI;subst ZI;simp only[aP]at hc;subst hc;obtain⟨b,hm,rfl⟩:=hf rfl cs0 rfl;obtain⟨b',c,ty,hm',hb,h1,h2⟩:=hi.blk id _ _ hid (by simp)
    rw[hm]at hm';cases hm';refine⟨b,off,rfl,fun j x hx=>?_⟩;rw[mg]at hx;obtain⟨y,hy,hr⟩:=(nZ cs0 _ h2).2 _ x hx;exact⟨y,by rw[cell_of_row w b _ c ty (0,0) hb];simpa using hy,h1 y (wT hy),hr⟩
   ·cases hc
  |_=>simp at hc
 |di x i off =>
  cases x with
  |aN z es|aM z es =>
   simp only[R]at hr;obtain⟨b,o,rfl,hr⟩:=hr;simp only[eD,dW,Option.bind_some,mE]at hc;obtain⟨e,he,rfl⟩:=hc
   exact(hr e he).2.2.ptr
  |ref id aj z o len fill =>
   simp only[R]at hr;obtain⟨a,rfl,v0,blk,hid,hv,hf⟩:=hr;simp only[eD,dW,hid]at hc
   cases blk with
   |arr z' es0 =>
    simp only at hc;split at hc
    ·rename_i hcond;obtain⟨rfl,rfl,rfl,hle⟩:=hcond;simp only[Option.bind_some,mE]at hc;obtain⟨e,he,rfl⟩:=hc;obtain⟨_,_,h3⟩:=hf rfl _ es0 rfl;obtain⟨b,hm,rfl⟩:=h3 rfl;obtain⟨b',c,ty,hm',hb,hz0,hok⟩:=hi.blk id _ _ hid (by simp)
     rw[hm]at hm';cases hm';have hil:i<len:=by have:=(bO.mp he).1;simp at this;omega
     have he':es0[o+i]?=some e:=by rw[jI,if_pos hil,mg]at he;exact he
     obtain⟨v,g1,g2,g3,g4⟩:=fK.elems hb hok he';refine⟨b,(o+i)*z'+off,rfl,fun j q hq=>?_⟩;rw[mg]at hq;obtain⟨y,hy,hy1,hy2⟩:=RC.cells g1 (by omega) g3 _ q hq
     exact⟨y,by rw[Nat.add_assoc];exact g4 _ y hy,hy1,R.rU q y hy2⟩
    ·cases hc
   |_=>simp at hc
  |_=>simp[R]at hr
 |_=>simp[eD]at hc
theorem ZJ{sh:Sh}{cs:List AV}{v:AV}(hs:shaped sh cs=some v):(sh=.one/\cs[0]?=some v)\/∃ n,sh=.agg n/\n<=cs.length/\v=.agg (cs.take n):=by
 cases sh with
 |one=>cases cs with
  |nil=>simp[shaped]at hs
  |cons c r=>simp[shaped]at hs;exact .inl ⟨rfl,by simp[hs]⟩
 |agg n =>
  simp only[shaped]at hs;split at hs
  ·cases hs;exact .inr ⟨n,rfl,by assumption,rfl⟩
  ·cases hs
end
section
variable {w:World}{m:Map}
theorem RC.less{X X':Nat->Prop}(h:∀ b,X' b->X b){a:AV}{u:Value}(hr:RC w X a u):RC w X' a u:=RC.keep (Keep.weaken h) a u hr
theorem ji.less{X X':Nat->Prop}(h:∀ b,X' b->X b){z:Nat}{es:List AV}{b o:Nat}(hr:ji w X z es b o):ji w X' z es b o :=
 wS _ _ _ fun i e he=>let ⟨v,h1,h2,h3,h4⟩:=zF es b o hr i e he;⟨v,h1.less h,h2,h3,h4⟩
mutual
theorem zG{base lo:Nat}(hlo:lo<=base):∀(a:AV) (h:Heap) (u:Value) (a':AV) (h':Heap),Inv w m h->R w (Live m h) m h a u->aU base false a h=some (a',h') ->
  Step lo w m h w m h'/\Inv w m h'/\RC w (Live m h') a' u
 |.agg cs,h,u,a',h',hi,hr,hf=>by
  simp only[aU,mE,ax]at hf;obtain⟨⟨cs',h1⟩,hf,rfl,rfl⟩:=hf;simp only[R]at hr;obtain⟨vs,rfl,g1,g2⟩:=hr;obtain⟨s,i,r⟩:=Gn hlo cs h vs cs' _ hi g2 hf
  exact⟨s,i,by simp only[RC];exact⟨vs,rfl,g1,r⟩⟩
 |.tuple cs,h,u,a',h',hi,hr,hf=>by
  simp only[aU,mE,ax]at hf;obtain⟨⟨cs',h1⟩,hf,rfl,rfl⟩:=hf;simp only[R]at hr;obtain⟨vs,rfl,g2⟩:=hr;obtain⟨s,i,r⟩:=Gn hlo cs h vs cs' _ hi g2 hf
  exact⟨s,i,by simp only[RC];exact⟨vs,rfl,r⟩⟩
 |.fn f cs,h,u,a',h',hi,hr,hf=>by
  simp only[aU,mE,ax]at hf;obtain⟨⟨cs',h1⟩,hf,rfl,rfl⟩:=hf;simp only[R]at hr;obtain⟨vs,rfl,g2⟩:=hr;obtain⟨s,i,r⟩:=Gn hlo cs h vs cs' _ hi g2 hf
  exact⟨s,i,by simp only[RC];exact⟨vs,rfl,r⟩⟩
 |.eZ t x,h,u,a',h',hi,hr,hf=>by
  simp only[aU,mE,ax]at hf;obtain⟨⟨x',h1⟩,hf,rfl,rfl⟩:=hf;simp only[R]at hr;obtain⟨v,rfl,g2⟩:=hr;obtain⟨s,i,r⟩:=zG hlo x h v x' _ hi g2 hf
  exact⟨s,i,by simp only[RC];exact⟨v,rfl,r⟩⟩
 |.aD,h,u,a',h',hi,hr,hf=>by
  simp only[aU,aP,ax]at hf;obtain⟨rfl,rfl⟩:=hf;refine⟨Step.refl _ _ _ _,hi, ?_⟩;simp only[R,RC]at hr⊢
  exact⟨none,0,hr,aV _,by simp⟩
 |.ref id aj z off len fill,h,u,a',h',hi,hr,hf=>by
  simp only[aU]at hf;split at hf
  ·rename_i hb;simp only[mE,ax]at hf;obtain⟨es,hl,rfl,rfl⟩:=hf;obtain⟨a,cap,es0,e,hc,hlen,hid,_,_,_,hmem⟩:=Dy hi hr hl;obtain⟨s,i,lv,ld⟩:=Du (lo:=lo) hi hid (by omega)
   refine⟨s,i, ?_⟩;simp only[RC];refine⟨a,cap,by rw[hlen];exact e,by rw[hlen];exact hc, ?_⟩
   rcases hmem with h0|⟨b,hm,ea,hb',h0,hE,_⟩
   ·exact .inl (kZ (by omega))
   ·exact .inr ⟨b,_,ea,hb',ld b hm (by simp),h0,ji.less lv hE⟩
  ·simp at hf
 |.undef,h,u,a',h',hi,hr,hf=>by
  simp only[aU,aP,ax]at hf;obtain⟨rfl,rfl⟩:=hf
  exact⟨Step.refl _ _ _ _,hi,by simp[RC]⟩
 |.bool _,h,u,a',h',hi,hr,hf|.int _ _,h,u,a',h',hi,hr,hf|.str _,h,u,a',h',hi,hr,hf|.gZ,h,u,a',h',hi,hr,hf|.iG,h,u,a',h',hi,hr,hf|.nilPtr,h,u,a',h',hi,hr,hf
 |.aN _ _,h,u,a',h',hi,hr,hf|.aM _ _,h,u,a',h',hi,hr,hf|.bD _,h,u,a',h',hi,hr,hf=>by
  simp only[aU,aP,ax]at hf;obtain⟨rfl,rfl⟩:=hf
  exact⟨Step.refl _ _ _ _,hi,by simpa only[R]using hr⟩
 |.own _ _,h,u,a',h',hi,hr,hf|.aJ _ _ _,h,u,a',h',hi,hr,hf|.di _ _ _,h,u,a',h',hi,hr,hf|.cZ _ _,h,u,a',h',hi,hr,hf=>by simp[aU]at hf
theorem Gn{base lo:Nat}(hlo:lo<=base):∀(cs:List AV) (h:Heap) (us:List Value) (cs':List AV) (h':Heap),Inv w m h->RL w (Live m h) m h cs us->gU base false cs h=some (cs',h') ->
  Step lo w m h w m h'/\Inv w m h'/\dH w (Live m h') cs' us
 |[],h,us,cs',h',hi,hr,hf=>by
  simp only[gU,aP,ax]at hf;obtain⟨rfl,rfl⟩:=hf
  exact⟨Step.refl _ _ _ _,hi,by simpa[RL,dH]using hr⟩
 |c::cs,h,us,cs',h',hi,hr,hf=>by
  simp only[gU,bE,mE,ax]at hf;obtain⟨⟨c1,h1⟩,f1,⟨cs1,h2⟩,f2,rfl,rfl⟩:=hf;simp only[RL]at hr;obtain⟨u,fB,rfl,g1,g2⟩:=hr;obtain⟨s1,i1,r1⟩:=zG hlo c h u c1 h1 hi g1 f1;obtain⟨s2,i2,r2⟩:=Gn hlo cs h1 fB cs1 _ i1 (RL.step s1.ids s1.keep cs fB g2) f2;exact⟨s1.trans s2,i2,by simp only[dH];exact⟨u,fB,rfl,RC.keep s2.keep c1 u r1,r2⟩⟩
end
end
end Go.VI
