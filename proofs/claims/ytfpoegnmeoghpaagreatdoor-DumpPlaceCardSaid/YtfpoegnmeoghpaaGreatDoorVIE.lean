/- What reading says: slices, pointers; a value handed on for good. -/
import Derived.Test.YtfpoegnmeoghpaaGreatDoorVID
set_option linter.unusedVariables false
set_option linter.unusedSimpArgs false
namespace Go.VI
set_option linter.unusedSectionVars false
variable [kH][Rounds]
section
variable {w:World}{X:Nat->Prop}{m:Map}{h:Heap}
theorem ab4{z:Nat}:∀(l:List AV) (b o:Nat),(∀(i:Nat) e,l[i]?=some e->∃ v:Value,RC w X e v/\v.cells.size=z/\ones v.cells.toList/\abo w b (o+i*z) v.cells.toList)->Gr w X z l b o
 |[],_,_,_=>by simp[Gr]
 |e::es,b,o,h=>by
  simp only[Gr];refine⟨by simpa using h 0 e rfl,ab4 es b (o+z) fun i e' he=>?_⟩
  obtain⟨v,h1,h2,h3,h4⟩:=h (i+1) e' (by simpa using he)
  exact⟨v,h1,h2,h3,by rw[AZ,Nat.one_mul,Nat.add_comm (i*z),<-Nat.add_assoc]at h4;exact h4⟩
theorem aiU{z:Nat}:∀(l:List AV) (b o:Nat),Gr w X z l b o->∀(i:Nat) e,l[i]?=some e->∃ v:Value,RC w X e v/\v.cells.size=z/\ones v.cells.toList/\abo w b (o+i*z) v.cells.toList
 |[],_,_,_,i,e,he=>by simp at he
 |x::es,b,o,h,i,e,he=>by
  simp only[Gr]at h
  cases i with
  |zero=>simp at he;subst he;simpa using h.1
  |succ i =>
   obtain⟨v,h1,h2,h3,h4⟩:=aiU es b (o+z) h.2 i e (by simpa using he)
   exact⟨v,h1,h2,h3,by rw[AZ,Nat.one_mul,Nat.add_comm (i*z),<-Nat.add_assoc];exact h4⟩
theorem alh:∀(l:List AV) (b o:Nat),(∀(j:Nat) c,l[j]?=some c->∃ u,w.cell? ⟨b,o+j,none⟩=some u/\u.oneCell'=true/\RC w X c u)->Fu w X l b o
 |[],_,_,_=>by simp[Fu]
 |c::cs,b,o,h=>by
  simp only[Fu];refine⟨by simpa using h 0 c rfl,alh cs b (o+1) fun j c' hc=>?_⟩
  obtain⟨u,h1,h2⟩:=h (j+1) c' (by simpa using hc)
  exact⟨u,by rw[show o+1+j=o+(j+1) by omega];exact h1,h2⟩
theorem anp:∀(l:List AV) (b o:Nat),Fu w X l b o->∀(j:Nat) c,l[j]?=some c->∃ u,w.cell? ⟨b,o+j,none⟩=some u/\u.oneCell'=true/\RC w X c u
 |[],_,_,_,j,c,hc=>by simp at hc
 |x::cs,b,o,h,j,c,hc=>by
  simp only[Fu]at h
  cases j with
  |zero=>simp at hc;subst hc;simpa using h.1
  |succ j =>
   obtain⟨u,h1,h2⟩:=anp cs b (o+1) h.2 j c (by simpa using hc)
   exact⟨u,by rw[show o+(j+1)=o+1+j by omega];exact h1,h2⟩
theorem ali:∀(cs:List AV) (vs:List Value),o9 w X cs vs->vs.length=cs.length/\∀(j:Nat) c,cs[j]?=some c->∃ u,vs[j]?=some u/\RC w X c u
 |[],vs,h=>by simp only[o9]at h;subst h;simp
 |x::cs,vs,h=>by
  simp only[o9]at h;obtain⟨u,us,rfl,h1,h2⟩:=h;obtain⟨g1,g2⟩:=ali cs us h2;refine⟨by simp[g1],fun j c hc=>?_⟩
  cases j with
  |zero=>simp at hc;subst hc;exact⟨u,rfl,h1⟩
  |succ j=>simpa using g2 j c (by simpa using hc)
theorem RA:∀(cs:List AV) (vs:List Value),RL w X m h cs vs->vs.length=cs.length/\∀(j:Nat) c,cs[j]?=some c->∃ u,vs[j]?=some u/\R w X m h c u
 |[],vs,h=>by simp only[RL]at h;subst h;simp
 |x::cs,vs,h=>by
  simp only[RL]at h;obtain⟨u,us,rfl,h1,h2⟩:=h;obtain⟨g1,g2⟩:=RA cs us h2;refine⟨by simp[g1],fun j c hc=>?_⟩
  cases j with
  |zero=>simp at hc;subst hc;exact⟨u,rfl,h1⟩
  |succ j=>simpa using g2 j c (by simpa using hc)
theorem alj:∀(cs:List AV) (vs:List Value),vs.length=cs.length->(∀(j:Nat) c,cs[j]?=some c->∃ u,vs[j]?=some u/\R w X m h c u)->RL w X m h cs vs
 |[],vs,hl,_=>by simp only[RL];exact JU hl
 |x::cs,[],hl,_=>by simp at hl
 |x::cs,u::us,hl,hg=>by
  simp only[RL];obtain⟨u',e,h1⟩:=hg 0 x rfl;cases e;exact⟨u,us,rfl,h1,alj cs us (by simpa using hl) fun j c hc=>by simpa using hg (j+1) c (by simpa using hc)⟩
theorem axD:∀(cs:List AV) (vs:List Value),vs.length=cs.length->(∀(j:Nat) c,cs[j]?=some c->∃ u,vs[j]?=some u/\RC w X c u)->o9 w X cs vs
 |[],vs,hl,_=>by simp only[o9];exact JU hl
 |x::cs,[],hl,_=>by simp at hl
 |x::cs,u::us,hl,hg=>by
  simp only[o9];obtain⟨u',e,h1⟩:=hg 0 x rfl;cases e;exact⟨u,us,rfl,h1,axD cs us (by simpa using hl) fun j c hc=>by simpa using hg (j+1) c (by simpa using hc)⟩
theorem R.val:∀{a:AV} {u:Value},a.val=true->R w X m h a u->(∃ cs vs,a=.agg cs/\u=.agg vs.toArray/\ones vs/\RL w X m h cs vs)\/(a.cells=[a]/\u.cells=#[u]/\u.oneCell'=true)
 |.undef,_,hv,_|.tuple _,_,hv,_|.own ..,_,hv,_=>by simp[AV.val]at hv
 |.agg cs,u,_,hr=>by
  simp only[R]at hr;obtain⟨vs,e,h1,h2⟩:=hr
  exact .inl ⟨cs,vs,rfl,e,h1,h2⟩
 |.fn _ cs,u,_,hr=>by
  simp only[R]at hr;obtain⟨vs,rfl,h1⟩:=hr;unfold fnV
  split<;>exact .inr ⟨rfl,rfl,rfl⟩
 |.lF _ _,u,_,hr=>by
  simp only[R]at hr;obtain⟨k,l,rfl,h1⟩:=hr
  rcases k with _|_|k<;>exact .inr ⟨rfl,rfl,rfl⟩
 |.rM t x,u,_,hr=>by
  simp only[R]at hr;obtain⟨vs,rfl,h1⟩:=hr
  exact .inr ⟨rfl,rfl,rfl⟩
 |.bool _,u,_,hr|.int _ _,u,_,hr|.str _,u,_,hr|.yX,u,_,hr|.zB,u,_,hr|.bO,u,_,hr|.nilPtr,u,_,hr=>by
  simp only[R,RC]at hr;subst hr
  exact .inr ⟨rfl,rfl,rfl⟩
 |.eY _ _,u,_,hr=>by
  simp only[R,RC]at hr;obtain⟨a,cap,rfl,_⟩:=hr
  exact .inr ⟨rfl,rfl,rfl⟩
 |.fT _ _,u,_,hr=>by
  simp only[R,RC]at hr;obtain⟨a,rfl,_⟩:=hr
  exact .inr ⟨rfl,rfl,rfl⟩
 |.iE _,u,_,hr=>by
  simp only[R,RC]at hr;obtain⟨a,o,rfl,_⟩:=hr
  exact .inr ⟨rfl,rfl,rfl⟩
 |.ref ..,u,_,hr=>by
  simp only[R]at hr;obtain⟨a,cap,rfl,_⟩:=hr
  exact .inr ⟨rfl,rfl,rfl⟩
 |.bq ..,u,_,hr=>by
  simp only[R]at hr;obtain⟨a,rfl,_⟩:=hr
  exact .inr ⟨rfl,rfl,rfl⟩
 |.nS x i off,u,_,hr=>by
  cases x with
  |eY z es|fT z es =>
   simp only[R]at hr;obtain⟨a,o,rfl,_⟩:=hr
   exact .inr ⟨rfl,rfl,rfl⟩
  |ref id ak z o len fill =>
   simp only[R]at hr;obtain⟨a,rfl,_⟩:=hr
   exact .inr ⟨rfl,rfl,rfl⟩
  |_=>simp[R]at hr
theorem R.cells{a:AV}{u:Value}(hv:a.val=true)(hr:R w X m h a u):u.cells.size=a.cells.length/\ones u.cells.toList/\RL w X m h a.cells u.cells.toList:=by
 rcases R.val hv hr with⟨cs,vs,rfl,rfl,h1,h2⟩|⟨h1,h2,h3⟩
 ·refine⟨?_,by simpa[Value.cells]using h1,by simpa[Value.cells,AV.cells]using h2⟩
  simp[Value.cells,AV.cells,(RA cs vs h2).1]
 ·rw[h1,h2];refine⟨rfl,fun x hx=>?_, ?_⟩
  ·simp at hx;subst hx;exact h3
  ·simp only[RL];exact⟨u,[],rfl,hr,rfl⟩
theorem RC.cells{e:AV}{v:Value}(hr:RC w X e v)(h0:0<v.cells.size)(h1:ones v.cells.toList):∀(j:Nat) c,e.cells[j]?=some c->∃ u,v.cells.toList[j]?=some u/\u.oneCell'=true/\RC w X c u:=by
 have fin:∀(j:Nat) u,v.cells.toList[j]?=some u->u.oneCell'=true:=fun j u hu=>h1 u (ab5 hu);intro j c hc
 cases e with
 |agg cs =>
  simp only[RC]at hr;obtain⟨vs,rfl,g1,g2⟩:=hr;obtain⟨u,hu,hr⟩:=(ali cs vs g2).2 j c hc
  exact⟨u,by simpa[Value.cells]using hu,fin j u (by simpa[Value.cells]using hu),hr⟩
 |undef =>
  simp only[AV.cells]at hc
  cases j with
  |zero =>
   simp at hc;subst hc;refine⟨v.cells[0], ?_, ?_,by simp[RC]⟩
   ·simp[h0]
   ·exact fin 0 _ (by simp[h0])
  |succ j=>simp at hc
 |own=>simp[RC]at hr
 |ref=>simp[RC]at hr
 |bq=>simp[RC]at hr
 |nS=>simp[RC]at hr
 |lF=>simp[RC]at hr
 |tuple cs =>
  simp only[AV.cells]at hc
  cases j with
  |zero =>
   simp at hc;subst hc;have hr':=hr;simp only[RC]at hr';obtain⟨vs,rfl,_⟩:=hr'
   exact⟨.tuple vs.toArray,rfl,fin 0 _ rfl,hr⟩
  |succ j=>simp at hc
 |_ =>
  simp only[AV.cells]at hc
  cases j with
  |zero =>
   simp at hc;subst hc
   have h2:v.cells=#[v]:=by
    have hv:R w X ([]:Map) ([]:Heap) _ v:=R.Zx _ v hr;rcases R.val (by rfl) hv with⟨cs,vs,e,_⟩|⟨_,h2,_⟩
    ·cases e
    ·exact h2
   exact⟨v,by rw[h2];rfl,fin 0 v (by rw[h2];rfl),hr⟩
  |succ j=>simp at hc
def axE(w:World)(X:Nat->Prop)(z:Nat)(es:List AV)(u:Value):Prop :=
 ∃ a cap,u=.slice a es.length cap/\es.length<=cap/\(es=[]\/∃ b o,a=some ⟨b,o,none⟩/\b<w.heap.size/\0<z/\Gr w X z es b o)
theorem xC.elems{z:Nat}{es:List AV}{c:Array Value}{b:Nat}{ty:TypeId}{fr:Nat×Nat}(hb:w.heap[b]?=some (.cells c ty fr))(ha:xC w X z es c.toList){i:Nat}{e:AV}(he:es[i]?=some e) :
  ∃ v:Value,RC w X e v/\v.cells.size=z/\ones v.cells.toList/\abo w b (i*z) v.cells.toList:=by
 obtain⟨v,h1,h2,h3,h4⟩:=ha.2 i e he;exact⟨v,h1,h2,h3,fun j u hu=>by rw[cell_of_row w b _ c ty fr hb];simpa using h4 j u hu⟩
theorem alk(hi:Inv w m h){id ak z off len fill:Nat}{u:Value}{es:List AV}(hr:R w (Live m h) m h (.ref id ak z off len fill) u)(hl:wF h (.ref id ak z off len fill)=some es) :
  ∃ a cap es0,u=.slice a len cap/\len<=cap/\es.length=len/\h[id]?=some (ak,.arr z es0)/\es0.length=fill/\off+len<=fill/\es=(es0.drop off).take len /\
   (cap=0\/∃ b,m[id]?=some b/\a=some ⟨b,off*z,none⟩/\b<w.heap.size/\0<z/\Gr w (Live m h) z es b (off*z)/\fill<=off+cap/\(off+cap)*z<=bsize w b):=by
 simp only[R]at hr;obtain⟨a,cap,e,hc,hnone,v0,blk,hid,hv,hf⟩:=hr;simp only[wF,hid]at hl
 cases blk with
 |arr z'' es0 =>
  simp only at hl;split at hl
  ·rename_i hcond;obtain⟨rfl,rfl,rfl,hle⟩:=hcond;simp only[dz]at hl;subst hl;have hlen:((es0.drop off).take len).length=len:=by simp;omega
   refine⟨a,cap,es0,e,hc,hlen,hid,rfl,hle,rfl, ?_⟩;obtain⟨_,_,h3⟩:=hf rfl _ es0 rfl;obtain⟨b,hm,h4⟩:=h3 rfl;refine Or.imp_right ?_ h4;rintro⟨ea,q1,q2⟩;obtain⟨b',c,ty,hm',hb,hz0,hok⟩:=hi.blk id _ _ hid (by simp)
   rw[hm]at hm';cases hm';refine⟨b,hm,ea,hi.lt hid (by simp) hm,hz0,ab4 _ _ _ fun i e' he'=>?_,q1,q2⟩
   have hil:i<len:=by have:=(kS.mp he').1;omega
   have:es0[off+i]?=some e':=by rw[IA,if_pos hil,Nr]at he';exact he'
   obtain⟨v,g1,g2,g3,g4⟩:=xC.elems hb hok this;exact⟨v,g1,g2,g3,by rw[<-AZ];exact g4⟩
  ·cases hl
 |_=>simp at hl
theorem anw(hi:Inv w m h){x:AV}{u:Value}{es:List AV}{z:Nat}(hr:R w (Live m h) m h x u)(hl:wF h x=some es)(hz:xB z x=true):axE w (Live m h) z es u:=by
 cases x with
 |bO =>
  simp only[wF,dz]at hl;subst hl;simp only[R,RC]at hr
  exact⟨none,0,hr,iJ _,.inl rfl⟩
 |eY z' es' =>
  simp only[wF,dz]at hl;subst hl;simp only[R,RC]at hr;obtain⟨a,cap,e,hc,h2⟩:=hr;refine⟨a,cap,e,hc, ?_⟩;by_cases hn:es'=[]
  ·exact .inl hn
  ·obtain⟨b,o,ea,hb,_,h0,hE⟩:=h2.resolve_left hn;have hzz:z=z':=by simp only[xB,Jz,beq_iff_eq,Zz]at hz;exact hz.resolve_right hn
   subst hzz
   exact .inr ⟨b,o,ea,hb,h0,hE⟩
 |fT z' es' =>
  simp only[wF,dz]at hl;subst hl;simp only[R,RC]at hr;obtain⟨a,e,h2⟩:=hr;refine⟨a,_,e,iJ _, ?_⟩;by_cases hn:es'=[]
  ·exact .inl hn
  ·obtain⟨b,o,ea,hb,_,h0,hE⟩:=h2.resolve_left hn;have hzz:z=z':=by simp only[xB,Jz,beq_iff_eq,Zz]at hz;exact hz.resolve_right hn
   subst hzz
   exact .inr ⟨b,o,ea,hb,h0,hE⟩
 |ref id ak z' off len fill =>
  simp only[xB,beq_iff_eq]at hz;subst hz;obtain⟨a,cap,es0,e,hc,hlen,_,_,_,_,hmem⟩:=alk hi hr hl;refine⟨a,cap,by rw[hlen];exact e,by rw[hlen];exact hc, ?_⟩
  rcases hmem with h0|⟨b,hm,ea,hb,hz0,hE,_⟩
  ·exact .inl (JU (by omega))
  ·exact .inr ⟨b,_,ea,hb,hz0,hE⟩
 |_=>simp[wF]at hl
theorem axF{x:AV}{u:Value}{n:Nat}(hr:R w X m h x u)(hl:DY x=some n):∃ a cap,u=.slice a n cap/\n<=cap:=by
 cases x with
 |bO=>simp[DY]at hl;subst hl;simp only[R,RC]at hr;exact⟨none,0,hr,iJ _⟩
 |eY z es=>simp[DY]at hl;subst hl;simp only[R,RC]at hr;obtain⟨a,cap,e,hc,_⟩:=hr;exact⟨a,cap,e,hc⟩
 |fT z es=>simp[DY]at hl;subst hl;simp only[R,RC]at hr;obtain⟨a,e,_⟩:=hr;exact⟨a,_,e,iJ _⟩
 |ref=>simp[DY]at hl;subst hl;simp only[R]at hr;obtain⟨a,cap,e,hc,_⟩:=hr;exact⟨a,cap,e,hc⟩
 |_=>simp[DY]at hl
def arH(w:World)(X:Nat->Prop)(m:Map)(h:Heap)(cs:List AV)(u:Value):Prop :=
 ∃ b o,u=.pointer (some ⟨b,o,none⟩)/\∀(j:Nat) c,cs[j]?=some c->∃ x,w.cell? ⟨b,o+j,none⟩=some x/\x.oneCell'=true/\R w X m h c x
theorem Fu.ptr{cs:List AV}{b o:Nat}(hm:Fu w X cs b o):arH w X m h cs (.pointer (some ⟨b,o,none⟩)) :=
 ⟨b,o,rfl,fun j c hc=>let ⟨u,h1,h2,h3⟩:=anp cs b o hm j c hc;⟨u,h1,h2,R.Zx c u h3⟩⟩
theorem axG(hi:Inv w m h){p:AV}{u:Value}{cs:List AV}(hr:R w (Live m h) m h p u)(hc:qL h p=some cs):arH w (Live m h) m h cs u:=by
 cases p with
 |iE cs' =>
  simp only[qL,dz]at hc;subst hc;simp only[R,RC]at hr;obtain⟨b,o,rfl,_,_,hm⟩:=hr
  exact hm.ptr
 |bq id ak off =>
  simp only[R]at hr;obtain⟨a,rfl,v0,blk,hid,hv,hf⟩:=hr;simp only[qL,hid]at hc
  cases blk with
  |box cs0 =>
   simp only at hc;split at hc
   ·rename_i aEe;subst aEe;simp only[dz]at hc;subst hc;obtain⟨b,hm,rfl⟩:=hf rfl cs0 rfl;obtain⟨b',c,ty,hm',hb,h1,h2⟩:=hi.blk id _ _ hid (by simp)
    rw[hm]at hm';cases hm';refine⟨b,off,rfl,fun j x hx=>?_⟩;rw[Nr]at hx;obtain⟨y,hy,hr⟩:=(RA cs0 _ h2).2 _ x hx;exact⟨y,by rw[cell_of_row w b _ c ty (0,0) hb];simpa using hy,h1 y (ab5 hy),hr⟩
   ·cases hc
  |_=>simp at hc
 |nS x i off =>
  cases x with
  |eY z es|fT z es =>
   simp only[R]at hr;obtain⟨b,o,rfl,hr⟩:=hr;simp only[qL,wF,Option.bind_some,mE]at hc;obtain⟨e,he,rfl⟩:=hc
   exact(hr e he).2.2.ptr
  |ref id ak z o len fill =>
   simp only[R]at hr;obtain⟨a,rfl,v0,blk,hid,hv,hf⟩:=hr;simp only[qL,wF,hid]at hc
   cases blk with
   |arr z' es0 =>
    simp only at hc;split at hc
    ·rename_i hcond;obtain⟨rfl,rfl,rfl,hle⟩:=hcond;simp only[Option.bind_some,mE]at hc;obtain⟨e,he,rfl⟩:=hc;obtain⟨_,_,h3⟩:=hf rfl _ es0 rfl;obtain⟨b,hm,rfl⟩:=h3 rfl;obtain⟨b',c,ty,hm',hb,hz0,hok⟩:=hi.blk id _ _ hid (by simp)
     rw[hm]at hm';cases hm';have hil:i<len:=by have:=(kS.mp he).1;simp at this;omega
     have he':es0[o+i]?=some e:=by rw[IA,if_pos hil,Nr]at he;exact he
     obtain⟨v,g1,g2,g3,g4⟩:=xC.elems hb hok he';refine⟨b,(o+i)*z'+off,rfl,fun j q hq=>?_⟩;rw[Nr]at hq;obtain⟨y,hy,hy1,hy2⟩:=RC.cells g1 (by omega) g3 _ q hq
     exact⟨y,by rw[Nat.add_assoc];exact g4 _ y hy,hy1,R.Zx q y hy2⟩
    ·cases hc
   |_=>simp at hc
  |_=>simp[R]at hr
 |_=>simp[qL]at hc
theorem aEf{sh:Sh}{cs:List AV}{v:AV}(hs:shaped sh cs=some v):(sh=.one/\cs[0]?=some v)\/∃ n,sh=.agg n/\n<=cs.length/\v=.agg (cs.take n):=by
 cases sh with
 |one=>cases cs with
  |nil=>simp[shaped]at hs
  |cons c r=>simp[shaped]at hs;exact .inl ⟨rfl,by simp[hs]⟩
 |agg n =>
  simp only[shaped]at hs;split at hs
  ·cases hs;exact .inr ⟨n,rfl,by assumption,rfl⟩
  ·cases hs
end
section
variable {w:World}{m:Map}
theorem RC.less{X X':Nat->Prop}(h:∀ b,X' b->X b){a:AV}{u:Value}(hr:RC w X a u):RC w X' a u:=RC.keep (Keep.weaken h) a u hr
theorem Gr.less{X X':Nat->Prop}(h:∀ b,X' b->X b){z:Nat}{es:List AV}{b o:Nat}(hr:Gr w X z es b o):Gr w X' z es b o :=
 ab4 _ _ _ fun i e he=>let ⟨v,h1,h2,h3,h4⟩:=aiU es b o hr i e he;⟨v,h1.less h,h2,h3,h4⟩
mutual
theorem ajS{base lo:Nat}(hlo:lo<=base):∀(a:AV) (h:Heap) (u:Value) (a':AV) (h':Heap),Inv w m h->R w (Live m h) m h a u->gI base false a h=some (a',h') ->
  Step lo w m h w m h'/\Inv w m h'/\RC w (Live m h') a' u
 |.agg cs,h,u,a',h',hi,hr,hf=>by
  simp only[gI,mE,bf]at hf;obtain⟨⟨cs',h1⟩,hf,rfl,rfl⟩:=hf;simp only[R]at hr;obtain⟨vs,rfl,g1,g2⟩:=hr;obtain⟨s,i,r⟩:=anx hlo cs h vs cs' _ hi g2 hf
  exact⟨s,i,by simp only[RC];exact⟨vs,rfl,g1,r⟩⟩
 |.tuple cs,h,u,a',h',hi,hr,hf=>by
  simp only[gI,mE,bf]at hf;obtain⟨⟨cs',h1⟩,hf,rfl,rfl⟩:=hf;simp only[R]at hr;obtain⟨vs,rfl,g2⟩:=hr;obtain⟨s,i,r⟩:=anx hlo cs h vs cs' _ hi g2 hf
  exact⟨s,i,by simp only[RC];exact⟨vs,rfl,r⟩⟩
 |.fn f cs,h,u,a',h',hi,hr,hf=>by
  simp only[gI,mE,bf]at hf;obtain⟨⟨cs',h1⟩,hf,rfl,rfl⟩:=hf;simp only[R]at hr;obtain⟨vs,rfl,g2⟩:=hr;obtain⟨s,i,r⟩:=anx hlo cs h vs cs' _ hi g2 hf
  exact⟨s,i,by simp only[RC];exact⟨vs,rfl,r⟩⟩
 |.rM t x,h,u,a',h',hi,hr,hf=>by
  simp only[gI,mE,bf]at hf;obtain⟨⟨x',h1⟩,hf,rfl,rfl⟩:=hf;simp only[R]at hr;obtain⟨v,rfl,g2⟩:=hr;obtain⟨s,i,r⟩:=ajS hlo x h v x' _ hi g2 hf
  exact⟨s,i,by simp only[RC];exact⟨v,rfl,r⟩⟩
 |.bO,h,u,a',h',hi,hr,hf=>by
  simp only[gI,dz,bf]at hf;obtain⟨rfl,rfl⟩:=hf;refine⟨Step.refl _ _ _ _,hi, ?_⟩;simp only[R,RC]at hr⊢
  exact⟨none,0,hr,iJ _,by simp⟩
 |.ref id ak z off len fill,h,u,a',h',hi,hr,hf=>by
  simp only[gI]at hf;split at hf
  ·rename_i hb;simp only[mE,bf]at hf;obtain⟨es,hl,rfl,rfl⟩:=hf;obtain⟨a,cap,es0,e,hc,hlen,hid,_,_,_,hmem⟩:=alk hi hr hl;obtain⟨s,i,lv,ld⟩:=alg (lo:=lo) hi hid (by omega)
   refine⟨s,i, ?_⟩;simp only[RC];refine⟨a,cap,by rw[hlen];exact e,by rw[hlen];exact hc, ?_⟩
   rcases hmem with h0|⟨b,hm,ea,hb',h0,hE,_⟩
   ·exact .inl (JU (by omega))
   ·exact .inr ⟨b,_,ea,hb',ld b hm (by simp),h0,Gr.less lv hE⟩
  ·simp at hf
 |.undef,h,u,a',h',hi,hr,hf=>by
  simp only[gI,dz,bf]at hf;obtain⟨rfl,rfl⟩:=hf
  exact⟨Step.refl _ _ _ _,hi,by simp[RC]⟩
 |.bool _,h,u,a',h',hi,hr,hf|.int _ _,h,u,a',h',hi,hr,hf|.str _,h,u,a',h',hi,hr,hf|.yX,h,u,a',h',hi,hr,hf|.zB,h,u,a',h',hi,hr,hf|.nilPtr,h,u,a',h',hi,hr,hf
 |.eY _ _,h,u,a',h',hi,hr,hf|.fT _ _,h,u,a',h',hi,hr,hf|.iE _,h,u,a',h',hi,hr,hf=>by
  simp only[gI,dz,bf]at hf;obtain⟨rfl,rfl⟩:=hf
  exact⟨Step.refl _ _ _ _,hi,by simpa only[R]using hr⟩
 |.own _ _,h,u,a',h',hi,hr,hf|.bq _ _ _,h,u,a',h',hi,hr,hf|.nS _ _ _,h,u,a',h',hi,hr,hf|.lF _ _,h,u,a',h',hi,hr,hf=>by simp[gI]at hf
theorem anx{base lo:Nat}(hlo:lo<=base):∀(cs:List AV) (h:Heap) (us:List Value) (cs':List AV) (h':Heap),Inv w m h->RL w (Live m h) m h cs us->zx base false cs h=some (cs',h') ->
  Step lo w m h w m h'/\Inv w m h'/\o9 w (Live m h') cs' us
 |[],h,us,cs',h',hi,hr,hf=>by
  simp only[zx,dz,bf]at hf;obtain⟨rfl,rfl⟩:=hf
  exact⟨Step.refl _ _ _ _,hi,by simpa[RL,o9]using hr⟩
 |c::cs,h,us,cs',h',hi,hr,hf=>by
  simp only[zx,bE,mE,bf]at hf;obtain⟨⟨c1,h1⟩,f1,⟨cs1,h2⟩,f2,rfl,rfl⟩:=hf;simp only[RL]at hr;obtain⟨u,vw,rfl,g1,g2⟩:=hr;obtain⟨s1,i1,r1⟩:=ajS hlo c h u c1 h1 hi g1 f1;obtain⟨s2,i2,r2⟩:=anx hlo cs h1 vw cs1 _ i1 (RL.step s1.ids s1.keep cs vw g2) f2;exact⟨s1.trans s2,i2,by simp only[o9];exact⟨u,vw,rfl,RC.keep s2.keep c1 u r1,r2⟩⟩
end
end
end Go.VI
