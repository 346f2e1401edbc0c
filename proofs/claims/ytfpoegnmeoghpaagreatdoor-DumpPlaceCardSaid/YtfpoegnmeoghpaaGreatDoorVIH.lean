/- The operations that only read, continued: fields, elements, parts, loads. -/
import Derived.Test.YtfpoegnmeoghpaaGreatDoorVIG
set_option linter.unusedVariables false
set_option linter.unusedSimpArgs false
namespace Go.VI
set_option linter.unusedSectionVars false
variable [kH][Rounds]
section
variable {w:World}{m:Map}{h:Heap}{P:Program}{env:Env}{a:Act}{o:Oper}{X:Nat->Prop}
theorem add_plain(b off k:Nat):(⟨b,off,none⟩:Addr).add k=⟨b,off+k,none⟩:=by
 unfold Addr.add;split<;>simp_all
theorem axV{l:List AV}{b off:Nat}(k:Nat)(hm:Fu w X l b off):Fu w X (l.drop k) b (off+k) :=
 alh _ _ _ fun j c hc=>by
  rw[Nr]at hc;obtain⟨u,h1,h2⟩:=anp l b off hm _ c hc;exact⟨u,by rw[Nat.add_assoc];exact h1,h2⟩
theorem axW{p:AV}{u:Value}{k:Nat}{v:AV}(hr:R w X m h p u)(hv:JI p k=some v):∃ ad,u=.pointer (some ad)/\R w X m h v (.pointer (some (ad.add k))):=by
 unfold JI at hv;split at hv
 ·simp only[dz]at hv;subst hv;simp only[R,RC]at hr⊢;obtain⟨b,off,rfl,h1,h2,h3⟩:=hr;exact⟨_,rfl,b,off+k,by rw[add_plain],h1,h2,axV k h3⟩
 ·simp only[dz]at hv;subst hv;simp only[R]at hr⊢;obtain⟨ad,rfl,v0,blk,h1,h2,h3⟩:=hr;refine⟨ad,rfl,_,rfl,v0,blk,h1,h2,fun e cs hc=>?_⟩;obtain⟨b,hm,rfl⟩:=h3 e cs hc;exact⟨b,hm,by rw[add_plain]⟩
 ·rename_i q i off;simp only[dz]at hv;subst hv
  cases q with
  |eY z es|fT z es =>
   simp only[R]at hr⊢;obtain⟨b,o',rfl,h3⟩:=hr;refine⟨_,rfl,b,o'+k,by rw[add_plain],fun e he=>?_⟩
   obtain⟨g1,g2,g3⟩:=h3 e he
   exact⟨g1,g2,by rw[<-List.drop_drop];exact axV k g3⟩
  |ref id ak z o' len fill =>
   simp only[R]at hr⊢;obtain⟨ad,rfl,v0,blk,h1,h2,h3⟩:=hr;refine⟨ad,rfl,_,rfl,v0,blk,h1,h2,fun e z' es hb=>?_⟩;obtain⟨g1,g2,g3⟩:=h3 e z' es hb;refine⟨g1,g2,fun hf=>?_⟩;obtain⟨b,hm,rfl⟩:=g3 hf
   exact⟨b,hm,by rw[add_plain,Nat.add_assoc]⟩
  |_=>simp[R]at hr
 ·cases hv
theorem aEv(he:uO w m h env a){x:bD}{k:Nat}{v:AV}(hk:mg P o (.JI x k)=true)(hv:JI (x.ev env) k=some v):Reads P w m h a o v:=by
 simp only[mg]at hk;split at hk
 ·rename_i s y f hop;split at hk
  ·rename_i fields hs;split at hk
   ·rename_i fd hfd;simp only[fw,beq_iff_eq]at hk;obtain⟨⟨rfl,h0⟩,h1⟩:=hk;obtain⟨ad,e,hR⟩:=axW (tO he h1) hv;split at h0
    ·rename_i n hn;simp only[decide_eq_true_eq]at h0;refine⟨_, ?_,hR⟩;simp[execOp,hop,Instr.fieldAt,underlying,hs,hfd,e,Instr.sureAddr,fieldPlace,acS hn,h0]
    ·cases h0
   ·cases hk
  ·cases hk
 ·cases hk
theorem arQ{x:AV}{u:Value}{n j:Nat}(hr:R w X m h x u)(hv:idx x n=some j):∃ k,u=.int k j/\j<n:=by
 unfold idx at hv;split at hv
 ·rename_i k i;split at hv
  ·rename_i hb;simp only[dz]at hv;rw[JA]at hr;refine⟨k, ?_,by omega⟩
   rw[hr];congr 1;omega
  ·cases hv
 ·cases hv
theorem aEx(he:uO w m h env a){n size:Nat}{x i:bD}{v:AV}{j:Nat}(hk:mg P o (.SS n size x i)=true)(hj:idx (i.ev env) n=some j)(hv:JI (x.ev env) (j*size)=some v):Reads P w m h a o v:=by
 simp only[mg]at hk;split at hk
 ·rename_i t y q hop;split at hk
  ·rename_i n' e harr;simp only[fw,beq_iff_eq]at hk;obtain⟨⟨⟨rfl,hs⟩,h1⟩,h2⟩:=hk;obtain⟨ad,e1,hR⟩:=axW (tO he h1) hv;obtain⟨k,e2,hlt⟩:=arQ (tO he h2) hj;refine⟨_, ?_,hR⟩;have hu:=aEi harr;simp[execOp,hop,Instr.indexAt,asIntOf,e1,e2,underlying,hu,Instr.sureAddr,hlt,acS hs]
  ·cases hk
 ·cases hk
theorem aEy(hi:Inv w m h)(he:uO w m h env a){z:Nat}{x i:bD}{n j:Nat}(hk:mg P o (.TT z x i)=true)(hz:xB z (x.ev env)=true)(hn:DY (x.ev env)=some n)(hj:idx (i.ev env) n=some j) :
  Reads P w m h a o (.nS (x.ev env) j 0):=by
 simp only[mg]at hk;split at hk
 ·rename_i t y q hop;simp only[fw]at hk;obtain⟨⟨h0,h1⟩,h2⟩:=hk;split at h0
  ·rename_i e hse;simp only[beq_iff_eq]at h0;have hr:=tO he h1;obtain⟨k,e2,hlt⟩:=arQ (tO he h2) hj;obtain⟨ad0,cap,e1,hle⟩:=axF hr hn;have hu:=ajZ hse
   have key:∀ ad,ad0=some ad->(execOp a.eval o).run P w=.ok (.value (.pointer (some (ad.add (j*z))))) w:=by
    rintro ad rfl;simp[execOp,hop,Instr.indexAt,asIntOf,e1,e2,underlying,hu,hlt,acS h0]
   generalize x.ev env=xv at hr hz hn⊢;rw[e1]at hr
   cases xv with
   |bO=>simp[DY]at hn;omega
   |eY z' es =>
    simp only[DY,dz]at hn;subst hn;simp only[R,RC]at hr;obtain⟨a',cap',e3,hc,h3⟩:=hr;have hne:es≠[]:=by rintro rfl;simp at hlt
    obtain⟨b,o',ea,hb,hx,h0',hE⟩:=h3.resolve_left hne;have hzz:z=z':=by simp only[xB,Jz,beq_iff_eq,Zz]at hz;exact hz.resolve_right hne
    subst hzz;cases e3;refine⟨_,key _ ea, ?_⟩;simp only[R];refine⟨b,o'+j*z,by rw[add_plain],fun e hej=>⟨hb,hx, ?_⟩⟩
    obtain⟨v,g1,g2,g3,g4⟩:=aiU es b o' hE j e hej;refine alh _ _ _ fun i' c hc'=>?_;rw[List.drop_zero]at hc';obtain⟨u,k1,k2,k3⟩:=RC.cells g1 (by omega) g3 i' c hc'
    exact⟨u,g4 _ _ k1,k2,k3⟩
   |fT z' es =>
    simp only[DY,dz]at hn;subst hn;simp only[R,RC]at hr;obtain⟨a',e3,h3⟩:=hr;have hne:es≠[]:=by rintro rfl;simp at hlt
    obtain⟨b,o',ea,hb,hx,h0',hE⟩:=h3.resolve_left hne;have hzz:z=z':=by simp only[xB,Jz,beq_iff_eq,Zz]at hz;exact hz.resolve_right hne
    subst hzz;cases e3;refine⟨_,key _ ea, ?_⟩;simp only[R];refine⟨b,o'+j*z,by rw[add_plain],fun e hej=>⟨hb,hx, ?_⟩⟩
    obtain⟨v,g1,g2,g3,g4⟩:=aiU es b o' hE j e hej;refine alh _ _ _ fun i' c hc'=>?_;rw[List.drop_zero]at hc';obtain⟨u,k1,k2,k3⟩:=RC.cells g1 (by omega) g3 i' c hc'
    exact⟨u,g4 _ _ k1,k2,k3⟩
   |ref id ak z' off len fill =>
    simp only[DY,dz]at hn;subst hn;simp only[xB,beq_iff_eq]at hz;subst hz;simp only[R]at hr;obtain⟨a',cap',e3,hc,hnone,v0,blk,g1,g2,g3⟩:=hr;cases e3
    cases ad0 with
    |some ad =>
     refine⟨_,key ad rfl, ?_⟩;simp only[R];refine⟨_,rfl,v0,blk,g1,g2,fun e z' es hb=>?_⟩;obtain⟨k1,k2,k3⟩:=g3 e z' es hb;refine⟨k1,k2,fun hf=>?_⟩;obtain⟨b,hm,k4⟩:=k3 hf;obtain⟨ea,_⟩:=k4.resolve_left (by omega)
     cases ea
     exact⟨b,hm,by rw[add_plain,Nat.add_zero,AZ]⟩
    |none =>
     have:=hnone rfl
     omega
   |_=>simp[DY]at hn
  ·cases h0
 ·cases hk
theorem aEz(he:uO w m h env a){x i:bD}{l:List UInt8}{b:UInt8}{j:Nat}(hk:mg P o (.Oa x i)=true)(hx:x.ev env=.str l)(hj:idx (i.ev env) l.length=some j)(hv:l[j]?=some b):Reads P w m h a o (.int .u8 b.toNat):=by
 simp only[mg]at hk;split at hk
 ·rename_i t y q hop;simp only[fw]at hk;obtain⟨⟨h0,h1⟩,h2⟩:=hk;have hr:=tO he h1;rw[hx,RB]at hr;obtain⟨k,e2,hlt⟩:=arQ (tO he h2) hj;have hun:=anG h0
  have hget:(⟨l.toArray⟩:ByteArray)[j]?=some b:=by
   simp only[getElem?_def,ByteArray.size,List.size_toArray,hlt,dif_pos];rw[Fv hlt]at hv;simp only[dz]at hv;rw[<-hv];rfl
  exact⟨_,by simp[execOp,hop,Instr.index,asIntOf,hr,e2,underlying,hun,hget],JA.mpr rfl⟩
 ·cases hk
theorem anH{x:Option bD}{y:Option Operand}{n d b:Nat}(he:uO w m h env a)(hk:ajT y x=true)(hb:bnd (x.map (·.ev env)) n d=some b) :
  (y=none/\b=d)\/∃ q k,y=some q/\a.eval q=.int k b/\b<=n:=by
 unfold ajT at hk;split at hk
 ·simp[bnd]at hb;exact .inl ⟨rfl,hb.symm⟩
 ·rename_i q x';have hr:=tO he hk;simp only[Option.map_some,bnd]at hb;split at hb
  ·rename_i k i e;simp only[dz]at e;split at hb
   ·rename_i hlt;simp only[dz]at hb;rw[e,JA]at hr;refine .inr ⟨q,k,rfl, ?_,by omega⟩
    rw[hr];congr 1;omega
   ·cases hb
  ·cases hb
  ·rename_i e;cases e
 ·cases hk
theorem axX{lo hi:Option Operand}{x y:Option bD}{len cap l b:Nat}{s:Bool}(he:uO w m h env a)(h1:ajT lo x=true)(h2:ajT hi y=true)(hlc:len<=cap)
  (hb:bnd (y.map (·.ev env)) len len=some b) (hl:bnd (x.map (·.ev env)) b 0=some l) :
  (Instr.sliceBounds s len cap (lo.map a.eval) (hi.map a.eval) none).run P w=.ok (l,b,cap) w/\l<=b/\b<=len:=by
 have hbl:b<=len:=by rcases anH he h2 hb with⟨_,rfl⟩|⟨_,_,_,_,h⟩<;>omega
 have hll:l<=b:=by rcases anH he h1 hl with⟨_,rfl⟩|⟨_,_,_,_,h⟩<;>omega
 refine⟨?_,hll,hbl⟩;rcases anH he h2 hb with⟨rfl,rfl⟩|⟨q,k,rfl,e,_⟩<;>rcases anH he h1 hl with⟨rfl,rfl⟩|⟨q',k',rfl,e',_⟩
 ·simp[Instr.sliceBounds]
 ·have:(Int.ofNat l)<=(b:Int):=by simp;omega
  simp[Instr.sliceBounds,Instr.sliceBound,e',asIntOf,hll]
 ·have:b<=cap:=by omega
  simp[Instr.sliceBounds,Instr.sliceBound,e,asIntOf,this]
 ·have:b<=cap:=by omega
  simp[Instr.sliceBounds,Instr.sliceBound,e,e',asIntOf,this,hll]
theorem axY(l:List UInt8)(i j:Nat):(⟨l.toArray⟩:ByteArray).extract i j=⟨((l.take j).drop i).toArray⟩:=by
 apply ByteArray.ext;simp[List.extract_eq_take_drop,List.drop_take]
theorem aEA(he:uO w m h env a){x:bD}{lo hi:Option bD}{s:List UInt8}{b l:Nat}(hk:mg P o (.slice none x lo hi)=true)(hx:x.ev env=.str s)
  (hb:bnd (hi.map (·.ev env)) s.length s.length=some b) (hl:bnd (lo.map (·.ev env)) b 0=some l):Reads P w m h a o (.str ((s.take b).drop l)):=by
 simp only[mg]at hk;split at hk
 ·rename_i t y lo' hi' hop;simp only[fw]at hk;obtain⟨⟨⟨h0,h1⟩,h2⟩,h3⟩:=hk;have hr:=tO he h1;rw[hx,RB]at hr;have hun:=anG h0;obtain⟨g1,g2,g3⟩:=axX (P:=P) (w:=w) (s:=false) he h2 h3 (iJ s.length) hb hl;refine⟨.string ⟨((s.take b).drop l).toArray⟩, ?_,RB.mpr rfl⟩;have hsz:(⟨s.toArray⟩:ByteArray).size=s.length:=by simp[ByteArray.size]
  simp[execOp,hop,Instr.sliceAt,Instr.slice,underlying,hun,hr,hsz,g1,axY]
 ·cases hk
theorem aEB(hi':Inv w m h)(he:uO w m h env a){z:Nat}{x:bD}{lo hi:Option bD}{v:AV}(hk:mg P o (.slice (some z) x lo hi)=true)(hv:Rc (some z) (x.ev env) (lo.map (·.ev env)) (hi.map (·.ev env))=some v):Reads P w m h a o v:=by
 simp only[mg]at hk;split at hk
 ·rename_i t y lo' aj1 hop;simp only[fw]at hk;obtain⟨⟨⟨h0,h1⟩,h2⟩,h3⟩:=hk;split at h0
  ·rename_i e hse;simp only[beq_iff_eq]at h0;have hr:=tO he h1;have hun:=ajZ hse
   -- the run
   have key:∀(ad:Option Addr) (len cap b l:Nat),a.eval y=.slice ad len cap->len<=cap->bnd (hi.map (·.ev env)) len len=some b->bnd (lo.map (·.ev env)) b 0=some l ->
     (execOp a.eval o).run P w=.ok (.value (.slice (if cap=l then ad else ad.map (·.add (l*z))) (b-l) (cap-l))) w/\l<=b/\b<=len:=by
    intro ad len cap b l e1 hlc hb hl;obtain⟨g1,g2,g3⟩:=axX (P:=P) (w:=w) (s:=true) he h2 h3 hlc hb hl;refine⟨?_,g2,g3⟩;simp[execOp,hop,Instr.sliceAt,Instr.slice,underlying,hun,e1,g1,acS h0]
   simp only[Rc]at hv;split at hv
   ·rename_i hz
    have lists:∀(z':Nat) (es:List AV) (b l:Nat),(∃ a' cap,a.eval y=.slice a' es.length cap/\es.length<=cap/\(es=[]\/∃ b o,a'=some ⟨b,o,none⟩/\b<w.heap.size/\¬ Live m h b/\0<z'/\Gr w (Live m h) z' es b o)) ->
      (z=z'\/es=[])->bnd (hi.map (·.ev env)) es.length es.length=some b->bnd (lo.map (·.ev env)) b 0=some l->Reads P w m h a o (.eY z ((es.take b).drop l)):=by
     rintro z' es b l ⟨a',cap,e1,hc,h4⟩ hzz hb hl;obtain⟨hrun,hlb,hbe⟩:=key a' _ cap b l e1 hc hb hl;refine⟨_,hrun, ?_⟩;simp only[R,RC];have hlen:((es.take b).drop l).length=b-l:=by simp;omega
     refine⟨_,_,by rw[hlen],by rw[hlen];omega, ?_⟩
     by_cases hn:(es.take b).drop l=[]
     ·exact .inl hn
     ·have hne:es≠[]:=by rintro rfl;simp at hn
      obtain⟨bb,oo,ea,g1,g2,g3,g4⟩:=h4.resolve_left hne;have arR:z=z':=hzz.resolve_right hne;subst arR
      have hpos:0<b-l:=by
       rcases Y3 (b-l)with h|h
       ·exact absurd (JU (by omega)) hn
       ·exact h
      have hcl:¬ cap=l:=by omega
      refine .inr ⟨bb,oo+l*z,by rw[if_neg hcl,ea];simp[add_plain],g1,g2,g3,ab4 _ _ _ fun i e' he'=>?_⟩
      rw[Nr,IA]at he';split at he'
      ·obtain⟨v',k1,k2,k3,k4⟩:=aiU es bb oo g4 _ e' he';exact⟨v',k1,k2,k3,by rw[Nat.add_assoc,<-AZ];exact k4⟩
      ·cases he'
    generalize x.ev env=xv at hr hz hv
    cases xv with
    |bO =>
     simp only[bE,mE]at hv;obtain⟨b,hb,l,hl,rfl⟩:=hv;simp only[R,RC]at hr;obtain⟨hrun,hlb,hbe⟩:=key none 0 0 b l hr (iJ _) hb hl;refine⟨_,hrun, ?_⟩;simp only[R,RC];have:l=0:=by omega
     subst this;have:b=0:=by omega
     subst this
     simp
    |eY z' es =>
     simp only[bE,mE]at hv;obtain⟨b,hb,l,hl,rfl⟩:=hv;simp only[R,RC]at hr
     exact lists z' es b l hr (by simpa[xB]using hz) hb hl
    |fT z' es =>
     simp only[bE,mE]at hv;obtain⟨b,hb,l,hl,rfl⟩:=hv;simp only[R,RC]at hr;obtain⟨a',e1,h4⟩:=hr
     exact lists z' es b l ⟨a',_,e1,iJ _,h4⟩ (by simpa[xB]using hz) hb hl
    |ref id ak z' off len fill =>
     simp only[bE,mE]at hv;obtain⟨b,hb,l,hl,rfl⟩:=hv;simp only[xB,beq_iff_eq]at hz;subst hz;simp only[R]at hr;obtain⟨ad,cap,e1,hc,hnone,v0,blk,g1,g2,g3⟩:=hr;obtain⟨hrun,hlb,hbe⟩:=key ad len cap b l e1 hc hb hl;refine⟨_,hrun, ?_⟩;simp only[R];refine⟨_,_,rfl,by omega, ?_,v0,blk,g1,g2,fun e' z' es hbk=>?_⟩
     ·intro hn;split at hn
      ·omega
      ·rw[Option.map_eq_none_iff]at hn;have:=hnone hn;omega
     ·obtain⟨k1,k2,k3⟩:=g3 e' z' es hbk;refine⟨k1,k2,fun hf=>?_⟩;obtain⟨bb,hm,k4⟩:=k3 hf;refine⟨bb,hm, ?_⟩;by_cases hcl:cap=l
      ·exact .inl (by omega)
      ·obtain⟨ea,k5,k6⟩:=k4.resolve_left (by omega)
       refine .inr ⟨by rw[if_neg hcl,ea];simp[add_plain,AZ],by omega, ?_⟩
       rw[show off+l+(cap-l)=off+cap by omega]
       exact k6
    |_=>simp at hv
   ·cases hv
  ·cases h0
 ·cases hk
theorem axZ{t:TypeId}{sh:Sh}{cs:List AV}{u:Value}{v:AV}(hs:aln P t sh=true)(hp:arH w X m h cs u)(hv:shaped sh cs=some v) :
  ∃ ad x,u=.pointer (some ad)/\(loadVar t ad).run P w=.ok x w/\R w X m h v x:=by
 obtain⟨b,off,rfl,hg⟩:=hp;refine⟨⟨b,off,none⟩, ?_⟩;rcases aEf hv with⟨rfl,hc⟩|⟨n,rfl,hle,rfl⟩
 ·have ha:alm P t=some false:=by
   unfold aln at hs;split at hs<;>simp_all
  obtain⟨x,h1,h2,h3⟩:=hg 0 v hc;exact⟨x,rfl,by simp at h1;simp[loadVar,axQ ha,h1],h3⟩
 ·have ha:alm P t=some true/\SX P t=some n:=by
   unfold aln at hs;split at hs<;>simp_all
  -- the cells,one by one
  have hex:∃ vs:List Value,vs.length=n/\∀(j:Nat) c,(cs.take n)[j]?=some c->∃ x,vs[j]?=some x/\w.cell? ⟨b,off+j,none⟩=some x/\x.oneCell'=true/\R w X m h c x:=by
   refine⟨(List.range n).map fun j=>(w.cell? ⟨b,off+j,none⟩).getD undef,by simp,fun j c hc=>?_⟩
   rw[IA]at hc;split at hc
   ·rename_i hj;obtain⟨x,h1,h2,h3⟩:=hg j c hc;exact⟨x,by simp[hj,h1],h1,h2,h3⟩
   ·cases hc
  obtain⟨vs,hlen,hvs⟩:=hex
  have hin:∀(j:Nat) x,vs[j]?=some x->w.cell? ((⟨b,off,none⟩:Addr).add j)=some x/\x.oneCell'=true:=by
   intro j x hx;have hj:j<n:=by rw[<-hlen];exact(kS.mp hx).1
   have hcj:∃ c,(cs.take n)[j]?=some c:=⟨(cs.take n)[j]'(by simp;omega),by simp[hj]⟩
   obtain⟨c,hc⟩:=hcj;obtain⟨x',g1,g2,g3,_⟩:=hvs j c hc;rw[hx]at g1;cases g1;exact⟨by rw[add_plain];exact g2,g3⟩
  refine⟨.agg vs.toArray,rfl, ?_, ?_⟩
  ·have hl:=run_loadCells_list (P:=P) w ⟨b,off,none⟩ vs (fun j x hx=>(hin j x hx).1);rw[hlen]at hl;simp[loadVar,axQ ha.1,acS ha.2,hl]
  ·simp only[R];refine⟨vs,rfl,fun x hx=>?_,alj _ _ (by simp[hlen];omega) fun j c hc=>?_⟩
   ·obtain⟨j,hj⟩:=List.getElem?_of_mem hx;exact(hin j x hj).2
   ·obtain⟨x,g1,_,_,g4⟩:=hvs j c hc;exact⟨x,g1,g4⟩
theorem aEC(hi:Inv w m h)(he:uO w m h env a){sh:Sh}{x:bD}{cs:List AV}{v:AV}(hk:mg P o (.load sh x)=true)(hc:qL h (x.ev env)=some cs)(hv:shaped sh cs=some v):Reads P w m h a o v:=by
 simp only[mg]at hk;split at hk
 ·rename_i t y hop;simp only[fw]at hk;obtain⟨ad,u,e,h1,h2⟩:=axZ (P:=P) hk.1 (axG hi (tO he hk.2) hc) hv;exact⟨u,by simp[execOp,hop,Instr.loadAt,e,Instr.sureAddr,h1],h2⟩
 ·cases hk
end
end Go.VI
