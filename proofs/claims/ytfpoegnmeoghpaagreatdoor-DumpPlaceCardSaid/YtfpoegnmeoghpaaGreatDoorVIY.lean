/- What a law is handed, read as data, is what the evaluator is handed: types that hold numbers, bools, strings, slices, structs and arrays. -/
import Derived.Test.YtfpoegnmeoghpaaGreatDoorVIX
import Derived.WalkKit
import Derived.ProofKit
import Derived.OpenShut
import Derived.ShutString
import Derived.ChangeOld
import Derived.Carry
import Derived.SizedLaws
set_option linter.unusedVariables false
set_option linter.unusedSimpArgs false
namespace Go.VI
inductive xR where
 |bool
 |int (k:IntKind)
 |str
 |slice (z:Nat) (e:xR)
 |agg (fs:List xR)
mutual
def xR.n:xR->Nat
 |.agg fs=>xR.nL fs
 |_=>1
def xR.nL:List xR->Nat
 |[]=>0
 |f::fs=>f.n+xR.nL fs
end
def xR.mk:xR->List AV->AV
 |.agg _,cs=>.agg cs
 |_,cs=>cs.headD .undef
mutual
def RG(P:Program):xR->TypeId->Bool
 |.bool,t=>match P.underlying t with|some .bool=>true|_=>false
 |.int k,t=>match P.underlying t with|some (.int k')=>decide (k=k')|_=>false
 |.str,t=>match P.underlying t with|some .string=>true|_=>false
 |.slice z e,t=>match P.underlying t with|some (.slice te)=>P.cellsOf te==z&&decide (0<z)&&e.n==z&&RG P e te|_=>false
 |.agg fs,t=>match P.underlying t with
  |some (.struct fds)=>P.cellsOf t==xR.nL fs&&al5 P fs fds.toList 0
  |some (.array n te)=>P.cellsOf t==xR.nL fs&&fs.length==n&&aom P fs te
  |_=>false
def al5(P:Program):List xR->List Field->Nat->Bool
 |[],[],_=>true
 |f::fs,fd::fds,o=>fd.offset==o&&P.cellsOf fd.type==f.n&&RG P f fd.type&&al5 P fs fds (o+f.n)
 |_,_,_=>false
def aom(P:Program):List xR->TypeId->Bool
 |[],_=>true
 |f::fs,te=>P.cellsOf te==f.n&&RG P f te&&aom P fs te
end
mutual
def Dl:xR->List AV->Prop
 |.bool,as=>∃ b,as=[.bool b]
 |.int k,as=>∃ n,as=[.int k n]/\(Lit.int k n).wf=true
 |.str,as=>∃ l,as=[.str l]/\l.length<=maxLen
 |.slice z e,as=>as=[.bO]\/∃ es,as=[.eY z es]/\es.length<=maxLen/\∀ x∈es,∃ cs,x=e.mk cs/\Dl e cs
 |.agg fs,as=>ai6 fs as
def ai6:List xR->List AV->Prop
 |[],as=>as=[]
 |f::fs,as=>∃ a b,as=a++b/\Dl f a/\ai6 fs b
end
section
variable {w:World}{X:Nat->Prop}
theorem aIg{as bs:List AV}{us vs:List Value}(h1:o9 w X as us)(h2:o9 w X bs vs):o9 w X (as++bs) (us++vs):=by
 induction as generalizing us with
 |nil=>simp only[o9]at h1;subst h1;simpa using h2
 |cons a as ih =>
  simp only[o9]at h1;obtain⟨u,vw,rfl,h3,h4⟩:=h1;simp only[List.cons_append,o9];exact⟨u,vw++vs,rfl,h3,ih h4⟩
def asM(w:World)(X:Nat->Prop)(cs:List Value)(sh:xR):Prop:=ones cs/\∃ as,o9 w X as cs/\Dl sh as
def ai7(w:World)(X:Nat->Prop)(cs:List Value)(fs:List xR):Prop:=ones cs/\∃ as,o9 w X as cs/\ai6 fs as
theorem ai7.cons{cs ds:List Value}{f:xR}{fs:List xR}(h1:asM w X cs f)(h2:ai7 w X ds fs):ai7 w X (cs++ds) (f::fs):=by
 obtain⟨o1,as,r1,t1⟩:=h1;obtain⟨o2,bs,r2,t2⟩:=h2;exact⟨fun u hu=>(Di.mp hu).elim (o1 u) (o2 u),as++bs,aIg r1 r2,by simp only[ai6];exact⟨as,bs,rfl,t1,t2⟩⟩
theorem aIh{e:xR}{as:List AV}{cs:List Value}(ho:ones cs)(hr:o9 w X as cs)(ht:Dl e as)(hz:cs.length=e.n):∃ v:Value,RC w X (e.mk as) v/\v.cells=cs.toArray:=by
 have one:∀ a:AV,as=[a]->e.mk as=a->∃ v:Value,RC w X (e.mk as) v/\v.cells=cs.toArray:=by
  intro a ha hm;subst ha;simp only[o9]at hr;obtain⟨u,us,rfl,h1,rfl⟩:=hr;rw[hm];refine⟨u,h1, ?_⟩;have:=ho u (by simp)
  cases u<;>simp_all[Value.oneCell',Value.cells]
 cases e with
 |bool=>simp only[Dl]at ht;obtain⟨b,rfl⟩:=ht;exact one _ rfl rfl
 |int k=>simp only[Dl]at ht;obtain⟨b,rfl,_⟩:=ht;exact one _ rfl rfl
 |str=>simp only[Dl]at ht;obtain⟨b,rfl,_⟩:=ht;exact one _ rfl rfl
 |slice z e =>
  simp only[Dl]at ht;rcases ht with rfl|⟨es,rfl,_⟩
  ·exact one _ rfl rfl
  ·exact one _ rfl rfl
 |agg fs =>
  refine⟨.agg cs.toArray, ?_,rfl⟩;simp only[xR.mk,RC];exact⟨cs,rfl,ho,hr⟩
variable {H:Type}{enc:TypeId×Value->H}{P:Program}{base:Nat}{spare:Nat->Bool}{held:Bool}
mutual
theorem aon:∀(sh:xR) (t:TypeId) (fuel:Nat) (cs:List Value) (x:DataW H×List MemPlace),RG P sh t=true->(∀ b,¬ X b)->DataW.trod enc P w base spare held fuel t cs=some x->asM w X cs sh
 |.bool,t,fuel,cs,x,hk,hX,h=>by
  unfold RG at hk;split at hk
  ·rename_i ht;obtain⟨b,rfl,_⟩:=DataW.trod_bool ht h;exact⟨fun u hu=>by simp at hu;subst hu;rfl,[.bool b],by simp[o9,RC],by simp only[Dl];exact⟨b,rfl⟩⟩
  ·cases hk
 |.int k,t,fuel,cs,x,hk,hX,h=>by
  unfold RG at hk;split at hk
  ·rename_i k' ht;simp only[decide_eq_true_eq]at hk;subst hk;obtain⟨n,rfl,_,hw⟩:=DataW.trod_int ht h;exact⟨fun u hu=>by simp at hu;subst hu;rfl,[.int k n],by simp[o9,RC],by simp only[Dl];exact⟨n,rfl,hw⟩⟩
  ·cases hk
 |.str,t,fuel,cs,x,hk,hX,h=>by
  unfold RG at hk;split at hk
  ·rename_i ht;obtain⟨s,rfl,_,hs⟩:=DataW.trod_string ht h;refine⟨fun u hu=>by simp at hu;subst hu;rfl,[.str s.data.toList],by simp[o9,RC], ?_⟩
   simp only[Dl];exact⟨_,rfl,by simpa using hs⟩
  ·cases hk
 |.slice z e,t,fuel,cs,x,hk,hX,h=>by
  letI:kH:={ CX:=fun _ _=>false }
  letI:Rounds:=⟨fun _ _ _ _ _=>False⟩
  unfold RG at hk;split at hk
  ·rename_i te ht;simp only[fw,beq_iff_eq,decide_eq_true_eq]at hk;obtain⟨⟨⟨k1,k2⟩,k3⟩,k4⟩:=hk;rcases DataW.trod_slice ht h with⟨rfl,_⟩|⟨a,len,cap,elems,rest,n,_,rfl,_,hb,hl,hm,hlen,hel,_,_⟩
   ·refine⟨fun u hu=>by simp at hu;subst hu;rfl,[.bO],by simp[o9,RC], ?_⟩
    simp[Dl]
   ·-- each element
    have each:∀ i,i<len->∃ cs',w.cells? base (a.add (i*z)) z=some cs'/\asM w X cs' e/\cs'.length=z:=by
     intro i hi;have:=hel i hi;rw[Fv (by omega),bE]at this
     obtain⟨cs',h1,h2⟩:=this;rw[k1]at h1;exact⟨cs',h1,aon e te n cs' _ k4 hX h2,(World.cells?_some h1).2.1⟩
    have hex:∀ i,∃ y:AV,i<len->∃ cs' as,w.cells? base (a.add (i*z)) z=some cs'/\ones cs'/\o9 w X as cs'/\Dl e as/\cs'.length=z/\y=e.mk as:=by
     intro i;by_cases hi:i<len
     ·obtain⟨cs',h1,⟨o,as,h2,h3⟩,h4⟩:=each i hi;exact⟨e.mk as,fun _=>⟨cs',as,h1,o,h2,h3,h4,rfl⟩⟩
     ·exact⟨.undef,fun h=>absurd h hi⟩
    obtain⟨f,hf⟩:=Classical.axiomOfChoice hex
    have hsp:0<len->a.spot=none:=by
     intro h0;obtain⟨cs',h1,_,h3⟩:=each 0 h0;have:=(World.cells?_some h1).2.2 0 (by omega)
     rw[Nat.zero_mul]at this;simp only[Addr.add]at this;simp only[if_true]at this;unfold World.cell? at this;rw[Fv (by omega)]at this
     split at this
     ·split at this
      ·cases this
      ·rename_i hs
       cases hq:a.spot with
       |none=>rfl
       |some s=>simp[hq]at hs
     ·cases this
    refine⟨fun u hu=>by simp at hu;subst hu;rfl,[.eY z ((List.range len).map f)], ?_, ?_⟩
    ·simp only[o9,RC];refine⟨_,[],rfl,⟨some a,cap,by simp,by simpa using hl, ?_⟩,rfl⟩
     by_cases h0:len=0
     ·left;simp[h0]
     ·right;obtain⟨cs0,h1,_,h3⟩:=each 0 (by omega)
      have hblk:=World.cells?_block h1 k2;have hsp:=hsp (by omega)
      refine⟨a.block,a.off, ?_, ?_,hX _,k2,ab4 _ _ _ fun i y hy=>?_⟩
      ·congr 1;cases a;simp at hsp;simp[hsp]
      ·rw[Nat.zero_mul]at hblk;simpa[Addr.add]using hblk
      ·rw[List.getElem?_map]at hy;obtain⟨i',hi',rfl⟩:=mE.mp hy
       obtain⟨hlt,rfl⟩:i<len/\i=i':=by
        have:=kS.mp hi';obtain⟨h5,h6⟩:=this;simp at h5 h6;exact⟨h5,h6⟩
       obtain⟨cs',as,g1,g2,g3,g4,g5,g6⟩:=hf i hlt;obtain⟨v,q1,q2⟩:=aIh g2 g3 g4 (by rw[g5,k3])
       refine⟨v,by rw[g6];exact q1,by rw[q2];simpa using g5,by rw[q2];simpa using g2, ?_⟩
       rw[q2];intro j u hj;simp only[]at hj;have hj':j<z:=by rw[<-g5];exact(kS.mp hj).1
       have:=(World.cells?_some g1).2.2 j hj'
       have hadd:(a.add (i*z)).add j=⟨a.block,a.off+i*z+j,none⟩:=by
        cases a with
        |mk bl of sp =>
         simp at hsp;subst hsp;simp only[Addr.add]
         (repeat' split)<;>simp_all[Nat.add_assoc]
       rw[hadd]at this;rw[this];exact hj
    ·simp only[Dl];right;refine⟨_,rfl,by simp;omega,fun y hy=>?_⟩
     obtain⟨i,hi,rfl⟩:=List.mem_map.mp hy;simp at hi;obtain⟨cs',as,g1,g2,g3,g4,g5,g6⟩:=hf i hi;exact⟨as,g6,g4⟩
  ·cases hk
 |.agg fs,t,fuel,cs,x,hk,hX,h=>by
  unfold RG at hk;split at hk
  ·rename_i fds ht;simp only[fw,beq_iff_eq]at hk;obtain⟨k1,k2⟩:=hk;obtain⟨xs,n,_,_,hcl,hxl,hall⟩:=DataW.trod_struct ht h
   have:=aAs fs fds.toList 0 n cs k2 hX (by rw[hcl,k1];simp) (fun f hf=>by
    obtain⟨i,hi⟩:=List.getElem?_of_mem hf;have h1:=hall i f (by simpa using hi)
    have hlt:i<xs.length:=by rw[hxl];simpa using(kS.mp hi).1
    rw[Fv hlt]at h1;exact⟨_,h1⟩)
   rw[List.drop_zero]at this;obtain⟨o,as,r1,t1⟩:=this;exact⟨o,as,r1,by simp only[Dl];exact t1⟩
  ·rename_i n te ht;simp only[fw,beq_iff_eq]at hk;obtain⟨⟨k1,k3⟩,k2⟩:=hk;obtain⟨xs,m,_,_,hcl,hxl,hall⟩:=DataW.trod_array ht h
   have:=aAt fs te 0 m cs k2 hX (by rw[hcl,k1];simp) (fun i hi=>by
    have h1:=hall i (by omega)
    rw[Fv (by omega)]at h1
    rw[F6];exact⟨_,h1⟩)
   rw[Nat.zero_mul,List.drop_zero]at this;obtain⟨o,as,r1,t1⟩:=this;exact⟨o,as,r1,by simp only[Dl];exact t1⟩
  ·cases hk
theorem aAs:∀(fs:List xR) (fds:List Field) (o n:Nat) (cs:List Value),al5 P fs fds o=true->(∀ b,¬ X b)->cs.length=o+xR.nL fs ->
  (∀ f∈fds,∃ x,DataW.trod enc P w base spare held n f.type ((cs.drop f.offset).take (P.cellsOf f.type))=some x)->ai7 w X (cs.drop o) fs
 |[],fds,o,n,cs,hk,hX,hl,hall=>by
  simp only[xR.nL,Nat.add_zero]at hl;rw[<-hl,RH]
  exact⟨fun u hu=>by simp at hu,[],by simp[o9],by simp[ai6]⟩
 |f::fs,[],o,n,cs,hk,hX,hl,hall=>by simp[al5]at hk
 |f::fs,fd::fds,o,n,cs,hk,hX,hl,hall=>by
  simp only[al5,fw,beq_iff_eq]at hk;obtain⟨⟨⟨k1,k2⟩,k3⟩,k4⟩:=hk;obtain⟨x,hx⟩:=hall fd (by simp)
  rw[k1,k2]at hx;have h1:=aon f fd.type n _ x k3 hX hx;have h2:=aAs fs fds (o+f.n) n cs k4 hX (by rw[hl,xR.nL];omega) (fun g hg=>hall g (by simp[hg]))
  have:=ai7.cons h1 h2;rw[<-List.drop_drop,List.take_append_drop]at this;exact this
theorem aAt:∀(fs:List xR) (te:TypeId) (k n:Nat) (cs:List Value),aom P fs te=true->(∀ b,¬ X b)->cs.length=k*P.cellsOf te+xR.nL fs ->
  (∀ i,i<fs.length->∃ x,DataW.trod enc P w base spare held n te ((cs.drop ((k+i)*P.cellsOf te)).take (P.cellsOf te))=some x)->ai7 w X (cs.drop (k*P.cellsOf te)) fs
 |[],te,k,n,cs,hk,hX,hl,hall=>by
  simp only[xR.nL,Nat.add_zero]at hl;rw[<-hl,RH]
  exact⟨fun u hu=>by simp at hu,[],by simp[o9],by simp[ai6]⟩
 |f::fs,te,k,n,cs,hk,hX,hl,hall=>by
  simp only[aom,fw,beq_iff_eq]at hk;obtain⟨⟨k2,k3⟩,k4⟩:=hk;obtain⟨x,hx⟩:=hall 0 (by simp)
  rw[Nat.add_zero]at hx;have h1:=aon f te n _ x k3 hX hx
  have h2:=aAt fs te (k+1) n cs k4 hX (by rw[hl,xR.nL,AZ];omega) (fun i hi=>by
   have:=hall (i+1) (by simpa using hi)
   rw[show k+(i+1)=k+1+i by omega]at this
   exact this)
  have:=ai7.cons h1 h2;rw[AZ,Nat.one_mul,<-List.drop_drop,List.take_append_drop]at this;exact this
end
theorem aIi{sh:xR}{t:TypeId}{v:Value}{d:DataW H}{ps:List MemPlace}{r:Reach}{b0:Nat}(hk:RG P sh t=true)(hX:∀ b,¬ X b)(hval:Value.okWide P w r b0 t v)(hd:DataW.Trod enc P w base spare held t v d ps) :
  ∃ as,RC w X (sh.mk as) v/\Dl sh as:=by
 obtain⟨fuel,hf⟩:=hd;obtain⟨ho,as,hr,ht⟩:=aon sh t fuel _ _ hk hX hf;refine⟨as, ?_,ht⟩
 have one:∀ a:AV,as=[a]->sh.mk as=a->v.cells=#[v]->RC w X (sh.mk as) v:=by
  intro a ha hm hc;subst ha;rw[hm];rw[hc]at hr;simp only[o9]at hr;obtain⟨u,us,e,h1,rfl⟩:=hr;simp only[List.cons.injEq]at e;rw[e.1];exact h1
 cases sh with
 |bool =>
  unfold RG at hk;split at hk
  ·rename_i hu;obtain⟨b,rfl⟩:=WideShapes.okWide_bool hu hval;simp only[Dl]at ht;obtain⟨b',rfl⟩:=ht;exact one _ rfl rfl rfl
  ·cases hk
 |int k =>
  unfold RG at hk;split at hk
  ·rename_i hu;obtain⟨b,rfl⟩:=WideShapes.okWide_int hu hval;simp only[Dl]at ht;obtain⟨b',rfl,_⟩:=ht;exact one _ rfl rfl rfl
  ·cases hk
 |str =>
  unfold RG at hk;split at hk
  ·rename_i hu;obtain⟨b,rfl⟩:=WideShapes.okWide_string hu hval;simp only[Dl]at ht;obtain⟨b',rfl,_⟩:=ht;exact one _ rfl rfl rfl
  ·cases hk
 |slice z e =>
  unfold RG at hk;split at hk
  ·rename_i te hu;obtain⟨a,len,cap,rfl⟩:=WideShapes.okWide_slice hu hval;simp only[Dl]at ht;rcases ht with rfl|⟨es,rfl,_⟩
   ·exact one _ rfl rfl rfl
   ·exact one _ rfl rfl rfl
  ·cases hk
 |agg fs =>
  have hv:∃ cs,v=.agg cs:=by
   unfold RG at hk;unfold Value.okWide at hval;split at hk
   ·rename_i fds hu;rw[hu]at hval;obtain⟨cs,rfl,_⟩:=hval;exact⟨cs,rfl⟩
   ·rename_i n te hu;rw[hu]at hval;obtain⟨cs,rfl,_⟩:=hval;exact⟨cs,rfl⟩
   ·cases hk
  obtain⟨cs,rfl⟩:=hv;simp only[xR.mk,RC];exact⟨cs.toList,by simp,ho,hr⟩
def abB(P:Program):List xR->List TypeId->Bool
 |[],[]=>true
 |s::ss,t::ts=>RG P s t&&decide (t<P.types.size)&&P.readableRec t&&abB P ss ts
 |_,_=>false
def TyA:List xR->List AV->Prop
 |[],as=>as=[]
 |s::ss,as=>∃ cs r,as=s.mk cs::r/\Dl s cs/\TyA ss r
theorem aAu:∀{shs:List xR} {ts:List TypeId} {vs:List Value} {ds:List (DataW H)} {ps:List MemPlace} {r:Reach} {b0:Nat},abB P shs ts=true->(∀ b,¬ X b)->(∀(j:Nat) t v,ts[j]?=some t->vs[j]?=some v->Value.okWide P w r b0 t v) ->
  DataW.TrodAll enc P w base spare held ts vs ds ps->∃ as,o9 w X as vs/\TyA shs as
 |[],[],vs,ds,ps,r,b0,hk,hX,hval,hd=>by
  cases vs with
  |nil=>exact⟨[],by simp[o9],by simp[TyA]⟩
  |cons v vs=>cases ds<;>simp[DataW.TrodAll]at hd
 |s::ss,t::ts,vs,ds,ps,r,b0,hk,hX,hval,hd=>by
  simp only[abB,fw]at hk
  cases vs with
  |nil=>cases ds<;>simp[DataW.TrodAll]at hd
  |cons v vs =>
   cases ds with
   |nil=>simp[DataW.TrodAll]at hd
   |cons d ds =>
    simp only[DataW.TrodAll]at hd;obtain⟨p,q,h1,h2,rfl⟩:=hd;obtain⟨cs,r1,t1⟩:=aIi hk.1.1.1 hX (hval 0 t v rfl rfl) h1;obtain⟨as,r2,t2⟩:=aAu hk.2 hX (fun j t' v' ht hv=>hval (j+1) t' v' ht hv) h2
    exact⟨s.mk cs::as,by simp only[o9];exact⟨v,vs,rfl,r1,r2⟩,by simp only[TyA];exact⟨cs,as,rfl,t1,t2⟩⟩
 |[],_::_,vs,ds,ps,r,b0,hk,hX,hval,hd=>by simp[abB]at hk
 |_::_,[],vs,ds,ps,r,b0,hk,hX,hval,hd=>by simp[abB]at hk
end
section
variable {H:Type}{enc:TypeId×Value->H}{P:Program}
theorem aAv(hl:laidOutB P=true){W W':World}(hb:RowKit.Below W.heap.size W W'):∀{shs:List xR} {ts:List TypeId} {vs:List Value} {ds:List (DataW H)} {ps:List MemPlace},abB P shs ts=true ->
  DataW.TrodAll enc P W 0 (fun _=>true) true ts vs ds ps->DataW.TrodAll enc P W' 0 (fun b=>decide (b<W.heap.size)) true ts vs ds ps
 |[],[],vs,ds,ps,hk,hd=>by
  cases vs<;>cases ds<;>simp_all[DataW.TrodAll]
 |s::ss,t::ts,vs,ds,ps,hk,hd=>by
  simp only[abB,fw,decide_eq_true_eq]at hk
  cases vs with
  |nil=>cases ds<;>simp[DataW.TrodAll]at hd
  |cons v vs =>
   cases ds with
   |nil=>simp[DataW.TrodAll]at hd
   |cons d ds =>
    simp only[DataW.TrodAll]at hd⊢;obtain⟨p,q,h1,h2,rfl⟩:=hd;refine⟨p,q,RowKit.Below.trod hl hk.1.2 hk.1.1.2 h1 hb (fun x hx=>?_),aAv hl hb hk.2 h2,rfl⟩;obtain⟨m,hm⟩:=h1
    exact DataW.trod_lt m _ _ _ hm x hx
 |[],_::_,vs,ds,ps,hk,hd=>by simp[abB]at hk
 |_::_,[],vs,ds,ps,hk,hd=>by simp[abB]at hk
end
end Go.VI
