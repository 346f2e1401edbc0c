/- Equality of arrays and structs of numbers, bools and strings. -/
import Derived.Laws.StructEq
import Derived.ChangeKeysEq
import Derived.Test.YtfpoegnmeoghpaaGreatDoorVIC
set_option linter.unusedVariables false
set_option linter.unusedSimpArgs false
namespace Go.VI
def AV.fv:AV->Value
 |.bool b=>.bool b
 |.int k n=>.int k n
 |.str l=>.string ⟨l.toArray⟩
 |_=>.nilFunc
section
variable (P:Program)
def PI:Nat->TypeId->List Kd->Bool
 |0,_,_=>false
 |d+1,t,ks=>match P.underlying t with
  |some .bool=>ks==[.b]
  |some (.int q)=>ks==[.i q]
  |some .string=>ks==[.s]
  |some (.array n e)=>(P.info? e).isSome&&ks.length==n*P.cellsOf e&&ks.length==P.cellsOf t&&(List.range n).all fun i=>PI d e ((ks.drop (i*P.cellsOf e)).take (P.cellsOf e))
  | some (.struct fs) => !P.stoodInHeld t && ks.length == P.cellsOf t && aiW fs.toList 0 ks.length && fs.toList.all fun f => f.name != "_" && PI d f.type ((ks.drop f.offset).take (P.cellsOf f.type))
  |_=>false
where aiW:List Field->Nat->Nat->Bool
 |[],o,len=>o==len
 |f::fs,o,len=>f.offset==o&&aiW fs (o+P.cellsOf f.type) len
def mkV(t:TypeId)(cs:List Value):Value:=match P.underlying t with
 |some (.array _ _)|some (.struct _)=>.agg cs.toArray
 |_=>cs.headD .nilFunc
end
theorem ZB:∀{ks:List Kd} {as:List AV},CW ks as=true->ks.length=as.length
 |[],[],_=>rfl
 |k::ks,a::as,h=>by simp only[CW,fw]at h;simp[ZB h.2]
 |[],_::_,h=>by simp[CW]at h
 |_::_,[],h=>by simp[CW]at h
theorem alo:∀{ks:List Kd} {as:List AV} (n:Nat),CW ks as=true->CW (ks.drop n) (as.drop n)=true
 |ks,as,0,h=>h
 |[],[],n+1,h=>rfl
 |k::ks,a::as,n+1,h=>by simp only[CW,fw]at h;exact alo n h.2
 |[],_::_,_+1,h=>by simp[CW]at h
 |_::_,[],_+1,h=>by simp[CW]at h
theorem alp:∀{ks:List Kd} {as:List AV} (n:Nat),CW ks as=true->CW (ks.take n) (as.take n)=true
 |ks,as,0,h=>by simp[CW]
 |[],[],n+1,h=>rfl
 |k::ks,a::as,n+1,h=>by simp only[CW,fw,List.take_succ_cons]at h⊢;exact⟨h.1,alp n h.2⟩
 |[],_::_,_+1,h=>by simp[CW]at h
 |_::_,[],_+1,h=>by simp[CW]at h
theorem axI:∀(n:Nat) (as bs:List AV),as.length=bs.length->Iq as bs=(Iq (as.take n) (bs.take n)&&Iq (as.drop n) (bs.drop n))
 |0,as,bs,_=>by simp[Iq]
 |n+1,[],[],_=>by simp[Iq]
 |n+1,a::as,b::bs,h=>by
  simp only[List.take_succ_cons,List.drop_succ_cons,Iq]
  rw[axI n as bs (by simpa using h),Bool.and_assoc]
 |n+1,[],b::bs,h=>by simp at h
 |n+1,a::as,[],h=>by simp at h
theorem axJ(n m:Nat)(X Y:List AV)(h:X.length=Y.length):Iq (X.take (n+m)) (Y.take (n+m))=(Iq (X.take n) (Y.take n)&&Iq ((X.drop n).take m) ((Y.drop n).take m)):=by
 rw[axI n _ _ (by simp[h]),List.take_take,List.take_take,Nat.min_eq_left (by omega),List.drop_take,List.drop_take,Nat.add_sub_cancel_left]
section
variable {P:Program}
def EqK(P:Program)(D dd:Nat)(e:TypeId):Prop:=∀(w:World) (ks:List Kd) (as bs:List AV),PI P D e ks=true->CW ks as=true->CW ks bs=true ->
 (Op.equalIn dd e (mkV P e (as.map AV.fv)) (mkV P e (bs.map AV.fv))).run P w=.ok (Iq as bs) w
theorem anC(w:World){D:Nat}{e:TypeId}{ks:List Kd}{as:List AV}{xs:List Value}{off:Nat}(hk:PI P D e ks=true)(ha:CW ks as=true)(hx:(xs.drop off).take (P.cellsOf e)=as.map AV.fv) :
  (part e xs.toArray off).run P w=.ok (mkV P e (as.map AV.fv)) w:=by
 cases D with
 |zero=>simp[PI]at hk
 |succ D =>
  have plain:P.plainKey e=true->(∃ k,ks=[k])->(∀ n e',P.underlying e≠some (.array n e'))->(∀ fs,P.underlying e≠some (.struct fs))->(part e xs.toArray off).run P w=.ok (mkV P e (as.map AV.fv)) w:=by
   intro hp ⟨k,hks⟩ hn1 hn2;subst hks
   obtain⟨a,rfl⟩:∃ a,as=[a]:=by
    have:=ZB ha
    match as,this with
    |[a],_=>exact⟨a,rfl⟩
   ·have h0:xs[off]?=some a.fv:=by
     have h0:=congrArg (·[0]?) hx;simp only[List.map_cons,List.map_nil,List.getElem?_cons_zero]at h0
     cases hc:P.cellsOf e with
     |zero=>rw[hc]at h0;simp at h0
     |succ c =>
      rw[hc]at h0;simp only[IA,Nat.zero_lt_succ,if_true,Nr,Nat.add_zero]at h0;exact h0
    rw[run_part_plain w hp (v:=a.fv) (by simpa using h0)]
    unfold mkV;split
    ·rename_i h;exact absurd h (hn1 _ _)
    ·rename_i h;exact absurd h (hn2 _)
    ·rfl
  unfold PI at hk;split at hk
  ·rename_i hu;simp only[beq_iff_eq]at hk;exact plain (by simp[Program.plainKey,hu]) ⟨_,hk⟩ (by simp[hu]) (by simp[hu])
  ·rename_i hu;simp only[beq_iff_eq]at hk;exact plain (by simp[Program.plainKey,hu]) ⟨_,hk⟩ (by simp[hu]) (by simp[hu])
  ·rename_i hu;simp only[beq_iff_eq]at hk;exact plain (by simp[Program.plainKey,hu]) ⟨_,hk⟩ (by simp[hu]) (by simp[hu])
  ·rename_i hu;obtain⟨i,hi⟩:=info_of_underlying hu;simp[part,isAgg,run_underlying hu,run_sizeOf w hi,mkV,hu];exact hx
  ·rename_i hu;obtain⟨i,hi⟩:=info_of_underlying hu;simp[part,isAgg,run_underlying hu,run_sizeOf w hi,mkV,hu];exact hx
  ·cases hk
theorem anD(as:List AV)(o n:Nat):((as.map AV.fv).drop o).take n=((as.drop o).take n).map AV.fv:=by simp
theorem axK(w:World){D dd:Nat}{e:TypeId}(IH:EqK P D dd e){ks:List Kd}{as bs:List AV}(ha:CW ks as=true)(hb:CW ks bs=true):∀(m j:Nat),(∀ i,j<=i->i<j+m->PI P D e ((ks.drop (i*P.cellsOf e)).take (P.cellsOf e))=true) ->
  (Op.eqItems dd e (P.cellsOf e) (as.map AV.fv).toArray (bs.map AV.fv).toArray (List.range' j m)).run P w=.ok (Iq ((as.drop (j*P.cellsOf e)).take (m*P.cellsOf e)) ((bs.drop (j*P.cellsOf e)).take (m*P.cellsOf e))) w
 |0,j,_=>by simp[Op.eqItems,Iq]
 |m+1,j,hk=>by
  have hk0:=hk j (iJ _) (by omega)
  have a1:=alp (P.cellsOf e) (alo (j*P.cellsOf e) ha);have b1:=alp (P.cellsOf e) (alo (j*P.cellsOf e) hb);have p1:=anC w hk0 a1 (xs:=as.map AV.fv) (off:=j*P.cellsOf e) (anD _ _ _);have p2:=anC w hk0 b1 (xs:=bs.map AV.fv) (off:=j*P.cellsOf e) (anD _ _ _);have p3:=IH w _ _ _ hk0 a1 b1;have p4:=axK w IH ha hb m (j+1) fun i h1 h2=>hk i (by omega) (by omega)
  have hl:as.length=bs.length:=by rw[<-ZB ha,ZB hb]
  rw[List.range'_succ];simp only[Op.eqItems,Sem.run_bind,p1,p2,p3,Result.andThen_ok];have e1:(m+1)*P.cellsOf e=P.cellsOf e+m*P.cellsOf e:=by rw[AZ,Nat.one_mul,Nat.add_comm]
  have e2:(j+1)*P.cellsOf e=j*P.cellsOf e+P.cellsOf e:=by rw[AZ,Nat.one_mul]
  rw[e2]at p4;rw[e1,axJ _ _ _ _ (by simp[hl]),List.drop_drop,List.drop_drop]
  cases hq:Iq (List.take (P.cellsOf e) (List.drop (j*P.cellsOf e) as)) (List.take (P.cellsOf e) (List.drop (j*P.cellsOf e) bs)) with
  |false=>simp
  |true=>simpa using p4
theorem axL (w : World) {D dd : Nat} {ks : List Kd} {as bs : List AV} (ha : CW ks as = true) (hb : CW ks bs = true) : ∀ (fs : List Field) (o len : Nat), PI.aiW P fs o len = true → (∀ f ∈ fs, f.name ≠ "_" ∧ EqK P D dd f.type ∧ PI P D f.type ((ks.drop f.offset).take (P.cellsOf f.type)) = true) →
  (Op.eqFields dd (as.map AV.fv).toArray (bs.map AV.fv).toArray fs).run P w=.ok (Iq ((as.drop o).take ((fs.map fun f=>P.cellsOf f.type).sum)) ((bs.drop o).take ((fs.map fun f=>P.cellsOf f.type).sum))) w
 |[],o,len,_,_=>by simp[Op.eqFields,Iq]
 |f::fs,o,len,hc,hall=>by
  simp only[PI.aiW,fw,beq_iff_eq]at hc;obtain⟨rfl,hc⟩:=hc;obtain⟨hn,IH,hk0⟩:=hall f (by simp)
  have a1:=alp (P.cellsOf f.type) (alo f.offset ha);have b1:=alp (P.cellsOf f.type) (alo f.offset hb);have p1:=anC w hk0 a1 (xs:=as.map AV.fv) (off:=f.offset) (anD _ _ _);have p2:=anC w hk0 b1 (xs:=bs.map AV.fv) (off:=f.offset) (anD _ _ _);have p3:=IH w _ _ _ hk0 a1 b1;have p4:=axL w ha hb fs _ _ hc fun g hg=>hall g (by simp[hg])
  have hl:as.length=bs.length:=by rw[<-ZB ha,ZB hb]
  simp only[Op.eqFields,hn,ne_eq,not_false_eq_true,if_true,Sem.run_bind,p1,p2,p3,Result.andThen_ok,List.map_cons,List.sum_cons];rw[axJ _ _ _ _ (by simp[hl]),List.drop_drop,List.drop_drop]
  cases hq:Iq (List.take (P.cellsOf f.type) (List.drop f.offset as)) (List.take (P.cellsOf f.type) (List.drop f.offset bs)) with
  |false=>simp
  |true=>simpa using p4
theorem axM:∀(fs:List Field) (o len:Nat),PI.aiW P fs o len=true->o+(fs.map fun f=>P.cellsOf f.type).sum=len
 |[],o,len,h=>by simpa[PI.aiW]using h
 |f::fs,o,len,h=>by
  simp only[PI.aiW,fw,beq_iff_eq]at h;have:=axM fs _ _ h.2;simp only[List.map_cons,List.sum_cons];omega
theorem ajW{k:Kd}{as:List AV}(h:CW [k] as=true):∃ a,as=[a]/\a.kd=some k:=by
 obtain⟨a,rfl⟩:∃ a,as=[a]:=by
  have:=ZB h
  match as,this with
  |[a],_=>exact⟨a,rfl⟩
 simp only[CW,Bool.and_true,beq_iff_eq]at h;exact⟨a,rfl,h⟩
theorem arJ{a:AV}(h:a.kd=some .b):∃ b,a=.bool b:=by cases a<;>simp_all[AV.kd]
theorem arK{a:AV}{q:IntKind}(h:a.kd=some (.i q)):∃ n,a=.int q n:=by cases a<;>simp_all[AV.kd]
theorem arL{a:AV}(h:a.kd=some .s):∃ l,a=.str l:=by cases a<;>simp_all[AV.kd]
theorem arM(d:Nat):∀(m:Nat) (t:TypeId),EqK P m (d+m) t
 |0,t=>by intro w ks as bs hk;simp[PI]at hk
 |m+1,t=>by
  intro w ks as bs hk ha hb;have hl:as.length=bs.length:=by rw[<-ZB ha,ZB hb]
  have hka:=ZB ha;have hkb:=ZB hb;unfold PI at hk;rw[show d+(m+1)=(d+m)+1 from rfl]
  split at hk
  ·rename_i hu;simp only[beq_iff_eq]at hk;subst hk;obtain⟨a,rfl,h1⟩:=ajW ha;obtain⟨b,rfl,h2⟩:=ajW hb;obtain⟨a,rfl⟩:=arJ h1;obtain⟨b,rfl⟩:=arJ h2;simp only[mkV,hu,List.map_cons,List.map_nil,List.headD_cons,AV.fv,Iq,eq1,Bool.and_true];exact run_equalIn_bool' w _ t a b hu
  ·rename_i q hu;simp only[beq_iff_eq]at hk;subst hk;obtain⟨a,rfl,h1⟩:=ajW ha;obtain⟨b,rfl,h2⟩:=ajW hb;obtain⟨a,rfl⟩:=arK h1;obtain⟨b,rfl⟩:=arK h2;simp only[mkV,hu,List.map_cons,List.map_nil,List.headD_cons,AV.fv,Iq,eq1,Bool.and_true];exact run_equalIn_int w _ t q q a b hu
  ·rename_i hu;simp only[beq_iff_eq]at hk;subst hk;obtain⟨a,rfl,h1⟩:=ajW ha;obtain⟨b,rfl,h2⟩:=ajW hb;obtain⟨a,rfl⟩:=arL h1;obtain⟨b,rfl⟩:=arL h2;simp only[mkV,hu,List.map_cons,List.map_nil,List.headD_cons,AV.fv,Iq,eq1,Bool.and_true];rw[run_equalIn_string w _ t _ _ hu];simp[ByteArray.toList_eq]
  ·rename_i n e hu;simp only[fw,beq_iff_eq,Gq,List.mem_range]at hk;obtain⟨⟨⟨h0,h1⟩,h2⟩,h3⟩:=hk;obtain⟨i,hi⟩:=acN.mp h0;simp only[mkV,hu];rw[run_equalIn_array w (d+m) _ _ hu hi,List.range_eq_range',axK w (arM d m e) ha hb n 0 (fun i _ h2=>h3 i (by omega))]
   rw[Nat.zero_mul,List.drop_zero,List.drop_zero,ZC (by omega),ZC (by omega)]
  ·rename_i fs hu;simp only[fw,beq_iff_eq,IK,Gq,bne_iff_ne]at hk;obtain⟨⟨⟨h1,h2⟩,h3⟩,h4⟩:=hk;have hfs:P.fieldsOf t=fs:=by simp[Program.fieldsOf,hu]
   simp only[mkV,hu];rw[run_equalIn_struct w (d+m) t _ _ (by rw[hfs];exact hu) h1,hfs,axL w ha hb fs.toList 0 _ h3 (fun f hf=>⟨(h4 f hf).1,arM d m f.type,(h4 f hf).2⟩)]
   have:=axM fs.toList 0 _ h3;rw[List.drop_zero,List.drop_zero,ZC (by omega),ZC (by omega)]
  ·cases hk
end
end Go.VI
