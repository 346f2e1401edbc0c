/- Equality of arrays and structs of numbers, bools and strings. -/
import Derived.Laws.StructEq
import Derived.ChangeKeysEq
import Derived.Test.YtfpoegnmeoghpaaGreatDoorVIC
set_option linter.unusedVariables false
set_option linter.unusedSimpArgs false
namespace Go.VI
def AV.fv:AV->Value
 |.bool b=>.bool b
 |.int k n=>.int k n
 |.str l=>.string ⟨l.toArray⟩
 |_=>.nilFunc
section
variable (P:Program)
def sj:Nat->TypeId->List Kd->Bool
 |0,_,_=>false
 |d+1,t,ks=>match P.underlying t with
  |some .bool=>ks==[.b]
  |some (.int q)=>ks==[.i q]
  |some .string=>ks==[.s]
  |some (.array n e)=>(P.info? e).isSome&&ks.length==n*P.cellsOf e&&ks.length==P.cellsOf t&&(List.range n).all fun i=>sj d e ((ks.drop (i*P.cellsOf e)).take (P.cellsOf e))
  | some (.struct fs) => !P.stoodInHeld t && ks.length == P.cellsOf t && EQ fs.toList 0 ks.length && fs.toList.all fun f => f.name != "_" && sj d f.type ((ks.drop f.offset).take (P.cellsOf f.type))
  |_=>false
where EQ:List Field->Nat->Nat->Bool
 |[],o,len=>o==len
 |f::fs,o,len=>f.offset==o&&EQ fs (o+P.cellsOf f.type) len
def mkV(t:TypeId)(cs:List Value):Value:=match P.underlying t with
 |some (.array _ _)|some (.struct _)=>.agg cs.toArray
 |_=>cs.headD .nilFunc
end
theorem zF:∀{ks:List Kd} {as:List AV},kX ks as=true->ks.length=as.length
 |[],[],_=>rfl
 |k::ks,a::as,h=>by simp only[kX,bM]at h;simp[zF h.2]
 |[],_::_,h=>by simp[kX]at h
 |_::_,[],h=>by simp[kX]at h
theorem JM:∀{ks:List Kd} {as:List AV} (n:Nat),kX ks as=true->kX (ks.drop n) (as.drop n)=true
 |ks,as,0,h=>h
 |[],[],n+1,h=>rfl
 |k::ks,a::as,n+1,h=>by simp only[kX,bM]at h;exact JM n h.2
 |[],_::_,_+1,h=>by simp[kX]at h
 |_::_,[],_+1,h=>by simp[kX]at h
theorem JY:∀{ks:List Kd} {as:List AV} (n:Nat),kX ks as=true->kX (ks.take n) (as.take n)=true
 |ks,as,0,h=>by simp[kX]
 |[],[],n+1,h=>rfl
 |k::ks,a::as,n+1,h=>by simp only[kX,bM,List.take_succ_cons]at h⊢;exact⟨h.1,JY n h.2⟩
 |[],_::_,_+1,h=>by simp[kX]at h
 |_::_,[],_+1,h=>by simp[kX]at h
theorem Xb:∀(n:Nat) (as bs:List AV),as.length=bs.length->mX as bs=(mX (as.take n) (bs.take n)&&mX (as.drop n) (bs.drop n))
 |0,as,bs,_=>by simp[mX]
 |n+1,[],[],_=>by simp[mX]
 |n+1,a::as,b::bs,h=>by
  simp only[List.take_succ_cons,List.drop_succ_cons,mX]
  rw[Xb n as bs (by simpa using h),Bool.and_assoc]
 |n+1,[],b::bs,h=>by simp at h
 |n+1,a::as,[],h=>by simp at h
theorem Xc(n m:Nat)(X Y:List AV)(h:X.length=Y.length):mX (X.take (n+m)) (Y.take (n+m))=(mX (X.take n) (Y.take n)&&mX ((X.drop n).take m) ((Y.drop n).take m)):=by
 rw[Xb n _ _ (by simp[h]),List.take_take,List.take_take,zG (by omega),List.drop_take,List.drop_take,Nat.add_sub_cancel_left]
section
variable {P:Program}
def Rk(P:Program)(D dd:Nat)(e:TypeId):Prop:=∀(w:World) (ks:List Kd) (as bs:List AV),sj P D e ks=true->kX ks as=true->kX ks bs=true ->
 (Op.equalIn dd e (mkV P e (as.map AV.fv)) (mkV P e (bs.map AV.fv))).run P w=.ok (mX as bs) w
theorem Nz(w:World){D:Nat}{e:TypeId}{ks:List Kd}{as:List AV}{xs:List Value}{off:Nat}(hk:sj P D e ks=true)(ha:kX ks as=true)(hx:(xs.drop off).take (P.cellsOf e)=as.map AV.fv) :
  (part e xs.toArray off).run P w=.ok (mkV P e (as.map AV.fv)) w:=by
 cases D with
 |zero=>simp[sj]at hk
 |succ D =>
  have plain:P.plainKey e=true->(∃ k,ks=[k])->(∀ n e',P.underlying e≠some (.array n e'))->(∀ fs,P.underlying e≠some (.struct fs))->(part e xs.toArray off).run P w=.ok (mkV P e (as.map AV.fv)) w:=by
   intro hp ⟨k,hks⟩ hn1 hn2;subst hks
   obtain⟨a,rfl⟩:∃ a,as=[a]:=by
    have:=zF ha
    match as,this with
    |[a],_=>exact⟨a,rfl⟩
   ·have h0:xs[off]?=some a.fv:=by
     have h0:=congrArg (·[0]?) hx;simp only[List.map_cons,List.map_nil,List.getElem?_cons_zero]at h0
     cases hc:P.cellsOf e with
     |zero=>rw[hc]at h0;simp at h0
     |succ c =>
      rw[hc]at h0;simp only[nH,Nat.zero_lt_succ,if_true,si,Nat.add_zero]at h0;exact h0
    rw[run_part_plain w hp (v:=a.fv) (by simpa using h0)]
    unfold mkV;split
    ·rename_i h;exact absurd h (hn1 _ _)
    ·rename_i h;exact absurd h (hn2 _)
    ·rfl
  unfold sj at hk;split at hk
  ·rename_i hu;simp only[beq_iff_eq]at hk;exact plain (by simp[Program.plainKey,hu]) ⟨_,hk⟩ (by simp[hu]) (by simp[hu])
  ·rename_i hu;simp only[beq_iff_eq]at hk;exact plain (by simp[Program.plainKey,hu]) ⟨_,hk⟩ (by simp[hu]) (by simp[hu])
  ·rename_i hu;simp only[beq_iff_eq]at hk;exact plain (by simp[Program.plainKey,hu]) ⟨_,hk⟩ (by simp[hu]) (by simp[hu])
  ·rename_i hu;obtain⟨i,hi⟩:=info_of_underlying hu;simp[part,isAgg,run_underlying hu,run_sizeOf w hi,mkV,hu];exact hx
  ·rename_i hu;obtain⟨i,hi⟩:=info_of_underlying hu;simp[part,isAgg,run_underlying hu,run_sizeOf w hi,mkV,hu];exact hx
  ·cases hk
theorem NA(as:List AV)(o n:Nat):((as.map AV.fv).drop o).take n=((as.drop o).take n).map AV.fv:=by simp
theorem Xd(w:World){D dd:Nat}{e:TypeId}(IH:Rk P D dd e){ks:List Kd}{as bs:List AV}(ha:kX ks as=true)(hb:kX ks bs=true):∀(m j:Nat),(∀ i,j<=i->i<j+m->sj P D e ((ks.drop (i*P.cellsOf e)).take (P.cellsOf e))=true) ->
  (Op.eqItems dd e (P.cellsOf e) (as.map AV.fv).toArray (bs.map AV.fv).toArray (List.range' j m)).run P w=.ok (mX ((as.drop (j*P.cellsOf e)).take (m*P.cellsOf e)) ((bs.drop (j*P.cellsOf e)).take (m*P.cellsOf e))) w
 |0,j,_=>by simp[Op.eqItems,mX]
 |m+1,j,hk=>by
  have hk0:=hk j (bC _) (by omega)
  have a1:=JY (P.cellsOf e) (JM (j*P.cellsOf e) ha);have b1:=JY (P.cellsOf e) (JM (j*P.cellsOf e) hb);have p1:=Nz w hk0 a1 (xs:=as.map AV.fv) (off:=j*P.cellsOf e) (NA _ _ _);have p2:=Nz w hk0 b1 (xs:=bs.map AV.fv) (off:=j*P.cellsOf e) (NA _ _ _);have p3:=IH w _ _ _ hk0 a1 b1;have p4:=Xd w IH ha hb m (j+1) fun i h1 h2=>hk i (by omega) (by omega)
  have hl:as.length=bs.length:=by rw[<-zF ha,zF hb]
  rw[List.range'_succ];simp only[Op.eqItems,Sem.run_bind,p1,p2,p3,Result.andThen_ok];have e1:(m+1)*P.cellsOf e=P.cellsOf e+m*P.cellsOf e:=by rw[kU,Nat.one_mul,Nat.add_comm]
  have e2:(j+1)*P.cellsOf e=j*P.cellsOf e+P.cellsOf e:=by rw[kU,Nat.one_mul]
  rw[e2]at p4;rw[e1,Xc _ _ _ _ (by simp[hl]),List.drop_drop,List.drop_drop]
  cases hq:mX (List.take (P.cellsOf e) (List.drop (j*P.cellsOf e) as)) (List.take (P.cellsOf e) (List.drop (j*P.cellsOf e) bs)) with
  |false=>simp
  |true=>simpa using p4
theorem Xe (w : World) {D dd : Nat} {ks : List Kd} {as bs : List AV} (ha : kX ks as = true) (hb : kX ks bs = true) : ∀ (fs : List Field) (o len : Nat), sj.EQ P fs o len = true → (∀ f ∈ fs, f.name ≠ "_" ∧ Rk P D dd f.type ∧ sj P D f.type ((ks.drop f.offset).take (P.cellsOf f.type)) = true) →
  (Op.eqFields dd (as.map AV.fv).toArray (bs.map AV.fv).toArray fs).run P w=.ok (mX ((as.drop o).take ((fs.map fun f=>P.cellsOf f.type).sum)) ((bs.drop o).take ((fs.map fun f=>P.cellsOf f.type).sum))) w
 |[],o,len,_,_=>by simp[Op.eqFields,mX]
 |f::fs,o,len,hc,hall=>by
  simp only[sj.EQ,bM,beq_iff_eq]at hc;obtain⟨rfl,hc⟩:=hc;obtain⟨hn,IH,hk0⟩:=hall f (by simp)
  have a1:=JY (P.cellsOf f.type) (JM f.offset ha);have b1:=JY (P.cellsOf f.type) (JM f.offset hb);have p1:=Nz w hk0 a1 (xs:=as.map AV.fv) (off:=f.offset) (NA _ _ _);have p2:=Nz w hk0 b1 (xs:=bs.map AV.fv) (off:=f.offset) (NA _ _ _);have p3:=IH w _ _ _ hk0 a1 b1;have p4:=Xe w ha hb fs _ _ hc fun g hg=>hall g (by simp[hg])
  have hl:as.length=bs.length:=by rw[<-zF ha,zF hb]
  simp only[Op.eqFields,hn,ne_eq,not_false_eq_true,if_true,Sem.run_bind,p1,p2,p3,Result.andThen_ok,List.map_cons,List.sum_cons];rw[Xc _ _ _ _ (by simp[hl]),List.drop_drop,List.drop_drop]
  cases hq:mX (List.take (P.cellsOf f.type) (List.drop f.offset as)) (List.take (P.cellsOf f.type) (List.drop f.offset bs)) with
  |false=>simp
  |true=>simpa using p4
theorem Xf:∀(fs:List Field) (o len:Nat),sj.EQ P fs o len=true->o+(fs.map fun f=>P.cellsOf f.type).sum=len
 |[],o,len,h=>by simpa[sj.EQ]using h
 |f::fs,o,len,h=>by
  simp only[sj.EQ,bM,beq_iff_eq]at h;have:=Xf fs _ _ h.2;simp only[List.map_cons,List.sum_cons];omega
theorem Gx{k:Kd}{as:List AV}(h:kX [k] as=true):∃ a,as=[a]/\a.kd=some k:=by
 obtain⟨a,rfl⟩:∃ a,as=[a]:=by
  have:=zF h
  match as,this with
  |[a],_=>exact⟨a,rfl⟩
 simp only[kX,Bool.and_true,beq_iff_eq]at h;exact⟨a,rfl,h⟩
theorem Rl{a:AV}(h:a.kd=some .b):∃ b,a=.bool b:=by cases a<;>simp_all[AV.kd]
theorem Rm{a:AV}{q:IntKind}(h:a.kd=some (.i q)):∃ n,a=.int q n:=by cases a<;>simp_all[AV.kd]
theorem Rn{a:AV}(h:a.kd=some .s):∃ l,a=.str l:=by cases a<;>simp_all[AV.kd]
theorem Ro(d:Nat):∀(m:Nat) (t:TypeId),Rk P m (d+m) t
 |0,t=>by intro w ks as bs hk;simp[sj]at hk
 |m+1,t=>by
  intro w ks as bs hk ha hb;have hl:as.length=bs.length:=by rw[<-zF ha,zF hb]
  have hka:=zF ha;have hkb:=zF hb;unfold sj at hk;rw[show d+(m+1)=(d+m)+1 from rfl]
  split at hk
  ·rename_i hu;simp only[beq_iff_eq]at hk;subst hk;obtain⟨a,rfl,h1⟩:=Gx ha;obtain⟨b,rfl,h2⟩:=Gx hb;obtain⟨a,rfl⟩:=Rl h1;obtain⟨b,rfl⟩:=Rl h2;simp only[mkV,hu,List.map_cons,List.map_nil,List.headD_cons,AV.fv,mX,Gh,Bool.and_true];exact run_equalIn_bool' w _ t a b hu
  ·rename_i q hu;simp only[beq_iff_eq]at hk;subst hk;obtain⟨a,rfl,h1⟩:=Gx ha;obtain⟨b,rfl,h2⟩:=Gx hb;obtain⟨a,rfl⟩:=Rm h1;obtain⟨b,rfl⟩:=Rm h2;simp only[mkV,hu,List.map_cons,List.map_nil,List.headD_cons,AV.fv,mX,Gh,Bool.and_true];exact run_equalIn_int w _ t q q a b hu
  ·rename_i hu;simp only[beq_iff_eq]at hk;subst hk;obtain⟨a,rfl,h1⟩:=Gx ha;obtain⟨b,rfl,h2⟩:=Gx hb;obtain⟨a,rfl⟩:=Rn h1;obtain⟨b,rfl⟩:=Rn h2;simp only[mkV,hu,List.map_cons,List.map_nil,List.headD_cons,AV.fv,mX,Gh,Bool.and_true];rw[run_equalIn_string w _ t _ _ hu];simp[ByteArray.toList_eq]
  ·rename_i n e hu;simp only[bM,beq_iff_eq,nE,List.mem_range]at hk;obtain⟨⟨⟨h0,h1⟩,h2⟩,h3⟩:=hk;obtain⟨i,hi⟩:=xh.mp h0;simp only[mkV,hu];rw[run_equalIn_array w (d+m) _ _ hu hi,List.range_eq_range',Xd w (Ro d m e) ha hb n 0 (fun i _ h2=>h3 i (by omega))]
   rw[Nat.zero_mul,List.drop_zero,List.drop_zero,Az (by omega),Az (by omega)]
  ·rename_i fs hu;simp only[bM,beq_iff_eq,sD,nE,bne_iff_ne]at hk;obtain⟨⟨⟨h1,h2⟩,h3⟩,h4⟩:=hk;have hfs:P.fieldsOf t=fs:=by simp[Program.fieldsOf,hu]
   simp only[mkV,hu];rw[run_equalIn_struct w (d+m) t _ _ (by rw[hfs];exact hu) h1,hfs,Xe w ha hb fs.toList 0 _ h3 (fun f hf=>⟨(h4 f hf).1,Ro d m f.type,(h4 f hf).2⟩)]
   have:=Xf fs.toList 0 _ h3;rw[List.drop_zero,List.drop_zero,Az (by omega),Az (by omega)]
  ·cases hk
end
end Go.VI
