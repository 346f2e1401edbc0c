/- Maps, bytes turned into a text, values put into interfaces. -/
import Derived.Test.YtfpoegnmeoghpaaGreatDoorVIL
import Derived.MapKept
import Derived.Laws.BytesString
import Derived.Laws.Cells
set_option linter.unusedVariables false
set_option linter.unusedSimpArgs false
namespace Go.VI
set_option linter.unusedSectionVars false
variable [kH][Rounds]
section
variable {w:World}{m:Map}{h:Heap}{P:Program}{env:Env}{a:Act}{o:Oper}{X:Nat->Prop}{cx:Cx}
theorem aE'(he:uO w m h env a){t:Nat}{x:bD}(hk:mg P o (.Zp t x)=true):Reads P w m h a o (.rM t (x.ev env)):=by
 simp only[mg]at hk;split at hk
 ·rename_i t' y hop;simp only[fw,beq_iff_eq,IK]at hk;obtain⟨⟨⟨rfl,hn⟩,hs⟩,h1⟩:=hk;have hr:=tO he h1;obtain⟨d,hd⟩:=acN.mp hs;refine⟨.iface t' (a.eval y), ?_,by simp only[R];exact⟨_,rfl,hr⟩⟩
  have:∀ ms,d≠.interface ms:=by
   rintro ms rfl;simp[axN,hd]at hn
  simp only[execOp,hop,Instr.makeInterface,Sem.run_bind,run_underlying hd,Result.andThen_ok];cases d<;>first|rfl|exact absurd rfl (this _)
 ·cases hk
theorem ayj:∀{es:List AV} {l:List UInt8},bytesOf es=some l->es=l.map AV.byte
 |[],l,h=>by simp[bytesOf]at h;subst h;rfl
 |e::es,l,h=>by
  unfold bytesOf at h;split at h
  ·rename_i heq;cases heq
  ·rename_i n r heq;cases heq;split at h
   ·rename_i hc;obtain⟨l',h1,rfl⟩:=mE.mp h;rw[ayj h1];simp only[List.map_cons,AV.byte,List.cons.injEq,AV.int.injEq,true_and,and_true];have:n.toNat<256:=by omega
    simp[Nat.toUInt8,UInt8.ofNat,UInt8.toNat,BitVec.toNat_ofNat];omega
   ·cases h
  ·cases h
theorem ayk:∀(l:List UInt8) (s:ByteArray),((l.map fun b=>(b.toNat:Int)).foldl (fun r n=>r.push (UInt8.ofNat n.toNat)) s)=⟨s.data++l.toArray⟩
 |[],s=>by simp
 |b::l,s=>by
  rw[List.map_cons,List.foldl_cons,ayk l];simp[ByteArray.push,UInt8.ofNat_toNat]
theorem aFa(hi:Inv w m h)(he:uO w m h env a){x:bD}{es:List AV}{l:List UInt8}(hk:mg P o (.YX x)=true)(hes:JH h 1 (x.ev env)=some es)(hl:bytesOf es=some l):Reads P w m h a o (.str l):=by
 simp only[mg]at hk;split at hk
 ·rename_i s d y hop;simp only[fw]at hk;obtain⟨⟨h1,h2⟩,h3⟩:=hk;have hr:=tO he h3;unfold JH at hes;split at hes
  ·rename_i hz
   have hd:P.underlying d=some .string:=by
    unfold acQ at h1;split at h1
    ·assumption
    ·cases h1
   obtain⟨e,hs,hu8⟩:∃ e,P.underlying s=some (.slice e)/\P.underlying e=some (.int .u8):=by
    unfold axO at h2;split at h2
    ·rename_i e hs;simp only[fw,beq_iff_eq]at h2;exact⟨e,hs,axR h2.1⟩
    ·cases h2
   obtain⟨ad,cap,hu,hcap,hmem⟩:=anw hi hr hes hz;have hbv:=ayj hl;have hlen:es.length=l.length:=by rw[hbv];simp
   refine⟨.string ⟨l.toArray⟩, ?_,RB.mpr rfl⟩
   have key:(Conv.bytesToString (.slice ad es.length cap)).run P w=.ok (.string ⟨l.toArray⟩) w:=by
    rcases ad with _|ad
    ·rcases hmem with h0|⟨b,o',e1,_⟩
     ·subst h0;have:l=[]:=JU (by rw[<-hlen];rfl)
      subst this;simp[Conv.bytesToString];rfl
     ·cases e1
    ·have hcells:(loadCells ad es.length).run P w=.ok ((l.map fun b=>(b.toNat:Int)).map (Value.int .u8)).toArray w:=by
      have hc:∀ j v,((l.map fun b=>(b.toNat:Int)).map (Value.int .u8))[j]?=some v->w.cell? (ad.add j)=some v:=by
       intro j v hj;rcases hmem with h0|⟨b,o',e1,hb,hz0,hE⟩
       ·rw[h0]at hlen;have:l=[]:=JU hlen.symm;subst this;simp at hj
       ·cases e1
        have hj':∃ q,l[j]?=some q/\v=.int .u8 (q.toNat:Int):=by
         rw[List.getElem?_map,List.getElem?_map]at hj;obtain⟨z,hz,rfl⟩:=mE.mp hj;obtain⟨q,hq,rfl⟩:=mE.mp hz;exact⟨q,hq,rfl⟩
        obtain⟨q,hq,rfl⟩:=hj';have hej:es[j]?=some (AV.byte q):=by rw[hbv,List.getElem?_map,hq];rfl
        obtain⟨v',r1,r2,r3,r4⟩:=aiU _ _ _ hE j _ hej;simp only[AV.byte,RC]at r1;subst r1;have:=r4 0 (.int .u8 (q.toNat:Int)) rfl;rw[Nat.mul_one,Nat.add_zero]at this;rw[show (⟨b,o',none⟩:Addr).add j=⟨b,o'+j,none⟩from add_plain b o' j]
        exact this
      have:=run_loadCells_list (P:=P) (w:=w) ad ((l.map fun b=>(b.toNat:Int)).map (Value.int .u8)) hc;rw[show es.length=((l.map fun b=>(b.toNat:Int)).map (Value.int .u8)).length by simp[hlen]]
      exact this
     rw[run_bytesToString w ad es.length cap _ hcells,ayk];simp
   rw[show execOp a.eval o=(do pure (.value (<-convert s d (a.eval y)))) by simp[execOp,hop],hu]
   have aFc:(convert s d (.slice ad es.length cap)).run P w=(Conv.bytesToString (.slice ad es.length cap)).run P w:=by
    simp only[convert,Sem.run_bind,run_underlying hs,run_underlying hd,Result.andThen_ok];simp[run_underlying hu8]
   simp[aFc,key]
  ·cases hes
 ·cases hk
theorem MR.push{k:IntKind}{n:Int}{v':AV}{e':MapEntry}(h1:e'.key=.int k n)(h2:RC w X v' e'.val):∀{SN:List (Int×AV)} {es:List MapEntry},MR w X k SN es->MR w X k (SN++[(n,v')]) (es++[e'])
 |[],es,h=>by
  simp only[MR]at h;subst h;simp only[List.nil_append,MR]
  exact⟨_,_,rfl,h1,h2,rfl⟩
 |(q,v)::r,es,h=>by
  simp only[MR]at h;obtain⟨e,es',rfl,g1,g2,g3⟩:=h;simp only[List.cons_append,MR];exact⟨_,_,rfl,g1,g2,MR.push h1 h2 g3⟩
end
end Go.VI
