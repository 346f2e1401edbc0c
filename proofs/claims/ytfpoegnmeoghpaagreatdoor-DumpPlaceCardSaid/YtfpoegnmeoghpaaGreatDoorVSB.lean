/- The Builder's WriteString and String, with the blocks that they turn. -/
import Derived.Test.YtfpoegnmeoghpaaGreatDoorVSK
import Derived.Shelf.Strings.BuilderK
set_option linter.unusedVariables false
set_option linter.unusedSimpArgs false
namespace Go.VI
open Go.Proofs Go.Shelf Go.RowKit
section
variable {P:Program}(w:World)
theorem aN4(t u ty e:TypeId)(i:TypeInfo)(ht:P.underlying t=some (.slice e))(hu:P.underlying u=some .string)(hi:P.info? e=some i)(hz:i.zero=some (.int .u8 0))
  (hsize:i.size=1) (hby:i.bytes=1)
  (v:Value) (n:Nat) (xs:List Value) (hown:w.ownsRowF 0 e 1 v n xs) (s:ByteArray)
  (h63:n+s.size<=maxLen) (hbytes:n+s.size<=140737488355328) :
  ∃ v' w',(Builtin.append_ #[t,u] ty #[v,.string s]).run P w=.ok v' w'/\w'.ownsRowF 0 e 1 v' (n+s.size) (xs++Lib.strCells s)/\w.grownBy w' v.ownBlock /\
   (v'.ownBlock=v.ownBlock\/∀ g,v'.ownBlock=some g->w.heap.size<=g):=by
 obtain⟨v',w',hr,h1,h2,h3⟩:=Lib.run_append_own_stringF (P:=P) w 0 t u ty e i ht hu hi hz hsize hby v n xs hown s h63 hbytes (Nat.zero_le _);refine⟨v',w',hr,h1,h2, ?_⟩;rcases hown.2 with⟨rfl,rfl⟩|⟨g,cap,cur,fz,rfl,hbg,hg,hfz,hnc,hcm,hcs,htake⟩
 ·obtain⟨v2,w2,hr2,k1,_,_⟩:=Lib.run_append_own_stringF (P:=P) w w.heap.size t u ty e i ht hu hi hz hsize hby (.slice none 0 0) 0 xs ⟨hown.1,.inl ⟨rfl,rfl⟩⟩ s h63 hbytes (iJ _);rw[hr]at hr2;cases hr2;right;intro g hg;rcases k1.2 with⟨rfl,_⟩|⟨g',_,_,_,rfl,hle,_⟩
  ·cases hg
  ·cases hg;exact hle
 ·have hxl:xs.length=n:=by simpa using hown.1
  by_cases hroom:n+s.size<=cap
  ·have hcs':cur.size=cap:=by simpa using hcs
   have hr2:=Lib.run_append_room_stringF (P:=P) w t u ty e i ht hu hi hsize g n cap cur fz hg (by simpa using hfz) s hroom (by omega)
   rw[hr]at hr2;cases hr2;exact .inl rfl
  ·have hsmall:n+s.size<=9223372036854775807:=by simp only[maxLen]at h63;omega
   have holds:∀ j u,xs[j]?=some u->w.cell? ((⟨g,0,none⟩:Addr).add j)=some u:=hown.cells (g:=g) rfl;have hr2:=Lib.run_append_grow_string (P:=P) w t u ty e i (.int .u8 0) ht hu hi hz ⟨g,0,none⟩ n cap xs (by rw[hsize];simpa using hxl) holds s (by omega) (by omega) (by rw[hby];exact growslice_fits (by omega) (by omega))
   rw[hr]at hr2;cases hr2;right;intro g' hg';cases hg';exact iJ _
theorem aN5{ops:Array Oper}{rest:List Oper}{o:Oper}{a:Act}{Q:Exit->Act->World->Prop}(hgd:o.guard=none)(sl x:Operand)(t u:TypeId)
  (ho:o.op=.call { callee:=.builtin .append,args:=#[sl,x],argTypes:=#[t,u] })
  (e:TypeId) (i:TypeInfo) (ht:P.underlying t=some (.slice e)) (hu:P.underlying u=some .string) (hi:P.info? e=some i) (hz:i.zero=some (.int .u8 0))
  (hsize:i.size=1) (hby:i.bytes=1)
  (v:Value) (n:Nat) (xs:List Value) (hs:a.eval sl=v) (hown:w.ownsRowF 0 e 1 v n xs) (s:ByteArray) (hx:a.eval x=.string s)
  (h63:n+s.size<=maxLen) (hbytes:n+s.size<=140737488355328)
  (h:∀ v' w',w'.ownsRowF 0 e 1 v' (n+s.size) (xs++Lib.strCells s)->w.grownBy w' v.ownBlock->(v'.ownBlock=v.ownBlock\/∀ g,v'.ownBlock=some g->w.heap.size<=g)->wpList P ops Q rest (a.put o.dst v') w'):wpList P ops Q (o::rest) a w:=by
 refine wpList_plain hgd fun K hK=>?_;obtain⟨v',w',hr,h2,h3,h4⟩:=aN4 (P:=P) w t u o.type e i ht hu hi hz hsize hby v n xs hown s h63 hbytes;unfold Oper.wp execOp;simp only[ho,resolve,invoke,builtin,Sem.run_bind,Sem.run_pure,Result.andThen_ok,List.map_toArray,List.map_cons,List.map_nil,hs,hx,hr];exact hK _ _ (h v' w' h2 h3 h4)
end
section
variable {P:Program}{ρ:Ren}
theorem lt_of_heap{w:World}{b:Nat}{o:Obj}(h:w.heap[b]?=some o):b<w.heap.size:=by
 rcases Fz b w.heap.size with h'|h'
 ·exact h'
 ·rw[Array.getElem?_eq_none h']at h;cases h
theorem axn{w w':World}{b:Nat}{e:TypeId}{v:Value}{n:Nat}{xs:List Value}(h:w.ownsRowF 0 e 1 v n xs)(hne:v.ownBlock≠some b)(hk:∀ k,k≠b->w'.heap[k]?=w.heap[k]?):w'.ownsRowF 0 e 1 v n xs:=by
 refine⟨h.1, ?_⟩;rcases h.2 with h2|⟨g,cap,cur,fz,rfl,hbg,hg,r⟩
 ·exact .inl h2
 ·refine .inr ⟨g,cap,cur,fz,rfl,hbg, ?_,r⟩;rw[hk g fun e=>hne (by rw[e];rfl)];exact hg
theorem axo{w:World}{b k:Nat}{i:Nat}{x:Value}(hk:k≠b):(w.setCell ⟨b,i,none⟩ x).heap[k]?=w.heap[k]?:=Below.heap_setCell _ _ _ _ hk
theorem aN6(L:Lays.n240 P ρ)(X:Builder.X72 P ρ)(b:Nat)(p v:Value)(w:World)(hb:w.heap[b]?=some (.cells #[p,v] (ρ.t 72) (0,0)))(hp:p=.pointer none\/p=.pointer (some ⟨b,0,none⟩)) :
  Calls P (ρ.f 240) #[.pointer (some ⟨b,0,none⟩)] w fun e w'=>e=.returned (.tuple #[])/\w'.heap[b]?=some (.cells #[.pointer (some ⟨b,0,none⟩),v] (ρ.t 72) (0,0))/\(∀ k,k≠b->w'.heap[k]?=w.heap[k]?)/\w'.heap.size=w.heap.size/\w'.os=w.os/\w'.tape=w.tape/\w'.output=w.output:=by
 rcases hp with rfl|rfl
 ·refine(Any.Builder_copyCheck_fresh L X b w (by simp[World.cell?,hb]) (by simp[World.shape?,hb]) (by simp[World.frozen?,hb])).mono ?_
  rintro e w' ⟨rfl,rfl⟩;refine⟨rfl, ?_,fun k hk=>axo hk,by simp[World.setCell],rfl,rfl,rfl⟩
  simp[World.setCell,Array.getElem?_modify,hb]
 ·refine(Any.Builder_copyCheck_used L X b w (by simp[World.cell?,hb])).mono ?_
  rintro e w' ⟨rfl,rfl⟩;exact⟨rfl,hb,fun k hk=>rfl,rfl,rfl,rfl,rfl⟩
theorem aN7(s:List UInt8):Lib.strCells ⟨s.toArray⟩=Lib.byteCells s:=by
 simp[Lib.strCells,Lib.byteCells]
set_option maxHeartbeats 2000000 in
set_option maxRecDepth 100000 in
theorem aN8 [kH](L:Lays.n166 P ρ)(X:Builder.Extra P ρ)(hT:kH.Nq=ρ.t 72)(hE:kH.Y1=ρ.t 5):alB P (ρ.f 166):=by
 refine⟨?_, ?_⟩
 ·exact ⟨_, L.f166, (by decide : ("(*strings.Builder).WriteString" : String) ≠ "runtime.NumGoroutine"), rfl⟩
 intro w b p v bs s hb hp hown hne hlen;rw[hT]at hb⊢;rw[hE]at hown⊢;obtain⟨i0,hi,hz0,hz1,hz2⟩:=info_parts X.infoByte;have mixed:=L.mixed;have t72:=L.t72;have a72:=L.a72;have z72:=L.z72;have v72:=L.v72;have u72:=run_underlying L.t72;have t70:=L.t70;have a70:=L.a70;have z70:=L.z70;have v70:=L.v70;have u70:=run_underlying L.t70;have t37:=L.t37;have a37:=L.a37;have z37:=L.z37;have v37:=L.v37;have u37:=run_underlying L.t37;have t3:=L.t3;have a3:=L.a3;have z3:=L.z3;have v3:=L.v3;have u3:=run_underlying L.t3;have t9:=L.t9;have a9:=L.a9;have z9:=L.z9;have v9:=L.v9;have u9:=run_underlying L.t9;have t4:=L.t4;have a4:=L.a4;have z4:=L.z4;have v4:=L.v4;have u4:=run_underlying L.t4;have t164:=L.t164;have a164:=L.a164;have z164:=L.z164;have v164:=L.v164;have u164:=run_underlying L.t164;have t5:=X.t5;have a5:=X.a5;have z5:=X.z5;have v5:=X.v5;have u5:=run_underlying X.t5;have e240:∀ args w,(callFunc (ρ.f 240) args).run P w=.ok (.enter (ρ.f 240) args) w:=enters_of L.f240 (by kernel_rfl) rfl
 have hss:(⟨s.toArray⟩:ByteArray).size=s.length:=by simp[ByteArray.size]
 go_enter L.f166,Body.n166_ntmps ρ
 go_wp2_with (go_at_fn (ρ.f 240);refine(aN6 { L with } X.toX72 b p v _ hb hp).mono ?_)
 rintro e w1 ⟨rfl,hbk,hk1,hz,ho1,ho2,ho3⟩;have hown1:=axn hown hne hk1;have c0:w1.cell? ⟨b,0,none⟩=some (.pointer (some ⟨b,0,none⟩)):=by rw[Lib.cell_of_heap hbk];rfl
 have c1:w1.cell? ⟨b,1,none⟩=some v:=by rw[Lib.cell_of_heap hbk];rfl
 go_wp2_with (at_builtin;refine aN5 _ rfl _ _ (ρ.t 37) (ρ.t 9) rfl (ρ.t 5) i0 L.t37 L.t9 hi hz0 hz1 hz2 _ _ _ rfl hown1 ⟨s.toArray⟩ rfl ?c3 ?c4 ?_)
 case c3=>rw[hss];unfold maxLen;unfold Zr at hlen;omega
 case c4=>rw[hss];exact hlen
 intro v' w2 hown' hgrow hnew
 have hown2:w2.ownsRowF 0 (ρ.t 5) 1 v' (bs.length+s.length) (Lib.byteCells (bs++s)):=by
  have h9:=hown';rw[aN7]at h9;simpa[Lib.byteCells]using h9
 have hlt:b<w1.heap.size:=lt_of_heap hbk
 have hb2:w2.heap[b]?=some (.cells #[.pointer (some ⟨b,0,none⟩),v] (ρ.t 72) (0,0)):=by
  rw[hgrow.block b hlt (fun e=>hne e.symm)];exact hbk
 have d0:w2.cell? ⟨b,0,none⟩=some (.pointer (some ⟨b,0,none⟩)):=by rw[Lib.cell_of_heap hb2];rfl
 have d1:w2.cell? ⟨b,1,none⟩=some v:=by rw[Lib.cell_of_heap hb2];rfl
 have f1:w2.frozen? ⟨b,1,none⟩=false:=Lib.frozen_of_heap hb2 1
 obtain⟨ao,n',cap,rfl⟩:∃ ao n' cap,v'=.slice ao n' cap:=by
  rcases hown'.2 with⟨hv,_⟩|⟨g,cap,cur,fz,hv,_⟩
  ·exact⟨_,_,_,hv⟩
  ·exact⟨_,_,_,hv⟩
 go_wp2
 go_ret2
 have hnb:(Value.slice ao n' cap).ownBlock≠some b:=by
  rcases hnew with h|h
  ·rw[h];exact hne
  ·intro h2;have:=h b h2;have:=lt_of_heap hbk;omega
 refine⟨rfl, ?_,_, ?_,axn hown2 hnb (fun k hk=>axo hk),hnb, ?_⟩
 ·refine⟨?_, ?_, ?_, ?_,fun k h1 h2 h3=>?_⟩
  ·exact hgrow.os.trans ho1
  ·exact hgrow.tape.trans ho2
  ·exact hgrow.output.trans ho3
  ·have:=hgrow.size;simp[World.setCell];omega
  ·rw[axo h2,hgrow.block k (by omega) (fun e=>h3 e),hk1 k h2]
 ·simp[World.setCell,Array.getElem?_modify,hb2]
 ·exact hnew.imp id fun h g hg=>by have:=h g hg;omega
set_option maxHeartbeats 2000000 in
set_option maxRecDepth 100000 in
theorem aN9(L:Lays.n169 P ρ)(X:Builder.Extra P ρ)(b:Nat)(p:Value)(w:World)(hbk:w.heap[b]?=some (.cells #[p,.slice none 0 0] (ρ.t 72) (0,0))) :
  Calls P (ρ.f 169) #[.pointer (some ⟨b,0,none⟩)] w fun e w'=>e=.returned (.string ⟨#[]⟩)/\w'.heap=w.heap/\w'.os=w.os/\w'.tape=w.tape/\w'.output=w.output:=by
 have hUS:=Any.unsafeString_none L X
 have c1:w.drew.cell? ⟨b,1,none⟩=some (.slice none 0 0):=by
  have:w.drew.heap[b]?=some (.cells #[p,.slice none 0 0] (ρ.t 72) (0,0)):=hbk;rw[Lib.cell_of_heap this];rfl
 have hSD:(Builtin.unsafeSliceData_ #[(ρ.t 37)] (ρ.t 127) #[.slice none 0 0]).run P w.drew=.ok (.pointer none) w.drew:=rfl;have mixed:=L.mixed;have t72:=L.t72;have a72:=L.a72;have z72:=L.z72;have v72:=L.v72;have u72:=run_underlying L.t72;have t70:=L.t70;have a70:=L.a70;have z70:=L.z70;have v70:=L.v70;have u70:=run_underlying L.t70;have t37:=L.t37;have a37:=L.a37;have z37:=L.z37;have v37:=L.v37;have u37:=run_underlying L.t37;have t127:=L.t127;have a127:=L.a127;have z127:=L.z127;have v127:=L.v127;have u127:=run_underlying L.t127;have t3:=L.t3;have a3:=L.a3;have z3:=L.z3;have v3:=L.v3;have u3:=run_underlying L.t3;have t9:=L.t9;have a9:=L.a9;have z9:=L.z9;have v9:=L.v9;have u9:=run_underlying L.t9;have t5:=X.t5;have a5:=X.a5;have z5:=X.z5;have v5:=X.v5;have u5:=run_underlying X.t5
 go_enter L.f169,Body.n169_ntmps ρ
 go_wp2
 go_region_o
 all_goals (go_wp2;go_ret;exact⟨rfl,rfl,rfl,rfl,rfl⟩)
set_option maxHeartbeats 2000000 in
set_option maxRecDepth 100000 in
theorem aN'(L:Lays.n169 P ρ)(X:Builder.Extra P ρ)(b g cap:Nat)(cur:Array Value)(fz:Nat×Nat)(l:List UInt8)(h0:l≠[])(p:Value)(w:World)(hbk:w.heap[b]?=some (.cells #[p,.slice (some ⟨g,0,none⟩) l.length cap] (ρ.t 72) (0,0)))
  (hown:w.ownsRowF 0 (ρ.t 5) 1 (.slice (some ⟨g,0,none⟩) l.length cap) l.length (Lib.byteCells l)) (hg:w.heap[g]?=some (.cells cur (ρ.t 5) fz)) (hnc:l.length<=cap) (hcm:cap<=maxLen) (hcs:cur.size=cap) :
  Calls P (ρ.f 169) #[.pointer (some ⟨b,0,none⟩)] w fun e w'=>e=.returned (.string ⟨l.toArray⟩)/\w'=w.drew.freeze ⟨g,0,none⟩ l.length:=by
 have hl0:l.length≠0:=by simpa using h0
 have c1:w.drew.cell? ⟨b,1,none⟩=some (.slice (some ⟨g,0,none⟩) l.length cap):=by
  have:w.drew.heap[b]?=some (.cells #[p,.slice (some ⟨g,0,none⟩) l.length cap] (ρ.t 72) (0,0)):=hbk;rw[Lib.cell_of_heap this];rfl
 have hSD:(Builtin.unsafeSliceData_ #[(ρ.t 37)] (ρ.t 127) #[.slice (some ⟨g,0,none⟩) l.length cap]).run P w.drew=.ok (.pointer (some ⟨g,0,none⟩)) w.drew :=
  Lib.run_unsafeSliceData_row _ _ _ _ _ _ (by omega)
 have hUS:(Builtin.unsafeString_ #[(ρ.t 127),(ρ.t 3)] (ρ.t 9) #[.pointer (some ⟨g,0,none⟩),.int .i64 l.length]).run P w.drew=.ok (.string ⟨l.toArray⟩) (w.drew.freeze ⟨g,0,none⟩ l.length):=by
  refine Lib.run_unsafeString_row w.drew (ρ.t 127) (ρ.t 3) (ρ.t 9) (ρ.t 5) L.t127 X.cellsByte g cur.size (by have hg':w.drew.heap[g]?=some (.cells cur (ρ.t 5) fz):=hg;simp[World.shape?,hg']) l h0 (by omega) (by unfold maxLen at hcm;omega) ?_
  intro j x hx;have:=hown.cells (g:=g) rfl j (.int .u8 x.toNat) (by simp[Lib.byteCells,hx])
  exact this
 have mixed:=L.mixed;have t72:=L.t72;have a72:=L.a72;have z72:=L.z72;have v72:=L.v72;have u72:=run_underlying L.t72;have t70:=L.t70;have a70:=L.a70;have z70:=L.z70;have v70:=L.v70;have u70:=run_underlying L.t70;have t37:=L.t37;have a37:=L.a37;have z37:=L.z37;have v37:=L.v37;have u37:=run_underlying L.t37;have t127:=L.t127;have a127:=L.a127;have z127:=L.z127;have v127:=L.v127;have u127:=run_underlying L.t127;have t3:=L.t3;have a3:=L.a3;have z3:=L.z3;have v3:=L.v3;have u3:=run_underlying L.t3;have t9:=L.t9;have a9:=L.a9;have z9:=L.z9;have v9:=L.v9;have u9:=run_underlying L.t9;have t5:=X.t5;have a5:=X.a5;have z5:=X.z5;have v5:=X.v5;have u5:=run_underlying X.t5;clear hnc hcm hg hcs
 go_enter L.f169,Body.n169_ntmps ρ
 go_wp2
 go_region_o
 all_goals (go_wp2;go_ret;exact⟨rfl,rfl⟩)
theorem aOa [kH](L:Lays.n169 P ρ)(X:Builder.Extra P ρ)(hT:kH.Nq=ρ.t 72)(hE:kH.Y1=ρ.t 5):alC P (ρ.f 169):=by
 refine⟨?_, ?_⟩
 ·exact ⟨_, L.f169, (by decide : ("(*strings.Builder).String" : String) ≠ "runtime.NumGoroutine"), rfl⟩
 intro w b p v l hb hp hown hne hnil;rw[hT]at hb;rw[hE]at hown⊢;by_cases h0:l=[]
 ·subst h0;rw[hnil rfl]at hb hown hne⊢;refine(aN9 L X b p w hb).mono ?_;rintro e w' ⟨rfl,h1,h2,h3,h4⟩;exact⟨rfl,⟨h2,h3,h4,by rw[h1];exact iJ _,fun k _ _ _=>by rw[h1]⟩,by rw[h1],axn hown hne (fun k _=>by rw[h1])⟩
 ·have hl0:l.length≠0:=by simpa using h0
  obtain⟨g,cap,cur,fz,rfl,hg,hfz,hnc,hcm,hcs,htake⟩:∃ g cap cur fz,v=.slice (some ⟨g,0,none⟩) l.length cap/\w.heap[g]?=some (.cells cur (ρ.t 5) fz)/\fz.2<=l.length*1/\l.length<=cap/\cap<=maxLen/\cur.size=cap*1/\cur.toList.take (l.length*1)=Lib.byteCells l:=by
   rcases hown.2 with⟨_,hz⟩|⟨g,cap,cur,fz,hv,_,r⟩
   ·exact absurd hz hl0
   ·exact⟨g,cap,cur,fz,hv,r⟩
  refine(aN' L X b g cap cur fz l h0 p w hb hown hg hnc hcm (by simpa using hcs)).mono ?_
  rintro e w' ⟨rfl,rfl⟩;have hgb:g≠b:=fun e=>hne (by rw[e];rfl)
  have hA:Lib.BuilderAtF (ρ.t 72) (ρ.t 5) 0 b p (Lib.byteCells l) w.drew:=⟨Nat.zero_le _,_,hb,by rw[Lib.byteCells_length];exact hown,hne⟩
  have hF:=hA.froze (g:=g) (cap:=cap) (by
   rw[Lib.byteCells_length];have:w.drew.heap[b]?=some (.cells #[p,.slice (some ⟨g,0,none⟩) l.length cap] (ρ.t 72) (0,0)):=hb;rw[Lib.cell_of_heap this];rfl)
  rw[Lib.byteCells_length]at hF
  obtain⟨F,hz⟩:∃ F:Obj->Obj,w.drew.freeze ⟨g,0,none⟩ l.length={ w.drew with heap:=w.drew.heap.modify g F }:=by
   unfold World.freeze;rw[if_neg hl0];exact⟨_,rfl⟩
  rw[hz]at hF⊢
  have ho:∀ k,k≠g->({ w.drew with heap:=w.drew.heap.modify g F }:World).heap[k]?=w.heap[k]?:=fun k hk=>by
   simp only[Array.getElem?_modify,if_neg (fun e=>hk (Eq.symm e))];rfl
  obtain⟨_,v2,hb2,hown2,_⟩:=hF;rw[ho b (fun e=>hgb e.symm),hb]at hb2;cases hb2;rw[Lib.byteCells_length]at hown2;refine⟨rfl,⟨rfl,rfl,rfl, ?_,fun k _ h2 h3=>ho k fun e=>h3 (by rw[e];rfl)⟩,ho b (fun e=>hgb e.symm),hown2⟩
  have:(w.drew.heap.modify g F).size=w.drew.heap.size:=Array.size_modify;exact Nat.le_of_eq this.symm
end
end Go.VI
