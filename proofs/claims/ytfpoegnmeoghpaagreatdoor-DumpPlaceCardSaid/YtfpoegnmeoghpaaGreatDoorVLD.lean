/- What listed package variables give the evaluator: laws for any program. -/
import GoSem.PinnedTables
import Derived.Test.YtfpoegnmeoghpaaGreatDoorVIU2
import Derived.Lib.LaidU8
import Derived.Shelf.Vars
set_option linter.unusedVariables false
set_option linter.unusedSimpArgs false
namespace Go.VI
theorem aDL{P:Program}{w:World}{n:String}{g:Nat}{cs:Array Value}(hg:P.globalNamed n=some g)(h:w.var? P n=some cs):∃ t f,w.heap[g]?=some (.cells cs t f):=by
 simp only[World.var?,hg,Option.bind_some]at h;split at h
 ·rename_i t f hh;cases h;exact⟨_,_,hh⟩
 ·cases h
theorem aDM{w:World}{X:Nat->Prop}{b:Nat}:∀(cs:List AV) (o:Nat),(∀ i c,cs[i]?=some c->∃ u,w.cell? ⟨b,o+i,none⟩=some u/\u.oneCell'=true/\RC w X c u)->Fu w X cs b o
 |[],_,_=>by simp[Fu]
 |c::cs,o,h=>by
  simp only[Fu];refine⟨by simpa using h 0 c rfl,aDM cs (o+1) fun i d hd=>?_⟩
  have:=h (i+1) d (by simpa using hd)
  rwa [show o+(i+1)=o+1+i by omega]at this
theorem aDN{w:World}{g:Nat}{cs:Array Value}{t:TypeId}{f:Nat×Nat}{avs:List AV}(hb:w.heap[g]?=some (.cells cs t f))(hl:avs.length=cs.size)
  (h:∀(i:Nat) (c:AV),avs[i]?=some c->∃ u,cs[i]?=some u/\u.oneCell'=true/\RC w (fun _=>False) c u):g<w.heap.size/\¬ False/\Fu w (fun _=>False) avs g 0/\w.cell? ⟨g,avs.length,none⟩=none:=by
 have hc:∀ i,w.cell? ⟨g,i,none⟩=cs[i]?:=fun i=>by simp[World.cell?,hb]
 refine⟨?_,id,aDM avs 0 fun i c hi=>?_, ?_⟩
 ·rcases Fz g w.heap.size with h1|h1
  ·exact h1
  ·rw[Array.getElem?_eq_none h1]at hb;cases hb
 ·rw[F6,hc];exact h i c hi
 ·rw[hc,Array.getElem?_eq_none (by omega)]
section
variable {P:Program}{w:World}
theorem aOe{n:String}{g:Nat}{k:IntKind}{zs:List Int}(hg:P.globalNamed n=some g)(h:Lib.TabIs P w n k zs):g<w.heap.size/\¬ False/\Fu w (fun _=>False) (zs.map (.int k)) g 0/\w.cell? ⟨g,(zs.map (AV.int k)).length,none⟩=none:=by
 obtain⟨t,f,hb⟩:=aDL hg h;refine aDN hb (by simp) fun i c hi=>?_
 simp only[List.getElem?_map,mE]at hi;obtain⟨z,hz,rfl⟩:=hi;exact⟨.int k z,by simp[hz],rfl,rfl⟩
theorem aOf{n:String}{g:Nat}{k:IntKind}{zs:List Int}{t e:TypeId}{m:Nat}(hg:P.globalNamed n=some g)(hty:(P.globals[g]?).map (·.type)=some t)(ht:P.underlying t=some (.array m e))(he:P.underlying e=some (.int k))(hce:P.cellsOf e=1)(hct:P.cellsOf t=m)
  (h:Lib.VarReads P w n (Lib.tabData k zs)):g<w.heap.size/\¬ False/\Fu w (fun _=>False) (zs.map (.int k)) g 0/\w.cell? ⟨g,(zs.map (AV.int k)).length,none⟩=none:=by
 obtain⟨g',t',cs,fuel,p,h1,h2,h3,h4⟩:=h;obtain rfl:=Option.some.inj (hg.symm.trans h1);obtain rfl:=Option.some.inj (hty.symm.trans h2);refine aOe hg ?_;unfold Lib.TabIs;rw[h3,<-Lib.cells_of_tab ht he hce hct h4]
theorem aDO{n:String}{g:Nat}{nm:String}{d:DataW Unit}{ti:TypeId}{ms:Array (String×TypeId)}(hg:P.globalNamed n=some g)(hty:(P.globals[g]?).map (·.type)=some ti)(hi:P.underlying ti=some (.interface ms))
  (h:Lib.VarReads P w n (.iface nm d)):∃ tp,g<w.heap.size/\¬ False/\Fu w (fun _=>False) [.rM tp .undef] g 0/\w.cell? ⟨g,[AV.rM tp .undef].length,none⟩=none:=by
 obtain⟨g',t',cs,fuel,p,h1,h2,h3,h4⟩:=h;obtain rfl:=Option.some.inj (hg.symm.trans h1);obtain rfl:=Option.some.inj (hty.symm.trans h2);obtain⟨t2,f,hb⟩:=aDL hg h3
 have:∃ u v,cs.toList=[.iface u v]:=by
  cases fuel with
  |zero=>simp[DataW.trod]at h4
  |succ m =>
   unfold DataW.trod at h4;rw[hi]at h4;split at h4<;>simp_all
 obtain⟨u,v,hc⟩:=this;have hz:cs.size=1:=by have:=congrArg List.length hc;simpa using this
 refine⟨u,aDN hb (by simp[hz]) fun i c hi=>?_⟩
 cases i with
 |zero =>
  simp only[List.getElem?_cons_zero,dz]at hi;subst hi;refine⟨.iface u v, ?_,rfl,v,rfl,trivial⟩
  rw[<-Array.getElem?_toList,hc];rfl
 |succ i=>simp at hi
theorem axp{l:List (String×DataW Unit)}(hf:(l.filter fun x=>x.2.handleName?.isSome)=[])(h:laidMetH P l w){n:String}{d:DataW Unit}(hm:(n,d)∈l):Lib.VarReads P w n d:=by
 unfold laidMetH at h;rw[hf]at h;exact Lib.laidMet.reads h hm
end
end Go.VI
