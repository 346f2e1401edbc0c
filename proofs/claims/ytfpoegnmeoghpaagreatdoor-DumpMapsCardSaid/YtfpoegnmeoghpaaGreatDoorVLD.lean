/- What listed package variables give the evaluator: laws for any program. -/
import GoSem.PinnedTables
import Derived.Test.YtfpoegnmeoghpaaGreatDoorVIU2
import Derived.Lib.LaidU8
import Derived.Shelf.Vars
set_option linter.unusedVariables false
set_option linter.unusedSimpArgs false
namespace Go.VI
theorem aez{P:Program}{w:World}{n:String}{g:Nat}{cs:Array Value}(hg:P.globalNamed n=some g)(h:w.var? P n=some cs):∃ t f,w.heap[g]?=some (.cells cs t f):=by
 simp only[World.var?,hg,Option.bind_some]at h;split at h
 ·rename_i t f hh;cases h;exact⟨_,_,hh⟩
 ·cases h
theorem aeA{w:World}{X:Nat->Prop}{b:Nat}:∀(cs:List AV) (o:Nat),(∀ i c,cs[i]?=some c->∃ u,w.cell? ⟨b,o+i,none⟩=some u/\u.oneCell'=true/\RC w X c u)->l8 w X cs b o
 |[],_,_=>by simp[l8]
 |c::cs,o,h=>by
  simp only[l8];refine⟨by simpa using h 0 c rfl,aeA cs (o+1) fun i d hd=>?_⟩
  have:=h (i+1) d (by simpa using hd)
  rwa [show o+(i+1)=o+1+i by omega]at this
theorem aeB{w:World}{g:Nat}{cs:Array Value}{t:TypeId}{f:Nat×Nat}{Nh:List AV}(hb:w.heap[g]?=some (.cells cs t f))(hl:Nh.length=cs.size)
  (h:∀(i:Nat) (c:AV),Nh[i]?=some c->∃ u,cs[i]?=some u/\u.oneCell'=true/\RC w (fun _=>False) c u):g<w.heap.size/\¬ False/\l8 w (fun _=>False) Nh g 0/\w.cell? ⟨g,Nh.length,none⟩=none:=by
 have hc:∀ i,w.cell? ⟨g,i,none⟩=cs[i]?:=fun i=>by simp[World.cell?,hb]
 refine⟨?_,id,aeA Nh 0 fun i c hi=>?_, ?_⟩
 ·rcases kZ g w.heap.size with h1|h1
  ·exact h1
  ·rw[Array.getElem?_eq_none h1]at hb;cases hb
 ·rw[oO,hc];exact h i c hi
 ·rw[hc,Array.getElem?_eq_none (by omega)]
section
variable {P:Program}{w:World}
theorem arq{n:String}{g:Nat}{k:IntKind}{zs:List Int}(hg:P.globalNamed n=some g)(h:Lib.TabIs P w n k zs):g<w.heap.size/\¬ False/\l8 w (fun _=>False) (zs.map (.int k)) g 0/\w.cell? ⟨g,(zs.map (AV.int k)).length,none⟩=none:=by
 obtain⟨t,f,hb⟩:=aez hg h;refine aeB hb (by simp) fun i c hi=>?_
 simp only[List.getElem?_map,mE]at hi;obtain⟨z,hz,rfl⟩:=hi;exact⟨.int k z,by simp[hz],rfl,rfl⟩
theorem ars{n:String}{g:Nat}{k:IntKind}{zs:List Int}{t e:TypeId}{m:Nat}(hg:P.globalNamed n=some g)(hty:(P.globals[g]?).map (·.type)=some t)(ht:P.underlying t=some (.array m e))(he:P.underlying e=some (.int k))(hce:P.cellsOf e=1)(hct:P.cellsOf t=m)
  (h:Lib.VarReads P w n (Lib.tabData k zs)):g<w.heap.size/\¬ False/\l8 w (fun _=>False) (zs.map (.int k)) g 0/\w.cell? ⟨g,(zs.map (AV.int k)).length,none⟩=none:=by
 obtain⟨g',t',cs,fuel,p,h1,h2,h3,h4⟩:=h;obtain rfl:=Option.some.inj (hg.symm.trans h1);obtain rfl:=Option.some.inj (hty.symm.trans h2);refine arq hg ?_;unfold Lib.TabIs;rw[h3,<-Lib.cells_of_tab ht he hce hct h4]
theorem aeC{n:String}{g:Nat}{nm:String}{d:DataW Unit}{ti:TypeId}{ms:Array (String×TypeId)}(hg:P.globalNamed n=some g)(hty:(P.globals[g]?).map (·.type)=some ti)(hi:P.underlying ti=some (.interface ms))
  (h:Lib.VarReads P w n (.iface nm d)):∃ tp,g<w.heap.size/\¬ False/\l8 w (fun _=>False) [.iG tp .undef] g 0/\w.cell? ⟨g,[AV.iG tp .undef].length,none⟩=none:=by
 obtain⟨g',t',cs,fuel,p,h1,h2,h3,h4⟩:=h;obtain rfl:=Option.some.inj (hg.symm.trans h1);obtain rfl:=Option.some.inj (hty.symm.trans h2);obtain⟨t2,f,hb⟩:=aez hg h3
 have:∃ u v,cs.toList=[.iface u v]:=by
  cases fuel with
  |zero=>simp[DataW.trod]at h4
  |succ m =>
   unfold DataW.trod at h4;rw[hi]at h4;split at h4<;>simp_all
 obtain⟨u,v,hc⟩:=this;have hz:cs.size=1:=by have:=congrArg List.length hc;simpa using this
 refine⟨u,aeB hb (by simp[hz]) fun i c hi=>?_⟩
 cases i with
 |zero =>
  simp only[List.getElem?_cons_zero,aS]at hi;subst hi;refine⟨.iface u v, ?_,rfl,v,rfl,trivial⟩
  rw[<-Array.getElem?_toList,hc];rfl
 |succ i=>simp at hi
theorem WH{l:List (String×DataW Unit)}(hf:(l.filter fun x=>x.2.handleName?.isSome)=[])(h:laidMetH P l w){n:String}{d:DataW Unit}(hm:(n,d)∈l):Lib.VarReads P w n d:=by
 unfold laidMetH at h;rw[hf]at h;exact Lib.laidMet.reads h hm
end
end Go.VI
