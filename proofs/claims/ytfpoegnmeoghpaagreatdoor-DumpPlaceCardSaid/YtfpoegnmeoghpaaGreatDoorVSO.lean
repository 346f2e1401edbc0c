/- Functions of Go's library that are known by the kit's contracts: what they answer, in the evaluator's words. -/
import Derived.Test.YtfpoegnmeoghpaaGreatDoorVIU2
import Derived.Test.YtfpoegnmeoghpaaGreatDoorVSL
import Derived.Lib.LaidTab
set_option linter.unusedVariables false
set_option linter.unusedSimpArgs false
namespace Go.VI
set_option linter.unusedSectionVars false
def feq:AV->AV->Bool
 |.int k a,.int k' b=>k==k'&&a==b
 |.str a,.str b=>a==b
 |.bool a,.bool b=>a==b
 |.rM t .undef,.rM t' .undef=>t==t'
 |_,_=>false
def akm:List AV->List AV->Bool
 |[],[]=>true
 |a::as,b::bs=>feq a b&&akm as bs
 |_,_=>false
theorem aIp:∀{a b:AV},feq a b=true->a=b:=by
 intro a b h;unfold feq at h;split at h
 ·simp only[fw,beq_iff_eq]at h;rw[h.1,h.2]
 ·simp only[beq_iff_eq]at h;rw[h]
 ·simp only[beq_iff_eq]at h;rw[h]
 ·simp only[beq_iff_eq]at h;rw[h]
 ·cases h
theorem aAF:∀{a b:List AV},akm a b=true->a=b
 |[],[],_=>rfl
 |a::as,b::bs,h=>by
  simp only[akm,fw]at h
  rw[aIp h.1,aAF h.2]
 |[],_::_,h=>by cases h
 |_::_,[],h=>by cases h
def akn(l:List (Nat×List AV))(g:Nat)(cs:List AV):Bool:=l.any fun p=>p.1==g&&akm p.2 cs
theorem aIq{l:List (Nat×List AV)}{g:Nat}{cs:List AV}(h:akn l g cs=true):(g,cs)∈l:=by
 obtain⟨p,h1,h2⟩:=YM.mp h;simp only[fw,beq_iff_eq]at h2;obtain⟨rfl,h3⟩:=h2;have:=aAF h3;subst this;exact h1
inductive OK where
 |trimPrefix
 |trim
 |ako
 |join
 |cut
 |split
 |itoa
 |atoi (t:Nat)
def strsOf:List AV->Option (List (List UInt8))
 |[]=>some []
 |.str l::r=>(strsOf r).map (l::·)
 |_=>none
def abC:Nat:=4294967281
def RU(k:OK)(args:List AV)(h:Heap):Option AV :=
 match k with
 |.trimPrefix=>match args with
  |[.str s,.str p]=>some (.str (Lib.trimPrefix s p))
  |_=>none
 |.trim=>match args with
  |[.str s,.str c]=>if s.length<abC/\c.length<abC/\c.all (fun b=>decide (b.toNat<128))=true then some (.str (Lib.trimS s c))else none
  |_=>none
 |.ako=>match args with
  |[.str s,.int .i64 n]=>if 0<=n/\s.length*n.toNat<=Zr/\n<=9223372036854775807/\s≠[]then some (.str (Lib.repeatL s n.toNat))else none
  |_=>none
 |.join=>match args with
  |[x,.str sep]=>(JH h 1 x).bind fun es=>(strsOf es).bind fun xs=>if xs.length<=Zr/\(Lib.join xs sep).length<=Zr then some (.str (Lib.join xs sep))else none
  |_=>none
 |.cut=>match args with
  |[.str s,.str sep]=>if s.length<abC then some (.tuple [.str (asW s sep).1,.str (asW s sep).2.1,.bool (asW s sep).2.2])else none
  |_=>none
 |.split=>match args with
  |[.str s,.str sep]=>if s.length<abC/\sep≠[]then some (.own 1 ((aIn s sep).map .str))else none
  |_=>none
 |.itoa=>match args with
  |[.int .i64 n]=>if -9223372036854775808<=n/\n<=9223372036854775807 then some (.str (al9 n))else none
  |_=>none
 |.atoi t=>match args with
  |[.str s]=>if s.length<abC then
    match Lib.atoiAll s with
    |.ok v=>some (.tuple [.int .i64 v,.zB])
    |.range=>some (.tuple [.int .i64 (Lib.atoiSat s),.rM t .undef])
    |_=>some (.tuple [.int .i64 0,.rM t .undef])
   else none
  |_=>none
section
variable [kH][Rounds]{P:Program}
def Rn(P:Program)(f:FuncId)(k:OK):Prop :=
 Enters P f/\∀(args:List AV) (h:Heap) (r:AV),RU k args h=some r->∀(w:World) (m:Map) (vs:List Value),Inv w m h->RL w (Live m h) m h args vs ->
  Calls P f vs.toArray w fun e w'=>∃ u,e=.returned u/\RowKit.Below w.heap.size w w'/\ZE w w' m h r u
theorem aoy{w w':World}{m:Map}{h:Heap}(hi:Inv w m h)(hb:RowKit.Below w.heap.size w w'){v:AV}{u:Value}(hg:RD w' (fun b=>Live m h b\/b∈([]:List Nat)) m h [] v u):ZE w w' m h v u:=by
 have hX:(fun b=>Live m h b\/b∈([]:List Nat))=Live m h:=by funext b;simp
 refine⟨[],List.nodup_nil,fun b hb=>by simp at hb, ?_,hg⟩
 rw[hX];exact(ab3 hi hb).toX
theorem aoz{w w':World}{m:Map}{h:Heap}(hi:Inv w m h)(hb:RowKit.Below w.heap.size w w')(l:List UInt8):ZE w w' m h (.str l) (.string ⟨l.toArray⟩) :=
 aoy hi hb ⟨rfl,RB.mpr rfl⟩
theorem asX{w:World}{X:Nat->Prop}{m:Map}{h:Heap}{a b:AV}{vs:List Value}(hr:RL w X m h [a,b] vs):∃ u v,vs=[u,v]/\R w X m h a u/\R w X m h b v:=by
 simp only[RL]at hr;obtain⟨u,us,rfl,h1,v,vw,rfl,h2,rfl⟩:=hr;exact⟨u,v,rfl,h1,h2⟩
theorem aAG{w:World}{X:Nat->Prop}{m:Map}{h:Heap}{a:AV}{vs:List Value}(hr:RL w X m h [a] vs):∃ u,vs=[u]/\R w X m h a u:=by
 simp only[RL]at hr;obtain⟨u,us,rfl,h1,rfl⟩:=hr;exact⟨u,rfl,h1⟩
def ajb(ks:Nat->Option OK)(f:Nat)(args:List AV)(h:Heap):Option AV:=(ks f).bind fun k=>RU k args h
theorem aIr{ks:Nat->Option OK}(hk:∀ f k,ks f=some k->Rn P f k):aAa P (ajb ks):=by
 intro f args h r hr;obtain⟨k,h1,h2⟩:=bE.mp hr;obtain⟨h3,h4⟩:=hk f k h1;exact⟨h3,h4 args h r h2⟩
theorem aIs{ks:Nat->Option OK}:∀ f args h r,ajb ks f args h=some r->∀ i v b,h[i]?=some (v,aU.dead)->ajb ks f args (h.set i b)=some r:=by
 intro f args h r hr i v b hd;obtain⟨k,h1,h2⟩:=bE.mp hr;refine bE.mpr ⟨k,h1, ?_⟩;cases k
 case join =>
  simp only[RU]at h2⊢;split at h2
  ·obtain⟨es,h3,h4⟩:=bE.mp h2;exact bE.mpr ⟨es,alI h3 hd,h4⟩
  ·cases h2
 all_goals exact h2
theorem aIt{ks:Nat->Option OK}{FJ:Nat->Option gH}(hk:∀ f,(FJ f).isSome=true->ks f=none):∀ f args h,ajb ks f args h=none->∀ i v b,h[i]?=some (v,aU.dead)->(FJ f).isSome=true->ajb ks f args (h.set i b)=none:=by
 intro f args h hr i v b hd hf;simp[ajb,hk f hf]
end
end Go.VI
