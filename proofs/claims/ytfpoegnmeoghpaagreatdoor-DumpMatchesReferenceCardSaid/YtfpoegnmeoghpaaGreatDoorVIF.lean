/- The operations that read only: what they do in the machine. -/
import Derived.Test.YtfpoegnmeoghpaaGreatDoorVIE
import Derived.Laws.Small
import Derived.Laws.Strings
set_option linter.unusedVariables false
set_option linter.unusedSimpArgs false
namespace Go.VI
set_option linter.unusedSectionVars false
variable [bJ][Rounds]
def Gp:AV->Value->Bool
 |.bool b,.bool b'=>b==b'
 |.int k n,.int k' n'=>k==k'&&n==n'
 |.str l,.string s=>l==s.data.toList
 |.aD,.slice none 0 0=>true
 |.nilPtr,.pointer none=>true
 |.gZ,.nilFunc=>true
 |.iG,.nilIface=>true
 |_,_=>false
def zH:List AV->List Value->Bool
 |[],[]=>true
 |a::as,v::vs=>Gp a v&&zH as vs
 |_,_=>false
def wU:AV->Value->Bool
 |.agg cs,.agg vs=>zH cs vs.toList
 |a,v=>Gp a v
def dY:Operand->aK->Bool
 |.tmp t,.t t'=>t==t'
 |.const v,.c a=>wU a v
 |.func f,.c (.fn f' [])=>f==f'&&decide (f<1000)
 |.global g,.c (.bD cs)=>bJ.gV g cs
 |_,_=>false
def vB:List Operand->List aK->Bool
 |[],[]=>true
 |o::os,x::xs=>dY o x&&vB os xs
 |_,_=>false
def Bj:Option Operand->Option aK->Bool
 |none,none=>true
 |some o,some x=>dY o x
 |_,_=>false
section
variable (P:Program)
def Dz(t:TypeId):Option Bool :=
 match P.underlying t with
 |some (.struct _)=>some true
 |some (.array _ _)=>some true
 |some _=>some false
 |none=>none
def pG(t:TypeId):Option Nat:=(P.info? t).map (·.size)
def DC(t:TypeId)(sh:Sh):Bool :=
 match Dz P t,sh with
 |some true,.agg n=>pG P t==some n
 |some false,.one=>true
 |_,_=>false
def Gq(t:TypeId)(zero:List AV):Bool :=
 match (P.info? t).bind (·.zero) with
 |some z=>zH zero z.cells.toList
 |none=>false
end
section
variable {w:World}{X:Nat->Prop}{m:Map}{h:Heap}{P:Program}
theorem Gr{a:AV}{v:Value}(hk:Gp a v=true):RC w X a v/\v.oneCell'=true/\a.cells=[a]/\v.cells=#[v]/\a.val=true:=by
 unfold Gp at hk;split at hk<;>simp_all[RC,Value.oneCell',AV.cells,Value.cells,AV.val]
theorem Bl:∀{as:List AV} {vs:List Value},zH as vs=true->ones vs/\dH w X as vs
 |[],[],_=>⟨fun _ h=>by simp at h,by simp[dH]⟩
 |a::as,v::vs,hk=>by
  simp only[zH,bg]at hk;obtain⟨h1,h2,_⟩:=Gr (w:=w) (X:=X) hk.1;obtain⟨g1,g2⟩:=Bl hk.2;refine⟨fun u hu=>?_,by simp only[dH];exact⟨v,vs,rfl,h1,g2⟩⟩
  rcases gq.mp hu with rfl|hu
  ·exact h2
  ·exact g1 u hu
 |[],_::_,hk=>by simp[zH]at hk
 |_::_,[],hk=>by simp[zH]at hk
theorem Ql{a:AV}{v:Value}(hk:wU a v=true):RC w X a v:=by
 unfold wU at hk;split at hk
 ·rename_i cs vs;obtain⟨h1,h2⟩:=Bl (w:=w) (X:=X) hk;simp only[RC];exact⟨vs.toList,by simp,h1,h2⟩
 ·exact(Gr hk).1
structure fw(w:World)(m:Map)(h:Heap)(env:Env)(a:Act):Prop where
 at':∀ t,R w (Live m h) m h (env.get t) (a.tmps.getD t undef)
 gV:rW w (Live m h)
theorem eX{env:Env}{a:Act}(he:fw w m h env a){o:Operand}{x:aK}(hk:dY o x=true):R w (Live m h) m h (x.ev env) (a.eval o):=by
 unfold dY at hk;split at hk
 ·simp only[beq_iff_eq]at hk;subst hk;exact he.at' _
 ·exact R.rU _ _ (Ql hk)
 ·simp only[bg,beq_iff_eq,decide_eq_true_eq]at hk;obtain⟨rfl,hk⟩:=hk;simp[aK.ev,Act.eval,R,RL,wP,hk]
 ·obtain⟨h1,h2,h3,_⟩:=he.gV _ _ hk;simp only[aK.ev,Act.eval,R,RC];exact⟨_,0,rfl,h1,h2,h3⟩
 ·cases hk
theorem Bn{env:Env}{a:Act}(he:fw w m h env a):∀{os:List Operand} {xs:List aK},vB os xs=true->RL w (Live m h) m h (evs env xs) (os.map a.eval)
 |[],[],_=>by simp[evs,RL]
 |o::os,x::xs,hk=>by
  simp only[vB,bg]at hk;simp only[evs,List.map_cons,RL]
  exact⟨_,_,rfl,eX he hk.1,Bn he hk.2⟩
 |[],_::_,hk=>by simp[vB]at hk
 |_::_,[],hk=>by simp[vB]at hk
theorem jU{k:IntKind}{n:Int}{u:Value}:R w X m h (.int k n) u↔u=.int k n:=by simp[R,RC]
theorem vC{b:Bool}{u:Value}:R w X m h (.bool b) u↔u=.bool b:=by simp[R,RC]
theorem oh{l:List UInt8}{u:Value}:R w X m h (.str l) u↔u=.string ⟨l.toArray⟩:=by simp[R,RC]
def Reads(P:Program)(w:World)(m:Map)(h:Heap)(a:Act)(o:Oper)(v:AV):Prop :=
 ∃ u,(execOp a.eval o).run P w=.ok (.value u) w/\R w (Live m h) m h v u
theorem ZK(a b:List UInt8):(⟨a.toArray⟩:ByteArray)++⟨b.toArray⟩=⟨(a++b).toArray⟩:=by
 apply ByteArray.ext;simp
theorem ZL{op:BinOp}{x y v:AV}{p q:Value}(hx:R w X m h x p)(hy:R w X m h y q)(hv:fI op x y=some v)(t:TypeId)(ox oy:Operand) :
  ∃ u,(eqGuard op t ox oy p q).run P w=.ok () w/\(binOp op t p q).run P w=.ok u w/\R w X m h v u:=by
 unfold fI at hv;split at hv
 ·rename_i k a k' b;rw[jU]at hx hy;subst hx hy
  have hg:(eqGuard op t ox oy (.int k a) (.int k' b)).run P w=.ok () w:=by
   unfold eqGuard;split<;>simp
  cases op<;>simp only[]at hv
  case shl =>
   split at hv<;>simp at hv;subst hv;rename_i hb;refine⟨_,hg, ?_,jU.mpr rfl⟩;simp[binOp,Op.shift,Int.not_lt.mpr hb]
  case shr =>
   split at hv<;>simp at hv;subst hv;rename_i hb;refine⟨_,hg, ?_,jU.mpr rfl⟩;simp[binOp,Op.shift,Int.not_lt.mpr hb]
  all_goals
   split at hv
   ·rename_i hk;subst hk
    first
    |(simp at hv;done)
    |(simp only[aP]at hv;subst hv;refine⟨_,hg, ?_,by first|exact jU.mpr rfl|exact vC.mpr rfl⟩;simp[binOp,Op.intArith,Op.intBits,Op.intCmp];done)
    | (split at hv
       ·simp at hv
       ·rename_i hb;simp only[aP]at hv;subst hv;refine⟨_,hg, ?_,jU.mpr rfl⟩;simp[binOp,Op.intDiv,hb])
   ·simp at hv
 ·rename_i a b;rw[oh]at hx hy;subst hx hy
  have hg:(eqGuard op t ox oy (.string ⟨a.toArray⟩) (.string ⟨b.toArray⟩)).run P w=.ok () w:=by
   unfold eqGuard;split<;>simp
  cases op<;>simp only[]at hv
  all_goals first
   |(simp at hv;done)
   |(simp only[aP]at hv;subst hv;refine⟨_,hg, ?_,vC.mpr rfl⟩;simp[binOp,Op.stringOp];done)
   | (split at hv
      ·rename_i hlen;simp only[aP]at hv;subst hv;refine⟨_,hg, ?_,oh.mpr rfl⟩;simp[binOp,Op.stringOp,ByteArray.size,ZK,IntKind.max,IntKind.signed,IntKind.bits];omega
      ·simp at hv)
 ·cases hv
end
end Go.VI
