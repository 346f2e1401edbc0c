/- The operations that read only: what they do in the machine. -/
import Derived.Test.YtfpoegnmeoghpaaGreatDoorVIE
import Derived.Laws.Small
import Derived.Laws.Strings
set_option linter.unusedVariables false
set_option linter.unusedSimpArgs false
namespace Go.VI
set_option linter.unusedSectionVars false
variable [kH][Rounds]
def anz:AV->Value->Bool
 |.bool b,.bool b'=>b==b'
 |.int k n,.int k' n'=>k==k'&&n==n'
 |.str l,.string s=>l==s.data.toList
 |.bO,.slice none 0 0=>true
 |.nilPtr,.pointer none=>true
 |.yX,.nilFunc=>true
 |.zB,.nilIface=>true
 |_,_=>false
def aiV:List AV->List Value->Bool
 |[],[]=>true
 |a::as,v::vs=>anz a v&&aiV as vs
 |_,_=>false
def ab6:AV->Value->Bool
 |.agg cs,.agg vs=>aiV cs vs.toList
 |a,v=>anz a v
def qU:Operand->bD->Bool
 |.tmp t,.t t'=>t==t'
 |.const v,.c a=>ab6 a v
 |.func f,.c (.fn f' [])=>f==f'&&decide (f<1000)
 |.global g,.c (.iE cs)=>kH.CX g cs
 |_,_=>false
def ZA:List Operand->List bD->Bool
 |[],[]=>true
 |o::os,x::xs=>qU o x&&ZA os xs
 |_,_=>false
def ajT:Option Operand->Option bD->Bool
 |none,none=>true
 |some o,some x=>qU o x
 |_,_=>false
section
variable (P:Program)
def alm(t:TypeId):Option Bool :=
 match P.underlying t with
 |some (.struct _)=>some true
 |some (.array _ _)=>some true
 |some _=>some false
 |none=>none
def SX(t:TypeId):Option Nat:=(P.info? t).map (·.size)
def aln(t:TypeId)(sh:Sh):Bool :=
 match alm P t,sh with
 |some true,.agg n=>SX P t==some n
 |some false,.one=>true
 |_,_=>false
def anA(t:TypeId)(zero:List AV):Bool :=
 match (P.info? t).bind (·.zero) with
 |some z=>aiV zero z.cells.toList
 |none=>false
end
section
variable {w:World}{X:Nat->Prop}{m:Map}{h:Heap}{P:Program}
theorem anB{a:AV}{v:Value}(hk:anz a v=true):RC w X a v/\v.oneCell'=true/\a.cells=[a]/\v.cells=#[v]/\a.val=true:=by
 unfold anz at hk;split at hk<;>simp_all[RC,Value.oneCell',AV.cells,Value.cells,AV.val]
theorem ajU:∀{as:List AV} {vs:List Value},aiV as vs=true->ones vs/\o9 w X as vs
 |[],[],_=>⟨fun _ h=>by simp at h,by simp[o9]⟩
 |a::as,v::vs,hk=>by
  simp only[aiV,fw]at hk;obtain⟨h1,h2,_⟩:=anB (w:=w) (X:=X) hk.1;obtain⟨g1,g2⟩:=ajU hk.2;refine⟨fun u hu=>?_,by simp only[o9];exact⟨v,vs,rfl,h1,g2⟩⟩
  rcases A9.mp hu with rfl|hu
  ·exact h2
  ·exact g1 u hu
 |[],_::_,hk=>by simp[aiV]at hk
 |_::_,[],hk=>by simp[aiV]at hk
theorem axH{a:AV}{v:Value}(hk:ab6 a v=true):RC w X a v:=by
 unfold ab6 at hk;split at hk
 ·rename_i cs vs;obtain⟨h1,h2⟩:=ajU (w:=w) (X:=X) hk;simp only[RC];exact⟨vs.toList,by simp,h1,h2⟩
 ·exact(anB hk).1
structure uO(w:World)(m:Map)(h:Heap)(env:Env)(a:Act):Prop where
 at':∀ t,R w (Live m h) m h (env.get t) (a.tmps.getD t undef)
 CX:Y2 w (Live m h)
theorem tO{env:Env}{a:Act}(he:uO w m h env a){o:Operand}{x:bD}(hk:qU o x=true):R w (Live m h) m h (x.ev env) (a.eval o):=by
 unfold qU at hk;split at hk
 ·simp only[beq_iff_eq]at hk;subst hk;exact he.at' _
 ·exact R.Zx _ _ (axH hk)
 ·simp only[fw,beq_iff_eq,decide_eq_true_eq]at hk;obtain⟨rfl,hk⟩:=hk;simp[bD.ev,Act.eval,R,RL,fnV,hk]
 ·obtain⟨h1,h2,h3,_⟩:=he.CX _ _ hk;simp only[bD.ev,Act.eval,R,RC];exact⟨_,0,rfl,h1,h2,h3⟩
 ·cases hk
theorem ajV{env:Env}{a:Act}(he:uO w m h env a):∀{os:List Operand} {xs:List bD},ZA os xs=true->RL w (Live m h) m h (evs env xs) (os.map a.eval)
 |[],[],_=>by simp[evs,RL]
 |o::os,x::xs,hk=>by
  simp only[ZA,fw]at hk;simp only[evs,List.map_cons,RL]
  exact⟨_,_,rfl,tO he hk.1,ajV he hk.2⟩
 |[],_::_,hk=>by simp[ZA]at hk
 |_::_,[],hk=>by simp[ZA]at hk
theorem JA{k:IntKind}{n:Int}{u:Value}:R w X m h (.int k n) u↔u=.int k n:=by simp[R,RC]
theorem abr{b:Bool}{u:Value}:R w X m h (.bool b) u↔u=.bool b:=by simp[R,RC]
theorem RB{l:List UInt8}{u:Value}:R w X m h (.str l) u↔u=.string ⟨l.toArray⟩:=by simp[R,RC]
def Reads(P:Program)(w:World)(m:Map)(h:Heap)(a:Act)(o:Oper)(v:AV):Prop :=
 ∃ u,(execOp a.eval o).run P w=.ok (.value u) w/\R w (Live m h) m h v u
theorem aEg(a b:List UInt8):(⟨a.toArray⟩:ByteArray)++⟨b.toArray⟩=⟨(a++b).toArray⟩:=by
 apply ByteArray.ext;simp
theorem aEh{op:BinOp}{x y v:AV}{p q:Value}(hx:R w X m h x p)(hy:R w X m h y q)(hv:xS op x y=some v)(t:TypeId)(ox oy:Operand) :
  ∃ u,(eqGuard op t ox oy p q).run P w=.ok () w/\(binOp op t p q).run P w=.ok u w/\R w X m h v u:=by
 unfold xS at hv;split at hv
 ·rename_i k a k' b;rw[JA]at hx hy;subst hx hy
  have hg:(eqGuard op t ox oy (.int k a) (.int k' b)).run P w=.ok () w:=by
   unfold eqGuard;split<;>simp
  cases op<;>simp only[]at hv
  case shl =>
   split at hv<;>simp at hv;subst hv;rename_i hb;refine⟨_,hg, ?_,JA.mpr rfl⟩;simp[binOp,Op.shift,Int.not_lt.mpr hb]
  case shr =>
   split at hv<;>simp at hv;subst hv;rename_i hb;refine⟨_,hg, ?_,JA.mpr rfl⟩;simp[binOp,Op.shift,Int.not_lt.mpr hb]
  all_goals
   split at hv
   ·rename_i hk;subst hk
    first
    |(simp at hv;done)
    |(simp only[dz]at hv;subst hv;refine⟨_,hg, ?_,by first|exact JA.mpr rfl|exact abr.mpr rfl⟩;simp[binOp,Op.intArith,Op.intBits,Op.intCmp];done)
    | (split at hv
       ·simp at hv
       ·rename_i hb;simp only[dz]at hv;subst hv;refine⟨_,hg, ?_,JA.mpr rfl⟩;simp[binOp,Op.intDiv,hb])
   ·simp at hv
 ·rename_i a b;rw[RB]at hx hy;subst hx hy
  have hg:(eqGuard op t ox oy (.string ⟨a.toArray⟩) (.string ⟨b.toArray⟩)).run P w=.ok () w:=by
   unfold eqGuard;split<;>simp
  cases op<;>simp only[]at hv
  all_goals first
   |(simp at hv;done)
   |(simp only[dz]at hv;subst hv;refine⟨_,hg, ?_,abr.mpr rfl⟩;simp[binOp,Op.stringOp];done)
   | (split at hv
      ·rename_i hlen;simp only[dz]at hv;subst hv;refine⟨_,hg, ?_,RB.mpr rfl⟩;simp[binOp,Op.stringOp,ByteArray.size,aEg,IntKind.max,IntKind.signed,IntKind.bits];omega
      ·simp at hv)
 ·cases hv
end
end Go.VI
