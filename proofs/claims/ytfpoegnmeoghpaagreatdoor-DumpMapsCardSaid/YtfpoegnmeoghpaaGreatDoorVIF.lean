/- The operations that read only: what they do in the machine. -/
import Derived.Test.YtfpoegnmeoghpaaGreatDoorVIE
import Derived.Laws.Small
import Derived.Laws.Strings
set_option linter.unusedVariables false
set_option linter.unusedSimpArgs false
namespace Go.VI
set_option linter.unusedSectionVars false
variable [dH][Rounds]
def Nv:AV->Value->Bool
 |.bool b,.bool b'=>b==b'
 |.int k n,.int k' n'=>k==k'&&n==n'
 |.str l,.string s=>l==s.data.toList
 |.aP,.slice none 0 0=>true
 |.nilPtr,.pointer none=>true
 |.jR,.nilFunc=>true
 |.j6,.nilIface=>true
 |_,_=>false
def EP:List AV->List Value->Bool
 |[],[]=>true
 |a::as,v::vs=>Nv a v&&EP as vs
 |_,_=>false
def Cc:AV->Value->Bool
 |.agg cs,.agg vs=>EP cs vs.toList
 |a,v=>Nv a v
def iA:Operand->aL->Bool
 |.tmp t,.t t'=>t==t'
 |.const v,.c a=>Cc a v
 |.func f,.c (.fn f' [])=>f==f'&&decide (f<1000)
 |.global g,.c (.bR cs)=>dH.kI g cs
 |_,_=>false
def zD:List Operand->List aL->Bool
 |[],[]=>true
 |o::os,x::xs=>iA o x&&zD os xs
 |_,_=>false
def Gu:Option Operand->Option aL->Bool
 |none,none=>true
 |some o,some x=>iA o x
 |_,_=>false
section
variable (P:Program)
def JJ(t:TypeId):Option Bool :=
 match P.underlying t with
 |some (.struct _)=>some true
 |some (.array _ _)=>some true
 |some _=>some false
 |none=>none
def vO(t:TypeId):Option Nat:=(P.info? t).map (·.size)
def JK(t:TypeId)(sh:Sh):Bool :=
 match JJ P t,sh with
 |some true,.agg n=>vO P t==some n
 |some false,.one=>true
 |_,_=>false
def Nw(t:TypeId)(zero:List AV):Bool :=
 match (P.info? t).bind (·.zero) with
 |some z=>EP zero z.cells.toList
 |none=>false
end
section
variable {w:World}{X:Nat->Prop}{m:Map}{h:Heap}{P:Program}
theorem Ny{a:AV}{v:Value}(hk:Nv a v=true):RC w X a v/\v.oneCell'=true/\a.cells=[a]/\v.cells=#[v]/\a.val=true:=by
 unfold Nv at hk;split at hk<;>simp_all[RC,Value.oneCell',AV.cells,Value.cells,AV.val]
theorem Gv:∀{as:List AV} {vs:List Value},EP as vs=true->ones vs/\gQ w X as vs
 |[],[],_=>⟨fun _ h=>by simp at h,by simp[gQ]⟩
 |a::as,v::vs,hk=>by
  simp only[EP,bM]at hk;obtain⟨h1,h2,_⟩:=Ny (w:=w) (X:=X) hk.1;obtain⟨g1,g2⟩:=Gv hk.2;refine⟨fun u hu=>?_,by simp only[gQ];exact⟨v,vs,rfl,h1,g2⟩⟩
  rcases ko.mp hu with rfl|hu
  ·exact h2
  ·exact g1 u hu
 |[],_::_,hk=>by simp[EP]at hk
 |_::_,[],hk=>by simp[EP]at hk
theorem Xa{a:AV}{v:Value}(hk:Cc a v=true):RC w X a v:=by
 unfold Cc at hk;split at hk
 ·rename_i cs vs;obtain⟨h1,h2⟩:=Gv (w:=w) (X:=X) hk;simp only[RC];exact⟨vs.toList,by simp,h1,h2⟩
 ·exact(Ny hk).1
structure jb(w:World)(m:Map)(h:Heap)(env:Env)(a:Act):Prop where
 at':∀ t,R w (Live m h) m h (env.get t) (a.tmps.getD t undef)
 kI:yx w (Live m h)
theorem iQ{env:Env}{a:Act}(he:jb w m h env a){o:Operand}{x:aL}(hk:iA o x=true):R w (Live m h) m h (x.ev env) (a.eval o):=by
 unfold iA at hk;split at hk
 ·simp only[beq_iff_eq]at hk;subst hk;exact he.at' _
 ·exact R.yu _ _ (Xa hk)
 ·simp only[bM,beq_iff_eq,decide_eq_true_eq]at hk;obtain⟨rfl,hk⟩:=hk;simp[aL.ev,Act.eval,R,RL,Aw,hk]
 ·obtain⟨h1,h2,h3,_⟩:=he.kI _ _ hk;simp only[aL.ev,Act.eval,R,RC];exact⟨_,0,rfl,h1,h2,h3⟩
 ·cases hk
theorem Gw{env:Env}{a:Act}(he:jb w m h env a):∀{os:List Operand} {xs:List aL},zD os xs=true->RL w (Live m h) m h (evs env xs) (os.map a.eval)
 |[],[],_=>by simp[evs,RL]
 |o::os,x::xs,hk=>by
  simp only[zD,bM]at hk;simp only[evs,List.map_cons,RL]
  exact⟨_,_,rfl,iQ he hk.1,Gw he hk.2⟩
 |[],_::_,hk=>by simp[zD]at hk
 |_::_,[],hk=>by simp[zD]at hk
theorem pF{k:IntKind}{n:Int}{u:Value}:R w X m h (.int k n) u↔u=.int k n:=by simp[R,RC]
theorem yB{b:Bool}{u:Value}:R w X m h (.bool b) u↔u=.bool b:=by simp[R,RC]
theorem uJ{l:List UInt8}{u:Value}:R w X m h (.str l) u↔u=.string ⟨l.toArray⟩:=by simp[R,RC]
def Reads(P:Program)(w:World)(m:Map)(h:Heap)(a:Act)(o:Oper)(v:AV):Prop :=
 ∃ u,(execOp a.eval o).run P w=.ok (.value u) w/\R w (Live m h) m h v u
theorem ae7(a b:List UInt8):(⟨a.toArray⟩:ByteArray)++⟨b.toArray⟩=⟨(a++b).toArray⟩:=by
 apply ByteArray.ext;simp
theorem ae8{op:BinOp}{x y v:AV}{p q:Value}(hx:R w X m h x p)(hy:R w X m h y q)(hv:jh op x y=some v)(t:TypeId)(ox oy:Operand) :
  ∃ u,(eqGuard op t ox oy p q).run P w=.ok () w/\(binOp op t p q).run P w=.ok u w/\R w X m h v u:=by
 unfold jh at hv;split at hv
 ·rename_i k a k' b;rw[pF]at hx hy;subst hx hy
  have hg:(eqGuard op t ox oy (.int k a) (.int k' b)).run P w=.ok () w:=by
   unfold eqGuard;split<;>simp
  cases op<;>simp only[]at hv
  case shl =>
   split at hv<;>simp at hv;subst hv;rename_i hb;refine⟨_,hg, ?_,pF.mpr rfl⟩;simp[binOp,Op.shift,Int.not_lt.mpr hb]
  case shr =>
   split at hv<;>simp at hv;subst hv;rename_i hb;refine⟨_,hg, ?_,pF.mpr rfl⟩;simp[binOp,Op.shift,Int.not_lt.mpr hb]
  all_goals
   split at hv
   ·rename_i hk;subst hk
    first
    |(simp at hv;done)
    |(simp only[aS]at hv;subst hv;refine⟨_,hg, ?_,by first|exact pF.mpr rfl|exact yB.mpr rfl⟩;simp[binOp,Op.intArith,Op.intBits,Op.intCmp];done)
    | (split at hv
       ·simp at hv
       ·rename_i hb;simp only[aS]at hv;subst hv;refine⟨_,hg, ?_,pF.mpr rfl⟩;simp[binOp,Op.intDiv,hb])
   ·simp at hv
 ·rename_i a b;rw[uJ]at hx hy;subst hx hy
  have hg:(eqGuard op t ox oy (.string ⟨a.toArray⟩) (.string ⟨b.toArray⟩)).run P w=.ok () w:=by
   unfold eqGuard;split<;>simp
  cases op<;>simp only[]at hv
  all_goals first
   |(simp at hv;done)
   |(simp only[aS]at hv;subst hv;refine⟨_,hg, ?_,yB.mpr rfl⟩;simp[binOp,Op.stringOp];done)
   | (split at hv
      ·rename_i hlen;simp only[aS]at hv;subst hv;refine⟨_,hg, ?_,uJ.mpr rfl⟩;simp[binOp,Op.stringOp,ByteArray.size,ae7,IntKind.max,IntKind.signed,IntKind.bits];omega
      ·simp at hv)
 ·cases hv
end
end Go.VI
