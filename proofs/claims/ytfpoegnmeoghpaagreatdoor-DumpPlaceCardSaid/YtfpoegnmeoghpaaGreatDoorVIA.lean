/- The abstract values, the abstract memory and the evaluator of the own interpreter VI: what a Go function computes, told without the machine. -/
import Derived.Test.YtfpoegnmeoghpaaGreatDoorVAL
import Derived.Calls
import Derived.Below
import Derived.Laws.AppendOwn
import Derived.Laws.MakeOwn
import Derived.KernelRfl
set_option linter.unusedVariables false
set_option linter.unusedSimpArgs false
namespace Go.VI
theorem mE{α:Type _}{β:Type _}{x:Option α}{f:α->β}{b:β}:x.map f=some b↔∃ a,x=some a/\f a=b:=Option.map_eq_some_iff
theorem bE{α:Type _}{β:Type _}{x:Option α}{f:α->Option β}{b:β}:x.bind f=some b↔∃ a,x=some a/\f a=some b:=Option.bind_eq_some_iff
inductive AV where
 |undef
 |bool (b:Bool)
 |int (k:IntKind) (n:Int)
 |str (l:List UInt8)
 |agg (cs:List AV)
 |tuple (cs:List AV)
 |fn (f:Nat) (cs:List AV)
 |yX
 |zB
 |rM (t:Nat) (v:AV)
 |bO
 |eY (z:Nat) (es:List AV)
 |fT (z:Nat) (es:List AV)
 |own (z:Nat) (es:List AV)
 |ref (id ak z off len fill:Nat)
 |nilPtr
 |iE (cs:List AV)
 |bq (id ak off:Nat)
 |nS (v:AV) (i off:Nat)
 |lF (id ak:Nat)
 deriving Inhabited
def AV.cells:AV->List AV
 |.agg cs=>cs
 |v=>[v]
abbrev Env:=List (Nat×AV)
inductive Ex where
 |norm
 |exit (id:Nat)
 |ret
 deriving DecidableEq
inductive SD where
 |map (k:IntKind) (SN:List (Int×AV))
 |nV (me ak:Nat) (lk:Option (Nat×Nat))
 |buf (l:List UInt8)
inductive RS where
 |ready
 |busy
 |done (e:Ex)
 |nX (d:SD)
def RS.loop:RS->Bool
 |.nX _=>false
 |_=>true
structure kP where
 g:Nat
 lo:Nat
 base:Nat
 ns:Nat
 env:Env
def SD.env:SD->Env
 |.nV me ak none=>[(0,.lF me ak)]
 |.nV me ak (some (a,b))=>[(0,.lF me ak),(1,.lF a b)]
 |_=>[]
def kP.at(id:Nat)(sd:SD):kP:=⟨0,0,id,0,sd.env⟩
inductive aU where
 |dead
 |box (cs:List AV)
 |arr (z:Nat) (es:List AV)
 |aV (d:kP) (st:RS)
 deriving Inhabited
abbrev Heap:=List (Nat×aU)
def Env.get:Env->Nat->AV
 |[],_=>.undef
 |(s,v)::r,t=>if s=t then v else Env.get r t
def Env.set(e:Env)(t:Nat)(v:AV):Env:=(t,v)::e
def Env.keep(ps:List Nat)(e:Env):Env:=ps.map fun s=>(s,e.get s)
def Env.put(e:Env)(d:Option Nat)(v:AV):Env :=
 match d with
 |some t=>e.set t v
 |none=>e
def wF(h:Heap):AV->Option (List AV)
 |.bO=>some []
 |.eY _ es=>some es
 |.fT _ es=>some es
 |.ref id ak z off len fill =>
  match h[id]? with
  |some (v,.arr z' es)=>if v=ak/\z'=z/\es.length=fill/\off+len<=fill then some ((es.drop off).take len)else none
  |_=>none
 |_=>none
def xB(z:Nat):AV->Bool
 |.bO=>true
 |.eY z' es=>z==z'||es.isEmpty
 |.fT z' es=>z==z'||es.isEmpty
 |.ref _ _ z' _ _ _=>z==z'
 |_=>false
def JH(h:Heap)(z:Nat)(v:AV):Option (List AV):=if xB z v then wF h v else none
def DY:AV->Option Nat
 |.bO=>some 0
 |.eY _ es=>some es.length
 |.fT _ es=>some es.length
 |.ref _ _ _ _ len _=>some len
 |_=>none
def AV.val:AV->Bool
 |.undef|.tuple _|.own ..=>false
 |_=>true
inductive Sh where
 |one
 |agg (n:Nat)
def JI(p:AV)(k:Nat):Option AV :=
 match p with
 |.iE cs=>some (.iE (cs.drop k))
 |.bq id ak off=>some (.bq id ak (off+k))
 |.nS v i off=>some (.nS v i (off+k))
 |_=>none
def qL(h:Heap):AV->Option (List AV)
 |.iE cs=>some cs
 |.bq id ak off =>
  match h[id]? with
  |some (v,.box cs)=>if v=ak then some (cs.drop off)else none
  |_=>none
 |.nS v i off=>(wF h v).bind fun es=>(es[i]?).map fun e=>e.cells.drop off
 |_=>none
def shaped:Sh->List AV->Option AV
 |.one,c::_=>some c
 |.one,[]=>none
 |.agg n,cs=>if n<=cs.length then some (.agg (cs.take n))else none
def splice(cs:List AV)(off:Nat)(new:List AV):Option (List AV) :=
 if off+new.length<=cs.length then some (cs.take off++new++cs.drop (off+new.length))else none
mutual
def AV.closed:AV->Bool
 |.agg cs|.tuple cs|.fn _ cs=>AV.EY cs
 |.rM _ v=>v.closed
 |.own ..|.ref ..|.bq ..|.nS ..|.lF ..=>false
 |_=>true
def AV.EY:List AV->Bool
 |[]=>true
 |c::cs=>c.closed&&AV.EY cs
end
mutual
def AV.SQ(top:Nat):AV->Bool
 |.agg cs|.tuple cs|.fn _ cs=>AV.anh top cs
 |.rM _ v=>v.SQ top
 |.ref id _ _ _ _ _=>decide (id<top)
 |.bq id _ _=>decide (id<top)
 |.lF id _=>decide (id<top)
 |.nS v _ _=>v.SQ top
 |_=>true
def AV.anh(top:Nat):List AV->Bool
 |[]=>true
 |c::cs=>c.SQ top&&AV.anh top cs
end
mutual
def gI(base:Nat)(keep:Bool):AV->Heap->Option (AV×Heap)
 |.agg cs,h=>(zx base keep cs h).map fun(cs,h)=>(.agg cs,h)
 |.tuple cs,h=>(zx base keep cs h).map fun(cs,h)=>(.tuple cs,h)
 |.fn f cs,h=>(zx base keep cs h).map fun(cs,h)=>(.fn f cs,h)
 |.rM t v,h=>(gI base keep v h).map fun(v,h)=>(.rM t v,h)
 |.bO,h=>some (.eY 0 [],h)
 |.ref id ak z off len fill,h =>
  if base<=id then(wF h (.ref id ak z off len fill)).map fun es=>(.eY z es,h.set id (ak,.dead))
  else if keep then some (.ref id ak z off len fill,h)else none
 |.own ..,_|.bq ..,_|.nS ..,_|.lF ..,_=>none
 |v,h=>some (v,h)
def zx(base:Nat)(keep:Bool):List AV->Heap->Option (List AV×Heap)
 |[],h=>some ([],h)
 |c::cs,h=>(gI base keep c h).bind fun(c,h)=>(zx base keep cs h).map fun(cs,h)=>(c::cs,h)
end
def fzv(base:Nat):AV->Heap->Option (AV×Heap)
 |.bq id ak off,h =>
  match h[id]? with
  |some (_,.box cs)=>(zx base false cs h).bind fun q =>
   match q.2[id]? with
   |some (v1,.box _)=>if base<=id/\AV.EY q.1=true/\q.1.length=cs.length then some (.bq id ak off,q.2.set id (v1,.box q.1))else none
   |_=>none
  |_=>none
 |v,h=>gI base false v h
def give(base:Nat)(v:AV)(h:Heap):Option (AV×Heap) :=
 match v with
 |.bO=>some (.own 0 [],h)
 |.ref id ak z off len fill =>
  if base<=id/\off=0/\len=fill then(wF h (.ref id ak z off len fill)).map fun es=>(.own z es,h.set id (ak,.dead))else gI base true (.ref id ak z off len fill) h
 |v=>gI base true v h
def NH(base:Nat):List AV->Heap->Option (List AV×Heap)
 |[],h=>some ([],h)
 |c::cs,h=>(give base c h).bind fun(c,h)=>(NH base cs h).map fun(cs,h)=>(c::cs,h)
def tJ(base:Nat)(v:AV)(h:Heap):Option AV :=
 match v with
 |.tuple cs=>(NH base cs h).map fun(cs,_)=>.tuple cs
 |v=>(give base v h).map (·.1)
inductive bD where
 |t (i:Nat)
 |c (v:AV)
def bD.ev(env:Env):bD->AV
 |.t i=>env.get i
 |.c v=>v
inductive Kd where
 |b
 |i (k:IntKind)
 |s
 deriving DecidableEq
inductive XI where
 |dx (x:bD)
 |JO (x:bD)
 |pick (c a b:bD)
 |bin (o:BinOp) (x y:bD)
 |un (o:UnOp) (x:bD)
 |conv (k:IntKind) (x:bD)
 |eqv (neg:Bool) (ks:List Kd) (x y:bD)
 |len (s:Bool) (x:bD)
 |NM (mx:Bool) (xs:List bD)
 |ext (x:bD) (i:Nat)
 |build (zero:List AV) (parts:List (Nat×Nat×bD))
 |pF (z:Nat) (zero:AV) (n:Nat) (parts:List (Nat×bD))
 |JI (x:bD) (k:Nat)
 |SS (n size:Nat) (x i:bD)
 |TT (z:Nat) (x i:bD)
 |Oa (x i:bD)
 |slice (z:Option Nat) (x:bD) (lo hi:Option bD)
 |load (sh:Sh) (x:bD)
 |store (sz:Nat) (x v:bD)
 |alloc (s:Nat) (zero:List AV)
 |box (s:Nat) (x:bD)
 |nK (x:bD)
 |mk (s z:Nat) (zero:AV) (lim:Nat) (n c:bD)
 |app (s z lim:Nat) (x y:bD)
 |LM (f:Nat) (caps:List bD)
 |copy (z:Nat) (x y:bD)
 |call (f:bD) (args:List bD) (own:List (Nat×Nat))
 |FH (ts:List Nat) (f:bD) (args:List bD)
 |Rb (t:Nat) (f:bD) (args:List bD)
 |Zo (s:Nat)
 |YV (s f:Nat) (x y:bD)
 |YW (f:Nat) (x:bD)
 |YX (x:bD)
 |Zp (t:Nat) (x:bD)
 |Zq (x:bD)
inductive ou where
 |elem (t:Nat)
 |box (t:Nat)
 |fn (t:Nat) (gs:List Nat)
 |closed (t:Nat)
 |dead (s:Nat)
 |SV (s:Nat)
 |ne (a b:Nat)
 |of (p t:Nat)
structure jc where
 dst:Option Nat
 guard:Option (Nat×Bool)
 GI:List ou
 op:XI
inductive XC where
 |skip
 |reg (draw:Bool) (keep kill:List Nat) (ops:List jc)
 |seq (a b:XC)
 |cond (c:bD) (a b:XC)
 |blk (id:Nat) (c:XC)
 |loop (c:XC)
 |exit (id:Nat)
 |ret
 |Gm (s:Nat) (f:bD) (g:Nat)
 |pre (keep:List Nat) (c:XC)
inductive LY where
 |tmp (t:Nat)
 |cell (t:Nat) (sh:Sh)
structure gH where
 np:Nat
 isOpen:Bool
 ns:Nat
 res:List LY
 code:XC
structure DU where
 ps:List Nat
 xQ:XC
 body:XC
structure Cx where
 lo:Nat
 base:Nat
 ns:Nat
 Df:Option (Nat×Nat):=none
structure Callee where
 fn:Nat->List AV->Heap->Nat->Option (AV×Heap)
 rd:kP->Nat->Nat->List AV->Heap->Option (Ex×Heap)
def yY:AV->AV
 |.own z es=>.eY z es
 |v=>v
def weak:AV->AV
 |.tuple cs=>.tuple (cs.map yY)
 |v=>yY v
def Cx.fit(cx:Cx)(v:AV):Bool:=cx.Df.isNone||v.SQ (cx.base+cx.ns)
def aU.fits(cx:Cx):aU->Bool
 |.box cs=>cs.all cx.fit
 |.aV d _=>d.env.all fun p=>cx.fit p.2
 |_=>true
def mK(cx:Cx)(s:Nat)(b:aU)(h:Heap):Option (Nat×Heap) :=
 if s<cx.ns/\b.fits cx=true then
  match h[cx.base+s]? with
  |some (v,_)=>some (v+1,h.set (cx.base+s) (v+1,b))
  |none=>none
 else none
def Dz(cx:Cx):List (Nat×Nat)->List AV->Heap->Option (List AV×Heap)
 |[],cs,h=>some (cs,h)
 |(j,s)::r,cs,h =>
  match cs[j]? with
  |some (.own z es) =>
   if es=[]then Dz cx r (if z=0 then cs.set j (.fT 0 [])else cs) h
   else(mK cx s (.arr z es) h).bind fun(v,h)=>Dz cx r (cs.set j (.ref (cx.base+s) v z 0 es.length es.length)) h
  |_=>Dz cx r cs h
def toBool:AV->Option Bool
 |.bool b=>some b
 |_=>none
def xS(o:BinOp):AV->AV->Option AV
 |.int k a,.int k' b =>
  match o with
  |.shl=>if 0<=b then some (.int k (k.wrap (a*2^(min b.toNat k.bits))))else none
  |.shr=>if 0<=b then some (.int k (a.fdiv (2^(min b.toNat k.bits))))else none
  |o =>
   if k=k' then
    match o with
    |.add=>some (.int k (k.wrap (a+b)))
    |.sub=>some (.int k (k.wrap (a-b)))
    |.mul=>some (.int k (k.wrap (a*b)))
    |.quo=>if b=0 then none else some (.int k (k.wrap (a.tdiv b)))
    |.rem=>if b=0 then none else some (.int k (a.tmod b))
    |.and=>some (.int k (k.wrap (BitVec.ofInt k.bits a &&& BitVec.ofInt k.bits b).toNat))
    |.or=>some (.int k (k.wrap (BitVec.ofInt k.bits a ||| BitVec.ofInt k.bits b).toNat))
    |.xor=>some (.int k (k.wrap (BitVec.ofInt k.bits a ^^^ BitVec.ofInt k.bits b).toNat))
    |.eql=>some (.bool (a==b))
    |.neq=>some (.bool (a != b))
    |.lss=>some (.bool (a<b))
    |.leq=>some (.bool (a<=b))
    |.gtr=>some (.bool (a>b))
    |.geq=>some (.bool (a>=b))
    |_=>none
   else none
 |.str a,.str b =>
  match o with
  |.add=>if a.length+b.length<=1000000000000 then some (.str (a++b))else none
  |.eql=>some (.bool (a==b))
  |.neq=>some (.bool (!(a==b)))
  |.lss=>some (.bool (Op.bytesLess a b))
  |.leq=>some (.bool (Op.bytesLess a b||a==b))
  |.gtr=>some (.bool (!(Op.bytesLess a b||a==b)))
  |.geq=>some (.bool (!(Op.bytesLess a b)))
  |_=>none
 |_,_=>none
def unv(o:UnOp):AV->Option AV
 |.int k n=>match o with
  |.neg=>some (.int k (k.wrap (0-n)))
  |_=>none
 |.bool b=>match o with
  |.not=>some (.bool (!b))
  |_=>none
 |_=>none
def ala(k:IntKind):AV->Option AV
 |.int _ n=>some (.int k (k.wrap n))
 |_=>none
def AV.kd:AV->Option Kd
 |.bool _=>some .b
 |.int k _=>some (.i k)
 |.str _=>some .s
 |_=>none
def CW:List Kd->List AV->Bool
 |[],[]=>true
 |k::ks,a::as=>a.kd==some k&&CW ks as
 |_,_=>false
def eq1:AV->AV->Bool
 |.bool a,.bool b=>a==b
 |.int _ a,.int _ b=>a==b
 |.str a,.str b=>a==b
 |_,_=>false
def Iq:List AV->List AV->Bool
 |[],[]=>true
 |a::as,b::bs=>eq1 a b&&Iq as bs
 |_,_=>false
def acJ(neg:Bool)(ks:List Kd):AV->AV->Option AV
 |.bool a,.bool b=>if ks=[]then some (.bool (if neg then !(a==b)else a==b))else none
 |.agg as,.agg bs=>if ks≠[]/\(CW ks as&&CW ks bs)=true then some (.bool (if neg then !(Iq as bs)else Iq as bs))else none
 |_,_=>none
def LZ(s:Bool)(v:AV):Option AV :=
 if s then(match v with|.str l=>some (.int .i64 l.length)|_=>none) else(DY v).map fun(n:Nat)=>AV.int .i64 (n:Int)
def u7(g:Nat):Nat:=if g<1000 then g else g-1000
def II(g:Nat)(xs cs:List AV):List AV:=if g<1000 then xs++cs else cs++xs
def aOj(neg:Bool):AV->Option AV
 |.bO=>some (.bool (!neg))
 |.eY _ (_::_)=>some (.bool neg)
 |.fT _ (_::_)=>some (.bool neg)
 |.ref _ _ _ _ (_+1) _=>some (.bool neg)
 |_=>none
def Sv:AV->Option AV
 |.iE cs=>some (.iE cs)
 |.bq id ak off=>some (.bq id ak off)
 |.nS v i off=>some (.nS v i off)
 |.fn f cs=>some (.fn f cs)
 |_=>none
def mm2(mx:Bool):AV->AV->Option AV
 |.int k x,.int _ y=>some (.int k (if mx then(if y>x then y else x) else(if y<x then y else x)))
 |_,_=>none
def mmv(mx:Bool):List AV->Option AV
 |[]=>none
 |[x]=>some x
 |[x,y]=>mm2 mx x y
 |[x,y,z]=>(mm2 mx x y).bind fun r=>mm2 mx r z
 |_=>none
def alb(v:AV)(i:Nat):Option AV :=
 match v with
 |.tuple vs=>vs[i]?
 |_=>none
def lay(env:Env):List (Nat×Nat×bD)->List AV->Option (List AV)
 |[],cs=>some cs
 |(off,n,x)::r,cs =>
  let new:=(x.ev env).cells
  if new.length=n/\(x.ev env).val=true then(splice cs off new).bind (lay env r)else none
def FI(env:Env)(base z:Nat):List (Nat×bD)->List AV->Heap->Option (List AV×Heap)
 |[],es,h=>some (es,h)
 |(i,x)::r,es,h =>
  (gI base false (x.ev env) h).bind fun(v,h)=>if i<es.length/\v.cells.length=z/\v.val=true then FI env base z r (es.set i v) h else none
def idx(v:AV)(n:Nat):Option Nat :=
 match v with
 |.int _ i=>if 0<=i/\i<n then some i.toNat else none
 |_=>none
def bnd(o:Option AV)(n:Nat)(d:Nat):Option Nat :=
 match o with
 |some (.int _ i)=>if 0<=i/\i<=n then some i.toNat else none
 |some _=>none
 |none=>some d
def Rc(z:Option Nat)(x:AV)(lo hi:Option AV):Option AV :=
 match z with
 |none=>match x with
  |.str l=>(bnd hi l.length l.length).bind fun b=>(bnd lo b 0).map fun a=>.str ((l.take b).drop a)
  |_=>none
 |some z =>
  if xB z x then
   match x with
   |.bO=>(bnd hi 0 0).bind fun b=>(bnd lo b 0).map fun _=>.bO
   |.eY _ es=>(bnd hi es.length es.length).bind fun b=>(bnd lo b 0).map fun a=>.eY z ((es.take b).drop a)
   |.fT _ es=>(bnd hi es.length es.length).bind fun b=>(bnd lo b 0).map fun a=>.eY z ((es.take b).drop a)
   |.ref id ak _ off len fill=>(bnd hi len len).bind fun b=>(bnd lo b 0).map fun a=>.ref id ak z (off+a) (b-a) fill
   |_=>none
  else none
def qE(cx:Cx)(h:Heap)(sz:Nat)(p:AV)(v:AV):Option Heap :=
 if v.cells.length=sz/\v.val=true then
  match p with
  |.bq id ak off =>
   match h[id]? with
   |some (w,.box cs) =>
    if w=ak/\cx.lo<=id/\(cx.base<=id/\cx.fit v=true\/v.closed=true\/v.SQ id=true) then(splice cs off v.cells).map fun cs=>h.set id (ak,.box cs)else none
   |_=>none
  |.nS (.ref id ak z o len fill) i off =>
   (gI cx.base false v h).bind fun(v,h) =>
    match h[id]? with
    |some (w,.arr z' es) =>
     if w=ak/\z'=z/\es.length=fill/\o+len<=fill/\i<len/\cx.lo<=id then
      match es[o+i]? with
      |some (.agg cs)=>(splice cs off v.cells).map fun cs=>h.set id (ak,.arr z (es.set (o+i) (.agg cs)))
      |some e=>if off=0/\e.val=true then(match v with|.agg _=>none|v=>some (h.set id (ak,.arr z (es.set (o+i) v))))else none
      |none=>none
     else none
    |_=>none
  |_=>none
 else none
def Rf(h:Heap)(z:Nat):AV->Option (List AV)
 |.str l=>if z=1 then some (l.map fun b=>.int .u8 b.toNat)else none
 |v=>JH h z v
def wG(cx:Cx)(s z lim:Nat)(x:AV)(xs:List AV)(h:Heap):Option (AV×Heap) :=
 match x with
 |.bO =>
  if xs=[]then some (.bO,h)
  else if xs.length<=lim then(mK cx s (.arr z xs) h).map fun(v,h)=>(.ref (cx.base+s) v z 0 xs.length xs.length,h)else none
 |.fT z' es =>
  if z==z'||es.isEmpty then
   if xs=[]then some (.fT z es,h)
   else if (es++xs).length<=lim then(mK cx s (.arr z (es++xs)) h).map fun(v,h)=>(.ref (cx.base+s) v z 0 (es++xs).length (es++xs).length,h)else none
  else none
 |.ref id ak z' off len fill =>
  match h[id]? with
  |some (w,.arr z'' es) =>
   if w=ak/\z'=z/\z''=z/\es.length=fill/\len=fill/\cx.lo<=id/\(es++xs).length<=lim/\off=0 then
    some (.ref id ak z 0 (es++xs).length (es++xs).length,h.set id (ak,.arr z (es++xs)))
   else none
  |_=>none
 |_=>none
def acK(cx:Cx)(s z lim:Nat)(x:AV)(xs:List AV)(h:Heap):Option (AV×Heap) :=
 if s<1000 then wG cx s z lim x xs h else(wG cx (s-1000) z lim x xs h).bind fun r=>gI cx.base false r.1 r.2
def Rx(cx:Cx)(z:Nat)(x:AV)(ys:List AV)(h:Heap):Option (AV×Heap) :=
 if xB z x then
  match DY x with
  |none=>none
  |some len =>
   if min ys.length len=0 then some (.int .i64 0,h)
   else match x with
    |.ref id ak _ off len fill =>
     match h[id]? with
     |some (w,.arr z'' es) =>
      if w=ak/\z''=z/\es.length=fill/\off+len<=fill/\cx.lo<=id then
       some (.int .i64 (min ys.length len:Nat),h.set id (ak,.arr z (es.take off++ys.take (min ys.length len)++es.drop (off+min ys.length len))))
      else none
     |_=>none
    |_=>none
 else none
def aOk(neg:Bool):AV->Option AV
 |.zB=>some (.bool (!neg))
 |.rM _ _=>some (.bool neg)
 |_=>none
def axr(n:Int):List (Int×AV)->Option AV
 |[]=>none
 |(k,v)::r=>if k=n then some v else axr n r
def IJ(n:Int)(v:AV):List (Int×AV)->List (Int×AV)
 |[]=>[(n,v)]
 |(k,u)::r=>if k=n then(k,v)::r else(k,u)::IJ n v r
def aDR(n:Int):List (Int×AV)->List (Int×AV)
 |[]=>[]
 |(k,u)::r=>if k=n then r else(k,u)::aDR n r
def aOl(h:Heap)(zero:AV)(ok:Bool)(x y:AV):Option AV :=
 match x,y with
 |.lF id ak,.int k n =>
  match h[id]? with
  |some (v,.aV _ (.nX (.map k' SN))) =>
   if v=ak/\k'=k then
    match axr n SN with
    |some u=>some (if ok then .tuple [u,.bool true]else u)
    |none=>some (if ok then .tuple [zero,.bool false]else zero)
   else none
  |_=>none
 |_,_=>none
def aOm(cx:Cx)(h:Heap)(x y:AV)(f:Int->List (Int×AV)->List (Int×AV)):Option Heap :=
 match x,y with
 |.lF id ak,.int k n =>
  match h[id]? with
  |some (v,.aV d (.nX (.map k' SN)))=>if v=ak/\k'=k/\cx.lo<=id/\SN.length<=1000 then some (h.set id (ak,.aV d (.nX (.map k (f n SN)))))else none
  |_=>none
 |_,_=>none
def Zr:Nat:=140737488355328
def YZ(cx:Cx)(s:Nat)(x y:AV)(h:Heap):Option (AV×Heap) :=
 match x,y with
 |.lF id ak,.str l =>
  match h[id]? with
  |some (v,.aV d (.nX (.nV me mv lk))) =>
   if v=ak/\me=id/\mv=ak/\cx.lo<=id then
    match lk with
    |none =>
     if l=[]then none
     else if l.length<=Zr/\id≠cx.base+s/\cx.base<=id then
      (mK cx s (.aV (kP.at (cx.base+s) (.buf l)) (.nX (.buf l))) h).map fun(v2,h)=>(.tuple [.int .i64 l.length,.zB],h.set id (ak,.aV { d with env:=(SD.nV me mv (some (cx.base+s,v2))).env } (.nX (.nV me mv (some (cx.base+s,v2))))))
     else none
    |some (id2,Gd) =>
     match h[id2]? with
     |some (v2,.aV d2 (.nX (.buf l0))) =>
      if v2=Gd/\id2≠id/\cx.lo<=id2/\l0≠[]/\l0.length+l.length<=Zr/\cx.base<=id/\id2<cx.base+cx.ns then
       some (.tuple [.int .i64 l.length,.zB],(h.set id2 (Gd+1,.aV d2 (.nX (.buf (l0++l))))).set id (ak,.aV { d with env:=(SD.nV me mv (some (id2,Gd+1))).env } (.nX (.nV me mv (some (id2,Gd+1))))))
      else none
     |_=>none
   else none
  |_=>none
 |_,_=>none
def abW(cx:Cx)(x:AV)(h:Heap):Option AV :=
 match x with
 |.lF id ak =>
  match h[id]? with
  |some (v,.aV _ (.nX (.nV me mv lk))) =>
   if v=ak/\me=id/\mv=ak/\cx.lo<=id then
    match lk with
    |none=>some (.str [])
    |some (id2,Gd) =>
     match h[id2]? with
     |some (v2,.aV _ (.nX (.buf l)))=>if v2=Gd/\id2≠id/\cx.lo<=id2/\l≠[]then some (.str l)else none
     |_=>none
   else none
  |_=>none
 |_=>none
def bytesOf:List AV->Option (List UInt8)
 |[]=>some []
 |.int .u8 n::r=>if 0<=n/\n<256 then(bytesOf r).map (n.toNat.toUInt8::·)else none
 |_=>none
def AV.byte(b:UInt8):AV:=.int .u8 (b.toNat:Int)
def evs(env:Env)(xs:List bD):List AV:=xs.map (·.ev env)
def tK(call:Callee)(cx:Cx)(id ak:Nat)(args:List AV)(h:Heap):Option (AV×Heap) :=
 match h[id]? with
 |some (v,.aV d .ready) =>
  if v=ak/\cx.lo<=d.lo/\d.lo<=id/\d.lo<=d.base/\AV.EY args=true then(call.rd d id ak args h).map fun(e,h)=>(.bool (e==.norm),h)else none
 |_=>none
def sOf(s:Nat):Nat:=if s<1000 then s else s-1000
mutual
def AV.same:AV->AV->Bool
 |.undef,.undef=>true
 |.bool a,.bool b=>a==b
 |.int k a,.int j b=>k==j&&a==b
 |.str a,.str b=>a==b
 |.agg a,.agg b=>AV.Sw a b
 |.tuple a,.tuple b=>AV.Sw a b
 |.zB,.zB=>true
 |.rM t a,.rM u b=>t==u&&AV.same a b
 |.own z a,.own y b=>z==y&&AV.Sw a b
 |.nS a i o,.nS b j p=>AV.same a b&&i==j&&o==p
 |.lF a b,.lF c d=>a==c&&b==d
 |.fn f a,.fn g b=>f==g&&AV.Sw a b
 |.yX,.yX=>true
 |.bO,.bO=>true
 |.nilPtr,.nilPtr=>true
 |.eY z a,.eY y b=>z==y&&AV.Sw a b
 |.fT z a,.fT y b=>z==y&&AV.Sw a b
 |.ref a b c d e f,.ref a' b' c' d' e' f'=>a==a'&&b==b'&&c==c'&&d==d'&&e==e'&&f==f'
 |.iE a,.iE b=>AV.Sw a b
 |.bq a b c,.bq a' b' c'=>a==a'&&b==b'&&c==c'
 |_,_=>false
def AV.Sw:List AV->List AV->Bool
 |[],[]=>true
 |a::as,b::bs=>AV.same a b&&AV.Sw as bs
 |_,_=>false
end
def Zt(h h':Heap)(i:Nat):Bool:=match h[i]?,h'[i]? with
 |some (v,.box cs),some (v',.box cs')=>v==v'&&AV.Sw cs cs'
 |_,_=>false
def keeps(env:Env)(h h':Heap)(ts:List Nat):Bool:=ts.all fun t=>match env.get t with
 |.bq i _ _=>Zt h h' i
 |.iE _=>true
 |_=>false
def xi(call:Callee)(cx:Cx)(env:Env)(h:Heap):XI->Option (AV×Heap)
 |.dx x=>some (x.ev env,h)
 |.pick c a b=>(toBool (c.ev env)).map fun r=>(if r then a.ev env else b.ev env,h)
 |.bin o x y=>(xS o (x.ev env) (y.ev env)).map fun v=>(v,h)
 |.un o x=>(unv o (x.ev env)).map fun v=>(v,h)
 |.conv k x=>(ala k (x.ev env)).map fun v=>(v,h)
 |.eqv neg ks x y=>(acJ neg ks (x.ev env) (y.ev env)).map fun v=>(v,h)
 |.JO x=>(Sv (x.ev env)).map fun v=>(v,h)
 |.len s x=>(LZ s (x.ev env)).map fun v=>(v,h)
 |.NM mx xs=>(mmv mx (evs env xs)).map fun v=>(v,h)
 |.ext x i=>(alb (x.ev env) i).map fun v=>(v,h)
 |.build zero parts=>(lay env parts zero).map fun cs=>(.agg cs,h)
 |.pF z zero n parts=>(FI env cx.base z parts (List.replicate n zero) h).map fun(es,h)=>(.fT z es,h)
 |.JI x k=>(JI (x.ev env) k).map fun v=>(v,h)
 |.SS n size x i=>(idx (i.ev env) n).bind fun j=>(JI (x.ev env) (j*size)).map fun v=>(v,h)
 |.TT z x i=>if xB z (x.ev env) then(DY (x.ev env)).bind fun n=>(idx (i.ev env) n).map fun j=>(.nS (x.ev env) j 0,h)else none
 |.Oa x i=>match x.ev env with
  |.str l=>(idx (i.ev env) l.length).bind fun j=>(l[j]?).map fun b=>(.int .u8 b.toNat,h)
  |_=>none
 |.slice z x lo hi=>(Rc z (x.ev env) (lo.map (·.ev env)) (hi.map (·.ev env))).map fun v=>(v,h)
 |.load sh x=>(qL h (x.ev env)).bind fun cs=>(shaped sh cs).map fun v=>(v,h)
 |.store sz x v=>(qE cx h sz (x.ev env) (v.ev env)).map fun h=>(.undef,h)
 |.alloc s zero=>(mK cx s (.box zero) h).map fun(v,h)=>(.bq (cx.base+s) v 0,h)
 |.box s x=>if (x.ev env).val then(mK cx s (.box (x.ev env).cells) h).map fun(v,h)=>(.bq (cx.base+s) v 0,h)else none
 |.nK x=>if (x.ev env).val then(gI cx.base false (x.ev env) h).map fun(v,h)=>(.iE v.cells,h)else none
 |.mk s z zero lim n c =>
  match n.ev env,c.ev env with
  |.int _ a,.int _ b =>
   if 1000<=s/\a=0/\b=0 then some (.fT z [],h)
   else if 0<=a/\a<=b/\b<=lim then(mK cx (sOf s) (.arr z (List.replicate a.toNat zero)) h).map fun(v,h)=>(.ref (cx.base+sOf s) v z 0 a.toNat a.toNat,h)else none
  |_,_=>none
 |.app s z lim x y=>(Rf h z (y.ev env)).bind fun xs=>acK cx s z lim (x.ev env) xs h
 |.LM f caps=>some (.fn f (evs env caps),h)
 |.copy z x y=>(JH h z (y.ev env)).bind fun ys=>Rx cx z (x.ev env) ys h
 |.call f args own =>
  match f.ev env with
  |.fn g caps=>(call.fn (u7 g) (II g (evs env args) caps) h cx.lo).bind fun(r,h) =>
   match own with
   |[]=>some (weak r,h)
   |own =>
    match r with
    |.tuple cs=>(Dz cx own cs h).map fun(cs,h)=>(weak (.tuple cs),h)
    |r=>(Dz cx own [r] h).bind fun(cs,h)=>(cs[0]?).map fun v=>(weak v,h)
  |.lF id ak=>if own=[]then tK call cx id ak (evs env args) h else none
  |_=>none
 |.FH ts f args =>
  match f.ev env with
  |.fn g caps=>(call.fn (u7 g) (II g (evs env args) caps) h cx.lo).bind fun q=>if keeps env h q.2 ts=true then some (weak q.1,q.2)else none
  |_=>none
 |.Rb t f args =>
  match env.get t,f.ev env with
  |.bq id _ _,.fn g caps=>if cx.lo<id/\id<cx.base then(call.fn (u7 g) (II g (evs env args) caps) h cx.lo).bind fun(r,h) =>
    match r with
    |.tuple cs=>(Dz ⟨cx.lo,id-1,1,none⟩ [(0,0)] cs h).map fun(cs,h)=>(weak (.tuple cs),h)
    |r=>(Dz ⟨cx.lo,id-1,1,none⟩ [(0,0)] [r] h).bind fun(cs,h)=>(cs[0]?).map fun v=>(weak v,h)
   else none
  |_,_=>none
 |.Zo s=>(mK cx s (.aV (kP.at (cx.base+s) (.nV (cx.base+s) 0 none)) (.nX (.nV (cx.base+s) 0 none))) h).map fun(v,h)=>(.lF (cx.base+s) v,h.set (cx.base+s) (v,.aV (kP.at (cx.base+s) (.nV (cx.base+s) v none)) (.nX (.nV (cx.base+s) v none))))
 |.YV s _ x y=>YZ cx s (x.ev env) (y.ev env) h
 |.YW _ x=>(abW cx (x.ev env) h).map fun v=>(v,h)
 |.YX x=>(JH h 1 (x.ev env)).bind fun es=>(bytesOf es).map fun l=>(.str l,h)
 |.Zq _=>none
 |.Zp t x=>if (x.ev env).closed=true/\(x.ev env).val=true then some (.rM t (x.ev env),h)else none
def ou.ok(cx:Cx)(env:Env)(h:Heap):ou->Bool
 |.elem t=>match env.get t with|.nS ..|.iE ..=>true|_=>false
 |.box t=>match env.get t with|.bq ..|.iE ..=>true|_=>false
 |.fn t gs=>match env.get t with|.fn g _=>gs.contains g|_=>false
 |.closed t=>(env.get t).closed
 |.of p t=>match env.get p,env.get t with|.bq i _ _,.bq j _ _=>decide (i=j)|.iE _,.iE _=>true|_,_=>false
 |.ne a b=>match env.get a,env.get b with|.bq i _ _,.bq j _ _=>!decide (i=j)|_,_=>false
 |.dead s=>match h[cx.base+s]? with|some (_,.dead)=>true|_=>false
 |.SV s=>match h[cx.base+s]? with|some (_,.dead)=>true|some (_,.arr ..)=>true|_=>false
def l6(call:Callee)(cx:Cx)(env:Env)(h:Heap)(o:jc):Option (AV×Heap) :=
 if o.GI.all (ou.ok cx env h)then xi call cx env h o.op else none
def ajK(v:AV)(want:Bool):Option Bool :=
 match v with
 |.bool b=>some (b==want)
 |.tuple []=>some false
 |_=>none
def Dh(call:Callee)(cx:Cx)(o:jc)(env:Env)(h:Heap):Option (Env×Heap) :=
 match o.guard with
 |none=>(l6 call cx env h o).map fun(v,h)=>(env.put o.dst v,h)
 |some (g,want) =>
  (ajK (env.get g) want).bind fun b =>
   if b=true then(l6 call cx env h o).map fun(v,h)=>(env.put o.dst v,h)
   else some (env.put o.dst (.tuple []),h)
def xZ(call:Callee)(cx:Cx):List jc->Env->Heap->Option (Env×Heap)
 |[],env,h=>some (env,h)
 |o::os,env,h=>(Dh call cx o env h).bind fun(env,h)=>xZ call cx os env h
abbrev St:=Env×Heap
abbrev Out:=Option (Ex×St)
def Ex.Ir(id:Nat)(r:Ex×St):Ex×St:=if r.1=.exit id then(.norm,r.2)else r
def iter(body:St->Out):Nat->St->Out
 |0,_=>none
 |n+1,st=>(body st).bind fun(e,st)=>if e=.norm then iter body n st else some (e,st)
def Gp(cx:Cx):List Nat->Heap->Heap
 |[],h=>h
 |s::ss,h=>Gp cx ss (match h[cx.base+s]? with|some (v,_)=>h.set (cx.base+s) (v,.dead)|none=>h)
def abY(cx:Cx)(h:Heap):Bool :=
 match cx.Df with
 |none=>true
 |some (id,ak)=>match h[id]? with|some (v,.aV _ st)=>v==ak&&st.loop|_=>false
def exec(call:Callee)(cx:Cx)(n:Nat):XC->St->Out
 |.skip,st=>some (.norm,st)
 |.reg _ keep kill ops,(env,h)=>(xZ call cx ops env (Gp cx kill h)).map fun(env,h)=>(.norm,(env.keep keep,h))
 |.seq a b,st=>(exec call cx n a st).bind fun(e,st)=>if e=.norm then exec call cx n b st else some (e,st)
 |.cond c a b,st=>(toBool (c.ev st.1)).bind fun r=>if r then exec call cx n a st else exec call cx n b st
 |.blk id c,st=>(exec call cx n c st).map (Ex.Ir id)
 |.loop c,st=>iter (exec call cx n c) n st
 |.exit id,st=>some (.exit id,st)
 |.ret,st=>some (.ret,st)
 |.Gm s f g,(env,h) =>
  match f.ev env,abY cx h with
  |.fn it caps,true =>
   (mK cx s (.aV ⟨g,cx.lo,cx.base,cx.ns,env⟩ .ready) h).bind fun(ak,h) =>
    (call.fn (u7 it) (II it [.lF (cx.base+s) ak] caps) h cx.lo).bind fun(_,h) =>
     match h[cx.base+s]? with
     |some (v,.aV _ .ready)=>if v=ak then some (.norm,(env,h.set (cx.base+s) (v,.dead)))else none
     |some (v,.aV _ (.done e))=>if v=ak then some (e,(env,h.set (cx.base+s) (v,.dead)))else none
     |_=>none
  |_,_=>none
 |.pre ps c,st=>exec call cx n c (st.1.keep ps,st.2)
def TU:Nat->List AV->Env
 |_,[]=>[]
 |i,v::vs=>(i,v)::TU (i+1) vs
def Y0(env:Env)(h:Heap):LY->Option AV
 |.tmp t=>some (env.get t)
 |.cell t sh=>(qL h (env.get t)).bind fun cs=>shaped sh cs
def Rh(env:Env)(h:Heap):List LY->Option (List AV)
 |[]=>some []
 |r::rs=>(Y0 env h r).bind fun v=>(Rh env h rs).map fun vs=>v::vs
def Ry(env:Env)(h:Heap)(rs:List LY):Option AV :=
 match rs with
 |[r]=>Y0 env h r
 |rs=>(Rh env h rs).map .tuple
def enter(f:gH)(body:Cx->XC->St->Out)(args:List AV)(h:Heap)(lo:Nat):Option (AV×Heap) :=
 if args.length=f.np/\(f.isOpen=true->lo<=h.length) then
  let cx:Cx:={ lo:=if f.isOpen then lo else h.length,base:=h.length,ns:=f.ns }
  (body cx f.code (TU 0 args,h++List.replicate f.ns (0,.dead))).bind fun(e,(env,h')) =>
   match e with
   |.exit _=>none
   |_=>(Ry env h' f.res).bind fun v=>(tJ h.length v h').map fun r=>(r,if f.isOpen then h'.take h.length else h)
 else none
def round(x:DU)(body:Cx->XC->St->Out)(d:kP)(id ak:Nat)(args:List AV)(h:Heap):Option (Ex×Heap) :=
 if args.length=x.ps.length then
  let cx:Cx:={ lo:=d.lo,base:=d.base,ns:=d.ns,Df:=some (id,ak) }
  (body cx x.xQ ((x.ps.zip args).foldl (fun e p=>e.set p.1 p.2) d.env,h)).bind fun(e,(env,h)) =>
   if e=.norm then
    match h[id]? with
    |some (v,.aV d1 .ready) =>
     if v=ak then
      (body cx x.body (env,h.set id (ak,.aV d1 .busy))).bind fun(e,(_,h)) =>
       match h[id]? with
       |some (v,.aV d2 .busy)=>if v=ak then some (e,h.set id (ak,.aV d2 (if e=.norm then .ready else .done e)))else none
       |_=>none
     else none
    |_=>none
   else none
 else none
structure Lib where
 FJ:Nat->Option gH
 qR:Nat->Option DU
 IW:Nat->List AV->Heap->Option AV
 brw:Nat->Bool:=fun _=>false
mutual
def view(h:Heap):AV->Option AV
 |.agg cs=>(TW h cs).map .agg
 |.fn f cs=>(TW h cs).map (.fn f)
 |.ref id ak z off len fill=>(wF h (.ref id ak z off len fill)).map (.eY z)
 |.own ..|.tuple ..|.bq ..|.nS ..|.lF ..|.undef|.rM ..=>none
 |v=>some v
def TW(h:Heap):List AV->Option (List AV)
 |[]=>some []
 |c::cs=>(view h c).bind fun c=>(TW h cs).map fun cs=>c::cs
end
mutual
def AV.flat:AV->Bool
 |.int ..|.bool ..|.str ..|.bO|.nilPtr|.yX|.zB=>true
 |.agg cs=>AV.abZ cs
 |_=>false
def AV.abZ:List AV->Bool
 |[]=>true
 |c::cs=>c.flat&&AV.abZ cs
end
def AV.ajM:AV->Bool
 |.own _ es=>AV.abZ es
 |v=>v.flat
def AV.anj:AV->Bool
 |.tuple cs=>cs.all AV.ajM
 |v=>v.ajM
def L6(x:gH)(body:Cx->XC->St->Out)(b:Bool)(args:List AV)(h:Heap)(lo:Nat):Option (AV×Heap) :=
 if b then(TW h args).bind fun as=>(enter x body as [] 0).bind fun r=>if r.1.anj then some (r.1,h)else none
 else enter x body args h lo
def ex(L:Lib):Nat->Callee
 |0=>⟨fun _ _ _ _=>none,fun _ _ _ _ _=>none⟩
 | n+1=>{
   fn:=fun f args h lo =>
    match L.IW f args h with
    |some r=>some (r,h)
    |none=>(L.FJ f).bind fun x=>L6 x (fun cx=>exec (ex L n) cx n) (L.brw f) args h lo
   rd:=fun d id ak args h=>(L.qR d.g).bind fun x=>round x (fun cx=>exec (ex L n) cx n) d id ak args h }
end Go.VI
