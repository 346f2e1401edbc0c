/- The abstract values, the abstract memory and the evaluator of the own interpreter VI: what a Go function computes, told without the machine. -/
import Derived.Test.YtfpoegnmeoghpaaGreatDoorVAL
import Derived.Calls
import Derived.Below
import Derived.Laws.AppendOwn
import Derived.Laws.MakeOwn
import Derived.KernelRfl
set_option linter.unusedVariables false
set_option linter.unusedSimpArgs false
namespace Go.VI
theorem mE{α:Type _}{β:Type _}{x:Option α}{f:α->β}{b:β}:x.map f=some b↔∃ a,x=some a/\f a=b:=Option.map_eq_some_iff
theorem bE{α:Type _}{β:Type _}{x:Option α}{f:α->Option β}{b:β}:x.bind f=some b↔∃ a,x=some a/\f a=some b:=Option.bind_eq_some_iff
inductive AV where
 |undef
 |bool (b:Bool)
 |int (k:IntKind) (n:Int)
 |str (l:List UInt8)
 |agg (cs:List AV)
 |tuple (cs:List AV)
 |fn (f:Nat) (cs:List AV)
 |jR
 |j6
 |iG (t:Nat) (v:AV)
 |aP
 |aW (z:Nat) (es:List AV)
 |bF (z:Nat) (es:List AV)
 |own (z:Nat) (es:List AV)
 |ref (id ai z off len fill:Nat)
 |nilPtr
 |bR (cs:List AV)
 |aF (id ai off:Nat)
 |gu (v:AV) (i off:Nat)
 |dY (id ai:Nat)
 deriving Inhabited
def AV.cells:AV->List AV
 |.agg cs=>cs
 |v=>[v]
abbrev Env:=List (Nat×AV)
inductive Ex where
 |norm
 |exit (id:Nat)
 |ret
 deriving DecidableEq
inductive SD where
 |map (k:IntKind) (vJ:List (Int×AV))
 |fM (me ai:Nat) (lk:Option (Nat×Nat))
 |buf (l:List UInt8)
inductive RS where
 |ready
 |busy
 |done (e:Ex)
 |fO (d:SD)
def RS.loop:RS->Bool
 |.fO _=>false
 |_=>true
structure dO where
 g:Nat
 lo:Nat
 base:Nat
 ns:Nat
 env:Env
def SD.env:SD->Env
 |.fM me ai none=>[(0,.dY me ai)]
 |.fM me ai (some (a,b))=>[(0,.dY me ai),(1,.dY a b)]
 |_=>[]
def dO.at(id:Nat)(sd:SD):dO:=⟨0,0,id,0,sd.env⟩
inductive au where
 |dead
 |box (cs:List AV)
 |arr (z:Nat) (es:List AV)
 |ax (d:dO) (st:RS)
 deriving Inhabited
abbrev Heap:=List (Nat×au)
def Env.get:Env->Nat->AV
 |[],_=>.undef
 |(s,v)::r,t=>if s=t then v else Env.get r t
def Env.set(e:Env)(t:Nat)(v:AV):Env:=(t,v)::e
def Env.keep(ps:List Nat)(e:Env):Env:=ps.map fun s=>(s,e.get s)
def Env.put(e:Env)(d:Option Nat)(v:AV):Env :=
 match d with
 |some t=>e.set t v
 |none=>e
def iV(h:Heap):AV->Option (List AV)
 |.aP=>some []
 |.aW _ es=>some es
 |.bF _ es=>some es
 |.ref id ai z off len fill =>
  match h[id]? with
  |some (v,.arr z' es)=>if v=ai/\z'=z/\es.length=fill/\off+len<=fill then some ((es.drop off).take len)else none
  |_=>none
 |_=>none
def jd(z:Nat):AV->Bool
 |.aP=>true
 |.aW z' es=>z==z'||es.isEmpty
 |.bF z' es=>z==z'||es.isEmpty
 |.ref _ _ z' _ _ _=>z==z'
 |_=>false
def oG(h:Heap)(z:Nat)(v:AV):Option (List AV):=if jd z v then iV h v else none
def lU:AV->Option Nat
 |.aP=>some 0
 |.aW _ es=>some es.length
 |.bF _ es=>some es.length
 |.ref _ _ _ _ len _=>some len
 |_=>none
def AV.val:AV->Bool
 |.undef|.tuple _|.own ..=>false
 |_=>true
inductive Sh where
 |one
 |agg (n:Nat)
def pM(p:AV)(k:Nat):Option AV :=
 match p with
 |.bR cs=>some (.bR (cs.drop k))
 |.aF id ai off=>some (.aF id ai (off+k))
 |.gu v i off=>some (.gu v i (off+k))
 |_=>none
def ig(h:Heap):AV->Option (List AV)
 |.bR cs=>some cs
 |.aF id ai off =>
  match h[id]? with
  |some (v,.box cs)=>if v=ai then some (cs.drop off)else none
  |_=>none
 |.gu v i off=>(iV h v).bind fun es=>(es[i]?).map fun e=>e.cells.drop off
 |_=>none
def shaped:Sh->List AV->Option AV
 |.one,c::_=>some c
 |.one,[]=>none
 |.agg n,cs=>if n<=cs.length then some (.agg (cs.take n))else none
def splice(cs:List AV)(off:Nat)(new:List AV):Option (List AV) :=
 if off+new.length<=cs.length then some (cs.take off++new++cs.drop (off+new.length))else none
mutual
def AV.closed:AV->Bool
 |.agg cs|.tuple cs|.fn _ cs=>AV.l5 cs
 |.iG _ v=>v.closed
 |.own ..|.ref ..|.aF ..|.gu ..|.dY ..=>false
 |_=>true
def AV.l5:List AV->Bool
 |[]=>true
 |c::cs=>c.closed&&AV.l5 cs
end
mutual
def AV.xZ(top:Nat):AV->Bool
 |.agg cs|.tuple cs|.fn _ cs=>AV.Ni top cs
 |.iG _ v=>v.xZ top
 |.ref id _ _ _ _ _=>decide (id<top)
 |.aF id _ _=>decide (id<top)
 |.dY id _=>decide (id<top)
 |.gu v _ _=>v.xZ top
 |_=>true
def AV.Ni(top:Nat):List AV->Bool
 |[]=>true
 |c::cs=>c.xZ top&&AV.Ni top cs
end
mutual
def bL(base:Nat)(keep:Bool):AV->Heap->Option (AV×Heap)
 |.agg cs,h=>(jT base keep cs h).map fun(cs,h)=>(.agg cs,h)
 |.tuple cs,h=>(jT base keep cs h).map fun(cs,h)=>(.tuple cs,h)
 |.fn f cs,h=>(jT base keep cs h).map fun(cs,h)=>(.fn f cs,h)
 |.iG t v,h=>(bL base keep v h).map fun(v,h)=>(.iG t v,h)
 |.aP,h=>some (.aW 0 [],h)
 |.ref id ai z off len fill,h =>
  if base<=id then(iV h (.ref id ai z off len fill)).map fun es=>(.aW z es,h.set id (ai,.dead))
  else if keep then some (.ref id ai z off len fill,h)else none
 |.own ..,_|.aF ..,_|.gu ..,_|.dY ..,_=>none
 |v,h=>some (v,h)
def jT(base:Nat)(keep:Bool):List AV->Heap->Option (List AV×Heap)
 |[],h=>some ([],h)
 |c::cs,h=>(bL base keep c h).bind fun(c,h)=>(jT base keep cs h).map fun(cs,h)=>(c::cs,h)
end
def rX(base:Nat):AV->Heap->Option (AV×Heap)
 |.aF id ai off,h =>
  match h[id]? with
  |some (_,.box cs)=>(jT base false cs h).bind fun q =>
   match q.2[id]? with
   |some (v1,.box _)=>if base<=id/\AV.l5 q.1=true/\q.1.length=cs.length then some (.aF id ai off,q.2.set id (v1,.box q.1))else none
   |_=>none
  |_=>none
 |v,h=>bL base false v h
def give(base:Nat)(v:AV)(h:Heap):Option (AV×Heap) :=
 match v with
 |.aP=>some (.own 0 [],h)
 |.ref id ai z off len fill =>
  if base<=id/\off=0/\len=fill then(iV h (.ref id ai z off len fill)).map fun es=>(.own z es,h.set id (ai,.dead))else bL base true (.ref id ai z off len fill) h
 |v=>bL base true v h
def rA(base:Nat):List AV->Heap->Option (List AV×Heap)
 |[],h=>some ([],h)
 |c::cs,h=>(give base c h).bind fun(c,h)=>(rA base cs h).map fun(cs,h)=>(c::cs,h)
def jf(base:Nat)(v:AV)(h:Heap):Option AV :=
 match v with
 |.tuple cs=>(rA base cs h).map fun(cs,_)=>.tuple cs
 |v=>(give base v h).map (·.1)
inductive aL where
 |t (i:Nat)
 |c (v:AV)
def aL.ev(env:Env):aL->AV
 |.t i=>env.get i
 |.c v=>v
inductive Kd where
 |b
 |i (k:IntKind)
 |s
 deriving DecidableEq
inductive XI where
 |bf (x:aL)
 |qQ (x:aL)
 |BO (neg:Bool) (x:aL)
 |pick (c a b:aL)
 |bin (o:BinOp) (x y:aL)
 |un (o:UnOp) (x:aL)
 |conv (k:IntKind) (x:aL)
 |eqv (neg:Bool) (ks:List Kd) (x y:aL)
 |len (s:Bool) (x:aL)
 |u6 (mx:Bool) (xs:List aL)
 |ext (x:aL) (i:Nat)
 |build (zero:List AV) (parts:List (Nat×Nat×aL))
 |gW (z:Nat) (zero:AV) (n:Nat) (parts:List (Nat×aL))
 |pM (x:aL) (k:Nat)
 |zi (n size:Nat) (x i:aL)
 |u7 (z:Nat) (x i:aL)
 |rY (x i:aL)
 |slice (z:Option Nat) (x:aL) (lo hi:Option aL)
 |load (sh:Sh) (x:aL)
 |store (sz:Nat) (x v:aL)
 |alloc (s:Nat) (zero:List AV)
 |box (s:Nat) (x:aL)
 |dV (x:aL)
 |mk (s z:Nat) (zero:AV) (lim:Nat) (n c:aL)
 |app (s z lim:Nat) (x y:aL)
 |qA (f:Nat) (caps:List aL)
 |copy (z:Nat) (x y:aL)
 |call (f:aL) (args:List aL) (own:List (Nat×Nat))
 |mH (ts:List Nat) (f:aL) (args:List aL)
 |zk (s:Nat)
 |yc (s f:Nat) (x y:aL)
 |yg (f:Nat) (x:aL)
 |yh (x:aL)
 |zl (t:Nat) (x:aL)
 |zw (x:aL)
inductive fQ where
 |elem (t:Nat)
 |box (t:Nat)
 |fn (t:Nat) (gs:List Nat)
 |closed (t:Nat)
 |dead (s:Nat)
 |wV (s:Nat)
 |ne (a b:Nat)
 |of (p t:Nat)
structure bT where
 dst:Option Nat
 guard:Option (Nat×Bool)
 nV:List fQ
 op:XI
inductive XC where
 |skip
 |reg (draw:Bool) (keep kill:List Nat) (ops:List bT)
 |seq (a b:XC)
 |cond (c:aL) (a b:XC)
 |blk (id:Nat) (c:XC)
 |loop (c:XC)
 |exit (id:Nat)
 |ret
 |mI (s:Nat) (f:aL) (g:Nat)
 |pre (keep:List Nat) (c:XC)
 |fz (t:Nat) (c:XC)
inductive qR where
 |tmp (t:Nat)
 |cell (t:Nat) (sh:Sh)
structure bJ where
 np:Nat
 isOpen:Bool
 ns:Nat
 res:List qR
 code:XC
structure l6 where
 ps:List Nat
 jE:XC
 body:XC
structure Cx where
 lo:Nat
 base:Nat
 ns:Nat
 kW:Option (Nat×Nat):=none
structure Callee where
 fn:Nat->List AV->Heap->Nat->Option (AV×Heap)
 rd:dO->Nat->Nat->List AV->Heap->Option (Ex×Heap)
def kg:AV->AV
 |.own z es=>.aW z es
 |v=>v
def weak:AV->AV
 |.tuple cs=>.tuple (cs.map kg)
 |v=>kg v
def Cx.fit(cx:Cx)(v:AV):Bool:=cx.kW.isNone||v.xZ (cx.base+cx.ns)
def au.fits(cx:Cx):au->Bool
 |.box cs=>cs.all cx.fit
 |.ax d _=>d.env.all fun p=>cx.fit p.2
 |_=>true
def fB(cx:Cx)(s:Nat)(b:au)(h:Heap):Option (Nat×Heap) :=
 if s<cx.ns/\b.fits cx=true then
  match h[cx.base+s]? with
  |some (v,_)=>some (v+1,h.set (cx.base+s) (v+1,b))
  |none=>none
 else none
def qB(cx:Cx):List (Nat×Nat)->List AV->Heap->Option (List AV×Heap)
 |[],cs,h=>some (cs,h)
 |(j,s)::r,cs,h =>
  match cs[j]? with
  |some (.own z es) =>
   if es=[]then qB cx r (if z=0 then cs.set j (.bF 0 [])else cs) h
   else(fB cx s (.arr z es) h).bind fun(v,h)=>qB cx r (cs.set j (.ref (cx.base+s) v z 0 es.length es.length)) h
  |_=>qB cx r cs h
def toBool:AV->Option Bool
 |.bool b=>some b
 |_=>none
def jh(o:BinOp):AV->AV->Option AV
 |.int k a,.int k' b =>
  match o with
  |.shl=>if 0<=b then some (.int k (k.wrap (a*2^(min b.toNat k.bits))))else none
  |.shr=>if 0<=b then some (.int k (a.fdiv (2^(min b.toNat k.bits))))else none
  |o =>
   if k=k' then
    match o with
    |.add=>some (.int k (k.wrap (a+b)))
    |.sub=>some (.int k (k.wrap (a-b)))
    |.mul=>some (.int k (k.wrap (a*b)))
    |.quo=>if b=0 then none else some (.int k (k.wrap (a.tdiv b)))
    |.rem=>if b=0 then none else some (.int k (a.tmod b))
    |.and=>some (.int k (k.wrap (BitVec.ofInt k.bits a &&& BitVec.ofInt k.bits b).toNat))
    |.or=>some (.int k (k.wrap (BitVec.ofInt k.bits a ||| BitVec.ofInt k.bits b).toNat))
    |.xor=>some (.int k (k.wrap (BitVec.ofInt k.bits a ^^^ BitVec.ofInt k.bits b).toNat))
    |.eql=>some (.bool (a==b))
    |.neq=>some (.bool (a != b))
    |.lss=>some (.bool (a<b))
    |.leq=>some (.bool (a<=b))
    |.gtr=>some (.bool (a>b))
    |.geq=>some (.bool (a>=b))
    |_=>none
   else none
 |.str a,.str b =>
  match o with
  |.add=>if a.length+b.length<=1000000000000 then some (.str (a++b))else none
  |.eql=>some (.bool (a==b))
  |.neq=>some (.bool (!(a==b)))
  |.lss=>some (.bool (Op.bytesLess a b))
  |.leq=>some (.bool (Op.bytesLess a b||a==b))
  |.gtr=>some (.bool (!(Op.bytesLess a b||a==b)))
  |.geq=>some (.bool (!(Op.bytesLess a b)))
  |_=>none
 |_,_=>none
def Ey(o:UnOp):AV->Option AV
 |.int k n=>match o with
  |.neg=>some (.int k (k.wrap (0-n)))
  |_=>none
 |.bool b=>match o with
  |.not=>some (.bool (!b))
  |_=>none
 |_=>none
def Ju(k:IntKind):AV->Option AV
 |.int _ n=>some (.int k (k.wrap n))
 |_=>none
def AV.kd:AV->Option Kd
 |.bool _=>some .b
 |.int k _=>some (.i k)
 |.str _=>some .s
 |_=>none
def kX:List Kd->List AV->Bool
 |[],[]=>true
 |k::ks,a::as=>a.kd==some k&&kX ks as
 |_,_=>false
def Gh:AV->AV->Bool
 |.bool a,.bool b=>a==b
 |.int _ a,.int _ b=>a==b
 |.str a,.str b=>a==b
 |_,_=>false
def mX:List AV->List AV->Bool
 |[],[]=>true
 |a::as,b::bs=>Gh a b&&mX as bs
 |_,_=>false
def Ap(neg:Bool)(ks:List Kd):AV->AV->Option AV
 |.bool a,.bool b=>if ks=[]then some (.bool (if neg then !(a==b)else a==b))else none
 |.agg as,.agg bs=>if ks≠[]/\(kX ks as&&kX ks bs)=true then some (.bool (if neg then !(mX as bs)else mX as bs))else none
 |_,_=>none
def oH(s:Bool)(v:AV):Option AV :=
 if s then(match v with|.str l=>some (.int .i64 l.length)|_=>none) else(lU v).map fun(n:Nat)=>AV.int .i64 (n:Int)
def jr(g:Nat):Nat:=if g<1000 then g else g-1000
def pO(g:Nat)(xs cs:List AV):List AV:=if g<1000 then xs++cs else cs++xs
def Gi(neg:Bool):AV->Option AV
 |.aP=>some (.bool (!neg))
 |.aW _ (_::_)=>some (.bool neg)
 |.bF _ (_::_)=>some (.bool neg)
 |.ref _ _ _ _ (_+1) _=>some (.bool neg)
 |_=>none
def wW:AV->Option AV
 |.bR cs=>some (.bR cs)
 |.aF id ai off=>some (.aF id ai off)
 |.gu v i off=>some (.gu v i off)
 |.fn f cs=>some (.fn f cs)
 |_=>none
def Gj(mx:Bool):AV->AV->Option AV
 |.int k x,.int _ y=>some (.int k (if mx then(if y>x then y else x) else(if y<x then y else x)))
 |_,_=>none
def C9(mx:Bool):List AV->Option AV
 |[]=>none
 |[x]=>some x
 |[x,y]=>Gj mx x y
 |[x,y,z]=>(Gj mx x y).bind fun r=>Gj mx r z
 |_=>none
def Jv(v:AV)(i:Nat):Option AV :=
 match v with
 |.tuple vs=>vs[i]?
 |_=>none
def lay(env:Env):List (Nat×Nat×aL)->List AV->Option (List AV)
 |[],cs=>some cs
 |(off,n,x)::r,cs =>
  let new:=(x.ev env).cells
  if new.length=n/\(x.ev env).val=true then(splice cs off new).bind (lay env r)else none
def mK(env:Env)(base z:Nat):List (Nat×aL)->List AV->Heap->Option (List AV×Heap)
 |[],es,h=>some (es,h)
 |(i,x)::r,es,h =>
  (bL base false (x.ev env) h).bind fun(v,h)=>if i<es.length/\v.cells.length=z/\v.val=true then mK env base z r (es.set i v) h else none
def idx(v:AV)(n:Nat):Option Nat :=
 match v with
 |.int _ i=>if 0<=i/\i<n then some i.toNat else none
 |_=>none
def bnd(o:Option AV)(n:Nat)(d:Nat):Option Nat :=
 match o with
 |some (.int _ i)=>if 0<=i/\i<=n then some i.toNat else none
 |some _=>none
 |none=>some d
def pQ(z:Option Nat)(x:AV)(lo hi:Option AV):Option AV :=
 match z with
 |none=>match x with
  |.str l=>(bnd hi l.length l.length).bind fun b=>(bnd lo b 0).map fun a=>.str ((l.take b).drop a)
  |_=>none
 |some z =>
  if jd z x then
   match x with
   |.aP=>(bnd hi 0 0).bind fun b=>(bnd lo b 0).map fun _=>.aP
   |.aW _ es=>(bnd hi es.length es.length).bind fun b=>(bnd lo b 0).map fun a=>.aW z ((es.take b).drop a)
   |.bF _ es=>(bnd hi es.length es.length).bind fun b=>(bnd lo b 0).map fun a=>.aW z ((es.take b).drop a)
   |.ref id ai _ off len fill=>(bnd hi len len).bind fun b=>(bnd lo b 0).map fun a=>.ref id ai z (off+a) (b-a) fill
   |_=>none
  else none
def iX(cx:Cx)(h:Heap)(sz:Nat)(p:AV)(v:AV):Option Heap :=
 if v.cells.length=sz/\v.val=true then
  match p with
  |.aF id ai off =>
   match h[id]? with
   |some (w,.box cs) =>
    if w=ai/\cx.lo<=id/\(cx.base<=id/\cx.fit v=true\/v.closed=true) then(splice cs off v.cells).map fun cs=>h.set id (ai,.box cs)else none
   |_=>none
  |.gu (.ref id ai z o len fill) i off =>
   (bL cx.base false v h).bind fun(v,h) =>
    match h[id]? with
    |some (w,.arr z' es) =>
     if w=ai/\z'=z/\es.length=fill/\o+len<=fill/\i<len/\cx.lo<=id then
      match es[o+i]? with
      |some (.agg cs)=>(splice cs off v.cells).map fun cs=>h.set id (ai,.arr z (es.set (o+i) (.agg cs)))
      |some e=>if off=0/\e.val=true then(match v with|.agg _=>none|v=>some (h.set id (ai,.arr z (es.set (o+i) v))))else none
      |none=>none
     else none
    |_=>none
  |_=>none
 else none
def sP(h:Heap)(z:Nat):AV->Option (List AV)
 |.str l=>if z=1 then some (l.map fun b=>.int .u8 b.toNat)else none
 |v=>oG h z v
def ji(cx:Cx)(s z lim:Nat)(x:AV)(xs:List AV)(h:Heap):Option (AV×Heap) :=
 match x with
 |.aP =>
  if xs=[]then some (.aP,h)
  else if xs.length<=lim then(fB cx s (.arr z xs) h).map fun(v,h)=>(.ref (cx.base+s) v z 0 xs.length xs.length,h)else none
 |.bF z' es =>
  if z==z'||es.isEmpty then
   if xs=[]then some (.bF z es,h)
   else if (es++xs).length<=lim then(fB cx s (.arr z (es++xs)) h).map fun(v,h)=>(.ref (cx.base+s) v z 0 (es++xs).length (es++xs).length,h)else none
  else none
 |.ref id ai z' off len fill =>
  match h[id]? with
  |some (w,.arr BP es) =>
   if w=ai/\z'=z/\BP=z/\es.length=fill/\len=fill/\cx.lo<=id/\(es++xs).length<=lim/\off=0 then
    some (.ref id ai z 0 (es++xs).length (es++xs).length,h.set id (ai,.arr z (es++xs)))
   else none
  |_=>none
 |_=>none
def Db(cx:Cx)(s z lim:Nat)(x:AV)(xs:List AV)(h:Heap):Option (AV×Heap) :=
 if s<1000 then ji cx s z lim x xs h else(ji cx (s-1000) z lim x xs h).bind fun r=>bL cx.base false r.1 r.2
def uy(cx:Cx)(z:Nat)(x:AV)(ys:List AV)(h:Heap):Option (AV×Heap) :=
 if jd z x then
  match lU x with
  |none=>none
  |some len =>
   if min ys.length len=0 then some (.int .i64 0,h)
   else match x with
    |.ref id ai _ off len fill =>
     match h[id]? with
     |some (w,.arr BP es) =>
      if w=ai/\BP=z/\es.length=fill/\off+len<=fill/\cx.lo<=id then
       some (.int .i64 (min ys.length len:Nat),h.set id (ai,.arr z (es.take off++ys.take (min ys.length len)++es.drop (off+min ys.length len))))
      else none
     |_=>none
    |_=>none
 else none
def arx(neg:Bool):AV->Option AV
 |.j6=>some (.bool (!neg))
 |.iG _ _=>some (.bool neg)
 |_=>none
def WJ(n:Int):List (Int×AV)->Option AV
 |[]=>none
 |(k,v)::r=>if k=n then some v else WJ n r
def oM(n:Int)(v:AV):List (Int×AV)->List (Int×AV)
 |[]=>[(n,v)]
 |(k,u)::r=>if k=n then(k,v)::r else(k,u)::oM n v r
def aeG(n:Int):List (Int×AV)->List (Int×AV)
 |[]=>[]
 |(k,u)::r=>if k=n then r else(k,u)::aeG n r
def arz(h:Heap)(zero:AV)(ok:Bool)(x y:AV):Option AV :=
 match x,y with
 |.dY id ai,.int k n =>
  match h[id]? with
  |some (v,.ax _ (.fO (.map k' vJ))) =>
   if v=ai/\k'=k then
    match WJ n vJ with
    |some u=>some (if ok then .tuple [u,.bool true]else u)
    |none=>some (if ok then .tuple [zero,.bool false]else zero)
   else none
  |_=>none
 |_,_=>none
def arA(cx:Cx)(h:Heap)(x y:AV)(f:Int->List (Int×AV)->List (Int×AV)):Option Heap :=
 match x,y with
 |.dY id ai,.int k n =>
  match h[id]? with
  |some (v,.ax d (.fO (.map k' vJ)))=>if v=ai/\k'=k/\cx.lo<=id/\vJ.length<=1000 then some (h.set id (ai,.ax d (.fO (.map k (f n vJ)))))else none
  |_=>none
 |_,_=>none
def zx:Nat:=140737488355328
def yj(cx:Cx)(s:Nat)(x y:AV)(h:Heap):Option (AV×Heap) :=
 match x,y with
 |.dY id ai,.str l =>
  match h[id]? with
  |some (v,.ax d (.fO (.fM me mv lk))) =>
   if v=ai/\me=id/\mv=ai/\cx.lo<=id then
    match lk with
    |none =>
     if l=[]then none
     else if l.length<=zx/\id≠cx.base+s/\cx.base<=id then
      (fB cx s (.ax (dO.at (cx.base+s) (.buf l)) (.fO (.buf l))) h).map fun(v2,h)=>(.tuple [.int .i64 l.length,.j6],h.set id (ai,.ax { d with env:=(SD.fM me mv (some (cx.base+s,v2))).env } (.fO (.fM me mv (some (cx.base+s,v2))))))
     else none
    |some (id2,mY) =>
     match h[id2]? with
     |some (v2,.ax d2 (.fO (.buf l0))) =>
      if v2=mY/\id2≠id/\cx.lo<=id2/\l0≠[]/\l0.length+l.length<=zx/\cx.base<=id/\id2<cx.base+cx.ns then
       some (.tuple [.int .i64 l.length,.j6],(h.set id2 (mY+1,.ax d2 (.fO (.buf (l0++l))))).set id (ai,.ax { d with env:=(SD.fM me mv (some (id2,mY+1))).env } (.fO (.fM me mv (some (id2,mY+1))))))
      else none
     |_=>none
   else none
  |_=>none
 |_,_=>none
def BQ(cx:Cx)(x:AV)(h:Heap):Option AV :=
 match x with
 |.dY id ai =>
  match h[id]? with
  |some (v,.ax _ (.fO (.fM me mv lk))) =>
   if v=ai/\me=id/\mv=ai/\cx.lo<=id then
    match lk with
    |none=>some (.str [])
    |some (id2,mY) =>
     match h[id2]? with
     |some (v2,.ax _ (.fO (.buf l)))=>if v2=mY/\id2≠id/\cx.lo<=id2/\l≠[]then some (.str l)else none
     |_=>none
   else none
  |_=>none
 |_=>none
def bytesOf:List AV->Option (List UInt8)
 |[]=>some []
 |.int .u8 n::r=>if 0<=n/\n<256 then(bytesOf r).map (n.toNat.toUInt8::·)else none
 |_=>none
def AV.byte(b:UInt8):AV:=.int .u8 (b.toNat:Int)
def evs(env:Env)(xs:List aL):List AV:=xs.map (·.ev env)
def iY(call:Callee)(cx:Cx)(id ai:Nat)(args:List AV)(h:Heap):Option (AV×Heap) :=
 match h[id]? with
 |some (v,.ax d .ready) =>
  if v=ai/\cx.lo<=d.lo/\d.lo<=id/\d.lo<=d.base/\AV.l5 args=true then(call.rd d id ai args h).map fun(e,h)=>(.bool (e==.norm),h)else none
 |_=>none
def BR(s:Nat):Nat:=if s<1000 then s else s-1000
mutual
def AV.same:AV->AV->Bool
 |.undef,.undef=>true
 |.bool a,.bool b=>a==b
 |.int k a,.int j b=>k==j&&a==b
 |.str a,.str b=>a==b
 |.agg a,.agg b=>AV.uz a b
 |.tuple a,.tuple b=>AV.uz a b
 |.j6,.j6=>true
 |.iG t a,.iG u b=>t==u&&AV.same a b
 |.own z a,.own y b=>z==y&&AV.uz a b
 |.gu a i o,.gu b j p=>AV.same a b&&i==j&&o==p
 |.dY a b,.dY c d=>a==c&&b==d
 |.fn f a,.fn g b=>f==g&&AV.uz a b
 |.jR,.jR=>true
 |.aP,.aP=>true
 |.nilPtr,.nilPtr=>true
 |.aW z a,.aW y b=>z==y&&AV.uz a b
 |.bF z a,.bF y b=>z==y&&AV.uz a b
 |.ref a b c d e f,.ref a' b' c' d' e' f'=>a==a'&&b==b'&&c==c'&&d==d'&&e==e'&&f==f'
 |.bR a,.bR b=>AV.uz a b
 |.aF a b c,.aF a' b' c'=>a==a'&&b==b'&&c==c'
 |_,_=>false
def AV.uz:List AV->List AV->Bool
 |[],[]=>true
 |a::as,b::bs=>AV.same a b&&AV.uz as bs
 |_,_=>false
end
def wX(h h':Heap)(i:Nat):Bool:=match h[i]?,h'[i]? with
 |some (v,.box cs),some (v',.box cs')=>v==v'&&AV.uz cs cs'
 |_,_=>false
def keeps(env:Env)(h h':Heap)(ts:List Nat):Bool:=ts.all fun t=>match env.get t with
 |.aF i _ _=>wX h h' i
 |.bR _=>true
 |_=>false
def xi(call:Callee)(cx:Cx)(env:Env)(h:Heap):XI->Option (AV×Heap)
 |.bf x=>some (x.ev env,h)
 |.pick c a b=>(toBool (c.ev env)).map fun r=>(if r then a.ev env else b.ev env,h)
 |.bin o x y=>(jh o (x.ev env) (y.ev env)).map fun v=>(v,h)
 |.un o x=>(Ey o (x.ev env)).map fun v=>(v,h)
 |.conv k x=>(Ju k (x.ev env)).map fun v=>(v,h)
 |.eqv neg ks x y=>(Ap neg ks (x.ev env) (y.ev env)).map fun v=>(v,h)
 |.qQ x=>(wW (x.ev env)).map fun v=>(v,h)
 |.BO neg x=>(Gi neg (x.ev env)).map fun v=>(v,h)
 |.len s x=>(oH s (x.ev env)).map fun v=>(v,h)
 |.u6 mx xs=>(C9 mx (evs env xs)).map fun v=>(v,h)
 |.ext x i=>(Jv (x.ev env) i).map fun v=>(v,h)
 |.build zero parts=>(lay env parts zero).map fun cs=>(.agg cs,h)
 |.gW z zero n parts=>(mK env cx.base z parts (List.replicate n zero) h).map fun(es,h)=>(.bF z es,h)
 |.pM x k=>(pM (x.ev env) k).map fun v=>(v,h)
 |.zi n size x i=>(idx (i.ev env) n).bind fun j=>(pM (x.ev env) (j*size)).map fun v=>(v,h)
 |.u7 z x i=>if jd z (x.ev env) then(lU (x.ev env)).bind fun n=>(idx (i.ev env) n).map fun j=>(.gu (x.ev env) j 0,h)else none
 |.rY x i=>match x.ev env with
  |.str l=>(idx (i.ev env) l.length).bind fun j=>(l[j]?).map fun b=>(.int .u8 b.toNat,h)
  |_=>none
 |.slice z x lo hi=>(pQ z (x.ev env) (lo.map (·.ev env)) (hi.map (·.ev env))).map fun v=>(v,h)
 |.load sh x=>(ig h (x.ev env)).bind fun cs=>(shaped sh cs).map fun v=>(v,h)
 |.store sz x v=>(iX cx h sz (x.ev env) (v.ev env)).map fun h=>(.undef,h)
 |.alloc s zero=>(fB cx s (.box zero) h).map fun(v,h)=>(.aF (cx.base+s) v 0,h)
 |.box s x=>if (x.ev env).val then(fB cx s (.box (x.ev env).cells) h).map fun(v,h)=>(.aF (cx.base+s) v 0,h)else none
 |.dV x=>if (x.ev env).val then(bL cx.base false (x.ev env) h).map fun(v,h)=>(.bR v.cells,h)else none
 |.mk s z zero lim n c =>
  match n.ev env,c.ev env with
  |.int _ a,.int _ b =>
   if 1000<=s/\a=0/\b=0 then some (.bF z [],h)
   else if 0<=a/\a<=b/\b<=lim then(fB cx (BR s) (.arr z (List.replicate a.toNat zero)) h).map fun(v,h)=>(.ref (cx.base+BR s) v z 0 a.toNat a.toNat,h)else none
  |_,_=>none
 |.app s z lim x y=>(sP h z (y.ev env)).bind fun xs=>Db cx s z lim (x.ev env) xs h
 |.qA f caps=>some (.fn f (evs env caps),h)
 |.copy z x y=>(oG h z (y.ev env)).bind fun ys=>uy cx z (x.ev env) ys h
 |.call f args own =>
  match f.ev env with
  |.fn g caps=>(call.fn (jr g) (pO g (evs env args) caps) h cx.lo).bind fun(r,h) =>
   match own with
   |[]=>some (weak r,h)
   |own =>
    match r with
    |.tuple cs=>(qB cx own cs h).map fun(cs,h)=>(weak (.tuple cs),h)
    |r=>(qB cx own [r] h).bind fun(cs,h)=>(cs[0]?).map fun v=>(weak v,h)
  |.dY id ai=>if own=[]then iY call cx id ai (evs env args) h else none
  |_=>none
 |.mH ts f args =>
  match f.ev env with
  |.fn g caps=>(call.fn (jr g) (pO g (evs env args) caps) h cx.lo).bind fun q=>if keeps env h q.2 ts=true then some (weak q.1,q.2)else none
  |_=>none
 |.zk s=>(fB cx s (.ax (dO.at (cx.base+s) (.fM (cx.base+s) 0 none)) (.fO (.fM (cx.base+s) 0 none))) h).map fun(v,h)=>(.dY (cx.base+s) v,h.set (cx.base+s) (v,.ax (dO.at (cx.base+s) (.fM (cx.base+s) v none)) (.fO (.fM (cx.base+s) v none))))
 |.yc s _ x y=>yj cx s (x.ev env) (y.ev env) h
 |.yg _ x=>(BQ cx (x.ev env) h).map fun v=>(v,h)
 |.yh x=>(oG h 1 (x.ev env)).bind fun es=>(bytesOf es).map fun l=>(.str l,h)
 |.zw _=>none
 |.zl t x=>if (x.ev env).closed=true/\(x.ev env).val=true then some (.iG t (x.ev env),h)else none
def fQ.ok(cx:Cx)(env:Env)(h:Heap):fQ->Bool
 |.elem t=>match env.get t with|.gu ..|.bR ..=>true|_=>false
 |.box t=>match env.get t with|.aF ..|.bR ..=>true|_=>false
 |.fn t gs=>match env.get t with|.fn g _=>gs.contains g|_=>false
 |.closed t=>(env.get t).closed
 |.of p t=>match env.get p,env.get t with|.aF i _ _,.aF j _ _=>decide (i=j)|.bR _,.bR _=>true|_,_=>false
 |.ne a b=>match env.get a,env.get b with|.aF i _ _,.aF j _ _=>!decide (i=j)|_,_=>false
 |.dead s=>match h[cx.base+s]? with|some (_,.dead)=>true|_=>false
 |.wV s=>match h[cx.base+s]? with|some (_,.dead)=>true|some (_,.arr ..)=>true|_=>false
def fI(call:Callee)(cx:Cx)(env:Env)(h:Heap)(o:bT):Option (AV×Heap) :=
 if o.nV.all (fQ.ok cx env h)then xi call cx env h o.op else none
def Gl(v:AV)(want:Bool):Option Bool :=
 match v with
 |.bool b=>some (b==want)
 |.tuple []=>some false
 |_=>none
def lG(call:Callee)(cx:Cx)(o:bT)(env:Env)(h:Heap):Option (Env×Heap) :=
 match o.guard with
 |none=>(fI call cx env h o).map fun(v,h)=>(env.put o.dst v,h)
 |some (g,want) =>
  (Gl (env.get g) want).bind fun b =>
   if b=true then(fI call cx env h o).map fun(v,h)=>(env.put o.dst v,h)
   else some (env.put o.dst (.tuple []),h)
def jN(call:Callee)(cx:Cx):List bT->Env->Heap->Option (Env×Heap)
 |[],env,h=>some (env,h)
 |o::os,env,h=>(lG call cx o env h).bind fun(env,h)=>jN call cx os env h
abbrev St:=Env×Heap
abbrev Out:=Option (Ex×St)
def Ex.nW(id:Nat)(r:Ex×St):Ex×St:=if r.1=.exit id then(.norm,r.2)else r
def iter(body:St->Out):Nat->St->Out
 |0,_=>none
 |n+1,st=>(body st).bind fun(e,st)=>if e=.norm then iter body n st else some (e,st)
def nD(cx:Cx):List Nat->Heap->Heap
 |[],h=>h
 |s::ss,h=>nD cx ss (match h[cx.base+s]? with|some (v,_)=>h.set (cx.base+s) (v,.dead)|none=>h)
def Ar(cx:Cx)(h:Heap):Bool :=
 match cx.kW with
 |none=>true
 |some (id,ai)=>match h[id]? with|some (v,.ax _ st)=>v==ai&&st.loop|_=>false
def exec(call:Callee)(cx:Cx)(n:Nat):XC->St->Out
 |.skip,st=>some (.norm,st)
 |.reg _ keep kill ops,(env,h)=>(jN call cx ops env (nD cx kill h)).map fun(env,h)=>(.norm,(env.keep keep,h))
 |.seq a b,st=>(exec call cx n a st).bind fun(e,st)=>if e=.norm then exec call cx n b st else some (e,st)
 |.cond c a b,st=>(toBool (c.ev st.1)).bind fun r=>if r then exec call cx n a st else exec call cx n b st
 |.blk id c,st=>(exec call cx n c st).map (Ex.nW id)
 |.loop c,st=>iter (exec call cx n c) n st
 |.exit id,st=>some (.exit id,st)
 |.ret,st=>some (.ret,st)
 |.mI s f g,(env,h) =>
  match f.ev env,Ar cx h with
  |.fn it caps,true =>
   (fB cx s (.ax ⟨g,cx.lo,cx.base,cx.ns,env⟩ .ready) h).bind fun(ai,h) =>
    (call.fn (jr it) (pO it [.dY (cx.base+s) ai] caps) h cx.lo).bind fun(_,h) =>
     match h[cx.base+s]? with
     |some (v,.ax _ .ready)=>if v=ai then some (.norm,(env,h.set (cx.base+s) (v,.dead)))else none
     |some (v,.ax _ (.done e))=>if v=ai then some (e,(env,h.set (cx.base+s) (v,.dead)))else none
     |_=>none
  |_,_=>none
 |.pre ps c,st=>exec call cx n c (st.1.keep ps,st.2)
 |.fz t c,st=>(rX cx.base (st.1.get t) st.2).bind fun r=>exec call cx n c (st.1.set t r.1,r.2)
def wY:Nat->List AV->Env
 |_,[]=>[]
 |i,v::vs=>(i,v)::wY (i+1) vs
def yt(env:Env)(h:Heap):qR->Option AV
 |.tmp t=>some (env.get t)
 |.cell t sh=>(ig h (env.get t)).bind fun cs=>shaped sh cs
def sQ(env:Env)(h:Heap):List qR->Option (List AV)
 |[]=>some []
 |r::rs=>(yt env h r).bind fun v=>(sQ env h rs).map fun vs=>v::vs
def uD(env:Env)(h:Heap)(rs:List qR):Option AV :=
 match rs with
 |[r]=>yt env h r
 |rs=>(sQ env h rs).map .tuple
def enter(f:bJ)(body:Cx->XC->St->Out)(args:List AV)(h:Heap)(lo:Nat):Option (AV×Heap) :=
 if args.length=f.np/\(f.isOpen=true->lo<=h.length) then
  let cx:Cx:={ lo:=if f.isOpen then lo else h.length,base:=h.length,ns:=f.ns }
  (body cx f.code (wY 0 args,h++List.replicate f.ns (0,.dead))).bind fun(e,(env,h')) =>
   match e with
   |.exit _=>none
   |_=>(uD env h' f.res).bind fun v=>(jf h.length v h').map fun r=>(r,if f.isOpen then h'.take h.length else h)
 else none
def round(x:l6)(body:Cx->XC->St->Out)(d:dO)(id ai:Nat)(args:List AV)(h:Heap):Option (Ex×Heap) :=
 if args.length=x.ps.length then
  let cx:Cx:={ lo:=d.lo,base:=d.base,ns:=d.ns,kW:=some (id,ai) }
  (body cx x.jE ((x.ps.zip args).foldl (fun e p=>e.set p.1 p.2) d.env,h)).bind fun(e,(env,h)) =>
   if e=.norm then
    match h[id]? with
    |some (v,.ax d1 .ready) =>
     if v=ai then
      (body cx x.body (env,h.set id (ai,.ax d1 .busy))).bind fun(e,(_,h)) =>
       match h[id]? with
       |some (v,.ax d2 .busy)=>if v=ai then some (e,h.set id (ai,.ax d2 (if e=.norm then .ready else .done e)))else none
       |_=>none
     else none
    |_=>none
   else none
 else none
structure Lib where
 mM:Nat->Option bJ
 iq:Nat->Option l6
 pq:Nat->List AV->Heap->Option AV
 Gm:Nat->Bool:=fun _=>false
mutual
def view(h:Heap):AV->Option AV
 |.agg cs=>(wZ h cs).map .agg
 |.fn f cs=>(wZ h cs).map (.fn f)
 |.ref id ai z off len fill=>(iV h (.ref id ai z off len fill)).map (.aW z)
 |.own ..|.tuple ..|.aF ..|.gu ..|.dY ..|.undef|.iG ..=>none
 |v=>some v
def wZ(h:Heap):List AV->Option (List AV)
 |[]=>some []
 |c::cs=>(view h c).bind fun c=>(wZ h cs).map fun cs=>c::cs
end
mutual
def AV.flat:AV->Bool
 |.int ..|.bool ..|.str ..|.aP|.nilPtr|.jR|.j6=>true
 |.agg cs=>AV.BS cs
 |_=>false
def AV.BS:List AV->Bool
 |[]=>true
 |c::cs=>c.flat&&AV.BS cs
end
def AV.Gn:AV->Bool
 |.own _ es=>AV.BS es
 |v=>v.flat
def AV.Nj:AV->Bool
 |.tuple cs=>cs.all AV.Gn
 |v=>v.Gn
def qV(x:bJ)(body:Cx->XC->St->Out)(b:Bool)(args:List AV)(h:Heap)(lo:Nat):Option (AV×Heap) :=
 if b then(wZ h args).bind fun as=>(enter x body as [] 0).bind fun r=>if r.1.Nj then some (r.1,h)else none
 else enter x body args h lo
def ex(L:Lib):Nat->Callee
 |0=>⟨fun _ _ _ _=>none,fun _ _ _ _ _=>none⟩
 | n+1=>{
   fn:=fun f args h lo =>
    match L.pq f args h with
    |some r=>some (r,h)
    |none=>(L.mM f).bind fun x=>qV x (fun cx=>exec (ex L n) cx n) (L.Gm f) args h lo
   rd:=fun d id ai args h=>(L.iq d.g).bind fun x=>round x (fun cx=>exec (ex L n) cx n) d id ai args h }
end Go.VI
