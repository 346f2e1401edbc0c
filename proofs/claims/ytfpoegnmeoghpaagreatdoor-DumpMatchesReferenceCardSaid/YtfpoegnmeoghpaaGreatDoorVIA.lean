/- The abstract values, the abstract memory and the evaluator of the own interpreter VI: what a Go function computes, told without the machine. -/
import Derived.Test.YtfpoegnmeoghpaaGreatDoorVAL
import Derived.Calls
import Derived.Below
import Derived.Laws.AppendOwn
import Derived.Laws.MakeOwn
import Derived.KernelRfl
set_option linter.unusedVariables false
set_option linter.unusedSimpArgs false
namespace Go.VI
theorem mE{α:Type _}{β:Type _}{x:Option α}{f:α->β}{b:β}:x.map f=some b↔∃ a,x=some a/\f a=b:=Option.map_eq_some_iff
theorem bE{α:Type _}{β:Type _}{x:Option α}{f:α->Option β}{b:β}:x.bind f=some b↔∃ a,x=some a/\f a=some b:=Option.bind_eq_some_iff
inductive AV where
 |undef
 |bool (b:Bool)
 |int (k:IntKind) (n:Int)
 |str (l:List UInt8)
 |agg (cs:List AV)
 |tuple (cs:List AV)
 |fn (f:Nat) (cs:List AV)
 |gZ
 |iG
 |eZ (t:Nat) (v:AV)
 |aD
 |aN (z:Nat) (es:List AV)
 |aM (z:Nat) (es:List AV)
 |own (z:Nat) (es:List AV)
 |ref (id aj z off len fill:Nat)
 |nilPtr
 |bD (cs:List AV)
 |aJ (id aj off:Nat)
 |di (v:AV) (i off:Nat)
 |cZ (id aj:Nat)
 deriving Inhabited
def AV.cells:AV->List AV
 |.agg cs=>cs
 |v=>[v]
abbrev Env:=List (Nat×AV)
inductive Ex where
 |norm
 |exit (id:Nat)
 |ret
 deriving DecidableEq
inductive SD where
 |map (k:IntKind) (pz:List (Int×AV))
 |cu (me aj:Nat) (lk:Option (Nat×Nat))
 |buf (l:List UInt8)
inductive RS where
 |ready
 |busy
 |done (e:Ex)
 |cK (d:SD)
def RS.loop:RS->Bool
 |.cK _=>false
 |_=>true
structure bQ where
 g:Nat
 lo:Nat
 base:Nat
 ns:Nat
 env:Env
def SD.env:SD->Env
 |.cu me aj none=>[(0,.cZ me aj)]
 |.cu me aj (some (a,b))=>[(0,.cZ me aj),(1,.cZ a b)]
 |_=>[]
def bQ.at(id:Nat)(sd:SD):bQ:=⟨0,0,id,0,sd.env⟩
inductive av where
 |dead
 |box (cs:List AV)
 |arr (z:Nat) (es:List AV)
 |ay (d:bQ) (st:RS)
 deriving Inhabited
abbrev Heap:=List (Nat×av)
def Env.get:Env->Nat->AV
 |[],_=>.undef
 |(s,v)::r,t=>if s=t then v else Env.get r t
def Env.set(e:Env)(t:Nat)(v:AV):Env:=(t,v)::e
def Env.keep(ps:List Nat)(e:Env):Env:=ps.map fun s=>(s,e.get s)
def Env.put(e:Env)(d:Option Nat)(v:AV):Env :=
 match d with
 |some t=>e.set t v
 |none=>e
def dW(h:Heap):AV->Option (List AV)
 |.aD=>some []
 |.aN _ es=>some es
 |.aM _ es=>some es
 |.ref id aj z off len fill =>
  match h[id]? with
  |some (v,.arr z' es)=>if v=aj/\z'=z/\es.length=fill/\off+len<=fill then some ((es.drop off).take len)else none
  |_=>none
 |_=>none
def fe(z:Nat):AV->Bool
 |.aD=>true
 |.aN z' es=>z==z'||es.isEmpty
 |.aM z' es=>z==z'||es.isEmpty
 |.ref _ _ z' _ _ _=>z==z'
 |_=>false
def jv(h:Heap)(z:Nat)(v:AV):Option (List AV):=if fe z v then dW h v else none
def iH:AV->Option Nat
 |.aD=>some 0
 |.aN _ es=>some es.length
 |.aM _ es=>some es.length
 |.ref _ _ _ _ len _=>some len
 |_=>none
def AV.val:AV->Bool
 |.undef|.tuple _|.own ..=>false
 |_=>true
inductive Sh where
 |one
 |agg (n:Nat)
def j6(p:AV)(k:Nat):Option AV :=
 match p with
 |.bD cs=>some (.bD (cs.drop k))
 |.aJ id aj off=>some (.aJ id aj (off+k))
 |.di v i off=>some (.di v i (off+k))
 |_=>none
def eD(h:Heap):AV->Option (List AV)
 |.bD cs=>some cs
 |.aJ id aj off =>
  match h[id]? with
  |some (v,.box cs)=>if v=aj then some (cs.drop off)else none
  |_=>none
 |.di v i off=>(dW h v).bind fun es=>(es[i]?).map fun e=>e.cells.drop off
 |_=>none
def shaped:Sh->List AV->Option AV
 |.one,c::_=>some c
 |.one,[]=>none
 |.agg n,cs=>if n<=cs.length then some (.agg (cs.take n))else none
def splice(cs:List AV)(off:Nat)(new:List AV):Option (List AV) :=
 if off+new.length<=cs.length then some (cs.take off++new++cs.drop (off+new.length))else none
mutual
def AV.closed:AV->Bool
 |.agg cs|.tuple cs|.fn _ cs=>AV.jw cs
 |.eZ _ v=>v.closed
 |.own ..|.ref ..|.aJ ..|.di ..|.cZ ..=>false
 |_=>true
def AV.jw:List AV->Bool
 |[]=>true
 |c::cs=>c.closed&&AV.jw cs
end
mutual
def AV.rJ(top:Nat):AV->Bool
 |.agg cs|.tuple cs|.fn _ cs=>AV.Gc top cs
 |.eZ _ v=>v.rJ top
 |.ref id _ _ _ _ _=>decide (id<top)
 |.aJ id _ _=>decide (id<top)
 |.cZ id _=>decide (id<top)
 |.di v _ _=>v.rJ top
 |_=>true
def AV.Gc(top:Nat):List AV->Bool
 |[]=>true
 |c::cs=>c.rJ top&&AV.Gc top cs
end
mutual
def aU(base:Nat)(keep:Bool):AV->Heap->Option (AV×Heap)
 |.agg cs,h=>(gU base keep cs h).map fun(cs,h)=>(.agg cs,h)
 |.tuple cs,h=>(gU base keep cs h).map fun(cs,h)=>(.tuple cs,h)
 |.fn f cs,h=>(gU base keep cs h).map fun(cs,h)=>(.fn f cs,h)
 |.eZ t v,h=>(aU base keep v h).map fun(v,h)=>(.eZ t v,h)
 |.aD,h=>some (.aN 0 [],h)
 |.ref id aj z off len fill,h =>
  if base<=id then(dW h (.ref id aj z off len fill)).map fun es=>(.aN z es,h.set id (aj,.dead))
  else if keep then some (.ref id aj z off len fill,h)else none
 |.own ..,_|.aJ ..,_|.di ..,_|.cZ ..,_=>none
 |v,h=>some (v,h)
def gU(base:Nat)(keep:Bool):List AV->Heap->Option (List AV×Heap)
 |[],h=>some ([],h)
 |c::cs,h=>(aU base keep c h).bind fun(c,h)=>(gU base keep cs h).map fun(cs,h)=>(c::cs,h)
end
def give(base:Nat)(v:AV)(h:Heap):Option (AV×Heap) :=
 match v with
 |.aD=>some (.own 0 [],h)
 |.ref id aj z off len fill =>
  if base<=id/\off=0/\len=fill then(dW h (.ref id aj z off len fill)).map fun es=>(.own z es,h.set id (aj,.dead))else aU base true (.ref id aj z off len fill) h
 |v=>aU base true v h
def l6(base:Nat):List AV->Heap->Option (List AV×Heap)
 |[],h=>some ([],h)
 |c::cs,h=>(give base c h).bind fun(c,h)=>(l6 base cs h).map fun(cs,h)=>(c::cs,h)
def eF(base:Nat)(v:AV)(h:Heap):Option AV :=
 match v with
 |.tuple cs=>(l6 base cs h).map fun(cs,_)=>.tuple cs
 |v=>(give base v h).map (·.1)
inductive aK where
 |t (i:Nat)
 |c (v:AV)
def aK.ev(env:Env):aK->AV
 |.t i=>env.get i
 |.c v=>v
inductive Kd where
 |b
 |i (k:IntKind)
 |s
 deriving DecidableEq
inductive XI where
 |aL (x:aK)
 |nV (x:aK)
 |pick (c a b:aK)
 |bin (o:BinOp) (x y:aK)
 |un (o:UnOp) (x:aK)
 |conv (k:IntKind) (x:aK)
 |eqv (neg:Bool) (ks:List Kd) (x y:aK)
 |len (s:Bool) (x:aK)
 |lJ (mx:Bool) (xs:List aK)
 |ext (x:aK) (i:Nat)
 |build (zero:List AV) (parts:List (Nat×Nat×aK))
 |bY (z:Nat) (zero:AV) (n:Nat) (parts:List (Nat×aK))
 |j6 (x:aK) (k:Nat)
 |ng (n size:Nat) (x i:aK)
 |qy (z:Nat) (x i:aK)
 |mK (x i:aK)
 |slice (z:Option Nat) (x:aK) (lo hi:Option aK)
 |load (sh:Sh) (x:aK)
 |store (sz:Nat) (x v:aK)
 |alloc (s:Nat) (zero:List AV)
 |box (s:Nat) (x:aK)
 |bS (x:aK)
 |mk (s z:Nat) (zero:AV) (lim:Nat) (n c:aK)
 |app (s z lim:Nat) (x y:aK)
 |l7 (f:Nat) (caps:List aK)
 |copy (z:Nat) (x y:aK)
 |call (f:aK) (args:List aK) (own:List (Nat×Nat))
 |tT (s:Nat)
 |rM (s f:Nat) (x y:aK)
 |rO (f:Nat) (x:aK)
 |rP (x:aK)
 |tV (t:Nat) (x:aK)
 |tX (x:aK)
inductive dn where
 |elem (t:Nat)
 |box (t:Nat)
 |fn (t:Nat) (gs:List Nat)
 |closed (t:Nat)
 |dead (s:Nat)
 |kX (s:Nat)
 |ne (a b:Nat)
structure bC where
 dst:Option Nat
 guard:Option (Nat×Bool)
 jR:List dn
 op:XI
inductive XC where
 |skip
 |reg (draw:Bool) (keep kill:List Nat) (ops:List bC)
 |seq (a b:XC)
 |cond (c:aK) (a b:XC)
 |blk (id:Nat) (c:XC)
 |loop (c:XC)
 |exit (id:Nat)
 |ret
 |jG (s:Nat) (f:aK) (g:Nat)
 |pre (keep:List Nat) (c:XC)
 |fz (t:Nat) (c:XC)
inductive lK where
 |tmp (t:Nat)
 |cell (t:Nat) (sh:Sh)
structure aW where
 np:Nat
 isOpen:Bool
 ns:Nat
 res:List lK
 code:XC
structure iR where
 ps:List Nat
 fZ:XC
 body:XC
structure Cx where
 lo:Nat
 base:Nat
 ns:Nat
 ic:Option (Nat×Nat):=none
structure Callee where
 fn:Nat->List AV->Heap->Nat->Option (AV×Heap)
 rd:bQ->Nat->Nat->List AV->Heap->Option (Ex×Heap)
def dw:AV->AV
 |.own z es=>.aN z es
 |v=>v
def weak:AV->AV
 |.tuple cs=>.tuple (cs.map dw)
 |v=>dw v
def Cx.fit(cx:Cx)(v:AV):Bool:=cx.ic.isNone||v.rJ (cx.base+cx.ns)
def av.fits(cx:Cx):av->Bool
 |.box cs=>cs.all cx.fit
 |.ay d _=>d.env.all fun p=>cx.fit p.2
 |_=>true
def bV(cx:Cx)(s:Nat)(b:av)(h:Heap):Option (Nat×Heap) :=
 if s<cx.ns/\b.fits cx=true then
  match h[cx.base+s]? with
  |some (v,_)=>some (v+1,h.set (cx.base+s) (v+1,b))
  |none=>none
 else none
def iN(cx:Cx):List (Nat×Nat)->List AV->Heap->Option (List AV×Heap)
 |[],cs,h=>some (cs,h)
 |(j,s)::r,cs,h =>
  match cs[j]? with
  |some (.own z es) =>
   if es=[]then iN cx r (if z=0 then cs.set j (.aM 0 [])else cs) h
   else(bV cx s (.arr z es) h).bind fun(v,h)=>iN cx r (cs.set j (.ref (cx.base+s) v z 0 es.length es.length)) h
  |_=>iN cx r cs h
def toBool:AV->Option Bool
 |.bool b=>some b
 |_=>none
def fI(o:BinOp):AV->AV->Option AV
 |.int k a,.int k' b =>
  match o with
  |.shl=>if 0<=b then some (.int k (k.wrap (a*2^(min b.toNat k.bits))))else none
  |.shr=>if 0<=b then some (.int k (a.fdiv (2^(min b.toNat k.bits))))else none
  |o =>
   if k=k' then
    match o with
    |.add=>some (.int k (k.wrap (a+b)))
    |.sub=>some (.int k (k.wrap (a-b)))
    |.mul=>some (.int k (k.wrap (a*b)))
    |.quo=>if b=0 then none else some (.int k (k.wrap (a.tdiv b)))
    |.rem=>if b=0 then none else some (.int k (a.tmod b))
    |.and=>some (.int k (k.wrap (BitVec.ofInt k.bits a &&& BitVec.ofInt k.bits b).toNat))
    |.or=>some (.int k (k.wrap (BitVec.ofInt k.bits a ||| BitVec.ofInt k.bits b).toNat))
    |.xor=>some (.int k (k.wrap (BitVec.ofInt k.bits a ^^^ BitVec.ofInt k.bits b).toNat))
    |.eql=>some (.bool (a==b))
    |.neq=>some (.bool (a != b))
    |.lss=>some (.bool (a<b))
    |.leq=>some (.bool (a<=b))
    |.gtr=>some (.bool (a>b))
    |.geq=>some (.bool (a>=b))
    |_=>none
   else none
 |.str a,.str b =>
  match o with
  |.add=>if a.length+b.length<=1000000000000 then some (.str (a++b))else none
  |.eql=>some (.bool (a==b))
  |.neq=>some (.bool (!(a==b)))
  |.lss=>some (.bool (Op.bytesLess a b))
  |.leq=>some (.bool (Op.bytesLess a b||a==b))
  |.gtr=>some (.bool (!(Op.bytesLess a b||a==b)))
  |.geq=>some (.bool (!(Op.bytesLess a b)))
  |_=>none
 |_,_=>none
def zx(o:UnOp):AV->Option AV
 |.int k n=>match o with
  |.neg=>some (.int k (k.wrap (0-n)))
  |_=>none
 |.bool b=>match o with
  |.not=>some (.bool (!b))
  |_=>none
 |_=>none
def Dn(k:IntKind):AV->Option AV
 |.int _ n=>some (.int k (k.wrap n))
 |_=>none
def AV.kd:AV->Option Kd
 |.bool _=>some .b
 |.int k _=>some (.i k)
 |.str _=>some .s
 |_=>none
def ig:List Kd->List AV->Bool
 |[],[]=>true
 |k::ks,a::as=>a.kd==some k&&ig ks as
 |_,_=>false
def zy:AV->AV->Bool
 |.bool a,.bool b=>a==b
 |.int _ a,.int _ b=>a==b
 |.str a,.str b=>a==b
 |_,_=>false
def iU:List AV->List AV->Bool
 |[],[]=>true
 |a::as,b::bs=>zy a b&&iU as bs
 |_,_=>false
def tY(neg:Bool)(ks:List Kd):AV->AV->Option AV
 |.bool a,.bool b=>if ks=[]then some (.bool (if neg then !(a==b)else a==b))else none
 |.agg as,.agg bs=>if ks≠[]/\(ig ks as&&ig ks bs)=true then some (.bool (if neg then !(iU as bs)else iU as bs))else none
 |_,_=>none
def jc(s:Bool)(v:AV):Option AV :=
 if s then(match v with|.str l=>some (.int .i64 l.length)|_=>none) else(iH v).map fun(n:Nat)=>AV.int .i64 (n:Int)
def iq(g:Nat):Nat:=if g<1000 then g else g-1000
def pE(g:Nat)(xs cs:List AV):List AV:=if g<1000 then xs++cs else cs++xs
def akv(neg:Bool):AV->Option AV
 |.aD=>some (.bool (!neg))
 |.aN _ (_::_)=>some (.bool neg)
 |.aM _ (_::_)=>some (.bool neg)
 |.ref _ _ _ _ (_+1) _=>some (.bool neg)
 |_=>none
def rQ:AV->Option AV
 |.bD cs=>some (.bD cs)
 |.aJ id aj off=>some (.aJ id aj off)
 |.di v i off=>some (.di v i off)
 |.fn f cs=>some (.fn f cs)
 |_=>none
def zA(mx:Bool):AV->AV->Option AV
 |.int k x,.int _ y=>some (.int k (if mx then(if y>x then y else x) else(if y<x then y else x)))
 |_,_=>none
def vk(mx:Bool):List AV->Option AV
 |[]=>none
 |[x]=>some x
 |[x,y]=>zA mx x y
 |[x,y,z]=>(zA mx x y).bind fun r=>zA mx r z
 |_=>none
def Dp(v:AV)(i:Nat):Option AV :=
 match v with
 |.tuple vs=>vs[i]?
 |_=>none
def lay(env:Env):List (Nat×Nat×aK)->List AV->Option (List AV)
 |[],cs=>some cs
 |(off,n,x)::r,cs =>
  let new:=(x.ev env).cells
  if new.length=n/\(x.ev env).val=true then(splice cs off new).bind (lay env r)else none
def iV(env:Env)(base z:Nat):List (Nat×aK)->List AV->Heap->Option (List AV×Heap)
 |[],es,h=>some (es,h)
 |(i,x)::r,es,h =>
  (aU base false (x.ev env) h).bind fun(v,h)=>if i<es.length/\v.cells.length=z/\v.val=true then iV env base z r (es.set i v) h else none
def idx(v:AV)(n:Nat):Option Nat :=
 match v with
 |.int _ i=>if 0<=i/\i<n then some i.toNat else none
 |_=>none
def bnd(o:Option AV)(n:Nat)(d:Nat):Option Nat :=
 match o with
 |some (.int _ i)=>if 0<=i/\i<=n then some i.toNat else none
 |some _=>none
 |none=>some d
def kg(z:Option Nat)(x:AV)(lo hi:Option AV):Option AV :=
 match z with
 |none=>match x with
  |.str l=>(bnd hi l.length l.length).bind fun b=>(bnd lo b 0).map fun a=>.str ((l.take b).drop a)
  |_=>none
 |some z =>
  if fe z x then
   match x with
   |.aD=>(bnd hi 0 0).bind fun b=>(bnd lo b 0).map fun _=>.aD
   |.aN _ es=>(bnd hi es.length es.length).bind fun b=>(bnd lo b 0).map fun a=>.aN z ((es.take b).drop a)
   |.aM _ es=>(bnd hi es.length es.length).bind fun b=>(bnd lo b 0).map fun a=>.aN z ((es.take b).drop a)
   |.ref id aj _ off len fill=>(bnd hi len len).bind fun b=>(bnd lo b 0).map fun a=>.ref id aj z (off+a) (b-a) fill
   |_=>none
  else none
def dK(cx:Cx)(h:Heap)(sz:Nat)(p:AV)(v:AV):Option Heap :=
 if v.cells.length=sz/\v.val=true then
  match p with
  |.aJ id aj off =>
   match h[id]? with
   |some (w,.box cs) =>
    if w=aj/\cx.lo<=id/\(cx.base<=id/\cx.fit v=true\/v.closed=true) then(splice cs off v.cells).map fun cs=>h.set id (aj,.box cs)else none
   |_=>none
  |.di (.ref id aj z o len fill) i off =>
   (aU cx.base false v h).bind fun(v,h) =>
    match h[id]? with
    |some (w,.arr z' es) =>
     if w=aj/\z'=z/\es.length=fill/\o+len<=fill/\i<len/\cx.lo<=id then
      match es[o+i]? with
      |some (.agg cs)=>(splice cs off v.cells).map fun cs=>h.set id (aj,.arr z (es.set (o+i) (.agg cs)))
      |some e=>if off=0/\e.val=true then(match v with|.agg _=>none|v=>some (h.set id (aj,.arr z (es.set (o+i) v))))else none
      |none=>none
     else none
    |_=>none
  |_=>none
 else none
def kL(h:Heap)(z:Nat):AV->Option (List AV)
 |.str l=>if z=1 then some (l.map fun b=>.int .u8 b.toNat)else none
 |v=>jv h z v
def dP(cx:Cx)(s z lim:Nat)(x:AV)(xs:List AV)(h:Heap):Option (AV×Heap) :=
 match x with
 |.aD =>
  if xs=[]then some (.aD,h)
  else if xs.length<=lim then(bV cx s (.arr z xs) h).map fun(v,h)=>(.ref (cx.base+s) v z 0 xs.length xs.length,h)else none
 |.aM z' es =>
  if z==z'||es.isEmpty then
   if xs=[]then some (.aM z es,h)
   else if (es++xs).length<=lim then(bV cx s (.arr z (es++xs)) h).map fun(v,h)=>(.ref (cx.base+s) v z 0 (es++xs).length (es++xs).length,h)else none
  else none
 |.ref id aj z' off len fill =>
  match h[id]? with
  |some (w,.arr wL es) =>
   if w=aj/\z'=z/\wL=z/\es.length=fill/\len=fill/\cx.lo<=id/\(es++xs).length<=lim/\off=0 then
    some (.ref id aj z 0 (es++xs).length (es++xs).length,h.set id (aj,.arr z (es++xs)))
   else none
  |_=>none
 |_=>none
def xY(cx:Cx)(s z lim:Nat)(x:AV)(xs:List AV)(h:Heap):Option (AV×Heap) :=
 if s<1000 then dP cx s z lim x xs h else(dP cx (s-1000) z lim x xs h).bind fun r=>aU cx.base false r.1 r.2
def nW(cx:Cx)(z:Nat)(x:AV)(ys:List AV)(h:Heap):Option (AV×Heap) :=
 if fe z x then
  match iH x with
  |none=>none
  |some len =>
   if min ys.length len=0 then some (.int .i64 0,h)
   else match x with
    |.ref id aj _ off len fill =>
     match h[id]? with
     |some (w,.arr wL es) =>
      if w=aj/\wL=z/\es.length=fill/\off+len<=fill/\cx.lo<=id then
       some (.int .i64 (min ys.length len:Nat),h.set id (aj,.arr z (es.take off++ys.take (min ys.length len)++es.drop (off+min ys.length len))))
      else none
     |_=>none
    |_=>none
 else none
def akw(neg:Bool):AV->Option AV
 |.iG=>some (.bool (!neg))
 |.eZ _ _=>some (.bool neg)
 |_=>none
def P5(n:Int):List (Int×AV)->Option AV
 |[]=>none
 |(k,v)::r=>if k=n then some v else P5 n r
def jH(n:Int)(v:AV):List (Int×AV)->List (Int×AV)
 |[]=>[(n,v)]
 |(k,u)::r=>if k=n then(k,v)::r else(k,u)::jH n v r
def Zk(n:Int):List (Int×AV)->List (Int×AV)
 |[]=>[]
 |(k,u)::r=>if k=n then r else(k,u)::Zk n r
def akx(h:Heap)(zero:AV)(ok:Bool)(x y:AV):Option AV :=
 match x,y with
 |.cZ id aj,.int k n =>
  match h[id]? with
  |some (v,.ay _ (.cK (.map k' pz))) =>
   if v=aj/\k'=k then
    match P5 n pz with
    |some u=>some (if ok then .tuple [u,.bool true]else u)
    |none=>some (if ok then .tuple [zero,.bool false]else zero)
   else none
  |_=>none
 |_,_=>none
def aky(cx:Cx)(h:Heap)(x y:AV)(f:Int->List (Int×AV)->List (Int×AV)):Option Heap :=
 match x,y with
 |.cZ id aj,.int k n =>
  match h[id]? with
  |some (v,.ay d (.cK (.map k' pz)))=>if v=aj/\k'=k/\cx.lo<=id/\pz.length<=1000 then some (h.set id (aj,.ay d (.cK (.map k (f n pz)))))else none
  |_=>none
 |_,_=>none
def tZ:Nat:=140737488355328
def rR(cx:Cx)(s:Nat)(x y:AV)(h:Heap):Option (AV×Heap) :=
 match x,y with
 |.cZ id aj,.str l =>
  match h[id]? with
  |some (v,.ay d (.cK (.cu me mv lk))) =>
   if v=aj/\me=id/\mv=aj/\cx.lo<=id then
    match lk with
    |none =>
     if l=[]then none
     else if l.length<=tZ/\id≠cx.base+s/\cx.base<=id then
      (bV cx s (.ay (bQ.at (cx.base+s) (.buf l)) (.cK (.buf l))) h).map fun(v2,h)=>(.tuple [.int .i64 l.length,.iG],h.set id (aj,.ay { d with env:=(SD.cu me mv (some (cx.base+s,v2))).env } (.cK (.cu me mv (some (cx.base+s,v2))))))
     else none
    |some (id2,jd) =>
     match h[id2]? with
     |some (v2,.ay d2 (.cK (.buf l0))) =>
      if v2=jd/\id2≠id/\cx.lo<=id2/\l0≠[]/\l0.length+l.length<=tZ/\cx.base<=id/\id2<cx.base+cx.ns then
       some (.tuple [.int .i64 l.length,.iG],(h.set id2 (jd+1,.ay d2 (.cK (.buf (l0++l))))).set id (aj,.ay { d with env:=(SD.cu me mv (some (id2,jd+1))).env } (.cK (.cu me mv (some (id2,jd+1))))))
      else none
     |_=>none
   else none
  |_=>none
 |_,_=>none
def wM(cx:Cx)(x:AV)(h:Heap):Option AV :=
 match x with
 |.cZ id aj =>
  match h[id]? with
  |some (v,.ay _ (.cK (.cu me mv lk))) =>
   if v=aj/\me=id/\mv=aj/\cx.lo<=id then
    match lk with
    |none=>some (.str [])
    |some (id2,jd) =>
     match h[id2]? with
     |some (v2,.ay _ (.cK (.buf l)))=>if v2=jd/\id2≠id/\cx.lo<=id2/\l≠[]then some (.str l)else none
     |_=>none
   else none
  |_=>none
 |_=>none
def bytesOf:List AV->Option (List UInt8)
 |[]=>some []
 |.int .u8 n::r=>if 0<=n/\n<256 then(bytesOf r).map (n.toNat.toUInt8::·)else none
 |_=>none
def AV.byte(b:UInt8):AV:=.int .u8 (b.toNat:Int)
def evs(env:Env)(xs:List aK):List AV:=xs.map (·.ev env)
def fF(call:Callee)(cx:Cx)(id aj:Nat)(args:List AV)(h:Heap):Option (AV×Heap) :=
 match h[id]? with
 |some (v,.ay d .ready) =>
  if v=aj/\cx.lo<=d.lo/\d.lo<=id/\d.lo<=d.base/\AV.jw args=true then(call.rd d id aj args h).map fun(e,h)=>(.bool (e==.norm),h)else none
 |_=>none
def wN(s:Nat):Nat:=if s<1000 then s else s-1000
def xi(call:Callee)(cx:Cx)(env:Env)(h:Heap):XI->Option (AV×Heap)
 |.aL x=>some (x.ev env,h)
 |.pick c a b=>(toBool (c.ev env)).map fun r=>(if r then a.ev env else b.ev env,h)
 |.bin o x y=>(fI o (x.ev env) (y.ev env)).map fun v=>(v,h)
 |.un o x=>(zx o (x.ev env)).map fun v=>(v,h)
 |.conv k x=>(Dn k (x.ev env)).map fun v=>(v,h)
 |.eqv neg ks x y=>(tY neg ks (x.ev env) (y.ev env)).map fun v=>(v,h)
 |.nV x=>(rQ (x.ev env)).map fun v=>(v,h)
 |.len s x=>(jc s (x.ev env)).map fun v=>(v,h)
 |.lJ mx xs=>(vk mx (evs env xs)).map fun v=>(v,h)
 |.ext x i=>(Dp (x.ev env) i).map fun v=>(v,h)
 |.build zero parts=>(lay env parts zero).map fun cs=>(.agg cs,h)
 |.bY z zero n parts=>(iV env cx.base z parts (List.replicate n zero) h).map fun(es,h)=>(.aM z es,h)
 |.j6 x k=>(j6 (x.ev env) k).map fun v=>(v,h)
 |.ng n size x i=>(idx (i.ev env) n).bind fun j=>(j6 (x.ev env) (j*size)).map fun v=>(v,h)
 |.qy z x i=>if fe z (x.ev env) then(iH (x.ev env)).bind fun n=>(idx (i.ev env) n).map fun j=>(.di (x.ev env) j 0,h)else none
 |.mK x i=>match x.ev env with
  |.str l=>(idx (i.ev env) l.length).bind fun j=>(l[j]?).map fun b=>(.int .u8 b.toNat,h)
  |_=>none
 |.slice z x lo hi=>(kg z (x.ev env) (lo.map (·.ev env)) (hi.map (·.ev env))).map fun v=>(v,h)
 |.load sh x=>(eD h (x.ev env)).bind fun cs=>(shaped sh cs).map fun v=>(v,h)
 |.store sz x v=>(dK cx h sz (x.ev env) (v.ev env)).map fun h=>(.undef,h)
 |.alloc s zero=>(bV cx s (.box zero) h).map fun(v,h)=>(.aJ (cx.base+s) v 0,h)
 |.box s x=>if (x.ev env).val then(bV cx s (.box (x.ev env).cells) h).map fun(v,h)=>(.aJ (cx.base+s) v 0,h)else none
 |.bS x=>if (x.ev env).val then(aU cx.base false (x.ev env) h).map fun(v,h)=>(.bD v.cells,h)else none
 |.mk s z zero lim n c =>
  match n.ev env,c.ev env with
  |.int _ a,.int _ b =>
   if 1000<=s/\a=0/\b=0 then some (.aM z [],h)
   else if 0<=a/\a<=b/\b<=lim then(bV cx (wN s) (.arr z (List.replicate a.toNat zero)) h).map fun(v,h)=>(.ref (cx.base+wN s) v z 0 a.toNat a.toNat,h)else none
  |_,_=>none
 |.app s z lim x y=>(kL h z (y.ev env)).bind fun xs=>xY cx s z lim (x.ev env) xs h
 |.l7 f caps=>some (.fn f (evs env caps),h)
 |.copy z x y=>(jv h z (y.ev env)).bind fun ys=>nW cx z (x.ev env) ys h
 |.call f args own =>
  match f.ev env with
  |.fn g caps=>(call.fn (iq g) (pE g (evs env args) caps) h cx.lo).bind fun(r,h) =>
   match own with
   |[]=>some (weak r,h)
   |own =>
    match r with
    |.tuple cs=>(iN cx own cs h).map fun(cs,h)=>(weak (.tuple cs),h)
    |r=>(iN cx own [r] h).bind fun(cs,h)=>(cs[0]?).map fun v=>(weak v,h)
  |.cZ id aj=>if own=[]then fF call cx id aj (evs env args) h else none
  |_=>none
 |.tT s=>(bV cx s (.ay (bQ.at (cx.base+s) (.cu (cx.base+s) 0 none)) (.cK (.cu (cx.base+s) 0 none))) h).map fun(v,h)=>(.cZ (cx.base+s) v,h.set (cx.base+s) (v,.ay (bQ.at (cx.base+s) (.cu (cx.base+s) v none)) (.cK (.cu (cx.base+s) v none))))
 |.rM s _ x y=>rR cx s (x.ev env) (y.ev env) h
 |.rO _ x=>(wM cx (x.ev env) h).map fun v=>(v,h)
 |.rP x=>(jv h 1 (x.ev env)).bind fun es=>(bytesOf es).map fun l=>(.str l,h)
 |.tX _=>none
 |.tV t x=>if (x.ev env).closed=true/\(x.ev env).val=true then some (.eZ t (x.ev env),h)else none
def dn.ok(cx:Cx)(env:Env)(h:Heap):dn->Bool
 |.elem t=>match env.get t with|.di ..|.bD ..=>true|_=>false
 |.box t=>match env.get t with|.aJ ..|.bD ..=>true|_=>false
 |.fn t gs=>match env.get t with|.fn g _=>gs.contains g|_=>false
 |.closed t=>(env.get t).closed
 |.ne a b=>match env.get a,env.get b with|.aJ i _ _,.aJ j _ _=>!decide (i=j)|_,_=>false
 |.dead s=>match h[cx.base+s]? with|some (_,.dead)=>true|_=>false
 |.kX s=>match h[cx.base+s]? with|some (_,.dead)=>true|some (_,.arr ..)=>true|_=>false
def cO(call:Callee)(cx:Cx)(env:Env)(h:Heap)(o:bC):Option (AV×Heap) :=
 if o.jR.all (dn.ok cx env h)then xi call cx env h o.op else none
def Ba(v:AV)(want:Bool):Option Bool :=
 match v with
 |.bool b=>some (b==want)
 |.tuple []=>some false
 |_=>none
def iA(call:Callee)(cx:Cx)(o:bC)(env:Env)(h:Heap):Option (Env×Heap) :=
 match o.guard with
 |none=>(cO call cx env h o).map fun(v,h)=>(env.put o.dst v,h)
 |some (g,want) =>
  (Ba (env.get g) want).bind fun b =>
   if b=true then(cO call cx env h o).map fun(v,h)=>(env.put o.dst v,h)
   else some (env.put o.dst (.tuple []),h)
def fQ(call:Callee)(cx:Cx):List bC->Env->Heap->Option (Env×Heap)
 |[],env,h=>some (env,h)
 |o::os,env,h=>(iA call cx o env h).bind fun(env,h)=>fQ call cx os env h
abbrev St:=Env×Heap
abbrev Out:=Option (Ex×St)
def Ex.jy(id:Nat)(r:Ex×St):Ex×St:=if r.1=.exit id then(.norm,r.2)else r
def iter(body:St->Out):Nat->St->Out
 |0,_=>none
 |n+1,st=>(body st).bind fun(e,st)=>if e=.norm then iter body n st else some (e,st)
def jh(cx:Cx):List Nat->Heap->Heap
 |[],h=>h
 |s::ss,h=>jh cx ss (match h[cx.base+s]? with|some (v,_)=>h.set (cx.base+s) (v,.dead)|none=>h)
def xZ(cx:Cx)(h:Heap):Bool :=
 match cx.ic with
 |none=>true
 |some (id,aj)=>match h[id]? with|some (v,.ay _ st)=>v==aj&&st.loop|_=>false
def exec(call:Callee)(cx:Cx)(n:Nat):XC->St->Out
 |.skip,st=>some (.norm,st)
 |.reg _ keep kill ops,(env,h)=>(fQ call cx ops env (jh cx kill h)).map fun(env,h)=>(.norm,(env.keep keep,h))
 |.seq a b,st=>(exec call cx n a st).bind fun(e,st)=>if e=.norm then exec call cx n b st else some (e,st)
 |.cond c a b,st=>(toBool (c.ev st.1)).bind fun r=>if r then exec call cx n a st else exec call cx n b st
 |.blk id c,st=>(exec call cx n c st).map (Ex.jy id)
 |.loop c,st=>iter (exec call cx n c) n st
 |.exit id,st=>some (.exit id,st)
 |.ret,st=>some (.ret,st)
 |.jG s f g,(env,h) =>
  match f.ev env,xZ cx h with
  |.fn it caps,true =>
   (bV cx s (.ay ⟨g,cx.lo,cx.base,cx.ns,env⟩ .ready) h).bind fun(aj,h) =>
    (call.fn (iq it) (pE it [.cZ (cx.base+s) aj] caps) h cx.lo).bind fun(_,h) =>
     match h[cx.base+s]? with
     |some (v,.ay _ .ready)=>if v=aj then some (.norm,(env,h.set (cx.base+s) (v,.dead)))else none
     |some (v,.ay _ (.done e))=>if v=aj then some (e,(env,h.set (cx.base+s) (v,.dead)))else none
     |_=>none
  |_,_=>none
 |.pre ps c,st=>exec call cx n c (st.1.keep ps,st.2)
 |.fz t c,st=>(aU cx.base false (st.1.get t) st.2).bind fun r=>exec call cx n c (st.1.set t r.1,r.2)
def qA:Nat->List AV->Env
 |_,[]=>[]
 |i,v::vs=>(i,v)::qA (i+1) vs
def rT(env:Env)(h:Heap):lK->Option AV
 |.tmp t=>some (env.get t)
 |.cell t sh=>(eD h (env.get t)).bind fun cs=>shaped sh cs
def ni(env:Env)(h:Heap):List lK->Option (List AV)
 |[]=>some []
 |r::rs=>(rT env h r).bind fun v=>(ni env h rs).map fun vs=>v::vs
def nX(env:Env)(h:Heap)(rs:List lK):Option AV :=
 match rs with
 |[r]=>rT env h r
 |rs=>(ni env h rs).map .tuple
def enter(f:aW)(body:Cx->XC->St->Out)(args:List AV)(h:Heap)(lo:Nat):Option (AV×Heap) :=
 if args.length=f.np/\(f.isOpen=true->lo<=h.length) then
  let cx:Cx:={ lo:=if f.isOpen then lo else h.length,base:=h.length,ns:=f.ns }
  (body cx f.code (qA 0 args,h++List.replicate f.ns (0,.dead))).bind fun(e,(env,h')) =>
   match e with
   |.exit _=>none
   |_=>(nX env h' f.res).bind fun v=>(eF h.length v h').map fun r=>(r,if f.isOpen then h'.take h.length else h)
 else none
def round(x:iR)(body:Cx->XC->St->Out)(d:bQ)(id aj:Nat)(args:List AV)(h:Heap):Option (Ex×Heap) :=
 if args.length=x.ps.length then
  let cx:Cx:={ lo:=d.lo,base:=d.base,ns:=d.ns,ic:=some (id,aj) }
  (body cx x.fZ ((x.ps.zip args).foldl (fun e p=>e.set p.1 p.2) d.env,h)).bind fun(e,(env,h)) =>
   if e=.norm then
    match h[id]? with
    |some (v,.ay d1 .ready) =>
     if v=aj then
      (body cx x.body (env,h.set id (aj,.ay d1 .busy))).bind fun(e,(_,h)) =>
       match h[id]? with
       |some (v,.ay d2 .busy)=>if v=aj then some (e,h.set id (aj,.ay d2 (if e=.norm then .ready else .done e)))else none
       |_=>none
     else none
    |_=>none
   else none
 else none
structure Lib where
 iW:Nat->Option aW
 dN:Nat->Option iR
 jS:Nat->List AV->Heap->Option AV
 Bb:Nat->Bool:=fun _=>false
mutual
def view(h:Heap):AV->Option AV
 |.agg cs=>(qB h cs).map .agg
 |.fn f cs=>(qB h cs).map (.fn f)
 |.ref id aj z off len fill=>(dW h (.ref id aj z off len fill)).map (.aN z)
 |.own ..|.tuple ..|.aJ ..|.di ..|.cZ ..|.undef|.eZ ..=>none
 |v=>some v
def qB(h:Heap):List AV->Option (List AV)
 |[]=>some []
 |c::cs=>(view h c).bind fun c=>(qB h cs).map fun cs=>c::cs
end
mutual
def AV.flat:AV->Bool
 |.int ..|.bool ..|.str ..|.aD|.nilPtr|.gZ|.iG=>true
 |.agg cs=>AV.wO cs
 |_=>false
def AV.wO:List AV->Bool
 |[]=>true
 |c::cs=>c.flat&&AV.wO cs
end
def AV.Bc:AV->Bool
 |.own _ es=>AV.wO es
 |v=>v.flat
def AV.Gd:AV->Bool
 |.tuple cs=>cs.all AV.Bc
 |v=>v.Bc
def lM(x:aW)(body:Cx->XC->St->Out)(b:Bool)(args:List AV)(h:Heap)(lo:Nat):Option (AV×Heap) :=
 if b then(qB h args).bind fun as=>(enter x body as [] 0).bind fun r=>if r.1.Gd then some (r.1,h)else none
 else enter x body args h lo
def ex(L:Lib):Nat->Callee
 |0=>⟨fun _ _ _ _=>none,fun _ _ _ _ _=>none⟩
 | n+1=>{
   fn:=fun f args h lo =>
    match L.jS f args h with
    |some r=>some (r,h)
    |none=>(L.iW f).bind fun x=>lM x (fun cx=>exec (ex L n) cx n) (L.Bb f) args h lo
   rd:=fun d id aj args h=>(L.dN d.g).bind fun x=>round x (fun cx=>exec (ex L n) cx n) d id aj args h }
end Go.VI
