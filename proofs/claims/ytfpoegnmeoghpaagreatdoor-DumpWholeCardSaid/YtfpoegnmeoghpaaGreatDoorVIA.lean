/- The abstract values, the abstract memory and the evaluator of the own interpreter VI: what a Go function computes, told without the machine. -/
import Derived.Calls
import Derived.Below
import Derived.Laws.AppendOwn
import Derived.Laws.MakeOwn
import Derived.KernelRfl
set_option linter.unusedVariables false
set_option linter.unusedSimpArgs false
namespace Go.VI
theorem mE {α : Type _} {β : Type _} {x : Option α} {f : α → β} {b : β} : x.map f = some b ↔ ∃ a,x = some a ∧ f a = b := Option.map_eq_some_iff
theorem bE {α : Type _} {β : Type _} {x : Option α} {f : α → Option β} {b : β} : x.bind f = some b ↔ ∃ a,x = some a ∧ f a = some b := Option.bind_eq_some_iff
inductive AV where
 | undef
 | bool (b : Bool)
 | int (k : IntKind) (n : Int)
 | str (l : List UInt8)
 | agg (cs : List AV)
 | tuple (cs : List AV)
 | fn (f : Nat) (cs : List AV)
 | nilFn
 | nilIf
 | ifc (t : Nat) (v : AV)
 | nilSl
 | lst (z : Nat) (es : List AV)
 | lsf (z : Nat) (es : List AV)
 | own (z : Nat) (es : List AV)
 | ref (id ver z off len fill : Nat)
 | nilPtr
 | cptr (cs : List AV)
 | bptr (id ver off : Nat)
 | iptr (v : AV) (i off : Nat)
 | yld (id ver : Nat)
 deriving Inhabited
def AV.cells : AV → List AV
 | .agg cs => cs
 | v => [v]
abbrev Env := List (Nat × AV)
inductive Ex where
 | norm
 | exit (id : Nat)
 | ret
 deriving DecidableEq
inductive SD where
 | map (k : IntKind) (kvs : List (Int × AV))
 | bld (me ver : Nat) (lk : Option (Nat × Nat))
 | buf (l : List UInt8)
inductive RS where
 | ready
 | busy
 | done (e : Ex)
 | spc (d : SD)
def RS.loop : RS → Bool
 | .spc _ => false
 | _ => true
structure Rcd where
 g : Nat
 lo : Nat
 base : Nat
 ns : Nat
 env : Env
def SD.env : SD → Env
 | .bld me ver none => [(0,.yld me ver)]
 | .bld me ver (some (a,b)) => [(0,.yld me ver),(1,.yld a b)]
 | _ => []
def Rcd.at (id : Nat) (sd : SD) : Rcd := ⟨0,0,id,0,sd.env⟩
inductive Blk where
 | dead
 | box (cs : List AV)
 | arr (z : Nat) (es : List AV)
 | rcd (d : Rcd) (st : RS)
 deriving Inhabited
abbrev Heap := List (Nat × Blk)
def Env.get : Env → Nat → AV
 | [],_ => .undef
 | (s,v) :: r,t => if s = t then v else Env.get r t
def Env.set (e : Env) (t : Nat) (v : AV) : Env := (t,v) :: e
def Env.keep (ps : List Nat) (e : Env) : Env := ps.map fun s => (s,e.get s)
def Env.put (e : Env) (d : Option Nat) (v : AV) : Env :=
 match d with
 | some t => e.set t v
 | none => e
def asList0 (h : Heap) : AV → Option (List AV)
 | .nilSl => some []
 | .lst _ es => some es
 | .lsf _ es => some es
 | .ref id ver z off len fill =>
  match h[id]? with
  | some (v,.arr z' es) => if v = ver ∧ z' = z ∧ es.length = fill ∧ off + len ≤ fill then some ((es.drop off).take len) else none
  | _ => none
 | _ => none
def zok (z : Nat) : AV → Bool
 | .nilSl => true
 | .lst z' es => z == z' || es.isEmpty
 | .lsf z' es => z == z' || es.isEmpty
 | .ref _ _ z' _ _ _ => z == z'
 | _ => false
def asList (h : Heap) (z : Nat) (v : AV) : Option (List AV) := if zok z v then asList0 h v else none
def slen : AV → Option Nat
 | .nilSl => some 0
 | .lst _ es => some es.length
 | .lsf _ es => some es.length
 | .ref _ _ _ _ len _ => some len
 | _ => none
def AV.val : AV → Bool
 | .undef | .tuple _ | .own .. => false
 | _ => true
inductive Sh where
 | one
 | agg (n : Nat)
def padd (p : AV) (k : Nat) : Option AV :=
 match p with
 | .cptr cs => some (.cptr (cs.drop k))
 | .bptr id ver off => some (.bptr id ver (off + k))
 | .iptr v i off => some (.iptr v i (off + k))
 | _ => none
def pcells (h : Heap) : AV → Option (List AV)
 | .cptr cs => some cs
 | .bptr id ver off =>
  match h[id]? with
  | some (v,.box cs) => if v = ver then some (cs.drop off) else none
  | _ => none
 | .iptr v i off => (asList0 h v).bind fun es => (es[i]?).map fun e => e.cells.drop off
 | _ => none
def shaped : Sh → List AV → Option AV
 | .one,c :: _ => some c
 | .one,[] => none
 | .agg n,cs => if n ≤ cs.length then some (.agg (cs.take n)) else none
def splice (cs : List AV) (off : Nat) (new : List AV) : Option (List AV) :=
 if off + new.length ≤ cs.length then some (cs.take off ++ new ++ cs.drop (off + new.length)) else none
mutual
def AV.closed : AV → Bool
 | .agg cs | .tuple cs | .fn _ cs => AV.closedL cs
 | .ifc _ v => v.closed
 | .own .. | .ref .. | .bptr .. | .iptr .. | .yld .. => false
 | _ => true
def AV.closedL : List AV → Bool
 | [] => true
 | c :: cs => c.closed && AV.closedL cs
end
mutual
def AV.lowB (top : Nat) : AV → Bool
 | .agg cs | .tuple cs | .fn _ cs => AV.lowBL top cs
 | .ifc _ v => v.lowB top
 | .ref id _ _ _ _ _ => decide (id < top)
 | .bptr id _ _ => decide (id < top)
 | .yld id _ => decide (id < top)
 | .iptr v _ _ => v.lowB top
 | _ => true
def AV.lowBL (top : Nat) : List AV → Bool
 | [] => true
 | c :: cs => c.lowB top && AV.lowBL top cs
end
mutual
def frz (base : Nat) (keep : Bool) : AV → Heap → Option (AV × Heap)
 | .agg cs,h => (frzL base keep cs h).map fun (cs,h) => (.agg cs,h)
 | .tuple cs,h => (frzL base keep cs h).map fun (cs,h) => (.tuple cs,h)
 | .fn f cs,h => (frzL base keep cs h).map fun (cs,h) => (.fn f cs,h)
 | .ifc t v,h => (frz base keep v h).map fun (v,h) => (.ifc t v,h)
 | .nilSl,h => some (.lst 0 [],h)
 | .ref id ver z off len fill,h =>
  if base ≤ id then (asList0 h (.ref id ver z off len fill)).map fun es => (.lst z es,h.set id (ver,.dead))
  else if keep then some (.ref id ver z off len fill,h) else none
 | .own ..,_ | .bptr ..,_ | .iptr ..,_ | .yld ..,_ => none
 | v,h => some (v,h)
def frzL (base : Nat) (keep : Bool) : List AV → Heap → Option (List AV × Heap)
 | [],h => some ([],h)
 | c :: cs,h => (frz base keep c h).bind fun (c,h) => (frzL base keep cs h).map fun (cs,h) => (c :: cs,h)
end
def give (base : Nat) (v : AV) (h : Heap) : Option (AV × Heap) :=
 match v with
 | .nilSl => some (.own 0 [],h)
 | .ref id ver z off len fill =>
  if base ≤ id ∧ off = 0 ∧ len = fill then (asList0 h (.ref id ver z off len fill)).map fun es => (.own z es,h.set id (ver,.dead)) else frz base true (.ref id ver z off len fill) h
 | v => frz base true v h
def giveL (base : Nat) : List AV → Heap → Option (List AV × Heap)
 | [],h => some ([],h)
 | c :: cs,h => (give base c h).bind fun (c,h) => (giveL base cs h).map fun (cs,h) => (c :: cs,h)
def giveRes (base : Nat) (v : AV) (h : Heap) : Option AV :=
 match v with
 | .tuple cs => (giveL base cs h).map fun (cs,_) => .tuple cs
 | v => (give base v h).map (·.1)
inductive Opd where
 | t (i : Nat)
 | c (v : AV)
def Opd.ev (env : Env) : Opd → AV
 | .t i => env.get i
 | .c v => v
inductive Kd where
 | b
 | i (k : IntKind)
 | s
 deriving DecidableEq
inductive XI where
 | mov (x : Opd)
 | nchk (x : Opd)
 | isnil (neg : Bool) (x : Opd)
 | pick (c a b : Opd)
 | bin (o : BinOp) (x y : Opd)
 | un (o : UnOp) (x : Opd)
 | conv (k : IntKind) (x : Opd)
 | eqv (neg : Bool) (ks : List Kd) (x y : Opd)
 | len (s : Bool) (x : Opd)
 | lenA (n : Nat) (x : Opd)
 | minmax (mx : Bool) (xs : List Opd)
 | ext (x : Opd) (i : Nat)
 | build (zero : List AV) (parts : List (Nat × Nat × Opd))
 | bslice (z : Nat) (zero : AV) (n : Nat) (parts : List (Nat × Opd))
 | padd (x : Opd) (k : Nat)
 | ixA (n size : Nat) (x i : Opd)
 | ixS (z : Nat) (x i : Opd)
 | fld (x : Opd) (off : Nat) (sh : Sh)
 | ixV (n size : Nat) (sh : Sh) (x i : Opd)
 | ixStr (x i : Opd)
 | slice (z : Option Nat) (x : Opd) (lo hi : Option Opd)
 | load (sh : Sh) (x : Opd)
 | store (sz : Nat) (x v : Opd)
 | alloc (s : Nat) (zero : List AV)
 | box (s : Nat) (x : Opd)
 | boxR (x : Opd)
 | mk (s z : Nat) (zero : AV) (lim : Nat) (n c : Opd)
 | app (s z lim : Nat) (x y : Opd)
 | mkfn (f : Nat) (caps : List Opd)
 | copy (z : Nat) (x y : Opd)
 | call (f : Opd) (args : List Opd) (own : List (Nat × Nat))
 | mkmap (s : Nat) (k : IntKind)
 | mget (zero : AV) (ok : Bool) (x k : Opd)
 | mput (x k v : Opd)
 | mdel (x k : Opd)
 | mkbld (s : Nat)
 | bwr (s f : Nat) (x y : Opd)
 | bstr (f : Nat) (x : Opd)
 | toStr (x : Opd)
 | mkif (t : Nat) (x : Opd)
 | isnif (neg : Bool) (x : Opd)
 | clr (z : Nat) (zero : AV) (x : Opd)
 | pnc (x : Opd)
 | apz (s z : Nat) (zero : AV) (lim : Nat) (x y : Opd)
inductive Chk where
 | elem (t : Nat)
 | box (t : Nat)
 | fn (t : Nat) (gs : List Nat)
 | closed (t : Nat)
 | dead (s : Nat)
 | nobox (s : Nat)
 | ne (a b : Nat)
structure XOp where
 dst : Option Nat
 guard : Option (Nat × Bool)
 chk : List Chk
 op : XI
inductive XC where
 | skip
 | reg (draw : Bool) (keep kill : List Nat) (ops : List XOp)
 | seq (a b : XC)
 | cond (c : Opd) (a b : XC)
 | blk (id : Nat) (c : XC)
 | loop (c : XC)
 | exit (id : Nat)
 | ret
 | rfn (s : Nat) (f : Opd) (g : Nat)
 | pre (keep : List Nat) (c : XC)
 | fz (t : Nat) (c : XC)
inductive XRes where
 | tmp (t : Nat)
 | cell (t : Nat) (sh : Sh)
structure XFn where
 np : Nat
 isOpen : Bool
 ns : Nat
 res : List XRes
 code : XC
structure XRnd where
 ps : List Nat
 asg : XC
 body : XC
structure Cx where
 lo : Nat
 base : Nat
 ns : Nat
 rnd : Option (Nat × Nat) := none
structure Callee where
 fn : Nat → List AV → Heap → Nat → Option (AV × Heap)
 rd : Rcd → Nat → Nat → List AV → Heap → Option (Ex × Heap)
def weak1 : AV → AV
 | .own z es => .lst z es
 | v => v
def weak : AV → AV
 | .tuple cs => .tuple (cs.map weak1)
 | v => weak1 v
def Cx.fit (cx : Cx) (v : AV) : Bool := cx.rnd.isNone || v.lowB (cx.base + cx.ns)
def Blk.fits (cx : Cx) : Blk → Bool
 | .box cs => cs.all cx.fit
 | .rcd d _ => d.env.all fun p => cx.fit p.2
 | _ => true
def mkAt (cx : Cx) (s : Nat) (b : Blk) (h : Heap) : Option (Nat × Heap) :=
 if s < cx.ns ∧ b.fits cx = true then
  match h[cx.base + s]? with
  | some (v,_) => some (v + 1,h.set (cx.base + s) (v + 1,b))
  | none => none
 else none
def takeOver (cx : Cx) : List (Nat × Nat) → List AV → Heap → Option (List AV × Heap)
 | [],cs,h => some (cs,h)
 | (j,s) :: r,cs,h =>
  match cs[j]? with
  | some (.own z es) =>
   if es = [] then takeOver cx r (if z = 0 then cs.set j (.lsf 0 []) else cs) h
   else (mkAt cx s (.arr z es) h).bind fun (v,h) => takeOver cx r (cs.set j (.ref (cx.base + s) v z 0 es.length es.length)) h
  | _ => takeOver cx r cs h
def toBool : AV → Option Bool
 | .bool b => some b
 | _ => none
def binv (o : BinOp) : AV → AV → Option AV
 | .int k a,.int k' b =>
  match o with
  | .shl => if 0 ≤ b then some (.int k (k.wrap (a * 2 ^ (min b.toNat k.bits)))) else none
  | .shr => if 0 ≤ b then some (.int k (a.fdiv (2 ^ (min b.toNat k.bits)))) else none
  | o =>
   if k = k' then
    match o with
    | .add => some (.int k (k.wrap (a + b)))
    | .sub => some (.int k (k.wrap (a - b)))
    | .mul => some (.int k (k.wrap (a * b)))
    | .quo => if b = 0 then none else some (.int k (k.wrap (a.tdiv b)))
    | .rem => if b = 0 then none else some (.int k (a.tmod b))
    | .and => some (.int k (k.wrap (BitVec.ofInt k.bits a &&& BitVec.ofInt k.bits b).toNat))
    | .or => some (.int k (k.wrap (BitVec.ofInt k.bits a ||| BitVec.ofInt k.bits b).toNat))
    | .xor => some (.int k (k.wrap (BitVec.ofInt k.bits a ^^^ BitVec.ofInt k.bits b).toNat))
    | .eql => some (.bool (a == b))
    | .neq => some (.bool (a != b))
    | .lss => some (.bool (a < b))
    | .leq => some (.bool (a ≤ b))
    | .gtr => some (.bool (a > b))
    | .geq => some (.bool (a ≥ b))
    | _ => none
   else none
 | .str a,.str b =>
  match o with
  | .add => if a.length + b.length ≤ 1000000000000 then some (.str (a ++ b)) else none
  | .eql => some (.bool (a == b))
  | .neq => some (.bool (!(a == b)))
  | .lss => some (.bool (Op.bytesLess a b))
  | .leq => some (.bool (Op.bytesLess a b || a == b))
  | .gtr => some (.bool (!(Op.bytesLess a b || a == b)))
  | .geq => some (.bool (!(Op.bytesLess a b)))
  | _ => none
 | _,_ => none
def unv (o : UnOp) : AV → Option AV
 | .int k n => match o with
  | .neg => some (.int k (k.wrap (0 - n)))
  | _ => none
 | .bool b => match o with
  | .not => some (.bool (!b))
  | _ => none
 | _ => none
def convv (k : IntKind) : AV → Option AV
 | .int _ n => some (.int k (k.wrap n))
 | _ => none
def AV.kd : AV → Option Kd
 | .bool _ => some .b
 | .int k _ => some (.i k)
 | .str _ => some .s
 | _ => none
def okKs : List Kd → List AV → Bool
 | [],[] => true
 | k :: ks,a :: as => a.kd == some k && okKs ks as
 | _,_ => false
def eq1 : AV → AV → Bool
 | .bool a,.bool b => a == b
 | .int _ a,.int _ b => a == b
 | .str a,.str b => a == b
 | _,_ => false
def eqL : List AV → List AV → Bool
 | [],[] => true
 | a :: as,b :: bs => eq1 a b && eqL as bs
 | _,_ => false
def eqvv (neg : Bool) (ks : List Kd) : AV → AV → Option AV
 | .bool a,.bool b => if ks = [] then some (.bool (if neg then !(a == b) else a == b)) else none
 | .agg as,.agg bs => if ks ≠ [] ∧ (okKs ks as && okKs ks bs) = true then some (.bool (if neg then !(eqL as bs) else eqL as bs)) else none
 | _,_ => none
def lenv (s : Bool) (v : AV) : Option AV :=
 if s then (match v with | .str l => some (.int .i64 l.length) | _ => none) else (slen v).map fun (n : Nat) => AV.int .i64 (n : Int)
def mvF (g : Nat) : Nat := if g < 1000 then g else g - 1000
def mvA (g : Nat) (xs cs : List AV) : List AV := if g < 1000 then xs ++ cs else cs ++ xs
def isnilv (neg : Bool) : AV → Option AV
 | .nilSl => some (.bool (!neg))
 | .lst _ (_ :: _) => some (.bool neg)
 | .lsf _ (_ :: _) => some (.bool neg)
 | .ref _ _ _ _ (_ + 1) _ => some (.bool neg)
 | _ => none
def nchkv : AV → Option AV
 | .cptr cs => some (.cptr cs)
 | .bptr id ver off => some (.bptr id ver off)
 | .iptr v i off => some (.iptr v i off)
 | .fn f cs => some (.fn f cs)
 | _ => none
def mm2 (mx : Bool) : AV → AV → Option AV
 | .int k x,.int _ y => some (.int k (if mx then (if y > x then y else x) else (if y < x then y else x)))
 | _,_ => none
def mmv (mx : Bool) : List AV → Option AV
 | [] => none
 | [x] => some x
 | [x,y] => mm2 mx x y
 | [x,y,z] => (mm2 mx x y).bind fun r => mm2 mx r z
 | _ => none
def extv (v : AV) (i : Nat) : Option AV :=
 match v with
 | .tuple vs => vs[i]?
 | _ => none
def lay (env : Env) : List (Nat × Nat × Opd) → List AV → Option (List AV)
 | [],cs => some cs
 | (off,n,x) :: r,cs =>
  let new := (x.ev env).cells
  if new.length = n ∧ (x.ev env).val = true then (splice cs off new).bind (lay env r) else none
def setParts (env : Env) (base z : Nat) : List (Nat × Opd) → List AV → Heap → Option (List AV × Heap)
 | [],es,h => some (es,h)
 | (i,x) :: r,es,h =>
  (frz base false (x.ev env) h).bind fun (v,h) => if i < es.length ∧ v.cells.length = z ∧ v.val = true then setParts env base z r (es.set i v) h else none
def idx (v : AV) (n : Nat) : Option Nat :=
 match v with
 | .int _ i => if 0 ≤ i ∧ i < n then some i.toNat else none
 | _ => none
def bnd (o : Option AV) (n : Nat) (d : Nat) : Option Nat :=
 match o with
 | some (.int _ i) => if 0 ≤ i ∧ i ≤ n then some i.toNat else none
 | some _ => none
 | none => some d
def slicev (z : Option Nat) (x : AV) (lo hi : Option AV) : Option AV :=
 match z with
 | none => match x with
  | .str l => (bnd hi l.length l.length).bind fun b => (bnd lo b 0).map fun a => .str ((l.take b).drop a)
  | _ => none
 | some z =>
  if zok z x then
   match x with
   | .nilSl => (bnd hi 0 0).bind fun b => (bnd lo b 0).map fun _ => .nilSl
   | .lst _ es => (bnd hi es.length es.length).bind fun b => (bnd lo b 0).map fun a => .lst z ((es.take b).drop a)
   | .lsf _ es => (bnd hi es.length es.length).bind fun b => (bnd lo b 0).map fun a => .lst z ((es.take b).drop a)
   | .ref id ver _ off len fill => (bnd hi len len).bind fun b => (bnd lo b 0).map fun a => .ref id ver z (off + a) (b - a) fill
   | _ => none
  else none
def pstore (cx : Cx) (h : Heap) (sz : Nat) (p : AV) (v : AV) : Option Heap :=
 if v.cells.length = sz ∧ v.val = true then
  match p with
  | .bptr id ver off =>
   match h[id]? with
   | some (w,.box cs) =>
    if w = ver ∧ cx.lo ≤ id ∧ (cx.base ≤ id ∧ cx.fit v = true ∨ v.closed = true) then (splice cs off v.cells).map fun cs => h.set id (ver,.box cs) else none
   | _ => none
  | .iptr (.ref id ver z o len fill) i off =>
   (frz cx.base false v h).bind fun (v,h) =>
    match h[id]? with
    | some (w,.arr z' es) =>
     if w = ver ∧ z' = z ∧ es.length = fill ∧ o + len ≤ fill ∧ i < len ∧ cx.lo ≤ id then
      match es[o + i]? with
      | some (.agg cs) => (splice cs off v.cells).map fun cs => h.set id (ver,.arr z (es.set (o + i) (.agg cs)))
      | some e => if off = 0 ∧ e.val = true then (match v with | .agg _ => none | v => some (h.set id (ver,.arr z (es.set (o + i) v)))) else none
      | none => none
     else none
    | _ => none
  | _ => none
 else none
def appSrc (h : Heap) (z : Nat) : AV → Option (List AV)
 | .str l => if z = 1 then some (l.map fun b => .int .u8 b.toNat) else none
 | v => asList h z v
def appv (cx : Cx) (s z lim : Nat) (x : AV) (xs : List AV) (h : Heap) : Option (AV × Heap) :=
 match x with
 | .nilSl =>
  if xs = [] then some (.nilSl,h)
  else if xs.length ≤ lim then (mkAt cx s (.arr z xs) h).map fun (v,h) => (.ref (cx.base + s) v z 0 xs.length xs.length,h) else none
 | .lsf z' es =>
  if z == z' || es.isEmpty then
   if xs = [] then some (.lsf z es,h)
   else if (es ++ xs).length ≤ lim then (mkAt cx s (.arr z (es ++ xs)) h).map fun (v,h) => (.ref (cx.base + s) v z 0 (es ++ xs).length (es ++ xs).length,h) else none
  else none
 | .ref id ver z' off len fill =>
  match h[id]? with
  | some (w,.arr z'' es) =>
   if w = ver ∧ z' = z ∧ z'' = z ∧ es.length = fill ∧ len = fill ∧ cx.lo ≤ id ∧ (es ++ xs).length ≤ lim ∧ off = 0 then
    some (.ref id ver z 0 (es ++ xs).length (es ++ xs).length,h.set id (ver,.arr z (es ++ xs)))
   else none
  | _ => none
 | _ => none
def appw (cx : Cx) (s z lim : Nat) (x : AV) (xs : List AV) (h : Heap) : Option (AV × Heap) :=
 if s < 1000 then appv cx s z lim x xs h else (appv cx (s - 1000) z lim x xs h).bind fun r => frz cx.base false r.1 r.2
def copyv (cx : Cx) (z : Nat) (x : AV) (ys : List AV) (h : Heap) : Option (AV × Heap) :=
 if zok z x then
  match slen x with
  | none => none
  | some len =>
   if min ys.length len = 0 then some (.int .i64 0,h)
   else match x with
    | .ref id ver _ off len fill =>
     match h[id]? with
     | some (w,.arr z'' es) =>
      if w = ver ∧ z'' = z ∧ es.length = fill ∧ off + len ≤ fill ∧ cx.lo ≤ id then
       some (.int .i64 (min ys.length len : Nat),h.set id (ver,.arr z (es.take off ++ ys.take (min ys.length len) ++ es.drop (off + min ys.length len))))
      else none
     | _ => none
    | _ => none
 else none
def isnifv (neg : Bool) : AV → Option AV
 | .nilIf => some (.bool (!neg))
 | .ifc _ _ => some (.bool neg)
 | _ => none
def mfind (n : Int) : List (Int × AV) → Option AV
 | [] => none
 | (k,v) :: r => if k = n then some v else mfind n r
def mset (n : Int) (v : AV) : List (Int × AV) → List (Int × AV)
 | [] => [(n,v)]
 | (k,u) :: r => if k = n then (k,v) :: r else (k,u) :: mset n v r
def mdrop (n : Int) : List (Int × AV) → List (Int × AV)
 | [] => []
 | (k,u) :: r => if k = n then r else (k,u) :: mdrop n r
def mgetv (h : Heap) (zero : AV) (ok : Bool) (x y : AV) : Option AV :=
 match x,y with
 | .yld id ver,.int k n =>
  match h[id]? with
  | some (v,.rcd _ (.spc (.map k' kvs))) =>
   if v = ver ∧ k' = k then
    match mfind n kvs with
    | some u => some (if ok then .tuple [u,.bool true] else u)
    | none => some (if ok then .tuple [zero,.bool false] else zero)
   else none
  | _ => none
 | _,_ => none
def mupdv (cx : Cx) (h : Heap) (x y : AV) (f : Int → List (Int × AV) → List (Int × AV)) : Option Heap :=
 match x,y with
 | .yld id ver,.int k n =>
  match h[id]? with
  | some (v,.rcd d (.spc (.map k' kvs))) => if v = ver ∧ k' = k ∧ cx.lo ≤ id ∧ kvs.length ≤ 1000 then some (h.set id (ver,.rcd d (.spc (.map k (f n kvs))))) else none
  | _ => none
 | _,_ => none
def bldLim : Nat := 140737488355328
def bwrv (cx : Cx) (s : Nat) (x y : AV) (h : Heap) : Option (AV × Heap) :=
 match x,y with
 | .yld id ver,.str l =>
  match h[id]? with
  | some (v,.rcd d (.spc (.bld me mv lk))) =>
   if v = ver ∧ me = id ∧ mv = ver ∧ cx.lo ≤ id then
    match lk with
    | none =>
     if l = [] then none
     else if l.length ≤ bldLim ∧ id ≠ cx.base + s ∧ cx.base ≤ id then
      (mkAt cx s (.rcd (Rcd.at (cx.base + s) (.buf l)) (.spc (.buf l))) h).map fun (v2,h) => (.tuple [.int .i64 l.length,.nilIf],h.set id (ver,.rcd { d with env := (SD.bld me mv (some (cx.base + s,v2))).env } (.spc (.bld me mv (some (cx.base + s,v2))))))
     else none
    | some (id2,ver2) =>
     match h[id2]? with
     | some (v2,.rcd d2 (.spc (.buf l0))) =>
      if v2 = ver2 ∧ id2 ≠ id ∧ cx.lo ≤ id2 ∧ l0 ≠ [] ∧ l0.length + l.length ≤ bldLim ∧ cx.base ≤ id ∧ id2 < cx.base + cx.ns then
       some (.tuple [.int .i64 l.length,.nilIf],(h.set id2 (ver2 + 1,.rcd d2 (.spc (.buf (l0 ++ l))))).set id (ver,.rcd { d with env := (SD.bld me mv (some (id2,ver2 + 1))).env } (.spc (.bld me mv (some (id2,ver2 + 1))))))
      else none
     | _ => none
   else none
  | _ => none
 | _,_ => none
def bstrv (cx : Cx) (x : AV) (h : Heap) : Option AV :=
 match x with
 | .yld id ver =>
  match h[id]? with
  | some (v,.rcd _ (.spc (.bld me mv lk))) =>
   if v = ver ∧ me = id ∧ mv = ver ∧ cx.lo ≤ id then
    match lk with
    | none => some (.str [])
    | some (id2,ver2) =>
     match h[id2]? with
     | some (v2,.rcd _ (.spc (.buf l))) => if v2 = ver2 ∧ id2 ≠ id ∧ cx.lo ≤ id2 ∧ l ≠ [] then some (.str l) else none
     | _ => none
   else none
  | _ => none
 | _ => none
def bytesOf : List AV → Option (List UInt8)
 | [] => some []
 | .int .u8 n :: r => if 0 ≤ n ∧ n < 256 then (bytesOf r).map (n.toNat.toUInt8 :: ·) else none
 | _ => none
def AV.byte (b : UInt8) : AV := .int .u8 (b.toNat : Int)
def evs (env : Env) (xs : List Opd) : List AV := xs.map (·.ev env)
def yieldv (call : Callee) (cx : Cx) (id ver : Nat) (args : List AV) (h : Heap) : Option (AV × Heap) :=
 match h[id]? with
 | some (v,.rcd d .ready) =>
  if v = ver ∧ cx.lo ≤ d.lo ∧ d.lo ≤ id ∧ d.lo ≤ d.base ∧ AV.closedL args = true then (call.rd d id ver args h).map fun (e,h) => (.bool (e == .norm),h) else none
 | _ => none
def sOf (s : Nat) : Nat := if s < 1000 then s else s - 1000
def xi (call : Callee) (cx : Cx) (env : Env) (h : Heap) : XI → Option (AV × Heap)
 | .mov x => some (x.ev env,h)
 | .pick c a b => (toBool (c.ev env)).map fun r => (if r then a.ev env else b.ev env,h)
 | .bin o x y => (binv o (x.ev env) (y.ev env)).map fun v => (v,h)
 | .un o x => (unv o (x.ev env)).map fun v => (v,h)
 | .conv k x => (convv k (x.ev env)).map fun v => (v,h)
 | .eqv neg ks x y => (eqvv neg ks (x.ev env) (y.ev env)).map fun v => (v,h)
 | .nchk x => (nchkv (x.ev env)).map fun v => (v,h)
 | .isnil neg x => (isnilv neg (x.ev env)).map fun v => (v,h)
 | .len s x => (lenv s (x.ev env)).map fun v => (v,h)
 | .lenA n _ => some (.int .i64 n,h)
 | .minmax mx xs => (mmv mx (evs env xs)).map fun v => (v,h)
 | .ext x i => (extv (x.ev env) i).map fun v => (v,h)
 | .build zero parts => (lay env parts zero).map fun cs => (.agg cs,h)
 | .bslice z zero n parts => (setParts env cx.base z parts (List.replicate n zero) h).map fun (es,h) => (.lsf z es,h)
 | .padd x k => (padd (x.ev env) k).map fun v => (v,h)
 | .ixA n size x i => (idx (i.ev env) n).bind fun j => (padd (x.ev env) (j * size)).map fun v => (v,h)
 | .ixS z x i => if zok z (x.ev env) then (slen (x.ev env)).bind fun n => (idx (i.ev env) n).map fun j => (.iptr (x.ev env) j 0,h) else none
 | .fld x off sh => match x.ev env with
  | .agg cs => (shaped sh (cs.drop off)).map fun v => (v,h)
  | _ => none
 | .ixV n size sh x i => match x.ev env with
  | .agg cs => (idx (i.ev env) n).bind fun j => (shaped sh (cs.drop (j * size))).map fun v => (v,h)
  | _ => none
 | .ixStr x i => match x.ev env with
  | .str l => (idx (i.ev env) l.length).bind fun j => (l[j]?).map fun b => (.int .u8 b.toNat,h)
  | _ => none
 | .slice z x lo hi => (slicev z (x.ev env) (lo.map (·.ev env)) (hi.map (·.ev env))).map fun v => (v,h)
 | .load sh x => (pcells h (x.ev env)).bind fun cs => (shaped sh cs).map fun v => (v,h)
 | .store sz x v => (pstore cx h sz (x.ev env) (v.ev env)).map fun h => (.undef,h)
 | .alloc s zero => (mkAt cx s (.box zero) h).map fun (v,h) => (.bptr (cx.base + s) v 0,h)
 | .box s x => if (x.ev env).val then (mkAt cx s (.box (x.ev env).cells) h).map fun (v,h) => (.bptr (cx.base + s) v 0,h) else none
 | .boxR x => if (x.ev env).val then (frz cx.base false (x.ev env) h).map fun (v,h) => (.cptr v.cells,h) else none
 | .mk s z zero lim n c =>
  match n.ev env,c.ev env with
  | .int _ a,.int _ b =>
   if 1000 ≤ s ∧ a = 0 ∧ b = 0 then some (.lsf z [],h)
   else if 0 ≤ a ∧ a ≤ b ∧ b ≤ lim then (mkAt cx (sOf s) (.arr z (List.replicate a.toNat zero)) h).map fun (v,h) => (.ref (cx.base + sOf s) v z 0 a.toNat a.toNat,h) else none
  | _,_ => none
 | .app s z lim x y => (appSrc h z (y.ev env)).bind fun xs => appw cx s z lim (x.ev env) xs h
 | .mkfn f caps => some (.fn f (evs env caps),h)
 | .copy z x y => (asList h z (y.ev env)).bind fun ys => copyv cx z (x.ev env) ys h
 | .call f args own =>
  match f.ev env with
  | .fn g caps => (call.fn (mvF g) (mvA g (evs env args) caps) h cx.lo).bind fun (r,h) =>
   match own with
   | [] => some (weak r,h)
   | own =>
    match r with
    | .tuple cs => (takeOver cx own cs h).map fun (cs,h) => (weak (.tuple cs),h)
    | r => (takeOver cx own [r] h).bind fun (cs,h) => (cs[0]?).map fun v => (weak v,h)
  | .yld id ver => if own = [] then yieldv call cx id ver (evs env args) h else none
  | _ => none
 | .mkmap s k => (mkAt cx s (.rcd (Rcd.at (cx.base + s) (.map k [])) (.spc (.map k []))) h).map fun (v,h) => (.yld (cx.base + s) v,h)
 | .mget zero ok x k => (mgetv h zero ok (x.ev env) (k.ev env)).map fun v => (v,h)
 | .mput x k v => if (v.ev env).closed = true ∧ (v.ev env).val = true then (mupdv cx h (x.ev env) (k.ev env) (fun n => mset n (v.ev env))).map fun h => (.undef,h) else none
 | .mdel x k => (mupdv cx h (x.ev env) (k.ev env) mdrop).map fun h => (.tuple [],h)
 | .mkbld s => (mkAt cx s (.rcd (Rcd.at (cx.base + s) (.bld (cx.base + s) 0 none)) (.spc (.bld (cx.base + s) 0 none))) h).map fun (v,h) => (.yld (cx.base + s) v,h.set (cx.base + s) (v,.rcd (Rcd.at (cx.base + s) (.bld (cx.base + s) v none)) (.spc (.bld (cx.base + s) v none))))
 | .bwr s _ x y => bwrv cx s (x.ev env) (y.ev env) h
 | .bstr _ x => (bstrv cx (x.ev env) h).map fun v => (v,h)
 | .toStr x => (asList h 1 (x.ev env)).bind fun es => (bytesOf es).map fun l => (.str l,h)
 | .isnif neg x => (isnifv neg (x.ev env)).map fun v => (v,h)
 | .pnc _ => none
 | .clr z zero x => (slen (x.ev env)).bind fun n => (copyv cx z (x.ev env) (List.replicate n zero) h).map fun (_,h) => (.tuple [],h)
 | .mkif t x => if (x.ev env).closed = true ∧ (x.ev env).val = true then some (.ifc t (x.ev env),h) else none
 | .apz s z zero lim x y =>
  match y.ev env with
  | .int _ n => if 0 ≤ n ∧ n ≤ lim then appv cx s z lim (x.ev env) (List.replicate n.toNat zero) h else none
  | _ => none
def Chk.ok (cx : Cx) (env : Env) (h : Heap) : Chk → Bool
 | .elem t => match env.get t with | .iptr .. | .cptr .. => true | _ => false
 | .box t => match env.get t with | .bptr .. | .cptr .. => true | _ => false
 | .fn t gs => match env.get t with | .fn g _ => gs.contains g | _ => false
 | .closed t => (env.get t).closed
 | .ne a b => match env.get a,env.get b with | .bptr i _ _,.bptr j _ _ => !decide (i = j) | _,_ => false
 | .dead s => match h[cx.base + s]? with | some (_,.dead) => true | _ => false
 | .nobox s => match h[cx.base + s]? with | some (_,.dead) => true | some (_,.arr ..) => true | _ => false
def xic (call : Callee) (cx : Cx) (env : Env) (h : Heap) (o : XOp) : Option (AV × Heap) :=
 if o.chk.all (Chk.ok cx env h) then xi call cx env h o.op else none
def wantv (v : AV) (want : Bool) : Option Bool :=
 match v with
 | .bool b => some (b == want)
 | .tuple [] => some false
 | _ => none
def xop (call : Callee) (cx : Cx) (o : XOp) (env : Env) (h : Heap) : Option (Env × Heap) :=
 match o.guard with
 | none => (xic call cx env h o).map fun (v,h) => (env.put o.dst v,h)
 | some (g,want) =>
  (wantv (env.get g) want).bind fun b =>
   if b = true then (xic call cx env h o).map fun (v,h) => (env.put o.dst v,h)
   else some (env.put o.dst (.tuple []),h)
def xops (call : Callee) (cx : Cx) : List XOp → Env → Heap → Option (Env × Heap)
 | [],env,h => some (env,h)
 | o :: os,env,h => (xop call cx o env h).bind fun (env,h) => xops call cx os env h
abbrev St := Env × Heap
abbrev Out := Option (Ex × St)
def Ex.inBlk (id : Nat) (r : Ex × St) : Ex × St := if r.1 = .exit id then (.norm,r.2) else r
def iter (body : St → Out) : Nat → St → Out
 | 0,_ => none
 | n + 1,st => (body st).bind fun (e,st) => if e = .norm then iter body n st else some (e,st)
def killAll (cx : Cx) : List Nat → Heap → Heap
 | [],h => h
 | s :: ss,h => killAll cx ss (match h[cx.base + s]? with | some (v,_) => h.set (cx.base + s) (v,.dead) | none => h)
def rndOk (cx : Cx) (h : Heap) : Bool :=
 match cx.rnd with
 | none => true
 | some (id,ver) => match h[id]? with | some (v,.rcd _ st) => v == ver && st.loop | _ => false
def exec (call : Callee) (cx : Cx) (n : Nat) : XC → St → Out
 | .skip,st => some (.norm,st)
 | .reg _ keep kill ops,(env,h) => (xops call cx ops env (killAll cx kill h)).map fun (env,h) => (.norm,(env.keep keep,h))
 | .seq a b,st => (exec call cx n a st).bind fun (e,st) => if e = .norm then exec call cx n b st else some (e,st)
 | .cond c a b,st => (toBool (c.ev st.1)).bind fun r => if r then exec call cx n a st else exec call cx n b st
 | .blk id c,st => (exec call cx n c st).map (Ex.inBlk id)
 | .loop c,st => iter (exec call cx n c) n st
 | .exit id,st => some (.exit id,st)
 | .ret,st => some (.ret,st)
 | .rfn s f g,(env,h) =>
  match f.ev env,rndOk cx h with
  | .fn it caps,true =>
   (mkAt cx s (.rcd ⟨g,cx.lo,cx.base,cx.ns,env⟩ .ready) h).bind fun (ver,h) =>
    (call.fn (mvF it) (mvA it [.yld (cx.base + s) ver] caps) h cx.lo).bind fun (_,h) =>
     match h[cx.base + s]? with
     | some (v,.rcd _ .ready) => if v = ver then some (.norm,(env,h.set (cx.base + s) (v,.dead))) else none
     | some (v,.rcd _ (.done e)) => if v = ver then some (e,(env,h.set (cx.base + s) (v,.dead))) else none
     | _ => none
  | _,_ => none
 | .pre ps c,st => exec call cx n c (st.1.keep ps,st.2)
 | .fz t c,st => (frz cx.base false (st.1.get t) st.2).bind fun r => exec call cx n c (st.1.set t r.1,r.2)
def argEnv : Nat → List AV → Env
 | _,[] => []
 | i,v :: vs => (i,v) :: argEnv (i + 1) vs
def resOne (env : Env) (h : Heap) : XRes → Option AV
 | .tmp t => some (env.get t)
 | .cell t sh => (pcells h (env.get t)).bind fun cs => shaped sh cs
def resAll (env : Env) (h : Heap) : List XRes → Option (List AV)
 | [] => some []
 | r :: rs => (resOne env h r).bind fun v => (resAll env h rs).map fun vs => v :: vs
def resVal (env : Env) (h : Heap) (rs : List XRes) : Option AV :=
 match rs with
 | [r] => resOne env h r
 | rs => (resAll env h rs).map .tuple
def enter (f : XFn) (body : Cx → XC → St → Out) (args : List AV) (h : Heap) (lo : Nat) : Option (AV × Heap) :=
 if args.length = f.np ∧ (f.isOpen = true → lo ≤ h.length) then
  let cx : Cx := { lo := if f.isOpen then lo else h.length,base := h.length,ns := f.ns }
  (body cx f.code (argEnv 0 args,h ++ List.replicate f.ns (0,.dead))).bind fun (e,(env,h')) =>
   match e with
   | .exit _ => none
   | _ => (resVal env h' f.res).bind fun v => (giveRes h.length v h').map fun r => (r,if f.isOpen then h'.take h.length else h)
 else none
def round (x : XRnd) (body : Cx → XC → St → Out) (d : Rcd) (id ver : Nat) (args : List AV) (h : Heap) : Option (Ex × Heap) :=
 if args.length = x.ps.length then
  let cx : Cx := { lo := d.lo,base := d.base,ns := d.ns,rnd := some (id,ver) }
  (body cx x.asg ((x.ps.zip args).foldl (fun e p => e.set p.1 p.2) d.env,h)).bind fun (e,(env,h)) =>
   if e = .norm then
    match h[id]? with
    | some (v,.rcd d1 .ready) =>
     if v = ver then
      (body cx x.body (env,h.set id (ver,.rcd d1 .busy))).bind fun (e,(_,h)) =>
       match h[id]? with
       | some (v,.rcd d2 .busy) => if v = ver then some (e,h.set id (ver,.rcd d2 (if e = .norm then .ready else .done e))) else none
       | _ => none
     else none
    | _ => none
   else none
 else none
structure Lib where
 fns : Nat → Option XFn
 rds : Nat → Option XRnd
 orc : Nat → List AV → Heap → Option AV
 brw : Nat → Bool := fun _ => false
mutual
def view (h : Heap) : AV → Option AV
 | .agg cs => (viewL h cs).map .agg
 | .fn f cs => (viewL h cs).map (.fn f)
 | .ref id ver z off len fill => (asList0 h (.ref id ver z off len fill)).map (.lst z)
 | .own .. | .tuple .. | .bptr .. | .iptr .. | .yld .. | .undef | .ifc .. => none
 | v => some v
def viewL (h : Heap) : List AV → Option (List AV)
 | [] => some []
 | c :: cs => (view h c).bind fun c => (viewL h cs).map fun cs => c :: cs
end
mutual
def AV.flat : AV → Bool
 | .int .. | .bool .. | .str .. | .nilSl | .nilPtr | .nilFn | .nilIf => true
 | .agg cs => AV.flatL cs
 | _ => false
def AV.flatL : List AV → Bool
 | [] => true
 | c :: cs => c.flat && AV.flatL cs
end
def AV.flat1 : AV → Bool
 | .own _ es => AV.flatL es
 | v => v.flat
def AV.flatR : AV → Bool
 | .tuple cs => cs.all AV.flat1
 | v => v.flat1
def enterB (x : XFn) (body : Cx → XC → St → Out) (b : Bool) (args : List AV) (h : Heap) (lo : Nat) : Option (AV × Heap) :=
 if b then (viewL h args).bind fun as => (enter x body as [] 0).bind fun r => if r.1.flatR then some (r.1,h) else none
 else enter x body args h lo
def ex (L : Lib) : Nat → Callee
 | 0 => ⟨fun _ _ _ _ => none,fun _ _ _ _ _ => none⟩
 | n + 1 => {
   fn := fun f args h lo =>
    match L.orc f args h with
    | some r => some (r,h)
    | none => (L.fns f).bind fun x => enterB x (fun cx => exec (ex L n) cx n) (L.brw f) args h lo
   rd := fun d id ver args h => (L.rds d.g).bind fun x => round x (fun cx => exec (ex L n) cx n) d id ver args h }
end Go.VI
