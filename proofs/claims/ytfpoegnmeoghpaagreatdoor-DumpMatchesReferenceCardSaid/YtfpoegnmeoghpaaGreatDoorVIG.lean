/- Which operation of the machine an operation stands for; the operations that only read. -/
import Derived.Test.YtfpoegnmeoghpaaGreatDoorVIF
import Derived.Test.YtfpoegnmeoghpaaGreatDoorVIEQ
import Derived.Laws.Tables
import Derived.Laws.Slices
import Derived.Laws.Build
import Derived.Laws.Cover3
set_option linter.unusedVariables false
set_option linter.unusedSimpArgs false
namespace Go.VI
set_option linter.unusedSectionVars false
variable [bJ][Rounds]
section
variable (P:Program)
def pJ(t:TypeId):Option TypeId:=match P.underlying t with|some (.slice e)=>some e|_=>none
def yh(t:TypeId):Bool:=match P.underlying t with|some .string=>true|_=>false
def Kh(t:TypeId):Option (Nat×TypeId):=match P.underlying t with|some (.array n e)=>some (n,e)|_=>none
def DJ(t:TypeId):Option IntKind:=match P.underlying t with|some (.int k)=>some k|_=>none
def Qr(t:TypeId):Bool:=match P.underlying t with|some (.interface _)=>true|_=>false
def mapKey(t:TypeId):Option IntKind:=match P.underlying t with|some (.map k _)=>DJ P k|_=>none
def akB(t:TypeId)(zero:AV):Bool:=match P.underlying t with
 |some (.map _ e)=>match (P.info? e).bind (·.zero)with|some v=>wU zero v|none=>false
 |_=>false
def Qs(t:TypeId):Bool:=match P.underlying t with|some (.slice e)=>DJ P e==some .u8&&(P.info? e).any (fun i=>i.size==1&&i.bytes==1)|_=>false
def Gu(t:TypeId):Bool:=match P.underlying t with|some .bool=>true|_=>false
def DK(t:TypeId)(i:Nat):Option (Nat×Nat) :=
 match P.underlying t with
 |some (.array _ e)=>(P.info? e).map fun ie=>(i*ie.size,ie.size)
 |some (.struct fields)=>(fields.toList.mapM fun f=>(P.info? f.type).map fun i=>(f.offset,i.size)).bind fun l=>l[i]?
 |_=>none
def Bp(t:TypeId):List (Nat×Operand)->List (Nat×Nat×aK)->Bool
 |[],[]=>true
 |(i,o)::os,(off,n,x)::xs=>DK P t i==some (off,n)&&dY o x&&Bp t os xs
 |_,_=>false
def Bq:List (Nat×Operand)->List (Nat×aK)->Bool
 |[],[]=>true
 |(i,o)::os,(j,x)::xs=>i==j&&dY o x&&Bq os xs
 |_,_=>false
def Qt(t:TypeId):Bool :=
 match P.underlying t with
 |some (.array _ e)=>(P.info? e).isSome
 |some (.struct fields)=>(fields.toList.mapM fun f=>(P.info? f.type).map fun i=>(f.offset,i.size)).isSome
 |_=>false
def DL(t:TypeId)(z lim:Nat):Bool :=
 match pJ P t with
 |some e=>match P.info? e with
  |some i=>i.size==z&&decide (0<z)&&decide (lim*i.bytes<=140737488355328)&&decide (lim<=140737488355328)
  |none=>false
 |none=>false
def Gv(t:TypeId)(zero:AV):Bool :=
 match pJ P t with
 |some e=>match (P.info? e).bind (·.zero) with
  |some v=>wU zero v
  |none=>false
 |none=>false
def DN(t:TypeId)(ks:List Kd):Bool :=
 match P.underlying t with
 |some .bool=>ks==[]
 |some (.array _ _)|some (.struct _)=>ks != []&&mO P 50 t ks&&!P.eqGuardType P.depth t
 |_=>false
def bW(o:Oper):XI->Bool
 |.aL x=>match o.op with|.move y|.assign y=>dY y x|_=>false
 |.tT _=>match o.op with|.alloc t=>t==bJ.l9&&(P.info? t).any (fun i=>match i.zero with|some (.agg ⟨[.pointer none,.slice none 0 0]⟩)=>true|_=>false)|_=>false
 |.rM _ f x y=>match o.op with
  |.call { callee:=.value (.func g),args:=⟨[p,q]⟩,.. }=>g==f&&bJ.Dq f&&dY p x&&dY q y
  |_=>false
 |.rO f x=>match o.op with
  |.call { callee:=.value (.func g),args:=⟨[p]⟩,.. }=>g==f&&bJ.Dr f&&dY p x
  |_=>false
 |.rP x=>match o.op with|.convert s d y=>yh P d&&Qs P s&&dY y x|_=>false
 |.tV t x=>match o.op with|.makeInterface t' y=>t'==t&&!Qr P t&&(P.underlying t).isSome&&dY y x|_=>false
 |.nV x=>match o.op with|.nilCheck y=>dY y x|_=>false
 |.pick c a b=>match o.op with|.pick c' a' b'=>dY c' c&&dY a' a&&dY b' b|_=>false
 |.bin op x y=>match o.op with|.binOp op' _ x' y' _=>decide (op'=op)&&dY x' x&&dY y' y|_=>false
 |.un op x=>match o.op with|.unOp op' _ x'=>decide (op'=op)&&dY x' x|_=>false
 |.conv k x=>match o.op with|.convert src dst x'=>(P.underlying src).isSome&&DJ P dst==some k&&dY x' x|_=>false
 |.eqv neg ks x y=>match o.op with
  |.binOp .eql t x' y' _=>!neg&&DN P t ks&&dY x' x&&dY y' y
  |.binOp .neq t x' y' _=>neg&&DN P t ks&&dY x' x&&dY y' y
  |_=>false
 |.len s x=>match o.op with
  |.call { callee:=.builtin .len,args:=⟨[y]⟩,argTypes:=⟨[t]⟩ }=>(if s then yh P t else(pJ P t).isSome)&&dY y x
  |_=>false
 |.lJ mx xs=>match o.op with
  |.call { callee:=.builtin .max,args,.. }=>mx&&vB args.toList xs
  |.call { callee:=.builtin .min,args,.. }=>!mx&&vB args.toList xs
  |_=>false
 |.ext x i=>match o.op with|.extract y j=>i==j&&dY y x|_=>false
 |.build zero parts=>match o.op with|.build t ps=>Gq P t zero&&Qt P t&&Bp P t ps.toList parts|_=>false
 |.bY z zero n parts=>match o.op with
  |.buildSlice t k ps=>k==n&&DL P t z n&&decide (n*z<=16777216)&&Gv P t zero&&decide (zero.cells.length=z)&&Bq ps.toList parts
  |_=>false
 |.j6 x k=>match o.op with
  |.fieldAddr s y f=>match P.underlying s with
   |some (.struct fields)=>match fields[f]? with
    |some fd=>fd.offset==k&&(match pG P fd.type with|some n=>decide (n≠0)|none=>false)&&dY y x
    |none=>false
   |_=>false
  |_=>false
 |.ng n size x i=>match o.op with
  |.indexAddr t y j=>match Kh P t with
   |some (n',e)=>n'==n&&pG P e==some size&&dY y x&&dY j i
   |none=>false
  |_=>false
 |.qy z x i=>match o.op with
  |.indexAddr t y j=>(match pJ P t with|some e=>pG P e==some z|none=>false)&&dY y x&&dY j i
  |_=>false
 |.mK x i=>match o.op with
  |.index t y j=>yh P t&&dY y x&&dY j i
  |_=>false
 |.slice z x lo hi=>match o.op with
  |.slice t y lo' hi' none=>(match z with
   |none=>yh P t
   |some z=>match pJ P t with|some e=>pG P e==some z|none=>false)&&dY y x&&Bj lo' lo&&Bj hi' hi
  |_=>false
 |.load sh x=>match o.op with|.load t y=>DC P t sh&&dY y x|_=>false
 |.store sz x v=>match o.op with|.store t y u=>pG P t==some sz&&dY y x&&dY u v|_=>false
 |.alloc _ zero=>match o.op with|.alloc t=>Gq P t zero|_=>false
 |.box _ x=>match o.op with|.box _ y=>dY y x|_=>false
 |.bS x=>match o.op with|.box _ y=>dY y x|_=>false
 |.mk _ z zero lim n c=>match o.op with
  |.makeSlice t l k=>DL P t z lim&&Gv P t zero&&decide (zero.cells.length=z)&&dY l n&&dY k c
  |_=>false
 |.app _ z lim x y=>match o.op with
  |.call { callee:=.builtin .append,args:=⟨[a,b]⟩,argTypes:=⟨[t,u]⟩ } =>
   DL P t z lim&&(match pJ P t with|some e=>(P.info? e).any (fun i=>i.zero.any fun v=>v.cells.size==z)|none=>false)&&((pJ P u).isSome||yh P u)&&dY a x&&dY b y
  |_=>false
 |.l7 f caps=>match o.op with
  |.makeFunc (.func g) ⟨[]⟩ cs=>f==g&&decide (g<1000)&&vB cs.toList caps
  |.makeFunc (.func g) fs ⟨[]⟩=>f==g+1000&&vB fs.toList caps
  |_=>false
 |.copy z x y=>match o.op with
  |.call { callee:=.builtin .copy,args:=⟨[a,b]⟩,argTypes:=⟨[t,_]⟩ } =>
   (match pJ P t with|some e=>(P.info? e).any (fun i=>i.size==z&&decide (0<z))|none=>false)&&dY a x&&dY b y
  |_=>false
 |.call f args _=>match o.op with
  |.call { callee:=.value g,args:=as,.. }=>dY g f&&vB as.toList args
  |_=>false
 |.tX x=>match o.op with
  |.panic a=>dY a x
  |_=>false
end
section
variable {w:World}{m:Map}{h:Heap}{P:Program}{env:Env}{a:Act}{o:Oper}
theorem yj{t:TypeId}{n:Nat}(hs:pG P t=some n):(sizeOf t).run P w=.ok n w:=by
 unfold pG at hs;obtain⟨i,hi,rfl⟩:=mE.mp hs;simp[sizeOf,typeInfo,hi]
theorem Qu{t:TypeId}{b:Bool}(hs:Dz P t=some b):(isAgg t).run P w=.ok b w:=by
 unfold Dz at hs;split at hs<;>simp_all[isAgg,underlying]
theorem Br{t e:TypeId}(hs:pJ P t=some e):P.underlying t=some (.slice e):=by
 unfold pJ at hs;split at hs<;>simp_all
theorem Gw{t:TypeId}(hs:yh P t=true):P.underlying t=some .string:=by
 unfold yh at hs;split at hs<;>simp_all
theorem ZM{t e:TypeId}{n:Nat}(hs:Kh P t=some (n,e)):P.underlying t=some (.array n e):=by
 unfold Kh at hs;split at hs<;>simp_all
theorem Qv{t:TypeId}{k:IntKind}(hs:DJ P t=some k):P.underlying t=some (.int k):=by
 unfold DJ at hs;split at hs<;>simp_all
theorem Qw{t:TypeId}(hs:Gu P t=true):P.underlying t=some .bool:=by
 unfold Gu at hs;split at hs<;>simp_all
theorem Qx{x:AV}{u:Value}{b:Bool}{X:Nat->Prop}(hr:R w X m h x u)(hb:toBool x=some b):u=.bool b:=by
 cases x<;>simp_all[toBool,R,RC]
theorem ZN(he:fw w m h env a){x:aK}(hk:bW P o (.aL x)=true):Reads P w m h a o (x.ev env):=by
 simp only[bW]at hk;split at hk
 ·rename_i y hop;exact⟨a.eval y,by simp[execOp,hop],eX he hk⟩
 ·rename_i y hop;exact⟨a.eval y,by simp[execOp,hop],eX he hk⟩
 ·cases hk
theorem ZO(he:fw w m h env a){x:aK}{v:AV}(hk:bW P o (.nV x)=true)(hv:rQ (x.ev env)=some v):Reads P w m h a o v:=by
 simp only[bW]at hk;split at hk
 ·rename_i y hop;have hr:=eX he hk
  have hv':v=x.ev env:=by
   unfold rQ at hv;split at hv<;>simp_all
  refine⟨a.eval y, ?_,by rw[hv'];exact hr⟩
  unfold rQ at hv;split at hv
  ·rename_i e;rw[e]at hr;simp only[R,RC]at hr;obtain⟨b,o',e',_⟩:=hr;simp[execOp,hop,e']
  ·rename_i e;rw[e]at hr;simp only[R]at hr;obtain⟨b,e',_⟩:=hr;simp[execOp,hop,e']
  ·rename_i q i off e;rw[e]at hr;cases q<;>first|(simp[R]at hr;done)|(simp only[R]at hr;obtain⟨b,o',e',_⟩:=hr;simp[execOp,hop,e'];done)|(simp only[R]at hr;obtain⟨b,e',_⟩:=hr;simp[execOp,hop,e'])
  ·rename_i e;rw[e]at hr;simp only[R]at hr;obtain⟨b,e',_⟩:=hr;unfold wP at e';split at e'<;>simp[execOp, *]
  ·cases hv
 ·cases hk
theorem ZP(he:fw w m h env a){c x y:aK}{r:Bool}(hk:bW P o (.pick c x y)=true)(hv:toBool (c.ev env)=some r):Reads P w m h a o (if r then x.ev env else y.ev env):=by
 simp only[bW]at hk;split at hk
 ·rename_i c' x' y' hop;simp only[bg]at hk;have hc:=Qx (eX he hk.1.1) hv;refine⟨if r then a.eval x' else a.eval y', ?_, ?_⟩
  ·simp[execOp,hop,hc,asBool]
  ·cases r
   ·exact eX he hk.2
   ·exact eX he hk.1.2
 ·cases hk
theorem ZQ(he:fw w m h env a){op:BinOp}{x y:aK}{v:AV}(hk:bW P o (.bin op x y)=true)(hv:fI op (x.ev env) (y.ev env)=some v):Reads P w m h a o v:=by
 simp only[bW]at hk;split at hk
 ·rename_i op' t x' y' t2 hop;simp only[bg,decide_eq_true_eq]at hk;obtain⟨⟨rfl,h1⟩,h2⟩:=hk;obtain⟨u,g1,g2,g3⟩:=ZL (P:=P) (eX he h1) (eX he h2) hv t x' y';exact⟨u,by simp[execOp,hop,g1,g2],g3⟩
 ·cases hk
theorem ZR(he:fw w m h env a){op:UnOp}{x:aK}{v:AV}(hk:bW P o (.un op x)=true)(hv:zx op (x.ev env)=some v):Reads P w m h a o v:=by
 simp only[bW]at hk;split at hk
 ·rename_i op' t x' hop;simp only[bg,decide_eq_true_eq]at hk;obtain⟨rfl,h1⟩:=hk;have hr:=eX he h1;unfold zx at hv;split at hv
  ·rename_i k n e;rw[e,jU]at hr;cases op'<;>simp at hv;subst hv;exact⟨_,by simp[execOp,hop,hr,Op.unary,Op.intArith];rfl,jU.mpr (by simp)⟩
  ·rename_i b e;rw[e,vC]at hr;cases op'<;>simp at hv;subst hv;exact⟨_,by simp[execOp,hop,hr,Op.unary],vC.mpr rfl⟩
  ·cases hv
 ·cases hk
theorem ZT(he:fw w m h env a){k:IntKind}{x:aK}{v:AV}(hk:bW P o (.conv k x)=true)(hv:Dn k (x.ev env)=some v):Reads P w m h a o v:=by
 simp only[bW]at hk;split at hk
 ·rename_i src dst x' hop;simp only[bg,beq_iff_eq]at hk;obtain⟨⟨h0,h1⟩,h2⟩:=hk;have hr:=eX he h2;have hd:=Qv h1;obtain⟨d,hs⟩:=yc.mp h0;unfold Dn at hv;split at hv
  ·rename_i k' n e;rw[e,jU]at hr;simp only[aP]at hv;subst hv;refine⟨.int k (k.wrap n), ?_,jU.mpr rfl⟩;cases d<;>simp[execOp,hop,hr,convert,underlying,hs,hd,Conv.intToInt]
  ·cases hv
 ·cases hk
theorem Ki{w:World}{X:Nat->Prop}{m:Map}{h:Heap}:∀{ks:List Kd} {as:List AV} {vs:List Value},ig ks as=true->RL w X m h as vs->vs=as.map AV.fv
 |[],[],vs,_,hr=>by simpa[RL]using hr
 |k::ks,a::as,vs,hk,hr=>by
  simp only[ig,bg,beq_iff_eq]at hk;simp only[RL]at hr;obtain⟨u,us,rfl,h1,h2⟩:=hr;rw[Ki hk.2 h2,List.map_cons];congr 1
  cases k with
  |b=>obtain⟨b,rfl⟩:=Kb hk.1;simpa[R,RC,AV.fv]using h1
  |i q=>obtain⟨n,rfl⟩:=Kc hk.1;simpa[R,RC,AV.fv]using h1
  |s=>obtain⟨l,rfl⟩:=Ke hk.1;simpa[R,RC,AV.fv]using h1
 |[],_::_,_,h,_=>by simp[ig]at h
 |_::_,[],_,h,_=>by simp[ig]at h
theorem ZU{P:Program}(w:World){t:TypeId}{ks:List Kd}{as bs:List AV}(hc:mO P 50 t ks=true)(hu:(match P.underlying t with|some (.array _ _)|some (.struct _)=>true|_=>false)=true)(ha:ig ks as=true)(hb:ig ks bs=true) :
  (Op.equalIn 10000 t (.agg (as.map AV.fv).toArray) (.agg (bs.map AV.fv).toArray)).run P w=.ok (iU as bs) w:=by
 have:=Kg (P:=P) 9950 50 t w ks as bs hc ha hb;unfold mkV at this;split at this
 ·exact this
 ·exact this
 ·split at hu<;>simp_all
theorem ZV(he:fw w m h env a){neg:Bool}{ks:List Kd}{x y:aK}{v:AV}(hk:bW P o (.eqv neg ks x y)=true)(hv:tY neg ks (x.ev env) (y.ev env)=some v):Reads P w m h a o v:=by
 simp only[bW]at hk
 have key:∀{t:TypeId} {x' y':Operand},DN P t ks=true->dY x' x=true->dY y' y=true->∃ r:Bool,v=.bool (if neg then !r else r) /\
   (∀ op,(eqGuard op t x' y' (a.eval x') (a.eval y')).run P w=.ok () w)/\(binOp .eql t (a.eval x') (a.eval y')).run P w=.ok (.bool r) w/\(binOp .neq t (a.eval x') (a.eval y')).run P w=.ok (.bool (!r)) w:=by
  intro t x' y' ht h1 h2;have hr1:=eX he h1;have hr2:=eX he h2;unfold tY at hv;split at hv
  ·rename_i p q e1 e2;split at hv
   ·rename_i hks;subst hks;rw[e1,vC]at hr1;rw[e2,vC]at hr2;simp only[aP]at hv
    have hb:Gu P t=true:=by
     unfold DN at ht;split at ht
     ·rename_i hu;simp[Gu,hu]
     ·simp at ht
     ·simp at ht
     ·cases ht
    rw[hr1,hr2];refine⟨p==q,hv.symm,fun op=>?_,run_eql_bool w t p q (Qw hb),run_neq_bool w t p q (Qw hb)⟩;unfold eqGuard;simp
   ·cases hv
  ·rename_i as bs e1 e2;rw[e1]at hr1;rw[e2]at hr2;simp only[R]at hr1 hr2;obtain⟨us,e3,_,r1⟩:=hr1;obtain⟨vs,e4,_,r2⟩:=hr2;split at hv
   ·rename_i hkk;obtain⟨hne,hkk⟩:=hkk;simp only[bg]at hkk;rw[Ki hkk.1 r1]at e3;rw[Ki hkk.2 r2]at e4;simp only[aP]at hv
    have hc:mO P 50 t ks=true/\P.eqGuardType P.depth t=false/\(match P.underlying t with|some (.array _ _)|some (.struct _)=>true|_=>false)=true:=by
     unfold DN at ht;split at ht
     ·simp only[beq_iff_eq]at ht;exact absurd ht hne
     ·rename_i hu;simp only[bg,ku]at ht;exact⟨ht.1.2,ht.2,by rw[hu]⟩
     ·rename_i hu;simp only[bg,ku]at ht;exact⟨ht.1.2,ht.2,by rw[hu]⟩
     ·cases ht
    have hrun:=ZU w hc.1 hc.2.2 hkk.1 hkk.2;rw[e3,e4];refine⟨iU as bs,hv.symm,fun op=>run_eqGuard_agg w op t x' y' _ _ hc.2.1, ?_, ?_⟩
    ·rw[run_eql_struct,hrun];rfl
    ·rw[run_neq_struct,hrun];rfl
   ·cases hv
  ·cases hv
 split at hk
 ·rename_i t x' y' t2 hop;simp only[bg,ku]at hk;obtain⟨⟨⟨rfl,ht⟩,h1⟩,h2⟩:=hk;obtain⟨r,rfl,hg,e1,e2⟩:=key ht h1 h2;refine⟨.bool r, ?_,vC.mpr (by simp)⟩
  simp only[execOp,hop,Sem.run_bind,hg,Result.andThen_ok,e1,Sem.run_pure]
 ·rename_i t x' y' t2 hop;simp only[bg]at hk;obtain⟨⟨⟨rfl,ht⟩,h1⟩,h2⟩:=hk;obtain⟨r,rfl,hg,e1,e2⟩:=key ht h1 h2;refine⟨.bool (!r), ?_,vC.mpr (by simp)⟩
  simp only[execOp,hop,Sem.run_bind,hg,Result.andThen_ok,e2,Sem.run_pure]
 ·cases hk
theorem ZW(he:fw w m h env a){s:Bool}{x:aK}{v:AV}(hk:bW P o (.len s x)=true)(hv:jc s (x.ev env)=some v):Reads P w m h a o v:=by
 simp only[bW]at hk;split at hk
 ·rename_i y t hop;simp only[bg]at hk;obtain⟨h0,h1⟩:=hk;have hr:=eX he h1
  cases s with
  |true =>
   simp only[if_true]at h0;have ht:=Gw h0;simp only[jc,if_true]at hv;split at hv
   ·rename_i l e;simp only[aP]at hv;subst hv;rw[e,oh]at hr;exact⟨_,by simp[execOp,hop,resolve,invoke,builtin,hr,Builtin.len_,underlying,ht,goInt];rfl,jU.mpr (by simp[ByteArray.size])⟩
   ·cases hv
  |false =>
   simp only[fJ,if_false]at h0;obtain⟨e,hse⟩:=yc.mp h0;have ht:=Br hse;simp only[jc,fJ,if_false,mE]at hv;obtain⟨n,hn,rfl⟩:=hv;obtain⟨ad,cap,e',_⟩:=Qj hr hn;exact⟨_,by simp[execOp,hop,resolve,invoke,builtin,e',Builtin.len_,underlying,ht,goInt],jU.mpr rfl⟩
 ·cases hk
theorem Kj{mx:Bool}{x y v:AV}{p q:Value}{X:Nat->Prop}(hx:R w X m h x p)(hy:R w X m h y q)(hv:zA mx x y=some v) :
  ∃ u,((if mx then Builtin.max2 p q else Builtin.min2 p q):Sem Value).run P w=.ok u w/\R w X m h v u:=by
 unfold zA at hv;split at hv
 ·rename_i k x k' y;rw[jU]at hx hy;subst hx hy;simp only[aP]at hv;subst hv;cases mx
  ·exact⟨_,by simp[Builtin.min2];rfl,jU.mpr (by simp)⟩
  ·exact⟨_,by simp[Builtin.max2];rfl,jU.mpr (by simp)⟩
 ·cases hv
theorem Qy{mx:Bool}{xs:List AV}{v:AV}{ps:List Value}{X:Nat->Prop}(hx:RL w X m h xs ps)(hv:vk mx xs=some v)(ts:Array TypeId)(t:TypeId) :
  ∃ u,((if mx then Builtin.max_ ts t ps.toArray else Builtin.min_ ts t ps.toArray):Sem Value).run P w=.ok u w/\R w X m h v u:=by
 unfold vk at hv;split at hv
 ·cases hv
 ·rename_i x;simp only[aP]at hv;subst hv;simp only[RL]at hx;obtain⟨u,us,rfl,h1,rfl⟩:=hx;cases mx
  ·exact⟨u,by simp[Builtin.min_],h1⟩
  ·exact⟨u,by simp[Builtin.max_],h1⟩
 ·rename_i x y;simp only[RL]at hx;obtain⟨u,us,rfl,h1,u2,ZX,rfl,h2,rfl⟩:=hx;obtain⟨r,hr,hR⟩:=Kj (P:=P) h1 h2 hv;cases mx
  ·exact⟨r,by simpa[Builtin.min_]using hr,hR⟩
  ·exact⟨r,by simpa[Builtin.max_]using hr,hR⟩
 ·rename_i x y z;obtain⟨q,hq,hv⟩:=bE.mp hv;simp only[RL]at hx;obtain⟨u,us,rfl,h1,u2,ZX,rfl,h2,u3,us3,rfl,h3,rfl⟩:=hx;obtain⟨r,hr,hR⟩:=Kj (P:=P) h1 h2 hq;obtain⟨r',hr',hR'⟩:=Kj (P:=P) hR h3 hv;cases mx
  ·exact⟨r',by simp at hr hr';simp[Builtin.min_,hr,hr'],hR'⟩
  ·exact⟨r',by simp at hr hr';simp[Builtin.max_,hr,hr'],hR'⟩
 ·cases hv
theorem ZY(he:fw w m h env a){mx:Bool}{xs:List aK}{v:AV}(hk:bW P o (.lJ mx xs)=true)(hv:vk mx (evs env xs)=some v):Reads P w m h a o v:=by
 simp only[bW]at hk;split at hk
 ·rename_i args ts hop;simp only[bg]at hk;obtain⟨rfl,h1⟩:=hk;obtain⟨u,hu,hR⟩:=Qy (P:=P) (Bn he h1) hv ts o.type;refine⟨u, ?_,hR⟩;have:args.map a.eval=(args.toList.map a.eval).toArray:=by rw[<-Array.toList_map,Array.toArray_toList]
  simp only[if_true]at hu;simp[execOp,hop,resolve,invoke,builtin,this,-List.map_toArray,-Array.toList_map,hu]
 ·rename_i args ts hop;simp only[bg,ku]at hk;obtain⟨rfl,h1⟩:=hk;obtain⟨u,hu,hR⟩:=Qy (P:=P) (Bn he h1) hv ts o.type;refine⟨u, ?_,hR⟩;have:args.map a.eval=(args.toList.map a.eval).toArray:=by rw[<-Array.toList_map,Array.toArray_toList]
  simp only[fJ,if_false]at hu;simp[execOp,hop,resolve,invoke,builtin,this,-List.map_toArray,-Array.toList_map,hu]
 ·cases hk
theorem Z0(he:fw w m h env a){x:aK}{i:Nat}{v:AV}(hk:bW P o (.ext x i)=true)(hv:Dp (x.ev env) i=some v):Reads P w m h a o v:=by
 simp only[bW]at hk;split at hk
 ·rename_i y j hop;simp only[bg,beq_iff_eq]at hk;obtain⟨rfl,h1⟩:=hk;have hr:=eX he h1;unfold Dp at hv;split at hv
  ·rename_i vs e;rw[e]at hr;simp only[R]at hr;obtain⟨us,e',hl⟩:=hr;obtain⟨u,hu,hR⟩:=(nZ vs us hl).2 i v hv;exact⟨u,by simp[execOp,hop,e',Instr.extract,hu],hR⟩
  ·cases hv
 ·cases hk
end
end Go.VI
