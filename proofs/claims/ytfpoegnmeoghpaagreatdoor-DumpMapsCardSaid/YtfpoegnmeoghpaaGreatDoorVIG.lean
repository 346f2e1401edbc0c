/- Which operation of the machine an operation stands for; the operations that only read. -/
import Derived.Test.YtfpoegnmeoghpaaGreatDoorVIF
import Derived.Test.YtfpoegnmeoghpaaGreatDoorVIEQ
import Derived.Laws.Tables
import Derived.Laws.Slices
import Derived.Laws.Build
import Derived.Laws.Cover3
set_option linter.unusedVariables false
set_option linter.unusedSimpArgs false
namespace Go.VI
set_option linter.unusedSectionVars false
variable [dH][Rounds]
section
variable (P:Program)
def uK(t:TypeId):Option TypeId:=match P.underlying t with|some (.slice e)=>some e|_=>none
def Dm(t:TypeId):Bool:=match P.underlying t with|some .string=>true|_=>false
def Rp(t:TypeId):Option (Nat×TypeId):=match P.underlying t with|some (.array n e)=>some (n,e)|_=>none
def J4(t:TypeId):Option IntKind:=match P.underlying t with|some (.int k)=>some k|_=>none
def Xg(t:TypeId):Bool:=match P.underlying t with|some (.interface _)=>true|_=>false
def mapKey(t:TypeId):Option IntKind:=match P.underlying t with|some (.map k _)=>J4 P k|_=>none
def arD(t:TypeId)(zero:AV):Bool:=match P.underlying t with
 |some (.map _ e)=>match (P.info? e).bind (·.zero)with|some v=>Cc zero v|none=>false
 |_=>false
def Xh(t:TypeId):Bool:=match P.underlying t with|some (.slice e)=>J4 P e==some .u8&&(P.info? e).any (fun i=>i.size==1&&i.bytes==1)|_=>false
def NC(t:TypeId):Bool:=match P.underlying t with|some .bool=>true|_=>false
def J5(t:TypeId)(i:Nat):Option (Nat×Nat) :=
 match P.underlying t with
 |some (.array _ e)=>(P.info? e).map fun ie=>(i*ie.size,ie.size)
 |some (.struct fields)=>(fields.toList.mapM fun f=>(P.info? f.type).map fun i=>(f.offset,i.size)).bind fun l=>l[i]?
 |_=>none
def Gy(t:TypeId):List (Nat×Operand)->List (Nat×Nat×aL)->Bool
 |[],[]=>true
 |(i,o)::os,(off,n,x)::xs=>J5 P t i==some (off,n)&&iA o x&&Gy t os xs
 |_,_=>false
def Gz:List (Nat×Operand)->List (Nat×aL)->Bool
 |[],[]=>true
 |(i,o)::os,(j,x)::xs=>i==j&&iA o x&&Gz os xs
 |_,_=>false
def Xi(t:TypeId):Bool :=
 match P.underlying t with
 |some (.array _ e)=>(P.info? e).isSome
 |some (.struct fields)=>(fields.toList.mapM fun f=>(P.info? f.type).map fun i=>(f.offset,i.size)).isSome
 |_=>false
def J6(t:TypeId)(z lim:Nat):Bool :=
 match uK P t with
 |some e=>match P.info? e with
  |some i=>i.size==z&&decide (0<z)&&decide (lim*i.bytes<=140737488355328)&&decide (lim<=140737488355328)
  |none=>false
 |none=>false
def ND(t:TypeId)(zero:AV):Bool :=
 match uK P t with
 |some e=>match (P.info? e).bind (·.zero) with
  |some v=>Cc zero v
  |none=>false
 |none=>false
def J7(t:TypeId)(ks:List Kd):Bool :=
 match P.underlying t with
 |some .bool=>ks==[]
 |some (.array _ _)|some (.struct _)=>ks != []&&sj P 50 t ks&&!P.eqGuardType P.depth t
 |_=>false
def fw(o:Oper):XI->Bool
 |.bf x=>match o.op with|.move y|.assign y=>iA y x|_=>false
 |.BO neg x=>match o.op with
  |.binOp .eql t x' (.const (.slice none 0 0)) _=>!neg&&(uK P t).isSome&&iA x' x
  |.binOp .neq t x' (.const (.slice none 0 0)) _=>neg&&(uK P t).isSome&&iA x' x
  |_=>false
 |.zk _=>match o.op with|.alloc t=>t==dH.rD&&(P.info? t).any (fun i=>match i.zero with|some (.agg ⟨[.pointer none,.slice none 0 0]⟩)=>true|_=>false)|_=>false
 |.yc _ f x y=>match o.op with
  |.call { callee:=.value (.func g),args:=⟨[p,q]⟩,.. }=>g==f&&dH.Jy f&&iA p x&&iA q y
  |_=>false
 |.yg f x=>match o.op with
  |.call { callee:=.value (.func g),args:=⟨[p]⟩,.. }=>g==f&&dH.Jz f&&iA p x
  |_=>false
 |.yh x=>match o.op with|.convert s d y=>Dm P d&&Xh P s&&iA y x|_=>false
 |.zl t x=>match o.op with|.makeInterface t' y=>t'==t&&!Xg P t&&(P.underlying t).isSome&&iA y x|_=>false
 |.qQ x=>match o.op with|.nilCheck y=>iA y x|_=>false
 |.pick c a b=>match o.op with|.pick c' a' b'=>iA c' c&&iA a' a&&iA b' b|_=>false
 |.bin op x y=>match o.op with|.binOp op' _ x' y' _=>decide (op'=op)&&iA x' x&&iA y' y|_=>false
 |.un op x=>match o.op with|.unOp op' _ x'=>decide (op'=op)&&iA x' x|_=>false
 |.conv k x=>match o.op with|.convert src dst x'=>(P.underlying src).isSome&&J4 P dst==some k&&iA x' x|_=>false
 |.eqv neg ks x y=>match o.op with
  |.binOp .eql t x' y' _=>!neg&&J7 P t ks&&iA x' x&&iA y' y
  |.binOp .neq t x' y' _=>neg&&J7 P t ks&&iA x' x&&iA y' y
  |_=>false
 |.len s x=>match o.op with
  |.call { callee:=.builtin .len,args:=⟨[y]⟩,argTypes:=⟨[t]⟩ }=>(if s then Dm P t else(uK P t).isSome)&&iA y x
  |_=>false
 |.u6 mx xs=>match o.op with
  |.call { callee:=.builtin .max,args,.. }=>mx&&zD args.toList xs
  |.call { callee:=.builtin .min,args,.. }=>!mx&&zD args.toList xs
  |_=>false
 |.ext x i=>match o.op with|.extract y j=>i==j&&iA y x|_=>false
 |.build zero parts=>match o.op with|.build t ps=>Nw P t zero&&Xi P t&&Gy P t ps.toList parts|_=>false
 |.gW z zero n parts=>match o.op with
  |.buildSlice t k ps=>k==n&&J6 P t z n&&decide (n*z<=16777216)&&ND P t zero&&decide (zero.cells.length=z)&&Gz ps.toList parts
  |_=>false
 |.pM x k=>match o.op with
  |.fieldAddr s y f=>match P.underlying s with
   |some (.struct fields)=>match fields[f]? with
    |some fd=>fd.offset==k&&(match vO P fd.type with|some n=>decide (n≠0)|none=>false)&&iA y x
    |none=>false
   |_=>false
  |_=>false
 |.zi n size x i=>match o.op with
  |.indexAddr t y j=>match Rp P t with
   |some (n',e)=>n'==n&&vO P e==some size&&iA y x&&iA j i
   |none=>false
  |_=>false
 |.u7 z x i=>match o.op with
  |.indexAddr t y j=>(match uK P t with|some e=>vO P e==some z|none=>false)&&iA y x&&iA j i
  |_=>false
 |.rY x i=>match o.op with
  |.index t y j=>Dm P t&&iA y x&&iA j i
  |_=>false
 |.slice z x lo hi=>match o.op with
  |.slice t y lo' hi' none=>(match z with
   |none=>Dm P t
   |some z=>match uK P t with|some e=>vO P e==some z|none=>false)&&iA y x&&Gu lo' lo&&Gu hi' hi
  |_=>false
 |.load sh x=>match o.op with|.load t y=>JK P t sh&&iA y x|_=>false
 |.store sz x v=>match o.op with|.store t y u=>vO P t==some sz&&iA y x&&iA u v|_=>false
 |.alloc _ zero=>match o.op with|.alloc t=>Nw P t zero|_=>false
 |.box _ x=>match o.op with|.box _ y=>iA y x|_=>false
 |.dV x=>match o.op with|.box _ y=>iA y x|_=>false
 |.mk _ z zero lim n c=>match o.op with
  |.makeSlice t l k=>J6 P t z lim&&ND P t zero&&decide (zero.cells.length=z)&&iA l n&&iA k c
  |_=>false
 |.app _ z lim x y=>match o.op with
  |.call { callee:=.builtin .append,args:=⟨[a,b]⟩,argTypes:=⟨[t,u]⟩ } =>
   J6 P t z lim&&(match uK P t with|some e=>(P.info? e).any (fun i=>i.zero.any fun v=>v.cells.size==z)|none=>false)&&((uK P u).isSome||Dm P u)&&iA a x&&iA b y
  |_=>false
 |.qA f caps=>match o.op with
  |.makeFunc (.func g) ⟨[]⟩ cs=>f==g&&decide (g<1000)&&zD cs.toList caps
  |.makeFunc (.func g) fs ⟨[]⟩=>f==g+1000&&zD fs.toList caps
  |_=>false
 |.copy z x y=>match o.op with
  |.call { callee:=.builtin .copy,args:=⟨[a,b]⟩,argTypes:=⟨[t,_]⟩ } =>
   (match uK P t with|some e=>(P.info? e).any (fun i=>i.size==z&&decide (0<z))|none=>false)&&iA a x&&iA b y
  |_=>false
 |.call f args _=>match o.op with
  |.call { callee:=.value g,args:=as,.. }=>iA g f&&zD as.toList args
  |_=>false
 |.mH _ f args=>match o.op with
  |.call { callee:=.value g,args:=as,.. }=>iA g f&&zD as.toList args
  |_=>false
 |.zw x=>match o.op with
  |.panic a=>iA a x
  |_=>false
end
section
variable {w:World}{m:Map}{h:Heap}{P:Program}{env:Env}{a:Act}{o:Oper}
theorem Dn{t:TypeId}{n:Nat}(hs:vO P t=some n):(sizeOf t).run P w=.ok n w:=by
 unfold vO at hs;obtain⟨i,hi,rfl⟩:=mE.mp hs;simp[sizeOf,typeInfo,hi]
theorem Xj{t:TypeId}{b:Bool}(hs:JJ P t=some b):(isAgg t).run P w=.ok b w:=by
 unfold JJ at hs;split at hs<;>simp_all[isAgg,underlying]
theorem Dp{t e:TypeId}(hs:uK P t=some e):P.underlying t=some (.slice e):=by
 unfold uK at hs;split at hs<;>simp_all
theorem NF{t:TypeId}(hs:Dm P t=true):P.underlying t=some .string:=by
 unfold Dm at hs;split at hs<;>simp_all
theorem ae9{t e:TypeId}{n:Nat}(hs:Rp P t=some (n,e)):P.underlying t=some (.array n e):=by
 unfold Rp at hs;split at hs<;>simp_all
theorem Xk{t:TypeId}{k:IntKind}(hs:J4 P t=some k):P.underlying t=some (.int k):=by
 unfold J4 at hs;split at hs<;>simp_all
theorem Xl{t:TypeId}(hs:NC P t=true):P.underlying t=some .bool:=by
 unfold NC at hs;split at hs<;>simp_all
theorem Xm{x:AV}{u:Value}{b:Bool}{X:Nat->Prop}(hr:R w X m h x u)(hb:toBool x=some b):u=.bool b:=by
 cases x<;>simp_all[toBool,R,RC]
theorem ae'(he:jb w m h env a){x:aL}(hk:fw P o (.bf x)=true):Reads P w m h a o (x.ev env):=by
 simp only[fw]at hk;split at hk
 ·rename_i y hop;exact⟨a.eval y,by simp[execOp,hop],iQ he hk⟩
 ·rename_i y hop;exact⟨a.eval y,by simp[execOp,hop],iQ he hk⟩
 ·cases hk
theorem Xo{w:World}{X:Nat->Prop}{m:Map}{h:Heap}{neg:Bool}{x v:AV}{u:Value}(hr:R w X m h x u)(hv:Gi neg x=some v):∃ a l c,u=.slice a l c/\v=.bool (if neg then !a.isNone else a.isNone):=by
 unfold Gi at hv;split at hv
 ·simp only[R,RC]at hr;simp only[aS]at hv;exact⟨none,0,0,hr,by rw[<-hv];cases neg<;>rfl⟩
 ·simp only[R,RC]at hr;obtain⟨a,cap,e,_,h3⟩:=hr;rcases h3 with h3|⟨b,o,rfl,_⟩
  ·cases h3
  ·simp only[aS]at hv;exact⟨_,_,_,e,by rw[<-hv];cases neg<;>rfl⟩
 ·simp only[R,RC]at hr;obtain⟨a,e,h3⟩:=hr;rcases h3 with h3|⟨b,o,rfl,_⟩
  ·cases h3
  ·simp only[aS]at hv;exact⟨_,_,_,e,by rw[<-hv];cases neg<;>rfl⟩
 ·simp only[R]at hr;obtain⟨a,cap,e,h1,h2,_⟩:=hr
  cases a with
  |none=>have:=h2 rfl;omega
  |some a =>
   simp only[aS]at hv;exact⟨_,_,_,e,by rw[<-hv];cases neg<;>rfl⟩
 ·cases hv
theorem afa(he:jb w m h env a){neg:Bool}{x:aL}{v:AV}(hk:fw P o (.BO neg x)=true)(hv:Gi neg (x.ev env)=some v):Reads P w m h a o v:=by
 simp only[fw]at hk;split at hk
 ·rename_i t x' t2 hop;simp only[bM,sD]at hk;obtain⟨⟨rfl,hs⟩,h1⟩:=hk;obtain⟨el,hs⟩:=xh.mp hs;obtain⟨ad,l,c,e,rfl⟩:=Xo (iQ he h1) hv;refine⟨.bool ad.isNone, ?_,yB.mpr (by simp)⟩
  have hg:∀ op,(eqGuard op t x' (.const (.slice none 0 0)) (.slice ad l c) (.slice none 0 0)).run P w=.ok () w:=fun op=>by cases op<;>simp[eqGuard]
  simp only[execOp,hop,e,show a.eval (.const (.slice none 0 0))=.slice none 0 0 from rfl,Sem.run_bind,hg,Result.andThen_ok]
  simp[binOp,run_equal_slice_nil w t el ad l c (Dp hs)]
 ·rename_i t x' t2 hop;simp only[bM]at hk;obtain⟨⟨rfl,hs⟩,h1⟩:=hk;obtain⟨el,hs⟩:=xh.mp hs;obtain⟨ad,l,c,e,rfl⟩:=Xo (iQ he h1) hv;refine⟨.bool (!ad.isNone), ?_,yB.mpr (by simp)⟩
  have hg:∀ op,(eqGuard op t x' (.const (.slice none 0 0)) (.slice ad l c) (.slice none 0 0)).run P w=.ok () w:=fun op=>by cases op<;>simp[eqGuard]
  simp only[execOp,hop,e,show a.eval (.const (.slice none 0 0))=.slice none 0 0 from rfl,Sem.run_bind,hg,Result.andThen_ok]
  simp[binOp,run_equal_slice_nil w t el ad l c (Dp hs)]
 ·cases hk
theorem afb(he:jb w m h env a){x:aL}{v:AV}(hk:fw P o (.qQ x)=true)(hv:wW (x.ev env)=some v):Reads P w m h a o v:=by
 simp only[fw]at hk;split at hk
 ·rename_i y hop;have hr:=iQ he hk
  have hv':v=x.ev env:=by
   unfold wW at hv;split at hv<;>simp_all
  refine⟨a.eval y, ?_,by rw[hv'];exact hr⟩
  unfold wW at hv;split at hv
  ·rename_i e;rw[e]at hr;simp only[R,RC]at hr;obtain⟨b,o',e',_⟩:=hr;simp[execOp,hop,e']
  ·rename_i e;rw[e]at hr;simp only[R]at hr;obtain⟨b,e',_⟩:=hr;simp[execOp,hop,e']
  ·rename_i q i off e;rw[e]at hr;cases q<;>first|(simp[R]at hr;done)|(simp only[R]at hr;obtain⟨b,o',e',_⟩:=hr;simp[execOp,hop,e'];done)|(simp only[R]at hr;obtain⟨b,e',_⟩:=hr;simp[execOp,hop,e'])
  ·rename_i e;rw[e]at hr;simp only[R]at hr;obtain⟨b,e',_⟩:=hr;unfold Aw at e';split at e'<;>simp[execOp,hop,e',Aw, *]
  ·cases hv
 ·cases hk
theorem afc(he:jb w m h env a){c x y:aL}{r:Bool}(hk:fw P o (.pick c x y)=true)(hv:toBool (c.ev env)=some r):Reads P w m h a o (if r then x.ev env else y.ev env):=by
 simp only[fw]at hk;split at hk
 ·rename_i c' x' y' hop;simp only[bM]at hk;have hc:=Xm (iQ he hk.1.1) hv;refine⟨if r then a.eval x' else a.eval y', ?_, ?_⟩
  ·simp[execOp,hop,hc,asBool]
  ·cases r
   ·exact iQ he hk.2
   ·exact iQ he hk.1.2
 ·cases hk
theorem afd(he:jb w m h env a){op:BinOp}{x y:aL}{v:AV}(hk:fw P o (.bin op x y)=true)(hv:jh op (x.ev env) (y.ev env)=some v):Reads P w m h a o v:=by
 simp only[fw]at hk;split at hk
 ·rename_i op' t x' y' t2 hop;simp only[bM,decide_eq_true_eq]at hk;obtain⟨⟨rfl,h1⟩,h2⟩:=hk;obtain⟨u,g1,g2,g3⟩:=ae8 (P:=P) (iQ he h1) (iQ he h2) hv t x' y';exact⟨u,by simp[execOp,hop,g1,g2],g3⟩
 ·cases hk
theorem afe(he:jb w m h env a){op:UnOp}{x:aL}{v:AV}(hk:fw P o (.un op x)=true)(hv:Ey op (x.ev env)=some v):Reads P w m h a o v:=by
 simp only[fw]at hk;split at hk
 ·rename_i op' t x' hop;simp only[bM,decide_eq_true_eq]at hk;obtain⟨rfl,h1⟩:=hk;have hr:=iQ he h1;unfold Ey at hv;split at hv
  ·rename_i k n e;rw[e,pF]at hr;cases op'<;>simp at hv;subst hv;exact⟨_,by simp[execOp,hop,hr,Op.unary,Op.intArith];rfl,pF.mpr (by simp)⟩
  ·rename_i b e;rw[e,yB]at hr;cases op'<;>simp at hv;subst hv;exact⟨_,by simp[execOp,hop,hr,Op.unary],yB.mpr rfl⟩
  ·cases hv
 ·cases hk
theorem aff(he:jb w m h env a){k:IntKind}{x:aL}{v:AV}(hk:fw P o (.conv k x)=true)(hv:Ju k (x.ev env)=some v):Reads P w m h a o v:=by
 simp only[fw]at hk;split at hk
 ·rename_i src dst x' hop;simp only[bM,beq_iff_eq]at hk;obtain⟨⟨h0,h1⟩,h2⟩:=hk;have hr:=iQ he h2;have hd:=Xk h1;obtain⟨d,hs⟩:=xh.mp h0;unfold Ju at hv;split at hv
  ·rename_i k' n e;rw[e,pF]at hr;simp only[aS]at hv;subst hv;refine⟨.int k (k.wrap n), ?_,pF.mpr rfl⟩;cases d<;>simp[execOp,hop,hr,convert,underlying,hs,hd,Conv.intToInt]
  ·cases hv
 ·cases hk
theorem Rq{w:World}{X:Nat->Prop}{m:Map}{h:Heap}:∀{ks:List Kd} {as:List AV} {vs:List Value},kX ks as=true->RL w X m h as vs->vs=as.map AV.fv
 |[],[],vs,_,hr=>by simpa[RL]using hr
 |k::ks,a::as,vs,hk,hr=>by
  simp only[kX,bM,beq_iff_eq]at hk;simp only[RL]at hr;obtain⟨u,us,rfl,h1,h2⟩:=hr;rw[Rq hk.2 h2,List.map_cons];congr 1
  cases k with
  |b=>obtain⟨b,rfl⟩:=Rl hk.1;simpa[R,RC,AV.fv]using h1
  |i q=>obtain⟨n,rfl⟩:=Rm hk.1;simpa[R,RC,AV.fv]using h1
  |s=>obtain⟨l,rfl⟩:=Rn hk.1;simpa[R,RC,AV.fv]using h1
 |[],_::_,_,h,_=>by simp[kX]at h
 |_::_,[],_,h,_=>by simp[kX]at h
theorem afg{P:Program}(w:World){t:TypeId}{ks:List Kd}{as bs:List AV}(hc:sj P 50 t ks=true)(hu:(match P.underlying t with|some (.array _ _)|some (.struct _)=>true|_=>false)=true)(ha:kX ks as=true)(hb:kX ks bs=true) :
  (Op.equalIn 10000 t (.agg (as.map AV.fv).toArray) (.agg (bs.map AV.fv).toArray)).run P w=.ok (mX as bs) w:=by
 have:=Ro (P:=P) 9950 50 t w ks as bs hc ha hb;unfold mkV at this;split at this
 ·exact this
 ·exact this
 ·split at hu<;>simp_all
theorem afh(he:jb w m h env a){neg:Bool}{ks:List Kd}{x y:aL}{v:AV}(hk:fw P o (.eqv neg ks x y)=true)(hv:Ap neg ks (x.ev env) (y.ev env)=some v):Reads P w m h a o v:=by
 simp only[fw]at hk
 have key:∀{t:TypeId} {x' y':Operand},J7 P t ks=true->iA x' x=true->iA y' y=true->∃ r:Bool,v=.bool (if neg then !r else r) /\
   (∀ op,(eqGuard op t x' y' (a.eval x') (a.eval y')).run P w=.ok () w)/\(binOp .eql t (a.eval x') (a.eval y')).run P w=.ok (.bool r) w/\(binOp .neq t (a.eval x') (a.eval y')).run P w=.ok (.bool (!r)) w:=by
  intro t x' y' ht h1 h2;have hr1:=iQ he h1;have hr2:=iQ he h2;unfold Ap at hv;split at hv
  ·rename_i p q e1 e2;split at hv
   ·rename_i hks;subst hks;rw[e1,yB]at hr1;rw[e2,yB]at hr2;simp only[aS]at hv
    have hb:NC P t=true:=by
     unfold J7 at ht;split at ht
     ·rename_i hu;simp[NC,hu]
     ·simp at ht
     ·simp at ht
     ·cases ht
    rw[hr1,hr2];refine⟨p==q,hv.symm,fun op=>?_,run_eql_bool w t p q (Xl hb),run_neq_bool w t p q (Xl hb)⟩;unfold eqGuard;simp
   ·cases hv
  ·rename_i as bs e1 e2;rw[e1]at hr1;rw[e2]at hr2;simp only[R]at hr1 hr2;obtain⟨us,e3,_,r1⟩:=hr1;obtain⟨vs,e4,_,r2⟩:=hr2;split at hv
   ·rename_i hkk;obtain⟨hne,hkk⟩:=hkk;simp only[bM]at hkk;rw[Rq hkk.1 r1]at e3;rw[Rq hkk.2 r2]at e4;simp only[aS]at hv
    have hc:sj P 50 t ks=true/\P.eqGuardType P.depth t=false/\(match P.underlying t with|some (.array _ _)|some (.struct _)=>true|_=>false)=true:=by
     unfold J7 at ht;split at ht
     ·simp only[beq_iff_eq]at ht;exact absurd ht hne
     ·rename_i hu;simp only[bM,sD]at ht;exact⟨ht.1.2,ht.2,by rw[hu]⟩
     ·rename_i hu;simp only[bM,sD]at ht;exact⟨ht.1.2,ht.2,by rw[hu]⟩
     ·cases ht
    have hrun:=afg w hc.1 hc.2.2 hkk.1 hkk.2;rw[e3,e4];refine⟨mX as bs,hv.symm,fun op=>run_eqGuard_agg w op t x' y' _ _ hc.2.1, ?_, ?_⟩
    ·rw[run_eql_struct,hrun];rfl
    ·rw[run_neq_struct,hrun];rfl
   ·cases hv
  ·cases hv
 split at hk
 ·rename_i t x' y' t2 hop;simp only[bM,sD]at hk;obtain⟨⟨⟨rfl,ht⟩,h1⟩,h2⟩:=hk;obtain⟨r,rfl,hg,e1,e2⟩:=key ht h1 h2;refine⟨.bool r, ?_,yB.mpr (by simp)⟩
  simp only[execOp,hop,Sem.run_bind,hg,Result.andThen_ok,e1,Sem.run_pure]
 ·rename_i t x' y' t2 hop;simp only[bM]at hk;obtain⟨⟨⟨rfl,ht⟩,h1⟩,h2⟩:=hk;obtain⟨r,rfl,hg,e1,e2⟩:=key ht h1 h2;refine⟨.bool (!r), ?_,yB.mpr (by simp)⟩
  simp only[execOp,hop,Sem.run_bind,hg,Result.andThen_ok,e2,Sem.run_pure]
 ·cases hk
theorem afi(he:jb w m h env a){s:Bool}{x:aL}{v:AV}(hk:fw P o (.len s x)=true)(hv:oH s (x.ev env)=some v):Reads P w m h a o v:=by
 simp only[fw]at hk;split at hk
 ·rename_i y t hop;simp only[bM]at hk;obtain⟨h0,h1⟩:=hk;have hr:=iQ he h1
  cases s with
  |true =>
   simp only[if_true]at h0;have ht:=NF h0;simp only[oH,if_true]at hv;split at hv
   ·rename_i l e;simp only[aS]at hv;subst hv;rw[e,uJ]at hr;exact⟨_,by simp[execOp,hop,resolve,invoke,builtin,hr,Builtin.len_,underlying,ht,goInt];rfl,pF.mpr (by simp[ByteArray.size])⟩
   ·cases hv
  |false =>
   simp only[iw,if_false]at h0;obtain⟨e,hse⟩:=xh.mp h0;have ht:=Dp hse;simp only[oH,iw,if_false,mE]at hv;obtain⟨n,hn,rfl⟩:=hv;obtain⟨ad,cap,e',_⟩:=WZ hr hn;exact⟨_,by simp[execOp,hop,resolve,invoke,builtin,e',Builtin.len_,underlying,ht,goInt],pF.mpr rfl⟩
 ·cases hk
theorem Rs{mx:Bool}{x y v:AV}{p q:Value}{X:Nat->Prop}(hx:R w X m h x p)(hy:R w X m h y q)(hv:Gj mx x y=some v) :
  ∃ u,((if mx then Builtin.max2 p q else Builtin.min2 p q):Sem Value).run P w=.ok u w/\R w X m h v u:=by
 unfold Gj at hv;split at hv
 ·rename_i k x k' y;rw[pF]at hx hy;subst hx hy;simp only[aS]at hv;subst hv;cases mx
  ·exact⟨_,by simp[Builtin.min2];rfl,pF.mpr (by simp)⟩
  ·exact⟨_,by simp[Builtin.max2];rfl,pF.mpr (by simp)⟩
 ·cases hv
theorem Xp{mx:Bool}{xs:List AV}{v:AV}{ps:List Value}{X:Nat->Prop}(hx:RL w X m h xs ps)(hv:C9 mx xs=some v)(ts:Array TypeId)(t:TypeId) :
  ∃ u,((if mx then Builtin.max_ ts t ps.toArray else Builtin.min_ ts t ps.toArray):Sem Value).run P w=.ok u w/\R w X m h v u:=by
 unfold C9 at hv;split at hv
 ·cases hv
 ·rename_i x;simp only[aS]at hv;subst hv;simp only[RL]at hx;obtain⟨u,us,rfl,h1,rfl⟩:=hx;cases mx
  ·exact⟨u,by simp[Builtin.min_],h1⟩
  ·exact⟨u,by simp[Builtin.max_],h1⟩
 ·rename_i x y;simp only[RL]at hx;obtain⟨u,us,rfl,h1,u2,us2,rfl,h2,rfl⟩:=hx;obtain⟨r,hr,hR⟩:=Rs (P:=P) h1 h2 hv;cases mx
  ·exact⟨r,by simpa[Builtin.min_]using hr,hR⟩
  ·exact⟨r,by simpa[Builtin.max_]using hr,hR⟩
 ·rename_i x y z;obtain⟨q,hq,hv⟩:=bE.mp hv;simp only[RL]at hx;obtain⟨u,us,rfl,h1,u2,us2,rfl,h2,u3,us3,rfl,h3,rfl⟩:=hx;obtain⟨r,hr,hR⟩:=Rs (P:=P) h1 h2 hq;obtain⟨r',hr',hR'⟩:=Rs (P:=P) hR h3 hv;cases mx
  ·exact⟨r',by simp at hr hr';simp[Builtin.min_,hr,hr'],hR'⟩
  ·exact⟨r',by simp at hr hr';simp[Builtin.max_,hr,hr'],hR'⟩
 ·cases hv
theorem afk(he:jb w m h env a){mx:Bool}{xs:List aL}{v:AV}(hk:fw P o (.u6 mx xs)=true)(hv:C9 mx (evs env xs)=some v):Reads P w m h a o v:=by
 simp only[fw]at hk;split at hk
 ·rename_i args ts hop;simp only[bM]at hk;obtain⟨rfl,h1⟩:=hk;obtain⟨u,hu,hR⟩:=Xp (P:=P) (Gw he h1) hv ts o.type;refine⟨u, ?_,hR⟩;have:args.map a.eval=(args.toList.map a.eval).toArray:=by rw[<-Array.toList_map,Array.toArray_toList]
  simp only[if_true]at hu;simp[execOp,hop,resolve,invoke,builtin,this,-List.map_toArray,-Array.toList_map,hu]
 ·rename_i args ts hop;simp only[bM,sD]at hk;obtain⟨rfl,h1⟩:=hk;obtain⟨u,hu,hR⟩:=Xp (P:=P) (Gw he h1) hv ts o.type;refine⟨u, ?_,hR⟩;have:args.map a.eval=(args.toList.map a.eval).toArray:=by rw[<-Array.toList_map,Array.toArray_toList]
  simp only[iw,if_false]at hu;simp[execOp,hop,resolve,invoke,builtin,this,-List.map_toArray,-Array.toList_map,hu]
 ·cases hk
theorem afl(he:jb w m h env a){x:aL}{i:Nat}{v:AV}(hk:fw P o (.ext x i)=true)(hv:Jv (x.ev env) i=some v):Reads P w m h a o v:=by
 simp only[fw]at hk;split at hk
 ·rename_i y j hop;simp only[bM,beq_iff_eq]at hk;obtain⟨rfl,h1⟩:=hk;have hr:=iQ he h1;unfold Jv at hv;split at hv
  ·rename_i vs e;rw[e]at hr;simp only[R]at hr;obtain⟨us,e',hl⟩:=hr;obtain⟨u,hu,hR⟩:=(uH vs us hl).2 i v hv;exact⟨u,by simp[execOp,hop,e',Instr.extract,hu],hR⟩
  ·cases hv
 ·cases hk
end
end Go.VI
