/- Which operation of the machine an operation stands for; the operations that only read. -/
import Derived.Test.YtfpoegnmeoghpaaGreatDoorVIF
import Derived.Test.YtfpoegnmeoghpaaGreatDoorVIEQ
import Derived.Laws.Tables
import Derived.Laws.Slices
import Derived.Laws.Build
import Derived.Laws.Cover3
set_option linter.unusedVariables false
set_option linter.unusedSimpArgs false
namespace Go.VI
set_option linter.unusedSectionVars false
variable [kH][Rounds]
section
variable (P:Program)
def SY(t:TypeId):Option TypeId:=match P.underlying t with|some (.slice e)=>some e|_=>none
def acQ(t:TypeId):Bool:=match P.underlying t with|some .string=>true|_=>false
def arN(t:TypeId):Option (Nat×TypeId):=match P.underlying t with|some (.array n e)=>some (n,e)|_=>none
def alq(t:TypeId):Option IntKind:=match P.underlying t with|some (.int k)=>some k|_=>none
def axN(t:TypeId):Bool:=match P.underlying t with|some (.interface _)=>true|_=>false
def mapKey(t:TypeId):Option IntKind:=match P.underlying t with|some (.map k _)=>alq P k|_=>none
def aOp(t:TypeId)(zero:AV):Bool:=match P.underlying t with
 |some (.map _ e)=>match (P.info? e).bind (·.zero)with|some v=>ab6 zero v|none=>false
 |_=>false
def axO(t:TypeId):Bool:=match P.underlying t with|some (.slice e)=>alq P e==some .u8&&(P.info? e).any (fun i=>i.size==1&&i.bytes==1)|_=>false
def anE(t:TypeId):Bool:=match P.underlying t with|some .bool=>true|_=>false
def alr(t:TypeId)(i:Nat):Option (Nat×Nat) :=
 match P.underlying t with
 |some (.array _ e)=>(P.info? e).map fun ie=>(i*ie.size,ie.size)
 |some (.struct fields)=>(fields.toList.mapM fun f=>(P.info? f.type).map fun i=>(f.offset,i.size)).bind fun l=>l[i]?
 |_=>none
def ajX(t:TypeId):List (Nat×Operand)->List (Nat×Nat×bD)->Bool
 |[],[]=>true
 |(i,o)::os,(off,n,x)::xs=>alr P t i==some (off,n)&&qU o x&&ajX t os xs
 |_,_=>false
def ajY:List (Nat×Operand)->List (Nat×bD)->Bool
 |[],[]=>true
 |(i,o)::os,(j,x)::xs=>i==j&&qU o x&&ajY os xs
 |_,_=>false
def axP(t:TypeId):Bool :=
 match P.underlying t with
 |some (.array _ e)=>(P.info? e).isSome
 |some (.struct fields)=>(fields.toList.mapM fun f=>(P.info? f.type).map fun i=>(f.offset,i.size)).isSome
 |_=>false
def als(t:TypeId)(z lim:Nat):Bool :=
 match SY P t with
 |some e=>match P.info? e with
  |some i=>i.size==z&&decide (0<z)&&decide (lim*i.bytes<=140737488355328)&&decide (lim<=140737488355328)
  |none=>false
 |none=>false
def anF(t:TypeId)(zero:AV):Bool :=
 match SY P t with
 |some e=>match (P.info? e).bind (·.zero) with
  |some v=>ab6 zero v
  |none=>false
 |none=>false
def eqT(t:TypeId)(ks:List Kd):Bool :=
 match P.underlying t with
 |some .bool=>ks==[]
 |some (.array _ _)|some (.struct _)=>ks != []&&PI P 50 t ks&&!P.eqGuardType P.depth t
 |_=>false
def mg(o:Oper):XI->Bool
 |.dx x=>match o.op with|.move y|.assign y=>qU y x|_=>false
 |.Zo _=>match o.op with|.alloc t=>t==kH.Nq&&(P.info? t).any (fun i=>match i.zero with|some (.agg ⟨[.pointer none,.slice none 0 0]⟩)=>true|_=>false)|_=>false
 |.YV _ f x y=>match o.op with
  |.call { callee:=.value (.func g),args:=⟨[p,q]⟩,.. }=>g==f&&kH.ald f&&qU p x&&qU q y
  |_=>false
 |.YW f x=>match o.op with
  |.call { callee:=.value (.func g),args:=⟨[p]⟩,.. }=>g==f&&kH.ale f&&qU p x
  |_=>false
 |.YX x=>match o.op with|.convert s d y=>acQ P d&&axO P s&&qU y x|_=>false
 |.Zp t x=>match o.op with|.makeInterface t' y=>t'==t&&!axN P t&&(P.underlying t).isSome&&qU y x|_=>false
 |.JO x=>match o.op with|.nilCheck y=>qU y x|_=>false
 |.pick c a b=>match o.op with|.pick c' a' b'=>qU c' c&&qU a' a&&qU b' b|_=>false
 |.bin op x y=>match o.op with|.binOp op' _ x' y' _=>decide (op'=op)&&qU x' x&&qU y' y|_=>false
 |.un op x=>match o.op with|.unOp op' _ x'=>decide (op'=op)&&qU x' x|_=>false
 |.conv k x=>match o.op with|.convert src dst x'=>(P.underlying src).isSome&&alq P dst==some k&&qU x' x|_=>false
 |.eqv neg ks x y=>match o.op with
  |.binOp .eql t x' y' _=>!neg&&eqT P t ks&&qU x' x&&qU y' y
  |.binOp .neq t x' y' _=>neg&&eqT P t ks&&qU x' x&&qU y' y
  |_=>false
 |.len s x=>match o.op with
  |.call { callee:=.builtin .len,args:=⟨[y]⟩,argTypes:=⟨[t]⟩ }=>(if s then acQ P t else(SY P t).isSome)&&qU y x
  |_=>false
 |.NM mx xs=>match o.op with
  |.call { callee:=.builtin .max,args,.. }=>mx&&ZA args.toList xs
  |.call { callee:=.builtin .min,args,.. }=>!mx&&ZA args.toList xs
  |_=>false
 |.ext x i=>match o.op with|.extract y j=>i==j&&qU y x|_=>false
 |.build zero parts=>match o.op with|.build t ps=>anA P t zero&&axP P t&&ajX P t ps.toList parts|_=>false
 |.pF z zero n parts=>match o.op with
  |.buildSlice t k ps=>k==n&&als P t z n&&decide (n*z<=16777216)&&anF P t zero&&decide (zero.cells.length=z)&&ajY ps.toList parts
  |_=>false
 |.JI x k=>match o.op with
  |.fieldAddr s y f=>match P.underlying s with
   |some (.struct fields)=>match fields[f]? with
    |some fd=>fd.offset==k&&(match SX P fd.type with|some n=>decide (n≠0)|none=>false)&&qU y x
    |none=>false
   |_=>false
  |_=>false
 |.SS n size x i=>match o.op with
  |.indexAddr t y j=>match arN P t with
   |some (n',e)=>n'==n&&SX P e==some size&&qU y x&&qU j i
   |none=>false
  |_=>false
 |.TT z x i=>match o.op with
  |.indexAddr t y j=>(match SY P t with|some e=>SX P e==some z|none=>false)&&qU y x&&qU j i
  |_=>false
 |.Oa x i=>match o.op with
  |.index t y j=>acQ P t&&qU y x&&qU j i
  |_=>false
 |.slice z x lo hi=>match o.op with
  |.slice t y lo' hi' none=>(match z with
   |none=>acQ P t
   |some z=>match SY P t with|some e=>SX P e==some z|none=>false)&&qU y x&&ajT lo' lo&&ajT hi' hi
  |_=>false
 |.load sh x=>match o.op with|.load t y=>aln P t sh&&qU y x|_=>false
 |.store sz x v=>match o.op with|.store t y u=>SX P t==some sz&&qU y x&&qU u v|_=>false
 |.alloc _ zero=>match o.op with|.alloc t=>anA P t zero|_=>false
 |.box _ x=>match o.op with|.box _ y=>qU y x|_=>false
 |.nK x=>match o.op with|.box _ y=>qU y x|_=>false
 |.mk _ z zero lim n c=>match o.op with
  |.makeSlice t l k=>als P t z lim&&anF P t zero&&decide (zero.cells.length=z)&&qU l n&&qU k c
  |_=>false
 |.app _ z lim x y=>match o.op with
  |.call { callee:=.builtin .append,args:=⟨[a,b]⟩,argTypes:=⟨[t,u]⟩ } =>
   als P t z lim&&(match SY P t with|some e=>(P.info? e).any (fun i=>i.zero.any fun v=>v.cells.size==z)|none=>false)&&((SY P u).isSome||acQ P u)&&qU a x&&qU b y
  |_=>false
 |.LM f caps=>match o.op with
  |.makeFunc (.func g) ⟨[]⟩ cs=>f==g&&decide (g<1000)&&ZA cs.toList caps
  |.makeFunc (.func g) fs ⟨[]⟩=>f==g+1000&&ZA fs.toList caps
  |_=>false
 |.copy z x y=>match o.op with
  |.call { callee:=.builtin .copy,args:=⟨[a,b]⟩,argTypes:=⟨[t,_]⟩ } =>
   (match SY P t with|some e=>(P.info? e).any (fun i=>i.size==z&&decide (0<z))|none=>false)&&qU a x&&qU b y
  |_=>false
 |.call f args _=>match o.op with
  |.call { callee:=.value g,args:=as,.. }=>qU g f&&ZA as.toList args
  |_=>false
 |.FH _ f args|.Rb _ f args=>match o.op with
  |.call { callee:=.value g,args:=as,.. }=>qU g f&&ZA as.toList args
  |_=>false
 |.Zq x=>match o.op with
  |.panic a=>qU a x
  |_=>false
end
section
variable {w:World}{m:Map}{h:Heap}{P:Program}{env:Env}{a:Act}{o:Oper}
theorem acS{t:TypeId}{n:Nat}(hs:SX P t=some n):(sizeOf t).run P w=.ok n w:=by
 unfold SX at hs;obtain⟨i,hi,rfl⟩:=mE.mp hs;simp[sizeOf,typeInfo,hi]
theorem axQ{t:TypeId}{b:Bool}(hs:alm P t=some b):(isAgg t).run P w=.ok b w:=by
 unfold alm at hs;split at hs<;>simp_all[isAgg,underlying]
theorem ajZ{t e:TypeId}(hs:SY P t=some e):P.underlying t=some (.slice e):=by
 unfold SY at hs;split at hs<;>simp_all
theorem anG{t:TypeId}(hs:acQ P t=true):P.underlying t=some .string:=by
 unfold acQ at hs;split at hs<;>simp_all
theorem aEi{t e:TypeId}{n:Nat}(hs:arN P t=some (n,e)):P.underlying t=some (.array n e):=by
 unfold arN at hs;split at hs<;>simp_all
theorem axR{t:TypeId}{k:IntKind}(hs:alq P t=some k):P.underlying t=some (.int k):=by
 unfold alq at hs;split at hs<;>simp_all
theorem axS{t:TypeId}(hs:anE P t=true):P.underlying t=some .bool:=by
 unfold anE at hs;split at hs<;>simp_all
theorem axT{x:AV}{u:Value}{b:Bool}{X:Nat->Prop}(hr:R w X m h x u)(hb:toBool x=some b):u=.bool b:=by
 cases x<;>simp_all[toBool,R,RC]
theorem aEj(he:uO w m h env a){x:bD}(hk:mg P o (.dx x)=true):Reads P w m h a o (x.ev env):=by
 simp only[mg]at hk;split at hk
 ·rename_i y hop;exact⟨a.eval y,by simp[execOp,hop],tO he hk⟩
 ·rename_i y hop;exact⟨a.eval y,by simp[execOp,hop],tO he hk⟩
 ·cases hk
theorem aEk(he:uO w m h env a){x:bD}{v:AV}(hk:mg P o (.JO x)=true)(hv:Sv (x.ev env)=some v):Reads P w m h a o v:=by
 simp only[mg]at hk;split at hk
 ·rename_i y hop;have hr:=tO he hk
  have hv':v=x.ev env:=by
   unfold Sv at hv;split at hv<;>simp_all
  refine⟨a.eval y, ?_,by rw[hv'];exact hr⟩
  unfold Sv at hv;split at hv
  ·rename_i e;rw[e]at hr;simp only[R,RC]at hr;obtain⟨b,o',e',_⟩:=hr;simp[execOp,hop,e']
  ·rename_i e;rw[e]at hr;simp only[R]at hr;obtain⟨b,e',_⟩:=hr;simp[execOp,hop,e']
  ·rename_i q i off e;rw[e]at hr;cases q<;>first|(simp[R]at hr;done)|(simp only[R]at hr;obtain⟨b,o',e',_⟩:=hr;simp[execOp,hop,e'];done)|(simp only[R]at hr;obtain⟨b,e',_⟩:=hr;simp[execOp,hop,e'])
  ·rename_i e;rw[e]at hr;simp only[R]at hr;obtain⟨b,e',_⟩:=hr;unfold fnV at e';split at e'<;>simp[execOp,hop,e',fnV, *]
  ·cases hv
 ·cases hk
theorem aEl(he:uO w m h env a){c x y:bD}{r:Bool}(hk:mg P o (.pick c x y)=true)(hv:toBool (c.ev env)=some r):Reads P w m h a o (if r then x.ev env else y.ev env):=by
 simp only[mg]at hk;split at hk
 ·rename_i c' x' y' hop;simp only[fw]at hk;have hc:=axT (tO he hk.1.1) hv;refine⟨if r then a.eval x' else a.eval y', ?_, ?_⟩
  ·simp[execOp,hop,hc,asBool]
  ·cases r
   ·exact tO he hk.2
   ·exact tO he hk.1.2
 ·cases hk
theorem aEm(he:uO w m h env a){op:BinOp}{x y:bD}{v:AV}(hk:mg P o (.bin op x y)=true)(hv:xS op (x.ev env) (y.ev env)=some v):Reads P w m h a o v:=by
 simp only[mg]at hk;split at hk
 ·rename_i op' t x' y' t2 hop;simp only[fw,decide_eq_true_eq]at hk;obtain⟨⟨rfl,h1⟩,h2⟩:=hk;obtain⟨u,g1,g2,g3⟩:=aEh (P:=P) (tO he h1) (tO he h2) hv t x' y';exact⟨u,by simp[execOp,hop,g1,g2],g3⟩
 ·cases hk
theorem aEn(he:uO w m h env a){op:UnOp}{x:bD}{v:AV}(hk:mg P o (.un op x)=true)(hv:unv op (x.ev env)=some v):Reads P w m h a o v:=by
 simp only[mg]at hk;split at hk
 ·rename_i op' t x' hop;simp only[fw,decide_eq_true_eq]at hk;obtain⟨rfl,h1⟩:=hk;have hr:=tO he h1;unfold unv at hv;split at hv
  ·rename_i k n e;rw[e,JA]at hr;cases op'<;>simp at hv;subst hv;exact⟨_,by simp[execOp,hop,hr,Op.unary,Op.intArith];rfl,JA.mpr (by simp)⟩
  ·rename_i b e;rw[e,abr]at hr;cases op'<;>simp at hv;subst hv;exact⟨_,by simp[execOp,hop,hr,Op.unary],abr.mpr rfl⟩
  ·cases hv
 ·cases hk
theorem aEo(he:uO w m h env a){k:IntKind}{x:bD}{v:AV}(hk:mg P o (.conv k x)=true)(hv:ala k (x.ev env)=some v):Reads P w m h a o v:=by
 simp only[mg]at hk;split at hk
 ·rename_i src dst x' hop;simp only[fw,beq_iff_eq]at hk;obtain⟨⟨h0,h1⟩,h2⟩:=hk;have hr:=tO he h2;have hd:=axR h1;obtain⟨d,hs⟩:=acN.mp h0;unfold ala at hv;split at hv
  ·rename_i k' n e;rw[e,JA]at hr;simp only[dz]at hv;subst hv;refine⟨.int k (k.wrap n), ?_,JA.mpr rfl⟩;cases d<;>simp[execOp,hop,hr,convert,underlying,hs,hd,Conv.intToInt]
  ·cases hv
 ·cases hk
theorem arO{w:World}{X:Nat->Prop}{m:Map}{h:Heap}:∀{ks:List Kd} {as:List AV} {vs:List Value},CW ks as=true->RL w X m h as vs->vs=as.map AV.fv
 |[],[],vs,_,hr=>by simpa[RL]using hr
 |k::ks,a::as,vs,hk,hr=>by
  simp only[CW,fw,beq_iff_eq]at hk;simp only[RL]at hr;obtain⟨u,us,rfl,h1,h2⟩:=hr;rw[arO hk.2 h2,List.map_cons];congr 1
  cases k with
  |b=>obtain⟨b,rfl⟩:=arJ hk.1;simpa[R,RC,AV.fv]using h1
  |i q=>obtain⟨n,rfl⟩:=arK hk.1;simpa[R,RC,AV.fv]using h1
  |s=>obtain⟨l,rfl⟩:=arL hk.1;simpa[R,RC,AV.fv]using h1
 |[],_::_,_,h,_=>by simp[CW]at h
 |_::_,[],_,h,_=>by simp[CW]at h
theorem aEp{P:Program}(w:World){t:TypeId}{ks:List Kd}{as bs:List AV}(hc:PI P 50 t ks=true)(hu:(match P.underlying t with|some (.array _ _)|some (.struct _)=>true|_=>false)=true)(ha:CW ks as=true)(hb:CW ks bs=true) :
  (Op.equalIn 10000 t (.agg (as.map AV.fv).toArray) (.agg (bs.map AV.fv).toArray)).run P w=.ok (Iq as bs) w:=by
 have:=arM (P:=P) 9950 50 t w ks as bs hc ha hb;unfold mkV at this;split at this
 ·exact this
 ·exact this
 ·split at hu<;>simp_all
theorem aEq(he:uO w m h env a){neg:Bool}{ks:List Kd}{x y:bD}{v:AV}(hk:mg P o (.eqv neg ks x y)=true)(hv:acJ neg ks (x.ev env) (y.ev env)=some v):Reads P w m h a o v:=by
 simp only[mg]at hk
 have key:∀{t:TypeId} {x' y':Operand},eqT P t ks=true->qU x' x=true->qU y' y=true->∃ r:Bool,v=.bool (if neg then !r else r) /\
   (∀ op,(eqGuard op t x' y' (a.eval x') (a.eval y')).run P w=.ok () w)/\(binOp .eql t (a.eval x') (a.eval y')).run P w=.ok (.bool r) w/\(binOp .neq t (a.eval x') (a.eval y')).run P w=.ok (.bool (!r)) w:=by
  intro t x' y' ht h1 h2;have hr1:=tO he h1;have hr2:=tO he h2;unfold acJ at hv;split at hv
  ·rename_i p q e1 e2;split at hv
   ·rename_i hks;subst hks;rw[e1,abr]at hr1;rw[e2,abr]at hr2;simp only[dz]at hv
    have hb:anE P t=true:=by
     unfold eqT at ht;split at ht
     ·rename_i hu;simp[anE,hu]
     ·simp at ht
     ·simp at ht
     ·cases ht
    rw[hr1,hr2];refine⟨p==q,hv.symm,fun op=>?_,run_eql_bool w t p q (axS hb),run_neq_bool w t p q (axS hb)⟩;unfold eqGuard;simp
   ·cases hv
  ·rename_i as bs e1 e2;rw[e1]at hr1;rw[e2]at hr2;simp only[R]at hr1 hr2;obtain⟨us,e3,_,r1⟩:=hr1;obtain⟨vs,e4,_,r2⟩:=hr2;split at hv
   ·rename_i hkk;obtain⟨hne,hkk⟩:=hkk;simp only[fw]at hkk;rw[arO hkk.1 r1]at e3;rw[arO hkk.2 r2]at e4;simp only[dz]at hv
    have hc:PI P 50 t ks=true/\P.eqGuardType P.depth t=false/\(match P.underlying t with|some (.array _ _)|some (.struct _)=>true|_=>false)=true:=by
     unfold eqT at ht;split at ht
     ·simp only[beq_iff_eq]at ht;exact absurd ht hne
     ·rename_i hu;simp only[fw,IK]at ht;exact⟨ht.1.2,ht.2,by rw[hu]⟩
     ·rename_i hu;simp only[fw,IK]at ht;exact⟨ht.1.2,ht.2,by rw[hu]⟩
     ·cases ht
    have hrun:=aEp w hc.1 hc.2.2 hkk.1 hkk.2;rw[e3,e4];refine⟨Iq as bs,hv.symm,fun op=>run_eqGuard_agg w op t x' y' _ _ hc.2.1, ?_, ?_⟩
    ·rw[run_eql_struct,hrun];rfl
    ·rw[run_neq_struct,hrun];rfl
   ·cases hv
  ·cases hv
 split at hk
 ·rename_i t x' y' t2 hop;simp only[fw,IK]at hk;obtain⟨⟨⟨rfl,ht⟩,h1⟩,h2⟩:=hk;obtain⟨r,rfl,hg,e1,e2⟩:=key ht h1 h2;refine⟨.bool r, ?_,abr.mpr (by simp)⟩
  simp only[execOp,hop,Sem.run_bind,hg,Result.andThen_ok,e1,Sem.run_pure]
 ·rename_i t x' y' t2 hop;simp only[fw]at hk;obtain⟨⟨⟨rfl,ht⟩,h1⟩,h2⟩:=hk;obtain⟨r,rfl,hg,e1,e2⟩:=key ht h1 h2;refine⟨.bool (!r), ?_,abr.mpr (by simp)⟩
  simp only[execOp,hop,Sem.run_bind,hg,Result.andThen_ok,e2,Sem.run_pure]
 ·cases hk
theorem aEr(he:uO w m h env a){s:Bool}{x:bD}{v:AV}(hk:mg P o (.len s x)=true)(hv:LZ s (x.ev env)=some v):Reads P w m h a o v:=by
 simp only[mg]at hk;split at hk
 ·rename_i y t hop;simp only[fw]at hk;obtain⟨h0,h1⟩:=hk;have hr:=tO he h1
  cases s with
  |true =>
   simp only[if_true]at h0;have ht:=anG h0;simp only[LZ,if_true]at hv;split at hv
   ·rename_i l e;simp only[dz]at hv;subst hv;rw[e,RB]at hr;exact⟨_,by simp[execOp,hop,resolve,invoke,builtin,hr,Builtin.len_,underlying,ht,goInt];rfl,JA.mpr (by simp[ByteArray.size])⟩
   ·cases hv
  |false =>
   simp only[uM,if_false]at h0;obtain⟨e,hse⟩:=acN.mp h0;have ht:=ajZ hse;simp only[LZ,uM,if_false,mE]at hv;obtain⟨n,hn,rfl⟩:=hv;obtain⟨ad,cap,e',_⟩:=axF hr hn;exact⟨_,by simp[execOp,hop,resolve,invoke,builtin,e',Builtin.len_,underlying,ht,goInt],JA.mpr rfl⟩
 ·cases hk
theorem arP{mx:Bool}{x y v:AV}{p q:Value}{X:Nat->Prop}(hx:R w X m h x p)(hy:R w X m h y q)(hv:mm2 mx x y=some v) :
  ∃ u,((if mx then Builtin.max2 p q else Builtin.min2 p q):Sem Value).run P w=.ok u w/\R w X m h v u:=by
 unfold mm2 at hv;split at hv
 ·rename_i k x k' y;rw[JA]at hx hy;subst hx hy;simp only[dz]at hv;subst hv;cases mx
  ·exact⟨_,by simp[Builtin.min2];rfl,JA.mpr (by simp)⟩
  ·exact⟨_,by simp[Builtin.max2];rfl,JA.mpr (by simp)⟩
 ·cases hv
theorem axU{mx:Bool}{xs:List AV}{v:AV}{ps:List Value}{X:Nat->Prop}(hx:RL w X m h xs ps)(hv:mmv mx xs=some v)(ts:Array TypeId)(t:TypeId) :
  ∃ u,((if mx then Builtin.max_ ts t ps.toArray else Builtin.min_ ts t ps.toArray):Sem Value).run P w=.ok u w/\R w X m h v u:=by
 unfold mmv at hv;split at hv
 ·cases hv
 ·rename_i x;simp only[dz]at hv;subst hv;simp only[RL]at hx;obtain⟨u,us,rfl,h1,rfl⟩:=hx;cases mx
  ·exact⟨u,by simp[Builtin.min_],h1⟩
  ·exact⟨u,by simp[Builtin.max_],h1⟩
 ·rename_i x y;simp only[RL]at hx;obtain⟨u,us,rfl,h1,u2,us2,rfl,h2,rfl⟩:=hx;obtain⟨r,hr,hR⟩:=arP (P:=P) h1 h2 hv;cases mx
  ·exact⟨r,by simpa[Builtin.min_]using hr,hR⟩
  ·exact⟨r,by simpa[Builtin.max_]using hr,hR⟩
 ·rename_i x y z;obtain⟨q,hq,hv⟩:=bE.mp hv;simp only[RL]at hx;obtain⟨u,us,rfl,h1,u2,us2,rfl,h2,u3,us3,rfl,h3,rfl⟩:=hx;obtain⟨r,hr,hR⟩:=arP (P:=P) h1 h2 hq;obtain⟨r',hr',hR'⟩:=arP (P:=P) hR h3 hv;cases mx
  ·exact⟨r',by simp at hr hr';simp[Builtin.min_,hr,hr'],hR'⟩
  ·exact⟨r',by simp at hr hr';simp[Builtin.max_,hr,hr'],hR'⟩
 ·cases hv
theorem aEt(he:uO w m h env a){mx:Bool}{xs:List bD}{v:AV}(hk:mg P o (.NM mx xs)=true)(hv:mmv mx (evs env xs)=some v):Reads P w m h a o v:=by
 simp only[mg]at hk;split at hk
 ·rename_i args ts hop;simp only[fw]at hk;obtain⟨rfl,h1⟩:=hk;obtain⟨u,hu,hR⟩:=axU (P:=P) (ajV he h1) hv ts o.type;refine⟨u, ?_,hR⟩;have:args.map a.eval=(args.toList.map a.eval).toArray:=by rw[<-Array.toList_map,Array.toArray_toList]
  simp only[if_true]at hu;simp[execOp,hop,resolve,invoke,builtin,this,-List.map_toArray,-Array.toList_map,hu]
 ·rename_i args ts hop;simp only[fw,IK]at hk;obtain⟨rfl,h1⟩:=hk;obtain⟨u,hu,hR⟩:=axU (P:=P) (ajV he h1) hv ts o.type;refine⟨u, ?_,hR⟩;have:args.map a.eval=(args.toList.map a.eval).toArray:=by rw[<-Array.toList_map,Array.toArray_toList]
  simp only[uM,if_false]at hu;simp[execOp,hop,resolve,invoke,builtin,this,-List.map_toArray,-Array.toList_map,hu]
 ·cases hk
theorem aEu(he:uO w m h env a){x:bD}{i:Nat}{v:AV}(hk:mg P o (.ext x i)=true)(hv:alb (x.ev env) i=some v):Reads P w m h a o v:=by
 simp only[mg]at hk;split at hk
 ·rename_i y j hop;simp only[fw,beq_iff_eq]at hk;obtain⟨rfl,h1⟩:=hk;have hr:=tO he h1;unfold alb at hv;split at hv
  ·rename_i vs e;rw[e]at hr;simp only[R]at hr;obtain⟨us,e',hl⟩:=hr;obtain⟨u,hu,hR⟩:=(RA vs us hl).2 i v hv;exact⟨u,by simp[execOp,hop,e',Instr.extract,hu],hR⟩
  ·cases hv
 ·cases hk
end
end Go.VI
