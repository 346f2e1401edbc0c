/- Walking the evaluator by rewriting: values, memory, calls. -/
import Derived.Test.YtfpoegnmeoghpaaGreatDoorVIW
set_option linter.unusedVariables false
set_option linter.unusedSimpArgs false
namespace Go.VI
@[go_sem] theorem aPt(env:Env)(i:Nat):(bD.t i).ev env=env.get i:=rfl
@[go_sem] theorem aPu(env:Env)(v:AV):(bD.c v).ev env=v:=rfl
@[go_sem] theorem aPv(env:Env):evs env []=[]:=rfl
@[go_sem] theorem aPw(env:Env)(x:bD)(xs:List bD):evs env (x::xs)=x.ev env::evs env xs:=rfl
@[go_sem] theorem get_nil(t:Nat):Env.get [] t=.undef:=rfl
@[go_sem] theorem aPx(s:Nat)(v:AV)(r:Env)(t:Nat):Env.get ((s,v)::r) t=if s=t then v else Env.get r t:=rfl
@[go_sem] theorem aPy(e:Env)(t:Nat)(v:AV):Env.set e t v=(t,v)::e:=rfl
@[go_sem] theorem aPz(env:Env)(t:Nat)(v:AV):env.put (some t) v=env.set t v:=rfl
@[go_sem] theorem aPA(env:Env)(v:AV):env.put none v=env:=rfl
@[go_sem] theorem aPB(env:Env):env.keep []=[]:=rfl
@[go_sem] theorem aPC(env:Env)(s:Nat)(ss:List Nat):env.keep (s::ss)=(s,env.get s)::env.keep ss:=rfl
@[go_sem] theorem aPD(i:Nat):TU i []=[]:=rfl
@[go_sem] theorem aPE(i:Nat)(v:AV)(vs:List AV):TU i (v::vs)=(i,v)::TU (i+1) vs:=rfl
@[go_sem] theorem aPF(k:IntKind)(a b:Int):xS .add (.int k a) (.int k b)=some (.int k (k.wrap (a+b))):=by simp[xS]
@[go_sem] theorem aPG(k:IntKind)(a b:Int):xS .sub (.int k a) (.int k b)=some (.int k (k.wrap (a-b))):=by simp[xS]
@[go_sem] theorem aPH(k:IntKind)(a b:Int):xS .mul (.int k a) (.int k b)=some (.int k (k.wrap (a*b))):=by simp[xS]
theorem aH3{k:IntKind}{a b:Int}(hb:b≠0):xS .quo (.int k a) (.int k b)=some (.int k (k.wrap (a.tdiv b))):=by simp[xS,hb]
theorem aH4{k:IntKind}{a b:Int}(hb:b≠0):xS .rem (.int k a) (.int k b)=some (.int k (a.tmod b)):=by simp[xS,hb]
theorem aH5{k k':IntKind}{a b:Int}(hb:0<=b):xS .shr (.int k a) (.int k' b)=some (.int k (a/(2^(min b.toNat k.bits)))):=by
 have:(0:Int)<=2^(min b.toNat k.bits):=Int.pow_nonneg (by omega)
 simp[xS,hb,Int.fdiv_eq_ediv_of_nonneg _ this]
@[go_sem] theorem aPI(k k':IntKind)(a:Int):xS .shr (.int k a) (.int k' 1)=some (.int k (a/2)):=by
 rw[aH5 (by omega)]
 cases k<;>rfl
@[go_sem] theorem aPJ(k:IntKind)(a b:Int):xS .eql (.int k a) (.int k b)=some (.bool (decide (a=b))):=by simp only[xS,if_true];rfl
@[go_sem] theorem aPK(k:IntKind)(a b:Int):xS .neq (.int k a) (.int k b)=some (.bool (decide (a≠b))):=by simp only[xS,if_true];congr 2;rw[Bool.eq_iff_iff];simp
@[go_sem] theorem aPL(k:IntKind)(a b:Int):xS .lss (.int k a) (.int k b)=some (.bool (decide (a<b))):=by simp[xS]
@[go_sem] theorem aPM(k:IntKind)(a b:Int):xS .leq (.int k a) (.int k b)=some (.bool (decide (a<=b))):=by simp[xS]
@[go_sem] theorem aPN(k:IntKind)(a b:Int):xS .gtr (.int k a) (.int k b)=some (.bool (decide (b<a))):=by simp[xS]
@[go_sem] theorem aPO(k:IntKind)(a b:Int):xS .geq (.int k a) (.int k b)=some (.bool (decide (b<=a))):=by simp[xS]
@[go_sem] theorem aPP(k:IntKind)(a:Int):unv .neg (.int k a)=some (.int k (k.wrap (-a))):=by simp[unv]
@[go_sem] theorem aPQ(b:Bool):unv .not (.bool b)=some (.bool (!b)):=rfl
@[go_sem] theorem aPR(k k':IntKind)(a:Int):ala k (.int k' a)=some (.int k (k.wrap a)):=rfl
@[go_sem] theorem aPS(a b:Bool):acJ false [] (.bool a) (.bool b)=some (.bool (a==b)):=rfl
@[go_sem] theorem aPT(a b:Bool):acJ true [] (.bool a) (.bool b)=some (.bool (!(a==b))):=rfl
theorem aPU{n:Bool}{ks:List Kd}{as bs:List AV}(h:ks≠[])(ha:CW ks as=true)(hb:CW ks bs=true):acJ n ks (.agg as) (.agg bs)=some (.bool (if n then !(Iq as bs)else Iq as bs)):=by simp[acJ,h,ha,hb]
@[go_sem] theorem aPV(m:Bool)(x:AV):mmv m [x]=some x:=rfl
@[go_sem] theorem aPW(k:IntKind)(a b:Int):mmv false [.int k a,.int k b]=some (.int k (min a b)):=by
 simp only[mmv,mm2];congr 2;simp only[uM,if_false];split<;>omega
@[go_sem] theorem aPX(k:IntKind)(a b:Int):mmv true [.int k a,.int k b]=some (.int k (max a b)):=by
 simp only[mmv,mm2];congr 2;simp only[if_true];split<;>omega
theorem asH{a:Int}(h1:-9223372036854775808<=a)(h2:a<=9223372036854775807):IntKind.i64.wrap a=a:=by
 simp[IntKind.wrap,IntKind.bits,IntKind.signed];omega
theorem aH6{a:Int}(h1:0<=a)(h2:a<=18446744073709551615):IntKind.u64.wrap a=a:=by
 simp[IntKind.wrap,IntKind.bits,IntKind.signed];omega
theorem aH7{a:Int}(h1:0<=a)(h2:a<=255):IntKind.u8.wrap a=a:=by
 simp[IntKind.wrap,IntKind.bits,IntKind.signed];omega
theorem aH8{a b:Int}(h:0<=a):a.tdiv b=a/b:=Int.tdiv_eq_ediv_of_nonneg h
theorem aH9{a b:Int}(h:0<=a):a.tmod b=a%b:=Int.tmod_eq_emod_of_nonneg h
theorem aAm{k:IntKind}{i:Int}{n:Nat}(h0:0<=i)(h1:i<n):idx (.int k i) n=some i.toNat:=by simp[idx,h0,h1]
@[go_sem] theorem aPY(k:IntKind)(n:Int):(AV.int k n).val=true:=rfl
@[go_sem] theorem aPZ(b:Bool):(AV.bool b).val=true:=rfl
@[go_sem] theorem aP0(l:List UInt8):(AV.str l).val=true:=rfl
@[go_sem] theorem aP1(cs:List AV):(AV.agg cs).val=true:=rfl
@[go_sem] theorem aP2(z:Nat)(cs:List AV):(AV.eY z cs).val=true:=rfl
@[go_sem] theorem aP3:AV.bO.val=true:=rfl
@[go_sem] theorem aP4(f:Nat)(cs:List AV):(AV.fn f cs).val=true:=rfl
@[go_sem] theorem aP5(i v z o l f:Nat):(AV.ref i v z o l f).val=true:=rfl
@[go_sem] theorem aP6(k:IntKind)(n:Int):(AV.int k n).cells=[.int k n]:=rfl
@[go_sem] theorem aP7(b:Bool):(AV.bool b).cells=[.bool b]:=rfl
@[go_sem] theorem aP8(l:List UInt8):(AV.str l).cells=[.str l]:=rfl
@[go_sem] theorem aP9(cs:List AV):(AV.agg cs).cells=cs:=rfl
@[go_sem] theorem aP'(z:Nat)(cs:List AV):(AV.eY z cs).cells=[.eY z cs]:=rfl
@[go_sem] theorem aQa:AV.bO.cells=[.bO]:=rfl
@[go_sem] theorem aQb(f:Nat)(cs:List AV):(AV.fn f cs).cells=[.fn f cs]:=rfl
@[go_sem] theorem aQc(i v z o l f:Nat):(AV.ref i v z o l f).cells=[.ref i v z o l f]:=rfl
@[go_sem] theorem aQd(vs:List AV)(i:Nat):alb (.tuple vs) i=vs[i]?:=rfl
@[go_sem] theorem aQe(c:AV)(cs:List AV):shaped .one (c::cs)=some c:=rfl
@[go_sem] theorem aQf(n:Nat)(cs:List AV):shaped (.agg n) cs=if n<=cs.length then some (.agg (cs.take n))else none:=rfl
@[go_sem] theorem aQg(cs:List AV):Sv (.iE cs)=some (.iE cs):=rfl
@[go_sem] theorem aQh(i v o:Nat):Sv (.bq i v o)=some (.bq i v o):=rfl
@[go_sem] theorem aQi(x:AV)(i o:Nat):Sv (.nS x i o)=some (.nS x i o):=rfl
@[go_sem] theorem aQj(f:Nat)(cs:List AV):Sv (.fn f cs)=some (.fn f cs):=rfl
@[go_sem] theorem aQk(cs:List AV)(k:Nat):JI (.iE cs) k=some (.iE (cs.drop k)):=rfl
@[go_sem] theorem aQl(i v o k:Nat):JI (.bq i v o) k=some (.bq i v (o+k)):=rfl
@[go_sem] theorem aQm(x:AV)(i o k:Nat):JI (.nS x i o) k=some (.nS x i (o+k)):=rfl
@[go_sem] theorem aQn(env:Env)(cs:List AV):lay env [] cs=some cs:=rfl
def asI(env:Env)(n:Nat)(v:AV)(r:List (Nat×Nat×bD))(o:Option (List AV)):Option (List AV) :=
 if v.cells.length=n/\v.val=true then o.bind (lay env r)else none
theorem aH'(env:Env)(off n:Nat)(x:bD)(r:List (Nat×Nat×bD))(cs:List AV) :
  lay env ((off,n,x)::r) cs=asI env n (x.ev env) r (splice cs off (x.ev env).cells):=rfl
@[go_sem] theorem aQo(env:Env)(n:Nat)(v:AV)(r:List (Nat×Nat×bD))(cs:List AV):asI env n v r (some cs)=if v.cells.length=n/\v.val=true then lay env r cs else none:=by
 unfold asI;split<;>rfl
attribute [go_sem] aH'
attribute [go_sem] splice
theorem RF{cs new:List AV}{off:Nat}(h:off+new.length<=cs.length):splice cs off new=some (cs.take off++new++cs.drop (off+new.length)):=by simp[splice,h]
@[go_sem] theorem aQp(k:IntKind)(n:Int):weak (.int k n)=.int k n:=rfl
@[go_sem] theorem aQq(b:Bool):weak (.bool b)=.bool b:=rfl
@[go_sem] theorem aQr(l:List UInt8):weak (.str l)=.str l:=rfl
@[go_sem] theorem aQs(cs:List AV):weak (.agg cs)=.agg cs:=rfl
@[go_sem] theorem aQt(z:Nat)(cs:List AV):weak (.eY z cs)=.eY z cs:=rfl
@[go_sem] theorem aQu(z:Nat)(cs:List AV):weak (.own z cs)=.eY z cs:=rfl
@[go_sem] theorem aQv(f:Nat)(cs:List AV):weak (.fn f cs)=.fn f cs:=rfl
@[go_sem] theorem aQw(i v z o l f:Nat):weak (.ref i v z o l f)=.ref i v z o l f:=rfl
@[go_sem] theorem aQx(cs:List AV):weak (.tuple cs)=.tuple (cs.map yY):=rfl
@[go_sem] theorem aQy(k:IntKind)(n:Int):yY (.int k n)=.int k n:=rfl
@[go_sem] theorem aQz(b:Bool):yY (.bool b)=.bool b:=rfl
@[go_sem] theorem aQA(l:List UInt8):yY (.str l)=.str l:=rfl
@[go_sem] theorem aQB(cs:List AV):yY (.agg cs)=.agg cs:=rfl
@[go_sem] theorem aQC(z:Nat)(cs:List AV):yY (.eY z cs)=.eY z cs:=rfl
@[go_sem] theorem aQD(z:Nat)(cs:List AV):yY (.own z cs)=.eY z cs:=rfl
@[go_sem] theorem aQE(f:Nat)(cs:List AV):yY (.fn f cs)=.fn f cs:=rfl
@[go_sem] theorem aQF(i v z o l f:Nat):yY (.ref i v z o l f)=.ref i v z o l f:=rfl
@[go_sem] theorem Tq(cx:Cx)(h:Heap):Gp cx [] h=h:=rfl
theorem ku(h fr:Heap)(s:Nat):(h++fr)[h.length+s]?=fr[s]?:=by
 rw[Fx (by omega)];congr 1;omega
theorem o7(h fr:Heap)(s:Nat)(b:Nat×aU):(h++fr).set (h.length+s) b=h++fr.set s b:=by
 rw[List.set_append_right _ _ (by omega)];congr 2;omega
def asJ(s:Nat)(ss:List Nat)(lo ns:Nat)(h fr:Heap):Option (Nat×aU)->Heap
 |some (v,_)=>Gp ⟨lo,h.length,ns,none⟩ ss (h++fr.set s (v,.dead))
 |none=>Gp ⟨lo,h.length,ns,none⟩ ss (h++fr)
@[go_sem] theorem aQG(s:Nat)(ss:List Nat)(lo ns:Nat)(h fr:Heap)(v:Nat)(b:aU):asJ s ss lo ns h fr (some (v,b))=Gp ⟨lo,h.length,ns,none⟩ ss (h++fr.set s (v,.dead)):=rfl
@[go_sem] theorem aIa(lo ns:Nat)(h fr:Heap)(s:Nat)(ss:List Nat):Gp ⟨lo,h.length,ns,none⟩ (s::ss) (h++fr)=asJ s ss lo ns h fr fr[s]?:=by
 simp only[Gp,ku]
 cases fr[s]? with
 |none=>rfl
 |some b=>obtain⟨v,b⟩:=b;simp only[asJ,o7]
def mkF(s ns:Nat)(b:aU)(h fr:Heap):Option (Nat×aU)->Option (Nat×Heap)
 |some (v,_)=>if s<ns then some (v+1,h++fr.set s (v+1,b))else none
 |none=>none
@[go_sem] theorem ack(s ns:Nat)(b:aU)(h fr:Heap)(v:Nat)(b0:aU):mkF s ns b h fr (some (v,b0))=if s<ns then some (v+1,h++fr.set s (v+1,b))else none:=rfl
theorem aIb{lo base ns:Nat}(b:aU):b.fits ⟨lo,base,ns,none⟩=true:=by
 cases b<;>simp[aU.fits,Cx.fit]
@[go_sem] theorem abz(lo ns s:Nat)(b:aU)(h fr:Heap):mK ⟨lo,h.length,ns,none⟩ s b (h++fr)=mkF s ns b h fr fr[s]?:=by
 simp only[mK,aIb,ku,and_true]
 cases fr[s]? with
 |none=>simp[mkF]
 |some x=>obtain⟨v,b0⟩:=x;simp only[mkF,o7]
def pcF(v off:Nat):Option (Nat×aU)->Option (List AV)
 |some (v',.box cs)=>if v'=v then some (cs.drop off)else none
 |_=>none
@[go_sem] theorem aQH(v off v':Nat)(cs:List AV):pcF v off (some (v',.box cs))=if v'=v then some (cs.drop off)else none:=rfl
def kp2:Option (Nat×aU)->Option (Nat×aU)->Bool
 |some (v,.box cs),some (v',.box cs')=>v==v'&&AV.Sw cs cs'
 |_,_=>false
@[go_sem] theorem aQI(v v':Nat)(cs cs':List AV):kp2 (some (v,.box cs)) (some (v',.box cs'))=(v==v'&&AV.Sw cs cs'):=rfl
@[go_sem] theorem aQJ(h fr fr':Heap)(s:Nat):Zt (h++fr) (h++fr') (h.length+s)=kp2 fr[s]? fr'[s]?:=by
 unfold Zt kp2;rw[ku,ku];rfl
@[go_sem] theorem aQK(h fr fr':Heap)(s i:Nat)(x:Nat×aU):Zt (h++fr) (h.set i x++fr') (h.length+s)=kp2 fr[s]? fr'[s]?:=by
 have:h.length+s=(h.set i x).length+s:=by rw[Td]
 unfold Zt kp2;rw[ku,this,ku];rfl
theorem aIc(h:Heap)(id ak off:Nat):qL h (.bq id ak off)=pcF ak off h[id]?:=by
 simp only[qL]
 cases h[id]? with
 |none=>rfl
 |some x=>obtain⟨v,b⟩:=x;cases b<;>rfl
@[go_sem] theorem aAn(h fr:Heap)(s ak off:Nat):qL (h++fr) (.bq (h.length+s) ak off)=pcF ak off fr[s]?:=by rw[aIc,ku]
@[go_sem] theorem aQL(h:Heap)(cs:List AV):qL h (.iE cs)=some cs:=rfl
theorem Ab{h:Heap}{v:AV}{es:List AV}{i off:Nat}(hv:wF h v=some es)(hi:i<es.length):qL h (.nS v i off)=some ((es[i]).cells.drop off):=by
 simp[qL,hv,hi]
def Za(s lo ns ak off:Nat)(h fr:Heap)(v:AV):Option (Nat×aU)->Option Heap
 |some (v',.box cs)=>if v'=ak then(splice cs off v.cells).map fun cs=>h++fr.set s (ak,.box cs)else none
 |_=>none
@[go_sem] theorem aQM(s lo ns ak off:Nat)(h fr:Heap)(v:AV)(v':Nat)(cs:List AV):Za s lo ns ak off h fr v (some (v',.box cs))=if v'=ak then(splice cs off v.cells).map fun cs=>h++fr.set s (ak,.box cs)else none:=rfl
theorem aAo{lo ns sz s ak off:Nat}{h fr:Heap}{v:AV}(hlo:lo<=h.length) :
  qE ⟨lo,h.length,ns,none⟩ (h++fr) sz (.bq (h.length+s) ak off) v=if v.cells.length=sz/\v.val=true then Za s lo ns ak off h fr v fr[s]? else none:=by
 by_cases hv:v.cells.length=sz/\v.val=true
 ·simp only[qE,hv,and_self,if_true,ku]
  cases fr[s]? with
  |none=>rfl
  |some x =>
   obtain⟨w,b⟩:=x
   cases b with
   |box cs =>
    have hle:lo<=h.length+s:=by omega
    by_cases hw:w=ak
    ·simp[Za,hw,hle,Cx.fit,o7]
    ·simp[Za,hw]
   |_=>rfl
 ·simp[qE,hv]
@[go_sem] theorem aQN(cx:Cx)(env:Env)(h:Heap)(t:Nat):ou.ok cx env h (.elem t)=match env.get t with|.nS ..|.iE ..=>true|_=>false:=rfl
@[go_sem] theorem aQO(cx:Cx)(env:Env)(h:Heap)(t:Nat):ou.ok cx env h (.box t)=match env.get t with|.bq ..|.iE ..=>true|_=>false:=rfl
@[go_sem] theorem aQP(cx:Cx)(env:Env)(h:Heap)(t:Nat)(gs:List Nat):ou.ok cx env h (.fn t gs)=match env.get t with|.fn g _=>gs.contains g|_=>false:=rfl
@[go_sem] theorem aQQ(cx:Cx)(env:Env)(h:Heap)(a b:Nat):ou.ok cx env h (.ne a b)=match env.get a,env.get b with|.bq i _ _,.bq j _ _=>!decide (i=j)|_,_=>false:=rfl
@[go_sem] theorem aQR(cx:Cx)(env:Env)(h:Heap)(p t:Nat):ou.ok cx env h (.of p t)=match env.get p,env.get t with|.bq i _ _,.bq j _ _=>decide (i=j)|.iE _,.iE _=>true|_,_=>false:=rfl
@[go_sem] theorem aQS(cx:Cx)(env:Env)(h:Heap)(t:Nat):ou.ok cx env h (.closed t)=(env.get t).closed:=rfl
def ckD:Option (Nat×aU)->Bool
 |some (_,.dead)=>true
 |_=>false
@[go_sem] theorem aQT(v:Nat):ckD (some (v,.dead))=true:=rfl
@[go_sem] theorem aId(lo ns:Nat)(env:Env)(h fr:Heap)(s:Nat):ou.ok ⟨lo,h.length,ns,none⟩ env (h++fr) (.dead s)=ckD fr[s]?:=by
 simp only[ou.ok,ku];rfl
def ckN:Option (Nat×aU)->Bool
 |some (_,.dead)=>true
 |some (_,.arr ..)=>true
 |_=>false
@[go_sem] theorem aQU(v:Nat):ckN (some (v,.dead))=true:=rfl
@[go_sem] theorem aQV(v z:Nat)(es:List AV):ckN (some (v,.arr z es))=true:=rfl
@[go_sem] theorem aQW(lo ns:Nat)(env:Env)(h fr:Heap)(s:Nat):ou.ok ⟨lo,h.length,ns,none⟩ env (h++fr) (.SV s)=ckN fr[s]?:=by
 simp only[ou.ok,ku];rfl
@[go_sem] theorem aQX(k:IntKind)(n:Int):(AV.int k n).closed=true:=rfl
@[go_sem] theorem aQY(b:Bool):(AV.bool b).closed=true:=rfl
@[go_sem] theorem aQZ(l:List UInt8):(AV.str l).closed=true:=rfl
@[go_sem] theorem aQ0(z:Nat)(cs:List AV):(AV.eY z cs).closed=true:=rfl
@[go_sem] theorem aQ1:AV.bO.closed=true:=rfl
@[go_sem] theorem aQ2(cs:List AV):(AV.agg cs).closed=AV.EY cs:=rfl
@[go_sem] theorem aQ3:AV.EY []=true:=rfl
@[go_sem] theorem aQ4(c:AV)(cs:List AV):AV.EY (c::cs)=(c.closed&&AV.EY cs):=rfl
structure Sl(h:Heap)(z:Nat)(v:AV)(es:List AV):Prop where
 xB:xB z v=true
 elems:∀ fr,wF (h++fr) v=some es
 len:DY v=some es.length
theorem Sl.DC{h:Heap}{z:Nat}{v:AV}{es:List AV}(s:Sl h z v es):wF h v=some es:=by simpa using s.elems []
theorem Sl.app{h:Heap}{z:Nat}{v:AV}{es:List AV}(s:Sl h z v es)(fr:Heap):Sl (h++fr) z v es:=⟨s.xB,fun f=>by simpa using s.elems (fr++f),s.len⟩
theorem Sl.aol{h:Heap}{z:Nat}{v:AV}{es:List AV}(s:Sl h z v es):JH h z v=some es:=by simp[JH,s.xB,s.DC]
theorem Sl.eY(h:Heap)(z:Nat)(es:List AV):Sl h z (.eY z es) es:=⟨by simp[VI.xB],fun _=>rfl,rfl⟩
theorem Sl.asL(h:Heap)(z z':Nat):Sl h z (.eY z' []) []:=⟨by simp[VI.xB],fun _=>rfl,rfl⟩
theorem Sl.nil(h:Heap)(z:Nat):Sl h z .bO []:=⟨rfl,fun _=>rfl,rfl⟩
theorem Sl.ref{h fr:Heap}{s ak z off len fill:Nat}{es:List AV}(hb:fr[s]?=some (ak,.arr z es))(hl:es.length=fill)(hle:off+len<=fill):Sl (h++fr) z (.ref (h.length+s) ak z off len fill) ((es.drop off).take len) :=
 ⟨by simp [VI.xB],fun f=>by
  have:(h++fr++f)[h.length+s]?=some (ak,.arr z es):=by
   rw[zy (by have:=(kS.mp hb).1;simp;omega),ku,hb]
  rw[sZ]at this;simp[wF,this,hl,hle],by simp[DY];omega⟩
theorem Sl.aki{h fr:Heap}{s ak z:Nat}{es:List AV}(hb:fr[s]?=some (ak,.arr z es)):Sl (h++fr) z (.ref (h.length+s) ak z 0 es.length es.length) es:=by
 have:=Sl.ref (h:=h) (off:=0) (len:=es.length) hb rfl (by omega)
 simpa using this
theorem Bu{h:Heap}{z:Nat}{v:AV}{es:List AV}{k:IntKind}{i:Int}(s:Sl h z v es)(h0:0<=i)(h1:i<es.length):vJ z v (.int k i)=some i.toNat :=
 aHD s.xB s.len (aAm h0 h1)
theorem oW{v:AV}{n:Nat}(h:DY v=some n):LZ false v=some (.int .i64 n):=by simp[LZ,h]
@[go_sem] theorem aQ5(l:List UInt8):LZ true (.str l)=some (.int .i64 l.length):=rfl
def tk(f:gH)(h:Heap):Option (Ex×St)->Option (AV×Heap)
 |some (.exit _,_)=>none
 |some (_,(env,h'))=>(Ry env h' f.res).bind fun v=>(tJ h.length v h').map fun r=>(r,if f.isOpen=true then h'.take h.length else h)
 |none=>none
theorem aAp(L:Lib)(x:gH)(args:List AV)(h:Heap)(lo:Nat)(hl:args.length=x.np)(hlo:x.isOpen=true->lo<=h.length) :
  enter x (bV L) args h lo=tk x h (bV L ⟨if x.isOpen=true then lo else h.length,h.length,x.ns,none⟩ x.code (TU 0 args,h++List.replicate x.ns (0,.dead))):=by
 unfold enter;rw[if_pos ⟨hl,hlo⟩];dsimp only
 cases bV L _ x.code _ with
 |none=>rfl
 |some r=>obtain⟨e,env,h'⟩:=r;cases e<;>rfl
@[go_sem] theorem aQ6(f:gH)(h:Heap)(env:Env)(h':Heap):tk f h (some (.norm,(env,h')))=(Ry env h' f.res).bind fun v=>(tJ h.length v h').map fun r=>(r,if f.isOpen=true then h'.take h.length else h):=rfl
@[go_sem] theorem aQ7(f:gH)(h:Heap)(env:Env)(h':Heap):tk f h (some (.ret,(env,h')))=(Ry env h' f.res).bind fun v=>(tJ h.length v h').map fun r=>(r,if f.isOpen=true then h'.take h.length else h):=rfl
@[go_sem] theorem aQ8(f:gH)(h:Heap):tk f h none=none:=rfl
@[go_sem] theorem aQ9(f:gH)(h:Heap)(p:Prop)[Decidable p](x y:Out):tk f h (if p then x else y)=if p then tk f h x else tk f h y:=by split<;>rfl
@[go_sem] theorem aQ'(env:Env)(h:Heap)(r:LY):Ry env h [r]=Y0 env h r:=rfl
@[go_sem] theorem aRa(env:Env)(h:Heap):Ry env h []=some (.tuple []):=rfl
@[go_sem] theorem aRb(env:Env)(h:Heap)(r r':LY)(rs:List LY):Ry env h (r::r'::rs)=(Rh env h (r::r'::rs)).map .tuple:=rfl
@[go_sem] theorem aRc(env:Env)(h:Heap):Rh env h []=some []:=rfl
@[go_sem] theorem aRd(env:Env)(h:Heap)(r:LY)(rs:List LY):Rh env h (r::rs)=(Y0 env h r).bind fun v=>(Rh env h rs).map fun vs=>v::vs:=rfl
@[go_sem] theorem aRe(env:Env)(h:Heap)(t:Nat):Y0 env h (.tmp t)=some (env.get t):=rfl
@[go_sem] theorem aRf(env:Env)(h:Heap)(t:Nat)(sh:Sh):Y0 env h (.cell t sh)=(qL h (env.get t)).bind fun cs=>shaped sh cs:=rfl
@[go_sem] theorem aRg(b:Nat)(k:IntKind)(n:Int)(h:Heap):tJ b (.int k n) h=some (.int k n):=rfl
@[go_sem] theorem aRh(b:Nat)(c:Bool)(h:Heap):tJ b (.bool c) h=some (.bool c):=rfl
@[go_sem] theorem aRi(b:Nat)(c:List UInt8)(h:Heap):tJ b (.str c) h=some (.str c):=rfl
@[go_sem] theorem aRj(b:Nat)(z:Nat)(es:List AV)(h:Heap):tJ b (.eY z es) h=some (.eY z es):=rfl
@[go_sem] theorem aRk(b:Nat)(h:Heap):tJ b .bO h=some (.own 0 []):=rfl
@[go_sem] theorem aRl(b:Nat)(cs:List AV)(h:Heap):tJ b (.tuple cs) h=(NH b cs h).map fun(cs,_)=>.tuple cs:=rfl
def gvN(base:Nat)(cs:List AV):Option (AV×Heap)->Option (List AV×Heap)
 |some (c,h)=>(NH base cs h).map fun(cs,h)=>(c::cs,h)
 |none=>none
@[go_sem] theorem aRm(base:Nat)(cs:List AV)(c:AV)(h:Heap):gvN base cs (some (c,h))=(NH base cs h).map fun(cs,h)=>(c::cs,h):=rfl
@[go_sem] theorem aRn(b:Nat)(h:Heap):NH b [] h=some ([],h):=rfl
@[go_sem] theorem aRo(b:Nat)(c:AV)(cs:List AV)(h:Heap):NH b (c::cs) h=gvN b cs (give b c h):=by
 simp only[NH];cases give b c h<;>rfl
@[go_sem] theorem aRp(b:Nat)(k:IntKind)(n:Int)(h:Heap):give b (.int k n) h=some (.int k n,h):=rfl
@[go_sem] theorem aRq(b:Nat)(c:Bool)(h:Heap):give b (.bool c) h=some (.bool c,h):=rfl
@[go_sem] theorem aRr(b:Nat)(c:List UInt8)(h:Heap):give b (.str c) h=some (.str c,h):=rfl
@[go_sem] theorem aRs(b z:Nat)(es:List AV)(h:Heap):give b (.eY z es) h=some (.eY z es,h):=rfl
@[go_sem] theorem aRt(b:Nat)(h:Heap):give b .bO h=some (.own 0 [],h):=rfl
attribute [go_sem] List.replicate List.append_nil decide_true decide_false Bool.false_eq_true Bool.true_and Bool.false_and Bool.and_true Bool.and_false Bool.not_true Bool.not_false Bool.or_true Bool.true_or Bool.or_false Bool.false_or Option.bind_some Option.bind_none Option.map_some Option.map_none List.getElem?_cons_zero List.getElem?_cons_succ List.getElem?_nil List.set_cons_zero List.set_cons_succ List.cons_append List.nil_append List.map_cons List.map_nil decide_eq_true_eq Bool.not_eq_true' decide_eq_false_iff_not Bool.and_eq_true Bool.or_eq_true List.drop_zero List.drop_succ_cons List.drop_nil List.take_succ_cons List.take_zero List.length_cons List.length_nil eq_self
theorem aAr{L:Lib}{x:gH}{args:List AV}{h:Heap}{lo:Nat}(hl:args.length=x.np)(hc:x.isOpen=false) :
  enter x (bV L) args h lo=tk x h (bV L ⟨h.length,h.length,x.ns,none⟩ x.code (TU 0 args,h++List.replicate x.ns (0,.dead))):=by
 rw[aAp L x args h lo hl (by simp[hc])]
 simp[hc]
theorem jH{L:Lib}{f:Nat}{x:gH}{args:List AV}{h:Heap}{lo:Nat}(ho:L.IW f args h=none)(hf:L.FJ f=some x)(hl:args.length=x.np)(hc:x.isOpen=false)(hb:L.brw f=false:=by rfl) :
  (run L).fn f args h lo=tk x h (bV L ⟨h.length,h.length,x.ns,none⟩ x.code (TU 0 args,h++List.replicate x.ns (0,.dead))):=by
 rw[run_eq,ho,hf];simp only[Option.bind_some,L6,hb,uM,if_false];exact aAr hl hc
theorem AA{L:Lib}{f:Nat}{x:gH}{args:List AV}{h:Heap}{lo:Nat}(ho:L.IW f args h=none)(hf:L.FJ f=some x)(hl:args.length=x.np)(hc:x.isOpen=true)(hlo:lo<=h.length)(hb:L.brw f=false:=by rfl) :
  (run L).fn f args h lo=tk x h (bV L ⟨lo,h.length,x.ns,none⟩ x.code (TU 0 args,h++List.replicate x.ns (0,.dead))):=by
 rw[run_eq,ho,hf];simp only[Option.bind_some,L6,hb,uM,if_false];rw[aAp L x args h lo hl (by simp[hlo])]
 simp[hc]
theorem aIe{L:Lib}{f:Nat}{x:gH}{args vs:List AV}{h:Heap}{lo:Nat}{r:AV}(ho:L.IW f args h=none)(hf:L.FJ f=some x)(hb:L.brw f=true)(hv:TW h args=some vs)(he:enter x (bV L) vs [] 0=some (r,[]))(hfl:r.anj=true) :
  (run L).fn f args h lo=some (r,h):=by
 rw[run_eq,ho,hf];simp[L6,hb,hv,he,hfl]
def oz(z:Nat)(v:AV)(es:List AV):Prop:=(v=.bO/\es=[])\/(∃ z',(v=.eY z' es\/v=.fT z' es)/\(z'=z\/es=[]))
theorem oz.sl{z:Nat}{v:AV}{es:List AV}(p:oz z v es)(h:Heap):Sl h z v es:=by
 rcases p with⟨rfl,rfl⟩|⟨z',rfl|rfl,rfl|rfl⟩
 ·exact Sl.nil h z
 ·exact Sl.eY h z' es
 ·exact Sl.asL h z z'
 ·exact⟨by simp[VI.xB],fun _=>rfl,rfl⟩
 ·exact⟨by simp[VI.xB],fun _=>rfl,rfl⟩
theorem aIf{h:Heap}{z:Nat}{v:AV}{es:List AV}(s:Sl h z v es):∃ v',view h v=some v'/\oz z v' es:=by
 have hz:=s.xB;have he:=s.DC;have hl:=s.len;cases v<;>simp only[DY,reduceCtorEq,dz]at hl
 case bO=>exact⟨.bO,by simp[view],.inl ⟨rfl,JU hl.symm⟩⟩
 case eY z' es' =>
  simp only[wF,dz]at he;subst he
  exact⟨.eY z' es',by simp[view],.inr ⟨z',.inl rfl,by
   simp only[VI.xB,Jz,beq_iff_eq,Zz]at hz;exact hz.imp Eq.symm id⟩⟩
 case fT z' es' =>
  simp only[wF,dz]at he;subst he
  exact⟨.fT z' es',by simp[view],.inr ⟨z',.inr rfl,by
   simp only[VI.xB,Jz,beq_iff_eq,Zz]at hz;exact hz.imp Eq.symm id⟩⟩
 case ref id ak z' off len fill =>
  simp only[VI.xB,beq_iff_eq]at hz;subst hz;exact⟨.eY z es,by simp[view,he],.inr ⟨z,.inl rfl,.inl rfl⟩⟩
end Go.VI
