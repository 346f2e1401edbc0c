/- Walking the evaluator by rewriting: values, memory, calls. -/
import Derived.Test.YtfpoegnmeoghpaaGreatDoorVIW
set_option linter.unusedVariables false
set_option linter.unusedSimpArgs false
namespace Go.VI
@[go_sem] theorem asP(env:Env)(i:Nat):(aL.t i).ev env=env.get i:=rfl
@[go_sem] theorem asQ(env:Env)(v:AV):(aL.c v).ev env=v:=rfl
@[go_sem] theorem asR(env:Env):evs env []=[]:=rfl
@[go_sem] theorem asS(env:Env)(x:aL)(xs:List aL):evs env (x::xs)=x.ev env::evs env xs:=rfl
@[go_sem] theorem get_nil(t:Nat):Env.get [] t=.undef:=rfl
@[go_sem] theorem asT(s:Nat)(v:AV)(r:Env)(t:Nat):Env.get ((s,v)::r) t=if s=t then v else Env.get r t:=rfl
@[go_sem] theorem asU(e:Env)(t:Nat)(v:AV):Env.set e t v=(t,v)::e:=rfl
@[go_sem] theorem asV(env:Env)(t:Nat)(v:AV):env.put (some t) v=env.set t v:=rfl
@[go_sem] theorem asW(env:Env)(v:AV):env.put none v=env:=rfl
@[go_sem] theorem asX(env:Env):env.keep []=[]:=rfl
@[go_sem] theorem asY(env:Env)(s:Nat)(ss:List Nat):env.keep (s::ss)=(s,env.get s)::env.keep ss:=rfl
@[go_sem] theorem asZ(i:Nat):wY i []=[]:=rfl
@[go_sem] theorem as0(i:Nat)(v:AV)(vs:List AV):wY i (v::vs)=(i,v)::wY (i+1) vs:=rfl
@[go_sem] theorem as2(k:IntKind)(a b:Int):jh .add (.int k a) (.int k b)=some (.int k (k.wrap (a+b))):=by simp[jh]
@[go_sem] theorem as3(k:IntKind)(a b:Int):jh .sub (.int k a) (.int k b)=some (.int k (k.wrap (a-b))):=by simp[jh]
@[go_sem] theorem as4(k:IntKind)(a b:Int):jh .mul (.int k a) (.int k b)=some (.int k (k.wrap (a*b))):=by simp[jh]
theorem aaY{k:IntKind}{a b:Int}(hb:b≠0):jh .quo (.int k a) (.int k b)=some (.int k (k.wrap (a.tdiv b))):=by simp[jh,hb]
theorem aaZ{k:IntKind}{a b:Int}(hb:b≠0):jh .rem (.int k a) (.int k b)=some (.int k (a.tmod b)):=by simp[jh,hb]
theorem akY{k k':IntKind}{a b:Int}(hb:0<=b):jh .shr (.int k a) (.int k' b)=some (.int k (a/(2^(min b.toNat k.bits)))):=by
 have:(0:Int)<=2^(min b.toNat k.bits):=Int.pow_nonneg (by omega)
 simp[jh,hb,Int.fdiv_eq_ediv_of_nonneg _ this]
@[go_sem] theorem as5(k k':IntKind)(a:Int):jh .shr (.int k a) (.int k' 1)=some (.int k (a/2)):=by
 rw[akY (by omega)]
 cases k<;>rfl
@[go_sem] theorem as6(k:IntKind)(a b:Int):jh .eql (.int k a) (.int k b)=some (.bool (decide (a=b))):=by simp only[jh,if_true];rfl
@[go_sem] theorem as7(k:IntKind)(a b:Int):jh .neq (.int k a) (.int k b)=some (.bool (decide (a≠b))):=by simp only[jh,if_true];congr 2;rw[Bool.eq_iff_iff];simp
@[go_sem] theorem as8(k:IntKind)(a b:Int):jh .lss (.int k a) (.int k b)=some (.bool (decide (a<b))):=by simp[jh]
@[go_sem] theorem as9(k:IntKind)(a b:Int):jh .leq (.int k a) (.int k b)=some (.bool (decide (a<=b))):=by simp[jh]
@[go_sem] theorem ata(k:IntKind)(a b:Int):jh .gtr (.int k a) (.int k b)=some (.bool (decide (b<a))):=by simp[jh]
@[go_sem] theorem atb(k:IntKind)(a b:Int):jh .geq (.int k a) (.int k b)=some (.bool (decide (b<=a))):=by simp[jh]
@[go_sem] theorem atc(k:IntKind)(a:Int):Ey .neg (.int k a)=some (.int k (k.wrap (-a))):=by simp[Ey]
@[go_sem] theorem atd(b:Bool):Ey .not (.bool b)=some (.bool (!b)):=rfl
@[go_sem] theorem ate(k k':IntKind)(a:Int):Ju k (.int k' a)=some (.int k (k.wrap a)):=rfl
@[go_sem] theorem atf(a b:Bool):Ap false [] (.bool a) (.bool b)=some (.bool (a==b)):=rfl
@[go_sem] theorem atg(a b:Bool):Ap true [] (.bool a) (.bool b)=some (.bool (!(a==b))):=rfl
theorem aa0{n:Bool}{ks:List Kd}{as bs:List AV}(h:ks≠[])(ha:kX ks as=true)(hb:kX ks bs=true):Ap n ks (.agg as) (.agg bs)=some (.bool (if n then !(mX as bs)else mX as bs)):=by simp[Ap,h,ha,hb]
@[go_sem] theorem ath(m:Bool)(x:AV):C9 m [x]=some x:=rfl
@[go_sem] theorem ati(k:IntKind)(a b:Int):C9 true [.int k a,.int k b]=some (.int k (max a b)):=by
 simp only[C9,Gj];congr 2;simp only[if_true];split<;>omega
theorem OC{a:Int}(h1:-9223372036854775808<=a)(h2:a<=9223372036854775807):IntKind.i64.wrap a=a:=by
 simp[IntKind.wrap,IntKind.bits,IntKind.signed];omega
theorem akZ{a:Int}(h1:0<=a)(h2:a<=18446744073709551615):IntKind.u64.wrap a=a:=by
 simp[IntKind.wrap,IntKind.bits,IntKind.signed];omega
theorem ak0{a:Int}(h1:0<=a)(h2:a<=255):IntKind.u8.wrap a=a:=by
 simp[IntKind.wrap,IntKind.bits,IntKind.signed];omega
theorem ak1{a b:Int}(h:0<=a):a.tdiv b=a/b:=Int.tdiv_eq_ediv_of_nonneg h
theorem ak2{a b:Int}(h:0<=a):a.tmod b=a%b:=Int.tmod_eq_emod_of_nonneg h
theorem aa1{k:IntKind}{i:Int}{n:Nat}(h0:0<=i)(h1:i<n):idx (.int k i) n=some i.toNat:=by simp[idx,h0,h1]
@[go_sem] theorem atj(k:IntKind)(n:Int):(AV.int k n).val=true:=rfl
@[go_sem] theorem atl(b:Bool):(AV.bool b).val=true:=rfl
@[go_sem] theorem atm(l:List UInt8):(AV.str l).val=true:=rfl
@[go_sem] theorem atn(cs:List AV):(AV.agg cs).val=true:=rfl
@[go_sem] theorem ato(z:Nat)(cs:List AV):(AV.aW z cs).val=true:=rfl
@[go_sem] theorem atp:AV.aP.val=true:=rfl
@[go_sem] theorem atq(f:Nat)(cs:List AV):(AV.fn f cs).val=true:=rfl
@[go_sem] theorem atr(i v z o l f:Nat):(AV.ref i v z o l f).val=true:=rfl
@[go_sem] theorem att(k:IntKind)(n:Int):(AV.int k n).cells=[.int k n]:=rfl
@[go_sem] theorem atu(b:Bool):(AV.bool b).cells=[.bool b]:=rfl
@[go_sem] theorem atv(l:List UInt8):(AV.str l).cells=[.str l]:=rfl
@[go_sem] theorem atw(cs:List AV):(AV.agg cs).cells=cs:=rfl
@[go_sem] theorem atx(z:Nat)(cs:List AV):(AV.aW z cs).cells=[.aW z cs]:=rfl
@[go_sem] theorem aty:AV.aP.cells=[.aP]:=rfl
@[go_sem] theorem atz(f:Nat)(cs:List AV):(AV.fn f cs).cells=[.fn f cs]:=rfl
@[go_sem] theorem atA(i v z o l f:Nat):(AV.ref i v z o l f).cells=[.ref i v z o l f]:=rfl
@[go_sem] theorem atB(vs:List AV)(i:Nat):Jv (.tuple vs) i=vs[i]?:=rfl
@[go_sem] theorem atC(c:AV)(cs:List AV):shaped .one (c::cs)=some c:=rfl
@[go_sem] theorem atD(n:Nat)(cs:List AV):shaped (.agg n) cs=if n<=cs.length then some (.agg (cs.take n))else none:=rfl
@[go_sem] theorem atE(cs:List AV):wW (.bR cs)=some (.bR cs):=rfl
@[go_sem] theorem atF(i v o:Nat):wW (.aF i v o)=some (.aF i v o):=rfl
@[go_sem] theorem atG(x:AV)(i o:Nat):wW (.gu x i o)=some (.gu x i o):=rfl
@[go_sem] theorem atH(f:Nat)(cs:List AV):wW (.fn f cs)=some (.fn f cs):=rfl
@[go_sem] theorem atI(cs:List AV)(k:Nat):pM (.bR cs) k=some (.bR (cs.drop k)):=rfl
@[go_sem] theorem atJ(i v o k:Nat):pM (.aF i v o) k=some (.aF i v (o+k)):=rfl
@[go_sem] theorem atK(x:AV)(i o k:Nat):pM (.gu x i o) k=some (.gu x i (o+k)):=rfl
@[go_sem] theorem atL(env:Env)(cs:List AV):lay env [] cs=some cs:=rfl
def SQ(env:Env)(n:Nat)(v:AV)(r:List (Nat×Nat×aL))(o:Option (List AV)):Option (List AV) :=
 if v.cells.length=n/\v.val=true then o.bind (lay env r)else none
theorem ak3(env:Env)(off n:Nat)(x:aL)(r:List (Nat×Nat×aL))(cs:List AV) :
  lay env ((off,n,x)::r) cs=SQ env n (x.ev env) r (splice cs off (x.ev env).cells):=rfl
@[go_sem] theorem atM(env:Env)(n:Nat)(v:AV)(r:List (Nat×Nat×aL))(cs:List AV):SQ env n v r (some cs)=if v.cells.length=n/\v.val=true then lay env r cs else none:=by
 unfold SQ;split<;>rfl
attribute [go_sem] ak3
attribute [go_sem] splice
theorem tK{cs new:List AV}{off:Nat}(h:off+new.length<=cs.length):splice cs off new=some (cs.take off++new++cs.drop (off+new.length)):=by simp[splice,h]
@[go_sem] theorem atN(k:IntKind)(n:Int):weak (.int k n)=.int k n:=rfl
@[go_sem] theorem atO(b:Bool):weak (.bool b)=.bool b:=rfl
@[go_sem] theorem atP(l:List UInt8):weak (.str l)=.str l:=rfl
@[go_sem] theorem atS(cs:List AV):weak (.agg cs)=.agg cs:=rfl
@[go_sem] theorem atT(z:Nat)(cs:List AV):weak (.aW z cs)=.aW z cs:=rfl
@[go_sem] theorem atU(z:Nat)(cs:List AV):weak (.own z cs)=.aW z cs:=rfl
@[go_sem] theorem atV(f:Nat)(cs:List AV):weak (.fn f cs)=.fn f cs:=rfl
@[go_sem] theorem atW(i v z o l f:Nat):weak (.ref i v z o l f)=.ref i v z o l f:=rfl
@[go_sem] theorem atX(cs:List AV):weak (.tuple cs)=.tuple (cs.map kg):=rfl
@[go_sem] theorem atY(k:IntKind)(n:Int):kg (.int k n)=.int k n:=rfl
@[go_sem] theorem atZ(b:Bool):kg (.bool b)=.bool b:=rfl
@[go_sem] theorem at0(l:List UInt8):kg (.str l)=.str l:=rfl
@[go_sem] theorem at5(cs:List AV):kg (.agg cs)=.agg cs:=rfl
@[go_sem] theorem at6(z:Nat)(cs:List AV):kg (.aW z cs)=.aW z cs:=rfl
@[go_sem] theorem at7(z:Nat)(cs:List AV):kg (.own z cs)=.aW z cs:=rfl
@[go_sem] theorem aua(f:Nat)(cs:List AV):kg (.fn f cs)=.fn f cs:=rfl
@[go_sem] theorem aub(i v z o l f:Nat):kg (.ref i v z o l f)=.ref i v z o l f:=rfl
@[go_sem] theorem wC(cx:Cx)(h:Heap):nD cx [] h=h:=rfl
theorem cO(h fr:Heap)(s:Nat):(h++fr)[h.length+s]?=fr[s]?:=by
 rw[mO (by omega)];congr 1;omega
theorem gy(h fr:Heap)(s:Nat)(b:Nat×au):(h++fr).set (h.length+s) b=h++fr.set s b:=by
 rw[List.set_append_right _ _ (by omega)];congr 2;omega
def SS(s:Nat)(ss:List Nat)(lo ns:Nat)(h fr:Heap):Option (Nat×au)->Heap
 |some (v,_)=>nD ⟨lo,h.length,ns,none⟩ ss (h++fr.set s (v,.dead))
 |none=>nD ⟨lo,h.length,ns,none⟩ ss (h++fr)
@[go_sem] theorem auc(s:Nat)(ss:List Nat)(lo ns:Nat)(h fr:Heap)(v:Nat)(b:au):SS s ss lo ns h fr (some (v,b))=nD ⟨lo,h.length,ns,none⟩ ss (h++fr.set s (v,.dead)):=rfl
@[go_sem] theorem ak4(lo ns:Nat)(h fr:Heap)(s:Nat)(ss:List Nat):nD ⟨lo,h.length,ns,none⟩ (s::ss) (h++fr)=SS s ss lo ns h fr fr[s]?:=by
 simp only[nD,cO]
 cases fr[s]? with
 |none=>rfl
 |some b=>obtain⟨v,b⟩:=b;simp only[SS,gy]
def vB(s ns:Nat)(b:au)(h fr:Heap):Option (Nat×au)->Option (Nat×Heap)
 |some (v,_)=>if s<ns then some (v+1,h++fr.set s (v+1,b))else none
 |none=>none
@[go_sem] theorem AO(s ns:Nat)(b:au)(h fr:Heap)(v:Nat)(b0:au):vB s ns b h fr (some (v,b0))=if s<ns then some (v+1,h++fr.set s (v+1,b))else none:=rfl
theorem ak5{lo base ns:Nat}(b:au):b.fits ⟨lo,base,ns,none⟩=true:=by
 cases b<;>simp[au.fits,Cx.fit]
@[go_sem] theorem AP(lo ns s:Nat)(b:au)(h fr:Heap):fB ⟨lo,h.length,ns,none⟩ s b (h++fr)=vB s ns b h fr fr[s]?:=by
 simp only[fB,ak5,cO,and_true]
 cases fr[s]? with
 |none=>simp[vB]
 |some x=>obtain⟨v,b0⟩:=x;simp only[vB,gy]
def KG(v off:Nat):Option (Nat×au)->Option (List AV)
 |some (v',.box cs)=>if v'=v then some (cs.drop off)else none
 |_=>none
@[go_sem] theorem aud(v off v':Nat)(cs:List AV):KG v off (some (v',.box cs))=if v'=v then some (cs.drop off)else none:=rfl
def Fe:Option (Nat×au)->Option (Nat×au)->Bool
 |some (v,.box cs),some (v',.box cs')=>v==v'&&AV.uz cs cs'
 |_,_=>false
@[go_sem] theorem aue(v v':Nat)(cs cs':List AV):Fe (some (v,.box cs)) (some (v',.box cs'))=(v==v'&&AV.uz cs cs'):=rfl
@[go_sem] theorem auf(cs:List AV):AV.uz cs cs=true:=Nk cs
@[go_sem] theorem aug(h fr fr':Heap)(s:Nat):wX (h++fr) (h++fr') (h.length+s)=Fe fr[s]? fr'[s]?:=by
 unfold wX Fe;rw[cO,cO];rfl
@[go_sem] theorem auh(h fr fr':Heap)(s i:Nat)(x:Nat×au):wX (h++fr) (h.set i x++fr') (h.length+s)=Fe fr[s]? fr'[s]?:=by
 have:h.length+s=(h.set i x).length+s:=by rw[vV]
 unfold wX Fe;rw[cO,this,cO];rfl
theorem ak6(h:Heap)(id ai off:Nat):ig h (.aF id ai off)=KG ai off h[id]?:=by
 simp only[ig]
 cases h[id]? with
 |none=>rfl
 |some x=>obtain⟨v,b⟩:=x;cases b<;>rfl
@[go_sem] theorem aa2(h fr:Heap)(s ai off:Nat):ig (h++fr) (.aF (h.length+s) ai off)=KG ai off fr[s]?:=by rw[ak6,cO]
@[go_sem] theorem aui(h:Heap)(cs:List AV):ig h (.bR cs)=some cs:=rfl
theorem jV{h:Heap}{v:AV}{es:List AV}{i off:Nat}(hv:iV h v=some es)(hi:i<es.length):ig h (.gu v i off)=some ((es[i]).cells.drop off):=by
 simp[ig,hv,hi]
def yI(s lo ns ai off:Nat)(h fr:Heap)(v:AV):Option (Nat×au)->Option Heap
 |some (v',.box cs)=>if v'=ai then(splice cs off v.cells).map fun cs=>h++fr.set s (ai,.box cs)else none
 |_=>none
@[go_sem] theorem auj(s lo ns ai off:Nat)(h fr:Heap)(v:AV)(v':Nat)(cs:List AV):yI s lo ns ai off h fr v (some (v',.box cs))=if v'=ai then(splice cs off v.cells).map fun cs=>h++fr.set s (ai,.box cs)else none:=rfl
theorem aa3{lo ns sz s ai off:Nat}{h fr:Heap}{v:AV}(hlo:lo<=h.length) :
  iX ⟨lo,h.length,ns,none⟩ (h++fr) sz (.aF (h.length+s) ai off) v=if v.cells.length=sz/\v.val=true then yI s lo ns ai off h fr v fr[s]? else none:=by
 by_cases hv:v.cells.length=sz/\v.val=true
 ·simp only[iX,hv,and_self,if_true,cO]
  cases fr[s]? with
  |none=>rfl
  |some x =>
   obtain⟨w,b⟩:=x
   cases b with
   |box cs =>
    have hle:lo<=h.length+s:=by omega
    by_cases hw:w=ai
    ·simp[yI,hw,hle,Cx.fit,gy]
    ·simp[yI,hw]
   |_=>rfl
 ·simp[iX,hv]
@[go_sem] theorem auk(cx:Cx)(env:Env)(h:Heap)(t:Nat):fQ.ok cx env h (.elem t)=match env.get t with|.gu ..|.bR ..=>true|_=>false:=rfl
@[go_sem] theorem aul(cx:Cx)(env:Env)(h:Heap)(t:Nat):fQ.ok cx env h (.box t)=match env.get t with|.aF ..|.bR ..=>true|_=>false:=rfl
@[go_sem] theorem aum(cx:Cx)(env:Env)(h:Heap)(t:Nat)(gs:List Nat):fQ.ok cx env h (.fn t gs)=match env.get t with|.fn g _=>gs.contains g|_=>false:=rfl
@[go_sem] theorem aun(cx:Cx)(env:Env)(h:Heap)(a b:Nat):fQ.ok cx env h (.ne a b)=match env.get a,env.get b with|.aF i _ _,.aF j _ _=>!decide (i=j)|_,_=>false:=rfl
@[go_sem] theorem auo(cx:Cx)(env:Env)(h:Heap)(p t:Nat):fQ.ok cx env h (.of p t)=match env.get p,env.get t with|.aF i _ _,.aF j _ _=>decide (i=j)|.bR _,.bR _=>true|_,_=>false:=rfl
@[go_sem] theorem aup(cx:Cx)(env:Env)(h:Heap)(t:Nat):fQ.ok cx env h (.closed t)=(env.get t).closed:=rfl
def SV:Option (Nat×au)->Bool
 |some (_,.dead)=>true
 |_=>false
@[go_sem] theorem auq(v:Nat):SV (some (v,.dead))=true:=rfl
@[go_sem] theorem ak7(lo ns:Nat)(env:Env)(h fr:Heap)(s:Nat):fQ.ok ⟨lo,h.length,ns,none⟩ env (h++fr) (.dead s)=SV fr[s]?:=by
 simp only[fQ.ok,cO];rfl
def KH:Option (Nat×au)->Bool
 |some (_,.dead)=>true
 |some (_,.arr ..)=>true
 |_=>false
@[go_sem] theorem aur(v:Nat):KH (some (v,.dead))=true:=rfl
@[go_sem] theorem aus(v z:Nat)(es:List AV):KH (some (v,.arr z es))=true:=rfl
@[go_sem] theorem aut(lo ns:Nat)(env:Env)(h fr:Heap)(s:Nat):fQ.ok ⟨lo,h.length,ns,none⟩ env (h++fr) (.wV s)=KH fr[s]?:=by
 simp only[fQ.ok,cO];rfl
@[go_sem] theorem auu(k:IntKind)(n:Int):(AV.int k n).closed=true:=rfl
@[go_sem] theorem auv(b:Bool):(AV.bool b).closed=true:=rfl
@[go_sem] theorem auw(l:List UInt8):(AV.str l).closed=true:=rfl
@[go_sem] theorem auy(z:Nat)(cs:List AV):(AV.aW z cs).closed=true:=rfl
@[go_sem] theorem auz:AV.aP.closed=true:=rfl
@[go_sem] theorem auA(cs:List AV):(AV.agg cs).closed=AV.l5 cs:=rfl
@[go_sem] theorem auB:AV.l5 []=true:=rfl
@[go_sem] theorem auC(c:AV)(cs:List AV):AV.l5 (c::cs)=(c.closed&&AV.l5 cs):=rfl
structure Sl(h:Heap)(z:Nat)(v:AV)(es:List AV):Prop where
 jd:jd z v=true
 elems:∀ fr,iV (h++fr) v=some es
 len:lU v=some es.length
theorem Sl.jW{h:Heap}{z:Nat}{v:AV}{es:List AV}(s:Sl h z v es):iV h v=some es:=by simpa using s.elems []
theorem Sl.app{h:Heap}{z:Nat}{v:AV}{es:List AV}(s:Sl h z v es)(fr:Heap):Sl (h++fr) z v es:=⟨s.jd,fun f=>by simpa using s.elems (fr++f),s.len⟩
theorem Sl.GZ{h:Heap}{z:Nat}{v:AV}{es:List AV}(s:Sl h z v es):oG h z v=some es:=by simp[oG,s.jd,s.jW]
theorem Sl.aW(h:Heap)(z:Nat)(es:List AV):Sl h z (.aW z es) es:=⟨by simp[VI.jd],fun _=>rfl,rfl⟩
theorem Sl.SX(h:Heap)(z z':Nat):Sl h z (.aW z' []) []:=⟨by simp[VI.jd],fun _=>rfl,rfl⟩
theorem Sl.nil(h:Heap)(z:Nat):Sl h z .aP []:=⟨rfl,fun _=>rfl,rfl⟩
theorem Sl.ref{h fr:Heap}{s ai z off len fill:Nat}{es:List AV}(hb:fr[s]?=some (ai,.arr z es))(hl:es.length=fill)(hle:off+len<=fill):Sl (h++fr) z (.ref (h.length+s) ai z off len fill) ((es.drop off).take len) :=
 ⟨by simp [VI.jd],fun f=>by
  have:(h++fr++f)[h.length+s]?=some (ai,.arr z es):=by
   rw[kY (by have:=(dQ.mp hb).1;simp;omega),cO,hb]
  rw[jO]at this;simp[iV,this,hl,hle],by simp[lU];omega⟩
theorem Sl.G5{h fr:Heap}{s ai z:Nat}{es:List AV}(hb:fr[s]?=some (ai,.arr z es)):Sl (h++fr) z (.ref (h.length+s) ai z 0 es.length es.length) es:=by
 have:=Sl.ref (h:=h) (off:=0) (len:=es.length) hb rfl (by omega)
 simpa using this
theorem kr{h:Heap}{z:Nat}{v:AV}{es:List AV}{k:IntKind}{i:Int}(s:Sl h z v es)(h0:0<=i)(h1:i<es.length):iM z v (.int k i)=some i.toNat :=
 akA s.jd s.len (aa1 h0 h1)
theorem iB{v:AV}{n:Nat}(h:lU v=some n):oH false v=some (.int .i64 n):=by simp[oH,h]
@[go_sem] theorem auD(l:List UInt8):oH true (.str l)=some (.int .i64 l.length):=rfl
def tk(f:bJ)(h:Heap):Option (Ex×St)->Option (AV×Heap)
 |some (.exit _,_)=>none
 |some (_,(env,h'))=>(uD env h' f.res).bind fun v=>(jf h.length v h').map fun r=>(r,if f.isOpen=true then h'.take h.length else h)
 |none=>none
theorem aa4(L:Lib)(x:bJ)(args:List AV)(h:Heap)(lo:Nat)(hl:args.length=x.np)(hlo:x.isOpen=true->lo<=h.length) :
  enter x (aQ L) args h lo=tk x h (aQ L ⟨if x.isOpen=true then lo else h.length,h.length,x.ns,none⟩ x.code (wY 0 args,h++List.replicate x.ns (0,.dead))):=by
 unfold enter;rw[if_pos ⟨hl,hlo⟩];dsimp only
 cases aQ L _ x.code _ with
 |none=>rfl
 |some r=>obtain⟨e,env,h'⟩:=r;cases e<;>rfl
@[go_sem] theorem auE(f:bJ)(h:Heap)(env:Env)(h':Heap):tk f h (some (.norm,(env,h')))=(uD env h' f.res).bind fun v=>(jf h.length v h').map fun r=>(r,if f.isOpen=true then h'.take h.length else h):=rfl
@[go_sem] theorem auF(f:bJ)(h:Heap)(env:Env)(h':Heap):tk f h (some (.ret,(env,h')))=(uD env h' f.res).bind fun v=>(jf h.length v h').map fun r=>(r,if f.isOpen=true then h'.take h.length else h):=rfl
@[go_sem] theorem auG(f:bJ)(h:Heap):tk f h none=none:=rfl
@[go_sem] theorem auH(f:bJ)(h:Heap)(p:Prop)[Decidable p](x y:Out):tk f h (if p then x else y)=if p then tk f h x else tk f h y:=by split<;>rfl
@[go_sem] theorem auI(env:Env)(h:Heap)(r:qR):uD env h [r]=yt env h r:=rfl
@[go_sem] theorem auJ(env:Env)(h:Heap):uD env h []=some (.tuple []):=rfl
@[go_sem] theorem auK(env:Env)(h:Heap)(r r':qR)(rs:List qR):uD env h (r::r'::rs)=(sQ env h (r::r'::rs)).map .tuple:=rfl
@[go_sem] theorem auL(env:Env)(h:Heap):sQ env h []=some []:=rfl
@[go_sem] theorem auM(env:Env)(h:Heap)(r:qR)(rs:List qR):sQ env h (r::rs)=(yt env h r).bind fun v=>(sQ env h rs).map fun vs=>v::vs:=rfl
@[go_sem] theorem auN(env:Env)(h:Heap)(t:Nat):yt env h (.tmp t)=some (env.get t):=rfl
@[go_sem] theorem auO(env:Env)(h:Heap)(t:Nat)(sh:Sh):yt env h (.cell t sh)=(ig h (env.get t)).bind fun cs=>shaped sh cs:=rfl
@[go_sem] theorem auP(b:Nat)(k:IntKind)(n:Int)(h:Heap):jf b (.int k n) h=some (.int k n):=rfl
@[go_sem] theorem auQ(b:Nat)(c:Bool)(h:Heap):jf b (.bool c) h=some (.bool c):=rfl
@[go_sem] theorem auR(b:Nat)(c:List UInt8)(h:Heap):jf b (.str c) h=some (.str c):=rfl
@[go_sem] theorem auS(b:Nat)(z:Nat)(es:List AV)(h:Heap):jf b (.aW z es) h=some (.aW z es):=rfl
@[go_sem] theorem auT(b:Nat)(h:Heap):jf b .aP h=some (.own 0 []):=rfl
@[go_sem] theorem auU(b:Nat)(cs:List AV)(h:Heap):jf b (.tuple cs) h=(rA b cs h).map fun(cs,_)=>.tuple cs:=rfl
def gvN(base:Nat)(cs:List AV):Option (AV×Heap)->Option (List AV×Heap)
 |some (c,h)=>(rA base cs h).map fun(cs,h)=>(c::cs,h)
 |none=>none
@[go_sem] theorem auV(base:Nat)(cs:List AV)(c:AV)(h:Heap):gvN base cs (some (c,h))=(rA base cs h).map fun(cs,h)=>(c::cs,h):=rfl
@[go_sem] theorem auW(b:Nat)(h:Heap):rA b [] h=some ([],h):=rfl
@[go_sem] theorem auX(b:Nat)(c:AV)(cs:List AV)(h:Heap):rA b (c::cs) h=gvN b cs (give b c h):=by
 simp only[rA];cases give b c h<;>rfl
@[go_sem] theorem auY(b:Nat)(k:IntKind)(n:Int)(h:Heap):give b (.int k n) h=some (.int k n,h):=rfl
@[go_sem] theorem auZ(b:Nat)(c:Bool)(h:Heap):give b (.bool c) h=some (.bool c,h):=rfl
@[go_sem] theorem au0(b:Nat)(c:List UInt8)(h:Heap):give b (.str c) h=some (.str c,h):=rfl
@[go_sem] theorem au1(b z:Nat)(es:List AV)(h:Heap):give b (.aW z es) h=some (.aW z es,h):=rfl
@[go_sem] theorem au2(b:Nat)(h:Heap):give b .aP h=some (.own 0 [],h):=rfl
attribute [go_sem] List.replicate List.append_nil decide_true decide_false Bool.false_eq_true Bool.true_and Bool.false_and Bool.and_true Bool.and_false Bool.not_true Bool.not_false Bool.or_true Bool.true_or Bool.or_false Bool.false_or Option.bind_some Option.bind_none Option.map_some Option.map_none List.getElem?_cons_zero List.getElem?_cons_succ List.getElem?_nil List.set_cons_zero List.set_cons_succ List.cons_append List.nil_append List.map_cons List.map_nil decide_eq_true_eq Bool.not_eq_true' decide_eq_false_iff_not Bool.and_eq_true Bool.or_eq_true List.drop_zero List.drop_succ_cons List.drop_nil List.take_succ_cons List.take_zero List.length_cons List.length_nil eq_self
theorem aa6{L:Lib}{x:bJ}{args:List AV}{h:Heap}{lo:Nat}(hl:args.length=x.np)(hc:x.isOpen=false) :
  enter x (aQ L) args h lo=tk x h (aQ L ⟨h.length,h.length,x.ns,none⟩ x.code (wY 0 args,h++List.replicate x.ns (0,.dead))):=by
 rw[aa4 L x args h lo hl (by simp[hc])]
 simp[hc]
theorem bW{L:Lib}{f:Nat}{x:bJ}{args:List AV}{h:Heap}{lo:Nat}(ho:L.pq f args h=none)(hf:L.mM f=some x)(hl:args.length=x.np)(hc:x.isOpen=false)(hb:L.Gm f=false:=by rfl) :
  (run L).fn f args h lo=tk x h (aQ L ⟨h.length,h.length,x.ns,none⟩ x.code (wY 0 args,h++List.replicate x.ns (0,.dead))):=by
 rw[run_eq,ho,hf];simp only[Option.bind_some,qV,hb,iw,if_false];exact aa6 hl hc
theorem oZ{L:Lib}{f:Nat}{x:bJ}{args:List AV}{h:Heap}{lo:Nat}(ho:L.pq f args h=none)(hf:L.mM f=some x)(hl:args.length=x.np)(hc:x.isOpen=true)(hlo:lo<=h.length)(hb:L.Gm f=false:=by rfl) :
  (run L).fn f args h lo=tk x h (aQ L ⟨lo,h.length,x.ns,none⟩ x.code (wY 0 args,h++List.replicate x.ns (0,.dead))):=by
 rw[run_eq,ho,hf];simp only[Option.bind_some,qV,hb,iw,if_false];rw[aa4 L x args h lo hl (by simp[hlo])]
 simp[hc]
theorem ak8{L:Lib}{f:Nat}{x:bJ}{args vs:List AV}{h:Heap}{lo:Nat}{r:AV}(ho:L.pq f args h=none)(hf:L.mM f=some x)(hb:L.Gm f=true)(hv:wZ h args=some vs)(he:enter x (aQ L) vs [] 0=some (r,[]))(hfl:r.Nj=true) :
  (run L).fn f args h lo=some (r,h):=by
 rw[run_eq,ho,hf];simp[qV,hb,hv,he,hfl]
def cK(z:Nat)(v:AV)(es:List AV):Prop:=(v=.aP/\es=[])\/(∃ z',(v=.aW z' es\/v=.bF z' es)/\(z'=z\/es=[]))
theorem cK.sl{z:Nat}{v:AV}{es:List AV}(p:cK z v es)(h:Heap):Sl h z v es:=by
 rcases p with⟨rfl,rfl⟩|⟨z',rfl|rfl,rfl|rfl⟩
 ·exact Sl.nil h z
 ·exact Sl.aW h z' es
 ·exact Sl.SX h z z'
 ·exact⟨by simp[VI.jd],fun _=>rfl,rfl⟩
 ·exact⟨by simp[VI.jd],fun _=>rfl,rfl⟩
theorem ak9{h:Heap}{z:Nat}{v:AV}{es:List AV}(s:Sl h z v es):∃ v',view h v=some v'/\cK z v' es:=by
 have hz:=s.jd;have he:=s.jW;have hl:=s.len;cases v<;>simp only[lU,reduceCtorEq,aS]at hl
 case aP=>exact⟨.aP,by simp[view],.inl ⟨rfl,qg hl.symm⟩⟩
 case aW z' es' =>
  simp only[iV,aS]at he;subst he
  exact⟨.aW z' es',by simp[view],.inr ⟨z',.inl rfl,by
   simp only[VI.jd,pE,beq_iff_eq,yA]at hz;exact hz.imp Eq.symm id⟩⟩
 case bF z' es' =>
  simp only[iV,aS]at he;subst he
  exact⟨.bF z' es',by simp[view],.inr ⟨z',.inr rfl,by
   simp only[VI.jd,pE,beq_iff_eq,yA]at hz;exact hz.imp Eq.symm id⟩⟩
 case ref id ai z' off len fill =>
  simp only[VI.jd,beq_iff_eq]at hz;subst hz;exact⟨.aW z es,by simp[view,he],.inr ⟨z,.inl rfl,.inl rfl⟩⟩
end Go.VI
