/- Walking the evaluator by rewriting: values, memory, calls. -/
import Derived.Test.YtfpoegnmeoghpaaGreatDoorVIW
set_option linter.unusedVariables false
set_option linter.unusedSimpArgs false
namespace Go.VI
@[go_sem] theorem alF(env:Env)(i:Nat):(aK.t i).ev env=env.get i:=rfl
@[go_sem] theorem alG(env:Env)(v:AV):(aK.c v).ev env=v:=rfl
@[go_sem] theorem alH(env:Env):evs env []=[]:=rfl
@[go_sem] theorem alI(env:Env)(x:aK)(xs:List aK):evs env (x::xs)=x.ev env::evs env xs:=rfl
@[go_sem] theorem get_nil(t:Nat):Env.get [] t=.undef:=rfl
@[go_sem] theorem alJ(s:Nat)(v:AV)(r:Env)(t:Nat):Env.get ((s,v)::r) t=if s=t then v else Env.get r t:=rfl
@[go_sem] theorem alK(e:Env)(t:Nat)(v:AV):Env.set e t v=(t,v)::e:=rfl
@[go_sem] theorem alL(env:Env)(t:Nat)(v:AV):env.put (some t) v=env.set t v:=rfl
@[go_sem] theorem alM(env:Env)(v:AV):env.put none v=env:=rfl
@[go_sem] theorem alN(env:Env):env.keep []=[]:=rfl
@[go_sem] theorem alO(env:Env)(s:Nat)(ss:List Nat):env.keep (s::ss)=(s,env.get s)::env.keep ss:=rfl
@[go_sem] theorem alQ(i:Nat):qA i []=[]:=rfl
@[go_sem] theorem alR(i:Nat)(v:AV)(vs:List AV):qA i (v::vs)=(i,v)::qA (i+1) vs:=rfl
@[go_sem] theorem alS(k:IntKind)(a b:Int):fI .add (.int k a) (.int k b)=some (.int k (k.wrap (a+b))):=by simp[fI]
@[go_sem] theorem alU(k:IntKind)(a b:Int):fI .sub (.int k a) (.int k b)=some (.int k (k.wrap (a-b))):=by simp[fI]
@[go_sem] theorem alV(k:IntKind)(a b:Int):fI .mul (.int k a) (.int k b)=some (.int k (k.wrap (a*b))):=by simp[fI]
theorem TT{k:IntKind}{a b:Int}(hb:b≠0):fI .quo (.int k a) (.int k b)=some (.int k (k.wrap (a.tdiv b))):=by simp[fI,hb]
theorem TU{k:IntKind}{a b:Int}(hb:b≠0):fI .rem (.int k a) (.int k b)=some (.int k (a.tmod b)):=by simp[fI,hb]
theorem adO{k k':IntKind}{a b:Int}(hb:0<=b):fI .shr (.int k a) (.int k' b)=some (.int k (a/(2^(min b.toNat k.bits)))):=by
 have:(0:Int)<=2^(min b.toNat k.bits):=Int.pow_nonneg (by omega)
 simp[fI,hb,Int.fdiv_eq_ediv_of_nonneg _ this]
@[go_sem] theorem alW(k k':IntKind)(a:Int):fI .shr (.int k a) (.int k' 1)=some (.int k (a/2)):=by
 rw[adO (by omega)]
 cases k<;>rfl
@[go_sem] theorem alX(k:IntKind)(a b:Int):fI .eql (.int k a) (.int k b)=some (.bool (decide (a=b))):=by simp only[fI,if_true];rfl
@[go_sem] theorem alY(k:IntKind)(a b:Int):fI .neq (.int k a) (.int k b)=some (.bool (decide (a≠b))):=by simp only[fI,if_true];congr 2;rw[Bool.eq_iff_iff];simp
@[go_sem] theorem alZ(k:IntKind)(a b:Int):fI .lss (.int k a) (.int k b)=some (.bool (decide (a<b))):=by simp[fI]
@[go_sem] theorem al0(k:IntKind)(a b:Int):fI .leq (.int k a) (.int k b)=some (.bool (decide (a<=b))):=by simp[fI]
@[go_sem] theorem al1(k:IntKind)(a b:Int):fI .gtr (.int k a) (.int k b)=some (.bool (decide (b<a))):=by simp[fI]
@[go_sem] theorem al2(k:IntKind)(a b:Int):fI .geq (.int k a) (.int k b)=some (.bool (decide (b<=a))):=by simp[fI]
@[go_sem] theorem al3(k:IntKind)(a:Int):zx .neg (.int k a)=some (.int k (k.wrap (-a))):=by simp[zx]
@[go_sem] theorem al4(b:Bool):zx .not (.bool b)=some (.bool (!b)):=rfl
@[go_sem] theorem al5(k k':IntKind)(a:Int):Dn k (.int k' a)=some (.int k (k.wrap a)):=rfl
@[go_sem] theorem al6(a b:Bool):tY false [] (.bool a) (.bool b)=some (.bool (a==b)):=rfl
@[go_sem] theorem al7(a b:Bool):tY true [] (.bool a) (.bool b)=some (.bool (!(a==b))):=rfl
theorem Ll{n:Bool}{ks:List Kd}{as bs:List AV}(h:ks≠[])(ha:ig ks as=true)(hb:ig ks bs=true):tY n ks (.agg as) (.agg bs)=some (.bool (if n then !(iU as bs)else iU as bs)):=by simp[tY,h,ha,hb]
@[go_sem] theorem al8(m:Bool)(x:AV):vk m [x]=some x:=rfl
@[go_sem] theorem al9(k:IntKind)(a b:Int):vk false [.int k a,.int k b]=some (.int k (min a b)):=by
 simp only[vk,zA];congr 2;simp only[fJ,if_false];split<;>omega
@[go_sem] theorem ama(k:IntKind)(a b:Int):vk true [.int k a,.int k b]=some (.int k (max a b)):=by
 simp only[vk,zA];congr 2;simp only[if_true];split<;>omega
theorem HY{a:Int}(h1:-9223372036854775808<=a)(h2:a<=9223372036854775807):IntKind.i64.wrap a=a:=by
 simp[IntKind.wrap,IntKind.bits,IntKind.signed];omega
theorem adP{a:Int}(h1:0<=a)(h2:a<=18446744073709551615):IntKind.u64.wrap a=a:=by
 simp[IntKind.wrap,IntKind.bits,IntKind.signed];omega
theorem adQ{a:Int}(h1:0<=a)(h2:a<=255):IntKind.u8.wrap a=a:=by
 simp[IntKind.wrap,IntKind.bits,IntKind.signed];omega
theorem adR{a b:Int}(h:0<=a):a.tdiv b=a/b:=Int.tdiv_eq_ediv_of_nonneg h
theorem adS{a b:Int}(h:0<=a):a.tmod b=a%b:=Int.tmod_eq_emod_of_nonneg h
theorem TV{k:IntKind}{i:Int}{n:Nat}(h0:0<=i)(h1:i<n):idx (.int k i) n=some i.toNat:=by simp[idx,h0,h1]
@[go_sem] theorem amb(k:IntKind)(n:Int):(AV.int k n).val=true:=rfl
@[go_sem] theorem amc(b:Bool):(AV.bool b).val=true:=rfl
@[go_sem] theorem amd(l:List UInt8):(AV.str l).val=true:=rfl
@[go_sem] theorem ame(cs:List AV):(AV.agg cs).val=true:=rfl
@[go_sem] theorem amf(z:Nat)(cs:List AV):(AV.aN z cs).val=true:=rfl
@[go_sem] theorem amg:AV.aD.val=true:=rfl
@[go_sem] theorem amh(f:Nat)(cs:List AV):(AV.fn f cs).val=true:=rfl
@[go_sem] theorem ami(i v z o l f:Nat):(AV.ref i v z o l f).val=true:=rfl
@[go_sem] theorem amj(k:IntKind)(n:Int):(AV.int k n).cells=[.int k n]:=rfl
@[go_sem] theorem amk(b:Bool):(AV.bool b).cells=[.bool b]:=rfl
@[go_sem] theorem aml(l:List UInt8):(AV.str l).cells=[.str l]:=rfl
@[go_sem] theorem amm(cs:List AV):(AV.agg cs).cells=cs:=rfl
@[go_sem] theorem amn(z:Nat)(cs:List AV):(AV.aN z cs).cells=[.aN z cs]:=rfl
@[go_sem] theorem amo:AV.aD.cells=[.aD]:=rfl
@[go_sem] theorem amq(f:Nat)(cs:List AV):(AV.fn f cs).cells=[.fn f cs]:=rfl
@[go_sem] theorem amr(i v z o l f:Nat):(AV.ref i v z o l f).cells=[.ref i v z o l f]:=rfl
@[go_sem] theorem ams(vs:List AV)(i:Nat):Dp (.tuple vs) i=vs[i]?:=rfl
@[go_sem] theorem amt(c:AV)(cs:List AV):shaped .one (c::cs)=some c:=rfl
@[go_sem] theorem amu(n:Nat)(cs:List AV):shaped (.agg n) cs=if n<=cs.length then some (.agg (cs.take n))else none:=rfl
@[go_sem] theorem amv(cs:List AV):rQ (.bD cs)=some (.bD cs):=rfl
@[go_sem] theorem amw(i v o:Nat):rQ (.aJ i v o)=some (.aJ i v o):=rfl
@[go_sem] theorem amx(x:AV)(i o:Nat):rQ (.di x i o)=some (.di x i o):=rfl
@[go_sem] theorem amy(f:Nat)(cs:List AV):rQ (.fn f cs)=some (.fn f cs):=rfl
@[go_sem] theorem amz(cs:List AV)(k:Nat):j6 (.bD cs) k=some (.bD (cs.drop k)):=rfl
@[go_sem] theorem amA(i v o k:Nat):j6 (.aJ i v o) k=some (.aJ i v (o+k)):=rfl
@[go_sem] theorem amB(x:AV)(i o k:Nat):j6 (.di x i o) k=some (.di x i (o+k)):=rfl
@[go_sem] theorem amC(env:Env)(cs:List AV):lay env [] cs=some cs:=rfl
def Lm(env:Env)(n:Nat)(v:AV)(r:List (Nat×Nat×aK))(o:Option (List AV)):Option (List AV) :=
 if v.cells.length=n/\v.val=true then o.bind (lay env r)else none
theorem adT(env:Env)(off n:Nat)(x:aK)(r:List (Nat×Nat×aK))(cs:List AV) :
  lay env ((off,n,x)::r) cs=Lm env n (x.ev env) r (splice cs off (x.ev env).cells):=rfl
@[go_sem] theorem amD(env:Env)(n:Nat)(v:AV)(r:List (Nat×Nat×aK))(cs:List AV):Lm env n v r (some cs)=if v.cells.length=n/\v.val=true then lay env r cs else none:=by
 unfold Lm;split<;>rfl
attribute [go_sem] adT
attribute [go_sem] splice
@[go_sem] theorem amE(k:IntKind)(n:Int):weak (.int k n)=.int k n:=rfl
@[go_sem] theorem amF(b:Bool):weak (.bool b)=.bool b:=rfl
@[go_sem] theorem amG(l:List UInt8):weak (.str l)=.str l:=rfl
@[go_sem] theorem amH(cs:List AV):weak (.agg cs)=.agg cs:=rfl
@[go_sem] theorem amI(z:Nat)(cs:List AV):weak (.aN z cs)=.aN z cs:=rfl
@[go_sem] theorem amJ(z:Nat)(cs:List AV):weak (.own z cs)=.aN z cs:=rfl
@[go_sem] theorem amK(f:Nat)(cs:List AV):weak (.fn f cs)=.fn f cs:=rfl
@[go_sem] theorem amL(i v z o l f:Nat):weak (.ref i v z o l f)=.ref i v z o l f:=rfl
@[go_sem] theorem amM(cs:List AV):weak (.tuple cs)=.tuple (cs.map dw):=rfl
@[go_sem] theorem amN(k:IntKind)(n:Int):dw (.int k n)=.int k n:=rfl
@[go_sem] theorem amO(b:Bool):dw (.bool b)=.bool b:=rfl
@[go_sem] theorem amP(l:List UInt8):dw (.str l)=.str l:=rfl
@[go_sem] theorem amQ(cs:List AV):dw (.agg cs)=.agg cs:=rfl
@[go_sem] theorem amR(z:Nat)(cs:List AV):dw (.aN z cs)=.aN z cs:=rfl
@[go_sem] theorem amS(z:Nat)(cs:List AV):dw (.own z cs)=.aN z cs:=rfl
@[go_sem] theorem amT(f:Nat)(cs:List AV):dw (.fn f cs)=.fn f cs:=rfl
@[go_sem] theorem amU(i v z o l f:Nat):dw (.ref i v z o l f)=.ref i v z o l f:=rfl
@[go_sem] theorem pW(cx:Cx)(h:Heap):jh cx [] h=h:=rfl
theorem bH(h fr:Heap)(s:Nat):(h++fr)[h.length+s]?=fr[s]?:=by
 rw[iX (by omega)];congr 1;omega
theorem eB(h fr:Heap)(s:Nat)(b:Nat×av):(h++fr).set (h.length+s) b=h++fr.set s b:=by
 rw[List.set_append_right _ _ (by omega)];congr 2;omega
def Lp(s:Nat)(ss:List Nat)(lo ns:Nat)(h fr:Heap):Option (Nat×av)->Heap
 |some (v,_)=>jh ⟨lo,h.length,ns,none⟩ ss (h++fr.set s (v,.dead))
 |none=>jh ⟨lo,h.length,ns,none⟩ ss (h++fr)
@[go_sem] theorem amV(s:Nat)(ss:List Nat)(lo ns:Nat)(h fr:Heap)(v:Nat)(b:av):Lp s ss lo ns h fr (some (v,b))=jh ⟨lo,h.length,ns,none⟩ ss (h++fr.set s (v,.dead)):=rfl
@[go_sem] theorem adU(lo ns:Nat)(h fr:Heap)(s:Nat)(ss:List Nat):jh ⟨lo,h.length,ns,none⟩ (s::ss) (h++fr)=Lp s ss lo ns h fr fr[s]?:=by
 simp only[jh,bH]
 cases fr[s]? with
 |none=>rfl
 |some b=>obtain⟨v,b⟩:=b;simp only[Lp,eB]
def xu(s ns:Nat)(b:av)(h fr:Heap):Option (Nat×av)->Option (Nat×Heap)
 |some (v,_)=>if s<ns then some (v+1,h++fr.set s (v+1,b))else none
 |none=>none
@[go_sem] theorem sF(s ns:Nat)(b:av)(h fr:Heap)(v:Nat)(b0:av):xu s ns b h fr (some (v,b0))=if s<ns then some (v+1,h++fr.set s (v+1,b))else none:=rfl
theorem adV{lo base ns:Nat}(b:av):b.fits ⟨lo,base,ns,none⟩=true:=by
 cases b<;>simp[av.fits,Cx.fit]
@[go_sem] theorem qN(lo ns s:Nat)(b:av)(h fr:Heap):bV ⟨lo,h.length,ns,none⟩ s b (h++fr)=xu s ns b h fr fr[s]?:=by
 simp only[bV,adV,bH,and_true]
 cases fr[s]? with
 |none=>simp[xu]
 |some x=>obtain⟨v,b0⟩:=x;simp only[xu,eB]
def Ep(v off:Nat):Option (Nat×av)->Option (List AV)
 |some (v',.box cs)=>if v'=v then some (cs.drop off)else none
 |_=>none
@[go_sem] theorem amW(v off v':Nat)(cs:List AV):Ep v off (some (v',.box cs))=if v'=v then some (cs.drop off)else none:=rfl
theorem adW(h:Heap)(id aj off:Nat):eD h (.aJ id aj off)=Ep aj off h[id]?:=by
 simp only[eD]
 cases h[id]? with
 |none=>rfl
 |some x=>obtain⟨v,b⟩:=x;cases b<;>rfl
@[go_sem] theorem TW(h fr:Heap)(s aj off:Nat):eD (h++fr) (.aJ (h.length+s) aj off)=Ep aj off fr[s]?:=by rw[adW,bH]
@[go_sem] theorem amX(h:Heap)(cs:List AV):eD h (.bD cs)=some cs:=rfl
theorem dx{h:Heap}{v:AV}{es:List AV}{i off:Nat}(hv:dW h v=some es)(hi:i<es.length):eD h (.di v i off)=some ((es[i]).cells.drop off):=by
 simp[eD,hv,hi]
def sG(s lo ns aj off:Nat)(h fr:Heap)(v:AV):Option (Nat×av)->Option Heap
 |some (v',.box cs)=>if v'=aj then(splice cs off v.cells).map fun cs=>h++fr.set s (aj,.box cs)else none
 |_=>none
@[go_sem] theorem amY(s lo ns aj off:Nat)(h fr:Heap)(v:AV)(v':Nat)(cs:List AV):sG s lo ns aj off h fr v (some (v',.box cs))=if v'=aj then(splice cs off v.cells).map fun cs=>h++fr.set s (aj,.box cs)else none:=rfl
theorem TY{lo ns sz s aj off:Nat}{h fr:Heap}{v:AV}(hlo:lo<=h.length) :
  dK ⟨lo,h.length,ns,none⟩ (h++fr) sz (.aJ (h.length+s) aj off) v=if v.cells.length=sz/\v.val=true then sG s lo ns aj off h fr v fr[s]? else none:=by
 by_cases hv:v.cells.length=sz/\v.val=true
 ·simp only[dK,hv,and_self,if_true,bH]
  cases fr[s]? with
  |none=>rfl
  |some x =>
   obtain⟨w,b⟩:=x
   cases b with
   |box cs =>
    have hle:lo<=h.length+s:=by omega
    by_cases hw:w=aj
    ·simp[sG,hw,hle,Cx.fit]
    ·simp[sG,hw]
   |_=>rfl
 ·simp[dK,hv]
@[go_sem] theorem amZ(cx:Cx)(env:Env)(h:Heap)(t:Nat):dn.ok cx env h (.elem t)=match env.get t with|.di ..|.bD ..=>true|_=>false:=rfl
@[go_sem] theorem am0(cx:Cx)(env:Env)(h:Heap)(t:Nat):dn.ok cx env h (.box t)=match env.get t with|.aJ ..|.bD ..=>true|_=>false:=rfl
@[go_sem] theorem am1(cx:Cx)(env:Env)(h:Heap)(t:Nat)(gs:List Nat):dn.ok cx env h (.fn t gs)=match env.get t with|.fn g _=>gs.contains g|_=>false:=rfl
@[go_sem] theorem am2(cx:Cx)(env:Env)(h:Heap)(a b:Nat):dn.ok cx env h (.ne a b)=match env.get a,env.get b with|.aJ i _ _,.aJ j _ _=>!decide (i=j)|_,_=>false:=rfl
@[go_sem] theorem am3(cx:Cx)(env:Env)(h:Heap)(t:Nat):dn.ok cx env h (.closed t)=(env.get t).closed:=rfl
def Lr:Option (Nat×av)->Bool
 |some (_,.dead)=>true
 |_=>false
@[go_sem] theorem am4(v:Nat):Lr (some (v,.dead))=true:=rfl
@[go_sem] theorem adX(lo ns:Nat)(env:Env)(h fr:Heap)(s:Nat):dn.ok ⟨lo,h.length,ns,none⟩ env (h++fr) (.dead s)=Lr fr[s]?:=by
 simp only[dn.ok,bH];rfl
def zV:Option (Nat×av)->Bool
 |some (_,.dead)=>true
 |some (_,.arr ..)=>true
 |_=>false
@[go_sem] theorem am5(v:Nat):zV (some (v,.dead))=true:=rfl
@[go_sem] theorem am6(v z:Nat)(es:List AV):zV (some (v,.arr z es))=true:=rfl
@[go_sem] theorem am7(lo ns:Nat)(env:Env)(h fr:Heap)(s:Nat):dn.ok ⟨lo,h.length,ns,none⟩ env (h++fr) (.kX s)=zV fr[s]?:=by
 simp only[dn.ok,bH];rfl
@[go_sem] theorem am8(k:IntKind)(n:Int):(AV.int k n).closed=true:=rfl
@[go_sem] theorem am9(b:Bool):(AV.bool b).closed=true:=rfl
@[go_sem] theorem am'(l:List UInt8):(AV.str l).closed=true:=rfl
@[go_sem] theorem ana(z:Nat)(cs:List AV):(AV.aN z cs).closed=true:=rfl
@[go_sem] theorem anb:AV.aD.closed=true:=rfl
@[go_sem] theorem anc(cs:List AV):(AV.agg cs).closed=AV.jw cs:=rfl
@[go_sem] theorem ane:AV.jw []=true:=rfl
@[go_sem] theorem anf(c:AV)(cs:List AV):AV.jw (c::cs)=(c.closed&&AV.jw cs):=rfl
structure Sl(h:Heap)(z:Nat)(v:AV)(es:List AV):Prop where
 fe:fe z v=true
 elems:∀ fr,dW (h++fr) v=some es
 len:iH v=some es.length
theorem Sl.eO{h:Heap}{z:Nat}{v:AV}{es:List AV}(s:Sl h z v es):dW h v=some es:=by simpa using s.elems []
theorem Sl.app{h:Heap}{z:Nat}{v:AV}{es:List AV}(s:Sl h z v es)(fr:Heap):Sl (h++fr) z v es:=⟨s.fe,fun f=>by simpa using s.elems (fr++f),s.len⟩
theorem Sl.zW{h:Heap}{z:Nat}{v:AV}{es:List AV}(s:Sl h z v es):jv h z v=some es:=by simp[jv,s.fe,s.eO]
theorem Sl.aN(h:Heap)(z:Nat)(es:List AV):Sl h z (.aN z es) es:=⟨by simp[VI.fe],fun _=>rfl,rfl⟩
theorem Sl.Lu(h:Heap)(z z':Nat):Sl h z (.aN z' []) []:=⟨by simp[VI.fe],fun _=>rfl,rfl⟩
theorem Sl.nil(h:Heap)(z:Nat):Sl h z .aD []:=⟨rfl,fun _=>rfl,rfl⟩
theorem Sl.ref{h fr:Heap}{s aj z off len fill:Nat}{es:List AV}(hb:fr[s]?=some (aj,.arr z es))(hl:es.length=fill)(hle:off+len<=fill):Sl (h++fr) z (.ref (h.length+s) aj z off len fill) ((es.drop off).take len) :=
 ⟨by simp [VI.fe],fun f=>by
  have:(h++fr++f)[h.length+s]?=some (aj,.arr z es):=by
   rw[gN (by have:=(bO.mp hb).1;simp;omega),bH,hb]
  rw[eH]at this;simp[dW,this,hl,hle],by simp[iH];omega⟩
theorem Sl.Er{h fr:Heap}{s aj z:Nat}{es:List AV}(hb:fr[s]?=some (aj,.arr z es)):Sl (h++fr) z (.ref (h.length+s) aj z 0 es.length es.length) es:=by
 have:=Sl.ref (h:=h) (off:=0) (len:=es.length) hb rfl (by omega)
 simpa using this
theorem dz{h:Heap}{z:Nat}{v:AV}{es:List AV}{k:IntKind}{i:Int}(s:Sl h z v es)(h0:0<=i)(h1:i<es.length):bP z v (.int k i)=some i.toNat :=
 adr s.fe s.len (TV h0 h1)
theorem bK{v:AV}{n:Nat}(h:iH v=some n):jc false v=some (.int .i64 n):=by simp[jc,h]
@[go_sem] theorem ang(l:List UInt8):jc true (.str l)=some (.int .i64 l.length):=rfl
def tk(f:aW)(h:Heap):Option (Ex×St)->Option (AV×Heap)
 |some (.exit _,_)=>none
 |some (_,(env,h'))=>(nX env h' f.res).bind fun v=>(eF h.length v h').map fun r=>(r,if f.isOpen=true then h'.take h.length else h)
 |none=>none
theorem T9(L:Lib)(x:aW)(args:List AV)(h:Heap)(lo:Nat)(hl:args.length=x.np)(hlo:x.isOpen=true->lo<=h.length) :
  enter x (aA L) args h lo=tk x h (aA L ⟨if x.isOpen=true then lo else h.length,h.length,x.ns,none⟩ x.code (qA 0 args,h++List.replicate x.ns (0,.dead))):=by
 unfold enter;rw[if_pos ⟨hl,hlo⟩];dsimp only
 cases aA L _ x.code _ with
 |none=>rfl
 |some r=>obtain⟨e,env,h'⟩:=r;cases e<;>rfl
@[go_sem] theorem anh(f:aW)(h:Heap)(env:Env)(h':Heap):tk f h (some (.norm,(env,h')))=(nX env h' f.res).bind fun v=>(eF h.length v h').map fun r=>(r,if f.isOpen=true then h'.take h.length else h):=rfl
@[go_sem] theorem ani(f:aW)(h:Heap)(env:Env)(h':Heap):tk f h (some (.ret,(env,h')))=(nX env h' f.res).bind fun v=>(eF h.length v h').map fun r=>(r,if f.isOpen=true then h'.take h.length else h):=rfl
@[go_sem] theorem anj(f:aW)(h:Heap):tk f h none=none:=rfl
@[go_sem] theorem ank(f:aW)(h:Heap)(p:Prop)[Decidable p](x y:Out):tk f h (if p then x else y)=if p then tk f h x else tk f h y:=by split<;>rfl
@[go_sem] theorem anl(env:Env)(h:Heap)(r:lK):nX env h [r]=rT env h r:=rfl
@[go_sem] theorem anm(env:Env)(h:Heap):nX env h []=some (.tuple []):=rfl
@[go_sem] theorem ann(env:Env)(h:Heap)(r r':lK)(rs:List lK):nX env h (r::r'::rs)=(ni env h (r::r'::rs)).map .tuple:=rfl
@[go_sem] theorem ano(env:Env)(h:Heap):ni env h []=some []:=rfl
@[go_sem] theorem anp(env:Env)(h:Heap)(r:lK)(rs:List lK):ni env h (r::rs)=(rT env h r).bind fun v=>(ni env h rs).map fun vs=>v::vs:=rfl
@[go_sem] theorem anq(env:Env)(h:Heap)(t:Nat):rT env h (.tmp t)=some (env.get t):=rfl
@[go_sem] theorem anr(env:Env)(h:Heap)(t:Nat)(sh:Sh):rT env h (.cell t sh)=(eD h (env.get t)).bind fun cs=>shaped sh cs:=rfl
@[go_sem] theorem ant(b:Nat)(k:IntKind)(n:Int)(h:Heap):eF b (.int k n) h=some (.int k n):=rfl
@[go_sem] theorem anu(b:Nat)(c:Bool)(h:Heap):eF b (.bool c) h=some (.bool c):=rfl
@[go_sem] theorem anv(b:Nat)(c:List UInt8)(h:Heap):eF b (.str c) h=some (.str c):=rfl
@[go_sem] theorem anw(b:Nat)(z:Nat)(es:List AV)(h:Heap):eF b (.aN z es) h=some (.aN z es):=rfl
@[go_sem] theorem anx(b:Nat)(h:Heap):eF b .aD h=some (.own 0 []):=rfl
@[go_sem] theorem anz(b:Nat)(cs:List AV)(h:Heap):eF b (.tuple cs) h=(l6 b cs h).map fun(cs,_)=>.tuple cs:=rfl
def Ua(base:Nat)(cs:List AV):Option (AV×Heap)->Option (List AV×Heap)
 |some (c,h)=>(l6 base cs h).map fun(cs,h)=>(c::cs,h)
 |none=>none
@[go_sem] theorem anA(base:Nat)(cs:List AV)(c:AV)(h:Heap):Ua base cs (some (c,h))=(l6 base cs h).map fun(cs,h)=>(c::cs,h):=rfl
@[go_sem] theorem anB(b:Nat)(h:Heap):l6 b [] h=some ([],h):=rfl
@[go_sem] theorem anC(b:Nat)(c:AV)(cs:List AV)(h:Heap):l6 b (c::cs) h=Ua b cs (give b c h):=by
 simp only[l6];cases give b c h<;>rfl
@[go_sem] theorem anD(b:Nat)(k:IntKind)(n:Int)(h:Heap):give b (.int k n) h=some (.int k n,h):=rfl
@[go_sem] theorem anE(b:Nat)(c:Bool)(h:Heap):give b (.bool c) h=some (.bool c,h):=rfl
@[go_sem] theorem anF(b:Nat)(c:List UInt8)(h:Heap):give b (.str c) h=some (.str c,h):=rfl
@[go_sem] theorem anG(b z:Nat)(es:List AV)(h:Heap):give b (.aN z es) h=some (.aN z es,h):=rfl
@[go_sem] theorem anH(b:Nat)(h:Heap):give b .aD h=some (.own 0 [],h):=rfl
attribute [go_sem] List.replicate List.append_nil decide_true decide_false Bool.false_eq_true Bool.true_and Bool.false_and Bool.and_true Bool.and_false Bool.not_true Bool.not_false Bool.or_true Bool.true_or Bool.or_false Bool.false_or Option.bind_some Option.bind_none Option.map_some Option.map_none List.getElem?_cons_zero List.getElem?_cons_succ List.getElem?_nil List.set_cons_zero List.set_cons_succ List.cons_append List.nil_append List.map_cons List.map_nil decide_eq_true_eq Bool.not_eq_true' decide_eq_false_iff_not Bool.and_eq_true Bool.or_eq_true List.drop_zero List.drop_succ_cons List.drop_nil List.take_succ_cons List.take_zero List.length_cons List.length_nil eq_self
theorem Ub{L:Lib}{x:aW}{args:List AV}{h:Heap}{lo:Nat}(hl:args.length=x.np)(hc:x.isOpen=false) :
  enter x (aA L) args h lo=tk x h (aA L ⟨h.length,h.length,x.ns,none⟩ x.code (qA 0 args,h++List.replicate x.ns (0,.dead))):=by
 rw[T9 L x args h lo hl (by simp[hc])]
 simp[hc]
theorem aY{L:Lib}{f:Nat}{x:aW}{args:List AV}{h:Heap}{lo:Nat}(ho:L.jS f args h=none)(hf:L.iW f=some x)(hl:args.length=x.np)(hc:x.isOpen=false)(hb:L.Bb f=false:=by rfl) :
  (run L).fn f args h lo=tk x h (aA L ⟨h.length,h.length,x.ns,none⟩ x.code (qA 0 args,h++List.replicate x.ns (0,.dead))):=by
 rw[run_eq,ho,hf];simp only[Option.bind_some,lM,hb,fJ,if_false];exact Ub hl hc
theorem iP{L:Lib}{f:Nat}{x:aW}{args:List AV}{h:Heap}{lo:Nat}(ho:L.jS f args h=none)(hf:L.iW f=some x)(hl:args.length=x.np)(hc:x.isOpen=true)(hlo:lo<=h.length)(hb:L.Bb f=false:=by rfl) :
  (run L).fn f args h lo=tk x h (aA L ⟨lo,h.length,x.ns,none⟩ x.code (qA 0 args,h++List.replicate x.ns (0,.dead))):=by
 rw[run_eq,ho,hf];simp only[Option.bind_some,lM,hb,fJ,if_false];rw[T9 L x args h lo hl (by simp[hlo])]
 simp[hc]
theorem adY{L:Lib}{f:Nat}{x:aW}{args vs:List AV}{h:Heap}{lo:Nat}{r:AV}(ho:L.jS f args h=none)(hf:L.iW f=some x)(hb:L.Bb f=true)(hv:qB h args=some vs)(he:enter x (aA L) vs [] 0=some (r,[]))(hfl:r.Gd=true) :
  (run L).fn f args h lo=some (r,h):=by
 rw[run_eq,ho,hf];simp[lM,hb,hv,he,hfl]
def bG(z:Nat)(v:AV)(es:List AV):Prop:=(v=.aD/\es=[])\/(∃ z',(v=.aN z' es\/v=.aM z' es)/\(z'=z\/es=[]))
theorem bG.sl{z:Nat}{v:AV}{es:List AV}(p:bG z v es)(h:Heap):Sl h z v es:=by
 rcases p with⟨rfl,rfl⟩|⟨z',rfl|rfl,rfl|rfl⟩
 ·exact Sl.nil h z
 ·exact Sl.aN h z' es
 ·exact Sl.Lu h z z'
 ·exact⟨by simp[VI.fe],fun _=>rfl,rfl⟩
 ·exact⟨by simp[VI.fe],fun _=>rfl,rfl⟩
theorem adZ{h:Heap}{z:Nat}{v:AV}{es:List AV}(s:Sl h z v es):∃ v',view h v=some v'/\bG z v' es:=by
 have hz:=s.fe;have he:=s.eO;have hl:=s.len;cases v<;>simp only[iH,reduceCtorEq,aP]at hl
 case aD=>exact⟨.aD,by simp[view],.inl ⟨rfl,kZ hl.symm⟩⟩
 case aN z' es' =>
  simp only[dW,aP]at he;subst he
  exact⟨.aN z' es',by simp[view],.inr ⟨z',.inl rfl,by
   simp only[VI.fe,kN,beq_iff_eq,rX]at hz;exact hz.imp Eq.symm id⟩⟩
 case aM z' es' =>
  simp only[dW,aP]at he;subst he
  exact⟨.aM z' es',by simp[view],.inr ⟨z',.inr rfl,by
   simp only[VI.fe,kN,beq_iff_eq,rX]at hz;exact hz.imp Eq.symm id⟩⟩
 case ref id aj z' off len fill =>
  simp only[VI.fe,beq_iff_eq]at hz;subst hz;exact⟨.aN z es,by simp[view,he],.inr ⟨z,.inl rfl,.inl rfl⟩⟩
end Go.VI
