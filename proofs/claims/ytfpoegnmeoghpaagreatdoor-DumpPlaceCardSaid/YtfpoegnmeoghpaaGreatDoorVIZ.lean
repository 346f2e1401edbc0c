/- Walking the evaluator by rewriting: slices that are made. -/
import Derived.Test.YtfpoegnmeoghpaaGreatDoorVIX
set_option linter.unusedVariables false
set_option linter.unusedSimpArgs false
namespace Go.VI
@[go_sem] theorem aRu(b:Nat)(k:Bool)(kd:IntKind)(n:Int)(h:Heap):gI b k (.int kd n) h=some (.int kd n,h):=by simp[gI]
@[go_sem] theorem aRv(b:Nat)(k:Bool)(n:Bool)(h:Heap):gI b k (.bool n) h=some (.bool n,h):=by simp[gI]
@[go_sem] theorem aRw(b:Nat)(k:Bool)(l:List UInt8)(h:Heap):gI b k (.str l) h=some (.str l,h):=by simp[gI]
@[go_sem] theorem aRx(b:Nat)(k:Bool)(z:Nat)(l:List AV)(h:Heap):gI b k (.eY z l) h=some (.eY z l,h):=by simp[gI]
@[go_sem] theorem aRy(b:Nat)(k:Bool)(z:Nat)(l:List AV)(h:Heap):gI b k (.fT z l) h=some (.fT z l,h):=by simp[gI]
@[go_sem] theorem aRz(b:Nat)(k:Bool)(h:Heap):gI b k .bO h=some (.eY 0 [],h):=by simp[gI]
def fzr(b id ak off n:Nat)(cs':List AV)(h1:Heap):Option (Nat×aU)->Option (AV×Heap)
 |some (v1,.box _)=>if b<=id/\AV.EY cs'=true/\cs'.length=n then some (.bq id ak off,h1.set id (v1,.box cs'))else none
 |_=>none
def fzq(b id ak off n:Nat):Option (List AV×Heap)->Option (AV×Heap)
 |some (cs',h1)=>fzr b id ak off n cs' h1 h1[id]?
 |none=>none
def fzm(b id ak off:Nat)(h:Heap):Option (Nat×aU)->Option (AV×Heap)
 |some (_,.box cs)=>fzq b id ak off cs.length (zx b false cs h)
 |_=>none
@[go_sem] theorem aRA(b id ak off n v1:Nat)(cs cs':List AV)(h1:Heap):fzr b id ak off n cs' h1 (some (v1,.box cs))=if b<=id/\AV.EY cs'=true/\cs'.length=n then some (.bq id ak off,h1.set id (v1,.box cs'))else none:=rfl
@[go_sem] theorem aRB(b id ak off v0:Nat)(h:Heap)(cs:List AV):fzm b id ak off h (some (v0,.box cs))=fzq b id ak off cs.length (zx b false cs h):=rfl
@[go_sem] theorem aRC(b ak off s:Nat)(h fr:Heap):fzv b (.bq (h.length+s) ak off) (h++fr)=fzm b (h.length+s) ak off (h++fr) fr[s]?:=by
 simp only[fzv];rw[ku];rcases fr[s]? with _|⟨v,_|_|_|_⟩<;>try rfl
 simp only[fzm]
 cases zx b false _ (h++fr) with
 |none=>rfl
 |some q =>
  simp only[Option.bind_some,fzq];rcases q.2[h.length+s]? with _|⟨v,_|_|_|_⟩<;>rfl
@[go_sem] theorem aRD(b id ak z off len fill:Nat)(h:Heap):fzv b (.ref id ak z off len fill) h=gI b false (.ref id ak z off len fill) h:=rfl
@[go_sem] theorem aRE(b z:Nat)(es:List AV)(h:Heap):fzv b (.eY z es) h=some (.eY z es,h):=rfl
@[go_sem] theorem aRF(b z:Nat)(es:List AV)(h:Heap):fzv b (.fT z es) h=some (.fT z es,h):=rfl
@[go_sem] theorem aRG(b:Nat)(h:Heap):fzv b .bO h=some (.eY 0 [],h):=rfl
def fzA:Option (List AV×Heap)->Option (AV×Heap)
 |some (cs,h)=>some (.agg cs,h)
 |none=>none
@[go_sem] theorem aRH(cs:List AV)(h:Heap):fzA (some (cs,h))=some (.agg cs,h):=rfl
@[go_sem] theorem aRI(b:Nat)(k:Bool)(cs:List AV)(h:Heap):gI b k (.agg cs) h=fzA (zx b k cs h):=by
 simp only[gI];cases zx b k cs h<;>rfl
def fzL(b:Nat)(k:Bool)(cs:List AV):Option (AV×Heap)->Option (List AV×Heap)
 |some (c,h)=>(zx b k cs h).map fun(cs,h)=>(c::cs,h)
 |none=>none
@[go_sem] theorem aRJ(b:Nat)(k:Bool)(cs:List AV)(c:AV)(h:Heap):fzL b k cs (some (c,h))=(zx b k cs h).map fun(cs,h)=>(c::cs,h):=rfl
@[go_sem] theorem aRK(b:Nat)(k:Bool)(h:Heap):zx b k [] h=some ([],h):=by simp[zx]
@[go_sem] theorem aRL(b:Nat)(k:Bool)(c:AV)(cs:List AV)(h:Heap):zx b k (c::cs) h=fzL b k cs (gI b k c h):=by
 simp only[zx];cases gI b k c h<;>rfl
@[go_sem] theorem aRM(b:Nat)(cs:List AV)(h:Heap):tJ b (.agg cs) h=(gI b true (.agg cs) h).map (·.1):=rfl
@[go_sem] theorem aRN(b:Nat)(cs:List AV)(h:Heap):give b (.agg cs) h=gI b true (.agg cs) h:=rfl
def sp(env:Env)(base z i:Nat)(ps:List (Nat×bD))(es:List AV):Option (AV×Heap)->Option (List AV×Heap)
 |some (v,h)=>if i<es.length/\v.cells.length=z/\v.val=true then FI env base z ps (es.set i v) h else none
 |none=>none
@[go_sem] theorem aRO(env:Env)(base z i:Nat)(ps:List (Nat×bD))(es:List AV)(v:AV)(h:Heap) :
  sp env base z i ps es (some (v,h))=if i<es.length/\v.cells.length=z/\v.val=true then FI env base z ps (es.set i v) h else none:=rfl
@[go_sem] theorem aRP(env:Env)(base z:Nat)(es:List AV)(h:Heap):FI env base z [] es h=some (es,h):=rfl
@[go_sem] theorem aRQ(env:Env)(base z i:Nat)(x:bD)(ps:List (Nat×bD))(es:List AV)(h:Heap) :
  FI env base z ((i,x)::ps) es h=sp env base z i ps es (gI base false (x.ev env) h):=by
 simp only[FI];cases gI base false (x.ev env) h<;>rfl
theorem asP{h:Heap}{z:Nat}{v:AV}{es:List AV}(s:Sl h z v es):Rf h z v=some es:=by
 have:=s.aol;cases v<;>first|exact this|(have:=s.len;simp[DY]at this)
theorem Sl.fT(h:Heap)(z:Nat)(es:List AV):Sl h z (.fT z es) es:=⟨by simp[VI.xB],fun _=>rfl,rfl⟩
@[go_sem] theorem aRR(h:Heap)(z:Nat)(es:List AV):Rf h z (.fT z es)=some es:=asP (Sl.fT h z es)
def jJ(id:Nat)(b0:Nat×aU)(z:Nat)(es:List AV):AV:=if es=[]then .bO else .ref id (b0.1+1) z 0 es.length es.length
def jw(b0:Nat×aU)(z:Nat)(es:List AV):Nat×aU:=if es=[]then b0 else(b0.1+1,.arr z es)
def aor(b0:Nat×aU)(es:List AV):Nat×aU:=if es=[]then b0 else(b0.1+1,.dead)
def BL(z:Nat)(es:List AV):AV:=if es=[]then .own 0 []else .own z es
def zn(z:Nat)(es:List AV):AV:=if es=[]then .eY 0 []else .eY z es
theorem ai8(id:Nat)(b0:Nat×aU)(z:Nat):jJ id b0 z []=.bO:=rfl
theorem al8(b0:Nat×aU)(z:Nat):jw b0 z []=b0:=rfl
theorem QV{id:Nat}{b0:Nat×aU}{z:Nat}{es:List AV}(h:es≠[]):jJ id b0 z es=.ref id (b0.1+1) z 0 es.length es.length:=if_neg h
theorem RI{b0:Nat×aU}{z:Nat}{es:List AV}(h:es≠[]):jw b0 z es=(b0.1+1,.arr z es):=if_neg h
@[go_sem] theorem ai9(id:Nat)(b0:Nat×aU)(z:Nat)(es:List AV):(jJ id b0 z es).val=true:=by unfold jJ;split<;>rfl
@[go_sem] theorem aRS(z:Nat)(es:List AV):(zn z es).val=true:=by unfold zn;split<;>rfl
@[go_sem] theorem aRT(z:Nat)(es:List AV):(zn z es).cells=[zn z es]:=by unfold zn;split<;>rfl
@[go_sem] theorem aRU(z:Nat)(es:List AV):(zn z es).closed=true:=by unfold zn;split<;>rfl
@[go_sem] theorem aRV(b:Nat)(k:Bool)(z:Nat)(l:List AV)(h:Heap):gI b k (zn z l) h=some (zn z l,h):=by unfold zn;split<;>simp[gI]
@[go_sem] theorem aRW(z:Nat)(es:List AV):weak (BL z es)=zn z es:=by unfold BL zn;split<;>rfl
@[go_sem] theorem aRX(z:Nat)(es:List AV):yY (BL z es)=zn z es:=by unfold BL zn;split<;>rfl
@[go_sem] theorem aRY(z:Nat)(es:List AV):weak (zn z es)=zn z es:=by unfold zn;split<;>rfl
@[go_sem] theorem aRZ(z:Nat)(es:List AV):yY (zn z es)=zn z es:=by unfold zn;split<;>rfl
theorem Sl.zn(h:Heap)(z:Nat)(es:List AV):Sl h z (VI.zn z es) es:=by
 unfold VI.zn;split
 ·rename_i h0;subst h0;exact Sl.asL h z 0
 ·exact Sl.eY h z es
theorem Sl.acc{h fr:Heap}{s z:Nat}{b0:Nat×aU}{es:List AV}(hb:fr[s]?=some (jw b0 z es)):Sl (h++fr) z (jJ (h.length+s) b0 z es) es:=by
 unfold jJ;unfold jw at hb;split
 ·rename_i h0;subst h0;exact Sl.nil _ z
 ·rename_i h0;rw[if_neg h0]at hb;exact Sl.aki hb
theorem akk{α:Type}{l:List α}{s:Nat}{x:α}(h:l[s]?=some x):l.set s x=l:=by
 refine Zy fun j=>?_;by_cases hj:j=s
 ·subst hj;rw[L8 (kS.mp h).1,h]
 ·rw[tL (by omega)]
theorem RQ{lo ns s z lim:Nat}{h fr:Heap}{b0:Nat×aU}{es xs:List AV}(hs:s<ns)(hlo:lo<=h.length)(hb:fr[s]?=some (jw b0 z es))(hl:es.length+xs.length<=lim) :
  wG ⟨lo,h.length,ns,none⟩ s z lim (jJ (h.length+s) b0 z es) xs (h++fr)=some (jJ (h.length+s) b0 z (es++xs),h++fr.set s (jw b0 z (es++xs))):=by
 unfold jJ jw at*;by_cases h0:es=[]
 ·subst h0;simp only[if_true,List.nil_append]at hb⊢;simp only[wG];by_cases h1:xs=[]
  ·subst h1;simp[akk hb]
  ·have h2:xs.length<=lim:=by simpa using hl
   have h3:mK ⟨lo,h.length,ns,none⟩ s (.arr z xs) (h++fr)=some (b0.1+1,h++fr.set s (b0.1+1,.arr z xs)):=by
    rw[abz,hb];obtain⟨v0,bl⟩:=b0;rw[ack,if_pos hs]
   simp[h1,h2,h3]
 ·have h1:es++xs≠[]:=by simp[h0]
  simp only[if_neg h0,if_neg h1]at hb⊢;have hle:lo<=h.length+s:=by omega
  simp[wG,ku,hb,hle,hl,o7]
theorem ZJ{s z:Nat}{h fr:Heap}{b0:Nat×aU}{es:List AV}(hb:fr[s]?=some (jw b0 z es)) :
  give h.length (jJ (h.length+s) b0 z es) (h++fr)=some (BL z es,h++fr.set s (aor b0 es)):=by
 unfold jJ jw BL aor at*;by_cases h0:es=[]
 ·subst h0;simp only[if_true]at hb⊢;simp[give,akk hb]
 ·simp only[if_neg h0]at hb⊢;simp[give,wF,ku,hb,o7]
theorem aos{s z:Nat}{h fr:Heap}{b0:Nat×aU}{es:List AV}(hb:fr[s]?=some (jw b0 z es)) :
  tJ h.length (jJ (h.length+s) b0 z es) (h++fr)=some (BL z es):=by
 have:=ZJ (h:=h) hb;unfold jJ at*;split at this
 ·rename_i h0;rw[if_pos h0];simp only[tJ];rw[this];rfl
 ·rename_i h0;rw[if_neg h0];simp only[tJ];rw[this];rfl
theorem ai'{lo ns s z:Nat}{h fr:Heap}{b0:Nat×aU}{es:List AV}(hs:s<ns)(hb:fr[s]?=some b0)(h0:es≠[]) :
  F9 ⟨lo,h.length,ns,none⟩ [(0,s)] (some (BL z es,h++fr))=some (.ref (h.length+s) (b0.1+1) z 0 es.length es.length,h++fr.set s (b0.1+1,.arr z es)):=by
 have h3:mK ⟨lo,h.length,ns,none⟩ s (.arr z es) (h++fr)=some (b0.1+1,h++fr.set s (b0.1+1,.arr z es)):=by
  rw[abz,hb];obtain⟨v0,bl⟩:=b0;rw[ack,if_pos hs]
 simp[BL,h0,F9,Dz,h3,weak,yY]
theorem IB{h fr:Heap}{id:Nat}{b:Nat×aU}(hb:h[id]?=some b):(h++fr)[id]?=some b:=by
 rw[zy (kS.mp hb).1,hb]
theorem aot{h fr:Heap}{id:Nat}{b0:Nat×aU}(b:Nat×aU)(hb:h[id]?=some b0):(h++fr).set id b=h.set id b++fr:=by
 rw[List.set_append_left _ _ (kS.mp hb).1]
theorem Sl.aIj{h:Heap}{id ak z:Nat}{es:List AV}(hb:h[id]?=some (ak,.arr z es)):Sl h z (.ref id ak z 0 es.length es.length) es :=
 ⟨by simp[VI.xB],fun f=>by simp[wF,IB hb],rfl⟩
theorem ac7{cx:Cx}{s z lim id ak:Nat}{h:Heap}{es xs:List AV}(hb:h[id]?=some (ak,.arr z es))(hlo:cx.lo<=id)(hl:es.length+xs.length<=lim) :
  wG cx s z lim (.ref id ak z 0 es.length es.length) xs h=some (.ref id ak z 0 (es.length+xs.length) (es.length+xs.length),h.set id (ak,.arr z (es++xs))):=by
 simp[wG,hb,hlo,hl]
theorem asQ{cx:Cx}{h:Heap}{id ak o len fill i:Nat}{k:IntKind}{l:List Int}{n:Int}(hid:h[id]?=some (ak,.arr 1 (l.map (.int k))))(hl:l.length=fill)(hfit:o+len<=fill)(hi:i<len)(hlo:cx.lo<=id) :
  qE cx h 1 (.nS (.ref id ak 1 o len fill) i 0) (.int k n)=some (h.set id (ak,.arr 1 ((l.set (o+i) n).map (.int k)))):=by
 have hlt:o+i<l.length:=by omega
 have he:(l.map (AV.int k))[o+i]?=some (.int k l[o+i]):=by simp[hlt]
 simp only[qE,gI,AV.cells,AV.val,hid,abv,hl,hfit,hi,hlo,and_self,if_true,Option.bind_some,he,List.map_set,List.length_cons,Ma]
theorem aR0{lo ns:Nat}{h fr:Heap}{s ak o len fill i:Nat}{k:IntKind}{l:List Int}{n:Int}(hid:fr[s]?=some (ak,.arr 1 (l.map (.int k))))(hl:l.length=fill)(hfit:o+len<=fill)(hi:i<len)(hlo:lo<=h.length) :
  qE ⟨lo,h.length,ns,none⟩ (h++fr) 1 (.nS (.ref (h.length+s) ak 1 o len fill) i 0) (.int k n)=some (h++fr.set s (ak,.arr 1 ((l.set (o+i) n).map (.int k)))):=by
 rw[asQ (by rw[ku];exact hid) hl hfit hi (by simp only[];omega),o7]
@[go_sem] theorem aAz(n d:Nat):bnd none n d=some d:=rfl
theorem aou{k:IntKind}{i:Int}{n d:Nat}(h0:0<=i)(h1:i<=n):bnd (some (.int k i)) n d=some i.toNat:=by simp[bnd,h0,h1]
theorem aAA{lo ns:Nat}{h fr:Heap}{s ak z off len fill:Nat}{es ys:List AV}(hb:fr[s]?=some (ak,.arr z es))(hl:es.length=fill)(hfit:off+len<=fill)(hlo:lo<=h.length) :
  Rx ⟨lo,h.length,ns,none⟩ z (.ref (h.length+s) ak z off len fill) ys (h++fr)=some (.int .i64 (min ys.length len:Nat),h++fr.set s (ak,.arr z (es.take off++ys.take (min ys.length len)++es.drop (off+min ys.length len)))):=by
 have hle:lo<=h.length+s:=by omega
 simp only[Rx,xB,beq_self_eq_true,if_true,DY];split
 ·rename_i h0;rw[h0];simp only[List.take_zero,Gs,Nat.add_zero,List.take_append_drop];rw[akk hb];rfl
 ·rw[ku,hb];simp only[hl,hfit,hle,and_self,if_true,o7]
def cpx(cx:Cx)(z:Nat)(x:AV)(h:Heap):Option (List AV)->Option (AV×Heap)
 |some ys=>Rx cx z x ys h
 |none=>none
@[go_sem] theorem aR1(cx:Cx)(z:Nat)(x:AV)(h:Heap)(ys:List AV):cpx cx z x h (some ys)=Rx cx z x ys h:=rfl
@[go_sem] theorem aR2(C:Callee)(cx:Cx)(env:Env)(h:Heap)(z:Nat)(x y:bD):xi C cx env h (.copy z x y)=cpx cx z (x.ev env) h (JH h z (y.ev env)):=by
 simp only[xi];cases JH h z (y.ev env)<;>rfl
def clx:Option (AV×Heap)->Option (AV×Heap)
 |some (_,h)=>some (.tuple [],h)
 |none=>none
@[go_sem] theorem aR3(v:AV)(h:Heap):clx (some (v,h))=some (.tuple [],h):=rfl
def clz(cx:Cx)(z:Nat)(zero x:AV)(h:Heap):Option Nat->Option (AV×Heap)
 |some n=>clx (Rx cx z x (List.replicate n zero) h)
 |none=>none
@[go_sem] theorem aR4(cx:Cx)(z n:Nat)(zero x:AV)(h:Heap):clz cx z zero x h (some n)=clx (Rx cx z x (List.replicate n zero) h):=rfl
@[go_sem] theorem aR5(C:Callee)(cx:Cx)(env:Env)(h:Heap)(x:bD):xi C cx env h (.Zq x)=none:=rfl
theorem asS{s z:Nat}{k:Bool}{h fr:Heap}{b0:Nat×aU}{es:List AV}(hb:fr[s]?=some (jw b0 z es)) :
  gI h.length k (jJ (h.length+s) b0 z es) (h++fr)=some (zn z es,h++fr.set s (aor b0 es)):=by
 unfold jJ jw zn aor at*;by_cases h0:es=[]
 ·subst h0;simp only[if_true]at hb⊢;simp[gI,akk hb]
 ·simp only[if_neg h0]at hb⊢;have hle:h.length<=h.length+s:=by omega
  simp[gI,wF,ku,hb,o7,hle]
@[go_sem] theorem Tt(id:Nat)(b0:Nat×aU)(z:Nat)(es:List AV):(jJ id b0 z es).cells=[jJ id b0 z es]:=by unfold jJ;split<;>rfl
theorem aAC{h:Heap}{z z':Nat}{es:List AV}(hz:z'=z\/es=[]):Sl h z (.eY z' es) es:=by
 rcases hz with rfl|rfl
 ·exact Sl.eY h z' es
 ·exact Sl.asL h z z'
theorem asT{lo ns s z:Nat}{h fr:Heap}{b0:Nat×aU}{es:List AV}{r:List AV}(hs:s<ns)(hb:fr[s]?=some b0)(h0:es≠[]) :
  F9 ⟨lo,h.length,ns,none⟩ [(0,s)] (some (.tuple (BL z es::r),h++fr))=some (.tuple (.ref (h.length+s) (b0.1+1) z 0 es.length es.length::r.map yY),h++fr.set s (b0.1+1,.arr z es)):=by
 have h3:mK ⟨lo,h.length,ns,none⟩ s (.arr z es) (h++fr)=some (b0.1+1,h++fr.set s (b0.1+1,.arr z es)):=by
  rw[abz,hb];obtain⟨v0,bl⟩:=b0;rw[ack,if_pos hs]
 simp[BL,h0,F9,Dz,h3,weak,yY]
theorem aR6{cx:Cx}{s:Nat}{h:Heap}{r:List AV}:F9 cx [(0,s)] (some (.tuple (.own 0 []::r),h))=some (.tuple (.fT 0 []::r.map yY),h):=by
 simp[F9,Dz,weak,yY]
def aov(z:Nat)(es:List AV):AV:=if es=[]then .eY 0 []else .own z es
@[go_sem] theorem aR7(z:Nat)(es:List AV):weak (aov z es)=zn z es:=by unfold aov zn;split<;>rfl
@[go_sem] theorem aR8(z:Nat)(es:List AV):yY (aov z es)=zn z es:=by unfold aov zn;split<;>rfl
theorem aja{s ak z:Nat}{h fr:Heap}{es:List AV}(hb:fr[s]?=some (ak,.arr z es)) :
  give h.length (.ref (h.length+s) ak z 0 es.length es.length) (h++fr)=some (.own z es,h++fr.set s (ak,.dead)):=by
 simp[give,wF,ku,hb,o7]
theorem aIk{lo ns s z lim ak:Nat}{h fr:Heap}{b:aU}{xs:List AV}(hs:s<ns)(hb:fr[s]?=some (ak,b))(hx:xs≠[])(hl:xs.length<=lim) :
  wG ⟨lo,h.length,ns,none⟩ s z lim (.fT z []) xs (h++fr)=some (.ref (h.length+s) (ak+1) z 0 xs.length xs.length,h++fr.set s (ak+1,.arr z xs)):=by
 have h3:mK ⟨lo,h.length,ns,none⟩ s (.arr z xs) (h++fr)=some (ak+1,h++fr.set s (ak+1,.arr z xs)):=by
  rw[abz,hb,ack,if_pos hs]
 simp[wG,hx,hl,h3]
theorem asU(id ak z off len fill:Nat)(lo hi:Option AV):Rc (some z) (.ref id ak z off len fill) lo hi=(bnd hi len len).bind fun b=>(bnd lo b 0).map fun a=>.ref id ak z (off+a) (b-a) fill:=by simp[Rc,xB]
end Go.VI
