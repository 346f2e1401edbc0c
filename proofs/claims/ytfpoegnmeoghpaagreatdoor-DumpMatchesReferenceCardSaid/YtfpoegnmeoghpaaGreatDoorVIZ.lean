/- Walking the evaluator by rewriting: slices that are made. -/
import Derived.Test.YtfpoegnmeoghpaaGreatDoorVIX
set_option linter.unusedVariables false
set_option linter.unusedSimpArgs false
namespace Go.VI
@[go_sem] theorem anI(b:Nat)(k:Bool)(kd:IntKind)(n:Int)(h:Heap):aU b k (.int kd n) h=some (.int kd n,h):=by simp[aU]
@[go_sem] theorem anJ(b:Nat)(k:Bool)(n:Bool)(h:Heap):aU b k (.bool n) h=some (.bool n,h):=by simp[aU]
@[go_sem] theorem anK(b:Nat)(k:Bool)(l:List UInt8)(h:Heap):aU b k (.str l) h=some (.str l,h):=by simp[aU]
@[go_sem] theorem anL(b:Nat)(k:Bool)(z:Nat)(l:List AV)(h:Heap):aU b k (.aN z l) h=some (.aN z l,h):=by simp[aU]
@[go_sem] theorem anM(b:Nat)(k:Bool)(z:Nat)(l:List AV)(h:Heap):aU b k (.aM z l) h=some (.aM z l,h):=by simp[aU]
@[go_sem] theorem anN(b:Nat)(k:Bool)(h:Heap):aU b k .aD h=some (.aN 0 [],h):=by simp[aU]
def Ug:Option (List AV×Heap)->Option (AV×Heap)
 |some (cs,h)=>some (.agg cs,h)
 |none=>none
@[go_sem] theorem anO(cs:List AV)(h:Heap):Ug (some (cs,h))=some (.agg cs,h):=rfl
@[go_sem] theorem anP(b:Nat)(k:Bool)(cs:List AV)(h:Heap):aU b k (.agg cs) h=Ug (gU b k cs h):=by
 simp only[aU];cases gU b k cs h<;>rfl
def Uh(b:Nat)(k:Bool)(cs:List AV):Option (AV×Heap)->Option (List AV×Heap)
 |some (c,h)=>(gU b k cs h).map fun(cs,h)=>(c::cs,h)
 |none=>none
@[go_sem] theorem anQ(b:Nat)(k:Bool)(cs:List AV)(c:AV)(h:Heap):Uh b k cs (some (c,h))=(gU b k cs h).map fun(cs,h)=>(c::cs,h):=rfl
@[go_sem] theorem anR(b:Nat)(k:Bool)(h:Heap):gU b k [] h=some ([],h):=by simp[gU]
@[go_sem] theorem anS(b:Nat)(k:Bool)(c:AV)(cs:List AV)(h:Heap):gU b k (c::cs) h=Uh b k cs (aU b k c h):=by
 simp only[gU];cases aU b k c h<;>rfl
@[go_sem] theorem anT(b:Nat)(cs:List AV)(h:Heap):eF b (.agg cs) h=(aU b true (.agg cs) h).map (·.1):=rfl
@[go_sem] theorem anU(b:Nat)(cs:List AV)(h:Heap):give b (.agg cs) h=aU b true (.agg cs) h:=rfl
def sp(env:Env)(base z i:Nat)(ps:List (Nat×aK))(es:List AV):Option (AV×Heap)->Option (List AV×Heap)
 |some (v,h)=>if i<es.length/\v.cells.length=z/\v.val=true then iV env base z ps (es.set i v) h else none
 |none=>none
@[go_sem] theorem anV(env:Env)(base z i:Nat)(ps:List (Nat×aK))(es:List AV)(v:AV)(h:Heap) :
  sp env base z i ps es (some (v,h))=if i<es.length/\v.cells.length=z/\v.val=true then iV env base z ps (es.set i v) h else none:=rfl
@[go_sem] theorem anW(env:Env)(base z:Nat)(es:List AV)(h:Heap):iV env base z [] es h=some (es,h):=rfl
@[go_sem] theorem anX(env:Env)(base z i:Nat)(x:aK)(ps:List (Nat×aK))(es:List AV)(h:Heap) :
  iV env base z ((i,x)::ps) es h=sp env base z i ps es (aU base false (x.ev env) h):=by
 simp only[iV];cases aU base false (x.ev env) h<;>rfl
theorem yG{h:Heap}{z:Nat}{v:AV}{es:List AV}(s:Sl h z v es):kL h z v=some es:=by
 have:=s.zW;cases v<;>first|exact this|(have:=s.len;simp[iH]at this)
theorem Sl.aM(h:Heap)(z:Nat)(es:List AV):Sl h z (.aM z es) es:=⟨by simp[VI.fe],fun _=>rfl,rfl⟩
@[go_sem] theorem anY(h:Heap)(z:Nat)(es:List AV):kL h z (.aM z es)=some es:=yG (Sl.aM h z es)
def bq(id:Nat)(b0:Nat×av)(z:Nat)(es:List AV):AV:=if es=[]then .aD else .ref id (b0.1+1) z 0 es.length es.length
def aX(b0:Nat×av)(z:Nat)(es:List AV):Nat×av:=if es=[]then b0 else(b0.1+1,.arr z es)
def Eu(b0:Nat×av)(es:List AV):Nat×av:=if es=[]then b0 else(b0.1+1,.dead)
def eP(z:Nat)(es:List AV):AV:=if es=[]then .own 0 []else .own z es
def dG(z:Nat)(es:List AV):AV:=if es=[]then .aN 0 []else .aN z es
theorem oU(id:Nat)(b0:Nat×av)(z:Nat):bq id b0 z []=.aD:=rfl
theorem qO(b0:Nat×av)(z:Nat):aX b0 z []=b0:=rfl
theorem kF{id:Nat}{b0:Nat×av}{z:Nat}{es:List AV}(h:es≠[]):bq id b0 z es=.ref id (b0.1+1) z 0 es.length es.length:=if_neg h
theorem lq{b0:Nat×av}{z:Nat}{es:List AV}(h:es≠[]):aX b0 z es=(b0.1+1,.arr z es):=if_neg h
@[go_sem] theorem qP(id:Nat)(b0:Nat×av)(z:Nat)(es:List AV):(bq id b0 z es).val=true:=by unfold bq;split<;>rfl
@[go_sem] theorem anZ(z:Nat)(es:List AV):(dG z es).val=true:=by unfold dG;split<;>rfl
@[go_sem] theorem an0(z:Nat)(es:List AV):(dG z es).cells=[dG z es]:=by unfold dG;split<;>rfl
@[go_sem] theorem an1(z:Nat)(es:List AV):(dG z es).closed=true:=by unfold dG;split<;>rfl
@[go_sem] theorem an2(b:Nat)(k:Bool)(z:Nat)(l:List AV)(h:Heap):aU b k (dG z l) h=some (dG z l,h):=by unfold dG;split<;>simp[aU]
@[go_sem] theorem an3(z:Nat)(es:List AV):weak (eP z es)=dG z es:=by unfold eP dG;split<;>rfl
@[go_sem] theorem H8(z:Nat)(es:List AV):dw (eP z es)=dG z es:=by unfold eP dG;split<;>rfl
@[go_sem] theorem an4(z:Nat)(es:List AV):weak (dG z es)=dG z es:=by unfold dG;split<;>rfl
@[go_sem] theorem an5(z:Nat)(es:List AV):dw (dG z es)=dG z es:=by unfold dG;split<;>rfl
theorem Sl.dG(h:Heap)(z:Nat)(es:List AV):Sl h z (VI.dG z es) es:=by
 unfold VI.dG;split
 ·rename_i h0;subst h0;exact Sl.Lu h z 0
 ·exact Sl.aN h z es
theorem Sl.acc{h fr:Heap}{s z:Nat}{b0:Nat×av}{es:List AV}(hb:fr[s]?=some (aX b0 z es)):Sl (h++fr) z (bq (h.length+s) b0 z es) es:=by
 unfold bq;unfold aX at hb;split
 ·rename_i h0;subst h0;exact Sl.nil _ z
 ·rename_i h0;rw[if_neg h0]at hb;exact Sl.Er hb
theorem oV{α:Type}{l:List α}{s:Nat}{x:α}(h:l[s]?=some x):l.set s x=l:=by
 refine uh fun j=>?_;by_cases hj:j=s
 ·subst hj;rw[lN (bO.mp h).1,h]
 ·rw[eG (by omega)]
theorem jk{lo ns s z lim:Nat}{h fr:Heap}{b0:Nat×av}{es xs:List AV}(hs:s<ns)(hlo:lo<=h.length)(hb:fr[s]?=some (aX b0 z es))(hl:es.length+xs.length<=lim) :
  dP ⟨lo,h.length,ns,none⟩ s z lim (bq (h.length+s) b0 z es) xs (h++fr)=some (bq (h.length+s) b0 z (es++xs),h++fr.set s (aX b0 z (es++xs))):=by
 unfold bq aX at*;by_cases h0:es=[]
 ·subst h0;simp only[if_true,List.nil_append]at hb⊢;simp only[dP];by_cases h1:xs=[]
  ·subst h1;simp[oV hb]
  ·have h2:xs.length<=lim:=by simpa using hl
   have h3:bV ⟨lo,h.length,ns,none⟩ s (.arr z xs) (h++fr)=some (b0.1+1,h++fr.set s (b0.1+1,.arr z xs)):=by
    rw[qN,hb];obtain⟨v0,bl⟩:=b0;rw[sF,if_pos hs]
   simp[h1,h2,h3]
 ·have h1:es++xs≠[]:=by simp[h0]
  simp only[if_neg h0,if_neg h1]at hb⊢;have hle:lo<=h.length+s:=by omega
  simp[dP,bH,hb,hle,hl]
theorem mq{s z:Nat}{h fr:Heap}{b0:Nat×av}{es:List AV}(hb:fr[s]?=some (aX b0 z es)) :
  give h.length (bq (h.length+s) b0 z es) (h++fr)=some (eP z es,h++fr.set s (Eu b0 es)):=by
 unfold bq aX eP Eu at*;by_cases h0:es=[]
 ·subst h0;simp only[if_true]at hb⊢;simp[give,oV hb]
 ·simp only[if_neg h0]at hb⊢;simp[give,dW,bH,hb]
theorem Ev{s z:Nat}{h fr:Heap}{b0:Nat×av}{es:List AV}(hb:fr[s]?=some (aX b0 z es)) :
  eF h.length (bq (h.length+s) b0 z es) (h++fr)=some (eP z es):=by
 have:=mq (h:=h) hb;unfold bq at*;split at this
 ·rename_i h0;rw[if_pos h0];simp only[eF];rw[this];rfl
 ·rename_i h0;rw[if_neg h0];simp only[eF];rw[this];rfl
theorem BM{lo ns s z:Nat}{h fr:Heap}{b0:Nat×av}{es:List AV}(hs:s<ns)(hb:fr[s]?=some b0)(h0:es≠[]) :
  iZ ⟨lo,h.length,ns,none⟩ [(0,s)] (some (eP z es,h++fr))=some (.ref (h.length+s) (b0.1+1) z 0 es.length es.length,h++fr.set s (b0.1+1,.arr z es)):=by
 have h3:bV ⟨lo,h.length,ns,none⟩ s (.arr z es) (h++fr)=some (b0.1+1,h++fr.set s (b0.1+1,.arr z es)):=by
  rw[qN,hb];obtain⟨v0,bl⟩:=b0;rw[sF,if_pos hs]
 simp[eP,h0,iZ,iN,h3,weak,dw]
theorem jB{h fr:Heap}{id:Nat}{b:Nat×av}(hb:h[id]?=some b):(h++fr)[id]?=some b:=by
 rw[gN (bO.mp hb).1,hb]
theorem H9{h fr:Heap}{id:Nat}{b0:Nat×av}(b:Nat×av)(hb:h[id]?=some b0):(h++fr).set id b=h.set id b++fr:=by
 rw[List.set_append_left _ _ (bO.mp hb).1]
theorem Sl.ad4{h:Heap}{id aj z:Nat}{es:List AV}(hb:h[id]?=some (aj,.arr z es)):Sl h z (.ref id aj z 0 es.length es.length) es :=
 ⟨by simp[VI.fe],fun f=>by simp[dW,jB hb],rfl⟩
theorem xB{cx:Cx}{s z lim id aj:Nat}{h:Heap}{es xs:List AV}(hb:h[id]?=some (aj,.arr z es))(hlo:cx.lo<=id)(hl:es.length+xs.length<=lim) :
  dP cx s z lim (.ref id aj z 0 es.length es.length) xs h=some (.ref id aj z 0 (es.length+xs.length) (es.length+xs.length),h.set id (aj,.arr z (es++xs))):=by
 simp[dP,hb,hlo,hl]
theorem Lx{cx:Cx}{h:Heap}{id aj o len fill i:Nat}{k:IntKind}{l:List Int}{n:Int}(hid:h[id]?=some (aj,.arr 1 (l.map (.int k))))(hl:l.length=fill)(hfit:o+len<=fill)(hi:i<len)(hlo:cx.lo<=id) :
  dK cx h 1 (.di (.ref id aj 1 o len fill) i 0) (.int k n)=some (h.set id (aj,.arr 1 ((l.set (o+i) n).map (.int k)))):=by
 have hlt:o+i<l.length:=by omega
 have he:(l.map (AV.int k))[o+i]?=some (.int k l[o+i]):=by simp[hlt]
 simp only[dK,aU,AV.cells,AV.val,hid,uq,hl,hfit,hi,hlo,and_self,if_true,Option.bind_some,he,List.map_set,List.length_cons,kz]
theorem ad5{lo ns:Nat}{h fr:Heap}{s aj o len fill i:Nat}{k:IntKind}{l:List Int}{n:Int}(hid:fr[s]?=some (aj,.arr 1 (l.map (.int k))))(hl:l.length=fill)(hfit:o+len<=fill)(hi:i<len)(hlo:lo<=h.length) :
  dK ⟨lo,h.length,ns,none⟩ (h++fr) 1 (.di (.ref (h.length+s) aj 1 o len fill) i 0) (.int k n)=some (h++fr.set s (aj,.arr 1 ((l.set (o+i) n).map (.int k)))):=by
 rw[Lx (by rw[bH];exact hid) hl hfit hi (by simp only[];omega),eB]
@[go_sem] theorem Ui(n d:Nat):bnd none n d=some d:=rfl
theorem BN{k:IntKind}{i:Int}{n d:Nat}(h0:0<=i)(h1:i<=n):bnd (some (.int k i)) n d=some i.toNat:=by simp[bnd,h0,h1]
theorem Uj{lo ns:Nat}{h fr:Heap}{s aj z off len fill:Nat}{es ys:List AV}(hb:fr[s]?=some (aj,.arr z es))(hl:es.length=fill)(hfit:off+len<=fill)(hlo:lo<=h.length) :
  nW ⟨lo,h.length,ns,none⟩ z (.ref (h.length+s) aj z off len fill) ys (h++fr)=some (.int .i64 (min ys.length len:Nat),h++fr.set s (aj,.arr z (es.take off++ys.take (min ys.length len)++es.drop (off+min ys.length len)))):=by
 have hle:lo<=h.length+s:=by omega
 simp only[nW,fe,beq_self_eq_true,if_true,iH];split
 ·rename_i h0;rw[h0];simp only[xC,gP,Nat.add_zero,zY];rw[oV hb];rfl
 ·rw[bH,hb];simp only[hl,hfit,hle,and_self,if_true,eB]
def Uk(cx:Cx)(z:Nat)(x:AV)(h:Heap):Option (List AV)->Option (AV×Heap)
 |some ys=>nW cx z x ys h
 |none=>none
@[go_sem] theorem an6(cx:Cx)(z:Nat)(x:AV)(h:Heap)(ys:List AV):Uk cx z x h (some ys)=nW cx z x ys h:=rfl
@[go_sem] theorem an7(C:Callee)(cx:Cx)(env:Env)(h:Heap)(z:Nat)(x y:aK):xi C cx env h (.copy z x y)=Uk cx z (x.ev env) h (jv h z (y.ev env)):=by
 simp only[xi];cases jv h z (y.ev env)<;>rfl
def LA:Option (AV×Heap)->Option (AV×Heap)
 |some (_,h)=>some (.tuple [],h)
 |none=>none
@[go_sem] theorem an8(v:AV)(h:Heap):LA (some (v,h))=some (.tuple [],h):=rfl
def clz(cx:Cx)(z:Nat)(zero x:AV)(h:Heap):Option Nat->Option (AV×Heap)
 |some n=>LA (nW cx z x (List.replicate n zero) h)
 |none=>none
@[go_sem] theorem an9(cx:Cx)(z n:Nat)(zero x:AV)(h:Heap):clz cx z zero x h (some n)=LA (nW cx z x (List.replicate n zero) h):=rfl
@[go_sem] theorem an'(C:Callee)(cx:Cx)(env:Env)(h:Heap)(x:aK):xi C cx env h (.tX x)=none:=rfl
theorem Ia{s z:Nat}{k:Bool}{h fr:Heap}{b0:Nat×av}{es:List AV}(hb:fr[s]?=some (aX b0 z es)) :
  aU h.length k (bq (h.length+s) b0 z es) (h++fr)=some (dG z es,h++fr.set s (Eu b0 es)):=by
 unfold bq aX dG Eu at*;by_cases h0:es=[]
 ·subst h0;simp only[if_true]at hb⊢;simp[aU,oV hb]
 ·simp only[if_neg h0]at hb⊢;have hle:h.length<=h.length+s:=by omega
  simp[aU,dW,bH,hb,hle]
@[go_sem] theorem mr(id:Nat)(b0:Nat×av)(z:Nat)(es:List AV):(bq id b0 z es).cells=[bq id b0 z es]:=by unfold bq;split<;>rfl
theorem vL{h:Heap}{z z':Nat}{es:List AV}(hz:z'=z\/es=[]):Sl h z (.aN z' es) es:=by
 rcases hz with rfl|rfl
 ·exact Sl.aN h z' es
 ·exact Sl.Lu h z z'
theorem LB{lo ns s z:Nat}{h fr:Heap}{b0:Nat×av}{es:List AV}{r:List AV}(hs:s<ns)(hb:fr[s]?=some b0)(h0:es≠[]) :
  iZ ⟨lo,h.length,ns,none⟩ [(0,s)] (some (.tuple (eP z es::r),h++fr))=some (.tuple (.ref (h.length+s) (b0.1+1) z 0 es.length es.length::r.map dw),h++fr.set s (b0.1+1,.arr z es)):=by
 have h3:bV ⟨lo,h.length,ns,none⟩ s (.arr z es) (h++fr)=some (b0.1+1,h++fr.set s (b0.1+1,.arr z es)):=by
  rw[qN,hb];obtain⟨v0,bl⟩:=b0;rw[sF,if_pos hs]
 simp[eP,h0,iZ,iN,h3,weak,dw]
theorem ad6{cx:Cx}{s:Nat}{h:Heap}{r:List AV}:iZ cx [(0,s)] (some (.tuple (.own 0 []::r),h))=some (.tuple (.aM 0 []::r.map dw),h):=by
 simp[iZ,iN,weak,dw]
def Ib(z:Nat)(es:List AV):AV:=if es=[]then .aN 0 []else .own z es
@[go_sem] theorem aoa(z:Nat)(es:List AV):weak (Ib z es)=dG z es:=by unfold Ib dG;split<;>rfl
@[go_sem] theorem aob(z:Nat)(es:List AV):dw (Ib z es)=dG z es:=by unfold Ib dG;split<;>rfl
theorem Ew{s aj z:Nat}{h fr:Heap}{es:List AV}(hb:fr[s]?=some (aj,.arr z es)) :
  give h.length (.ref (h.length+s) aj z 0 es.length es.length) (h++fr)=some (.own z es,h++fr.set s (aj,.dead)):=by
 simp[give,dW,bH,hb]
theorem ad7{lo ns s z lim aj:Nat}{h fr:Heap}{b:av}{xs:List AV}(hs:s<ns)(hb:fr[s]?=some (aj,b))(hx:xs≠[])(hl:xs.length<=lim) :
  dP ⟨lo,h.length,ns,none⟩ s z lim (.aM z []) xs (h++fr)=some (.ref (h.length+s) (aj+1) z 0 xs.length xs.length,h++fr.set s (aj+1,.arr z xs)):=by
 have h3:bV ⟨lo,h.length,ns,none⟩ s (.arr z xs) (h++fr)=some (aj+1,h++fr.set s (aj+1,.arr z xs)):=by
  rw[qN,hb,sF,if_pos hs]
 simp[dP,hx,hl,h3]
theorem Ic(id aj z off len fill:Nat)(lo hi:Option AV):kg (some z) (.ref id aj z off len fill) lo hi=(bnd hi len len).bind fun b=>(bnd lo b 0).map fun a=>.ref id aj z (off+a) (b-a) fill:=by simp[kg,fe]
end Go.VI
