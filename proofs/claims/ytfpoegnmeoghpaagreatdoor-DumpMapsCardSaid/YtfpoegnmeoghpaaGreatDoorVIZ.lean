/- Walking the evaluator by rewriting: slices that are made. -/
import Derived.Test.YtfpoegnmeoghpaaGreatDoorVIX
set_option linter.unusedVariables false
set_option linter.unusedSimpArgs false
namespace Go.VI
@[go_sem] theorem au3(b:Nat)(k:Bool)(kd:IntKind)(n:Int)(h:Heap):bL b k (.int kd n) h=some (.int kd n,h):=by simp[bL]
@[go_sem] theorem au4(b:Nat)(k:Bool)(n:Bool)(h:Heap):bL b k (.bool n) h=some (.bool n,h):=by simp[bL]
@[go_sem] theorem au5(b:Nat)(k:Bool)(l:List UInt8)(h:Heap):bL b k (.str l) h=some (.str l,h):=by simp[bL]
@[go_sem] theorem au6(b:Nat)(k:Bool)(z:Nat)(l:List AV)(h:Heap):bL b k (.aW z l) h=some (.aW z l,h):=by simp[bL]
@[go_sem] theorem au7(b:Nat)(k:Bool)(z:Nat)(l:List AV)(h:Heap):bL b k (.bF z l) h=some (.bF z l,h):=by simp[bL]
@[go_sem] theorem au8(b:Nat)(k:Bool)(h:Heap):bL b k .aP h=some (.aW 0 [],h):=by simp[bL]
def OH(b id ai off n:Nat)(cs':List AV)(h1:Heap):Option (Nat×au)->Option (AV×Heap)
 |some (v1,.box _)=>if b<=id/\AV.l5 cs'=true/\cs'.length=n then some (.aF id ai off,h1.set id (v1,.box cs'))else none
 |_=>none
def OI(b id ai off n:Nat):Option (List AV×Heap)->Option (AV×Heap)
 |some (cs',h1)=>OH b id ai off n cs' h1 h1[id]?
 |none=>none
def S9(b id ai off:Nat)(h:Heap):Option (Nat×au)->Option (AV×Heap)
 |some (_,.box cs)=>OI b id ai off cs.length (jT b false cs h)
 |_=>none
@[go_sem] theorem au9(b id ai off n v1:Nat)(cs cs':List AV)(h1:Heap):OH b id ai off n cs' h1 (some (v1,.box cs))=if b<=id/\AV.l5 cs'=true/\cs'.length=n then some (.aF id ai off,h1.set id (v1,.box cs'))else none:=rfl
@[go_sem] theorem au'(b ai off n s:Nat)(cs':List AV)(h fr:Heap):OI b (h.length+s) ai off n (some (cs',h++fr))=OH b (h.length+s) ai off n cs' (h++fr) fr[s]?:=by
 show OH b _ ai off n cs' (h++fr) _=_
 rw[cO]
@[go_sem] theorem ava(b id ai off v0:Nat)(h:Heap)(cs:List AV):S9 b id ai off h (some (v0,.box cs))=OI b id ai off cs.length (jT b false cs h):=rfl
@[go_sem] theorem avb(b ai off s:Nat)(h fr:Heap):rX b (.aF (h.length+s) ai off) (h++fr)=S9 b (h.length+s) ai off (h++fr) fr[s]?:=by
 simp only[rX];rw[cO];rcases fr[s]? with _|⟨v,_|_|_|_⟩<;>try rfl
 simp only[S9]
 cases jT b false _ (h++fr) with
 |none=>rfl
 |some q =>
  simp only[Option.bind_some,OI];rcases q.2[h.length+s]? with _|⟨v,_|_|_|_⟩<;>rfl
@[go_sem] theorem avc(b id ai z off len fill:Nat)(h:Heap):rX b (.ref id ai z off len fill) h=bL b false (.ref id ai z off len fill) h:=rfl
@[go_sem] theorem avd(b z:Nat)(es:List AV)(h:Heap):rX b (.aW z es) h=some (.aW z es,h):=rfl
@[go_sem] theorem ave(b z:Nat)(es:List AV)(h:Heap):rX b (.bF z es) h=some (.bF z es,h):=rfl
@[go_sem] theorem avf(b:Nat)(h:Heap):rX b .aP h=some (.aW 0 [],h):=rfl
def fzA:Option (List AV×Heap)->Option (AV×Heap)
 |some (cs,h)=>some (.agg cs,h)
 |none=>none
@[go_sem] theorem avg(cs:List AV)(h:Heap):fzA (some (cs,h))=some (.agg cs,h):=rfl
@[go_sem] theorem avh(b:Nat)(k:Bool)(cs:List AV)(h:Heap):bL b k (.agg cs) h=fzA (jT b k cs h):=by
 simp only[bL];cases jT b k cs h<;>rfl
def fzL(b:Nat)(k:Bool)(cs:List AV):Option (AV×Heap)->Option (List AV×Heap)
 |some (c,h)=>(jT b k cs h).map fun(cs,h)=>(c::cs,h)
 |none=>none
@[go_sem] theorem avi(b:Nat)(k:Bool)(cs:List AV)(c:AV)(h:Heap):fzL b k cs (some (c,h))=(jT b k cs h).map fun(cs,h)=>(c::cs,h):=rfl
@[go_sem] theorem avj(b:Nat)(k:Bool)(h:Heap):jT b k [] h=some ([],h):=by simp[jT]
@[go_sem] theorem avk(b:Nat)(k:Bool)(c:AV)(cs:List AV)(h:Heap):jT b k (c::cs) h=fzL b k cs (bL b k c h):=by
 simp only[jT];cases bL b k c h<;>rfl
@[go_sem] theorem avl(b:Nat)(cs:List AV)(h:Heap):jf b (.agg cs) h=(bL b true (.agg cs) h).map (·.1):=rfl
@[go_sem] theorem avm(b:Nat)(cs:List AV)(h:Heap):give b (.agg cs) h=bL b true (.agg cs) h:=rfl
def sp(env:Env)(base z i:Nat)(ps:List (Nat×aL))(es:List AV):Option (AV×Heap)->Option (List AV×Heap)
 |some (v,h)=>if i<es.length/\v.cells.length=z/\v.val=true then mK env base z ps (es.set i v) h else none
 |none=>none
@[go_sem] theorem avn(env:Env)(base z i:Nat)(ps:List (Nat×aL))(es:List AV)(v:AV)(h:Heap) :
  sp env base z i ps es (some (v,h))=if i<es.length/\v.cells.length=z/\v.val=true then mK env base z ps (es.set i v) h else none:=rfl
@[go_sem] theorem avo(env:Env)(base z:Nat)(es:List AV)(h:Heap):mK env base z [] es h=some (es,h):=rfl
@[go_sem] theorem avp(env:Env)(base z i:Nat)(x:aL)(ps:List (Nat×aL))(es:List AV)(h:Heap) :
  mK env base z ((i,x)::ps) es h=sp env base z i ps es (bL base false (x.ev env) h):=by
 simp only[mK];cases bL base false (x.ev env) h<;>rfl
theorem KJ{h:Heap}{z:Nat}{v:AV}{es:List AV}(s:Sl h z v es):sP h z v=some es:=by
 have:=s.GZ;cases v<;>first|exact this|(have:=s.len;simp[lU]at this)
theorem Sl.bF(h:Heap)(z:Nat)(es:List AV):Sl h z (.bF z es) es:=⟨by simp[VI.jd],fun _=>rfl,rfl⟩
@[go_sem] theorem avq(h:Heap)(z:Nat)(es:List AV):sP h z (.bF z es)=some es:=KJ (Sl.bF h z es)
def cu(id:Nat)(b0:Nat×au)(z:Nat)(es:List AV):AV:=if es=[]then .aP else .ref id (b0.1+1) z 0 es.length es.length
def bX(b0:Nat×au)(z:Nat)(es:List AV):Nat×au:=if es=[]then b0 else(b0.1+1,.arr z es)
def KL(b0:Nat×au)(es:List AV):Nat×au:=if es=[]then b0 else(b0.1+1,.dead)
def qF(z:Nat)(es:List AV):AV:=if es=[]then .own 0 []else .own z es
def jC(z:Nat)(es:List AV):AV:=if es=[]then .aW 0 []else .aW z es
theorem KM(id:Nat)(b0:Nat×au)(z:Nat):cu id b0 z []=.aP:=rfl
theorem OJ(b0:Nat×au)(z:Nat):bX b0 z []=b0:=rfl
theorem G7{id:Nat}{b0:Nat×au}{z:Nat}{es:List AV}(h:es≠[]):cu id b0 z es=.ref id (b0.1+1) z 0 es.length es.length:=if_neg h
theorem G8{b0:Nat×au}{z:Nat}{es:List AV}(h:es≠[]):bX b0 z es=(b0.1+1,.arr z es):=if_neg h
@[go_sem] theorem Ct(id:Nat)(b0:Nat×au)(z:Nat)(es:List AV):(cu id b0 z es).val=true:=by unfold cu;split<;>rfl
@[go_sem] theorem avr(z:Nat)(es:List AV):(jC z es).val=true:=by unfold jC;split<;>rfl
@[go_sem] theorem avt(z:Nat)(es:List AV):(jC z es).cells=[jC z es]:=by unfold jC;split<;>rfl
@[go_sem] theorem avu(z:Nat)(es:List AV):(jC z es).closed=true:=by unfold jC;split<;>rfl
@[go_sem] theorem avv(b:Nat)(k:Bool)(z:Nat)(l:List AV)(h:Heap):bL b k (jC z l) h=some (jC z l,h):=by unfold jC;split<;>simp[bL]
@[go_sem] theorem avw(z:Nat)(es:List AV):weak (qF z es)=jC z es:=by unfold qF jC;split<;>rfl
@[go_sem] theorem OL(z:Nat)(es:List AV):kg (qF z es)=jC z es:=by unfold qF jC;split<;>rfl
@[go_sem] theorem avx(z:Nat)(es:List AV):weak (jC z es)=jC z es:=by unfold jC;split<;>rfl
@[go_sem] theorem avy(z:Nat)(es:List AV):kg (jC z es)=jC z es:=by unfold jC;split<;>rfl
theorem Sl.jC(h:Heap)(z:Nat)(es:List AV):Sl h z (VI.jC z es) es:=by
 unfold VI.jC;split
 ·rename_i h0;subst h0;exact Sl.SX h z 0
 ·exact Sl.aW h z es
theorem Sl.acc{h fr:Heap}{s z:Nat}{b0:Nat×au}{es:List AV}(hb:fr[s]?=some (bX b0 z es)):Sl (h++fr) z (cu (h.length+s) b0 z es) es:=by
 unfold cu;unfold bX at hb;split
 ·rename_i h0;subst h0;exact Sl.nil _ z
 ·rename_i h0;rw[if_neg h0]at hb;exact Sl.G5 hb
theorem G9{α:Type}{l:List α}{s:Nat}{x:α}(h:l[s]?=some x):l.set s x=l:=by
 refine zC fun j=>?_;by_cases hj:j=s
 ·subst hj;rw[rJ (dQ.mp h).1,h]
 ·rw[iH (by omega)]
theorem wD{lo ns s z lim:Nat}{h fr:Heap}{b0:Nat×au}{es xs:List AV}(hs:s<ns)(hlo:lo<=h.length)(hb:fr[s]?=some (bX b0 z es))(hl:es.length+xs.length<=lim) :
  ji ⟨lo,h.length,ns,none⟩ s z lim (cu (h.length+s) b0 z es) xs (h++fr)=some (cu (h.length+s) b0 z (es++xs),h++fr.set s (bX b0 z (es++xs))):=by
 unfold cu bX at*;by_cases h0:es=[]
 ·subst h0;simp only[if_true,List.nil_append]at hb⊢;simp only[ji];by_cases h1:xs=[]
  ·subst h1;simp[G9 hb]
  ·have h2:xs.length<=lim:=by simpa using hl
   have h3:fB ⟨lo,h.length,ns,none⟩ s (.arr z xs) (h++fr)=some (b0.1+1,h++fr.set s (b0.1+1,.arr z xs)):=by
    rw[AP,hb];obtain⟨v0,bl⟩:=b0;rw[AO,if_pos hs]
   simp[h1,h2,h3]
 ·have h1:es++xs≠[]:=by simp[h0]
  simp only[if_neg h0,if_neg h1]at hb⊢;have hle:lo<=h.length+s:=by omega
  simp[ji,cO,hb,hle,hl,gy]
theorem Fh{s z:Nat}{h fr:Heap}{b0:Nat×au}{es:List AV}(hb:fr[s]?=some (bX b0 z es)) :
  give h.length (cu (h.length+s) b0 z es) (h++fr)=some (qF z es,h++fr.set s (KL b0 es)):=by
 unfold cu bX qF KL at*;by_cases h0:es=[]
 ·subst h0;simp only[if_true]at hb⊢;simp[give,G9 hb]
 ·simp only[if_neg h0]at hb⊢;simp[give,iV,cO,hb,gy]
theorem alc{s z:Nat}{h fr:Heap}{b0:Nat×au}{es:List AV}(hb:fr[s]?=some (bX b0 z es)) :
  jf h.length (cu (h.length+s) b0 z es) (h++fr)=some (qF z es):=by
 have:=Fh (h:=h) hb;unfold cu at*;split at this
 ·rename_i h0;rw[if_pos h0];simp only[jf];rw[this];rfl
 ·rename_i h0;rw[if_neg h0];simp only[jf];rw[this];rfl
theorem Ta{lo ns s z:Nat}{h fr:Heap}{b0:Nat×au}{es:List AV}(hs:s<ns)(hb:fr[s]?=some b0)(h0:es≠[]) :
  zN ⟨lo,h.length,ns,none⟩ [(0,s)] (some (qF z es,h++fr))=some (.ref (h.length+s) (b0.1+1) z 0 es.length es.length,h++fr.set s (b0.1+1,.arr z es)):=by
 have h3:fB ⟨lo,h.length,ns,none⟩ s (.arr z es) (h++fr)=some (b0.1+1,h++fr.set s (b0.1+1,.arr z es)):=by
  rw[AP,hb];obtain⟨v0,bl⟩:=b0;rw[AO,if_pos hs]
 simp[qF,h0,zN,qB,h3,weak,kg]
theorem kD{h fr:Heap}{id:Nat}{b:Nat×au}(hb:h[id]?=some b):(h++fr)[id]?=some b:=by
 rw[kY (dQ.mp hb).1,hb]
theorem He{h fr:Heap}{id:Nat}{b0:Nat×au}(b:Nat×au)(hb:h[id]?=some b0):(h++fr).set id b=h.set id b++fr:=by
 rw[List.set_append_left _ _ (dQ.mp hb).1]
theorem Sl.ald{h:Heap}{id ai z:Nat}{es:List AV}(hb:h[id]?=some (ai,.arr z es)):Sl h z (.ref id ai z 0 es.length es.length) es :=
 ⟨by simp[VI.jd],fun f=>by simp[iV,kD hb],rfl⟩
theorem Hf{cx:Cx}{s z lim id ai:Nat}{h:Heap}{es xs:List AV}(hb:h[id]?=some (ai,.arr z es))(hlo:cx.lo<=id)(hl:es.length+xs.length<=lim) :
  ji cx s z lim (.ref id ai z 0 es.length es.length) xs h=some (.ref id ai z 0 (es.length+xs.length) (es.length+xs.length),h.set id (ai,.arr z (es++xs))):=by
 simp[ji,hb,hlo,hl]
theorem Tc{cx:Cx}{h:Heap}{id ai o len fill i:Nat}{k:IntKind}{l:List Int}{n:Int}(hid:h[id]?=some (ai,.arr 1 (l.map (.int k))))(hl:l.length=fill)(hfit:o+len<=fill)(hi:i<len)(hlo:cx.lo<=id) :
  iX cx h 1 (.gu (.ref id ai 1 o len fill) i 0) (.int k n)=some (h.set id (ai,.arr 1 ((l.set (o+i) n).map (.int k)))):=by
 have hlt:o+i<l.length:=by omega
 have he:(l.map (AV.int k))[o+i]?=some (.int k l[o+i]):=by simp[hlt]
 simp only[iX,bL,AV.cells,AV.val,hid,List.length_map,hl,hfit,hi,hlo,and_self,if_true,Option.bind_some,he,List.map_set,List.length_cons,List.length_nil]
theorem ale{lo ns:Nat}{h fr:Heap}{s ai o len fill i:Nat}{k:IntKind}{l:List Int}{n:Int}(hid:fr[s]?=some (ai,.arr 1 (l.map (.int k))))(hl:l.length=fill)(hfit:o+len<=fill)(hi:i<len)(hlo:lo<=h.length) :
  iX ⟨lo,h.length,ns,none⟩ (h++fr) 1 (.gu (.ref (h.length+s) ai 1 o len fill) i 0) (.int k n)=some (h++fr.set s (ai,.arr 1 ((l.set (o+i) n).map (.int k)))):=by
 rw[Tc (by rw[cO];exact hid) hl hfit hi (by simp only[];omega),gy]
@[go_sem] theorem abe(n d:Nat):bnd none n d=some d:=rfl
theorem Hg{k:IntKind}{i:Int}{n d:Nat}(h0:0<=i)(h1:i<=n):bnd (some (.int k i)) n d=some i.toNat:=by simp[bnd,h0,h1]
theorem abf{lo ns:Nat}{h fr:Heap}{s ai z off len fill:Nat}{es ys:List AV}(hb:fr[s]?=some (ai,.arr z es))(hl:es.length=fill)(hfit:off+len<=fill)(hlo:lo<=h.length) :
  uy ⟨lo,h.length,ns,none⟩ z (.ref (h.length+s) ai z off len fill) ys (h++fr)=some (.int .i64 (min ys.length len:Nat),h++fr.set s (ai,.arr z (es.take off++ys.take (min ys.length len)++es.drop (off+min ys.length len)))):=by
 have hle:lo<=h.length+s:=by omega
 simp only[uy,jd,beq_self_eq_true,if_true,lU];split
 ·rename_i h0;rw[h0];simp only[List.take_zero,nI,Nat.add_zero,List.take_append_drop];rw[G9 hb];rfl
 ·rw[cO,hb];simp only[hl,hfit,hle,and_self,if_true,gy]
def cpx(cx:Cx)(z:Nat)(x:AV)(h:Heap):Option (List AV)->Option (AV×Heap)
 |some ys=>uy cx z x ys h
 |none=>none
@[go_sem] theorem avz(cx:Cx)(z:Nat)(x:AV)(h:Heap)(ys:List AV):cpx cx z x h (some ys)=uy cx z x ys h:=rfl
@[go_sem] theorem avA(C:Callee)(cx:Cx)(env:Env)(h:Heap)(z:Nat)(x y:aL):xi C cx env h (.copy z x y)=cpx cx z (x.ev env) h (oG h z (y.ev env)):=by
 simp only[xi];cases oG h z (y.ev env)<;>rfl
def Td:Option (AV×Heap)->Option (AV×Heap)
 |some (_,h)=>some (.tuple [],h)
 |none=>none
@[go_sem] theorem avB(v:AV)(h:Heap):Td (some (v,h))=some (.tuple [],h):=rfl
def clz(cx:Cx)(z:Nat)(zero x:AV)(h:Heap):Option Nat->Option (AV×Heap)
 |some n=>Td (uy cx z x (List.replicate n zero) h)
 |none=>none
@[go_sem] theorem avC(cx:Cx)(z n:Nat)(zero x:AV)(h:Heap):clz cx z zero x h (some n)=Td (uy cx z x (List.replicate n zero) h):=rfl
@[go_sem] theorem avD(C:Callee)(cx:Cx)(env:Env)(h:Heap)(x:aL):xi C cx env h (.zw x)=none:=rfl
theorem Te{s z:Nat}{k:Bool}{h fr:Heap}{b0:Nat×au}{es:List AV}(hb:fr[s]?=some (bX b0 z es)) :
  bL h.length k (cu (h.length+s) b0 z es) (h++fr)=some (jC z es,h++fr.set s (KL b0 es)):=by
 unfold cu bX jC KL at*;by_cases h0:es=[]
 ·subst h0;simp only[if_true]at hb⊢;simp[bL,G9 hb]
 ·simp only[if_neg h0]at hb⊢;have hle:h.length<=h.length+s:=by omega
  simp[bL,iV,cO,hb,gy,hle]
@[go_sem] theorem tT(id:Nat)(b0:Nat×au)(z:Nat)(es:List AV):(cu id b0 z es).cells=[cu id b0 z es]:=by unfold cu;split<;>rfl
theorem abh{h:Heap}{z z':Nat}{es:List AV}(hz:z'=z\/es=[]):Sl h z (.aW z' es) es:=by
 rcases hz with rfl|rfl
 ·exact Sl.aW h z' es
 ·exact Sl.SX h z z'
def OM(z:Nat)(es:List AV):AV:=if es=[]then .aW 0 []else .own z es
@[go_sem] theorem avE(z:Nat)(es:List AV):weak (OM z es)=jC z es:=by unfold OM jC;split<;>rfl
@[go_sem] theorem avF(z:Nat)(es:List AV):kg (OM z es)=jC z es:=by unfold OM jC;split<;>rfl
theorem Hl{s ai z:Nat}{h fr:Heap}{es:List AV}(hb:fr[s]?=some (ai,.arr z es)) :
  give h.length (.ref (h.length+s) ai z 0 es.length es.length) (h++fr)=some (.own z es,h++fr.set s (ai,.dead)):=by
 simp[give,iV,cO,hb,gy]
theorem abj{lo ns s z lim ai:Nat}{h fr:Heap}{b:au}{xs:List AV}(hs:s<ns)(hb:fr[s]?=some (ai,b))(hx:xs≠[])(hl:xs.length<=lim) :
  ji ⟨lo,h.length,ns,none⟩ s z lim (.bF z []) xs (h++fr)=some (.ref (h.length+s) (ai+1) z 0 xs.length xs.length,h++fr.set s (ai+1,.arr z xs)):=by
 have h3:fB ⟨lo,h.length,ns,none⟩ s (.arr z xs) (h++fr)=some (ai+1,h++fr.set s (ai+1,.arr z xs)):=by
  rw[AP,hb,AO,if_pos hs]
 simp[ji,hx,hl,h3]
theorem OO(id ai z off len fill:Nat)(lo hi:Option AV):pQ (some z) (.ref id ai z off len fill) lo hi=(bnd hi len len).bind fun b=>(bnd lo b 0).map fun a=>.ref id ai z (off+a) (b-a) fill:=by simp[pQ,jd]
end Go.VI
