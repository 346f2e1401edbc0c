/- Walking the evaluator by rewriting: one equation for each form of code and of operation. -/
import Derived.Test.YtfpoegnmeoghpaaGreatDoorVIU
set_option linter.unusedVariables false
set_option linter.unusedSimpArgs false
namespace Go.VI
section
variable (L:Lib)(C:Callee)(cx:Cx)
noncomputable def sq (b:XC):Out->Out
 |some (.norm,st)=>aQ L cx b st
 |some (e,st)=>some (e,st)
 |none=>none
def rg(keep:List Nat):Option (Env×Heap)->Out
 |some (env,h)=>some (.norm,(env.keep keep,h))
 |none=>none
noncomputable def cd (a b:XC) (env:Env) (h:Heap):AV->Out
 |.bool c=>if c=true then aQ L cx a (env,h)else aQ L cx b (env,h)
 |_=>none
def bk(id:Nat):Out->Out
 |some (.exit j,st)=>if j=id then some (.norm,st)else some (.exit j,st)
 |r=>r
theorem aj1(env:Env)(h:Heap):aQ L cx .skip (env,h)=some (.norm,(env,h)):=aeQ L cx _
theorem aj2(id:Nat)(env:Env)(h:Heap):aQ L cx (.exit id) (env,h)=some (.exit id,(env,h)):=aeR L cx _ _
theorem aj3(env:Env)(h:Heap):aQ L cx .ret (env,h)=some (.ret,(env,h)):=aeS L cx _
theorem aj4(dr:Bool)(keep kill:List Nat)(ops:List bT)(env:Env)(h:Heap) :
  aQ L cx (.reg dr keep kill ops) (env,h)=rg keep (jN (run L) cx ops env (nD cx kill h)):=by
 rw[aeT]
 cases jN (run L) cx ops env (nD cx kill h) with
 |none=>rfl
 |some r=>rfl
theorem aj5(a b:XC)(env:Env)(h:Heap):aQ L cx (.seq a b) (env,h)=sq L cx b (aQ L cx a (env,h)):=by
 rw[aeU]
 cases aQ L cx a (env,h) with
 |none=>rfl
 |some r =>
  obtain⟨e,st⟩:=r;cases e<;>simp[sq]
theorem aj6(c:aL)(a b:XC)(env:Env)(h:Heap):aQ L cx (.cond c a b) (env,h)=cd L cx a b env h (c.ev env):=by
 rw[aeV];cases c.ev env<;>simp[toBool,cd]
theorem aj7(id:Nat)(a:XC)(env:Env)(h:Heap):aQ L cx (.blk id a) (env,h)=bk id (aQ L cx a (env,h)):=by
 rw[aeY]
 cases aQ L cx a (env,h) with
 |none=>rfl
 |some r =>
  obtain⟨e,st⟩:=r;cases e<;>simp[bk,Ex.nW];split<;>simp_all
theorem aj8(keep:List Nat)(a:XC)(env:Env)(h:Heap):aQ L cx (.pre keep a) (env,h)=aQ L cx a (env.keep keep,h):=aeW L cx _ _ _
noncomputable def fzc (t:Nat) (c:XC) (env:Env):Option (AV×Heap)->Out
 |some (v,h)=>aQ L cx c (env.set t v,h)
 |none=>none
theorem aj9(t:Nat)(c:XC)(env:Env)(v:AV)(h:Heap):fzc L cx t c env (some (v,h))=aQ L cx c (env.set t v,h):=rfl
theorem aj'(t:Nat)(a:XC)(env:Env)(h:Heap):aQ L cx (.fz t a) (env,h)=fzc L cx t a env (rX cx.base (env.get t) h):=by
 rw[aeX];cases rX cx.base (env.get t) h<;>rfl
noncomputable def lp (c:XC):Out->Out
 |some (.norm,st)=>aQ L cx (.loop c) st
 |some (e,st)=>some (e,st)
 |none=>none
theorem bU(c:XC)(env:Env)(h:Heap):aQ L cx (.loop c) (env,h)=lp L cx c (aQ L cx c (env,h)):=by
 rw[aeZ]
 cases aQ L cx c (env,h) with
 |none=>rfl
 |some r =>
  obtain⟨e,st⟩:=r;cases e<;>simp[lp]
@[go_sem] theorem arQ(b:XC)(st:St):sq L cx b (some (.norm,st))=aQ L cx b st:=rfl
@[go_sem] theorem arR(b:XC)(i:Nat)(st:St):sq L cx b (some (.exit i,st))=some (.exit i,st):=rfl
@[go_sem] theorem arS(b:XC)(st:St):sq L cx b (some (.ret,st))=some (.ret,st):=rfl
@[go_sem] theorem arT(b:XC):sq L cx b none=none:=rfl
@[go_sem] theorem arU(b:XC)(p:Prop)[Decidable p](x y:Out):sq L cx b (if p then x else y)=if p then sq L cx b x else sq L cx b y:=by split<;>rfl
@[go_sem] theorem arV(keep:List Nat)(env:Env)(h:Heap):rg keep (some (env,h))=some (.norm,(env.keep keep,h)):=rfl
@[go_sem] theorem arW(keep:List Nat):rg keep none=none:=rfl
@[go_sem] theorem arX(keep:List Nat)(p:Prop)[Decidable p](x y:Option (Env×Heap)):rg keep (if p then x else y)=if p then rg keep x else rg keep y:=by split<;>rfl
@[go_sem] theorem arY(a b:XC)(env:Env)(h:Heap)(c:Bool):cd L cx a b env h (.bool c)=if c=true then aQ L cx a (env,h)else aQ L cx b (env,h):=rfl
@[go_sem] theorem arZ(id:Nat)(st:St):bk id (some (.norm,st))=some (.norm,st):=rfl
@[go_sem] theorem ar0(id:Nat)(st:St):bk id (some (.ret,st))=some (.ret,st):=rfl
@[go_sem] theorem ar1(id j:Nat)(st:St):bk id (some (.exit j,st))=if j=id then some (.norm,st)else some (.exit j,st):=rfl
@[go_sem] theorem ar2(id:Nat):bk id none=none:=rfl
@[go_sem] theorem ar3(id:Nat)(p:Prop)[Decidable p](x y:Out):bk id (if p then x else y)=if p then bk id x else bk id y:=by split<;>rfl
@[go_sem] theorem ar4(c:XC)(st:St):lp L cx c (some (.norm,st))=aQ L cx (.loop c) st:=rfl
@[go_sem] theorem ar5(c:XC)(i:Nat)(st:St):lp L cx c (some (.exit i,st))=some (.exit i,st):=rfl
@[go_sem] theorem ar6(c:XC)(st:St):lp L cx c (some (.ret,st))=some (.ret,st):=rfl
@[go_sem] theorem ar7(c:XC):lp L cx c none=none:=rfl
@[go_sem] theorem ar8(c:XC)(p:Prop)[Decidable p](x y:Out):lp L cx c (if p then x else y)=if p then lp L cx c x else lp L cx c y:=by split<;>rfl
def nx(d:Option Nat)(os:List bT)(env:Env):Option (AV×Heap)->Option (Env×Heap)
 |some (v,h)=>jN C cx os (env.put d v) h
 |none=>none
def gx(w:Bool)(d:Option Nat)(ck:List fQ)(op:XI)(os:List bT)(env:Env)(h:Heap):AV->Option (Env×Heap)
 |.bool b=>if b=w then jN C cx (⟨d,none,ck,op⟩::os) env h else jN C cx os (env.put d (.tuple [])) h
 |.tuple []=>jN C cx os (env.put d (.tuple [])) h
 |_=>none
theorem ake(env:Env)(h:Heap):jN C cx [] env h=some (env,h):=rfl
theorem akf(d:Option Nat)(op:XI)(os:List bT)(env:Env)(h:Heap):jN C cx (⟨d,none,[],op⟩::os) env h=nx C cx d os env (xi C cx env h op):=by
 simp only[jN,lG,fI,List.all_nil,if_true]
 cases xi C cx env h op with
 |none=>rfl
 |some r=>rfl
theorem akg(d:Option Nat)(c:fQ)(ck:List fQ)(op:XI)(os:List bT)(env:Env)(h:Heap) :
  jN C cx (⟨d,none,c::ck,op⟩::os) env h=if fQ.ok cx env h c=true then jN C cx (⟨d,none,ck,op⟩::os) env h else none:=by
 simp only[jN,lG,fI,vY,bM];by_cases h1:fQ.ok cx env h c=true
 ·simp[h1]
 ·simp[h1]
theorem akh(d:Option Nat)(g:Nat)(w:Bool)(ck:List fQ)(op:XI)(os:List bT)(env:Env)(h:Heap) :
  jN C cx (⟨d,some (g,w),ck,op⟩::os) env h=gx C cx w d ck op os env h (env.get g):=by
 simp only[jN,lG,gx]
 cases env.get g with
 |bool b =>
  by_cases hb:b=w
  ·simp[Gl,hb,fI]
  ·simp[Gl,hb,fI]
 |tuple cs=>cases cs<;>simp[Gl]
 |_=>simp[Gl]
@[go_sem] theorem ar9(d:Option Nat)(os:List bT)(env:Env)(v:AV)(h:Heap):nx C cx d os env (some (v,h))=jN C cx os (env.put d v) h:=rfl
@[go_sem] theorem ar'(d:Option Nat)(os:List bT)(env:Env):nx C cx d os env none=none:=rfl
@[go_sem] theorem asa(d:Option Nat)(os:List bT)(env:Env)(p:Prop)[Decidable p](x y:Option (AV×Heap)):nx C cx d os env (if p then x else y)=if p then nx C cx d os env x else nx C cx d os env y:=by split<;>rfl
@[go_sem] theorem asb(w:Bool)(d:Option Nat)(ck:List fQ)(op:XI)(os:List bT)(env:Env)(h:Heap)(b:Bool) :
  gx C cx w d ck op os env h (.bool b)=if b=w then jN C cx (⟨d,none,ck,op⟩::os) env h else jN C cx os (env.put d (.tuple [])) h:=rfl
@[go_sem] theorem asc(w:Bool)(d:Option Nat)(ck:List fQ)(op:XI)(os:List bT)(env:Env)(h:Heap):gx C cx w d ck op os env h (.tuple [])=jN C cx os (env.put d (.tuple [])) h:=rfl
def ov(h:Heap):Option AV->Option (AV×Heap)
 |some v=>some (v,h)
 |none=>none
@[go_sem] theorem ase(h:Heap)(v:AV):ov h (some v)=some (v,h):=rfl
@[go_sem] theorem asf(h:Heap):ov h none=none:=rfl
@[go_sem] theorem ash(h:Heap)(p:Prop)[Decidable p](x y:Option AV):ov h (if p then x else y)=if p then ov h x else ov h y:=by split<;>rfl
theorem wz(h:Heap)(o:Option AV):(o.map fun v=>(v,h))=ov h o:=by cases o<;>rfl
variable (env:Env)(h:Heap)
theorem aki(x:aL):xi C cx env h (.bf x)=some (x.ev env,h):=rfl
def pk(a b:AV)(h:Heap):AV->Option (AV×Heap)
 |.bool r=>some (if r=true then a else b,h)
 |_=>none
@[go_sem] theorem asi(a b:AV)(r:Bool):pk a b h (.bool r)=some (if r=true then a else b,h):=rfl
theorem akj(c a b:aL):xi C cx env h (.pick c a b)=pk (a.ev env) (b.ev env) h (c.ev env):=by
 simp only[xi];cases c.ev env<;>simp[toBool,pk]
theorem akk(o:BinOp)(x y:aL):xi C cx env h (.bin o x y)=ov h (jh o (x.ev env) (y.ev env)):=wz _ _
theorem akl(o:UnOp)(x:aL):xi C cx env h (.un o x)=ov h (Ey o (x.ev env)):=wz _ _
theorem akm(k:IntKind)(x:aL):xi C cx env h (.conv k x)=ov h (Ju k (x.ev env)):=wz _ _
theorem akn(n:Bool)(ks:List Kd)(x y:aL):xi C cx env h (.eqv n ks x y)=ov h (Ap n ks (x.ev env) (y.ev env)):=wz _ _
theorem ako(neg:Bool)(x:aL):xi C cx env h (.BO neg x)=ov h (Gi neg (x.ev env)):=wz _ _
theorem akp(x:aL):xi C cx env h (.qQ x)=ov h (wW (x.ev env)):=wz _ _
theorem x_len(s:Bool)(x:aL):xi C cx env h (.len s x)=ov h (oH s (x.ev env)):=wz _ _
theorem akq(m:Bool)(xs:List aL):xi C cx env h (.u6 m xs)=ov h (C9 m (evs env xs)):=wz _ _
theorem akr(x:aL)(i:Nat):xi C cx env h (.ext x i)=ov h (Jv (x.ev env) i):=wz _ _
theorem akv(x:aL)(k:Nat):xi C cx env h (.pM x k)=ov h (pM (x.ev env) k):=wz _ _
theorem akw(z:Option Nat)(x:aL)(lo hi:Option aL):xi C cx env h (.slice z x lo hi)=ov h (pQ z (x.ev env) (lo.map (·.ev env)) (hi.map (·.ev env))):=wz _ _
theorem akx(zero:List AV)(parts:List (Nat×Nat×aL)):xi C cx env h (.build zero parts)=ov h ((lay env parts zero).map .agg):=by
 simp only[xi];cases lay env parts zero<;>rfl
def sh2(z:Nat):Option (List AV×Heap)->Option (AV×Heap)
 |some (es,h)=>some (.bF z es,h)
 |none=>none
@[go_sem] theorem asj(z:Nat)(es:List AV)(h:Heap):sh2 z (some (es,h))=some (.bF z es,h):=rfl
theorem aky(z:Nat)(zero:AV)(n:Nat)(parts:List (Nat×aL)):xi C cx env h (.gW z zero n parts)=sh2 z (mK env cx.base z parts (List.replicate n zero) h):=by
 simp only[xi];cases mK env cx.base z parts (List.replicate n zero) h<;>rfl
def ixs(z:Nat)(x:AV)(h:Heap):Option Nat->Option (AV×Heap)
 |some j=>some (.gu x j 0,h)
 |none=>none
@[go_sem] theorem asl(z:Nat)(x:AV)(j:Nat):ixs z x h (some j)=some (.gu x j 0,h):=rfl
def iM(z:Nat)(x i:AV):Option Nat:=if jd z x then(lU x).bind fun n=>idx i n else none
theorem akz(z:Nat)(x i:aL):xi C cx env h (.u7 z x i)=ixs z (x.ev env) h (iM z (x.ev env) (i.ev env)):=by
 simp only[xi,iM];split
 ·cases lU (x.ev env) with
  |none=>rfl
  |some n=>simp only[Option.bind_some];cases idx (i.ev env) n<;>rfl
 ·rfl
theorem akA{z:Nat}{x i:AV}{n j:Nat}(h1:jd z x=true)(h2:lU x=some n)(h3:idx i n=some j):iM z x i=some j:=by simp[iM,h1,h2,h3]
def SH(h:Heap)(sh:Sh):Option (List AV)->Option (AV×Heap)
 |some cs=>ov h (shaped sh cs)
 |none=>none
@[go_sem] theorem asn(sh:Sh)(cs:List AV):SH h sh (some cs)=ov h (shaped sh cs):=rfl
theorem akB(sh:Sh)(x:aL):xi C cx env h (.load sh x)=SH h sh (ig h (x.ev env)):=by
 simp only[xi]
 cases ig h (x.ev env) with
 |none=>rfl
 |some cs=>simp only[Option.bind_some,SH,wz]
def sto:Option Heap->Option (AV×Heap)
 |some h=>some (.undef,h)
 |none=>none
@[go_sem] theorem aso(h:Heap):sto (some h)=some (.undef,h):=rfl
theorem akC(sz:Nat)(x v:aL):xi C cx env h (.store sz x v)=sto (iX cx h sz (x.ev env) (v.ev env)):=by
 simp only[xi];cases iX cx h sz (x.ev env) (v.ev env)<;>rfl
def bx(cx:Cx)(s:Nat):Option (Nat×Heap)->Option (AV×Heap)
 |some (v,h)=>some (.aF (cx.base+s) v 0,h)
 |none=>none
@[go_sem] theorem asq(s v:Nat)(h:Heap):bx cx s (some (v,h))=some (.aF (cx.base+s) v 0,h):=rfl
theorem akD(f:Nat)(x:aL):xi C cx env h (.yg f x)=ov h (BQ cx (x.ev env) h):=wz _ _
theorem akE(s f:Nat)(x y:aL):xi C cx env h (.yc s f x y)=yj cx s (x.ev env) (y.ev env) h:=rfl
def tsv(h:Heap):Option (List AV)->Option (AV×Heap)
 |some es=>ov h ((bytesOf es).map .str)
 |none=>none
@[go_sem] theorem asr(es:List AV):tsv h (some es)=ov h ((bytesOf es).map .str):=rfl
theorem akF(x:aL):xi C cx env h (.yh x)=tsv h (oG h 1 (x.ev env)):=by
 simp only[xi]
 cases oG h 1 (x.ev env) with
 |none=>rfl
 |some es=>simp only[Option.bind_some,tsv];cases bytesOf es<;>rfl
theorem akG(t:Nat)(x:aL):xi C cx env h (.zl t x)=if (x.ev env).closed=true/\(x.ev env).val=true then some (.iG t (x.ev env),h)else none:=rfl
def akH(cx:Cx)(s:Nat):Option (Nat×Heap)->Option (AV×Heap)
 |some (v,h)=>some (.dY (cx.base+s) v,h)
 |none=>none
@[go_sem] theorem ast(s v:Nat)(h:Heap):akH cx s (some (v,h))=some (.dY (cx.base+s) v,h):=rfl
def aaV(cx:Cx)(s:Nat):Option (Nat×Heap)->Option (AV×Heap)
 |some (v,h)=>some (.dY (cx.base+s) v,h.set (cx.base+s) (v,.ax (dO.at (cx.base+s) (.fM (cx.base+s) v none)) (.fO (.fM (cx.base+s) v none))))
 |none=>none
@[go_sem] theorem asu(s v:Nat)(h:Heap):aaV cx s (some (v,h))=some (.dY (cx.base+s) v,h.set (cx.base+s) (v,.ax (dO.at (cx.base+s) (.fM (cx.base+s) v none)) (.fO (.fM (cx.base+s) v none)))):=rfl
theorem akI(s:Nat):xi C cx env h (.zk s)=aaV cx s (fB cx s (.ax (dO.at (cx.base+s) (.fM (cx.base+s) 0 none)) (.fO (.fM (cx.base+s) 0 none))) h):=by
 simp only[xi];cases fB cx s (.ax (dO.at (cx.base+s) (.fM (cx.base+s) 0 none)) (.fO (.fM (cx.base+s) 0 none))) h<;>rfl
def stu:Option Heap->Option (AV×Heap)
 |some h=>some (.tuple [],h)
 |none=>none
@[go_sem] theorem asv(h:Heap):stu (some h)=some (.tuple [],h):=rfl
theorem akK(s:Nat)(zero:List AV):xi C cx env h (.alloc s zero)=bx cx s (fB cx s (.box zero) h):=by
 simp only[xi];cases fB cx s (.box zero) h<;>rfl
theorem akL(s:Nat)(x:aL):xi C cx env h (.box s x)=if (x.ev env).val=true then bx cx s (fB cx s (.box (x.ev env).cells) h)else none:=by
 simp only[xi];split
 ·cases fB cx s (.box (x.ev env).cells) h<;>rfl
 ·rfl
def bxr:Option (AV×Heap)->Option (AV×Heap)
 |some (v,h)=>some (.bR v.cells,h)
 |none=>none
@[go_sem] theorem asw(v:AV)(h:Heap):bxr (some (v,h))=some (.bR v.cells,h):=rfl
theorem akM(x:aL):xi C cx env h (.dV x)=if (x.ev env).val=true then bxr (bL cx.base false (x.ev env) h)else none:=by
 simp only[xi];split
 ·cases bL cx.base false (x.ev env) h<;>rfl
 ·rfl
theorem akN(f:Nat)(caps:List aL):xi C cx env h (.qA f caps)=some (.fn f (evs env caps),h):=rfl
def akO(h:Heap)(off:Nat)(sh:Sh):AV->Option (AV×Heap)
 |.agg cs=>ov h (shaped sh (cs.drop off))
 |_=>none
@[go_sem] theorem asx(off:Nat)(sh:Sh)(cs:List AV):akO h off sh (.agg cs)=ov h (shaped sh (cs.drop off)):=rfl
def SI(x:AV)(size:Nat)(h:Heap):Option Nat->Option (AV×Heap)
 |some j=>ov h (pM x (j*size))
 |none=>none
@[go_sem] theorem asy(x:AV)(size j:Nat):SI x size h (some j)=ov h (pM x (j*size)):=rfl
theorem akP(n size:Nat)(x i:aL):xi C cx env h (.zi n size x i)=SI (x.ev env) size h (idx (i.ev env) n):=by
 simp only[xi];cases idx (i.ev env) n<;>simp[SI,wz]
def ixv(size:Nat)(sh:Sh)(h:Heap):AV->Option Nat->Option (AV×Heap)
 |.agg cs,some j=>ov h (shaped sh (cs.drop (j*size)))
 |_,_=>none
@[go_sem] theorem asz(size:Nat)(sh:Sh)(cs:List AV)(j:Nat):ixv size sh h (.agg cs) (some j)=ov h (shaped sh (cs.drop (j*size))):=rfl
def KF(l:List UInt8)(h:Heap):Option Nat->Option (AV×Heap)
 |some j=>match l[j]? with|some b=>some (.int .u8 b.toNat,h)|none=>none
 |none=>none
def Fa(i:AV)(h:Heap):AV->Option (AV×Heap)
 |.str l=>KF l h (idx i l.length)
 |_=>none
@[go_sem] theorem asA(i:AV)(l:List UInt8):Fa i h (.str l)=KF l h (idx i l.length):=rfl
theorem akR(x i:aL):xi C cx env h (.rY x i)=Fa (i.ev env) h (x.ev env):=by
 simp only[xi];cases x.ev env<;>simp[Fa];rename_i l
 cases idx (i.ev env) l.length with
 |none=>rfl
 |some j=>simp only[Option.bind_some,KF];cases l[j]?<;>rfl
def Fb(cx:Cx)(s z n:Nat):Option (Nat×Heap)->Option (AV×Heap)
 |some (v,h)=>some (.ref (cx.base+s) v z 0 n n,h)
 |none=>none
@[go_sem] theorem asB(s z n v:Nat)(h:Heap):Fb cx s z n (some (v,h))=some (.ref (cx.base+s) v z 0 n n,h):=rfl
def Cs(cx:Cx)(s z:Nat)(zero:AV)(lim:Nat)(h:Heap):AV->AV->Option (AV×Heap)
 |.int _ a,.int _ b=>if 1000<=s/\a=0/\b=0 then some (.bF z [],h)else if 0<=a/\a<=b/\b<=lim then Fb cx (BR s) z a.toNat (fB cx (BR s) (.arr z (List.replicate a.toNat zero)) h)else none
 |_,_=>none
theorem SK{cx:Cx}{s z:Nat}{zero:AV}{lim:Nat}{h:Heap}{k k':IntKind}{a b:Int}(h0:s<1000)(h1:0<=a)(h2:a<=b)(h3:b<=lim):Cs cx s z zero lim h (.int k a) (.int k' b)=Fb cx s z a.toNat (fB cx s (.arr z (List.replicate a.toNat zero)) h):=by
 have hs:BR s=s:=if_pos h0;simp only[Cs];rw[if_neg (by omega),if_pos ⟨h1,h2,h3⟩,hs]
theorem akS{cx:Cx}{s z:Nat}{zero:AV}{lim:Nat}{h:Heap}{k k':IntKind}(h0:1000<=s):Cs cx s z zero lim h (.int k 0) (.int k' 0)=some (.bF z [],h):=by
 simp[Cs,h0]
theorem akT{cx:Cx}{s z:Nat}{zero:AV}{lim:Nat}{h:Heap}{k k':IntKind}{a b:Int}(h0:1000<=s)(h1:0<a)(h2:a<=b)(h3:b<=lim):Cs cx s z zero lim h (.int k a) (.int k' b)=Fb cx (s-1000) z a.toNat (fB cx (s-1000) (.arr z (List.replicate a.toNat zero)) h):=by
 have hs:BR s=s-1000:=if_neg (by omega)
 simp only[Cs];rw[if_neg (by omega),if_pos ⟨by omega,h2,h3⟩,hs]
theorem akU(s z:Nat)(zero:AV)(lim:Nat)(n c:aL):xi C cx env h (.mk s z zero lim n c)=Cs cx s z zero lim h (n.ev env) (c.ev env):=by
 simp only[xi];cases n.ev env<;>simp[Cs];cases c.ev env<;>simp[Cs];rename_i k a k' b;split
 ·rfl
 ·split
  ·cases fB cx (BR s) (.arr z (List.replicate a.toNat zero)) h<;>rfl
  ·rfl
def apx(cx:Cx)(s z lim:Nat)(x:AV)(h:Heap):Option (List AV)->Option (AV×Heap)
 |some xs=>Db cx s z lim x xs h
 |none=>none
@[go_sem] theorem asC(s z lim:Nat)(x:AV)(xs:List AV):apx cx s z lim x h (some xs)=if s<1000 then ji cx s z lim x xs h else(ji cx (s-1000) z lim x xs h).bind fun r=>bL cx.base false r.1 r.2:=rfl
theorem akV(s z lim:Nat)(x y:aL):xi C cx env h (.app s z lim x y)=apx cx s z lim (x.ev env) h (sP h z (y.ev env)):=by
 simp only[xi];cases sP h z (y.ev env)<;>rfl
def zN(cx:Cx):List (Nat×Nat)->Option (AV×Heap)->Option (AV×Heap)
 |[],some (r,h)=>some (weak r,h)
 |own,some (.tuple cs,h)=>(qB cx own cs h).map fun(cs,h)=>(weak (.tuple cs),h)
 |own,some (r,h)=>(qB cx own [r] h).bind fun(cs,h)=>(cs[0]?).map fun v=>(weak v,h)
 |_,none=>none
@[go_sem] theorem asD(r:AV)(h:Heap):zN cx [] (some (r,h))=some (weak r,h):=rfl
@[go_sem] theorem asE(own:List (Nat×Nat)):zN cx own none=none:=by cases own<;>rfl
def cl(args:List AV)(own:List (Nat×Nat))(h:Heap):AV->Option (AV×Heap)
 |.fn g caps=>zN cx own (C.fn (jr g) (pO g args caps) h cx.lo)
 |.dY id ai=>if own=[]then iY C cx id ai args h else none
 |_=>none
@[go_sem] theorem asF(args caps:List AV)(own:List (Nat×Nat))(g:Nat):cl C cx args own h (.fn g caps)=zN cx own (C.fn (jr g) (pO g args caps) h cx.lo):=rfl
@[go_sem] theorem asG(g:Nat):jr g=if g<1000 then g else g-1000:=rfl
@[go_sem] theorem asH(g:Nat)(xs cs:List AV):pO g xs cs=if g<1000 then xs++cs else cs++xs:=rfl
@[go_sem] theorem asI(args:List AV)(id ai:Nat):cl C cx args [] h (.dY id ai)=iY C cx id ai args h:=rfl
def SL(h h':Heap):AV->Bool
 |.aF i _ _=>wX h h' i
 |.bR _=>true
 |_=>false
def SN(env:Env)(h:Heap)(ts:List Nat):Option (AV×Heap)->Option (AV×Heap)
 |some q=>if keeps env h q.2 ts=true then some (weak q.1,q.2)else none
 |none=>none
def kl(C:Callee)(cx:Cx)(env:Env)(h:Heap)(ts:List Nat)(args:List AV):AV->Option (AV×Heap)
 |.fn g caps=>SN env h ts (C.fn (jr g) (pO g args caps) h cx.lo)
 |_=>none
@[go_sem] theorem asJ(ts:List Nat)(args caps:List AV)(g:Nat):kl C cx env h ts args (.fn g caps)=SN env h ts (C.fn (jr g) (pO g args caps) h cx.lo):=rfl
@[go_sem] theorem asK(ts:List Nat)(r:AV)(h':Heap):SN env h ts (some (r,h'))=if keeps env h h' ts=true then some (weak r,h')else none:=rfl
@[go_sem] theorem asL(h':Heap):keeps env h h' []=true:=rfl
@[go_sem] theorem asM(h':Heap)(t:Nat)(ts:List Nat):keeps env h h' (t::ts)=(SL h h' (env.get t)&&keeps env h h' ts):=by
 unfold keeps;rw[vY];congr 1
@[go_sem] theorem asN(h h':Heap)(i ai off:Nat):SL h h' (.aF i ai off)=wX h h' i:=rfl
@[go_sem] theorem asO(h h':Heap)(cs:List AV):SL h h' (.bR cs)=true:=rfl
theorem akW(ts:List Nat)(f:aL)(args:List aL):xi C cx env h (.mH ts f args)=kl C cx env h ts (evs env args) (f.ev env):=by
 simp only[xi];cases f.ev env<;>simp[kl];rename_i g caps;cases C.fn (jr g) (pO g (evs env args) caps) h cx.lo<;>rfl
theorem akX(f:aL)(args:List aL)(own:List (Nat×Nat)):xi C cx env h (.call f args own)=cl C cx (evs env args) own h (f.ev env):=by
 simp only[xi];cases f.ev env<;>simp[cl];rename_i g caps
 cases C.fn (jr g) (pO g (evs env args) caps) h cx.lo with
 |none=>cases own<;>rfl
 |some r =>
  obtain⟨r,h'⟩:=r
  cases own with
  |nil=>rfl
  |cons o own =>
   simp only[Option.bind_some];cases r<;>rfl
end
attribute [go_sem] aj' aj9 aj1 aj2 aj3 aj4 aj5 aj6 aj7 aj8 ake akf akg akh aki akj akk akl akm akn ako akD akE akW akF akG akI akp x_len akq akr akv akw akx aky akz akB akC akK akL akM akN akP akR akU akV akX
end Go.VI
