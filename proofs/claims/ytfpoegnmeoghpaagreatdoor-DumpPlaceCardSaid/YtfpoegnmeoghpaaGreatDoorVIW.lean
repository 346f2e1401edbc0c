/- Walking the evaluator by rewriting: one equation for each form of code and of operation. -/
import Derived.Test.YtfpoegnmeoghpaaGreatDoorVIU
set_option linter.unusedVariables false
set_option linter.unusedSimpArgs false
namespace Go.VI
section
variable (L:Lib)(C:Callee)(cx:Cx)
noncomputable def sq (b:XC):Out->Out
 |some (.norm,st)=>bV L cx b st
 |some (e,st)=>some (e,st)
 |none=>none
def rg(keep:List Nat):Option (Env×Heap)->Out
 |some (env,h)=>some (.norm,(env.keep keep,h))
 |none=>none
noncomputable def cd (a b:XC) (env:Env) (h:Heap):AV->Out
 |.bool c=>if c=true then bV L cx a (env,h)else bV L cx b (env,h)
 |_=>none
def bk(id:Nat):Out->Out
 |some (.exit j,st)=>if j=id then some (.norm,st)else some (.exit j,st)
 |r=>r
theorem aHb(env:Env)(h:Heap):bV L cx .skip (env,h)=some (.norm,(env,h)):=aD1 L cx _
theorem aHc(id:Nat)(env:Env)(h:Heap):bV L cx (.exit id) (env,h)=some (.exit id,(env,h)):=aD2 L cx _ _
theorem aHd(env:Env)(h:Heap):bV L cx .ret (env,h)=some (.ret,(env,h)):=aD3 L cx _
theorem aHe(dr:Bool)(keep kill:List Nat)(ops:List jc)(env:Env)(h:Heap) :
  bV L cx (.reg dr keep kill ops) (env,h)=rg keep (xZ (run L) cx ops env (Gp cx kill h)):=by
 rw[aD4]
 cases xZ (run L) cx ops env (Gp cx kill h) with
 |none=>rfl
 |some r=>rfl
theorem aHf(a b:XC)(env:Env)(h:Heap):bV L cx (.seq a b) (env,h)=sq L cx b (bV L cx a (env,h)):=by
 rw[aD5]
 cases bV L cx a (env,h) with
 |none=>rfl
 |some r =>
  obtain⟨e,st⟩:=r;cases e<;>simp[sq]
theorem aHg(c:bD)(a b:XC)(env:Env)(h:Heap):bV L cx (.cond c a b) (env,h)=cd L cx a b env h (c.ev env):=by
 rw[aD6];cases c.ev env<;>simp[toBool,cd]
theorem aHh(id:Nat)(a:XC)(env:Env)(h:Heap):bV L cx (.blk id a) (env,h)=bk id (bV L cx a (env,h)):=by
 rw[aD8]
 cases bV L cx a (env,h) with
 |none=>rfl
 |some r =>
  obtain⟨e,st⟩:=r;cases e<;>simp[bk,Ex.Ir];split<;>simp_all
theorem aHi(keep:List Nat)(a:XC)(env:Env)(h:Heap):bV L cx (.pre keep a) (env,h)=bV L cx a (env.keep keep,h):=aD7 L cx _ _ _
noncomputable def fzc (t:Nat) (c:XC) (env:Env):Option (AV×Heap)->Out
 |some (v,h)=>bV L cx c (env.set t v,h)
 |none=>none
theorem aHk(t:Nat)(c:XC)(env:Env)(v:AV)(h:Heap):fzc L cx t c env (some (v,h))=bV L cx c (env.set t v,h):=rfl
noncomputable def lp (c:XC):Out->Out
 |some (.norm,st)=>bV L cx (.loop c) st
 |some (e,st)=>some (e,st)
 |none=>none
theorem jm(c:XC)(env:Env)(h:Heap):bV L cx (.loop c) (env,h)=lp L cx c (bV L cx c (env,h)):=by
 rw[aD9]
 cases bV L cx c (env,h) with
 |none=>rfl
 |some r =>
  obtain⟨e,st⟩:=r;cases e<;>simp[lp]
@[go_sem] theorem aOC(b:XC)(st:St):sq L cx b (some (.norm,st))=bV L cx b st:=rfl
@[go_sem] theorem aOD(b:XC)(i:Nat)(st:St):sq L cx b (some (.exit i,st))=some (.exit i,st):=rfl
@[go_sem] theorem aOE(b:XC)(st:St):sq L cx b (some (.ret,st))=some (.ret,st):=rfl
@[go_sem] theorem aOF(b:XC):sq L cx b none=none:=rfl
@[go_sem] theorem aOG(b:XC)(p:Prop)[Decidable p](x y:Out):sq L cx b (if p then x else y)=if p then sq L cx b x else sq L cx b y:=by split<;>rfl
@[go_sem] theorem aOH(keep:List Nat)(env:Env)(h:Heap):rg keep (some (env,h))=some (.norm,(env.keep keep,h)):=rfl
@[go_sem] theorem aOI(keep:List Nat):rg keep none=none:=rfl
@[go_sem] theorem aOJ(keep:List Nat)(p:Prop)[Decidable p](x y:Option (Env×Heap)):rg keep (if p then x else y)=if p then rg keep x else rg keep y:=by split<;>rfl
@[go_sem] theorem aOK(a b:XC)(env:Env)(h:Heap)(c:Bool):cd L cx a b env h (.bool c)=if c=true then bV L cx a (env,h)else bV L cx b (env,h):=rfl
@[go_sem] theorem aOL(id:Nat)(st:St):bk id (some (.norm,st))=some (.norm,st):=rfl
@[go_sem] theorem aOM(id:Nat)(st:St):bk id (some (.ret,st))=some (.ret,st):=rfl
@[go_sem] theorem aON(id j:Nat)(st:St):bk id (some (.exit j,st))=if j=id then some (.norm,st)else some (.exit j,st):=rfl
@[go_sem] theorem aOO(id:Nat):bk id none=none:=rfl
@[go_sem] theorem aOP(id:Nat)(p:Prop)[Decidable p](x y:Out):bk id (if p then x else y)=if p then bk id x else bk id y:=by split<;>rfl
@[go_sem] theorem aOQ(c:XC)(st:St):lp L cx c (some (.norm,st))=bV L cx (.loop c) st:=rfl
@[go_sem] theorem aOR(c:XC)(i:Nat)(st:St):lp L cx c (some (.exit i,st))=some (.exit i,st):=rfl
@[go_sem] theorem aOS(c:XC)(st:St):lp L cx c (some (.ret,st))=some (.ret,st):=rfl
@[go_sem] theorem aOT(c:XC):lp L cx c none=none:=rfl
@[go_sem] theorem aOU(c:XC)(p:Prop)[Decidable p](x y:Out):lp L cx c (if p then x else y)=if p then lp L cx c x else lp L cx c y:=by split<;>rfl
def nx(d:Option Nat)(os:List jc)(env:Env):Option (AV×Heap)->Option (Env×Heap)
 |some (v,h)=>xZ C cx os (env.put d v) h
 |none=>none
def gx(w:Bool)(d:Option Nat)(ck:List ou)(op:XI)(os:List jc)(env:Env)(h:Heap):AV->Option (Env×Heap)
 |.bool b=>if b=w then xZ C cx (⟨d,none,ck,op⟩::os) env h else xZ C cx os (env.put d (.tuple [])) h
 |.tuple []=>xZ C cx os (env.put d (.tuple [])) h
 |_=>none
theorem aHl(env:Env)(h:Heap):xZ C cx [] env h=some (env,h):=rfl
theorem aHm(d:Option Nat)(op:XI)(os:List jc)(env:Env)(h:Heap):xZ C cx (⟨d,none,[],op⟩::os) env h=nx C cx d os env (xi C cx env h op):=by
 simp only[xZ,Dh,l6,List.all_nil,if_true]
 cases xi C cx env h op with
 |none=>rfl
 |some r=>rfl
theorem aHn(d:Option Nat)(c:ou)(ck:List ou)(op:XI)(os:List jc)(env:Env)(h:Heap) :
  xZ C cx (⟨d,none,c::ck,op⟩::os) env h=if ou.ok cx env h c=true then xZ C cx (⟨d,none,ck,op⟩::os) env h else none:=by
 simp only[xZ,Dh,l6,YL,fw];by_cases h1:ou.ok cx env h c=true
 ·simp[h1]
 ·simp[h1]
theorem aHo(d:Option Nat)(g:Nat)(w:Bool)(ck:List ou)(op:XI)(os:List jc)(env:Env)(h:Heap) :
  xZ C cx (⟨d,some (g,w),ck,op⟩::os) env h=gx C cx w d ck op os env h (env.get g):=by
 simp only[xZ,Dh,gx]
 cases env.get g with
 |bool b =>
  by_cases hb:b=w
  ·simp[ajK,hb,l6]
  ·simp[ajK,hb,l6]
 |tuple cs=>cases cs<;>simp[ajK]
 |_=>simp[ajK]
@[go_sem] theorem aOV(d:Option Nat)(os:List jc)(env:Env)(v:AV)(h:Heap):nx C cx d os env (some (v,h))=xZ C cx os (env.put d v) h:=rfl
@[go_sem] theorem aOW(d:Option Nat)(os:List jc)(env:Env):nx C cx d os env none=none:=rfl
@[go_sem] theorem aOX(d:Option Nat)(os:List jc)(env:Env)(p:Prop)[Decidable p](x y:Option (AV×Heap)):nx C cx d os env (if p then x else y)=if p then nx C cx d os env x else nx C cx d os env y:=by split<;>rfl
@[go_sem] theorem aOY(w:Bool)(d:Option Nat)(ck:List ou)(op:XI)(os:List jc)(env:Env)(h:Heap)(b:Bool) :
  gx C cx w d ck op os env h (.bool b)=if b=w then xZ C cx (⟨d,none,ck,op⟩::os) env h else xZ C cx os (env.put d (.tuple [])) h:=rfl
@[go_sem] theorem aOZ(w:Bool)(d:Option Nat)(ck:List ou)(op:XI)(os:List jc)(env:Env)(h:Heap):gx C cx w d ck op os env h (.tuple [])=xZ C cx os (env.put d (.tuple [])) h:=rfl
def ov(h:Heap):Option AV->Option (AV×Heap)
 |some v=>some (v,h)
 |none=>none
@[go_sem] theorem aO0(h:Heap)(v:AV):ov h (some v)=some (v,h):=rfl
@[go_sem] theorem aO1(h:Heap):ov h none=none:=rfl
@[go_sem] theorem aO2(h:Heap)(p:Prop)[Decidable p](x y:Option AV):ov h (if p then x else y)=if p then ov h x else ov h y:=by split<;>rfl
theorem YO(h:Heap)(o:Option AV):(o.map fun v=>(v,h))=ov h o:=by cases o<;>rfl
variable (env:Env)(h:Heap)
theorem aHp(x:bD):xi C cx env h (.dx x)=some (x.ev env,h):=rfl
def pk(a b:AV)(h:Heap):AV->Option (AV×Heap)
 |.bool r=>some (if r=true then a else b,h)
 |_=>none
@[go_sem] theorem aO3(a b:AV)(r:Bool):pk a b h (.bool r)=some (if r=true then a else b,h):=rfl
theorem aHq(c a b:bD):xi C cx env h (.pick c a b)=pk (a.ev env) (b.ev env) h (c.ev env):=by
 simp only[xi];cases c.ev env<;>simp[toBool,pk]
theorem aHr(o:BinOp)(x y:bD):xi C cx env h (.bin o x y)=ov h (xS o (x.ev env) (y.ev env)):=YO _ _
theorem aHs(o:UnOp)(x:bD):xi C cx env h (.un o x)=ov h (unv o (x.ev env)):=YO _ _
theorem aHt(k:IntKind)(x:bD):xi C cx env h (.conv k x)=ov h (ala k (x.ev env)):=YO _ _
theorem aHu(n:Bool)(ks:List Kd)(x y:bD):xi C cx env h (.eqv n ks x y)=ov h (acJ n ks (x.ev env) (y.ev env)):=YO _ _
theorem aHv(x:bD):xi C cx env h (.JO x)=ov h (Sv (x.ev env)):=YO _ _
theorem x_len(s:Bool)(x:bD):xi C cx env h (.len s x)=ov h (LZ s (x.ev env)):=YO _ _
theorem aHw(m:Bool)(xs:List bD):xi C cx env h (.NM m xs)=ov h (mmv m (evs env xs)):=YO _ _
theorem aHx(x:bD)(i:Nat):xi C cx env h (.ext x i)=ov h (alb (x.ev env) i):=YO _ _
theorem aHy(x:bD)(k:Nat):xi C cx env h (.JI x k)=ov h (JI (x.ev env) k):=YO _ _
theorem aHz(z:Option Nat)(x:bD)(lo hi:Option bD):xi C cx env h (.slice z x lo hi)=ov h (Rc z (x.ev env) (lo.map (·.ev env)) (hi.map (·.ev env))):=YO _ _
theorem aHA(zero:List AV)(parts:List (Nat×Nat×bD)):xi C cx env h (.build zero parts)=ov h ((lay env parts zero).map .agg):=by
 simp only[xi];cases lay env parts zero<;>rfl
def sh2(z:Nat):Option (List AV×Heap)->Option (AV×Heap)
 |some (es,h)=>some (.fT z es,h)
 |none=>none
@[go_sem] theorem aO4(z:Nat)(es:List AV)(h:Heap):sh2 z (some (es,h))=some (.fT z es,h):=rfl
theorem aHB(z:Nat)(zero:AV)(n:Nat)(parts:List (Nat×bD)):xi C cx env h (.pF z zero n parts)=sh2 z (FI env cx.base z parts (List.replicate n zero) h):=by
 simp only[xi];cases FI env cx.base z parts (List.replicate n zero) h<;>rfl
def ixs(z:Nat)(x:AV)(h:Heap):Option Nat->Option (AV×Heap)
 |some j=>some (.nS x j 0,h)
 |none=>none
@[go_sem] theorem aO5(z:Nat)(x:AV)(j:Nat):ixs z x h (some j)=some (.nS x j 0,h):=rfl
def vJ(z:Nat)(x i:AV):Option Nat:=if xB z x then(DY x).bind fun n=>idx i n else none
theorem aHC(z:Nat)(x i:bD):xi C cx env h (.TT z x i)=ixs z (x.ev env) h (vJ z (x.ev env) (i.ev env)):=by
 simp only[xi,vJ];split
 ·cases DY (x.ev env) with
  |none=>rfl
  |some n=>simp only[Option.bind_some];cases idx (i.ev env) n<;>rfl
 ·rfl
theorem aHD{z:Nat}{x i:AV}{n j:Nat}(h1:xB z x=true)(h2:DY x=some n)(h3:idx i n=some j):vJ z x i=some j:=by simp[vJ,h1,h2,h3]
def shv(h:Heap)(sh:Sh):Option (List AV)->Option (AV×Heap)
 |some cs=>ov h (shaped sh cs)
 |none=>none
@[go_sem] theorem aO6(sh:Sh)(cs:List AV):shv h sh (some cs)=ov h (shaped sh cs):=rfl
theorem aHE(sh:Sh)(x:bD):xi C cx env h (.load sh x)=shv h sh (qL h (x.ev env)):=by
 simp only[xi]
 cases qL h (x.ev env) with
 |none=>rfl
 |some cs=>simp only[Option.bind_some,shv,YO]
def sto:Option Heap->Option (AV×Heap)
 |some h=>some (.undef,h)
 |none=>none
@[go_sem] theorem aO7(h:Heap):sto (some h)=some (.undef,h):=rfl
theorem aHF(sz:Nat)(x v:bD):xi C cx env h (.store sz x v)=sto (qE cx h sz (x.ev env) (v.ev env)):=by
 simp only[xi];cases qE cx h sz (x.ev env) (v.ev env)<;>rfl
def bx(cx:Cx)(s:Nat):Option (Nat×Heap)->Option (AV×Heap)
 |some (v,h)=>some (.bq (cx.base+s) v 0,h)
 |none=>none
@[go_sem] theorem aO8(s v:Nat)(h:Heap):bx cx s (some (v,h))=some (.bq (cx.base+s) v 0,h):=rfl
theorem aHG(f:Nat)(x:bD):xi C cx env h (.YW f x)=ov h (abW cx (x.ev env) h):=YO _ _
theorem aHH(s f:Nat)(x y:bD):xi C cx env h (.YV s f x y)=YZ cx s (x.ev env) (y.ev env) h:=rfl
def tsv(h:Heap):Option (List AV)->Option (AV×Heap)
 |some es=>ov h ((bytesOf es).map .str)
 |none=>none
@[go_sem] theorem aO9(es:List AV):tsv h (some es)=ov h ((bytesOf es).map .str):=rfl
theorem aHI(x:bD):xi C cx env h (.YX x)=tsv h (JH h 1 (x.ev env)):=by
 simp only[xi]
 cases JH h 1 (x.ev env) with
 |none=>rfl
 |some es=>simp only[Option.bind_some,tsv];cases bytesOf es<;>rfl
theorem aHJ(t:Nat)(x:bD):xi C cx env h (.Zp t x)=if (x.ev env).closed=true/\(x.ev env).val=true then some (.rM t (x.ev env),h)else none:=rfl
def aHK(cx:Cx)(s:Nat):Option (Nat×Heap)->Option (AV×Heap)
 |some (v,h)=>some (.lF (cx.base+s) v,h)
 |none=>none
@[go_sem] theorem aO'(s v:Nat)(h:Heap):aHK cx s (some (v,h))=some (.lF (cx.base+s) v,h):=rfl
def aAg(cx:Cx)(s:Nat):Option (Nat×Heap)->Option (AV×Heap)
 |some (v,h)=>some (.lF (cx.base+s) v,h.set (cx.base+s) (v,.aV (kP.at (cx.base+s) (.nV (cx.base+s) v none)) (.nX (.nV (cx.base+s) v none))))
 |none=>none
@[go_sem] theorem aPa(s v:Nat)(h:Heap):aAg cx s (some (v,h))=some (.lF (cx.base+s) v,h.set (cx.base+s) (v,.aV (kP.at (cx.base+s) (.nV (cx.base+s) v none)) (.nX (.nV (cx.base+s) v none)))):=rfl
theorem aHL(s:Nat):xi C cx env h (.Zo s)=aAg cx s (mK cx s (.aV (kP.at (cx.base+s) (.nV (cx.base+s) 0 none)) (.nX (.nV (cx.base+s) 0 none))) h):=by
 simp only[xi];cases mK cx s (.aV (kP.at (cx.base+s) (.nV (cx.base+s) 0 none)) (.nX (.nV (cx.base+s) 0 none))) h<;>rfl
def stu:Option Heap->Option (AV×Heap)
 |some h=>some (.tuple [],h)
 |none=>none
@[go_sem] theorem aPb(h:Heap):stu (some h)=some (.tuple [],h):=rfl
theorem aHN(s:Nat)(zero:List AV):xi C cx env h (.alloc s zero)=bx cx s (mK cx s (.box zero) h):=by
 simp only[xi];cases mK cx s (.box zero) h<;>rfl
theorem aHO(s:Nat)(x:bD):xi C cx env h (.box s x)=if (x.ev env).val=true then bx cx s (mK cx s (.box (x.ev env).cells) h)else none:=by
 simp only[xi];split
 ·cases mK cx s (.box (x.ev env).cells) h<;>rfl
 ·rfl
def bxr:Option (AV×Heap)->Option (AV×Heap)
 |some (v,h)=>some (.iE v.cells,h)
 |none=>none
@[go_sem] theorem aPc(v:AV)(h:Heap):bxr (some (v,h))=some (.iE v.cells,h):=rfl
theorem aHP(x:bD):xi C cx env h (.nK x)=if (x.ev env).val=true then bxr (gI cx.base false (x.ev env) h)else none:=by
 simp only[xi];split
 ·cases gI cx.base false (x.ev env) h<;>rfl
 ·rfl
theorem aHQ(f:Nat)(caps:List bD):xi C cx env h (.LM f caps)=some (.fn f (evs env caps),h):=rfl
def aHR(h:Heap)(off:Nat)(sh:Sh):AV->Option (AV×Heap)
 |.agg cs=>ov h (shaped sh (cs.drop off))
 |_=>none
@[go_sem] theorem aPd(off:Nat)(sh:Sh)(cs:List AV):aHR h off sh (.agg cs)=ov h (shaped sh (cs.drop off)):=rfl
def ixa(x:AV)(size:Nat)(h:Heap):Option Nat->Option (AV×Heap)
 |some j=>ov h (JI x (j*size))
 |none=>none
@[go_sem] theorem aPe(x:AV)(size j:Nat):ixa x size h (some j)=ov h (JI x (j*size)):=rfl
theorem aHS(n size:Nat)(x i:bD):xi C cx env h (.SS n size x i)=ixa (x.ev env) size h (idx (i.ev env) n):=by
 simp only[xi];cases idx (i.ev env) n<;>simp[ixa,YO]
def ixv(size:Nat)(sh:Sh)(h:Heap):AV->Option Nat->Option (AV×Heap)
 |.agg cs,some j=>ov h (shaped sh (cs.drop (j*size)))
 |_,_=>none
@[go_sem] theorem aPf(size:Nat)(sh:Sh)(cs:List AV)(j:Nat):ixv size sh h (.agg cs) (some j)=ov h (shaped sh (cs.drop (j*size))):=rfl
def aok(l:List UInt8)(h:Heap):Option Nat->Option (AV×Heap)
 |some j=>match l[j]? with|some b=>some (.int .u8 b.toNat,h)|none=>none
 |none=>none
def al0(i:AV)(h:Heap):AV->Option (AV×Heap)
 |.str l=>aok l h (idx i l.length)
 |_=>none
@[go_sem] theorem aPg(i:AV)(l:List UInt8):al0 i h (.str l)=aok l h (idx i l.length):=rfl
theorem aHU(x i:bD):xi C cx env h (.Oa x i)=al0 (i.ev env) h (x.ev env):=by
 simp only[xi];cases x.ev env<;>simp[al0];rename_i l
 cases idx (i.ev env) l.length with
 |none=>rfl
 |some j=>simp only[Option.bind_some,aok];cases l[j]?<;>rfl
def mkr(cx:Cx)(s z n:Nat):Option (Nat×Heap)->Option (AV×Heap)
 |some (v,h)=>some (.ref (cx.base+s) v z 0 n n,h)
 |none=>none
@[go_sem] theorem aPh(s z n v:Nat)(h:Heap):mkr cx s z n (some (v,h))=some (.ref (cx.base+s) v z 0 n n,h):=rfl
def mks(cx:Cx)(s z:Nat)(zero:AV)(lim:Nat)(h:Heap):AV->AV->Option (AV×Heap)
 |.int _ a,.int _ b=>if 1000<=s/\a=0/\b=0 then some (.fT z [],h)else if 0<=a/\a<=b/\b<=lim then mkr cx (sOf s) z a.toNat (mK cx (sOf s) (.arr z (List.replicate a.toNat zero)) h)else none
 |_,_=>none
theorem aAi{cx:Cx}{s z:Nat}{zero:AV}{lim:Nat}{h:Heap}{k k':IntKind}{a b:Int}(h0:s<1000)(h1:0<=a)(h2:a<=b)(h3:b<=lim):mks cx s z zero lim h (.int k a) (.int k' b)=mkr cx s z a.toNat (mK cx s (.arr z (List.replicate a.toNat zero)) h):=by
 have hs:sOf s=s:=if_pos h0;simp only[mks];rw[if_neg (by omega),if_pos ⟨h1,h2,h3⟩,hs]
theorem aHV{cx:Cx}{s z:Nat}{zero:AV}{lim:Nat}{h:Heap}{k k':IntKind}(h0:1000<=s):mks cx s z zero lim h (.int k 0) (.int k' 0)=some (.fT z [],h):=by
 simp[mks,h0]
theorem aHW{cx:Cx}{s z:Nat}{zero:AV}{lim:Nat}{h:Heap}{k k':IntKind}{a b:Int}(h0:1000<=s)(h1:0<a)(h2:a<=b)(h3:b<=lim):mks cx s z zero lim h (.int k a) (.int k' b)=mkr cx (s-1000) z a.toNat (mK cx (s-1000) (.arr z (List.replicate a.toNat zero)) h):=by
 have hs:sOf s=s-1000:=if_neg (by omega)
 simp only[mks];rw[if_neg (by omega),if_pos ⟨by omega,h2,h3⟩,hs]
theorem aHX(s z:Nat)(zero:AV)(lim:Nat)(n c:bD):xi C cx env h (.mk s z zero lim n c)=mks cx s z zero lim h (n.ev env) (c.ev env):=by
 simp only[xi];cases n.ev env<;>simp[mks];cases c.ev env<;>simp[mks];rename_i k a k' b;split
 ·rfl
 ·split
  ·cases mK cx (sOf s) (.arr z (List.replicate a.toNat zero)) h<;>rfl
  ·rfl
def apx(cx:Cx)(s z lim:Nat)(x:AV)(h:Heap):Option (List AV)->Option (AV×Heap)
 |some xs=>acK cx s z lim x xs h
 |none=>none
@[go_sem] theorem aPi(s z lim:Nat)(x:AV)(xs:List AV):apx cx s z lim x h (some xs)=if s<1000 then wG cx s z lim x xs h else(wG cx (s-1000) z lim x xs h).bind fun r=>gI cx.base false r.1 r.2:=rfl
theorem aHY(s z lim:Nat)(x y:bD):xi C cx env h (.app s z lim x y)=apx cx s z lim (x.ev env) h (Rf h z (y.ev env)):=by
 simp only[xi];cases Rf h z (y.ev env)<;>rfl
def F9(cx:Cx):List (Nat×Nat)->Option (AV×Heap)->Option (AV×Heap)
 |[],some (r,h)=>some (weak r,h)
 |own,some (.tuple cs,h)=>(Dz cx own cs h).map fun(cs,h)=>(weak (.tuple cs),h)
 |own,some (r,h)=>(Dz cx own [r] h).bind fun(cs,h)=>(cs[0]?).map fun v=>(weak v,h)
 |_,none=>none
@[go_sem] theorem aPj(r:AV)(h:Heap):F9 cx [] (some (r,h))=some (weak r,h):=rfl
@[go_sem] theorem aPk(own:List (Nat×Nat)):F9 cx own none=none:=by cases own<;>rfl
def cl(args:List AV)(own:List (Nat×Nat))(h:Heap):AV->Option (AV×Heap)
 |.fn g caps=>F9 cx own (C.fn (u7 g) (II g args caps) h cx.lo)
 |.lF id ak=>if own=[]then tK C cx id ak args h else none
 |_=>none
@[go_sem] theorem aHZ(args caps:List AV)(own:List (Nat×Nat))(g:Nat):cl C cx args own h (.fn g caps)=F9 cx own (C.fn (u7 g) (II g args caps) h cx.lo):=rfl
@[go_sem] theorem aPl(g:Nat):u7 g=if g<1000 then g else g-1000:=rfl
@[go_sem] theorem aPm(g:Nat)(xs cs:List AV):II g xs cs=if g<1000 then xs++cs else cs++xs:=rfl
@[go_sem] theorem aPn(args:List AV)(id ak:Nat):cl C cx args [] h (.lF id ak)=tK C cx id ak args h:=rfl
def aAk(h h':Heap):AV->Bool
 |.bq i _ _=>Zt h h' i
 |.iE _=>true
 |_=>false
def kck(env:Env)(h:Heap)(ts:List Nat):Option (AV×Heap)->Option (AV×Heap)
 |some q=>if keeps env h q.2 ts=true then some (weak q.1,q.2)else none
 |none=>none
def kl(C:Callee)(cx:Cx)(env:Env)(h:Heap)(ts:List Nat)(args:List AV):AV->Option (AV×Heap)
 |.fn g caps=>kck env h ts (C.fn (u7 g) (II g args caps) h cx.lo)
 |_=>none
@[go_sem] theorem aPo(ts:List Nat)(args caps:List AV)(g:Nat):kl C cx env h ts args (.fn g caps)=kck env h ts (C.fn (u7 g) (II g args caps) h cx.lo):=rfl
@[go_sem] theorem aPp(ts:List Nat)(r:AV)(h':Heap):kck env h ts (some (r,h'))=if keeps env h h' ts=true then some (weak r,h')else none:=rfl
@[go_sem] theorem aPq(h':Heap):keeps env h h' []=true:=rfl
@[go_sem] theorem aPr(h h':Heap)(i ak off:Nat):aAk h h' (.bq i ak off)=Zt h h' i:=rfl
@[go_sem] theorem aPs(h h':Heap)(cs:List AV):aAk h h' (.iE cs)=true:=rfl
theorem aH0(ts:List Nat)(f:bD)(args:List bD):xi C cx env h (.FH ts f args)=kl C cx env h ts (evs env args) (f.ev env):=by
 simp only[xi];cases f.ev env<;>simp[kl];rename_i g caps;cases C.fn (u7 g) (II g (evs env args) caps) h cx.lo<;>rfl
def Tp(C:Callee)(cx:Cx)(args:List AV)(h:Heap):AV->AV->Option (AV×Heap)
 |.bq id _ _,.fn g caps=>if cx.lo<id/\id<cx.base then F9 ⟨cx.lo,id-1,1,none⟩ [(0,0)] (C.fn (u7 g) (II g args caps) h cx.lo)else none
 |_,_=>none
@[go_sem] theorem aH1(args caps:List AV)(g id v o:Nat):Tp C cx args h (.bq id v o) (.fn g caps)=if cx.lo<id/\id<cx.base then F9 ⟨cx.lo,id-1,1,none⟩ [(0,0)] (C.fn (u7 g) (II g args caps) h cx.lo)else none:=rfl
theorem aAl(f:bD)(args:List bD)(own:List (Nat×Nat)):xi C cx env h (.call f args own)=cl C cx (evs env args) own h (f.ev env):=by
 simp only[xi];cases f.ev env<;>simp[cl];rename_i g caps
 cases C.fn (u7 g) (II g (evs env args) caps) h cx.lo with
 |none=>cases own<;>rfl
 |some r =>
  obtain⟨r,h'⟩:=r
  cases own with
  |nil=>rfl
  |cons o own =>
   simp only[Option.bind_some];cases r<;>rfl
theorem aH2(t:Nat)(f:bD)(args:List bD):xi C cx env h (.Rb t f args)=Tp C cx (evs env args) h (env.get t) (f.ev env):=by
 cases ht:env.get t with
 |bq id v o =>
  cases hf:f.ev env with
  |fn g caps=>rw[arA ht hf,aH1,aAl,hf,aHZ]
  |_=>simp only[xi,ht,hf,Tp]
 |_=>simp only[xi,ht,Tp]
end
attribute [go_sem] aHk aHb aHc aHd aHe aHf aHg aHh aHi aHl aHm aHn aHo aHp aHq aHr aHs aHt aHu aHG aHH aH0 aH2 aHI aHJ aHL aHv x_len aHw aHx aHy aHz aHA aHB aHC aHE aHF aHN aHO aHP aHQ aHS aHU aHX aHY aAl
end Go.VI
