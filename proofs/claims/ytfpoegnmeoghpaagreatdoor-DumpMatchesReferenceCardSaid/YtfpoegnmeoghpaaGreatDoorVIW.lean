/- Walking the evaluator by rewriting: one equation for each form of code and of operation. -/
import Derived.Test.YtfpoegnmeoghpaaGreatDoorVIU
set_option linter.unusedVariables false
set_option linter.unusedSimpArgs false
namespace Go.VI
section
variable (L:Lib)(C:Callee)(cx:Cx)
noncomputable def sq (b:XC):Out->Out
 |some (.norm,st)=>aA L cx b st
 |some (e,st)=>some (e,st)
 |none=>none
def rg(keep:List Nat):Option (Env×Heap)->Out
 |some (env,h)=>some (.norm,(env.keep keep,h))
 |none=>none
noncomputable def cd (a b:XC) (env:Env) (h:Heap):AV->Out
 |.bool c=>if c=true then aA L cx a (env,h)else aA L cx b (env,h)
 |_=>none
def bk(id:Nat):Out->Out
 |some (.exit j,st)=>if j=id then some (.norm,st)else some (.exit j,st)
 |r=>r
theorem acW(env:Env)(h:Heap):aA L cx .skip (env,h)=some (.norm,(env,h)):=Zr L cx _
theorem acX(id:Nat)(env:Env)(h:Heap):aA L cx (.exit id) (env,h)=some (.exit id,(env,h)):=Zt L cx _ _
theorem acY(env:Env)(h:Heap):aA L cx .ret (env,h)=some (.ret,(env,h)):=Zu L cx _
theorem acZ(dr:Bool)(keep kill:List Nat)(ops:List bC)(env:Env)(h:Heap) :
  aA L cx (.reg dr keep kill ops) (env,h)=rg keep (fQ (run L) cx ops env (jh cx kill h)):=by
 rw[Zv]
 cases fQ (run L) cx ops env (jh cx kill h) with
 |none=>rfl
 |some r=>rfl
theorem ac0(a b:XC)(env:Env)(h:Heap):aA L cx (.seq a b) (env,h)=sq L cx b (aA L cx a (env,h)):=by
 rw[Zw]
 cases aA L cx a (env,h) with
 |none=>rfl
 |some r =>
  obtain⟨e,st⟩:=r;cases e<;>simp[sq]
theorem ac3(c:aK)(a b:XC)(env:Env)(h:Heap):aA L cx (.cond c a b) (env,h)=cd L cx a b env h (c.ev env):=by
 rw[Zx];cases c.ev env<;>simp[toBool,cd]
theorem ac4(id:Nat)(a:XC)(env:Env)(h:Heap):aA L cx (.blk id a) (env,h)=bk id (aA L cx a (env,h)):=by
 rw[ZA]
 cases aA L cx a (env,h) with
 |none=>rfl
 |some r =>
  obtain⟨e,st⟩:=r;cases e<;>simp[bk,Ex.jy];split<;>simp_all
theorem ac5(keep:List Nat)(a:XC)(env:Env)(h:Heap):aA L cx (.pre keep a) (env,h)=aA L cx a (env.keep keep,h):=Zy L cx _ _ _
noncomputable def TL (t:Nat) (c:XC) (env:Env):Option (AV×Heap)->Out
 |some (v,h)=>aA L cx c (env.set t v,h)
 |none=>none
theorem ac6(t:Nat)(c:XC)(env:Env)(v:AV)(h:Heap):TL L cx t c env (some (v,h))=aA L cx c (env.set t v,h):=rfl
theorem ac7(t:Nat)(a:XC)(env:Env)(h:Heap):aA L cx (.fz t a) (env,h)=TL L cx t a env (aU cx.base false (env.get t) h):=by
 rw[Zz];cases aU cx.base false (env.get t) h<;>rfl
noncomputable def lp (c:XC):Out->Out
 |some (.norm,st)=>aA L cx (.loop c) st
 |some (e,st)=>some (e,st)
 |none=>none
theorem aR(c:XC)(env:Env)(h:Heap):aA L cx (.loop c) (env,h)=lp L cx c (aA L cx c (env,h)):=by
 rw[ZB]
 cases aA L cx c (env,h) with
 |none=>rfl
 |some r =>
  obtain⟨e,st⟩:=r;cases e<;>simp[lp]
@[go_sem] theorem akO(b:XC)(st:St):sq L cx b (some (.norm,st))=aA L cx b st:=rfl
@[go_sem] theorem akP(b:XC)(i:Nat)(st:St):sq L cx b (some (.exit i,st))=some (.exit i,st):=rfl
@[go_sem] theorem akQ(b:XC)(st:St):sq L cx b (some (.ret,st))=some (.ret,st):=rfl
@[go_sem] theorem akR(b:XC):sq L cx b none=none:=rfl
@[go_sem] theorem akS(b:XC)(p:Prop)[Decidable p](x y:Out):sq L cx b (if p then x else y)=if p then sq L cx b x else sq L cx b y:=by split<;>rfl
@[go_sem] theorem akT(keep:List Nat)(env:Env)(h:Heap):rg keep (some (env,h))=some (.norm,(env.keep keep,h)):=rfl
@[go_sem] theorem akU(keep:List Nat):rg keep none=none:=rfl
@[go_sem] theorem akV(keep:List Nat)(p:Prop)[Decidable p](x y:Option (Env×Heap)):rg keep (if p then x else y)=if p then rg keep x else rg keep y:=by split<;>rfl
@[go_sem] theorem akW(a b:XC)(env:Env)(h:Heap)(c:Bool):cd L cx a b env h (.bool c)=if c=true then aA L cx a (env,h)else aA L cx b (env,h):=rfl
@[go_sem] theorem akX(id:Nat)(st:St):bk id (some (.norm,st))=some (.norm,st):=rfl
@[go_sem] theorem akY(id:Nat)(st:St):bk id (some (.ret,st))=some (.ret,st):=rfl
@[go_sem] theorem akZ(id j:Nat)(st:St):bk id (some (.exit j,st))=if j=id then some (.norm,st)else some (.exit j,st):=rfl
@[go_sem] theorem ak0(id:Nat):bk id none=none:=rfl
@[go_sem] theorem ak1(id:Nat)(p:Prop)[Decidable p](x y:Out):bk id (if p then x else y)=if p then bk id x else bk id y:=by split<;>rfl
@[go_sem] theorem ak2(c:XC)(st:St):lp L cx c (some (.norm,st))=aA L cx (.loop c) st:=rfl
@[go_sem] theorem ak3(c:XC)(i:Nat)(st:St):lp L cx c (some (.exit i,st))=some (.exit i,st):=rfl
@[go_sem] theorem ak4(c:XC)(st:St):lp L cx c (some (.ret,st))=some (.ret,st):=rfl
@[go_sem] theorem ak5(c:XC):lp L cx c none=none:=rfl
@[go_sem] theorem ak6(c:XC)(p:Prop)[Decidable p](x y:Out):lp L cx c (if p then x else y)=if p then lp L cx c x else lp L cx c y:=by split<;>rfl
def nx(d:Option Nat)(os:List bC)(env:Env):Option (AV×Heap)->Option (Env×Heap)
 |some (v,h)=>fQ C cx os (env.put d v) h
 |none=>none
def gx(w:Bool)(d:Option Nat)(ck:List dn)(op:XI)(os:List bC)(env:Env)(h:Heap):AV->Option (Env×Heap)
 |.bool b=>if b=w then fQ C cx (⟨d,none,ck,op⟩::os) env h else fQ C cx os (env.put d (.tuple [])) h
 |.tuple []=>fQ C cx os (env.put d (.tuple [])) h
 |_=>none
theorem ac8(env:Env)(h:Heap):fQ C cx [] env h=some (env,h):=rfl
theorem ac9(d:Option Nat)(op:XI)(os:List bC)(env:Env)(h:Heap):fQ C cx (⟨d,none,[],op⟩::os) env h=nx C cx d os env (xi C cx env h op):=by
 simp only[fQ,iA,cO,List.all_nil,if_true]
 cases xi C cx env h op with
 |none=>rfl
 |some r=>rfl
theorem ac'(d:Option Nat)(c:dn)(ck:List dn)(op:XI)(os:List bC)(env:Env)(h:Heap) :
  fQ C cx (⟨d,none,c::ck,op⟩::os) env h=if dn.ok cx env h c=true then fQ C cx (⟨d,none,ck,op⟩::os) env h else none:=by
 simp only[fQ,iA,cO,uw,bg];by_cases h1:dn.ok cx env h c=true
 ·simp[h1]
 ·simp[h1]
theorem ada(d:Option Nat)(g:Nat)(w:Bool)(ck:List dn)(op:XI)(os:List bC)(env:Env)(h:Heap) :
  fQ C cx (⟨d,some (g,w),ck,op⟩::os) env h=gx C cx w d ck op os env h (env.get g):=by
 simp only[fQ,iA,gx]
 cases env.get g with
 |bool b =>
  by_cases hb:b=w
  ·simp[Ba,hb,cO]
  ·simp[Ba,hb,cO]
 |tuple cs=>cases cs<;>simp[Ba]
 |_=>simp[Ba]
@[go_sem] theorem ak7(d:Option Nat)(os:List bC)(env:Env)(v:AV)(h:Heap):nx C cx d os env (some (v,h))=fQ C cx os (env.put d v) h:=rfl
@[go_sem] theorem ak8(d:Option Nat)(os:List bC)(env:Env):nx C cx d os env none=none:=rfl
@[go_sem] theorem ak9(d:Option Nat)(os:List bC)(env:Env)(p:Prop)[Decidable p](x y:Option (AV×Heap)):nx C cx d os env (if p then x else y)=if p then nx C cx d os env x else nx C cx d os env y:=by split<;>rfl
@[go_sem] theorem ak'(w:Bool)(d:Option Nat)(ck:List dn)(op:XI)(os:List bC)(env:Env)(h:Heap)(b:Bool) :
  gx C cx w d ck op os env h (.bool b)=if b=w then fQ C cx (⟨d,none,ck,op⟩::os) env h else fQ C cx os (env.put d (.tuple [])) h:=rfl
@[go_sem] theorem ala(w:Bool)(d:Option Nat)(ck:List dn)(op:XI)(os:List bC)(env:Env)(h:Heap):gx C cx w d ck op os env h (.tuple [])=fQ C cx os (env.put d (.tuple [])) h:=rfl
def ov(h:Heap):Option AV->Option (AV×Heap)
 |some v=>some (v,h)
 |none=>none
@[go_sem] theorem alb(h:Heap)(v:AV):ov h (some v)=some (v,h):=rfl
@[go_sem] theorem alc(h:Heap):ov h none=none:=rfl
@[go_sem] theorem ald(h:Heap)(p:Prop)[Decidable p](x y:Option AV):ov h (if p then x else y)=if p then ov h x else ov h y:=by split<;>rfl
theorem qM(h:Heap)(o:Option AV):(o.map fun v=>(v,h))=ov h o:=by cases o<;>rfl
variable (env:Env)(h:Heap)
theorem adb(x:aK):xi C cx env h (.aL x)=some (x.ev env,h):=rfl
def pk(a b:AV)(h:Heap):AV->Option (AV×Heap)
 |.bool r=>some (if r=true then a else b,h)
 |_=>none
@[go_sem] theorem ale(a b:AV)(r:Bool):pk a b h (.bool r)=some (if r=true then a else b,h):=rfl
theorem ade(c a b:aK):xi C cx env h (.pick c a b)=pk (a.ev env) (b.ev env) h (c.ev env):=by
 simp only[xi];cases c.ev env<;>simp[toBool,pk]
theorem adf(o:BinOp)(x y:aK):xi C cx env h (.bin o x y)=ov h (fI o (x.ev env) (y.ev env)):=qM _ _
theorem adg(o:UnOp)(x:aK):xi C cx env h (.un o x)=ov h (zx o (x.ev env)):=qM _ _
theorem adh(k:IntKind)(x:aK):xi C cx env h (.conv k x)=ov h (Dn k (x.ev env)):=qM _ _
theorem adi(n:Bool)(ks:List Kd)(x y:aK):xi C cx env h (.eqv n ks x y)=ov h (tY n ks (x.ev env) (y.ev env)):=qM _ _
theorem adj(x:aK):xi C cx env h (.nV x)=ov h (rQ (x.ev env)):=qM _ _
theorem x_len(s:Bool)(x:aK):xi C cx env h (.len s x)=ov h (jc s (x.ev env)):=qM _ _
theorem adk(m:Bool)(xs:List aK):xi C cx env h (.lJ m xs)=ov h (vk m (evs env xs)):=qM _ _
theorem adl(x:aK)(i:Nat):xi C cx env h (.ext x i)=ov h (Dp (x.ev env) i):=qM _ _
theorem adm(x:aK)(k:Nat):xi C cx env h (.j6 x k)=ov h (j6 (x.ev env) k):=qM _ _
theorem adn(z:Option Nat)(x:aK)(lo hi:Option aK):xi C cx env h (.slice z x lo hi)=ov h (kg z (x.ev env) (lo.map (·.ev env)) (hi.map (·.ev env))):=qM _ _
theorem ado(zero:List AV)(parts:List (Nat×Nat×aK)):xi C cx env h (.build zero parts)=ov h ((lay env parts zero).map .agg):=by
 simp only[xi];cases lay env parts zero<;>rfl
def TM(z:Nat):Option (List AV×Heap)->Option (AV×Heap)
 |some (es,h)=>some (.aM z es,h)
 |none=>none
@[go_sem] theorem alf(z:Nat)(es:List AV)(h:Heap):TM z (some (es,h))=some (.aM z es,h):=rfl
theorem adp(z:Nat)(zero:AV)(n:Nat)(parts:List (Nat×aK)):xi C cx env h (.bY z zero n parts)=TM z (iV env cx.base z parts (List.replicate n zero) h):=by
 simp only[xi];cases iV env cx.base z parts (List.replicate n zero) h<;>rfl
def TN(z:Nat)(x:AV)(h:Heap):Option Nat->Option (AV×Heap)
 |some j=>some (.di x j 0,h)
 |none=>none
@[go_sem] theorem alg(z:Nat)(x:AV)(j:Nat):TN z x h (some j)=some (.di x j 0,h):=rfl
def bP(z:Nat)(x i:AV):Option Nat:=if fe z x then(iH x).bind fun n=>idx i n else none
theorem adq(z:Nat)(x i:aK):xi C cx env h (.qy z x i)=TN z (x.ev env) h (bP z (x.ev env) (i.ev env)):=by
 simp only[xi,bP];split
 ·cases iH (x.ev env) with
  |none=>rfl
  |some n=>simp only[Option.bind_some];cases idx (i.ev env) n<;>rfl
 ·rfl
theorem adr{z:Nat}{x i:AV}{n j:Nat}(h1:fe z x=true)(h2:iH x=some n)(h3:idx i n=some j):bP z x i=some j:=by simp[bP,h1,h2,h3]
def Lh(h:Heap)(sh:Sh):Option (List AV)->Option (AV×Heap)
 |some cs=>ov h (shaped sh cs)
 |none=>none
@[go_sem] theorem alh(sh:Sh)(cs:List AV):Lh h sh (some cs)=ov h (shaped sh cs):=rfl
theorem ads(sh:Sh)(x:aK):xi C cx env h (.load sh x)=Lh h sh (eD h (x.ev env)):=by
 simp only[xi]
 cases eD h (x.ev env) with
 |none=>rfl
 |some cs=>simp only[Option.bind_some,Lh,qM]
def TP:Option Heap->Option (AV×Heap)
 |some h=>some (.undef,h)
 |none=>none
@[go_sem] theorem ali(h:Heap):TP (some h)=some (.undef,h):=rfl
theorem adt(sz:Nat)(x v:aK):xi C cx env h (.store sz x v)=TP (dK cx h sz (x.ev env) (v.ev env)):=by
 simp only[xi];cases dK cx h sz (x.ev env) (v.ev env)<;>rfl
def bx(cx:Cx)(s:Nat):Option (Nat×Heap)->Option (AV×Heap)
 |some (v,h)=>some (.aJ (cx.base+s) v 0,h)
 |none=>none
@[go_sem] theorem alj(s v:Nat)(h:Heap):bx cx s (some (v,h))=some (.aJ (cx.base+s) v 0,h):=rfl
theorem adu(f:Nat)(x:aK):xi C cx env h (.rO f x)=ov h (wM cx (x.ev env) h):=qM _ _
theorem adv(s f:Nat)(x y:aK):xi C cx env h (.rM s f x y)=rR cx s (x.ev env) (y.ev env) h:=rfl
def tsv(h:Heap):Option (List AV)->Option (AV×Heap)
 |some es=>ov h ((bytesOf es).map .str)
 |none=>none
@[go_sem] theorem alk(es:List AV):tsv h (some es)=ov h ((bytesOf es).map .str):=rfl
theorem adw(x:aK):xi C cx env h (.rP x)=tsv h (jv h 1 (x.ev env)):=by
 simp only[xi]
 cases jv h 1 (x.ev env) with
 |none=>rfl
 |some es=>simp only[Option.bind_some,tsv];cases bytesOf es<;>rfl
theorem adx(t:Nat)(x:aK):xi C cx env h (.tV t x)=if (x.ev env).closed=true/\(x.ev env).val=true then some (.eZ t (x.ev env),h)else none:=rfl
def ady(cx:Cx)(s:Nat):Option (Nat×Heap)->Option (AV×Heap)
 |some (v,h)=>some (.cZ (cx.base+s) v,h)
 |none=>none
@[go_sem] theorem alm(s v:Nat)(h:Heap):ady cx s (some (v,h))=some (.cZ (cx.base+s) v,h):=rfl
def TQ(cx:Cx)(s:Nat):Option (Nat×Heap)->Option (AV×Heap)
 |some (v,h)=>some (.cZ (cx.base+s) v,h.set (cx.base+s) (v,.ay (bQ.at (cx.base+s) (.cu (cx.base+s) v none)) (.cK (.cu (cx.base+s) v none))))
 |none=>none
@[go_sem] theorem aln(s v:Nat)(h:Heap):TQ cx s (some (v,h))=some (.cZ (cx.base+s) v,h.set (cx.base+s) (v,.ay (bQ.at (cx.base+s) (.cu (cx.base+s) v none)) (.cK (.cu (cx.base+s) v none)))):=rfl
theorem adz(s:Nat):xi C cx env h (.tT s)=TQ cx s (bV cx s (.ay (bQ.at (cx.base+s) (.cu (cx.base+s) 0 none)) (.cK (.cu (cx.base+s) 0 none))) h):=by
 simp only[xi];cases bV cx s (.ay (bQ.at (cx.base+s) (.cu (cx.base+s) 0 none)) (.cK (.cu (cx.base+s) 0 none))) h<;>rfl
def stu:Option Heap->Option (AV×Heap)
 |some h=>some (.tuple [],h)
 |none=>none
@[go_sem] theorem alo(h:Heap):stu (some h)=some (.tuple [],h):=rfl
theorem adB(s:Nat)(zero:List AV):xi C cx env h (.alloc s zero)=bx cx s (bV cx s (.box zero) h):=by
 simp only[xi];cases bV cx s (.box zero) h<;>rfl
theorem adC(s:Nat)(x:aK):xi C cx env h (.box s x)=if (x.ev env).val=true then bx cx s (bV cx s (.box (x.ev env).cells) h)else none:=by
 simp only[xi];split
 ·cases bV cx s (.box (x.ev env).cells) h<;>rfl
 ·rfl
def TR:Option (AV×Heap)->Option (AV×Heap)
 |some (v,h)=>some (.bD v.cells,h)
 |none=>none
@[go_sem] theorem alp(v:AV)(h:Heap):TR (some (v,h))=some (.bD v.cells,h):=rfl
theorem adD(x:aK):xi C cx env h (.bS x)=if (x.ev env).val=true then TR (aU cx.base false (x.ev env) h)else none:=by
 simp only[xi];split
 ·cases aU cx.base false (x.ev env) h<;>rfl
 ·rfl
theorem adE(f:Nat)(caps:List aK):xi C cx env h (.l7 f caps)=some (.fn f (evs env caps),h):=rfl
def adF(h:Heap)(off:Nat)(sh:Sh):AV->Option (AV×Heap)
 |.agg cs=>ov h (shaped sh (cs.drop off))
 |_=>none
@[go_sem] theorem alq(off:Nat)(sh:Sh)(cs:List AV):adF h off sh (.agg cs)=ov h (shaped sh (cs.drop off)):=rfl
def Li(x:AV)(size:Nat)(h:Heap):Option Nat->Option (AV×Heap)
 |some j=>ov h (j6 x (j*size))
 |none=>none
@[go_sem] theorem alr(x:AV)(size j:Nat):Li x size h (some j)=ov h (j6 x (j*size)):=rfl
theorem adG(n size:Nat)(x i:aK):xi C cx env h (.ng n size x i)=Li (x.ev env) size h (idx (i.ev env) n):=by
 simp only[xi];cases idx (i.ev env) n<;>simp[Li,qM]
def ixv(size:Nat)(sh:Sh)(h:Heap):AV->Option Nat->Option (AV×Heap)
 |.agg cs,some j=>ov h (shaped sh (cs.drop (j*size)))
 |_,_=>none
@[go_sem] theorem als(size:Nat)(sh:Sh)(cs:List AV)(j:Nat):ixv size sh h (.agg cs) (some j)=ov h (shaped sh (cs.drop (j*size))):=rfl
def Eo(l:List UInt8)(h:Heap):Option Nat->Option (AV×Heap)
 |some j=>match l[j]? with|some b=>some (.int .u8 b.toNat,h)|none=>none
 |none=>none
def zT(i:AV)(h:Heap):AV->Option (AV×Heap)
 |.str l=>Eo l h (idx i l.length)
 |_=>none
@[go_sem] theorem alu(i:AV)(l:List UInt8):zT i h (.str l)=Eo l h (idx i l.length):=rfl
theorem adI(x i:aK):xi C cx env h (.mK x i)=zT (i.ev env) h (x.ev env):=by
 simp only[xi];cases x.ev env<;>simp[zT];rename_i l
 cases idx (i.ev env) l.length with
 |none=>rfl
 |some j=>simp only[Option.bind_some,Eo];cases l[j]?<;>rfl
def zU(cx:Cx)(s z n:Nat):Option (Nat×Heap)->Option (AV×Heap)
 |some (v,h)=>some (.ref (cx.base+s) v z 0 n n,h)
 |none=>none
@[go_sem] theorem alv(s z n v:Nat)(h:Heap):zU cx s z n (some (v,h))=some (.ref (cx.base+s) v z 0 n n,h):=rfl
def yF(cx:Cx)(s z:Nat)(zero:AV)(lim:Nat)(h:Heap):AV->AV->Option (AV×Heap)
 |.int _ a,.int _ b=>if 1000<=s/\a=0/\b=0 then some (.aM z [],h)else if 0<=a/\a<=b/\b<=lim then zU cx (wN s) z a.toNat (bV cx (wN s) (.arr z (List.replicate a.toNat zero)) h)else none
 |_,_=>none
theorem Lj{cx:Cx}{s z:Nat}{zero:AV}{lim:Nat}{h:Heap}{k k':IntKind}{a b:Int}(h0:s<1000)(h1:0<=a)(h2:a<=b)(h3:b<=lim):yF cx s z zero lim h (.int k a) (.int k' b)=zU cx s z a.toNat (bV cx s (.arr z (List.replicate a.toNat zero)) h):=by
 have hs:wN s=s:=if_pos h0;simp only[yF];rw[if_neg (by omega),if_pos ⟨h1,h2,h3⟩,hs]
theorem adJ{cx:Cx}{s z:Nat}{zero:AV}{lim:Nat}{h:Heap}{k k':IntKind}(h0:1000<=s):yF cx s z zero lim h (.int k 0) (.int k' 0)=some (.aM z [],h):=by
 simp[yF,h0]
theorem adK{cx:Cx}{s z:Nat}{zero:AV}{lim:Nat}{h:Heap}{k k':IntKind}{a b:Int}(h0:1000<=s)(h1:0<a)(h2:a<=b)(h3:b<=lim):yF cx s z zero lim h (.int k a) (.int k' b)=zU cx (s-1000) z a.toNat (bV cx (s-1000) (.arr z (List.replicate a.toNat zero)) h):=by
 have hs:wN s=s-1000:=if_neg (by omega)
 simp only[yF];rw[if_neg (by omega),if_pos ⟨by omega,h2,h3⟩,hs]
theorem adL(s z:Nat)(zero:AV)(lim:Nat)(n c:aK):xi C cx env h (.mk s z zero lim n c)=yF cx s z zero lim h (n.ev env) (c.ev env):=by
 simp only[xi];cases n.ev env<;>simp[yF];cases c.ev env<;>simp;rename_i k a k' b;split
 ·rfl
 ·split
  ·cases bV cx (wN s) (.arr z (List.replicate a.toNat zero)) h<;>rfl
  ·rfl
def TS(cx:Cx)(s z lim:Nat)(x:AV)(h:Heap):Option (List AV)->Option (AV×Heap)
 |some xs=>xY cx s z lim x xs h
 |none=>none
@[go_sem] theorem alx(s z lim:Nat)(x:AV)(xs:List AV):TS cx s z lim x h (some xs)=if s<1000 then dP cx s z lim x xs h else(dP cx (s-1000) z lim x xs h).bind fun r=>aU cx.base false r.1 r.2:=rfl
theorem adM(s z lim:Nat)(x y:aK):xi C cx env h (.app s z lim x y)=TS cx s z lim (x.ev env) h (kL h z (y.ev env)):=by
 simp only[xi];cases kL h z (y.ev env)<;>rfl
def iZ(cx:Cx):List (Nat×Nat)->Option (AV×Heap)->Option (AV×Heap)
 |[],some (r,h)=>some (weak r,h)
 |own,some (.tuple cs,h)=>(iN cx own cs h).map fun(cs,h)=>(weak (.tuple cs),h)
 |own,some (r,h)=>(iN cx own [r] h).bind fun(cs,h)=>(cs[0]?).map fun v=>(weak v,h)
 |_,none=>none
@[go_sem] theorem aly(r:AV)(h:Heap):iZ cx [] (some (r,h))=some (weak r,h):=rfl
@[go_sem] theorem alz(own:List (Nat×Nat)):iZ cx own none=none:=by cases own<;>rfl
def cl(args:List AV)(own:List (Nat×Nat))(h:Heap):AV->Option (AV×Heap)
 |.fn g caps=>iZ cx own (C.fn (iq g) (pE g args caps) h cx.lo)
 |.cZ id aj=>if own=[]then fF C cx id aj args h else none
 |_=>none
@[go_sem] theorem alA(args caps:List AV)(own:List (Nat×Nat))(g:Nat):cl C cx args own h (.fn g caps)=iZ cx own (C.fn (iq g) (pE g args caps) h cx.lo):=rfl
@[go_sem] theorem alB(g:Nat):iq g=if g<1000 then g else g-1000:=rfl
@[go_sem] theorem alD(g:Nat)(xs cs:List AV):pE g xs cs=if g<1000 then xs++cs else cs++xs:=rfl
@[go_sem] theorem alE(args:List AV)(id aj:Nat):cl C cx args [] h (.cZ id aj)=fF C cx id aj args h:=rfl
theorem adN(f:aK)(args:List aK)(own:List (Nat×Nat)):xi C cx env h (.call f args own)=cl C cx (evs env args) own h (f.ev env):=by
 simp only[xi];cases f.ev env<;>simp[cl];rename_i g caps
 cases C.fn (iq g) (pE g (evs env args) caps) h cx.lo with
 |none=>cases own<;>rfl
 |some r =>
  obtain⟨r,h'⟩:=r
  cases own with
  |nil=>rfl
  |cons o own =>
   simp only[Option.bind_some];cases r<;>rfl
end
attribute [go_sem] ac7 ac6 acW acX acY acZ ac0 ac3 ac4 ac5 ac8 ac9 ac' ada adb ade adf adg adh adi adu adv adw adx adz adj x_len adk adl adm adn ado adp adq ads adt adB adC adD adE adG adI adL adM adN
end Go.VI
