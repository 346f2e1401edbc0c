/- More rounds give the same answer; what a call computes with as many rounds as it wants, and the equations by which it is reckoned. -/
import Derived.Test.YtfpoegnmeoghpaaGreatDoorVIA
set_option linter.unusedVariables false
set_option linter.unusedSimpArgs false
namespace Go.VI
def Le{α:Type}(a b:Option α):Prop:=∀ r,a=some r->b=some r
theorem Le.refl{α:Type}(a:Option α):Le a a:=fun _ h=>h
theorem Le.bind{α β:Type}{a b:Option α}{f g:α->Option β}(h:Le a b)(hf:∀ x,Le (f x) (g x)):Le (a.bind f) (b.bind g):=by
 intro r hr
 cases ha:a with
 |none=>rw[ha]at hr;simp at hr
 |some x=>rw[ha]at hr;rw[h x ha];exact hf x r hr
theorem Le.map{α β:Type}{a b:Option α}(f:α->β)(h:Le a b):Le (a.map f) (b.map f):=by
 intro r hr
 cases ha:a with
 |none=>rw[ha]at hr;simp at hr
 |some x=>rw[ha]at hr;rw[h x ha];exact hr
structure nY(c c':Callee):Prop where
 fn:∀ f as h lo,Le (c.fn f as h lo) (c'.fn f as h lo)
 rd:∀ d id aj as h,Le (c.rd d id aj as h) (c'.rd d id aj as h)
theorem Zl{c c':Callee}(hc:nY c c')(cx:Cx)(id aj:Nat)(args:List AV)(h:Heap):Le (fF c cx id aj args h) (fF c' cx id aj args h):=by
 unfold fF;split
 ·split
  ·exact Le.map _ (hc.rd _ _ _ _ _)
  ·exact Le.refl _
 ·exact Le.refl _
theorem Zm{c c':Callee}(hc:nY c c')(cx:Cx)(env:Env)(h:Heap)(o:XI):Le (xi c cx env h o) (xi c' cx env h o):=by
 cases o with
 |call f args own =>
  simp only[xi];split
  ·exact Le.bind (hc.fn _ _ _ _) fun x=>Le.refl _
  ·split
   ·exact Zl hc _ _ _ _ _
   ·exact Le.refl _
  ·exact Le.refl _
 |_=>exact Le.refl _
theorem P6{c c':Callee}(hc:nY c c')(cx:Cx)(env:Env)(h:Heap)(o:bC):Le (cO c cx env h o) (cO c' cx env h o):=by
 unfold cO;split
 ·exact Zm hc _ _ _ _
 ·exact Le.refl _
theorem P7{c c':Callee}(hc:nY c c')(cx:Cx)(o:bC)(env:Env)(h:Heap):Le (iA c cx o env h) (iA c' cx o env h):=by
 unfold iA;split
 ·exact Le.map _ (P6 hc _ _ _ _)
 ·refine Le.bind (Le.refl _) fun b=>?_;split
  ·exact Le.map _ (P6 hc _ _ _ _)
  ·exact Le.refl _
theorem J5{c c':Callee}(hc:nY c c')(cx:Cx)(os:List bC):∀(env:Env) (h:Heap),Le (fQ c cx os env h) (fQ c' cx os env h):=by
 induction os with
 |nil=>intro env h;exact Le.refl _
 |cons o os ih=>intro env h;exact Le.bind (P7 hc _ _ _ _) fun x=>ih _ _
theorem Gf{b b':St->Out}(hb:∀ st,Le (b st) (b' st)):∀(n n':Nat),n<=n'->∀ st,Le (iter b n st) (iter b' n' st)
 |0,_,_,_=>fun r h=>by simp[iter]at h
 |n+1,0,h,_=>absurd h (by omega)
 |n+1,n'+1,h,st=>by
  unfold iter;refine Le.bind (hb st) fun x=>?_;obtain⟨e,st⟩:=x;dsimp only;split
  ·exact Gf hb n n' (by omega) _
  ·exact Le.refl _
theorem uf{c c':Callee}(hc:nY c c')(cx:Cx)(n n':Nat)(hn:n<=n')(x:XC):∀ st,Le (exec c cx n x st) (exec c' cx n' x st):=by
 induction x with
 |skip|exit|ret=>intro st;exact Le.refl _
 |reg draw keep kill ops=>intro⟨env,h⟩;exact Le.map _ (J5 hc _ _ _ _)
 |seq a b iha ihb =>
  intro st;refine Le.bind (iha st) fun x=>?_;obtain⟨e,st⟩:=x;dsimp only;split
  ·exact ihb _
  ·exact Le.refl _
 |cond x a b iha ihb =>
  intro st;refine Le.bind (Le.refl _) fun r=>?_;split
  ·exact iha _
  ·exact ihb _
 |blk id a ih=>intro st;exact Le.map _ (ih st)
 |loop a ih=>intro st;exact Gf ih _ _ hn _
 |jG s f g =>
  intro⟨env,h⟩;simp only[exec];split
  ·exact Le.bind (Le.refl _) fun x=>Le.bind (hc.fn _ _ _ _) fun y=>Le.refl _
  ·exact Le.refl _
 |pre ps a ih=>intro st;exact ih _
 |fz t a ih=>intro st;exact Le.bind (Le.refl _) fun x=>ih _
theorem P8{x:aW}{b b':Cx->XC->St->Out}(hb:∀ cx c st,Le (b cx c st) (b' cx c st))(args:List AV)(h:Heap)(lo:Nat):Le (enter x b args h lo) (enter x b' args h lo):=by
 unfold enter;split
 ·exact Le.bind (hb _ _ _) fun x=>Le.refl _
 ·exact Le.refl _
theorem P9{x:aW}{b b':Cx->XC->St->Out}(hb:∀ cx c st,Le (b cx c st) (b' cx c st))(w:Bool)(args:List AV)(h:Heap)(lo:Nat):Le (lM x b w args h lo) (lM x b' w args h lo):=by
 unfold lM;split
 ·exact Le.bind (Le.refl _) fun as=>Le.bind (P8 hb _ _ _) fun r=>Le.refl _
 ·exact P8 hb _ _ _
theorem Qa{x:iR}{b b':Cx->XC->St->Out}(hb:∀ cx c st,Le (b cx c st) (b' cx c st))(d:bQ)(id aj:Nat)(args:List AV)(h:Heap):Le (round x b d id aj args h) (round x b' d id aj args h):=by
 unfold round;split
 ·refine Le.bind (hb _ _ _) fun q=>?_;dsimp only;split
  ·split
   ·split
    ·exact Le.bind (hb _ _ _) fun y=>Le.refl _
    ·exact Le.refl _
   ·exact Le.refl _
  ·exact Le.refl _
 ·exact Le.refl _
theorem J6(L:Lib):∀ n,nY (ex L n) (ex L (n+1))
 |0=>⟨fun _ _ _ _ r h=>by simp[ex]at h,fun _ _ _ _ _ r h=>by simp[ex]at h⟩
 | n+1=>⟨fun f as h lo=>by
   show Le (match L.jS f as h with|some r=>some (r,h)|none=>_) (match L.jS f as h with|some r=>some (r,h)|none=>_)
   cases L.jS f as h with
   |some r=>exact Le.refl _
   |none=>exact Le.bind (Le.refl _) fun x=>P9 (fun cx c st=>uf (J6 L n) cx n (n+1) (by omega) c st) _ _ _ _,
  fun d id aj as h=>Le.bind (Le.refl _) fun x=>Qa (fun cx c st=>uf (J6 L n) cx n (n+1) (by omega) c st) _ _ _ _ _⟩
theorem nY.refl(c:Callee):nY c c:=⟨fun _ _ _ _=>Le.refl _,fun _ _ _ _ _=>Le.refl _⟩
theorem nY.trans{a b c:Callee}(h:nY a b)(k:nY b c):nY a c:=⟨fun f as h' lo r hr=>k.fn f as h' lo r (h.fn f as h' lo r hr),fun d id aj as h' r hr=>k.rd d id aj as h' r (h.rd d id aj as h' r hr)⟩
theorem qD(L:Lib){n n':Nat}(h:n<=n'):nY (ex L n) (ex L n'):=by
 induction h with
 |refl=>exact nY.refl _
 |step _ ih=>exact ih.trans (J6 L _)
open Classical in
noncomputable def lim {α:Type} (f:Nat->Option α):Option α :=
 if h:∃ n,(f n).isSome then f (Classical.choose h)else none
theorem J7{α:Type}{f:Nat->Option α}(hm:∀ n n',n<=n'->Le (f n) (f n'))(r:α):lim f=some r↔∃ n,f n=some r:=by
 unfold lim;constructor
 ·intro h;split at h
  ·exact⟨_,h⟩
  ·simp at h
 ·rintro⟨n,hn⟩;have hs:∃ n,(f n).isSome:=⟨n,by simp[hn]⟩
  rw[dif_pos hs];obtain⟨q,hq⟩:=yc.mp (Classical.choose_spec hs);rcases Nat.le_total n (Classical.choose hs)with h|h
  ·exact hm _ _ h r hn
  ·have:=hm _ _ h q hq;rw[hn]at this;rw[hq,<-this]
noncomputable def run (L:Lib):Callee where
 fn:=fun f as h lo=>lim fun n=>(ex L n).fn f as h lo
 rd:=fun d id aj as h=>lim fun n=>(ex L n).rd d id aj as h
noncomputable def aA (L:Lib) (cx:Cx) (c:XC) (st:St):Out:=lim fun n=>exec (ex L n) cx n c st
theorem vo{α:Type}{a b:Option α}(h:∀ r,a=some r↔b=some r):a=b:=by
 cases ha:a with
 |none =>
  cases hb:b with
  |none=>rfl
  |some r=>have:=(h r).mpr hb;rw[ha]at this;exact this
 |some r=>exact((h r).mp ha).symm
section
variable (L:Lib)
theorem kM{f:Nat}{as:List AV}{h:Heap}{lo:Nat}{r:AV×Heap}:(run L).fn f as h lo=some r↔∃ n,(ex L n).fn f as h lo=some r :=
 J7 (fun _ _ hn=>(qD L hn).fn f as h lo) r
theorem J8{d:bQ}{id aj:Nat}{as:List AV}{h:Heap}{r:Ex×Heap}:(run L).rd d id aj as h=some r↔∃ n,(ex L n).rd d id aj as h=some r :=
 J7 (fun _ _ hn=>(qD L hn).rd d id aj as h) r
theorem iI{cx:Cx}{c:XC}{st:St}{r:Ex×St}:aA L cx c st=some r↔∃ n,exec (ex L n) cx n c st=some r :=
 J7 (fun _ _ hn=>uf (qD L hn) cx _ _ hn c st) r
theorem Qb(n:Nat):nY (ex L n) (run L):=⟨fun f as h lo r hr=>(kM L).mpr ⟨n,hr⟩,fun d id aj as h r hr=>(J8 L).mpr ⟨n,hr⟩⟩
theorem Zn(cx:Cx)(id aj:Nat)(args:List AV)(h:Heap)(r:AV×Heap)(hr:fF (run L) cx id aj args h=some r):∃ n,fF (ex L n) cx id aj args h=some r:=by
 unfold fF at hr;split at hr
 ·rename_i v d hid;split at hr
  ·rename_i hc
   cases hq:(run L).rd d id aj args h with
   |none=>rw[hq]at hr;simp at hr
   |some x =>
    obtain⟨n,hn⟩:=(J8 L).mp hq;refine⟨n, ?_⟩;unfold fF;rw[hid];dsimp only;rw[if_pos hc,hn];rw[hq]at hr;exact hr
  ·simp at hr
 ·simp at hr
theorem Zo(cx:Cx)(env:Env)(h:Heap)(o:XI)(r:AV×Heap)(hr:xi (run L) cx env h o=some r):∃ n,xi (ex L n) cx env h o=some r:=by
 cases o with
 |call f args own =>
  simp only[xi]at hr;split at hr
  ·rename_i g caps hg
   cases hc:(run L).fn (iq g) (pE g (evs env args) caps) h cx.lo with
   |none=>rw[hc]at hr;simp at hr
   |some x =>
    obtain⟨n,hn⟩:=(kM L).mp hc;refine⟨n, ?_⟩;rw[hc]at hr;simp only[xi,hg,hn];exact hr
  ·rename_i id aj hg;split at hr
   ·rename_i ho;obtain⟨n,hn⟩:=Zn L _ _ _ _ _ _ hr;exact⟨n,by simp only[xi,hg,if_pos ho];exact hn⟩
   ·simp at hr
  ·simp at hr
 |_=>exact⟨0,hr⟩
theorem Qc(cx:Cx)(env:Env)(h:Heap)(o:bC)(r:AV×Heap)(hr:cO (run L) cx env h o=some r):∃ n,cO (ex L n) cx env h o=some r:=by
 unfold cO at hr;split at hr
 ·rename_i hc;obtain⟨n,hn⟩:=Zo L _ _ _ _ _ hr;exact⟨n,by unfold cO;rw[if_pos hc];exact hn⟩
 ·cases hr
theorem Zp(cx:Cx)(o:bC)(env:Env)(h:Heap)(r:Env×Heap)(hr:iA (run L) cx o env h=some r):∃ n,iA (ex L n) cx o env h=some r:=by
 unfold iA at hr⊢;split at hr
 ·rename_i hg;obtain⟨q,hq,rfl⟩:=mE.mp hr;obtain⟨n,hn⟩:=Qc L _ _ _ _ _ hq;exact⟨n,by simp[hn]⟩
 ·rename_i g want hg;obtain⟨b,hb,hr⟩:=bE.mp hr;split at hr
  ·obtain⟨q,hq,rfl⟩:=mE.mp hr;obtain⟨n,hn⟩:=Qc L _ _ _ _ _ hq;exact⟨n,by simp_all⟩
  ·exact⟨0,by simp_all⟩
theorem Zq(cx:Cx)(os:List bC):∀(env:Env) (h:Heap) (r:Env×Heap),fQ (run L) cx os env h=some r->∃ n,fQ (ex L n) cx os env h=some r:=by
 induction os with
 |nil=>intro env h r hr;exact⟨0,hr⟩
 |cons o os ih =>
  intro env h r hr;obtain⟨⟨jT,h1⟩,hq,hr⟩:=bE.mp hr;obtain⟨n,hn⟩:=Zp L _ _ _ _ _ hq;obtain⟨k,hk⟩:=ih _ _ _ hr;refine⟨max n k,bE.mpr ⟨_,P7 (qD L (Nat.le_max_left n k)) _ _ _ _ _ hn, ?_⟩⟩;exact J5 (qD L (Nat.le_max_right n k)) _ _ _ _ _ hk
theorem Zr(cx:Cx)(st:St):aA L cx .skip st=some (.norm,st):=(iI L).mpr ⟨0,rfl⟩
theorem Zt(cx:Cx)(id:Nat)(st:St):aA L cx (.exit id) st=some (.exit id,st):=(iI L).mpr ⟨0,rfl⟩
theorem Zu(cx:Cx)(st:St):aA L cx .ret st=some (.ret,st):=(iI L).mpr ⟨0,rfl⟩
theorem Zv(cx:Cx)(draw:Bool)(keep kill:List Nat)(ops:List bC)(env:Env)(h:Heap) :
  aA L cx (.reg draw keep kill ops) (env,h)=(fQ (run L) cx ops env (jh cx kill h)).map fun(env,h)=>(.norm,(env.keep keep,h)):=by
 refine vo fun r=>?_;rw[iI];constructor
 ·rintro⟨n,hn⟩;exact Le.map _ (J5 (Qb L n) _ _ _ _) _ hn
 ·intro hr;obtain⟨q,hq,rfl⟩:=mE.mp hr;obtain⟨n,hn⟩:=Zq L _ _ _ _ _ hq;exact⟨n,by simp[exec,hn]⟩
theorem Zw(cx:Cx)(a b:XC)(st:St) :
  aA L cx (.seq a b) st=(aA L cx a st).bind fun(e,st)=>if e=.norm then aA L cx b st else some (e,st):=by
 refine vo fun r=>?_;rw[iI];constructor
 ·rintro⟨n,hn⟩;obtain⟨⟨e,st1⟩,h1,h2⟩:=bE.mp hn;refine bE.mpr ⟨_,(iI L).mpr ⟨n,h1⟩, ?_⟩;dsimp only at h2⊢;split at h2
  ·rw[if_pos (by assumption)];exact(iI L).mpr ⟨n,h2⟩
  ·rw[if_neg (by assumption)];exact h2
 ·intro hr;obtain⟨⟨e,st1⟩,h1,h2⟩:=bE.mp hr;obtain⟨n,hn⟩:=(iI L).mp h1;dsimp only at h2;split at h2
  ·rename_i he;obtain⟨k,hk⟩:=(iI L).mp h2;refine⟨max n k,bE.mpr ⟨_,uf (qD L (Nat.le_max_left n k)) cx _ _ (Nat.le_max_left n k) a _ _ hn, ?_⟩⟩;dsimp only;rw[if_pos he];exact uf (qD L (Nat.le_max_right n k)) cx _ _ (Nat.le_max_right n k) b _ _ hk
  ·rename_i he;refine⟨n,bE.mpr ⟨_,hn, ?_⟩⟩;dsimp only;rw[if_neg he];exact h2
theorem Zx(cx:Cx)(c:aK)(a b:XC)(st:St) :
  aA L cx (.cond c a b) st=(toBool (c.ev st.1)).bind fun r=>if r then aA L cx a st else aA L cx b st:=by
 refine vo fun r=>?_;rw[iI]
 cases hb:toBool (c.ev st.1) with
 |none=>simp[exec,hb]
 |some q =>
  cases q with
  |true=>simp only[exec,hb,Option.bind_some,if_true];exact(iI L).symm
  |false=>simp only[exec,hb,Option.bind_some,fJ,if_false];exact(iI L).symm
theorem Zy(cx:Cx)(ps:List Nat)(c:XC)(st:St):aA L cx (.pre ps c) st=aA L cx c (st.1.keep ps,st.2):=by
 refine vo fun r=>?_;rw[iI,iI];exact Iff.rfl
theorem Zz(cx:Cx)(t:Nat)(c:XC)(st:St):aA L cx (.fz t c) st=(aU cx.base false (st.1.get t) st.2).bind fun r=>aA L cx c (st.1.set t r.1,r.2):=by
 refine vo fun r=>?_;rw[iI]
 cases hf:aU cx.base false (st.1.get t) st.2 with
 |none=>simp[exec,hf]
 |some q=>simp only[exec,hf,Option.bind_some];exact(iI L).symm
theorem ZA(cx:Cx)(id:Nat)(c:XC)(st:St):aA L cx (.blk id c) st=(aA L cx c st).map (Ex.jy id):=by
 refine vo fun r=>?_;rw[iI];constructor
 ·rintro⟨n,hn⟩;obtain⟨q,hq,rfl⟩:=mE.mp hn;exact mE.mpr ⟨q,(iI L).mpr ⟨n,hq⟩,rfl⟩
 ·intro hr;obtain⟨q,hq,rfl⟩:=mE.mp hr;obtain⟨n,hn⟩:=(iI L).mp hq;exact⟨n,mE.mpr ⟨q,hn,rfl⟩⟩
theorem ZB(cx:Cx)(c:XC)(st:St) :
  aA L cx (.loop c) st=(aA L cx c st).bind fun(e,st)=>if e=.norm then aA L cx (.loop c) st else some (e,st):=by
 refine vo fun r=>?_;constructor
 ·intro h;obtain⟨n,hn⟩:=(iI L).mp h
  cases n with
  |zero=>simp[exec,iter]at hn
  |succ n =>
   obtain⟨⟨e,st1⟩,h1,h2⟩:=bE.mp hn;refine bE.mpr ⟨_,(iI L).mpr ⟨n+1,h1⟩, ?_⟩;dsimp only at h2⊢;split at h2
   ·rw[if_pos (by assumption)]
    refine(iI L).mpr ⟨n+1, ?_⟩;exact Gf (fun st=>Le.refl _) n (n+1) (by omega) _ _ h2
   ·rw[if_neg (by assumption)];exact h2
 ·intro h;obtain⟨⟨e,st1⟩,h1,h2⟩:=bE.mp h;obtain⟨n,hn⟩:=(iI L).mp h1;dsimp only at h2;split at h2
  ·rename_i he;obtain⟨k,hk⟩:=(iI L).mp h2;refine(iI L).mpr ⟨max n k+1,bE.mpr ⟨_,uf (qD L (by omega)) cx n (max n k+1) (by omega) c _ _ hn, ?_⟩⟩
   dsimp only;rw[if_pos he];have:=uf (qD L (show k<=max n k+1 by omega)) cx k (max n k) (by omega) c
   exact Gf (fun st=>uf (qD L (show k<=max n k+1 by omega)) cx k (max n k+1) (by omega) c st) k (max n k) (by omega) _ _ hk
  ·rename_i he;refine(iI L).mpr ⟨n+1,bE.mpr ⟨_,uf (qD L (by omega)) cx n (n+1) (by omega) c _ _ hn, ?_⟩⟩
   dsimp only;rw[if_neg he];exact h2
theorem Qd(cx:Cx)(s:Nat)(f:aK)(g:Nat)(env:Env)(h:Heap) :
  aA L cx (.jG s f g) (env,h)=exec (run L) cx 0 (.jG s f g) (env,h):=by
 refine vo fun r=>?_;rw[iI];constructor
 ·rintro⟨n,hn⟩;simp only[exec]at hn⊢;split at hn
  ·exact Le.bind (Le.refl _) (fun x=>Le.bind ((Qb L n).fn _ _ _ _) fun y=>Le.refl _) _ hn
  ·simp at hn
 ·intro hr;simp only[exec]at hr;split at hr
  ·rename_i it caps hf hrn;obtain⟨⟨aj,h1⟩,h2,hr⟩:=bE.mp hr;obtain⟨⟨v,h3⟩,h4,hr⟩:=bE.mp hr;obtain⟨n,hn⟩:=(kM L).mp h4;refine⟨n, ?_⟩;simp only[exec,hf,hrn];exact bE.mpr ⟨_,h2,bE.mpr ⟨_,hn,hr⟩⟩
  ·simp at hr
theorem run_eq(f:Nat)(as:List AV)(h:Heap)(lo:Nat) :
  (run L).fn f as h lo=match L.jS f as h with
   |some r=>some (r,h)
   |none=>(L.iW f).bind fun x=>lM x (aA L) (L.Bb f) as h lo:=by
 refine vo fun r=>?_;rw[kM]
 cases ho:L.jS f as h with
 |some q =>
  constructor
  ·rintro⟨n,hn⟩
   cases n with
   |zero=>simp[ex]at hn
   |succ n=>simpa only[ex,ho]using hn
  ·intro hr;exact⟨1,by simpa only[ex,ho]using hr⟩
 |none =>
  cases hx:L.iW f with
  |none =>
   simp only[Option.bind_none];constructor
   ·rintro⟨n,hn⟩
    cases n with
    |zero=>simp[ex]at hn
    |succ n=>simp[ex,ho,hx]at hn
   ·intro h;simp at h
  |some x =>
   simp only[Option.bind_some];constructor
   ·rintro⟨n,hn⟩
    cases n with
    |zero=>simp[ex]at hn
    |succ n =>
     simp only[ex,ho,hx,Option.bind_some]at hn;exact P9 (fun cx c st r hr=>(iI L).mpr ⟨n,hr⟩) _ _ _ _ r hn
   ·intro hr
    have key:∀ as h lo r,enter x (aA L) as h lo=some r->∃ n,enter x (fun cx=>exec (ex L n) cx n) as h lo=some r:=by
     intro as h lo r hr;unfold enter at hr;split at hr
     ·rename_i hl;obtain⟨q,h1,h2⟩:=bE.mp hr;obtain⟨n,hn⟩:=(iI L).mp h1;refine⟨n, ?_⟩;unfold enter;rw[if_pos hl];exact bE.mpr ⟨q,hn,h2⟩
     ·simp at hr
    unfold lM at hr;split at hr
    ·rename_i hb;obtain⟨vs,h1,h2⟩:=bE.mp hr;obtain⟨q,h3,h4⟩:=bE.mp h2;obtain⟨n,hn⟩:=key _ _ _ _ h3;refine⟨n+1, ?_⟩;simp only[ex,ho,hx,Option.bind_some];unfold lM;rw[if_pos hb];exact bE.mpr ⟨vs,h1,bE.mpr ⟨q,hn,h4⟩⟩
    ·rename_i hb;obtain⟨n,hn⟩:=key _ _ _ _ hr;refine⟨n+1, ?_⟩;simp only[ex,ho,hx,Option.bind_some];unfold lM;rw[if_neg hb];exact hn
theorem ZC(d:bQ)(id aj:Nat)(as:List AV)(h:Heap):(run L).rd d id aj as h=(L.dN d.g).bind fun x=>round x (aA L) d id aj as h:=by
 refine vo fun r=>?_;rw[J8]
 cases hx:L.dN d.g with
 |none =>
  simp only[Option.bind_none];constructor
  ·rintro⟨n,hn⟩
   cases n with
   |zero=>simp[ex]at hn
   |succ n=>simp[ex,hx]at hn
  ·intro h;simp at h
 |some x =>
  simp only[Option.bind_some];constructor
  ·rintro⟨n,hn⟩
   cases n with
   |zero=>simp[ex]at hn
   |succ n =>
    simp only[ex,hx,Option.bind_some]at hn;exact Qa (fun cx c st r hr=>(iI L).mpr ⟨n,hr⟩) _ _ _ _ _ r hn
  ·intro hr;unfold round at hr;split at hr
   ·rename_i hl;obtain⟨⟨e,jT,h1⟩,g1,g2⟩:=bE.mp hr;obtain⟨n,hn⟩:=(iI L).mp g1;dsimp only at g2;split at g2
    ·rename_i he;split at g2
     ·rename_i v d' hid;split at g2
      ·rename_i hv;obtain⟨⟨e2,gB,h3⟩,g3,g4⟩:=bE.mp g2;obtain⟨k,hk⟩:=(iI L).mp g3;refine⟨max n k+1, ?_⟩;simp only[ex,hx,Option.bind_some];unfold round;rw[if_pos hl];refine bE.mpr ⟨_,uf (qD L (Nat.le_max_left n k)) _ _ _ (Nat.le_max_left n k) _ _ _ hn, ?_⟩;dsimp only;rw[if_pos he,hid];dsimp only;rw[if_pos hv];exact bE.mpr ⟨_,uf (qD L (Nat.le_max_right n k)) _ _ _ (Nat.le_max_right n k) _ _ _ hk,g4⟩
      ·simp at g2
     ·simp at g2
    ·simp at g2
   ·simp at hr
end
end Go.VI
