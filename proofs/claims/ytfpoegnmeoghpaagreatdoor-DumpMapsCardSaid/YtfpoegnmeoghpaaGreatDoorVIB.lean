/- More rounds give the same answer; what a call computes with as many rounds as it wants, and the equations by which it is reckoned. -/
import Derived.Test.YtfpoegnmeoghpaaGreatDoorVIA
set_option linter.unusedVariables false
set_option linter.unusedSimpArgs false
namespace Go.VI
def Le{α:Type}(a b:Option α):Prop:=∀ r,a=some r->b=some r
theorem Le.refl{α:Type}(a:Option α):Le a a:=fun _ h=>h
theorem Le.bind{α β:Type}{a b:Option α}{f g:α->Option β}(h:Le a b)(hf:∀ x,Le (f x) (g x)):Le (a.bind f) (b.bind g):=by
 intro r hr
 cases ha:a with
 |none=>rw[ha]at hr;simp at hr
 |some x=>rw[ha]at hr;rw[h x ha];exact hf x r hr
theorem Le.map{α β:Type}{a b:Option α}(f:α->β)(h:Le a b):Le (a.map f) (b.map f):=by
 intro r hr
 cases ha:a with
 |none=>rw[ha]at hr;simp at hr
 |some x=>rw[ha]at hr;rw[h x ha];exact hr
structure uE(c c':Callee):Prop where
 fn:∀ f as h lo,Le (c.fn f as h lo) (c'.fn f as h lo)
 rd:∀ d id ai as h,Le (c.rd d id ai as h) (c'.rd d id ai as h)
theorem aeH{c c':Callee}(hc:uE c c')(cx:Cx)(id ai:Nat)(args:List AV)(h:Heap):Le (iY c cx id ai args h) (iY c' cx id ai args h):=by
 unfold iY;split
 ·split
  ·exact Le.map _ (hc.rd _ _ _ _ _)
  ·exact Le.refl _
 ·exact Le.refl _
mutual
theorem same_eq:∀{a b:AV},AV.same a b=true->a=b
 |.undef,.undef,_=>rfl
 |.tuple a,.tuple b,h=>by simp only[AV.same]at h;rw[BU h]
 |.j6,.j6,_=>rfl
 |.iG t a,.iG u b,h=>by simp only[AV.same,bM,beq_iff_eq]at h;rw[h.1,same_eq h.2]
 |.own z a,.own y b,h=>by simp only[AV.same,bM,beq_iff_eq]at h;rw[h.1,BU h.2]
 |.gu a i o,.gu b j p,h=>by simp only[AV.same,bM,beq_iff_eq]at h;rw[same_eq h.1.1,h.1.2,h.2]
 |.dY a b,.dY c d,h=>by simp only[AV.same,bM,beq_iff_eq]at h;rw[h.1,h.2]
 |.bool a,.bool b,h=>by simp only[AV.same,beq_iff_eq]at h;rw[h]
 |.int k a,.int j b,h=>by simp only[AV.same,bM,beq_iff_eq]at h;rw[h.1,h.2]
 |.str a,.str b,h=>by simp only[AV.same,beq_iff_eq]at h;rw[h]
 |.agg a,.agg b,h=>by simp only[AV.same]at h;rw[BU h]
 |.fn f a,.fn g b,h=>by simp only[AV.same,bM,beq_iff_eq]at h;rw[h.1,BU h.2]
 |.jR,.jR,_=>rfl
 |.aP,.aP,_=>rfl
 |.nilPtr,.nilPtr,_=>rfl
 |.aW z a,.aW y b,h=>by simp only[AV.same,bM,beq_iff_eq]at h;rw[h.1,BU h.2]
 |.bF z a,.bF y b,h=>by simp only[AV.same,bM,beq_iff_eq]at h;rw[h.1,BU h.2]
 |.ref ..,.ref ..,h=>by simp only[AV.same,bM,beq_iff_eq]at h;obtain⟨⟨⟨⟨⟨rfl,rfl⟩,rfl⟩,rfl⟩,rfl⟩,rfl⟩:=h;rfl
 |.bR a,.bR b,h=>by simp only[AV.same]at h;rw[BU h]
 |.aF ..,.aF ..,h=>by simp only[AV.same,bM,beq_iff_eq]at h;obtain⟨⟨rfl,rfl⟩,rfl⟩:=h;rfl
theorem BU:∀{a b:List AV},AV.uz a b=true->a=b
 |[],[],_=>rfl
 |a::as,b::bs,h=>by simp only[AV.uz,bM]at h;rw[same_eq h.1,BU h.2]
end
mutual
theorem Rb:∀(a:AV),AV.same a a=true
 |.undef|.jR|.aP|.nilPtr|.j6=>rfl
 |.bool _|.str _=>by simp only[AV.same,beq_self_eq_true]
 |.int ..|.ref ..|.aF ..|.dY ..=>by simp only[AV.same,beq_self_eq_true,w9]
 |.agg a|.tuple a|.bR a=>by simp only[AV.same];exact Nk a
 |.fn _ a|.aW _ a|.bF _ a|.own _ a=>by simp only[AV.same,beq_self_eq_true,Bool.true_and];exact Nk a
 |.iG _ a=>by simp only[AV.same,beq_self_eq_true,Bool.true_and];exact Rb a
 |.gu a _ _=>by simp only[AV.same,beq_self_eq_true,Bool.and_true];exact Rb a
theorem Nk:∀(a:List AV),AV.uz a a=true
 |[]=>rfl
 |a::as=>by simp only[AV.uz,Rb a,Nk as,w9]
end
theorem WK{h h':Heap}{i:Nat}(hk:wX h h' i=true):h'[i]?=h[i]?:=by
 unfold wX at hk;split at hk
 ·rename_i v cs v' cs' e1 e2;simp only[bM,beq_iff_eq]at hk;rw[e1,e2,hk.1,BU hk.2]
 ·cases hk
theorem Jw{call:Callee}{cx:Cx}{env:Env}{h:Heap}{ts:List Nat}{f:aL}{args:List aL}{r:AV×Heap}(hx:xi call cx env h (.mH ts f args)=some r) :
  xi call cx env h (.call f args [])=some r/\keeps env h r.2 ts=true:=by
 simp only[xi]at hx⊢;split at hx
 ·rename_i g caps hf;obtain⟨q,h1,h2⟩:=bE.mp hx;split at h2
  ·rename_i hk;simp only[aS]at h2;subst h2;refine⟨?_,hk⟩;simp only[hf,h1];rfl
  ·cases h2
 ·cases hx
theorem aeI{call:Callee}{cx:Cx}{env:Env}{h:Heap}{ts:List Nat}{f:aL}{args:List aL}{r:AV×Heap}(hx:xi call cx env h (.mH ts f args)=some r):∃ g cs,f.ev env=.fn g cs:=by
 simp only[xi]at hx;split at hx
 ·exact⟨_,_,by assumption⟩
 ·cases hx
theorem aeJ{call:Callee}{cx:Cx}{env:Env}{h:Heap}{ts:List Nat}{f:aL}{args:List aL}{r:AV×Heap}{g:Nat}{cs:List AV}(hf:f.ev env=.fn g cs)(hx:xi call cx env h (.call f args [])=some r)(hk:keeps env h r.2 ts=true):xi call cx env h (.mH ts f args)=some r:=by
 simp only[xi,hf]at hx⊢;obtain⟨q,h1,h2⟩:=bE.mp hx;simp only[aS]at h2;subst h2;rw[h1];simp only[Option.bind_some,if_pos hk]
theorem aeK{env:Env}{h h':Heap}{ts:List Nat}{i v:Nat}{b:Nat×au}(hd:h[i]?=some (v,.dead))(hk:keeps env h h' ts=true):keeps env (h.set i b) (h'.set i b) ts=true:=by
 unfold keeps at hk⊢;rw[nE]at hk⊢;intro t ht;have:=hk t ht;split at this
 ·rename_i j _ _ e;have hne:i≠j:=fun e=>by subst e;unfold wX at this;rw[hd]at this;cases this
  unfold wX at this⊢
  rwa [iH hne,iH hne]
 ·rfl
 ·cases this
theorem aeL{c c':Callee}(hc:uE c c')(cx:Cx)(env:Env)(h:Heap)(o:XI):Le (xi c cx env h o) (xi c' cx env h o):=by
 cases o with
 |call f args own =>
  simp only[xi];split
  ·exact Le.bind (hc.fn _ _ _ _) fun x=>Le.refl _
  ·split
   ·exact aeH hc _ _ _ _ _
   ·exact Le.refl _
  ·exact Le.refl _
 |mH ts f args =>
  simp only[xi];split
  ·exact Le.bind (hc.fn _ _ _ _) fun x=>Le.refl _
  ·exact Le.refl _
 |_=>exact Le.refl _
theorem WL{c c':Callee}(hc:uE c c')(cx:Cx)(env:Env)(h:Heap)(o:bT):Le (fI c cx env h o) (fI c' cx env h o):=by
 unfold fI;split
 ·exact aeL hc _ _ _ _
 ·exact Le.refl _
theorem WM{c c':Callee}(hc:uE c c')(cx:Cx)(o:bT)(env:Env)(h:Heap):Le (lG c cx o env h) (lG c' cx o env h):=by
 unfold lG;split
 ·exact Le.map _ (WL hc _ _ _ _)
 ·refine Le.bind (Le.refl _) fun b=>?_;split
  ·exact Le.map _ (WL hc _ _ _ _)
  ·exact Le.refl _
theorem Rc{c c':Callee}(hc:uE c c')(cx:Cx)(os:List bT):∀(env:Env) (h:Heap),Le (jN c cx os env h) (jN c' cx os env h):=by
 induction os with
 |nil=>intro env h;exact Le.refl _
 |cons o os ih=>intro env h;exact Le.bind (WM hc _ _ _ _) fun x=>ih _ _
theorem Nl{b b':St->Out}(hb:∀ st,Le (b st) (b' st)):∀(n n':Nat),n<=n'->∀ st,Le (iter b n st) (iter b' n' st)
 |0,_,_,_=>fun r h=>by simp[iter]at h
 |n+1,0,h,_=>absurd h (by omega)
 |n+1,n'+1,h,st=>by
  unfold iter;refine Le.bind (hb st) fun x=>?_;obtain⟨e,st⟩:=x;dsimp only;split
  ·exact Nl hb n n' (by omega) _
  ·exact Le.refl _
theorem zA{c c':Callee}(hc:uE c c')(cx:Cx)(n n':Nat)(hn:n<=n')(x:XC):∀ st,Le (exec c cx n x st) (exec c' cx n' x st):=by
 induction x with
 |skip|exit|ret=>intro st;exact Le.refl _
 |reg draw keep kill ops=>intro⟨env,h⟩;exact Le.map _ (Rc hc _ _ _ _)
 |seq a b iha ihb =>
  intro st;refine Le.bind (iha st) fun x=>?_;obtain⟨e,st⟩:=x;dsimp only;split
  ·exact ihb _
  ·exact Le.refl _
 |cond x a b iha ihb =>
  intro st;refine Le.bind (Le.refl _) fun r=>?_;split
  ·exact iha _
  ·exact ihb _
 |blk id a ih=>intro st;exact Le.map _ (ih st)
 |loop a ih=>intro st;exact Nl ih _ _ hn _
 |mI s f g =>
  intro⟨env,h⟩;simp only[exec];split
  ·exact Le.bind (Le.refl _) fun x=>Le.bind (hc.fn _ _ _ _) fun y=>Le.refl _
  ·exact Le.refl _
 |pre ps a ih=>intro st;exact ih _
 |fz t a ih=>intro st;exact Le.bind (Le.refl _) fun x=>ih _
theorem WN{x:bJ}{b b':Cx->XC->St->Out}(hb:∀ cx c st,Le (b cx c st) (b' cx c st))(args:List AV)(h:Heap)(lo:Nat):Le (enter x b args h lo) (enter x b' args h lo):=by
 unfold enter;split
 ·exact Le.bind (hb _ _ _) fun x=>Le.refl _
 ·exact Le.refl _
theorem WO{x:bJ}{b b':Cx->XC->St->Out}(hb:∀ cx c st,Le (b cx c st) (b' cx c st))(w:Bool)(args:List AV)(h:Heap)(lo:Nat):Le (qV x b w args h lo) (qV x b' w args h lo):=by
 unfold qV;split
 ·exact Le.bind (Le.refl _) fun as=>Le.bind (WN hb _ _ _) fun r=>Le.refl _
 ·exact WN hb _ _ _
theorem WQ{x:l6}{b b':Cx->XC->St->Out}(hb:∀ cx c st,Le (b cx c st) (b' cx c st))(d:dO)(id ai:Nat)(args:List AV)(h:Heap):Le (round x b d id ai args h) (round x b' d id ai args h):=by
 unfold round;split
 ·refine Le.bind (hb _ _ _) fun q=>?_;dsimp only;split
  ·split
   ·split
    ·exact Le.bind (hb _ _ _) fun y=>Le.refl _
    ·exact Le.refl _
   ·exact Le.refl _
  ·exact Le.refl _
 ·exact Le.refl _
theorem Rf(L:Lib):∀ n,uE (ex L n) (ex L (n+1))
 |0=>⟨fun _ _ _ _ r h=>by simp[ex]at h,fun _ _ _ _ _ r h=>by simp[ex]at h⟩
 | n+1=>⟨fun f as h lo=>by
   show Le (match L.pq f as h with|some r=>some (r,h)|none=>_) (match L.pq f as h with|some r=>some (r,h)|none=>_)
   cases L.pq f as h with
   |some r=>exact Le.refl _
   |none=>exact Le.bind (Le.refl _) fun x=>WO (fun cx c st=>zA (Rf L n) cx n (n+1) (by omega) c st) _ _ _ _,
  fun d id ai as h=>Le.bind (Le.refl _) fun x=>WQ (fun cx c st=>zA (Rf L n) cx n (n+1) (by omega) c st) _ _ _ _ _⟩
theorem uE.refl(c:Callee):uE c c:=⟨fun _ _ _ _=>Le.refl _,fun _ _ _ _ _=>Le.refl _⟩
theorem uE.trans{a b c:Callee}(h:uE a b)(k:uE b c):uE a c:=⟨fun f as h' lo r hr=>k.fn f as h' lo r (h.fn f as h' lo r hr),fun d id ai as h' r hr=>k.rd d id ai as h' r (h.rd d id ai as h' r hr)⟩
theorem xg(L:Lib){n n':Nat}(h:n<=n'):uE (ex L n) (ex L n'):=by
 induction h with
 |refl=>exact uE.refl _
 |step _ ih=>exact ih.trans (Rf L _)
open Classical in
noncomputable def lim {α:Type} (f:Nat->Option α):Option α :=
 if h:∃ n,(f n).isSome then f (Classical.choose h)else none
theorem Rh{α:Type}{f:Nat->Option α}(hm:∀ n n',n<=n'->Le (f n) (f n'))(r:α):lim f=some r↔∃ n,f n=some r:=by
 unfold lim;constructor
 ·intro h;split at h
  ·exact⟨_,h⟩
  ·simp at h
 ·rintro⟨n,hn⟩;have hs:∃ n,(f n).isSome:=⟨n,by simp[hn]⟩
  rw[dif_pos hs];obtain⟨q,hq⟩:=xh.mp (Classical.choose_spec hs);rcases Nat.le_total n (Classical.choose hs)with h|h
  ·exact hm _ _ h r hn
  ·have:=hm _ _ h q hq;rw[hn]at this;rw[hq,<-this]
noncomputable def run (L:Lib):Callee where
 fn:=fun f as h lo=>lim fun n=>(ex L n).fn f as h lo
 rd:=fun d id ai as h=>lim fun n=>(ex L n).rd d id ai as h
noncomputable def aQ (L:Lib) (cx:Cx) (c:XC) (st:St):Out:=lim fun n=>exec (ex L n) cx n c st
theorem Au{α:Type}{a b:Option α}(h:∀ r,a=some r↔b=some r):a=b:=by
 cases ha:a with
 |none =>
  cases hb:b with
  |none=>rfl
  |some r=>have:=(h r).mpr hb;rw[ha]at this;exact this
 |some r=>exact((h r).mp ha).symm
section
variable (L:Lib)
theorem pR{f:Nat}{as:List AV}{h:Heap}{lo:Nat}{r:AV×Heap}:(run L).fn f as h lo=some r↔∃ n,(ex L n).fn f as h lo=some r :=
 Rh (fun _ _ hn=>(xg L hn).fn f as h lo) r
theorem Ri{d:dO}{id ai:Nat}{as:List AV}{h:Heap}{r:Ex×Heap}:(run L).rd d id ai as h=some r↔∃ n,(ex L n).rd d id ai as h=some r :=
 Rh (fun _ _ hn=>(xg L hn).rd d id ai as h) r
theorem lV{cx:Cx}{c:XC}{st:St}{r:Ex×St}:aQ L cx c st=some r↔∃ n,exec (ex L n) cx n c st=some r :=
 Rh (fun _ _ hn=>zA (xg L hn) cx _ _ hn c st) r
theorem WR(n:Nat):uE (ex L n) (run L):=⟨fun f as h lo r hr=>(pR L).mpr ⟨n,hr⟩,fun d id ai as h r hr=>(Ri L).mpr ⟨n,hr⟩⟩
theorem aeM(cx:Cx)(id ai:Nat)(args:List AV)(h:Heap)(r:AV×Heap)(hr:iY (run L) cx id ai args h=some r):∃ n,iY (ex L n) cx id ai args h=some r:=by
 unfold iY at hr;split at hr
 ·rename_i v d hid;split at hr
  ·rename_i hc
   cases hq:(run L).rd d id ai args h with
   |none=>rw[hq]at hr;simp at hr
   |some x =>
    obtain⟨n,hn⟩:=(Ri L).mp hq;refine⟨n, ?_⟩;unfold iY;rw[hid];dsimp only;rw[if_pos hc,hn];rw[hq]at hr;exact hr
  ·simp at hr
 ·simp at hr
theorem aeN(cx:Cx)(env:Env)(h:Heap)(o:XI)(r:AV×Heap)(hr:xi (run L) cx env h o=some r):∃ n,xi (ex L n) cx env h o=some r:=by
 cases o with
 |call f args own =>
  simp only[xi]at hr;split at hr
  ·rename_i g caps hg
   cases hc:(run L).fn (jr g) (pO g (evs env args) caps) h cx.lo with
   |none=>rw[hc]at hr;simp at hr
   |some x =>
    obtain⟨n,hn⟩:=(pR L).mp hc;refine⟨n, ?_⟩;rw[hc]at hr;simp only[xi,hg,hn];exact hr
  ·rename_i id ai hg;split at hr
   ·rename_i ho;obtain⟨n,hn⟩:=aeM L _ _ _ _ _ _ hr;exact⟨n,by simp only[xi,hg,if_pos ho];exact hn⟩
   ·simp at hr
  ·simp at hr
 |mH ts f args =>
  simp only[xi]at hr;split at hr
  ·rename_i g caps hg
   cases hc:(run L).fn (jr g) (pO g (evs env args) caps) h cx.lo with
   |none=>rw[hc]at hr;simp at hr
   |some x =>
    obtain⟨n,hn⟩:=(pR L).mp hc;refine⟨n, ?_⟩;rw[hc]at hr;simp only[xi,hg,hn];exact hr
  ·simp at hr
 |_=>exact⟨0,hr⟩
theorem WT(cx:Cx)(env:Env)(h:Heap)(o:bT)(r:AV×Heap)(hr:fI (run L) cx env h o=some r):∃ n,fI (ex L n) cx env h o=some r:=by
 unfold fI at hr;split at hr
 ·rename_i hc;obtain⟨n,hn⟩:=aeN L _ _ _ _ _ hr;exact⟨n,by unfold fI;rw[if_pos hc];exact hn⟩
 ·cases hr
theorem aeO(cx:Cx)(o:bT)(env:Env)(h:Heap)(r:Env×Heap)(hr:lG (run L) cx o env h=some r):∃ n,lG (ex L n) cx o env h=some r:=by
 unfold lG at hr⊢;split at hr
 ·rename_i hg;obtain⟨q,hq,rfl⟩:=mE.mp hr;obtain⟨n,hn⟩:=WT L _ _ _ _ _ hq;exact⟨n,by simp[hn]⟩
 ·rename_i g want hg;obtain⟨b,hb,hr⟩:=bE.mp hr;split at hr
  ·obtain⟨q,hq,rfl⟩:=mE.mp hr;obtain⟨n,hn⟩:=WT L _ _ _ _ _ hq;exact⟨n,by simp_all⟩
  ·exact⟨0,by simp_all⟩
theorem aeP(cx:Cx)(os:List bT):∀(env:Env) (h:Heap) (r:Env×Heap),jN (run L) cx os env h=some r->∃ n,jN (ex L n) cx os env h=some r:=by
 induction os with
 |nil=>intro env h r hr;exact⟨0,hr⟩
 |cons o os ih =>
  intro env h r hr;obtain⟨⟨pz,h1⟩,hq,hr⟩:=bE.mp hr;obtain⟨n,hn⟩:=aeO L _ _ _ _ _ hq;obtain⟨k,hk⟩:=ih _ _ _ hr;refine⟨max n k,bE.mpr ⟨_,WM (xg L (Nat.le_max_left n k)) _ _ _ _ _ hn, ?_⟩⟩;exact Rc (xg L (Nat.le_max_right n k)) _ _ _ _ _ hk
theorem aeQ(cx:Cx)(st:St):aQ L cx .skip st=some (.norm,st):=(lV L).mpr ⟨0,rfl⟩
theorem aeR(cx:Cx)(id:Nat)(st:St):aQ L cx (.exit id) st=some (.exit id,st):=(lV L).mpr ⟨0,rfl⟩
theorem aeS(cx:Cx)(st:St):aQ L cx .ret st=some (.ret,st):=(lV L).mpr ⟨0,rfl⟩
theorem aeT(cx:Cx)(draw:Bool)(keep kill:List Nat)(ops:List bT)(env:Env)(h:Heap) :
  aQ L cx (.reg draw keep kill ops) (env,h)=(jN (run L) cx ops env (nD cx kill h)).map fun(env,h)=>(.norm,(env.keep keep,h)):=by
 refine Au fun r=>?_;rw[lV];constructor
 ·rintro⟨n,hn⟩;exact Le.map _ (Rc (WR L n) _ _ _ _) _ hn
 ·intro hr;obtain⟨q,hq,rfl⟩:=mE.mp hr;obtain⟨n,hn⟩:=aeP L _ _ _ _ _ hq;exact⟨n,by simp[exec,hn]⟩
theorem aeU(cx:Cx)(a b:XC)(st:St) :
  aQ L cx (.seq a b) st=(aQ L cx a st).bind fun(e,st)=>if e=.norm then aQ L cx b st else some (e,st):=by
 refine Au fun r=>?_;rw[lV];constructor
 ·rintro⟨n,hn⟩;obtain⟨⟨e,st1⟩,h1,h2⟩:=bE.mp hn;refine bE.mpr ⟨_,(lV L).mpr ⟨n,h1⟩, ?_⟩;dsimp only at h2⊢;split at h2
  ·rw[if_pos (by assumption)];exact(lV L).mpr ⟨n,h2⟩
  ·rw[if_neg (by assumption)];exact h2
 ·intro hr;obtain⟨⟨e,st1⟩,h1,h2⟩:=bE.mp hr;obtain⟨n,hn⟩:=(lV L).mp h1;dsimp only at h2;split at h2
  ·rename_i he;obtain⟨k,hk⟩:=(lV L).mp h2;refine⟨max n k,bE.mpr ⟨_,zA (xg L (Nat.le_max_left n k)) cx _ _ (Nat.le_max_left n k) a _ _ hn, ?_⟩⟩;dsimp only;rw[if_pos he];exact zA (xg L (Nat.le_max_right n k)) cx _ _ (Nat.le_max_right n k) b _ _ hk
  ·rename_i he;refine⟨n,bE.mpr ⟨_,hn, ?_⟩⟩;dsimp only;rw[if_neg he];exact h2
theorem aeV(cx:Cx)(c:aL)(a b:XC)(st:St) :
  aQ L cx (.cond c a b) st=(toBool (c.ev st.1)).bind fun r=>if r then aQ L cx a st else aQ L cx b st:=by
 refine Au fun r=>?_;rw[lV]
 cases hb:toBool (c.ev st.1) with
 |none=>simp[exec,hb]
 |some q =>
  cases q with
  |true=>simp only[exec,hb,Option.bind_some,if_true];exact(lV L).symm
  |false=>simp only[exec,hb,Option.bind_some,iw,if_false];exact(lV L).symm
theorem aeW(cx:Cx)(ps:List Nat)(c:XC)(st:St):aQ L cx (.pre ps c) st=aQ L cx c (st.1.keep ps,st.2):=by
 refine Au fun r=>?_;rw[lV,lV];exact Iff.rfl
theorem aeX(cx:Cx)(t:Nat)(c:XC)(st:St):aQ L cx (.fz t c) st=(rX cx.base (st.1.get t) st.2).bind fun r=>aQ L cx c (st.1.set t r.1,r.2):=by
 refine Au fun r=>?_;rw[lV]
 cases hf:rX cx.base (st.1.get t) st.2 with
 |none=>simp[exec,hf]
 |some q=>simp only[exec,hf,Option.bind_some];exact(lV L).symm
theorem aeY(cx:Cx)(id:Nat)(c:XC)(st:St):aQ L cx (.blk id c) st=(aQ L cx c st).map (Ex.nW id):=by
 refine Au fun r=>?_;rw[lV];constructor
 ·rintro⟨n,hn⟩;obtain⟨q,hq,rfl⟩:=mE.mp hn;exact mE.mpr ⟨q,(lV L).mpr ⟨n,hq⟩,rfl⟩
 ·intro hr;obtain⟨q,hq,rfl⟩:=mE.mp hr;obtain⟨n,hn⟩:=(lV L).mp hq;exact⟨n,mE.mpr ⟨q,hn,rfl⟩⟩
theorem aeZ(cx:Cx)(c:XC)(st:St) :
  aQ L cx (.loop c) st=(aQ L cx c st).bind fun(e,st)=>if e=.norm then aQ L cx (.loop c) st else some (e,st):=by
 refine Au fun r=>?_;constructor
 ·intro h;obtain⟨n,hn⟩:=(lV L).mp h
  cases n with
  |zero=>simp[exec,iter]at hn
  |succ n =>
   obtain⟨⟨e,st1⟩,h1,h2⟩:=bE.mp hn;refine bE.mpr ⟨_,(lV L).mpr ⟨n+1,h1⟩, ?_⟩;dsimp only at h2⊢;split at h2
   ·rw[if_pos (by assumption)]
    refine(lV L).mpr ⟨n+1, ?_⟩;exact Nl (fun st=>Le.refl _) n (n+1) (by omega) _ _ h2
   ·rw[if_neg (by assumption)];exact h2
 ·intro h;obtain⟨⟨e,st1⟩,h1,h2⟩:=bE.mp h;obtain⟨n,hn⟩:=(lV L).mp h1;dsimp only at h2;split at h2
  ·rename_i he;obtain⟨k,hk⟩:=(lV L).mp h2;refine(lV L).mpr ⟨max n k+1,bE.mpr ⟨_,zA (xg L (by omega)) cx n (max n k+1) (by omega) c _ _ hn, ?_⟩⟩
   dsimp only;rw[if_pos he];have:=zA (xg L (show k<=max n k+1 by omega)) cx k (max n k) (by omega) c
   exact Nl (fun st=>zA (xg L (show k<=max n k+1 by omega)) cx k (max n k+1) (by omega) c st) k (max n k) (by omega) _ _ hk
  ·rename_i he;refine(lV L).mpr ⟨n+1,bE.mpr ⟨_,zA (xg L (by omega)) cx n (n+1) (by omega) c _ _ hn, ?_⟩⟩
   dsimp only;rw[if_neg he];exact h2
theorem Nn(cx:Cx)(s:Nat)(f:aL)(g:Nat)(env:Env)(h:Heap) :
  aQ L cx (.mI s f g) (env,h)=exec (run L) cx 0 (.mI s f g) (env,h):=by
 refine Au fun r=>?_;rw[lV];constructor
 ·rintro⟨n,hn⟩;simp only[exec]at hn⊢;split at hn
  ·exact Le.bind (Le.refl _) (fun x=>Le.bind ((WR L n).fn _ _ _ _) fun y=>Le.refl _) _ hn
  ·simp at hn
 ·intro hr;simp only[exec]at hr;split at hr
  ·rename_i it caps hf hrn;obtain⟨⟨ai,h1⟩,h2,hr⟩:=bE.mp hr;obtain⟨⟨v,h3⟩,h4,hr⟩:=bE.mp hr;obtain⟨n,hn⟩:=(pR L).mp h4;refine⟨n, ?_⟩;simp only[exec,hf,hrn];exact bE.mpr ⟨_,h2,bE.mpr ⟨_,hn,hr⟩⟩
  ·simp at hr
theorem run_eq(f:Nat)(as:List AV)(h:Heap)(lo:Nat) :
  (run L).fn f as h lo=match L.pq f as h with
   |some r=>some (r,h)
   |none=>(L.mM f).bind fun x=>qV x (aQ L) (L.Gm f) as h lo:=by
 refine Au fun r=>?_;rw[pR]
 cases ho:L.pq f as h with
 |some q =>
  constructor
  ·rintro⟨n,hn⟩
   cases n with
   |zero=>simp[ex]at hn
   |succ n=>simpa only[ex,ho]using hn
  ·intro hr;exact⟨1,by simpa only[ex,ho]using hr⟩
 |none =>
  cases hx:L.mM f with
  |none =>
   simp only[Option.bind_none];constructor
   ·rintro⟨n,hn⟩
    cases n with
    |zero=>simp[ex]at hn
    |succ n=>simp[ex,ho,hx]at hn
   ·intro h;simp at h
  |some x =>
   simp only[Option.bind_some];constructor
   ·rintro⟨n,hn⟩
    cases n with
    |zero=>simp[ex]at hn
    |succ n =>
     simp only[ex,ho,hx,Option.bind_some]at hn;exact WO (fun cx c st r hr=>(lV L).mpr ⟨n,hr⟩) _ _ _ _ r hn
   ·intro hr
    have key:∀ as h lo r,enter x (aQ L) as h lo=some r->∃ n,enter x (fun cx=>exec (ex L n) cx n) as h lo=some r:=by
     intro as h lo r hr;unfold enter at hr;split at hr
     ·rename_i hl;obtain⟨q,h1,h2⟩:=bE.mp hr;obtain⟨n,hn⟩:=(lV L).mp h1;refine⟨n, ?_⟩;unfold enter;rw[if_pos hl];exact bE.mpr ⟨q,hn,h2⟩
     ·simp at hr
    unfold qV at hr;split at hr
    ·rename_i hb;obtain⟨vs,h1,h2⟩:=bE.mp hr;obtain⟨q,h3,h4⟩:=bE.mp h2;obtain⟨n,hn⟩:=key _ _ _ _ h3;refine⟨n+1, ?_⟩;simp only[ex,ho,hx,Option.bind_some];unfold qV;rw[if_pos hb];exact bE.mpr ⟨vs,h1,bE.mpr ⟨q,hn,h4⟩⟩
    ·rename_i hb;obtain⟨n,hn⟩:=key _ _ _ _ hr;refine⟨n+1, ?_⟩;simp only[ex,ho,hx,Option.bind_some];unfold qV;rw[if_neg hb];exact hn
theorem ae0(d:dO)(id ai:Nat)(as:List AV)(h:Heap):(run L).rd d id ai as h=(L.iq d.g).bind fun x=>round x (aQ L) d id ai as h:=by
 refine Au fun r=>?_;rw[Ri]
 cases hx:L.iq d.g with
 |none =>
  simp only[Option.bind_none];constructor
  ·rintro⟨n,hn⟩
   cases n with
   |zero=>simp[ex]at hn
   |succ n=>simp[ex,hx]at hn
  ·intro h;simp at h
 |some x =>
  simp only[Option.bind_some];constructor
  ·rintro⟨n,hn⟩
   cases n with
   |zero=>simp[ex]at hn
   |succ n =>
    simp only[ex,hx,Option.bind_some]at hn;exact WQ (fun cx c st r hr=>(lV L).mpr ⟨n,hr⟩) _ _ _ _ _ r hn
  ·intro hr;unfold round at hr;split at hr
   ·rename_i hl;obtain⟨⟨e,pz,h1⟩,g1,g2⟩:=bE.mp hr;obtain⟨n,hn⟩:=(lV L).mp g1;dsimp only at g2;split at g2
    ·rename_i he;split at g2
     ·rename_i v d' hid;split at g2
      ·rename_i hv;obtain⟨⟨e2,jl,h3⟩,g3,g4⟩:=bE.mp g2;obtain⟨k,hk⟩:=(lV L).mp g3;refine⟨max n k+1, ?_⟩;simp only[ex,hx,Option.bind_some];unfold round;rw[if_pos hl];refine bE.mpr ⟨_,zA (xg L (Nat.le_max_left n k)) _ _ _ (Nat.le_max_left n k) _ _ _ hn, ?_⟩;dsimp only;rw[if_pos he,hid];dsimp only;rw[if_pos hv];exact bE.mpr ⟨_,zA (xg L (Nat.le_max_right n k)) _ _ _ (Nat.le_max_right n k) _ _ _ hk,g4⟩
      ·simp at g2
     ·simp at g2
    ·simp at g2
   ·simp at hr
end
end Go.VI
