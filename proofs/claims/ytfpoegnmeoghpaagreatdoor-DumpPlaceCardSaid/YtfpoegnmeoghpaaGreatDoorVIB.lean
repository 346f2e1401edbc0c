/- More rounds give the same answer; what a call computes with as many rounds as it wants, and the equations by which it is reckoned. -/
import Derived.Test.YtfpoegnmeoghpaaGreatDoorVIA
set_option linter.unusedVariables false
set_option linter.unusedSimpArgs false
namespace Go.VI
def Le{α:Type}(a b:Option α):Prop:=∀ r,a=some r->b=some r
theorem Le.refl{α:Type}(a:Option α):Le a a:=fun _ h=>h
theorem Le.bind{α β:Type}{a b:Option α}{f g:α->Option β}(h:Le a b)(hf:∀ x,Le (f x) (g x)):Le (a.bind f) (b.bind g):=by
 intro r hr
 cases ha:a with
 |none=>rw[ha]at hr;simp at hr
 |some x=>rw[ha]at hr;rw[h x ha];exact hf x r hr
theorem Le.map{α β:Type}{a b:Option α}(f:α->β)(h:Le a b):Le (a.map f) (b.map f):=by
 intro r hr
 cases ha:a with
 |none=>rw[ha]at hr;simp at hr
 |some x=>rw[ha]at hr;rw[h x ha];exact hr
structure Rz(c c':Callee):Prop where
 fn:∀ f as h lo,Le (c.fn f as h lo) (c'.fn f as h lo)
 rd:∀ d id ak as h,Le (c.rd d id ak as h) (c'.rd d id ak as h)
theorem aDS{c c':Callee}(hc:Rz c c')(cx:Cx)(id ak:Nat)(args:List AV)(h:Heap):Le (tK c cx id ak args h) (tK c' cx id ak args h):=by
 unfold tK;split
 ·split
  ·exact Le.map _ (hc.rd _ _ _ _ _)
  ·exact Le.refl _
 ·exact Le.refl _
mutual
theorem same_eq:∀{a b:AV},AV.same a b=true->a=b
 |.undef,.undef,_=>rfl
 |.tuple a,.tuple b,h=>by simp only[AV.same]at h;rw[ab0 h]
 |.zB,.zB,_=>rfl
 |.rM t a,.rM u b,h=>by simp only[AV.same,fw,beq_iff_eq]at h;rw[h.1,same_eq h.2]
 |.own z a,.own y b,h=>by simp only[AV.same,fw,beq_iff_eq]at h;rw[h.1,ab0 h.2]
 |.nS a i o,.nS b j p,h=>by simp only[AV.same,fw,beq_iff_eq]at h;rw[same_eq h.1.1,h.1.2,h.2]
 |.lF a b,.lF c d,h=>by simp only[AV.same,fw,beq_iff_eq]at h;rw[h.1,h.2]
 |.bool a,.bool b,h=>by simp only[AV.same,beq_iff_eq]at h;rw[h]
 |.int k a,.int j b,h=>by simp only[AV.same,fw,beq_iff_eq]at h;rw[h.1,h.2]
 |.str a,.str b,h=>by simp only[AV.same,beq_iff_eq]at h;rw[h]
 |.agg a,.agg b,h=>by simp only[AV.same]at h;rw[ab0 h]
 |.fn f a,.fn g b,h=>by simp only[AV.same,fw,beq_iff_eq]at h;rw[h.1,ab0 h.2]
 |.yX,.yX,_=>rfl
 |.bO,.bO,_=>rfl
 |.nilPtr,.nilPtr,_=>rfl
 |.eY z a,.eY y b,h=>by simp only[AV.same,fw,beq_iff_eq]at h;rw[h.1,ab0 h.2]
 |.fT z a,.fT y b,h=>by simp only[AV.same,fw,beq_iff_eq]at h;rw[h.1,ab0 h.2]
 |.ref ..,.ref ..,h=>by simp only[AV.same,fw,beq_iff_eq]at h;obtain⟨⟨⟨⟨⟨rfl,rfl⟩,rfl⟩,rfl⟩,rfl⟩,rfl⟩:=h;rfl
 |.iE a,.iE b,h=>by simp only[AV.same]at h;rw[ab0 h]
 |.bq ..,.bq ..,h=>by simp only[AV.same,fw,beq_iff_eq]at h;obtain⟨⟨rfl,rfl⟩,rfl⟩:=h;rfl
theorem ab0:∀{a b:List AV},AV.Sw a b=true->a=b
 |[],[],_=>rfl
 |a::as,b::bs,h=>by simp only[AV.Sw,fw]at h;rw[same_eq h.1,ab0 h.2]
end
mutual
theorem arx:∀(a:AV),AV.same a a=true
 |.undef|.yX|.bO|.nilPtr|.zB=>rfl
 |.bool _|.str _=>by simp only[AV.same,beq_self_eq_true]
 |.int ..|.ref ..|.bq ..|.lF ..=>by simp only[AV.same,beq_self_eq_true,Bool.and_self]
 |.agg a|.tuple a|.iE a=>by simp only[AV.same];exact arz a
 |.fn _ a|.eY _ a|.fT _ a|.own _ a=>by simp only[AV.same,beq_self_eq_true,Ri];exact arz a
 |.rM _ a=>by simp only[AV.same,beq_self_eq_true,Ri];exact arx a
 |.nS a _ _=>by simp only[AV.same,beq_self_eq_true,Bool.and_true];exact arx a
theorem arz:∀(a:List AV),AV.Sw a a=true
 |[]=>rfl
 |a::as=>by simp only[AV.Sw,arx a,arz as,Bool.and_self]
end
theorem axs{h h':Heap}{i:Nat}(hk:Zt h h' i=true):h'[i]?=h[i]?:=by
 unfold Zt at hk;split at hk
 ·rename_i v cs v' cs' e1 e2;simp only[fw,beq_iff_eq]at hk;rw[e1,e2,hk.1,ab0 hk.2]
 ·cases hk
theorem alc{call:Callee}{cx:Cx}{env:Env}{h:Heap}{ts:List Nat}{f:bD}{args:List bD}{r:AV×Heap}(hx:xi call cx env h (.FH ts f args)=some r) :
  xi call cx env h (.call f args [])=some r/\keeps env h r.2 ts=true:=by
 simp only[xi]at hx⊢;split at hx
 ·rename_i g caps hf;obtain⟨q,h1,h2⟩:=bE.mp hx;split at h2
  ·rename_i hk;simp only[dz]at h2;subst h2;refine⟨?_,hk⟩;simp only[hf,h1];rfl
  ·cases h2
 ·cases hx
theorem aDT{call:Callee}{cx:Cx}{env:Env}{h:Heap}{ts:List Nat}{f:bD}{args:List bD}{r:AV×Heap}(hx:xi call cx env h (.FH ts f args)=some r):∃ g cs,f.ev env=.fn g cs:=by
 simp only[xi]at hx;split at hx
 ·exact⟨_,_,by assumption⟩
 ·cases hx
theorem aDU{call:Callee}{cx:Cx}{env:Env}{h:Heap}{ts:List Nat}{f:bD}{args:List bD}{r:AV×Heap}{g:Nat}{cs:List AV}(hf:f.ev env=.fn g cs)(hx:xi call cx env h (.call f args [])=some r)(hk:keeps env h r.2 ts=true):xi call cx env h (.FH ts f args)=some r:=by
 simp only[xi,hf]at hx⊢;obtain⟨q,h1,h2⟩:=bE.mp hx;simp only[dz]at h2;subst h2;rw[h1];simp only[Option.bind_some,if_pos hk]
theorem aDV{env:Env}{h h':Heap}{ts:List Nat}{i v:Nat}{b:Nat×aU}(hd:h[i]?=some (v,.dead))(hk:keeps env h h' ts=true):keeps env (h.set i b) (h'.set i b) ts=true:=by
 unfold keeps at hk⊢;rw[Gq]at hk⊢;intro t ht;have:=hk t ht;split at this
 ·rename_i j _ _ e;have hne:i≠j:=fun e=>by subst e;unfold Zt at this;rw[hd]at this;cases this
  unfold Zt at this⊢
  rwa [tL hne,tL hne]
 ·rfl
 ·cases this
theorem arA{call:Callee}{cx:Cx}{env:Env}{h:Heap}{t:Nat}{f:bD}{args:List bD}{id v o g:Nat}{caps:List AV}(ht:env.get t=.bq id v o)(hf:f.ev env=.fn g caps) :
  xi call cx env h (.Rb t f args)=if cx.lo<id/\id<cx.base then xi call ⟨cx.lo,id-1,1,none⟩ env h (.call f args [(0,0)])else none:=by
 simp only[xi,ht,hf]
theorem arB{call:Callee}{cx:Cx}{env:Env}{h:Heap}{t:Nat}{f:bD}{args:List bD}{r:AV×Heap}(hx:xi call cx env h (.Rb t f args)=some r) :
  ∃ id v o g caps,env.get t=.bq id v o/\f.ev env=.fn g caps/\(cx.lo<id/\id<cx.base)/\xi call ⟨cx.lo,id-1,1,none⟩ env h (.call f args [(0,0)])=some r:=by
 have h0:=hx;simp only[xi]at h0;split at h0
 ·rename_i id v o g caps ht hf;rw[arA ht hf]at hx;split at hx
  ·rename_i hc;exact⟨id,v,o,g,caps,ht,hf,hc,hx⟩
  ·cases hx
 ·cases h0
theorem aDW{c c':Callee}(hc:Rz c c')(cx:Cx)(env:Env)(h:Heap)(o:XI):Le (xi c cx env h o) (xi c' cx env h o):=by
 cases o with
 |call f args own =>
  simp only[xi];split
  ·exact Le.bind (hc.fn _ _ _ _) fun x=>Le.refl _
  ·split
   ·exact aDS hc _ _ _ _ _
   ·exact Le.refl _
  ·exact Le.refl _
 |FH ts f args =>
  simp only[xi];split
  ·exact Le.bind (hc.fn _ _ _ _) fun x=>Le.refl _
  ·exact Le.refl _
 |Rb t f args =>
  simp only[xi];split
  ·split
   ·exact Le.bind (hc.fn _ _ _ _) fun x=>Le.refl _
   ·exact Le.refl _
  ·exact Le.refl _
 |_=>exact Le.refl _
theorem axt{c c':Callee}(hc:Rz c c')(cx:Cx)(env:Env)(h:Heap)(o:jc):Le (l6 c cx env h o) (l6 c' cx env h o):=by
 unfold l6;split
 ·exact aDW hc _ _ _ _
 ·exact Le.refl _
theorem axu{c c':Callee}(hc:Rz c c')(cx:Cx)(o:jc)(env:Env)(h:Heap):Le (Dh c cx o env h) (Dh c' cx o env h):=by
 unfold Dh;split
 ·exact Le.map _ (axt hc _ _ _ _)
 ·refine Le.bind (Le.refl _) fun b=>?_;split
  ·exact Le.map _ (axt hc _ _ _ _)
  ·exact Le.refl _
theorem arC{c c':Callee}(hc:Rz c c')(cx:Cx)(os:List jc):∀(env:Env) (h:Heap),Le (xZ c cx os env h) (xZ c' cx os env h):=by
 induction os with
 |nil=>intro env h;exact Le.refl _
 |cons o os ih=>intro env h;exact Le.bind (axu hc _ _ _ _) fun x=>ih _ _
theorem ank{b b':St->Out}(hb:∀ st,Le (b st) (b' st)):∀(n n':Nat),n<=n'->∀ st,Le (iter b n st) (iter b' n' st)
 |0,_,_,_=>fun r h=>by simp[iter]at h
 |n+1,0,h,_=>absurd h (by omega)
 |n+1,n'+1,h,st=>by
  unfold iter;refine Le.bind (hb st) fun x=>?_;obtain⟨e,st⟩:=x;dsimp only;split
  ·exact ank hb n n' (by omega) _
  ·exact Le.refl _
theorem Zu{c c':Callee}(hc:Rz c c')(cx:Cx)(n n':Nat)(hn:n<=n')(x:XC):∀ st,Le (exec c cx n x st) (exec c' cx n' x st):=by
 induction x with
 |skip|exit|ret=>intro st;exact Le.refl _
 |reg draw keep kill ops=>intro⟨env,h⟩;exact Le.map _ (arC hc _ _ _ _)
 |seq a b iha ihb =>
  intro st;refine Le.bind (iha st) fun x=>?_;obtain⟨e,st⟩:=x;dsimp only;split
  ·exact ihb _
  ·exact Le.refl _
 |cond x a b iha ihb =>
  intro st;refine Le.bind (Le.refl _) fun r=>?_;split
  ·exact iha _
  ·exact ihb _
 |blk id a ih=>intro st;exact Le.map _ (ih st)
 |loop a ih=>intro st;exact ank ih _ _ hn _
 |Gm s f g =>
  intro⟨env,h⟩;simp only[exec];split
  ·exact Le.bind (Le.refl _) fun x=>Le.bind (hc.fn _ _ _ _) fun y=>Le.refl _
  ·exact Le.refl _
 |pre ps a ih=>intro st;exact ih _
theorem axv{x:gH}{b b':Cx->XC->St->Out}(hb:∀ cx c st,Le (b cx c st) (b' cx c st))(args:List AV)(h:Heap)(lo:Nat):Le (enter x b args h lo) (enter x b' args h lo):=by
 unfold enter;split
 ·exact Le.bind (hb _ _ _) fun x=>Le.refl _
 ·exact Le.refl _
theorem axw{x:gH}{b b':Cx->XC->St->Out}(hb:∀ cx c st,Le (b cx c st) (b' cx c st))(w:Bool)(args:List AV)(h:Heap)(lo:Nat):Le (L6 x b w args h lo) (L6 x b' w args h lo):=by
 unfold L6;split
 ·exact Le.bind (Le.refl _) fun as=>Le.bind (axv hb _ _ _) fun r=>Le.refl _
 ·exact axv hb _ _ _
theorem axx{x:DU}{b b':Cx->XC->St->Out}(hb:∀ cx c st,Le (b cx c st) (b' cx c st))(d:kP)(id ak:Nat)(args:List AV)(h:Heap):Le (round x b d id ak args h) (round x b' d id ak args h):=by
 unfold round;split
 ·refine Le.bind (hb _ _ _) fun q=>?_;dsimp only;split
  ·split
   ·split
    ·exact Le.bind (hb _ _ _) fun y=>Le.refl _
    ·exact Le.refl _
   ·exact Le.refl _
  ·exact Le.refl _
 ·exact Le.refl _
theorem arD(L:Lib):∀ n,Rz (ex L n) (ex L (n+1))
 |0=>⟨fun _ _ _ _ r h=>by simp[ex]at h,fun _ _ _ _ _ r h=>by simp[ex]at h⟩
 | n+1=>⟨fun f as h lo=>by
   show Le (match L.IW f as h with|some r=>some (r,h)|none=>_) (match L.IW f as h with|some r=>some (r,h)|none=>_)
   cases L.IW f as h with
   |some r=>exact Le.refl _
   |none=>exact Le.bind (Le.refl _) fun x=>axw (fun cx c st=>Zu (arD L n) cx n (n+1) (by omega) c st) _ _ _ _,
  fun d id ak as h=>Le.bind (Le.refl _) fun x=>axx (fun cx c st=>Zu (arD L n) cx n (n+1) (by omega) c st) _ _ _ _ _⟩
theorem Rz.refl(c:Callee):Rz c c:=⟨fun _ _ _ _=>Le.refl _,fun _ _ _ _ _=>Le.refl _⟩
theorem Rz.trans{a b c:Callee}(h:Rz a b)(k:Rz b c):Rz a c:=⟨fun f as h' lo r hr=>k.fn f as h' lo r (h.fn f as h' lo r hr),fun d id ak as h' r hr=>k.rd d id ak as h' r (h.rd d id ak as h' r hr)⟩
theorem Uh(L:Lib){n n':Nat}(h:n<=n'):Rz (ex L n) (ex L n'):=by
 induction h with
 |refl=>exact Rz.refl _
 |step _ ih=>exact ih.trans (arD L _)
open Classical in
noncomputable def lim {α:Type} (f:Nat->Option α):Option α :=
 if h:∃ n,(f n).isSome then f (Classical.choose h)else none
theorem arE{α:Type}{f:Nat->Option α}(hm:∀ n n',n<=n'->Le (f n) (f n'))(r:α):lim f=some r↔∃ n,f n=some r:=by
 unfold lim;constructor
 ·intro h;split at h
  ·exact⟨_,h⟩
  ·simp at h
 ·rintro⟨n,hn⟩;have hs:∃ n,(f n).isSome:=⟨n,by simp[hn]⟩
  rw[dif_pos hs];obtain⟨q,hq⟩:=acN.mp (Classical.choose_spec hs);rcases Nat.le_total n (Classical.choose hs)with h|h
  ·exact hm _ _ h r hn
  ·have:=hm _ _ h q hq;rw[hn]at this;rw[hq,<-this]
noncomputable def run (L:Lib):Callee where
 fn:=fun f as h lo=>lim fun n=>(ex L n).fn f as h lo
 rd:=fun d id ak as h=>lim fun n=>(ex L n).rd d id ak as h
noncomputable def bV (L:Lib) (cx:Cx) (c:XC) (st:St):Out:=lim fun n=>exec (ex L n) cx n c st
theorem ab1{α:Type}{a b:Option α}(h:∀ r,a=some r↔b=some r):a=b:=by
 cases ha:a with
 |none =>
  cases hb:b with
  |none=>rfl
  |some r=>have:=(h r).mpr hb;rw[ha]at this;exact this
 |some r=>exact((h r).mp ha).symm
section
variable (L:Lib)
theorem I5{f:Nat}{as:List AV}{h:Heap}{lo:Nat}{r:AV×Heap}:(run L).fn f as h lo=some r↔∃ n,(ex L n).fn f as h lo=some r :=
 arE (fun _ _ hn=>(Uh L hn).fn f as h lo) r
theorem arF{d:kP}{id ak:Nat}{as:List AV}{h:Heap}{r:Ex×Heap}:(run L).rd d id ak as h=some r↔∃ n,(ex L n).rd d id ak as h=some r :=
 arE (fun _ _ hn=>(Uh L hn).rd d id ak as h) r
theorem Fs{cx:Cx}{c:XC}{st:St}{r:Ex×St}:bV L cx c st=some r↔∃ n,exec (ex L n) cx n c st=some r :=
 arE (fun _ _ hn=>Zu (Uh L hn) cx _ _ hn c st) r
theorem axy(n:Nat):Rz (ex L n) (run L):=⟨fun f as h lo r hr=>(I5 L).mpr ⟨n,hr⟩,fun d id ak as h r hr=>(arF L).mpr ⟨n,hr⟩⟩
theorem aDX(cx:Cx)(id ak:Nat)(args:List AV)(h:Heap)(r:AV×Heap)(hr:tK (run L) cx id ak args h=some r):∃ n,tK (ex L n) cx id ak args h=some r:=by
 unfold tK at hr;split at hr
 ·rename_i v d hid;split at hr
  ·rename_i hc
   cases hq:(run L).rd d id ak args h with
   |none=>rw[hq]at hr;simp at hr
   |some x =>
    obtain⟨n,hn⟩:=(arF L).mp hq;refine⟨n, ?_⟩;unfold tK;rw[hid];dsimp only;rw[if_pos hc,hn];rw[hq]at hr;exact hr
  ·simp at hr
 ·simp at hr
theorem aDY(cx:Cx)(env:Env)(h:Heap)(o:XI)(r:AV×Heap)(hr:xi (run L) cx env h o=some r):∃ n,xi (ex L n) cx env h o=some r:=by
 cases o with
 |call f args own =>
  simp only[xi]at hr;split at hr
  ·rename_i g caps hg
   cases hc:(run L).fn (u7 g) (II g (evs env args) caps) h cx.lo with
   |none=>rw[hc]at hr;simp at hr
   |some x =>
    obtain⟨n,hn⟩:=(I5 L).mp hc;refine⟨n, ?_⟩;rw[hc]at hr;simp only[xi,hg,hn];exact hr
  ·rename_i id ak hg;split at hr
   ·rename_i ho;obtain⟨n,hn⟩:=aDX L _ _ _ _ _ _ hr;exact⟨n,by simp only[xi,hg,if_pos ho];exact hn⟩
   ·simp at hr
  ·simp at hr
 |FH ts f args =>
  simp only[xi]at hr;split at hr
  ·rename_i g caps hg
   cases hc:(run L).fn (u7 g) (II g (evs env args) caps) h cx.lo with
   |none=>rw[hc]at hr;simp at hr
   |some x =>
    obtain⟨n,hn⟩:=(I5 L).mp hc;refine⟨n, ?_⟩;rw[hc]at hr;simp only[xi,hg,hn];exact hr
  ·simp at hr
 |Rb t f args =>
  simp only[xi]at hr;split at hr
  ·rename_i id v o g caps ht hg;split at hr
   ·rename_i hc0
    cases hc:(run L).fn (u7 g) (II g (evs env args) caps) h cx.lo with
    |none=>rw[hc]at hr;simp at hr
    |some x =>
     obtain⟨n,hn⟩:=(I5 L).mp hc;refine⟨n, ?_⟩;rw[hc]at hr;simp only[xi,ht,hg,hn,if_pos hc0];exact hr
   ·simp at hr
  ·simp at hr
 |_=>exact⟨0,hr⟩
theorem axz(cx:Cx)(env:Env)(h:Heap)(o:jc)(r:AV×Heap)(hr:l6 (run L) cx env h o=some r):∃ n,l6 (ex L n) cx env h o=some r:=by
 unfold l6 at hr;split at hr
 ·rename_i hc;obtain⟨n,hn⟩:=aDY L _ _ _ _ _ hr;exact⟨n,by unfold l6;rw[if_pos hc];exact hn⟩
 ·cases hr
theorem aDZ(cx:Cx)(o:jc)(env:Env)(h:Heap)(r:Env×Heap)(hr:Dh (run L) cx o env h=some r):∃ n,Dh (ex L n) cx o env h=some r:=by
 unfold Dh at hr⊢;split at hr
 ·rename_i hg;obtain⟨q,hq,rfl⟩:=mE.mp hr;obtain⟨n,hn⟩:=axz L _ _ _ _ _ hq;exact⟨n,by simp[hn]⟩
 ·rename_i g want hg;obtain⟨b,hb,hr⟩:=bE.mp hr;split at hr
  ·obtain⟨q,hq,rfl⟩:=mE.mp hr;obtain⟨n,hn⟩:=axz L _ _ _ _ _ hq;exact⟨n,by simp_all⟩
  ·exact⟨0,by simp_all⟩
theorem aD0(cx:Cx)(os:List jc):∀(env:Env) (h:Heap) (r:Env×Heap),xZ (run L) cx os env h=some r->∃ n,xZ (ex L n) cx os env h=some r:=by
 induction os with
 |nil=>intro env h r hr;exact⟨0,hr⟩
 |cons o os ih =>
  intro env h r hr;obtain⟨⟨I7,h1⟩,hq,hr⟩:=bE.mp hr;obtain⟨n,hn⟩:=aDZ L _ _ _ _ _ hq;obtain⟨k,hk⟩:=ih _ _ _ hr;refine⟨max n k,bE.mpr ⟨_,axu (Uh L (Nat.le_max_left n k)) _ _ _ _ _ hn, ?_⟩⟩;exact arC (Uh L (Nat.le_max_right n k)) _ _ _ _ _ hk
theorem aD1(cx:Cx)(st:St):bV L cx .skip st=some (.norm,st):=(Fs L).mpr ⟨0,rfl⟩
theorem aD2(cx:Cx)(id:Nat)(st:St):bV L cx (.exit id) st=some (.exit id,st):=(Fs L).mpr ⟨0,rfl⟩
theorem aD3(cx:Cx)(st:St):bV L cx .ret st=some (.ret,st):=(Fs L).mpr ⟨0,rfl⟩
theorem aD4(cx:Cx)(draw:Bool)(keep kill:List Nat)(ops:List jc)(env:Env)(h:Heap) :
  bV L cx (.reg draw keep kill ops) (env,h)=(xZ (run L) cx ops env (Gp cx kill h)).map fun(env,h)=>(.norm,(env.keep keep,h)):=by
 refine ab1 fun r=>?_;rw[Fs];constructor
 ·rintro⟨n,hn⟩;exact Le.map _ (arC (axy L n) _ _ _ _) _ hn
 ·intro hr;obtain⟨q,hq,rfl⟩:=mE.mp hr;obtain⟨n,hn⟩:=aD0 L _ _ _ _ _ hq;exact⟨n,by simp[exec,hn]⟩
theorem aD5(cx:Cx)(a b:XC)(st:St) :
  bV L cx (.seq a b) st=(bV L cx a st).bind fun(e,st)=>if e=.norm then bV L cx b st else some (e,st):=by
 refine ab1 fun r=>?_;rw[Fs];constructor
 ·rintro⟨n,hn⟩;obtain⟨⟨e,st1⟩,h1,h2⟩:=bE.mp hn;refine bE.mpr ⟨_,(Fs L).mpr ⟨n,h1⟩, ?_⟩;dsimp only at h2⊢;split at h2
  ·rw[if_pos (by assumption)];exact(Fs L).mpr ⟨n,h2⟩
  ·rw[if_neg (by assumption)];exact h2
 ·intro hr;obtain⟨⟨e,st1⟩,h1,h2⟩:=bE.mp hr;obtain⟨n,hn⟩:=(Fs L).mp h1;dsimp only at h2;split at h2
  ·rename_i he;obtain⟨k,hk⟩:=(Fs L).mp h2;refine⟨max n k,bE.mpr ⟨_,Zu (Uh L (Nat.le_max_left n k)) cx _ _ (Nat.le_max_left n k) a _ _ hn, ?_⟩⟩;dsimp only;rw[if_pos he];exact Zu (Uh L (Nat.le_max_right n k)) cx _ _ (Nat.le_max_right n k) b _ _ hk
  ·rename_i he;refine⟨n,bE.mpr ⟨_,hn, ?_⟩⟩;dsimp only;rw[if_neg he];exact h2
theorem aD6(cx:Cx)(c:bD)(a b:XC)(st:St) :
  bV L cx (.cond c a b) st=(toBool (c.ev st.1)).bind fun r=>if r then bV L cx a st else bV L cx b st:=by
 refine ab1 fun r=>?_;rw[Fs]
 cases hb:toBool (c.ev st.1) with
 |none=>simp[exec,hb]
 |some q =>
  cases q with
  |true=>simp only[exec,hb,Option.bind_some,if_true];exact(Fs L).symm
  |false=>simp only[exec,hb,Option.bind_some,uM,if_false];exact(Fs L).symm
theorem aD7(cx:Cx)(ps:List Nat)(c:XC)(st:St):bV L cx (.pre ps c) st=bV L cx c (st.1.keep ps,st.2):=by
 refine ab1 fun r=>?_;rw[Fs,Fs];exact Iff.rfl
theorem aD8(cx:Cx)(id:Nat)(c:XC)(st:St):bV L cx (.blk id c) st=(bV L cx c st).map (Ex.Ir id):=by
 refine ab1 fun r=>?_;rw[Fs];constructor
 ·rintro⟨n,hn⟩;obtain⟨q,hq,rfl⟩:=mE.mp hn;exact mE.mpr ⟨q,(Fs L).mpr ⟨n,hq⟩,rfl⟩
 ·intro hr;obtain⟨q,hq,rfl⟩:=mE.mp hr;obtain⟨n,hn⟩:=(Fs L).mp hq;exact⟨n,mE.mpr ⟨q,hn,rfl⟩⟩
theorem aD9(cx:Cx)(c:XC)(st:St) :
  bV L cx (.loop c) st=(bV L cx c st).bind fun(e,st)=>if e=.norm then bV L cx (.loop c) st else some (e,st):=by
 refine ab1 fun r=>?_;constructor
 ·intro h;obtain⟨n,hn⟩:=(Fs L).mp h
  cases n with
  |zero=>simp[exec,iter]at hn
  |succ n =>
   obtain⟨⟨e,st1⟩,h1,h2⟩:=bE.mp hn;refine bE.mpr ⟨_,(Fs L).mpr ⟨n+1,h1⟩, ?_⟩;dsimp only at h2⊢;split at h2
   ·rw[if_pos (by assumption)]
    refine(Fs L).mpr ⟨n+1, ?_⟩;exact ank (fun st=>Le.refl _) n (n+1) (by omega) _ _ h2
   ·rw[if_neg (by assumption)];exact h2
 ·intro h;obtain⟨⟨e,st1⟩,h1,h2⟩:=bE.mp h;obtain⟨n,hn⟩:=(Fs L).mp h1;dsimp only at h2;split at h2
  ·rename_i he;obtain⟨k,hk⟩:=(Fs L).mp h2;refine(Fs L).mpr ⟨max n k+1,bE.mpr ⟨_,Zu (Uh L (by omega)) cx n (max n k+1) (by omega) c _ _ hn, ?_⟩⟩
   dsimp only;rw[if_pos he];have:=Zu (Uh L (show k<=max n k+1 by omega)) cx k (max n k) (by omega) c
   exact ank (fun st=>Zu (Uh L (show k<=max n k+1 by omega)) cx k (max n k+1) (by omega) c st) k (max n k) (by omega) _ _ hk
  ·rename_i he;refine(Fs L).mpr ⟨n+1,bE.mpr ⟨_,Zu (Uh L (by omega)) cx n (n+1) (by omega) c _ _ hn, ?_⟩⟩
   dsimp only;rw[if_neg he];exact h2
theorem arG(cx:Cx)(s:Nat)(f:bD)(g:Nat)(env:Env)(h:Heap) :
  bV L cx (.Gm s f g) (env,h)=exec (run L) cx 0 (.Gm s f g) (env,h):=by
 refine ab1 fun r=>?_;rw[Fs];constructor
 ·rintro⟨n,hn⟩;simp only[exec]at hn⊢;split at hn
  ·exact Le.bind (Le.refl _) (fun x=>Le.bind ((axy L n).fn _ _ _ _) fun y=>Le.refl _) _ hn
  ·simp at hn
 ·intro hr;simp only[exec]at hr;split at hr
  ·rename_i it caps hf hrn;obtain⟨⟨ak,h1⟩,h2,hr⟩:=bE.mp hr;obtain⟨⟨v,h3⟩,h4,hr⟩:=bE.mp hr;obtain⟨n,hn⟩:=(I5 L).mp h4;refine⟨n, ?_⟩;simp only[exec,hf,hrn];exact bE.mpr ⟨_,h2,bE.mpr ⟨_,hn,hr⟩⟩
  ·simp at hr
theorem run_eq(f:Nat)(as:List AV)(h:Heap)(lo:Nat) :
  (run L).fn f as h lo=match L.IW f as h with
   |some r=>some (r,h)
   |none=>(L.FJ f).bind fun x=>L6 x (bV L) (L.brw f) as h lo:=by
 refine ab1 fun r=>?_;rw[I5]
 cases ho:L.IW f as h with
 |some q =>
  constructor
  ·rintro⟨n,hn⟩
   cases n with
   |zero=>simp[ex]at hn
   |succ n=>simpa only[ex,ho]using hn
  ·intro hr;exact⟨1,by simpa only[ex,ho]using hr⟩
 |none =>
  cases hx:L.FJ f with
  |none =>
   simp only[Option.bind_none];constructor
   ·rintro⟨n,hn⟩
    cases n with
    |zero=>simp[ex]at hn
    |succ n=>simp[ex,ho,hx]at hn
   ·intro h;simp at h
  |some x =>
   simp only[Option.bind_some];constructor
   ·rintro⟨n,hn⟩
    cases n with
    |zero=>simp[ex]at hn
    |succ n =>
     simp only[ex,ho,hx,Option.bind_some]at hn;exact axw (fun cx c st r hr=>(Fs L).mpr ⟨n,hr⟩) _ _ _ _ r hn
   ·intro hr
    have key:∀ as h lo r,enter x (bV L) as h lo=some r->∃ n,enter x (fun cx=>exec (ex L n) cx n) as h lo=some r:=by
     intro as h lo r hr;unfold enter at hr;split at hr
     ·rename_i hl;obtain⟨q,h1,h2⟩:=bE.mp hr;obtain⟨n,hn⟩:=(Fs L).mp h1;refine⟨n, ?_⟩;unfold enter;rw[if_pos hl];exact bE.mpr ⟨q,hn,h2⟩
     ·simp at hr
    unfold L6 at hr;split at hr
    ·rename_i hb;obtain⟨vs,h1,h2⟩:=bE.mp hr;obtain⟨q,h3,h4⟩:=bE.mp h2;obtain⟨n,hn⟩:=key _ _ _ _ h3;refine⟨n+1, ?_⟩;simp only[ex,ho,hx,Option.bind_some];unfold L6;rw[if_pos hb];exact bE.mpr ⟨vs,h1,bE.mpr ⟨q,hn,h4⟩⟩
    ·rename_i hb;obtain⟨n,hn⟩:=key _ _ _ _ hr;refine⟨n+1, ?_⟩;simp only[ex,ho,hx,Option.bind_some];unfold L6;rw[if_neg hb];exact hn
theorem aD'(d:kP)(id ak:Nat)(as:List AV)(h:Heap):(run L).rd d id ak as h=(L.qR d.g).bind fun x=>round x (bV L) d id ak as h:=by
 refine ab1 fun r=>?_;rw[arF]
 cases hx:L.qR d.g with
 |none =>
  simp only[Option.bind_none];constructor
  ·rintro⟨n,hn⟩
   cases n with
   |zero=>simp[ex]at hn
   |succ n=>simp[ex,hx]at hn
  ·intro h;simp at h
 |some x =>
  simp only[Option.bind_some];constructor
  ·rintro⟨n,hn⟩
   cases n with
   |zero=>simp[ex]at hn
   |succ n =>
    simp only[ex,hx,Option.bind_some]at hn;exact axx (fun cx c st r hr=>(Fs L).mpr ⟨n,hr⟩) _ _ _ _ _ r hn
  ·intro hr;unfold round at hr;split at hr
   ·rename_i hl;obtain⟨⟨e,I7,h1⟩,g1,g2⟩:=bE.mp hr;obtain⟨n,hn⟩:=(Fs L).mp g1;dsimp only at g2;split at g2
    ·rename_i he;split at g2
     ·rename_i v d' hid;split at g2
      ·rename_i hv;obtain⟨⟨e2,zk,h3⟩,g3,g4⟩:=bE.mp g2;obtain⟨k,hk⟩:=(Fs L).mp g3;refine⟨max n k+1, ?_⟩;simp only[ex,hx,Option.bind_some];unfold round;rw[if_pos hl];refine bE.mpr ⟨_,Zu (Uh L (Nat.le_max_left n k)) _ _ _ (Nat.le_max_left n k) _ _ _ hn, ?_⟩;dsimp only;rw[if_pos he,hid];dsimp only;rw[if_pos hv];exact bE.mpr ⟨_,Zu (Uh L (Nat.le_max_right n k)) _ _ _ (Nat.le_max_right n k) _ _ _ hk,g4⟩
      ·simp at g2
     ·simp at g2
    ·simp at g2
   ·simp at hr
end
end Go.VI
