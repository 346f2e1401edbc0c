/- What the functions on integers compute, part MA. -/
import Derived.Test.YtfpoegnmeoghpaaGreatDoorVSL
set_option linter.unusedVariables false
set_option linter.unusedSimpArgs false
/- Numbers as groups of four digits: what the operations on them come to, plainly. -/
namespace Go.VI.Num
def gv:List Int->Int
 |[]=>0
 |d::r=>d+10000*gv r
def dL(l:List Int):Prop:=∀ x∈l,0<=x/\x<=9999
theorem dL.cons{d:Int}{r:List Int}:dL (d::r)↔(0<=d/\d<=9999)/\dL r:=by simp[dL]
theorem dL.nil:dL []:=by simp[dL]
theorem qR:∀{l:List Int},dL l->0<=gv l
 |[],_=>by simp[gv]
 |d::r,h=>by
  have:=qR (dL.cons.mp h).2;have:=(dL.cons.mp h).1;simp only[gv];omega
theorem Ce:∀{l:List Int},dL l->gv l<10000^l.length
 |[],_=>by simp[gv]
 |d::r,h=>by
  have h1:=Ce (dL.cons.mp h).2;have h2:=(dL.cons.mp h).1;simp only[gv,List.length_cons,Int.pow_succ];generalize (10000:Int)^r.length=X at*;omega
theorem IL(a b:List Int):gv (a++b)=gv a+10000^a.length*gv b:=by
 induction a with
 |nil=>simp[gv]
 |cons d r ih =>
  simp only[List.cons_append,gv,ih,List.length_cons,Int.pow_succ];rw[Int.mul_add,Int.add_assoc,rY ((10000:Int)^r.length) 10000,Int.mul_assoc]
def Ag:Nat->Nat->List Int
 |0,_=>[]
 |f+1,n=>if n=0 then[] else((n%10000:Nat):Int)::Ag f (n/10000)
def aB(n:Nat):List Int:=Ag n n
theorem Vs:∀(f f' n:Nat),n<=f->n<=f'->Ag f n=Ag f' n
 |0,0,n,_,_=>rfl
 |0,f'+1,n,h,_=>by
  have:n=0:=by omega
  subst this;rfl
 |f+1,0,n,_,h=>by
  have:n=0:=by omega
  subst this;rfl
 |f+1,f'+1,n,h,h'=>by
  simp only[Ag];split
  ·rfl
  ·rw[Vs f f' (n/10000) (by omega) (by omega)]
theorem vO:aB 0=[]:=rfl
theorem xG{n:Nat}(h:n≠0):aB n=((n%10000:Nat):Int)::aB (n/10000):=by
 obtain⟨m,rfl⟩:∃ m,n=m+1:=⟨n-1,by omega⟩
 show Ag (m+1) (m+1)=_
 simp only[Ag,h,if_false];rw[Vs m ((m+1)/10000) _ (by omega) (aV _)]
 rfl
theorem lS(n:Nat):gv (aB n)=n:=by
 induction n using Nat.strongRecOn with
 |_ n ih =>
  by_cases h:n=0
  ·subst h;rfl
  ·rw[xG h,gv,ih (n/10000) (by omega)];omega
theorem nH(n:Nat):dL (aB n):=by
 induction n using Nat.strongRecOn with
 |_ n ih =>
  by_cases h:n=0
  ·subst h;exact dL.nil
  ·rw[xG h];exact dL.cons.mpr ⟨by omega,ih (n/10000) (by omega)⟩
theorem vP{n:Nat}:aB n=[]↔n=0:=by
 constructor
 ·intro h;have:=lS n;rw[h]at this;simp[gv]at this;omega
 ·rintro rfl;rfl
def yL(l:List Int):Prop:=∀ h:l≠[],l.getLast h≠0
theorem aeu(n:Nat):yL (aB n):=by
 induction n using Nat.strongRecOn with
 |_ n ih =>
  by_cases h:n=0
  ·subst h;intro h;exact absurd rfl h
  ·intro hne;by_cases h2:n/10000=0
   ·have:aB n=[((n%10000:Nat):Int)]:=by rw[xG h,h2];rfl
    simp only[this,List.getLast_singleton];omega
   ·have h3:aB (n/10000)≠[]:=fun e=>h2 (vP.mp e);have:=ih (n/10000) (by omega) h3
    simp only[xG h,List.getLast_cons h3];exact this
theorem yL.cons{d:Int}{r:List Int}(h:yL (d::r)):yL r:=fun hr=>by
 have:=h (by simp)
 rwa [List.getLast_cons hr]at this
theorem Vt:∀{l:List Int},dL l->yL l->aB (gv l).toNat=l
 |[],_,_=>rfl
 |d::r,hd,ht=>by
  have h1:=dL.cons.mp hd;have h2:=qR h1.2;have ih:=Vt h1.2 ht.cons;have e:(gv (d::r)).toNat=d.toNat+10000*(gv r).toNat:=by simp only[gv];omega
  have hne:(gv (d::r)).toNat≠0:=by
   intro h0;have hd0:d=0:=by omega
   have hr0:(gv r).toNat=0:=by omega
   rw[hr0]at ih;have:r=[]:=ih.symm;subst this;exact ht (by simp) (by simpa using hd0)
  rw[xG hne,e];have e1:(d.toNat+10000*(gv r).toNat)%10000=d.toNat:=by omega
  have e2:(d.toNat+10000*(gv r).toNat)/10000=(gv r).toNat:=by omega
  rw[e1,e2,ih];congr 1;omega
def jV(l:List Int):Nat->Nat
 |0=>0
 |k+1=>if l.getD k 0=0 then jV l k else k+1
theorem Cf(l:List Int):∀ k,jV l k<=k
 |0=>aV _
 |k+1=>by
  simp only[jV];split
  ·have:=Cf l k;omega
  ·omega
def dV(l:List Int):List Int:=l.take (jV l l.length)
theorem Vu(l:List Int):∀ k,k<=l.length->gv (l.take (jV l k))=gv (l.take k)
 |0,_=>rfl
 |k+1,h=>by
  simp only[jV];split
  ·rename_i h0;rw[Vu l k (by omega),qU (by omega),IL]
   rw[jC,gM (by omega)]at h0
   have h1:l[k]=0:=h0;simp[h1,gv]
  ·rfl
theorem NF(l:List Int):∀ k,k<=l.length->yL (l.take (jV l k))
 |0,_=>fun h=>absurd rfl h
 |k+1,h=>by
  simp only[jV];split
  ·exact NF l k (by omega)
  ·rename_i h0;intro hne;rw[jC,gM (by omega)]at h0
   have h1:¬ l[k]=0:=h0;simp only[qU (show k<l.length by omega),List.getLast_append_of_ne_nil,ne_eq,List.cons_ne_nil,not_false_eq_true,List.getLast_singleton]
   exact h1
theorem Cg{l:List Int}(h:dL l):dV l=aB (gv l).toNat:=by
 have h1:=Vu l l.length (aV _);rw[kP]at h1;have h2:dL (dV l):=fun x hx=>h x (um hx);have h3:=Vt h2 (NF l l.length (aV _));rw[<-h3];unfold dV;rw[h1]
def jf(g:Nat->Int)(n:Nat):Nat->Nat->Int->List Int
 |0,_,_=>[]
 |f+1,i,c =>
  if i<n\/c≠0 then
   if g i+c<0 then(g i+c+10000)::jf g n f (i+1) (-1)
   else if 10000<=g i+c then((g i+c)%10000)::jf g n f (i+1) ((g i+c)/10000)
   else(g i+c)::jf g n f (i+1) 0
  else[]
def sH(g:Nat->Int)(n:Nat):Nat->Nat->Int->Bool
 |0,i,c=>decide (¬ (i<n\/c≠0))
 |f+1,i,c =>
  if i<n\/c≠0 then
   if g i+c<0 then sH g n f (i+1) (-1)
   else if 10000<=g i+c then sH g n f (i+1) ((g i+c)/10000)
   else sH g n f (i+1) 0
  else true
def gs(g:Nat->Int):Nat->Nat->Int
 |0,_=>0
 |d+1,i=>g i+10000*gs g d (i+1)
theorem NG{g:Nat->Int}{n:Nat}(hg:∀ i,-9999<=g i/\g i<=100000000)(hz:∀ i,n<=i->g i=0):∀(f i:Nat) (c:Int),-1<=c->c<=20000->(i<=n->n-i+3<=f)->(n<i->(c≠0->2<=f)/\(10000<=c->3<=f))->0<=gs g (n-i) i+c ->
  gv (jf g n f i c)=gs g (n-i) i+c/\dL (jf g n f i c):=by
 intro f
 induction f with
 |zero =>
  intro i c h1 h2 h3 h4 h5;by_cases hi:i<=n
  ·have:=h3 hi;omega
  ·have e:n-i=0:=by omega
   rw[e]at h5⊢;have:=(h4 (by omega)).1
   have hc:c=0:=by
    rcases Decidable.em (c=0)with h|h
    ·exact h
    ·have:=this h;omega
   subst hc
   exact⟨by simp[jf,gv,gs],dL.nil⟩
 |succ f ih =>
  intro i c h1 h2 h3 h4 h5;by_cases hstop:i<n\/c≠0
  ·have hgi:=hg i
   have hstep:gs g (n-i) i=g i+10000*gs g (n-(i+1)) (i+1):=by
    by_cases hi:i<n
    ·have e:n-i=(n-(i+1))+1:=by omega
     rw[e];rfl
    ·have e1:n-i=0:=by omega
     have e2:n-(i+1)=0:=by omega
     rw[e1,e2,hz i (by omega)];rfl
   rw[hstep]at h5⊢;have hin:¬ i<n->g i=0:=fun h=>hz i (by omega)
   generalize hX:gs g (n-(i+1)) (i+1)=X at*
   have hX0:n<=i+1->X=0:=fun h=>by
    rw[<-hX,show n-(i+1)=0 by omega];rfl
   simp only[jf,hstop,if_true];by_cases c1:g i+c<0
   ·have hin2:i<n:=by
     rcases gJ i n with h|h
     ·exact h
     ·have:=hin (by omega);have:=hX0 (by omega);omega
    obtain⟨k1,k2⟩:=ih (i+1) (-1) (by omega) (by omega) (fun h=>by have:=h3 (by omega);omega) (fun h=>⟨fun _=>by have:=h3 (by omega);omega,fun h=>by omega⟩) (by rw[hX];omega)
    rw[hX]at k1;simp only[c1,if_true,gv];exact⟨by rw[k1];omega,dL.cons.mpr ⟨by omega,k2⟩⟩
   ·by_cases c2:10000<=g i+c
    ·obtain⟨k1,k2⟩:=ih (i+1) ((g i+c)/10000) (by omega) (by omega) (fun h=>by have:=h3 (by omega);omega) (fun h=>by
      rcases gJ i n with h6|h6
      ·have:=h3 (by omega);exact⟨fun _=>by omega,fun _=>by omega⟩
      ·have:=hin (by omega)
       rcases gJ n i with h7|h7
       ·have:=(h4 h7).2 (by omega);exact⟨fun _=>by omega,fun h=>by omega⟩
       ·have:=h3 h7;exact⟨fun _=>by omega,fun h=>by omega⟩) (by rw[hX];omega)
     rw[hX]at k1;simp only[c1,c2,if_true,if_false,gv];exact⟨by rw[k1];omega,dL.cons.mpr ⟨by omega,k2⟩⟩
    ·obtain⟨k1,k2⟩:=ih (i+1) 0 (by omega) (by omega) (fun h=>by have:=h3 (by omega);omega) (fun h=>⟨fun h=>absurd rfl h,fun h=>by omega⟩) (by rw[hX];omega)
     rw[hX]at k1;simp only[c1,c2,if_false,gv];exact⟨by rw[k1];omega,dL.cons.mpr ⟨by omega,k2⟩⟩
  ·have hc:c=0:=by omega
   have hi:n-i=0:=by omega
   subst hc;simp only[jf,hstop,if_false,hi];exact⟨by simp[gv,gs],dL.nil⟩
theorem NH{g:Nat->Int}{n:Nat}(hg:∀ i,-9999<=g i/\g i<=100000000)(hz:∀ i,n<=i->g i=0):∀(f i:Nat) (c:Int),-1<=c->c<=20000->(i<=n->n-i+3<=f)->(n<i->(c≠0->2<=f)/\(10000<=c->3<=f))->0<=gs g (n-i) i+c ->
  sH g n f i c=true:=by
 intro f
 induction f with
 |zero =>
  intro i c h1 h2 h3 h4 h5;by_cases hi:i<=n
  ·have:=h3 hi;omega
  ·have e:n-i=0:=by omega
   rw[e]at h5;have:=(h4 (by omega)).1
   have hc:c=0:=by
    rcases Decidable.em (c=0)with h|h
    ·exact h
    ·have:=this h;omega
   subst hc
   simp only[sH,decide_eq_true_eq];omega
 |succ f ih =>
  intro i c h1 h2 h3 h4 h5;by_cases hstop:i<n\/c≠0
  ·have hgi:=hg i
   have hstep:gs g (n-i) i=g i+10000*gs g (n-(i+1)) (i+1):=by
    by_cases hi:i<n
    ·have e:n-i=(n-(i+1))+1:=by omega
     rw[e];rfl
    ·have e1:n-i=0:=by omega
     have e2:n-(i+1)=0:=by omega
     rw[e1,e2,hz i (by omega)];rfl
   rw[hstep]at h5;have hin:¬ i<n->g i=0:=fun h=>hz i (by omega)
   generalize hX:gs g (n-(i+1)) (i+1)=X at*
   have hX0:n<=i+1->X=0:=fun h=>by
    rw[<-hX,show n-(i+1)=0 by omega];rfl
   simp only[sH,hstop,if_true];by_cases c1:g i+c<0
   ·have hin2:i<n:=by
     rcases gJ i n with h|h
     ·exact h
     ·have:=hin (by omega);have:=hX0 (by omega);omega
    have k1:=ih (i+1) (-1) (by omega) (by omega) (fun h=>by have:=h3 (by omega);omega) (fun h=>⟨fun _=>by have:=h3 (by omega);omega,fun h=>by omega⟩) (by rw[hX];omega)
    rw[if_pos c1];exact k1
   ·by_cases c2:10000<=g i+c
    ·have k1:=ih (i+1) ((g i+c)/10000) (by omega) (by omega) (fun h=>by have:=h3 (by omega);omega) (fun h=>by
      rcases gJ i n with h6|h6
      ·have:=h3 (by omega);exact⟨fun _=>by omega,fun _=>by omega⟩
      ·have:=hin (by omega)
       rcases gJ n i with h7|h7
       ·have:=(h4 h7).2 (by omega);exact⟨fun _=>by omega,fun h=>by omega⟩
       ·have:=h3 h7;exact⟨fun _=>by omega,fun h=>by omega⟩) (by rw[hX];omega)
     rw[if_neg c1,if_pos c2];exact k1
    ·have k1:=ih (i+1) 0 (by omega) (by omega) (fun h=>by have:=h3 (by omega);omega) (fun h=>⟨fun h=>absurd rfl h,fun h=>by omega⟩) (by rw[hX];omega)
     rw[if_neg c1,if_neg c2];exact k1
  ·have hc:c=0:=by omega
   have hi:n-i=0:=by omega
   subst hc;simp only[sH,hstop,if_false]
theorem oD(l:List Int):∀(d i:Nat),l.length<=i+d->gs (fun j=>l.getD j 0) d i=gv (l.drop i)
 |0,i,h=>by rw[kQ (by omega)];rfl
 |d+1,i,h=>by
  have ih:=oD l d (i+1) (by omega)
  simp only[gs,ih];by_cases c:i<l.length
  ·rw[gY c,gv,jC,gM c];rfl
  ·rw[kQ (by omega),kQ (by omega),jC,zR (by omega)];rfl
theorem IQ(f g:Nat->Int):∀(d i:Nat),gs (fun j=>f j+g j) d i=gs f d i+gs g d i
 |0,_=>rfl
 |d+1,i=>by simp only[gs,IQ f g d (i+1)];omega
theorem IU(f g:Nat->Int):∀(d i:Nat),gs (fun j=>f j-g j) d i=gs f d i-gs g d i
 |0,_=>rfl
 |d+1,i=>by simp only[gs,IU f g d (i+1)];omega
theorem IV(f:Nat->Int)(k:Int):∀(d i:Nat),gs (fun j=>f j*k) d i=gs f d i*k
 |0,_=>by simp[gs]
 |d+1,i=>by simp only[gs,IV f k d (i+1)];rw[Int.add_mul,Int.mul_assoc]
theorem nI{l:List Int}(h:dL l)(i:Nat):0<=l.getD i 0/\l.getD i 0<=9999:=by
 by_cases c:i<l.length
 ·rw[jC,gM c];exact h _ (ja c)
 ·rw[jC,zR (by omega)];simp
theorem uJ{l:List Int}{i:Nat}(h:l.length<=i):l.getD i 0=0:=by
 rw[jC,zR h];rfl
theorem aev{a b:List Int}(ha:dL a)(hb:dL b):dV (jf (fun i=>a.getD i 0+b.getD i 0) (max a.length b.length) (max a.length b.length+3) 0 0)=aB (gv a+gv b).toNat:=by
 have h:=NG (g:=fun i=>a.getD i 0+b.getD i 0) (n:=max a.length b.length) (fun i=>by have:=nI ha i;have:=nI hb i;omega) (fun i hi=>by rw[uJ (by omega),uJ (by omega)];rfl)
  (max a.length b.length+3) 0 0 (by omega) (by omega) (fun _=>by omega) (fun h=>by omega) (by
   rw[IQ,oD a _ _ (by omega),oD b _ _ (by omega)]
   have:=qR ha;have:=qR hb;simp only[List.drop_zero];omega)
 rw[Cg h.2,h.1,IQ,oD a _ _ (by omega),oD b _ _ (by omega),List.drop_zero,List.drop_zero,sI]
theorem aew{a b:List Int}(ha:dL a)(hb:dL b)(hl:b.length<=a.length)(hle:gv b<=gv a):dV (jf (fun i=>a.getD i 0-b.getD i 0) a.length (a.length+3) 0 0)=aB (gv a-gv b).toNat:=by
 have h:=NG (g:=fun i=>a.getD i 0-b.getD i 0) (n:=a.length) (fun i=>by have:=nI ha i;have:=nI hb i;omega) (fun i hi=>by rw[uJ (by omega),uJ (by omega)];rfl)
  (a.length+3) 0 0 (by omega) (by omega) (fun _=>by omega) (fun h=>by omega) (by
   rw[IU,oD a _ _ (by omega),oD b _ _ (by omega)]
   simp only[List.drop_zero];omega)
 rw[Cg h.2,h.1,IU,oD a _ _ (by omega),oD b _ _ (by omega),List.drop_zero,List.drop_zero,sI]
theorem aex{a:List Int}(ha:dL a){k:Int}(hk:0<=k/\k<=10000):dV (jf (fun i=>a.getD i 0*k) a.length (a.length+3) 0 0)=aB (gv a*k).toNat:=by
 have h:=NG (g:=fun i=>a.getD i 0*k) (n:=a.length) (fun i=>by
   have h1:=nI ha i;have h2:0<=a.getD i 0*k:=Int.mul_nonneg h1.1 hk.1;have h3:a.getD i 0*k<=9999*10000:=Int.mul_le_mul h1.2 hk.2 hk.1 (by omega)
   omega) (fun i hi=>by rw[uJ (by omega),Int.zero_mul])
  (a.length+3) 0 0 (by omega) (by omega) (fun _=>by omega) (fun h=>by omega) (by
   rw[IV,oD a _ _ (by omega),List.drop_zero,sI]
   exact Int.mul_nonneg (qR ha) hk.1)
 rw[Cg h.2,h.1,IV,oD a _ _ (by omega),List.drop_zero,sI]
def qV(a b:List Int):Nat->Int
 |0=>0
 |k+1=>if a.getD k 0=b.getD k 0 then qV a b k else if a.getD k 0<b.getD k 0 then -1 else 1
def bR(a b:Int):Int:=if a<b then -1 else if a=b then 0 else 1
theorem Vv{a b:List Int}(ha:dL a)(hb:dL b):∀ k,k<=a.length->k<=b.length->qV a b k=bR (gv (a.take k)) (gv (b.take k))
 |0,_,_=>rfl
 |k+1,h1,h2=>by
  have ih:=Vv ha hb k (by omega) (by omega)
  have da:dL (a.take k):=fun x hx=>ha x (um hx);have db:dL (b.take k):=fun x hx=>hb x (um hx);have la:=Ce da;have lb:=Ce db;have na:=qR da;have nb:=qR db;have ea:(a.take k).length=k:=by simp;omega
  have eb:(b.take k).length=k:=by simp;omega
  rw[ea]at la;rw[eb]at lb;have ga:a.getD k 0=a[k]:=by rw[jC,gM (by omega)];rfl
  have gb:b.getD k 0=b[k]:=by rw[jC,gM (by omega)];rfl
  rw[qU (by omega),qU (by omega),IL,IL,ea,eb]
  simp only[qV,ga,gb,gv,Int.mul_zero,sI];rw[ih];generalize gv (a.take k)=A at*;generalize gv (b.take k)=B at*;generalize (10000:Int)^k=X at*;generalize a[k]=x at*;generalize b[k]=y at*;by_cases c1:x=y
  ·subst c1;rw[if_pos rfl];unfold bR;have e1:(A+X*x<B+X*x)↔A<B:=by omega
   have e2:(A+X*x=B+X*x)↔A=B:=by omega
   simp only[e1,e2]
  ·rw[if_neg c1];by_cases c2:x<y
   ·rw[if_pos c2];have:X*(x+1)<=X*y:=Ah (by omega) (by omega)
    rw[Int.mul_add,Int.mul_one]at this;unfold bR;rw[if_pos (by omega)]
   ·rw[if_neg c2];have:X*(y+1)<=X*x:=Ah (by omega) (by omega)
    rw[Int.mul_add,Int.mul_one]at this;unfold bR;rw[if_neg (by omega),if_neg (by omega)]
theorem Vw{a:Int}(h:1<=a){m n:Nat}(hmn:m<=n):a^m<=a^n:=by
 obtain⟨k,rfl⟩:∃ k,n=m+k:=⟨n-m,by omega⟩
 clear hmn
 induction k with
 |zero=>exact iK _
 |succ k ih =>
  have h0:0<=a^(m+k):=Int.pow_nonneg (by omega)
  have h1:a^(m+k)*1<=a^(m+k)*a:=Ah h h0;rw[Int.mul_one]at h1;rw[show m+(k+1)=m+k+1 from rfl,Int.pow_succ]
  exact Int.le_trans ih h1
theorem NI{a b:Nat}(h:(aB a).length<(aB b).length):a<b:=by
 have h1:=Ce (nH a);rw[lS]at h1;have hb:aB b≠[]:=by intro e;rw[e]at h;simp at h
 -- the last group of b is at least one
 obtain⟨i,x,e⟩:∃(i:List Int) (x:Int),aB b=i++[x]:=⟨(aB b).dropLast,(aB b).getLast hb,(List.dropLast_concat_getLast hb).symm⟩
 have hx:x≠0:=by
  have:=aeu b hb;simp only[e,List.getLast_append_of_ne_nil,ne_eq,List.cons_ne_nil,not_false_eq_true,List.getLast_singleton]at this;exact this
 have hd:=nH b;rw[e]at hd;have hx2:=hd x (by simp)
 have hi:dL i:=fun y hy=>hd y (by simp[hy])
 have h3:=qR hi;have h2:=lS b;rw[e,IL]at h2;simp only[gv,Int.mul_zero,sI]at h2;have hl:(aB a).length<=i.length:=by rw[e]at h;simp at h;omega
 have h4:(10000:Int)^(aB a).length<=10000^i.length:=Vw (by omega) hl
 have h5:(10000:Int)^i.length*1<=10000^i.length*x:=Ah (by omega) (Int.pow_nonneg (by omega))
 rw[Int.mul_one]at h5;omega
theorem yM{a b:Nat}(h:a<=b):(aB a).length<=(aB b).length:=by
 rcases gJ (aB b).length (aB a).length with h1|h1
 ·have:=NI h1;omega
 ·exact h1
def cmpL(a b:List Int):Int:=if a.length=b.length then qV a b a.length else if a.length<b.length then -1 else 1
theorem NJ(a b:Nat):cmpL (aB a) (aB b)=bR a b:=by
 unfold cmpL;by_cases h:(aB a).length=(aB b).length
 ·rw[if_pos h,Vv (nH a) (nH b) _ (aV _) (by omega),kP,h,kP,lS,lS]
 ·rw[if_neg h];by_cases h2:(aB a).length<(aB b).length
  ·have:=NI h2;rw[if_pos h2];unfold bR;rw[if_pos (by omega)]
  ·have:=NI (a:=b) (b:=a) (by omega)
   rw[if_neg h2];unfold bR;rw[if_neg (by omega),if_neg (by omega)]
end Go.VI.Num
/- Decimal texts of numbers of any size. -/
namespace Go.VI.Num
def uK(c:UInt8):Prop:=48<=c.toNat/\c.toNat<=57
def oF(l:List UInt8):Prop:=∀ c∈l,uK c
def dv(acc:Nat)(l:List UInt8):Nat:=l.foldl (fun a c=>a*10+(c.toNat-48)) acc
theorem uL(acc:Nat):dv acc []=acc:=rfl
theorem vQ(acc:Nat)(c:UInt8)(r:List UInt8):dv acc (c::r)=dv (acc*10+(c.toNat-48)) r:=by unfold dv;rw[List.foldl_cons]
theorem NK(a b:List UInt8)(acc:Nat):dv acc (a++b)=dv (dv acc a) b:=List.foldl_append
theorem Vx(l:List UInt8):∀ acc,dv acc l=acc*10^l.length+dv 0 l:=by
 induction l with
 |nil=>intro acc;rw[uL,uL,kz,Nat.pow_zero,Nat.mul_one,Nat.add_zero]
 |cons c r ih =>
  intro acc;rw[vQ,vQ,ih,ih (0*10+(c.toNat-48)),Nat.zero_mul,je,List.length_cons,Nat.pow_succ,gX,Nat.add_assoc,qG (10^r.length) 10,Nat.mul_assoc]
theorem NM{l:List UInt8}(h:oF l):dv 0 l<10^l.length:=by
 induction l with
 |nil=>rw[uL];exact Nat.one_pos
 |cons c r ih =>
  have h1:=ih fun x hx=>h x (by simp[hx])
  have h2:=h c (by simp)
  unfold uK at h2;rw[vQ,Vx,List.length_cons,Nat.pow_succ,Nat.zero_mul,je];have h3:(c.toNat-48)*10^r.length<=9*10^r.length:=lg _ (by omega)
  generalize (c.toNat-48)*10^r.length=Y at*;generalize 10^r.length=X at*;omega
def dec(n:Nat):List UInt8:=pX (n+1) n
theorem Vy(n:Nat):n<10^(n+1):=by
 induction n with
 |zero=>decide
 |succ n ih =>
  rw[Nat.pow_succ];generalize 10^(n+1)=X at*;omega
theorem BO:∀(f f' u:Nat),u<10^f->u<10^f'->0<f->0<f'->pX f u=pX f' u
 |0,_,_,_,_,h,_=>by omega
 |_+1,0,_,_,_,_,h=>by omega
 |f+1,f'+1,u,h1,h2,_,_=>by
  simp only[pX];split
  ·rfl
  ·rename_i h3
   have hf:0<f:=by
    rcases oN f with h|h
    ·subst h;simp at h1;omega
    ·exact h
   have hf':0<f':=by
    rcases oN f' with h|h
    ·subst h;simp at h2;omega
    ·exact h
   rw[Nat.pow_succ,qG]at h1 h2;rw[BO f f' (u/10) (Nat.div_lt_of_lt_mul h1) (Nat.div_lt_of_lt_mul h2) hf hf']
theorem NN{f u:Nat}(h:u<10^f)(hf:0<f):pX f u=dec u:=BO _ _ _ h (Vy u) hf (by omega)
theorem sJ{u:Nat}(h:u<10):dec u=[UInt8.ofNat (48+u)]:=by simp[dec,pX,h]
theorem nJ{u:Nat}(h:10<=u):dec u=dec (u/10)++[UInt8.ofNat (48+u%10)]:=by
 have h1:¬ u<10:=by omega
 have:dec u=pX u (u/10)++[UInt8.ofNat (48+u%10)]:=by simp only[dec,pX,h1,if_false]
 rw[this,NN _ (by omega)]
 have:=Vy (u/10);exact qE this (uM (by omega) (by omega))
theorem ET{d:Nat}(h:d<10):(UInt8.ofNat (48+d)).toNat=48+d:=by
 rw[UInt8.toNat_ofNat'];omega
theorem EU(n:Nat):oF (dec n):=by
 induction n using Nat.strongRecOn with
 |_ n ih =>
  intro c hc;rcases gJ n 10 with h|h
  ·rw[sJ h,xk]at hc;subst hc;unfold uK;rw[ET h];omega
  ·rw[nJ h,iJ,xk]at hc;rcases hc with hc|hc
   ·exact ih (n/10) (by omega) c hc
   ·subst hc;unfold uK;rw[ET (by omega)];omega
theorem Ci(n:Nat):dv 0 (dec n)=n:=by
 induction n using Nat.strongRecOn with
 |_ n ih =>
  rcases gJ n 10 with h|h
  ·rw[sJ h,vQ,uL,ET h];omega
  ·rw[nJ h,NK,ih (n/10) (by omega),vQ,uL,ET (by omega)];omega
theorem xH(n:Nat):dec n≠[]:=by
 rcases gJ n 10 with h|h
 ·rw[sJ h];simp
 ·rw[nJ h];simp
def IW(l:List UInt8):Prop:=l≠[]/\(l=[48]\/l.head?≠some 48)
theorem aey(n:Nat):IW (dec n):=by
 refine⟨xH n, ?_⟩
 induction n using Nat.strongRecOn with
 |_ n ih =>
  rcases gJ n 10 with h|h
  ·rw[sJ h];by_cases h0:n=0
   ·subst h0;exact .inl rfl
   ·refine .inr fun e=>?_;simp only[List.head?_cons,aP]at e;have:=congrArg UInt8.toNat e;rw[ET h]at this;simp at this;omega
  ·right;rw[nJ h];have h1:=xH (n/10);rw[List.head?_append];obtain⟨c,r,hc⟩:=Ai h1;rcases ih (n/10) (by omega)with h2|h2
   ·have:=Ci (n/10);rw[h2,vQ,uL]at this;have e48:(48:UInt8).toNat=48:=rfl;rw[e48]at this;omega
   ·rw[hc]at h2⊢;simpa using h2
theorem aez:∀(k:Nat) (l:List UInt8),l.length=k->oF l->IW l->dec (dv 0 l)=l:=by
 intro k
 induction k with
 |zero=>intro l hl _ h;exact absurd (List.length_eq_zero_iff.mp hl) h.1
 |succ k ih =>
  intro l hl hd hn;obtain⟨i,c,rfl⟩:∃ i c,l=i++[c]:=⟨l.dropLast,l.getLast hn.1,(List.dropLast_concat_getLast hn.1).symm⟩;have hc:=hd c (by simp)
  unfold uK at hc
  have hu:UInt8.ofNat (48+(c.toNat-48))=c:=by
   rw[show 48+(c.toNat-48)=c.toNat by omega]
   exact UInt8.ofNat_toNat
  rw[NK];by_cases hi:i=[]
  ·subst hi;rw[List.nil_append,uL,vQ,uL,Nat.zero_mul,je,sJ (by omega),hu]
  ·have hni:IW i:=by
    refine⟨hi, ?_⟩;obtain⟨x,r,rfl⟩:=Ai hi;rcases hn.2 with h|h
    ·simp at h
    ·right;simpa using h
   have hdi:oF i:=fun x hx=>hd x (by simp[hx])
   have e:=ih i (by simp at hl;omega) hdi hni
   rw[vQ,uL]
   have hpos:1<=dv 0 i:=by
    rcases oN (dv 0 i)with h|h
    ·rw[h,sJ (by omega)]at e
     rcases hn.2 with h2|h2
     ·rw[<-e]at h2;simp at h2
     ·rw[<-e]at h2;simp at h2
    ·exact h
   rw[nJ (by omega)]
   have e1:(dv 0 i*10+(c.toNat-48))/10=dv 0 i:=by omega
   have e2:(dv 0 i*10+(c.toNat-48))%10=c.toNat-48:=by omega
   rw[e1,e2,e,hu]
theorem xI{n k:Nat}(hk:0<k):(dec n).length<=k↔n<10^k:=by
 constructor
 ·intro h;have:=NM (EU n);rw[Ci]at this;exact qE this (uM (by omega) h)
 ·intro h
  induction k generalizing n with
  |zero=>omega
  |succ k ih =>
   rcases gJ n 10 with h1|h1
   ·rw[sJ h1];simp
   ·rw[nJ h1,dZ,List.length_singleton];rw[Nat.pow_succ,qG]at h
    have hk:0<k:=by
     rcases oN k with h0|h0
     ·subst h0;simp at h;omega
     ·exact h0
    have:=ih (n:=n/10) hk (Nat.div_lt_of_lt_mul h);omega
def qa(d:Nat):List UInt8:=[UInt8.ofNat (48+d/1000),UInt8.ofNat (48+d/100%10),UInt8.ofNat (48+d/10%10),UInt8.ofNat (48+d%10)]
theorem aeA{n:Nat}(h:10000<=n):dec n=dec (n/10000)++qa (n%10000):=by
 rw[nJ (by omega),nJ (u:=n/10) (by omega),nJ (u:=n/10/10) (by omega),nJ (u:=n/10/10/10) (by omega)]
 have e0:n/10/10/10/10=n/10000:=by omega
 have e1:n/10/10/10%10=n%10000/1000:=by omega
 have e2:n/10/10%10=n%10000/100%10:=by omega
 have e3:n/10%10=n%10000/10%10:=by omega
 have e4:n%10=n%10000%10:=by omega
 rw[e0,e1,e2,e3,e4];simp[qa]
theorem aeB{d:Nat}(h:d<10000):List.replicate (4-(dec d).length) 48++dec d=qa d:=by
 have z:(48:UInt8)=UInt8.ofNat (48+0):=rfl;unfold qa;rcases gJ d 10 with h1|h1
 ·rw[sJ h1];have e1:d/1000=0:=by omega
  have e2:d/100%10=0:=by omega
  have e3:d/10%10=0:=by omega
  have e4:d%10=d:=by omega
  rw[e1,e2,e3,e4];rfl
 ·rcases gJ d 100 with h2|h2
  ·rw[nJ h1,sJ (u:=d/10) (by omega)]
   have e1:d/1000=0:=by omega
   have e2:d/100%10=0:=by omega
   have e3:d/10%10=d/10:=by omega
   rw[e1,e2,e3];rfl
  ·rcases gJ d 1000 with h3|h3
   ·rw[nJ h1,nJ (u:=d/10) (by omega),sJ (u:=d/10/10) (by omega)]
    have e1:d/1000=0:=by omega
    have e2:d/100%10=d/10/10:=by omega
    rw[e1,e2];rfl
   ·rw[nJ h1,nJ (u:=d/10) (by omega),nJ (u:=d/10/10) (by omega),sJ (u:=d/10/10/10) (by omega)]
    have e1:d/1000=d/10/10/10:=by omega
    have e2:d/100%10=d/10/10%10:=by omega
    rw[e1,e2];rfl
def EW:List Int->List UInt8
 |[]=>[]
 |d::r=>if r=[]then dec d.toNat else EW r++qa d.toNat
theorem aeC{n:Nat}(h:n≠0):EW (aB n)=dec n:=by
 induction n using Nat.strongRecOn with
 |_ n ih =>
  rw[xG h];simp only[EW,vP,qW];rcases gJ n 10000 with h1|h1
  ·rw[if_pos (by omega),Nat.mod_eq_of_lt h1]
  ·rw[if_neg (by omega),ih (n/10000) (by omega) (by omega),<-aeA h1]
theorem Vz:∀(l:List UInt8) (acc:Nat),oF l->(acc+1)*10^l.length<=10^18->Lib.parseUint10 acc l=.ok (dv acc l)
 |[],acc,_,_=>rfl
 |c::r,acc,h,hb=>by
  have hc:=h c (by simp)
  have hc2:=hc;unfold uK at hc2;rw[List.length_cons,Nat.pow_succ]at hb;have h10:1<=10^r.length:=Nat.pos_of_ne_zero (by simp)
  have hb2:(acc+1)*10*10^r.length<=10^18:=by rw[Nat.mul_assoc,qG 10];exact hb
  have h1:(acc+1)*10<=10^18:=kY (Nat.le_mul_of_pos_right _ h10) hb2;have e18:(10:Nat)^18=1000000000000000000:=by decide
  rw[e18]at h1;simp only[Lib.parseUint10,hc2,and_self,if_true];rw[if_neg (by omega),if_neg (by omega),vQ]
  refine Vz r _ (fun x hx=>h x (by simp[hx])) (kY (lg _ ?_) hb2)
  omega
theorem aeD{l:List UInt8}(h:oF l)(hl:l≠[])(hn:l.length<=18):Lib.atoiAll l=.ok ((dv 0 l:Nat):Int):=by
 obtain⟨c,r,rfl⟩:=Ai hl;have hc:=h c (by simp)
 unfold uK at hc
 have hp:Lib.parseMag (c::r)=.ok (dv 0 (c::r)):=by
  unfold Lib.parseMag;rw[if_neg (by simp),Vz _ _ h]
  rw[je,Nat.one_mul];exact uM (by omega) hn
 have hlt:=NM h;have hle:10^(c::r).length<=10^18:=uM (by omega) hn
 have e18:(10:Nat)^18=1000000000000000000:=by decide
 have n1:¬ (c.toNat=43\/c.toNat=45):=by omega
 have n2:¬ c.toNat=45:=by omega
 have hb:¬ 9223372036854775808<=dv 0 (c::r):=by
  rw[e18]at hle;generalize 10^(c::r).length=X at*;omega
 unfold Lib.atoiAll;simp only[];rw[if_neg n1,hp];simp only[n2,if_false,not_false_eq_true,true_and,false_and,hb]
end Go.VI.Num
/- Integers as texts: which texts are integers, and what they are worth. -/
namespace Go.VI.Num
def ds:List UInt8:=[48,49,50,51,52,53,54,55,56,57]
theorem NP(b:UInt8):ds.contains b=true↔uK b:=by
 unfold ds uK;simp only[List.contains_cons,List.contains_nil,kN,beq_iff_eq,<-UInt8.toNat_inj,Bool.or_false];simp only[UInt8.reduceToNat];omega
theorem dropWhile_nil{α:Type}{p:α->Bool}:∀{l:List α},l.dropWhile p=[]->∀ x∈l,p x=true
 |[],_,x,hx=>by simp at hx
 |a::l,h,x,hx=>by
  rw[List.dropWhile_cons]at h;split at h
  ·rename_i ha;rcases gq.mp hx with rfl|hx
   ·exact ha
   ·exact dropWhile_nil h x hx
  ·cases h
theorem VA{α:Type}{p:α->Bool}:∀{l:List α},(∀ x∈l,p x=true)->l.dropWhile p=[]
 |[],_=>rfl
 |a::l,h=>by rw[List.dropWhile_cons,if_pos (h a (by simp))];exact VA fun x hx=>h x (by simp[hx])
theorem VB{α:Type}{p:α->Bool}:∀{l:List α} {x:α},x∈l.takeWhile p->p x=true
 |[],x,h=>by simp at h
 |a::l,x,h=>by
  rw[List.takeWhile_cons]at h;split at h
  ·rename_i ha;rcases gq.mp h with rfl|h
   ·exact ha
   ·exact VB h
  ·simp at h
theorem NQ{l:List UInt8}:Lib.trimS l ds=[]↔oF l:=by
 unfold Lib.trimS Lib.trimLeftS Lib.trimRightS;constructor
 ·intro h c hc;have h1:=dropWhile_nil h;have h2:c∈l.reverse:=by simpa using hc
  rw[<-List.takeWhile_append_dropWhile (p:=fun b=>ds.contains b) (l:=l.reverse),iJ]at h2;rcases h2 with h2|h2
  ·exact(NP c).mp (VB (p:=fun b=>ds.contains b) h2)
  ·exact(NP c).mp (h1 c (by simpa using h2))
 ·intro h;have:l.reverse.dropWhile (fun b=>ds.contains b)=[]:=VA fun x hx=>(NP x).mpr (h x (by simpa using hx))
  rw[this];rfl
def aO(z:Int):List UInt8:=if z<0 then 45::dec z.natAbs else dec z.natAbs
def body(s:List UInt8):List UInt8:=Lib.trimPrefix s [45]
theorem IX(r:List UInt8):body (45::r)=r:=by simp[body,Lib.trimPrefix,Lib.hasPrefix]
theorem NR{s:List UInt8}(h:s.head?≠some 45):body s=s:=by
 cases s with
 |nil=>rfl
 |cons c r =>
  have:c≠45:=fun e=>h (by rw[e];rfl)
  have h2:¬ (45:UInt8)=c:=fun e=>this e.symm;simp[body,Lib.trimPrefix,Lib.hasPrefix,List.isPrefixOf,h2]
theorem NS(n:Nat):(dec n).head?≠some 45:=by
 intro h;have h1:=EU n;obtain⟨c,r,e⟩:=Ai (xH n);rw[e]at h h1;simp only[List.head?_cons,aP]at h;subst h;have:=h1 45 (by simp)
 unfold uK at this;simp at this
theorem NT(z:Int):body (aO z)=dec z.natAbs:=by
 unfold aO;split
 ·exact IX _
 ·exact NR (NS _)
def qX(s:List UInt8):Bool:=!(body s).isEmpty&&decide ((body s).length<=200)&&(Lib.trimS (body s) ds).isEmpty&&(s==[48]||!((body s).head?==some 48))
theorem oG{z:Int}(h:z.natAbs<10^200):qX (aO z)=true:=by
 have h1:Lib.trimS (dec z.natAbs) ds=[]:=NQ.mpr (EU _);have h2:=(xI (n:=z.natAbs) (k:=200) (by omega)).mpr h
 have h3:(dec z.natAbs).isEmpty=false:=by
  cases hd:dec z.natAbs with
  |nil=>exact absurd hd (xH _)
  |cons=>rfl
 unfold qX;rw[NT,h1,h3,decide_eq_true h2];simp only[vR,List.isEmpty_nil,nK];rcases(aey z.natAbs).2 with h4|h4
 ·have:z=0:=by
   have h5:=Ci z.natAbs;rw[h4,vQ,uL]at h5;have e48:(48:UInt8).toNat=48:=rfl;rw[e48]at h5;omega
  subst this;rfl
 ·rw[kN];right;simpa using h4
def zv(s:List UInt8):Int:=if s.head?=some 45 then -(dv 0 (body s):Int)else dv 0 (body s)
theorem IY(z:Int):zv (aO z)=z:=by
 unfold zv;rw[NT,Ci];by_cases h:z<0
 ·have:(aO z).head?=some 45:=by unfold aO;rw[if_pos h];rfl
  rw[if_pos this];omega
 ·have:(aO z).head?≠some 45:=by unfold aO;rw[if_neg h];exact NS _
  rw[if_neg this];omega
theorem VD{s:List UInt8}(h:qX s=true):s=aO (zv s)/\(zv s).natAbs<10^200:=by
 unfold qX at h;simp only[bg,ku,decide_eq_true_eq,rX,List.isEmpty_eq_false_iff]at h;obtain⟨⟨⟨h1,h2⟩,h3⟩,h4⟩:=h;have hd:=NQ.mp h3
 have hlead:IW (body s):=by
  refine⟨h1, ?_⟩;simp only[kN,beq_iff_eq,ku,beq_eq_false_iff_ne]at h4;rcases h4 with h4|h4
  ·subst h4;left;rfl
  ·exact .inr h4
 have e:=aez _ _ rfl hd hlead
 have hlt:dv 0 (body s)<10^200:=by
  refine(xI (by omega)).mp ?_
  rw[e];exact h2
 by_cases hs:s.head?=some 45
 ·obtain⟨c,r,rfl⟩:∃ c r,s=c::r:=by cases s with|nil=>cases hs|cons c r=>exact⟨c,r,rfl⟩
  simp only[List.head?_cons,aP]at hs;subst hs;rw[IX]at *;have hz:zv (45::r)=-(dv 0 r:Int):=by unfold zv;rw[IX,if_pos (show (45::r).head?=some (45:UInt8)from rfl)]
  have hpos:dv 0 r≠0:=by
   intro h0;rw[h0]at e;simp only[kN,beq_iff_eq,ku,beq_eq_false_iff_ne]at h4;rcases h4 with h4|h4
   ·simp at h4
   ·rw[<-e]at h4;exact h4 rfl
  rw[hz];refine⟨?_,by omega⟩
  unfold aO;rw[if_pos (by omega)]
  have:(-(dv 0 r:Int)).natAbs=dv 0 r:=by omega
  rw[this,e]
 ·have hb:=NR hs;rw[hb]at e hlt;have hz:zv s=(dv 0 s:Int):=by unfold zv;rw[if_neg hs,hb]
  rw[hz];refine⟨?_,by omega⟩
  unfold aO;rw[if_neg (by omega),yN,e]
theorem NU{a b:Int}(h:aO a=aO b):a=b:=by rw[<-IY a,h,IY]
def oH:Nat->List UInt8->List Int
 |0,_=>[]
 |f+1,l=>if l=[] then[] else(dv 0 (l.drop (l.length-4)):Int)::oH f (l.take (l.length-4))
theorem VE:∀(f:Nat) (l:List UInt8),l.length<=f->oF l->gv (oH f l)=dv 0 l/\dL (oH f l)
 |0,l,h,_=>by
  have:l=[]:=List.length_eq_zero_iff.mp (by omega)
  subst this
  exact⟨rfl,dL.nil⟩
 |f+1,l,h,hd=>by
  by_cases h0:l=[]
  ·subst h0;exact⟨rfl,dL.nil⟩
  ·have hlen:0<l.length:=mR.mpr h0;have hd1:oF (l.take (l.length-4)):=fun x hx=>hd x (um hx);have hd2:oF (l.drop (l.length-4)):=fun x hx=>hd x (List.mem_of_mem_drop hx);obtain⟨k1,k2⟩:=VE f (l.take (l.length-4)) (by simp;omega) hd1
   have hlt:=NM hd2;have hl4:(l.drop (l.length-4)).length<=4:=by simp;omega
   have h4:10^(l.drop (l.length-4)).length<=10^4:=uM (by omega) hl4
   have e4:(10:Nat)^4=10000:=by decide
   rw[e4]at h4;simp only[oH,h0,if_false,gv,k1];refine⟨?_,dL.cons.mpr ⟨⟨by omega,by omega⟩,k2⟩⟩
   conv=>rhs;rw[<-zY (l.length-4) l]
   rw[NK,Vx (l.drop (l.length-4)) (dv 0 (l.take (l.length-4)))];rcases gJ l.length 4 with h5|h5
   ·have:l.length-4=0:=by omega
    rw[this,xC,List.drop_zero,uL,Nat.zero_mul,je];simp
   ·have:(l.drop (l.length-4)).length=4:=by simp;omega
    rw[this,e4];omega
end Go.VI.Num
/- The whole root of a number, and steps that fall until they stop at it. -/
namespace Go.VI.Num
end Go.VI.Num
namespace Go.VI.Num
def jW(q:Rat):Prop:=q.num.natAbs<10^200/\q.den<10^200
theorem VF{n d:Int}(hd:0<d):(Rat.divInt n d).num=n/(Int.gcd n d:Nat):=by
 rw[Rat.num_divInt,Int.sign_eq_one_of_pos hd,Int.one_mul,Int.gcd_comm]
theorem VG{n d:Int}(hd:0<d):((Rat.divInt n d).den:Int)=d/(Int.gcd n d:Nat):=by
 rw[Rat.den_divInt,if_neg (by omega),Int.gcd_comm]
 have:(d.natAbs:Int)=d:=by omega
 rw[Int.natCast_ediv,this]
theorem aeE(n:Int)(g:Nat)(hg:(g:Int)∣n):(n/(g:Int)).natAbs<=n.natAbs:=by
 rw[Int.natAbs_ediv_of_dvd hg];exact Nat.div_le_self _ _
theorem aeF{n d:Int}(hd:d≠0)(hn:n.natAbs<10^200)(hf:d.natAbs<10^200):jW (Rat.divInt n d):=by
 refine⟨?_, ?_⟩
 ·rw[Rat.num_divInt];refine Nat.lt_of_le_of_lt (aeE _ _ ?_) ?_
  ·exact Int.dvd_trans (Int.gcd_dvd_right ..) (Int.dvd_mul_left ..)
  ·rw[Int.natAbs_mul,Int.natAbs_sign_of_ne_zero hd,Nat.one_mul];exact hn
 ·rw[Rat.den_divInt,if_neg hd];exact Nat.lt_of_le_of_lt (Nat.div_le_self _ _) hf
def lU(s t:List UInt8):Bool:=qX s&&qX t&&decide (0<zv t)&&(Int.gcd (zv s) (zv t)==1)
theorem Aj{q:Rat}(h:jW q):lU (aO q.num) (aO (q.den:Int))=true:=by
 unfold lU;have hd:=q.den_pos;have hr:=q.reduced;rw[oG h.1,oG (z:=(q.den:Int)) (by rw[yN];exact h.2),IY,IY,decide_eq_true (by omega)]
 simp only[nK,beq_iff_eq];unfold Int.gcd;rw[yN];exact hr
def lV(a b:Rat):Int:=bR (a.num*b.den) (b.num*a.den)
theorem aeG{a b:Rat}:lV a b=-1↔a<b:=by
 rw[Rat.lt_iff];unfold lV bR;split<;>(try split)<;>omega
theorem aeH{a b:Rat}:lV a b=0↔a=b:=by
 rw[Rat.eq_iff_mul_eq_mul];unfold lV bR;split<;>(try split)<;>omega
theorem aeI{a b:Rat}:lV a b=1↔b<a:=by
 rw[Rat.lt_iff];unfold lV bR;split<;>(try split)<;>omega
theorem aeJ(a b:Rat):(lV a b=-1/\a<b)\/(lV a b=0/\a=b)\/(lV a b=1/\b<a):=by
 have h:lV a b=-1\/lV a b=0\/lV a b=1:=by unfold lV bR;split<;>(try split)<;>simp
 rcases h with h|h|h
 ·exact .inl ⟨h,aeG.mp h⟩
 ·exact .inr (.inl ⟨h,aeH.mp h⟩)
 ·exact .inr (.inr ⟨h,aeI.mp h⟩)
theorem aeK(a b:Int):bR a b=-bR b a:=by unfold bR;split<;>split<;>(try split)<;>omega
theorem aeL{n d m c:Int}(hd:0<d)(hc:0<c)(h:n/d≠m/c):bR (n/d) (m/c)=bR (n*c) (m*d):=by
 have e1:=Int.mul_ediv_add_emod n d;have e2:=Int.mul_ediv_add_emod m c;have l1:=Int.emod_nonneg n (by omega:d≠0)
 have l2:=Int.emod_nonneg m (by omega:c≠0)
 have u1:=Int.emod_lt_of_pos n hd;have u2:=Int.emod_lt_of_pos m hc
 have key:∀{n d m c:Int},0<d->0<c->n/d<m/c->n*c<m*d:=fun{n d m c} hd hc h=>by
  have u1:=Int.lt_ediv_add_one_mul_self n hd;have u2:=Int.ediv_mul_le m (by omega:c≠0)
  have h1:(n/d+1)*d*c<=(m/c)*d*c:=Int.mul_le_mul_of_nonneg_right (Int.mul_le_mul_of_nonneg_right (by omega) (by omega)) (by omega)
  have h2:n*c<(n/d+1)*d*c:=Int.mul_lt_mul_of_pos_right u1 hc;have h3:m/c*c*d<=m*d:=Int.mul_le_mul_of_nonneg_right u2 (by omega)
  have h4:(m/c)*d*c=m/c*c*d:=by rw[Int.mul_assoc,rY d c,<-Int.mul_assoc]
  omega
 by_cases h1:n/d<m/c
 ·have:=key hd hc h1;unfold bR;rw[if_pos h1,if_pos this]
 ·have:=key hc hd (by omega:m/c<n/d)
  unfold bR;rw[if_neg h1,if_neg h,if_neg (by omega),if_neg (by omega)]
theorem round_eq{n d m c:Int}(h:n/d=m/c):bR (n*c) (m*d)=bR ((n%d)*c) ((m%c)*d):=by
 have e1:=Int.mul_ediv_add_emod n d;have e2:=Int.mul_ediv_add_emod m c;have k1:n*c=d*(n/d)*c+(n%d)*c:=by rw[<-Int.add_mul,e1]
 have k2:m*d=c*(m/c)*d+(m%c)*d:=by rw[<-Int.add_mul,e2]
 have k3:d*(n/d)*c=c*(m/c)*d:=by
  rw[h,Int.mul_assoc,rY d,rY (m/c) c]
 unfold bR;rw[k1,k2,k3];simp only[Int.add_lt_add_iff_left,Int.add_right_inj]
theorem round_swap{d r c s:Int}:bR (d*s) (c*r)=-bR (r*c) (s*d):=by
 rw[aeK,rY d s,rY c r]
end Go.VI.Num
namespace Go.VI.Num
theorem VH(a b:Rat):Rat.divInt (a.num*b.den-b.num*a.den) ((a.den:Int)*b.den)=a-b:=by
 rw[Rat.sub_def',<-Rat.divInt_ofNat,Int.natCast_mul]
theorem aeM(a b:Rat):Rat.divInt (a.num*b.den) ((a.den:Int)*b.num)=a/b:=by
 rw[Rat.div_def,Rat.inv_def,<-Rat.divInt_mul_divInt,Rat.num_divInt_den]
theorem aeN{a b:Rat}:(a.den:Int)*b.num=0↔b=0:=by
 have:=a.den_pos;rw[Int.mul_eq_zero,Rat.num_eq_zero];constructor
 ·rintro(h|h)
  ·omega
  ·exact h
 ·exact .inr
def vS(n d:Int):Option Rat:=if d=0 then none else some (Rat.divInt n d)
def nM(z:Int):Bool:=decide (z.natAbs<10^200)
def sK(a b:Rat):Option Rat:=if nM (a.num*b.den)&&nM (b.num*a.den)&&nM (a.num*b.den-b.num*a.den)&&nM ((a.den:Int)*b.den)then some (a-b)else none
def Ak(a b:Rat):Option Rat:=if nM (a.num*b.den)&&nM ((a.den:Int)*b.num)&&decide (b≠0)then some (a/b)else none
end Go.VI.Num
namespace Go.VI.Num
end Go.VI.Num
namespace Go.VI.Num
end Go.VI.Num
namespace Go.VI.Num
open Go.VI
theorem VJ:aO 1=[49]:=rfl
end Go.VI.Num
namespace Go.VI.Num
open Go.VI
end Go.VI.Num
/- A delay unit: the course of a live programme, what is on the air, and what the laws say of it, plainly. -/
namespace Go.VI.Num
def fA(c:Int):Prop:=-9223372036854775808<=c/\c<=9223372036854775807
def fD(c n:Int):Int:=(if c<0 then -(c+1)else c)%n
theorem qY(c:Int){n:Int}(hn:0<n):0<=fD c n/\fD c n<n:=⟨Int.emod_nonneg _ (by omega),Int.emod_lt_of_pos _ hn⟩
abbrev Pr:=Int×Int
structure dI where
 L:Int
 D:Int
 E:Int
 P:List Pr
 C:List Pr
def hasB(l:List Pr)(s:Int):Bool:=l.any fun x=>decide (x.1<=s)&&decide (s<x.2)
def gL(l:List Pr)(a b:Int):Bool:=l.any fun x=>decide (x.1<b)&&decide (a<x.2)
def eY(L:Int):Int->List Pr->Bool
 |_,[]=>true
 |last,x::l=>decide (last<x.1)&&(decide (x.1<x.2)&&(decide (x.2<=L)&&eY L x.2 l))
structure dD(l:dI):Prop where
 L:1<=l.L/\l.L<=600
 D:0<=l.D/\l.D<=60
 E:1<=l.E/\l.E<=60
 P:eY l.L (-1) l.P=true
 C:eY l.L (-1) l.C=true
 p4:l.P.length<=4
 c4:l.C.length<=4
 Cj:∀ p∈l.P,gL l.C p.1 p.2=false
theorem VK{l:List Pr}{s:Int}:hasB l s=true↔∃ x∈l,x.1<=s/\s<x.2:=by simp[hasB]
theorem Al{l:List Pr}{s:Int}:hasB l s=false↔∀ x∈l,x.1<=s->x.2<=s:=by
 simp[hasB]
theorem qb{l:List Pr}{a b:Int}:gL l a b=false↔∀ x∈l,x.1<b->x.2<=a:=by
 simp[gL]
theorem IZ{l:List Pr}{a b k:Int}(h:gL l a b=false)(h1:a<=k)(h2:k<b):hasB l k=false:=by
 rw[Al];rw[qb]at h;intro x hx h3;have:=h x hx (by omega)
 omega
theorem uN{L:Int}:∀{l:List Pr} {a:Int},eY L a l=true->∀ x∈l,a<x.1/\x.1<x.2/\x.2<=L
 |[],_,_=>by simp
 |y::l,a,h=>by
  simp only[eY,bg,decide_eq_true_eq]at h;intro x hx;rcases gq.mp hx with rfl|hx
  ·exact⟨h.1,h.2.1,h.2.2.1⟩
  ·have:=uN h.2.2.2 x hx;omega
structure Stp where
 fr:Int
 to:Int
 be:Int
 af:Int
 de:Int
 cut:Bool
 str:Bool
def oW(l:dI)(s d:Int):Bool:=decide (d<l.D)&&(decide (s+l.E<=l.L)&&(!gL l.C s (s+l.E)&&!gL l.P s (s+l.E)))
inductive Ch(l:dI):Int->Int->List Stp->Int->Prop
 |nil (d:Int):Ch l l.L d [] d
 |kR {s d e:Int} {xs:List Stp}:s<l.L->hasB l.C s=true->0<d->Ch l (s+1) (d-1) xs e->Ch l s d (⟨s,s+1,s+d,s+d,d,true,false⟩::xs) e
 |kS {s d e:Int} {xs:List Stp}:s<l.L->hasB l.C s=true->d=0->Ch l (s+1) d xs e->Ch l s d (⟨s,s+1,s+d,s+d+1,d,true,false⟩::xs) e
 |str {s d e:Int} {xs:List Stp}:s<l.L->hasB l.C s=false->d<l.D->s+l.E<=l.L->gL l.C s (s+l.E)=false->gL l.P s (s+l.E)=false->Ch l (s+l.E) (d+1) xs e->Ch l s d (⟨s,s+l.E,s+d,s+d+l.E+1,d,false,true⟩::xs) e
 |pl {s d e:Int} {xs:List Stp}:s<l.L->hasB l.C s=false->oW l s d=false->Ch l (s+1) d xs e->Ch l s d (⟨s,s+1,s+d,s+d+1,d,false,false⟩::xs) e
def iE(s:Int)(n:Nat):List Int:=(List.range n).map fun(k:Nat)=>s+(k:Int)
@[simp] theorem aeO (s:Int) (n:Nat):(iE s n).length=n:=by simp [iE]
theorem VL{s y:Int}{n:Nat}:y∈iE s n↔s<=y/\y<s+n:=by
 simp only[iE,List.mem_map,List.mem_range];constructor
 ·rintro⟨k,h,rfl⟩;omega
 ·intro h;exact⟨(y-s).toNat,by omega,by omega⟩
theorem aeP{s:Int}{n k:Nat}(h:k<(iE s n).length):(iE s n)[k]=s+k:=by simp[iE]
theorem I4(s:Int)(n:Nat):iE s (n+1)=s::iE (s+1) n:=by
 unfold iE;rw[List.range_succ_eq_map,List.map_cons,List.map_map];congr 1
 ·omega
 ·apply List.map_congr_left;intro k _;simp only[Function.comp];omega
theorem I5(s:Int):iE s 0=[]:=rfl
theorem aeQ(s:Int)(n m:Nat):iE s (n+m)=iE s n++iE (s+n) m:=by
 induction n generalizing s with
 |zero=>simp[I5]
 |succ n ih =>
  rw[show n+1+m=(n+m)+1 by omega,I4,I4,ih,List.cons_append]
  congr 3;omega
def jg(x:Stp):List Int:=(List.range (x.af-x.be).toNat).map fun(k:Nat)=>if x.cut then -1 else max (x.to-(x.af-(x.be+(k:Int)))) x.fr
def dJ(xs:List Stp):List Int:=xs.flatMap jg
theorem I6(s a d:Int):jg ⟨s,s+1,a,a,d,true,false⟩=[]:=by simp[jg]
theorem I7(s a d:Int):jg ⟨s,s+1,a,a+1,d,true,false⟩=[-1]:=by
 simp only[jg,show (a+1-a).toNat=1 by omega];rfl
theorem Ck(s a d:Int):jg ⟨s,s+1,a,a+1,d,false,false⟩=[s]:=by
 simp only[jg,show (a+1-a).toNat=1 by omega,List.range_one,List.map_cons,List.map_nil,fJ,if_false]
 congr 1;omega
theorem Cm{E:Int}(hE:1<=E)(s a d:Int):jg ⟨s,s+E,a,a+E+1,d,false,true⟩=s::iE s E.toNat:=by
 simp only[jg,show (a+E+1-a).toNat=E.toNat+1 by omega,fJ,if_false]
 rw[List.range_succ_eq_map,List.map_cons,List.map_map];congr 1
 ·omega
 ·unfold iE;apply List.map_congr_left;intro k _;simp only[Function.comp];omega
def dR(xs:List Stp):List Int:=xs.flatMap fun x=>List.replicate (x.to-x.fr).toNat x.de
section
variable {l:dI}
theorem Ch.le(hE:1<=l.E){s d e:Int}{xs:List Stp}(h:Ch l s d xs e):s<=l.L:=by cases h<;>omega
theorem Ch.dl{s d e:Int}{xs:List Stp}(h:Ch l s d xs e):0<=d->d<=l.D->0<=e/\e<=l.D:=by
 induction h with
 |nil d=>intro h1 h2;exact⟨h1,h2⟩
 |kR _ _ _ _ ih=>intro h1 h2;exact ih (by omega) (by omega)
 |kS _ _ _ _ ih=>intro h1 h2;exact ih (by omega) (by omega)
 |str _ _ _ _ _ _ _ ih=>intro h1 h2;exact ih (by omega) (by omega)
 |pl _ _ _ _ ih=>intro h1 h2;exact ih (by omega) (by omega)
theorem Ch.EX(hE:1<=l.E){s d e:Int}{xs:List Stp}(h:Ch l s d xs e):((dJ xs).length:Int)=(l.L-s)+(e-d):=by
 induction h with
 |nil d=>simp[dJ]
 |kR _ _ _ _ ih=>rw[dJ,List.flatMap_cons,I6,List.nil_append];rw[dJ]at ih;omega
 |kS _ _ _ _ ih=>rw[dJ,List.flatMap_cons,I7,dZ,List.length_singleton];rw[dJ]at ih;omega
 |str _ _ _ _ _ _ _ ih=>rw[dJ,List.flatMap_cons,Cm hE,dZ,List.length_cons,aeO];rw[dJ]at ih;omega
 |pl _ _ _ _ ih=>rw[dJ,List.flatMap_cons,Ck,dZ,List.length_singleton];rw[dJ]at ih;omega
theorem oI(x:Stp)(xs:List Stp):dJ (x::xs)=jg x++dJ xs:=rfl
theorem Ch.mem(hE:1<=l.E){s d e:Int}{xs:List Stp}(h:Ch l s d xs e):∀ y∈dJ xs,y=-1\/s<=y/\y<l.L/\hasB l.C y=false:=by
 induction h with
 |nil d=>simp[dJ]
 |kR _ _ _ _ ih =>
  intro y hy;rw[oI,I6,List.nil_append]at hy
  exact(ih y hy).imp id fun h=>⟨by omega,h.2⟩
 |kS _ _ _ _ ih =>
  intro y hy;rw[oI,I7,List.singleton_append,gq]at hy;rcases hy with h|hy
  ·exact .inl h
  ·exact(ih y hy).imp id fun h=>⟨by omega,h.2⟩
 |str h1 h2 h3 h4 h5 h6 _ ih =>
  intro y hy;rw[oI,Cm hE,List.cons_append,gq,iJ,VL]at hy;rcases hy with rfl|hy|hy
  ·exact .inr ⟨by omega,by omega,h2⟩
  ·exact .inr ⟨by omega,by omega,IZ h5 (by omega) (by omega)⟩
  ·exact(ih y hy).imp id fun h=>⟨by omega,h.2⟩
 |pl h1 h2 h3 _ ih =>
  intro y hy;rw[oI,Ck,List.singleton_append,gq]at hy;rcases hy with rfl|hy
  ·exact .inr ⟨by omega,by omega,h2⟩
  ·exact(ih y hy).imp id fun h=>⟨by omega,h.2⟩
theorem Ch.split(hE:1<=l.E){b:Int}(hb:∀ s,s<b->gL l.C s (s+l.E)=false->gL l.P s (s+l.E)=false->s+l.E<=b){s d e:Int}{xs:List Stp}(h:Ch l s d xs e):s<=b->b<=l.L ->
  ∃ pre ys d',xs=pre++ys/\Ch l b d' ys e/\(∀ y∈dJ pre,y=-1\/s<=y/\y<b)/\(∀ x∈pre,s<=x.fr/\x.to<=b/\x.fr<b)/\((dR pre).length:Int)=b-s:=by
 induction h with
 |nil d=>intro h1 h2;exact⟨[],[],d,rfl,by rw[show b=l.L by omega];exact .nil d,by simp[dJ],by simp,by simp[dR];omega⟩
 |@kR s d e xs g1 g2 g3 g ih =>
  intro h1 h2;by_cases c:s=b
  ·subst c;exact⟨[],_,d,rfl,.kR g1 g2 g3 g,by simp[dJ],by simp,by simp[dR]⟩
  ·obtain⟨pre,ys,d',rfl,k1,k2,k3,k4⟩:=ih (by omega) h2
   refine⟨_::pre,ys,d',rfl,k1,fun y hy=>?_,fun x hx=>?_, ?_⟩
   ·rw[oI,I6,List.nil_append]at hy;have:=k2 y hy;omega
   ·rcases gq.mp hx with rfl|hx
    ·simp only[];omega
    ·have:=k3 x hx;omega
   ·simp only[dR,List.flatMap_cons,dZ,mh]at k4⊢;omega
 |@kS s d e xs g1 g2 g3 g ih =>
  intro h1 h2;by_cases c:s=b
  ·subst c;exact⟨[],_,d,rfl,.kS g1 g2 g3 g,by simp[dJ],by simp,by simp[dR]⟩
  ·obtain⟨pre,ys,d',rfl,k1,k2,k3,k4⟩:=ih (by omega) h2
   refine⟨_::pre,ys,d',rfl,k1,fun y hy=>?_,fun x hx=>?_, ?_⟩
   ·rw[oI,I7,List.singleton_append,gq]at hy;rcases hy with h|hy
    ·exact .inl h
    ·have:=k2 y hy;omega
   ·rcases gq.mp hx with rfl|hx
    ·simp only[];omega
    ·have:=k3 x hx;omega
   ·simp only[dR,List.flatMap_cons,dZ,mh]at k4⊢;omega
 |@str s d e xs g1 g2 g3 g4 g5 g6 g ih =>
  intro h1 h2;by_cases c:s=b
  ·subst c;exact⟨[],_,d,rfl,.str g1 g2 g3 g4 g5 g6 g,by simp[dJ],by simp,by simp[dR]⟩
  ·have hs:=hb s (by omega) g5 g6
   obtain⟨pre,ys,d',rfl,k1,k2,k3,k4⟩:=ih hs h2;refine⟨_::pre,ys,d',rfl,k1,fun y hy=>?_,fun x hx=>?_, ?_⟩
   ·rw[oI,Cm hE,List.cons_append,gq,iJ,VL]at hy;rcases hy with h|hy|hy
    ·exact .inr (by omega)
    ·exact .inr (by omega)
    ·have:=k2 y hy;omega
   ·rcases gq.mp hx with rfl|hx
    ·simp only[];omega
    ·have:=k3 x hx;omega
   ·simp only[dR,List.flatMap_cons,dZ,mh]at k4⊢;omega
 |@pl s d e xs g1 g2 g3 g ih =>
  intro h1 h2;by_cases c:s=b
  ·subst c;exact⟨[],_,d,rfl,.pl g1 g2 g3 g,by simp[dJ],by simp,by simp[dR]⟩
  ·obtain⟨pre,ys,d',rfl,k1,k2,k3,k4⟩:=ih (by omega) h2
   refine⟨_::pre,ys,d',rfl,k1,fun y hy=>?_,fun x hx=>?_, ?_⟩
   ·rw[oI,Ck,List.singleton_append,gq]at hy;rcases hy with h|hy
    ·exact .inr (by omega)
    ·have:=k2 y hy;omega
   ·rcases gq.mp hx with rfl|hx
    ·simp only[];omega
    ·have:=k3 x hx;omega
   ·simp only[dR,List.flatMap_cons,dZ,mh]at k4⊢;omega
theorem aeR{p:Pr}(hp:p∈l.C){b:Int}(h1:p.1<=b)(h2:b<=p.2):∀ s,s<b->gL l.C s (s+l.E)=false->gL l.P s (s+l.E)=false->s+l.E<=b:=by
 intro s hs h _;have:=qb.mp h p hp;omega
def dS(l:dI)(xs:List Stp):List Int:=List.replicate l.D.toNat (-1)++dJ xs
theorem sM(x:Stp)(xs:List Stp):dR (x::xs)=List.replicate (x.to-x.fr).toNat x.de++dR xs:=rfl
theorem Ch.VN(hE:1<=l.E){s d e:Int}{xs:List Stp}(h:Ch l s d xs e):((dR xs).length:Int)=l.L-s:=by
 induction h with
 |nil d=>simp[dR]
 |kR _ _ _ _ ih=>rw[sM,dZ,mh];simp only[];omega
 |kS _ _ _ _ ih=>rw[sM,dZ,mh];simp only[];omega
 |str _ _ _ _ _ _ _ ih=>rw[sM,dZ,mh];simp only[];omega
 |pl _ _ _ _ ih=>rw[sM,dZ,mh];simp only[];omega
theorem Ch.aeS{s d e:Int}{xs:List Stp}(h:Ch l s d xs e):0<=d->d<=l.D->∀ y∈dR xs,0<=y/\y<=l.D:=by
 induction h with
 |nil d=>simp[dR]
 |kR _ _ _ _ ih =>
  intro h1 h2 y hy;rw[sM,iJ,List.mem_replicate]at hy;rcases hy with⟨_,rfl⟩|hy
  ·exact⟨h1,h2⟩
  ·exact ih (by omega) (by omega) y hy
 |kS _ _ _ _ ih =>
  intro h1 h2 y hy;rw[sM,iJ,List.mem_replicate]at hy;rcases hy with⟨_,rfl⟩|hy
  ·exact⟨h1,h2⟩
  ·exact ih (by omega) (by omega) y hy
 |str _ _ _ _ _ _ _ ih =>
  intro h1 h2 y hy;rw[sM,iJ,List.mem_replicate]at hy;rcases hy with⟨_,rfl⟩|hy
  ·exact⟨h1,h2⟩
  ·exact ih (by omega) (by omega) y hy
 |pl _ _ _ _ ih =>
  intro h1 h2 y hy;rw[sM,iJ,List.mem_replicate]at hy;rcases hy with⟨_,rfl⟩|hy
  ·exact⟨h1,h2⟩
  ·exact ih (by omega) (by omega) y hy
def sN(l:dI)(t:Int):List Stp->Int
 |[]=>l.L
 |x::xs=>if t<=x.fr/\x.de=l.D then x.fr else sN l t xs
def uO(l:dI)(t acc:Int)(x:Stp):Int:=if acc=l.L/\t<=x.fr/\x.de=l.D then x.fr else acc
theorem VO{t:Int}:∀(xs:List Stp) {a:Int},a≠l.L->xs.foldl (uO l t) a=a
 |[],a,_=>rfl
 |x::xs,a,h=>by
  rw[List.foldl_cons,show uO l t a x=a from if_neg fun e=>h e.1]
  exact VO xs h
theorem VP{t:Int}:∀(xs:List Stp),(∀ x∈xs,x.fr≠l.L)->xs.foldl (uO l t) l.L=sN l t xs
 |[],_=>rfl
 |x::xs,h=>by
  rw[List.foldl_cons,sN];by_cases c:t<=x.fr/\x.de=l.D
  ·rw[if_pos c,show uO l t l.L x=x.fr from if_pos ⟨rfl,c⟩]
   exact VO xs (h x (by simp))
  ·rw[if_neg c,show uO l t l.L x=l.L from if_neg fun e=>c e.2]
   exact VP xs fun y hy=>h y (by simp[hy])
theorem Ch.fr(hE:1<=l.E){s d e:Int}{xs:List Stp}(h:Ch l s d xs e):∀ x∈xs,s<=x.fr/\x.fr<x.to/\x.to<=l.L:=by
 induction h with
 |nil d=>simp
 |kR g1 _ _ g ih=>intro x hx;rcases gq.mp hx with rfl|hx;(· simp only[];omega);(· have:=ih x hx;omega)
 |kS g1 _ _ g ih=>intro x hx;rcases gq.mp hx with rfl|hx;(· simp only[];omega);(· have:=ih x hx;omega)
 |str g1 _ _ g4 _ _ g ih=>intro x hx;rcases gq.mp hx with rfl|hx;(· simp only[];omega);(· have:=ih x hx;omega)
 |pl g1 _ _ g ih=>intro x hx;rcases gq.mp hx with rfl|hx;(· simp only[];omega);(· have:=ih x hx;omega)
theorem VQ{L:Int}{c:List Pr}(ho:eY L (-1) c=true){a b s t:Int}(h:∀ k,a<=k->k<b->hasB c k=false)(h1:a<=s)(h2:t<=b)(h0:s<t):gL c s t=false:=by
 rw[qb];intro x hx h3;have:=uN ho x hx;rcases Int.lt_or_le s x.2 with h4|h4
 ·have h5:=Al.mp (h (max s x.1) (by omega) (by omega)) x hx (by omega)
  omega
 ·exact h4
theorem Ch.de0(hE:1<=l.E){s d e:Int}{xs:List Stp}(h:Ch l s d xs e)(hs:s<l.L):(dR xs)[0]?=some d:=by
 cases h with
 |nil=>omega
 |kR=>rw[sM];simp only[show (s+1-s).toNat=1 by omega];rfl
 |kS=>rw[sM];simp only[show (s+1-s).toNat=1 by omega];rfl
 |str=>rw[sM];simp only[show (s+l.E-s).toNat=(l.E.toNat-1)+1 by omega];rfl
 |pl=>rw[sM];simp only[show (s+1-s).toNat=1 by omega];rfl
theorem EY(hE:1<=l.E):∀(n:Nat) (s d:Int),l.L-s<=n->s<=l.L->0<=d->∃ xs e,Ch l s d xs e
 |0,s,d,h1,h2,h3=>by
  obtain rfl:s=l.L:=by omega
  exact⟨_,_,.nil d⟩
 |n+1,s,d,h1,h2,h3=>by
  by_cases c:s=l.L
  ·subst c;exact⟨_,_,.nil d⟩
  ·cases hc:hasB l.C s
   ·cases hs:oW l s d
    ·obtain⟨xs,e,h⟩:=EY hE n (s+1) d (by omega) (by omega) h3
     exact⟨_,_,.pl (by omega) hc hs h⟩
    ·simp only[oW,bg,decide_eq_true_eq,ku]at hs;obtain⟨a1,a2,a3,a4⟩:=hs;obtain⟨xs,e,h⟩:=EY hE n (s+l.E) (d+1) (by omega) (by omega) (by omega)
     exact⟨_,_,.str (by omega) hc a1 a2 a3 a4 h⟩
   ·by_cases hd:0<d
    ·obtain⟨xs,e,h⟩:=EY hE n (s+1) (d-1) (by omega) (by omega) (by omega)
     exact⟨_,_,.kR (by omega) hc hd h⟩
    ·obtain⟨xs,e,h⟩:=EY hE n (s+1) d (by omega) (by omega) h3
     exact⟨_,_,.kS (by omega) hc (by omega) h⟩
end
end Go.VI.Num
/- A delay unit: runs, and the map of a run, plainly. -/
namespace Go.VI.Num
def sO(L:Int):Int->List Pr->List Pr
 |f,[]=>if f<L then[(f,L)] else[]
 |f,c::cs=>(if f<c.1 then[(f,c.1)] else[])++sO L c.2 cs
def oZ(b:Int):Int->List Pr->List Pr
 |f,[]=>if f<b then[(f,b)] else[]
 |f,c::cs=>if b<=c.1 then(if f<b then[(f,b)] else[]) else(if f<c.1 then[(f,c.1)] else[])++oZ b c.2 cs
def EZ(out:List Pr)(s:Int):Bool:=match out.getLast? with|some x=>decide (x.2=s)|none=>false
def runT(C:List Pr)(out:List Pr)(s:Int):List Pr :=
 if hasB C s then out else if EZ out s then out.dropLast++[((out.getLast?.getD (0,0)).1,s+1)]else out++[(s,s+1)]
theorem NV{L:Int}:∀(cs:List Pr) {a f b:Int},eY L a cs=true->b<=f->(∀ c∈cs.head?,f<=c.1)->oZ b f cs=[]
 |[],a,f,b,_,h,_=>by rw[oZ,if_neg (by omega)]
 |c::cs,a,f,b,_,h,h2=>by
  have:=h2 c (by simp)
  rw[oZ,if_pos (by omega),if_neg (by omega)]
theorem VR{L:Int}:∀(cs:List Pr) {a f:Int},eY L a cs=true->oZ L f cs=sO L f cs
 |[],a,f,_=>rfl
 |c::cs,a,f,h=>by
  simp only[eY,bg,decide_eq_true_eq]at h;rw[oZ,if_neg (by omega),sO,VR cs h.2.2.2]
theorem NW(a:List Pr)(x:Pr)(s:Int):EZ (a++[x]) s=decide (x.2=s):=by simp[EZ]
theorem Am{L a:Int}{cs:List Pr}(h:eY L a cs=true):∀ c∈cs.head?,a<c.1:=by
 cases cs with
 |nil=>simp
 |cons c cs =>
  simp only[eY,bg,decide_eq_true_eq]at h;intro x hx;obtain rfl:c=x:=by simpa using hx
  exact h.1
theorem VS{C O:List Pr}{f s:Int}(hc:hasB C s=false)(hO:∀ x∈O.getLast?,x.2<f)(hf:f<=s) :
  runT C (O++if f<s then[(f,s)] else[]) s=O++if f<s+1 then[(f,s+1)] else[]:=by
 unfold runT;rw[hc,if_neg (by simp),if_pos (show f<s+1 by omega)]
 by_cases c:f<s
 ·rw[if_pos c,NW,if_pos (by simp)]
  simp
 ·obtain rfl:f=s:=by omega
  rw[if_neg c,gP]
  have:EZ O f=false:=by
   unfold EZ;split
   ·rename_i x hx;have:=hO x hx;exact decide_eq_false (by omega)
   ·rfl
  rw[this,if_neg (by simp)]
theorem VT{L:Int}:∀(cs:List Pr) {a f s:Int} {C O:List Pr},eY L a cs=true->(∀ c∈cs.head?,f<=c.1)->(∀ x∈O.getLast?,x.2<f)->f<=s->hasB C s=hasB cs s ->
  runT C (O++oZ s f cs) s=O++oZ (s+1) f cs
 |[],a,f,s,C,O,_,_,hO,hf,hc=>VS hc hO hf
 |c::cs,a,f,s,C,O,h,hh,hO,hf,hc=>by
  have hfc:=hh c (by simp)
  have ho:=h;simp only[eY,bg,decide_eq_true_eq]at h;by_cases h1:s<c.1
  ·have hn:hasB (c::cs) s=false:=Al.mpr fun x hx h2=>by
    rcases gq.mp hx with rfl|hx
    ·omega
    ·have:=uN h.2.2.2 x hx;omega
   rw[oZ,if_pos (show s<=c.1 by omega),oZ,if_pos (show s+1<=c.1 by omega)]
   exact VS (hc.trans hn) hO hf
  ·by_cases h2:s<c.2
   ·have hn:hasB (c::cs) s=true:=VK.mpr ⟨c,by simp,by omega,h2⟩
    have h3:=NV cs (b:=s+1) (f:=c.2) h.2.2.2 (by omega) fun x hx=>by have:=Am h.2.2.2 x hx;omega
    have h4:=NV cs (b:=s) (f:=c.2) h.2.2.2 (by omega) fun x hx=>by have:=Am h.2.2.2 x hx;omega
    unfold runT;rw[hc,hn,if_pos rfl,oZ,oZ,if_neg (show ¬ s+1<=c.1 by omega),h3,h4]
    by_cases h5:s<=c.1
    ·obtain rfl:s=c.1:=by omega
     rw[if_pos (by omega),gP]
    ·rw[if_neg h5]
   ·have hn:hasB C s=hasB cs s:=by
     rw[hc];simp only[hasB,List.any_cons,show decide (s<c.2)=false from decide_eq_false h2,qZ,Bool.false_or]
    rw[oZ,if_neg (show ¬ s<=c.1 by omega),oZ,if_neg (show ¬ s+1<=c.1 by omega),<-eH,<-eH]
    refine VT cs h.2.2.2 (fun x hx=>by have:=Am h.2.2.2 x hx;omega) (fun x hx=>?_) (by omega) hn
    by_cases h6:f<c.1
    ·rw[if_pos h6,List.getLast?_append]at hx;simp at hx;subst hx;simp only[];omega
    ·rw[if_neg h6,gP]at hx;have:=hO x hx;omega
theorem VU{l:dI}(ok:dD l):∀ n:Nat,(iE 0 n).foldl (runT l.C) []=oZ n 0 l.C
 |0=>by
  rw[I5,nN,NV l.C ok.C (by omega) fun c hc=>by have:=Am ok.C c hc;omega]
 |n+1=>by
  rw[aeQ 0 n 1,List.foldl_append,VU ok n];have:=VT (O:=[]) l.C ok.C (f:=0) (s:=n) (C:=l.C) (fun c hc=>by have:=Am ok.C c hc;omega) (by simp) (by omega) rfl
  simp only[List.nil_append]at this;rw[show iE (0+(n:Int)) 1=[(n:Int)] by simp[iE],List.foldl_cons,nN,this]
  congr 1
theorem VW{L:Int}:∀(cs:List Pr) {a f:Int},eY L a cs=true->0<=f->(∀ c∈cs.head?,f<=c.1)->∀ r∈sO L f cs,f<=r.1/\r.1<r.2/\r.2<=L/\(r.1=f\/∃ c∈cs,c.2=r.1)/\(r.2=L\/∃ c∈cs,c.1=r.2)/\∀ c∈cs,r.2<=c.1\/c.2<=r.1
 |[],a,f,_,h0,_,r,hr=>by
  unfold sO at hr;split at hr
  ·simp only[xk]at hr;subst hr;exact⟨iK _,by assumption,iK _,.inl rfl,.inl rfl,by simp⟩
  ·simp at hr
 |c::cs,a,f,h,h0,hh,r,hr=>by
  have hfc:=hh c (by simp)
  simp only[eY,bg,decide_eq_true_eq]at h;rw[sO,iJ]at hr;rcases hr with hr|hr
  ·split at hr
   ·simp only[xk]at hr;subst hr;refine⟨iK _,by assumption,by simp only[];omega,.inl rfl,.inr ⟨c,by simp,rfl⟩,fun x hx=>?_⟩
    rcases gq.mp hx with rfl|hx
    ·exact .inl (iK _)
    ·have:=uN h.2.2.2 x hx;left;simp only[];omega
   ·simp at hr
  ·obtain⟨i1,i2,i3,i4,i5,i6⟩:=VW cs h.2.2.2 (f:=c.2) (by omega) (fun x hx=>by have:=Am h.2.2.2 x hx;omega) r hr
   refine⟨by omega,i2,i3, ?_, ?_,fun x hx=>?_⟩
   ·rcases i4 with i4|⟨x,hx,e⟩
    ·exact .inr ⟨c,by simp,i4.symm⟩
    ·exact .inr ⟨x,by simp[hx],e⟩
   ·rcases i5 with i5|⟨x,hx,e⟩
    ·exact .inl i5
    ·exact .inr ⟨x,by simp[hx],e⟩
   ·rcases gq.mp hx with rfl|hx
    ·exact .inr i1
    ·exact i6 x hx
theorem NY{L:Int}:∀(cs:List Pr) (f:Int),(sO L f cs).length<=cs.length+1
 |[],f=>by unfold sO;split<;>simp
 |c::cs,f=>by
  rw[sO,dZ,List.length_cons];have:=NY (L:=L) cs c.2;split<;>simp<;>omega
def gG(l:dI):List Pr:=sO l.L 0 l.C
structure Run(l:dI)(r:Pr):Prop where
 lo:0<=r.1
 lt:r.1<r.2
 hi:r.2<=l.L
 fr:r.1=0\/∃ c∈l.C,c.2=r.1
 to:r.2=l.L\/∃ c∈l.C,c.1=r.2
 no:∀ c∈l.C,r.2<=c.1\/c.2<=r.1
theorem NZ{l:dI}(ok:dD l){r:Pr}(h:r∈gG l):Run l r:=by
 obtain⟨i1,i2,i3,i4,i5,i6⟩:=VW l.C ok.C (f:=0) (by omega) (fun x hx=>by have:=Am ok.C x hx;omega) r h
 exact⟨i1,i2,i3,i4,i5,i6⟩
def jX(r:Pr)(st:Bool×List Pr)(x:Stp):Bool×List Pr :=
 if x.fr<r.1\/r.2<=x.fr then st
 else(x.str,(st.2++if x.fr=r.1\/x.str≠st.1 then[(x.fr,x.be)] else[])++if x.to=r.2 then[(x.to,x.af)] else[])
def uQ(r:Pr)(st:Bool×List Pr)(x:Stp):Bool×List Pr:=(x.str,(jX r st x).2)
def jJ(r:Pr)(xs:List Stp):List Pr:=(xs.foldl (jX r) (false,[])).2
def jl(b:Int):Bool->List Stp->List Pr
 |_,[]=>[]
 |f,x::xs=>if x.fr<b then((if x.str≠f then[(x.fr,x.be)] else[])++if x.to=b then[(x.to,x.af)] else[])++jl b x.str xs else[]
section
variable {l:dI}
theorem Ch.tail(hE:1<=l.E){s d e:Int}{x:Stp}{xs:List Stp}(h:Ch l s d (x::xs) e):x.fr=s/\x.be=s+d/\x.de=d/\s<x.to/\x.be<=x.af/\∃ d',Ch l x.to d' xs e/\x.af=x.to+d':=by
 cases h with
 |kR g1 g2 g3 g=>exact⟨rfl,rfl,rfl,by simp only[];omega,by simp only[];omega,_,g,by simp only[];omega⟩
 |kS g1 g2 g3 g=>exact⟨rfl,rfl,rfl,by simp only[];omega,by simp only[];omega,_,g,by simp only[];omega⟩
 |str g1 g2 g3 g4 g5 g6 g=>exact⟨rfl,rfl,rfl,by simp only[];omega,by simp only[];omega,_,g,by simp only[];omega⟩
 |pl g1 g2 g3 g=>exact⟨rfl,rfl,rfl,by simp only[];omega,by simp only[];omega,_,g,by simp only[];omega⟩
theorem I8(hE:1<=l.E){b:Int}{f:Bool}{s d e:Int}{xs:List Stp}(h:Ch l s d xs e)(hb:b<=s):jl b f xs=[]:=by
 cases xs with
 |nil=>rfl
 |cons x xs =>
  have:=h.tail hE;rw[jl,if_neg (by omega)]
theorem N7{r:Pr}:∀(xs:List Stp) {f:Bool} {K:List Pr},(∀ x∈xs,x.fr<r.1\/r.2<=x.fr)->xs.foldl (jX r) (f,K)=(f,K)
 |[],f,K,_=>rfl
 |x::xs,f,K,h=>by
  rw[List.foldl_cons,jX,if_pos (h x (by simp))]
  exact N7 xs fun y hy=>h y (by simp[hy])
theorem N8{r:Pr}:∀(xs:List Stp) {f:Bool} {K:List Pr},(∀ x∈xs,x.fr<r.1\/r.2<=x.fr)->(xs.foldl (uQ r) (f,K)).2=K
 |[],f,K,_=>rfl
 |x::xs,f,K,h=>by
  rw[List.foldl_cons,uQ,jX,if_pos (h x (by simp))]
  exact N8 xs fun y hy=>h y (by simp[hy])
theorem VX(hE:1<=l.E){r:Pr}:∀(xs:List Stp) {s d e:Int} {f:Bool} {K:List Pr},Ch l s d xs e->r.1<s->(xs.foldl (jX r) (f,K)).2=K++jl r.2 f xs
 |[],s,d,e,f,K,_,_=>by simp[jl]
 |x::xs,s,d,e,f,K,h,hs=>by
  obtain⟨t1,t2,t3,t4,_,d',t5,t6⟩:=h.tail hE;by_cases c:x.fr<r.2
  ·rw[List.foldl_cons,jX,if_neg (by omega),VX hE xs t5 (by omega),jl,if_pos c]
   have:(x.fr=r.1\/x.str≠f)↔x.str≠f:=⟨fun h=>h.resolve_left (by omega),.inr⟩
   simp only[this,eH]
  ·rw[N7 _ fun y hy=>by have:=h.fr hE y hy;omega,jl,if_neg c,gP]
theorem VY(hE:1<=l.E){r:Pr}:∀(xs:List Stp) {s d e:Int} {f:Bool} {K:List Pr},Ch l s d xs e->r.1<s->(xs.foldl (uQ r) (f,K)).2=K++jl r.2 f xs
 |[],s,d,e,f,K,_,_=>by simp[jl]
 |x::xs,s,d,e,f,K,h,hs=>by
  obtain⟨t1,t2,t3,t4,_,d',t5,t6⟩:=h.tail hE;by_cases c:x.fr<r.2
  ·rw[List.foldl_cons,uQ,jX,if_neg (by omega),VY hE xs t5 (by omega),jl,if_pos c]
   have:(x.fr=r.1\/x.str≠f)↔x.str≠f:=⟨fun h=>h.resolve_left (by omega),.inr⟩
   simp only[this,eH]
  ·rw[N8 _ fun y hy=>by have:=h.fr hE y hy;omega,jl,if_neg c,gP]
def E5(b:Int)(xs:List Stp):List Pr:=match xs with|[]=>[]|x::xs=>(x.fr,x.be)::((if x.to=b then[(x.to,x.af)] else[])++jl b x.str xs)
theorem VZ(hE:1<=l.E){r:Pr}(hr:r.1<r.2){pre ys:List Stp}{d e:Int}(h:Ch l r.1 d ys e)(hp:∀ x∈pre,x.fr<r.1)(f:Bool) :
  ((pre++ys).foldl (jX r) (f,[])).2=E5 r.2 ys/\((pre++ys).foldl (uQ r) (f,[])).2=E5 r.2 ys:=by
 rw[List.foldl_append,List.foldl_append,N7 pre fun x hx=>.inl (hp x hx)];have h2:=N8 (r:=r) pre (f:=f) (K:=[]) fun x hx=>.inl (hp x hx);obtain⟨g,K⟩:∃ g,pre.foldl (uQ r) (f,[])=(g,[]):=⟨_,Prod.ext rfl h2⟩;rw[K]
 cases ys with
 |nil=>exact⟨rfl,rfl⟩
 |cons x xs =>
  obtain⟨t1,t2,t3,t4,_,d',t5,t6⟩:=h.tail hE;constructor
  ·rw[List.foldl_cons,jX,if_neg (by omega),if_pos (.inl t1),VX hE xs t5 (by omega)]
   simp[E5]
  ·rw[List.foldl_cons,uQ,jX,if_neg (by omega),if_pos (.inl t1),VY hE xs t5 (by omega)]
   simp[E5]
theorem I9(ok:dD l){r:Pr}(hr:Run l r){xs:List Stp}{e:Int}(h:Ch l 0 l.D xs e) :
  ∃ pre ys d,xs=pre++ys/\Ch l r.1 d ys e/\(∀ y∈dJ pre,y=-1\/0<=y/\y<r.1)/\(∀ x∈pre,x.fr<r.1/\x.to<=r.1)/\0<=d/\d<=l.D/\((dJ pre).length:Int)=r.1+d-l.D:=by
 have hD:=ok.D;rcases hr.fr with h0|⟨c,hc,h0⟩
 ·exact⟨[],xs,l.D,rfl,by rw[h0];exact h,by simp[dJ],by simp,hD.1,iK _,by rw[h0];simp[dJ]⟩
 ·have hL:=uN ok.C c hc;have hl:=h.EX ok.E.1;have hb:=h.aeS hD.1 (iK _);obtain⟨pre,ys,d',rfl,k1,k2,k3,k4⟩:=h.split ok.E.1 (aeR hc (b:=r.1) (by omega) (by omega)) hr.lo (by have:=hr.lt;have:=hr.hi;omega)
  have e0:=k1.de0 ok.E.1 (by have:=hr.lt;have:=hr.hi;omega)
  have hd:=hb d' (by rw[dR,List.flatMap_append];exact List.mem_append_right _ (wT e0))
  have hl2:=k1.EX ok.E.1;rw[dJ,List.flatMap_append,dZ]at hl;rw[dJ]at hl2;exact⟨pre,ys,d',rfl,k1,k2,fun x hx=>⟨(k3 x hx).2.2,(k3 x hx).2.1⟩,hd.1,hd.2,by rw[dJ];omega⟩
def lD(b:Int):Bool->List Stp->Nat
 |_,[]=>0
 |f,x::xs=>if x.fr<b then(if x.str≠f then 1 else 0)+lD b x.str xs else 0
def uP(l:dI)(s:Int):Nat:=l.P.countP fun p=>decide (s<p.2)
theorem cnt_mono{s t:Int}(h:s<=t)(P:List Pr):P.countP (fun p=>decide (t<p.2))<=P.countP fun p=>decide (s<p.2) :=
 List.countP_mono_left fun x _ hx=>by simp at hx⊢;omega
theorem cnt_lt{s t:Int}:∀{P:List Pr} {p:Pr},p∈P->s<p.2->p.2<=t->s<=t->P.countP (fun p=>decide (t<p.2))<P.countP fun p=>decide (s<p.2)
 |q::P,p,hp,h1,h2,h3=>by
  rw[List.countP_cons,List.countP_cons];rcases gq.mp hp with rfl|hp
  ·have:=cnt_mono h3 P;rw[if_neg (by simp;omega),if_pos (by simp;omega)]
   omega
  ·have:=cnt_lt hp h1 h2 h3;by_cases c:t<q.2
   ·rw[if_pos (by simp;omega),if_pos (by simp;omega)];omega
   ·rw[if_neg (by simp;omega)];omega
theorem sP(hE:1<=l.E){b:Int}{f:Bool}{s d e:Int}{xs:List Stp}(h:Ch l s d xs e)(hb:b<=s):lD b f xs=0:=by
 cases xs with
 |nil=>rfl
 |cons x xs =>
  have:=h.tail hE;rw[lD,if_neg (by omega)]
theorem Ch.few(ok:dD l){b:Int}{s d e:Int}{xs:List Stp}(h:Ch l s d xs e):d<=l.D->(∀ k,s<=k->k<b->hasB l.C k=false) ->
  lD b false xs<=2*uP l s+2/\lD b true xs<=2*uP l s+1/\((d=l.D\/l.L<s+l.E\/∃ c∈l.C,c.1<s+l.E/\s<c.2)->lD b false xs=0)/\∀ p∈l.P,p.1<s+l.E->s<p.2->lD b false xs<=2*uP l s:=by
 have hE:=ok.E.1;have mono:=fun(s t:Int) (h:s<=t)=>show uP l t<=uP l s from cnt_mono h l.P
 induction h with
 |nil d=>intro _ _;simp[lD]
 |@kR s d e xs g1 g2 g3 g ih =>
  intro hd hc
  have hb:b<=s:=by
   rcases Int.lt_or_le s b with h|h
   ·have:=hc s (iK _) h;rw[this]at g2;cases g2
   ·exact h
  rw[sP hE (.kR g1 g2 g3 g) hb,sP hE (.kR g1 g2 g3 g) hb]
  exact⟨by omega,by omega,fun _=>rfl,fun _ _ _ _=>by omega⟩
 |@kS s d e xs g1 g2 g3 g ih =>
  intro hd hc
  have hb:b<=s:=by
   rcases Int.lt_or_le s b with h|h
   ·have:=hc s (iK _) h;rw[this]at g2;cases g2
   ·exact h
  rw[sP hE (.kS g1 g2 g3 g) hb,sP hE (.kS g1 g2 g3 g) hb]
  exact⟨by omega,by omega,fun _=>rfl,fun _ _ _ _=>by omega⟩
 |@str s d e xs g1 g2 g3 g4 g5 g6 g ih =>
  intro hd hc;obtain⟨i1,i2,i3,i4⟩:=ih (by omega) fun k a c=>hc k (by omega) c
  have m:=mono s (s+l.E) (by omega)
  by_cases hb:s<b
  ·simp only[lD];rw[if_pos hb,if_pos hb,if_pos (by simp),if_neg (by simp)]
   refine⟨by omega,by omega,fun h=>?_,fun p hp h1 h2=>?_⟩
   ·rcases h with h|h|⟨c,hc,h1,h2⟩
    ·omega
    ·omega
    ·have:=qb.mp g5 c hc h1;omega
   ·have:=qb.mp g6 p hp h1;omega
  ·rw[sP hE (.str g1 g2 g3 g4 g5 g6 g) (by omega),sP hE (.str g1 g2 g3 g4 g5 g6 g) (by omega)]
   exact⟨by omega,by omega,fun _=>rfl,fun _ _ _ _=>by omega⟩
 |@pl s d e xs g1 g2 g3 g ih =>
  intro hd hc;obtain⟨i1,i2,i3,i4⟩:=ih (by omega) fun k a c=>hc k (by omega) c
  have m:=mono s (s+1) (by omega)
  have p3:∀ c∈l.C,c.1<s+l.E->s<c.2->lD b false xs=0:=fun c hc h1 h2=>i3 (.inr (.inr ⟨c,hc,by omega,by
   have:=uN ok.C c hc;have:=Al.mp g2 c hc;omega⟩))
  have p4:∀ p∈l.P,p.1<s+l.E->s<p.2->lD b false xs<=2*uP l s:=fun p hp h1 h2=>by
   by_cases c:s+1<p.2
   ·have:=i4 p hp (by omega) c;omega
   ·have:uP l (s+1)<uP l s:=cnt_lt hp h2 (by omega) (by omega)
    omega
  have p5:(d=l.D\/l.L<s+l.E\/∃ c∈l.C,c.1<s+l.E/\s<c.2)->lD b false xs=0:=fun h=>by
   rcases h with h|h|⟨c,hc,h1,h2⟩
   ·exact i3 (.inl h)
   ·exact i3 (.inr (.inl (by omega)))
   ·exact p3 c hc h1 h2
  have p6:lD b false xs<=2*uP l s:=by
   simp only[oW,Bool.and_eq_false_iff,decide_eq_false_iff_not,Bool.not_eq_false']at g3;rcases g3 with g3|g3|g3|g3
   ·rw[p5 (.inl (by omega))];omega
   ·rw[p5 (.inr (.inl (by omega)))];omega
   ·simp only[gL,rZ,bg,decide_eq_true_eq]at g3;obtain⟨c,hc,h1,h2⟩:=g3;rw[p3 c hc h1 h2];omega
   ·simp only[gL,rZ,bg,decide_eq_true_eq]at g3;obtain⟨p,hp,h1,h2⟩:=g3;exact p4 p hp h1 h2
  by_cases hb:s<b
  ·simp only[lD];rw[if_pos hb,if_pos hb,if_neg (by simp),if_pos (by simp),je]
   exact⟨by omega,by omega,p5,p4⟩
  ·rw[sP hE (.pl g1 g2 g3 g) (by omega),sP hE (.pl g1 g2 g3 g) (by omega)]
   exact⟨by omega,by omega,fun _=>rfl,fun _ _ _ _=>by omega⟩
def vl(l:dI)(f:Bool)(a:Pr)(t:Int):Int:=a.1+if f then l.E*(t-a.2)/(l.E+1)else t-a.2
def Line(l:dI)(f:Bool)(a:Pr)(s y:Int):Prop:=if f then ∃ q:Nat,s=a.1+q*l.E/\y=a.2+q*(l.E+1)else y-a.2=s-a.1
def xJ(l:dI)(A:List Int)(f:Bool)(a:Pr)(y:Int):Prop:=∀ t,a.2<=t->t<y->A[t.toNat]?=some (vl l f a t)
structure Seg(l:dI)(A:List Int)(a b:Pr):Prop where
 x:a.1<b.1
 y:a.2<b.2
 ln:∃ f,Line l f a b.1 b.2/\xJ l A f a b.2
inductive Kn(l:dI)(A:List Int):Pr->List Pr->Prop
 |one (a:Pr):Kn l A a []
 |cons {a b:Pr} {K:List Pr}:Seg l A a b->Kn l A b K->Kn l A a (b::K)
theorem Ja(f:Bool)(a:Pr):Line l f a a.1 a.2:=by
 unfold Line;split
 ·exact⟨0,by simp,by simp⟩
 ·omega
theorem aeU{E:Int}(hE:1<=E)(q j:Nat)(hj:(j:Int)<=E):E*(q*(E+1)+j)/(E+1)=q*E+max ((j:Int)-1) 0:=by
 have e1:E*(q*(E+1)+j)=E*j+q*E*(E+1):=by rw[Int.mul_add];rw[Int.add_comm];congr 1;ac_rfl
 rw[e1,Int.add_mul_ediv_right _ _ (by omega),Int.add_comm]
 congr 1;rcases oN j with h|h
 ·subst h;rw[show ((0:Nat):Int)=0 from rfl,Int.mul_zero,Int.zero_ediv];omega
 ·have e2:E*j=(E+1-j)+(j-1)*(E+1):=by
   have h1:((j:Int)-1)*(E+1)=j*E+j-E-1:=by rw[Int.sub_mul,Int.mul_add];omega
   rw[h1,rY E j];omega
  rw[e2,Int.add_mul_ediv_right _ _ (by omega),Int.ediv_eq_zero_of_lt (by omega) (by omega)]
  omega
theorem V3(hE:1<=l.E){a:Pr}{s y:Int}{A B:List Int}(hA:∃ P,A=P++((s::iE s l.E.toNat)++B)/\(P.length:Int)=y)(h:Line l true a s y)(h2:xJ l A true a y):Line l true a (s+l.E) (y+l.E+1)/\xJ l A true a (y+l.E+1):=by
 obtain⟨q,rfl,rfl⟩:=h;refine⟨⟨q+1,by rw[Int.natCast_add,Int.add_mul];omega,by rw[Int.natCast_add,Int.add_mul];omega⟩,fun t h3 h4=>?_⟩
 rcases Int.lt_or_le t (a.2+q*(l.E+1))with h|h
 ·exact h2 t h3 h
 ·obtain⟨P,rfl,hP⟩:=hA;obtain⟨j,hj⟩:∃ j:Nat,t=a.2+q*(l.E+1)+j:=⟨(t-(a.2+q*(l.E+1))).toNat,by omega⟩
  subst hj;have e1:a.2+(q:Int)*(l.E+1)+j-a.2=q*(l.E+1)+j:=by omega
  rw[vl,if_pos rfl,e1,aeU hE q j (by omega),<-Int.add_assoc]
  have hi:(a.2+(q:Int)*(l.E+1)+j).toNat=P.length+j:=by omega
  rw[hi,iX (by omega),Nat.add_sub_cancel_left,gN (by simp;omega)]
  cases j with
  |zero=>simp;omega
  |succ j =>
   rw[List.getElem?_cons_succ,gM (by simp;omega),aeP]
   congr 1;omega
theorem V4{a:Pr}{s y:Int}{A B:List Int}(hA:∃ P,A=P++([s]++B)/\(P.length:Int)=y)(h:Line l false a s y)(h2:xJ l A false a y):Line l false a (s+1) (y+1)/\xJ l A false a (y+1):=by
 simp only[Line,fJ,if_false]at h;refine⟨by simp only[Line,fJ,if_false];omega,fun t h3 h4=>?_⟩
 rcases Int.lt_or_le t y with h5|h5
 ·exact h2 t h3 h5
 ·obtain rfl:t=y:=by omega
  obtain⟨P,rfl,hP⟩:=hA;rw[show t.toNat=P.length by omega,iX (by omega),Nat.sub_self,List.singleton_append,List.getElem?_cons_zero,vl]
  simp only[fJ,if_false];congr 1;omega
theorem Jb(f:Bool)(a:Pr)(A:List Int):xJ l A f a a.2:=fun t h1 h2=>by omega
theorem Ch.knees(ok:dD l){b:Int}(hb:∀ s,s<b->gL l.C s (s+l.E)=false->s+l.E<=l.L->s+l.E<=b){A:List Int}{s d e:Int}{xs:List Stp}(h:Ch l s d xs e):(∀ k,s<=k->k<b->hasB l.C k=false)->b<=l.L->s<b ->
  (∃ P,A=P++dJ xs/\(P.length:Int)=s+d)->∀(f:Bool) (a:Pr),a.1<s->a.2<s+d->Line l f a s (s+d)->xJ l A f a (s+d) ->
  ∃ y1,Kn l A a (jl b f xs)/\(jl b f xs).getLast?=some (b,y1)/\(jl b f xs).length=lD b f xs+1/\∃ Q B,A=Q++B/\(Q.length:Int)=y1/\∀ y∈B,y=-1\/b<=y:=by
 have hE:=ok.E.1
 induction h with
 |nil d=>intro _ h1 h2;omega
 |@kR s d e xs g1 g2 g3 g ih=>intro hc _ h;have:=hc s (iK _) h;rw[this]at g2;cases g2
 |@kS s d e xs g1 g2 g3 g ih=>intro hc _ h;have:=hc s (iK _) h;rw[this]at g2;cases g2
 |@str s d e xs g1 g2 g3 g4 g5 g6 g ih =>
  intro hc hL hs hA f a h1 h2 h3 h4;have hto:=hb s hs g5 g4;obtain⟨P,hA,hP⟩:=hA;rw[oI,Cm hE]at hA;have hA2:∃ P',A=P'++dJ xs/\(P'.length:Int)=s+l.E+(d+1):=⟨P++(s::iE s l.E.toNat),by rw[hA,eH],by simp;omega⟩
  have main:∀ a:Pr,Line l true a s (s+d)->xJ l A true a (s+d)->a.1<=s->a.2<=s+d->∃ y1,Kn l A a ((if s+l.E=b then[(s+l.E,s+d+l.E+1)] else[])++jl b true xs)/\((if s+l.E=b then[(s+l.E,s+d+l.E+1)] else[])++jl b true xs).getLast?=some (b,y1)/\((if s+l.E=b then[(s+l.E,s+d+l.E+1)] else[])++jl b true xs).length=lD b true xs+1/\∃ Q B,A=Q++B/\(Q.length:Int)=y1/\∀ y∈B,y=-1\/b<=y:=by
   intro a k1 k2 k3 k4;obtain⟨m1,m2⟩:=V3 hE ⟨P,hA,hP⟩ k1 k2;by_cases c:s+l.E=b
   ·rw[if_pos c,I8 hE g (by omega),sP hE g (by omega)]
    obtain⟨P',e1,e2⟩:=hA2;refine⟨s+d+l.E+1,.cons ⟨by simp only[];omega,by simp only[];omega,true,m1,m2⟩ (.one _),by rw[<-c];rfl,rfl,P',dJ xs,e1,by omega,fun y hy=>?_⟩
    have:=g.mem hE y hy;omega
   ·rw[if_neg c,List.nil_append];have e1:s+d+l.E+1=s+l.E+(d+1):=by omega
    rw[e1]at m1 m2;exact ih (fun k a c=>hc k (by omega) c) hL (by omega) hA2 true a (by omega) (by omega) m1 m2
  rw[jl,if_pos hs];simp only[lD,if_pos hs]
  cases f with
  |true =>
   obtain⟨y1,e1,e2,e3,e4⟩:=main a h3 h4 (by omega) (by omega)
   refine⟨y1, ?_, ?_, ?_,e4⟩
   ·simpa using e1
   ·simpa using e2
   ·simpa using e3
  |false =>
   obtain⟨y1,e1,e2,e3,e4⟩:=main (s,s+d) (Ja true (s,s+d)) (Jb true (s,s+d) A) (by simp only[];omega) (by simp only[];omega)
   refine⟨y1, ?_, ?_, ?_,e4⟩
   ·simp only[ne_eq,Bool.true_eq_false,not_false_eq_true,if_true,List.cons_append,List.nil_append];exact .cons ⟨h1,h2,false,h3,h4⟩ e1
   ·simp only[ne_eq,Bool.true_eq_false,not_false_eq_true,if_true,List.cons_append,List.nil_append];rw[List.getLast?_cons,e2];rfl
   ·simp only[ne_eq,Bool.true_eq_false,not_false_eq_true,if_true,List.cons_append,List.nil_append]
    rw[List.length_cons,e3];omega
 |@pl s d e xs g1 g2 g3 g ih =>
  intro hc hL hs hA f a h1 h2 h3 h4;obtain⟨P,hA,hP⟩:=hA;rw[oI,Ck]at hA;have hA2:∃ P',A=P'++dJ xs/\(P'.length:Int)=s+1+d:=⟨P++[s],by rw[hA,eH],by simp;omega⟩
  have main:∀ a:Pr,Line l false a s (s+d)->xJ l A false a (s+d)->a.1<=s->a.2<=s+d->∃ y1,Kn l A a ((if s+1=b then[(s+1,s+d+1)] else[])++jl b false xs)/\((if s+1=b then[(s+1,s+d+1)] else[])++jl b false xs).getLast?=some (b,y1)/\((if s+1=b then[(s+1,s+d+1)] else[])++jl b false xs).length=lD b false xs+1/\∃ Q B,A=Q++B/\(Q.length:Int)=y1/\∀ y∈B,y=-1\/b<=y:=by
   intro a k1 k2 k3 k4;obtain⟨m1,m2⟩:=V4 ⟨P,hA,hP⟩ k1 k2;by_cases c:s+1=b
   ·rw[if_pos c,I8 hE g (by omega),sP hE g (by omega)]
    obtain⟨P',e1,e2⟩:=hA2;refine⟨s+d+1,.cons ⟨by simp only[];omega,by simp only[];omega,false,m1,m2⟩ (.one _),by rw[<-c];rfl,rfl,P',dJ xs,e1,by omega,fun y hy=>?_⟩
    have:=g.mem hE y hy;omega
   ·rw[if_neg c,List.nil_append];have e1:s+d+1=s+1+d:=by omega
    rw[e1]at m1 m2;exact ih (fun k a c=>hc k (by omega) c) hL (by omega) hA2 false a (by omega) (by omega) m1 m2
  rw[jl,if_pos hs];simp only[lD,if_pos hs]
  cases f with
  |false =>
   obtain⟨y1,e1,e2,e3,e4⟩:=main a h3 h4 (by omega) (by omega)
   refine⟨y1, ?_, ?_, ?_,e4⟩
   ·simpa using e1
   ·simpa using e2
   ·simpa using e3
  |true =>
   obtain⟨y1,e1,e2,e3,e4⟩:=main (s,s+d) (Ja false (s,s+d)) (Jb false (s,s+d) A) (by simp only[];omega) (by simp only[];omega)
   refine⟨y1, ?_, ?_, ?_,e4⟩
   ·simp only[ne_eq,fJ,not_false_eq_true,if_true,List.cons_append,List.nil_append];exact .cons ⟨h1,h2,true,h3,h4⟩ e1
   ·simp only[ne_eq,fJ,not_false_eq_true,if_true,List.cons_append,List.nil_append];rw[List.getLast?_cons,e2];rfl
   ·simp only[ne_eq,fJ,not_false_eq_true,if_true,List.cons_append,List.nil_append];rw[List.length_cons,e3];omega
theorem Ch.aeV(ok:dD l){b:Int}(hb:∀ s,s<b->gL l.C s (s+l.E)=false->s+l.E<=l.L->s+l.E<=b){A:List Int}{s d e:Int}{x:Stp}{xs:List Stp}(h:Ch l s d (x::xs) e)(hc:∀ k,s<=k->k<b->hasB l.C k=false)(hL:b<=l.L)(hs:s<b)
  (hA:∃ P,A=P++dJ (x::xs)/\(P.length:Int)=s+d) :
  ∃ y1,Kn l A (s,s+d) ((if x.to=b then[(x.to,x.af)] else[])++jl b x.str xs)/\((if x.to=b then[(x.to,x.af)] else[])++jl b x.str xs).getLast?=some (b,y1)/\((if x.to=b then[(x.to,x.af)] else[])++jl b x.str xs).length=lD b x.str xs+1/\∃ Q B,A=Q++B/\(Q.length:Int)=y1/\∀ y∈B,y=-1\/b<=y:=by
 have hE:=ok.E.1;obtain⟨P,hA,hP⟩:=hA
 cases h with
 |kR g1 g2=>have:=hc s (iK _) hs;rw[this]at g2;cases g2
 |kS g1 g2=>have:=hc s (iK _) hs;rw[this]at g2;cases g2
 |str g1 g2 g3 g4 g5 g6 g =>
  rw[oI,Cm hE]at hA;obtain⟨m1,m2⟩:=V3 hE ⟨P,hA,hP⟩ (Ja true (s,s+d)) (Jb true (s,s+d) A);have hA2:∃ P',A=P'++dJ xs/\(P'.length:Int)=s+l.E+(d+1):=⟨P++(s::iE s l.E.toNat),by rw[hA,eH],by simp;omega⟩
  have hto:=hb s hs g5 g4;simp only at m1 m2⊢;by_cases c:s+l.E=b
  ·rw[if_pos c,I8 hE g (by omega),sP hE g (by omega)]
   obtain⟨P',e1,e2⟩:=hA2;refine⟨s+d+l.E+1,.cons ⟨by simp only[];omega,by simp only[];omega,true,m1,m2⟩ (.one _),by rw[<-c];rfl,rfl,P',dJ xs,e1,by omega,fun y hy=>?_⟩
   exact(g.mem hE y hy).imp id fun h=>by omega
  ·rw[if_neg c,List.nil_append];have e1:s+d+l.E+1=s+l.E+(d+1):=by omega
   rw[e1]at m1 m2
   exact g.knees ok hb (fun k a c=>hc k (by omega) c) hL (by omega) hA2 true (s,s+d) (by simp only[];omega) (by simp only[];omega) m1 m2
 |pl g1 g2 g3 g =>
  rw[oI,Ck]at hA;obtain⟨m1,m2⟩:=V4 ⟨P,hA,hP⟩ (Ja false (s,s+d)) (Jb false (s,s+d) A);have hA2:∃ P',A=P'++dJ xs/\(P'.length:Int)=s+1+d:=⟨P++[s],by rw[hA,eH],by simp;omega⟩
  simp only at m1 m2⊢;by_cases c:s+1=b
  ·rw[if_pos c,I8 hE g (by omega),sP hE g (by omega)]
   obtain⟨P',e1,e2⟩:=hA2;refine⟨s+d+1,.cons ⟨by simp only[];omega,by simp only[];omega,false,m1,m2⟩ (.one _),by rw[<-c];rfl,rfl,P',dJ xs,e1,by omega,fun y hy=>?_⟩
   exact(g.mem hE y hy).imp id fun h=>by omega
  ·rw[if_neg c,List.nil_append];have e1:s+d+1=s+1+d:=by omega
   rw[e1]at m1 m2;exact g.knees ok hb (fun k a c=>hc k (by omega) c) hL (by omega) hA2 false (s,s+d) (by simp only[];omega) (by simp only[];omega) m1 m2
structure N9(l:dI)(r:Pr)(xs:List Stp)(a:Pr)(K:List Pr)(y1:Int):Prop where
 eq:jJ r xs=a::K
 ref:∀ f,(xs.foldl (uQ r) (f,[])).2=a::K
 kn:Kn l (dS l xs) a K
 x0:a.1=r.1
 y0:0<=a.2
 last:K.getLast?=some (r.2,y1)
 len:1<=K.length/\K.length<=11
 pre:∀(t:Nat) v,(t:Int)<a.2->(dS l xs)[t]?=some v->v<r.1
 post:∀(t:Nat) v,y1<=t->(dS l xs)[t]?=some v->v=-1\/r.2<=v
 top:y1<=(dS l xs).length
theorem map_ok(ok:dD l){r:Pr}(hr:Run l r){xs:List Stp}{e:Int}(h:Ch l 0 l.D xs e):∃ a K y1,N9 l r xs a K y1:=by
 obtain⟨pre,ys,d,rfl,k1,k2,k3,k4,k5,k6⟩:=I9 ok hr h;have hlo:=hr.lo;have hlt:=hr.lt;have hhi:=hr.hi;have hD:=ok.D
 have hb:∀ s,s<r.2->gL l.C s (s+l.E)=false->s+l.E<=l.L->s+l.E<=r.2:=by
  rcases hr.to with h0|⟨c,hc,h0⟩
  ·intro s hs _ h2;omega
  ·intro s hs h1 _;have hL:=uN ok.C c hc;have:=qb.mp h1 c hc;omega
 have hno:∀ k,r.1<=k->k<r.2->hasB l.C k=false:=fun k h1 h2=>by
  rw[Al];intro c hc h3;have:=hr.no c hc;have hL:=uN ok.C c hc;omega
 have hm:=VZ ok.E.1 hlt k1 (fun x hx=>(k3 x hx).1)
 cases ys with
 |nil =>
  generalize hz:r.1=z at k1;cases k1
  omega
 |cons x ys =>
  have hA:∃ P,dS l (pre++x::ys)=P++dJ (x::ys)/\(P.length:Int)=r.1+d:=⟨List.replicate l.D.toNat (-1)++dJ pre,by unfold dS;rw[dJ,List.flatMap_append,eH];rfl,by rw[dZ,mh];omega⟩
  obtain⟨y1,n1,n2,n3,Q,B,n4,n5,n6⟩:=k1.aeV ok hb (A:=dS l (pre++x::ys)) hno hhi hlt hA;obtain⟨t1,t2,t3,t4,t5,d2,t6,t7⟩:=k1.tail ok.E.1
  have hall:E5 r.2 (x::ys)=(r.1,r.1+d)::((if x.to=r.2 then[(x.to,x.af)] else[])++jl r.2 x.str ys):=by
   show (x.fr,x.be)::_=_
   rw[t1,t2]
  have hu:uP l x.to<=4:=by
   unfold uP;exact kY List.countP_le_length ok.p4
  have hdd:=t6.dl
  have apf:lD r.2 x.str ys<=10:=by
   have hd2:d2<=l.D:=by
    generalize hz:r.1=z at k1 hno
    cases k1 with
    |kR g1 g2=>have:=hno z (iK _) (by omega);rw[this]at g2;cases g2
    |kS g1 g2=>have:=hno z (iK _) (by omega);rw[this]at g2;cases g2
    |str g1 g2 g3=>simp only at t7;omega
    |pl g1 g2 g3=>simp only at t7;omega
   obtain⟨f1,f2,_,_⟩:=t6.few ok (b:=r.2) hd2 (fun k h1 h2=>hno k (by omega) h2)
   cases x.str<;>omega
  refine⟨(r.1,r.1+d),_,y1, ?_, ?_,n1,rfl,by simp only[];omega,n2,by rw[n3];omega, ?_, ?_, ?_⟩
  ·unfold jJ;rw[(hm false).1,hall]
  ·intro f;rw[(hm f).2,hall]
  ·intro t v ht hv;obtain⟨P,hP,hP2⟩:=hA
   have hv2:v∈List.replicate l.D.toNat (-1)++dJ pre:=by
    have:dS l (pre++x::ys)=(List.replicate l.D.toNat (-1)++dJ pre)++dJ (x::ys):=by unfold dS;rw[dJ,List.flatMap_append,eH];rfl
    rw[this,gN (by rw[dZ,mh];simp only at ht;omega)]at hv
    exact wT hv
   rcases iJ.mp hv2 with h|h
   ·have:=(List.mem_replicate.mp h).2;omega
   ·have:=k2 v h;omega
  ·intro t v ht hv;rw[n4,iX (by omega)]at hv
   exact n6 v (wT hv)
  ·rw[n4,dZ];omega
end
end Go.VI.Num
/- The map of a run as a map of fractions, plainly. -/
namespace Go.VI.Num
def xK(z:Int):Prop:=-100000<=z/\z<=100000
theorem Ao{z:Int}(h:z.natAbs<10^30):nM z=true:=decide_eq_true (qE h (uM (by decide) (by decide)))
theorem Ap:10^30=1000000000000000000000000000000:=by decide
theorem aeW{z:Int}(h:xK z):z.natAbs<=100000:=by unfold xK at h;omega
theorem E8(z:Int):(z:Rat).num=z:=Rat.num_intCast z
theorem Jc(z:Int):((z:Rat).den:Int)=1:=by rw[Rat.den_intCast];rfl
theorem V6{z:Int}(h:xK z):jW (z:Rat):=by
 refine⟨?_, ?_⟩
 ·rw[E8];exact of_decide_eq_true (Ao (by have:=aeW h;rw[Ap];omega))
 ·rw[Rat.den_intCast];exact Nat.one_lt_pow (by decide) (by decide)
theorem V8{a b:Int}(ha:xK a)(hb:xK b):sK (a:Rat) (b:Rat)=some ((a-b:Int):Rat):=by
 unfold sK;rw[E8,E8,Jc,Jc];unfold xK at ha hb;rw[Ao (by rw[Ap];omega),Ao (by rw[Ap];omega),Ao (by rw[Ap];omega),Ao (by rw[Ap];omega)]
 simp only[Bool.and_self,if_true,Rat.intCast_sub]
theorem aeX{a b:Int}(ha:xK a)(hb:xK b)(h0:b≠0):Ak (a:Rat) (b:Rat)=some ((a:Rat)/(b:Rat)):=by
 unfold Ak;rw[E8,E8,Jc,Jc];unfold xK at ha hb;have hb0:(b:Rat)≠0:=fun e=>h0 (Rat.intCast_eq_zero_iff.mp e);rw[Ao (by rw[Ap];omega),Ao (by rw[Ap];omega),decide_eq_true hb0]
 rfl
end Go.VI.Num
/- Timelines: spans, their owners, plainly. -/
namespace Go.VI.Num
abbrev Sn:=Int×Int×Int
def nO:Int->Int->List Sn->Bool
 |_,_,[]=>true
 |a,w,s::r=>decide (s.1=a)&&(decide (a<s.2.1)&&(decide (s.2.1<=10000000)&&((decide (0<=s.2.2)&&decide (s.2.2<=2999))&&(!decide (s.2.2=w)&&nO s.2.1 s.2.2 r))))
def mU(l:List Sn):Bool:=nO 0 (-1) l&&decide ((l.length:Int)<=200)
def qc(l:List Sn):Int:=match l.getLast? with|some s=>s.2.1|none=>0
def vU(l:List Sn):Int:=if mU l then qc l else -1
def mF(t:Int)(s:Sn):Bool:=decide (s.1<=t)&&decide (t<s.2.1)
def Aq(l:List Sn)(t:Int):Option Sn:=if mU l then l.find? (mF t)else none
theorem V9:∀{l:List Sn} {a w:Int},nO a w l=true->∀ s∈l,a<=s.1/\s.1<s.2.1/\s.2.1<=10000000/\0<=s.2.2/\s.2.2<=2999
 |[],_,_,_=>by simp
 |x::l,a,w,h=>by
  simp only[nO,bg,decide_eq_true_eq]at h;obtain⟨h1,h2,h3,⟨h4,h5⟩,h6,h7⟩:=h;intro s hs;rcases gq.mp hs with rfl|hs
  ·omega
  ·have:=V9 h7 s hs;omega
def grow(out:List Sn)(t o:Int):List Sn :=
 match out.getLast? with
 |some s=>if s.2.2=o then out.dropLast++[(s.1,t+1,s.2.2)]else out++[(t,t+1,o)]
 |none=>out++[(t,t+1,o)]
def mV:List Sn->Int->List Int->List Sn
 |out,_,[]=>out
 |out,t,o::r=>mV (grow out t o) (t+1) r
end Go.VI.Num
/- Numbers as digits, the lowest one first. -/
namespace Go.VI.Num
def dq:List Int->Int
 |[]=>0
 |d::r=>d+10*dq r
def Dg(l:List Int):Prop:=∀ x∈l,0<=x/\x<=9
theorem Dg.cons{d:Int}{r:List Int}:Dg (d::r)↔(0<=d/\d<=9)/\Dg r:=by simp[Dg]
theorem Dg.nil:Dg []:=by simp[Dg]
theorem E9:∀{l:List Int},Dg l->0<=dq l
 |[],_=>by simp[dq]
 |d::r,h=>by
  have:=E9 (Dg.cons.mp h).2;have:=(Dg.cons.mp h).1;simp only[dq];omega
theorem Cn:∀{l:List Int},Dg l->dq l<10^l.length
 |[],_=>by simp[dq]
 |d::r,h=>by
  have h1:=Cn (Dg.cons.mp h).2;have h2:=(Dg.cons.mp h).1;simp only[dq,List.length_cons,Int.pow_succ];generalize (10:Int)^r.length=X at*;omega
theorem Jd(a b:List Int):dq (a++b)=dq a+10^a.length*dq b:=by
 induction a with
 |nil=>simp[dq]
 |cons d r ih =>
  simp only[List.cons_append,dq,ih,List.length_cons,Int.pow_succ];rw[Int.mul_add,Int.add_assoc,rY ((10:Int)^r.length) 10,Int.mul_assoc]
def Ar:Nat->Nat->List Int
 |0,_=>[]
 |f+1,n=>if n=0 then[] else((n%10:Nat):Int)::Ar f (n/10)
def d10(n:Nat):List Int:=Ar n n
theorem Wd:∀(f f' n:Nat),n<=f->n<=f'->Ar f n=Ar f' n
 |0,0,n,_,_=>rfl
 |0,f'+1,n,h,_=>by
  have:n=0:=by omega
  subst this;rfl
 |f+1,0,n,_,h=>by
  have:n=0:=by omega
  subst this;rfl
 |f+1,f'+1,n,h,h'=>by
  simp only[Ar];split
  ·rfl
  ·rw[Wd f f' (n/10) (by omega) (by omega)]
theorem yO:d10 0=[]:=rfl
theorem rq{n:Nat}(h:n≠0):d10 n=((n%10:Nat):Int)::d10 (n/10):=by
 obtain⟨m,rfl⟩:∃ m,n=m+1:=⟨n-1,by omega⟩
 show Ar (m+1) (m+1)=_
 simp only[Ar,h,if_false];rw[Wd m ((m+1)/10) _ (by omega) (aV _)]
 rfl
theorem vV(n:Nat):dq (d10 n)=n:=by
 induction n using Nat.strongRecOn with
 |_ n ih =>
  by_cases h:n=0
  ·subst h;rfl
  ·rw[rq h,dq,ih (n/10) (by omega)];omega
theorem vW(n:Nat):Dg (d10 n):=by
 induction n using Nat.strongRecOn with
 |_ n ih =>
  by_cases h:n=0
  ·subst h;exact Dg.nil
  ·rw[rq h];exact Dg.cons.mpr ⟨by omega,ih (n/10) (by omega)⟩
theorem Co{n:Nat}:d10 n=[]↔n=0:=by
 constructor
 ·intro h;have:=vV n;rw[h]at this;simp[dq]at this;omega
 ·rintro rfl;rfl
theorem Wh(n:Nat):yL (d10 n):=by
 induction n using Nat.strongRecOn with
 |_ n ih =>
  by_cases h:n=0
  ·subst h;intro h;exact absurd rfl h
  ·intro hne;by_cases h2:n/10=0
   ·have:d10 n=[((n%10:Nat):Int)]:=by rw[rq h,h2];rfl
    simp only[this,List.getLast_singleton];omega
   ·have h3:d10 (n/10)≠[]:=fun e=>h2 (Co.mp e);have:=ih (n/10) (by omega) h3
    simp only[rq h,List.getLast_cons h3];exact this
theorem Wi:∀{l:List Int},Dg l->yL l->d10 (dq l).toNat=l
 |[],_,_=>rfl
 |d::r,hd,ht=>by
  have h1:=Dg.cons.mp hd;have h2:=E9 h1.2;have ih:=Wi h1.2 ht.cons;have e:(dq (d::r)).toNat=d.toNat+10*(dq r).toNat:=by simp only[dq];omega
  have hne:(dq (d::r)).toNat≠0:=by
   intro h0;have hd0:d=0:=by omega
   have hr0:(dq r).toNat=0:=by omega
   rw[hr0]at ih;have:r=[]:=ih.symm;subst this;exact ht (by simp) (by simpa using hd0)
  rw[rq hne,e];have e1:(d.toNat+10*(dq r).toNat)%10=d.toNat:=by omega
  have e2:(d.toNat+10*(dq r).toNat)/10=(dq r).toNat:=by omega
  rw[e1,e2,ih];congr 1;omega
theorem Wj(l:List Int):∀ k,k<=l.length->dq (l.take (jV l k))=dq (l.take k)
 |0,_=>rfl
 |k+1,h=>by
  simp only[jV];split
  ·rename_i h0;rw[Wj l k (by omega),qU (by omega),Jd]
   rw[jC,gM (by omega)]at h0
   have h1:l[k]=0:=h0;simp[h1,dq]
  ·rfl
theorem Oa{l:List Int}(h:Dg l):dV l=d10 (dq l).toNat:=by
 have h1:=Wj l l.length (aV _);rw[kP]at h1;have h2:Dg (dV l):=fun x hx=>h x (um hx);have h3:=Wi h2 (NF l l.length (aV _));rw[<-h3];unfold dV;rw[h1]
def jm(l:List Int):List UInt8:=l.reverse.map fun d=>UInt8.ofNat (48+d.toNat)
theorem Fa{n:Nat}(h:n≠0):jm (d10 n)=dec n:=by
 induction n using Nat.strongRecOn with
 |_ n ih =>
  rw[rq h];simp only[jm,List.reverse_cons,List.map_append,List.map_cons,List.map_nil,qW];rcases gJ n 10 with h1|h1
  ·rw[show n/10=0 by omega,yO,sJ h1,Nat.mod_eq_of_lt h1];rfl
  ·have e:=ih (n/10) (by omega) (by omega)
   simp only[jm]at e;rw[e,nJ h1]
theorem Je{n:Nat}(h:n≠0):(d10 n).length=(dec n).length:=by
 rw[<-Fa h];simp[jm]
end Go.VI.Num
/- Digits: comparing, adding, subtracting. -/
namespace Go.VI.Num
theorem Wl{a b:List Int}(ha:Dg a)(hb:Dg b):∀ k,k<=a.length->k<=b.length->qV a b k=bR (dq (a.take k)) (dq (b.take k))
 |0,_,_=>rfl
 |k+1,h1,h2=>by
  have ih:=Wl ha hb k (by omega) (by omega)
  have da:Dg (a.take k):=fun x hx=>ha x (um hx);have db:Dg (b.take k):=fun x hx=>hb x (um hx);have la:=Cn da;have lb:=Cn db;have na:=E9 da;have nb:=E9 db;have ea:(a.take k).length=k:=by simp;omega
  have eb:(b.take k).length=k:=by simp;omega
  rw[ea]at la;rw[eb]at lb;have ga:a.getD k 0=a[k]:=by rw[jC,gM (by omega)];rfl
  have gb:b.getD k 0=b[k]:=by rw[jC,gM (by omega)];rfl
  rw[qU (by omega),qU (by omega),Jd,Jd,ea,eb]
  simp only[qV,ga,gb,dq,Int.mul_zero,sI];rw[ih];generalize dq (a.take k)=A at*;generalize dq (b.take k)=B at*;generalize (10:Int)^k=X at*;generalize a[k]=x at*;generalize b[k]=y at*;by_cases c1:x=y
  ·subst c1;rw[if_pos rfl];unfold bR;have e1:(A+X*x<B+X*x)↔A<B:=by omega
   have e2:(A+X*x=B+X*x)↔A=B:=by omega
   simp only[e1,e2]
  ·rw[if_neg c1];by_cases c2:x<y
   ·rw[if_pos c2];have:X*(x+1)<=X*y:=Ah (by omega) (by omega)
    rw[Int.mul_add,Int.mul_one]at this;unfold bR;rw[if_pos (by omega)]
   ·rw[if_neg c2];have:X*(y+1)<=X*x:=Ah (by omega) (by omega)
    rw[Int.mul_add,Int.mul_one]at this;unfold bR;rw[if_neg (by omega),if_neg (by omega)]
theorem Ob{a b:Nat}(h:(d10 a).length<(d10 b).length):a<b:=by
 have h1:=Cn (vW a);rw[vV]at h1;have hb:d10 b≠[]:=by intro e;rw[e]at h;simp at h
 -- the last group of b is at least one
 obtain⟨i,x,e⟩:∃(i:List Int) (x:Int),d10 b=i++[x]:=⟨(d10 b).dropLast,(d10 b).getLast hb,(List.dropLast_concat_getLast hb).symm⟩
 have hx:x≠0:=by
  have:=Wh b hb;simp only[e,List.getLast_append_of_ne_nil,ne_eq,List.cons_ne_nil,not_false_eq_true,List.getLast_singleton]at this;exact this
 have hd:=vW b;rw[e]at hd;have hx2:=hd x (by simp)
 have hi:Dg i:=fun y hy=>hd y (by simp[hy])
 have h3:=E9 hi;have h2:=vV b;rw[e,Jd]at h2;simp only[dq,Int.mul_zero,sI]at h2;have hl:(d10 a).length<=i.length:=by rw[e]at h;simp at h;omega
 have h4:(10:Int)^(d10 a).length<=10^i.length:=Vw (by omega) hl
 have h5:(10:Int)^i.length*1<=10^i.length*x:=Ah (by omega) (Int.pow_nonneg (by omega))
 rw[Int.mul_one]at h5;omega
theorem Cq{a b:Nat}(h:a<=b):(d10 a).length<=(d10 b).length:=by
 rcases gJ (d10 b).length (d10 a).length with h1|h1
 ·have:=Ob h1;omega
 ·exact h1
theorem aeY(a b:Nat):cmpL (d10 a) (d10 b)=bR a b:=by
 unfold cmpL;by_cases h:(d10 a).length=(d10 b).length
 ·rw[if_pos h,Wl (vW a) (vW b) _ (aV _) (by omega),kP,h,kP,vV,vV]
 ·rw[if_neg h];by_cases h2:(d10 a).length<(d10 b).length
  ·have:=Ob h2;rw[if_pos h2];unfold bR;rw[if_pos (by omega)]
  ·have:=Ob (a:=b) (b:=a) (by omega)
   rw[if_neg h2];unfold bR;rw[if_neg (by omega),if_neg (by omega)]
theorem o5{l:List Int}{i A:Nat}(h:l.drop i=d10 A):i<l.length↔A≠0:=by
 constructor
 ·intro hi h0;subst h0;have:=congrArg List.length h;rw[yO]at this;simp at this;omega
 ·intro h0;rcases gJ i l.length with c|c
  ·exact c
  ·rw[kQ c]at h;exact absurd (Co.mp h.symm) h0
theorem Cr{l:List Int}{i A:Nat}(h:l.drop i=d10 A)(h0:A≠0)(hi:i<l.length):l[i]=((A%10:Nat):Int)/\l.drop (i+1)=d10 (A/10):=by
 rw[gY hi,rq h0]at h;exact⟨(List.cons.inj h).1,(List.cons.inj h).2⟩
theorem Cs{l:List Int}{i A:Nat}(h:l.drop i=d10 A):l.drop (i+1)=d10 (A/10):=by
 by_cases h0:A=0
 ·subst h0;rw[yO]at h;have:l.length<=i:=by have:=congrArg List.length h;simp at this;omega
  rw[kQ (by omega)];rfl
 ·exact(Cr h h0 ((o5 h).mpr h0)).2
def sQ:Nat->Nat->Nat->Nat->List Int
 |0,_,_,_=>[]
 |f+1,A,B,c=>if A=0/\B=0/\c=0 then[] else(((A%10+B%10+c)%10:Nat):Int)::sQ f (A/10) (B/10) ((A%10+B%10+c)/10)
theorem Wm:∀(f A B c:Nat),A+B+c<=f->sQ f A B c=d10 (A+B+c)
 |0,A,B,c,h=>by
  have:A+B+c=0:=by omega
  rw[this];rfl
 |f+1,A,B,c,h=>by
  simp only[sQ];by_cases h0:A=0/\B=0/\c=0
  ·rw[if_pos h0,show A+B+c=0 by omega];rfl
  ·rw[if_neg h0,Wm f _ _ _ (by omega),rq (n:=A+B+c) (by omega)]
   have e1:(A%10+B%10+c)%10=(A+B+c)%10:=by omega
   have e2:A/10+B/10+(A%10+B%10+c)/10=(A+B+c)/10:=by omega
   rw[e1,e2]
def kH:Nat->Nat->Nat->Nat->List Int
 |0,_,_,_=>[]
 |f+1,A,B,w=>if A=0 then[]else if A%10<w+B%10 then((A%10+10-w-B%10:Nat):Int)::kH f (A/10) (B/10) 1 else((A%10-w-B%10:Nat):Int)::kH f (A/10) (B/10) 0
theorem Oc:∀(f A B w:Nat),A<=f->w<=1->B+w<=A->dq (kH f A B w)=(A-B-w:Nat)/\Dg (kH f A B w)
 |0,A,B,w,h,hw,hb=>by
  have e:A-B-w=0:=by omega
  rw[e];exact⟨rfl,Dg.nil⟩
 |f+1,A,B,w,h,hw,hb=>by
  simp only[kH];by_cases h0:A=0
  ·rw[if_pos h0,show A-B-w=0 by omega];exact⟨rfl,Dg.nil⟩
  ·rw[if_neg h0];by_cases c:A%10<w+B%10
   ·obtain⟨k1,k2⟩:=Oc f (A/10) (B/10) 1 (by omega) (by omega) (by omega)
    rw[if_pos c,dq,k1];exact⟨by omega,Dg.cons.mpr ⟨by omega,k2⟩⟩
   ·obtain⟨k1,k2⟩:=Oc f (A/10) (B/10) 0 (by omega) (by omega) (by omega)
    rw[if_neg c,dq,k1];exact⟨by omega,Dg.cons.mpr ⟨by omega,k2⟩⟩
theorem Od:∀(f A B w:Nat),(kH f A B w).length<=(d10 A).length
 |0,A,B,w=>by simp[kH]
 |f+1,A,B,w=>by
  simp only[kH];by_cases h0:A=0
  ·rw[if_pos h0];simp
  ·rw[if_neg h0,rq h0];split
   ·have:=Od f (A/10) (B/10) 1;simp;omega
   ·have:=Od f (A/10) (B/10) 0;simp;omega
end Go.VI.Num
/- Digits: multiplying row by row, dividing. -/
namespace Go.VI.Num
theorem Jf{pre:List Int}{o0 x:Int}{o:List Int}{n:Nat}(h:pre.length=n):(pre++o0::o).set n x=pre++x::o:=by
 subst h;rw[List.set_append_right _ _ (aV _),Nat.sub_self];rfl
end Go.VI.Num
