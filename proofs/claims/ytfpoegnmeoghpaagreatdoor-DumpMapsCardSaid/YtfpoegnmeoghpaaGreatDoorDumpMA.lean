/- What the functions on integers compute, part MA. -/
import Derived.Test.YtfpoegnmeoghpaaGreatDoorVSL
set_option linter.unusedVariables false
set_option linter.unusedSimpArgs false
/- Numbers as groups of four digits: what the operations on them come to, plainly. -/
namespace Go.VI.Num
def gv:List Int->Int
 |[]=>0
 |d::r=>d+10000*gv r
def gZ(l:List Int):Prop:=∀ x∈l,0<=x/\x<=9999
theorem gZ.cons{d:Int}{r:List Int}:gZ (d::r)↔(0<=d/\d<=9999)/\gZ r:=by simp[gZ]
theorem gZ.nil:gZ []:=by simp[gZ]
theorem xH:∀{l:List Int},gZ l->0<=gv l
 |[],_=>by simp[gv]
 |d::r,h=>by
  have:=xH (gZ.cons.mp h).2;have:=(gZ.cons.mp h).1;simp only[gv];omega
theorem H7:∀{l:List Int},gZ l->gv l<10000^l.length
 |[],_=>by simp[gv]
 |d::r,h=>by
  have h1:=H7 (gZ.cons.mp h).2;have h2:=(gZ.cons.mp h).1;simp only[gv,List.length_cons,Int.pow_succ];generalize (10000:Int)^r.length=X at*;omega
theorem PW(a b:List Int):gv (a++b)=gv a+10000^a.length*gv b:=by
 induction a with
 |nil=>simp[gv]
 |cons d r ih =>
  simp only[List.cons_append,gv,ih,List.length_cons,Int.pow_succ];rw[Int.mul_add,Int.add_assoc,vo ((10000:Int)^r.length) 10000,Int.mul_assoc]
def Fx:Nat->Nat->List Int
 |0,_=>[]
 |f+1,n=>if n=0 then[] else((n%10000:Nat):Int)::Fx f (n/10000)
def aC(n:Nat):List Int:=Fx n n
theorem abY:∀(f f' n:Nat),n<=f->n<=f'->Fx f n=Fx f' n
 |0,0,n,_,_=>rfl
 |0,f'+1,n,h,_=>by
  have:n=0:=by omega
  subst this;rfl
 |f+1,0,n,_,h=>by
  have:n=0:=by omega
  subst this;rfl
 |f+1,f'+1,n,h,h'=>by
  simp only[Fx];split
  ·rfl
  ·rw[abY f f' (n/10000) (by omega) (by omega)]
theorem Bc:aC 0=[]:=rfl
theorem Cv{n:Nat}(h:n≠0):aC n=((n%10000:Nat):Int)::aC (n/10000):=by
 obtain⟨m,rfl⟩:∃ m,n=m+1:=⟨n-1,by omega⟩
 show Fx (m+1) (m+1)=_
 simp only[Fx,h,if_false];rw[abY m ((m+1)/10000) _ (by omega) (bC _)]
 rfl
theorem qW(n:Nat):gv (aC n)=n:=by
 induction n using Nat.strongRecOn with
 |_ n ih =>
  by_cases h:n=0
  ·subst h;rfl
  ·rw[Cv h,gv,ih (n/10000) (by omega)];omega
theorem tZ(n:Nat):gZ (aC n):=by
 induction n using Nat.strongRecOn with
 |_ n ih =>
  by_cases h:n=0
  ·subst h;exact gZ.nil
  ·rw[Cv h];exact gZ.cons.mpr ⟨by omega,ih (n/10000) (by omega)⟩
theorem Bd{n:Nat}:aC n=[]↔n=0:=by
 constructor
 ·intro h;have:=qW n;rw[h]at this;simp[gv]at this;omega
 ·rintro rfl;rfl
def DL(l:List Int):Prop:=∀ h:l≠[],l.getLast h≠0
theorem ami(n:Nat):DL (aC n):=by
 induction n using Nat.strongRecOn with
 |_ n ih =>
  by_cases h:n=0
  ·subst h;intro h;exact absurd rfl h
  ·intro hne;by_cases h2:n/10000=0
   ·have:aC n=[((n%10000:Nat):Int)]:=by rw[Cv h,h2];rfl
    simp only[this,List.getLast_singleton];omega
   ·have h3:aC (n/10000)≠[]:=fun e=>h2 (Bd.mp e);have:=ih (n/10000) (by omega) h3
    simp only[Cv h,List.getLast_cons h3];exact this
theorem DL.cons{d:Int}{r:List Int}(h:DL (d::r)):DL r:=fun hr=>by
 have:=h (by simp)
 rwa [List.getLast_cons hr]at this
theorem abZ:∀{l:List Int},gZ l->DL l->aC (gv l).toNat=l
 |[],_,_=>rfl
 |d::r,hd,ht=>by
  have h1:=gZ.cons.mp hd;have h2:=xH h1.2;have ih:=abZ h1.2 ht.cons;have e:(gv (d::r)).toNat=d.toNat+10000*(gv r).toNat:=by simp only[gv];omega
  have hne:(gv (d::r)).toNat≠0:=by
   intro h0;have hd0:d=0:=by omega
   have hr0:(gv r).toNat=0:=by omega
   rw[hr0]at ih;have:r=[]:=ih.symm;subst this;exact ht (by simp) (by simpa using hd0)
  rw[Cv hne,e];have e1:(d.toNat+10000*(gv r).toNat)%10000=d.toNat:=by omega
  have e2:(d.toNat+10000*(gv r).toNat)/10000=(gv r).toNat:=by omega
  rw[e1,e2,ih];congr 1;omega
def pG(l:List Int):Nat->Nat
 |0=>0
 |k+1=>if l.getD k 0=0 then pG l k else k+1
theorem H8(l:List Int):∀ k,pG l k<=k
 |0=>bC _
 |k+1=>by
  simp only[pG];split
  ·have:=H8 l k;omega
  ·omega
def iF(l:List Int):List Int:=l.take (pG l l.length)
theorem ab0(l:List Int):∀ k,k<=l.length->gv (l.take (pG l k))=gv (l.take k)
 |0,_=>rfl
 |k+1,h=>by
  simp only[pG];split
  ·rename_i h0;rw[ab0 l k (by omega),zR (by omega),PW]
   rw[nX,kN (by omega)]at h0
   have h1:l[k]=0:=h0;simp[h1,gv]
  ·rfl
theorem UE(l:List Int):∀ k,k<=l.length->DL (l.take (pG l k))
 |0,_=>fun h=>absurd rfl h
 |k+1,h=>by
  simp only[pG];split
  ·exact UE l k (by omega)
  ·rename_i h0;intro hne;rw[nX,kN (by omega)]at h0
   have h1:¬ l[k]=0:=h0;simp only[zR (show k<l.length by omega),List.getLast_append_of_ne_nil,ne_eq,List.cons_ne_nil,not_false_eq_true,List.getLast_singleton]
   exact h1
theorem H9{l:List Int}(h:gZ l):iF l=aC (gv l).toNat:=by
 have h1:=ab0 l l.length (bC _);rw[qj]at h1;have h2:gZ (iF l):=fun x hx=>h x (zH hx);have h3:=abZ h2 (UE l l.length (bC _));rw[<-h3];unfold iF;rw[h1]
def ni(g:Nat->Int)(n:Nat):Nat->Nat->Int->List Int
 |0,_,_=>[]
 |f+1,i,c =>
  if i<n\/c≠0 then
   if g i+c<0 then(g i+c+10000)::ni g n f (i+1) (-1)
   else if 10000<=g i+c then((g i+c)%10000)::ni g n f (i+1) ((g i+c)/10000)
   else(g i+c)::ni g n f (i+1) 0
  else[]
def yK(g:Nat->Int)(n:Nat):Nat->Nat->Int->Bool
 |0,i,c=>decide (¬ (i<n\/c≠0))
 |f+1,i,c =>
  if i<n\/c≠0 then
   if g i+c<0 then yK g n f (i+1) (-1)
   else if 10000<=g i+c then yK g n f (i+1) ((g i+c)/10000)
   else yK g n f (i+1) 0
  else true
def gs(g:Nat->Int):Nat->Nat->Int
 |0,_=>0
 |d+1,i=>g i+10000*gs g d (i+1)
theorem UF{g:Nat->Int}{n:Nat}(hg:∀ i,-9999<=g i/\g i<=100000000)(hz:∀ i,n<=i->g i=0):∀(f i:Nat) (c:Int),-1<=c->c<=20000->(i<=n->n-i+3<=f)->(n<i->(c≠0->2<=f)/\(10000<=c->3<=f))->0<=gs g (n-i) i+c ->
  gv (ni g n f i c)=gs g (n-i) i+c/\gZ (ni g n f i c):=by
 intro f
 induction f with
 |zero =>
  intro i c h1 h2 h3 h4 h5;by_cases hi:i<=n
  ·have:=h3 hi;omega
  ·have e:n-i=0:=by omega
   rw[e]at h5⊢;have:=(h4 (by omega)).1
   have hc:c=0:=by
    rcases Decidable.em (c=0)with h|h
    ·exact h
    ·have:=this h;omega
   subst hc
   exact⟨by simp[ni,gv,gs],gZ.nil⟩
 |succ f ih =>
  intro i c h1 h2 h3 h4 h5;by_cases hstop:i<n\/c≠0
  ·have hgi:=hg i
   have hstep:gs g (n-i) i=g i+10000*gs g (n-(i+1)) (i+1):=by
    by_cases hi:i<n
    ·have e:n-i=(n-(i+1))+1:=by omega
     rw[e];rfl
    ·have e1:n-i=0:=by omega
     have e2:n-(i+1)=0:=by omega
     rw[e1,e2,hz i (by omega)];rfl
   rw[hstep]at h5⊢;have hin:¬ i<n->g i=0:=fun h=>hz i (by omega)
   generalize hX:gs g (n-(i+1)) (i+1)=X at*
   have hX0:n<=i+1->X=0:=fun h=>by
    rw[<-hX,show n-(i+1)=0 by omega];rfl
   simp only[ni,hstop,if_true];by_cases c1:g i+c<0
   ·have hin2:i<n:=by
     rcases kZ i n with h|h
     ·exact h
     ·have:=hin (by omega);have:=hX0 (by omega);omega
    obtain⟨k1,k2⟩:=ih (i+1) (-1) (by omega) (by omega) (fun h=>by have:=h3 (by omega);omega) (fun h=>⟨fun _=>by have:=h3 (by omega);omega,fun h=>by omega⟩) (by rw[hX];omega)
    rw[hX]at k1;simp only[c1,if_true,gv];exact⟨by rw[k1];omega,gZ.cons.mpr ⟨by omega,k2⟩⟩
   ·by_cases c2:10000<=g i+c
    ·obtain⟨k1,k2⟩:=ih (i+1) ((g i+c)/10000) (by omega) (by omega) (fun h=>by have:=h3 (by omega);omega) (fun h=>by
      rcases kZ i n with h6|h6
      ·have:=h3 (by omega);exact⟨fun _=>by omega,fun _=>by omega⟩
      ·have:=hin (by omega)
       rcases kZ n i with h7|h7
       ·have:=(h4 h7).2 (by omega);exact⟨fun _=>by omega,fun h=>by omega⟩
       ·have:=h3 h7;exact⟨fun _=>by omega,fun h=>by omega⟩) (by rw[hX];omega)
     rw[hX]at k1;simp only[c1,c2,if_true,if_false,gv];exact⟨by rw[k1];omega,gZ.cons.mpr ⟨by omega,k2⟩⟩
    ·obtain⟨k1,k2⟩:=ih (i+1) 0 (by omega) (by omega) (fun h=>by have:=h3 (by omega);omega) (fun h=>⟨fun h=>absurd rfl h,fun h=>by omega⟩) (by rw[hX];omega)
     rw[hX]at k1;simp only[c1,c2,if_false,gv];exact⟨by rw[k1];omega,gZ.cons.mpr ⟨by omega,k2⟩⟩
  ·have hc:c=0:=by omega
   have hi:n-i=0:=by omega
   subst hc;simp only[ni,hstop,if_false,hi];exact⟨by simp[gv,gs],gZ.nil⟩
theorem UG{g:Nat->Int}{n:Nat}(hg:∀ i,-9999<=g i/\g i<=100000000)(hz:∀ i,n<=i->g i=0):∀(f i:Nat) (c:Int),-1<=c->c<=20000->(i<=n->n-i+3<=f)->(n<i->(c≠0->2<=f)/\(10000<=c->3<=f))->0<=gs g (n-i) i+c ->
  yK g n f i c=true:=by
 intro f
 induction f with
 |zero =>
  intro i c h1 h2 h3 h4 h5;by_cases hi:i<=n
  ·have:=h3 hi;omega
  ·have e:n-i=0:=by omega
   rw[e]at h5;have:=(h4 (by omega)).1
   have hc:c=0:=by
    rcases Decidable.em (c=0)with h|h
    ·exact h
    ·have:=this h;omega
   subst hc
   simp only[yK,decide_eq_true_eq];omega
 |succ f ih =>
  intro i c h1 h2 h3 h4 h5;by_cases hstop:i<n\/c≠0
  ·have hgi:=hg i
   have hstep:gs g (n-i) i=g i+10000*gs g (n-(i+1)) (i+1):=by
    by_cases hi:i<n
    ·have e:n-i=(n-(i+1))+1:=by omega
     rw[e];rfl
    ·have e1:n-i=0:=by omega
     have e2:n-(i+1)=0:=by omega
     rw[e1,e2,hz i (by omega)];rfl
   rw[hstep]at h5;have hin:¬ i<n->g i=0:=fun h=>hz i (by omega)
   generalize hX:gs g (n-(i+1)) (i+1)=X at*
   have hX0:n<=i+1->X=0:=fun h=>by
    rw[<-hX,show n-(i+1)=0 by omega];rfl
   simp only[yK,hstop,if_true];by_cases c1:g i+c<0
   ·have hin2:i<n:=by
     rcases kZ i n with h|h
     ·exact h
     ·have:=hin (by omega);have:=hX0 (by omega);omega
    have k1:=ih (i+1) (-1) (by omega) (by omega) (fun h=>by have:=h3 (by omega);omega) (fun h=>⟨fun _=>by have:=h3 (by omega);omega,fun h=>by omega⟩) (by rw[hX];omega)
    rw[if_pos c1];exact k1
   ·by_cases c2:10000<=g i+c
    ·have k1:=ih (i+1) ((g i+c)/10000) (by omega) (by omega) (fun h=>by have:=h3 (by omega);omega) (fun h=>by
      rcases kZ i n with h6|h6
      ·have:=h3 (by omega);exact⟨fun _=>by omega,fun _=>by omega⟩
      ·have:=hin (by omega)
       rcases kZ n i with h7|h7
       ·have:=(h4 h7).2 (by omega);exact⟨fun _=>by omega,fun h=>by omega⟩
       ·have:=h3 h7;exact⟨fun _=>by omega,fun h=>by omega⟩) (by rw[hX];omega)
     rw[if_neg c1,if_pos c2];exact k1
    ·have k1:=ih (i+1) 0 (by omega) (by omega) (fun h=>by have:=h3 (by omega);omega) (fun h=>⟨fun h=>absurd rfl h,fun h=>by omega⟩) (by rw[hX];omega)
     rw[if_neg c1,if_neg c2];exact k1
  ·have hc:c=0:=by omega
   have hi:n-i=0:=by omega
   subst hc;simp only[yK,hstop,if_false]
theorem uS(l:List Int):∀(d i:Nat),l.length<=i+d->gs (fun j=>l.getD j 0) d i=gv (l.drop i)
 |0,i,h=>by rw[qG (by omega)];rfl
 |d+1,i,h=>by
  have ih:=uS l d (i+1) (by omega)
  simp only[gs,ih];by_cases c:i<l.length
  ·rw[qH c,gv,nX,kN c];rfl
  ·rw[qG (by omega),qG (by omega),nX,E8 (by omega)];rfl
theorem PX(f g:Nat->Int):∀(d i:Nat),gs (fun j=>f j+g j) d i=gs f d i+gs g d i
 |0,_=>rfl
 |d+1,i=>by simp only[gs,PX f g d (i+1)];omega
theorem PY(f g:Nat->Int):∀(d i:Nat),gs (fun j=>f j-g j) d i=gs f d i-gs g d i
 |0,_=>rfl
 |d+1,i=>by simp only[gs,PY f g d (i+1)];omega
theorem P5(f:Nat->Int)(k:Int):∀(d i:Nat),gs (fun j=>f j*k) d i=gs f d i*k
 |0,_=>by simp[gs]
 |d+1,i=>by simp only[gs,P5 f k d (i+1)];rw[Int.add_mul,Int.mul_assoc]
theorem uf{l:List Int}(h:gZ l)(i:Nat):0<=l.getD i 0/\l.getD i 0<=9999:=by
 by_cases c:i<l.length
 ·rw[nX,kN c];exact h _ (l9 c)
 ·rw[nX,E8 (by omega)];simp
theorem zS{l:List Int}{i:Nat}(h:l.length<=i):l.getD i 0=0:=by
 rw[nX,E8 h];rfl
theorem amj{a b:List Int}(ha:gZ a)(hb:gZ b):iF (ni (fun i=>a.getD i 0+b.getD i 0) (max a.length b.length) (max a.length b.length+3) 0 0)=aC (gv a+gv b).toNat:=by
 have h:=UF (g:=fun i=>a.getD i 0+b.getD i 0) (n:=max a.length b.length) (fun i=>by have:=uf ha i;have:=uf hb i;omega) (fun i hi=>by rw[zS (by omega),zS (by omega)];rfl)
  (max a.length b.length+3) 0 0 (by omega) (by omega) (fun _=>by omega) (fun h=>by omega) (by
   rw[PX,uS a _ _ (by omega),uS b _ _ (by omega)]
   have:=xH ha;have:=xH hb;simp only[List.drop_zero];omega)
 rw[H9 h.2,h.1,PX,uS a _ _ (by omega),uS b _ _ (by omega),List.drop_zero,List.drop_zero,yL]
theorem amk{a b:List Int}(ha:gZ a)(hb:gZ b)(hl:b.length<=a.length)(hle:gv b<=gv a):iF (ni (fun i=>a.getD i 0-b.getD i 0) a.length (a.length+3) 0 0)=aC (gv a-gv b).toNat:=by
 have h:=UF (g:=fun i=>a.getD i 0-b.getD i 0) (n:=a.length) (fun i=>by have:=uf ha i;have:=uf hb i;omega) (fun i hi=>by rw[zS (by omega),zS (by omega)];rfl)
  (a.length+3) 0 0 (by omega) (by omega) (fun _=>by omega) (fun h=>by omega) (by
   rw[PY,uS a _ _ (by omega),uS b _ _ (by omega)]
   simp only[List.drop_zero];omega)
 rw[H9 h.2,h.1,PY,uS a _ _ (by omega),uS b _ _ (by omega),List.drop_zero,List.drop_zero,yL]
theorem aml{a:List Int}(ha:gZ a){k:Int}(hk:0<=k/\k<=10000):iF (ni (fun i=>a.getD i 0*k) a.length (a.length+3) 0 0)=aC (gv a*k).toNat:=by
 have h:=UF (g:=fun i=>a.getD i 0*k) (n:=a.length) (fun i=>by
   have h1:=uf ha i;have h2:0<=a.getD i 0*k:=Int.mul_nonneg h1.1 hk.1;have h3:a.getD i 0*k<=9999*10000:=Int.mul_le_mul h1.2 hk.2 hk.1 (by omega)
   omega) (fun i hi=>by rw[zS (by omega),Int.zero_mul])
  (a.length+3) 0 0 (by omega) (by omega) (fun _=>by omega) (fun h=>by omega) (by
   rw[P5,uS a _ _ (by omega),List.drop_zero,yL]
   exact Int.mul_nonneg (xH ha) hk.1)
 rw[H9 h.2,h.1,P5,uS a _ _ (by omega),List.drop_zero,yL]
def xI(a b:List Int):Nat->Int
 |0=>0
 |k+1=>if a.getD k 0=b.getD k 0 then xI a b k else if a.getD k 0<b.getD k 0 then -1 else 1
def eX(a b:Int):Int:=if a<b then -1 else if a=b then 0 else 1
theorem ab1{a b:List Int}(ha:gZ a)(hb:gZ b):∀ k,k<=a.length->k<=b.length->xI a b k=eX (gv (a.take k)) (gv (b.take k))
 |0,_,_=>rfl
 |k+1,h1,h2=>by
  have ih:=ab1 ha hb k (by omega) (by omega)
  have da:gZ (a.take k):=fun x hx=>ha x (zH hx);have db:gZ (b.take k):=fun x hx=>hb x (zH hx);have la:=H7 da;have lb:=H7 db;have na:=xH da;have nb:=xH db;have ea:(a.take k).length=k:=by simp;omega
  have eb:(b.take k).length=k:=by simp;omega
  rw[ea]at la;rw[eb]at lb;have ga:a.getD k 0=a[k]:=by rw[nX,kN (by omega)];rfl
  have gb:b.getD k 0=b[k]:=by rw[nX,kN (by omega)];rfl
  rw[zR (by omega),zR (by omega),PW,PW,ea,eb]
  simp only[xI,ga,gb,gv,Int.mul_zero,yL];rw[ih];generalize gv (a.take k)=A at*;generalize gv (b.take k)=B at*;generalize (10000:Int)^k=X at*;generalize a[k]=x at*;generalize b[k]=y at*;by_cases c1:x=y
  ·subst c1;rw[if_pos rfl];unfold eX;have e1:(A+X*x<B+X*x)↔A<B:=by omega
   have e2:(A+X*x=B+X*x)↔A=B:=by omega
   simp only[e1,e2]
  ·rw[if_neg c1];by_cases c2:x<y
   ·rw[if_pos c2];have:X*(x+1)<=X*y:=Cw (by omega) (by omega)
    rw[Int.mul_add,Int.mul_one]at this;unfold eX;rw[if_pos (by omega)]
   ·rw[if_neg c2];have:X*(y+1)<=X*x:=Cw (by omega) (by omega)
    rw[Int.mul_add,Int.mul_one]at this;unfold eX;rw[if_neg (by omega),if_neg (by omega)]
theorem ab2{a:Int}(h:1<=a){m n:Nat}(hmn:m<=n):a^m<=a^n:=by
 obtain⟨k,rfl⟩:∃ k,n=m+k:=⟨n-m,by omega⟩
 clear hmn
 induction k with
 |zero=>exact pW _
 |succ k ih =>
  have h0:0<=a^(m+k):=Int.pow_nonneg (by omega)
  have h1:a^(m+k)*1<=a^(m+k)*a:=Cw h h0;rw[Int.mul_one]at h1;rw[show m+(k+1)=m+k+1 from rfl,Int.pow_succ]
  exact Int.le_trans ih h1
theorem UH{a b:Nat}(h:(aC a).length<(aC b).length):a<b:=by
 have h1:=H7 (tZ a);rw[qW]at h1;have hb:aC b≠[]:=by intro e;rw[e]at h;simp at h
 -- the last group of b is at least one
 obtain⟨i,x,e⟩:∃(i:List Int) (x:Int),aC b=i++[x]:=⟨(aC b).dropLast,(aC b).getLast hb,(List.dropLast_concat_getLast hb).symm⟩
 have hx:x≠0:=by
  have:=ami b hb;simp only[e,List.getLast_append_of_ne_nil,ne_eq,List.cons_ne_nil,not_false_eq_true,List.getLast_singleton]at this;exact this
 have hd:=tZ b;rw[e]at hd;have hx2:=hd x (by simp)
 have hi:gZ i:=fun y hy=>hd y (by simp[hy])
 have h3:=xH hi;have h2:=qW b;rw[e,PW]at h2;simp only[gv,Int.mul_zero,yL]at h2;have hl:(aC a).length<=i.length:=by rw[e]at h;simp at h;omega
 have h4:(10000:Int)^(aC a).length<=10000^i.length:=ab2 (by omega) hl
 have h5:(10000:Int)^i.length*1<=10000^i.length*x:=Cw (by omega) (Int.pow_nonneg (by omega))
 rw[Int.mul_one]at h5;omega
theorem DN{a b:Nat}(h:a<=b):(aC a).length<=(aC b).length:=by
 rcases kZ (aC b).length (aC a).length with h1|h1
 ·have:=UH h1;omega
 ·exact h1
def cmpL(a b:List Int):Int:=if a.length=b.length then xI a b a.length else if a.length<b.length then -1 else 1
theorem UI(a b:Nat):cmpL (aC a) (aC b)=eX a b:=by
 unfold cmpL;by_cases h:(aC a).length=(aC b).length
 ·rw[if_pos h,ab1 (tZ a) (tZ b) _ (bC _) (by omega),qj,h,qj,qW,qW]
 ·rw[if_neg h];by_cases h2:(aC a).length<(aC b).length
  ·have:=UH h2;rw[if_pos h2];unfold eX;rw[if_pos (by omega)]
  ·have:=UH (a:=b) (b:=a) (by omega)
   rw[if_neg h2];unfold eX;rw[if_neg (by omega),if_neg (by omega)]
end Go.VI.Num
/- Decimal texts of numbers of any size. -/
namespace Go.VI.Num
def zT(c:UInt8):Prop:=48<=c.toNat/\c.toNat<=57
def ug(l:List UInt8):Prop:=∀ c∈l,zT c
def dv(acc:Nat)(l:List UInt8):Nat:=l.foldl (fun a c=>a*10+(c.toNat-48)) acc
theorem yM(acc:Nat):dv acc []=acc:=rfl
theorem yN(acc:Nat)(c:UInt8)(r:List UInt8):dv acc (c::r)=dv (acc*10+(c.toNat-48)) r:=by unfold dv;rw[List.foldl_cons]
theorem UJ(a b:List UInt8)(acc:Nat):dv acc (a++b)=dv (dv acc a) b:=List.foldl_append
theorem ab3(l:List UInt8):∀ acc,dv acc l=acc*10^l.length+dv 0 l:=by
 induction l with
 |nil=>intro acc;rw[yM,yM,List.length_nil,Nat.pow_zero,Nat.mul_one,Nat.add_zero]
 |cons c r ih =>
  intro acc;rw[yN,yN,ih,ih (0*10+(c.toNat-48)),Nat.zero_mul,oO,List.length_cons,yJ,kU,Nat.add_assoc,vk (10^r.length) 10,Nat.mul_assoc]
theorem UK{l:List UInt8}(h:ug l):dv 0 l<10^l.length:=by
 induction l with
 |nil=>rw[yM];exact Nat.one_pos
 |cons c r ih =>
  have h1:=ih fun x hx=>h x (by simp[hx])
  have h2:=h c (by simp)
  unfold zT at h2;rw[yN,ab3,List.length_cons,yJ,Nat.zero_mul,oO];have h3:(c.toNat-48)*10^r.length<=9*10^r.length:=qD _ (by omega)
  generalize (c.toNat-48)*10^r.length=Y at*;generalize 10^r.length=X at*;omega
def dec(n:Nat):List UInt8:=wF (n+1) n
theorem ab4(n:Nat):n<10^(n+1):=by
 induction n with
 |zero=>decide
 |succ n ih =>
  rw[yJ];generalize 10^(n+1)=X at*;omega
theorem Ho:∀(f f' u:Nat),u<10^f->u<10^f'->0<f->0<f'->wF f u=wF f' u
 |0,_,_,_,_,h,_=>by omega
 |_+1,0,_,_,_,_,h=>by omega
 |f+1,f'+1,u,h1,h2,_,_=>by
  simp only[wF];split
  ·rfl
  ·rename_i h3
   have hf:0<f:=by
    rcases vg f with h|h
    ·subst h;simp at h1;omega
    ·exact h
   have hf':0<f':=by
    rcases vg f' with h|h
    ·subst h;simp at h2;omega
    ·exact h
   rw[yJ,vk]at h1 h2;rw[Ho f f' (u/10) (Nat.div_lt_of_lt_mul h1) (Nat.div_lt_of_lt_mul h2) hf hf']
theorem UL{f u:Nat}(h:u<10^f)(hf:0<f):wF f u=dec u:=Ho _ _ _ h (ab4 u) hf (by omega)
theorem yO{u:Nat}(h:u<10):dec u=[UInt8.ofNat (48+u)]:=by simp[dec,wF,h]
theorem uh{u:Nat}(h:10<=u):dec u=dec (u/10)++[UInt8.ofNat (48+u%10)]:=by
 have h1:¬ u<10:=by omega
 have:dec u=wF u (u/10)++[UInt8.ofNat (48+u%10)]:=by simp only[dec,wF,h1,if_false]
 rw[this,UL _ (by omega)]
 have:=ab4 (u/10);exact uF this (yP (by omega) (by omega))
theorem K3{d:Nat}(h:d<10):(UInt8.ofNat (48+d)).toNat=48+d:=by
 rw[UInt8.toNat_ofNat'];omega
theorem K4(n:Nat):ug (dec n):=by
 induction n using Nat.strongRecOn with
 |_ n ih =>
  intro c hc;rcases kZ n 10 with h|h
  ·rw[yO h,Cr]at hc;subst hc;unfold zT;rw[K3 h];omega
  ·rw[uh h,lX,Cr]at hc;rcases hc with hc|hc
   ·exact ih (n/10) (by omega) c hc
   ·subst hc;unfold zT;rw[K3 (by omega)];omega
theorem Ib(n:Nat):dv 0 (dec n)=n:=by
 induction n using Nat.strongRecOn with
 |_ n ih =>
  rcases kZ n 10 with h|h
  ·rw[yO h,yN,yM,K3 h];omega
  ·rw[uh h,UJ,ih (n/10) (by omega),yN,yM,K3 (by omega)];omega
theorem Cy(n:Nat):dec n≠[]:=by
 rcases kZ n 10 with h|h
 ·rw[yO h];simp
 ·rw[uh h];simp
def K5(l:List UInt8):Prop:=l≠[]/\(l=[48]\/l.head?≠some 48)
theorem amm(n:Nat):K5 (dec n):=by
 refine⟨Cy n, ?_⟩
 induction n using Nat.strongRecOn with
 |_ n ih =>
  rcases kZ n 10 with h|h
  ·rw[yO h];by_cases h0:n=0
   ·subst h0;exact .inl rfl
   ·refine .inr fun e=>?_;simp only[List.head?_cons,aS]at e;have:=congrArg UInt8.toNat e;rw[K3 h]at this;simp at this;omega
  ·right;rw[uh h];have h1:=Cy (n/10);rw[List.head?_append];obtain⟨c,r,hc⟩:=Fy h1;rcases ih (n/10) (by omega)with h2|h2
   ·have:=Ib (n/10);rw[h2,yN,yM]at this;have e48:(48:UInt8).toNat=48:=rfl;rw[e48]at this;omega
   ·rw[hc]at h2⊢;simpa using h2
theorem ab5:∀(k:Nat) (l:List UInt8),l.length=k->ug l->K5 l->dec (dv 0 l)=l:=by
 intro k
 induction k with
 |zero=>intro l hl _ h;exact absurd (List.length_eq_zero_iff.mp hl) h.1
 |succ k ih =>
  intro l hl hd hn;obtain⟨i,c,rfl⟩:∃ i c,l=i++[c]:=⟨l.dropLast,l.getLast hn.1,(List.dropLast_concat_getLast hn.1).symm⟩;have hc:=hd c (by simp)
  unfold zT at hc
  have hu:UInt8.ofNat (48+(c.toNat-48))=c:=by
   rw[show 48+(c.toNat-48)=c.toNat by omega]
   exact UInt8.ofNat_toNat
  rw[UJ];by_cases hi:i=[]
  ·subst hi;rw[List.nil_append,yM,yN,yM,Nat.zero_mul,oO,yO (by omega),hu]
  ·have hni:K5 i:=by
    refine⟨hi, ?_⟩;obtain⟨x,r,rfl⟩:=Fy hi;rcases hn.2 with h|h
    ·simp at h
    ·right;simpa using h
   have hdi:ug i:=fun x hx=>hd x (by simp[hx])
   have e:=ih i (by simp at hl;omega) hdi hni
   rw[yN,yM]
   have hpos:1<=dv 0 i:=by
    rcases vg (dv 0 i)with h|h
    ·rw[h,yO (by omega)]at e
     rcases hn.2 with h2|h2
     ·rw[<-e]at h2;simp at h2
     ·rw[<-e]at h2;simp at h2
    ·exact h
   rw[uh (by omega)]
   have e1:(dv 0 i*10+(c.toNat-48))/10=dv 0 i:=by omega
   have e2:(dv 0 i*10+(c.toNat-48))%10=c.toNat-48:=by omega
   rw[e1,e2,e,hu]
theorem Cz{n k:Nat}(hk:0<k):(dec n).length<=k↔n<10^k:=by
 constructor
 ·intro h;have:=UK (K4 n);rw[Ib]at this;exact uF this (yP (by omega) h)
 ·intro h
  induction k generalizing n with
  |zero=>omega
  |succ k ih =>
   rcases kZ n 10 with h1|h1
   ·rw[yO h1];simp
   ·rw[uh h1,jm,List.length_singleton];rw[yJ,vk]at h
    have hk:0<k:=by
     rcases vg k with h0|h0
     ·subst h0;simp at h;omega
     ·exact h0
    have:=ih (n:=n/10) hk (Nat.div_lt_of_lt_mul h);omega
def wH(d:Nat):List UInt8:=[UInt8.ofNat (48+d/1000),UInt8.ofNat (48+d/100%10),UInt8.ofNat (48+d/10%10),UInt8.ofNat (48+d%10)]
theorem amn{n:Nat}(h:10000<=n):dec n=dec (n/10000)++wH (n%10000):=by
 rw[uh (by omega),uh (u:=n/10) (by omega),uh (u:=n/10/10) (by omega),uh (u:=n/10/10/10) (by omega)]
 have e0:n/10/10/10/10=n/10000:=by omega
 have e1:n/10/10/10%10=n%10000/1000:=by omega
 have e2:n/10/10%10=n%10000/100%10:=by omega
 have e3:n/10%10=n%10000/10%10:=by omega
 have e4:n%10=n%10000%10:=by omega
 rw[e0,e1,e2,e3,e4];simp[wH]
theorem amo{d:Nat}(h:d<10000):List.replicate (4-(dec d).length) 48++dec d=wH d:=by
 have z:(48:UInt8)=UInt8.ofNat (48+0):=rfl;unfold wH;rcases kZ d 10 with h1|h1
 ·rw[yO h1];have e1:d/1000=0:=by omega
  have e2:d/100%10=0:=by omega
  have e3:d/10%10=0:=by omega
  have e4:d%10=d:=by omega
  rw[e1,e2,e3,e4];rfl
 ·rcases kZ d 100 with h2|h2
  ·rw[uh h1,yO (u:=d/10) (by omega)]
   have e1:d/1000=0:=by omega
   have e2:d/100%10=0:=by omega
   have e3:d/10%10=d/10:=by omega
   rw[e1,e2,e3];rfl
  ·rcases kZ d 1000 with h3|h3
   ·rw[uh h1,uh (u:=d/10) (by omega),yO (u:=d/10/10) (by omega)]
    have e1:d/1000=0:=by omega
    have e2:d/100%10=d/10/10:=by omega
    rw[e1,e2];rfl
   ·rw[uh h1,uh (u:=d/10) (by omega),uh (u:=d/10/10) (by omega),yO (u:=d/10/10/10) (by omega)]
    have e1:d/1000=d/10/10/10:=by omega
    have e2:d/100%10=d/10/10%10:=by omega
    rw[e1,e2];rfl
def K6:List Int->List UInt8
 |[]=>[]
 |d::r=>if r=[]then dec d.toNat else K6 r++wH d.toNat
theorem amq{n:Nat}(h:n≠0):K6 (aC n)=dec n:=by
 induction n using Nat.strongRecOn with
 |_ n ih =>
  rw[Cv h];simp only[K6,Bd,wK];rcases kZ n 10000 with h1|h1
  ·rw[if_pos (by omega),Nat.mod_eq_of_lt h1]
  ·rw[if_neg (by omega),ih (n/10000) (by omega) (by omega),<-amn h1]
theorem ab6:∀(l:List UInt8) (acc:Nat),ug l->(acc+1)*10^l.length<=10^18->Lib.parseUint10 acc l=.ok (dv acc l)
 |[],acc,_,_=>rfl
 |c::r,acc,h,hb=>by
  have hc:=h c (by simp)
  have hc2:=hc;unfold zT at hc2;rw[List.length_cons,yJ]at hb;have h10:1<=10^r.length:=Nat.pos_of_ne_zero (by simp)
  have hb2:(acc+1)*10*10^r.length<=10^18:=by rw[Nat.mul_assoc,vk 10];exact hb
  have h1:(acc+1)*10<=10^18:=ng (Nat.le_mul_of_pos_right _ h10) hb2;have e18:(10:Nat)^18=1000000000000000000:=by decide
  rw[e18]at h1;simp only[Lib.parseUint10,hc2,and_self,if_true];rw[if_neg (by omega),if_neg (by omega),yN]
  refine ab6 r _ (fun x hx=>h x (by simp[hx])) (ng (qD _ ?_) hb2)
  omega
theorem amr{l:List UInt8}(h:ug l)(hl:l≠[])(hn:l.length<=18):Lib.atoiAll l=.ok ((dv 0 l:Nat):Int):=by
 obtain⟨c,r,rfl⟩:=Fy hl;have hc:=h c (by simp)
 unfold zT at hc
 have hp:Lib.parseMag (c::r)=.ok (dv 0 (c::r)):=by
  unfold Lib.parseMag;rw[if_neg (by simp),ab6 _ _ h]
  rw[oO,Nat.one_mul];exact yP (by omega) hn
 have hlt:=UK h;have hle:10^(c::r).length<=10^18:=yP (by omega) hn
 have e18:(10:Nat)^18=1000000000000000000:=by decide
 have n1:¬ (c.toNat=43\/c.toNat=45):=by omega
 have n2:¬ c.toNat=45:=by omega
 have hb:¬ 9223372036854775808<=dv 0 (c::r):=by
  rw[e18]at hle;generalize 10^(c::r).length=X at*;omega
 unfold Lib.atoiAll;simp only[];rw[if_neg n1,hp];simp only[n2,if_false,not_false_eq_true,true_and,false_and,hb]
end Go.VI.Num
/- Integers as texts: which texts are integers, and what they are worth. -/
namespace Go.VI.Num
def ds:List UInt8:=[48,49,50,51,52,53,54,55,56,57]
theorem UM(b:UInt8):ds.contains b=true↔zT b:=by
 unfold ds zT;simp only[List.contains_cons,List.contains_nil,pE,beq_iff_eq,<-UInt8.toNat_inj,Bool.or_false];simp only[UInt8.reduceToNat];omega
theorem dropWhile_nil{α:Type}{p:α->Bool}:∀{l:List α},l.dropWhile p=[]->∀ x∈l,p x=true
 |[],_,x,hx=>by simp at hx
 |a::l,h,x,hx=>by
  rw[List.dropWhile_cons]at h;split at h
  ·rename_i ha;rcases ko.mp hx with rfl|hx
   ·exact ha
   ·exact dropWhile_nil h x hx
  ·cases h
theorem ab7{α:Type}{p:α->Bool}:∀{l:List α},(∀ x∈l,p x=true)->l.dropWhile p=[]
 |[],_=>rfl
 |a::l,h=>by rw[List.dropWhile_cons,if_pos (h a (by simp))];exact ab7 fun x hx=>h x (by simp[hx])
theorem ab8{α:Type}{p:α->Bool}:∀{l:List α} {x:α},x∈l.takeWhile p->p x=true
 |[],x,h=>by simp at h
 |a::l,x,h=>by
  rw[List.takeWhile_cons]at h;split at h
  ·rename_i ha;rcases ko.mp h with rfl|h
   ·exact ha
   ·exact ab8 h
  ·simp at h
theorem UN{l:List UInt8}:Lib.trimS l ds=[]↔ug l:=by
 unfold Lib.trimS Lib.trimLeftS Lib.trimRightS;constructor
 ·intro h c hc;have h1:=dropWhile_nil h;have h2:c∈l.reverse:=by simpa using hc
  rw[<-List.takeWhile_append_dropWhile (p:=fun b=>ds.contains b) (l:=l.reverse),lX]at h2;rcases h2 with h2|h2
  ·exact(UM c).mp (ab8 (p:=fun b=>ds.contains b) h2)
  ·exact(UM c).mp (h1 c (by simpa using h2))
 ·intro h;have:l.reverse.dropWhile (fun b=>ds.contains b)=[]:=ab7 fun x hx=>(UM x).mpr (h x (by simpa using hx))
  rw[this];rfl
def aH(z:Int):List UInt8:=if z<0 then 45::dec z.natAbs else dec z.natAbs
def body(s:List UInt8):List UInt8:=Lib.trimPrefix s [45]
theorem P6(r:List UInt8):body (45::r)=r:=by simp[body,Lib.trimPrefix,Lib.hasPrefix]
theorem UO{s:List UInt8}(h:s.head?≠some 45):body s=s:=by
 cases s with
 |nil=>rfl
 |cons c r =>
  have:c≠45:=fun e=>h (by rw[e];rfl)
  have h2:¬ (45:UInt8)=c:=fun e=>this e.symm;simp[body,Lib.trimPrefix,Lib.hasPrefix,List.isPrefixOf,h2]
theorem UQ(n:Nat):(dec n).head?≠some 45:=by
 intro h;have h1:=K4 n;obtain⟨c,r,e⟩:=Fy (Cy n);rw[e]at h h1;simp only[List.head?_cons,aS]at h;subst h;have:=h1 45 (by simp)
 unfold zT at this;simp at this
theorem UR(z:Int):body (aH z)=dec z.natAbs:=by
 unfold aH;split
 ·exact P6 _
 ·exact UO (UQ _)
def xJ(s:List UInt8):Bool:=!(body s).isEmpty&&decide ((body s).length<=200)&&(Lib.trimS (body s) ds).isEmpty&&(s==[48]||!((body s).head?==some 48))
theorem uT{z:Int}(h:z.natAbs<10^200):xJ (aH z)=true:=by
 have h1:Lib.trimS (dec z.natAbs) ds=[]:=UN.mpr (K4 _);have h2:=(Cz (n:=z.natAbs) (k:=200) (by omega)).mpr h
 have h3:(dec z.natAbs).isEmpty=false:=by
  cases hd:dec z.natAbs with
  |nil=>exact absurd hd (Cy _)
  |cons=>rfl
 unfold xJ;rw[UR,h1,h3,decide_eq_true h2];simp only[Bool.not_false,List.isEmpty_nil,Bool.true_and];rcases(amm z.natAbs).2 with h4|h4
 ·have:z=0:=by
   have h5:=Ib z.natAbs;rw[h4,yN,yM]at h5;have e48:(48:UInt8).toNat=48:=rfl;rw[e48]at h5;omega
  subst this;rfl
 ·rw[pE];right;simpa using h4
def zv(s:List UInt8):Int:=if s.head?=some 45 then -(dv 0 (body s):Int)else dv 0 (body s)
theorem P7(z:Int):zv (aH z)=z:=by
 unfold zv;rw[UR,Ib];by_cases h:z<0
 ·have:(aH z).head?=some 45:=by unfold aH;rw[if_pos h];rfl
  rw[if_pos this];omega
 ·have:(aH z).head?≠some 45:=by unfold aH;rw[if_neg h];exact UQ _
  rw[if_neg this];omega
theorem ab9{s:List UInt8}(h:xJ s=true):s=aH (zv s)/\(zv s).natAbs<10^200:=by
 unfold xJ at h;simp only[bM,sD,decide_eq_true_eq,yA,List.isEmpty_eq_false_iff]at h;obtain⟨⟨⟨h1,h2⟩,h3⟩,h4⟩:=h;have hd:=UN.mp h3
 have hlead:K5 (body s):=by
  refine⟨h1, ?_⟩;simp only[pE,beq_iff_eq,sD,beq_eq_false_iff_ne]at h4;rcases h4 with h4|h4
  ·subst h4;left;rfl
  ·exact .inr h4
 have e:=ab5 _ _ rfl hd hlead
 have hlt:dv 0 (body s)<10^200:=by
  refine(Cz (by omega)).mp ?_
  rw[e];exact h2
 by_cases hs:s.head?=some 45
 ·obtain⟨c,r,rfl⟩:∃ c r,s=c::r:=by cases s with|nil=>cases hs|cons c r=>exact⟨c,r,rfl⟩
  simp only[List.head?_cons,aS]at hs;subst hs;rw[P6]at *;have hz:zv (45::r)=-(dv 0 r:Int):=by unfold zv;rw[P6,if_pos (show (45::r).head?=some (45:UInt8)from rfl)]
  have hpos:dv 0 r≠0:=by
   intro h0;rw[h0]at e;simp only[pE,beq_iff_eq,sD,beq_eq_false_iff_ne]at h4;rcases h4 with h4|h4
   ·simp at h4
   ·rw[<-e]at h4;exact h4 rfl
  rw[hz];refine⟨?_,by omega⟩
  unfold aH;rw[if_pos (by omega)]
  have:(-(dv 0 r:Int)).natAbs=dv 0 r:=by omega
  rw[this,e]
 ·have hb:=UO hs;rw[hb]at e hlt;have hz:zv s=(dv 0 s:Int):=by unfold zv;rw[if_neg hs,hb]
  rw[hz];refine⟨?_,by omega⟩
  unfold aH;rw[if_neg (by omega),vC,e]
theorem K7{a b:Int}(h:aH a=aH b):a=b:=by rw[<-P7 a,h,P7]
def uV:Nat->List UInt8->List Int
 |0,_=>[]
 |f+1,l=>if l=[] then[] else(dv 0 (l.drop (l.length-4)):Int)::uV f (l.take (l.length-4))
theorem ab':∀(f:Nat) (l:List UInt8),l.length<=f->ug l->gv (uV f l)=dv 0 l/\gZ (uV f l)
 |0,l,h,_=>by
  have:l=[]:=List.length_eq_zero_iff.mp (by omega)
  subst this
  exact⟨rfl,gZ.nil⟩
 |f+1,l,h,hd=>by
  by_cases h0:l=[]
  ·subst h0;exact⟨rfl,gZ.nil⟩
  ·have hlen:0<l.length:=uj.mpr h0;have hd1:ug (l.take (l.length-4)):=fun x hx=>hd x (zH hx);have hd2:ug (l.drop (l.length-4)):=fun x hx=>hd x (List.mem_of_mem_drop hx);obtain⟨k1,k2⟩:=ab' f (l.take (l.length-4)) (by simp;omega) hd1
   have hlt:=UK hd2;have hl4:(l.drop (l.length-4)).length<=4:=by simp;omega
   have h4:10^(l.drop (l.length-4)).length<=10^4:=yP (by omega) hl4
   have e4:(10:Nat)^4=10000:=by decide
   rw[e4]at h4;simp only[uV,h0,if_false,gv,k1];refine⟨?_,gZ.cons.mpr ⟨⟨by omega,by omega⟩,k2⟩⟩
   conv=>rhs;rw[<-List.take_append_drop (l.length-4) l]
   rw[UJ,ab3 (l.drop (l.length-4)) (dv 0 (l.take (l.length-4)))];rcases kZ l.length 4 with h5|h5
   ·have:l.length-4=0:=by omega
    rw[this,List.take_zero,List.drop_zero,yM,Nat.zero_mul,oO];simp
   ·have:(l.drop (l.length-4)).length=4:=by simp;omega
    rw[this,e4];omega
end Go.VI.Num
/- The whole root of a number, and steps that fall until they stop at it. -/
namespace Go.VI.Num
end Go.VI.Num
namespace Go.VI.Num
def gV(q:Rat):Prop:=q.num.natAbs<10^200/\q.den<10^200
theorem acd{n d:Int}(hd:0<d):(Rat.divInt n d).num=n/(Int.gcd n d:Nat):=by
 rw[Rat.num_divInt,Int.sign_eq_one_of_pos hd,Int.one_mul,Int.gcd_comm]
theorem ace{n d:Int}(hd:0<d):((Rat.divInt n d).den:Int)=d/(Int.gcd n d:Nat):=by
 rw[Rat.den_divInt,if_neg (by omega),Int.gcd_comm]
 have:(d.natAbs:Int)=d:=by omega
 rw[Int.natCast_ediv,this]
theorem acf(n:Int)(g:Nat)(hg:(g:Int)∣n):(n/(g:Int)).natAbs<=n.natAbs:=by
 rw[Int.natAbs_ediv_of_dvd hg];exact Nat.div_le_self _ _
theorem UU{n d:Int}(hd:d≠0)(hn:n.natAbs<10^200)(hf:d.natAbs<10^200):gV (Rat.divInt n d):=by
 refine⟨?_, ?_⟩
 ·rw[Rat.num_divInt];refine Nat.lt_of_le_of_lt (acf _ _ ?_) ?_
  ·exact Int.dvd_trans (Int.gcd_dvd_right ..) (Int.dvd_mul_left ..)
  ·rw[Int.natAbs_mul,Int.natAbs_sign_of_ne_zero hd,Nat.one_mul];exact hn
 ·rw[Rat.den_divInt,if_neg hd];exact Nat.lt_of_le_of_lt (Nat.div_le_self _ _) hf
def o5(s t:List UInt8):Bool:=xJ s&&xJ t&&decide (0<zv t)&&(Int.gcd (zv s) (zv t)==1)
theorem Be{q:Rat}(h:gV q):o5 (aH q.num) (aH (q.den:Int))=true:=by
 unfold o5;have hd:=q.den_pos;have hr:=q.reduced;rw[uT h.1,uT (z:=(q.den:Int)) (by rw[vC];exact h.2),P7,P7,decide_eq_true (by omega)]
 simp only[Bool.true_and,beq_iff_eq];unfold Int.gcd;rw[vC];exact hr
def lY(a b:Rat):Int:=eX (a.num*b.den) (b.num*a.den)
theorem ams{a b:Rat}:lY a b=-1↔a<b:=by
 rw[Rat.lt_iff];unfold lY eX;split<;>(try split)<;>omega
theorem amt{a b:Rat}:lY a b=0↔a=b:=by
 rw[Rat.eq_iff_mul_eq_mul];unfold lY eX;split<;>(try split)<;>omega
theorem amu{a b:Rat}:lY a b=1↔b<a:=by
 rw[Rat.lt_iff];unfold lY eX;split<;>(try split)<;>omega
theorem UW(a b:Rat):(lY a b=-1/\a<b)\/(lY a b=0/\a=b)\/(lY a b=1/\b<a):=by
 have h:lY a b=-1\/lY a b=0\/lY a b=1:=by unfold lY eX;split<;>(try split)<;>simp
 rcases h with h|h|h
 ·exact .inl ⟨h,ams.mp h⟩
 ·exact .inr (.inl ⟨h,amt.mp h⟩)
 ·exact .inr (.inr ⟨h,amu.mp h⟩)
theorem amv(a b:Int):eX a b=-eX b a:=by unfold eX;split<;>split<;>(try split)<;>omega
theorem amw{n d m c:Int}(hd:0<d)(hc:0<c)(h:n/d≠m/c):eX (n/d) (m/c)=eX (n*c) (m*d):=by
 have e1:=Int.mul_ediv_add_emod n d;have e2:=Int.mul_ediv_add_emod m c;have l1:=Int.emod_nonneg n (by omega:d≠0)
 have l2:=Int.emod_nonneg m (by omega:c≠0)
 have u1:=Int.emod_lt_of_pos n hd;have u2:=Int.emod_lt_of_pos m hc
 have key:∀{n d m c:Int},0<d->0<c->n/d<m/c->n*c<m*d:=fun{n d m c} hd hc h=>by
  have u1:=Int.lt_ediv_add_one_mul_self n hd;have u2:=Int.ediv_mul_le m (by omega:c≠0)
  have h1:(n/d+1)*d*c<=(m/c)*d*c:=Int.mul_le_mul_of_nonneg_right (Int.mul_le_mul_of_nonneg_right (by omega) (by omega)) (by omega)
  have h2:n*c<(n/d+1)*d*c:=Int.mul_lt_mul_of_pos_right u1 hc;have h3:m/c*c*d<=m*d:=Int.mul_le_mul_of_nonneg_right u2 (by omega)
  have h4:(m/c)*d*c=m/c*c*d:=by rw[Int.mul_assoc,vo d c,<-Int.mul_assoc]
  omega
 by_cases h1:n/d<m/c
 ·have:=key hd hc h1;unfold eX;rw[if_pos h1,if_pos this]
 ·have:=key hc hd (by omega:m/c<n/d)
  unfold eX;rw[if_neg h1,if_neg h,if_neg (by omega),if_neg (by omega)]
theorem round_eq{n d m c:Int}(h:n/d=m/c):eX (n*c) (m*d)=eX ((n%d)*c) ((m%c)*d):=by
 have e1:=Int.mul_ediv_add_emod n d;have e2:=Int.mul_ediv_add_emod m c;have k1:n*c=d*(n/d)*c+(n%d)*c:=by rw[<-Int.add_mul,e1]
 have k2:m*d=c*(m/c)*d+(m%c)*d:=by rw[<-Int.add_mul,e2]
 have k3:d*(n/d)*c=c*(m/c)*d:=by
  rw[h,Int.mul_assoc,vo d,vo (m/c) c]
 unfold eX;rw[k1,k2,k3];simp only[Int.add_lt_add_iff_left,Int.add_right_inj]
theorem round_swap{d r c s:Int}:eX (d*s) (c*r)=-eX (r*c) (s*d):=by
 rw[amv,vo d s,vo c r]
end Go.VI.Num
namespace Go.VI.Num
theorem acg(a b:Rat):Rat.divInt (a.num*b.den+b.num*a.den) ((a.den:Int)*b.den)=a+b:=by
 rw[Rat.add_def',<-Rat.divInt_ofNat,Int.natCast_mul]
theorem ach(a b:Rat):Rat.divInt (a.num*b.den-b.num*a.den) ((a.den:Int)*b.den)=a-b:=by
 rw[Rat.sub_def',<-Rat.divInt_ofNat,Int.natCast_mul]
theorem UX(a b:Rat):Rat.divInt (a.num*b.num) ((a.den:Int)*b.den)=a*b:=by
 rw[Rat.mul_def',<-Rat.divInt_ofNat,Int.natCast_mul]
theorem aci(a b:Rat):Rat.divInt (a.num*b.den) ((a.den:Int)*b.num)=a/b:=by
 rw[Rat.div_def,Rat.inv_def,<-Rat.divInt_mul_divInt,Rat.num_divInt_den]
theorem acj{a b:Rat}:(a.den:Int)*b.num=0↔b=0:=by
 have:=a.den_pos;rw[Int.mul_eq_zero,Rat.num_eq_zero];constructor
 ·rintro(h|h)
  ·omega
  ·exact h
 ·exact .inr
def yQ(n d:Int):Option Rat:=if d=0 then none else some (Rat.divInt n d)
def mD(z:Int):Bool:=decide (z.natAbs<10^200)
def DR(a b:Rat):Option Rat:=if mD (a.num*b.den)&&mD (b.num*a.den)&&mD (a.num*b.den+b.num*a.den)&&mD ((a.den:Int)*b.den)then some (a+b)else none
def um(a b:Rat):Option Rat:=if mD (a.num*b.den)&&mD (b.num*a.den)&&mD (a.num*b.den-b.num*a.den)&&mD ((a.den:Int)*b.den)then some (a-b)else none
def Bf(a b:Rat):Option Rat:=if mD (a.num*b.num)&&mD ((a.den:Int)*b.den)then some (a*b)else none
def CB(a b:Rat):Option Rat:=if mD (a.num*b.den)&&mD ((a.den:Int)*b.num)&&decide (b≠0)then some (a/b)else none
def CF(r:Rat)(p:Nat):Int:=r.num*10^p/r.den
def upZ(r:Rat)(p:Nat):Int:=if r.num*10^p%r.den=0 then r.num*10^p/r.den else r.num*10^p/r.den+1
def P8(r:Rat)(p:Nat):Rat:=Rat.divInt (CF r p) (10^p)
def UY(r:Rat)(p:Nat):Rat:=Rat.divInt (upZ r p) (10^p)
theorem amx(p:Nat):(0:Int)<10^p:=Int.pow_pos (by decide)
theorem amy(r:Rat):(r.num:Rat)=r*(r.den:Rat):=by
 have h:=Rat.num_divInt_den r;rw[Rat.divInt_eq_div]at h
 have hd:((r.den:Int):Rat)≠0:=by
  rw[Ne,Rat.intCast_eq_zero_iff];have:=r.den_pos;omega
 have:(r.num:Rat)/((r.den:Int):Rat)*((r.den:Int):Rat)=r*((r.den:Int):Rat):=by rw[h]
 rw[Rat.div_mul_cancel hd]at this;exact this
theorem amz(r:Rat)(p:Nat):CF r p*r.den<=r.num*10^p:=Int.ediv_mul_le _ (by have:=r.den_pos;omega)
theorem amA(r:Rat)(p:Nat):r.num*10^p<(CF r p+1)*r.den:=Int.lt_ediv_add_one_mul_self _ (by have:=r.den_pos;omega)
theorem amB(r:Rat)(p:Nat):CF r p=(r*((10^p:Int):Rat)).floor:=by
 have h1:=amz r p;have h2:=amA r p;have hd:(0:Rat)<((r.den:Int):Rat):=Rat.intCast_pos.mpr (by have:=r.den_pos;omega)
 have en:=amy r
 have l1:((CF r p:Int):Rat)<=r*((10^p:Int):Rat):=by
  have:=Rat.intCast_le_intCast.mpr h1;rw[Rat.intCast_mul,Rat.intCast_mul,en]at this;refine Rat.le_of_mul_le_mul_right (c:=((r.den:Int):Rat)) ?_ hd;refine Rat.le_trans this ?_;rw[Rat.intCast_natCast];have:r*(r.den:Rat)*((10^p:Int):Rat)=r*((10^p:Int):Rat)*(r.den:Rat):=by grind
  rw[this];exact Rat.le_refl
 have l2:r*((10^p:Int):Rat)<((CF r p+1:Int):Rat):=by
  have:=Rat.intCast_lt_intCast.mpr h2;rw[Rat.intCast_mul,Rat.intCast_mul,en]at this;refine Rat.lt_of_mul_lt_mul_right (c:=((r.den:Int):Rat)) ?_ (Rat.le_of_lt hd);rw[Rat.intCast_natCast]at this⊢;have e:r*(r.den:Rat)*((10^p:Int):Rat)=r*((10^p:Int):Rat)*(r.den:Rat):=by grind
  rw[<-e];exact this
 have k1:=Rat.le_floor_iff.mpr l1;have k2:=Rat.floor_lt_iff.mpr l2;omega
end Go.VI.Num
namespace Go.VI.Num
theorem UZ{n d:Int}(hd:d≠0):(Rat.divInt n d).num.natAbs<=n.natAbs/\(Rat.divInt n d).den<=d.natAbs:=by
 constructor
 ·rw[Rat.num_divInt];refine ng (acf _ _ ?_) ?_
  ·exact Int.dvd_trans (Int.gcd_dvd_right ..) (Int.dvd_mul_left ..)
  ·rw[Int.natAbs_mul,Int.natAbs_sign_of_ne_zero hd,Nat.one_mul];exact bC _
 ·rw[Rat.den_divInt,if_neg hd];exact Nat.div_le_self _ _
end Go.VI.Num
namespace Go.VI.Num
end Go.VI.Num
namespace Go.VI.Num
open Go.VI
theorem K8:aH 1=[49]:=rfl
end Go.VI.Num
namespace Go.VI.Num
open Go.VI
theorem amC(d:Nat):aH (d:Int)=dec d:=by
 unfold aH;rw[if_neg (by omega),vC]
end Go.VI.Num
/- A delay unit: the course of a live programme, what is on the air, and what the laws say of it, plainly. -/
namespace Go.VI.Num
def o6(c:Int):Prop:=-9223372036854775808<=c/\c<=9223372036854775807
def lQ(c n:Int):Int:=(if c<0 then -(c+1)else c)%n
theorem Bg(c:Int){n:Int}(hn:0<n):0<=lQ c n/\lQ c n<n:=⟨Int.emod_nonneg _ (by omega),Int.emod_lt_of_pos _ hn⟩
abbrev Pr:=Int×Int
structure iD where
 L:Int
 D:Int
 E:Int
 P:List Pr
 C:List Pr
def hasB(l:List Pr)(s:Int):Bool:=l.any fun x=>decide (x.1<=s)&&decide (s<x.2)
def lM(l:List Pr)(a b:Int):Bool:=l.any fun x=>decide (x.1<b)&&decide (a<x.2)
def nY(L:Int):Int->List Pr->Bool
 |_,[]=>true
 |last,x::l=>decide (last<x.1)&&(decide (x.1<x.2)&&(decide (x.2<=L)&&nY L x.2 l))
structure lS(l:iD):Prop where
 L:1<=l.L/\l.L<=600
 D:0<=l.D/\l.D<=60
 E:1<=l.E/\l.E<=60
 P:nY l.L (-1) l.P=true
 C:nY l.L (-1) l.C=true
 p4:l.P.length<=4
 c4:l.C.length<=4
 Ic:∀ p∈l.P,lM l.C p.1 p.2=false
theorem U0{l:List Pr}{s:Int}:hasB l s=false↔∀ x∈l,x.1<=s->x.2<=s:=by
 simp[hasB]
theorem Bh{l:List Pr}{a b:Int}:lM l a b=false↔∀ x∈l,x.1<b->x.2<=a:=by
 simp[lM]
theorem amD{l:List Pr}{a b k:Int}(h:lM l a b=false)(h1:a<=k)(h2:k<b):hasB l k=false:=by
 rw[U0];rw[Bh]at h;intro x hx h3;have:=h x hx (by omega)
 omega
theorem Fz{L:Int}:∀{l:List Pr} {a:Int},nY L a l=true->∀ x∈l,a<x.1/\x.1<x.2/\x.2<=L
 |[],_,_=>by simp
 |y::l,a,h=>by
  simp only[nY,bM,decide_eq_true_eq]at h;intro x hx;rcases ko.mp hx with rfl|hx
  ·exact⟨h.1,h.2.1,h.2.2.1⟩
  ·have:=Fz h.2.2.2 x hx;omega
structure Stp where
 fr:Int
 to:Int
 be:Int
 af:Int
 de:Int
 cut:Bool
 str:Bool
def zU(l:iD)(s d:Int):Bool:=decide (d<l.D)&&(decide (s+l.E<=l.L)&&(!lM l.C s (s+l.E)&&!lM l.P s (s+l.E)))
inductive Ch(l:iD):Int->Int->List Stp->Int->Prop
 |nil (d:Int):Ch l l.L d [] d
 |sH {s d e:Int} {xs:List Stp}:s<l.L->hasB l.C s=true->0<d->Ch l (s+1) (d-1) xs e->Ch l s d (⟨s,s+1,s+d,s+d,d,true,false⟩::xs) e
 |sJ {s d e:Int} {xs:List Stp}:s<l.L->hasB l.C s=true->d=0->Ch l (s+1) d xs e->Ch l s d (⟨s,s+1,s+d,s+d+1,d,true,false⟩::xs) e
 |str {s d e:Int} {xs:List Stp}:s<l.L->hasB l.C s=false->d<l.D->s+l.E<=l.L->lM l.C s (s+l.E)=false->lM l.P s (s+l.E)=false->Ch l (s+l.E) (d+1) xs e->Ch l s d (⟨s,s+l.E,s+d,s+d+l.E+1,d,false,true⟩::xs) e
 |pl {s d e:Int} {xs:List Stp}:s<l.L->hasB l.C s=false->zU l s d=false->Ch l (s+1) d xs e->Ch l s d (⟨s,s+1,s+d,s+d+1,d,false,false⟩::xs) e
def yR(s:Int)(n:Nat):List Int:=(List.range n).map fun(k:Nat)=>s+(k:Int)
@[simp] theorem amE (s:Int) (n:Nat):(yR s n).length=n:=by simp [yR]
theorem acn{s y:Int}{n:Nat}:y∈yR s n↔s<=y/\y<s+n:=by
 simp only[yR,List.mem_map,List.mem_range];constructor
 ·rintro⟨k,h,rfl⟩;omega
 ·intro h;exact⟨(y-s).toNat,by omega,by omega⟩
theorem amF{s:Int}{n k:Nat}(h:k<(yR s n).length):(yR s n)[k]=s+k:=by simp[yR]
def ny(x:Stp):List Int:=(List.range (x.af-x.be).toNat).map fun(k:Nat)=>if x.cut then -1 else max (x.to-(x.af-(x.be+(k:Int)))) x.fr
def iW(xs:List Stp):List Int:=xs.flatMap ny
theorem U1(s a d:Int):ny ⟨s,s+1,a,a,d,true,false⟩=[]:=by simp[ny]
theorem U2(s a d:Int):ny ⟨s,s+1,a,a+1,d,true,false⟩=[-1]:=by
 simp only[ny,show (a+1-a).toNat=1 by omega];rfl
theorem K9(s a d:Int):ny ⟨s,s+1,a,a+1,d,false,false⟩=[s]:=by
 simp only[ny,show (a+1-a).toNat=1 by omega,List.range_one,List.map_cons,List.map_nil,iw,if_false]
 congr 1;omega
theorem La{E:Int}(hE:1<=E)(s a d:Int):ny ⟨s,s+E,a,a+E+1,d,false,true⟩=s::yR s E.toNat:=by
 simp only[ny,show (a+E+1-a).toNat=E.toNat+1 by omega,iw,if_false]
 rw[List.range_succ_eq_map,List.map_cons,List.map_map];congr 1
 ·omega
 ·unfold yR;apply List.map_congr_left;intro k _;simp only[Function.comp];omega
def nJ(xs:List Stp):List Int:=xs.flatMap fun x=>List.replicate (x.to-x.fr).toNat x.de
section
variable {l:iD}
theorem Ch.le(hE:1<=l.E){s d e:Int}{xs:List Stp}(h:Ch l s d xs e):s<=l.L:=by cases h<;>omega
theorem Ch.dl{s d e:Int}{xs:List Stp}(h:Ch l s d xs e):0<=d->d<=l.D->0<=e/\e<=l.D:=by
 induction h with
 |nil d=>intro h1 h2;exact⟨h1,h2⟩
 |sH _ _ _ _ ih=>intro h1 h2;exact ih (by omega) (by omega)
 |sJ _ _ _ _ ih=>intro h1 h2;exact ih (by omega) (by omega)
 |str _ _ _ _ _ _ _ ih=>intro h1 h2;exact ih (by omega) (by omega)
 |pl _ _ _ _ ih=>intro h1 h2;exact ih (by omega) (by omega)
theorem Ch.Lb(hE:1<=l.E){s d e:Int}{xs:List Stp}(h:Ch l s d xs e):((iW xs).length:Int)=(l.L-s)+(e-d):=by
 induction h with
 |nil d=>simp[iW]
 |sH _ _ _ _ ih=>rw[iW,List.flatMap_cons,U1,List.nil_append];rw[iW]at ih;omega
 |sJ _ _ _ _ ih=>rw[iW,List.flatMap_cons,U2,jm,List.length_singleton];rw[iW]at ih;omega
 |str _ _ _ _ _ _ _ ih=>rw[iW,List.flatMap_cons,La hE,jm,List.length_cons,amE];rw[iW]at ih;omega
 |pl _ _ _ _ ih=>rw[iW,List.flatMap_cons,K9,jm,List.length_singleton];rw[iW]at ih;omega
theorem yS(x:Stp)(xs:List Stp):iW (x::xs)=ny x++iW xs:=rfl
theorem Ch.mem(hE:1<=l.E){s d e:Int}{xs:List Stp}(h:Ch l s d xs e):∀ y∈iW xs,y=-1\/s<=y/\y<l.L/\hasB l.C y=false:=by
 induction h with
 |nil d=>simp[iW]
 |sH _ _ _ _ ih =>
  intro y hy;rw[yS,U1,List.nil_append]at hy
  exact(ih y hy).imp id fun h=>⟨by omega,h.2⟩
 |sJ _ _ _ _ ih =>
  intro y hy;rw[yS,U2,List.singleton_append,ko]at hy;rcases hy with h|hy
  ·exact .inl h
  ·exact(ih y hy).imp id fun h=>⟨by omega,h.2⟩
 |str h1 h2 h3 h4 h5 h6 _ ih =>
  intro y hy;rw[yS,La hE,List.cons_append,ko,lX,acn]at hy;rcases hy with rfl|hy|hy
  ·exact .inr ⟨by omega,by omega,h2⟩
  ·exact .inr ⟨by omega,by omega,amD h5 (by omega) (by omega)⟩
  ·exact(ih y hy).imp id fun h=>⟨by omega,h.2⟩
 |pl h1 h2 h3 _ ih =>
  intro y hy;rw[yS,K9,List.singleton_append,ko]at hy;rcases hy with rfl|hy
  ·exact .inr ⟨by omega,by omega,h2⟩
  ·exact(ih y hy).imp id fun h=>⟨by omega,h.2⟩
theorem Ch.split(hE:1<=l.E){b:Int}(hb:∀ s,s<b->lM l.C s (s+l.E)=false->lM l.P s (s+l.E)=false->s+l.E<=b){s d e:Int}{xs:List Stp}(h:Ch l s d xs e):s<=b->b<=l.L ->
  ∃ pre ys d',xs=pre++ys/\Ch l b d' ys e/\(∀ y∈iW pre,y=-1\/s<=y/\y<b)/\(∀ x∈pre,s<=x.fr/\x.to<=b/\x.fr<b)/\((nJ pre).length:Int)=b-s:=by
 induction h with
 |nil d=>intro h1 h2;exact⟨[],[],d,rfl,by rw[show b=l.L by omega];exact .nil d,by simp[iW],by simp,by simp[nJ];omega⟩
 |@sH s d e xs g1 g2 g3 g ih =>
  intro h1 h2;by_cases c:s=b
  ·subst c;exact⟨[],_,d,rfl,.sH g1 g2 g3 g,by simp[iW],by simp,by simp[nJ]⟩
  ·obtain⟨pre,ys,d',rfl,k1,k2,k3,k4⟩:=ih (by omega) h2
   refine⟨_::pre,ys,d',rfl,k1,fun y hy=>?_,fun x hx=>?_, ?_⟩
   ·rw[yS,U1,List.nil_append]at hy;have:=k2 y hy;omega
   ·rcases ko.mp hx with rfl|hx
    ·simp only[];omega
    ·have:=k3 x hx;omega
   ·simp only[nJ,List.flatMap_cons,jm,vT]at k4⊢;omega
 |@sJ s d e xs g1 g2 g3 g ih =>
  intro h1 h2;by_cases c:s=b
  ·subst c;exact⟨[],_,d,rfl,.sJ g1 g2 g3 g,by simp[iW],by simp,by simp[nJ]⟩
  ·obtain⟨pre,ys,d',rfl,k1,k2,k3,k4⟩:=ih (by omega) h2
   refine⟨_::pre,ys,d',rfl,k1,fun y hy=>?_,fun x hx=>?_, ?_⟩
   ·rw[yS,U2,List.singleton_append,ko]at hy;rcases hy with h|hy
    ·exact .inl h
    ·have:=k2 y hy;omega
   ·rcases ko.mp hx with rfl|hx
    ·simp only[];omega
    ·have:=k3 x hx;omega
   ·simp only[nJ,List.flatMap_cons,jm,vT]at k4⊢;omega
 |@str s d e xs g1 g2 g3 g4 g5 g6 g ih =>
  intro h1 h2;by_cases c:s=b
  ·subst c;exact⟨[],_,d,rfl,.str g1 g2 g3 g4 g5 g6 g,by simp[iW],by simp,by simp[nJ]⟩
  ·have hs:=hb s (by omega) g5 g6
   obtain⟨pre,ys,d',rfl,k1,k2,k3,k4⟩:=ih hs h2;refine⟨_::pre,ys,d',rfl,k1,fun y hy=>?_,fun x hx=>?_, ?_⟩
   ·rw[yS,La hE,List.cons_append,ko,lX,acn]at hy;rcases hy with h|hy|hy
    ·exact .inr (by omega)
    ·exact .inr (by omega)
    ·have:=k2 y hy;omega
   ·rcases ko.mp hx with rfl|hx
    ·simp only[];omega
    ·have:=k3 x hx;omega
   ·simp only[nJ,List.flatMap_cons,jm,vT]at k4⊢;omega
 |@pl s d e xs g1 g2 g3 g ih =>
  intro h1 h2;by_cases c:s=b
  ·subst c;exact⟨[],_,d,rfl,.pl g1 g2 g3 g,by simp[iW],by simp,by simp[nJ]⟩
  ·obtain⟨pre,ys,d',rfl,k1,k2,k3,k4⟩:=ih (by omega) h2
   refine⟨_::pre,ys,d',rfl,k1,fun y hy=>?_,fun x hx=>?_, ?_⟩
   ·rw[yS,K9,List.singleton_append,ko]at hy;rcases hy with h|hy
    ·exact .inr (by omega)
    ·have:=k2 y hy;omega
   ·rcases ko.mp hx with rfl|hx
    ·simp only[];omega
    ·have:=k3 x hx;omega
   ·simp only[nJ,List.flatMap_cons,jm,vT]at k4⊢;omega
theorem amG{p:Pr}(hp:p∈l.C){b:Int}(h1:p.1<=b)(h2:b<=p.2):∀ s,s<b->lM l.C s (s+l.E)=false->lM l.P s (s+l.E)=false->s+l.E<=b:=by
 intro s hs h _;have:=Bh.mp h p hp;omega
def nZ(l:iD)(xs:List Stp):List Int:=List.replicate l.D.toNat (-1)++iW xs
theorem DT(x:Stp)(xs:List Stp):nJ (x::xs)=List.replicate (x.to-x.fr).toNat x.de++nJ xs:=rfl
theorem Ch.amH{s d e:Int}{xs:List Stp}(h:Ch l s d xs e):0<=d->d<=l.D->∀ y∈nJ xs,0<=y/\y<=l.D:=by
 induction h with
 |nil d=>simp[nJ]
 |sH _ _ _ _ ih =>
  intro h1 h2 y hy;rw[DT,lX,List.mem_replicate]at hy;rcases hy with⟨_,rfl⟩|hy
  ·exact⟨h1,h2⟩
  ·exact ih (by omega) (by omega) y hy
 |sJ _ _ _ _ ih =>
  intro h1 h2 y hy;rw[DT,lX,List.mem_replicate]at hy;rcases hy with⟨_,rfl⟩|hy
  ·exact⟨h1,h2⟩
  ·exact ih (by omega) (by omega) y hy
 |str _ _ _ _ _ _ _ ih =>
  intro h1 h2 y hy;rw[DT,lX,List.mem_replicate]at hy;rcases hy with⟨_,rfl⟩|hy
  ·exact⟨h1,h2⟩
  ·exact ih (by omega) (by omega) y hy
 |pl _ _ _ _ ih =>
  intro h1 h2 y hy;rw[DT,lX,List.mem_replicate]at hy;rcases hy with⟨_,rfl⟩|hy
  ·exact⟨h1,h2⟩
  ·exact ih (by omega) (by omega) y hy
def P9(l:iD)(t:Int):List Stp->Int
 |[]=>l.L
 |x::xs=>if t<=x.fr/\x.de=l.D then x.fr else P9 l t xs
def zX(l:iD)(t acc:Int)(x:Stp):Int:=if acc=l.L/\t<=x.fr/\x.de=l.D then x.fr else acc
theorem aco{t:Int}:∀(xs:List Stp) {a:Int},a≠l.L->xs.foldl (zX l t) a=a
 |[],a,_=>rfl
 |x::xs,a,h=>by
  rw[List.foldl_cons,show zX l t a x=a from if_neg fun e=>h e.1]
  exact aco xs h
theorem acp{t:Int}:∀(xs:List Stp),(∀ x∈xs,x.fr≠l.L)->xs.foldl (zX l t) l.L=P9 l t xs
 |[],_=>rfl
 |x::xs,h=>by
  rw[List.foldl_cons,P9];by_cases c:t<=x.fr/\x.de=l.D
  ·rw[if_pos c,show zX l t l.L x=x.fr from if_pos ⟨rfl,c⟩]
   exact aco xs (h x (by simp))
  ·rw[if_neg c,show zX l t l.L x=l.L from if_neg fun e=>c e.2]
   exact acp xs fun y hy=>h y (by simp[hy])
theorem Ch.fr(hE:1<=l.E){s d e:Int}{xs:List Stp}(h:Ch l s d xs e):∀ x∈xs,s<=x.fr/\x.fr<x.to/\x.to<=l.L:=by
 induction h with
 |nil d=>simp
 |sH g1 _ _ g ih=>intro x hx;rcases ko.mp hx with rfl|hx;(· simp only[];omega);(· have:=ih x hx;omega)
 |sJ g1 _ _ g ih=>intro x hx;rcases ko.mp hx with rfl|hx;(· simp only[];omega);(· have:=ih x hx;omega)
 |str g1 _ _ g4 _ _ g ih=>intro x hx;rcases ko.mp hx with rfl|hx;(· simp only[];omega);(· have:=ih x hx;omega)
 |pl g1 _ _ g ih=>intro x hx;rcases ko.mp hx with rfl|hx;(· simp only[];omega);(· have:=ih x hx;omega)
theorem Ch.de0(hE:1<=l.E){s d e:Int}{xs:List Stp}(h:Ch l s d xs e)(hs:s<l.L):(nJ xs)[0]?=some d:=by
 cases h with
 |nil=>omega
 |sH=>rw[DT];simp only[show (s+1-s).toNat=1 by omega];rfl
 |sJ=>rw[DT];simp only[show (s+1-s).toNat=1 by omega];rfl
 |str=>rw[DT];simp only[show (s+l.E-s).toNat=(l.E.toNat-1)+1 by omega];rfl
 |pl=>rw[DT];simp only[show (s+1-s).toNat=1 by omega];rfl
theorem Lc(hE:1<=l.E):∀(n:Nat) (s d:Int),l.L-s<=n->s<=l.L->0<=d->∃ xs e,Ch l s d xs e
 |0,s,d,h1,h2,h3=>by
  obtain rfl:s=l.L:=by omega
  exact⟨_,_,.nil d⟩
 |n+1,s,d,h1,h2,h3=>by
  by_cases c:s=l.L
  ·subst c;exact⟨_,_,.nil d⟩
  ·cases hc:hasB l.C s
   ·cases hs:zU l s d
    ·obtain⟨xs,e,h⟩:=Lc hE n (s+1) d (by omega) (by omega) h3
     exact⟨_,_,.pl (by omega) hc hs h⟩
    ·simp only[zU,bM,decide_eq_true_eq,sD]at hs;obtain⟨a1,a2,a3,a4⟩:=hs;obtain⟨xs,e,h⟩:=Lc hE n (s+l.E) (d+1) (by omega) (by omega) (by omega)
     exact⟨_,_,.str (by omega) hc a1 a2 a3 a4 h⟩
   ·by_cases hd:0<d
    ·obtain⟨xs,e,h⟩:=Lc hE n (s+1) (d-1) (by omega) (by omega) (by omega)
     exact⟨_,_,.sH (by omega) hc hd h⟩
    ·obtain⟨xs,e,h⟩:=Lc hE n (s+1) d (by omega) (by omega) h3
     exact⟨_,_,.sJ (by omega) hc (by omega) h⟩
end
end Go.VI.Num
/- A delay unit: runs, and the map of a run, plainly. -/
namespace Go.VI.Num
def Bj(L:Int):Int->List Pr->List Pr
 |f,[]=>if f<L then[(f,L)] else[]
 |f,c::cs=>(if f<c.1 then[(f,c.1)] else[])++Bj L c.2 cs
theorem acr{L a:Int}{cs:List Pr}(h:nY L a cs=true):∀ c∈cs.head?,a<c.1:=by
 cases cs with
 |nil=>simp
 |cons c cs =>
  simp only[nY,bM,decide_eq_true_eq]at h;intro x hx;obtain rfl:c=x:=by simpa using hx
  exact h.1
theorem acs{L:Int}:∀(cs:List Pr) {a f:Int},nY L a cs=true->0<=f->(∀ c∈cs.head?,f<=c.1)->∀ r∈Bj L f cs,f<=r.1/\r.1<r.2/\r.2<=L/\(r.1=f\/∃ c∈cs,c.2=r.1)/\(r.2=L\/∃ c∈cs,c.1=r.2)/\∀ c∈cs,r.2<=c.1\/c.2<=r.1
 |[],a,f,_,h0,_,r,hr=>by
  unfold Bj at hr;split at hr
  ·simp only[Cr]at hr;subst hr;exact⟨pW _,by assumption,pW _,.inl rfl,.inl rfl,by simp⟩
  ·simp at hr
 |c::cs,a,f,h,h0,hh,r,hr=>by
  have hfc:=hh c (by simp)
  simp only[nY,bM,decide_eq_true_eq]at h;rw[Bj,lX]at hr;rcases hr with hr|hr
  ·split at hr
   ·simp only[Cr]at hr;subst hr;refine⟨pW _,by assumption,by simp only[];omega,.inl rfl,.inr ⟨c,by simp,rfl⟩,fun x hx=>?_⟩
    rcases ko.mp hx with rfl|hx
    ·exact .inl (pW _)
    ·have:=Fz h.2.2.2 x hx;left;simp only[];omega
   ·simp at hr
  ·obtain⟨i1,i2,i3,i4,i5,i6⟩:=acs cs h.2.2.2 (f:=c.2) (by omega) (fun x hx=>by have:=acr h.2.2.2 x hx;omega) r hr
   refine⟨by omega,i2,i3, ?_, ?_,fun x hx=>?_⟩
   ·rcases i4 with i4|⟨x,hx,e⟩
    ·exact .inr ⟨c,by simp,i4.symm⟩
    ·exact .inr ⟨x,by simp[hx],e⟩
   ·rcases i5 with i5|⟨x,hx,e⟩
    ·exact .inl i5
    ·exact .inr ⟨x,by simp[hx],e⟩
   ·rcases ko.mp hx with rfl|hx
    ·exact .inr i1
    ·exact i6 x hx
theorem acu{L:Int}:∀(cs:List Pr) (f:Int),(Bj L f cs).length<=cs.length+1
 |[],f=>by unfold Bj;split<;>simp
 |c::cs,f=>by
  rw[Bj,jm,List.length_cons];have:=acu (L:=L) cs c.2;split<;>simp<;>omega
def kG(l:iD):List Pr:=Bj l.L 0 l.C
structure Run(l:iD)(r:Pr):Prop where
 lo:0<=r.1
 lt:r.1<r.2
 hi:r.2<=l.L
 fr:r.1=0\/∃ c∈l.C,c.2=r.1
 to:r.2=l.L\/∃ c∈l.C,c.1=r.2
 no:∀ c∈l.C,r.2<=c.1\/c.2<=r.1
theorem acv{l:iD}(ok:lS l){r:Pr}(h:r∈kG l):Run l r:=by
 obtain⟨i1,i2,i3,i4,i5,i6⟩:=acs l.C ok.C (f:=0) (by omega) (fun x hx=>by have:=acr ok.C x hx;omega) r h
 exact⟨i1,i2,i3,i4,i5,i6⟩
def ql(r:Pr)(st:Bool×List Pr)(x:Stp):Bool×List Pr :=
 if x.fr<r.1\/r.2<=x.fr then st
 else(x.str,(st.2++if x.fr=r.1\/x.str≠st.1 then[(x.fr,x.be)] else[])++if x.to=r.2 then[(x.to,x.af)] else[])
def DU(r:Pr)(st:Bool×List Pr)(x:Stp):Bool×List Pr:=(x.str,(ql r st x).2)
def rQ(r:Pr)(xs:List Stp):List Pr:=(xs.foldl (ql r) (false,[])).2
def nM(b:Int):Bool->List Stp->List Pr
 |_,[]=>[]
 |f,x::xs=>if x.fr<b then((if x.str≠f then[(x.fr,x.be)] else[])++if x.to=b then[(x.to,x.af)] else[])++nM b x.str xs else[]
section
variable {l:iD}
theorem Ch.tail(hE:1<=l.E){s d e:Int}{x:Stp}{xs:List Stp}(h:Ch l s d (x::xs) e):x.fr=s/\x.be=s+d/\x.de=d/\s<x.to/\x.be<=x.af/\∃ d',Ch l x.to d' xs e/\x.af=x.to+d':=by
 cases h with
 |sH g1 g2 g3 g=>exact⟨rfl,rfl,rfl,by simp only[];omega,by simp only[];omega,_,g,by simp only[];omega⟩
 |sJ g1 g2 g3 g=>exact⟨rfl,rfl,rfl,by simp only[];omega,by simp only[];omega,_,g,by simp only[];omega⟩
 |str g1 g2 g3 g4 g5 g6 g=>exact⟨rfl,rfl,rfl,by simp only[];omega,by simp only[];omega,_,g,by simp only[];omega⟩
 |pl g1 g2 g3 g=>exact⟨rfl,rfl,rfl,by simp only[];omega,by simp only[];omega,_,g,by simp only[];omega⟩
theorem Qa(hE:1<=l.E){b:Int}{f:Bool}{s d e:Int}{xs:List Stp}(h:Ch l s d xs e)(hb:b<=s):nM b f xs=[]:=by
 cases xs with
 |nil=>rfl
 |cons x xs =>
  have:=h.tail hE;rw[nM,if_neg (by omega)]
theorem U3{r:Pr}:∀(xs:List Stp) {f:Bool} {K:List Pr},(∀ x∈xs,x.fr<r.1\/r.2<=x.fr)->xs.foldl (ql r) (f,K)=(f,K)
 |[],f,K,_=>rfl
 |x::xs,f,K,h=>by
  rw[List.foldl_cons,ql,if_pos (h x (by simp))]
  exact U3 xs fun y hy=>h y (by simp[hy])
theorem U4{r:Pr}:∀(xs:List Stp) {f:Bool} {K:List Pr},(∀ x∈xs,x.fr<r.1\/r.2<=x.fr)->(xs.foldl (DU r) (f,K)).2=K
 |[],f,K,_=>rfl
 |x::xs,f,K,h=>by
  rw[List.foldl_cons,DU,ql,if_pos (h x (by simp))]
  exact U4 xs fun y hy=>h y (by simp[hy])
theorem acw(hE:1<=l.E){r:Pr}:∀(xs:List Stp) {s d e:Int} {f:Bool} {K:List Pr},Ch l s d xs e->r.1<s->(xs.foldl (ql r) (f,K)).2=K++nM r.2 f xs
 |[],s,d,e,f,K,_,_=>by simp[nM]
 |x::xs,s,d,e,f,K,h,hs=>by
  obtain⟨t1,t2,t3,t4,_,d',t5,t6⟩:=h.tail hE;by_cases c:x.fr<r.2
  ·rw[List.foldl_cons,ql,if_neg (by omega),acw hE xs t5 (by omega),nM,if_pos c]
   have:(x.fr=r.1\/x.str≠f)↔x.str≠f:=⟨fun h=>h.resolve_left (by omega),.inr⟩
   simp only[this,jO]
  ·rw[U3 _ fun y hy=>by have:=h.fr hE y hy;omega,nM,if_neg c,nI]
theorem acy(hE:1<=l.E){r:Pr}:∀(xs:List Stp) {s d e:Int} {f:Bool} {K:List Pr},Ch l s d xs e->r.1<s->(xs.foldl (DU r) (f,K)).2=K++nM r.2 f xs
 |[],s,d,e,f,K,_,_=>by simp[nM]
 |x::xs,s,d,e,f,K,h,hs=>by
  obtain⟨t1,t2,t3,t4,_,d',t5,t6⟩:=h.tail hE;by_cases c:x.fr<r.2
  ·rw[List.foldl_cons,DU,ql,if_neg (by omega),acy hE xs t5 (by omega),nM,if_pos c]
   have:(x.fr=r.1\/x.str≠f)↔x.str≠f:=⟨fun h=>h.resolve_left (by omega),.inr⟩
   simp only[this,jO]
  ·rw[U4 _ fun y hy=>by have:=h.fr hE y hy;omega,nM,if_neg c,nI]
def mH(b:Int)(xs:List Stp):List Pr:=match xs with|[]=>[]|x::xs=>(x.fr,x.be)::((if x.to=b then[(x.to,x.af)] else[])++nM b x.str xs)
theorem amJ(hE:1<=l.E){r:Pr}(hr:r.1<r.2){pre ys:List Stp}{d e:Int}(h:Ch l r.1 d ys e)(hp:∀ x∈pre,x.fr<r.1)(f:Bool) :
  ((pre++ys).foldl (ql r) (f,[])).2=mH r.2 ys/\((pre++ys).foldl (DU r) (f,[])).2=mH r.2 ys:=by
 rw[List.foldl_append,List.foldl_append,U3 pre fun x hx=>.inl (hp x hx)];have h2:=U4 (r:=r) pre (f:=f) (K:=[]) fun x hx=>.inl (hp x hx);obtain⟨g,K⟩:∃ g,pre.foldl (DU r) (f,[])=(g,[]):=⟨_,Prod.ext rfl h2⟩;rw[K]
 cases ys with
 |nil=>exact⟨rfl,rfl⟩
 |cons x xs =>
  obtain⟨t1,t2,t3,t4,_,d',t5,t6⟩:=h.tail hE;constructor
  ·rw[List.foldl_cons,ql,if_neg (by omega),if_pos (.inl t1),acw hE xs t5 (by omega)]
   simp[mH]
  ·rw[List.foldl_cons,DU,ql,if_neg (by omega),if_pos (.inl t1),acy hE xs t5 (by omega)]
   simp[mH]
theorem acz(ok:lS l){r:Pr}(hr:Run l r){xs:List Stp}{e:Int}(h:Ch l 0 l.D xs e) :
  ∃ pre ys d,xs=pre++ys/\Ch l r.1 d ys e/\(∀ y∈iW pre,y=-1\/0<=y/\y<r.1)/\(∀ x∈pre,x.fr<r.1/\x.to<=r.1)/\0<=d/\d<=l.D/\((iW pre).length:Int)=r.1+d-l.D:=by
 have hD:=ok.D;rcases hr.fr with h0|⟨c,hc,h0⟩
 ·exact⟨[],xs,l.D,rfl,by rw[h0];exact h,by simp[iW],by simp,hD.1,pW _,by rw[h0];simp[iW]⟩
 ·have hL:=Fz ok.C c hc;have hl:=h.Lb ok.E.1;have hb:=h.amH hD.1 (pW _);obtain⟨pre,ys,d',rfl,k1,k2,k3,k4⟩:=h.split ok.E.1 (amG hc (b:=r.1) (by omega) (by omega)) hr.lo (by have:=hr.lt;have:=hr.hi;omega)
  have e0:=k1.de0 ok.E.1 (by have:=hr.lt;have:=hr.hi;omega)
  have hd:=hb d' (by rw[nJ,List.flatMap_append];exact List.mem_append_right _ (Cb e0))
  have hl2:=k1.Lb ok.E.1;rw[iW,List.flatMap_append,jm]at hl;rw[iW]at hl2;exact⟨pre,ys,d',rfl,k1,k2,fun x hx=>⟨(k3 x hx).2.2,(k3 x hx).2.1⟩,hd.1,hd.2,by rw[iW];omega⟩
def qI(b:Int):Bool->List Stp->Nat
 |_,[]=>0
 |f,x::xs=>if x.fr<b then(if x.str≠f then 1 else 0)+qI b x.str xs else 0
def uP(l:iD)(s:Int):Nat:=l.P.countP fun p=>decide (s<p.2)
theorem cnt_mono{s t:Int}(h:s<=t)(P:List Pr):P.countP (fun p=>decide (t<p.2))<=P.countP fun p=>decide (s<p.2) :=
 List.countP_mono_left fun x _ hx=>by simp at hx⊢;omega
theorem cnt_lt{s t:Int}:∀{P:List Pr} {p:Pr},p∈P->s<p.2->p.2<=t->s<=t->P.countP (fun p=>decide (t<p.2))<P.countP fun p=>decide (s<p.2)
 |q::P,p,hp,h1,h2,h3=>by
  rw[List.countP_cons,List.countP_cons];rcases ko.mp hp with rfl|hp
  ·have:=cnt_mono h3 P;rw[if_neg (by simp;omega),if_pos (by simp;omega)]
   omega
  ·have:=cnt_lt hp h1 h2 h3;by_cases c:t<q.2
   ·rw[if_pos (by simp;omega),if_pos (by simp;omega)];omega
   ·rw[if_neg (by simp;omega)];omega
theorem yT(hE:1<=l.E){b:Int}{f:Bool}{s d e:Int}{xs:List Stp}(h:Ch l s d xs e)(hb:b<=s):qI b f xs=0:=by
 cases xs with
 |nil=>rfl
 |cons x xs =>
  have:=h.tail hE;rw[qI,if_neg (by omega)]
theorem Ch.few(ok:lS l){b:Int}{s d e:Int}{xs:List Stp}(h:Ch l s d xs e):d<=l.D->(∀ k,s<=k->k<b->hasB l.C k=false) ->
  qI b false xs<=2*uP l s+2/\qI b true xs<=2*uP l s+1/\((d=l.D\/l.L<s+l.E\/∃ c∈l.C,c.1<s+l.E/\s<c.2)->qI b false xs=0)/\∀ p∈l.P,p.1<s+l.E->s<p.2->qI b false xs<=2*uP l s:=by
 have hE:=ok.E.1;have mono:=fun(s t:Int) (h:s<=t)=>show uP l t<=uP l s from cnt_mono h l.P
 induction h with
 |nil d=>intro _ _;simp[qI]
 |@sH s d e xs g1 g2 g3 g ih =>
  intro hd hc
  have hb:b<=s:=by
   rcases Int.lt_or_le s b with h|h
   ·have:=hc s (pW _) h;rw[this]at g2;cases g2
   ·exact h
  rw[yT hE (.sH g1 g2 g3 g) hb,yT hE (.sH g1 g2 g3 g) hb]
  exact⟨by omega,by omega,fun _=>rfl,fun _ _ _ _=>by omega⟩
 |@sJ s d e xs g1 g2 g3 g ih =>
  intro hd hc
  have hb:b<=s:=by
   rcases Int.lt_or_le s b with h|h
   ·have:=hc s (pW _) h;rw[this]at g2;cases g2
   ·exact h
  rw[yT hE (.sJ g1 g2 g3 g) hb,yT hE (.sJ g1 g2 g3 g) hb]
  exact⟨by omega,by omega,fun _=>rfl,fun _ _ _ _=>by omega⟩
 |@str s d e xs g1 g2 g3 g4 g5 g6 g ih =>
  intro hd hc;obtain⟨i1,i2,i3,i4⟩:=ih (by omega) fun k a c=>hc k (by omega) c
  have m:=mono s (s+l.E) (by omega)
  by_cases hb:s<b
  ·simp only[qI];rw[if_pos hb,if_pos hb,if_pos (by simp),if_neg (by simp)]
   refine⟨by omega,by omega,fun h=>?_,fun p hp h1 h2=>?_⟩
   ·rcases h with h|h|⟨c,hc,h1,h2⟩
    ·omega
    ·omega
    ·have:=Bh.mp g5 c hc h1;omega
   ·have:=Bh.mp g6 p hp h1;omega
  ·rw[yT hE (.str g1 g2 g3 g4 g5 g6 g) (by omega),yT hE (.str g1 g2 g3 g4 g5 g6 g) (by omega)]
   exact⟨by omega,by omega,fun _=>rfl,fun _ _ _ _=>by omega⟩
 |@pl s d e xs g1 g2 g3 g ih =>
  intro hd hc;obtain⟨i1,i2,i3,i4⟩:=ih (by omega) fun k a c=>hc k (by omega) c
  have m:=mono s (s+1) (by omega)
  have p3:∀ c∈l.C,c.1<s+l.E->s<c.2->qI b false xs=0:=fun c hc h1 h2=>i3 (.inr (.inr ⟨c,hc,by omega,by
   have:=Fz ok.C c hc;have:=U0.mp g2 c hc;omega⟩))
  have p4:∀ p∈l.P,p.1<s+l.E->s<p.2->qI b false xs<=2*uP l s:=fun p hp h1 h2=>by
   by_cases c:s+1<p.2
   ·have:=i4 p hp (by omega) c;omega
   ·have:uP l (s+1)<uP l s:=cnt_lt hp h2 (by omega) (by omega)
    omega
  have p5:(d=l.D\/l.L<s+l.E\/∃ c∈l.C,c.1<s+l.E/\s<c.2)->qI b false xs=0:=fun h=>by
   rcases h with h|h|⟨c,hc,h1,h2⟩
   ·exact i3 (.inl h)
   ·exact i3 (.inr (.inl (by omega)))
   ·exact p3 c hc h1 h2
  have p6:qI b false xs<=2*uP l s:=by
   simp only[zU,Bool.and_eq_false_iff,decide_eq_false_iff_not,Bool.not_eq_false']at g3;rcases g3 with g3|g3|g3|g3
   ·rw[p5 (.inl (by omega))];omega
   ·rw[p5 (.inr (.inl (by omega)))];omega
   ·simp only[lM,xu,bM,decide_eq_true_eq]at g3;obtain⟨c,hc,h1,h2⟩:=g3;rw[p3 c hc h1 h2];omega
   ·simp only[lM,xu,bM,decide_eq_true_eq]at g3;obtain⟨p,hp,h1,h2⟩:=g3;exact p4 p hp h1 h2
  by_cases hb:s<b
  ·simp only[qI];rw[if_pos hb,if_pos hb,if_neg (by simp),if_pos (by simp),oO]
   exact⟨by omega,by omega,p5,p4⟩
  ·rw[yT hE (.pl g1 g2 g3 g) (by omega),yT hE (.pl g1 g2 g3 g) (by omega)]
   exact⟨by omega,by omega,fun _=>rfl,fun _ _ _ _=>by omega⟩
def vl(l:iD)(f:Bool)(a:Pr)(t:Int):Int:=a.1+if f then l.E*(t-a.2)/(l.E+1)else t-a.2
def Line(l:iD)(f:Bool)(a:Pr)(s y:Int):Prop:=if f then ∃ q:Nat,s=a.1+q*l.E/\y=a.2+q*(l.E+1)else y-a.2=s-a.1
def CG(l:iD)(A:List Int)(f:Bool)(a:Pr)(y:Int):Prop:=∀ t,a.2<=t->t<y->A[t.toNat]?=some (vl l f a t)
structure Seg(l:iD)(A:List Int)(a b:Pr):Prop where
 x:a.1<b.1
 y:a.2<b.2
 ln:∃ f,Line l f a b.1 b.2/\CG l A f a b.2
inductive Kn(l:iD)(A:List Int):Pr->List Pr->Prop
 |one (a:Pr):Kn l A a []
 |cons {a b:Pr} {K:List Pr}:Seg l A a b->Kn l A b K->Kn l A a (b::K)
theorem Qb(f:Bool)(a:Pr):Line l f a a.1 a.2:=by
 unfold Line;split
 ·exact⟨0,by simp,by simp⟩
 ·omega
theorem amK{E:Int}(hE:1<=E)(q j:Nat)(hj:(j:Int)<=E):E*(q*(E+1)+j)/(E+1)=q*E+max ((j:Int)-1) 0:=by
 have e1:E*(q*(E+1)+j)=E*j+q*E*(E+1):=by rw[Int.mul_add];rw[Int.add_comm];congr 1;ac_rfl
 rw[e1,Int.add_mul_ediv_right _ _ (by omega),Int.add_comm]
 congr 1;rcases vg j with h|h
 ·subst h;rw[show ((0:Nat):Int)=0 from rfl,Int.mul_zero,Int.zero_ediv];omega
 ·have e2:E*j=(E+1-j)+(j-1)*(E+1):=by
   have h1:((j:Int)-1)*(E+1)=j*E+j-E-1:=by rw[Int.sub_mul,Int.mul_add];omega
   rw[h1,vo E j];omega
  rw[e2,Int.add_mul_ediv_right _ _ (by omega),Int.ediv_eq_zero_of_lt (by omega) (by omega)]
  omega
theorem acA(hE:1<=l.E){a:Pr}{s y:Int}{A B:List Int}(hA:∃ P,A=P++((s::yR s l.E.toNat)++B)/\(P.length:Int)=y)(h:Line l true a s y)(h2:CG l A true a y):Line l true a (s+l.E) (y+l.E+1)/\CG l A true a (y+l.E+1):=by
 obtain⟨q,rfl,rfl⟩:=h;refine⟨⟨q+1,by rw[Int.natCast_add,Int.add_mul];omega,by rw[Int.natCast_add,Int.add_mul];omega⟩,fun t h3 h4=>?_⟩
 rcases Int.lt_or_le t (a.2+q*(l.E+1))with h|h
 ·exact h2 t h3 h
 ·obtain⟨P,rfl,hP⟩:=hA;obtain⟨j,hj⟩:∃ j:Nat,t=a.2+q*(l.E+1)+j:=⟨(t-(a.2+q*(l.E+1))).toNat,by omega⟩
  subst hj;have e1:a.2+(q:Int)*(l.E+1)+j-a.2=q*(l.E+1)+j:=by omega
  rw[vl,if_pos rfl,e1,amK hE q j (by omega),<-Int.add_assoc]
  have hi:(a.2+(q:Int)*(l.E+1)+j).toNat=P.length+j:=by omega
  rw[hi,mO (by omega),Nat.add_sub_cancel_left,kY (by simp;omega)]
  cases j with
  |zero=>simp;omega
  |succ j =>
   rw[List.getElem?_cons_succ,kN (by simp;omega),amF]
   congr 1;omega
theorem acB{a:Pr}{s y:Int}{A B:List Int}(hA:∃ P,A=P++([s]++B)/\(P.length:Int)=y)(h:Line l false a s y)(h2:CG l A false a y):Line l false a (s+1) (y+1)/\CG l A false a (y+1):=by
 simp only[Line,iw,if_false]at h;refine⟨by simp only[Line,iw,if_false];omega,fun t h3 h4=>?_⟩
 rcases Int.lt_or_le t y with h5|h5
 ·exact h2 t h3 h5
 ·obtain rfl:t=y:=by omega
  obtain⟨P,rfl,hP⟩:=hA;rw[show t.toNat=P.length by omega,mO (by omega),Nat.sub_self,List.singleton_append,List.getElem?_cons_zero,vl]
  simp only[iw,if_false];congr 1;omega
theorem Qc(f:Bool)(a:Pr)(A:List Int):CG l A f a a.2:=fun t h1 h2=>by omega
theorem Ch.knees(ok:lS l){b:Int}(hb:∀ s,s<b->lM l.C s (s+l.E)=false->s+l.E<=l.L->s+l.E<=b){A:List Int}{s d e:Int}{xs:List Stp}(h:Ch l s d xs e):(∀ k,s<=k->k<b->hasB l.C k=false)->b<=l.L->s<b ->
  (∃ P,A=P++iW xs/\(P.length:Int)=s+d)->∀(f:Bool) (a:Pr),a.1<s->a.2<s+d->Line l f a s (s+d)->CG l A f a (s+d) ->
  ∃ y1,Kn l A a (nM b f xs)/\(nM b f xs).getLast?=some (b,y1)/\(nM b f xs).length=qI b f xs+1/\∃ Q B,A=Q++B/\(Q.length:Int)=y1/\∀ y∈B,y=-1\/b<=y:=by
 have hE:=ok.E.1
 induction h with
 |nil d=>intro _ h1 h2;omega
 |@sH s d e xs g1 g2 g3 g ih=>intro hc _ h;have:=hc s (pW _) h;rw[this]at g2;cases g2
 |@sJ s d e xs g1 g2 g3 g ih=>intro hc _ h;have:=hc s (pW _) h;rw[this]at g2;cases g2
 |@str s d e xs g1 g2 g3 g4 g5 g6 g ih =>
  intro hc hL hs hA f a h1 h2 h3 h4;have hto:=hb s hs g5 g4;obtain⟨P,hA,hP⟩:=hA;rw[yS,La hE]at hA;have hA2:∃ P',A=P'++iW xs/\(P'.length:Int)=s+l.E+(d+1):=⟨P++(s::yR s l.E.toNat),by rw[hA,jO],by simp;omega⟩
  have main:∀ a:Pr,Line l true a s (s+d)->CG l A true a (s+d)->a.1<=s->a.2<=s+d->∃ y1,Kn l A a ((if s+l.E=b then[(s+l.E,s+d+l.E+1)] else[])++nM b true xs)/\((if s+l.E=b then[(s+l.E,s+d+l.E+1)] else[])++nM b true xs).getLast?=some (b,y1)/\((if s+l.E=b then[(s+l.E,s+d+l.E+1)] else[])++nM b true xs).length=qI b true xs+1/\∃ Q B,A=Q++B/\(Q.length:Int)=y1/\∀ y∈B,y=-1\/b<=y:=by
   intro a k1 k2 k3 k4;obtain⟨m1,m2⟩:=acA hE ⟨P,hA,hP⟩ k1 k2;by_cases c:s+l.E=b
   ·rw[if_pos c,Qa hE g (by omega),yT hE g (by omega)]
    obtain⟨P',e1,e2⟩:=hA2;refine⟨s+d+l.E+1,.cons ⟨by simp only[];omega,by simp only[];omega,true,m1,m2⟩ (.one _),by rw[<-c];rfl,rfl,P',iW xs,e1,by omega,fun y hy=>?_⟩
    have:=g.mem hE y hy;omega
   ·rw[if_neg c,List.nil_append];have e1:s+d+l.E+1=s+l.E+(d+1):=by omega
    rw[e1]at m1 m2;exact ih (fun k a c=>hc k (by omega) c) hL (by omega) hA2 true a (by omega) (by omega) m1 m2
  rw[nM,if_pos hs];simp only[qI,if_pos hs]
  cases f with
  |true =>
   obtain⟨y1,e1,e2,e3,e4⟩:=main a h3 h4 (by omega) (by omega)
   refine⟨y1, ?_, ?_, ?_,e4⟩
   ·simpa using e1
   ·simpa using e2
   ·simpa using e3
  |false =>
   obtain⟨y1,e1,e2,e3,e4⟩:=main (s,s+d) (Qb true (s,s+d)) (Qc true (s,s+d) A) (by simp only[];omega) (by simp only[];omega)
   refine⟨y1, ?_, ?_, ?_,e4⟩
   ·simp only[ne_eq,Bool.true_eq_false,not_false_eq_true,if_true,List.cons_append,List.nil_append];exact .cons ⟨h1,h2,false,h3,h4⟩ e1
   ·simp only[ne_eq,Bool.true_eq_false,not_false_eq_true,if_true,List.cons_append,List.nil_append];rw[List.getLast?_cons,e2];rfl
   ·simp only[ne_eq,Bool.true_eq_false,not_false_eq_true,if_true,List.cons_append,List.nil_append]
    rw[List.length_cons,e3];omega
 |@pl s d e xs g1 g2 g3 g ih =>
  intro hc hL hs hA f a h1 h2 h3 h4;obtain⟨P,hA,hP⟩:=hA;rw[yS,K9]at hA;have hA2:∃ P',A=P'++iW xs/\(P'.length:Int)=s+1+d:=⟨P++[s],by rw[hA,jO],by simp;omega⟩
  have main:∀ a:Pr,Line l false a s (s+d)->CG l A false a (s+d)->a.1<=s->a.2<=s+d->∃ y1,Kn l A a ((if s+1=b then[(s+1,s+d+1)] else[])++nM b false xs)/\((if s+1=b then[(s+1,s+d+1)] else[])++nM b false xs).getLast?=some (b,y1)/\((if s+1=b then[(s+1,s+d+1)] else[])++nM b false xs).length=qI b false xs+1/\∃ Q B,A=Q++B/\(Q.length:Int)=y1/\∀ y∈B,y=-1\/b<=y:=by
   intro a k1 k2 k3 k4;obtain⟨m1,m2⟩:=acB ⟨P,hA,hP⟩ k1 k2;by_cases c:s+1=b
   ·rw[if_pos c,Qa hE g (by omega),yT hE g (by omega)]
    obtain⟨P',e1,e2⟩:=hA2;refine⟨s+d+1,.cons ⟨by simp only[];omega,by simp only[];omega,false,m1,m2⟩ (.one _),by rw[<-c];rfl,rfl,P',iW xs,e1,by omega,fun y hy=>?_⟩
    have:=g.mem hE y hy;omega
   ·rw[if_neg c,List.nil_append];have e1:s+d+1=s+1+d:=by omega
    rw[e1]at m1 m2;exact ih (fun k a c=>hc k (by omega) c) hL (by omega) hA2 false a (by omega) (by omega) m1 m2
  rw[nM,if_pos hs];simp only[qI,if_pos hs]
  cases f with
  |false =>
   obtain⟨y1,e1,e2,e3,e4⟩:=main a h3 h4 (by omega) (by omega)
   refine⟨y1, ?_, ?_, ?_,e4⟩
   ·simpa using e1
   ·simpa using e2
   ·simpa using e3
  |true =>
   obtain⟨y1,e1,e2,e3,e4⟩:=main (s,s+d) (Qb false (s,s+d)) (Qc false (s,s+d) A) (by simp only[];omega) (by simp only[];omega)
   refine⟨y1, ?_, ?_, ?_,e4⟩
   ·simp only[ne_eq,iw,not_false_eq_true,if_true,List.cons_append,List.nil_append];exact .cons ⟨h1,h2,true,h3,h4⟩ e1
   ·simp only[ne_eq,iw,not_false_eq_true,if_true,List.cons_append,List.nil_append];rw[List.getLast?_cons,e2];rfl
   ·simp only[ne_eq,iw,not_false_eq_true,if_true,List.cons_append,List.nil_append];rw[List.length_cons,e3];omega
theorem Ch.amL(ok:lS l){b:Int}(hb:∀ s,s<b->lM l.C s (s+l.E)=false->s+l.E<=l.L->s+l.E<=b){A:List Int}{s d e:Int}{x:Stp}{xs:List Stp}(h:Ch l s d (x::xs) e)(hc:∀ k,s<=k->k<b->hasB l.C k=false)(hL:b<=l.L)(hs:s<b)
  (hA:∃ P,A=P++iW (x::xs)/\(P.length:Int)=s+d) :
  ∃ y1,Kn l A (s,s+d) ((if x.to=b then[(x.to,x.af)] else[])++nM b x.str xs)/\((if x.to=b then[(x.to,x.af)] else[])++nM b x.str xs).getLast?=some (b,y1)/\((if x.to=b then[(x.to,x.af)] else[])++nM b x.str xs).length=qI b x.str xs+1/\∃ Q B,A=Q++B/\(Q.length:Int)=y1/\∀ y∈B,y=-1\/b<=y:=by
 have hE:=ok.E.1;obtain⟨P,hA,hP⟩:=hA
 cases h with
 |sH g1 g2=>have:=hc s (pW _) hs;rw[this]at g2;cases g2
 |sJ g1 g2=>have:=hc s (pW _) hs;rw[this]at g2;cases g2
 |str g1 g2 g3 g4 g5 g6 g =>
  rw[yS,La hE]at hA;obtain⟨m1,m2⟩:=acA hE ⟨P,hA,hP⟩ (Qb true (s,s+d)) (Qc true (s,s+d) A);have hA2:∃ P',A=P'++iW xs/\(P'.length:Int)=s+l.E+(d+1):=⟨P++(s::yR s l.E.toNat),by rw[hA,jO],by simp;omega⟩
  have hto:=hb s hs g5 g4;simp only at m1 m2⊢;by_cases c:s+l.E=b
  ·rw[if_pos c,Qa hE g (by omega),yT hE g (by omega)]
   obtain⟨P',e1,e2⟩:=hA2;refine⟨s+d+l.E+1,.cons ⟨by simp only[];omega,by simp only[];omega,true,m1,m2⟩ (.one _),by rw[<-c];rfl,rfl,P',iW xs,e1,by omega,fun y hy=>?_⟩
   exact(g.mem hE y hy).imp id fun h=>by omega
  ·rw[if_neg c,List.nil_append];have e1:s+d+l.E+1=s+l.E+(d+1):=by omega
   rw[e1]at m1 m2
   exact g.knees ok hb (fun k a c=>hc k (by omega) c) hL (by omega) hA2 true (s,s+d) (by simp only[];omega) (by simp only[];omega) m1 m2
 |pl g1 g2 g3 g =>
  rw[yS,K9]at hA;obtain⟨m1,m2⟩:=acB ⟨P,hA,hP⟩ (Qb false (s,s+d)) (Qc false (s,s+d) A);have hA2:∃ P',A=P'++iW xs/\(P'.length:Int)=s+1+d:=⟨P++[s],by rw[hA,jO],by simp;omega⟩
  simp only at m1 m2⊢;by_cases c:s+1=b
  ·rw[if_pos c,Qa hE g (by omega),yT hE g (by omega)]
   obtain⟨P',e1,e2⟩:=hA2;refine⟨s+d+1,.cons ⟨by simp only[];omega,by simp only[];omega,false,m1,m2⟩ (.one _),by rw[<-c];rfl,rfl,P',iW xs,e1,by omega,fun y hy=>?_⟩
   exact(g.mem hE y hy).imp id fun h=>by omega
  ·rw[if_neg c,List.nil_append];have e1:s+d+1=s+1+d:=by omega
   rw[e1]at m1 m2;exact g.knees ok hb (fun k a c=>hc k (by omega) c) hL (by omega) hA2 false (s,s+d) (by simp only[];omega) (by simp only[];omega) m1 m2
structure Qd(l:iD)(r:Pr)(xs:List Stp)(a:Pr)(K:List Pr)(y1:Int):Prop where
 eq:rQ r xs=a::K
 ref:∀ f,(xs.foldl (DU r) (f,[])).2=a::K
 kn:Kn l (nZ l xs) a K
 x0:a.1=r.1
 y0:0<=a.2
 last:K.getLast?=some (r.2,y1)
 len:1<=K.length/\K.length<=11
 pre:∀(t:Nat) v,(t:Int)<a.2->(nZ l xs)[t]?=some v->v<r.1
 post:∀(t:Nat) v,y1<=t->(nZ l xs)[t]?=some v->v=-1\/r.2<=v
 top:y1<=(nZ l xs).length
theorem map_ok(ok:lS l){r:Pr}(hr:Run l r){xs:List Stp}{e:Int}(h:Ch l 0 l.D xs e):∃ a K y1,Qd l r xs a K y1:=by
 obtain⟨pre,ys,d,rfl,k1,k2,k3,k4,k5,k6⟩:=acz ok hr h;have hlo:=hr.lo;have hlt:=hr.lt;have hhi:=hr.hi;have hD:=ok.D
 have hb:∀ s,s<r.2->lM l.C s (s+l.E)=false->s+l.E<=l.L->s+l.E<=r.2:=by
  rcases hr.to with h0|⟨c,hc,h0⟩
  ·intro s hs _ h2;omega
  ·intro s hs h1 _;have hL:=Fz ok.C c hc;have:=Bh.mp h1 c hc;omega
 have hno:∀ k,r.1<=k->k<r.2->hasB l.C k=false:=fun k h1 h2=>by
  rw[U0];intro c hc h3;have:=hr.no c hc;have hL:=Fz ok.C c hc;omega
 have hm:=amJ ok.E.1 hlt k1 (fun x hx=>(k3 x hx).1)
 cases ys with
 |nil =>
  generalize hz:r.1=z at k1;cases k1
  omega
 |cons x ys =>
  have hA:∃ P,nZ l (pre++x::ys)=P++iW (x::ys)/\(P.length:Int)=r.1+d:=⟨List.replicate l.D.toNat (-1)++iW pre,by unfold nZ;rw[iW,List.flatMap_append,jO];rfl,by rw[jm,vT];omega⟩
  obtain⟨y1,n1,n2,n3,Q,B,n4,n5,n6⟩:=k1.amL ok hb (A:=nZ l (pre++x::ys)) hno hhi hlt hA;obtain⟨t1,t2,t3,t4,t5,d2,t6,t7⟩:=k1.tail ok.E.1
  have hall:mH r.2 (x::ys)=(r.1,r.1+d)::((if x.to=r.2 then[(x.to,x.af)] else[])++nM r.2 x.str ys):=by
   show (x.fr,x.be)::_=_
   rw[t1,t2]
  have hu:uP l x.to<=4:=by
   unfold uP;exact ng List.countP_le_length ok.p4
  have hdd:=t6.dl
  have awl:qI r.2 x.str ys<=10:=by
   have hd2:d2<=l.D:=by
    generalize hz:r.1=z at k1 hno
    cases k1 with
    |sH g1 g2=>have:=hno z (pW _) (by omega);rw[this]at g2;cases g2
    |sJ g1 g2=>have:=hno z (pW _) (by omega);rw[this]at g2;cases g2
    |str g1 g2 g3=>simp only at t7;omega
    |pl g1 g2 g3=>simp only at t7;omega
   obtain⟨f1,f2,_,_⟩:=t6.few ok (b:=r.2) hd2 (fun k h1 h2=>hno k (by omega) h2)
   cases x.str<;>omega
  refine⟨(r.1,r.1+d),_,y1, ?_, ?_,n1,rfl,by simp only[];omega,n2,by rw[n3];omega, ?_, ?_, ?_⟩
  ·unfold rQ;rw[(hm false).1,hall]
  ·intro f;rw[(hm f).2,hall]
  ·intro t v ht hv;obtain⟨P,hP,hP2⟩:=hA
   have hv2:v∈List.replicate l.D.toNat (-1)++iW pre:=by
    have:nZ l (pre++x::ys)=(List.replicate l.D.toNat (-1)++iW pre)++iW (x::ys):=by unfold nZ;rw[iW,List.flatMap_append,jO];rfl
    rw[this,kY (by rw[jm,vT];simp only at ht;omega)]at hv
    exact Cb hv
   rcases lX.mp hv2 with h|h
   ·have:=(List.mem_replicate.mp h).2;omega
   ·have:=k2 v h;omega
  ·intro t v ht hv;rw[n4,mO (by omega)]at hv
   exact n6 v (Cb hv)
  ·rw[n4,jm];omega
end
end Go.VI.Num
/- The map of a run as a map of fractions, plainly. -/
namespace Go.VI.Num
def xK(z:Int):Prop:=-100000<=z/\z<=100000
theorem FB{z:Int}(h:z.natAbs<10^30):mD z=true:=decide_eq_true (uF h (yP (by decide) (by decide)))
theorem FC:10^30=1000000000000000000000000000000:=by decide
theorem Qe{z:Int}(h:xK z):z.natAbs<=100000:=by unfold xK at h;omega
theorem Ie(z:Int):(z:Rat).num=z:=Rat.num_intCast z
theorem Qf(z:Int):((z:Rat).den:Int)=1:=by rw[Rat.den_intCast];rfl
theorem CJ{z:Int}(h:xK z):gV (z:Rat):=by
 refine⟨?_, ?_⟩
 ·rw[Ie];exact of_decide_eq_true (FB (by have:=Qe h;rw[FC];omega))
 ·rw[Rat.den_intCast];exact Nat.one_lt_pow (by decide) (by decide)
theorem U5{a b:Int}(ha:xK a)(hb:xK b):um (a:Rat) (b:Rat)=some ((a-b:Int):Rat):=by
 unfold um;rw[Ie,Ie,Qf,Qf];unfold xK at ha hb;rw[FB (by rw[FC];omega),FB (by rw[FC];omega),FB (by rw[FC];omega),FB (by rw[FC];omega)]
 simp only[w9,if_true,Rat.intCast_sub]
theorem amM{a b:Int}(ha:xK a)(hb:xK b)(h0:b≠0):CB (a:Rat) (b:Rat)=some ((a:Rat)/(b:Rat)):=by
 unfold CB;rw[Ie,Ie,Qf,Qf];unfold xK at ha hb;have hb0:(b:Rat)≠0:=fun e=>h0 (Rat.intCast_eq_zero_iff.mp e);rw[FB (by rw[FC];omega),FB (by rw[FC];omega),decide_eq_true hb0]
 rfl
end Go.VI.Num
/- Timelines: spans, their owners, plainly. -/
namespace Go.VI.Num
abbrev Sn:=Int×Int×Int
def grow(out:List Sn)(t o:Int):List Sn :=
 match out.getLast? with
 |some s=>if s.2.2=o then out.dropLast++[(s.1,t+1,s.2.2)]else out++[(t,t+1,o)]
 |none=>out++[(t,t+1,o)]
end Go.VI.Num
/- Numbers as digits, the lowest one first. -/
namespace Go.VI.Num
def dq:List Int->Int
 |[]=>0
 |d::r=>d+10*dq r
def Dg(l:List Int):Prop:=∀ x∈l,0<=x/\x<=9
theorem Dg.cons{d:Int}{r:List Int}:Dg (d::r)↔(0<=d/\d<=9)/\Dg r:=by simp[Dg]
theorem Dg.nil:Dg []:=by simp[Dg]
theorem Ld:∀{l:List Int},Dg l->0<=dq l
 |[],_=>by simp[dq]
 |d::r,h=>by
  have:=Ld (Dg.cons.mp h).2;have:=(Dg.cons.mp h).1;simp only[dq];omega
theorem Ig:∀{l:List Int},Dg l->dq l<10^l.length
 |[],_=>by simp[dq]
 |d::r,h=>by
  have h1:=Ig (Dg.cons.mp h).2;have h2:=(Dg.cons.mp h).1;simp only[dq,List.length_cons,Int.pow_succ];generalize (10:Int)^r.length=X at*;omega
theorem Qg(a b:List Int):dq (a++b)=dq a+10^a.length*dq b:=by
 induction a with
 |nil=>simp[dq]
 |cons d r ih =>
  simp only[List.cons_append,dq,ih,List.length_cons,Int.pow_succ];rw[Int.mul_add,Int.add_assoc,vo ((10:Int)^r.length) 10,Int.mul_assoc]
def FD:Nat->Nat->List Int
 |0,_=>[]
 |f+1,n=>if n=0 then[] else((n%10:Nat):Int)::FD f (n/10)
def d10(n:Nat):List Int:=FD n n
theorem acC:∀(f f' n:Nat),n<=f->n<=f'->FD f n=FD f' n
 |0,0,n,_,_=>rfl
 |0,f'+1,n,h,_=>by
  have:n=0:=by omega
  subst this;rfl
 |f+1,0,n,_,h=>by
  have:n=0:=by omega
  subst this;rfl
 |f+1,f'+1,n,h,h'=>by
  simp only[FD];split
  ·rfl
  ·rw[acC f f' (n/10) (by omega) (by omega)]
theorem DV:d10 0=[]:=rfl
theorem xL{n:Nat}(h:n≠0):d10 n=((n%10:Nat):Int)::d10 (n/10):=by
 obtain⟨m,rfl⟩:∃ m,n=m+1:=⟨n-1,by omega⟩
 show FD (m+1) (m+1)=_
 simp only[FD,h,if_false];rw[acC m ((m+1)/10) _ (by omega) (bC _)]
 rfl
theorem Bl(n:Nat):dq (d10 n)=n:=by
 induction n using Nat.strongRecOn with
 |_ n ih =>
  by_cases h:n=0
  ·subst h;rfl
  ·rw[xL h,dq,ih (n/10) (by omega)];omega
theorem Bn(n:Nat):Dg (d10 n):=by
 induction n using Nat.strongRecOn with
 |_ n ih =>
  by_cases h:n=0
  ·subst h;exact Dg.nil
  ·rw[xL h];exact Dg.cons.mpr ⟨by omega,ih (n/10) (by omega)⟩
theorem Ih{n:Nat}:d10 n=[]↔n=0:=by
 constructor
 ·intro h;have:=Bl n;rw[h]at this;simp[dq]at this;omega
 ·rintro rfl;rfl
theorem acD(n:Nat):DL (d10 n):=by
 induction n using Nat.strongRecOn with
 |_ n ih =>
  by_cases h:n=0
  ·subst h;intro h;exact absurd rfl h
  ·intro hne;by_cases h2:n/10=0
   ·have:d10 n=[((n%10:Nat):Int)]:=by rw[xL h,h2];rfl
    simp only[this,List.getLast_singleton];omega
   ·have h3:d10 (n/10)≠[]:=fun e=>h2 (Ih.mp e);have:=ih (n/10) (by omega) h3
    simp only[xL h,List.getLast_cons h3];exact this
theorem acE:∀{l:List Int},Dg l->DL l->d10 (dq l).toNat=l
 |[],_,_=>rfl
 |d::r,hd,ht=>by
  have h1:=Dg.cons.mp hd;have h2:=Ld h1.2;have ih:=acE h1.2 ht.cons;have e:(dq (d::r)).toNat=d.toNat+10*(dq r).toNat:=by simp only[dq];omega
  have hne:(dq (d::r)).toNat≠0:=by
   intro h0;have hd0:d=0:=by omega
   have hr0:(dq r).toNat=0:=by omega
   rw[hr0]at ih;have:r=[]:=ih.symm;subst this;exact ht (by simp) (by simpa using hd0)
  rw[xL hne,e];have e1:(d.toNat+10*(dq r).toNat)%10=d.toNat:=by omega
  have e2:(d.toNat+10*(dq r).toNat)/10=(dq r).toNat:=by omega
  rw[e1,e2,ih];congr 1;omega
theorem acF(l:List Int):∀ k,k<=l.length->dq (l.take (pG l k))=dq (l.take k)
 |0,_=>rfl
 |k+1,h=>by
  simp only[pG];split
  ·rename_i h0;rw[acF l k (by omega),zR (by omega),Qg]
   rw[nX,kN (by omega)]at h0
   have h1:l[k]=0:=h0;simp[h1,dq]
  ·rfl
theorem U6{l:List Int}(h:Dg l):iF l=d10 (dq l).toNat:=by
 have h1:=acF l l.length (bC _);rw[qj]at h1;have h2:Dg (iF l):=fun x hx=>h x (zH hx);have h3:=acE h2 (UE l l.length (bC _));rw[<-h3];unfold iF;rw[h1]
def nQ(l:List Int):List UInt8:=l.reverse.map fun d=>UInt8.ofNat (48+d.toNat)
theorem Lf{n:Nat}(h:n≠0):nQ (d10 n)=dec n:=by
 induction n using Nat.strongRecOn with
 |_ n ih =>
  rw[xL h];simp only[nQ,List.reverse_cons,List.map_append,List.map_cons,List.map_nil,wK];rcases kZ n 10 with h1|h1
  ·rw[show n/10=0 by omega,DV,yO h1,Nat.mod_eq_of_lt h1];rfl
  ·have e:=ih (n/10) (by omega) (by omega)
   simp only[nQ]at e;rw[e,uh h1]
theorem Qh{n:Nat}(h:n≠0):(d10 n).length=(dec n).length:=by
 rw[<-Lf h];simp[nQ]
end Go.VI.Num
/- Digits: comparing, adding, subtracting. -/
namespace Go.VI.Num
theorem acG{a b:List Int}(ha:Dg a)(hb:Dg b):∀ k,k<=a.length->k<=b.length->xI a b k=eX (dq (a.take k)) (dq (b.take k))
 |0,_,_=>rfl
 |k+1,h1,h2=>by
  have ih:=acG ha hb k (by omega) (by omega)
  have da:Dg (a.take k):=fun x hx=>ha x (zH hx);have db:Dg (b.take k):=fun x hx=>hb x (zH hx);have la:=Ig da;have lb:=Ig db;have na:=Ld da;have nb:=Ld db;have ea:(a.take k).length=k:=by simp;omega
  have eb:(b.take k).length=k:=by simp;omega
  rw[ea]at la;rw[eb]at lb;have ga:a.getD k 0=a[k]:=by rw[nX,kN (by omega)];rfl
  have gb:b.getD k 0=b[k]:=by rw[nX,kN (by omega)];rfl
  rw[zR (by omega),zR (by omega),Qg,Qg,ea,eb]
  simp only[xI,ga,gb,dq,Int.mul_zero,yL];rw[ih];generalize dq (a.take k)=A at*;generalize dq (b.take k)=B at*;generalize (10:Int)^k=X at*;generalize a[k]=x at*;generalize b[k]=y at*;by_cases c1:x=y
  ·subst c1;rw[if_pos rfl];unfold eX;have e1:(A+X*x<B+X*x)↔A<B:=by omega
   have e2:(A+X*x=B+X*x)↔A=B:=by omega
   simp only[e1,e2]
  ·rw[if_neg c1];by_cases c2:x<y
   ·rw[if_pos c2];have:X*(x+1)<=X*y:=Cw (by omega) (by omega)
    rw[Int.mul_add,Int.mul_one]at this;unfold eX;rw[if_pos (by omega)]
   ·rw[if_neg c2];have:X*(y+1)<=X*x:=Cw (by omega) (by omega)
    rw[Int.mul_add,Int.mul_one]at this;unfold eX;rw[if_neg (by omega),if_neg (by omega)]
theorem U7{a b:Nat}(h:(d10 a).length<(d10 b).length):a<b:=by
 have h1:=Ig (Bn a);rw[Bl]at h1;have hb:d10 b≠[]:=by intro e;rw[e]at h;simp at h
 -- the last group of b is at least one
 obtain⟨i,x,e⟩:∃(i:List Int) (x:Int),d10 b=i++[x]:=⟨(d10 b).dropLast,(d10 b).getLast hb,(List.dropLast_concat_getLast hb).symm⟩
 have hx:x≠0:=by
  have:=acD b hb;simp only[e,List.getLast_append_of_ne_nil,ne_eq,List.cons_ne_nil,not_false_eq_true,List.getLast_singleton]at this;exact this
 have hd:=Bn b;rw[e]at hd;have hx2:=hd x (by simp)
 have hi:Dg i:=fun y hy=>hd y (by simp[hy])
 have h3:=Ld hi;have h2:=Bl b;rw[e,Qg]at h2;simp only[dq,Int.mul_zero,yL]at h2;have hl:(d10 a).length<=i.length:=by rw[e]at h;simp at h;omega
 have h4:(10:Int)^(d10 a).length<=10^i.length:=ab2 (by omega) hl
 have h5:(10:Int)^i.length*1<=10^i.length*x:=Cw (by omega) (Int.pow_nonneg (by omega))
 rw[Int.mul_one]at h5;omega
theorem Ij{a b:Nat}(h:a<=b):(d10 a).length<=(d10 b).length:=by
 rcases kZ (d10 b).length (d10 a).length with h1|h1
 ·have:=U7 h1;omega
 ·exact h1
theorem amN(a b:Nat):cmpL (d10 a) (d10 b)=eX a b:=by
 unfold cmpL;by_cases h:(d10 a).length=(d10 b).length
 ·rw[if_pos h,acG (Bn a) (Bn b) _ (bC _) (by omega),qj,h,qj,Bl,Bl]
 ·rw[if_neg h];by_cases h2:(d10 a).length<(d10 b).length
  ·have:=U7 h2;rw[if_pos h2];unfold eX;rw[if_pos (by omega)]
  ·have:=U7 (a:=b) (b:=a) (by omega)
   rw[if_neg h2];unfold eX;rw[if_neg (by omega),if_neg (by omega)]
theorem vE{l:List Int}{i A:Nat}(h:l.drop i=d10 A):i<l.length↔A≠0:=by
 constructor
 ·intro hi h0;subst h0;have:=congrArg List.length h;rw[DV]at this;simp at this;omega
 ·intro h0;rcases kZ i l.length with c|c
  ·exact c
  ·rw[qG c]at h;exact absurd (Ih.mp h.symm) h0
theorem Il{l:List Int}{i A:Nat}(h:l.drop i=d10 A)(h0:A≠0)(hi:i<l.length):l[i]=((A%10:Nat):Int)/\l.drop (i+1)=d10 (A/10):=by
 rw[qH hi,xL h0]at h;exact⟨(List.cons.inj h).1,(List.cons.inj h).2⟩
theorem Im{l:List Int}{i A:Nat}(h:l.drop i=d10 A):l.drop (i+1)=d10 (A/10):=by
 by_cases h0:A=0
 ·subst h0;rw[DV]at h;have:l.length<=i:=by have:=congrArg List.length h;simp at this;omega
  rw[qG (by omega)];rfl
 ·exact(Il h h0 ((vE h).mpr h0)).2
def yU:Nat->Nat->Nat->Nat->List Int
 |0,_,_,_=>[]
 |f+1,A,B,c=>if A=0/\B=0/\c=0 then[] else(((A%10+B%10+c)%10:Nat):Int)::yU f (A/10) (B/10) ((A%10+B%10+c)/10)
theorem acH:∀(f A B c:Nat),A+B+c<=f->yU f A B c=d10 (A+B+c)
 |0,A,B,c,h=>by
  have:A+B+c=0:=by omega
  rw[this];rfl
 |f+1,A,B,c,h=>by
  simp only[yU];by_cases h0:A=0/\B=0/\c=0
  ·rw[if_pos h0,show A+B+c=0 by omega];rfl
  ·rw[if_neg h0,acH f _ _ _ (by omega),xL (n:=A+B+c) (by omega)]
   have e1:(A%10+B%10+c)%10=(A+B+c)%10:=by omega
   have e2:A/10+B/10+(A%10+B%10+c)/10=(A+B+c)/10:=by omega
   rw[e1,e2]
def pY:Nat->Nat->Nat->Nat->List Int
 |0,_,_,_=>[]
 |f+1,A,B,w=>if A=0 then[]else if A%10<w+B%10 then((A%10+10-w-B%10:Nat):Int)::pY f (A/10) (B/10) 1 else((A%10-w-B%10:Nat):Int)::pY f (A/10) (B/10) 0
theorem U8:∀(f A B w:Nat),A<=f->w<=1->B+w<=A->dq (pY f A B w)=(A-B-w:Nat)/\Dg (pY f A B w)
 |0,A,B,w,h,hw,hb=>by
  have e:A-B-w=0:=by omega
  rw[e];exact⟨rfl,Dg.nil⟩
 |f+1,A,B,w,h,hw,hb=>by
  simp only[pY];by_cases h0:A=0
  ·rw[if_pos h0,show A-B-w=0 by omega];exact⟨rfl,Dg.nil⟩
  ·rw[if_neg h0];by_cases c:A%10<w+B%10
   ·obtain⟨k1,k2⟩:=U8 f (A/10) (B/10) 1 (by omega) (by omega) (by omega)
    rw[if_pos c,dq,k1];exact⟨by omega,Dg.cons.mpr ⟨by omega,k2⟩⟩
   ·obtain⟨k1,k2⟩:=U8 f (A/10) (B/10) 0 (by omega) (by omega) (by omega)
    rw[if_neg c,dq,k1];exact⟨by omega,Dg.cons.mpr ⟨by omega,k2⟩⟩
theorem U9:∀(f A B w:Nat),(pY f A B w).length<=(d10 A).length
 |0,A,B,w=>by simp[pY]
 |f+1,A,B,w=>by
  simp only[pY];by_cases h0:A=0
  ·rw[if_pos h0];simp
  ·rw[if_neg h0,xL h0];split
   ·have:=U9 f (A/10) (B/10) 1;simp;omega
   ·have:=U9 f (A/10) (B/10) 0;simp;omega
end Go.VI.Num
/- Digits: multiplying row by row, dividing. -/
namespace Go.VI.Num
end Go.VI.Num
