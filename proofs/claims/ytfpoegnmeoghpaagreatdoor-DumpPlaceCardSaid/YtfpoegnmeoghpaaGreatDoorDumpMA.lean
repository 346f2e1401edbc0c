/- What the functions on integers compute, part MA. -/
import Derived.Test.YtfpoegnmeoghpaaGreatDoorVSL
set_option linter.unusedVariables false
set_option linter.unusedSimpArgs false
/- Numbers as groups of four digits: what the operations on them come to, plainly. -/
namespace Go.VI.Num
def gv:List Int->Int
 |[]=>0
 |d::r=>d+10000*gv r
def qG(l:List Int):Prop:=∀ x∈l,0<=x/\x<=9999
theorem qG.cons{d:Int}{r:List Int}:qG (d::r)↔(0<=d/\d<=9999)/\qG r:=by simp[qG]
theorem qG.nil:qG []:=by simp[qG]
theorem YP:∀{l:List Int},qG l->0<=gv l
 |[],_=>by simp[gv]
 |d::r,h=>by
  have:=YP (qG.cons.mp h).2;have:=(qG.cons.mp h).1;simp only[gv];omega
theorem akx:∀{l:List Int},qG l->gv l<10000^l.length
 |[],_=>by simp[gv]
 |d::r,h=>by
  have h1:=akx (qG.cons.mp h).2;have h2:=(qG.cons.mp h).1;simp only[gv,List.length_cons,Int.pow_succ];generalize (10000:Int)^r.length=X at*;omega
theorem aoR(a b:List Int):gv (a++b)=gv a+10000^a.length*gv b:=by
 induction a with
 |nil=>simp[gv]
 |cons d r ih =>
  simp only[List.cons_append,gv,ih,List.length_cons,Int.pow_succ];rw[Int.mul_add,Int.add_assoc,Int.mul_comm ((10000:Int)^r.length) 10000,Int.mul_assoc]
def aji:Nat->Nat->List Int
 |0,_=>[]
 |f+1,n=>if n=0 then[] else((n%10000:Nat):Int)::aji f (n/10000)
def bg(n:Nat):List Int:=aji n n
theorem aBg:∀(f f' n:Nat),n<=f->n<=f'->aji f n=aji f' n
 |0,0,n,_,_=>rfl
 |0,f'+1,n,h,_=>by
  have:n=0:=by omega
  subst this;rfl
 |f+1,0,n,_,h=>by
  have:n=0:=by omega
  subst this;rfl
 |f+1,f'+1,n,h,h'=>by
  simp only[aji];split
  ·rfl
  ·rw[aBg f f' (n/10000) (by omega) (by omega)]
theorem abF:bg 0=[]:=rfl
theorem acp{n:Nat}(h:n≠0):bg n=((n%10000:Nat):Int)::bg (n/10000):=by
 obtain⟨m,rfl⟩:∃ m,n=m+1:=⟨n-1,by omega⟩
 show aji (m+1) (m+1)=_
 simp only[aji,h,if_false];rw[aBg m ((m+1)/10000) _ (by omega) (iJ _)]
 rfl
theorem Mc(n:Nat):gv (bg n)=n:=by
 induction n using Nat.strongRecOn with
 |_ n ih =>
  by_cases h:n=0
  ·subst h;rfl
  ·rw[acp h,gv,ih (n/10000) (by omega)];omega
theorem Rp(n:Nat):qG (bg n):=by
 induction n using Nat.strongRecOn with
 |_ n ih =>
  by_cases h:n=0
  ·subst h;exact qG.nil
  ·rw[acp h];exact qG.cons.mpr ⟨by omega,ih (n/10000) (by omega)⟩
theorem abG{n:Nat}:bg n=[]↔n=0:=by
 constructor
 ·intro h;have:=Mc n;rw[h]at this;simp[gv]at this;omega
 ·rintro rfl;rfl
def Trm(l:List Int):Prop:=∀ h:l≠[],l.getLast h≠0
theorem aJx(n:Nat):Trm (bg n):=by
 induction n using Nat.strongRecOn with
 |_ n ih =>
  by_cases h:n=0
  ·subst h;intro h;exact absurd rfl h
  ·intro hne;by_cases h2:n/10000=0
   ·have:bg n=[((n%10000:Nat):Int)]:=by rw[acp h,h2];rfl
    simp only[this,List.getLast_singleton];omega
   ·have h3:bg (n/10000)≠[]:=fun e=>h2 (abG.mp e);have:=ih (n/10000) (by omega) h3
    simp only[acp h,List.getLast_cons h3];exact this
theorem Trm.cons{d:Int}{r:List Int}(h:Trm (d::r)):Trm r:=fun hr=>by
 have:=h (by simp)
 rwa [List.getLast_cons hr]at this
theorem aBh:∀{l:List Int},qG l->Trm l->bg (gv l).toNat=l
 |[],_,_=>rfl
 |d::r,hd,ht=>by
  have h1:=qG.cons.mp hd;have h2:=YP h1.2;have ih:=aBh h1.2 ht.cons;have e:(gv (d::r)).toNat=d.toNat+10000*(gv r).toNat:=by simp only[gv];omega
  have hne:(gv (d::r)).toNat≠0:=by
   intro h0;have hd0:d=0:=by omega
   have hr0:(gv r).toNat=0:=by omega
   rw[hr0]at ih;have:r=[]:=ih.symm;subst this;exact ht (by simp) (by simpa using hd0)
  rw[acp hne,e];have e1:(d.toNat+10000*(gv r).toNat)%10000=d.toNat:=by omega
  have e2:(d.toNat+10000*(gv r).toNat)/10000=(gv r).toNat:=by omega
  rw[e1,e2,ih];congr 1;omega
def SB(l:List Int):Nat->Nat
 |0=>0
 |k+1=>if l.getD k 0=0 then SB l k else k+1
theorem aoS(l:List Int):∀ k,SB l k<=k
 |0=>iJ _
 |k+1=>by
  simp only[SB];split
  ·have:=aoS l k;omega
  ·omega
def IU(l:List Int):List Int:=l.take (SB l l.length)
theorem aBi(l:List Int):∀ k,k<=l.length->gv (l.take (SB l k))=gv (l.take k)
 |0,_=>rfl
 |k+1,h=>by
  simp only[SB];split
  ·rename_i h0;rw[aBi l k (by omega),ajj (by omega),aoR]
   rw[Md,Fv (by omega)]at h0
   have h1:l[k]=0:=h0;simp[h1,gv]
  ·rfl
theorem aBj(l:List Int):∀ k,k<=l.length->Trm (l.take (SB l k))
 |0,_=>fun h=>absurd rfl h
 |k+1,h=>by
  simp only[SB];split
  ·exact aBj l k (by omega)
  ·rename_i h0;intro hne;rw[Md,Fv (by omega)]at h0
   have h1:¬ l[k]=0:=h0;simp only[ajj (show k<l.length by omega),List.getLast_append_of_ne_nil,ne_eq,List.cons_ne_nil,not_false_eq_true,List.getLast_singleton]
   exact h1
theorem akz{l:List Int}(h:qG l):IU l=bg (gv l).toNat:=by
 have h1:=aBi l l.length (iJ _);rw[QU]at h1;have h2:qG (IU l):=fun x hx=>h x (acU hx);have h3:=aBh h2 (aBj l l.length (iJ _));rw[<-h3];unfold IU;rw[h1]
def Gj(g:Nat->Int)(n:Nat):Nat->Nat->Int->List Int
 |0,_,_=>[]
 |f+1,i,c =>
  if i<n\/c≠0 then
   if g i+c<0 then(g i+c+10000)::Gj g n f (i+1) (-1)
   else if 10000<=g i+c then((g i+c)%10000)::Gj g n f (i+1) ((g i+c)/10000)
   else(g i+c)::Gj g n f (i+1) 0
  else[]
def Zc(g:Nat->Int)(n:Nat):Nat->Nat->Int->Bool
 |0,i,c=>decide (¬ (i<n\/c≠0))
 |f+1,i,c =>
  if i<n\/c≠0 then
   if g i+c<0 then Zc g n f (i+1) (-1)
   else if 10000<=g i+c then Zc g n f (i+1) ((g i+c)/10000)
   else Zc g n f (i+1) 0
  else true
def gs(g:Nat->Int):Nat->Nat->Int
 |0,_=>0
 |d+1,i=>g i+10000*gs g d (i+1)
theorem aua{g:Nat->Int}{n:Nat}(hg:∀ i,-9999<=g i/\g i<=100000000)(hz:∀ i,n<=i->g i=0):∀(f i:Nat) (c:Int),-1<=c->c<=20000->(i<=n->n-i+3<=f)->(n<i->(c≠0->2<=f)/\(10000<=c->3<=f))->0<=gs g (n-i) i+c ->
  gv (Gj g n f i c)=gs g (n-i) i+c/\qG (Gj g n f i c):=by
 intro f
 induction f with
 |zero =>
  intro i c h1 h2 h3 h4 h5;by_cases hi:i<=n
  ·have:=h3 hi;omega
  ·have e:n-i=0:=by omega
   rw[e]at h5⊢;have:=(h4 (by omega)).1
   have hc:c=0:=by
    rcases Decidable.em (c=0)with h|h
    ·exact h
    ·have:=this h;omega
   subst hc
   exact⟨by simp[Gj,gv,gs],qG.nil⟩
 |succ f ih =>
  intro i c h1 h2 h3 h4 h5;by_cases hstop:i<n\/c≠0
  ·have hgi:=hg i
   have hstep:gs g (n-i) i=g i+10000*gs g (n-(i+1)) (i+1):=by
    by_cases hi:i<n
    ·have e:n-i=(n-(i+1))+1:=by omega
     rw[e];rfl
    ·have e1:n-i=0:=by omega
     have e2:n-(i+1)=0:=by omega
     rw[e1,e2,hz i (by omega)];rfl
   rw[hstep]at h5⊢;have hin:¬ i<n->g i=0:=fun h=>hz i (by omega)
   generalize hX:gs g (n-(i+1)) (i+1)=X at*
   have hX0:n<=i+1->X=0:=fun h=>by
    rw[<-hX,show n-(i+1)=0 by omega];rfl
   simp only[Gj,hstop,if_true];by_cases c1:g i+c<0
   ·have hin2:i<n:=by
     rcases Fz i n with h|h
     ·exact h
     ·have:=hin (by omega);have:=hX0 (by omega);omega
    obtain⟨k1,k2⟩:=ih (i+1) (-1) (by omega) (by omega) (fun h=>by have:=h3 (by omega);omega) (fun h=>⟨fun _=>by have:=h3 (by omega);omega,fun h=>by omega⟩) (by rw[hX];omega)
    rw[hX]at k1;simp only[c1,if_true,gv];exact⟨by rw[k1];omega,qG.cons.mpr ⟨by omega,k2⟩⟩
   ·by_cases c2:10000<=g i+c
    ·obtain⟨k1,k2⟩:=ih (i+1) ((g i+c)/10000) (by omega) (by omega) (fun h=>by have:=h3 (by omega);omega) (fun h=>by
      rcases Fz i n with h6|h6
      ·have:=h3 (by omega);exact⟨fun _=>by omega,fun _=>by omega⟩
      ·have:=hin (by omega)
       rcases Fz n i with h7|h7
       ·have:=(h4 h7).2 (by omega);exact⟨fun _=>by omega,fun h=>by omega⟩
       ·have:=h3 h7;exact⟨fun _=>by omega,fun h=>by omega⟩) (by rw[hX];omega)
     rw[hX]at k1;simp only[c1,c2,if_true,if_false,gv];exact⟨by rw[k1];omega,qG.cons.mpr ⟨by omega,k2⟩⟩
    ·obtain⟨k1,k2⟩:=ih (i+1) 0 (by omega) (by omega) (fun h=>by have:=h3 (by omega);omega) (fun h=>⟨fun h=>absurd rfl h,fun h=>by omega⟩) (by rw[hX];omega)
     rw[hX]at k1;simp only[c1,c2,if_false,gv];exact⟨by rw[k1];omega,qG.cons.mpr ⟨by omega,k2⟩⟩
  ·have hc:c=0:=by omega
   have hi:n-i=0:=by omega
   subst hc;simp only[Gj,hstop,if_false,hi];exact⟨by simp[gv,gs],qG.nil⟩
theorem aub{g:Nat->Int}{n:Nat}(hg:∀ i,-9999<=g i/\g i<=100000000)(hz:∀ i,n<=i->g i=0):∀(f i:Nat) (c:Int),-1<=c->c<=20000->(i<=n->n-i+3<=f)->(n<i->(c≠0->2<=f)/\(10000<=c->3<=f))->0<=gs g (n-i) i+c ->
  Zc g n f i c=true:=by
 intro f
 induction f with
 |zero =>
  intro i c h1 h2 h3 h4 h5;by_cases hi:i<=n
  ·have:=h3 hi;omega
  ·have e:n-i=0:=by omega
   rw[e]at h5;have:=(h4 (by omega)).1
   have hc:c=0:=by
    rcases Decidable.em (c=0)with h|h
    ·exact h
    ·have:=this h;omega
   subst hc
   simp only[Zc,decide_eq_true_eq];omega
 |succ f ih =>
  intro i c h1 h2 h3 h4 h5;by_cases hstop:i<n\/c≠0
  ·have hgi:=hg i
   have hstep:gs g (n-i) i=g i+10000*gs g (n-(i+1)) (i+1):=by
    by_cases hi:i<n
    ·have e:n-i=(n-(i+1))+1:=by omega
     rw[e];rfl
    ·have e1:n-i=0:=by omega
     have e2:n-(i+1)=0:=by omega
     rw[e1,e2,hz i (by omega)];rfl
   rw[hstep]at h5;have hin:¬ i<n->g i=0:=fun h=>hz i (by omega)
   generalize hX:gs g (n-(i+1)) (i+1)=X at*
   have hX0:n<=i+1->X=0:=fun h=>by
    rw[<-hX,show n-(i+1)=0 by omega];rfl
   simp only[Zc,hstop,if_true];by_cases c1:g i+c<0
   ·have hin2:i<n:=by
     rcases Fz i n with h|h
     ·exact h
     ·have:=hin (by omega);have:=hX0 (by omega);omega
    have k1:=ih (i+1) (-1) (by omega) (by omega) (fun h=>by have:=h3 (by omega);omega) (fun h=>⟨fun _=>by have:=h3 (by omega);omega,fun h=>by omega⟩) (by rw[hX];omega)
    rw[if_pos c1];exact k1
   ·by_cases c2:10000<=g i+c
    ·have k1:=ih (i+1) ((g i+c)/10000) (by omega) (by omega) (fun h=>by have:=h3 (by omega);omega) (fun h=>by
      rcases Fz i n with h6|h6
      ·have:=h3 (by omega);exact⟨fun _=>by omega,fun _=>by omega⟩
      ·have:=hin (by omega)
       rcases Fz n i with h7|h7
       ·have:=(h4 h7).2 (by omega);exact⟨fun _=>by omega,fun h=>by omega⟩
       ·have:=h3 h7;exact⟨fun _=>by omega,fun h=>by omega⟩) (by rw[hX];omega)
     rw[if_neg c1,if_pos c2];exact k1
    ·have k1:=ih (i+1) 0 (by omega) (by omega) (fun h=>by have:=h3 (by omega);omega) (fun h=>⟨fun h=>absurd rfl h,fun h=>by omega⟩) (by rw[hX];omega)
     rw[if_neg c1,if_neg c2];exact k1
  ·have hc:c=0:=by omega
   have hi:n-i=0:=by omega
   subst hc;simp only[Zc,hstop,if_false]
theorem Sg(l:List Int):∀(d i:Nat),l.length<=i+d->gs (fun j=>l.getD j 0) d i=gv (l.drop i)
 |0,i,h=>by rw[Zd (by omega)];rfl
 |d+1,i,h=>by
  have ih:=Sg l d (i+1) (by omega)
  simp only[gs,ih];by_cases c:i<l.length
  ·rw[JB c,gv,Md,Fv c];rfl
  ·rw[Zd (by omega),Zd (by omega),Md,ai3 (by omega)];rfl
theorem aoT(f g:Nat->Int):∀(d i:Nat),gs (fun j=>f j+g j) d i=gs f d i+gs g d i
 |0,_=>rfl
 |d+1,i=>by simp only[gs,aoT f g d (i+1)];omega
theorem aoU(f g:Nat->Int):∀(d i:Nat),gs (fun j=>f j-g j) d i=gs f d i-gs g d i
 |0,_=>rfl
 |d+1,i=>by simp only[gs,aoU f g d (i+1)];omega
theorem aoV(f:Nat->Int)(k:Int):∀(d i:Nat),gs (fun j=>f j*k) d i=gs f d i*k
 |0,_=>by simp[gs]
 |d+1,i=>by simp only[gs,aoV f k d (i+1)];rw[Int.add_mul,Int.mul_assoc]
theorem Rq{l:List Int}(h:qG l)(i:Nat):0<=l.getD i 0/\l.getD i 0<=9999:=by
 by_cases c:i<l.length
 ·rw[Md,Fv c];exact h _ (JC c)
 ·rw[Md,ai3 (by omega)];simp
theorem ZM{l:List Int}{i:Nat}(h:l.length<=i):l.getD i 0=0:=by
 rw[Md,ai3 h];rfl
theorem aJy{a b:List Int}(ha:qG a)(hb:qG b):IU (Gj (fun i=>a.getD i 0+b.getD i 0) (max a.length b.length) (max a.length b.length+3) 0 0)=bg (gv a+gv b).toNat:=by
 have h:=aua (g:=fun i=>a.getD i 0+b.getD i 0) (n:=max a.length b.length) (fun i=>by have:=Rq ha i;have:=Rq hb i;omega) (fun i hi=>by rw[ZM (by omega),ZM (by omega)];rfl)
  (max a.length b.length+3) 0 0 (by omega) (by omega) (fun _=>by omega) (fun h=>by omega) (by
   rw[aoT,Sg a _ _ (by omega),Sg b _ _ (by omega)]
   have:=YP ha;have:=YP hb;simp only[List.drop_zero];omega)
 rw[akz h.2,h.1,aoT,Sg a _ _ (by omega),Sg b _ _ (by omega),List.drop_zero,List.drop_zero,Int.add_zero]
theorem aJz{a b:List Int}(ha:qG a)(hb:qG b)(hl:b.length<=a.length)(hle:gv b<=gv a):IU (Gj (fun i=>a.getD i 0-b.getD i 0) a.length (a.length+3) 0 0)=bg (gv a-gv b).toNat:=by
 have h:=aua (g:=fun i=>a.getD i 0-b.getD i 0) (n:=a.length) (fun i=>by have:=Rq ha i;have:=Rq hb i;omega) (fun i hi=>by rw[ZM (by omega),ZM (by omega)];rfl)
  (a.length+3) 0 0 (by omega) (by omega) (fun _=>by omega) (fun h=>by omega) (by
   rw[aoU,Sg a _ _ (by omega),Sg b _ _ (by omega)]
   simp only[List.drop_zero];omega)
 rw[akz h.2,h.1,aoU,Sg a _ _ (by omega),Sg b _ _ (by omega),List.drop_zero,List.drop_zero,Int.add_zero]
theorem aJA{a:List Int}(ha:qG a){k:Int}(hk:0<=k/\k<=10000):IU (Gj (fun i=>a.getD i 0*k) a.length (a.length+3) 0 0)=bg (gv a*k).toNat:=by
 have h:=aua (g:=fun i=>a.getD i 0*k) (n:=a.length) (fun i=>by
   have h1:=Rq ha i;have h2:0<=a.getD i 0*k:=Int.mul_nonneg h1.1 hk.1;have h3:a.getD i 0*k<=9999*10000:=Int.mul_le_mul h1.2 hk.2 hk.1 (by omega)
   omega) (fun i hi=>by rw[ZM (by omega),Int.zero_mul])
  (a.length+3) 0 0 (by omega) (by omega) (fun _=>by omega) (fun h=>by omega) (by
   rw[aoV,Sg a _ _ (by omega),List.drop_zero,Int.add_zero]
   exact Int.mul_nonneg (YP ha) hk.1)
 rw[akz h.2,h.1,aoV,Sg a _ _ (by omega),List.drop_zero,Int.add_zero]
def adZ(a b:List Int):Nat->Int
 |0=>0
 |k+1=>if a.getD k 0=b.getD k 0 then adZ a b k else if a.getD k 0<b.getD k 0 then -1 else 1
def qd(a b:Int):Int:=if a<b then -1 else if a=b then 0 else 1
theorem aBk{a b:List Int}(ha:qG a)(hb:qG b):∀ k,k<=a.length->k<=b.length->adZ a b k=qd (gv (a.take k)) (gv (b.take k))
 |0,_,_=>rfl
 |k+1,h1,h2=>by
  have ih:=aBk ha hb k (by omega) (by omega)
  have da:qG (a.take k):=fun x hx=>ha x (acU hx);have db:qG (b.take k):=fun x hx=>hb x (acU hx);have la:=akx da;have lb:=akx db;have na:=YP da;have nb:=YP db;have ea:(a.take k).length=k:=by simp;omega
  have eb:(b.take k).length=k:=by simp;omega
  rw[ea]at la;rw[eb]at lb;have ga:a.getD k 0=a[k]:=by rw[Md,Fv (by omega)];rfl
  have gb:b.getD k 0=b[k]:=by rw[Md,Fv (by omega)];rfl
  rw[ajj (by omega),ajj (by omega),aoR,aoR,ea,eb]
  simp only[adZ,ga,gb,gv,Int.mul_zero,Int.add_zero];rw[ih];generalize gv (a.take k)=A at*;generalize gv (b.take k)=B at*;generalize (10000:Int)^k=X at*;generalize a[k]=x at*;generalize b[k]=y at*;by_cases c1:x=y
  ·subst c1;rw[if_pos rfl];unfold qd;have e1:(A+X*x<B+X*x)↔A<B:=by omega
   have e2:(A+X*x=B+X*x)↔A=B:=by omega
   simp only[e1,e2]
  ·rw[if_neg c1];by_cases c2:x<y
   ·rw[if_pos c2];have:X*(x+1)<=X*y:=Int.mul_le_mul_of_nonneg_left (by omega) (by omega)
    rw[Int.mul_add,Int.mul_one]at this;unfold qd;rw[if_pos (by omega)]
   ·rw[if_neg c2];have:X*(y+1)<=X*x:=Int.mul_le_mul_of_nonneg_left (by omega) (by omega)
    rw[Int.mul_add,Int.mul_one]at this;unfold qd;rw[if_neg (by omega),if_neg (by omega)]
theorem aJB{a:Int}(h:1<=a){m n:Nat}(hmn:m<=n):a^m<=a^n:=by
 obtain⟨k,rfl⟩:∃ k,n=m+k:=⟨n-m,by omega⟩
 clear hmn
 induction k with
 |zero=>exact Fy _
 |succ k ih =>
  have h0:0<=a^(m+k):=Int.pow_nonneg (by omega)
  have h1:a^(m+k)*1<=a^(m+k)*a:=Int.mul_le_mul_of_nonneg_left h h0;rw[Int.mul_one]at h1;rw[show m+(k+1)=m+k+1 from rfl,Int.pow_succ]
  exact Int.le_trans ih h1
theorem auc{a b:Nat}(h:(bg a).length<(bg b).length):a<b:=by
 have h1:=akx (Rp a);rw[Mc]at h1;have hb:bg b≠[]:=by intro e;rw[e]at h;simp at h
 -- the last group of b is at least one
 obtain⟨i,x,e⟩:∃(i:List Int) (x:Int),bg b=i++[x]:=⟨(bg b).dropLast,(bg b).getLast hb,(List.dropLast_concat_getLast hb).symm⟩
 have hx:x≠0:=by
  have:=aJx b hb;simp only[e,List.getLast_append_of_ne_nil,ne_eq,List.cons_ne_nil,not_false_eq_true,List.getLast_singleton]at this;exact this
 have hd:=Rp b;rw[e]at hd;have hx2:=hd x (by simp)
 have hi:qG i:=fun y hy=>hd y (by simp[hy])
 have h3:=YP hi;have h2:=Mc b;rw[e,aoR]at h2;simp only[gv,Int.mul_zero,Int.add_zero]at h2;have hl:(bg a).length<=i.length:=by rw[e]at h;simp at h;omega
 have h4:(10000:Int)^(bg a).length<=10000^i.length:=aJB (by omega) hl
 have h5:(10000:Int)^i.length*1<=10000^i.length*x:=Int.mul_le_mul_of_nonneg_left (by omega) (Int.pow_nonneg (by omega))
 rw[Int.mul_one]at h5;omega
theorem aeI{a b:Nat}(h:a<=b):(bg a).length<=(bg b).length:=by
 rcases Fz (bg b).length (bg a).length with h1|h1
 ·have:=auc h1;omega
 ·exact h1
def cmpL(a b:List Int):Int:=if a.length=b.length then adZ a b a.length else if a.length<b.length then -1 else 1
theorem aud(a b:Nat):cmpL (bg a) (bg b)=qd a b:=by
 unfold cmpL;by_cases h:(bg a).length=(bg b).length
 ·rw[if_pos h,aBk (Rp a) (Rp b) _ (iJ _) (by omega),QU,h,QU,Mc,Mc]
 ·rw[if_neg h];by_cases h2:(bg a).length<(bg b).length
  ·have:=auc h2;rw[if_pos h2];unfold qd;rw[if_pos (by omega)]
  ·have:=auc (a:=b) (b:=a) (by omega)
   rw[if_neg h2];unfold qd;rw[if_neg (by omega),if_neg (by omega)]
end Go.VI.Num
/- Decimal texts of numbers of any size. -/
namespace Go.VI.Num
def IsD(c:UInt8):Prop:=48<=c.toNat/\c.toNat<=57
def Tx(l:List UInt8):Prop:=∀ c∈l,IsD c
def dv(acc:Nat)(l:List UInt8):Nat:=l.foldl (fun a c=>a*10+(c.toNat-48)) acc
theorem ZN(acc:Nat):dv acc []=acc:=rfl
theorem abI(acc:Nat)(c:UInt8)(r:List UInt8):dv acc (c::r)=dv (acc*10+(c.toNat-48)) r:=by unfold dv;rw[List.foldl_cons]
theorem aue(a b:List UInt8)(acc:Nat):dv acc (a++b)=dv (dv acc a) b:=List.foldl_append
theorem aBl(l:List UInt8):∀ acc,dv acc l=acc*10^l.length+dv 0 l:=by
 induction l with
 |nil=>intro acc;rw[ZN,ZN,Ma,Nat.pow_zero,Nat.mul_one,Nat.add_zero]
 |cons c r ih =>
  intro acc;rw[abI,abI,ih,ih (0*10+(c.toNat-48)),Nat.zero_mul,F6,List.length_cons,Nat.pow_succ,AZ,Nat.add_assoc,Y4 (10^r.length) 10,Nat.mul_assoc]
theorem auf{l:List UInt8}(h:Tx l):dv 0 l<10^l.length:=by
 induction l with
 |nil=>rw[ZN];exact Nat.one_pos
 |cons c r ih =>
  have h1:=ih fun x hx=>h x (by simp[hx])
  have h2:=h c (by simp)
  unfold IsD at h2;rw[abI,aBl,List.length_cons,Nat.pow_succ,Nat.zero_mul,F6];have h3:(c.toNat-48)*10^r.length<=9*10^r.length:=JX _ (by omega)
  generalize (c.toNat-48)*10^r.length=Y at*;generalize 10^r.length=X at*;omega
def dec(n:Nat):List UInt8:=Tv (n+1) n
theorem aBm(n:Nat):n<10^(n+1):=by
 induction n with
 |zero=>decide
 |succ n ih =>
  rw[Nat.pow_succ];generalize 10^(n+1)=X at*;omega
theorem akl:∀(f f' u:Nat),u<10^f->u<10^f'->0<f->0<f'->Tv f u=Tv f' u
 |0,_,_,_,_,h,_=>by omega
 |_+1,0,_,_,_,_,h=>by omega
 |f+1,f'+1,u,h1,h2,_,_=>by
  simp only[Tv];split
  ·rfl
  ·rename_i h3
   have hf:0<f:=by
    rcases Y3 f with h|h
    ·subst h;simp at h1;omega
    ·exact h
   have hf':0<f':=by
    rcases Y3 f' with h|h
    ·subst h;simp at h2;omega
    ·exact h
   rw[Nat.pow_succ,Y4]at h1 h2;rw[akl f f' (u/10) (Nat.div_lt_of_lt_mul h1) (Nat.div_lt_of_lt_mul h2) hf hf']
theorem aug{f u:Nat}(h:u<10^f)(hf:0<f):Tv f u=dec u:=akl _ _ _ h (aBm u) hf (by omega)
theorem ZO{u:Nat}(h:u<10):dec u=[UInt8.ofNat (48+u)]:=by simp[dec,Tv,h]
theorem Si{u:Nat}(h:10<=u):dec u=dec (u/10)++[UInt8.ofNat (48+u%10)]:=by
 have h1:¬ u<10:=by omega
 have:dec u=Tv u (u/10)++[UInt8.ofNat (48+u%10)]:=by simp only[dec,Tv,h1,if_false]
 rw[this,aug _ (by omega)]
 have:=aBm (u/10);exact Zv this (acr (by omega) (by omega))
theorem amm{d:Nat}(h:d<10):(UInt8.ofNat (48+d)).toNat=48+d:=by
 rw[UInt8.toNat_ofNat'];omega
theorem amn(n:Nat):Tx (dec n):=by
 induction n using Nat.strongRecOn with
 |_ n ih =>
  intro c hc;rcases Fz n 10 with h|h
  ·rw[ZO h,ach]at hc;subst hc;unfold IsD;rw[amm h];omega
  ·rw[Si h,Di,ach]at hc;rcases hc with hc|hc
   ·exact ih (n/10) (by omega) c hc
   ·subst hc;unfold IsD;rw[amm (by omega)];omega
theorem amo(n:Nat):dv 0 (dec n)=n:=by
 induction n using Nat.strongRecOn with
 |_ n ih =>
  rcases Fz n 10 with h|h
  ·rw[ZO h,abI,ZN,amm h];omega
  ·rw[Si h,aue,ih (n/10) (by omega),abI,ZN,amm (by omega)];omega
theorem aeJ(n:Nat):dec n≠[]:=by
 rcases Fz n 10 with h|h
 ·rw[ZO h];simp
 ·rw[Si h];simp
def aoW(l:List UInt8):Prop:=l≠[]/\(l=[48]\/l.head?≠some 48)
theorem aJC(n:Nat):aoW (dec n):=by
 refine⟨aeJ n, ?_⟩
 induction n using Nat.strongRecOn with
 |_ n ih =>
  rcases Fz n 10 with h|h
  ·rw[ZO h];by_cases h0:n=0
   ·subst h0;exact .inl rfl
   ·refine .inr fun e=>?_;simp only[List.head?_cons,dz]at e;have:=congrArg UInt8.toNat e;rw[amm h]at this;simp at this;omega
  ·right;rw[Si h];have h1:=aeJ (n/10);rw[List.head?_append];obtain⟨c,r,hc⟩:=akA h1;rcases ih (n/10) (by omega)with h2|h2
   ·have:=amo (n/10);rw[h2,abI,ZN]at this;have e48:(48:UInt8).toNat=48:=rfl;rw[e48]at this;omega
   ·rw[hc]at h2⊢;simpa using h2
theorem aJD:∀(k:Nat) (l:List UInt8),l.length=k->Tx l->aoW l->dec (dv 0 l)=l:=by
 intro k
 induction k with
 |zero=>intro l hl _ h;exact absurd (List.length_eq_zero_iff.mp hl) h.1
 |succ k ih =>
  intro l hl hd hn;obtain⟨i,c,rfl⟩:∃ i c,l=i++[c]:=⟨l.dropLast,l.getLast hn.1,(List.dropLast_concat_getLast hn.1).symm⟩;have hc:=hd c (by simp)
  unfold IsD at hc
  have hu:UInt8.ofNat (48+(c.toNat-48))=c:=by
   rw[show 48+(c.toNat-48)=c.toNat by omega]
   exact UInt8.ofNat_toNat
  rw[aue];by_cases hi:i=[]
  ·subst hi;rw[List.nil_append,ZN,abI,ZN,Nat.zero_mul,F6,ZO (by omega),hu]
  ·have hni:aoW i:=by
    refine⟨hi, ?_⟩;obtain⟨x,r,rfl⟩:=akA hi;rcases hn.2 with h|h
    ·simp at h
    ·right;simpa using h
   have hdi:Tx i:=fun x hx=>hd x (by simp[hx])
   have e:=ih i (by simp at hl;omega) hdi hni
   rw[abI,ZN]
   have hpos:1<=dv 0 i:=by
    rcases Y3 (dv 0 i)with h|h
    ·rw[h,ZO (by omega)]at e
     rcases hn.2 with h2|h2
     ·rw[<-e]at h2;simp at h2
     ·rw[<-e]at h2;simp at h2
    ·exact h
   rw[Si (by omega)]
   have e1:(dv 0 i*10+(c.toNat-48))/10=dv 0 i:=by omega
   have e2:(dv 0 i*10+(c.toNat-48))%10=c.toNat-48:=by omega
   rw[e1,e2,e,hu]
theorem amq{n k:Nat}(hk:0<k):(dec n).length<=k↔n<10^k:=by
 constructor
 ·intro h;have:=auf (amn n);rw[amo]at this;exact Zv this (acr (by omega) h)
 ·intro h
  induction k generalizing n with
  |zero=>omega
  |succ k ih =>
   rcases Fz n 10 with h1|h1
   ·rw[ZO h1];simp
   ·rw[Si h1,uG,List.length_singleton];rw[Nat.pow_succ,Y4]at h
    have hk:0<k:=by
     rcases Y3 k with h0|h0
     ·subst h0;simp at h;omega
     ·exact h0
    have:=ih (n:=n/10) hk (Nat.div_lt_of_lt_mul h);omega
def Ty(d:Nat):List UInt8:=[UInt8.ofNat (48+d/1000),UInt8.ofNat (48+d/100%10),UInt8.ofNat (48+d/10%10),UInt8.ofNat (48+d%10)]
theorem aJE{n:Nat}(h:10000<=n):dec n=dec (n/10000)++Ty (n%10000):=by
 rw[Si (by omega),Si (u:=n/10) (by omega),Si (u:=n/10/10) (by omega),Si (u:=n/10/10/10) (by omega)]
 have e0:n/10/10/10/10=n/10000:=by omega
 have e1:n/10/10/10%10=n%10000/1000:=by omega
 have e2:n/10/10%10=n%10000/100%10:=by omega
 have e3:n/10%10=n%10000/10%10:=by omega
 have e4:n%10=n%10000%10:=by omega
 rw[e0,e1,e2,e3,e4];simp[Ty]
theorem aJF{d:Nat}(h:d<10000):List.replicate (4-(dec d).length) 48++dec d=Ty d:=by
 have z:(48:UInt8)=UInt8.ofNat (48+0):=rfl;unfold Ty;rcases Fz d 10 with h1|h1
 ·rw[ZO h1];have e1:d/1000=0:=by omega
  have e2:d/100%10=0:=by omega
  have e3:d/10%10=0:=by omega
  have e4:d%10=d:=by omega
  rw[e1,e2,e3,e4];rfl
 ·rcases Fz d 100 with h2|h2
  ·rw[Si h1,ZO (u:=d/10) (by omega)]
   have e1:d/1000=0:=by omega
   have e2:d/100%10=0:=by omega
   have e3:d/10%10=d/10:=by omega
   rw[e1,e2,e3];rfl
  ·rcases Fz d 1000 with h3|h3
   ·rw[Si h1,Si (u:=d/10) (by omega),ZO (u:=d/10/10) (by omega)]
    have e1:d/1000=0:=by omega
    have e2:d/100%10=d/10/10:=by omega
    rw[e1,e2];rfl
   ·rw[Si h1,Si (u:=d/10) (by omega),Si (u:=d/10/10) (by omega),ZO (u:=d/10/10/10) (by omega)]
    have e1:d/1000=d/10/10/10:=by omega
    have e2:d/100%10=d/10/10%10:=by omega
    rw[e1,e2];rfl
def amr:List Int->List UInt8
 |[]=>[]
 |d::r=>if r=[]then dec d.toNat else amr r++Ty d.toNat
theorem aJG{n:Nat}(h:n≠0):amr (bg n)=dec n:=by
 induction n using Nat.strongRecOn with
 |_ n ih =>
  rw[acp h];simp only[amr,abG,abJ];rcases Fz n 10000 with h1|h1
  ·rw[if_pos (by omega),Nat.mod_eq_of_lt h1]
  ·rw[if_neg (by omega),ih (n/10000) (by omega) (by omega),<-aJE h1]
theorem aBn:∀(l:List UInt8) (acc:Nat),Tx l->(acc+1)*10^l.length<=10^18->Lib.parseUint10 acc l=.ok (dv acc l)
 |[],acc,_,_=>rfl
 |c::r,acc,h,hb=>by
  have hc:=h c (by simp)
  have hc2:=hc;unfold IsD at hc2;rw[List.length_cons,Nat.pow_succ]at hb;have h10:1<=10^r.length:=Nat.pos_of_ne_zero (by simp)
  have hb2:(acc+1)*10*10^r.length<=10^18:=by rw[Nat.mul_assoc,Y4 10];exact hb
  have h1:(acc+1)*10<=10^18:=Np (Nat.le_mul_of_pos_right _ h10) hb2;have e18:(10:Nat)^18=1000000000000000000:=by decide
  rw[e18]at h1;simp only[Lib.parseUint10,hc2,and_self,if_true];rw[if_neg (by omega),if_neg (by omega),abI]
  refine aBn r _ (fun x hx=>h x (by simp[hx])) (Np (JX _ ?_) hb2)
  omega
theorem aJH{l:List UInt8}(h:Tx l)(hl:l≠[])(hn:l.length<=18):Lib.atoiAll l=.ok ((dv 0 l:Nat):Int):=by
 obtain⟨c,r,rfl⟩:=akA hl;have hc:=h c (by simp)
 unfold IsD at hc
 have hp:Lib.parseMag (c::r)=.ok (dv 0 (c::r)):=by
  unfold Lib.parseMag;rw[if_neg (by simp),aBn _ _ h]
  rw[F6,Nat.one_mul];exact acr (by omega) hn
 have hlt:=auf h;have hle:10^(c::r).length<=10^18:=acr (by omega) hn
 have e18:(10:Nat)^18=1000000000000000000:=by decide
 have n1:¬ (c.toNat=43\/c.toNat=45):=by omega
 have n2:¬ c.toNat=45:=by omega
 have hb:¬ 9223372036854775808<=dv 0 (c::r):=by
  rw[e18]at hle;generalize 10^(c::r).length=X at*;omega
 unfold Lib.atoiAll;simp only[];rw[if_neg n1,hp];simp only[n2,if_false,not_false_eq_true,true_and,false_and,hb]
end Go.VI.Num
/- Integers as texts: which texts are integers, and what they are worth. -/
namespace Go.VI.Num
def ds:List UInt8:=[48,49,50,51,52,53,54,55,56,57]
theorem auh(b:UInt8):ds.contains b=true↔IsD b:=by
 unfold ds IsD;simp only[List.contains_cons,List.contains_nil,Jz,beq_iff_eq,<-UInt8.toNat_inj,Bool.or_false];simp only[UInt8.reduceToNat];omega
theorem dropWhile_nil{α:Type}{p:α->Bool}:∀{l:List α},l.dropWhile p=[]->∀ x∈l,p x=true
 |[],_,x,hx=>by simp at hx
 |a::l,h,x,hx=>by
  rw[List.dropWhile_cons]at h;split at h
  ·rename_i ha;rcases A9.mp hx with rfl|hx
   ·exact ha
   ·exact dropWhile_nil h x hx
  ·cases h
theorem aBo{α:Type}{p:α->Bool}:∀{l:List α},(∀ x∈l,p x=true)->l.dropWhile p=[]
 |[],_=>rfl
 |a::l,h=>by rw[List.dropWhile_cons,if_pos (h a (by simp))];exact aBo fun x hx=>h x (by simp[hx])
theorem aBp{α:Type}{p:α->Bool}:∀{l:List α} {x:α},x∈l.takeWhile p->p x=true
 |[],x,h=>by simp at h
 |a::l,x,h=>by
  rw[List.takeWhile_cons]at h;split at h
  ·rename_i ha;rcases A9.mp h with rfl|h
   ·exact ha
   ·exact aBp h
  ·simp at h
theorem aBq{l:List UInt8}:Lib.trimS l ds=[]↔Tx l:=by
 unfold Lib.trimS Lib.trimLeftS Lib.trimRightS;constructor
 ·intro h c hc;have h1:=dropWhile_nil h;have h2:c∈l.reverse:=by simpa using hc
  rw[<-List.takeWhile_append_dropWhile (p:=fun b=>ds.contains b) (l:=l.reverse),Di]at h2;rcases h2 with h2|h2
  ·exact(auh c).mp (aBp (p:=fun b=>ds.contains b) h2)
  ·exact(auh c).mp (h1 c (by simpa using h2))
 ·intro h;have:l.reverse.dropWhile (fun b=>ds.contains b)=[]:=aBo fun x hx=>(auh x).mpr (h x (by simpa using hx))
  rw[this];rfl
def fZ(z:Int):List UInt8:=if z<0 then 45::dec z.natAbs else dec z.natAbs
def body(s:List UInt8):List UInt8:=Lib.trimPrefix s [45]
theorem aui(r:List UInt8):body (45::r)=r:=by simp[body,Lib.trimPrefix,Lib.hasPrefix]
theorem aBr{s:List UInt8}(h:s.head?≠some 45):body s=s:=by
 cases s with
 |nil=>rfl
 |cons c r =>
  have:c≠45:=fun e=>h (by rw[e];rfl)
  have h2:¬ (45:UInt8)=c:=fun e=>this e.symm;simp[body,Lib.trimPrefix,Lib.hasPrefix,List.isPrefixOf,h2]
theorem aBs(n:Nat):(dec n).head?≠some 45:=by
 intro h;have h1:=amn n;obtain⟨c,r,e⟩:=akA (aeJ n);rw[e]at h h1;simp only[List.head?_cons,dz]at h;subst h;have:=h1 45 (by simp)
 unfold IsD at this;simp at this
theorem auj(z:Int):body (fZ z)=dec z.natAbs:=by
 unfold fZ;split
 ·exact aui _
 ·exact aBr (aBs _)
def ZP(s:List UInt8):Bool:=!(body s).isEmpty&&decide ((body s).length<=200)&&(Lib.trimS (body s) ds).isEmpty&&(s==[48]||!((body s).head?==some 48))
theorem akB{z:Int}(h:z.natAbs<10^200):ZP (fZ z)=true:=by
 have h1:Lib.trimS (dec z.natAbs) ds=[]:=aBq.mpr (amn _);have h2:=(amq (n:=z.natAbs) (k:=200) (by omega)).mpr h
 have h3:(dec z.natAbs).isEmpty=false:=by
  cases hd:dec z.natAbs with
  |nil=>exact absurd hd (aeJ _)
  |cons=>rfl
 unfold ZP;rw[auj,h1,h3,decide_eq_true h2];simp only[Bool.not_false,List.isEmpty_nil,Ri];rcases(aJC z.natAbs).2 with h4|h4
 ·have:z=0:=by
   have h5:=amo z.natAbs;rw[h4,abI,ZN]at h5;have e48:(48:UInt8).toNat=48:=rfl;rw[e48]at h5;omega
  subst this;rfl
 ·rw[Jz];right;simpa using h4
def zv(s:List UInt8):Int:=if s.head?=some 45 then -(dv 0 (body s):Int)else dv 0 (body s)
theorem aoX(z:Int):zv (fZ z)=z:=by
 unfold zv;rw[auj,amo];by_cases h:z<0
 ·have:(fZ z).head?=some 45:=by unfold fZ;rw[if_pos h];rfl
  rw[if_pos this];omega
 ·have:(fZ z).head?≠some 45:=by unfold fZ;rw[if_neg h];exact aBs _
  rw[if_neg this];omega
theorem aBt{s:List UInt8}(h:ZP s=true):s=fZ (zv s)/\(zv s).natAbs<10^200:=by
 unfold ZP at h;simp only[fw,IK,decide_eq_true_eq,Zz,List.isEmpty_eq_false_iff]at h;obtain⟨⟨⟨h1,h2⟩,h3⟩,h4⟩:=h;have hd:=aBq.mp h3
 have hlead:aoW (body s):=by
  refine⟨h1, ?_⟩;simp only[Jz,beq_iff_eq,IK,beq_eq_false_iff_ne]at h4;rcases h4 with h4|h4
  ·subst h4;left;rfl
  ·exact .inr h4
 have e:=aJD _ _ rfl hd hlead
 have hlt:dv 0 (body s)<10^200:=by
  refine(amq (by omega)).mp ?_
  rw[e];exact h2
 by_cases hs:s.head?=some 45
 ·obtain⟨c,r,rfl⟩:∃ c r,s=c::r:=by cases s with|nil=>cases hs|cons c r=>exact⟨c,r,rfl⟩
  simp only[List.head?_cons,dz]at hs;subst hs;rw[aui]at *;have hz:zv (45::r)=-(dv 0 r:Int):=by unfold zv;rw[aui,if_pos (show (45::r).head?=some (45:UInt8)from rfl)]
  have hpos:dv 0 r≠0:=by
   intro h0;rw[h0]at e;simp only[Jz,beq_iff_eq,IK,beq_eq_false_iff_ne]at h4;rcases h4 with h4|h4
   ·simp at h4
   ·rw[<-e]at h4;exact h4 rfl
  rw[hz];refine⟨?_,by omega⟩
  unfold fZ;rw[if_pos (by omega)]
  have:(-(dv 0 r:Int)).natAbs=dv 0 r:=by omega
  rw[this,e]
 ·have hb:=aBr hs;rw[hb]at e hlt;have hz:zv s=(dv 0 s:Int):=by unfold zv;rw[if_neg hs,hb]
  rw[hz];refine⟨?_,by omega⟩
  unfold fZ;rw[if_neg (by omega),Int.natAbs_natCast,e]
theorem aBu{a b:Int}(h:fZ a=fZ b):a=b:=by rw[<-aoX a,h,aoX]
def Sj:Nat->List UInt8->List Int
 |0,_=>[]
 |f+1,l=>if l=[] then[] else(dv 0 (l.drop (l.length-4)):Int)::Sj f (l.take (l.length-4))
theorem aBv:∀(f:Nat) (l:List UInt8),l.length<=f->Tx l->gv (Sj f l)=dv 0 l/\qG (Sj f l)
 |0,l,h,_=>by
  have:l=[]:=List.length_eq_zero_iff.mp (by omega)
  subst this
  exact⟨rfl,qG.nil⟩
 |f+1,l,h,hd=>by
  by_cases h0:l=[]
  ·subst h0;exact⟨rfl,qG.nil⟩
  ·have hlen:0<l.length:=SC.mpr h0;have hd1:Tx (l.take (l.length-4)):=fun x hx=>hd x (acU hx);have hd2:Tx (l.drop (l.length-4)):=fun x hx=>hd x (List.mem_of_mem_drop hx);obtain⟨k1,k2⟩:=aBv f (l.take (l.length-4)) (by simp;omega) hd1
   have hlt:=auf hd2;have hl4:(l.drop (l.length-4)).length<=4:=by simp;omega
   have h4:10^(l.drop (l.length-4)).length<=10^4:=acr (by omega) hl4
   have e4:(10:Nat)^4=10000:=by decide
   rw[e4]at h4;simp only[Sj,h0,if_false,gv,k1];refine⟨?_,qG.cons.mpr ⟨⟨by omega,by omega⟩,k2⟩⟩
   conv=>rhs;rw[<-List.take_append_drop (l.length-4) l]
   rw[aue,aBl (l.drop (l.length-4)) (dv 0 (l.take (l.length-4)))];rcases Fz l.length 4 with h5|h5
   ·have:l.length-4=0:=by omega
    rw[this,List.take_zero,List.drop_zero,ZN,Nat.zero_mul,F6];simp
   ·have:(l.drop (l.length-4)).length=4:=by simp;omega
    rw[this,e4];omega
end Go.VI.Num
/- The whole root of a number, and steps that fall until they stop at it. -/
namespace Go.VI.Num
end Go.VI.Num
namespace Go.VI.Num
def JD(q:Rat):Prop:=q.num.natAbs<10^200/\q.den<10^200
theorem aJI{n d:Int}(hd:0<d):(Rat.divInt n d).num=n/(Int.gcd n d:Nat):=by
 rw[Rat.num_divInt,Int.sign_eq_one_of_pos hd,Int.one_mul,Int.gcd_comm]
theorem aJJ{n d:Int}(hd:0<d):((Rat.divInt n d).den:Int)=d/(Int.gcd n d:Nat):=by
 rw[Rat.den_divInt,if_neg (by omega),Int.gcd_comm]
 have:(d.natAbs:Int)=d:=by omega
 rw[Int.natCast_ediv,this]
theorem aJK(n:Int)(g:Nat)(hg:(g:Int)∣n):(n/(g:Int)).natAbs<=n.natAbs:=by
 rw[Int.natAbs_ediv_of_dvd hg];exact Nat.div_le_self _ _
theorem aJL{n d:Int}(hd:d≠0)(hn:n.natAbs<10^200)(hf:d.natAbs<10^200):JD (Rat.divInt n d):=by
 refine⟨?_, ?_⟩
 ·rw[Rat.num_divInt];refine Nat.lt_of_le_of_lt (aJK _ _ ?_) ?_
  ·exact Int.dvd_trans (Int.gcd_dvd_right ..) (Int.dvd_mul_left ..)
  ·rw[Int.natAbs_mul,Int.natAbs_sign_of_ne_zero hd,Nat.one_mul];exact hn
 ·rw[Rat.den_divInt,if_neg hd];exact Nat.lt_of_le_of_lt (Nat.div_le_self _ _) hf
def Me(s t:List UInt8):Bool:=ZP s&&ZP t&&decide (0<zv t)&&(Int.gcd (zv s) (zv t)==1)
theorem ajk{q:Rat}(h:JD q):Me (fZ q.num) (fZ (q.den:Int))=true:=by
 unfold Me;have hd:=q.den_pos;have hr:=q.reduced;rw[akB h.1,akB (z:=(q.den:Int)) (by rw[Int.natAbs_natCast];exact h.2),aoX,aoX,decide_eq_true (by omega)]
 simp only[Ri,beq_iff_eq];unfold Int.gcd;rw[Int.natAbs_natCast];exact hr
def Mf(a b:Rat):Int:=qd (a.num*b.den) (b.num*a.den)
theorem aJM{a b:Rat}:Mf a b=-1↔a<b:=by
 rw[Rat.lt_iff];unfold Mf qd;split<;>(try split)<;>omega
theorem aJN{a b:Rat}:Mf a b=0↔a=b:=by
 rw[Rat.eq_iff_mul_eq_mul];unfold Mf qd;split<;>(try split)<;>omega
theorem aJO{a b:Rat}:Mf a b=1↔b<a:=by
 rw[Rat.lt_iff];unfold Mf qd;split<;>(try split)<;>omega
theorem aJP(a b:Rat):(Mf a b=-1/\a<b)\/(Mf a b=0/\a=b)\/(Mf a b=1/\b<a):=by
 have h:Mf a b=-1\/Mf a b=0\/Mf a b=1:=by unfold Mf qd;split<;>(try split)<;>simp
 rcases h with h|h|h
 ·exact .inl ⟨h,aJM.mp h⟩
 ·exact .inr (.inl ⟨h,aJN.mp h⟩)
 ·exact .inr (.inr ⟨h,aJO.mp h⟩)
theorem aJQ(a b:Int):qd a b=-qd b a:=by unfold qd;split<;>split<;>(try split)<;>omega
theorem aJR{n d m c:Int}(hd:0<d)(hc:0<c)(h:n/d≠m/c):qd (n/d) (m/c)=qd (n*c) (m*d):=by
 have e1:=Int.mul_ediv_add_emod n d;have e2:=Int.mul_ediv_add_emod m c;have l1:=Int.emod_nonneg n (by omega:d≠0)
 have l2:=Int.emod_nonneg m (by omega:c≠0)
 have u1:=Int.emod_lt_of_pos n hd;have u2:=Int.emod_lt_of_pos m hc
 have key:∀{n d m c:Int},0<d->0<c->n/d<m/c->n*c<m*d:=fun{n d m c} hd hc h=>by
  have u1:=Int.lt_ediv_add_one_mul_self n hd;have u2:=Int.ediv_mul_le m (by omega:c≠0)
  have h1:(n/d+1)*d*c<=(m/c)*d*c:=Int.mul_le_mul_of_nonneg_right (Int.mul_le_mul_of_nonneg_right (by omega) (by omega)) (by omega)
  have h2:n*c<(n/d+1)*d*c:=Int.mul_lt_mul_of_pos_right u1 hc;have h3:m/c*c*d<=m*d:=Int.mul_le_mul_of_nonneg_right u2 (by omega)
  have h4:(m/c)*d*c=m/c*c*d:=by rw[Int.mul_assoc,Int.mul_comm d c,<-Int.mul_assoc]
  omega
 by_cases h1:n/d<m/c
 ·have:=key hd hc h1;unfold qd;rw[if_pos h1,if_pos this]
 ·have:=key hc hd (by omega:m/c<n/d)
  unfold qd;rw[if_neg h1,if_neg h,if_neg (by omega),if_neg (by omega)]
theorem round_eq{n d m c:Int}(h:n/d=m/c):qd (n*c) (m*d)=qd ((n%d)*c) ((m%c)*d):=by
 have e1:=Int.mul_ediv_add_emod n d;have e2:=Int.mul_ediv_add_emod m c;have k1:n*c=d*(n/d)*c+(n%d)*c:=by rw[<-Int.add_mul,e1]
 have k2:m*d=c*(m/c)*d+(m%c)*d:=by rw[<-Int.add_mul,e2]
 have k3:d*(n/d)*c=c*(m/c)*d:=by
  rw[h,Int.mul_assoc,Int.mul_comm d,Int.mul_comm (m/c) c]
 unfold qd;rw[k1,k2,k3];simp only[Int.add_lt_add_iff_left,Int.add_right_inj]
theorem round_swap{d r c s:Int}:qd (d*s) (c*r)=-qd (r*c) (s*d):=by
 rw[aJQ,Int.mul_comm d s,Int.mul_comm c r]
end Go.VI.Num
namespace Go.VI.Num
theorem aBw(a b:Rat):Rat.divInt (a.num*b.den-b.num*a.den) ((a.den:Int)*b.den)=a-b:=by
 rw[Rat.sub_def',<-Rat.divInt_ofNat,Int.natCast_mul]
theorem aJS(a b:Rat):Rat.divInt (a.num*b.den) ((a.den:Int)*b.num)=a/b:=by
 rw[Rat.div_def,Rat.inv_def,<-Rat.divInt_mul_divInt,Rat.num_divInt_den]
theorem aJT{a b:Rat}:(a.den:Int)*b.num=0↔b=0:=by
 have:=a.den_pos;rw[Int.mul_eq_zero,Rat.num_eq_zero];constructor
 ·rintro(h|h)
  ·omega
  ·exact h
 ·exact .inr
def akC(n d:Int):Option Rat:=if d=0 then none else some (Rat.divInt n d)
def Rs(z:Int):Bool:=decide (z.natAbs<10^200)
def Ze(a b:Rat):Option Rat:=if Rs (a.num*b.den)&&Rs (b.num*a.den)&&Rs (a.num*b.den-b.num*a.den)&&Rs ((a.den:Int)*b.den)then some (a-b)else none
def ajl(a b:Rat):Option Rat:=if Rs (a.num*b.den)&&Rs ((a.den:Int)*b.num)&&decide (b≠0)then some (a/b)else none
end Go.VI.Num
namespace Go.VI.Num
end Go.VI.Num
namespace Go.VI.Num
end Go.VI.Num
namespace Go.VI.Num
open Go.VI
theorem aBx:fZ 1=[49]:=rfl
end Go.VI.Num
namespace Go.VI.Num
open Go.VI
end Go.VI.Num
/- A delay unit: the course of a live programme, what is on the air, and what the laws say of it, plainly. -/
namespace Go.VI.Num
def rJ(c:Int):Prop:=-9223372036854775808<=c/\c<=9223372036854775807
def zq(c n:Int):Int:=(if c<0 then -(c+1)else c)%n
theorem Sk(c:Int){n:Int}(hn:0<n):0<=zq c n/\zq c n<n:=⟨Int.emod_nonneg _ (by omega),Int.emod_lt_of_pos _ hn⟩
abbrev Pr:=Int×Int
structure qf where
 L:Int
 D:Int
 E:Int
 P:List Pr
 C:List Pr
def hasB(l:List Pr)(s:Int):Bool:=l.any fun x=>decide (x.1<=s)&&decide (s<x.2)
def zu(l:List Pr)(a b:Int):Bool:=l.any fun x=>decide (x.1<b)&&decide (a<x.2)
def Gt(L:Int):Int->List Pr->Bool
 |_,[]=>true
 |last,x::l=>decide (last<x.1)&&(decide (x.1<x.2)&&(decide (x.2<=L)&&Gt L x.2 l))
structure yT(l:qf):Prop where
 L:1<=l.L/\l.L<=600
 D:0<=l.D/\l.D<=60
 E:1<=l.E/\l.E<=60
 P:Gt l.L (-1) l.P=true
 C:Gt l.L (-1) l.C=true
 p4:l.P.length<=4
 c4:l.C.length<=4
 dis:∀ p∈l.P,zu l.C p.1 p.2=false
theorem aoY{l:List Pr}{s:Int}:hasB l s=false↔∀ x∈l,x.1<=s->x.2<=s:=by
 simp[hasB]
theorem YQ{l:List Pr}{a b:Int}:zu l a b=false↔∀ x∈l,x.1<b->x.2<=a:=by
 simp[zu]
theorem aoZ{l:List Pr}{a b k:Int}(h:zu l a b=false)(h1:a<=k)(h2:k<b):hasB l k=false:=by
 rw[aoY];rw[YQ]at h;intro x hx h3;have:=h x hx (by omega)
 omega
theorem Zf{L:Int}:∀{l:List Pr} {a:Int},Gt L a l=true->∀ x∈l,a<x.1/\x.1<x.2/\x.2<=L
 |[],_,_=>by simp
 |y::l,a,h=>by
  simp only[Gt,fw,decide_eq_true_eq]at h;intro x hx;rcases A9.mp hx with rfl|hx
  ·exact⟨h.1,h.2.1,h.2.2.1⟩
  ·have:=Zf h.2.2.2 x hx;omega
structure Stp where
 fr:Int
 to:Int
 be:Int
 af:Int
 de:Int
 cut:Bool
 str:Bool
def SE(l:qf)(s d:Int):Bool:=decide (d<l.D)&&(decide (s+l.E<=l.L)&&(!zu l.C s (s+l.E)&&!zu l.P s (s+l.E)))
inductive Ch(l:qf):Int->Int->List Stp->Int->Prop
 |nil (d:Int):Ch l l.L d [] d
 |Mj {s d e:Int} {xs:List Stp}:s<l.L->hasB l.C s=true->0<d->Ch l (s+1) (d-1) xs e->Ch l s d (⟨s,s+1,s+d,s+d,d,true,false⟩::xs) e
 |Ml {s d e:Int} {xs:List Stp}:s<l.L->hasB l.C s=true->d=0->Ch l (s+1) d xs e->Ch l s d (⟨s,s+1,s+d,s+d+1,d,true,false⟩::xs) e
 |str {s d e:Int} {xs:List Stp}:s<l.L->hasB l.C s=false->d<l.D->s+l.E<=l.L->zu l.C s (s+l.E)=false->zu l.P s (s+l.E)=false->Ch l (s+l.E) (d+1) xs e->Ch l s d (⟨s,s+l.E,s+d,s+d+l.E+1,d,false,true⟩::xs) e
 |pl {s d e:Int} {xs:List Stp}:s<l.L->hasB l.C s=false->SE l s d=false->Ch l (s+1) d xs e->Ch l s d (⟨s,s+1,s+d,s+d+1,d,false,false⟩::xs) e
def DF(s:Int)(n:Nat):List Int:=(List.range n).map fun(k:Nat)=>s+(k:Int)
@[simp] theorem auk (s:Int) (n:Nat):(DF s n).length=n:=by simp [DF]
theorem ams{s y:Int}{n:Nat}:y∈DF s n↔s<=y/\y<s+n:=by
 simp only[DF,List.mem_map,List.mem_range];constructor
 ·rintro⟨k,h,rfl⟩;omega
 ·intro h;exact⟨(y-s).toNat,by omega,by omega⟩
theorem ao0{s:Int}{n k:Nat}(h:k<(DF s n).length):(DF s n)[k]=s+k:=by simp[DF]
theorem amt(s:Int)(n:Nat):DF s (n+1)=s::DF (s+1) n:=by
 unfold DF;rw[List.range_succ_eq_map,List.map_cons,List.map_map];congr 1
 ·omega
 ·apply List.map_congr_left;intro k _;simp only[Function.comp];omega
theorem aBy(s:Int):DF s 0=[]:=rfl
theorem aJU(s:Int)(n m:Nat):DF s (n+m)=DF s n++DF (s+n) m:=by
 induction n generalizing s with
 |zero=>simp[aBy]
 |succ n ih =>
  rw[show n+1+m=(n+m)+1 by omega,amt,amt,ih,List.cons_append]
  congr 3;omega
def Gl(x:Stp):List Int:=(List.range (x.af-x.be).toNat).map fun(k:Nat)=>if x.cut then -1 else max (x.to-(x.af-(x.be+(k:Int)))) x.fr
def o5(xs:List Stp):List Int:=xs.flatMap Gl
theorem ao1(s a d:Int):Gl ⟨s,s+1,a,a,d,true,false⟩=[]:=by simp[Gl]
theorem ao3(s a d:Int):Gl ⟨s,s+1,a,a+1,d,true,false⟩=[-1]:=by
 simp only[Gl,show (a+1-a).toNat=1 by omega];rfl
theorem ajn(s a d:Int):Gl ⟨s,s+1,a,a+1,d,false,false⟩=[s]:=by
 simp only[Gl,show (a+1-a).toNat=1 by omega,List.range_one,List.map_cons,List.map_nil,uM,if_false]
 congr 1;omega
theorem akD{E:Int}(hE:1<=E)(s a d:Int):Gl ⟨s,s+E,a,a+E+1,d,false,true⟩=s::DF s E.toNat:=by
 simp only[Gl,show (a+E+1-a).toNat=E.toNat+1 by omega,uM,if_false]
 rw[List.range_succ_eq_map,List.map_cons,List.map_map];congr 1
 ·omega
 ·unfold DF;apply List.map_congr_left;intro k _;simp only[Function.comp];omega
def Gu(xs:List Stp):List Int:=xs.flatMap fun x=>List.replicate (x.to-x.fr).toNat x.de
section
variable {l:qf}
theorem Ch.le(hE:1<=l.E){s d e:Int}{xs:List Stp}(h:Ch l s d xs e):s<=l.L:=by cases h<;>omega
theorem Ch.dl{s d e:Int}{xs:List Stp}(h:Ch l s d xs e):0<=d->d<=l.D->0<=e/\e<=l.D:=by
 induction h with
 |nil d=>intro h1 h2;exact⟨h1,h2⟩
 |Mj _ _ _ _ ih=>intro h1 h2;exact ih (by omega) (by omega)
 |Ml _ _ _ _ ih=>intro h1 h2;exact ih (by omega) (by omega)
 |str _ _ _ _ _ _ _ ih=>intro h1 h2;exact ih (by omega) (by omega)
 |pl _ _ _ _ ih=>intro h1 h2;exact ih (by omega) (by omega)
theorem Ch.amu(hE:1<=l.E){s d e:Int}{xs:List Stp}(h:Ch l s d xs e):((o5 xs).length:Int)=(l.L-s)+(e-d):=by
 induction h with
 |nil d=>simp[o5]
 |Mj _ _ _ _ ih=>rw[o5,List.flatMap_cons,ao1,List.nil_append];rw[o5]at ih;omega
 |Ml _ _ _ _ ih=>rw[o5,List.flatMap_cons,ao3,uG,List.length_singleton];rw[o5]at ih;omega
 |str _ _ _ _ _ _ _ ih=>rw[o5,List.flatMap_cons,akD hE,uG,List.length_cons,auk];rw[o5]at ih;omega
 |pl _ _ _ _ ih=>rw[o5,List.flatMap_cons,ajn,uG,List.length_singleton];rw[o5]at ih;omega
theorem Rt(x:Stp)(xs:List Stp):o5 (x::xs)=Gl x++o5 xs:=rfl
theorem Ch.mem(hE:1<=l.E){s d e:Int}{xs:List Stp}(h:Ch l s d xs e):∀ y∈o5 xs,y=-1\/s<=y/\y<l.L/\hasB l.C y=false:=by
 induction h with
 |nil d=>simp[o5]
 |Mj _ _ _ _ ih =>
  intro y hy;rw[Rt,ao1,List.nil_append]at hy
  exact(ih y hy).imp id fun h=>⟨by omega,h.2⟩
 |Ml _ _ _ _ ih =>
  intro y hy;rw[Rt,ao3,List.singleton_append,A9]at hy;rcases hy with h|hy
  ·exact .inl h
  ·exact(ih y hy).imp id fun h=>⟨by omega,h.2⟩
 |str h1 h2 h3 h4 h5 h6 _ ih =>
  intro y hy;rw[Rt,akD hE,List.cons_append,A9,Di,ams]at hy;rcases hy with rfl|hy|hy
  ·exact .inr ⟨by omega,by omega,h2⟩
  ·exact .inr ⟨by omega,by omega,aoZ h5 (by omega) (by omega)⟩
  ·exact(ih y hy).imp id fun h=>⟨by omega,h.2⟩
 |pl h1 h2 h3 _ ih =>
  intro y hy;rw[Rt,ajn,List.singleton_append,A9]at hy;rcases hy with rfl|hy
  ·exact .inr ⟨by omega,by omega,h2⟩
  ·exact(ih y hy).imp id fun h=>⟨by omega,h.2⟩
theorem Ch.split(hE:1<=l.E){b:Int}(hb:∀ s,s<b->zu l.C s (s+l.E)=false->zu l.P s (s+l.E)=false->s+l.E<=b){s d e:Int}{xs:List Stp}(h:Ch l s d xs e):s<=b->b<=l.L ->
  ∃ pre ys d',xs=pre++ys/\Ch l b d' ys e/\(∀ y∈o5 pre,y=-1\/s<=y/\y<b)/\(∀ x∈pre,s<=x.fr/\x.to<=b/\x.fr<b)/\((Gu pre).length:Int)=b-s:=by
 induction h with
 |nil d=>intro h1 h2;exact⟨[],[],d,rfl,by rw[show b=l.L by omega];exact .nil d,by simp[o5],by simp,by simp[Gu];omega⟩
 |@Mj s d e xs g1 g2 g3 g ih =>
  intro h1 h2;by_cases c:s=b
  ·subst c;exact⟨[],_,d,rfl,.Mj g1 g2 g3 g,by simp[o5],by simp,by simp[Gu]⟩
  ·obtain⟨pre,ys,d',rfl,k1,k2,k3,k4⟩:=ih (by omega) h2
   refine⟨_::pre,ys,d',rfl,k1,fun y hy=>?_,fun x hx=>?_, ?_⟩
   ·rw[Rt,ao1,List.nil_append]at hy;have:=k2 y hy;omega
   ·rcases A9.mp hx with rfl|hx
    ·simp only[];omega
    ·have:=k3 x hx;omega
   ·simp only[Gu,List.flatMap_cons,uG,Tc]at k4⊢;omega
 |@Ml s d e xs g1 g2 g3 g ih =>
  intro h1 h2;by_cases c:s=b
  ·subst c;exact⟨[],_,d,rfl,.Ml g1 g2 g3 g,by simp[o5],by simp,by simp[Gu]⟩
  ·obtain⟨pre,ys,d',rfl,k1,k2,k3,k4⟩:=ih (by omega) h2
   refine⟨_::pre,ys,d',rfl,k1,fun y hy=>?_,fun x hx=>?_, ?_⟩
   ·rw[Rt,ao3,List.singleton_append,A9]at hy;rcases hy with h|hy
    ·exact .inl h
    ·have:=k2 y hy;omega
   ·rcases A9.mp hx with rfl|hx
    ·simp only[];omega
    ·have:=k3 x hx;omega
   ·simp only[Gu,List.flatMap_cons,uG,Tc]at k4⊢;omega
 |@str s d e xs g1 g2 g3 g4 g5 g6 g ih =>
  intro h1 h2;by_cases c:s=b
  ·subst c;exact⟨[],_,d,rfl,.str g1 g2 g3 g4 g5 g6 g,by simp[o5],by simp,by simp[Gu]⟩
  ·have hs:=hb s (by omega) g5 g6
   obtain⟨pre,ys,d',rfl,k1,k2,k3,k4⟩:=ih hs h2;refine⟨_::pre,ys,d',rfl,k1,fun y hy=>?_,fun x hx=>?_, ?_⟩
   ·rw[Rt,akD hE,List.cons_append,A9,Di,ams]at hy;rcases hy with h|hy|hy
    ·exact .inr (by omega)
    ·exact .inr (by omega)
    ·have:=k2 y hy;omega
   ·rcases A9.mp hx with rfl|hx
    ·simp only[];omega
    ·have:=k3 x hx;omega
   ·simp only[Gu,List.flatMap_cons,uG,Tc]at k4⊢;omega
 |@pl s d e xs g1 g2 g3 g ih =>
  intro h1 h2;by_cases c:s=b
  ·subst c;exact⟨[],_,d,rfl,.pl g1 g2 g3 g,by simp[o5],by simp,by simp[Gu]⟩
  ·obtain⟨pre,ys,d',rfl,k1,k2,k3,k4⟩:=ih (by omega) h2
   refine⟨_::pre,ys,d',rfl,k1,fun y hy=>?_,fun x hx=>?_, ?_⟩
   ·rw[Rt,ajn,List.singleton_append,A9]at hy;rcases hy with h|hy
    ·exact .inr (by omega)
    ·have:=k2 y hy;omega
   ·rcases A9.mp hx with rfl|hx
    ·simp only[];omega
    ·have:=k3 x hx;omega
   ·simp only[Gu,List.flatMap_cons,uG,Tc]at k4⊢;omega
theorem aJV{p:Pr}(hp:p∈l.P){b:Int}(h1:p.1<=b)(h2:b<=p.2):∀ s,s<b->zu l.C s (s+l.E)=false->zu l.P s (s+l.E)=false->s+l.E<=b:=by
 intro s hs _ h;have:=YQ.mp h p hp;omega
theorem aJW{p:Pr}(hp:p∈l.C){b:Int}(h1:p.1<=b)(h2:b<=p.2):∀ s,s<b->zu l.C s (s+l.E)=false->zu l.P s (s+l.E)=false->s+l.E<=b:=by
 intro s hs h _;have:=YQ.mp h p hp;omega
theorem Ch.aBz(ok:yT l){p:Pr}(hp:p∈l.P):∀(n:Nat) {s d e:Int} {xs:List Stp},Ch l s d xs e->p.1<=s->s+n=p.2->∃ ys,o5 xs=DF s n++o5 ys/\Ch l p.2 d ys e
 |0,s,d,e,xs,h,h1,h2=>⟨xs,rfl,by rw[<-h2,show s+((0:Nat):Int)=s by omega];exact h⟩
 |n+1,s,d,e,xs,h,h1,h2=>by
  have hd:=ok.dis p hp;have hL:=Zf ok.P p hp;have hc:hasB l.C s=false:=aoZ hd h1 (by omega)
  cases h with
  |nil=>omega
  |Mj g1 g2=>rw[hc]at g2;cases g2
  |Ml g1 g2=>rw[hc]at g2;cases g2
  |str g1 g2 g3 g4 g5 g6 =>
   have:=YQ.mp g6 p hp (by have:=ok.E;omega)
   omega
  |pl g1 g2 g3 g =>
   obtain⟨ys,e1,e2⟩:=Ch.aBz ok hp n g (by omega) (by omega)
   exact⟨ys,by rw[Rt,ajn,e1,amt];rfl,e2⟩
def tu(l:qf)(xs:List Stp):List Int:=List.replicate l.D.toNat (-1)++o5 xs
theorem aJX(ok:yT l){xs:List Stp}{e:Int}(h:Ch l 0 l.D xs e){p:Pr}(hp:p∈l.P) :
  ∃ pre post,tu l xs=pre++(DF p.1 (p.2-p.1).toNat++post)/\p.1∉pre/\∀ y∈post,y=-1\/p.2<=y:=by
 have hL:=Zf ok.P p hp;obtain⟨pre,ys,d',rfl,k1,k2,_,_⟩:=h.split ok.E.1 (aJV hp (b:=p.1) (by omega) (by omega)) (by omega) (by omega)
 obtain⟨zs,e1,e2⟩:=Ch.aBz ok hp (p.2-p.1).toNat k1 (by omega) (by omega)
 refine⟨List.replicate l.D.toNat (-1)++o5 pre,o5 zs, ?_, ?_,fun y hy=>?_⟩
 ·unfold tu;rw[o5,List.flatMap_append,sZ,<-e1];rfl
 ·intro hm;rcases Di.mp hm with h|h
  ·have:=(aeO.mp h).2;omega
  ·have:=k2 _ h;omega
 ·have:=e2.mem ok.E.1 y hy;omega
def ZQ(n:Int):List Int->Int->Int
 |[],_=>-1
 |x::r,i=>if x=n then i else ZQ n r (i+1)
theorem aBA{n:Int}:∀{a b:List Int} {i:Int},n∉a->ZQ n (a++b) i=ZQ n b (i+a.length)
 |[],b,i,_=>by simp
 |x::a,b,i,h=>by
  rw[A9,not_or]at h;rw[List.cons_append,ZQ,if_neg (fun e=>h.1 e.symm),aBA h.2,List.length_cons];congr 1;omega
theorem aBB{k:Int}:∀(n:Nat) (s i:Int) (r:List Int),s<=k->k<s+n->ZQ k (DF s n++r) i=i+(k-s)
 |0,s,i,r,h1,h2=>by omega
 |n+1,s,i,r,h1,h2=>by
  rw[amt,List.cons_append,ZQ];by_cases c:s=k
  ·rw[if_pos c];omega
  ·rw[if_neg c,aBB n _ _ _ (by omega) (by omega)];omega
theorem afi(x:Stp)(xs:List Stp):Gu (x::xs)=List.replicate (x.to-x.fr).toNat x.de++Gu xs:=rfl
theorem Ch.aJY{s d e:Int}{xs:List Stp}(h:Ch l s d xs e):0<=d->d<=l.D->∀ y∈Gu xs,0<=y/\y<=l.D:=by
 induction h with
 |nil d=>simp[Gu]
 |Mj _ _ _ _ ih =>
  intro h1 h2 y hy;rw[afi,Di,aeO]at hy;rcases hy with⟨_,rfl⟩|hy
  ·exact⟨h1,h2⟩
  ·exact ih (by omega) (by omega) y hy
 |Ml _ _ _ _ ih =>
  intro h1 h2 y hy;rw[afi,Di,aeO]at hy;rcases hy with⟨_,rfl⟩|hy
  ·exact⟨h1,h2⟩
  ·exact ih (by omega) (by omega) y hy
 |str _ _ _ _ _ _ _ ih =>
  intro h1 h2 y hy;rw[afi,Di,aeO]at hy;rcases hy with⟨_,rfl⟩|hy
  ·exact⟨h1,h2⟩
  ·exact ih (by omega) (by omega) y hy
 |pl _ _ _ _ ih =>
  intro h1 h2 y hy;rw[afi,Di,aeO]at hy;rcases hy with⟨_,rfl⟩|hy
  ·exact⟨h1,h2⟩
  ·exact ih (by omega) (by omega) y hy
def ao4(l:qf)(t:Int):List Stp->Int
 |[]=>l.L
 |x::xs=>if t<=x.fr/\x.de=l.D then x.fr else ao4 l t xs
def ZR(l:qf)(t acc:Int)(x:Stp):Int:=if acc=l.L/\t<=x.fr/\x.de=l.D then x.fr else acc
theorem aBC{t:Int}:∀(xs:List Stp) {a:Int},a≠l.L->xs.foldl (ZR l t) a=a
 |[],a,_=>rfl
 |x::xs,a,h=>by
  rw[List.foldl_cons,show ZR l t a x=a from if_neg fun e=>h e.1]
  exact aBC xs h
theorem aBD{t:Int}:∀(xs:List Stp),(∀ x∈xs,x.fr≠l.L)->xs.foldl (ZR l t) l.L=ao4 l t xs
 |[],_=>rfl
 |x::xs,h=>by
  rw[List.foldl_cons,ao4];by_cases c:t<=x.fr/\x.de=l.D
  ·rw[if_pos c,show ZR l t l.L x=x.fr from if_pos ⟨rfl,c⟩]
   exact aBC xs (h x (by simp))
  ·rw[if_neg c,show ZR l t l.L x=l.L from if_neg fun e=>c e.2]
   exact aBD xs fun y hy=>h y (by simp[hy])
theorem Ch.fr(hE:1<=l.E){s d e:Int}{xs:List Stp}(h:Ch l s d xs e):∀ x∈xs,s<=x.fr/\x.fr<x.to/\x.to<=l.L:=by
 induction h with
 |nil d=>simp
 |Mj g1 _ _ g ih=>intro x hx;rcases A9.mp hx with rfl|hx;(· simp only[];omega);(· have:=ih x hx;omega)
 |Ml g1 _ _ g ih=>intro x hx;rcases A9.mp hx with rfl|hx;(· simp only[];omega);(· have:=ih x hx;omega)
 |str g1 _ _ g4 _ _ g ih=>intro x hx;rcases A9.mp hx with rfl|hx;(· simp only[];omega);(· have:=ih x hx;omega)
 |pl g1 _ _ g ih=>intro x hx;rcases A9.mp hx with rfl|hx;(· simp only[];omega);(· have:=ih x hx;omega)
theorem aBE{L:Int}{c:List Pr}(ho:Gt L (-1) c=true){a b s t:Int}(h:∀ k,a<=k->k<b->hasB c k=false)(h1:a<=s)(h2:t<=b)(h0:s<t):zu c s t=false:=by
 rw[YQ];intro x hx h3;have:=Zf ho x hx;rcases Int.lt_or_le s x.2 with h4|h4
 ·have h5:=aoY.mp (h (max s x.1) (by omega) (by omega)) x hx (by omega)
  omega
 ·exact h4
theorem Ch.de0(hE:1<=l.E){s d e:Int}{xs:List Stp}(h:Ch l s d xs e)(hs:s<l.L):(Gu xs)[0]?=some d:=by
 cases h with
 |nil=>omega
 |Mj=>rw[afi];simp only[show (s+1-s).toNat=1 by omega];rfl
 |Ml=>rw[afi];simp only[show (s+1-s).toNat=1 by omega];rfl
 |str=>rw[afi];simp only[show (s+l.E-s).toNat=(l.E.toNat-1)+1 by omega];rfl
 |pl=>rw[afi];simp only[show (s+1-s).toNat=1 by omega];rfl
theorem amv(hE:1<=l.E):∀(n:Nat) (s d:Int),l.L-s<=n->s<=l.L->0<=d->∃ xs e,Ch l s d xs e
 |0,s,d,h1,h2,h3=>by
  obtain rfl:s=l.L:=by omega
  exact⟨_,_,.nil d⟩
 |n+1,s,d,h1,h2,h3=>by
  by_cases c:s=l.L
  ·subst c;exact⟨_,_,.nil d⟩
  ·cases hc:hasB l.C s
   ·cases hs:SE l s d
    ·obtain⟨xs,e,h⟩:=amv hE n (s+1) d (by omega) (by omega) h3
     exact⟨_,_,.pl (by omega) hc hs h⟩
    ·simp only[SE,fw,decide_eq_true_eq,IK]at hs;obtain⟨a1,a2,a3,a4⟩:=hs;obtain⟨xs,e,h⟩:=amv hE n (s+l.E) (d+1) (by omega) (by omega) (by omega)
     exact⟨_,_,.str (by omega) hc a1 a2 a3 a4 h⟩
   ·by_cases hd:0<d
    ·obtain⟨xs,e,h⟩:=amv hE n (s+1) (d-1) (by omega) (by omega) (by omega)
     exact⟨_,_,.Mj (by omega) hc hd h⟩
    ·obtain⟨xs,e,h⟩:=amv hE n (s+1) d (by omega) (by omega) h3
     exact⟨_,_,.Ml (by omega) hc (by omega) h⟩
end
end Go.VI.Num
/- A delay unit: runs, and the map of a run, plainly. -/
namespace Go.VI.Num
def ajo(L:Int):Int->List Pr->List Pr
 |f,[]=>if f<L then[(f,L)] else[]
 |f,c::cs=>(if f<c.1 then[(f,c.1)] else[])++ajo L c.2 cs
theorem aBF{L a:Int}{cs:List Pr}(h:Gt L a cs=true):∀ c∈cs.head?,a<c.1:=by
 cases cs with
 |nil=>simp
 |cons c cs =>
  simp only[Gt,fw,decide_eq_true_eq]at h;intro x hx;obtain rfl:c=x:=by simpa using hx
  exact h.1
theorem aBG{L:Int}:∀(cs:List Pr) {a f:Int},Gt L a cs=true->0<=f->(∀ c∈cs.head?,f<=c.1)->∀ r∈ajo L f cs,f<=r.1/\r.1<r.2/\r.2<=L/\(r.1=f\/∃ c∈cs,c.2=r.1)/\(r.2=L\/∃ c∈cs,c.1=r.2)/\∀ c∈cs,r.2<=c.1\/c.2<=r.1
 |[],a,f,_,h0,_,r,hr=>by
  unfold ajo at hr;split at hr
  ·simp only[ach]at hr;subst hr;exact⟨Fy _,by assumption,Fy _,.inl rfl,.inl rfl,by simp⟩
  ·simp at hr
 |c::cs,a,f,h,h0,hh,r,hr=>by
  have hfc:=hh c (by simp)
  simp only[Gt,fw,decide_eq_true_eq]at h;rw[ajo,Di]at hr;rcases hr with hr|hr
  ·split at hr
   ·simp only[ach]at hr;subst hr;refine⟨Fy _,by assumption,by simp only[];omega,.inl rfl,.inr ⟨c,by simp,rfl⟩,fun x hx=>?_⟩
    rcases A9.mp hx with rfl|hx
    ·exact .inl (Fy _)
    ·have:=Zf h.2.2.2 x hx;left;simp only[];omega
   ·simp at hr
  ·obtain⟨i1,i2,i3,i4,i5,i6⟩:=aBG cs h.2.2.2 (f:=c.2) (by omega) (fun x hx=>by have:=aBF h.2.2.2 x hx;omega) r hr
   refine⟨by omega,i2,i3, ?_, ?_,fun x hx=>?_⟩
   ·rcases i4 with i4|⟨x,hx,e⟩
    ·exact .inr ⟨c,by simp,i4.symm⟩
    ·exact .inr ⟨x,by simp[hx],e⟩
   ·rcases i5 with i5|⟨x,hx,e⟩
    ·exact .inl i5
    ·exact .inr ⟨x,by simp[hx],e⟩
   ·rcases A9.mp hx with rfl|hx
    ·exact .inr i1
    ·exact i6 x hx
def QW(l:qf):List Pr:=ajo l.L 0 l.C
structure Run(l:qf)(r:Pr):Prop where
 lo:0<=r.1
 lt:r.1<r.2
 hi:r.2<=l.L
 fr:r.1=0\/∃ c∈l.C,c.2=r.1
 to:r.2=l.L\/∃ c∈l.C,c.1=r.2
 no:∀ c∈l.C,r.2<=c.1\/c.2<=r.1
theorem aJ0{l:qf}(ok:yT l){r:Pr}(h:r∈QW l):Run l r:=by
 obtain⟨i1,i2,i3,i4,i5,i6⟩:=aBG l.C ok.C (f:=0) (by omega) (fun x hx=>by have:=aBF ok.C x hx;omega) r h
 exact⟨i1,i2,i3,i4,i5,i6⟩
def JQ(r:Pr)(st:Bool×List Pr)(x:Stp):Bool×List Pr :=
 if x.fr<r.1\/r.2<=x.fr then st
 else(x.str,(st.2++if x.fr=r.1\/x.str≠st.1 then[(x.fr,x.be)] else[])++if x.to=r.2 then[(x.to,x.af)] else[])
def afj(r:Pr)(st:Bool×List Pr)(x:Stp):Bool×List Pr:=(x.str,(JQ r st x).2)
def Nw(r:Pr)(xs:List Stp):List Pr:=(xs.foldl (JQ r) (false,[])).2
def Gv(b:Int):Bool->List Stp->List Pr
 |_,[]=>[]
 |f,x::xs=>if x.fr<b then((if x.str≠f then[(x.fr,x.be)] else[])++if x.to=b then[(x.to,x.af)] else[])++Gv b x.str xs else[]
section
variable {l:qf}
theorem Ch.tail(hE:1<=l.E){s d e:Int}{x:Stp}{xs:List Stp}(h:Ch l s d (x::xs) e):x.fr=s/\x.be=s+d/\x.de=d/\s<x.to/\x.be<=x.af/\∃ d',Ch l x.to d' xs e/\x.af=x.to+d':=by
 cases h with
 |Mj g1 g2 g3 g=>exact⟨rfl,rfl,rfl,by simp only[];omega,by simp only[];omega,_,g,by simp only[];omega⟩
 |Ml g1 g2 g3 g=>exact⟨rfl,rfl,rfl,by simp only[];omega,by simp only[];omega,_,g,by simp only[];omega⟩
 |str g1 g2 g3 g4 g5 g6 g=>exact⟨rfl,rfl,rfl,by simp only[];omega,by simp only[];omega,_,g,by simp only[];omega⟩
 |pl g1 g2 g3 g=>exact⟨rfl,rfl,rfl,by simp only[];omega,by simp only[];omega,_,g,by simp only[];omega⟩
theorem ao5(hE:1<=l.E){b:Int}{f:Bool}{s d e:Int}{xs:List Stp}(h:Ch l s d xs e)(hb:b<=s):Gv b f xs=[]:=by
 cases xs with
 |nil=>rfl
 |cons x xs =>
  have:=h.tail hE;rw[Gv,if_neg (by omega)]
theorem aul{r:Pr}:∀(xs:List Stp) {f:Bool} {K:List Pr},(∀ x∈xs,x.fr<r.1\/r.2<=x.fr)->xs.foldl (JQ r) (f,K)=(f,K)
 |[],f,K,_=>rfl
 |x::xs,f,K,h=>by
  rw[List.foldl_cons,JQ,if_pos (h x (by simp))]
  exact aul xs fun y hy=>h y (by simp[hy])
theorem aum{r:Pr}:∀(xs:List Stp) {f:Bool} {K:List Pr},(∀ x∈xs,x.fr<r.1\/r.2<=x.fr)->(xs.foldl (afj r) (f,K)).2=K
 |[],f,K,_=>rfl
 |x::xs,f,K,h=>by
  rw[List.foldl_cons,afj,JQ,if_pos (h x (by simp))]
  exact aum xs fun y hy=>h y (by simp[hy])
theorem aBH(hE:1<=l.E){r:Pr}:∀(xs:List Stp) {s d e:Int} {f:Bool} {K:List Pr},Ch l s d xs e->r.1<s->(xs.foldl (JQ r) (f,K)).2=K++Gv r.2 f xs
 |[],s,d,e,f,K,_,_=>by simp[Gv]
 |x::xs,s,d,e,f,K,h,hs=>by
  obtain⟨t1,t2,t3,t4,_,d',t5,t6⟩:=h.tail hE;by_cases c:x.fr<r.2
  ·rw[List.foldl_cons,JQ,if_neg (by omega),aBH hE xs t5 (by omega),Gv,if_pos c]
   have:(x.fr=r.1\/x.str≠f)↔x.str≠f:=⟨fun h=>h.resolve_left (by omega),.inr⟩
   simp only[this,sZ]
  ·rw[aul _ fun y hy=>by have:=h.fr hE y hy;omega,Gv,if_neg c,Gs]
theorem aBI(hE:1<=l.E){r:Pr}:∀(xs:List Stp) {s d e:Int} {f:Bool} {K:List Pr},Ch l s d xs e->r.1<s->(xs.foldl (afj r) (f,K)).2=K++Gv r.2 f xs
 |[],s,d,e,f,K,_,_=>by simp[Gv]
 |x::xs,s,d,e,f,K,h,hs=>by
  obtain⟨t1,t2,t3,t4,_,d',t5,t6⟩:=h.tail hE;by_cases c:x.fr<r.2
  ·rw[List.foldl_cons,afj,JQ,if_neg (by omega),aBI hE xs t5 (by omega),Gv,if_pos c]
   have:(x.fr=r.1\/x.str≠f)↔x.str≠f:=⟨fun h=>h.resolve_left (by omega),.inr⟩
   simp only[this,sZ]
  ·rw[aum _ fun y hy=>by have:=h.fr hE y hy;omega,Gv,if_neg c,Gs]
def FH(b:Int)(xs:List Stp):List Pr:=match xs with|[]=>[]|x::xs=>(x.fr,x.be)::((if x.to=b then[(x.to,x.af)] else[])++Gv b x.str xs)
theorem aJ1(hE:1<=l.E){r:Pr}(hr:r.1<r.2){pre ys:List Stp}{d e:Int}(h:Ch l r.1 d ys e)(hp:∀ x∈pre,x.fr<r.1)(f:Bool) :
  ((pre++ys).foldl (JQ r) (f,[])).2=FH r.2 ys/\((pre++ys).foldl (afj r) (f,[])).2=FH r.2 ys:=by
 rw[List.foldl_append,List.foldl_append,aul pre fun x hx=>.inl (hp x hx)];have h2:=aum (r:=r) pre (f:=f) (K:=[]) fun x hx=>.inl (hp x hx);obtain⟨g,K⟩:∃ g,pre.foldl (afj r) (f,[])=(g,[]):=⟨_,Prod.ext rfl h2⟩;rw[K]
 cases ys with
 |nil=>exact⟨rfl,rfl⟩
 |cons x xs =>
  obtain⟨t1,t2,t3,t4,_,d',t5,t6⟩:=h.tail hE;constructor
  ·rw[List.foldl_cons,JQ,if_neg (by omega),if_pos (.inl t1),aBH hE xs t5 (by omega)]
   simp[FH]
  ·rw[List.foldl_cons,afj,JQ,if_neg (by omega),if_pos (.inl t1),aBI hE xs t5 (by omega)]
   simp[FH]
theorem aBJ(ok:yT l){r:Pr}(hr:Run l r){xs:List Stp}{e:Int}(h:Ch l 0 l.D xs e) :
  ∃ pre ys d,xs=pre++ys/\Ch l r.1 d ys e/\(∀ y∈o5 pre,y=-1\/0<=y/\y<r.1)/\(∀ x∈pre,x.fr<r.1/\x.to<=r.1)/\0<=d/\d<=l.D/\((o5 pre).length:Int)=r.1+d-l.D:=by
 have hD:=ok.D;rcases hr.fr with h0|⟨c,hc,h0⟩
 ·exact⟨[],xs,l.D,rfl,by rw[h0];exact h,by simp[o5],by simp,hD.1,Fy _,by rw[h0];simp[o5]⟩
 ·have hL:=Zf ok.C c hc;have hl:=h.amu ok.E.1;have hb:=h.aJY hD.1 (Fy _);obtain⟨pre,ys,d',rfl,k1,k2,k3,k4⟩:=h.split ok.E.1 (aJW hc (b:=r.1) (by omega) (by omega)) hr.lo (by have:=hr.lt;have:=hr.hi;omega)
  have e0:=k1.de0 ok.E.1 (by have:=hr.lt;have:=hr.hi;omega)
  have hd:=hb d' (by rw[Gu,List.flatMap_append];exact List.mem_append_right _ (ab5 e0))
  have hl2:=k1.amu ok.E.1;rw[o5,List.flatMap_append,uG]at hl;rw[o5]at hl2;exact⟨pre,ys,d',rfl,k1,k2,fun x hx=>⟨(k3 x hx).2.2,(k3 x hx).2.1⟩,hd.1,hd.2,by rw[o5];omega⟩
def Lm(b:Int):Bool->List Stp->Nat
 |_,[]=>0
 |f,x::xs=>if x.fr<b then(if x.str≠f then 1 else 0)+Lm b x.str xs else 0
def uP(l:qf)(s:Int):Nat:=l.P.countP fun p=>decide (s<p.2)
theorem cnt_mono{s t:Int}(h:s<=t)(P:List Pr):P.countP (fun p=>decide (t<p.2))<=P.countP fun p=>decide (s<p.2) :=
 List.countP_mono_left fun x _ hx=>by simp at hx⊢;omega
theorem cnt_lt{s t:Int}:∀{P:List Pr} {p:Pr},p∈P->s<p.2->p.2<=t->s<=t->P.countP (fun p=>decide (t<p.2))<P.countP fun p=>decide (s<p.2)
 |q::P,p,hp,h1,h2,h3=>by
  rw[List.countP_cons,List.countP_cons];rcases A9.mp hp with rfl|hp
  ·have:=cnt_mono h3 P;rw[if_neg (by simp;omega),if_pos (by simp;omega)]
   omega
  ·have:=cnt_lt hp h1 h2 h3;by_cases c:t<q.2
   ·rw[if_pos (by simp;omega),if_pos (by simp;omega)];omega
   ·rw[if_neg (by simp;omega)];omega
theorem Zg(hE:1<=l.E){b:Int}{f:Bool}{s d e:Int}{xs:List Stp}(h:Ch l s d xs e)(hb:b<=s):Lm b f xs=0:=by
 cases xs with
 |nil=>rfl
 |cons x xs =>
  have:=h.tail hE;rw[Lm,if_neg (by omega)]
theorem Ch.few(ok:yT l){b:Int}{s d e:Int}{xs:List Stp}(h:Ch l s d xs e):d<=l.D->(∀ k,s<=k->k<b->hasB l.C k=false) ->
  Lm b false xs<=2*uP l s+2/\Lm b true xs<=2*uP l s+1/\((d=l.D\/l.L<s+l.E\/∃ c∈l.C,c.1<s+l.E/\s<c.2)->Lm b false xs=0)/\∀ p∈l.P,p.1<s+l.E->s<p.2->Lm b false xs<=2*uP l s:=by
 have hE:=ok.E.1;have mono:=fun(s t:Int) (h:s<=t)=>show uP l t<=uP l s from cnt_mono h l.P
 induction h with
 |nil d=>intro _ _;simp[Lm]
 |@Mj s d e xs g1 g2 g3 g ih =>
  intro hd hc
  have hb:b<=s:=by
   rcases Int.lt_or_le s b with h|h
   ·have:=hc s (Fy _) h;rw[this]at g2;cases g2
   ·exact h
  rw[Zg hE (.Mj g1 g2 g3 g) hb,Zg hE (.Mj g1 g2 g3 g) hb]
  exact⟨by omega,by omega,fun _=>rfl,fun _ _ _ _=>by omega⟩
 |@Ml s d e xs g1 g2 g3 g ih =>
  intro hd hc
  have hb:b<=s:=by
   rcases Int.lt_or_le s b with h|h
   ·have:=hc s (Fy _) h;rw[this]at g2;cases g2
   ·exact h
  rw[Zg hE (.Ml g1 g2 g3 g) hb,Zg hE (.Ml g1 g2 g3 g) hb]
  exact⟨by omega,by omega,fun _=>rfl,fun _ _ _ _=>by omega⟩
 |@str s d e xs g1 g2 g3 g4 g5 g6 g ih =>
  intro hd hc;obtain⟨i1,i2,i3,i4⟩:=ih (by omega) fun k a c=>hc k (by omega) c
  have m:=mono s (s+l.E) (by omega)
  by_cases hb:s<b
  ·simp only[Lm];rw[if_pos hb,if_pos hb,if_pos (by simp),if_neg (by simp)]
   refine⟨by omega,by omega,fun h=>?_,fun p hp h1 h2=>?_⟩
   ·rcases h with h|h|⟨c,hc,h1,h2⟩
    ·omega
    ·omega
    ·have:=YQ.mp g5 c hc h1;omega
   ·have:=YQ.mp g6 p hp h1;omega
  ·rw[Zg hE (.str g1 g2 g3 g4 g5 g6 g) (by omega),Zg hE (.str g1 g2 g3 g4 g5 g6 g) (by omega)]
   exact⟨by omega,by omega,fun _=>rfl,fun _ _ _ _=>by omega⟩
 |@pl s d e xs g1 g2 g3 g ih =>
  intro hd hc;obtain⟨i1,i2,i3,i4⟩:=ih (by omega) fun k a c=>hc k (by omega) c
  have m:=mono s (s+1) (by omega)
  have p3:∀ c∈l.C,c.1<s+l.E->s<c.2->Lm b false xs=0:=fun c hc h1 h2=>i3 (.inr (.inr ⟨c,hc,by omega,by
   have:=Zf ok.C c hc;have:=aoY.mp g2 c hc;omega⟩))
  have p4:∀ p∈l.P,p.1<s+l.E->s<p.2->Lm b false xs<=2*uP l s:=fun p hp h1 h2=>by
   by_cases c:s+1<p.2
   ·have:=i4 p hp (by omega) c;omega
   ·have:uP l (s+1)<uP l s:=cnt_lt hp h2 (by omega) (by omega)
    omega
  have p5:(d=l.D\/l.L<s+l.E\/∃ c∈l.C,c.1<s+l.E/\s<c.2)->Lm b false xs=0:=fun h=>by
   rcases h with h|h|⟨c,hc,h1,h2⟩
   ·exact i3 (.inl h)
   ·exact i3 (.inr (.inl (by omega)))
   ·exact p3 c hc h1 h2
  have p6:Lm b false xs<=2*uP l s:=by
   simp only[SE,Bool.and_eq_false_iff,decide_eq_false_iff_not,Bool.not_eq_false']at g3;rcases g3 with g3|g3|g3|g3
   ·rw[p5 (.inl (by omega))];omega
   ·rw[p5 (.inr (.inl (by omega)))];omega
   ·simp only[zu,YM,fw,decide_eq_true_eq]at g3;obtain⟨c,hc,h1,h2⟩:=g3;rw[p3 c hc h1 h2];omega
   ·simp only[zu,YM,fw,decide_eq_true_eq]at g3;obtain⟨p,hp,h1,h2⟩:=g3;exact p4 p hp h1 h2
  by_cases hb:s<b
  ·simp only[Lm];rw[if_pos hb,if_pos hb,if_neg (by simp),if_pos (by simp),F6]
   exact⟨by omega,by omega,p5,p4⟩
  ·rw[Zg hE (.pl g1 g2 g3 g) (by omega),Zg hE (.pl g1 g2 g3 g) (by omega)]
   exact⟨by omega,by omega,fun _=>rfl,fun _ _ _ _=>by omega⟩
def vl(l:qf)(f:Bool)(a:Pr)(t:Int):Int:=a.1+if f then l.E*(t-a.2)/(l.E+1)else t-a.2
def Line(l:qf)(f:Bool)(a:Pr)(s y:Int):Prop:=if f then ∃ q:Nat,s=a.1+q*l.E/\y=a.2+q*(l.E+1)else y-a.2=s-a.1
def acs(l:qf)(A:List Int)(f:Bool)(a:Pr)(y:Int):Prop:=∀ t,a.2<=t->t<y->A[t.toNat]?=some (vl l f a t)
structure Seg(l:qf)(A:List Int)(a b:Pr):Prop where
 x:a.1<b.1
 y:a.2<b.2
 ln:∃ f,Line l f a b.1 b.2/\acs l A f a b.2
inductive Kn(l:qf)(A:List Int):Pr->List Pr->Prop
 |one (a:Pr):Kn l A a []
 |cons {a b:Pr} {K:List Pr}:Seg l A a b->Kn l A b K->Kn l A a (b::K)
theorem ao6(f:Bool)(a:Pr):Line l f a a.1 a.2:=by
 unfold Line;split
 ·exact⟨0,by simp,by simp⟩
 ·omega
theorem aJ2{E:Int}(hE:1<=E)(q j:Nat)(hj:(j:Int)<=E):E*(q*(E+1)+j)/(E+1)=q*E+max ((j:Int)-1) 0:=by
 have e1:E*(q*(E+1)+j)=E*j+q*E*(E+1):=by rw[Int.mul_add];rw[Int.add_comm];congr 1;ac_rfl
 rw[e1,Int.add_mul_ediv_right _ _ (by omega),Int.add_comm]
 congr 1;rcases Y3 j with h|h
 ·subst h;rw[show ((0:Nat):Int)=0 from rfl,Int.mul_zero,Int.zero_ediv];omega
 ·have e2:E*j=(E+1-j)+(j-1)*(E+1):=by
   have h1:((j:Int)-1)*(E+1)=j*E+j-E-1:=by rw[Int.sub_mul,Int.mul_add];omega
   rw[h1,Int.mul_comm E j];omega
  rw[e2,Int.add_mul_ediv_right _ _ (by omega),Int.ediv_eq_zero_of_lt (by omega) (by omega)]
  omega
theorem aBK(hE:1<=l.E){a:Pr}{s y:Int}{A B:List Int}(hA:∃ P,A=P++((s::DF s l.E.toNat)++B)/\(P.length:Int)=y)(h:Line l true a s y)(h2:acs l A true a y):Line l true a (s+l.E) (y+l.E+1)/\acs l A true a (y+l.E+1):=by
 obtain⟨q,rfl,rfl⟩:=h;refine⟨⟨q+1,by rw[Int.natCast_add,Int.add_mul];omega,by rw[Int.natCast_add,Int.add_mul];omega⟩,fun t h3 h4=>?_⟩
 rcases Int.lt_or_le t (a.2+q*(l.E+1))with h|h
 ·exact h2 t h3 h
 ·obtain⟨P,rfl,hP⟩:=hA;obtain⟨j,hj⟩:∃ j:Nat,t=a.2+q*(l.E+1)+j:=⟨(t-(a.2+q*(l.E+1))).toNat,by omega⟩
  subst hj;have e1:a.2+(q:Int)*(l.E+1)+j-a.2=q*(l.E+1)+j:=by omega
  rw[vl,if_pos rfl,e1,aJ2 hE q j (by omega),<-Int.add_assoc]
  have hi:(a.2+(q:Int)*(l.E+1)+j).toNat=P.length+j:=by omega
  rw[hi,Fx (by omega),Nat.add_sub_cancel_left,zy (by simp;omega)]
  cases j with
  |zero=>simp;omega
  |succ j =>
   rw[List.getElem?_cons_succ,Fv (by simp;omega),ao0]
   congr 1;omega
theorem aBL{a:Pr}{s y:Int}{A B:List Int}(hA:∃ P,A=P++([s]++B)/\(P.length:Int)=y)(h:Line l false a s y)(h2:acs l A false a y):Line l false a (s+1) (y+1)/\acs l A false a (y+1):=by
 simp only[Line,uM,if_false]at h;refine⟨by simp only[Line,uM,if_false];omega,fun t h3 h4=>?_⟩
 rcases Int.lt_or_le t y with h5|h5
 ·exact h2 t h3 h5
 ·obtain rfl:t=y:=by omega
  obtain⟨P,rfl,hP⟩:=hA;rw[show t.toNat=P.length by omega,Fx (by omega),Nat.sub_self,List.singleton_append,List.getElem?_cons_zero,vl]
  simp only[uM,if_false];congr 1;omega
theorem ao7(f:Bool)(a:Pr)(A:List Int):acs l A f a a.2:=fun t h1 h2=>by omega
theorem Ch.knees(ok:yT l){b:Int}(hb:∀ s,s<b->zu l.C s (s+l.E)=false->s+l.E<=l.L->s+l.E<=b){A:List Int}{s d e:Int}{xs:List Stp}(h:Ch l s d xs e):(∀ k,s<=k->k<b->hasB l.C k=false)->b<=l.L->s<b ->
  (∃ P,A=P++o5 xs/\(P.length:Int)=s+d)->∀(f:Bool) (a:Pr),a.1<s->a.2<s+d->Line l f a s (s+d)->acs l A f a (s+d) ->
  ∃ y1,Kn l A a (Gv b f xs)/\(Gv b f xs).getLast?=some (b,y1)/\(Gv b f xs).length=Lm b f xs+1/\∃ Q B,A=Q++B/\(Q.length:Int)=y1/\∀ y∈B,y=-1\/b<=y:=by
 have hE:=ok.E.1
 induction h with
 |nil d=>intro _ h1 h2;omega
 |@Mj s d e xs g1 g2 g3 g ih=>intro hc _ h;have:=hc s (Fy _) h;rw[this]at g2;cases g2
 |@Ml s d e xs g1 g2 g3 g ih=>intro hc _ h;have:=hc s (Fy _) h;rw[this]at g2;cases g2
 |@str s d e xs g1 g2 g3 g4 g5 g6 g ih =>
  intro hc hL hs hA f a h1 h2 h3 h4;have hto:=hb s hs g5 g4;obtain⟨P,hA,hP⟩:=hA;rw[Rt,akD hE]at hA;have hA2:∃ P',A=P'++o5 xs/\(P'.length:Int)=s+l.E+(d+1):=⟨P++(s::DF s l.E.toNat),by rw[hA,sZ],by simp;omega⟩
  have main:∀ a:Pr,Line l true a s (s+d)->acs l A true a (s+d)->a.1<=s->a.2<=s+d->∃ y1,Kn l A a ((if s+l.E=b then[(s+l.E,s+d+l.E+1)] else[])++Gv b true xs)/\((if s+l.E=b then[(s+l.E,s+d+l.E+1)] else[])++Gv b true xs).getLast?=some (b,y1)/\((if s+l.E=b then[(s+l.E,s+d+l.E+1)] else[])++Gv b true xs).length=Lm b true xs+1/\∃ Q B,A=Q++B/\(Q.length:Int)=y1/\∀ y∈B,y=-1\/b<=y:=by
   intro a k1 k2 k3 k4;obtain⟨m1,m2⟩:=aBK hE ⟨P,hA,hP⟩ k1 k2;by_cases c:s+l.E=b
   ·rw[if_pos c,ao5 hE g (by omega),Zg hE g (by omega)]
    obtain⟨P',e1,e2⟩:=hA2;refine⟨s+d+l.E+1,.cons ⟨by simp only[];omega,by simp only[];omega,true,m1,m2⟩ (.one _),by rw[<-c];rfl,rfl,P',o5 xs,e1,by omega,fun y hy=>?_⟩
    have:=g.mem hE y hy;omega
   ·rw[if_neg c,List.nil_append];have e1:s+d+l.E+1=s+l.E+(d+1):=by omega
    rw[e1]at m1 m2;exact ih (fun k a c=>hc k (by omega) c) hL (by omega) hA2 true a (by omega) (by omega) m1 m2
  rw[Gv,if_pos hs];simp only[Lm,if_pos hs]
  cases f with
  |true =>
   obtain⟨y1,e1,e2,e3,e4⟩:=main a h3 h4 (by omega) (by omega)
   refine⟨y1, ?_, ?_, ?_,e4⟩
   ·simpa using e1
   ·simpa using e2
   ·simpa using e3
  |false =>
   obtain⟨y1,e1,e2,e3,e4⟩:=main (s,s+d) (ao6 true (s,s+d)) (ao7 true (s,s+d) A) (by simp only[];omega) (by simp only[];omega)
   refine⟨y1, ?_, ?_, ?_,e4⟩
   ·simp only[ne_eq,Bool.true_eq_false,not_false_eq_true,if_true,List.cons_append,List.nil_append];exact .cons ⟨h1,h2,false,h3,h4⟩ e1
   ·simp only[ne_eq,Bool.true_eq_false,not_false_eq_true,if_true,List.cons_append,List.nil_append];rw[List.getLast?_cons,e2];rfl
   ·simp only[ne_eq,Bool.true_eq_false,not_false_eq_true,if_true,List.cons_append,List.nil_append]
    rw[List.length_cons,e3];omega
 |@pl s d e xs g1 g2 g3 g ih =>
  intro hc hL hs hA f a h1 h2 h3 h4;obtain⟨P,hA,hP⟩:=hA;rw[Rt,ajn]at hA;have hA2:∃ P',A=P'++o5 xs/\(P'.length:Int)=s+1+d:=⟨P++[s],by rw[hA,sZ],by simp;omega⟩
  have main:∀ a:Pr,Line l false a s (s+d)->acs l A false a (s+d)->a.1<=s->a.2<=s+d->∃ y1,Kn l A a ((if s+1=b then[(s+1,s+d+1)] else[])++Gv b false xs)/\((if s+1=b then[(s+1,s+d+1)] else[])++Gv b false xs).getLast?=some (b,y1)/\((if s+1=b then[(s+1,s+d+1)] else[])++Gv b false xs).length=Lm b false xs+1/\∃ Q B,A=Q++B/\(Q.length:Int)=y1/\∀ y∈B,y=-1\/b<=y:=by
   intro a k1 k2 k3 k4;obtain⟨m1,m2⟩:=aBL ⟨P,hA,hP⟩ k1 k2;by_cases c:s+1=b
   ·rw[if_pos c,ao5 hE g (by omega),Zg hE g (by omega)]
    obtain⟨P',e1,e2⟩:=hA2;refine⟨s+d+1,.cons ⟨by simp only[];omega,by simp only[];omega,false,m1,m2⟩ (.one _),by rw[<-c];rfl,rfl,P',o5 xs,e1,by omega,fun y hy=>?_⟩
    have:=g.mem hE y hy;omega
   ·rw[if_neg c,List.nil_append];have e1:s+d+1=s+1+d:=by omega
    rw[e1]at m1 m2;exact ih (fun k a c=>hc k (by omega) c) hL (by omega) hA2 false a (by omega) (by omega) m1 m2
  rw[Gv,if_pos hs];simp only[Lm,if_pos hs]
  cases f with
  |false =>
   obtain⟨y1,e1,e2,e3,e4⟩:=main a h3 h4 (by omega) (by omega)
   refine⟨y1, ?_, ?_, ?_,e4⟩
   ·simpa using e1
   ·simpa using e2
   ·simpa using e3
  |true =>
   obtain⟨y1,e1,e2,e3,e4⟩:=main (s,s+d) (ao6 false (s,s+d)) (ao7 false (s,s+d) A) (by simp only[];omega) (by simp only[];omega)
   refine⟨y1, ?_, ?_, ?_,e4⟩
   ·simp only[ne_eq,uM,not_false_eq_true,if_true,List.cons_append,List.nil_append];exact .cons ⟨h1,h2,true,h3,h4⟩ e1
   ·simp only[ne_eq,uM,not_false_eq_true,if_true,List.cons_append,List.nil_append];rw[List.getLast?_cons,e2];rfl
   ·simp only[ne_eq,uM,not_false_eq_true,if_true,List.cons_append,List.nil_append];rw[List.length_cons,e3];omega
theorem Ch.aJ3(ok:yT l){b:Int}(hb:∀ s,s<b->zu l.C s (s+l.E)=false->s+l.E<=l.L->s+l.E<=b){A:List Int}{s d e:Int}{x:Stp}{xs:List Stp}(h:Ch l s d (x::xs) e)(hc:∀ k,s<=k->k<b->hasB l.C k=false)(hL:b<=l.L)(hs:s<b)
  (hA:∃ P,A=P++o5 (x::xs)/\(P.length:Int)=s+d) :
  ∃ y1,Kn l A (s,s+d) ((if x.to=b then[(x.to,x.af)] else[])++Gv b x.str xs)/\((if x.to=b then[(x.to,x.af)] else[])++Gv b x.str xs).getLast?=some (b,y1)/\((if x.to=b then[(x.to,x.af)] else[])++Gv b x.str xs).length=Lm b x.str xs+1/\∃ Q B,A=Q++B/\(Q.length:Int)=y1/\∀ y∈B,y=-1\/b<=y:=by
 have hE:=ok.E.1;obtain⟨P,hA,hP⟩:=hA
 cases h with
 |Mj g1 g2=>have:=hc s (Fy _) hs;rw[this]at g2;cases g2
 |Ml g1 g2=>have:=hc s (Fy _) hs;rw[this]at g2;cases g2
 |str g1 g2 g3 g4 g5 g6 g =>
  rw[Rt,akD hE]at hA;obtain⟨m1,m2⟩:=aBK hE ⟨P,hA,hP⟩ (ao6 true (s,s+d)) (ao7 true (s,s+d) A);have hA2:∃ P',A=P'++o5 xs/\(P'.length:Int)=s+l.E+(d+1):=⟨P++(s::DF s l.E.toNat),by rw[hA,sZ],by simp;omega⟩
  have hto:=hb s hs g5 g4;simp only at m1 m2⊢;by_cases c:s+l.E=b
  ·rw[if_pos c,ao5 hE g (by omega),Zg hE g (by omega)]
   obtain⟨P',e1,e2⟩:=hA2;refine⟨s+d+l.E+1,.cons ⟨by simp only[];omega,by simp only[];omega,true,m1,m2⟩ (.one _),by rw[<-c];rfl,rfl,P',o5 xs,e1,by omega,fun y hy=>?_⟩
   exact(g.mem hE y hy).imp id fun h=>by omega
  ·rw[if_neg c,List.nil_append];have e1:s+d+l.E+1=s+l.E+(d+1):=by omega
   rw[e1]at m1 m2
   exact g.knees ok hb (fun k a c=>hc k (by omega) c) hL (by omega) hA2 true (s,s+d) (by simp only[];omega) (by simp only[];omega) m1 m2
 |pl g1 g2 g3 g =>
  rw[Rt,ajn]at hA;obtain⟨m1,m2⟩:=aBL ⟨P,hA,hP⟩ (ao6 false (s,s+d)) (ao7 false (s,s+d) A);have hA2:∃ P',A=P'++o5 xs/\(P'.length:Int)=s+1+d:=⟨P++[s],by rw[hA,sZ],by simp;omega⟩
  simp only at m1 m2⊢;by_cases c:s+1=b
  ·rw[if_pos c,ao5 hE g (by omega),Zg hE g (by omega)]
   obtain⟨P',e1,e2⟩:=hA2;refine⟨s+d+1,.cons ⟨by simp only[];omega,by simp only[];omega,false,m1,m2⟩ (.one _),by rw[<-c];rfl,rfl,P',o5 xs,e1,by omega,fun y hy=>?_⟩
   exact(g.mem hE y hy).imp id fun h=>by omega
  ·rw[if_neg c,List.nil_append];have e1:s+d+1=s+1+d:=by omega
   rw[e1]at m1 m2;exact g.knees ok hb (fun k a c=>hc k (by omega) c) hL (by omega) hA2 false (s,s+d) (by simp only[];omega) (by simp only[];omega) m1 m2
structure aun(l:qf)(r:Pr)(xs:List Stp)(a:Pr)(K:List Pr)(y1:Int):Prop where
 eq:Nw r xs=a::K
 ref:∀ f,(xs.foldl (afj r) (f,[])).2=a::K
 kn:Kn l (tu l xs) a K
 x0:a.1=r.1
 y0:0<=a.2
 last:K.getLast?=some (r.2,y1)
 len:1<=K.length/\K.length<=11
 pre:∀(t:Nat) v,(t:Int)<a.2->(tu l xs)[t]?=some v->v<r.1
 post:∀(t:Nat) v,y1<=t->(tu l xs)[t]?=some v->v=-1\/r.2<=v
 top:y1<=(tu l xs).length
theorem map_ok(ok:yT l){r:Pr}(hr:Run l r){xs:List Stp}{e:Int}(h:Ch l 0 l.D xs e):∃ a K y1,aun l r xs a K y1:=by
 obtain⟨pre,ys,d,rfl,k1,k2,k3,k4,k5,k6⟩:=aBJ ok hr h;have hlo:=hr.lo;have hlt:=hr.lt;have hhi:=hr.hi;have hD:=ok.D
 have hb:∀ s,s<r.2->zu l.C s (s+l.E)=false->s+l.E<=l.L->s+l.E<=r.2:=by
  rcases hr.to with h0|⟨c,hc,h0⟩
  ·intro s hs _ h2;omega
  ·intro s hs h1 _;have hL:=Zf ok.C c hc;have:=YQ.mp h1 c hc;omega
 have hno:∀ k,r.1<=k->k<r.2->hasB l.C k=false:=fun k h1 h2=>by
  rw[aoY];intro c hc h3;have:=hr.no c hc;have hL:=Zf ok.C c hc;omega
 have hm:=aJ1 ok.E.1 hlt k1 (fun x hx=>(k3 x hx).1)
 cases ys with
 |nil =>
  generalize hz:r.1=z at k1;cases k1
  omega
 |cons x ys =>
  have hA:∃ P,tu l (pre++x::ys)=P++o5 (x::ys)/\(P.length:Int)=r.1+d:=⟨List.replicate l.D.toNat (-1)++o5 pre,by unfold tu;rw[o5,List.flatMap_append,sZ];rfl,by rw[uG,Tc];omega⟩
  obtain⟨y1,n1,n2,n3,Q,B,n4,n5,n6⟩:=k1.aJ3 ok hb (A:=tu l (pre++x::ys)) hno hhi hlt hA;obtain⟨t1,t2,t3,t4,t5,d2,t6,t7⟩:=k1.tail ok.E.1
  have hall:FH r.2 (x::ys)=(r.1,r.1+d)::((if x.to=r.2 then[(x.to,x.af)] else[])++Gv r.2 x.str ys):=by
   show (x.fr,x.be)::_=_
   rw[t1,t2]
  have hu:uP l x.to<=4:=by
   unfold uP;exact Np List.countP_le_length ok.p4
  have hdd:=t6.dl
  have aSN:Lm r.2 x.str ys<=10:=by
   have hd2:d2<=l.D:=by
    generalize hz:r.1=z at k1 hno
    cases k1 with
    |Mj g1 g2=>have:=hno z (Fy _) (by omega);rw[this]at g2;cases g2
    |Ml g1 g2=>have:=hno z (Fy _) (by omega);rw[this]at g2;cases g2
    |str g1 g2 g3=>simp only at t7;omega
    |pl g1 g2 g3=>simp only at t7;omega
   obtain⟨f1,f2,_,_⟩:=t6.few ok (b:=r.2) hd2 (fun k h1 h2=>hno k (by omega) h2)
   cases x.str<;>omega
  refine⟨(r.1,r.1+d),_,y1, ?_, ?_,n1,rfl,by simp only[];omega,n2,by rw[n3];omega, ?_, ?_, ?_⟩
  ·unfold Nw;rw[(hm false).1,hall]
  ·intro f;rw[(hm f).2,hall]
  ·intro t v ht hv;obtain⟨P,hP,hP2⟩:=hA
   have hv2:v∈List.replicate l.D.toNat (-1)++o5 pre:=by
    have:tu l (pre++x::ys)=(List.replicate l.D.toNat (-1)++o5 pre)++o5 (x::ys):=by unfold tu;rw[o5,List.flatMap_append,sZ];rfl
    rw[this,zy (by rw[uG,Tc];simp only at ht;omega)]at hv
    exact ab5 hv
   rcases Di.mp hv2 with h|h
   ·have:=(aeO.mp h).2;omega
   ·have:=k2 v h;omega
  ·intro t v ht hv;rw[n4,Fx (by omega)]at hv
   exact n6 v (ab5 hv)
  ·rw[n4,uG];omega
end
end Go.VI.Num
/- The map of a run as a map of fractions, plainly. -/
namespace Go.VI.Num
def okZ(z:Int):Prop:=-100000<=z/\z<=100000
theorem ajp{z:Int}(h:z.natAbs<10^30):Rs z=true:=decide_eq_true (Zv h (acr (by decide) (by decide)))
theorem ajq:10^30=1000000000000000000000000000000:=by decide
theorem aJ4{z:Int}(h:okZ z):z.natAbs<=100000:=by unfold okZ at h;omega
theorem amw(z:Int):(z:Rat).num=z:=Rat.num_intCast z
theorem ao9(z:Int):((z:Rat).den:Int)=1:=by rw[Rat.den_intCast];rfl
theorem aBM{z:Int}(h:okZ z):JD (z:Rat):=by
 refine⟨?_, ?_⟩
 ·rw[amw];exact of_decide_eq_true (ajp (by have:=aJ4 h;rw[ajq];omega))
 ·rw[Rat.den_intCast];exact Nat.one_lt_pow (by decide) (by decide)
theorem aBN{a b:Int}(ha:okZ a)(hb:okZ b):Ze (a:Rat) (b:Rat)=some ((a-b:Int):Rat):=by
 unfold Ze;rw[amw,amw,ao9,ao9];unfold okZ at ha hb;rw[ajp (by rw[ajq];omega),ajp (by rw[ajq];omega),ajp (by rw[ajq];omega),ajp (by rw[ajq];omega)]
 simp only[Bool.and_self,if_true,Rat.intCast_sub]
theorem aJ5{a b:Int}(ha:okZ a)(hb:okZ b)(h0:b≠0):ajl (a:Rat) (b:Rat)=some ((a:Rat)/(b:Rat)):=by
 unfold ajl;rw[amw,amw,ao9,ao9];unfold okZ at ha hb;have hb0:(b:Rat)≠0:=fun e=>h0 (Rat.intCast_eq_zero_iff.mp e);rw[ajp (by rw[ajq];omega),ajp (by rw[ajq];omega),decide_eq_true hb0]
 rfl
end Go.VI.Num
/- Timelines: spans, their owners, plainly. -/
namespace Go.VI.Num
abbrev Sn:=Int×Int×Int
def vL:Int->Int->List Sn->Bool
 |_,_,[]=>true
 |a,w,s::r=>decide (s.1=a)&&(decide (a<s.2.1)&&(decide (s.2.1<=10000000)&&((decide (0<=s.2.2)&&decide (s.2.2<=2999))&&(!decide (s.2.2=w)&&vL s.2.1 s.2.2 r))))
def xX(l:List Sn):Bool:=vL 0 (-1) l&&decide ((l.length:Int)<=200)
def u6(l:List Sn):Int:=match l.getLast? with|some s=>s.2.1|none=>0
def afO(l:List Sn):Int:=if xX l then u6 l else -1
def FD(t:Int)(s:Sn):Bool:=decide (s.1<=t)&&decide (t<s.2.1)
def Zh(l:List Sn)(t:Int):Option Sn:=if xX l then l.find? (FD t)else none
def SF(l:List Sn)(t:Int):Int:=match l.find? (FD t)with|some s=>s.2.2|none=>0
theorem amx:∀{l:List Sn} {a w:Int},vL a w l=true->∀ s∈l,a<=s.1/\s.1<s.2.1/\s.2.1<=10000000/\0<=s.2.2/\s.2.2<=2999
 |[],_,_,_=>by simp
 |x::l,a,w,h=>by
  simp only[vL,fw,decide_eq_true_eq]at h;obtain⟨h1,h2,h3,⟨h4,h5⟩,h6,h7⟩:=h;intro s hs;rcases A9.mp hs with rfl|hs
  ·omega
  ·have:=amx h7 s hs;omega
def IV:Int->List Sn->Int
 |a,[]=>a
 |_,s::r=>IV s.2.1 r
theorem aBO:∀(l:List Sn) (a:Int),IV a l=match l.getLast? with|some s=>s.2.1|none=>a
 |[],a=>rfl
 |[s],a=>rfl
 |s::t::r,a=>by
  rw[IV,aBO (t::r) s.2.1,List.getLast?_cons_cons]
  cases h:(t::r).getLast? with
  |some u=>rfl
  |none=>simp at h
theorem ajr(l:List Sn):u6 l=IV 0 l:=by rw[aBO];rfl
theorem auo:∀{l:List Sn} {a w t:Int},vL a w l=true->a<=t->t<IV a l->∃ s∈l,l.find? (FD t)=some s
 |[],a,w,t,_,h1,h2=>by simp only[IV]at h2;omega
 |x::l,a,w,t,h,h1,h2=>by
  simp only[vL,fw,decide_eq_true_eq]at h;obtain⟨h3,h4,h5,h6,h7,h8⟩:=h;rw[IV]at h2;by_cases c:t<x.2.1
  ·refine⟨x,by simp, ?_⟩
   rw[List.find?_cons,show FD t x=true by simp[FD];omega]
  ·obtain⟨s,hs,e⟩:=auo h8 (by omega) h2
   refine⟨s,by simp[hs], ?_⟩
   rw[List.find?_cons,show FD t x=false by simp[FD];omega]
   exact e
def grow(out:List Sn)(t o:Int):List Sn :=
 match out.getLast? with
 |some s=>if s.2.2=o then out.dropLast++[(s.1,t+1,s.2.2)]else out++[(t,t+1,o)]
 |none=>out++[(t,t+1,o)]
def SG:List Sn->Int->List Int->List Sn
 |out,_,[]=>out
 |out,t,o::r=>SG (grow out t o) (t+1) r
def Ru(a t o:Int):List Int->List Sn
 |[]=>[(a,t,o)]
 |p::r=>if p=o then Ru a (t+1) o r else(a,t,o)::Ru t (t+1) p r
def rle(l:List Int):List Sn:=match l with|[]=>[]|o::r=>Ru 0 1 o r
theorem aup:∀(r:List Int) (pre:List Sn) (a t o:Int),SG (pre++[(a,t,o)]) t r=pre++Ru a t o r
 |[],pre,a,t,o=>rfl
 |p::r,pre,a,t,o=>by
  rw[SG,Ru]
  have hg:grow (pre++[(a,t,o)]) t p=if o=p then pre++[(a,t+1,o)]else pre++[(a,t,o)]++[(t,t+1,p)]:=by
   unfold grow;rw[List.getLast?_append];simp
  rw[hg];by_cases c:p=o
  ·subst c;rw[if_pos rfl,if_pos rfl,aup r]
  ·rw[if_neg (fun h=>c h.symm),if_neg c,aup r,sZ];rfl
theorem aJ6(l:List Int):SG [] 0 l=rle l:=by
 cases l with
 |nil=>rfl
 |cons o r =>
  rw[SG];have:grow [] 0 o=[]++[(0,1,o)]:=by simp[grow]
  rw[this];exact aup r [] 0 1 o
theorem auq:∀(r:List Int) (a t o:Int),(Ru a t o r).length<=r.length+1
 |[],_,_,_=>by simp[Ru]
 |p::r,a,t,o=>by
  rw[Ru];split
  ·have:=auq r a (t+1) o;simp;omega
  ·have:=auq r t (t+1) p;simp;omega
theorem aur:∀(r:List Int) (a t o w:Int),a<t->t+r.length<=10000000->(0<=o/\o<=2999)->(∀ p∈r,0<=p/\p<=2999)->o≠w->vL a w (Ru a t o r)=true
 |[],a,t,o,w,h1,h2,h3,h4,h5=>by
  simp only[Ru,vL,fw,decide_eq_true_eq,IK,decide_eq_false_iff_not];simp at h2
  exact⟨trivial,h1,by omega,h3,h5,trivial⟩
 |p::r,a,t,o,w,h1,h2,h3,h4,h5=>by
  rw[List.length_cons]at h2;rw[Ru];split
  ·exact aur r a (t+1) o w (by omega) (by omega) h3 (fun q hq=>h4 q (by simp[hq])) h5
  ·rename_i c;have:=aur r t (t+1) p o (by omega) (by omega) (h4 p (by simp)) (fun q hq=>h4 q (by simp[hq])) c
   simp only[vL,fw,decide_eq_true_eq,IK,decide_eq_false_iff_not];exact⟨trivial,h1,by omega,h3,h5,this⟩
theorem aus:∀(r:List Int) (a t o b:Int),IV b (Ru a t o r)=t+r.length
 |[],a,t,o,b=>by simp[Ru,IV]
 |p::r,a,t,o,b=>by
  rw[Ru];split
  ·rw[aus r];simp;omega
  ·rw[IV,aus r];simp;omega
theorem aJ7{l:List Int}(h1:l.length<=200)(h2:∀ p∈l,0<=p/\p<=2999):xX (rle l)=true:=by
 unfold xX
 cases l with
 |nil=>rfl
 |cons o r =>
  simp only[List.length_cons]at h1;rw[rle,aur r 0 1 o (-1) (by omega) (by omega) (h2 o (by simp)) (fun q hq=>h2 q (by simp[hq])) (by have:=h2 o (by simp);omega)]
  have:=auq r 0 1 o;simp;omega
theorem aJ8(l:List Int):u6 (rle l)=l.length:=by
 rw[ajr]
 cases l with
 |nil=>rfl
 |cons o r=>rw[rle,aus];simp;omega
theorem aut:∀(r:List Int) (a t o k:Int),a<t->a<=k->k<t+r.length->∃ s,(Ru a t o r).find? (FD k)=some s/\s.2.2=if k<t then o else r.getD (k-t).toNat 0
 |[],a,t,o,k,h0,h1,h2=>by
  simp at h2;refine⟨(a,t,o), ?_,by rw[if_pos h2]⟩
  rw[Ru,List.find?_cons,show FD k (a,t,o)=true by simp[FD];omega]
 |p::r,a,t,o,k,h0,h1,h2=>by
  rw[List.length_cons]at h2;rw[Ru];by_cases c:p=o
  ·subst c;rw[if_pos rfl];obtain⟨s,e1,e2⟩:=aut r a (t+1) p k (by omega) h1 (by omega)
   refine⟨s,e1, ?_⟩;rw[e2];by_cases c1:k<t
   ·rw[if_pos (by omega),if_pos c1]
   ·rw[if_neg c1];by_cases c2:k=t
    ·subst c2;rw[if_pos (by omega),Int.sub_self];rfl
    ·rw[if_neg (by omega),show (k-t).toNat=(k-(t+1)).toNat+1 by omega];rfl
  ·rw[if_neg c];by_cases c1:k<t
   ·refine⟨(a,t,o), ?_,by rw[if_pos c1]⟩
    rw[List.find?_cons,show FD k (a,t,o)=true by simp[FD];omega]
   ·obtain⟨s,e1,e2⟩:=aut r t (t+1) p k (by omega) (by omega) (by omega)
    refine⟨s, ?_, ?_⟩
    ·rw[List.find?_cons,show FD k (a,t,o)=false by simp[FD];omega];exact e1
    ·rw[e2,if_neg c1];by_cases c2:k=t
     ·subst c2;rw[if_pos (by omega),Int.sub_self];rfl
     ·rw[if_neg (by omega),show (k-t).toNat=(k-(t+1)).toNat+1 by omega];rfl
theorem aJ9{l:List Int}{k:Nat}(hk:k<l.length):∃ s,(rle l).find? (FD k)=some s/\s.2.2=l[k]:=by
 cases l with
 |nil=>simp at hk
 |cons o r =>
  simp only[List.length_cons]at hk;obtain⟨s,e1,e2⟩:=aut r 0 1 o k (by omega) (by omega) (by omega)
  refine⟨s,e1, ?_⟩;rw[e2]
  cases k with
  |zero=>rfl
  |succ k =>
   rw[if_neg (by omega),show (((k+1:Nat):Int)-1).toNat=k by omega]
   simp[List.getD,show k<r.length by omega]
def abK(a b:Int)(s:Sn):Sn:=(max s.1 a,min s.2.1 b,s.2.2)
def clip(a b:Int)(l:List Sn):List Sn:=(l.map (abK a b)).filter fun s=>decide (s.1<s.2.1)
def SH(l:List Sn):List Int:=l.flatMap fun s=>List.replicate (s.2.1-s.1).toNat s.2.2
def Alt:List Sn->Prop
 |[]=>True
 |[_]=>True
 |s::t::r=>s.2.2≠t.2.2/\Alt (t::r)
theorem amy(a b:Int)(s:Sn)(l:List Sn):clip a b (s::l)=if max s.1 a<min s.2.1 b then abK a b s::clip a b l else clip a b l:=by
 unfold clip;rw[List.map_cons,List.filter_cons];by_cases c:max s.1 a<min s.2.1 b
 ·rw[if_pos (show decide ((abK a b s).1<(abK a b s).2.1)=true from decide_eq_true c),if_pos c]
 ·rw[if_neg (by rw[show decide ((abK a b s).1<(abK a b s).2.1)=false from decide_eq_false c];simp),if_neg c]
theorem apa{a b:Int}:∀{l:List Sn} {x w:Int},vL x w l=true->b<=x->clip a b l=[]
 |[],_,_,_,_=>rfl
 |s::l,x,w,h,hb=>by
  simp only[vL,fw,decide_eq_true_eq]at h;rw[amy,if_neg (by omega)]
  exact apa h.2.2.2.2.2 (by omega)
theorem auu{a b:Int}:∀{l:List Sn} {x w:Int},vL x w l=true->clip a b l=clip (max a x) b l
 |[],_,_,_=>rfl
 |s::l,x,w,h=>by
  simp only[vL,fw,decide_eq_true_eq]at h;obtain⟨h1,h2,h3,h4,h5,h6⟩:=h;rw[amy,amy,auu h6,auu (a:=max a x) h6];have e1:max s.1 (max a x)=max s.1 a:=by omega
  have e2:max (max a x) s.2.1=max a s.2.1:=by omega
  simp only[abK,e1,e2]
theorem apb{a b:Int}:∀{l:List Sn} {x w:Int},vL x w l=true->Alt (clip a b l)/\(a<=x->∀ s∈(clip a b l).head?,s.2.2≠w)
 |[],_,_,_=>⟨trivial,by simp[clip]⟩
 |s::l,x,w,h=>by
  simp only[vL,fw,decide_eq_true_eq,IK,decide_eq_false_iff_not]at h;obtain⟨h1,h2,h3,h4,h5,h6⟩:=h;obtain⟨i1,i2⟩:=apb (a:=a) (b:=b) h6;rw[amy];by_cases c:max s.1 a<min s.2.1 b
  ·rw[if_pos c];refine⟨?_,fun _ t ht=>?_⟩
   ·have i3:=i2 (by omega)
    generalize clip a b l=L at*
    cases L with
    |nil=>trivial
    |cons t r=>exact⟨fun e=>i3 t (by simp) e.symm,i1⟩
   ·obtain rfl:abK a b s=t:=by simpa using ht
    exact h5
  ·rw[if_neg c];refine⟨i1,fun ha t ht=>?_⟩;by_cases hb:b<=s.2.1
   ·rw[apa h6 hb]at ht;cases ht
   ·omega
theorem aBP{s:Sn}{l:List Sn}{k:Int}:SF (s::l) k=if FD k s then s.2.2 else SF l k:=by
 unfold SF;rw[List.find?_cons];cases FD k s<;>rfl
theorem apc{a b:Int}:∀{l:List Sn} {x w:Int},vL x w l=true->x<=a->a<=b->b<=IV x l->SH (clip a b l)=(DF a (b-a).toNat).map (SF l)
 |[],x,w,_,h1,h2,h3=>by
  simp only[IV]at h3
  rw[show (b-a).toNat=0 by omega];rfl
 |s::l,x,w,h,h1,h2,h3=>by
  simp only[vL,fw,decide_eq_true_eq]at h;obtain⟨g1,g2,g3,g4,g5,g6⟩:=h;rw[IV]at h3;rw[amy]
  have hin:∀ k,s.1<=k->k<s.2.1->SF (s::l) k=s.2.2:=fun k k1 k2=>by
   rw[aBP,if_pos (by simp[FD];omega)]
  have hout:∀ k,s.2.1<=k->SF (s::l) k=SF l k:=fun k k1=>by
   rw[aBP,if_neg (by simp[FD];omega)]
  have hrep:∀(u:Int) (n:Nat),s.1<=u->u+n<=s.2.1->(DF u n).map (SF (s::l))=List.replicate n s.2.2:=fun u n k1 k2=>by
   rw[List.eq_replicate_iff];refine⟨by simp,fun y hy=>?_⟩
   obtain⟨k,hk,rfl⟩:=List.mem_map.mp hy;rw[ams]at hk;exact hin k (by omega) (by omega)
  by_cases c:max s.1 a<min s.2.1 b
  ·rw[if_pos c];unfold SH;rw[List.flatMap_cons];simp only[abK];rw[show max s.1 a=a by omega]
   by_cases hb:b<=s.2.1
   ·rw[apa g6 hb,List.flatMap_nil,Gs,show min s.2.1 b=b by omega,hrep a _ (by omega) (by omega)]
   ·rw[show min s.2.1 b=s.2.1 by omega,auu g6,show max a s.2.1=s.2.1 by omega]
    have ih:=apc (a:=s.2.1) (b:=b) g6 (Fy _) (by omega) h3
    unfold SH at ih;rw[ih,<-hrep a _ (by omega) (by omega),show (b-a).toNat=(s.2.1-a).toNat+(b-s.2.1).toNat by omega,aJU,List.map_append,show a+((s.2.1-a).toNat:Int)=s.2.1 by omega]
    congr 1;apply List.map_congr_left;intro k hk;rw[ams]at hk;exact(hout k (by omega)).symm
  ·rw[if_neg c];by_cases hb:b<=a
   ·have:b=a:=by omega
    subst this;rw[Int.sub_self];by_cases hx:s.2.1<=b
    ·rw[apc g6 hx (Fy _) h3,Int.sub_self];rfl
    ·rw[apa g6 (by omega)];rfl
   ·have hsa:s.2.1<=a:=by omega
    rw[apc g6 hsa h2 h3];apply List.map_congr_left;intro k hk;rw[ams]at hk;exact(hout k (by omega)).symm
def Tz(s:Sn):Int×Int:=(s.2.1-s.1,s.2.2)
theorem aBQ:∀{x y:List Sn},Alt x->Alt y->(∀ s∈x,s.1<s.2.1)->(∀ s∈y,s.1<s.2.1)->SH x=SH y->x.map Tz=y.map Tz
 |[],[],_,_,_,_,_=>rfl
 |[],s::y,_,_,_,h2,h=>by
  have:=h2 s (by simp)
  have:=congrArg List.length h;simp[SH]at this
  omega
 |s::x,[],_,_,h1,_,h=>by
  have:=h1 s (by simp)
  have:=congrArg List.length h;simp[SH]at this
  omega
 |s::x,t::y,a1,a2,h1,h2,h=>by
  have hs:=h1 s (by simp)
  have ht:=h2 t (by simp)
  have tl1:Alt x/\∀ u∈x.head?,u.2.2≠s.2.2:=by
   cases x with
   |nil=>exact⟨trivial,by simp⟩
   |cons u r=>exact⟨a1.2,fun v hv=>by simp at hv;subst hv;exact fun e=>a1.1 e.symm⟩
  have tl2:Alt y/\∀ u∈y.head?,u.2.2≠t.2.2:=by
   cases y with
   |nil=>exact⟨trivial,by simp⟩
   |cons u r=>exact⟨a2.2,fun v hv=>by simp at hv;subst hv;exact fun e=>a2.1 e.symm⟩
  have hh:∀(z:List Sn),(∀ u∈z,u.1<u.2.1)->(SH z).head?=z.head?.map (·.2.2):=fun z hz=>by
   cases z with
   |nil=>rfl
   |cons u r =>
    have:=hz u (by simp)
    simp only[SH,List.flatMap_cons,List.head?_cons,Option.map_some];rw[show (u.2.1-u.1).toNat=(u.2.1-u.1).toNat-1+1 by omega,List.replicate_succ];rfl
  have h1':∀ u∈x,u.1<u.2.1:=fun u hu=>h1 u (by simp[hu])
  have h2':∀ u∈y,u.1<u.2.1:=fun u hu=>h2 u (by simp[hu])
  have e0:s.2.2=t.2.2:=by
   have:=congrArg List.head? h;rw[hh _ h1,hh _ h2]at this;simpa using this
  have hc:SH (s::x)=List.replicate (s.2.1-s.1).toNat s.2.2++SH x:=rfl;have hd:SH (t::y)=List.replicate (t.2.1-t.1).toNat t.2.2++SH y:=rfl
  have key:(s.2.1-s.1).toNat=(t.2.1-t.1).toNat:=by
   rw[hc,hd]at h;rcases Nat.lt_trichotomy (s.2.1-s.1).toNat (t.2.1-t.1).toNat with hlt|heq|hgt
   ·exfalso;obtain⟨m,hm⟩:∃ m,(t.2.1-t.1).toNat=(s.2.1-s.1).toNat+(m+1):=⟨(t.2.1-t.1).toNat-(s.2.1-s.1).toNat-1,by omega⟩
    rw[hm,<-List.replicate_append_replicate,sZ,e0]at h;have h3:=List.append_cancel_left h;have h4:=congrArg List.head? h3;rw[hh _ h1',List.replicate_succ]at h4
    cases x with
    |nil=>simp at h4
    |cons u r=>simp at h4;exact tl1.2 u (by simp) (by rw[h4,e0])
   ·exact heq
   ·exfalso;obtain⟨m,hm⟩:∃ m,(s.2.1-s.1).toNat=(t.2.1-t.1).toNat+(m+1):=⟨(s.2.1-s.1).toNat-(t.2.1-t.1).toNat-1,by omega⟩
    rw[hm,<-List.replicate_append_replicate,sZ,e0]at h;have h3:=List.append_cancel_left h;have h4:=congrArg List.head? h3;rw[hh _ h2',List.replicate_succ]at h4
    cases y with
    |nil=>simp at h4
    |cons u r=>simp at h4;exact tl2.2 u (by simp) (by rw[<-h4])
  rw[hc,hd,key,e0]at h;rw[List.map_cons,List.map_cons,aBQ tl1.1 tl2.1 h1' h2' (List.append_cancel_left h)];congr 1;unfold Tz;rw[e0];congr 1;omega
end Go.VI.Num
/- Numbers as digits, the lowest one first. -/
namespace Go.VI.Num
def aBS:Nat->Nat->List Int
 |0,_=>[]
 |f+1,n=>if n=0 then[] else((n%10:Nat):Int)::aBS f (n/10)
def d10(n:Nat):List Int:=aBS n n
end Go.VI.Num
/- Digits: comparing, adding, subtracting. -/
namespace Go.VI.Num
end Go.VI.Num
/- Digits: multiplying row by row, dividing. -/
namespace Go.VI.Num
theorem apd{pre:List Int}{o0 x:Int}{o:List Int}{n:Nat}(h:pre.length=n):(pre++o0::o).set n x=pre++x::o:=by
 subst h;rw[List.set_append_right _ _ (iJ _),Nat.sub_self];rfl
end Go.VI.Num
