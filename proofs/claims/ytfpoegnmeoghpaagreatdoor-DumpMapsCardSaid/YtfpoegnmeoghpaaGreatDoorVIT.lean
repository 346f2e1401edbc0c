/- Calls and rounds: the evaluator's answers are the machine's. -/
import Derived.Test.YtfpoegnmeoghpaaGreatDoorVIS
set_option linter.unusedVariables false
set_option linter.unusedSimpArgs false
namespace Go.VI
set_option linter.unusedSectionVars false
variable [dH][Rounds]
section
variable {P:Program}{aZ:Nat->Bool}{iq:Nat->Option l6}{call:Callee}
theorem yH{α:Type}{l:List α}{n k:Nat}(h:k<n):(l.take n)[k]?=l[k]?:=by rw[nH,if_pos h]
theorem xE{α:Type}{l:List α}{n k:Nat}{x:α}(h:(l.take n)[k]?=some x):k<n/\l[k]?=some x:=by
 rw[nH]at h;split at h
 ·exact⟨by assumption,h⟩
 ·cases h
theorem ahM{w:World}{m1:Map}{h1 h2:Heap}{X X':Nat->Prop}{base:Nat}(hb:base<=h1.length)(hl:Let base w X m1 h1 X' h2)(hlow:qE base h1){B:List Nat}(hX:∀ b,(Live (m1.take base) (h1.take base) b\/b∈B)->X' b) :
  xk w (fun b=>Live (m1.take base) (h1.take base) b\/b∈B) (m1.take base) (h1.take base):=by
 have hlen:m1.length=h1.length:=hl.zK.inv.len.trans hl.len;have hsame:∀ id,id<base->h2[id]?=(h1.take base)[id]?/\m1[id]?=(m1.take base)[id]?:=fun id hid=>⟨by rw[yH hid];exact hl.low id hid,(yH hid).symm⟩
 have blk:∀(id ai:Nat) (blk:au),(h1.take base)[id]?=some (ai,blk)->blk.mem=true->∃ b,∃ c:Array Value,∃ ty,(m1.take base)[id]?=some b/\w.heap[b]?=some (Obj.cells c ty (0,0))/\sU w (fun b=>Live (m1.take base) (h1.take base) b\/b∈B) (m1.take base) (h1.take base) c.toList blk:=by
  intro id ai blk hk hm;obtain⟨hid,hk1⟩:=xE hk;have hk2:=(hl.low id hid).trans hk1;obtain⟨b,c,ty,e1,e2,e3⟩:=hl.zK.blk id ai blk hk2 hm;refine⟨b,c,ty,by rw[yH hid];exact e1,e2, ?_⟩
  cases blk with
  |dead=>trivial
  |ax d st=>trivial
  |arr z es=>exact⟨e3.1,e3.2.keep (Keep.weaken hX)⟩
  |box cs=>exact⟨e3.1,RL.step (fun id v blk h=>⟨v,blk,h,bC _,fun _=>rZ.refl _ _ _ _⟩) (Keep.weaken hX) _ _ (Oo hsame cs _ ((hlow id ai).1 cs hid hk1) e3.2)⟩
 have ax:∀(id ai:Nat) (d:dO) (st:RS),(h1.take base)[id]?=some (ai,.ax d st)->∃ b o,(m1.take base)[id]?=some b/\w.heap[b]?=some o/\pU w (fun b=>Live (m1.take base) (h1.take base) b\/b∈B) (m1.take base) (h1.take base) o d st:=by
  intro id ai d st hk;obtain⟨hid,hk1⟩:=xE hk;obtain⟨b,o,e1,e2,h0⟩:=hl.zK.ax id ai d st ((hl.low id hid).trans hk1);obtain⟨q1,q2⟩:=((hlow id ai).2 d st hk1).1 hid;refine⟨b,o,by rw[yH hid];exact e1,e2, ?_⟩
  rcases h0.cases with⟨sd,rfl,h1',h2',h3'⟩|⟨_,r,rfl,h2',h3',h4',h5',h6'⟩
  ·rw[h2']at q2;refine⟨by rw[qi];omega,h2', ?_⟩
   refine Ez.ids (fun id v blk h=>⟨v,blk,h,bC _,fun _=>rZ.refl _ _ _ _⟩) (Keep.weaken hX) (m:=m1.take base) (h:=h1.take base) ?_
   cases sd with
   |map=>exact h3'
   |buf=>exact h3'
   |fM me ai lk =>
    obtain⟨b',p,v,e,hp,⟨v0,blk,g1,g2,g3⟩,h4⟩:=h3'
    have hme:me<base:=by
     have:=q2 0
     cases lk with
     |none=>simpa[SD.env,Env.get,low]using this
     |some p=>obtain⟨_,_⟩:=p;simpa[SD.env,Env.get,low]using this
    obtain⟨s1,s2⟩:=hsame me hme;refine⟨b',p,v,e,hp,⟨v0,blk,by rw[<-s1];exact g1,g2,fun e d st hb=>by rw[<-s2];exact g3 e d st hb⟩, ?_⟩
    cases lk with
    |none=>exact h4
    |some p =>
     obtain⟨a,b2⟩:=p
     have ha:a<base:=by
      have:=q2 1;simpa[SD.env,Env.get,low]using this
     obtain⟨t1,t2⟩:=hsame a ha;obtain⟨g,n,cap,e,v0,blk,k1,k2,k3⟩:=h4;exact⟨g,n,cap,e,v0,blk,by rw[<-t1];exact k1,k2,fun e d l hb=>by rw[<-t2];exact k3 e d l hb⟩
  ·exact pU.mk h2' h3' (by rw[qi];omega) h5' fun t=>R.step (fun id v blk h=>⟨v,blk,h,bC _,fun _=>rZ.refl _ _ _ _⟩) (Keep.weaken hX) _ _ (Om hsame _ _ (q2 t) (h6' t))
 refine⟨⟨by rw[qi,qi,hlen],fun id ai b h1 h2=>?_,fun id ai d st h1=>?_,fun id id' v v' blk gX b h1 h2 h3 h1' h2' h3'=>?_,hl.zK.inv.kI.keep (Keep.weaken fun b ⟨id,v,blk,k1,k2,k3⟩=>⟨id,v,blk,(hl.low id (xE k1).1).trans (xE k1).2,k2,(xE k3).2⟩)⟩,fun b hb=>.inl hb,blk,ax⟩
 ·obtain⟨b,c,ty,e1,e2,e3⟩:=blk id ai b h1 h2;exact⟨b,c,ty,e1,e2,e3.less fun b hb=>.inl hb⟩
 ·obtain⟨b,o,e1,e2,e3⟩:=ax id ai d st h1;exact⟨b,o,e1,e2,e3.less fun b hb=>.inl hb⟩
 ·obtain⟨a1,a2⟩:=xE h1;obtain⟨b1,b2⟩:=xE h1';exact hl.zK.inv.inj id id' v v' blk gX b ((hl.low id a1).trans a2) h2 (xE h3).2 ((hl.low id' b1).trans b2) h2' (xE h3').2
theorem aak{n:Nat}(hc:sV P aZ call)(Ow:zM call)(hrd:GQ P aZ iq)(hm:P.follows .mixedOrders=true){f:Nat}{x:bJ}(hk:EZ P aZ iq f x=true){args:List AV}{h:Heap}{lo:Nat}{r:AV}{h':Heap}
  (he:enter x (fun cx=>exec call cx n) args h lo=some (r,h')):(aZ f=true->h'=h)/\Enters P f/\∀(w:World) (m:Map) (vs:List Value),Inv w m h->RL w (Live m h) m h args vs->lo<=h.length ->
   Calls P f vs.toArray w fun e w'=>∃ u m',e=.returned u/\Step lo w m h w' m' h'/\Inv w' m' h'/\zI w w' m' h' r u:=by
 unfold EZ at hk;split at hk
 ·rename_i fn hfn;simp only[bM,decide_eq_true_eq]at hk;obtain⟨⟨⟨⟨k1,k2⟩,k3,k3s⟩,k4⟩,k5⟩:=hk;split at k5
  ·rename_i c hbody;unfold enter at he;split at he
   ·rename_i hal;obtain⟨⟨e,env',h1⟩,hx,he⟩:=bE.mp he
    have hres:∃ v,uD env' h1 x.res=some v/\jf h.length v h1=some r/\h'=(if x.isOpen then h1.take h.length else h)/\(e=.norm\/e=.ret):=by
     cases e with
     |exit id=>simp at he
     |norm =>
      simp only[bE,mE,aB]at he;obtain⟨v,e1,r',e2,rfl,rfl⟩:=he
      exact⟨v,e1,e2,rfl,.inl rfl⟩
     |ret =>
      simp only[bE,mE,aB]at he;obtain⟨v,e1,r',e2,rfl,rfl⟩:=he;exact⟨v,e1,e2,rfl,.inr rfl⟩
    obtain⟨v,hv,hgv,hh',hee⟩:=hres;refine⟨fun GK=>?_,⟨fn,hfn,k1,by simp[hbody]⟩,fun w m vs hi hl hlo=>?_⟩
    ·rw[GK]at k3;simp only[Bool.not_true,Bool.or_false,sD]at k3;rw[hh',k3];rfl
    obtain⟨i0,ahN,Ox⟩:=ahJ hi x.ns
    have hold:∀{id:Nat},id<h.length->(h++List.replicate x.ns (0,au.dead))[id]?=h[id]?/\(m++List.replicate x.ns 0)[id]?=m[id]?:=fun hid =>
     ⟨kY hid,kY (by rw[hi.len];exact hid)⟩
    have arL:lo<=(if x.isOpen=true then lo else h.length):=by split<;>omega
    have ahO:(if x.isOpen=true then lo else h.length)<=h.length:=by split<;>omega
    have hvl:=(uH _ _ hl).1
    have hf0:Fr ⟨fn.ntmps,w.heap.size,none,none⟩ w (m++List.replicate x.ns 0) (h++List.replicate x.ns (0,au.dead)) (wY 0 args) { tmps:=vs.toArray++Array.replicate (fn.ntmps-vs.toArray.size) undef,defers:=[] }:=by
     refine⟨⟨fun t=>?_,i0.kI⟩,by simp;omega,⟨[],rfl,List.nodup_nil,fun D hD=>by simp at hD⟩,trivial,bC _⟩
     rw[aaf,if_pos (vM _),Nat.sub_zero]
     cases hat:args[t]? with
     |none=>simp[R]
     |some q =>
      obtain⟨u,hu,hR⟩:=(uH _ _ hl).2 t q hat;have hlt:t<vs.length:=(dQ.mp hu).1
      have:(vs.toArray++Array.replicate (fn.ntmps-vs.toArray.size) undef).getD t undef=u:=by
       simp only[Array.getD_eq_getD_getElem?,Array.getElem?_append,List.size_toArray,hlt,if_true,List.getElem?_toArray,hu,Option.getD_some]
      show R w _ _ _ ((some q).getD .undef) _
      rw[this];exact R.step ahN (Keep.weaken fun b hb=>(Ox b).mp hb) _ _ hR
    have ahP:qE h.length (h++List.replicate x.ns (0,au.dead)):=by
     have key2:∀(id v:Nat) (b:au),(h++List.replicate x.ns (0,au.dead))[id]?=some (v,b)->b≠.dead->h[id]?=some (v,b):=by
      intro id v b hk hd;rcases kZ id h.length with hlt|hge
      ·rwa [kY hlt]at hk
      ·rw[mO hge,List.getElem?_replicate]at hk;split at hk
       ·cases hk;exact absurd rfl hd
       ·cases hk
     exact fun id v=>⟨fun cs hid hk=>(hi.aaj id v).1 cs hid (key2 _ _ _ hk (by simp)),fun d st hk=>(hi.aaj id v).2 d st (key2 _ _ _ hk (by simp))⟩
    have hlt1:=GX Ow (cx:=⟨if x.isOpen=true then lo else h.length,h.length,x.ns,none⟩) (N:=h.length) (.inl (bC _)) n x.code (by simp) hx
    have ahQ:=hlt1.2 ahP;have hlen1:h1.length=h.length+x.ns:=by have:=hlt1.1;simpa using this
    have hcode:=Sb hc hrd hm (N:=⟨fn.ntmps,w.heap.size,none,none⟩) (cx:=⟨if x.isOpen=true then lo else h.length,h.length,x.ns,none⟩) ahO rfl n x.code c k5 i0 hf0 (by simp) hx
    refine(callsIn_wide (n:=0)).mp (callsIn_of_wp_marks hfn hbody trivial (wpIn_mono hcode ?_));rintro e' a' w1 ⟨rfl,m1,s1,i1,f1⟩
    have hbody:LeavesInM Fence.wide 0 P fn a'.tmps (fun e w'=>∃ u m',e=.returned u/\Step lo w m h w' m' h'/\Inv w' m' h'/\zI w w' m' h' r u) a'.defers .returning w1:=by
     obtain⟨Ds,hds,hdn,hD⟩:=f1.defers;rw[hds];refine aai Ds w1 hdn (fun D zL=>(hD D zL).2.1) fun w2 ht=>?_;have i2:=ht.inv i1 fun D zL=>(hD D zL).2.2;have jl:jb w2 m1 h1 env' a':=⟨fun t=>R.step (ht.ids m1 h1) (ht.keep _) _ _ (f1.env.at' t),f1.env.kI.keep (ht.keep _)⟩;obtain⟨u,hu1,hu2⟩:=ahH (P:=P) i2 jl k4 hv;refine⟨u,hu1,u,m1.take h.length,rfl, ?_⟩;have hge:∀ D∈Ds,w.heap.size<=D:=fun D zL=>(hD D zL).1;have aal:∀ b,b<w.heap.size->w2.heap[b]?=w1.heap[b]?:=fun b hb=>ht.same b fun hbD=>by have:=hge b hbD;omega
     -- what the callers have
     have arM:m1.length=h1.length:=i1.len
     have ahR:h'=h1.take h.length:=by
      rw[hh'];split
      ·rfl
      ·rename_i hop;refine zC fun id=>?_;rcases kZ id h.length with hid|hid
       ·rw[yH hid];have:=(s1.low id (by simp only[hop,iw,if_false];exact hid)).1
        exact((hold hid).1.symm.trans this.symm)
       ·rw[E8 (by omega),E8 (by rw[qi];omega)]
     rw[ahR];obtain⟨X',B,h2,l,g,nd,q,lw⟩:=ahL i2 hu2 hgv
     have SE:∀ b,Live (m1.take h.length) (h1.take h.length) b->∃ id ai blk,id<h.length/\h1[id]?=some (ai,blk)/\blk≠au.dead/\m1[id]?=some b:=by
      rintro b ⟨id,ai,blk,g1,g2,g3⟩;obtain⟨a1,a2⟩:=xE g1;exact⟨id,ai,blk,a1,a2,g2,(xE g3).2⟩
     have hX:∀ b,(Live (m1.take h.length) (h1.take h.length) b\/b∈B)->X' b:=by
      rintro b (hb|hb)
      ·obtain⟨id,ai,blk,a1,a2,a3,a4⟩:=SE b hb;exact l.zK.sub b ⟨id,ai,blk,(l.low id a1).trans a2,a3,a4⟩
      ·exact(q b hb).1
     have hix:=ahM (by omega) l ahQ hX
     have hstep:Step lo w m h w2 (m1.take h.length) (h1.take h.length):=by
      refine⟨ht.os.trans s1.os,ht.tape.trans s1.tape,ht.output.trans s1.output,by rw[qi];omega,fun b hb hn=>?_,⟨by rw[ht.size];exact s1.keep.size,fun{b o} hb hn=>?_,fun b hb=>?_⟩,fun id hid=>?_,fun id ai blk hk=>?_,fun id ai blk b h1' h2' h3'=>?_⟩
      ·exact(aal b hb).trans (s1.old b hb fun h=>hn ((Ox b).mp h))
      ·exact(ht.cell _).trans (s1.keep.cell hb fun h=>hn ((Ox b).mp h))
      ·obtain⟨id,ai,blk,a1,a2,a3,a4⟩:=SE b hb;exact(s1.keep.live b ⟨id,ai,blk,a2,a3,a4⟩).imp (Ox b).mp fun h=>h
      ·have mP:id<h.length:=by omega
       obtain⟨g1,g2,g3⟩:=s1.low id (by show id<(if x.isOpen=true then lo else h.length);omega)
       refine⟨by rw[yH mP,g1];exact(hold mP).1,by rw[yH mP,g2];exact(hold mP).2,fun ai blk b j1 j2 j3=>?_⟩
       exact(aal b (hi.lt j1 j2 j3)).trans (g3 ai blk b ((hold mP).1.trans j1) j2 ((hold mP).2.trans j3))
      ·have mP:id<h.length:=(dQ.mp hk).1;obtain⟨v',gX,g1,g2,g3⟩:=s1.ids id ai blk ((hold mP).1.trans hk);refine⟨v',gX,by rw[yH mP];exact g1,g2,fun he=>?_⟩
       have g4:=g3 he;unfold rZ at g4⊢;rw[yH mP];rw[(hold mP).2]at g4;rcases g4 with g|g|g|⟨z,es,es',j1,j2,j3,j4⟩
       ·exact .inl g
       ·exact .inr (.inl g)
       ·obtain⟨d,st,d',st',j1,j2,j3,j4,j5⟩:=g;exact .inr (.inr (.inl ⟨d,st,d',st',j1,j2,j3,j4,fun l e=>⟨(j5 l e).1,fun b hb=>by rw[ht.bsize];exact(j5 l e).2 b hb⟩⟩))
       ·exact .inr (.inr (.inr ⟨z,es,es',j1,j2,j3,fun he=>⟨(j4 he).1,fun b hb=>by rw[ht.bsize];exact(j4 he).2 b hb⟩⟩))
      ·obtain⟨a1,a2⟩:=xE h1';rcases s1.fresh id ai blk b a2 h2' (xE h3').2 with⟨j1,v0,iI,j2,j3⟩|j
       ·exact .inl ⟨(hold a1).2.symm.trans j1,v0,iI,(hold a1).1.symm.trans j2,j3⟩
       ·exact .inr j
     refine⟨hstep,hix.inv,B,nd,fun b hb=>?_,hix, ?_⟩
     ·obtain⟨_,id,ai,blk,j1,j2,j3,j4⟩:=q b hb;refine⟨?_,fun hlv=>?_⟩
      ·rcases s1.fresh id ai blk b j2 j3 j4 with⟨p1,v0,iI,p2,p3⟩|p
       ·rw[mO j1,List.getElem?_replicate]at p2;split at p2
        ·cases p2;exact absurd rfl p3
        ·cases p2
       ·exact p
      ·obtain⟨id',AL,gX,a1,a2,a3,a4⟩:=SE b hlv;have:=i1.inj id' id AL ai gX blk b a2 a3 a4 j2 j3 j4;omega
     ·have aan:∀ id,id<h.length->h2[id]?=(h1.take h.length)[id]?/\m1[id]?=(m1.take h.length)[id]?:=fun id hid=>⟨by rw[yH hid];exact l.low id hid,(yH hid).symm⟩
      unfold uL at g⊢;split
      ·rename_i cs;obtain⟨us,e1,hgl⟩:=g;exact⟨us,e1,(hgl.low aan (by simpa only[low]using lw)).less hX⟩
      ·rename_i hne;split at g
       ·exact absurd rfl (hne _)
       ·exact(g.low aan lw).less hX
    rcases hee with rfl|rfl
    ·exact hbody
    ·exact hbody
   ·cases he
  ·cases k5
 ·cases hk
end
end Go.VI
