/- Calls and rounds: the evaluator's answers are the machine's. -/
import Derived.Test.YtfpoegnmeoghpaaGreatDoorVIS
set_option linter.unusedVariables false
set_option linter.unusedSimpArgs false
namespace Go.VI
set_option linter.unusedSectionVars false
variable [kH][Rounds]
section
variable {P:Program}{eB:Nat->Bool}{qR:Nat->Option DU}{call:Callee}
theorem Y9{α:Type}{l:List α}{n k:Nat}(h:k<n):(l.take n)[k]?=l[k]?:=by rw[IA,if_pos h]
theorem YN{α:Type}{l:List α}{n k:Nat}{x:α}(h:(l.take n)[k]?=some x):k<n/\l[k]?=some x:=by
 rw[IA]at h;split at h
 ·exact⟨by assumption,h⟩
 ·cases h
theorem aGI{w:World}{m1:Map}{h1 h2:Heap}{X X':Nat->Prop}{base:Nat}(hb:base<=h1.length)(hl:Let base w X m1 h1 X' h2)(hlow:Kb base h1){B:List Nat}(hX:∀ b,(Live (m1.take base) (h1.take base) b\/b∈B)->X' b) :
  Yt w (fun b=>Live (m1.take base) (h1.take base) b\/b∈B) (m1.take base) (h1.take base):=by
 have hlen:m1.length=h1.length:=hl.ZG.inv.len.trans hl.len;have hsame:∀ id,id<base->h2[id]?=(h1.take base)[id]?/\m1[id]?=(m1.take base)[id]?:=fun id hid=>⟨by rw[Y9 hid];exact hl.low id hid,(Y9 hid).symm⟩
 have blk:∀(id ak:Nat) (blk:aU),(h1.take base)[id]?=some (ak,blk)->blk.mem=true->∃ b,∃ c:Array Value,∃ ty,(m1.take base)[id]?=some b/\w.heap[b]?=some (Obj.cells c ty (0,0))/\Rj w (fun b=>Live (m1.take base) (h1.take base) b\/b∈B) (m1.take base) (h1.take base) c.toList blk:=by
  intro id ak blk hk hm;obtain⟨hid,hk1⟩:=YN hk;have hk2:=(hl.low id hid).trans hk1;obtain⟨b,c,ty,e1,e2,e3⟩:=hl.ZG.blk id ak blk hk2 hm;refine⟨b,c,ty,by rw[Y9 hid];exact e1,e2, ?_⟩
  cases blk with
  |dead=>trivial
  |aV d st=>trivial
  |arr z es=>exact⟨e3.1,e3.2.keep (Keep.weaken hX)⟩
  |box cs=>exact⟨e3.1,RL.step (fun id v blk h=>⟨v,blk,h,iJ _,fun _=>OY.refl _ _ _ _⟩) (Keep.weaken hX) _ _ (an9 hsame cs _ ((hlow id ak).1 cs hid hk1) e3.2)⟩
 have aV:∀(id ak:Nat) (d:kP) (st:RS),(h1.take base)[id]?=some (ak,.aV d st)->∃ b o,(m1.take base)[id]?=some b/\w.heap[b]?=some o/\JJ w (fun b=>Live (m1.take base) (h1.take base) b\/b∈B) (m1.take base) (h1.take base) o d st:=by
  intro id ak d st hk;obtain⟨hid,hk1⟩:=YN hk;obtain⟨b,o,e1,e2,h0⟩:=hl.ZG.aV id ak d st ((hl.low id hid).trans hk1);obtain⟨q1,q2⟩:=((hlow id ak).2 d st hk1).1 hid;refine⟨b,o,by rw[Y9 hid];exact e1,e2, ?_⟩
  rcases h0.cases with⟨sd,rfl,h1',h2',h3'⟩|⟨_,r,rfl,h2',h3',h4',h5',h6'⟩
  ·rw[h2']at q2;refine⟨by rw[JK];omega,h2', ?_⟩
   refine aiR.ids (fun id v blk h=>⟨v,blk,h,iJ _,fun _=>OY.refl _ _ _ _⟩) (Keep.weaken hX) (m:=m1.take base) (h:=h1.take base) ?_
   cases sd with
   |map=>exact h3'
   |buf=>exact h3'
   |nV me ak lk =>
    obtain⟨b',p,v,e,hp,⟨v0,blk,g1,g2,g3⟩,h4⟩:=h3'
    have hme:me<base:=by
     have:=q2 0
     cases lk with
     |none=>simpa[SD.env,Env.get,low]using this
     |some p=>obtain⟨_,_⟩:=p;simpa[SD.env,Env.get,low]using this
    obtain⟨s1,s2⟩:=hsame me hme;refine⟨b',p,v,e,hp,⟨v0,blk,by rw[<-s1];exact g1,g2,fun e d st hb=>by rw[<-s2];exact g3 e d st hb⟩, ?_⟩
    cases lk with
    |none=>exact h4
    |some p =>
     obtain⟨a,b2⟩:=p
     have ha:a<base:=by
      have:=q2 1;simpa[SD.env,Env.get,low]using this
     obtain⟨t1,t2⟩:=hsame a ha;obtain⟨g,n,cap,e,v0,blk,k1,k2,k3⟩:=h4;exact⟨g,n,cap,e,v0,blk,by rw[<-t1];exact k1,k2,fun e d l hb=>by rw[<-t2];exact k3 e d l hb⟩
  ·exact JJ.mk h2' h3' (by rw[JK];omega) h5' fun t=>R.step (fun id v blk h=>⟨v,blk,h,iJ _,fun _=>OY.refl _ _ _ _⟩) (Keep.weaken hX) _ _ (an8 hsame _ _ (q2 t) (h6' t))
 refine⟨⟨by rw[JK,JK,hlen],fun id ak b h1 h2=>?_,fun id ak d st h1=>?_,fun id id' v v' blk qN b h1 h2 h3 h1' h2' h3'=>?_,hl.ZG.inv.CX.keep (Keep.weaken fun b ⟨id,v,blk,k1,k2,k3⟩=>⟨id,v,blk,(hl.low id (YN k1).1).trans (YN k1).2,k2,(YN k3).2⟩)⟩,fun b hb=>.inl hb,blk,aV⟩
 ·obtain⟨b,c,ty,e1,e2,e3⟩:=blk id ak b h1 h2;exact⟨b,c,ty,e1,e2,e3.less fun b hb=>.inl hb⟩
 ·obtain⟨b,o,e1,e2,e3⟩:=aV id ak d st h1;exact⟨b,o,e1,e2,e3.less fun b hb=>.inl hb⟩
 ·obtain⟨a1,a2⟩:=YN h1;obtain⟨b1,b2⟩:=YN h1';exact hl.ZG.inv.inj id id' v v' blk qN b ((hl.low id a1).trans a2) h2 (YN h3).2 ((hl.low id' b1).trans b2) h2' (YN h3').2
theorem azH{n:Nat}(hc:Rk P eB call)(hlw:Y8 call)(hrd:aj9 P eB qR)(hm:P.follows .mixedOrders=true){f:Nat}{x:gH}(hk:ai2 P eB qR f x=true){args:List AV}{h:Heap}{lo:Nat}{r:AV}{h':Heap}
  (he:enter x (fun cx=>exec call cx n) args h lo=some (r,h')):(eB f=true->h'=h)/\Enters P f/\∀(w:World) (m:Map) (vs:List Value),Inv w m h->RL w (Live m h) m h args vs->lo<=h.length ->
   Calls P f vs.toArray w fun e w'=>∃ u m',e=.returned u/\Step lo w m h w' m' h'/\Inv w' m' h'/\ZE w w' m' h' r u:=by
 unfold ai2 at hk;split at hk
 ·rename_i fn hfn;simp only[fw,decide_eq_true_eq]at hk;obtain⟨⟨⟨⟨k1,k2⟩,k3,k3s⟩,k4⟩,k5⟩:=hk;split at k5
  ·rename_i c hbody;unfold enter at he;split at he
   ·rename_i hal;obtain⟨⟨e,env',h1⟩,hx,he⟩:=bE.mp he
    have hres:∃ v,Ry env' h1 x.res=some v/\tJ h.length v h1=some r/\h'=(if x.isOpen then h1.take h.length else h)/\(e=.norm\/e=.ret):=by
     cases e with
     |exit id=>simp at he
     |norm =>
      simp only[bE,mE,bf]at he;obtain⟨v,e1,r',e2,rfl,rfl⟩:=he
      exact⟨v,e1,e2,rfl,.inl rfl⟩
     |ret =>
      simp only[bE,mE,bf]at he;obtain⟨v,e1,r',e2,rfl,rfl⟩:=he;exact⟨v,e1,e2,rfl,.inr rfl⟩
    obtain⟨v,hv,hgv,hh',hee⟩:=hres;refine⟨fun aj6=>?_,⟨fn,hfn,k1,by simp[hbody]⟩,fun w m vs hi hl hlo=>?_⟩
    ·rw[aj6]at k3;simp only[Bool.not_true,Bool.or_false,IK]at k3;rw[hh',k3];rfl
    obtain⟨i0,aGJ,lv0⟩:=aGF hi x.ns
    have hold:∀{id:Nat},id<h.length->(h++List.replicate x.ns (0,aU.dead))[id]?=h[id]?/\(m++List.replicate x.ns 0)[id]?=m[id]?:=fun hid =>
     ⟨zy hid,zy (by rw[hi.len];exact hid)⟩
    have aOx:lo<=(if x.isOpen=true then lo else h.length):=by split<;>omega
    have aGK:(if x.isOpen=true then lo else h.length)<=h.length:=by split<;>omega
    have hvl:=(RA _ _ hl).1
    have hf0:Fr ⟨fn.ntmps,w.heap.size,none,none⟩ w (m++List.replicate x.ns 0) (h++List.replicate x.ns (0,aU.dead)) (TU 0 args) { tmps:=vs.toArray++Array.replicate (fn.ntmps-vs.toArray.size) undef,defers:=[] }:=by
     refine⟨⟨fun t=>?_,i0.CX⟩,by simp;omega,⟨[],rfl,List.nodup_nil,fun D hD=>by simp at hD⟩,trivial,iJ _⟩
     rw[azC,if_pos (Nat.zero_le _),Nat.sub_zero]
     cases hat:args[t]? with
     |none=>simp[R]
     |some q =>
      obtain⟨u,hu,hR⟩:=(RA _ _ hl).2 t q hat;have hlt:t<vs.length:=(kS.mp hu).1
      have:(vs.toArray++Array.replicate (fn.ntmps-vs.toArray.size) undef).getD t undef=u:=by
       simp only[Array.getD_eq_getD_getElem?,Array.getElem?_append,List.size_toArray,hlt,if_true,List.getElem?_toArray,hu,Option.getD_some]
      show R w _ _ _ ((some q).getD .undef) _
      rw[this];exact R.step aGJ (Keep.weaken fun b hb=>(lv0 b).mp hb) _ _ hR
    have aGL:Kb h.length (h++List.replicate x.ns (0,aU.dead)):=by
     have key2:∀(id v:Nat) (b:aU),(h++List.replicate x.ns (0,aU.dead))[id]?=some (v,b)->b≠.dead->h[id]?=some (v,b):=by
      intro id v b hk hd;rcases Fz id h.length with hlt|hge
      ·rwa [zy hlt]at hk
      ·rw[Fx hge,List.getElem?_replicate]at hk;split at hk
       ·cases hk;exact absurd rfl hd
       ·cases hk
     exact fun id v=>⟨fun cs hid hk=>(hi.azG id v).1 cs hid (key2 _ _ _ hk (by simp)),fun d st hk=>(hi.azG id v).2 d st (key2 _ _ _ hk (by simp))⟩
    have hlt1:=akf hlw (cx:=⟨if x.isOpen=true then lo else h.length,h.length,x.ns,none⟩) (N:=h.length) (.inl (iJ _)) n x.code (by simp) hx
    have aGM:=hlt1.2 aGL;have hlen1:h1.length=h.length+x.ns:=by have:=hlt1.1;simpa using this
    have hcode:=asn hc hrd hm (N:=⟨fn.ntmps,w.heap.size,none,none⟩) (cx:=⟨if x.isOpen=true then lo else h.length,h.length,x.ns,none⟩) aGK rfl n x.code c k5 i0 hf0 (by simp) hx
    refine(callsIn_wide (n:=0)).mp (callsIn_of_wp_marks hfn hbody trivial (wpIn_mono hcode ?_));rintro e' a' w1 ⟨rfl,m1,s1,i1,f1⟩
    have hbody:LeavesInM Fence.wide 0 P fn a'.tmps (fun e w'=>∃ u m',e=.returned u/\Step lo w m h w' m' h'/\Inv w' m' h'/\ZE w w' m' h' r u) a'.defers .returning w1:=by
     obtain⟨Ds,hds,hdn,hD⟩:=f1.defers;rw[hds];refine azF Ds w1 hdn (fun D ZH=>(hD D ZH).2.1) fun w2 ht=>?_;have i2:=ht.inv i1 fun D ZH=>(hD D ZH).2.2;have zk:uO w2 m1 h1 env' a':=⟨fun t=>R.step (ht.ids m1 h1) (ht.keep _) _ _ (f1.env.at' t),f1.env.CX.keep (ht.keep _)⟩;obtain⟨u,hu1,hu2⟩:=aGD (P:=P) i2 zk k4 hv;refine⟨u,hu1,u,m1.take h.length,rfl, ?_⟩;have hge:∀ D∈Ds,w.heap.size<=D:=fun D ZH=>(hD D ZH).1;have azI:∀ b,b<w.heap.size->w2.heap[b]?=w1.heap[b]?:=fun b hb=>ht.same b fun hbD=>by have:=hge b hbD;omega
     -- what the callers have
     have aOy:m1.length=h1.length:=i1.len
     have aGN:h'=h1.take h.length:=by
      rw[hh'];split
      ·rfl
      ·rename_i hop;refine Zy fun id=>?_;rcases Fz id h.length with hid|hid
       ·rw[Y9 hid];have:=(s1.low id (by simp only[hop,uM,if_false];exact hid)).1
        exact((hold hid).1.symm.trans this.symm)
       ·rw[ai3 (by omega),ai3 (by rw[JK];omega)]
     rw[aGN];obtain⟨X',B,h2,l,g,nd,q,lw⟩:=aGH i2 hu2 hgv
     have asB:∀ b,Live (m1.take h.length) (h1.take h.length) b->∃ id ak blk,id<h.length/\h1[id]?=some (ak,blk)/\blk≠aU.dead/\m1[id]?=some b:=by
      rintro b ⟨id,ak,blk,g1,g2,g3⟩;obtain⟨a1,a2⟩:=YN g1;exact⟨id,ak,blk,a1,a2,g2,(YN g3).2⟩
     have hX:∀ b,(Live (m1.take h.length) (h1.take h.length) b\/b∈B)->X' b:=by
      rintro b (hb|hb)
      ·obtain⟨id,ak,blk,a1,a2,a3,a4⟩:=asB b hb;exact l.ZG.sub b ⟨id,ak,blk,(l.low id a1).trans a2,a3,a4⟩
      ·exact(q b hb).1
     have hix:=aGI (by omega) l aGM hX
     have hstep:Step lo w m h w2 (m1.take h.length) (h1.take h.length):=by
      refine⟨ht.os.trans s1.os,ht.tape.trans s1.tape,ht.output.trans s1.output,by rw[JK];omega,fun b hb hn=>?_,⟨by rw[ht.size];exact s1.keep.size,fun{b o} hb hn=>?_,fun b hb=>?_⟩,fun id hid=>?_,fun id ak blk hk=>?_,fun id ak blk b h1' h2' h3'=>?_⟩
      ·exact(azI b hb).trans (s1.old b hb fun h=>hn ((lv0 b).mp h))
      ·exact(ht.cell _).trans (s1.keep.cell hb fun h=>hn ((lv0 b).mp h))
      ·obtain⟨id,ak,blk,a1,a2,a3,a4⟩:=asB b hb;exact(s1.keep.live b ⟨id,ak,blk,a2,a3,a4⟩).imp (lv0 b).mp fun h=>h
      ·have F7:id<h.length:=by omega
       obtain⟨g1,g2,g3⟩:=s1.low id (by show id<(if x.isOpen=true then lo else h.length);omega)
       refine⟨by rw[Y9 F7,g1];exact(hold F7).1,by rw[Y9 F7,g2];exact(hold F7).2,fun ak blk b j1 j2 j3=>?_⟩
       exact(azI b (hi.lt j1 j2 j3)).trans (g3 ak blk b ((hold F7).1.trans j1) j2 ((hold F7).2.trans j3))
      ·have F7:id<h.length:=(kS.mp hk).1;obtain⟨v',qN,g1,g2,g3⟩:=s1.ids id ak blk ((hold F7).1.trans hk);refine⟨v',qN,by rw[Y9 F7];exact g1,g2,fun he=>?_⟩
       have g4:=g3 he;unfold OY at g4⊢;rw[Y9 F7];rw[(hold F7).2]at g4;rcases g4 with g|g|g|⟨z,es,es',j1,j2,j3,j4⟩
       ·exact .inl g
       ·exact .inr (.inl g)
       ·obtain⟨d,st,d',st',j1,j2,j3,j4,j5⟩:=g;exact .inr (.inr (.inl ⟨d,st,d',st',j1,j2,j3,j4,fun l e=>⟨(j5 l e).1,fun b hb=>by rw[ht.bsize];exact(j5 l e).2 b hb⟩⟩))
       ·exact .inr (.inr (.inr ⟨z,es,es',j1,j2,j3,fun he=>⟨(j4 he).1,fun b hb=>by rw[ht.bsize];exact(j4 he).2 b hb⟩⟩))
      ·obtain⟨a1,a2⟩:=YN h1';rcases s1.fresh id ak blk b a2 h2' (YN h3').2 with⟨j1,v0,rY,j2,j3⟩|j
       ·exact .inl ⟨(hold a1).2.symm.trans j1,v0,rY,(hold a1).1.symm.trans j2,j3⟩
       ·exact .inr j
     refine⟨hstep,hix.inv,B,nd,fun b hb=>?_,hix, ?_⟩
     ·obtain⟨_,id,ak,blk,j1,j2,j3,j4⟩:=q b hb;refine⟨?_,fun hlv=>?_⟩
      ·rcases s1.fresh id ak blk b j2 j3 j4 with⟨p1,v0,rY,p2,p3⟩|p
       ·rw[Fx j1,List.getElem?_replicate]at p2;split at p2
        ·cases p2;exact absurd rfl p3
        ·cases p2
       ·exact p
      ·obtain⟨id',abx,qN,a1,a2,a3,a4⟩:=asB b hlv;have:=i1.inj id' id abx ak qN blk b a2 a3 a4 j2 j3 j4;omega
     ·have azK:∀ id,id<h.length->h2[id]?=(h1.take h.length)[id]?/\m1[id]?=(m1.take h.length)[id]?:=fun id hid=>⟨by rw[Y9 hid];exact l.low id hid,(Y9 hid).symm⟩
      unfold RD at g⊢;split
      ·rename_i cs;obtain⟨us,e1,hgl⟩:=g;exact⟨us,e1,(hgl.low azK (by simpa only[low]using lw)).less hX⟩
      ·rename_i hne;split at g
       ·exact absurd rfl (hne _)
       ·exact(g.low azK lw).less hX
    rcases hee with rfl|rfl
    ·exact hbody
    ·exact hbody
   ·cases he
  ·cases k5
 ·cases hk
end
end Go.VI
