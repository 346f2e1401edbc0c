/- Builders. -/
import Derived.Test.YtfpoegnmeoghpaaGreatDoorVISP
set_option linter.unusedVariables false
set_option linter.unusedSimpArgs false
namespace Go.VI
set_option linter.unusedSectionVars false
variable [dH][Rounds]
section
variable {w:World}{m:Map}{h:Heap}{P:Program}{env:Env}{a:Act}{o:Oper}{X:Nat->Prop}{cx:Cx}
theorem X0(hi:Inv w m h){id ai:Nat}{u:Value}{d:dO}{lk:Option (Nat×Nat)}(hr:R w (Live m h) m h (.dY id ai) u)(hid:h[id]?=some (ai,.ax d (.fO (.fM id ai lk)))) :
  ∃ b p v,u=.pointer (some ⟨b,0,none⟩)/\m[id]?=some b/\w.heap[b]?=some (.cells #[p,v] dH.rD (0,0))/\(p=.pointer none\/p=.pointer (some ⟨b,0,none⟩))/\d.base+d.ns<=h.length/\BX w m h lk v:=by
 simp only[R]at hr;obtain⟨q,l,e,v0,blk,h1,h2,h3⟩:=hr;rw[hid]at h1;cases h1;obtain⟨h4,h5⟩:=h3 rfl _ _ rfl;simp only[RS.Gp]at h4;subst h4;obtain⟨b,ob,e1,e2,e3⟩:=hi.ax id _ _ _ hid;rw[h5]at e1;cases e1;obtain⟨e4,_,b',p,v,rfl,e5,⟨v0,blk,q1,q2,q3⟩,e6⟩:=e3;rw[hid]at q1;cases q1;obtain⟨_,q4⟩:=q3 rfl _ _ rfl;rw[h5]at q4;cases q4;exact⟨l,p,v,e,h5,e2,e5,e4,e6⟩
theorem X3(hi:Inv w m h){id2 mY:Nat}{d:dO}{l:List UInt8}{v:Value}(hl:BX w m h (some (id2,mY)) v)(hid:h[id2]?=some (mY,.ax d (.fO (.buf l)))) :
  ∃ g cap,v=.slice (some ⟨g,0,none⟩) l.length cap/\m[id2]?=some g/\(d.base+d.ns<=h.length/\d.env=[])/\bsize w g=cap/\w.ownsRowF 0 dH.yw 1 v l.length (Lib.byteCells l)/\∃ o,w.heap[g]?=some o/\Ez w (Live m h) m h o (.buf l):=by
 obtain⟨g,n,cap,rfl,v0,blk,q1,q2,q3⟩:=hl;rw[hid]at q1;cases q1;obtain⟨k1,rfl,k3⟩:=q3 rfl _ _ rfl;obtain⟨b,ob,e1,e2,e3⟩:=hi.ax id2 _ _ _ hid;rw[k1]at e1;cases e1;obtain⟨e4,e4',cur,fz,rfl,f1,f2,f3,f4⟩:=e3;have hsz:cur.size=cap:=by rw[<-k3,bsize,e2]
 refine⟨g,cap,rfl,k1,⟨e4,e4'⟩,k3,⟨by simp[Lib.byteCells_length],.inr ⟨g,cap,cur,fz,rfl,vM _,e2,by omega,by omega,by omega,by omega,by simpa using f4⟩⟩,_,e2,cur,fz,rfl,f1,f2,f3,f4⟩
theorem X4{v:Value}{n:Nat}{l:List Value}{e:TypeId}(h:w.ownsRowF 0 e 1 v n l)(hn:n≠0):∃ g cap cur fz,v=.slice (some ⟨g,0,none⟩) n cap/\v.ownBlock=some g/\w.heap[g]?=some (.cells cur e fz)/\fz.2<=n/\n<=cur.size/\cur.size<=maxLen/\cur.size=cap/\cur.toList.take n=l:=by
 rcases h.2 with⟨_,h0⟩|⟨g,cap,cur,fz,rfl,_,h1,h2,h3,h4,h5,h6⟩
 ·exact absurd h0 hn
 ·exact⟨g,cap,cur,fz,rfl,rfl,h1,by omega,by omega,by omega,by omega,by simpa using h6⟩
theorem X5{m:Map}{id b:Nat}(hm:m[id]?=some b):m.set id b=m:=by
 refine zC fun j=>?_;by_cases hj:j=id
 ·subst hj;rw[rJ (dQ.mp hm).1,hm]
 ·exact iH (by omega)
theorem af9(hi:Inv w m h){id ai b:Nat}{d:dO}(hd:d.base+d.ns<=h.length){lk lk':Option (Nat×Nat)}{w':World}{v':Value}(hid:h[id]?=some (ai,.ax d (.fO (.fM id ai lk))))(hm:m[id]?=some b)(hf:Ke w w' b none)(hb:w'.heap[b]?=some (.cells #[.pointer (some ⟨b,0,none⟩),v'] dH.rD (0,0))){lo:Nat}(hlo:lo<=id)
  (hl:∀(hs:Step lo w m h w' m (h.set id (ai,.ax { d with env:=(SD.fM id ai lk').env } (.fO (.fM id ai lk'))))),BX w' m (h.set id (ai,.ax { d with env:=(SD.fM id ai lk').env } (.fO (.fM id ai lk')))) lk' v') :
  Step lo w m h w' m (h.set id (ai,.ax { d with env:=(SD.fM id ai lk').env } (.fO (.fM id ai lk'))))/\Inv w' m (h.set id (ai,.ax { d with env:=(SD.fM id ai lk').env } (.fO (.fM id ai lk')))):=by
 have hlt:=hi.lt hid (by simp) hm
 have hmm:=X5 hm
 have p:Put w m h id ai (.ax d (.fO (.fM id ai lk))) b w' ai (.ax { d with env:=(SD.fM id ai lk').env } (.fO (.fM id ai lk'))) b :=
  ⟨hi,hid,hm,hf.os,hf.tape,hf.output,hf.size,fun q hq e=>hf.old q hq (fun e'=>(by have:=e e';cases this)) (by simp),bC _,.inr (.inl ⟨rfl,by simp⟩),fun _=>.inr (.inr (.inl ⟨_,_,_,_,rfl,rfl,by rw[hmm],rfl,fun l e=>by cases e⟩))⟩
 have s:=p.step (lo:=lo) hlo;have hset:=p.hset;rw[hmm]at s
 have i:=p.EM (fun h=>by cases h) (fun d2 st2 he=>by
  cases he;refine⟨_,hb,by simpa using hd,rfl,b,_,v',rfl,.inr rfl,⟨ai,_,hset,bC _,fun _ d st e=>by cases e;exact⟨rfl,by rw[hmm];exact hm⟩⟩, ?_⟩
  rw[hmm];exact hl s)
 rw[hmm]at i;exact⟨s,i⟩
def Dt(w':World)(b:Nat)(o:Obj):World:={ w' with heap:=w'.heap.setIfInBounds b o }
theorem af'{w':World}{b:Nat}{o:Obj}(h:b<w'.heap.size):(Dt w' b o).heap[b]?=some o:=by simp[Dt,h]
theorem RB{w':World}{b:Nat}{o:Obj}{k:Nat}(h:k≠b):(Dt w' b o).heap[k]?=w'.heap[k]?:=by simp[Dt,Ne.symm h]
theorem X7(hi:Inv w m h){d d2:dO}(hd:d.base+d.ns<=h.length)(hd2:d2.base+d2.ns<=h.length/\d2.env=[]){id id2 ai v0 mY b:Nat}{iI:au}{b0:Nat}{lk:Option (Nat×Nat)}{p v v':Value}{w':World}{l:List UInt8}{lo:Nat}(hlo:lo<=id)(hlo2:lo<=id2)(hne:id2≠id)
  (hid:h[id]?=some (ai,.ax d (.fO (.fM id ai lk)))) (hm:m[id]?=some b) (hb:w.heap[b]?=some (.cells #[p,v] dH.rD (0,0)))
  (lg:h[id2]?=some (v0,iI)) (hm2:m[id2]?=some b0) (hv:v0<mY) {g:Option Nat} (hg:g=none\/(g=some b0/\iI≠.dead)) (hf:Ke w w' b g)
  (hb':w'.heap[b]?=some (.cells #[.pointer (some ⟨b,0,none⟩),v'] dH.rD (0,0))) (ho:w'.ownsRowF 0 dH.yw 1 v' l.length (Lib.byteCells l)) (hn:l≠[]) (hvb:v'.ownBlock≠some b) (hfr:(v'.ownBlock=g/\g≠none)\/∀ g',v'.ownBlock=some g'->w.heap.size<=g') :
  ∃ m',Step lo w m h w' m' ((h.set id2 (mY,.ax d2 (.fO (.buf l)))).set id (ai,.ax { d with env:=(SD.fM id ai (some (id2,mY))).env } (.fO (.fM id ai (some (id2,mY))))))/\Inv w' m' ((h.set id2 (mY,.ax d2 (.fO (.buf l)))).set id (ai,.ax { d with env:=(SD.fM id ai (some (id2,mY))).env } (.fO (.fM id ai (some (id2,mY)))))):=by
 obtain⟨g',cap,cur,fz,rfl,hown,hcur,f1,f2,f3,f4,f5⟩:=X4 ho (by simpa using hn)
 have hbl:b<w.heap.size:=hi.lt hid (by simp) hm
 have aga:b<w'.heap.size:=uF hbl hf.size;rw[hown]at hvb hfr;have hgb:g'≠b:=fun e=>hvb (by rw[e])
 -- the bytes' block
 have hw1:(Dt w' b (.cells #[p,v] dH.rD (0,0))).heap.size=w'.heap.size:=by simp[Dt]
 have p1:Put w m h id2 v0 iI b0 (Dt w' b (.cells #[p,v] dH.rD (0,0))) mY (.ax d2 (.fO (.buf l))) g':=by
  refine⟨hi,lg,hm2,hf.os,hf.tape,hf.output,by rw[hw1];exact hf.size,fun k hk e=>?_,by omega, ?_,fun e=>by omega⟩
  ·by_cases hkb:k=b
   ·subst hkb;rw[af' aga,hb]
   ·rw[RB hkb];refine hf.old k hk hkb fun e'=>?_;rcases hg with rfl|⟨rfl,hd⟩
    ·cases e'
    ·cases e';exact hd (e rfl)
  ·rcases hfr with⟨e,hne⟩|hfresh
   ·rcases hg with rfl|⟨rfl,hd⟩
    ·exact absurd rfl hne
    ·cases e;exact .inr (.inl ⟨rfl,hd⟩)
   ·exact .inr (.inr (hfresh g' rfl))
 have s1:=p1.step (lo:=lo) hlo2
 have i1:=p1.EM (fun h=>by cases h) (fun d st e=>by
  cases e;exact⟨_,(RB hgb).trans hcur,by simpa using hd2.1,hd2.2,cur,fz,rfl,f1,f2,f3,f5⟩)
 have mP:(h.set id2 (mY,.ax d2 (.fO (.buf l))))[id]?=some (ai,.ax d (.fO (.fM id ai lk))):=by rw[(p1.other (Ne.symm hne)).1];exact hid
 have hm':(m.set id2 g')[id]?=some b:=by rw[(p1.other (Ne.symm hne)).2];exact hm
 have hf2:Ke (Dt w' b (.cells #[p,v] dH.rD (0,0))) w' b none:=⟨rfl,rfl,rfl,by rw[hw1];exact bC _,fun k hk hkb _=>(RB hkb).symm⟩
 obtain⟨s2,i2⟩:=af9 i1 (by simpa using hd) mP hm' hf2 hb' (lk':=some (id2,mY)) hlo (fun hs=>by
  refine⟨g',l.length,cap,rfl,mY,.ax d2 (.fO (.buf l)), ?_,bC _,fun _ d l' e=>?_⟩
  ·rw[iH (Ne.symm hne)];exact p1.hset
  ·cases e;refine⟨p1.oM,rfl, ?_⟩;simp only[bsize,hcur];exact f4)
 exact⟨_,s1.trans s2,i2⟩
theorem agb(hi:Inv w m h){s ai:Nat}{h':Heap}(hk:fw P o (.zk s)=true)(hm:fB cx s (.ax (dO.at (cx.base+s) (.fM (cx.base+s) 0 none)) (.fO (.fM (cx.base+s) 0 none))) h=some (ai,h'))(hlo:cx.lo<=cx.base) :
  ∃ u w' m',(execOp a.eval o).run P w=.ok (.value u) w'/\Step cx.lo w m h w' m' (h'.set (cx.base+s) (ai,.ax (dO.at (cx.base+s) (.fM (cx.base+s) ai none)) (.fO (.fM (cx.base+s) ai none))))/\Inv w' m' (h'.set (cx.base+s) (ai,.ax (dO.at (cx.base+s) (.fM (cx.base+s) ai none)) (.fO (.fM (cx.base+s) ai none)))) /\
   R w' (Live m' (h'.set (cx.base+s) (ai,.ax (dO.at (cx.base+s) (.fM (cx.base+s) ai none)) (.fO (.fM (cx.base+s) ai none))))) m' (h'.set (cx.base+s) (ai,.ax (dO.at (cx.base+s) (.fM (cx.base+s) ai none)) (.fO (.fM (cx.base+s) ai none)))) (.dY (cx.base+s) ai) u:=by
 simp only[fw]at hk;split at hk
 ·rename_i t hop;simp only[bM,beq_iff_eq]at hk;obtain⟨rfl,hk⟩:=hk
  obtain⟨i,hi1,hi2⟩:∃ i,P.info? dH.rD=some i/\i.zero=some (.agg #[.pointer none,.slice none 0 0]):=by
   cases hq:P.info? dH.rD with
   |none=>simp[hq]at hk
   |some i =>
    simp only[hq]at hk;refine⟨i,rfl, ?_⟩;simp at hk;split at hk
    ·assumption
    ·cases hk
  have hm2:fB cx s (.ax (dO.at (cx.base+s) (.fM (cx.base+s) ai none)) (.fO (.fM (cx.base+s) ai none))) h=some (ai,h'.set (cx.base+s) (ai,.ax (dO.at (cx.base+s) (.fM (cx.base+s) ai none)) (.fO (.fM (cx.base+s) ai none)))):=by
   unfold fB at hm⊢;split at hm
   ·rename_i hc;rw[if_pos ⟨hc.1,hc.2⟩];split at hm
    ·rename_i v0 b0 hid;simp only[aS,aB]at hm;obtain⟨rfl,rfl⟩:=hm;simp
    ·cases hm
   ·cases hm
  obtain⟨v0,iI,b0,p,e,_⟩:=Rv hi hm2 (ER w (.cells #[.pointer none,.slice none 0 0] dH.rD)) (bC _);rw[e];refine⟨.pointer (some ⟨w.heap.size,0,none⟩),w.alloc (.cells #[.pointer none,.slice none 0 0] dH.rD),_, ?_,p.step (by omega),p.EM (fun h=>by cases h) (fun d st e=>?_), ?_⟩
  ·simp[execOp,hop,Instr.alloc,zeroValue,typeInfo,hi1,hi2,newVar,newRow,Value.cells]
  ·cases e;exact⟨_,heap_alloc_new w _,by simp only[dO.at,vV];have:=(dQ.mp p.hid).1;omega,rfl,w.heap.size,_,_,rfl,.inl rfl,⟨ai,_,p.hset,bC _,fun _ d st e=>by cases e;exact⟨rfl,p.oM⟩⟩,rfl⟩
  ·simp only[R];exact⟨2,w.heap.size,rfl,ai,_,p.hset,bC _,fun _ d st e=>by cases e;exact⟨rfl,p.oM⟩⟩
 ·cases hk
theorem agc{s f:Nat}{x y:aL}(hi:Inv w m h)(he:jb w m h env a)(hk:fw P o (.yc s f x y)=true){v:AV}{h':Heap}(hx:yj cx s (x.ev env) (y.ev env) h=some (v,h'))(hlo:cx.lo<=cx.base)(hc:∀ f,dH.Jy f=true->Kg P f) :
  ∃ vs : List Value, Enters P f ∧ (∀ fn, P.funcs[f]? = some fn → fn.name ≠ "runtime.NumGoroutine" → fn.body.isSome = true → (execOp a.eval o).run P w = .ok (.enter f vs.toArray) w) ∧
   Calls P f vs.toArray w fun e w'=>∃ u m',e=.returned u/\Step cx.lo w m h w' m' h'/\Inv w' m' h'/\R w' (Live m' h') m' h' v u:=by
 simp only[fw]at hk;split at hk
 ·rename_i _ g p q vt hop;simp only[bM,beq_iff_eq]at hk;obtain⟨⟨⟨rfl,k1⟩,k2⟩,k3⟩:=hk;obtain⟨hen,hcall⟩:=hc g k1;have rx:=iQ he k2;have ry:=iQ he k3;refine⟨[a.eval p,a.eval q],hen,fun fn hfn hname hbody=>?_, ?_⟩
  ·have hb':fn.body.isNone=false:=by cases ET:fn.body<;>simp_all
   have hg:a.eval (.func g)=.func (.func g) #[] #[]:=rfl;simp only[execOp,hop,resolve,Deferred.ofValue,hg,invoke,callFunc,Sem.run_bind,Sem.run_pure,Result.andThen_ok,run_program,hfn];simp[hname,hb']
  ·unfold yj at hx;split at hx
   ·rename_i id ai l ex ey;rw[ex]at rx;rw[ey,uJ]at ry;split at hx
    ·rename_i v1 d me mv lk hid;split at hx
     ·rename_i hcond;obtain⟨rfl,rfl,rfl,RD⟩:=hcond;obtain⟨b,p0,sv,hu,hm,hb,hp0,hd0,hlk⟩:=X0 hi rx hid;rw[hu,ry]
      have X8:∀{w':World} {m':Map} {h':Heap},R w' (Live m' h') m' h' (.tuple [.int .i64 l.length,.j6]) (.tuple #[.int .i64 l.length,.nilIface]):=by
       intro w' m' h';simp only[R,RL,RC];exact⟨[.int .i64 l.length,.nilIface],rfl,_,_,rfl,rfl,_,_,rfl,rfl,rfl⟩
      split at hx
      ·split at hx
       ·cases hx
       ·rename_i hl;split at hx
        ·rename_i hcond;obtain⟨⟨v2,h1⟩,hmk,he2⟩:=mE.mp hx;simp only[aB]at he2;obtain⟨rfl,rfl⟩:=he2;simp only[BX]at hlk;subst hlk;have hown:w.ownsRowF 0 dH.yw 1 (.slice none 0 0) ([]:List UInt8).length (Lib.byteCells []):=⟨rfl,.inl ⟨rfl,rfl⟩⟩;refine(hcall w b p0 _ [] l hb hp0 hown (by simp[Value.ownBlock]) (by simpa using hcond.1)).mono ?_
         rintro e w' ⟨rfl,hf,v',hb',ho',hvb,hfr⟩
         obtain⟨v0,iI,lg,rfl,rfl⟩:∃ v0 iI,h[cx.base+s]?=some (v0,iI)/\v0+1=v2/\h.set (cx.base+s) (v0+1,.ax (dO.at (cx.base+s) (.buf l)) (.fO (.buf l)))=h1:=by
          unfold fB at hmk;split at hmk
          ·split at hmk
           ·rename_i v0 iI mP;simp only[aS,aB]at hmk;exact⟨v0,iI,mP,hmk.1,hmk.2⟩
           ·cases hmk
          ·cases hmk
         obtain⟨b0,hm2⟩:=Gt hi.len lg
         have agd:(v'.ownBlock=none/\(none:Option Nat)≠none)\/∀ g',v'.ownBlock=some g'->w.heap.size<=g':=by
          rcases hfr with hfr|hfr
          ·right;intro g' hg';rw[hfr]at hg';simp[Value.ownBlock]at hg'
          ·exact .inr hfr
         simp only[List.length_nil,oO,List.nil_append]at ho';obtain⟨m',s1,i1⟩:=X7 (lo:=cx.lo) (d2:=dO.at (cx.base+s) (.buf l)) hi hd0 ⟨by have:=(dQ.mp lg).1;simp only[dO.at];omega,rfl⟩ RD (by omega) (Ne.symm hcond.2.1) hid hm hb lg hm2 (Nat.lt_succ_self v0) (.inl rfl) hf hb' ho' hl hvb agd
         exact⟨_,m',rfl,s1,i1,X8⟩
        ·cases hx
      ·rename_i id2 mY;split at hx
       ·rename_i v2 d2 l0 lg;split at hx
        ·rename_i hcond;obtain⟨rfl,hne,hlo2,hl0,hlim,_⟩:=hcond;simp only[aS,aB]at hx;obtain⟨rfl,rfl⟩:=hx;obtain⟨g,cap,rfl,EU,hdd,hbs,hown,_⟩:=X3 hi hlk lg;have hgb:g≠b:=fun e=>hne (hi.inj id2 me _ _ _ _ b lg (by simp) (e▸EU) hid (by simp) hm)
         refine(hcall w b p0 _ l0 l hb hp0 hown (by simp[Value.ownBlock,hgb]) hlim).mono ?_
         rintro e w' ⟨rfl,hf,v',hb',ho',hvb,hfr⟩;rw[<-jm]at ho'
         obtain⟨m',s1,i1⟩:=X7 (lo:=cx.lo) (l:=l0++l) hi hd0 hdd RD hlo2 hne hid hm hb lg EU (Nat.lt_succ_self v2) (.inr ⟨rfl,by simp⟩) hf hb' ho' (by simp[hl0]) hvb (by
          rcases hfr with hfr|hfr
          ·exact .inl ⟨hfr,by simp⟩
          ·exact .inr hfr)
         exact⟨_,m',rfl,s1,i1,X8⟩
        ·cases hx
       ·cases hx
     ·cases hx
    ·cases hx
   ·cases hx
 ·cases hk
theorem agf{f:Nat}{x:aL}(hi:Inv w m h)(he:jb w m h env a)(hk:fw P o (.yg f x)=true){v:AV}(hx:BQ cx (x.ev env) h=some v)(hc:∀ f,dH.Jz f=true->Kh P f) :
  ∃ vs : List Value, Enters P f ∧ (∀ fn, P.funcs[f]? = some fn → fn.name ≠ "runtime.NumGoroutine" → fn.body.isSome = true → (execOp a.eval o).run P w = .ok (.enter f vs.toArray) w) ∧
   Calls P f vs.toArray w fun e w'=>∃ u m',e=.returned u/\Step cx.lo w m h w' m' h/\Inv w' m' h/\R w' (Live m' h) m' h v u:=by
 simp only[fw]at hk;split at hk
 ·rename_i _ g p vt hop;simp only[bM,beq_iff_eq]at hk;obtain⟨⟨rfl,k1⟩,k2⟩:=hk;obtain⟨hen,hcall⟩:=hc g k1;have rx:=iQ he k2;refine⟨[a.eval p],hen,fun fn hfn hname hbody=>?_, ?_⟩
  ·have hb':fn.body.isNone=false:=by cases ET:fn.body<;>simp_all
   have hg:a.eval (.func g)=.func (.func g) #[] #[]:=rfl;simp only[execOp,hop,resolve,Deferred.ofValue,hg,invoke,callFunc,Sem.run_bind,Sem.run_pure,Result.andThen_ok,run_program,hfn];simp[hname,hb']
  ·unfold BQ at hx;split at hx
   ·rename_i id ai ex;rw[ex]at rx;split at hx
    ·rename_i v1 d me mv lk hid;split at hx
     ·rename_i hcond;obtain⟨rfl,rfl,rfl,RD⟩:=hcond;obtain⟨b,p0,sv,hu,hm,hb,hp0,hd0,hlk⟩:=X0 hi rx hid;rw[hu];split at hx
      ·simp only[aS]at hx;subst hx;simp only[BX]at hlk;subst hlk;have hown:w.ownsRowF 0 dH.yw 1 (.slice none 0 0) ([]:List UInt8).length (Lib.byteCells []):=⟨rfl,.inl ⟨rfl,rfl⟩⟩;refine(hcall w b p0 _ [] hb hp0 hown (by simp[Value.ownBlock]) (fun _=>rfl)).mono ?_
       rintro e w' ⟨rfl,hf,hb',_⟩
       have hbel:RowKit.Below w.heap.size w w':=⟨hf.os,hf.tape,hf.output,hf.size,fun k hk=>by
        by_cases hkb:k=b
        ·rw[hkb,hb']
        ·exact hf.old k hk hkb (by simp[Value.ownBlock])⟩
       exact⟨_,m,rfl,Ay hi hbel,BZ hi hbel,uJ.mpr rfl⟩
      ·rename_i id2 mY;split at hx
       ·rename_i v2 d2 l lg;split at hx
        ·rename_i hcond;obtain⟨rfl,hne,hlo2,hl0⟩:=hcond;simp only[aS]at hx;subst hx;obtain⟨g,cap,rfl,EU,hdd,hbs,hown,_⟩:=X3 hi hlk lg;have hgb:g≠b:=fun e=>hne (hi.inj id2 me _ _ _ _ b lg (by simp) (e▸EU) hid (by simp) hm)
         refine(hcall w b p0 _ l hb hp0 hown (by simp[Value.ownBlock,hgb]) (fun h=>absurd h hl0)).mono ?_
         rintro e w' ⟨rfl,hf,hb',ho'⟩;obtain⟨g',cap',cur,fz,e1,_,hcur,f1,f2,f3,f4,f5⟩:=X4 ho' (by simpa using hl0)
         cases e1;have hmm:=X5 EU
         have hset:h.set id2 (v2,.ax d2 (.fO (.buf l)))=h:=by
          refine zC fun j=>?_;by_cases hj:j=id2
          ·subst hj;rw[rJ (dQ.mp lg).1,lg]
          ·rw[iH (by omega)]
         have pp:Put w m h id2 v2 (.ax d2 (.fO (.buf l))) g w' v2 (.ax d2 (.fO (.buf l))) g:=by
          refine⟨hi,lg,EU,hf.os,hf.tape,hf.output,hf.size,fun k hk e=>?_,bC _,.inr (.inl ⟨rfl,by simp⟩),fun _=>.inr (.inr (.inl ⟨_,_,_,_,rfl,rfl,by rw[hmm],rfl,fun l' e=>⟨e,fun b' hb2=>?_⟩⟩))⟩
          ·by_cases hkb:k=b
           ·rw[hkb,hb']
           ·exact hf.old k hk hkb fun e'=>by cases e';have:=e rfl;cases this
          ·rw[EU]at hb2;cases hb2;rw[hbs];simp only[bsize,hcur];exact f4
         have s1:=pp.step (lo:=cx.lo) hlo2
         have i1:=pp.EM (fun h=>by cases h) (fun d st e=>by
          cases e;exact⟨_,hcur,by simpa using hdd.1,hdd.2,cur,fz,rfl,f1,f2,f3,f5⟩)
         rw[hmm,hset]at s1 i1;exact⟨_,m,rfl,s1,i1,uJ.mpr rfl⟩
        ·cases hx
       ·cases hx
     ·cases hx
    ·cases hx
   ·cases hx
 ·cases hk
end
end Go.VI
