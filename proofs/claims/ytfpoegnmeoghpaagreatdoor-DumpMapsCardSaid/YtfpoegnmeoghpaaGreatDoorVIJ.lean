/- append; slices and structs written out. -/
import Derived.Test.YtfpoegnmeoghpaaGreatDoorVII
set_option linter.unusedVariables false
set_option linter.unusedSimpArgs false
namespace Go.VI
set_option linter.unusedSectionVars false
variable [dH][Rounds]
section
variable {w:World}{m:Map}{h:Heap}{P:Program}{env:Env}{a:Act}{o:Oper}{X:Nat->Prop}
structure Src(P:Program)(w:World)(X:Nat->Prop)(z:Nat)(xs:List AV)(x:Value) where
 news:List Value
 len:news.length=xs.length*z
 one:ones news
 arr:jy w X z xs news
 lenOf:∀ w2,(Builtin.lenOf x).run P w2=.ok xs.length w2
 first:∀ w2:World,w2.heap=w.heap->(Builtin.firstCells z xs.length x).run P w2=.ok news.toArray w2
theorem RA{w w2:World}(h:w2.heap=w.heap)(p:Addr):w2.cell? p=w.cell? p:=by simp[World.cell?,h]
theorem Ce{z:Nat}{a':Option Addr}{len cap:Nat}{vs:List Value}(n:Nat)(hl:vs.length=n*z)(hmem:vs=[]\/∃ b off,a'=some ⟨b,off,none⟩/\Av w b off vs) :
  (Builtin.firstCells z n (.slice a' len cap)).run P w=.ok vs.toArray w:=by
 cases a' with
 |none =>
  rcases hmem with rfl|⟨_,_,e,_⟩
  ·simp[Builtin.firstCells]
  ·cases e
 |some ad =>
  refine run_firstCells_some (P:=P) w z n ad len cap vs hl ?_;rcases hmem with rfl|⟨b,off,e,hm⟩
  ·intro j v hj;simp at hj
  ·cases e;intro j v hj;rw[add_plain];exact hm j v hj
theorem afH{z:Nat}{xs:List AV}{x:Value}(hs:WY w X z xs x):Nonempty (Src P w X z xs x):=by
 obtain⟨a',cap,rfl,hc,hmem⟩:=hs;by_cases hn:xs=[]
 ·subst hn;refine⟨⟨[],by simp,fun _ h=>by simp at h,by simp[jy],fun w2=>by simp[Builtin.lenOf],fun w2 hw=>?_⟩⟩
  exact Ce 0 (by simp) (.inl rfl)
 ·obtain⟨b,off,rfl,hb,h0,hE⟩:=hmem.resolve_left hn;obtain⟨vs,g1,g2,g3,g4⟩:=J9 xs b off hE;refine⟨⟨vs,g1,g2,g4,fun w2=>by simp[Builtin.lenOf],fun w2 hw=>?_⟩⟩
  exact Ce xs.length g1 (.inr ⟨b,off,rfl,fun j v hj=>(RA hw _).trans (g3 j v hj)⟩)
theorem afI{l:List UInt8}:Nonempty (Src P w X 1 (l.map fun b=>.int .u8 b.toNat) (.string ⟨l.toArray⟩)):=by
 refine⟨⟨l.map fun b=>Value.int .u8 b.toNat,by simp,fun u hu=>?_, ?_,fun w2=>by simp[Builtin.lenOf,ByteArray.size],fun w2 hw=>?_⟩⟩
 ·obtain⟨b,_,rfl⟩:=List.mem_map.mp hu;rfl
 ·refine⟨by simp,fun i e he=>?_⟩
  rw[List.getElem?_map]at he;obtain⟨b,hb,rfl⟩:=mE.mp he;refine⟨.int .u8 b.toNat,by simp[RC],rfl,fun u hu=>by simp[Value.cells]at hu;subst hu;rfl,fun j u hj=>?_⟩
  cases j with
  |zero=>simp[Value.cells]at hj;subst hj;simp[hb]
  |succ j=>simp[Value.cells]at hj
 ·simp only[Builtin.firstCells,Sem.run_pure];congr 1;apply Array.ext';simp[Xu]
theorem afJ{t u ty e:TypeId}{i:TypeInfo}{zv:Value}{d:TypeDesc}(ht:P.underlying t=some (.slice e))(hu:P.underlying u=some d)(hd:(∃ e2,d=.slice e2)\/d=.string)(hi:P.info? e=some i)(hz:i.zero=some zv)
  {base:Option Addr} {sLen sCap:Nat} {olds:List Value} (hold:∀ w2:World,w2.heap=w.heap->(Builtin.firstCells i.size sLen (.slice base sLen sCap)).run P w2=.ok olds.toArray w2)
  {xs:List AV} {x:Value} (src:Src P w X i.size xs x) (hg:sCap<sLen+xs.length) {lim:Nat} (hl1:lim*i.bytes<=140737488355328) (hl2:lim<=140737488355328) (hle:sLen+xs.length<=lim) :
  ∃ cap,sLen+xs.length<=cap/\(Builtin.append_ #[t,u] ty #[.slice base sLen sCap,x]).run P w =
   .ok (.slice (some ⟨w.heap.size,0,none⟩) (sLen+xs.length) cap) (w.drew.alloc (.cells (olds++src.news++(Builtin.zeroCells zv.cells (cap-(sLen+xs.length))).toList).toArray e)):=by
 refine⟨grownCap w (sLen+xs.length) sCap e,grownCap_ge _ _ _ _, ?_⟩;have hn:¬ (sLen+xs.length<=sCap):=by omega
 have afK:(sLen+xs.length)*i.bytes<=140737488355328:=ng (qD _ hle) hl1;have h48:=growslice_fits hg afK;have h63':¬ (9223372036854775807<((sLen:Int)+(xs.length:Int))):=by omega
 have h48':¬ (281474976710656<Builtin.nextslicecap (sLen+xs.length) sCap*i.bytes):=by omega
 have hf:=src.first w.drew rfl;have hfo:=hold w.drew rfl;have hlen:=src.lenOf w;rcases hd with⟨e2,rfl⟩|rfl
 ·simp[Builtin.append_,run_underlying ht,run_underlying hu,sizeOf,typeInfo,zeroValue,hi,hz,hlen,hn,h63',h48',Question.forced,hf,hfo,newRow,grownCap];congr 2;apply Array.ext';simp
 ·simp[Builtin.append_,run_underlying ht,run_underlying hu,sizeOf,typeInfo,zeroValue,hi,hz,hlen,hn,h63',h48',Question.forced,hf,hfo,newRow,grownCap];congr 2;apply Array.ext';simp
theorem afL{t u ty e:TypeId}{i:TypeInfo}{d:TypeDesc}(ht:P.underlying t=some (.slice e))(hu:P.underlying u=some d)(hd:(∃ e2,d=.slice e2)\/d=.string)(hi:P.info? e=some i)
  {base:Option Addr} {sLen sCap:Nat} {xs:List AV} {x:Value} (src:Src P w X i.size xs x) (hg:sLen+xs.length<=sCap) {w':World}
  (hst:∀ ad,base=some ad->(storeCells (ad.add (sLen*i.size)) src.news).run P w=.ok () w') (hno:base=none->w'=w) :
  (Builtin.append_ #[t,u] ty #[.slice base sLen sCap,x]).run P w=.ok (.slice base (sLen+xs.length) sCap) w':=by
 have hf:=src.first w rfl;have hlen:=src.lenOf w
 cases base with
 |none =>
  have:=hno rfl;subst this;rcases hd with⟨e2,rfl⟩|rfl
  ·simp[Builtin.append_,run_underlying ht,run_underlying hu,sizeOf,typeInfo,hi,hlen,hg,hf]
  ·simp[Builtin.append_,run_underlying ht,run_underlying hu,sizeOf,typeInfo,hi,hlen,hg,hf]
 |some ad =>
  have h1:=hst ad rfl;rcases hd with⟨e2,rfl⟩|rfl
  ·simp[Builtin.append_,run_underlying ht,run_underlying hu,sizeOf,typeInfo,hi,hlen,hg,hf,h1]
  ·simp[Builtin.append_,run_underlying ht,run_underlying hu,sizeOf,typeInfo,hi,hlen,hg,hf,h1]
theorem XF(w:World)(ob:Obj):RowKit.Below w.heap.size w (w.drew.alloc ob):=((RowKit.Below.refl _ _).drew).alloc (by simp) ob
theorem afM(hi:Inv w m h){x:AV}{u:Value}{z:Nat}{xs:List AV}(hr:R w (Live m h) m h x u)(hx:sP h z x=some xs):Nonempty (Src P w (Live m h) z xs u):=by
 unfold sP at hx;split at hx
 ·rename_i l;split at hx
  ·rename_i h1;subst h1;simp only[aS]at hx;subst hx;rw[uJ]at hr;subst hr;exact afI
  ·cases hx
 ·unfold oG at hx;split at hx
  ·rename_i hz;exact afH (Nu hi hr hx hz)
  ·cases hx
structure afN(w:World)(X:Nat->Prop)(z:Nat)(xs:List AV) where
 news:List Value
 len:news.length=xs.length*z
 one:ones news
 arr:jy w X z xs news
theorem afO{cx:Cx}(hi:Inv w m h){s lim:Nat}{xv:AV}{xs:List AV}{v:AV}{h':Heap}{pv:Value}{e:TypeId}{i:TypeInfo}{zv:Value}
  (hz0:0<i.size) (hzs:zv.cells.size=i.size) (rx:R w (Live m h) m h xv pv) (src:afN w (Live m h) i.size xs)
  (grow:∀ {base:Option Addr} {sLen sCap:Nat} {olds:List Value},pv=.slice base sLen sCap→(∀ w2:World,w2.heap=w.heap→(Builtin.firstCells i.size sLen (.slice base sLen sCap)).run P w2=.ok olds.toArray w2)→sCap<sLen+xs.length→sLen+xs.length≤lim →
   ∃ cap,sLen+xs.length<=cap/\(execOp a.eval o).run P w=.ok (.value (.slice (some ⟨w.heap.size,0,none⟩) (sLen+xs.length) cap)) (w.drew.alloc (.cells (olds++src.news++(Builtin.zeroCells zv.cells (cap-(sLen+xs.length))).toList).toArray e)))
  (room:∀ {base:Option Addr} {sLen sCap:Nat} {w':World},pv=.slice base sLen sCap→sLen+xs.length≤sCap→(∀ ad,base=some ad→(storeCells (ad.add (sLen * i.size)) src.news).run P w=.ok () w')→(base=none→w'=w) →
   (execOp a.eval o).run P w=.ok (.value (.slice base (sLen+xs.length) sCap)) w')
  (hv:ji cx s i.size lim xv xs h=some (v,h')) (hlo:cx.lo<=cx.base) :
  ∃ u w' m',(execOp a.eval o).run P w=.ok (.value u) w'/\Step cx.lo w m h w' m' h'/\Inv w' m' h'/\R w' (Live m' h') m' h' v u:=by
 -- a new block with the elements es,then xs
 have anew:∀{es:List AV} {ai:Nat} {h':Heap} {olds:List Value} {base:Option Addr} {sCap:Nat},pv=.slice base es.length sCap->sCap<es.length+xs.length->es.length+xs.length<=lim->olds.length=es.length*i.size ->
   jy w (Live m h) i.size es olds->(∀ w2:World,w2.heap=w.heap->(Builtin.firstCells i.size es.length (.slice base es.length sCap)).run P w2=.ok olds.toArray w2) ->
   fB cx s (.arr i.size (es++xs)) h=some (ai,h') ->
   ∃ u w' m',(execOp a.eval o).run P w=.ok (.value u) w'/\Step cx.lo w m h w' m' h'/\Inv w' m' h'/\R w' (Live m' h') m' h' (.ref (cx.base+s) ai i.size 0 (es++xs).length (es++xs).length) u:=by
  intro es ai h' olds base sCap hp hg hle hol har hold hmk;obtain⟨cap,hcap,hrun⟩:=grow hp hold hg hle
  obtain⟨m',hs,hinv,q1,q2⟩:=NH (nb:=w.heap.size) (c:=(olds++src.news++(Builtin.zeroCells zv.cells (cap-(es.length+xs.length))).toList).toArray) (ty:=e) hi hmk hlo (XF w _) (bC _) (heap_alloc_new w.drew _)
   (fun _=>⟨hz0,by simpa using Ka (rest:=(Builtin.zeroCells zv.cells (cap-(es.length+xs.length))).toList) har hol src.arr⟩)
  refine⟨_,_,m',hrun,hs,hinv, ?_⟩;simp only[R];refine⟨_,cap,by rw[jm],by rw[jm];omega,by simp,ai,_,q1,bC _,fun _ z' es' hb'=>?_⟩
  cases hb';refine⟨rfl,by simp,fun _=>⟨_,q2,.inr ⟨by simp,by rw[jm];omega, ?_⟩⟩⟩
  have hsz:bsize (w.drew.alloc (.cells (olds++src.news++(Builtin.zeroCells zv.cells (cap-(es.length+xs.length))).toList).toArray e)) w.heap.size=(olds++src.news++(Builtin.zeroCells zv.cells (cap-(es.length+xs.length))).toList).length:=by
   have:=Rw w.drew (olds++src.news++(Builtin.zeroCells zv.cells (cap-(es.length+xs.length))).toList).toArray e (0,0);simpa using this
  rw[hsz];simp only[jm,hol,src.len,Array.length_toList,size_zeroCells,hzs,<-kU,oO];exact qD _ (by omega)
 unfold ji at hv;split at hv
 ·-- the nil slice
  simp only[R,RC]at rx;split at hv
  ·rename_i hn;subst hn;simp only[aS,aB]at hv;obtain⟨rfl,rfl⟩:=hv;refine⟨.slice none 0 0,w,m, ?_,Step.refl _ _ _ _,hi,by simp[R,RC]⟩
   exact room rx (by simp) (fun _ h=>by cases h) (fun _=>rfl)
  ·rename_i hn;split at hv
   ·rename_i hle;obtain⟨⟨ai,h1⟩,hmk,hv⟩:=mE.mp hv;simp only[aB]at hv;obtain⟨rfl,rfl⟩:=hv;have hpos:0<xs.length:=by rcases vg xs.length with h|h;exact absurd (qg h) hn;exact h
    have:=anew (es:=[]) (olds:=[]) (base:=none) (sCap:=0) rx (by simpa using hpos) (by simpa using hle) (by simp) (by simp[jy]) (fun w2 _=>Ce 0 (by simp) (.inl rfl)) hmk
    simpa using this
   ·cases hv
 ·-- a slice whose capacity is its length
  rename_i z' es;simp only[R,RC]at rx;obtain⟨a',e1,h4⟩:=rx;split at hv
  ·rename_i hzz;simp only[pE,beq_iff_eq,yA]at hzz;split at hv
   ·rename_i hn;subst hn;simp only[aS,aB]at hv;obtain⟨rfl,rfl⟩:=hv;refine⟨.slice a' es.length es.length,w,m, ?_,Step.refl _ _ _ _,hi, ?_⟩
    ·have hnn:src.news=[]:=qg (by simpa using src.len)
     exact room e1 (by first|exact bC _|simp) (fun ad _=>by rw[hnn];rfl) (fun _=>rfl)
    ·simp only[R,RC];refine⟨a',rfl, ?_⟩;by_cases hes:es=[]
     ·exact .inl hes
     ·have:=hzz.resolve_right hes;subst this;exact h4
   ·rename_i hn;split at hv
    ·rename_i hle;obtain⟨⟨ai,h1⟩,hmk,hv⟩:=mE.mp hv;simp only[aB]at hv;obtain⟨rfl,rfl⟩:=hv;have hpos:0<xs.length:=by rcases vg xs.length with h|h;exact absurd (qg h) hn;exact h
     rw[jm]at hle;by_cases hes:es=[]
     ·subst hes;exact anew (es:=[]) (olds:=[]) e1 (by simpa using hpos) (by simpa using hle) (by simp) (by simp[jy]) (fun w2 _=>Ce 0 (by simp) (.inl rfl)) hmk
     ·have:=hzz.resolve_right hes;subst this;obtain⟨b,off,rfl,hb,_,h0,hE⟩:=h4.resolve_left hes;obtain⟨vs,g1,g2,g3,g4⟩:=J9 es b off hE;exact anew e1 (by omega) hle g1 g4 (fun w2 hw=>Ce _ g1 (.inr ⟨b,off,rfl,fun j v hj=>(RA hw _).trans (g3 j v hj)⟩)) hmk
    ·cases hv
  ·cases hv
 ·-- a slice of a block at work
  rename_i id ai z' off len fill;split at hv
  ·rename_i w0 BP es hid;split at hv
   ·rename_i hc;obtain⟨rfl,rfl,rfl,rfl,rfl,Dr,hle,rfl⟩:=hc;simp only[aS,aB]at hv;obtain⟨rfl,rfl⟩:=hv;have hl0:iV h (.ref id w0 i.size 0 es.length es.length)=some es:=by simp[iV,hid]
    obtain⟨a',cap,es0,e1,hc,_,mP,_,_,_,hmem⟩:=JG hi rx hl0;rw[hid]at mP;cases mP
    obtain⟨_,_,_,_,hnone,_⟩:∃ a2 cap2,pv=.slice a2 es.length cap2/\es.length<=cap2/\(a2=none->cap2=0)/\True:=by
     simp only[R]at rx;obtain⟨a2,cap2,e2,h2,h3,_⟩:=rx;exact⟨a2,cap2,e2,h2,h3,trivial⟩
    obtain⟨b,hm⟩:=Gt hi.len hid;obtain⟨b',c,ty,hm',hb,hz0',hok⟩:=hi.blk id _ _ hid (by simp)
    rw[hm]at hm';cases hm';rw[jm]at hle;by_cases hroom:es.length+xs.length<=cap
    ·-- in place
     rcases hmem with h0|⟨b2,hm2,rfl,hbl,_,hE,hfc,hsz⟩
     ·have hn1:es=[]:=qg (by omega)
      have hn2:xs=[]:=qg (by omega)
      subst hn1 hn2 h0
      have hset:h.set id (w0,.arr i.size ([]++[]))=h:=by
       refine zC fun j=>?_;by_cases hj:j=id
       ·subst hj;rw[rJ (dQ.mp hid).1,hid];rfl
       ·rw[iH (by omega)]
      rw[hset];refine⟨.slice a' 0 0,w,m, ?_,Step.refl _ _ _ _,hi, ?_⟩
      ·have hnn:src.news=[]:=qg (by simpa using src.len)
       exact room e1 (by first|exact bC _|simp) (fun ad _=>by rw[hnn];rfl) (fun _=>rfl)
      ·rw[e1]at rx;exact rx
     ·rw[hm]at hm2;cases hm2;have hbs:bsize w b=c.size:=by simp[bsize,hb]
      rw[hbs,oO]at hsz
      have hcsz:es.length*i.size+src.news.length<=c.size:=by
       rw[src.len,<-kU];exact ng (qD _ hroom) hsz
      have hst:=run_storeCells_at P b (es.length*i.size) ty src.news 0 c w hb (by omega) src.one
      simp only[Nat.add_zero]at hst
      obtain⟨s1,i1⟩:=Kb (lo:=cx.lo) (gX:=.arr i.size (es++xs)) (c':=(c.toList.take (es.length*i.size)++src.news++c.toList.drop (es.length*i.size+src.news.length)).toArray) hi hid (by simp) hm hb Dr
       (by simp; omega) (.inr ⟨i.size,es,es++xs,rfl,rfl,by simp⟩) (fun m' h' hst'=>⟨hz0',by
        refine jy.keep hst'.keep ?_;have h1:jy w (Live m h) i.size es (c.toList.take (es.length*i.size)):=afu (c:=c.toList) hok (by rw[List.take_take,Nat.min_self])
        have h2:(c.toList.take (es.length*i.size)).length=es.length*i.size:=by simp;omega
        exact Ka (rest:=c.toList.drop (es.length*i.size+src.news.length)) h1 h2 src.arr⟩)
      refine⟨.slice (some ⟨b,0*i.size,none⟩) (es.length+xs.length) cap,_,m, ?_,s1,i1, ?_⟩
      ·exact room e1 hroom (fun ad had=>by cases had;rw[add_plain];simpa using hst) (fun h=>by cases h)
      ·simp only[R];refine⟨_,cap,by rw[jm],by rw[jm];omega,by simp,w0,_,rJ (dQ.mp hid).1,bC _,fun _ z' es' hb'=>?_⟩
       cases hb';refine⟨rfl,by simp,fun _=>⟨b,hm,.inr ⟨by simp,by rw[jm];omega, ?_⟩⟩⟩
       have:bsize (w.setRow b (c.toList.take (es.length*i.size)++src.news++c.toList.drop (es.length*i.size+src.news.length)).toArray) b=c.size:=by
        unfold bsize;rw[setRow_heap w b c _ ty (0,0) hb];simp;omega
       rw[this,oO];exact hsz
    ·-- moved
     have hold:∃ olds:List Value,olds.length=es.length*i.size/\jy w (Live m h) i.size es olds/\(∀ w2:World,w2.heap=w.heap->(Builtin.firstCells i.size es.length (.slice a' es.length cap)).run P w2=.ok olds.toArray w2):=by
      rcases hmem with h0|⟨b2,hm2,rfl,hbl,_,hE,_,_⟩
      ·have hn1:es=[]:=qg (by omega)
       subst hn1;exact⟨[],by simp,by simp[jy],fun w2 _=>Ce 0 (by simp) (.inl rfl)⟩
      ·obtain⟨vs,g1,g2,g3,g4⟩:=J9 es b2 _ hE;exact⟨vs,g1,g4,fun w2 hw=>Ce _ g1 (.inr ⟨b2,_,rfl,fun j v hj=>(RA hw _).trans (g3 j v hj)⟩)⟩
     obtain⟨olds,hol,har,hold⟩:=hold;obtain⟨cap',hcap,hrun⟩:=grow e1 hold (by omega) hle
     have hbel:=XF w (.cells (olds++src.news++(Builtin.zeroCells zv.cells (cap'-(es.length+xs.length))).toList).toArray e);have afP:0<xs.length:=by omega
     have pp:Put w m h id w0 (.arr i.size es) b (w.drew.alloc (.cells (olds++src.news++(Builtin.zeroCells zv.cells (cap'-(es.length+xs.length))).toList).toArray e)) w0 (.arr i.size (es++xs)) w.heap.size :=
      ⟨hi,hid,hm,hbel.os,hbel.tape,hbel.output,hbel.size,fun k hk _=>hbel.block k hk,bC _,.inr (.inr (bC _)),
        fun _=>.inr (.inr (.inr ⟨i.size,es,es++xs,rfl,rfl,by simp,fun he=>by simp at he;subst he;simp at afP⟩))⟩
     have s1:=pp.step (lo:=cx.lo) Dr
     have i1:=pp.JA (by simp) (fun _=>⟨_,e,heap_alloc_new w.drew _,hz0,by
      refine jy.keep s1.keep ?_;simpa using Ka (rest:=(Builtin.zeroCells zv.cells (cap'-(es.length+xs.length))).toList) har hol src.arr⟩)
     refine⟨_,_,_,hrun,s1,i1, ?_⟩;simp only[R];refine⟨_,cap',by rw[jm],by rw[jm];omega,by simp,w0,_,pp.hset,bC _,fun _ z' es' hb'=>?_⟩
     cases hb';refine⟨rfl,by simp,fun _=>⟨_,pp.oM,.inr ⟨by simp,by rw[jm];omega, ?_⟩⟩⟩
     have hsz:bsize (w.drew.alloc (.cells (olds++src.news++(Builtin.zeroCells zv.cells (cap'-(es.length+xs.length))).toList).toArray e)) w.heap.size=(olds++src.news++(Builtin.zeroCells zv.cells (cap'-(es.length+xs.length))).toList).length:=by
      have:=Rw w.drew (olds++src.news++(Builtin.zeroCells zv.cells (cap'-(es.length+xs.length))).toList).toArray e (0,0);simpa using this
     rw[hsz];simp only[jm,hol,src.len,Array.length_toList,size_zeroCells,hzs,<-kU,oO];exact qD _ (by omega)
   ·cases hv
  ·cases hv
 ·cases hv
theorem XG{cx:Cx}(hi:Inv w m h)(he:jb w m h env a){s z lim:Nat}{x y:aL}{xs:List AV}{v:AV}{h':Heap}(hk:fw P o (.app s z lim x y)=true)
  (hy:sP h z (y.ev env)=some xs) (hv:ji cx s z lim (x.ev env) xs h=some (v,h')) (hlo:cx.lo<=cx.base) :
  ∃ u w' m',(execOp a.eval o).run P w=.ok (.value u) w'/\Step cx.lo w m h w' m' h'/\Inv w' m' h'/\R w' (Live m' h') m' h' v u:=by
 simp only[fw]at hk;split at hk
 ·rename_i p q t t2 hop;simp only[bM]at hk;obtain⟨⟨⟨⟨k1,k2⟩,k3⟩,k4⟩,k5⟩:=hk;obtain⟨e,i,hu,vS,rfl,hz0,hby,hlim,hse⟩:=NI k1;rw[hse]at k2;simp only[vS,Option.any_some]at k2
  obtain⟨zv,hzero,hzs⟩:∃ zv,i.zero=some zv/\zv.cells.size=i.size:=by
   cases hz:i.zero with
   |none=>simp[hz]at k2
   |some zv=>simp[hz]at k2;exact⟨zv,rfl,k2⟩
  obtain⟨d,hd1,hd2⟩:∃ d,P.underlying t2=some d/\((∃ e2,d=.slice e2)\/d=.string):=by
   simp only[pE]at k3;rcases k3 with k3|k3
   ·obtain⟨e2,he2⟩:=xh.mp k3;exact⟨_,Dp he2,.inl ⟨_,rfl⟩⟩
   ·exact⟨_,NF k3,.inr rfl⟩
  have rx:=iQ he k4;obtain⟨src⟩:=afM (P:=P) hi (iQ he k5) hy
  have Kc:∀{u':Value} {w':World},(Builtin.append_ #[t,t2] o.type #[a.eval p,a.eval q]).run P w=.ok u' w'->(execOp a.eval o).run P w=.ok (.value u') w':=by
   intro u' w' hr;simp[execOp,hop,resolve,invoke,builtin,hr]
  exact afO hi hz0 hzs rx ⟨src.news,src.len,src.one,src.arr⟩
   (fun hp hold hg hle=>by
    obtain⟨cap,hcap,hrun⟩:=afJ (P:=P) (ty:=o.type) hu hd1 hd2 vS hzero hold src hg hby hlim hle;rw[<-hp]at hrun;exact⟨cap,hcap,Kc hrun⟩)
   (fun hp hg hst hno=>Kc (by rw[hp];exact afL (P:=P) (ty:=o.type) hu hd1 hd2 vS src hg hst hno)) hv hlo
 ·cases hk
theorem XH{z n:Nat}{es:List AV}{c:List Value}(h1:jy w X z es c)(hn:n<=es.length):jy w X z (es.take n) (c.take (n*z)):=by
 have hz:n*z<=es.length*z:=qD _ hn;refine⟨by have:=h1.1;simp only[qi,zG hn];omega,fun i e he=>?_⟩
 rw[nH]at he;split at he
 ·rename_i hi;obtain⟨v,k1,k2,k3,k4⟩:=h1.2 i e he;refine⟨v,k1,k2,k3,fun j u hj=>?_⟩;have hjz:j<z:=by rw[<-k2];simpa using(dQ.mp hj).1
  have:(i+1)*z<=n*z:=qD _ hi;rw[kU]at this;rw[nH,if_pos (by omega)]
  exact k4 j u hj
 ·cases he
theorem afQ{z n:Nat}{es:List AV}{c:List Value}(h1:jy w X z es c):jy w X z (es.drop n) (c.drop (n*z)):=by
 refine⟨by have:=h1.1;simp only[List.length_drop,Nat.sub_mul];omega,fun i e he=>?_⟩
 rw[si]at he;obtain⟨v,k1,k2,k3,k4⟩:=h1.2 _ e he;refine⟨v,k1,k2,k3,fun j u hj=>?_⟩;rw[si,<-k4 j u hj,kU,Nat.add_assoc]
theorem afR{cx:Cx}(hi:Inv w m h)(he:jb w m h env a){z:Nat}{x y:aL}{ys:List AV}{v:AV}{h':Heap}(hk:fw P o (.copy z x y)=true)
  (hy:oG h z (y.ev env)=some ys) (hv:uy cx z (x.ev env) ys h=some (v,h')) :
  ∃ u w' m',(execOp a.eval o).run P w=.ok (.value u) w'/\Step cx.lo w m h w' m' h'/\Inv w' m' h'/\R w' (Live m' h') m' h' v u:=by
 simp only[fw]at hk;split at hk
 ·rename_i p q t t2 hop;simp only[bM]at hk;obtain⟨⟨k1,k4⟩,k5⟩:=hk
  obtain⟨e,he1,k1⟩:∃ e,uK P t=some e/\(P.info? e).any (fun i=>i.size==z&&decide (0<z))=true:=by
   cases hs:uK P t with
   |none=>simp[hs]at k1
   |some e=>simp only[hs]at k1;exact⟨e,rfl,k1⟩
  have hu:=Dp he1
  obtain⟨i,vS,hsz,hz0⟩:∃ i,P.info? e=some i/\i.size=z/\0<z:=by
   cases hq:P.info? e with
   |none=>simp[hq]at k1
   |some i=>simp[hq]at k1;exact⟨i,rfl,k1.1,k1.2⟩
  have rx:=iQ he k4;have ry:=iQ he k5
  obtain⟨hzy,hly⟩:jd z (y.ev env)=true/\iV h (y.ev env)=some ys:=by
   unfold oG at hy;split at hy
   ·exact⟨by assumption,hy⟩
   ·cases hy
  obtain⟨ya,NN,hys,_,afT⟩:=Nu hi ry hly hzy;generalize x.ev env=xv at rx hv;unfold uy at hv;split at hv
  ·rename_i hzx;split at hv
   ·cases hv
   ·rename_i len hlen
    obtain⟨xa,XK,hxs⟩:∃ xa XK,a.eval p=.slice xa len XK:=by
     cases xv<;>simp only[lU,reduceCtorEq,aS]at hlen<;>try subst hlen
     ·simp only[R,RC]at rx;exact⟨none,0,rx⟩
     ·simp only[R,RC]at rx;obtain⟨a',cap,e1,_⟩:=rx;exact⟨a',cap,e1⟩
     ·simp only[R,RC]at rx;obtain⟨a',e1,_⟩:=rx;exact⟨a',_,e1⟩
     ·simp only[R]at rx;obtain⟨a',cap,e1,_⟩:=rx;exact⟨a',cap,e1⟩
    have Kc:∀{u':Value} {w':World},(Builtin.copy_ #[t,t2] o.type #[a.eval p,a.eval q]).run P w=.ok u' w'->(execOp a.eval o).run P w=.ok (.value u') w':=by
     intro u' w' hr;simp[execOp,hop,resolve,invoke,builtin,hr]
    split at hv
    ·rename_i h0;simp only[aS,aB]at hv;obtain⟨rfl,rfl⟩:=hv;refine⟨.int .i64 0,w,m,Kc ?_,Step.refl _ _ _ _,hi,by simp[R,RC]⟩
     have hf:=Ce (P:=P) (w:=w) (z:=z) (a':=ya) (len:=ys.length) (cap:=NN) (vs:=[]) 0 (by simp) (.inl rfl)
     rw[hxs,hys];have hmin:Nat.min ys.length len=0:=h0;have hlo:∀ w2,(Builtin.lenOf (.slice ya ys.length NN)).run P w2=.ok ys.length w2:=fun w2=>by simp[Builtin.lenOf]
     cases xa with
     |none=>simp[Builtin.copy_,run_underlying hu,hlo,hmin,sizeOf,typeInfo,vS,hsz,hf,goInt]
     |some ad=>simp[Builtin.copy_,run_underlying hu,hlo,hmin,sizeOf,typeInfo,vS,hsz,hf,storeCells,goInt]
    ·rename_i hne;split at hv
     ·rename_i id ai z' off len' fill;simp only[lU,aS]at hlen;subst hlen;simp only[jd,beq_iff_eq]at hzx;subst hzx;split at hv
      ·rename_i w0 BP es hid;split at hv
       ·rename_i hc;obtain⟨rfl,hzz,rfl,hfit,Dr⟩:=hc;have Ru:=hzz.symm;subst Ru;simp only[aS,aB]at hv;obtain⟨rfl,rfl⟩:=hv;have hl0:iV h (.ref id w0 z off len' es.length)=some ((es.drop off).take len'):=by simp[iV,hid,hfit]
        obtain⟨a',cap,es0,e1,hcap,_,mP,_,_,_,hmem⟩:=JG hi rx hl0;rw[hid]at mP;cases mP;rw[hxs]at e1;cases e1;obtain⟨b,hm⟩:=Gt hi.len hid;obtain⟨b',c,ty,hm',hb,hz0',hok⟩:=hi.blk id _ _ hid (by simp)
        rw[hm]at hm';cases hm';obtain⟨n,hn⟩:∃ n,n=min ys.length len':=⟨_,rfl⟩;rw[<-hn]at hne⊢;rcases hmem with h0|⟨b2,hm2,rfl,hbl,_,hE,hfc,arH⟩
        ·omega
        ·rw[hm]at hm2;cases hm2;have afU:ys≠[]:=by rintro rfl;simp at hn;omega
         obtain⟨yb,yo,rfl,hyb,_,hyE⟩:=afT.resolve_left afU;obtain⟨vs,g1,g2,g3,g4⟩:=J9 ys yb yo hyE;have hnz:n*z<=ys.length*z:=qD _ (by omega)
         have hvl:(vs.take (n*z)).length=n*z:=by simp;omega
         have hf:=Ce (P:=P) (w:=w) (z:=z) (a':=some ⟨yb,yo,none⟩) (len:=ys.length) (cap:=NN) (vs:=vs.take (n*z)) n hvl (.inr ⟨yb,yo,rfl,fun j u hj=>by
          rw[nH]at hj;split at hj
          ·exact g3 j u hj
          ·cases hj⟩)
         have hcz:(off+n)*z<=c.size:=by
          have h1:=hok.1;have h2:(off+n)*z<=es.length*z:=qD _ (by omega)
          simpa using ng h2 h1
         have hst:=run_storeCells_at P b (off*z) ty (vs.take (n*z)) 0 c w hb (by rw[hvl,Nat.add_zero,<-kU];exact hcz) (fun u hu=>g2 u (zH hu))
         simp only[Nat.add_zero]at hst;have arI:(es.take off++ys.take n++es.drop (off+n)).length=es.length:=by simp;omega
         obtain⟨s1,i1⟩:=Kb (lo:=cx.lo) (gX:=.arr z (es.take off++ys.take n++es.drop (off+n))) (c':=(c.toList.take (off*z)++vs.take (n*z)++c.toList.drop (off*z+(vs.take (n*z)).length)).toArray) hi hid (by simp) hm hb Dr
          (by rw [kU] at hcz; simp; omega) (.inr ⟨z,es,_,rfl,rfl,by omega⟩) (fun m' h' hst'=>⟨hz0',by
           refine jy.keep hst'.keep ?_;have q1:jy w (Live m h) z (es.take off) (c.toList.take (off*z)):=XH hok (by omega)
           have q2:jy w (Live m h) z (ys.take n) (vs.take (n*z)):=XH g4 (by omega)
           have q3:jy w (Live m h) z (es.drop (off+n)) (c.toList.drop ((off+n)*z)):=afQ hok
           have l1:(c.toList.take (off*z)).length=(es.take off).length*z:=by
            rw[kU]at hcz;rw[qi,qi,zG (by simp;omega),zG (by omega)]
           have q4:=Ka (rest:=[]) q1 l1 q2;rw[nI]at q4
           have l2:(c.toList.take (off*z)++vs.take (n*z)).length=(es.take off++ys.take n).length*z:=by
            rw[jm,jm,l1,hvl,kU,qi (l:=ys),zG (a:=n) (by omega)]
           have q5:=Ka (rest:=[]) q4 l2 q3;rw[nI]at q5;rw[hvl,<-kU];exact q5⟩)
         refine⟨.int .i64 n,_,m,Kc ?_,s1,i1,by simp[R,RC]⟩
         rw[hxs,hys];have hmin:Nat.min ys.length len'=n:=hn.symm;have hlo:∀ w2,(Builtin.lenOf (.slice (some ⟨yb,yo,none⟩) ys.length NN)).run P w2=.ok ys.length w2:=fun w2=>by simp[Builtin.lenOf]
         simp[Builtin.copy_,run_underlying hu,hlo,hmin,sizeOf,typeInfo,vS,hsz,hf,hst,goInt]
       ·cases hv
      ·cases hv
     ·cases hv
  ·cases hv
 ·cases hk
end
end Go.VI
