/- append; slices and structs written out. -/
import Derived.Test.YtfpoegnmeoghpaaGreatDoorVII
set_option linter.unusedVariables false
set_option linter.unusedSimpArgs false
namespace Go.VI
set_option linter.unusedSectionVars false
variable [kH][Rounds]
section
variable {w:World}{m:Map}{h:Heap}{P:Program}{env:Env}{a:Act}{o:Oper}{X:Nat->Prop}
structure Src(P:Program)(w:World)(X:Nat->Prop)(z:Nat)(xs:List AV)(x:Value) where
 news:List Value
 len:news.length=xs.length*z
 one:ones news
 arr:xC w X z xs news
 lenOf:∀ w2,(Builtin.lenOf x).run P w2=.ok xs.length w2
 first:∀ w2:World,w2.heap=w.heap->(Builtin.firstCells z xs.length x).run P w2=.ok news.toArray w2
theorem arX{w w2:World}(h:w2.heap=w.heap)(p:Addr):w2.cell? p=w.cell? p:=by simp[World.cell?,h]
theorem ab7{z:Nat}{a':Option Addr}{len cap:Nat}{vs:List Value}(n:Nat)(hl:vs.length=n*z)(hmem:vs=[]\/∃ b off,a'=some ⟨b,off,none⟩/\abo w b off vs) :
  (Builtin.firstCells z n (.slice a' len cap)).run P w=.ok vs.toArray w:=by
 cases a' with
 |none =>
  rcases hmem with rfl|⟨_,_,e,_⟩
  ·simp[Builtin.firstCells]
  ·cases e
 |some ad =>
  refine run_firstCells_some (P:=P) w z n ad len cap vs hl ?_;rcases hmem with rfl|⟨b,off,e,hm⟩
  ·intro j v hj;simp at hj
  ·cases e;intro j v hj;rw[add_plain];exact hm j v hj
theorem aEP{z:Nat}{xs:List AV}{x:Value}(hs:axE w X z xs x):Nonempty (Src P w X z xs x):=by
 obtain⟨a',cap,rfl,hc,hmem⟩:=hs;by_cases hn:xs=[]
 ·subst hn;refine⟨⟨[],by simp,fun _ h=>by simp at h,by simp[xC],fun w2=>by simp[Builtin.lenOf],fun w2 hw=>?_⟩⟩
  exact ab7 0 (by simp) (.inl rfl)
 ·obtain⟨b,off,rfl,hb,h0,hE⟩:=hmem.resolve_left hn;obtain⟨vs,g1,g2,g3,g4⟩:=alx xs b off hE;refine⟨⟨vs,g1,g2,g4,fun w2=>by simp[Builtin.lenOf],fun w2 hw=>?_⟩⟩
  exact ab7 xs.length g1 (.inr ⟨b,off,rfl,fun j v hj=>(arX hw _).trans (g3 j v hj)⟩)
theorem aEQ{l:List UInt8}:Nonempty (Src P w X 1 (l.map fun b=>.int .u8 b.toNat) (.string ⟨l.toArray⟩)):=by
 refine⟨⟨l.map fun b=>Value.int .u8 b.toNat,by simp,fun u hu=>?_, ?_,fun w2=>by simp[Builtin.lenOf,ByteArray.size],fun w2 hw=>?_⟩⟩
 ·obtain⟨b,_,rfl⟩:=List.mem_map.mp hu;rfl
 ·refine⟨by simp,fun i e he=>?_⟩
  rw[List.getElem?_map]at he;obtain⟨b,hb,rfl⟩:=mE.mp he;refine⟨.int .u8 b.toNat,by simp[RC],rfl,fun u hu=>by simp[Value.cells]at hu;subst hu;rfl,fun j u hj=>?_⟩
  cases j with
  |zero=>simp[Value.cells]at hj;subst hj;simp[hb]
  |succ j=>simp[Value.cells]at hj
 ·simp only[Builtin.firstCells,Sem.run_pure];congr 1;apply Array.ext';simp[axY]
theorem aER{t u ty e:TypeId}{i:TypeInfo}{zv:Value}{d:TypeDesc}(ht:P.underlying t=some (.slice e))(hu:P.underlying u=some d)(hd:(∃ e2,d=.slice e2)\/d=.string)(hi:P.info? e=some i)(hz:i.zero=some zv)
  {base:Option Addr} {sLen sCap:Nat} {olds:List Value} (hold:∀ w2:World,w2.heap=w.heap->(Builtin.firstCells i.size sLen (.slice base sLen sCap)).run P w2=.ok olds.toArray w2)
  {xs:List AV} {x:Value} (src:Src P w X i.size xs x) (hg:sCap<sLen+xs.length) {lim:Nat} (hl1:lim*i.bytes<=140737488355328) (hl2:lim<=140737488355328) (hle:sLen+xs.length<=lim) :
  ∃ cap,sLen+xs.length<=cap/\(Builtin.append_ #[t,u] ty #[.slice base sLen sCap,x]).run P w =
   .ok (.slice (some ⟨w.heap.size,0,none⟩) (sLen+xs.length) cap) (w.drew.alloc (.cells (olds++src.news++(Builtin.zeroCells zv.cells (cap-(sLen+xs.length))).toList).toArray e)):=by
 refine⟨grownCap w (sLen+xs.length) sCap e,grownCap_ge _ _ _ _, ?_⟩;have hn:¬ (sLen+xs.length<=sCap):=by omega
 have aES:(sLen+xs.length)*i.bytes<=140737488355328:=Np (JX _ hle) hl1;have h48:=growslice_fits hg aES;have h63':¬ (9223372036854775807<((sLen:Int)+(xs.length:Int))):=by omega
 have h48':¬ (281474976710656<Builtin.nextslicecap (sLen+xs.length) sCap*i.bytes):=by omega
 have hf:=src.first w.drew rfl;have hfo:=hold w.drew rfl;have hlen:=src.lenOf w;rcases hd with⟨e2,rfl⟩|rfl
 ·simp[Builtin.append_,run_underlying ht,run_underlying hu,sizeOf,typeInfo,zeroValue,hi,hz,hlen,hn,h63',h48',Question.forced,hf,hfo,newRow,grownCap];congr 2;apply Array.ext';simp
 ·simp[Builtin.append_,run_underlying ht,run_underlying hu,sizeOf,typeInfo,zeroValue,hi,hz,hlen,hn,h63',h48',Question.forced,hf,hfo,newRow,grownCap];congr 2;apply Array.ext';simp
theorem aET{t u ty e:TypeId}{i:TypeInfo}{d:TypeDesc}(ht:P.underlying t=some (.slice e))(hu:P.underlying u=some d)(hd:(∃ e2,d=.slice e2)\/d=.string)(hi:P.info? e=some i)
  {base:Option Addr} {sLen sCap:Nat} {xs:List AV} {x:Value} (src:Src P w X i.size xs x) (hg:sLen+xs.length<=sCap) {w':World}
  (hst:∀ ad,base=some ad->(storeCells (ad.add (sLen*i.size)) src.news).run P w=.ok () w') (hno:base=none->w'=w) :
  (Builtin.append_ #[t,u] ty #[.slice base sLen sCap,x]).run P w=.ok (.slice base (sLen+xs.length) sCap) w':=by
 have hf:=src.first w rfl;have hlen:=src.lenOf w
 cases base with
 |none =>
  have:=hno rfl;subst this;rcases hd with⟨e2,rfl⟩|rfl
  ·simp[Builtin.append_,run_underlying ht,run_underlying hu,sizeOf,typeInfo,hi,hlen,hg,hf]
  ·simp[Builtin.append_,run_underlying ht,run_underlying hu,sizeOf,typeInfo,hi,hlen,hg,hf]
 |some ad =>
  have h1:=hst ad rfl;rcases hd with⟨e2,rfl⟩|rfl
  ·simp[Builtin.append_,run_underlying ht,run_underlying hu,sizeOf,typeInfo,hi,hlen,hg,hf,h1]
  ·simp[Builtin.append_,run_underlying ht,run_underlying hu,sizeOf,typeInfo,hi,hlen,hg,hf,h1]
theorem ax'(w:World)(ob:Obj):RowKit.Below w.heap.size w (w.drew.alloc ob):=((RowKit.Below.refl _ _).drew).alloc (by simp) ob
theorem aEU(hi:Inv w m h){x:AV}{u:Value}{z:Nat}{xs:List AV}(hr:R w (Live m h) m h x u)(hx:Rf h z x=some xs):Nonempty (Src P w (Live m h) z xs u):=by
 unfold Rf at hx;split at hx
 ·rename_i l;split at hx
  ·rename_i h1;subst h1;simp only[dz]at hx;subst hx;rw[RB]at hr;subst hr;exact aEQ
  ·cases hx
 ·unfold JH at hx;split at hx
  ·rename_i hz;exact aEP (anw hi hr hx hz)
  ·cases hx
structure aEV(w:World)(X:Nat->Prop)(z:Nat)(xs:List AV) where
 news:List Value
 len:news.length=xs.length*z
 one:ones news
 arr:xC w X z xs news
theorem aEW{cx:Cx}(hi:Inv w m h){s lim:Nat}{xv:AV}{xs:List AV}{v:AV}{h':Heap}{pv:Value}{e:TypeId}{i:TypeInfo}{zv:Value}
  (hz0:0<i.size) (hzs:zv.cells.size=i.size) (rx:R w (Live m h) m h xv pv) (src:aEV w (Live m h) i.size xs)
  (grow:∀ {base:Option Addr} {sLen sCap:Nat} {olds:List Value},pv=.slice base sLen sCap→(∀ w2:World,w2.heap=w.heap→(Builtin.firstCells i.size sLen (.slice base sLen sCap)).run P w2=.ok olds.toArray w2)→sCap<sLen+xs.length→sLen+xs.length≤lim →
   ∃ cap,sLen+xs.length<=cap/\(execOp a.eval o).run P w=.ok (.value (.slice (some ⟨w.heap.size,0,none⟩) (sLen+xs.length) cap)) (w.drew.alloc (.cells (olds++src.news++(Builtin.zeroCells zv.cells (cap-(sLen+xs.length))).toList).toArray e)))
  (room:∀ {base:Option Addr} {sLen sCap:Nat} {w':World},pv=.slice base sLen sCap→sLen+xs.length≤sCap→(∀ ad,base=some ad→(storeCells (ad.add (sLen * i.size)) src.news).run P w=.ok () w')→(base=none→w'=w) →
   (execOp a.eval o).run P w=.ok (.value (.slice base (sLen+xs.length) sCap)) w')
  (hv:wG cx s i.size lim xv xs h=some (v,h')) (hlo:cx.lo<=cx.base) :
  ∃ u w' m',(execOp a.eval o).run P w=.ok (.value u) w'/\Step cx.lo w m h w' m' h'/\Inv w' m' h'/\R w' (Live m' h') m' h' v u:=by
 -- a new block with the elements es,then xs
 have anew:∀{es:List AV} {ak:Nat} {h':Heap} {olds:List Value} {base:Option Addr} {sCap:Nat},pv=.slice base es.length sCap->sCap<es.length+xs.length->es.length+xs.length<=lim->olds.length=es.length*i.size ->
   xC w (Live m h) i.size es olds->(∀ w2:World,w2.heap=w.heap->(Builtin.firstCells i.size es.length (.slice base es.length sCap)).run P w2=.ok olds.toArray w2) ->
   mK cx s (.arr i.size (es++xs)) h=some (ak,h') ->
   ∃ u w' m',(execOp a.eval o).run P w=.ok (.value u) w'/\Step cx.lo w m h w' m' h'/\Inv w' m' h'/\R w' (Live m' h') m' h' (.ref (cx.base+s) ak i.size 0 (es++xs).length (es++xs).length) u:=by
  intro es ak h' olds base sCap hp hg hle hol har hold hmk;obtain⟨cap,hcap,hrun⟩:=grow hp hold hg hle
  obtain⟨m',hs,hinv,q1,q2⟩:=anI (nb:=w.heap.size) (c:=(olds++src.news++(Builtin.zeroCells zv.cells (cap-(es.length+xs.length))).toList).toArray) (ty:=e) hi hmk hlo (ax' w _) (iJ _) (heap_alloc_new w.drew _)
   (fun _=>⟨hz0,by simpa using aly (rest:=(Builtin.zeroCells zv.cells (cap-(es.length+xs.length))).toList) har hol src.arr⟩)
  refine⟨_,_,m',hrun,hs,hinv, ?_⟩;simp only[R];refine⟨_,cap,by rw[uG],by rw[uG];omega,by simp,ak,_,q1,iJ _,fun _ z' es' hb'=>?_⟩
  cases hb';refine⟨rfl,by simp,fun _=>⟨_,q2,.inr ⟨by simp,by rw[uG];omega, ?_⟩⟩⟩
  have hsz:bsize (w.drew.alloc (.cells (olds++src.news++(Builtin.zeroCells zv.cells (cap-(es.length+xs.length))).toList).toArray e)) w.heap.size=(olds++src.news++(Builtin.zeroCells zv.cells (cap-(es.length+xs.length))).toList).length:=by
   have:=arT w.drew (olds++src.news++(Builtin.zeroCells zv.cells (cap-(es.length+xs.length))).toList).toArray e (0,0);simpa using this
  rw[hsz];simp only[uG,hol,src.len,Array.length_toList,size_zeroCells,hzs,<-AZ,F6];exact JX _ (by omega)
 unfold wG at hv;split at hv
 ·-- the nil slice
  simp only[R,RC]at rx;split at hv
  ·rename_i hn;subst hn;simp only[dz,bf]at hv;obtain⟨rfl,rfl⟩:=hv;refine⟨.slice none 0 0,w,m, ?_,Step.refl _ _ _ _,hi,by simp[R,RC]⟩
   exact room rx (by simp) (fun _ h=>by cases h) (fun _=>rfl)
  ·rename_i hn;split at hv
   ·rename_i hle;obtain⟨⟨ak,h1⟩,hmk,hv⟩:=mE.mp hv;simp only[bf]at hv;obtain⟨rfl,rfl⟩:=hv;have hpos:0<xs.length:=by rcases Y3 xs.length with h|h;exact absurd (JU h) hn;exact h
    have:=anew (es:=[]) (olds:=[]) (base:=none) (sCap:=0) rx (by simpa using hpos) (by simpa using hle) (by simp) (by simp[xC]) (fun w2 _=>ab7 0 (by simp) (.inl rfl)) hmk
    simpa using this
   ·cases hv
 ·-- a slice whose capacity is its length
  rename_i z' es;simp only[R,RC]at rx;obtain⟨a',e1,h4⟩:=rx;split at hv
  ·rename_i hzz;simp only[Jz,beq_iff_eq,Zz]at hzz;split at hv
   ·rename_i hn;subst hn;simp only[dz,bf]at hv;obtain⟨rfl,rfl⟩:=hv;refine⟨.slice a' es.length es.length,w,m, ?_,Step.refl _ _ _ _,hi, ?_⟩
    ·have hnn:src.news=[]:=JU (by simpa using src.len)
     exact room e1 (by first|exact iJ _|simp) (fun ad _=>by rw[hnn];rfl) (fun _=>rfl)
    ·simp only[R,RC];refine⟨a',rfl, ?_⟩;by_cases hes:es=[]
     ·exact .inl hes
     ·have:=hzz.resolve_right hes;subst this;exact h4
   ·rename_i hn;split at hv
    ·rename_i hle;obtain⟨⟨ak,h1⟩,hmk,hv⟩:=mE.mp hv;simp only[bf]at hv;obtain⟨rfl,rfl⟩:=hv;have hpos:0<xs.length:=by rcases Y3 xs.length with h|h;exact absurd (JU h) hn;exact h
     rw[uG]at hle;by_cases hes:es=[]
     ·subst hes;exact anew (es:=[]) (olds:=[]) e1 (by simpa using hpos) (by simpa using hle) (by simp) (by simp[xC]) (fun w2 _=>ab7 0 (by simp) (.inl rfl)) hmk
     ·have:=hzz.resolve_right hes;subst this;obtain⟨b,off,rfl,hb,_,h0,hE⟩:=h4.resolve_left hes;obtain⟨vs,g1,g2,g3,g4⟩:=alx es b off hE;exact anew e1 (by omega) hle g1 g4 (fun w2 hw=>ab7 _ g1 (.inr ⟨b,off,rfl,fun j v hj=>(arX hw _).trans (g3 j v hj)⟩)) hmk
    ·cases hv
  ·cases hv
 ·-- a slice of a block at work
  rename_i id ak z' off len fill;split at hv
  ·rename_i w0 z'' es hid;split at hv
   ·rename_i hc;obtain⟨rfl,rfl,rfl,rfl,rfl,acW,hle,rfl⟩:=hc;simp only[dz,bf]at hv;obtain⟨rfl,rfl⟩:=hv;have hl0:wF h (.ref id w0 i.size 0 es.length es.length)=some es:=by simp[wF,hid]
    obtain⟨a',cap,es0,e1,hc,_,F7,_,_,_,hmem⟩:=alk hi rx hl0;rw[hid]at F7;cases F7
    obtain⟨_,_,_,_,hnone,_⟩:∃ a2 cap2,pv=.slice a2 es.length cap2/\es.length<=cap2/\(a2=none->cap2=0)/\True:=by
     simp only[R]at rx;obtain⟨a2,cap2,e2,h2,h3,_⟩:=rx;exact⟨a2,cap2,e2,h2,h3,trivial⟩
    obtain⟨b,hm⟩:=ajR hi.len hid;obtain⟨b',c,ty,hm',hb,hz0',hok⟩:=hi.blk id _ _ hid (by simp)
    rw[hm]at hm';cases hm';rw[uG]at hle;by_cases hroom:es.length+xs.length<=cap
    ·-- in place
     rcases hmem with h0|⟨b2,hm2,rfl,hbl,_,hE,hfc,hsz⟩
     ·have hn1:es=[]:=JU (by omega)
      have hn2:xs=[]:=JU (by omega)
      subst hn1 hn2 h0
      have hset:h.set id (w0,.arr i.size ([]++[]))=h:=by
       refine Zy fun j=>?_;by_cases hj:j=id
       ·subst hj;rw[L8 (kS.mp hid).1,hid];rfl
       ·rw[tL (by omega)]
      rw[hset];refine⟨.slice a' 0 0,w,m, ?_,Step.refl _ _ _ _,hi, ?_⟩
      ·have hnn:src.news=[]:=JU (by simpa using src.len)
       exact room e1 (by first|exact iJ _|simp) (fun ad _=>by rw[hnn];rfl) (fun _=>rfl)
      ·rw[e1]at rx;exact rx
     ·rw[hm]at hm2;cases hm2;have hbs:bsize w b=c.size:=by simp[bsize,hb]
      rw[hbs,F6]at hsz
      have hcsz:es.length*i.size+src.news.length<=c.size:=by
       rw[src.len,<-AZ];exact Np (JX _ hroom) hsz
      have hst:=run_storeCells_at P b (es.length*i.size) ty src.news 0 c w hb (by omega) src.one
      simp only[Nat.add_zero]at hst
      obtain⟨s1,i1⟩:=anM (lo:=cx.lo) (qN:=.arr i.size (es++xs)) (c':=(c.toList.take (es.length*i.size)++src.news++c.toList.drop (es.length*i.size+src.news.length)).toArray) hi hid (by simp) hm hb acW
       (by simp; omega) (.inr ⟨i.size,es,es++xs,rfl,rfl,by simp⟩) (fun m' h' hst'=>⟨hz0',by
        refine xC.keep hst'.keep ?_;have h1:xC w (Live m h) i.size es (c.toList.take (es.length*i.size)):=aED (c:=c.toList) hok (by rw[List.take_take,Nat.min_self])
        have h2:(c.toList.take (es.length*i.size)).length=es.length*i.size:=by simp;omega
        exact aly (rest:=c.toList.drop (es.length*i.size+src.news.length)) h1 h2 src.arr⟩)
      refine⟨.slice (some ⟨b,0*i.size,none⟩) (es.length+xs.length) cap,_,m, ?_,s1,i1, ?_⟩
      ·exact room e1 hroom (fun ad had=>by cases had;rw[add_plain];simpa using hst) (fun h=>by cases h)
      ·simp only[R];refine⟨_,cap,by rw[uG],by rw[uG];omega,by simp,w0,_,L8 (kS.mp hid).1,iJ _,fun _ z' es' hb'=>?_⟩
       cases hb';refine⟨rfl,by simp,fun _=>⟨b,hm,.inr ⟨by simp,by rw[uG];omega, ?_⟩⟩⟩
       have:bsize (w.setRow b (c.toList.take (es.length*i.size)++src.news++c.toList.drop (es.length*i.size+src.news.length)).toArray) b=c.size:=by
        unfold bsize;rw[setRow_heap w b c _ ty (0,0) hb];simp;omega
       rw[this,F6];exact hsz
    ·-- moved
     have hold:∃ olds:List Value,olds.length=es.length*i.size/\xC w (Live m h) i.size es olds/\(∀ w2:World,w2.heap=w.heap->(Builtin.firstCells i.size es.length (.slice a' es.length cap)).run P w2=.ok olds.toArray w2):=by
      rcases hmem with h0|⟨b2,hm2,rfl,hbl,_,hE,_,_⟩
      ·have hn1:es=[]:=JU (by omega)
       subst hn1;exact⟨[],by simp,by simp[xC],fun w2 _=>ab7 0 (by simp) (.inl rfl)⟩
      ·obtain⟨vs,g1,g2,g3,g4⟩:=alx es b2 _ hE;exact⟨vs,g1,g4,fun w2 hw=>ab7 _ g1 (.inr ⟨b2,_,rfl,fun j v hj=>(arX hw _).trans (g3 j v hj)⟩)⟩
     obtain⟨olds,hol,har,hold⟩:=hold;obtain⟨cap',hcap,hrun⟩:=grow e1 hold (by omega) hle
     have hbel:=ax' w (.cells (olds++src.news++(Builtin.zeroCells zv.cells (cap'-(es.length+xs.length))).toList).toArray e);have aEX:0<xs.length:=by omega
     have pp:Put w m h id w0 (.arr i.size es) b (w.drew.alloc (.cells (olds++src.news++(Builtin.zeroCells zv.cells (cap'-(es.length+xs.length))).toList).toArray e)) w0 (.arr i.size (es++xs)) w.heap.size :=
      ⟨hi,hid,hm,hbel.os,hbel.tape,hbel.output,hbel.size,fun k hk _=>hbel.block k hk,iJ _,.inr (.inr (iJ _)),
        fun _=>.inr (.inr (.inr ⟨i.size,es,es++xs,rfl,rfl,by simp,fun he=>by simp at he;subst he;simp at aEX⟩))⟩
     have s1:=pp.step (lo:=cx.lo) acW
     have i1:=pp.alf (by simp) (fun _=>⟨_,e,heap_alloc_new w.drew _,hz0,by
      refine xC.keep s1.keep ?_;simpa using aly (rest:=(Builtin.zeroCells zv.cells (cap'-(es.length+xs.length))).toList) har hol src.arr⟩)
     refine⟨_,_,_,hrun,s1,i1, ?_⟩;simp only[R];refine⟨_,cap',by rw[uG],by rw[uG];omega,by simp,w0,_,pp.hset,iJ _,fun _ z' es' hb'=>?_⟩
     cases hb';refine⟨rfl,by simp,fun _=>⟨_,pp.IJ,.inr ⟨by simp,by rw[uG];omega, ?_⟩⟩⟩
     have hsz:bsize (w.drew.alloc (.cells (olds++src.news++(Builtin.zeroCells zv.cells (cap'-(es.length+xs.length))).toList).toArray e)) w.heap.size=(olds++src.news++(Builtin.zeroCells zv.cells (cap'-(es.length+xs.length))).toList).length:=by
      have:=arT w.drew (olds++src.news++(Builtin.zeroCells zv.cells (cap'-(es.length+xs.length))).toList).toArray e (0,0);simpa using this
     rw[hsz];simp only[uG,hol,src.len,Array.length_toList,size_zeroCells,hzs,<-AZ,F6];exact JX _ (by omega)
   ·cases hv
  ·cases hv
 ·cases hv
theorem aya{cx:Cx}(hi:Inv w m h)(he:uO w m h env a){s z lim:Nat}{x y:bD}{xs:List AV}{v:AV}{h':Heap}(hk:mg P o (.app s z lim x y)=true)
  (hy:Rf h z (y.ev env)=some xs) (hv:wG cx s z lim (x.ev env) xs h=some (v,h')) (hlo:cx.lo<=cx.base) :
  ∃ u w' m',(execOp a.eval o).run P w=.ok (.value u) w'/\Step cx.lo w m h w' m' h'/\Inv w' m' h'/\R w' (Live m' h') m' h' v u:=by
 simp only[mg]at hk;split at hk
 ·rename_i p q t t2 hop;simp only[fw]at hk;obtain⟨⟨⟨⟨k1,k2⟩,k3⟩,k4⟩,k5⟩:=hk;obtain⟨e,i,hu,S9,rfl,hz0,hby,hlim,hse⟩:=anJ k1;rw[hse]at k2;simp only[S9,Option.any_some]at k2
  obtain⟨zv,hzero,hzs⟩:∃ zv,i.zero=some zv/\zv.cells.size=i.size:=by
   cases hz:i.zero with
   |none=>simp[hz]at k2
   |some zv=>simp[hz]at k2;exact⟨zv,rfl,k2⟩
  obtain⟨d,hd1,hd2⟩:∃ d,P.underlying t2=some d/\((∃ e2,d=.slice e2)\/d=.string):=by
   simp only[Jz]at k3;rcases k3 with k3|k3
   ·obtain⟨e2,he2⟩:=acN.mp k3;exact⟨_,ajZ he2,.inl ⟨_,rfl⟩⟩
   ·exact⟨_,anG k3,.inr rfl⟩
  have rx:=tO he k4;obtain⟨src⟩:=aEU (P:=P) hi (tO he k5) hy
  have alz:∀{u':Value} {w':World},(Builtin.append_ #[t,t2] o.type #[a.eval p,a.eval q]).run P w=.ok u' w'->(execOp a.eval o).run P w=.ok (.value u') w':=by
   intro u' w' hr;simp[execOp,hop,resolve,invoke,builtin,hr]
  exact aEW hi hz0 hzs rx ⟨src.news,src.len,src.one,src.arr⟩
   (fun hp hold hg hle=>by
    obtain⟨cap,hcap,hrun⟩:=aER (P:=P) (ty:=o.type) hu hd1 hd2 S9 hzero hold src hg hby hlim hle;rw[<-hp]at hrun;exact⟨cap,hcap,alz hrun⟩)
   (fun hp hg hst hno=>alz (by rw[hp];exact aET (P:=P) (ty:=o.type) hu hd1 hd2 S9 src hg hst hno)) hv hlo
 ·cases hk
theorem ayb{z n:Nat}{es:List AV}{c:List Value}(h1:xC w X z es c)(hn:n<=es.length):xC w X z (es.take n) (c.take (n*z)):=by
 have hz:n*z<=es.length*z:=JX _ hn;refine⟨by have:=h1.1;simp only[JK,Nat.min_eq_left hn];omega,fun i e he=>?_⟩
 rw[IA]at he;split at he
 ·rename_i hi;obtain⟨v,k1,k2,k3,k4⟩:=h1.2 i e he;refine⟨v,k1,k2,k3,fun j u hj=>?_⟩;have hjz:j<z:=by rw[<-k2];simpa using(kS.mp hj).1
  have:(i+1)*z<=n*z:=JX _ hi;rw[AZ]at this;rw[IA,if_pos (by omega)]
  exact k4 j u hj
 ·cases he
theorem aEY{z n:Nat}{es:List AV}{c:List Value}(h1:xC w X z es c):xC w X z (es.drop n) (c.drop (n*z)):=by
 refine⟨by have:=h1.1;simp only[List.length_drop,Nat.sub_mul];omega,fun i e he=>?_⟩
 rw[Nr]at he;obtain⟨v,k1,k2,k3,k4⟩:=h1.2 _ e he;refine⟨v,k1,k2,k3,fun j u hj=>?_⟩;rw[Nr,<-k4 j u hj,AZ,Nat.add_assoc]
theorem aEZ{cx:Cx}(hi:Inv w m h)(he:uO w m h env a){z:Nat}{x y:bD}{ys:List AV}{v:AV}{h':Heap}(hk:mg P o (.copy z x y)=true)
  (hy:JH h z (y.ev env)=some ys) (hv:Rx cx z (x.ev env) ys h=some (v,h')) :
  ∃ u w' m',(execOp a.eval o).run P w=.ok (.value u) w'/\Step cx.lo w m h w' m' h'/\Inv w' m' h'/\R w' (Live m' h') m' h' v u:=by
 simp only[mg]at hk;split at hk
 ·rename_i p q t t2 hop;simp only[fw]at hk;obtain⟨⟨k1,k4⟩,k5⟩:=hk
  obtain⟨e,he1,k1⟩:∃ e,SY P t=some e/\(P.info? e).any (fun i=>i.size==z&&decide (0<z))=true:=by
   cases hs:SY P t with
   |none=>simp[hs]at k1
   |some e=>simp only[hs]at k1;exact⟨e,rfl,k1⟩
  have hu:=ajZ he1
  obtain⟨i,S9,hsz,hz0⟩:∃ i,P.info? e=some i/\i.size=z/\0<z:=by
   cases hq:P.info? e with
   |none=>simp[hq]at k1
   |some i=>simp[hq]at k1;exact⟨i,rfl,k1.1,k1.2⟩
  have rx:=tO he k4;have ry:=tO he k5
  obtain⟨hzy,hly⟩:xB z (y.ev env)=true/\wF h (y.ev env)=some ys:=by
   unfold JH at hy;split at hy
   ·exact⟨by assumption,hy⟩
   ·cases hy
  obtain⟨ya,anP,hys,_,aE1⟩:=anw hi ry hly hzy;generalize x.ev env=xv at rx hv;unfold Rx at hv;split at hv
  ·rename_i hzx;split at hv
   ·cases hv
   ·rename_i len hlen
    obtain⟨xa,ayc,hxs⟩:∃ xa ayc,a.eval p=.slice xa len ayc:=by
     cases xv<;>simp only[DY,reduceCtorEq,dz]at hlen<;>try subst hlen
     ·simp only[R,RC]at rx;exact⟨none,0,rx⟩
     ·simp only[R,RC]at rx;obtain⟨a',cap,e1,_⟩:=rx;exact⟨a',cap,e1⟩
     ·simp only[R,RC]at rx;obtain⟨a',e1,_⟩:=rx;exact⟨a',_,e1⟩
     ·simp only[R]at rx;obtain⟨a',cap,e1,_⟩:=rx;exact⟨a',cap,e1⟩
    have alz:∀{u':Value} {w':World},(Builtin.copy_ #[t,t2] o.type #[a.eval p,a.eval q]).run P w=.ok u' w'->(execOp a.eval o).run P w=.ok (.value u') w':=by
     intro u' w' hr;simp[execOp,hop,resolve,invoke,builtin,hr]
    split at hv
    ·rename_i h0;simp only[dz,bf]at hv;obtain⟨rfl,rfl⟩:=hv;refine⟨.int .i64 0,w,m,alz ?_,Step.refl _ _ _ _,hi,by simp[R,RC]⟩
     have hf:=ab7 (P:=P) (w:=w) (z:=z) (a':=ya) (len:=ys.length) (cap:=anP) (vs:=[]) 0 (by simp) (.inl rfl)
     rw[hxs,hys];have hmin:Nat.min ys.length len=0:=h0;have hlo:∀ w2,(Builtin.lenOf (.slice ya ys.length anP)).run P w2=.ok ys.length w2:=fun w2=>by simp[Builtin.lenOf]
     cases xa with
     |none=>simp[Builtin.copy_,run_underlying hu,hlo,hmin,sizeOf,typeInfo,S9,hsz,hf,goInt]
     |some ad=>simp[Builtin.copy_,run_underlying hu,hlo,hmin,sizeOf,typeInfo,S9,hsz,hf,storeCells,goInt]
    ·rename_i hne;split at hv
     ·rename_i id ak z' off len' fill;simp only[DY,dz]at hlen;subst hlen;simp only[xB,beq_iff_eq]at hzx;subst hzx;split at hv
      ·rename_i w0 z'' es hid;split at hv
       ·rename_i hc;obtain⟨rfl,hzz,rfl,hfit,acW⟩:=hc;have arR:=hzz.symm;subst arR;simp only[dz,bf]at hv;obtain⟨rfl,rfl⟩:=hv;have hl0:wF h (.ref id w0 z off len' es.length)=some ((es.drop off).take len'):=by simp[wF,hid,hfit]
        obtain⟨a',cap,es0,e1,hcap,_,F7,_,_,_,hmem⟩:=alk hi rx hl0;rw[hid]at F7;cases F7;rw[hxs]at e1;cases e1;obtain⟨b,hm⟩:=ajR hi.len hid;obtain⟨b',c,ty,hm',hb,hz0',hok⟩:=hi.blk id _ _ hid (by simp)
        rw[hm]at hm';cases hm';obtain⟨n,hn⟩:∃ n,n=min ys.length len':=⟨_,rfl⟩;rw[<-hn]at hne⊢;rcases hmem with h0|⟨b2,hm2,rfl,hbl,_,hE,hfc,aOt⟩
        ·omega
        ·rw[hm]at hm2;cases hm2;have aE2:ys≠[]:=by rintro rfl;simp at hn;omega
         obtain⟨yb,yo,rfl,hyb,_,hyE⟩:=aE1.resolve_left aE2;obtain⟨vs,g1,g2,g3,g4⟩:=alx ys yb yo hyE;have hnz:n*z<=ys.length*z:=JX _ (by omega)
         have hvl:(vs.take (n*z)).length=n*z:=by simp;omega
         have hf:=ab7 (P:=P) (w:=w) (z:=z) (a':=some ⟨yb,yo,none⟩) (len:=ys.length) (cap:=anP) (vs:=vs.take (n*z)) n hvl (.inr ⟨yb,yo,rfl,fun j u hj=>by
          rw[IA]at hj;split at hj
          ·exact g3 j u hj
          ·cases hj⟩)
         have hcz:(off+n)*z<=c.size:=by
          have h1:=hok.1;have h2:(off+n)*z<=es.length*z:=JX _ (by omega)
          simpa using Np h2 h1
         have hst:=run_storeCells_at P b (off*z) ty (vs.take (n*z)) 0 c w hb (by rw[hvl,Nat.add_zero,<-AZ];exact hcz) (fun u hu=>g2 u (acU hu))
         simp only[Nat.add_zero]at hst;have aOu:(es.take off++ys.take n++es.drop (off+n)).length=es.length:=by simp;omega
         obtain⟨s1,i1⟩:=anM (lo:=cx.lo) (qN:=.arr z (es.take off++ys.take n++es.drop (off+n))) (c':=(c.toList.take (off*z)++vs.take (n*z)++c.toList.drop (off*z+(vs.take (n*z)).length)).toArray) hi hid (by simp) hm hb acW
          (by rw [AZ] at hcz; simp; omega) (.inr ⟨z,es,_,rfl,rfl,by omega⟩) (fun m' h' hst'=>⟨hz0',by
           refine xC.keep hst'.keep ?_;have q1:xC w (Live m h) z (es.take off) (c.toList.take (off*z)):=ayb hok (by omega)
           have q2:xC w (Live m h) z (ys.take n) (vs.take (n*z)):=ayb g4 (by omega)
           have q3:xC w (Live m h) z (es.drop (off+n)) (c.toList.drop ((off+n)*z)):=aEY hok
           have l1:(c.toList.take (off*z)).length=(es.take off).length*z:=by
            rw[AZ]at hcz;rw[JK,JK,Nat.min_eq_left (by simp;omega),Nat.min_eq_left (by omega)]
           have q4:=aly (rest:=[]) q1 l1 q2;rw[Gs]at q4
           have l2:(c.toList.take (off*z)++vs.take (n*z)).length=(es.take off++ys.take n).length*z:=by
            rw[uG,uG,l1,hvl,AZ,JK (l:=ys),Nat.min_eq_left (a:=n) (by omega)]
           have q5:=aly (rest:=[]) q4 l2 q3;rw[Gs]at q5;rw[hvl,<-AZ];exact q5⟩)
         refine⟨.int .i64 n,_,m,alz ?_,s1,i1,by simp[R,RC]⟩
         rw[hxs,hys];have hmin:Nat.min ys.length len'=n:=hn.symm;have hlo:∀ w2,(Builtin.lenOf (.slice (some ⟨yb,yo,none⟩) ys.length anP)).run P w2=.ok ys.length w2:=fun w2=>by simp[Builtin.lenOf]
         simp[Builtin.copy_,run_underlying hu,hlo,hmin,sizeOf,typeInfo,S9,hsz,hf,hst,goInt]
       ·cases hv
      ·cases hv
     ·cases hv
  ·cases hv
 ·cases hk
end
end Go.VI
