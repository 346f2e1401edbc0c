/- Structs, arrays and slices written out. -/
import Derived.Test.YtfpoegnmeoghpaaGreatDoorVIJ
set_option linter.unusedVariables false
set_option linter.unusedSimpArgs false
namespace Go.VI
set_option linter.unusedSectionVars false
variable [kH][Rounds]
section
variable {w:World}{m:Map}{h:Heap}{P:Program}{env:Env}{a:Act}{o:Oper}{X:Nat->Prop}
theorem ayd:∀(us:List Value) (k off:Nat) (c:Array Value),off+k+us.length<=c.size ->
  ((us.zipIdx k).foldl (fun cs (x:Value×Nat)=>cs.setIfInBounds (off+x.2) x.1) c).toList=c.toList.take (off+k)++us++c.toList.drop (off+k+us.length)
 |[],k,off,c,_=>by simp
 |u::us,k,off,c,hle=>by
  simp only[List.zipIdx_cons,List.foldl_cons];rw[ayd us (k+1) off (c.setIfInBounds (off+k) u) (by simp at hle⊢;omega)]
  have hlt:off+k<c.toList.length:=by simp at hle⊢;omega
  rw[Array.toList_setIfInBounds];refine Zy fun j=>?_;simp only[List.length_cons]at hle⊢;by_cases h1:j<off+k
  ·rw[sZ,zy (by simp;omega),sZ,zy (by simp;omega),IA,IA,if_pos (by omega),if_pos h1,tL (by omega)]
  ·by_cases h2:j=off+k
   ·subst h2;rw[sZ,zy (by simp;omega),sZ,Fx (by simp;omega),IA,if_pos (by omega),L8 hlt]
    have:off+k-(c.toList.take (off+k)).length=0:=by simp;omega
    rw[this];rfl
   ·by_cases h3:j<off+k+1+us.length
    ·rw[sZ,Fx (by simp;omega),zy (by simp;omega),sZ,Fx (by simp;omega)]
     have e1:j-(List.take (off+(k+1)) (c.toList.set (off+k) u)).length=j-(off+k+1):=by simp;omega
     have e2:j-(List.take (off+k) c.toList).length=(j-(off+k+1))+1:=by simp;omega
     rw[e1,e2,List.cons_append,List.getElem?_cons_succ,zy (by omega)]
    ·rw[Fx (by simp;omega),Nr,Fx (by simp;omega),Nr,tL (by simp;omega)]
     congr 1;simp;omega
theorem aye{place:Nat->Option (Nat×Nat)}{c:Array Value}{i off n:Nat}{v:Value}{rest:List (Nat×Value)}(hp:place i=some (off,n))(hv:v.cells.size=n)(hle:off+n<=c.size) :
  ∃ c':Array Value,Instr.fill place c ((i,v)::rest)=Instr.fill place c' rest/\c'.toList=c.toList.take off++v.cells.toList++c.toList.drop (off+v.cells.toList.length):=by
 refine⟨v.cells.zipIdx.foldl (fun cs (c,j)=>cs.setIfInBounds (off+j) c) c, ?_, ?_⟩
 ·simp only[Instr.fill,hp];rw[if_neg (by simp[hv];omega)]
 ·rw[<-Array.foldl_toList,Array.toList_zipIdx];have:=ayd v.cells.toList 0 off c (by simp[hv];omega)
  simpa using this
theorem ayf{t:TypeId}(he:uO w m h env a):∀(os:List (Nat×Operand)) (xs:List (Nat×Nat×bD)) (cs cs':List AV) (c:Array Value),ajX P t os xs=true->lay env xs cs=some cs'->ones c.toList->RL w (Live m h) m h cs c.toList ->
  ∃ c':Array Value,Instr.fill (alr P t) c (os.map fun(i,x)=>(i,a.eval x))=some c'/\ones c'.toList/\RL w (Live m h) m h cs' c'.toList
 |[],[],cs,cs',c,_,hl,h1,h2=>by
  simp only[lay,dz]at hl;subst hl
  exact⟨c,rfl,h1,h2⟩
 |(i,y)::os,(off,n,x)::xs,cs,cs',c,hk,hl,h1,h2=>by
  simp only[ajX,fw,beq_iff_eq]at hk;obtain⟨⟨hp,hx⟩,hk⟩:=hk;simp only[lay]at hl;split at hl
  ·rename_i hc;obtain⟨cs1,hs,hl⟩:=bE.mp hl;obtain⟨g1,g2,g3⟩:=R.cells hc.2 (tO he hx);obtain⟨hle,hrl⟩:=arV hs h2 g3;obtain⟨c1,e1,e2⟩:=aye (place:=alr P t) (c:=c) (rest:=os.map fun(i,x)=>(i,a.eval x)) hp (v:=a.eval y) (by omega) (by simp at hle;omega)
   obtain⟨c',e3,e4,e5⟩:=ayf he os xs cs1 cs' c1 hk hl (by rw[e2];exact anL h1 g2) (by rw[e2];exact hrl)
   exact⟨c',by rw[List.map_cons,e1];exact e3,e4,e5⟩
  ·cases hl
 |[],_::_,_,_,_,hk,_,_,_=>by simp[ajX]at hk
 |_::_,[],_,_,_,hk,_,_,_=>by simp[ajX]at hk
theorem aE4(he:uO w m h env a){zero:List AV}{parts:List (Nat×Nat×bD)}{cs:List AV}(hk:mg P o (.build zero parts)=true)(hl:lay env parts zero=some cs):Reads P w m h a o (.agg cs):=by
 simp only[mg]at hk;split at hk
 ·rename_i t ps hop;simp only[fw]at hk;obtain⟨⟨k1,k2⟩,k3⟩:=hk;unfold anA at k1;split at k1
  ·rename_i z hz;obtain⟨i,hi,hz'⟩:=bE.mp hz;obtain⟨h1,h2⟩:=ajU (w:=w) (X:=Live m h) k1;obtain⟨c',e1,e2,e3⟩:=ayf (P:=P) (t:=t) he ps.toList parts zero cs z.cells k3 hl h1 (RL.acO _ _ h2)
   have hb:P.built t (ps.map fun(i,x)=>(i,a.eval x)).toList=some c':=by
    rw[Array.toList_map,<-e1];unfold Program.built;unfold axP at k2;rw[hi];split at k2
    ·rename_i n e hu;obtain⟨ie,hie⟩:=acN.mp k2;simp only[hu,hz',hie];congr 1;funext j;simp[alr,hu,hie]
    ·rename_i fields hu;obtain⟨pl,hpl⟩:=acN.mp k2;simp only[hu,hz',hpl];congr 1;funext j;simp[alr,hu,hpl]
    ·cases k2
   refine⟨.agg c', ?_, ?_⟩
   ·have:=run_build (P:=P) w t (ps.map fun(i,x)=>(i,a.eval x)) c' hb;simp only[execOp,hop,Sem.run_bind,this,Result.andThen_ok,Sem.run_pure]
   ·simp only[R];exact⟨c'.toList,by simp,e2,e3⟩
  ·cases k1
 ·cases hk
theorem ayg{lo base z:Nat}(hlo:lo<=base)(hz0:0<z){place:Nat->Option (Nat×Nat)}(hpl:∀ i,place i=some (i*z,z)):∀(os:List (Nat×Operand)) (xs:List (Nat×bD)) (es es':List AV) (h h':Heap) (c:Array Value),
  Inv w m h->uO w m h env a->ajY os xs=true->FI env base z xs es h=some (es',h')->c.size=es.length*z->xC w (Live m h) z es c.toList ->
  ∃ c':Array Value,Instr.fill place c (os.map fun(i,x)=>(i,a.eval x))=some c'/\c'.size=es'.length*z/\Step lo w m h w m h'/\Inv w m h'/\xC w (Live m h') z es' c'.toList/\es'.length=es.length
 |[],[],es,es',h,h',c,hi,he,_,hl,hc,ha=>by
  simp only[FI,dz,bf]at hl;obtain⟨rfl,rfl⟩:=hl
  exact⟨c,rfl,hc,Step.refl _ _ _ _,hi,ha,rfl⟩
 |(i,y)::os,(j,x)::xs,es,es',h,h',c,hi,he,hk,hl,hc,ha=>by
  simp only[ajY,fw,beq_iff_eq]at hk;obtain⟨⟨rfl,hx⟩,hk⟩:=hk;simp only[FI]at hl;obtain⟨⟨v,h1⟩,hf,hl⟩:=bE.mp hl;simp only at hl;split at hl
  ·rename_i hcond;obtain⟨hlt,hlen,hval⟩:=hcond;obtain⟨s0,i0,r0⟩:=ajS hlo _ _ _ _ _ hi (tO he hx) hf;obtain⟨d1,d2,d3⟩:=arW hval r0
   have hle:i*z+z<=c.size:=by
    rw[hc];have:(i+1)*z<=es.length*z:=JX _ hlt;rw[AZ]at this;omega
   obtain⟨c1,e1,e2⟩:=aye (place:=place) (c:=c) (rest:=os.map fun(i,x)=>(i,a.eval x)) (hpl i) (v:=a.eval y) (by omega) hle
   have hvl:(a.eval y).cells.toList.length=z:=by simp;omega
   have hc1:c1.size=c.size:=by
    have:=congrArg List.length e2;simp at this;rw[this];simp at hvl;omega
   have ha1:xC w (Live m h1) z (es.set i v) c1.toList:=by
    have ha':=ha.keep s0.keep;refine⟨by simp[hc1,hc],fun k e' hk'=>?_⟩
    by_cases hki:k=i
    ·subst hki;rw[L8 hlt]at hk';cases hk';refine⟨a.eval y,r0,by omega,d2,fun q u hu=>?_⟩
     have hq:q<z:=by rw[<-hvl];exact(kS.mp hu).1
     rw[e2,sZ,Fx (by simp;omega),zy (by simp at hvl⊢;omega),<-hu]
     congr 1;simp;omega
    ·rw[tL (by omega)]at hk'
     obtain⟨vx,x1,x2,x3,x4⟩:=ha'.2 k e' hk';refine⟨vx,x1,x2,x3,fun q u hu=>?_⟩;have hq:q<z:=by rw[<-x2];simpa using(kS.mp hu).1
     have hx:=x4 q u hu;rw[<-hx,e2];rcases Nat.lt_or_gt_of_ne hki with hlt'|aE5
     ·have:(k+1)*z<=i*z:=JX _ hlt';rw[AZ]at this;rw[sZ,zy (by simp;omega),IA,if_pos (by omega)]
     ·have:(i+1)*z<=k*z:=JX _ aE5;rw[AZ]at this;rw[Fx (by simp at hvl⊢;omega),Nr]
      congr 1;simp at hvl⊢;omega
   obtain⟨c',e3,e4,s1,i1,a1,l1⟩:=ayg hlo hz0 hpl os xs (es.set i v) es' h1 h' c1 i0 ⟨fun t=>R.step s0.ids s0.keep _ _ (he.at' t),he.CX.keep s0.keep⟩ hk hl (by simp[hc1,hc]) ha1
   exact⟨c',by rw[List.map_cons,e1];exact e3,e4,s0.trans s1,i1,a1,by simpa using l1⟩
  ·cases hl
 |[],_::_,_,_,_,_,_,_,_,hk,_,_,_=>by simp[ajY]at hk
 |_::_,[],_,_,_,_,_,_,_,hk,_,_,_=>by simp[ajY]at hk
theorem aE6{t e:TypeId}{k:Nat}{i:TypeInfo}{v:Value}{c':Array Value}{ps:Array (Nat×Value)}(hu:P.underlying t=some (.slice e))(S9:P.info? e=some i)(hzero:i.zero=some v)(k2:k*i.size<=16777216)
  (e1:Instr.fill (fun j=>some (j*i.size,i.size)) (madeCells v.cells (k*i.size)) ps.toList=some c') :
  (Instr.buildSlice t k ps).run P w=.ok (.slice (some ⟨w.heap.size,0,none⟩) k k) (w.alloc (.cells c' e)):=by
 have hbig:¬ (16777216<k*i.size):=by omega
 by_cases hk0:k*i.size=0
 ·have hm0:madeCells v.cells 0=#[]:=by simp[madeCells]
  rw[hk0,hm0]at e1;simp only[Instr.buildSlice,Sem.run_bind,run_underlying hu,Result.andThen_ok,acS (show SX P e=some i.size by simp[SX,S9]),hk0]
  simp[e1,newRow,Array.range_zero']
 ·simp only[Instr.buildSlice,Sem.run_bind,run_underlying hu,Result.andThen_ok,acS (show SX P e=some i.size by simp[SX,S9])]
  simp only[madeCells]at e1;simp[hbig,hk0,zeroValue,typeInfo,S9,hzero,e1,newRow]
theorem aE7{cx:Cx}(hi:Inv w m h)(he:uO w m h env a){z n:Nat}{zero:AV}{parts:List (Nat×bD)}{es:List AV}{h':Heap}(hk:mg P o (.pF z zero n parts)=true)
  (hl:FI env cx.base z parts (List.replicate n zero) h=some (es,h')) (hlo:cx.lo<=cx.base) :
  ∃ u w' m',(execOp a.eval o).run P w=.ok (.value u) w'/\Step cx.lo w m h w' m' h'/\Inv w' m' h'/\R w' (Live m' h') m' h' (.fT z es) u:=by
 simp only[mg]at hk;split at hk
 ·rename_i t k ps hop;simp only[fw,beq_iff_eq,decide_eq_true_eq]at hk;obtain⟨⟨⟨⟨⟨rfl,k1⟩,k2⟩,k3⟩,k5⟩,k4⟩:=hk;obtain⟨e,i,hu,S9,rfl,hz0,hby,hlim,hse⟩:=anJ k1;obtain⟨v,hv,hcv⟩:=arU k3 hse;obtain⟨i',ayh,hzero⟩:=bE.mp hv;rw[S9]at ayh;cases ayh;obtain⟨q1,q2,q3⟩:=ax3 (w:=w) (X:=Live m h) hcv;have hzs:v.cells.size=i.size:=by omega
  obtain⟨c',e1,e2,s1,i1,a1,l1⟩:=ayg (lo:=cx.lo) hlo hz0 (place:=fun j=>some (j*i.size,i.size)) (fun _=>rfl) ps.toList parts (List.replicate k zero) es h h' (madeCells v.cells (k*i.size)) hi he k4 hl (by simp[size_madeCells])
   (ax4 hz0 hzs q2 q3 (iJ _))
  have hbel:=aiX w (.cells c' e);have s2:=abq (lo:=cx.lo) i1 hbel;rw[Tc]at l1;have hrun:=aE6 (P:=P) (w:=w) (ps:=ps.map fun(i,x)=>(i,a.eval x)) hu S9 hzero k2 (by rw[Array.toList_map];exact e1)
  refine⟨.slice (some ⟨w.heap.size,0,none⟩) k k,_,m, ?_,s1.trans s2,ab3 i1 hbel, ?_⟩
  ·simp only[execOp,hop,Sem.run_bind,hrun,Result.andThen_ok,Sem.run_pure]
  ·simp only[R,RC];refine⟨some ⟨w.heap.size,0,none⟩,by rw[l1], ?_⟩
   by_cases hn:es=[]
   ·exact .inl hn
   ·refine .inr ⟨w.heap.size,0,rfl,by simp,fun hl'=>absurd (i1.axC hl') (by omega),hz0, ?_⟩
    refine ab4 _ _ _ fun j e' he'=>?_;obtain⟨vx,x1,x2,x3,x4⟩:=xC.elems (w:=w.alloc (.cells c' e)) (b:=w.heap.size) (c:=c') (ty:=e) (fr:=(0,0)) (heap_alloc_new w _) (a1.keep s2.keep) he';exact⟨vx,x1,x2,x3,by simpa using x4⟩
 ·cases hk
end
end Go.VI
