/- The operations that make memory or write to it. -/
import Derived.Test.YtfpoegnmeoghpaaGreatDoorVIH
set_option linter.unusedVariables false
set_option linter.unusedSimpArgs false
namespace Go.VI
set_option linter.unusedSectionVars false
variable [kH][Rounds]
section
variable {w:World}{m:Map}{h:Heap}{P:Program}{env:Env}{a:Act}{o:Oper}{X:Nat->Prop}
theorem alx{z:Nat}:∀(es:List AV) (b o:Nat),Gr w X z es b o->∃ vs:List Value,vs.length=es.length*z/\ones vs/\abo w b o vs/\xC w X z es vs
 |[],b,o,_=>⟨[],by simp,fun _ h=>by simp at h,fun j v hj=>by simp at hj,by simp[xC]⟩
 |e::es,b,o,hE=>by
  simp only[Gr]at hE;obtain⟨⟨v,h1,h2,h3,h4⟩,h5⟩:=hE;obtain⟨vs,g1,g2,g3,g4⟩:=alx es b (o+z) h5;have hl:v.cells.toList.length=z:=by simpa using h2
  refine⟨v.cells.toList++vs, ?_, ?_, ?_, ?_, ?_⟩
  ·simp only[uG,hl,g1,List.length_cons,AZ];omega
  ·intro u hu;rcases Di.mp hu with hu|hu
   ·exact h3 u hu
   ·exact g2 u hu
  ·intro j u hj;by_cases hjz:j<z
   ·rw[zy (by omega)]at hj;exact h4 j u hj
   ·rw[Fx (by omega),hl]at hj
    have:=g3 (j-z) u hj;rw[show o+z+(j-z)=o+j by omega]at this
    exact this
  ·simp only[uG,hl,List.length_cons,AZ];have:=g4.1;omega
  ·intro i e' he
   cases i with
   |zero =>
    simp only[List.getElem?_cons_zero,dz]at he;subst he;refine⟨v,h1,h2,h3,fun j u hj=>?_⟩;have:j<z:=by rw[<-hl];exact(kS.mp hj).1
    rw[Nat.zero_mul,F6,zy (by omega)]
    exact hj
   |succ i =>
    obtain⟨v',k1,k2,k3,k4⟩:=g4.2 i e' (by simpa using he)
    refine⟨v',k1,k2,k3,fun j u hj=>?_⟩;rw[Fx (by rw[hl,AZ];omega),hl,show (i+1)*z+j-z=i*z+j by rw[AZ];omega]
    exact k4 j u hj
theorem aly{z:Nat}{es xs:List AV}{c1 c2 rest:List Value}(h1:xC w X z es c1)(hl:c1.length=es.length*z)(h2:xC w X z xs c2):xC w X z (es++xs) (c1++c2++rest):=by
 refine⟨?_,fun i e he=>?_⟩
 ·have:=h2.1;simp only[uG,hl,AZ];omega
 ·by_cases hi:i<es.length
  ·rw[zy hi]at he;obtain⟨v,k1,k2,k3,k4⟩:=h1.2 i e he;refine⟨v,k1,k2,k3,fun j u hj=>?_⟩;have:=k4 j u hj;have hlt:=(kS.mp this).1;rw[sZ,zy hlt];exact this
  ·rw[Fx (by omega)]at he
   obtain⟨v,k1,k2,k3,k4⟩:=h2.2 _ e he;refine⟨v,k1,k2,k3,fun j u hj=>?_⟩;have:=k4 j u hj;have hlt:=(kS.mp this).1;have hsub:i*z=es.length*z+(i-es.length)*z:=by rw[<-AZ];congr 1;omega
   rw[sZ,Fx (by omega),show i*z+j-c1.length=(i-es.length)*z+j by omega,zy hlt]
   exact this
theorem aED{z:Nat}{es:List AV}{c c':List Value}(h1:xC w X z es c)(hl:c'.take (es.length*z)=c.take (es.length*z)):xC w X z es c':=by
 have hlen:es.length*z<=c'.length:=by
  have:=congrArg List.length hl;simp only[JK]at this;have:=h1.1;omega
 refine⟨hlen,fun i e he=>?_⟩;obtain⟨v,k1,k2,k3,k4⟩:=h1.2 i e he;refine⟨v,k1,k2,k3,fun j u hj=>?_⟩;have hi:i<es.length:=(kS.mp he).1;have hjz:j<z:=by rw[<-k2];simpa using(kS.mp hj).1
 have hb:i*z+j<es.length*z:=by
  have:(i+1)*z<=es.length*z:=JX _ hi;rw[AZ]at this;omega
 have e1:c'[i*z+j]?=(c'.take (es.length*z))[i*z+j]?:=by rw[IA,if_pos hb]
 rw[e1,hl,IA,if_pos hb];exact k4 j u hj
theorem arS{cx:Cx}(hi:Inv w m h){s ak:Nat}{b:aU}{h':Heap}(hm:mK cx s b h=some (ak,h')){w':World}(hb:RowKit.Below w.heap.size w w'){nb:Nat}(hnb:w.heap.size<=nb) :
  ∃ v0 rY b0,Put w m h (cx.base+s) v0 rY b0 w' ak b nb/\h'=h.set (cx.base+s) (ak,b)/\s<cx.ns:=by
 unfold mK at hm;split at hm
 ·rename_i hs;split at hm
  ·rename_i v0 rY hid;simp only[dz,bf]at hm;obtain⟨rfl,rfl⟩:=hm;obtain⟨b0,hm0⟩:=ajR hi.len hid;exact⟨v0,rY,b0,⟨hi,hid,hm0,hb.os,hb.tape,hb.output,hb.size,fun q hq _=>hb.block q hq,by omega,.inr (.inr hnb),fun e=>by omega⟩,rfl,hs.1⟩
  ·cases hm
 ·cases hm
theorem anI{lo:Nat}{cx:Cx}(hi:Inv w m h){s ak:Nat}{b:aU}{h':Heap}(hm:mK cx s b h=some (ak,h'))(hlo:lo<=cx.base){w':World}(hb:RowKit.Below w.heap.size w w'){nb:Nat}(hnb:w.heap.size<=nb){c:Array Value}{ty:TypeId}
  (hc:w'.heap[nb]?=some (.cells c ty (0,0))) (hok:b≠.dead->Rj w (Live m h) m h c.toList b) (hn:∀ d st,b≠.aV d st:=by simp) :
  ∃ m',Step lo w m h w' m' h'/\Inv w' m' h'/\h'[cx.base+s]?=some (ak,b)/\m'[cx.base+s]?=some nb:=by
 obtain⟨v0,rY,b0,p,rfl,_⟩:=arS hi hm hb hnb;have hs:=p.step (lo:=lo) (by omega)
 refine⟨_,hs,p.alf hn fun hd=>⟨c,ty,hc, ?_⟩,p.hset,p.IJ⟩;exact(hok hd).step hs
theorem arT(w:World)(c:Array Value)(ty:TypeId)(fr:Nat×Nat):bsize (w.alloc (.cells c ty fr)) w.heap.size=c.size:=by
 unfold bsize;rw[heap_alloc_new]
theorem aiX(w:World)(o:Obj):RowKit.Below w.heap.size w (w.alloc o):=(RowKit.Below.refl _ _).alloc (iJ _) o
theorem aEE{cx:Cx}(hi:Inv w m h){s ak:Nat}{zero:List AV}{h':Heap}(hk:mg P o (.alloc s zero)=true)(hm:mK cx s (.box zero) h=some (ak,h'))(hlo:cx.lo<=cx.base) :
  ∃ u w' m',(execOp a.eval o).run P w=.ok (.value u) w'/\Step cx.lo w m h w' m' h'/\Inv w' m' h'/\R w' (Live m' h') m' h' (.bq (cx.base+s) ak 0) u:=by
 simp only[mg]at hk;split at hk
 ·rename_i t hop;unfold anA at hk;split at hk
  ·rename_i z hz;obtain⟨i,hi',hz'⟩:=bE.mp hz;obtain⟨h1,h2⟩:=ajU (w:=w) (X:=Live m h) hk;obtain⟨m',hs,hinv,g1,g2⟩:=anI (nb:=w.heap.size) (c:=z.cells) (ty:=t) hi hm hlo (aiX w (.cells z.cells t)) (iJ _) (heap_alloc_new w _) (fun _=>⟨h1,RL.acO _ _ h2⟩);refine⟨.pointer (some ⟨w.heap.size,0,none⟩),_,m', ?_,hs,hinv, ?_⟩
   ·simp[execOp,hop,Instr.alloc,zeroValue,typeInfo,hi',hz',newVar,newRow]
   ·simp only[R];exact⟨_,rfl,ak,_,g1,iJ _,fun _ cs hc=>⟨_,g2,rfl⟩⟩
  ·cases hk
 ·cases hk
theorem aEF{cx:Cx}(hi:Inv w m h)(he:uO w m h env a){s ak:Nat}{x:bD}{h':Heap}(hk:mg P o (.box s x)=true)(hv:(x.ev env).val=true)(hm:mK cx s (.box (x.ev env).cells) h=some (ak,h'))(hlo:cx.lo<=cx.base) :
  ∃ u w' m',(execOp a.eval o).run P w=.ok (.value u) w'/\Step cx.lo w m h w' m' h'/\Inv w' m' h'/\R w' (Live m' h') m' h' (.bq (cx.base+s) ak 0) u:=by
 simp only[mg]at hk;split at hk
 ·rename_i t y hop;obtain⟨h1,h2,h3⟩:=R.cells hv (tO he hk);obtain⟨m',hs,hinv,g1,g2⟩:=anI (nb:=w.heap.size) (c:=(a.eval y).cells) (ty:=t) hi hm hlo (aiX w (.cells (a.eval y).cells t)) (iJ _) (heap_alloc_new w _) (fun _=>⟨h2,h3⟩);refine⟨.pointer (some ⟨w.heap.size,0,none⟩),_,m', ?_,hs,hinv, ?_⟩
  ·simp[execOp,hop,Instr.box,newVar,newRow]
  ·simp only[R];exact⟨_,rfl,ak,_,g1,iJ _,fun _ cs hc=>⟨_,g2,rfl⟩⟩
 ·cases hk
theorem ax0{base:Nat}{keep:Bool}{x x':AV}{h h':Heap}(hf:gI base keep x h=some (x',h'))(hv:x.val=true):x'.val=true:=by
 cases x with
 |ref id ak z off len fill =>
  simp only[gI]at hf;split at hf
  ·simp only[mE,bf]at hf;obtain⟨_,_,rfl,_⟩:=hf;rfl
  ·split at hf
   ·simp only[dz,bf]at hf;obtain⟨rfl,_⟩:=hf;rfl
   ·cases hf
 |undef=>simp[AV.val]at hv
 |tuple=>simp[AV.val]at hv
 |own=>simp[AV.val]at hv
 |agg cs=>simp only[gI,mE,bf]at hf;obtain⟨_,_,rfl,_⟩:=hf;rfl
 |fn f cs=>simp only[gI,mE,bf]at hf;obtain⟨_,_,rfl,_⟩:=hf;rfl
 |rM t x=>simp only[gI,mE,bf]at hf;obtain⟨_,_,rfl,_⟩:=hf;rfl
 |bq=>simp[gI]at hf
 |nS=>simp[gI]at hf
 |lF=>simp[gI]at hf
 |_=>simp only[gI,dz,bf]at hf;obtain⟨rfl,_⟩:=hf;rfl
theorem aEG{cx:Cx}(hi:Inv w m h)(he:uO w m h env a){x:bD}{v':AV}{h':Heap}(hk:mg P o (.nK x)=true)(hv:(x.ev env).val=true)(hf:gI cx.base false (x.ev env) h=some (v',h'))(hlo:cx.lo<=cx.base) :
  ∃ u w' m',(execOp a.eval o).run P w=.ok (.value u) w'/\Step cx.lo w m h w' m' h'/\Inv w' m' h'/\R w' (Live m' h') m' h' (.iE v'.cells) u:=by
 simp only[mg]at hk;split at hk
 ·rename_i t y hop;obtain⟨s,i,r⟩:=ajS hlo _ _ _ _ _ hi (tO he hk) hf;have hb:=aiX w (.cells (a.eval y).cells t);have hv':=ax0 hf hv;obtain⟨h1,h2,h3⟩:=R.cells hv' (R.Zx (m:=m) (h:=h') _ _ r);have hs2:=abq (lo:=cx.lo) i hb;refine⟨.pointer (some ⟨w.heap.size,0,none⟩),_,m, ?_,s.trans hs2,ab3 i hb, ?_⟩
  ·simp[execOp,hop,Instr.box,newVar,newRow]
  ·simp only[R,RC];refine⟨_,_,rfl,by simp,fun hl=>absurd (i.axC hl) (by omega),alh _ _ _ fun j c hc=>?_⟩
   have h0:0<(a.eval y).cells.size:=by rw[h1];have:=(kS.mp hc).1;omega
   obtain⟨u,hu,hu1,hR⟩:=RC.cells r h0 h2 j c hc;refine⟨u, ?_,hu1,RC.keep hs2.keep _ _ hR⟩;rw[F6,cell_of_row _ w.heap.size _ _ t (0,0) (heap_alloc_new w _)];simpa using hu
 ·cases hk
theorem anJ{t:TypeId}{z lim:Nat}(hk:als P t z lim=true):∃ e i,P.underlying t=some (.slice e)/\P.info? e=some i/\i.size=z/\0<z/\lim*i.bytes<=140737488355328/\lim<=140737488355328/\SY P t=some e:=by
 unfold als at hk;split at hk
 ·rename_i e he;split at hk
  ·rename_i i hi;simp only[fw,beq_iff_eq,decide_eq_true_eq]at hk;exact⟨e,i,ajZ he,hi,hk.1.1.1,hk.1.1.2,hk.1.2,hk.2,he⟩
  ·cases hk
 ·cases hk
theorem arU{t e:TypeId}{zero:AV}(hk:anF P t zero=true)(he:SY P t=some e):∃ v,(P.info? e).bind (·.zero)=some v/\ab6 zero v=true:=by
 unfold anF at hk;rw[he]at hk;simp only at hk;split at hk
 ·rename_i v hv;exact⟨v,hv,hk⟩
 ·cases hk
theorem ax3{x:AV}{v:Value}(hk:ab6 x v=true):v.cells.size=x.cells.length/\ones v.cells.toList/\RC w X x v:=by
 refine⟨?_, ?_,axH hk⟩
 ·unfold ab6 at hk;split at hk
  ·rename_i cs vs;have:=(ali _ _ (ajU (w:=w) (X:=X) hk).2).1;simpa[Value.cells,AV.cells]using this
  ·obtain⟨_,_,h3,h4,_⟩:=anB (w:=w) (X:=X) hk;rw[h3,h4];rfl
 ·unfold ab6 at hk;split at hk
  ·rename_i cs vs;exact(ajU (w:=w) (X:=X) hk).1
  ·obtain⟨_,h2,h3,h4,_⟩:=anB (w:=w) (X:=X) hk;rw[h4];intro u hu;simp at hu;subst hu;exact h2
theorem aEH(zs:Array Value)(n k:Nat)(hk:k<n):(madeCells zs n).toList[k]?=some (zs[k%zs.size]!):=by
 simp[madeCells,hk]
theorem ax4{z n k:Nat}{zero:AV}{v:Value}(hz:0<z)(hc:v.cells.size=z)(h1:ones v.cells.toList)(hr:RC w X zero v)(hn:n<=k):xC w X z (List.replicate n zero) (madeCells v.cells (k*z)).toList:=by
 refine⟨by simp[size_madeCells];exact JX _ hn,fun i e he=>?_⟩
 rw[List.getElem?_replicate]at he;split at he
 ·rename_i hi;simp only[dz]at he;subst he;refine⟨v,hr,hc,h1,fun j u hj=>?_⟩;have hjz:j<z:=by rw[<-hc];simpa using(kS.mp hj).1
  have hb:i*z+j<k*z:=by
   have:(i+1)*z<=k*z:=JX _ (by omega)
   rw[AZ]at this;omega
  rw[aEH _ _ _ hb,hc,Y4,Nat.mul_add_mod,Nat.mod_eq_of_lt hjz];rw[<-hj];simp[hc,hjz]
 ·cases he
theorem aEI{cx:Cx}(hi:Inv w m h)(he:uO w m h env a){s z lim:Nat}{zero:AV}{n c:bD}{kn kc:IntKind}{p q:Int}{ak:Nat}{h':Heap}(hk:mg P o (.mk s z zero lim n c)=true)
  (hn:n.ev env=.int kn p) (hc:c.ev env=.int kc q) (h0:0<=p) (h1:p<=q) (h2:q<=lim) (hm:mK cx s (.arr z (List.replicate p.toNat zero)) h=some (ak,h')) (hlo:cx.lo<=cx.base) :
  ∃ u w' m',(execOp a.eval o).run P w=.ok (.value u) w'/\Step cx.lo w m h w' m' h'/\Inv w' m' h'/\R w' (Live m' h') m' h' (.ref (cx.base+s) ak z 0 p.toNat p.toNat) u:=by
 simp only[mg]at hk;split at hk
 ·rename_i t l k hop;simp only[fw,decide_eq_true_eq]at hk;obtain⟨⟨⟨⟨g1,g2⟩,g3⟩,g4⟩,g5⟩:=hk;obtain⟨e,i,hu,hi',hsz,hz0,hby,hlim,hse⟩:=anJ g1;obtain⟨v,hv,hcv⟩:=arU g2 hse;obtain⟨i',aj1,hzero⟩:=bE.mp hv;rw[hi']at aj1;cases aj1;have r1:=tO he g4;have r2:=tO he g5;rw[hn,JA]at r1;rw[hc,JA]at r2;obtain⟨k1,k2,k3⟩:=ax3 (w:=w) (X:=Live m h) hcv
  have hb:(i.bytes:Int)*q<=281474976710656:=by
   have h3:(q.toNat)*i.bytes<=lim*i.bytes:=JX _ (by omega)
   have h4:(i.bytes:Int)*q=((q.toNat*i.bytes:Nat):Int):=by
    rw[Int.natCast_mul,Int.mul_comm];congr 1;omega
   rw[h4];omega
  have hrun:=run_make (P:=P) w t e i v hu hi' hzero kn kc p q h0 h1 hb (by omega)
  rw[hsz]at hrun
  obtain⟨m',hs,hinv,q1,q2⟩:=anI (nb:=w.heap.size) (c:=madeCells v.cells (q.toNat*z)) (ty:=e) hi hm hlo (aiX w _) (iJ _) (heap_alloc_new w _)
   (fun _=>⟨hz0,ax4 hz0 (by rw[k1,g3]) k2 k3 (by omega)⟩)
  refine⟨.slice (some ⟨w.heap.size,0,none⟩) p.toNat q.toNat,_,m', ?_,hs,hinv, ?_⟩
  ·simp[execOp,hop,r1,r2,hrun]
  ·simp only[R];refine⟨_,_,rfl,by omega,by simp,ak,_,q1,iJ _,fun _ z' es hb'=>?_⟩
   cases hb';refine⟨rfl,by simp,fun _=>⟨_,q2,.inr ⟨by simp,by omega, ?_⟩⟩⟩
   rw[arT,size_madeCells,F6];exact iJ _
 ·cases hk
theorem aEJ{cx:Cx}(hi:Inv w m h)(he:uO w m h env a){s z lim:Nat}{zero:AV}{n c:bD}{kn kc:IntKind}(hk:mg P o (.mk s z zero lim n c)=true)
  (hn:n.ev env=.int kn 0) (hc:c.ev env=.int kc 0) :
  ∃ u w' m',(execOp a.eval o).run P w=.ok (.value u) w'/\Step cx.lo w m h w' m' h/\Inv w' m' h/\R w' (Live m' h) m' h (.fT z []) u:=by
 simp only[mg]at hk;split at hk
 ·rename_i t l k hop;simp only[fw,decide_eq_true_eq]at hk;obtain⟨⟨⟨⟨g1,g2⟩,g3⟩,g4⟩,g5⟩:=hk;obtain⟨e,i,hu,hi',hsz,hz0,hby,hlim,hse⟩:=anJ g1;obtain⟨v,hv,hcv⟩:=arU g2 hse;obtain⟨i',aj1,hzero⟩:=bE.mp hv;rw[hi']at aj1;cases aj1;have r1:=tO he g4;have r2:=tO he g5;rw[hn,JA]at r1;rw[hc,JA]at r2;have hrun:=run_make (P:=P) w t e i v hu hi' hzero kn kc 0 0 (Fy _) (Fy _) (by omega) (by omega)
  have hbel:=aiX w (.cells (madeCells v.cells ((0:Int).toNat*i.size)) e);refine⟨.slice (some ⟨w.heap.size,0,none⟩) 0 0,_,m, ?_,abq hi hbel,ab3 hi hbel, ?_⟩
  ·simp[execOp,hop,r1,r2,hrun]
  ·simp only[R,RC];exact⟨_,rfl,.inl trivial⟩
 ·cases hk
theorem ax5{cs new:List AV}{off:Nat}{cs':List AV}(hs:splice cs off new=some cs'):off+new.length<=cs.length/\cs'=cs.take off++new++cs.drop (off+new.length):=by
 unfold splice at hs;split at hs
 ·rename_i h;exact⟨h,by simpa using hs.symm⟩
 ·cases hs
theorem anK{xs ys:List AV}{us vs:List Value}(h1:RL w X m h xs us)(h2:RL w X m h ys vs):RL w X m h (xs++ys) (us++vs):=by
 obtain⟨g1,g2⟩:=RA _ _ h1;obtain⟨k1,k2⟩:=RA _ _ h2;refine alj _ _ (by simp[g1,k1]) fun j c hc=>?_
 by_cases hj:j<xs.length
 ·rw[zy hj]at hc;obtain⟨u,hu,hr⟩:=g2 j c hc;exact⟨u,by rw[zy (by omega)];exact hu,hr⟩
 ·rw[Fx (by omega)]at hc
  obtain⟨u,hu,hr⟩:=k2 _ c hc;exact⟨u,by rw[Fx (by omega),g1];exact hu,hr⟩
theorem aEK{xs:List AV}{us:List Value}(h1:RL w X m h xs us)(n:Nat):RL w X m h (xs.take n) (us.take n):=by
 obtain⟨g1,g2⟩:=RA _ _ h1;refine alj _ _ (by simp[g1]) fun j c hc=>?_
 rw[IA]at hc⊢;split at hc
 ·rw[if_pos (by assumption)];exact g2 j c hc
 ·cases hc
theorem aEL{xs:List AV}{us:List Value}(h1:RL w X m h xs us)(n:Nat):RL w X m h (xs.drop n) (us.drop n):=by
 obtain⟨g1,g2⟩:=RA _ _ h1;refine alj _ _ (by simp[g1]) fun j c hc=>?_
 rw[Nr]at hc⊢;exact g2 _ c hc
theorem arV{cs new cs':List AV}{us nu:List Value}{off:Nat}(hs:splice cs off new=some cs')(h1:RL w X m h cs us)(h2:RL w X m h new nu) :
  off+nu.length<=us.length/\RL w X m h cs' (us.take off++nu++us.drop (off+nu.length)):=by
 obtain⟨hle,rfl⟩:=ax5 hs;have l1:=(RA _ _ h1).1;have l2:=(RA _ _ h2).1;refine⟨by omega,anK (anK (aEK h1 off) h2) ?_⟩
 rw[l2];exact aEL h1 _
theorem anL{us nu:List Value}{off:Nat}(h1:ones us)(h2:ones nu):ones (us.take off++nu++us.drop (off+nu.length)):=by
 intro u hu;simp only[Di]at hu;rcases hu with(hu|hu)|hu
 ·exact h1 u (acU hu)
 ·exact h2 u hu
 ·exact h1 u (List.mem_of_mem_drop hu)
theorem anM{lo id ak:Nat}{blk qN:aU}{b:Nat}{c c':Array Value}{ty:TypeId}(hi:Inv w m h)(hid:h[id]?=some (ak,blk))(hnd:blk≠.dead)(hm:m[id]?=some b)(hb:w.heap[b]?=some (.cells c ty (0,0)))
  (hlo:lo<=id) (hsz:c'.size=c.size)
  (hev:(∃ cs cs',blk=.box cs/\qN=.box cs')\/∃ z es es',blk=.arr z es/\qN=.arr z es'/\es.length<=es'.length)
  (hok:∀ m' h',Step lo w m h (w.setRow b c') m' h'->Rj (w.setRow b c') (Live m' h') m' h' c'.toList qN) :
  Step lo w m h (w.setRow b c') m (h.set id (ak,qN))/\Inv (w.setRow b c') m (h.set id (ak,qN)):=by
 have hbl:b<w.heap.size:=hi.lt hid hnd hm;have hnew:(w.setRow b c').heap[b]?=some (.cells c' ty (0,0)):=setRow_heap w b c c' ty (0,0) hb
 have p:Put w m h id ak blk b (w.setRow b c') ak qN b:=by
  refine⟨hi,hid,hm,rfl,rfl,rfl,by simp,fun q hq hqb=>?_,iJ _,.inr (.inl ⟨rfl,hnd⟩),fun _=>?_⟩
  ·by_cases hqe:q=b
   ·exact absurd (hqb hqe) hnd
   ·exact setRow_other w b q c' hqe
  ·have hmm:(m.set id b)[id]?=m[id]?:=by rw[hm];exact L8 (by rw[hi.len];exact(kS.mp hid).1)
   rcases hev with⟨cs,cs',rfl,rfl⟩|⟨z,es,es',rfl,rfl,hle⟩
   ·exact .inr (.inl ⟨cs,cs',rfl,rfl,hmm⟩)
   ·refine .inr (.inr (.inr ⟨z,es,es',rfl,rfl,hle,fun _=>⟨hmm,fun b' hb'=>?_⟩⟩));rw[hm]at hb';cases hb';simp[bsize,hb,hnew,hsz]
 have hmm:m.set id b=m:=by
  refine Zy fun j=>?_;by_cases hj:j=id
  ·subst hj;rw[p.IJ,hm]
  ·exact(p.other hj).2
 have h1:=p.step (lo:=lo) hlo;have h2:=p.alf (by rcases hev with⟨cs,cs',rfl,rfl⟩|⟨z,es,es',rfl,rfl,hle⟩<;>simp) (fun _=>⟨c',ty,hnew,hok _ _ h1⟩)
 rw[hmm]at h1 h2;exact⟨h1,h2⟩
theorem ax6{t:TypeId}{sz b off:Nat}{v:Value}{c:Array Value}{ty:TypeId}(hs:SX P t=some sz)(hv:v.cells.size=sz)(h1:ones v.cells.toList)(hb:w.heap[b]?=some (.cells c ty (0,0)))(hle:off+sz<=c.size) :
  (storeVar t ⟨b,off,none⟩ v).run P w=.ok () (w.setRow b (c.toList.take off++v.cells.toList++c.toList.drop (off+v.cells.toList.length)).toArray):=by
 have:=run_storeCells_at P b off ty v.cells.toList 0 c w hb (by simp[hv];omega) h1
 simp only[Nat.add_zero]at this;simp only[storeVar,Sem.run_bind,acS hs,Result.andThen_ok];simp[hv,this]
theorem arW{e:AV}{v:Value}(hv:e.val=true)(hr:RC w X e v):v.cells.size=e.cells.length/\ones v.cells.toList/\o9 w X e.cells v.cells.toList:=by
 obtain⟨h1,h2,h3⟩:=R.cells hv (R.Zx (m:=[]) (h:=[]) _ _ hr);refine⟨h1,h2, ?_⟩
 cases e with
 |agg cs =>
  simp only[RC]at hr;obtain⟨vs,rfl,_,g2⟩:=hr
  simpa[AV.cells,Value.cells]using g2
 |undef=>simp[AV.val]at hv
 |tuple=>simp[AV.val]at hv
 |own=>simp[AV.val]at hv
 |_ =>
  simp only[AV.cells,List.length_singleton]at h1 h3⊢;simp only[RL]at h3;obtain⟨u,us,e1,_,rfl⟩:=h3
  have hvv:v.cells=#[v]:=by
   rcases R.val hv (R.Zx (m:=[]) (h:=[]) _ _ hr) with⟨_,_,e,_⟩|⟨_,h2,_⟩
   ·cases e
   ·exact h2
  rw[hvv];simp only[o9];exact⟨v,[],rfl,hr,rfl⟩
theorem aEN{cx:Cx}(hi:Inv w m h)(he:uO w m h env a){sz:Nat}{x v:bD}{h':Heap}(hk:mg P o (.store sz x v)=true)(hp:qE cx h sz (x.ev env) (v.ev env)=some h')(hlo:cx.lo<=cx.base) :
  ∃ w' m',(execOp a.eval o).run P w=.ok .skip w'/\Step cx.lo w m h w' m' h'/\Inv w' m' h':=by
 simp only[mg]at hk;split at hk
 ·rename_i t y u hop;simp only[fw,beq_iff_eq]at hk;obtain⟨⟨hs,hk1⟩,hk2⟩:=hk;have rx:=tO he hk1;have rv:=tO he hk2;generalize x.ev env=xv at rx hp;generalize v.ev env=vv at rv hp;simp only[qE]at hp;split at hp
  ·rename_i hcond;obtain⟨hsz,hval⟩:=hcond;obtain⟨c1,c2,c3⟩:=R.cells hval rv;split at hp
   ·-- a variable in memory
    rename_i id ak off;split at hp
    ·rename_i w0 cs hid;split at hp
     ·rename_i hc;obtain⟨rfl,acW,_⟩:=hc;obtain⟨cs',hsp,rfl⟩:=mE.mp hp;simp only[R]at rx;obtain⟨ad,e1,v0,blk,g1,g2,g3⟩:=rx;rw[hid]at g1;cases g1;obtain⟨b,hm,rfl⟩:=g3 rfl cs rfl;obtain⟨b',c,ty,hm',hb,k1,k2⟩:=hi.blk id _ _ hid (by simp)
      rw[hm]at hm';cases hm';obtain⟨hle,hrl⟩:=arV hsp k2 c3;have hlen:=(RA _ _ k2).1;have hrun:=ax6 (P:=P) (w:=w) (v:=a.eval u) hs (by omega) c2 hb (off:=off) (by simp at hle;omega)
      obtain⟨s1,i1⟩:=anM (lo:=cx.lo) (qN:=.box cs') (c':=(c.toList.take off++(a.eval u).cells.toList++c.toList.drop (off+(a.eval u).cells.toList.length)).toArray) hi hid (by simp) hm hb acW
       (by simp at hle⊢;omega) (.inl ⟨cs,cs',rfl,rfl⟩) (fun m' h' hst=>⟨anL k1 c2,RL.step hst.ids hst.keep _ _ hrl⟩)
      refine⟨_,_, ?_,s1,i1⟩;simp only[execOp,hop,Instr.storeAt,e1,Instr.sureAddr,Sem.run_bind,Sem.run_pure,Result.andThen_ok,hrun]
     ·cases hp
    ·cases hp
   ·-- an element
    rename_i id ak z o' len fill i off;obtain⟨⟨v1,h1⟩,hf,hq⟩:=bE.mp hp;clear hp;simp only at hq;obtain⟨s0,i0,r0⟩:=ajS (lo:=cx.lo) hlo _ _ _ _ _ hi rv hf;have rx1:=R.step s0.ids s0.keep _ _ rx;have ax8:=ax0 hf hval;obtain⟨d1,d2,d3⟩:=arW ax8 r0;split at hq
    ·rename_i w0 z' es hid;split at hq
     ·rename_i hc;obtain⟨rfl,rfl,rfl,hle,hil,acW⟩:=hc;simp only[R]at rx1;obtain⟨ad,e1,v0,blk,g1,g2,g3⟩:=rx1;rw[hid]at g1;cases g1;obtain⟨_,_,g4⟩:=g3 rfl _ es rfl;obtain⟨b,hm,rfl⟩:=g4 rfl;obtain⟨b',c,ty,hm',hb,hz0,hok⟩:=i0.blk id _ _ hid (by simp)
      rw[hm]at hm';cases hm'
      -- the element that is written
      have fin:∀(e e':AV) (off':Nat),es[o'+i]?=some e->h'=h1.set id (w0,.arr z' (es.set (o'+i) e'))->off'=off ->
        (∀ ve:Value,RC w (Live m h1) e ve→ve.cells.size=z'→ones ve.cells.toList→off+(a.eval u).cells.size≤z' ∧
         ∃ ve':Value,RC w (Live m h1) e' ve'/\ve'.cells.toList=ve.cells.toList.take off++(a.eval u).cells.toList++ve.cells.toList.drop (off+(a.eval u).cells.toList.length)) ->
        ∃ w' m',(execOp a.eval o).run P w=.ok .skip w'/\Step cx.lo w m h w' m' h'/\Inv w' m' h':=by
       intro e e' off' hee hh' _ hel;obtain⟨ve,q1,q2,q3,q4⟩:=hok.2 _ e hee;obtain⟨hlez,ve',p1,p2⟩:=hel ve q1 q2 q3;have hsz2:(a.eval u).cells.size=sz:=by omega
       have hidx:(o'+i)*z'+z'<=c.size:=by
        have h5:=hok.1;have h6:o'+i<es.length:=(kS.mp hee).1;have h7:(o'+i+1)*z'<=es.length*z':=JX _ h6;rw[AZ (o'+i) 1]at h7;simp at h5;omega
       have hrun:=ax6 (P:=P) (w:=w) (v:=a.eval u) hs hsz2 c2 hb (off:=(o'+i)*z'+off) (by omega)
       have hvl:(a.eval u).cells.toList.length=sz:=by simpa using hsz2
       obtain⟨s1,i1⟩:=anM (lo:=cx.lo) (qN:=.arr z' (es.set (o'+i) e')) (c':=(c.toList.take ((o'+i)*z'+off)++(a.eval u).cells.toList++c.toList.drop ((o'+i)*z'+off+(a.eval u).cells.toList.length)).toArray) i0 hid (by simp) hm hb acW
        (by simp [hsz2]; omega) (.inr ⟨z',es,es.set (o'+i) e',rfl,rfl,by simp⟩) (fun m' h' hst=>⟨hz0,by
         refine xC.keep hst.keep ?_;refine⟨by simp[hsz2];have:=hok.1;simp at this;omega,fun j x hx=>?_⟩
         have hsame:∀ k,(k<(o'+i)*z'+off\/(o'+i)*z'+off+sz<=k)->(c.toList.take ((o'+i)*z'+off)++(a.eval u).cells.toList++c.toList.drop ((o'+i)*z'+off+(a.eval u).cells.toList.length))[k]?=c.toList[k]?:=by
          intro k hk';rcases hk' with hk'|hk'
          ·rw[sZ,zy (by simp;omega),IA,if_pos hk']
          ·rw[Fx (by simp[hsz2];omega),Nr]
           congr 1;simp[hsz2];omega
         have hmid:∀ k,k<sz->(c.toList.take ((o'+i)*z'+off)++(a.eval u).cells.toList++c.toList.drop ((o'+i)*z'+off+(a.eval u).cells.toList.length))[(o'+i)*z'+off+k]?=(a.eval u).cells.toList[k]?:=by
          intro k hk';rw[sZ,Fx (by simp;omega),zy (by simp[hsz2];omega)]
          congr 1;simp;omega
         by_cases hj:j=o'+i
         ·subst hj;rw[L8 (kS.mp hee).1]at hx;cases hx;refine⟨ve',p1, ?_, ?_,fun k y hy=>?_⟩
          ·have:=congrArg List.length p2;simp[hsz2]at this;rw[this];omega
          ·rw[p2];exact anL q3 c2
          ·rw[p2]at hy
           have hkz:k<z':=by
            have:=(kS.mp hy).1;simp[hsz2]at this;omega
           by_cases hk1:k<off
           ·rw[sZ,zy (by simp;omega),IA,if_pos hk1]at hy
            rw[hsame _ (.inl (by omega))]
            exact q4 k y hy
           ·by_cases hk2:k<off+sz
            ·rw[sZ,Fx (by simp;omega),zy (by simp[hsz2];omega)]at hy
             rw[show (o'+i)*z'+k=(o'+i)*z'+off+(k-off) by omega,hmid _ (by omega)]
             rw[<-hy];congr 1;simp;omega
            ·rw[Fx (by simp[hsz2];omega),Nr]at hy
             rw[hsame _ (.inr (by omega))]
             refine q4 k y ?_;rw[<-hy];congr 1;simp[hsz2];omega
         ·rw[tL (by omega)]at hx
          obtain⟨vx,x1,x2,x3,x4⟩:=hok.2 j x hx;refine⟨vx,x1,x2,x3,fun k y hy=>?_⟩;have hkz:k<z':=by rw[<-x2];simpa using(kS.mp hy).1
          rw[hsame _ ?_]
          ·exact x4 k y hy
          ·rcases Nat.lt_or_gt_of_ne hj with hlt|hgt
           ·left;have:(j+1)*z'<=(o'+i)*z':=JX _ hlt;rw[AZ]at this;omega
           ·right;have:(o'+i+1)*z'<=j*z':=JX _ hgt;rw[AZ (o'+i)]at this;omega⟩)
       refine⟨_,_, ?_,s0.trans (hh'▸s1),hh'▸i1⟩;simp only[execOp,hop,Instr.storeAt,e1,Instr.sureAddr,Sem.run_bind,Sem.run_pure,Result.andThen_ok,hrun]
      split at hq
      ·rename_i cs hee;obtain⟨cs',hsp,rfl⟩:=mE.mp hq;refine fin _ (.agg cs') off hee rfl rfl fun ve q1 q2 q3=>?_;simp only[RC]at q1;obtain⟨vs,rfl,y1,y2⟩:=q1;obtain⟨hle2,rl2⟩:=arV hsp (RL.acO (m:=m) (h:=h1) _ _ y2) (RL.acO (m:=m) (h:=h1) _ _ d3);have aOr:vs.length=z':=by simpa[Value.cells]using q2
       refine⟨by simp at hle2;omega,.agg (vs.take off++(a.eval u).cells.toList++vs.drop (off+(a.eval u).cells.toList.length)).toArray, ?_,by simp[Value.cells]⟩
       simp only[RC];refine⟨_,rfl,anL (by simpa[Value.cells]using q3) c2, ?_⟩
       obtain⟨hle3,rfl⟩:=ax5 hsp;have l1:=(ali _ _ y2);have l2:=(ali _ _ d3);refine axD _ _ (by simp;have:=l1.1;have:=l2.1;simp at this;omega) fun j c' hc'=>?_
       obtain⟨x',hx',hR⟩:=(RA _ _ rl2).2 j c' hc';refine⟨x',hx', ?_⟩
       -- closed cells
       have hcl:RC w (Live m h1) c' x':=by
        by_cases j1:j<off
        ·rw[sZ,zy (by simp;omega),IA,if_pos j1]at hc'
         rw[sZ,zy (by simp;have:=l1.1;omega),IA,if_pos j1]at hx'
         obtain⟨x2,e2,e3⟩:=l1.2 j c' hc';rw[hx']at e2;cases e2;exact e3
        ·by_cases j2:j<off+v1.cells.length
         ·rw[sZ,Fx (by simp;omega),zy (by simp;omega)]at hc'
          rw[sZ,Fx (by simp;omega),zy (by simp;have:=l1.1;have:=l2.1;simp at this;omega)]at hx'
          obtain⟨x2,e2,e3⟩:=l2.2 _ c' hc';have:(a.eval u).cells.toList[j-(vs.take off).length]?=(a.eval u).cells.toList[j-(cs.take off).length]?:=by congr 1;simp;have:=l1.1;omega
          rw[this,e2]at hx';cases hx';exact e3
         ·rw[Fx (by simp;omega),Nr]at hc'
          rw[Fx (by simp;have:=l1.1;have:=l2.1;simp at this;omega),Nr]at hx'
          obtain⟨x2,e2,e3⟩:=l1.2 _ c' hc'
          have:(off+(a.eval u).cells.toList.length+(j-(vs.take off++(a.eval u).cells.toList).length))=(off+v1.cells.length+(j-(cs.take off++v1.cells).length)):=by
           have:=l1.1;have:=l2.1;simp at this⊢;omega
          rw[this,e2]at hx';cases hx';exact e3
       exact hcl
      ·rename_i e hne hee;split at hq
       ·rename_i hc2;obtain⟨rfl,hev⟩:=hc2;split at hq
        ·cases hq
        ·rename_i v1' ax9;simp only[dz]at hq;refine fin e v1 0 hee hq.symm rfl fun ve q1 q2 q3=>?_;obtain⟨z1,z2,z3⟩:=arW hev q1
         have he1:e.cells.length=1:=by
          cases e<;>first|rfl|(exact(hne _ rfl).elim)
         have hv1:v1.cells.length=1:=by
          cases v1<;>first|rfl|(exact(ax9 _ rfl).elim)
         have hue:(a.eval u).cells=#[a.eval u]:=by
          rcases R.val ax8 (R.Zx (m:=m) (h:=h1) _ _ r0) with⟨_,_,e',_⟩|⟨_,h2,_⟩
          ·exact(ax9 _ e').elim
          ·exact h2
         refine⟨by omega,a.eval u,r0, ?_⟩
         rw[hue];simp;have hl1:ve.cells.toList.length=1:=by simp;omega
         exact JU (by simp at hl1⊢;omega)
       ·cases hq
      ·cases hq
     ·cases hq
    ·cases hq
   ·cases hp
  ·cases hp
 ·cases hk
end
end Go.VI
