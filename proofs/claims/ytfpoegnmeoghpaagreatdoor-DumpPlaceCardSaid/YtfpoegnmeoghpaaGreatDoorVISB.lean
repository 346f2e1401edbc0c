/- Builders. -/
import Derived.Test.YtfpoegnmeoghpaaGreatDoorVISP
set_option linter.unusedVariables false
set_option linter.unusedSimpArgs false
namespace Go.VI
set_option linter.unusedSectionVars false
variable [kH][Rounds]
section
variable {w:World}{m:Map}{h:Heap}{P:Program}{env:Env}{a:Act}{o:Oper}{X:Nat->Prop}{cx:Cx}
theorem ayl(hi:Inv w m h){id ak:Nat}{u:Value}{d:kP}{lk:Option (Nat×Nat)}(hr:R w (Live m h) m h (.lF id ak) u)(hid:h[id]?=some (ak,.aV d (.nX (.nV id ak lk)))) :
  ∃ b p v,u=.pointer (some ⟨b,0,none⟩)/\m[id]?=some b/\w.heap[b]?=some (.cells #[p,v] kH.Nq (0,0))/\(p=.pointer none\/p=.pointer (some ⟨b,0,none⟩))/\d.base+d.ns<=h.length/\ab2 w m h lk v:=by
 simp only[R]at hr;obtain⟨q,l,e,v0,blk,h1,h2,h3⟩:=hr;rw[hid]at h1;cases h1;obtain⟨h4,h5⟩:=h3 rfl _ _ rfl;simp only[RS.knd]at h4;subst h4;obtain⟨b,ob,e1,e2,e3⟩:=hi.aV id _ _ _ hid;rw[h5]at e1;cases e1;obtain⟨e4,_,b',p,v,rfl,e5,⟨v0,blk,q1,q2,q3⟩,e6⟩:=e3;rw[hid]at q1;cases q1;obtain⟨_,q4⟩:=q3 rfl _ _ rfl;rw[h5]at q4;cases q4;exact⟨l,p,v,e,h5,e2,e5,e4,e6⟩
theorem aym(hi:Inv w m h){id2 Gd:Nat}{d:kP}{l:List UInt8}{v:Value}(hl:ab2 w m h (some (id2,Gd)) v)(hid:h[id2]?=some (Gd,.aV d (.nX (.buf l)))) :
  ∃ g cap,v=.slice (some ⟨g,0,none⟩) l.length cap/\m[id2]?=some g/\(d.base+d.ns<=h.length/\d.env=[])/\bsize w g=cap/\w.ownsRowF 0 kH.Y1 1 v l.length (Lib.byteCells l)/\∃ o,w.heap[g]?=some o/\aiR w (Live m h) m h o (.buf l):=by
 obtain⟨g,n,cap,rfl,v0,blk,q1,q2,q3⟩:=hl;rw[hid]at q1;cases q1;obtain⟨k1,rfl,k3⟩:=q3 rfl _ _ rfl;obtain⟨b,ob,e1,e2,e3⟩:=hi.aV id2 _ _ _ hid;rw[k1]at e1;cases e1;obtain⟨e4,e4',cur,fz,rfl,f1,f2,f3,f4⟩:=e3;have hsz:cur.size=cap:=by rw[<-k3,bsize,e2]
 refine⟨g,cap,rfl,k1,⟨e4,e4'⟩,k3,⟨by simp[Lib.byteCells_length],.inr ⟨g,cap,cur,fz,rfl,Nat.zero_le _,e2,by omega,by omega,by omega,by omega,by simpa using f4⟩⟩,_,e2,cur,fz,rfl,f1,f2,f3,f4⟩
theorem ayn{v:Value}{n:Nat}{l:List Value}{e:TypeId}(h:w.ownsRowF 0 e 1 v n l)(hn:n≠0):∃ g cap cur fz,v=.slice (some ⟨g,0,none⟩) n cap/\v.ownBlock=some g/\w.heap[g]?=some (.cells cur e fz)/\fz.2<=n/\n<=cur.size/\cur.size<=maxLen/\cur.size=cap/\cur.toList.take n=l:=by
 rcases h.2 with⟨_,h0⟩|⟨g,cap,cur,fz,rfl,_,h1,h2,h3,h4,h5,h6⟩
 ·exact absurd h0 hn
 ·exact⟨g,cap,cur,fz,rfl,rfl,h1,by omega,by omega,by omega,by omega,by simpa using h6⟩
theorem ayo{m:Map}{id b:Nat}(hm:m[id]?=some b):m.set id b=m:=by
 refine Zy fun j=>?_;by_cases hj:j=id
 ·subst hj;rw[L8 (kS.mp hm).1,hm]
 ·exact tL (by omega)
theorem aFd(hi:Inv w m h){id ak b:Nat}{d:kP}(hd:d.base+d.ns<=h.length){lk lk':Option (Nat×Nat)}{w':World}{v':Value}(hid:h[id]?=some (ak,.aV d (.nX (.nV id ak lk))))(hm:m[id]?=some b)(hf:Fr2 w w' b none)(hb:w'.heap[b]?=some (.cells #[.pointer (some ⟨b,0,none⟩),v'] kH.Nq (0,0))){lo:Nat}(hlo:lo<=id)
  (hl:∀(hs:Step lo w m h w' m (h.set id (ak,.aV { d with env:=(SD.nV id ak lk').env } (.nX (.nV id ak lk'))))),ab2 w' m (h.set id (ak,.aV { d with env:=(SD.nV id ak lk').env } (.nX (.nV id ak lk')))) lk' v') :
  Step lo w m h w' m (h.set id (ak,.aV { d with env:=(SD.nV id ak lk').env } (.nX (.nV id ak lk'))))/\Inv w' m (h.set id (ak,.aV { d with env:=(SD.nV id ak lk').env } (.nX (.nV id ak lk')))):=by
 have hlt:=hi.lt hid (by simp) hm
 have hmm:=ayo hm
 have p:Put w m h id ak (.aV d (.nX (.nV id ak lk))) b w' ak (.aV { d with env:=(SD.nV id ak lk').env } (.nX (.nV id ak lk'))) b :=
  ⟨hi,hid,hm,hf.os,hf.tape,hf.output,hf.size,fun q hq e=>hf.old q hq (fun e'=>(by have:=e e';cases this)) (by simp),iJ _,.inr (.inl ⟨rfl,by simp⟩),fun _=>.inr (.inr (.inl ⟨_,_,_,_,rfl,rfl,by rw[hmm],rfl,fun l e=>by cases e⟩))⟩
 have s:=p.step (lo:=lo) hlo;have hset:=p.hset;rw[hmm]at s
 have i:=p.aiT (fun h=>by cases h) (fun d2 st2 he=>by
  cases he;refine⟨_,hb,by simpa using hd,rfl,b,_,v',rfl,.inr rfl,⟨ak,_,hset,iJ _,fun _ d st e=>by cases e;exact⟨rfl,by rw[hmm];exact hm⟩⟩, ?_⟩
  rw[hmm];exact hl s)
 rw[hmm]at i;exact⟨s,i⟩
def acX(w':World)(b:Nat)(o:Obj):World:={ w' with heap:=w'.heap.setIfInBounds b o }
theorem aFe{w':World}{b:Nat}{o:Obj}(h:b<w'.heap.size):(acX w' b o).heap[b]?=some o:=by simp[acX,h]
theorem arY{w':World}{b:Nat}{o:Obj}{k:Nat}(h:k≠b):(acX w' b o).heap[k]?=w'.heap[k]?:=by simp[acX,Ne.symm h]
theorem ayp(hi:Inv w m h){d d2:kP}(hd:d.base+d.ns<=h.length)(hd2:d2.base+d2.ns<=h.length/\d2.env=[]){id id2 ak v0 Gd b:Nat}{rY:aU}{b0:Nat}{lk:Option (Nat×Nat)}{p v v':Value}{w':World}{l:List UInt8}{lo:Nat}(hlo:lo<=id)(hlo2:lo<=id2)(hne:id2≠id)
  (hid:h[id]?=some (ak,.aV d (.nX (.nV id ak lk)))) (hm:m[id]?=some b) (hb:w.heap[b]?=some (.cells #[p,v] kH.Nq (0,0)))
  (zl:h[id2]?=some (v0,rY)) (hm2:m[id2]?=some b0) (hv:v0<Gd) {g:Option Nat} (hg:g=none\/(g=some b0/\rY≠.dead)) (hf:Fr2 w w' b g)
  (hb':w'.heap[b]?=some (.cells #[.pointer (some ⟨b,0,none⟩),v'] kH.Nq (0,0))) (ho:w'.ownsRowF 0 kH.Y1 1 v' l.length (Lib.byteCells l)) (hn:l≠[]) (hvb:v'.ownBlock≠some b) (hfr:(v'.ownBlock=g/\g≠none)\/∀ g',v'.ownBlock=some g'->w.heap.size<=g') :
  ∃ m',Step lo w m h w' m' ((h.set id2 (Gd,.aV d2 (.nX (.buf l)))).set id (ak,.aV { d with env:=(SD.nV id ak (some (id2,Gd))).env } (.nX (.nV id ak (some (id2,Gd))))))/\Inv w' m' ((h.set id2 (Gd,.aV d2 (.nX (.buf l)))).set id (ak,.aV { d with env:=(SD.nV id ak (some (id2,Gd))).env } (.nX (.nV id ak (some (id2,Gd)))))):=by
 obtain⟨g',cap,cur,fz,rfl,hown,hcur,f1,f2,f3,f4,f5⟩:=ayn ho (by simpa using hn)
 have hbl:b<w.heap.size:=hi.lt hid (by simp) hm
 have aFf:b<w'.heap.size:=Zv hbl hf.size;rw[hown]at hvb hfr;have hgb:g'≠b:=fun e=>hvb (by rw[e])
 -- the bytes' block
 have hw1:(acX w' b (.cells #[p,v] kH.Nq (0,0))).heap.size=w'.heap.size:=by simp[acX]
 have p1:Put w m h id2 v0 rY b0 (acX w' b (.cells #[p,v] kH.Nq (0,0))) Gd (.aV d2 (.nX (.buf l))) g':=by
  refine⟨hi,zl,hm2,hf.os,hf.tape,hf.output,by rw[hw1];exact hf.size,fun k hk e=>?_,by omega, ?_,fun e=>by omega⟩
  ·by_cases hkb:k=b
   ·subst hkb;rw[aFe aFf,hb]
   ·rw[arY hkb];refine hf.old k hk hkb fun e'=>?_;rcases hg with rfl|⟨rfl,hd⟩
    ·cases e'
    ·cases e';exact hd (e rfl)
  ·rcases hfr with⟨e,hne⟩|hfresh
   ·rcases hg with rfl|⟨rfl,hd⟩
    ·exact absurd rfl hne
    ·cases e;exact .inr (.inl ⟨rfl,hd⟩)
   ·exact .inr (.inr (hfresh g' rfl))
 have s1:=p1.step (lo:=lo) hlo2
 have i1:=p1.aiT (fun h=>by cases h) (fun d st e=>by
  cases e;exact⟨_,(arY hgb).trans hcur,by simpa using hd2.1,hd2.2,cur,fz,rfl,f1,f2,f3,f5⟩)
 have F7:(h.set id2 (Gd,.aV d2 (.nX (.buf l))))[id]?=some (ak,.aV d (.nX (.nV id ak lk))):=by rw[(p1.other (Ne.symm hne)).1];exact hid
 have hm':(m.set id2 g')[id]?=some b:=by rw[(p1.other (Ne.symm hne)).2];exact hm
 have hf2:Fr2 (acX w' b (.cells #[p,v] kH.Nq (0,0))) w' b none:=⟨rfl,rfl,rfl,by rw[hw1];exact iJ _,fun k hk hkb _=>(arY hkb).symm⟩
 obtain⟨s2,i2⟩:=aFd i1 (by simpa using hd) F7 hm' hf2 hb' (lk':=some (id2,Gd)) hlo (fun hs=>by
  refine⟨g',l.length,cap,rfl,Gd,.aV d2 (.nX (.buf l)), ?_,iJ _,fun _ d l' e=>?_⟩
  ·rw[tL (Ne.symm hne)];exact p1.hset
  ·cases e;refine⟨p1.IJ,rfl, ?_⟩;simp only[bsize,hcur];exact f4)
 exact⟨_,s1.trans s2,i2⟩
theorem aFg(hi:Inv w m h){s ak:Nat}{h':Heap}(hk:mg P o (.Zo s)=true)(hm:mK cx s (.aV (kP.at (cx.base+s) (.nV (cx.base+s) 0 none)) (.nX (.nV (cx.base+s) 0 none))) h=some (ak,h'))(hlo:cx.lo<=cx.base) :
  ∃ u w' m',(execOp a.eval o).run P w=.ok (.value u) w'/\Step cx.lo w m h w' m' (h'.set (cx.base+s) (ak,.aV (kP.at (cx.base+s) (.nV (cx.base+s) ak none)) (.nX (.nV (cx.base+s) ak none))))/\Inv w' m' (h'.set (cx.base+s) (ak,.aV (kP.at (cx.base+s) (.nV (cx.base+s) ak none)) (.nX (.nV (cx.base+s) ak none)))) /\
   R w' (Live m' (h'.set (cx.base+s) (ak,.aV (kP.at (cx.base+s) (.nV (cx.base+s) ak none)) (.nX (.nV (cx.base+s) ak none))))) m' (h'.set (cx.base+s) (ak,.aV (kP.at (cx.base+s) (.nV (cx.base+s) ak none)) (.nX (.nV (cx.base+s) ak none)))) (.lF (cx.base+s) ak) u:=by
 simp only[mg]at hk;split at hk
 ·rename_i t hop;simp only[fw,beq_iff_eq]at hk;obtain⟨rfl,hk⟩:=hk
  obtain⟨i,hi1,hi2⟩:∃ i,P.info? kH.Nq=some i/\i.zero=some (.agg #[.pointer none,.slice none 0 0]):=by
   cases hq:P.info? kH.Nq with
   |none=>simp[hq]at hk
   |some i =>
    simp only[hq]at hk;refine⟨i,rfl, ?_⟩;simp at hk;split at hk
    ·assumption
    ·cases hk
  have hm2:mK cx s (.aV (kP.at (cx.base+s) (.nV (cx.base+s) ak none)) (.nX (.nV (cx.base+s) ak none))) h=some (ak,h'.set (cx.base+s) (ak,.aV (kP.at (cx.base+s) (.nV (cx.base+s) ak none)) (.nX (.nV (cx.base+s) ak none)))):=by
   unfold mK at hm⊢;split at hm
   ·rename_i hc;rw[if_pos ⟨hc.1,hc.2⟩];split at hm
    ·rename_i v0 b0 hid;simp only[dz,bf]at hm;obtain⟨rfl,rfl⟩:=hm;simp
    ·cases hm
   ·cases hm
  obtain⟨v0,rY,b0,p,e,_⟩:=arS hi hm2 (aiX w (.cells #[.pointer none,.slice none 0 0] kH.Nq)) (iJ _);rw[e];refine⟨.pointer (some ⟨w.heap.size,0,none⟩),w.alloc (.cells #[.pointer none,.slice none 0 0] kH.Nq),_, ?_,p.step (by omega),p.aiT (fun h=>by cases h) (fun d st e=>?_), ?_⟩
  ·simp[execOp,hop,Instr.alloc,zeroValue,typeInfo,hi1,hi2,newVar,newRow,Value.cells]
  ·cases e;exact⟨_,heap_alloc_new w _,by simp only[kP.at,Td];have:=(kS.mp p.hid).1;omega,rfl,w.heap.size,_,_,rfl,.inl rfl,⟨ak,_,p.hset,iJ _,fun _ d st e=>by cases e;exact⟨rfl,p.IJ⟩⟩,rfl⟩
  ·simp only[R];exact⟨2,w.heap.size,rfl,ak,_,p.hset,iJ _,fun _ d st e=>by cases e;exact⟨rfl,p.IJ⟩⟩
 ·cases hk
theorem aFh{s f:Nat}{x y:bD}(hi:Inv w m h)(he:uO w m h env a)(hk:mg P o (.YV s f x y)=true){v:AV}{h':Heap}(hx:YZ cx s (x.ev env) (y.ev env) h=some (v,h'))(hlo:cx.lo<=cx.base)(hc:∀ f,kH.ald f=true->alB P f) :
  ∃ vs : List Value, Enters P f ∧ (∀ fn, P.funcs[f]? = some fn → fn.name ≠ "runtime.NumGoroutine" → fn.body.isSome = true → (execOp a.eval o).run P w = .ok (.enter f vs.toArray) w) ∧
   Calls P f vs.toArray w fun e w'=>∃ u m',e=.returned u/\Step cx.lo w m h w' m' h'/\Inv w' m' h'/\R w' (Live m' h') m' h' v u:=by
 simp only[mg]at hk;split at hk
 ·rename_i _ g p q vt hop;simp only[fw,beq_iff_eq]at hk;obtain⟨⟨⟨rfl,k1⟩,k2⟩,k3⟩:=hk;obtain⟨hen,hcall⟩:=hc g k1;have rx:=tO he k2;have ry:=tO he k3;refine⟨[a.eval p,a.eval q],hen,fun fn hfn hname hbody=>?_, ?_⟩
  ·have hb':fn.body.isNone=false:=by cases hfb:fn.body<;>simp_all
   have hg:a.eval (.func g)=.func (.func g) #[] #[]:=rfl;simp only[execOp,hop,resolve,Deferred.ofValue,hg,invoke,callFunc,Sem.run_bind,Sem.run_pure,Result.andThen_ok,run_program,hfn];simp[hname,hb']
  ·unfold YZ at hx;split at hx
   ·rename_i id ak l ex ey;rw[ex]at rx;rw[ey,RB]at ry;split at hx
    ·rename_i v1 d me mv lk hid;split at hx
     ·rename_i hcond;obtain⟨rfl,rfl,rfl,arZ⟩:=hcond;obtain⟨b,p0,sv,hu,hm,hb,hp0,hd0,hlk⟩:=ayl hi rx hid;rw[hu,ry]
      have hRt:∀{w':World} {m':Map} {h':Heap},R w' (Live m' h') m' h' (.tuple [.int .i64 l.length,.zB]) (.tuple #[.int .i64 l.length,.nilIface]):=by
       intro w' m' h';simp only[R,RL,RC];exact⟨[.int .i64 l.length,.nilIface],rfl,_,_,rfl,rfl,_,_,rfl,rfl,rfl⟩
      split at hx
      ·split at hx
       ·cases hx
       ·rename_i hl;split at hx
        ·rename_i hcond;obtain⟨⟨v2,h1⟩,hmk,he2⟩:=mE.mp hx;simp only[bf]at he2;obtain⟨rfl,rfl⟩:=he2;simp only[ab2]at hlk;subst hlk;have hown:w.ownsRowF 0 kH.Y1 1 (.slice none 0 0) ([]:List UInt8).length (Lib.byteCells []):=⟨rfl,.inl ⟨rfl,rfl⟩⟩;refine(hcall w b p0 _ [] l hb hp0 hown (by simp[Value.ownBlock]) (by simpa using hcond.1)).mono ?_
         rintro e w' ⟨rfl,hf,v',hb',ho',hvb,hfr⟩
         obtain⟨v0,rY,zl,rfl,rfl⟩:∃ v0 rY,h[cx.base+s]?=some (v0,rY)/\v0+1=v2/\h.set (cx.base+s) (v0+1,.aV (kP.at (cx.base+s) (.buf l)) (.nX (.buf l)))=h1:=by
          unfold mK at hmk;split at hmk
          ·split at hmk
           ·rename_i v0 rY F7;simp only[dz,bf]at hmk;exact⟨v0,rY,F7,hmk.1,hmk.2⟩
           ·cases hmk
          ·cases hmk
         obtain⟨b0,hm2⟩:=ajR hi.len zl
         have aFi:(v'.ownBlock=none/\(none:Option Nat)≠none)\/∀ g',v'.ownBlock=some g'->w.heap.size<=g':=by
          rcases hfr with hfr|hfr
          ·right;intro g' hg';rw[hfr]at hg';simp[Value.ownBlock]at hg'
          ·exact .inr hfr
         simp only[Ma,F6,List.nil_append]at ho';obtain⟨m',s1,i1⟩:=ayp (lo:=cx.lo) (d2:=kP.at (cx.base+s) (.buf l)) hi hd0 ⟨by have:=(kS.mp zl).1;simp only[kP.at];omega,rfl⟩ arZ (by omega) (Ne.symm hcond.2.1) hid hm hb zl hm2 (Nat.lt_succ_self v0) (.inl rfl) hf hb' ho' hl hvb aFi
         exact⟨_,m',rfl,s1,i1,hRt⟩
        ·cases hx
      ·rename_i id2 Gd;split at hx
       ·rename_i v2 d2 l0 zl;split at hx
        ·rename_i hcond;obtain⟨rfl,hne,hlo2,hl0,hlim,_⟩:=hcond;simp only[dz,bf]at hx;obtain⟨rfl,rfl⟩:=hx;obtain⟨g,cap,rfl,hmg,hdd,hbs,hown,_⟩:=aym hi hlk zl;have hgb:g≠b:=fun e=>hne (hi.inj id2 me _ _ _ _ b zl (by simp) (e▸hmg) hid (by simp) hm)
         refine(hcall w b p0 _ l0 l hb hp0 hown (by simp[Value.ownBlock,hgb]) hlim).mono ?_
         rintro e w' ⟨rfl,hf,v',hb',ho',hvb,hfr⟩;rw[<-uG]at ho'
         obtain⟨m',s1,i1⟩:=ayp (lo:=cx.lo) (l:=l0++l) hi hd0 hdd arZ hlo2 hne hid hm hb zl hmg (Nat.lt_succ_self v2) (.inr ⟨rfl,by simp⟩) hf hb' ho' (by simp[hl0]) hvb (by
          rcases hfr with hfr|hfr
          ·exact .inl ⟨hfr,by simp⟩
          ·exact .inr hfr)
         exact⟨_,m',rfl,s1,i1,hRt⟩
        ·cases hx
       ·cases hx
     ·cases hx
    ·cases hx
   ·cases hx
 ·cases hk
theorem aFj{f:Nat}{x:bD}(hi:Inv w m h)(he:uO w m h env a)(hk:mg P o (.YW f x)=true){v:AV}(hx:abW cx (x.ev env) h=some v)(hc:∀ f,kH.ale f=true->alC P f) :
  ∃ vs : List Value, Enters P f ∧ (∀ fn, P.funcs[f]? = some fn → fn.name ≠ "runtime.NumGoroutine" → fn.body.isSome = true → (execOp a.eval o).run P w = .ok (.enter f vs.toArray) w) ∧
   Calls P f vs.toArray w fun e w'=>∃ u m',e=.returned u/\Step cx.lo w m h w' m' h/\Inv w' m' h/\R w' (Live m' h) m' h v u:=by
 simp only[mg]at hk;split at hk
 ·rename_i _ g p vt hop;simp only[fw,beq_iff_eq]at hk;obtain⟨⟨rfl,k1⟩,k2⟩:=hk;obtain⟨hen,hcall⟩:=hc g k1;have rx:=tO he k2;refine⟨[a.eval p],hen,fun fn hfn hname hbody=>?_, ?_⟩
  ·have hb':fn.body.isNone=false:=by cases hfb:fn.body<;>simp_all
   have hg:a.eval (.func g)=.func (.func g) #[] #[]:=rfl;simp only[execOp,hop,resolve,Deferred.ofValue,hg,invoke,callFunc,Sem.run_bind,Sem.run_pure,Result.andThen_ok,run_program,hfn];simp[hname,hb']
  ·unfold abW at hx;split at hx
   ·rename_i id ak ex;rw[ex]at rx;split at hx
    ·rename_i v1 d me mv lk hid;split at hx
     ·rename_i hcond;obtain⟨rfl,rfl,rfl,arZ⟩:=hcond;obtain⟨b,p0,sv,hu,hm,hb,hp0,hd0,hlk⟩:=ayl hi rx hid;rw[hu];split at hx
      ·simp only[dz]at hx;subst hx;simp only[ab2]at hlk;subst hlk;have hown:w.ownsRowF 0 kH.Y1 1 (.slice none 0 0) ([]:List UInt8).length (Lib.byteCells []):=⟨rfl,.inl ⟨rfl,rfl⟩⟩;refine(hcall w b p0 _ [] hb hp0 hown (by simp[Value.ownBlock]) (fun _=>rfl)).mono ?_
       rintro e w' ⟨rfl,hf,hb',_⟩
       have hbel:RowKit.Below w.heap.size w w':=⟨hf.os,hf.tape,hf.output,hf.size,fun k hk=>by
        by_cases hkb:k=b
        ·rw[hkb,hb']
        ·exact hf.old k hk hkb (by simp[Value.ownBlock])⟩
       exact⟨_,m,rfl,abq hi hbel,ab3 hi hbel,RB.mpr rfl⟩
      ·rename_i id2 Gd;split at hx
       ·rename_i v2 d2 l zl;split at hx
        ·rename_i hcond;obtain⟨rfl,hne,hlo2,hl0⟩:=hcond;simp only[dz]at hx;subst hx;obtain⟨g,cap,rfl,hmg,hdd,hbs,hown,_⟩:=aym hi hlk zl;have hgb:g≠b:=fun e=>hne (hi.inj id2 me _ _ _ _ b zl (by simp) (e▸hmg) hid (by simp) hm)
         refine(hcall w b p0 _ l hb hp0 hown (by simp[Value.ownBlock,hgb]) (fun h=>absurd h hl0)).mono ?_
         rintro e w' ⟨rfl,hf,hb',ho'⟩;obtain⟨g',cap',cur,fz,e1,_,hcur,f1,f2,f3,f4,f5⟩:=ayn ho' (by simpa using hl0)
         cases e1;have hmm:=ayo hmg
         have hset:h.set id2 (v2,.aV d2 (.nX (.buf l)))=h:=by
          refine Zy fun j=>?_;by_cases hj:j=id2
          ·subst hj;rw[L8 (kS.mp zl).1,zl]
          ·rw[tL (by omega)]
         have pp:Put w m h id2 v2 (.aV d2 (.nX (.buf l))) g w' v2 (.aV d2 (.nX (.buf l))) g:=by
          refine⟨hi,zl,hmg,hf.os,hf.tape,hf.output,hf.size,fun k hk e=>?_,iJ _,.inr (.inl ⟨rfl,by simp⟩),fun _=>.inr (.inr (.inl ⟨_,_,_,_,rfl,rfl,by rw[hmm],rfl,fun l' e=>⟨e,fun b' hb2=>?_⟩⟩))⟩
          ·by_cases hkb:k=b
           ·rw[hkb,hb']
           ·exact hf.old k hk hkb fun e'=>by cases e';have:=e rfl;cases this
          ·rw[hmg]at hb2;cases hb2;rw[hbs];simp only[bsize,hcur];exact f4
         have s1:=pp.step (lo:=cx.lo) hlo2
         have i1:=pp.aiT (fun h=>by cases h) (fun d st e=>by
          cases e;exact⟨_,hcur,by simpa using hdd.1,hdd.2,cur,fz,rfl,f1,f2,f3,f5⟩)
         rw[hmm,hset]at s1 i1;exact⟨_,m,rfl,s1,i1,RB.mpr rfl⟩
        ·cases hx
       ·cases hx
     ·cases hx
    ·cases hx
   ·cases hx
 ·cases hk
end
end Go.VI
