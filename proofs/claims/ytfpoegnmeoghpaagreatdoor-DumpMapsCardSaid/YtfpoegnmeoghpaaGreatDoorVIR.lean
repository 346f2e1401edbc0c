/- What the evaluator keeps of the blocks of its callers: these lead to none of the frames above them. -/
import Derived.Test.YtfpoegnmeoghpaaGreatDoorVIQ
set_option linter.unusedVariables false
set_option linter.unusedSimpArgs false
namespace Go.VI
set_option linter.unusedSectionVars false
mutual
theorem Sk:∀{top:Nat} (v:AV),v.xZ top=true->low top v
 |top,.agg cs,h|top,.tuple cs,h|top,.fn _ cs,h=>by simp only[AV.xZ]at h;simp only[low];exact Z4 cs h
 |top,.iG _ v,h|top,.gu v _ _,h=>by simp only[AV.xZ]at h;simp only[low];exact Sk v h
 |top,.ref ..,h|top,.aF ..,h|top,.dY ..,h=>by simp only[AV.xZ,decide_eq_true_eq]at h;simpa only[low]using h
 |_,.undef,_|_,.bool _,_|_,.int _ _,_|_,.str _,_|_,.jR,_|_,.j6,_|_,.aP,_|_,.aW _ _,_|_,.bF _ _,_|_,.own _ _,_|_,.nilPtr,_|_,.bR _,_=>by simp[low]
theorem Z4:∀{top:Nat} (cs:List AV),AV.Ni top cs=true->lJ top cs
 |_,[],_=>by simp[lJ]
 |top,c::cs,h=>by
  simp only[AV.Ni,bM]at h;simp only[lJ];exact⟨Sk c h.1,Z4 cs h.2⟩
end
mutual
theorem Sq:∀{top:Nat} (v:AV),v.closed=true->low top v
 |top,.agg cs,h|top,.tuple cs,h|top,.fn _ cs,h=>by simp only[AV.closed]at h;simp only[low];exact Sr cs h
 |top,.iG _ v,h=>by simp only[AV.closed]at h;simp only[low];exact Sq v h
 |top,.ref ..,h|top,.aF ..,h|top,.dY ..,h|top,.gu ..,h=>by simp[AV.closed]at h
 |_,.undef,_|_,.bool _,_|_,.int _ _,_|_,.str _,_|_,.jR,_|_,.j6,_|_,.aP,_|_,.aW _ _,_|_,.bF _ _,_|_,.own _ _,_|_,.nilPtr,_|_,.bR _,_=>by simp[low]
theorem Sr:∀{top:Nat} (cs:List AV),AV.l5 cs=true->lJ top cs
 |_,[],_=>by simp[lJ]
 |top,c::cs,h=>by
  simp only[AV.l5,bM]at h;simp only[lJ];exact⟨Sq c h.1,Sr cs h.2⟩
end
mutual
theorem low_mono{b b':Nat}(h:b<=b'):∀(v:AV),low b v->low b' v
 |.agg cs,hl|.tuple cs,hl|.fn _ cs,hl=>by simp only[low]at hl⊢;exact Z5 h cs hl
 |.iG _ v,hl|.gu v _ _,hl=>by simp only[low]at hl⊢;exact low_mono h v hl
 |.ref ..,hl|.aF ..,hl|.dY ..,hl=>by simp only[low]at hl⊢;omega
 |.undef,_|.bool _,_|.int _ _,_|.str _,_|.jR,_|.j6,_|.aP,_|.aW _ _,_|.bF _ _,_|.own _ _,_|.nilPtr,_|.bR _,_=>by simp[low]
theorem Z5{b b':Nat}(h:b<=b'):∀(cs:List AV),lJ b cs->lJ b' cs
 |[],_=>by simp[lJ]
 |c::cs,hl=>by simp only[lJ]at hl⊢;exact⟨low_mono h c hl.1,Z5 h cs hl.2⟩
end
theorem KA{b:Nat}:∀{cs:List AV},lJ b cs↔∀ c∈cs,low b c
 |[]=>by simp[lJ]
 |c::cs=>by simp only[lJ,ko,forall_eq_or_imp,KA]
theorem ahu{b:Nat}{v:AV}(h:low b v):lJ b v.cells:=by
 cases v<;>simp_all[AV.cells,low,lJ]
def qE(N:Nat)(h:Heap):Prop :=
 ∀ id v,(∀ cs,id<N->h[id]?=some (v,.box cs)->lJ N cs)/\(∀ d st,h[id]?=some (v,.ax d st)->(id<N->d.base+d.ns<=N/\∀ t,low N (d.env.get t))/\(N<=id->N<=d.base))
structure zM(call:Callee):Prop where
 fn:∀{f:Nat} {args:List AV} {h:Heap} {lo:Nat} {r:AV} {h':Heap},call.fn f args h lo=some (r,h')->h'.length=h.length/\∀ N,N<=h.length->qE N h->qE N h'
 rd:∀{d:dO} {id ai:Nat} {args:List AV} {h:Heap} {e:Ex} {h':Heap},call.rd d id ai args h=some (e,h')->(∃ st,h[id]?=some (ai,.ax d st))->h'.length=h.length/\∀ N,N<=h.length->qE N h->qE N h'
def fJ(N:Nat)(h h':Heap):Prop:=h'.length=h.length/\(qE N h->qE N h')
theorem fJ.refl(N:Nat)(h:Heap):fJ N h h:=⟨rfl,fun h=>h⟩
theorem fJ.trans{N:Nat}{h h1 h2:Heap}(a:fJ N h h1)(b:fJ N h1 h2):fJ N h h2:=⟨b.1.trans a.1,fun h=>b.2 (a.2 h)⟩
theorem fJ.set{N:Nat}{h:Heap}{id:Nat}{x:Nat×au}(hb:∀ cs,x.2=.box cs->id<N->qE N h->lJ N cs)(hr:∀ d st,x.2=.ax d st->qE N h->(id<N->d.base+d.ns<=N/\∀ t,low N (d.env.get t))/\(N<=id->N<=d.base)):fJ N h (h.set id x):=by
 refine⟨by simp,fun hl k v=>?_⟩
 by_cases hk:k=id
 ·subst hk;refine⟨fun cs hkN hh=>?_,fun d st hh=>?_⟩
  ·rw[List.getElem?_set]at hh;simp only[if_true]at hh;split at hh
   ·simp only[aS]at hh;subst hh;exact hb cs rfl hkN hl
   ·cases hh
  ·rw[List.getElem?_set]at hh;simp only[if_true]at hh;split at hh
   ·simp only[aS]at hh;subst hh;exact hr d st rfl hl
   ·cases hh
 ·rw[iH (by omega)]
  exact hl k v
theorem fJ.dead{N:Nat}{h:Heap}{id v:Nat}:fJ N h (h.set id (v,.dead)):=fJ.set (fun _ h=>by cases h) (fun _ _ h=>by cases h)
theorem fJ.arr{N:Nat}{h:Heap}{id v z:Nat}{es:List AV}:fJ N h (h.set id (v,.arr z es)):=fJ.set (fun _ h=>by cases h) (fun _ _ h=>by cases h)
mutual
theorem E5{N base:Nat}{keep:Bool}:∀(v:AV) (h:Heap) (v':AV) (h':Heap),bL base keep v h=some (v',h')->fJ N h h'
 |.agg cs,h,v',h',hf|.tuple cs,h,v',h',hf|.fn _ cs,h,v',h',hf=>by
  simp only[bL,mE,aB]at hf;obtain⟨⟨cs',h1⟩,hf,rfl,rfl⟩:=hf
  exact Sv cs h cs' _ hf
 |.iG _ v,h,v',h',hf=>by
  simp only[bL,mE,aB]at hf;obtain⟨⟨cs',h1⟩,hf,rfl,rfl⟩:=hf
  exact E5 v h cs' _ hf
 |.ref id ai z off len fill,h,v',h',hf=>by
  simp only[bL]at hf;split at hf
  ·simp only[mE,aB]at hf;obtain⟨es,_,rfl,rfl⟩:=hf;exact fJ.dead
  ·split at hf
   ·simp only[aS,aB]at hf;obtain⟨_,rfl⟩:=hf;exact fJ.refl _ _
   ·cases hf
 |.aP,h,v',h',hf=>by simp only[bL,aS,aB]at hf;obtain⟨_,rfl⟩:=hf;exact fJ.refl _ _
 |.own ..,h,v',h',hf|.aF ..,h,v',h',hf|.gu ..,h,v',h',hf|.dY ..,h,v',h',hf=>by simp[bL]at hf
 |.undef,h,v',h',hf|.bool _,h,v',h',hf|.int _ _,h,v',h',hf|.str _,h,v',h',hf|.jR,h,v',h',hf|.j6,h,v',h',hf|.aW _ _,h,v',h',hf|.bF _ _,h,v',h',hf|.nilPtr,h,v',h',hf|.bR _,h,v',h',hf=>by
  simp only[bL,aS,aB]at hf;obtain⟨_,rfl⟩:=hf;exact fJ.refl _ _
theorem Sv{N base:Nat}{keep:Bool}:∀(cs:List AV) (h:Heap) (cs':List AV) (h':Heap),jT base keep cs h=some (cs',h')->fJ N h h'
 |[],h,cs',h',hf=>by simp only[jT,aS,aB]at hf;obtain⟨_,rfl⟩:=hf;exact fJ.refl _ _
 |c::cs,h,cs',h',hf=>by
  simp only[jT,bE,mE,aB]at hf;obtain⟨⟨c1,h1⟩,f1,⟨cs1,h2⟩,f2,rfl,rfl⟩:=hf;exact(E5 c h c1 h1 f1).trans (Sv cs h1 cs1 _ f2)
end
theorem ahv{N base:Nat}{x:AV}{h:Heap}{x':AV}{h':Heap}(hf:rX base x h=some (x',h')):fJ N h h':=by
 cases x<;>simp only[rX]at hf<;>(try exact E5 _ _ _ _ hf);rename_i id ai off;split at hf
 ·rename_i v0 cs hid;obtain⟨⟨cs',h1⟩,h2,hf⟩:=bE.mp hf;dsimp only at hf;split at hf
  ·rename_i v1 cs1 vQ;split at hf
   ·rename_i hc;simp only[aS,aB]at hf;obtain⟨rfl,rfl⟩:=hf;exact(Sv _ _ _ _ h2).trans (fJ.set (fun cs e _ _=>by simp only[au.box.injEq]at e;subst e;exact Sr _ hc.2.1) (fun _ _ e=>by cases e))
   ·cases hf
  ·cases hf
 ·cases hf
def Cx.side(cx:Cx)(N:Nat):Prop:=N<=cx.base\/(cx.kW≠none/\cx.base+cx.ns<=N)
theorem Sw{cx:Cx}{N:Nat}(hs:cx.kW≠none)(hN:cx.base+cx.ns<=N){v:AV}(h:cx.fit v=true):low N v:=by
 unfold Cx.fit at h
 cases hr:cx.kW with
 |none=>exact absurd hr hs
 |some p=>rw[hr]at h;simp at h;exact low_mono hN _ (Sk v h)
theorem Ov{cx:Cx}{N s ai:Nat}{b:au}{h h':Heap}(hs:cx.side N)(hm:fB cx s b h=some (ai,h'))(hr:∀ d st,b=.ax d st->cx.base<=d.base/\(s<cx.ns->d.base+d.ns<=cx.base+cx.ns)):fJ N h h':=by
 unfold fB at hm;split at hm
 ·rename_i hc;obtain⟨hc1,hc2⟩:=hc;split at hm
  ·simp only[aS,aB]at hm;obtain⟨rfl,rfl⟩:=hm;refine fJ.set (fun cs he hid _=>?_) (fun d st he hl=>?_)
   ·simp only at he;subst he;rcases hs with h|⟨h1,h2⟩
    ·omega
    ·simp only[au.fits,nE]at hc2;exact KA.mpr fun c hc=>Sw h1 h2 (hc2 c hc)
   ·simp only at he;subst he;obtain⟨g1,g2⟩:=hr d st rfl;have g2:=g2 hc1;rcases hs with h|⟨h1,h2⟩
    ·exact⟨fun hid=>by omega,fun _=>by omega⟩
    ·refine⟨fun _=>⟨by omega,fun t=>?_⟩,fun hid=>by omega⟩
     simp only[au.fits,nE]at hc2
     have:∀(e:Env),(∀ p∈e,cx.fit p.2=true)->low N (e.get t):=by
      intro e
      induction e with
      |nil=>intro _;simp[Env.get,low]
      |cons p r ih =>
       intro hp;obtain⟨k,v⟩:=p;simp only[Env.get];split
       ·exact Sw h1 h2 (hp (k,v) (by simp))
       ·exact ih fun q hq=>hp q (by simp[hq])
     exact this d.env fun p hp=>hc2 p hp
  ·cases hm
 ·cases hm
theorem GV{cx:Cx}{N s ai:Nat}{b:au}{h h':Heap}(hs:cx.side N)(hm:fB cx s b h=some (ai,h'))(hr:∀ d st,b≠.ax d st:=by simp):fJ N h h':=Ov hs hm fun d st e=>absurd e (hr d st)
theorem KC{cx:Cx}{N:Nat}(hs:cx.side N):∀(own:List (Nat×Nat)) (cs cs':List AV) (h h':Heap),qB cx own cs h=some (cs',h')->fJ N h h'
 |[],cs,cs',h,h',ht=>by simp only[qB,aS,aB]at ht;obtain⟨_,rfl⟩:=ht;exact fJ.refl _ _
 |(j,s)::r,cs,cs',h,h',ht=>by
  simp only[qB]at ht;split at ht
  ·split at ht
   ·exact KC hs r _ _ _ _ ht
   ·obtain⟨⟨v,h1⟩,hm,ht⟩:=bE.mp ht;exact(GV hs hm).trans (KC hs r _ _ _ _ ht)
  ·exact KC hs r _ _ _ _ ht
theorem Z6{N base z:Nat}{env:Env}:∀(ps:List (Nat×aL)) (es es':List AV) (h h':Heap),mK env base z ps es h=some (es',h')->fJ N h h'
 |[],es,es',h,h',ht=>by simp only[mK,aS,aB]at ht;obtain⟨_,rfl⟩:=ht;exact fJ.refl _ _
 |(i,x)::ps,es,es',h,h',ht=>by
  simp only[mK]at ht;obtain⟨⟨v,h1⟩,hf,ht⟩:=bE.mp ht;dsimp only at ht;split at ht
  ·exact(E5 _ _ _ _ hf).trans (Z6 ps _ _ _ _ ht)
  ·cases ht
theorem ahw{cs new r:List AV}{off:Nat}(h:splice cs off new=some r):∀ c∈r,c∈cs\/c∈new:=by
 unfold splice at h;split at h
 ·simp only[aS]at h;subst h;intro c hc;simp only[lX]at hc;rcases hc with(hc|hc)|hc
  ·exact .inl (zH hc)
  ·exact .inr hc
  ·exact .inl (List.mem_of_mem_drop hc)
 ·cases h
theorem ahx{cx:Cx}{N sz:Nat}{h h':Heap}{p v:AV}(hs:cx.side N)(hp:iX cx h sz p v=some h'):fJ N h h':=by
 unfold iX at hp;split at hp
 ·split at hp
  ·rename_i id ai off;split at hp
   ·rename_i w cs hid;split at hp
    ·rename_i hc;obtain⟨hc1,hc2,hc3⟩:=hc;obtain⟨cs',hsp,rfl⟩:=mE.mp hp;refine fJ.set (fun cs2 he ahy hl=>?_) (fun _ _ h=>by cases h)
     simp only[au.box.injEq]at he;subst he;refine KA.mpr fun c hc=>?_;rcases ahw hsp c hc with hm|hm
     ·exact KA.mp ((hl id w).1 cs ahy hid) c hm
     ·have hv:low N v:=by
       rcases hc3 with⟨g1,g2⟩|g
       ·rcases hs with h|⟨h1,h2⟩
        ·omega
        ·exact Sw h1 h2 g2
       ·exact Sq v g
      exact KA.mp (ahu hv) c hm
    ·cases hp
   ·cases hp
  ·rename_i id ai z o len fill i off;obtain⟨⟨v1,h1⟩,hf,hp⟩:=bE.mp hp;refine(E5 _ _ _ _ hf).trans ?_;dsimp only at hp;split at hp
   ·split at hp
    ·split at hp
     ·obtain⟨_,_,rfl⟩:=mE.mp hp;exact fJ.arr
     ·split at hp
      ·split at hp
       ·cases hp
       ·simp only[aS]at hp;subst hp;exact fJ.arr
      ·cases hp
     ·cases hp
    ·cases hp
   ·cases hp
  ·cases hp
 ·cases hp
theorem Z7{cx:Cx}{N s z lim:Nat}{h h':Heap}{x v:AV}{xs:List AV}(hs:cx.side N)(hp:ji cx s z lim x xs h=some (v,h')):fJ N h h':=by
 unfold ji at hp;split at hp
 ·split at hp
  ·simp only[aS,aB]at hp;obtain⟨_,rfl⟩:=hp;exact fJ.refl _ _
  ·split at hp
   ·obtain⟨⟨ai,h1⟩,hm,he⟩:=mE.mp hp;simp only[aB]at he;obtain⟨_,rfl⟩:=he;exact GV hs hm
   ·cases hp
 ·split at hp
  ·split at hp
   ·simp only[aS,aB]at hp;obtain⟨_,rfl⟩:=hp;exact fJ.refl _ _
   ·split at hp
    ·obtain⟨⟨ai,h1⟩,hm,he⟩:=mE.mp hp;simp only[aB]at he;obtain⟨_,rfl⟩:=he;exact GV hs hm
    ·cases hp
  ·cases hp
 ·split at hp
  ·split at hp
   ·simp only[aS,aB]at hp;obtain⟨_,rfl⟩:=hp;exact fJ.arr
   ·cases hp
  ·cases hp
 ·cases hp
theorem ahz{cx:Cx}{N z:Nat}{h h':Heap}{x v:AV}{ys:List AV}(hp:uy cx z x ys h=some (v,h')):fJ N h h':=by
 unfold uy at hp;split at hp
 ·split at hp
  ·cases hp
  ·split at hp
   ·simp only[aS,aB]at hp;obtain⟨_,rfl⟩:=hp;exact fJ.refl _ _
   ·split at hp
    ·split at hp
     ·split at hp
      ·simp only[aS,aB]at hp;obtain⟨_,rfl⟩:=hp;exact fJ.arr
      ·cases hp
     ·cases hp
    ·cases hp
 ·cases hp
theorem Z8{cx:Cx}{s:Nat}{sd:SD}:∀ d st,au.ax (dO.at (cx.base+s) sd) (.fO sd)=.ax d st->cx.base<=d.base/\(s<cx.ns->d.base+d.ns<=cx.base+cx.ns):=by
 intro d st e;cases e;simp only[dO.at];omega
theorem ahA{cx:Cx}{N s:Nat}{h h':Heap}{x y v:AV}(hs:cx.side N)(hp:yj cx s x y h=some (v,h')):fJ N h h':=by
 have fin:∀{h1:Heap} {id ai vv:Nat} {d:dO} {st:RS} {me mv a b:Nat},h1[id]?=some (vv,.ax d st)->cx.base<=id->me=id->(cx.base+cx.ns<=N->a<N) ->
   fJ N h1 (h1.set id (ai,.ax { d with env:=(SD.fM me mv (some (a,b))).env } (.fO (.fM me mv (some (a,b)))))):=by
  intro h1 id ai vv d st me mv a b hid hb hme ha;refine fJ.set (fun _ e=>by cases e) (fun d' st' e hl=>?_)
  cases e;obtain⟨q1,q2⟩:=(hl _ _).2 _ _ hid;refine⟨fun hlt=>⟨(q1 hlt).1,fun t=>?_⟩,q2⟩;rcases hs with h|⟨_,h⟩
  ·omega
  ·have:=ha h;simp only[SD.env,Env.get];split
   ·simp only[low];omega
   ·split
    ·simp only[low];omega
    ·simp[low]
 unfold yj at hp;split at hp
 ·rename_i id ai l;split at hp
  ·rename_i v1 d me mv lk hid;split at hp
   ·rename_i hc;obtain⟨rfl,hme,_,_⟩:=hc;split at hp
    ·split at hp
     ·cases hp
     ·split at hp
      ·rename_i hc2;obtain⟨_,hne,hb⟩:=hc2;obtain⟨⟨v2,h1⟩,hm,he⟩:=mE.mp hp;simp only[aB]at he;obtain⟨_,rfl⟩:=he;have t1:=Ov hs hm Z8
       have mP:h1[id]?=some (v1,.ax d (.fO (.fM me mv none)))/\s<cx.ns:=by
        unfold fB at hm;split at hm
        ·rename_i hcc;split at hm
         ·simp only[aS,aB]at hm;obtain⟨_,rfl⟩:=hm;rw[iH (by omega)]
          exact⟨hid,hcc.1⟩
         ·cases hm
        ·cases hm
       exact t1.trans (fin mP.1 hb hme (fun hN=>by omega))
      ·cases hp
    ·rename_i id2 mY;split at hp
     ·rename_i v2 d2 l0 lg;split at hp
      ·rename_i hc2;obtain⟨rfl,hne,_,_,_,hb,hns⟩:=hc2;simp only[aS,aB]at hp;obtain⟨_,rfl⟩:=hp;have t1:fJ N h (h.set id2 (v2+1,.ax d2 (.fO (.buf (l0++l))))):=fJ.set (fun _ e=>by cases e) (fun d' st' e hl=>by cases e;exact(hl _ _).2 _ _ lg)
       exact t1.trans (fin (by rw[iH hne];exact hid) hb hme (fun hN=>by omega))
      ·cases hp
     ·cases hp
   ·cases hp
  ·cases hp
 ·cases hp
theorem Z9{call:Callee}(hc:zM call){cx:Cx}{N:Nat}{env:Env}{h h':Heap}{f:aL}{args:List aL}{own:List (Nat×Nat)}{v:AV}(hs:cx.side N)(hN:N<=h.length)(hx:xi call cx env h (.call f args own)=some (v,h')):fJ N h h':=by
 simp only[xi]at hx;split at hx
 ·obtain⟨⟨r,h1⟩,h2,hx⟩:=bE.mp hx;obtain⟨l1,l2⟩:=hc.fn h2;have t1:fJ N h h1:=⟨l1,l2 N hN⟩;dsimp only at hx;split at hx
  ·simp only[aS,aB]at hx;obtain⟨_,rfl⟩:=hx;exact t1
  ·split at hx
   ·obtain⟨⟨cs',h3⟩,h4,he⟩:=mE.mp hx;simp only[aB]at he;obtain⟨_,rfl⟩:=he;exact t1.trans (KC hs _ _ _ _ _ h4)
   ·obtain⟨⟨cs',h3⟩,h4,hx⟩:=bE.mp hx;obtain⟨_,_,he⟩:=mE.mp hx;simp only[aB]at he;obtain⟨_,rfl⟩:=he;exact t1.trans (KC hs _ _ _ _ _ h4)
 ·split at hx
  ·unfold iY at hx;split at hx
   ·rename_i v0 d hid;split at hx
    ·rename_i hcond;obtain⟨rfl,_⟩:=hcond;obtain⟨⟨e,h1⟩,h2,he⟩:=mE.mp hx;simp only[aB]at he;obtain⟨_,rfl⟩:=he;obtain⟨l1,l2⟩:=hc.rd h2 ⟨_,hid⟩;exact⟨l1,l2 N hN⟩
    ·cases hx
   ·cases hx
  ·cases hx
 ·cases hx
theorem aac{call:Callee}(hc:zM call){cx:Cx}{N:Nat}{env:Env}{h h':Heap}{o:XI}{v:AV}(hs:cx.side N)(hN:N<=h.length)(hx:xi call cx env h o=some (v,h')):fJ N h h':=by
 by_cases hka:∃ ts f args,o=.mH ts f args
 ·obtain⟨ts,f,args,rfl⟩:=hka;exact Z9 hc hs hN (Jw hx).1
 by_cases hca:∃ f args own,o=.call f args own
 ·obtain⟨f,args,own,rfl⟩:=hca;exact Z9 hc hs hN hx
 cases o<;>simp only[xi]at hx
 case call f args own=>exact absurd ⟨_,_,_,rfl⟩ hca
 case mH ts f args=>exact absurd ⟨_,_,_,rfl⟩ hka
 case gW z zero n ps =>
  obtain⟨⟨es,h1⟩,h2,he⟩:=mE.mp hx;simp only[aB]at he;obtain⟨_,rfl⟩:=he;exact Z6 _ _ _ _ _ h2
 case store sz x y =>
  obtain⟨h1,h2,he⟩:=mE.mp hx;simp only[aB]at he;obtain⟨_,rfl⟩:=he;exact ahx hs h2
 case alloc s zero =>
  obtain⟨⟨ai,h1⟩,h2,he⟩:=mE.mp hx;simp only[aB]at he;obtain⟨_,rfl⟩:=he;exact GV hs h2
 case box s x =>
  split at hx
  ·obtain⟨⟨ai,h1⟩,h2,he⟩:=mE.mp hx;simp only[aB]at he;obtain⟨_,rfl⟩:=he;exact GV hs h2
  ·cases hx
 case dV x =>
  split at hx
  ·obtain⟨⟨ai,h1⟩,h2,he⟩:=mE.mp hx;simp only[aB]at he;obtain⟨_,rfl⟩:=he;exact E5 _ _ _ _ h2
  ·cases hx
 case zk s =>
  obtain⟨⟨ai,h1⟩,h2,he⟩:=mE.mp hx;simp only[aB]at he;obtain⟨_,rfl⟩:=he
  have hm2:fB cx s (.ax (dO.at (cx.base+s) (.fM (cx.base+s) ai none)) (.fO (.fM (cx.base+s) ai none))) h=some (ai,h1.set (cx.base+s) (ai,.ax (dO.at (cx.base+s) (.fM (cx.base+s) ai none)) (.fO (.fM (cx.base+s) ai none)))):=by
   unfold fB at h2⊢;split at h2
   ·rename_i hc;rw[if_pos ⟨hc.1,hc.2⟩];split at h2
    ·rename_i v0 b0 hid;simp only[aS,aB]at h2;obtain⟨rfl,rfl⟩:=h2;simp
    ·cases h2
   ·cases h2
  exact Ov hs hm2 Z8
 case zl t x =>
  split at hx
  ·simp only[aS,aB]at hx;obtain⟨_,rfl⟩:=hx;exact fJ.refl _ _
  ·cases hx
 case yc s f x y=>exact ahA hs hx
 case mk s z zero lim n c =>
  split at hx
  ·split at hx
   ·simp only[aS,aB]at hx;obtain⟨_,rfl⟩:=hx;exact fJ.refl _ _
   split at hx
   ·obtain⟨⟨ai,h1⟩,h2,he⟩:=mE.mp hx;simp only[aB]at he;obtain⟨_,rfl⟩:=he;exact GV hs h2
   ·cases hx
  ·cases hx
 case app s z lim x y =>
  obtain⟨xs,_,hx⟩:=bE.mp hx;unfold Db at hx;split at hx
  ·exact Z7 hs hx
  ·obtain⟨⟨v1,h1⟩,h3,h4⟩:=bE.mp hx;exact(Z7 hs h3).trans (E5 _ _ _ _ h4)
 case zw x=>cases hx
 case copy z x y =>
  obtain⟨ys,_,hx⟩:=bE.mp hx;exact ahz hx
 case u7 z x i =>
  split at hx
  ·obtain⟨n,_,hx⟩:=bE.mp hx;obtain⟨_,_,he⟩:=mE.mp hx;simp only[aB]at he;obtain⟨_,rfl⟩:=he;exact fJ.refl _ _
  ·cases hx
 case rY x i =>
  split at hx
  ·obtain⟨n,_,hx⟩:=bE.mp hx;obtain⟨_,_,he⟩:=mE.mp hx;simp only[aB]at he;obtain⟨_,rfl⟩:=he;exact fJ.refl _ _
  ·cases hx
 all_goals first
  |(simp only[aS,aB]at hx;obtain⟨_,rfl⟩:=hx;exact fJ.refl _ _)
  |(obtain⟨_,_,he⟩:=mE.mp hx;simp only[aB]at he;obtain⟨_,rfl⟩:=he;exact fJ.refl _ _)
  |(obtain⟨_,_,hx⟩:=bE.mp hx;obtain⟨_,_,he⟩:=mE.mp hx;simp only[aB]at he;obtain⟨_,rfl⟩:=he;exact fJ.refl _ _)
theorem ahB{call:Callee}(hc:zM call){cx:Cx}{N:Nat}{env env':Env}{h h':Heap}{o:bT}(hs:cx.side N)(hN:N<=h.length)(hx:lG call cx o env h=some (env',h')):fJ N h h':=by
 unfold lG at hx;split at hx
 ·obtain⟨⟨v,h1⟩,h2,he⟩:=mE.mp hx;simp only[aB]at he;obtain⟨_,rfl⟩:=he;exact aac hc hs hN (oQ h2).1
 ·obtain⟨b,_,hx⟩:=bE.mp hx;split at hx
  ·obtain⟨⟨v,h1⟩,h2,he⟩:=mE.mp hx;simp only[aB]at he;obtain⟨_,rfl⟩:=he;exact aac hc hs hN (oQ h2).1
  ·simp only[aS,aB]at hx;obtain⟨_,rfl⟩:=hx;exact fJ.refl _ _
theorem aad{call:Callee}(hc:zM call){cx:Cx}{N:Nat}(hs:cx.side N):∀(os:List bT) {env env':Env} {h h':Heap},N<=h.length->jN call cx os env h=some (env',h')->fJ N h h'
 |[],env,env',h,h',hN,hx=>by simp only[jN,aS,aB]at hx;obtain⟨_,rfl⟩:=hx;exact fJ.refl _ _
 |o::os,env,env',h,h',hN,hx=>by
  obtain⟨⟨e1,h1⟩,h2,hx⟩:=bE.mp hx;have t:=ahB hc hs hN h2;exact t.trans (aad hc hs os (by rw[t.1];exact hN) hx)
theorem Sz{cx:Cx}{N:Nat}:∀(ss:List Nat) (h:Heap),fJ N h (nD cx ss h)
 |[],h=>fJ.refl _ _
 |s::ss,h=>by
  simp only[nD];split
  ·exact fJ.dead.trans (Sz ss _)
  ·exact Sz ss h
theorem GX{call:Callee}(hc:zM call){cx:Cx}{N:Nat}(hs:cx.side N)(n:Nat):∀(x:XC) {env:Env} {h:Heap} {e:Ex} {env':Env} {h':Heap},N<=h.length->exec call cx n x (env,h)=some (e,(env',h'))->fJ N h h':=by
 intro x
 induction x with
 |skip|exit|ret =>
  intro env h e env' h' hN hx;simp only[exec,aS,aB]at hx;obtain⟨_,_,rfl⟩:=hx
  exact fJ.refl _ _
 |reg draw keep kill ops =>
  intro env h e env' h' hN hx;simp only[exec,mE,aB]at hx;obtain⟨⟨e1,h1⟩,h2,_,_,rfl⟩:=hx;have t:=Sz (cx:=cx) (N:=N) kill h
  exact t.trans (aad hc hs _ (by rw[t.1];exact hN) h2)
 |seq a b iha ihb =>
  intro env h e env' h' hN hx;obtain⟨⟨e1,pz,h1⟩,h2,hx⟩:=bE.mp hx;have t:=iha hN h2;dsimp only at hx;split at hx
  ·exact t.trans (ihb (by rw[t.1];exact hN) hx)
  ·simp only[aS,aB]at hx;obtain⟨_,_,rfl⟩:=hx;exact t
 |cond c a b iha ihb =>
  intro env h e env' h' hN hx;obtain⟨r,_,hx⟩:=bE.mp hx;split at hx
  ·exact iha hN hx
  ·exact ihb hN hx
 |blk id a ih =>
  intro env h e env' h' hN hx;obtain⟨⟨e1,pz,h1⟩,h2,he⟩:=mE.mp hx;have t:=ih hN h2;unfold Ex.nW at he
  split at he<;>(simp only[aB]at he;obtain⟨_,_,rfl⟩:=he;exact t)
 |loop a ih =>
  intro env h e env' h' hN hx;simp only[exec]at hx
  have key:∀(k:Nat) {env:Env} {h:Heap} {e:Ex} {env':Env} {h':Heap},N<=h.length->iter (exec call cx n a) k (env,h)=some (e,(env',h'))->fJ N h h':=by
   intro k
   induction k with
   |zero=>intro env h e env' h' _ hx;simp[iter]at hx
   |succ k ihk =>
    intro env h e env' h' hN hx;simp only[iter,bE]at hx;obtain⟨⟨e1,pz,h1⟩,hx1,hx2⟩:=hx;have t:=ih hN hx1;dsimp only at hx2;split at hx2
    ·exact t.trans (ihk (by rw[t.1];exact hN) hx2)
    ·simp only[aS,aB]at hx2;obtain⟨_,_,rfl⟩:=hx2;exact t
  exact key n hN hx
 |mI s f g =>
  intro env h e env' h' hN hx;simp only[exec]at hx;split at hx
  ·obtain⟨⟨ai,h1⟩,hmk,hx1⟩:=bE.mp hx;obtain⟨⟨r0,h2⟩,hcall,hx2⟩:=bE.mp hx1;clear hx hx1;have t1:fJ N h h1:=Ov hs hmk (fun d st e=>by cases e;exact⟨bC _,fun _=>bC _⟩)
   obtain⟨l1,l2⟩:=hc.fn hcall;have t2:fJ N h1 h2:=⟨l1,l2 N (by rw[t1.1];exact hN)⟩
   dsimp only at hx2;split at hx2
   ·split at hx2
    ·simp only[aS,aB]at hx2;obtain⟨_,_,rfl⟩:=hx2;exact(t1.trans t2).trans fJ.dead
    ·cases hx2
   ·split at hx2
    ·simp only[aS,aB]at hx2;obtain⟨_,_,rfl⟩:=hx2;exact(t1.trans t2).trans fJ.dead
    ·cases hx2
   ·cases hx2
  ·cases hx
 |pre ps a ih =>
  intro env h e env' h' hN hx
  exact ih (env:=env.keep ps) hN hx
 |fz t a ih =>
  intro env h e env' h' hN hx;obtain⟨⟨v',h1⟩,h2,hx⟩:=bE.mp hx;have s:=ahv (N:=N) h2;exact s.trans (ih (env:=env.set t v') (by rw[s.1];exact hN) hx)
theorem ahC{call:Callee}(hc:zM call){n:Nat}{x:bJ}{args:List AV}{h:Heap}{lo:Nat}{r:AV}{h':Heap}(he:enter x (fun cx=>exec call cx n) args h lo=some (r,h')):h'.length=h.length/\∀ N,N<=h.length->qE N h->qE N h':=by
 unfold enter at he;split at he
 ·obtain⟨⟨e,env',h1⟩,hx,he⟩:=bE.mp he
  have hres:h'=if x.isOpen then h1.take h.length else h:=by
   cases e with
   |exit id=>simp at he
   |norm|ret =>
    simp only[bE,mE,aB]at he;obtain⟨v,e1,r',e2,_,rfl⟩:=he;rfl
  have key:∀ N,N<=h.length->fJ N (h++List.replicate x.ns (0,au.dead)) h1:=fun N hN=>GX hc (.inl hN) n x.code (by simp;omega) hx
  have hlen:=(key 0 (vM _)).1;simp only[jm,vT]at hlen;subst hres;split
  ·refine⟨by rw[qi];omega,fun N hN hl=>?_⟩
   have hl0:qE N (h++List.replicate x.ns (0,au.dead)):=by
    have key2:∀(id v:Nat) (b:au),(h++List.replicate x.ns (0,au.dead))[id]?=some (v,b)->b≠.dead->h[id]?=some (v,b):=by
     intro id v b hk hd;rcases kZ id h.length with hlt|hge
     ·rwa [kY hlt]at hk
     ·rw[mO hge,List.getElem?_replicate]at hk;split at hk
      ·cases hk;exact absurd rfl hd
      ·cases hk
    exact fun id v=>⟨fun cs hid hk=>(hl id v).1 cs hid (key2 _ _ _ hk (by simp)),fun d st hk=>(hl id v).2 d st (key2 _ _ _ hk (by simp))⟩
   have hl1:=(key N hN).2 hl0
   have aae:∀(id v:Nat) (b:au),(h1.take h.length)[id]?=some (v,b)->h1[id]?=some (v,b):=by
    intro id v b hk;rw[nH]at hk;split at hk
    ·exact hk
    ·cases hk
   exact fun id v=>⟨fun cs hid hk=>(hl1 id v).1 cs hid (aae _ _ _ hk),fun d st hk=>(hl1 id v).2 d st (aae _ _ _ hk)⟩
  ·exact⟨rfl,fun N _ hl=>hl⟩
 ·cases he
theorem ahD{call:Callee}(hc:zM call){n:Nat}{x:l6}{d:dO}{id ai:Nat}{args:List AV}{h:Heap}{e:Ex}{h':Heap}(hr:round x (fun cx=>exec call cx n) d id ai args h=some (e,h'))(hid:∃ st,h[id]?=some (ai,.ax d st)) :
  h'.length=h.length/\∀ N,N<=h.length->qE N h->qE N h':=by
 obtain⟨st0,hid⟩:=hid;unfold round at hr;split at hr
 ·obtain⟨⟨e1,pz,h1⟩,g1,g2⟩:=bE.mp hr;clear hr;dsimp only at g2;split at g2
  ·split at g2
   ·rename_i v1 d1 vQ;split at g2
    ·obtain⟨⟨e2,jl,h3⟩,g3,g4⟩:=bE.mp g2;clear g2;dsimp only at g4;split at g4
     ·rename_i v2 d2 lg;split at g4
      ·simp only[aS,aB]at g4;obtain⟨_,rfl⟩:=g4
       have main:∀ N,N<=h.length->(qE N h->({ lo:=d.lo,base:=d.base,ns:=d.ns,kW:=some (id,ai) }:Cx).side N)->qE N h->qE N (h3.set id (ai,.ax d2 (if e2=.norm then .ready else .done e2))):=by
        intro N hN hside hl;have t1:=GX hc (hside hl) n x.jE hN g1;have t2:fJ N h1 (h1.set id (ai,.ax d1 .busy)):=fJ.set (fun _ h=>by cases h) (fun d st he hl=>by cases he;exact(hl id v1).2 _ _ vQ)
        have t3:=GX hc (hside hl) n x.body (by rw[t2.1,t1.1];exact hN) g3
        have t4:fJ N h3 (h3.set id (ai,.ax d2 (if e2=.norm then .ready else .done e2))):=fJ.set (fun _ h=>by cases h) (fun d st he hl=>by cases he;exact(hl id v2).2 _ _ lg)
        exact(((t1.trans t2).trans t3).trans t4).2 hl
       have len:(h3.set id (ai,au.ax d2 (if e2=.norm then .ready else .done e2))).length=h.length:=by
        have hside:({ lo:=d.lo,base:=d.base,ns:=d.ns,kW:=some (id,ai) }:Cx).side 0:=.inl (vM _);have t1:=GX hc hside n x.jE (vM _) g1;have t3:=GX hc hside n x.body (vM _) g3;rw[vV,t3.1,vV,t1.1]
       refine⟨len,fun N hN hl=>main N hN (fun hl=>?_) hl⟩;obtain⟨k1,k2⟩:=(hl id ai).2 d st0 hid;rcases kZ id N with hlt|hge
       ·exact .inr ⟨by simp,(k1 hlt).1⟩
       ·exact .inl (k2 hge)
      ·cases g4
     ·cases g4
    ·cases g2
   ·cases g2
  ·cases g2
 ·cases hr
theorem ahE{call:Callee}(hc:zM call){n:Nat}{x:bJ}{b:Bool}{args:List AV}{h:Heap}{lo:Nat}{r:AV}{h':Heap}(he:qV x (fun cx=>exec call cx n) b args h lo=some (r,h')):h'.length=h.length/\∀ N,N<=h.length->qE N h->qE N h':=by
 unfold qV at he;split at he
 ·obtain⟨vs,h1,h2⟩:=bE.mp he;obtain⟨q,h3,h4⟩:=bE.mp h2;split at h4
  ·simp only[aS,aB]at h4;obtain⟨_,rfl⟩:=h4;exact⟨rfl,fun _ _ h=>h⟩
  ·cases h4
 ·exact ahC hc he
theorem SA(L:Lib):∀ n,zM (ex L n)
 |0=>⟨fun{f args h lo r h'} hx=>by simp[ex]at hx,fun{d id ai args h e h'} hx=>by simp[ex]at hx⟩
 |n+1=>by
  have ih:=SA L n;refine⟨fun{f args h lo r h'} hx=>?_,fun{d id ai args h e h'} hx hid=>?_⟩
  ·simp only[ex]at hx;split at hx
   ·simp only[aS,aB]at hx;obtain⟨_,rfl⟩:=hx;exact⟨rfl,fun _ _ h=>h⟩
   ·obtain⟨x,_,hx⟩:=bE.mp hx;exact ahE ih hx
  ·simp only[ex]at hx;obtain⟨x,_,hx⟩:=bE.mp hx;exact ahD ih hx hid
end Go.VI
