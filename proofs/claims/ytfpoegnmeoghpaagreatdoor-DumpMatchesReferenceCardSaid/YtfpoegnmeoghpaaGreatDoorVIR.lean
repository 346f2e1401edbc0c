/- What the evaluator keeps of the blocks of its callers: these lead to none of the frames above them. -/
import Derived.Test.YtfpoegnmeoghpaaGreatDoorVIQ
set_option linter.unusedVariables false
set_option linter.unusedSimpArgs false
namespace Go.VI
set_option linter.unusedSectionVars false
mutual
theorem K6:∀{top:Nat} (v:AV),v.rJ top=true->low top v
 |top,.agg cs,h|top,.tuple cs,h|top,.fn _ cs,h=>by simp only[AV.rJ]at h;simp only[low];exact Sv cs h
 |top,.eZ _ v,h|top,.di v _ _,h=>by simp only[AV.rJ]at h;simp only[low];exact K6 v h
 |top,.ref ..,h|top,.aJ ..,h|top,.cZ ..,h=>by simp only[AV.rJ,decide_eq_true_eq]at h;simpa only[low]using h
 |_,.undef,_|_,.bool _,_|_,.int _ _,_|_,.str _,_|_,.gZ,_|_,.iG,_|_,.aD,_|_,.aN _ _,_|_,.aM _ _,_|_,.own _ _,_|_,.nilPtr,_|_,.bD _,_=>by simp[low]
theorem Sv:∀{top:Nat} (cs:List AV),AV.Gc top cs=true->iD top cs
 |_,[],_=>by simp[iD]
 |top,c::cs,h=>by
  simp only[AV.Gc,bg]at h;simp only[iD];exact⟨K6 c h.1,Sv cs h.2⟩
end
mutual
theorem K7:∀{top:Nat} (v:AV),v.closed=true->low top v
 |top,.agg cs,h|top,.tuple cs,h|top,.fn _ cs,h=>by simp only[AV.closed]at h;simp only[low];exact Sw cs h
 |top,.eZ _ v,h=>by simp only[AV.closed]at h;simp only[low];exact K7 v h
 |top,.ref ..,h|top,.aJ ..,h|top,.cZ ..,h|top,.di ..,h=>by simp[AV.closed]at h
 |_,.undef,_|_,.bool _,_|_,.int _ _,_|_,.str _,_|_,.gZ,_|_,.iG,_|_,.aD,_|_,.aN _ _,_|_,.aM _ _,_|_,.own _ _,_|_,.nilPtr,_|_,.bD _,_=>by simp[low]
theorem Sw:∀{top:Nat} (cs:List AV),AV.jw cs=true->iD top cs
 |_,[],_=>by simp[iD]
 |top,c::cs,h=>by
  simp only[AV.jw,bg]at h;simp only[iD];exact⟨K7 c h.1,Sw cs h.2⟩
end
mutual
theorem low_mono{b b':Nat}(h:b<=b'):∀(v:AV),low b v->low b' v
 |.agg cs,hl|.tuple cs,hl|.fn _ cs,hl=>by simp only[low]at hl⊢;exact Sz h cs hl
 |.eZ _ v,hl|.di v _ _,hl=>by simp only[low]at hl⊢;exact low_mono h v hl
 |.ref ..,hl|.aJ ..,hl|.cZ ..,hl=>by simp only[low]at hl⊢;omega
 |.undef,_|.bool _,_|.int _ _,_|.str _,_|.gZ,_|.iG,_|.aD,_|.aN _ _,_|.aM _ _,_|.own _ _,_|.nilPtr,_|.bD _,_=>by simp[low]
theorem Sz{b b':Nat}(h:b<=b'):∀(cs:List AV),iD b cs->iD b' cs
 |[],_=>by simp[iD]
 |c::cs,hl=>by simp only[iD]at hl⊢;exact⟨low_mono h c hl.1,Sz h cs hl.2⟩
end
theorem Ej{b:Nat}:∀{cs:List AV},iD b cs↔∀ c∈cs,low b c
 |[]=>by simp[iD]
 |c::cs=>by simp only[iD,gq,forall_eq_or_imp,Ej]
theorem ab4{b:Nat}{v:AV}(h:low b v):iD b v.cells:=by
 cases v<;>simp_all[AV.cells,low,iD]
def lm(N:Nat)(h:Heap):Prop :=
 ∀ id v,(∀ cs,id<N->h[id]?=some (v,.box cs)->iD N cs)/\(∀ d st,h[id]?=some (v,.ay d st)->(id<N->d.base+d.ns<=N/\∀ t,low N (d.env.get t))/\(N<=id->N<=d.base))
structure vI(call:Callee):Prop where
 fn:∀{f:Nat} {args:List AV} {h:Heap} {lo:Nat} {r:AV} {h':Heap},call.fn f args h lo=some (r,h')->h'.length=h.length/\∀ N,N<=h.length->lm N h->lm N h'
 rd:∀{d:bQ} {id aj:Nat} {args:List AV} {h:Heap} {e:Ex} {h':Heap},call.rd d id aj args h=some (e,h')->(∃ st,h[id]?=some (aj,.ay d st))->h'.length=h.length/\∀ N,N<=h.length->lm N h->lm N h'
def bX(N:Nat)(h h':Heap):Prop:=h'.length=h.length/\(lm N h->lm N h')
theorem bX.refl(N:Nat)(h:Heap):bX N h h:=⟨rfl,fun h=>h⟩
theorem bX.trans{N:Nat}{h h1 h2:Heap}(a:bX N h h1)(b:bX N h1 h2):bX N h h2:=⟨b.1.trans a.1,fun h=>b.2 (a.2 h)⟩
theorem bX.set{N:Nat}{h:Heap}{id:Nat}{x:Nat×av}(hb:∀ cs,x.2=.box cs->id<N->lm N h->iD N cs)(hr:∀ d st,x.2=.ay d st->lm N h->(id<N->d.base+d.ns<=N/\∀ t,low N (d.env.get t))/\(N<=id->N<=d.base)):bX N h (h.set id x):=by
 refine⟨by simp,fun hl k v=>?_⟩
 by_cases hk:k=id
 ·subst hk;refine⟨fun cs hkN hh=>?_,fun d st hh=>?_⟩
  ·rw[List.getElem?_set]at hh;simp only[if_true]at hh;split at hh
   ·simp only[aP]at hh;subst hh;exact hb cs rfl hkN hl
   ·cases hh
  ·rw[List.getElem?_set]at hh;simp only[if_true]at hh;split at hh
   ·simp only[aP]at hh;subst hh;exact hr d st rfl hl
   ·cases hh
 ·rw[eG (by omega)]
  exact hl k v
theorem bX.dead{N:Nat}{h:Heap}{id v:Nat}:bX N h (h.set id (v,.dead)):=bX.set (fun _ h=>by cases h) (fun _ _ h=>by cases h)
theorem bX.arr{N:Nat}{h:Heap}{id v z:Nat}{es:List AV}:bX N h (h.set id (v,.arr z es)):=bX.set (fun _ h=>by cases h) (fun _ _ h=>by cases h)
mutual
theorem zQ{N base:Nat}{keep:Bool}:∀(v:AV) (h:Heap) (v':AV) (h':Heap),aU base keep v h=some (v',h')->bX N h h'
 |.agg cs,h,v',h',hf|.tuple cs,h,v',h',hf|.fn _ cs,h,v',h',hf=>by
  simp only[aU,mE,ax]at hf;obtain⟨⟨cs',h1⟩,hf,rfl,rfl⟩:=hf
  exact SA cs h cs' _ hf
 |.eZ _ v,h,v',h',hf=>by
  simp only[aU,mE,ax]at hf;obtain⟨⟨cs',h1⟩,hf,rfl,rfl⟩:=hf
  exact zQ v h cs' _ hf
 |.ref id aj z off len fill,h,v',h',hf=>by
  simp only[aU]at hf;split at hf
  ·simp only[mE,ax]at hf;obtain⟨es,_,rfl,rfl⟩:=hf;exact bX.dead
  ·split at hf
   ·simp only[aP,ax]at hf;obtain⟨_,rfl⟩:=hf;exact bX.refl _ _
   ·cases hf
 |.aD,h,v',h',hf=>by simp only[aU,aP,ax]at hf;obtain⟨_,rfl⟩:=hf;exact bX.refl _ _
 |.own ..,h,v',h',hf|.aJ ..,h,v',h',hf|.di ..,h,v',h',hf|.cZ ..,h,v',h',hf=>by simp[aU]at hf
 |.undef,h,v',h',hf|.bool _,h,v',h',hf|.int _ _,h,v',h',hf|.str _,h,v',h',hf|.gZ,h,v',h',hf|.iG,h,v',h',hf|.aN _ _,h,v',h',hf|.aM _ _,h,v',h',hf|.nilPtr,h,v',h',hf|.bD _,h,v',h',hf=>by
  simp only[aU,aP,ax]at hf;obtain⟨_,rfl⟩:=hf;exact bX.refl _ _
theorem SA{N base:Nat}{keep:Bool}:∀(cs:List AV) (h:Heap) (cs':List AV) (h':Heap),gU base keep cs h=some (cs',h')->bX N h h'
 |[],h,cs',h',hf=>by simp only[gU,aP,ax]at hf;obtain⟨_,rfl⟩:=hf;exact bX.refl _ _
 |c::cs,h,cs',h',hf=>by
  simp only[gU,bE,mE,ax]at hf;obtain⟨⟨c1,h1⟩,f1,⟨cs1,h2⟩,f2,rfl,rfl⟩:=hf;exact(zQ c h c1 h1 f1).trans (SA cs h1 cs1 _ f2)
end
def Cx.side(cx:Cx)(N:Nat):Prop:=N<=cx.base\/(cx.ic≠none/\cx.base+cx.ns<=N)
theorem K8{cx:Cx}{N:Nat}(hs:cx.ic≠none)(hN:cx.base+cx.ns<=N){v:AV}(h:cx.fit v=true):low N v:=by
 unfold Cx.fit at h
 cases hr:cx.ic with
 |none=>exact absurd hr hs
 |some p=>rw[hr]at h;simp at h;exact low_mono hN _ (K6 v h)
theorem Hr{cx:Cx}{N s aj:Nat}{b:av}{h h':Heap}(hs:cx.side N)(hm:bV cx s b h=some (aj,h'))(hr:∀ d st,b=.ay d st->cx.base<=d.base/\(s<cx.ns->d.base+d.ns<=cx.base+cx.ns)):bX N h h':=by
 unfold bV at hm;split at hm
 ·rename_i hc;obtain⟨hc1,hc2⟩:=hc;split at hm
  ·simp only[aP,ax]at hm;obtain⟨rfl,rfl⟩:=hm;refine bX.set (fun cs he hid _=>?_) (fun d st he hl=>?_)
   ·simp only at he;subst he;rcases hs with h|⟨h1,h2⟩
    ·omega
    ·simp only[av.fits,kr]at hc2;exact Ej.mpr fun c hc=>K8 h1 h2 (hc2 c hc)
   ·simp only at he;subst he;obtain⟨g1,g2⟩:=hr d st rfl;have g2:=g2 hc1;rcases hs with h|⟨h1,h2⟩
    ·exact⟨fun hid=>by omega,fun _=>by omega⟩
    ·refine⟨fun _=>⟨by omega,fun t=>?_⟩,fun hid=>by omega⟩
     simp only[av.fits,kr]at hc2
     have:∀(e:Env),(∀ p∈e,cx.fit p.2=true)->low N (e.get t):=by
      intro e
      induction e with
      |nil=>intro _;simp[Env.get,low]
      |cons p r ih =>
       intro hp;obtain⟨k,v⟩:=p;simp only[Env.get];split
       ·exact K8 h1 h2 (hp (k,v) (by simp))
       ·exact ih fun q hq=>hp q (by simp[hq])
     exact this d.env fun p hp=>hc2 p hp
  ·cases hm
 ·cases hm
theorem BI{cx:Cx}{N s aj:Nat}{b:av}{h h':Heap}(hs:cx.side N)(hm:bV cx s b h=some (aj,h'))(hr:∀ d st,b≠.ay d st:=by simp):bX N h h':=Hr hs hm fun d st e=>absurd e (hr d st)
theorem El{cx:Cx}{N:Nat}(hs:cx.side N):∀(own:List (Nat×Nat)) (cs cs':List AV) (h h':Heap),iN cx own cs h=some (cs',h')->bX N h h'
 |[],cs,cs',h,h',ht=>by simp only[iN,aP,ax]at ht;obtain⟨_,rfl⟩:=ht;exact bX.refl _ _
 |(j,s)::r,cs,cs',h,h',ht=>by
  simp only[iN]at ht;split at ht
  ·split at ht
   ·exact El hs r _ _ _ _ ht
   ·obtain⟨⟨v,h1⟩,hm,ht⟩:=bE.mp ht;exact(BI hs hm).trans (El hs r _ _ _ _ ht)
  ·exact El hs r _ _ _ _ ht
theorem SB{N base z:Nat}{env:Env}:∀(ps:List (Nat×aK)) (es es':List AV) (h h':Heap),iV env base z ps es h=some (es',h')->bX N h h'
 |[],es,es',h,h',ht=>by simp only[iV,aP,ax]at ht;obtain⟨_,rfl⟩:=ht;exact bX.refl _ _
 |(i,x)::ps,es,es',h,h',ht=>by
  simp only[iV]at ht;obtain⟨⟨v,h1⟩,hf,ht⟩:=bE.mp ht;dsimp only at ht;split at ht
  ·exact(zQ _ _ _ _ hf).trans (SB ps _ _ _ _ ht)
  ·cases ht
theorem ab5{cs new r:List AV}{off:Nat}(h:splice cs off new=some r):∀ c∈r,c∈cs\/c∈new:=by
 unfold splice at h;split at h
 ·simp only[aP]at h;subst h;intro c hc;simp only[iJ]at hc;rcases hc with(hc|hc)|hc
  ·exact .inl (um hc)
  ·exact .inr hc
  ·exact .inl (List.mem_of_mem_drop hc)
 ·cases h
theorem ab6{cx:Cx}{N sz:Nat}{h h':Heap}{p v:AV}(hs:cx.side N)(hp:dK cx h sz p v=some h'):bX N h h':=by
 unfold dK at hp;split at hp
 ·split at hp
  ·rename_i id aj off;split at hp
   ·rename_i w cs hid;split at hp
    ·rename_i hc;obtain⟨hc1,hc2,hc3⟩:=hc;obtain⟨cs',hsp,rfl⟩:=mE.mp hp;refine bX.set (fun cs2 he ab7 hl=>?_) (fun _ _ h=>by cases h)
     simp only[av.box.injEq]at he;subst he;refine Ej.mpr fun c hc=>?_;rcases ab5 hsp c hc with hm|hm
     ·exact Ej.mp ((hl id w).1 cs ab7 hid) c hm
     ·have hv:low N v:=by
       rcases hc3 with⟨g1,g2⟩|g
       ·rcases hs with h|⟨h1,h2⟩
        ·omega
        ·exact K8 h1 h2 g2
       ·exact K7 v g
      exact Ej.mp (ab4 hv) c hm
    ·cases hp
   ·cases hp
  ·rename_i id aj z o len fill i off;obtain⟨⟨v1,h1⟩,hf,hp⟩:=bE.mp hp;refine(zQ _ _ _ _ hf).trans ?_;dsimp only at hp;split at hp
   ·split at hp
    ·split at hp
     ·obtain⟨_,_,rfl⟩:=mE.mp hp;exact bX.arr
     ·split at hp
      ·split at hp
       ·cases hp
       ·simp only[aP]at hp;subst hp;exact bX.arr
      ·cases hp
     ·cases hp
    ·cases hp
   ·cases hp
  ·cases hp
 ·cases hp
theorem SC{cx:Cx}{N s z lim:Nat}{h h':Heap}{x v:AV}{xs:List AV}(hs:cx.side N)(hp:dP cx s z lim x xs h=some (v,h')):bX N h h':=by
 unfold dP at hp;split at hp
 ·split at hp
  ·simp only[aP,ax]at hp;obtain⟨_,rfl⟩:=hp;exact bX.refl _ _
  ·split at hp
   ·obtain⟨⟨aj,h1⟩,hm,he⟩:=mE.mp hp;simp only[ax]at he;obtain⟨_,rfl⟩:=he;exact BI hs hm
   ·cases hp
 ·split at hp
  ·split at hp
   ·simp only[aP,ax]at hp;obtain⟨_,rfl⟩:=hp;exact bX.refl _ _
   ·split at hp
    ·obtain⟨⟨aj,h1⟩,hm,he⟩:=mE.mp hp;simp only[ax]at he;obtain⟨_,rfl⟩:=he;exact BI hs hm
    ·cases hp
  ·cases hp
 ·split at hp
  ·split at hp
   ·simp only[aP,ax]at hp;obtain⟨_,rfl⟩:=hp;exact bX.arr
   ·cases hp
  ·cases hp
 ·cases hp
theorem ab8{cx:Cx}{N z:Nat}{h h':Heap}{x v:AV}{ys:List AV}(hp:nW cx z x ys h=some (v,h')):bX N h h':=by
 unfold nW at hp;split at hp
 ·split at hp
  ·cases hp
  ·split at hp
   ·simp only[aP,ax]at hp;obtain⟨_,rfl⟩:=hp;exact bX.refl _ _
   ·split at hp
    ·split at hp
     ·split at hp
      ·simp only[aP,ax]at hp;obtain⟨_,rfl⟩:=hp;exact bX.arr
      ·cases hp
     ·cases hp
    ·cases hp
 ·cases hp
theorem SE{cx:Cx}{s:Nat}{sd:SD}:∀ d st,av.ay (bQ.at (cx.base+s) sd) (.cK sd)=.ay d st->cx.base<=d.base/\(s<cx.ns->d.base+d.ns<=cx.base+cx.ns):=by
 intro d st e;cases e;simp only[bQ.at];omega
theorem ab9{cx:Cx}{N s:Nat}{h h':Heap}{x y v:AV}(hs:cx.side N)(hp:rR cx s x y h=some (v,h')):bX N h h':=by
 have fin:∀{h1:Heap} {id aj vv:Nat} {d:bQ} {st:RS} {me mv a b:Nat},h1[id]?=some (vv,.ay d st)->cx.base<=id->me=id->(cx.base+cx.ns<=N->a<N) ->
   bX N h1 (h1.set id (aj,.ay { d with env:=(SD.cu me mv (some (a,b))).env } (.cK (.cu me mv (some (a,b)))))):=by
  intro h1 id aj vv d st me mv a b hid hb hme ha;refine bX.set (fun _ e=>by cases e) (fun d' st' e hl=>?_)
  cases e;obtain⟨q1,q2⟩:=(hl _ _).2 _ _ hid;refine⟨fun hlt=>⟨(q1 hlt).1,fun t=>?_⟩,q2⟩;rcases hs with h|⟨_,h⟩
  ·omega
  ·have:=ha h;simp only[SD.env,Env.get];split
   ·simp only[low];omega
   ·split
    ·simp only[low];omega
    ·simp[low]
 unfold rR at hp;split at hp
 ·rename_i id aj l;split at hp
  ·rename_i v1 d me mv lk hid;split at hp
   ·rename_i hc;obtain⟨rfl,hme,_,_⟩:=hc;split at hp
    ·split at hp
     ·cases hp
     ·split at hp
      ·rename_i hc2;obtain⟨_,hne,hb⟩:=hc2;obtain⟨⟨v2,h1⟩,hm,he⟩:=mE.mp hp;simp only[ax]at he;obtain⟨_,rfl⟩:=he;have t1:=Hr hs hm SE
       have iL:h1[id]?=some (v1,.ay d (.cK (.cu me mv none)))/\s<cx.ns:=by
        unfold bV at hm;split at hm
        ·rename_i hcc;split at hm
         ·simp only[aP,ax]at hm;obtain⟨_,rfl⟩:=hm;rw[eG (by omega)]
          exact⟨hid,hcc.1⟩
         ·cases hm
        ·cases hm
       exact t1.trans (fin iL.1 hb hme (fun hN=>by omega))
      ·cases hp
    ·rename_i id2 jd;split at hp
     ·rename_i v2 d2 l0 gD;split at hp
      ·rename_i hc2;obtain⟨rfl,hne,_,_,_,hb,hns⟩:=hc2;simp only[aP,ax]at hp;obtain⟨_,rfl⟩:=hp;have t1:bX N h (h.set id2 (v2+1,.ay d2 (.cK (.buf (l0++l))))):=bX.set (fun _ e=>by cases e) (fun d' st' e hl=>by cases e;exact(hl _ _).2 _ _ gD)
       exact t1.trans (fin (by rw[eG hne];exact hid) hb hme (fun hN=>by omega))
      ·cases hp
     ·cases hp
   ·cases hp
  ·cases hp
 ·cases hp
theorem SF{call:Callee}(hc:vI call){cx:Cx}{N:Nat}{env:Env}{h h':Heap}{o:XI}{v:AV}(hs:cx.side N)(hN:N<=h.length)(hx:xi call cx env h o=some (v,h')):bX N h h':=by
 cases o<;>simp only[xi]at hx
 case call f args own =>
  split at hx
  ·obtain⟨⟨r,h1⟩,h2,hx⟩:=bE.mp hx;obtain⟨l1,l2⟩:=hc.fn h2;have t1:bX N h h1:=⟨l1,l2 N hN⟩;dsimp only at hx;split at hx
   ·simp only[aP,ax]at hx;obtain⟨_,rfl⟩:=hx;exact t1
   ·split at hx
    ·obtain⟨⟨cs',h3⟩,h4,he⟩:=mE.mp hx;simp only[ax]at he;obtain⟨_,rfl⟩:=he;exact t1.trans (El hs _ _ _ _ _ h4)
    ·obtain⟨⟨cs',h3⟩,h4,hx⟩:=bE.mp hx;obtain⟨_,_,he⟩:=mE.mp hx;simp only[ax]at he;obtain⟨_,rfl⟩:=he;exact t1.trans (El hs _ _ _ _ _ h4)
  ·split at hx
   ·unfold fF at hx;split at hx
    ·rename_i v0 d hid;split at hx
     ·rename_i hcond;obtain⟨rfl,_⟩:=hcond;obtain⟨⟨e,h1⟩,h2,he⟩:=mE.mp hx;simp only[ax]at he;obtain⟨_,rfl⟩:=he;obtain⟨l1,l2⟩:=hc.rd h2 ⟨_,hid⟩;exact⟨l1,l2 N hN⟩
     ·cases hx
    ·cases hx
   ·cases hx
  ·cases hx
 case bY z zero n ps =>
  obtain⟨⟨es,h1⟩,h2,he⟩:=mE.mp hx;simp only[ax]at he;obtain⟨_,rfl⟩:=he;exact SB _ _ _ _ _ h2
 case store sz x y =>
  obtain⟨h1,h2,he⟩:=mE.mp hx;simp only[ax]at he;obtain⟨_,rfl⟩:=he;exact ab6 hs h2
 case alloc s zero =>
  obtain⟨⟨aj,h1⟩,h2,he⟩:=mE.mp hx;simp only[ax]at he;obtain⟨_,rfl⟩:=he;exact BI hs h2
 case box s x =>
  split at hx
  ·obtain⟨⟨aj,h1⟩,h2,he⟩:=mE.mp hx;simp only[ax]at he;obtain⟨_,rfl⟩:=he;exact BI hs h2
  ·cases hx
 case bS x =>
  split at hx
  ·obtain⟨⟨aj,h1⟩,h2,he⟩:=mE.mp hx;simp only[ax]at he;obtain⟨_,rfl⟩:=he;exact zQ _ _ _ _ h2
  ·cases hx
 case tT s =>
  obtain⟨⟨aj,h1⟩,h2,he⟩:=mE.mp hx;simp only[ax]at he;obtain⟨_,rfl⟩:=he
  have hm2:bV cx s (.ay (bQ.at (cx.base+s) (.cu (cx.base+s) aj none)) (.cK (.cu (cx.base+s) aj none))) h=some (aj,h1.set (cx.base+s) (aj,.ay (bQ.at (cx.base+s) (.cu (cx.base+s) aj none)) (.cK (.cu (cx.base+s) aj none)))):=by
   unfold bV at h2⊢;split at h2
   ·rename_i hc;rw[if_pos ⟨hc.1,hc.2⟩];split at h2
    ·rename_i v0 b0 hid;simp only[aP,ax]at h2;obtain⟨rfl,rfl⟩:=h2;simp
    ·cases h2
   ·cases h2
  exact Hr hs hm2 SE
 case tV t x =>
  split at hx
  ·simp only[aP,ax]at hx;obtain⟨_,rfl⟩:=hx;exact bX.refl _ _
  ·cases hx
 case rM s f x y=>exact ab9 hs hx
 case mk s z zero lim n c =>
  split at hx
  ·split at hx
   ·simp only[aP,ax]at hx;obtain⟨_,rfl⟩:=hx;exact bX.refl _ _
   split at hx
   ·obtain⟨⟨aj,h1⟩,h2,he⟩:=mE.mp hx;simp only[ax]at he;obtain⟨_,rfl⟩:=he;exact BI hs h2
   ·cases hx
  ·cases hx
 case app s z lim x y =>
  obtain⟨xs,_,hx⟩:=bE.mp hx;unfold xY at hx;split at hx
  ·exact SC hs hx
  ·obtain⟨⟨v1,h1⟩,h3,h4⟩:=bE.mp hx;exact(SC hs h3).trans (zQ _ _ _ _ h4)
 case tX x=>cases hx
 case copy z x y =>
  obtain⟨ys,_,hx⟩:=bE.mp hx;exact ab8 hx
 case qy z x i =>
  split at hx
  ·obtain⟨n,_,hx⟩:=bE.mp hx;obtain⟨_,_,he⟩:=mE.mp hx;simp only[ax]at he;obtain⟨_,rfl⟩:=he;exact bX.refl _ _
  ·cases hx
 case mK x i =>
  split at hx
  ·obtain⟨n,_,hx⟩:=bE.mp hx;obtain⟨_,_,he⟩:=mE.mp hx;simp only[ax]at he;obtain⟨_,rfl⟩:=he;exact bX.refl _ _
  ·cases hx
 all_goals first
  |(simp only[aP,ax]at hx;obtain⟨_,rfl⟩:=hx;exact bX.refl _ _)
  |(obtain⟨_,_,he⟩:=mE.mp hx;simp only[ax]at he;obtain⟨_,rfl⟩:=he;exact bX.refl _ _)
  |(obtain⟨_,_,hx⟩:=bE.mp hx;obtain⟨_,_,he⟩:=mE.mp hx;simp only[ax]at he;obtain⟨_,rfl⟩:=he;exact bX.refl _ _)
theorem ab'{call:Callee}(hc:vI call){cx:Cx}{N:Nat}{env env':Env}{h h':Heap}{o:bC}(hs:cx.side N)(hN:N<=h.length)(hx:iA call cx o env h=some (env',h')):bX N h h':=by
 unfold iA at hx;split at hx
 ·obtain⟨⟨v,h1⟩,h2,he⟩:=mE.mp hx;simp only[ax]at he;obtain⟨_,rfl⟩:=he;exact SF hc hs hN (lQ h2).1
 ·obtain⟨b,_,hx⟩:=bE.mp hx;split at hx
  ·obtain⟨⟨v,h1⟩,h2,he⟩:=mE.mp hx;simp only[ax]at he;obtain⟨_,rfl⟩:=he;exact SF hc hs hN (lQ h2).1
  ·simp only[aP,ax]at hx;obtain⟨_,rfl⟩:=hx;exact bX.refl _ _
theorem SG{call:Callee}(hc:vI call){cx:Cx}{N:Nat}(hs:cx.side N):∀(os:List bC) {env env':Env} {h h':Heap},N<=h.length->fQ call cx os env h=some (env',h')->bX N h h'
 |[],env,env',h,h',hN,hx=>by simp only[fQ,aP,ax]at hx;obtain⟨_,rfl⟩:=hx;exact bX.refl _ _
 |o::os,env,env',h,h',hN,hx=>by
  obtain⟨⟨e1,h1⟩,h2,hx⟩:=bE.mp hx;have t:=ab' hc hs hN h2;exact t.trans (SG hc hs os (by rw[t.1];exact hN) hx)
theorem K9{cx:Cx}{N:Nat}:∀(ss:List Nat) (h:Heap),bX N h (jh cx ss h)
 |[],h=>bX.refl _ _
 |s::ss,h=>by
  simp only[jh];split
  ·exact bX.dead.trans (K9 ss _)
  ·exact K9 ss h
theorem BJ{call:Callee}(hc:vI call){cx:Cx}{N:Nat}(hs:cx.side N)(n:Nat):∀(x:XC) {env:Env} {h:Heap} {e:Ex} {env':Env} {h':Heap},N<=h.length->exec call cx n x (env,h)=some (e,(env',h'))->bX N h h':=by
 intro x
 induction x with
 |skip|exit|ret =>
  intro env h e env' h' hN hx;simp only[exec,aP,ax]at hx;obtain⟨_,_,rfl⟩:=hx
  exact bX.refl _ _
 |reg draw keep kill ops =>
  intro env h e env' h' hN hx;simp only[exec,mE,ax]at hx;obtain⟨⟨e1,h1⟩,h2,_,_,rfl⟩:=hx;have t:=K9 (cx:=cx) (N:=N) kill h
  exact t.trans (SG hc hs _ (by rw[t.1];exact hN) h2)
 |seq a b iha ihb =>
  intro env h e env' h' hN hx;obtain⟨⟨e1,jT,h1⟩,h2,hx⟩:=bE.mp hx;have t:=iha hN h2;dsimp only at hx;split at hx
  ·exact t.trans (ihb (by rw[t.1];exact hN) hx)
  ·simp only[aP,ax]at hx;obtain⟨_,_,rfl⟩:=hx;exact t
 |cond c a b iha ihb =>
  intro env h e env' h' hN hx;obtain⟨r,_,hx⟩:=bE.mp hx;split at hx
  ·exact iha hN hx
  ·exact ihb hN hx
 |blk id a ih =>
  intro env h e env' h' hN hx;obtain⟨⟨e1,jT,h1⟩,h2,he⟩:=mE.mp hx;have t:=ih hN h2;unfold Ex.jy at he
  split at he<;>(simp only[ax]at he;obtain⟨_,_,rfl⟩:=he;exact t)
 |loop a ih =>
  intro env h e env' h' hN hx;simp only[exec]at hx
  have key:∀(k:Nat) {env:Env} {h:Heap} {e:Ex} {env':Env} {h':Heap},N<=h.length->iter (exec call cx n a) k (env,h)=some (e,(env',h'))->bX N h h':=by
   intro k
   induction k with
   |zero=>intro env h e env' h' _ hx;simp[iter]at hx
   |succ k ihk =>
    intro env h e env' h' hN hx;simp only[iter,bE]at hx;obtain⟨⟨e1,jT,h1⟩,hx1,hx2⟩:=hx;have t:=ih hN hx1;dsimp only at hx2;split at hx2
    ·exact t.trans (ihk (by rw[t.1];exact hN) hx2)
    ·simp only[aP,ax]at hx2;obtain⟨_,_,rfl⟩:=hx2;exact t
  exact key n hN hx
 |jG s f g =>
  intro env h e env' h' hN hx;simp only[exec]at hx;split at hx
  ·obtain⟨⟨aj,h1⟩,hmk,hx1⟩:=bE.mp hx;obtain⟨⟨r0,h2⟩,hcall,hx2⟩:=bE.mp hx1;clear hx hx1;have t1:bX N h h1:=Hr hs hmk (fun d st e=>by cases e;exact⟨aV _,fun _=>aV _⟩)
   obtain⟨l1,l2⟩:=hc.fn hcall;have t2:bX N h1 h2:=⟨l1,l2 N (by rw[t1.1];exact hN)⟩
   dsimp only at hx2;split at hx2
   ·split at hx2
    ·simp only[aP,ax]at hx2;obtain⟨_,_,rfl⟩:=hx2;exact(t1.trans t2).trans bX.dead
    ·cases hx2
   ·split at hx2
    ·simp only[aP,ax]at hx2;obtain⟨_,_,rfl⟩:=hx2;exact(t1.trans t2).trans bX.dead
    ·cases hx2
   ·cases hx2
  ·cases hx
 |pre ps a ih =>
  intro env h e env' h' hN hx
  exact ih (env:=env.keep ps) hN hx
 |fz t a ih =>
  intro env h e env' h' hN hx;obtain⟨⟨v',h1⟩,h2,hx⟩:=bE.mp hx;have s:=zQ (N:=N) _ _ _ _ h2;exact s.trans (ih (env:=env.set t v') (by rw[s.1];exact hN) hx)
theorem acd{call:Callee}(hc:vI call){n:Nat}{x:aW}{args:List AV}{h:Heap}{lo:Nat}{r:AV}{h':Heap}(he:enter x (fun cx=>exec call cx n) args h lo=some (r,h')):h'.length=h.length/\∀ N,N<=h.length->lm N h->lm N h':=by
 unfold enter at he;split at he
 ·obtain⟨⟨e,env',h1⟩,hx,he⟩:=bE.mp he
  have hres:h'=if x.isOpen then h1.take h.length else h:=by
   cases e with
   |exit id=>simp at he
   |norm|ret =>
    simp only[bE,mE,ax]at he;obtain⟨v,e1,r',e2,_,rfl⟩:=he;rfl
  have key:∀ N,N<=h.length->bX N (h++List.replicate x.ns (0,av.dead)) h1:=fun N hN=>BJ hc (.inl hN) n x.code (by simp;omega) hx
  have hlen:=(key 0 (pF _)).1;simp only[dZ,mh]at hlen;subst hres;split
  ·refine⟨by rw[jA];omega,fun N hN hl=>?_⟩
   have hl0:lm N (h++List.replicate x.ns (0,av.dead)):=by
    have key2:∀(id v:Nat) (b:av),(h++List.replicate x.ns (0,av.dead))[id]?=some (v,b)->b≠.dead->h[id]?=some (v,b):=by
     intro id v b hk hd;rcases gJ id h.length with hlt|hge
     ·rwa [gN hlt]at hk
     ·rw[iX hge,List.getElem?_replicate]at hk;split at hk
      ·cases hk;exact absurd rfl hd
      ·cases hk
    exact fun id v=>⟨fun cs hid hk=>(hl id v).1 cs hid (key2 _ _ _ hk (by simp)),fun d st hk=>(hl id v).2 d st (key2 _ _ _ hk (by simp))⟩
   have hl1:=(key N hN).2 hl0
   have SH:∀(id v:Nat) (b:av),(h1.take h.length)[id]?=some (v,b)->h1[id]?=some (v,b):=by
    intro id v b hk;rw[jI]at hk;split at hk
    ·exact hk
    ·cases hk
   exact fun id v=>⟨fun cs hid hk=>(hl1 id v).1 cs hid (SH _ _ _ hk),fun d st hk=>(hl1 id v).2 d st (SH _ _ _ hk)⟩
  ·exact⟨rfl,fun N _ hl=>hl⟩
 ·cases he
theorem ace{call:Callee}(hc:vI call){n:Nat}{x:iR}{d:bQ}{id aj:Nat}{args:List AV}{h:Heap}{e:Ex}{h':Heap}(hr:round x (fun cx=>exec call cx n) d id aj args h=some (e,h'))(hid:∃ st,h[id]?=some (aj,.ay d st)) :
  h'.length=h.length/\∀ N,N<=h.length->lm N h->lm N h':=by
 obtain⟨st0,hid⟩:=hid;unfold round at hr;split at hr
 ·obtain⟨⟨e1,jT,h1⟩,g1,g2⟩:=bE.mp hr;clear hr;dsimp only at g2;split at g2
  ·split at g2
   ·rename_i v1 d1 xq;split at g2
    ·obtain⟨⟨e2,gB,h3⟩,g3,g4⟩:=bE.mp g2;clear g2;dsimp only at g4;split at g4
     ·rename_i v2 d2 gD;split at g4
      ·simp only[aP,ax]at g4;obtain⟨_,rfl⟩:=g4
       have main:∀ N,N<=h.length->(lm N h->({ lo:=d.lo,base:=d.base,ns:=d.ns,ic:=some (id,aj) }:Cx).side N)->lm N h->lm N (h3.set id (aj,.ay d2 (if e2=.norm then .ready else .done e2))):=by
        intro N hN hside hl;have t1:=BJ hc (hside hl) n x.fZ hN g1;have t2:bX N h1 (h1.set id (aj,.ay d1 .busy)):=bX.set (fun _ h=>by cases h) (fun d st he hl=>by cases he;exact(hl id v1).2 _ _ xq)
        have t3:=BJ hc (hside hl) n x.body (by rw[t2.1,t1.1];exact hN) g3
        have t4:bX N h3 (h3.set id (aj,.ay d2 (if e2=.norm then .ready else .done e2))):=bX.set (fun _ h=>by cases h) (fun d st he hl=>by cases he;exact(hl id v2).2 _ _ gD)
        exact(((t1.trans t2).trans t3).trans t4).2 hl
       have len:(h3.set id (aj,av.ay d2 (if e2=.norm then .ready else .done e2))).length=h.length:=by
        have hside:({ lo:=d.lo,base:=d.base,ns:=d.ns,ic:=some (id,aj) }:Cx).side 0:=.inl (pF _);have t1:=BJ hc hside n x.fZ (pF _) g1;have t3:=BJ hc hside n x.body (pF _) g3;rw[qJ,t3.1,qJ,t1.1]
       refine⟨len,fun N hN hl=>main N hN (fun hl=>?_) hl⟩;obtain⟨k1,k2⟩:=(hl id aj).2 d st0 hid;rcases gJ id N with hlt|hge
       ·exact .inr ⟨by simp,(k1 hlt).1⟩
       ·exact .inl (k2 hge)
      ·cases g4
     ·cases g4
    ·cases g2
   ·cases g2
  ·cases g2
 ·cases hr
theorem acf{call:Callee}(hc:vI call){n:Nat}{x:aW}{b:Bool}{args:List AV}{h:Heap}{lo:Nat}{r:AV}{h':Heap}(he:lM x (fun cx=>exec call cx n) b args h lo=some (r,h')):h'.length=h.length/\∀ N,N<=h.length->lm N h->lm N h':=by
 unfold lM at he;split at he
 ·obtain⟨vs,h1,h2⟩:=bE.mp he;obtain⟨q,h3,h4⟩:=bE.mp h2;split at h4
  ·simp only[aP,ax]at h4;obtain⟨_,rfl⟩:=h4;exact⟨rfl,fun _ _ h=>h⟩
  ·cases h4
 ·exact acd hc he
theorem La(L:Lib):∀ n,vI (ex L n)
 |0=>⟨fun{f args h lo r h'} hx=>by simp[ex]at hx,fun{d id aj args h e h'} hx=>by simp[ex]at hx⟩
 |n+1=>by
  have ih:=La L n;refine⟨fun{f args h lo r h'} hx=>?_,fun{d id aj args h e h'} hx hid=>?_⟩
  ·simp only[ex]at hx;split at hx
   ·simp only[aP,ax]at hx;obtain⟨_,rfl⟩:=hx;exact⟨rfl,fun _ _ h=>h⟩
   ·obtain⟨x,_,hx⟩:=bE.mp hx;exact acf ih hx
  ·simp only[ex]at hx;obtain⟨x,_,hx⟩:=bE.mp hx;exact ace ih hx hid
end Go.VI
