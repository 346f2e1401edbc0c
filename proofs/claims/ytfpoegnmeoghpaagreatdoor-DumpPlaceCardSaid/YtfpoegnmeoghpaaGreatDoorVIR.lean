/- What the evaluator keeps of the blocks of its callers: these lead to none of the frames above them. -/
import Derived.Test.YtfpoegnmeoghpaaGreatDoorVIQ
set_option linter.unusedVariables false
set_option linter.unusedSimpArgs false
namespace Go.VI
set_option linter.unusedSectionVars false
mutual
theorem aoc:∀{top:Nat} (v:AV),v.SQ top=true->low top v
 |top,.agg cs,h|top,.tuple cs,h|top,.fn _ cs,h=>by simp only[AV.SQ]at h;simp only[low];exact azq cs h
 |top,.rM _ v,h|top,.nS v _ _,h=>by simp only[AV.SQ]at h;simp only[low];exact aoc v h
 |top,.ref ..,h|top,.bq ..,h|top,.lF ..,h=>by simp only[AV.SQ,decide_eq_true_eq]at h;simpa only[low]using h
 |_,.undef,_|_,.bool _,_|_,.int _ _,_|_,.str _,_|_,.yX,_|_,.zB,_|_,.bO,_|_,.eY _ _,_|_,.fT _ _,_|_,.own _ _,_|_,.nilPtr,_|_,.iE _,_=>by simp[low]
theorem azq:∀{top:Nat} (cs:List AV),AV.anh top cs=true->Dk top cs
 |_,[],_=>by simp[Dk]
 |top,c::cs,h=>by
  simp only[AV.anh,fw]at h;simp only[Dk];exact⟨aoc c h.1,azq cs h.2⟩
end
mutual
theorem asv:∀{top:Nat} (v:AV),v.closed=true->low top v
 |top,.agg cs,h|top,.tuple cs,h|top,.fn _ cs,h=>by simp only[AV.closed]at h;simp only[low];exact azr cs h
 |top,.rM _ v,h=>by simp only[AV.closed]at h;simp only[low];exact asv v h
 |top,.ref ..,h|top,.bq ..,h|top,.lF ..,h|top,.nS ..,h=>by simp[AV.closed]at h
 |_,.undef,_|_,.bool _,_|_,.int _ _,_|_,.str _,_|_,.yX,_|_,.zB,_|_,.bO,_|_,.eY _ _,_|_,.fT _ _,_|_,.own _ _,_|_,.nilPtr,_|_,.iE _,_=>by simp[low]
theorem azr:∀{top:Nat} (cs:List AV),AV.EY cs=true->Dk top cs
 |_,[],_=>by simp[Dk]
 |top,c::cs,h=>by
  simp only[AV.EY,fw]at h;simp only[Dk];exact⟨asv c h.1,azr cs h.2⟩
end
mutual
theorem low_mono{b b':Nat}(h:b<=b'):∀(v:AV),low b v->low b' v
 |.agg cs,hl|.tuple cs,hl|.fn _ cs,hl=>by simp only[low]at hl⊢;exact azs h cs hl
 |.rM _ v,hl|.nS v _ _,hl=>by simp only[low]at hl⊢;exact low_mono h v hl
 |.ref ..,hl|.bq ..,hl|.lF ..,hl=>by simp only[low]at hl⊢;omega
 |.undef,_|.bool _,_|.int _ _,_|.str _,_|.yX,_|.zB,_|.bO,_|.eY _ _,_|.fT _ _,_|.own _ _,_|.nilPtr,_|.iE _,_=>by simp[low]
theorem azs{b b':Nat}(h:b<=b'):∀(cs:List AV),Dk b cs->Dk b' cs
 |[],_=>by simp[Dk]
 |c::cs,hl=>by simp only[Dk]at hl⊢;exact⟨low_mono h c hl.1,azs h cs hl.2⟩
end
theorem alT{b:Nat}:∀{cs:List AV},Dk b cs↔∀ c∈cs,low b c
 |[]=>by simp[Dk]
 |c::cs=>by simp only[Dk,A9,forall_eq_or_imp,alT]
theorem aGq{b:Nat}{v:AV}(h:low b v):Dk b v.cells:=by
 cases v<;>simp_all[AV.cells,low,Dk]
def Kb(N:Nat)(h:Heap):Prop :=
 ∀ id v,(∀ cs,id<N->h[id]?=some (v,.box cs)->Dk N cs)/\(∀ d st,h[id]?=some (v,.aV d st)->(id<N->d.base+d.ns<=N/\∀ t,low N (d.env.get t))/\(N<=id->N<=d.base))
structure Y8(call:Callee):Prop where
 fn:∀{f:Nat} {args:List AV} {h:Heap} {lo:Nat} {r:AV} {h':Heap},call.fn f args h lo=some (r,h')->h'.length=h.length/\∀ N,N<=h.length->Kb N h->Kb N h'
 rd:∀{d:kP} {id ak:Nat} {args:List AV} {h:Heap} {e:Ex} {h':Heap},call.rd d id ak args h=some (e,h')->(∃ st,h[id]?=some (ak,.aV d st))->h'.length=h.length/\∀ N,N<=h.length->Kb N h->Kb N h'
def lg(N:Nat)(h h':Heap):Prop:=h'.length=h.length/\(Kb N h->Kb N h')
theorem lg.refl(N:Nat)(h:Heap):lg N h h:=⟨rfl,fun h=>h⟩
theorem lg.trans{N:Nat}{h h1 h2:Heap}(a:lg N h h1)(b:lg N h1 h2):lg N h h2:=⟨b.1.trans a.1,fun h=>b.2 (a.2 h)⟩
theorem lg.set{N:Nat}{h:Heap}{id:Nat}{x:Nat×aU}(hb:∀ cs,x.2=.box cs->id<N->Kb N h->Dk N cs)(hr:∀ d st,x.2=.aV d st->Kb N h->(id<N->d.base+d.ns<=N/\∀ t,low N (d.env.get t))/\(N<=id->N<=d.base)):lg N h (h.set id x):=by
 refine⟨by simp,fun hl k v=>?_⟩
 by_cases hk:k=id
 ·subst hk;refine⟨fun cs hkN hh=>?_,fun d st hh=>?_⟩
  ·rw[List.getElem?_set]at hh;simp only[if_true]at hh;split at hh
   ·simp only[dz]at hh;subst hh;exact hb cs rfl hkN hl
   ·cases hh
  ·rw[List.getElem?_set]at hh;simp only[if_true]at hh;split at hh
   ·simp only[dz]at hh;subst hh;exact hr d st rfl hl
   ·cases hh
 ·rw[tL (by omega)]
  exact hl k v
theorem lg.dead{N:Nat}{h:Heap}{id v:Nat}:lg N h (h.set id (v,.dead)):=lg.set (fun _ h=>by cases h) (fun _ _ h=>by cases h)
theorem lg.arr{N:Nat}{h:Heap}{id v z:Nat}{es:List AV}:lg N h (h.set id (v,.arr z es)):=lg.set (fun _ h=>by cases h) (fun _ _ h=>by cases h)
mutual
theorem akc{N base:Nat}{keep:Bool}:∀(v:AV) (h:Heap) (v':AV) (h':Heap),gI base keep v h=some (v',h')->lg N h h'
 |.agg cs,h,v',h',hf|.tuple cs,h,v',h',hf|.fn _ cs,h,v',h',hf=>by
  simp only[gI,mE,bf]at hf;obtain⟨⟨cs',h1⟩,hf,rfl,rfl⟩:=hf
  exact azt cs h cs' _ hf
 |.rM _ v,h,v',h',hf=>by
  simp only[gI,mE,bf]at hf;obtain⟨⟨cs',h1⟩,hf,rfl,rfl⟩:=hf
  exact akc v h cs' _ hf
 |.ref id ak z off len fill,h,v',h',hf=>by
  simp only[gI]at hf;split at hf
  ·simp only[mE,bf]at hf;obtain⟨es,_,rfl,rfl⟩:=hf;exact lg.dead
  ·split at hf
   ·simp only[dz,bf]at hf;obtain⟨_,rfl⟩:=hf;exact lg.refl _ _
   ·cases hf
 |.bO,h,v',h',hf=>by simp only[gI,dz,bf]at hf;obtain⟨_,rfl⟩:=hf;exact lg.refl _ _
 |.own ..,h,v',h',hf|.bq ..,h,v',h',hf|.nS ..,h,v',h',hf|.lF ..,h,v',h',hf=>by simp[gI]at hf
 |.undef,h,v',h',hf|.bool _,h,v',h',hf|.int _ _,h,v',h',hf|.str _,h,v',h',hf|.yX,h,v',h',hf|.zB,h,v',h',hf|.eY _ _,h,v',h',hf|.fT _ _,h,v',h',hf|.nilPtr,h,v',h',hf|.iE _,h,v',h',hf=>by
  simp only[gI,dz,bf]at hf;obtain⟨_,rfl⟩:=hf;exact lg.refl _ _
theorem azt{N base:Nat}{keep:Bool}:∀(cs:List AV) (h:Heap) (cs':List AV) (h':Heap),zx base keep cs h=some (cs',h')->lg N h h'
 |[],h,cs',h',hf=>by simp only[zx,dz,bf]at hf;obtain⟨_,rfl⟩:=hf;exact lg.refl _ _
 |c::cs,h,cs',h',hf=>by
  simp only[zx,bE,mE,bf]at hf;obtain⟨⟨c1,h1⟩,f1,⟨cs1,h2⟩,f2,rfl,rfl⟩:=hf;exact(akc c h c1 h1 f1).trans (azt cs h1 cs1 _ f2)
end
def Cx.side(cx:Cx)(N:Nat):Prop:=N<=cx.base\/(cx.Df≠none/\cx.base+cx.ns<=N)
theorem asw{cx:Cx}{N:Nat}(hs:cx.Df≠none)(hN:cx.base+cx.ns<=N){v:AV}(h:cx.fit v=true):low N v:=by
 unfold Cx.fit at h
 cases hr:cx.Df with
 |none=>exact absurd hr hs
 |some p=>rw[hr]at h;simp at h;exact low_mono hN _ (aoc v h)
theorem aod{cx:Cx}{N s ak:Nat}{b:aU}{h h':Heap}(hs:cx.side N)(hm:mK cx s b h=some (ak,h'))(hr:∀ d st,b=.aV d st->cx.base<=d.base/\(s<cx.ns->d.base+d.ns<=cx.base+cx.ns)):lg N h h':=by
 unfold mK at hm;split at hm
 ·rename_i hc;obtain⟨hc1,hc2⟩:=hc;split at hm
  ·simp only[dz,bf]at hm;obtain⟨rfl,rfl⟩:=hm;refine lg.set (fun cs he hid _=>?_) (fun d st he hl=>?_)
   ·simp only at he;subst he;rcases hs with h|⟨h1,h2⟩
    ·omega
    ·simp only[aU.fits,Gq]at hc2;exact alT.mpr fun c hc=>asw h1 h2 (hc2 c hc)
   ·simp only at he;subst he;obtain⟨g1,g2⟩:=hr d st rfl;have g2:=g2 hc1;rcases hs with h|⟨h1,h2⟩
    ·exact⟨fun hid=>by omega,fun _=>by omega⟩
    ·refine⟨fun _=>⟨by omega,fun t=>?_⟩,fun hid=>by omega⟩
     simp only[aU.fits,Gq]at hc2
     have:∀(e:Env),(∀ p∈e,cx.fit p.2=true)->low N (e.get t):=by
      intro e
      induction e with
      |nil=>intro _;simp[Env.get,low]
      |cons p r ih =>
       intro hp;obtain⟨k,v⟩:=p;simp only[Env.get];split
       ·exact asw h1 h2 (hp (k,v) (by simp))
       ·exact ih fun q hq=>hp q (by simp[hq])
     exact this d.env fun p hp=>hc2 p hp
  ·cases hm
 ·cases hm
theorem ake{cx:Cx}{N s ak:Nat}{b:aU}{h h':Heap}(hs:cx.side N)(hm:mK cx s b h=some (ak,h'))(hr:∀ d st,b≠.aV d st:=by simp):lg N h h':=aod hs hm fun d st e=>absurd e (hr d st)
theorem alU{cx:Cx}{N:Nat}(hs:cx.side N):∀(own:List (Nat×Nat)) (cs cs':List AV) (h h':Heap),Dz cx own cs h=some (cs',h')->lg N h h'
 |[],cs,cs',h,h',ht=>by simp only[Dz,dz,bf]at ht;obtain⟨_,rfl⟩:=ht;exact lg.refl _ _
 |(j,s)::r,cs,cs',h,h',ht=>by
  simp only[Dz]at ht;split at ht
  ·split at ht
   ·exact alU hs r _ _ _ _ ht
   ·obtain⟨⟨v,h1⟩,hm,ht⟩:=bE.mp ht;exact(ake hs hm).trans (alU hs r _ _ _ _ ht)
  ·exact alU hs r _ _ _ _ ht
theorem azu{N base z:Nat}{env:Env}:∀(ps:List (Nat×bD)) (es es':List AV) (h h':Heap),FI env base z ps es h=some (es',h')->lg N h h'
 |[],es,es',h,h',ht=>by simp only[FI,dz,bf]at ht;obtain⟨_,rfl⟩:=ht;exact lg.refl _ _
 |(i,x)::ps,es,es',h,h',ht=>by
  simp only[FI]at ht;obtain⟨⟨v,h1⟩,hf,ht⟩:=bE.mp ht;dsimp only at ht;split at ht
  ·exact(akc _ _ _ _ hf).trans (azu ps _ _ _ _ ht)
  ·cases ht
theorem aGr{cs new r:List AV}{off:Nat}(h:splice cs off new=some r):∀ c∈r,c∈cs\/c∈new:=by
 unfold splice at h;split at h
 ·simp only[dz]at h;subst h;intro c hc;simp only[Di]at hc;rcases hc with(hc|hc)|hc
  ·exact .inl (acU hc)
  ·exact .inr hc
  ·exact .inl (List.mem_of_mem_drop hc)
 ·cases h
theorem aGs{cx:Cx}{N sz:Nat}{h h':Heap}{p v:AV}(hs:cx.side N)(hp:qE cx h sz p v=some h'):lg N h h':=by
 unfold qE at hp;split at hp
 ·split at hp
  ·rename_i id ak off;split at hp
   ·rename_i w cs hid;split at hp
    ·rename_i hc;obtain⟨hc1,hc2,hc3⟩:=hc;obtain⟨cs',hsp,rfl⟩:=mE.mp hp;refine lg.set (fun cs2 he azv hl=>?_) (fun _ _ h=>by cases h)
     simp only[aU.box.injEq]at he;subst he;refine alT.mpr fun c hc=>?_;rcases aGr hsp c hc with hm|hm
     ·exact alT.mp ((hl id w).1 cs azv hid) c hm
     ·have hv:low N v:=by
       rcases hc3 with⟨g1,g2⟩|g
       ·rcases hs with h|⟨h1,h2⟩
        ·omega
        ·exact asw h1 h2 g2
       ·rcases g with g|g
        ·exact asv v g
        ·exact low_mono (Nat.le_of_lt azv) _ (aoc v g)
      exact alT.mp (aGq hv) c hm
    ·cases hp
   ·cases hp
  ·rename_i id ak z o len fill i off;obtain⟨⟨v1,h1⟩,hf,hp⟩:=bE.mp hp;refine(akc _ _ _ _ hf).trans ?_;dsimp only at hp;split at hp
   ·split at hp
    ·split at hp
     ·obtain⟨_,_,rfl⟩:=mE.mp hp;exact lg.arr
     ·split at hp
      ·split at hp
       ·cases hp
       ·simp only[dz]at hp;subst hp;exact lg.arr
      ·cases hp
     ·cases hp
    ·cases hp
   ·cases hp
  ·cases hp
 ·cases hp
theorem azw{cx:Cx}{N s z lim:Nat}{h h':Heap}{x v:AV}{xs:List AV}(hs:cx.side N)(hp:wG cx s z lim x xs h=some (v,h')):lg N h h':=by
 unfold wG at hp;split at hp
 ·split at hp
  ·simp only[dz,bf]at hp;obtain⟨_,rfl⟩:=hp;exact lg.refl _ _
  ·split at hp
   ·obtain⟨⟨ak,h1⟩,hm,he⟩:=mE.mp hp;simp only[bf]at he;obtain⟨_,rfl⟩:=he;exact ake hs hm
   ·cases hp
 ·split at hp
  ·split at hp
   ·simp only[dz,bf]at hp;obtain⟨_,rfl⟩:=hp;exact lg.refl _ _
   ·split at hp
    ·obtain⟨⟨ak,h1⟩,hm,he⟩:=mE.mp hp;simp only[bf]at he;obtain⟨_,rfl⟩:=he;exact ake hs hm
    ·cases hp
  ·cases hp
 ·split at hp
  ·split at hp
   ·simp only[dz,bf]at hp;obtain⟨_,rfl⟩:=hp;exact lg.arr
   ·cases hp
  ·cases hp
 ·cases hp
theorem aGt{cx:Cx}{N z:Nat}{h h':Heap}{x v:AV}{ys:List AV}(hp:Rx cx z x ys h=some (v,h')):lg N h h':=by
 unfold Rx at hp;split at hp
 ·split at hp
  ·cases hp
  ·split at hp
   ·simp only[dz,bf]at hp;obtain⟨_,rfl⟩:=hp;exact lg.refl _ _
   ·split at hp
    ·split at hp
     ·split at hp
      ·simp only[dz,bf]at hp;obtain⟨_,rfl⟩:=hp;exact lg.arr
      ·cases hp
     ·cases hp
    ·cases hp
 ·cases hp
theorem azx{cx:Cx}{s:Nat}{sd:SD}:∀ d st,aU.aV (kP.at (cx.base+s) sd) (.nX sd)=.aV d st->cx.base<=d.base/\(s<cx.ns->d.base+d.ns<=cx.base+cx.ns):=by
 intro d st e;cases e;simp only[kP.at];omega
theorem aGu{cx:Cx}{N s:Nat}{h h':Heap}{x y v:AV}(hs:cx.side N)(hp:YZ cx s x y h=some (v,h')):lg N h h':=by
 have fin:∀{h1:Heap} {id ak vv:Nat} {d:kP} {st:RS} {me mv a b:Nat},h1[id]?=some (vv,.aV d st)->cx.base<=id->me=id->(cx.base+cx.ns<=N->a<N) ->
   lg N h1 (h1.set id (ak,.aV { d with env:=(SD.nV me mv (some (a,b))).env } (.nX (.nV me mv (some (a,b)))))):=by
  intro h1 id ak vv d st me mv a b hid hb hme ha;refine lg.set (fun _ e=>by cases e) (fun d' st' e hl=>?_)
  cases e;obtain⟨q1,q2⟩:=(hl _ _).2 _ _ hid;refine⟨fun hlt=>⟨(q1 hlt).1,fun t=>?_⟩,q2⟩;rcases hs with h|⟨_,h⟩
  ·omega
  ·have:=ha h;simp only[SD.env,Env.get];split
   ·simp only[low];omega
   ·split
    ·simp only[low];omega
    ·simp[low]
 unfold YZ at hp;split at hp
 ·rename_i id ak l;split at hp
  ·rename_i v1 d me mv lk hid;split at hp
   ·rename_i hc;obtain⟨rfl,hme,_,_⟩:=hc;split at hp
    ·split at hp
     ·cases hp
     ·split at hp
      ·rename_i hc2;obtain⟨_,hne,hb⟩:=hc2;obtain⟨⟨v2,h1⟩,hm,he⟩:=mE.mp hp;simp only[bf]at he;obtain⟨_,rfl⟩:=he;have t1:=aod hs hm azx
       have F7:h1[id]?=some (v1,.aV d (.nX (.nV me mv none)))/\s<cx.ns:=by
        unfold mK at hm;split at hm
        ·rename_i hcc;split at hm
         ·simp only[dz,bf]at hm;obtain⟨_,rfl⟩:=hm;rw[tL (by omega)]
          exact⟨hid,hcc.1⟩
         ·cases hm
        ·cases hm
       exact t1.trans (fin F7.1 hb hme (fun hN=>by omega))
      ·cases hp
    ·rename_i id2 Gd;split at hp
     ·rename_i v2 d2 l0 zl;split at hp
      ·rename_i hc2;obtain⟨rfl,hne,_,_,_,hb,hns⟩:=hc2;simp only[dz,bf]at hp;obtain⟨_,rfl⟩:=hp;have t1:lg N h (h.set id2 (v2+1,.aV d2 (.nX (.buf (l0++l))))):=lg.set (fun _ e=>by cases e) (fun d' st' e hl=>by cases e;exact(hl _ _).2 _ _ zl)
       exact t1.trans (fin (by rw[tL hne];exact hid) hb hme (fun hN=>by omega))
      ·cases hp
     ·cases hp
   ·cases hp
  ·cases hp
 ·cases hp
theorem azy{call:Callee}(hc:Y8 call){cx:Cx}{N:Nat}{env:Env}{h h':Heap}{f:bD}{args:List bD}{own:List (Nat×Nat)}{v:AV}(hs:cx.side N)(hN:N<=h.length)(hx:xi call cx env h (.call f args own)=some (v,h')):lg N h h':=by
 simp only[xi]at hx;split at hx
 ·obtain⟨⟨r,h1⟩,h2,hx⟩:=bE.mp hx;obtain⟨l1,l2⟩:=hc.fn h2;have t1:lg N h h1:=⟨l1,l2 N hN⟩;dsimp only at hx;split at hx
  ·simp only[dz,bf]at hx;obtain⟨_,rfl⟩:=hx;exact t1
  ·split at hx
   ·obtain⟨⟨cs',h3⟩,h4,he⟩:=mE.mp hx;simp only[bf]at he;obtain⟨_,rfl⟩:=he;exact t1.trans (alU hs _ _ _ _ _ h4)
   ·obtain⟨⟨cs',h3⟩,h4,hx⟩:=bE.mp hx;obtain⟨_,_,he⟩:=mE.mp hx;simp only[bf]at he;obtain⟨_,rfl⟩:=he;exact t1.trans (alU hs _ _ _ _ _ h4)
 ·split at hx
  ·unfold tK at hx;split at hx
   ·rename_i v0 d hid;split at hx
    ·rename_i hcond;obtain⟨rfl,_⟩:=hcond;obtain⟨⟨e,h1⟩,h2,he⟩:=mE.mp hx;simp only[bf]at he;obtain⟨_,rfl⟩:=he;obtain⟨l1,l2⟩:=hc.rd h2 ⟨_,hid⟩;exact⟨l1,l2 N hN⟩
    ·cases hx
   ·cases hx
  ·cases hx
 ·cases hx
theorem aGv{cx:Cx}{N s ak z:Nat}{es:List AV}{h h':Heap}(hm:mK cx s (.arr z es) h=some (ak,h')):lg N h h':=by
 unfold mK at hm;split at hm
 ·split at hm
  ·simp only[dz,bf]at hm;obtain⟨rfl,rfl⟩:=hm;exact lg.arr
  ·cases hm
 ·cases hm
theorem alV{cx:Cx}{N:Nat}:∀(own:List (Nat×Nat)) (cs cs':List AV) (h h':Heap),Dz cx own cs h=some (cs',h')->lg N h h'
 |[],cs,cs',h,h',ht=>by simp only[Dz,dz,bf]at ht;obtain⟨_,rfl⟩:=ht;exact lg.refl _ _
 |(j,s)::r,cs,cs',h,h',ht=>by
  simp only[Dz]at ht;split at ht
  ·split at ht
   ·exact alV r _ _ _ _ ht
   ·obtain⟨⟨v,h1⟩,h2,h3⟩:=bE.mp ht;exact(aGv h2).trans (alV r _ _ _ _ h3)
  ·exact alV r _ _ _ _ ht
theorem aGw{call:Callee}(hc:Y8 call){cx:Cx}{N:Nat}{env:Env}{h h':Heap}{f:bD}{args:List bD}{v:AV}(hN:N<=h.length)(hx:xi call cx env h (.call f args [(0,0)])=some (v,h')):lg N h h':=by
 simp only[xi]at hx;split at hx
 ·obtain⟨⟨r,h1⟩,h2,hx⟩:=bE.mp hx;obtain⟨l1,l2⟩:=hc.fn h2;have t1:lg N h h1:=⟨l1,l2 N hN⟩;dsimp only at hx;split at hx
  ·obtain⟨⟨cs',h3⟩,h4,he⟩:=mE.mp hx;simp only[bf]at he;obtain⟨_,rfl⟩:=he;exact t1.trans (alV _ _ _ _ _ h4)
  ·obtain⟨⟨cs',h3⟩,h4,hx⟩:=bE.mp hx;obtain⟨_,_,he⟩:=mE.mp hx;simp only[bf]at he;obtain⟨_,rfl⟩:=he;exact t1.trans (alV _ _ _ _ _ h4)
 ·simp at hx
 ·cases hx
theorem azz{call:Callee}(hc:Y8 call){cx:Cx}{N:Nat}{env:Env}{h h':Heap}{o:XI}{v:AV}(hs:cx.side N)(hN:N<=h.length)(hx:xi call cx env h o=some (v,h')):lg N h h':=by
 by_cases hka:∃ ts f args,o=.FH ts f args
 ·obtain⟨ts,f,args,rfl⟩:=hka;exact azy hc hs hN (alc hx).1
 by_cases hcb:∃ t f args,o=.Rb t f args
 ·obtain⟨t,f,args,rfl⟩:=hcb;obtain⟨id,v',o',g,caps,_,_,_,hx1⟩:=arB hx;exact aGw hc hN hx1
 by_cases hca:∃ f args own,o=.call f args own
 ·obtain⟨f,args,own,rfl⟩:=hca;exact azy hc hs hN hx
 cases o<;>simp only[xi]at hx
 case call f args own=>exact absurd ⟨_,_,_,rfl⟩ hca
 case FH ts f args=>exact absurd ⟨_,_,_,rfl⟩ hka
 case Rb t f args=>exact absurd ⟨_,_,_,rfl⟩ hcb
 case pF z zero n ps =>
  obtain⟨⟨es,h1⟩,h2,he⟩:=mE.mp hx;simp only[bf]at he;obtain⟨_,rfl⟩:=he;exact azu _ _ _ _ _ h2
 case store sz x y =>
  obtain⟨h1,h2,he⟩:=mE.mp hx;simp only[bf]at he;obtain⟨_,rfl⟩:=he;exact aGs hs h2
 case alloc s zero =>
  obtain⟨⟨ak,h1⟩,h2,he⟩:=mE.mp hx;simp only[bf]at he;obtain⟨_,rfl⟩:=he;exact ake hs h2
 case box s x =>
  split at hx
  ·obtain⟨⟨ak,h1⟩,h2,he⟩:=mE.mp hx;simp only[bf]at he;obtain⟨_,rfl⟩:=he;exact ake hs h2
  ·cases hx
 case nK x =>
  split at hx
  ·obtain⟨⟨ak,h1⟩,h2,he⟩:=mE.mp hx;simp only[bf]at he;obtain⟨_,rfl⟩:=he;exact akc _ _ _ _ h2
  ·cases hx
 case Zo s =>
  obtain⟨⟨ak,h1⟩,h2,he⟩:=mE.mp hx;simp only[bf]at he;obtain⟨_,rfl⟩:=he
  have hm2:mK cx s (.aV (kP.at (cx.base+s) (.nV (cx.base+s) ak none)) (.nX (.nV (cx.base+s) ak none))) h=some (ak,h1.set (cx.base+s) (ak,.aV (kP.at (cx.base+s) (.nV (cx.base+s) ak none)) (.nX (.nV (cx.base+s) ak none)))):=by
   unfold mK at h2⊢;split at h2
   ·rename_i hc;rw[if_pos ⟨hc.1,hc.2⟩];split at h2
    ·rename_i v0 b0 hid;simp only[dz,bf]at h2;obtain⟨rfl,rfl⟩:=h2;simp
    ·cases h2
   ·cases h2
  exact aod hs hm2 azx
 case Zp t x =>
  split at hx
  ·simp only[dz,bf]at hx;obtain⟨_,rfl⟩:=hx;exact lg.refl _ _
  ·cases hx
 case YV s f x y=>exact aGu hs hx
 case mk s z zero lim n c =>
  split at hx
  ·split at hx
   ·simp only[dz,bf]at hx;obtain⟨_,rfl⟩:=hx;exact lg.refl _ _
   split at hx
   ·obtain⟨⟨ak,h1⟩,h2,he⟩:=mE.mp hx;simp only[bf]at he;obtain⟨_,rfl⟩:=he;exact ake hs h2
   ·cases hx
  ·cases hx
 case app s z lim x y =>
  obtain⟨xs,_,hx⟩:=bE.mp hx;unfold acK at hx;split at hx
  ·exact azw hs hx
  ·obtain⟨⟨v1,h1⟩,h3,h4⟩:=bE.mp hx;exact(azw hs h3).trans (akc _ _ _ _ h4)
 case Zq x=>cases hx
 case copy z x y =>
  obtain⟨ys,_,hx⟩:=bE.mp hx;exact aGt hx
 case TT z x i =>
  split at hx
  ·obtain⟨n,_,hx⟩:=bE.mp hx;obtain⟨_,_,he⟩:=mE.mp hx;simp only[bf]at he;obtain⟨_,rfl⟩:=he;exact lg.refl _ _
  ·cases hx
 case Oa x i =>
  split at hx
  ·obtain⟨n,_,hx⟩:=bE.mp hx;obtain⟨_,_,he⟩:=mE.mp hx;simp only[bf]at he;obtain⟨_,rfl⟩:=he;exact lg.refl _ _
  ·cases hx
 all_goals first
  |(simp only[dz,bf]at hx;obtain⟨_,rfl⟩:=hx;exact lg.refl _ _)
  |(obtain⟨_,_,he⟩:=mE.mp hx;simp only[bf]at he;obtain⟨_,rfl⟩:=he;exact lg.refl _ _)
  |(obtain⟨_,_,hx⟩:=bE.mp hx;obtain⟨_,_,he⟩:=mE.mp hx;simp only[bf]at he;obtain⟨_,rfl⟩:=he;exact lg.refl _ _)
theorem aGx{call:Callee}(hc:Y8 call){cx:Cx}{N:Nat}{env env':Env}{h h':Heap}{o:jc}(hs:cx.side N)(hN:N<=h.length)(hx:Dh call cx o env h=some (env',h')):lg N h h':=by
 unfold Dh at hx;split at hx
 ·obtain⟨⟨v,h1⟩,h2,he⟩:=mE.mp hx;simp only[bf]at he;obtain⟨_,rfl⟩:=he;exact azz hc hs hN (IQ h2).1
 ·obtain⟨b,_,hx⟩:=bE.mp hx;split at hx
  ·obtain⟨⟨v,h1⟩,h2,he⟩:=mE.mp hx;simp only[bf]at he;obtain⟨_,rfl⟩:=he;exact azz hc hs hN (IQ h2).1
  ·simp only[dz,bf]at hx;obtain⟨_,rfl⟩:=hx;exact lg.refl _ _
theorem azA{call:Callee}(hc:Y8 call){cx:Cx}{N:Nat}(hs:cx.side N):∀(os:List jc) {env env':Env} {h h':Heap},N<=h.length->xZ call cx os env h=some (env',h')->lg N h h'
 |[],env,env',h,h',hN,hx=>by simp only[xZ,dz,bf]at hx;obtain⟨_,rfl⟩:=hx;exact lg.refl _ _
 |o::os,env,env',h,h',hN,hx=>by
  obtain⟨⟨e1,h1⟩,h2,hx⟩:=bE.mp hx;have t:=aGx hc hs hN h2;exact t.trans (azA hc hs os (by rw[t.1];exact hN) hx)
theorem asx{cx:Cx}{N:Nat}:∀(ss:List Nat) (h:Heap),lg N h (Gp cx ss h)
 |[],h=>lg.refl _ _
 |s::ss,h=>by
  simp only[Gp];split
  ·exact lg.dead.trans (asx ss _)
  ·exact asx ss h
theorem akf{call:Callee}(hc:Y8 call){cx:Cx}{N:Nat}(hs:cx.side N)(n:Nat):∀(x:XC) {env:Env} {h:Heap} {e:Ex} {env':Env} {h':Heap},N<=h.length->exec call cx n x (env,h)=some (e,(env',h'))->lg N h h':=by
 intro x
 induction x with
 |skip|exit|ret =>
  intro env h e env' h' hN hx;simp only[exec,dz,bf]at hx;obtain⟨_,_,rfl⟩:=hx
  exact lg.refl _ _
 |reg draw keep kill ops =>
  intro env h e env' h' hN hx;simp only[exec,mE,bf]at hx;obtain⟨⟨e1,h1⟩,h2,_,_,rfl⟩:=hx;have t:=asx (cx:=cx) (N:=N) kill h
  exact t.trans (azA hc hs _ (by rw[t.1];exact hN) h2)
 |seq a b iha ihb =>
  intro env h e env' h' hN hx;obtain⟨⟨e1,I7,h1⟩,h2,hx⟩:=bE.mp hx;have t:=iha hN h2;dsimp only at hx;split at hx
  ·exact t.trans (ihb (by rw[t.1];exact hN) hx)
  ·simp only[dz,bf]at hx;obtain⟨_,_,rfl⟩:=hx;exact t
 |cond c a b iha ihb =>
  intro env h e env' h' hN hx;obtain⟨r,_,hx⟩:=bE.mp hx;split at hx
  ·exact iha hN hx
  ·exact ihb hN hx
 |blk id a ih =>
  intro env h e env' h' hN hx;obtain⟨⟨e1,I7,h1⟩,h2,he⟩:=mE.mp hx;have t:=ih hN h2;unfold Ex.Ir at he
  split at he<;>(simp only[bf]at he;obtain⟨_,_,rfl⟩:=he;exact t)
 |loop a ih =>
  intro env h e env' h' hN hx;simp only[exec]at hx
  have key:∀(k:Nat) {env:Env} {h:Heap} {e:Ex} {env':Env} {h':Heap},N<=h.length->iter (exec call cx n a) k (env,h)=some (e,(env',h'))->lg N h h':=by
   intro k
   induction k with
   |zero=>intro env h e env' h' _ hx;simp[iter]at hx
   |succ k ihk =>
    intro env h e env' h' hN hx;simp only[iter,bE]at hx;obtain⟨⟨e1,I7,h1⟩,hx1,hx2⟩:=hx;have t:=ih hN hx1;dsimp only at hx2;split at hx2
    ·exact t.trans (ihk (by rw[t.1];exact hN) hx2)
    ·simp only[dz,bf]at hx2;obtain⟨_,_,rfl⟩:=hx2;exact t
  exact key n hN hx
 |Gm s f g =>
  intro env h e env' h' hN hx;simp only[exec]at hx;split at hx
  ·obtain⟨⟨ak,h1⟩,hmk,hx1⟩:=bE.mp hx;obtain⟨⟨r0,h2⟩,hcall,hx2⟩:=bE.mp hx1;clear hx hx1;have t1:lg N h h1:=aod hs hmk (fun d st e=>by cases e;exact⟨iJ _,fun _=>iJ _⟩)
   obtain⟨l1,l2⟩:=hc.fn hcall;have t2:lg N h1 h2:=⟨l1,l2 N (by rw[t1.1];exact hN)⟩
   dsimp only at hx2;split at hx2
   ·split at hx2
    ·simp only[dz,bf]at hx2;obtain⟨_,_,rfl⟩:=hx2;exact(t1.trans t2).trans lg.dead
    ·cases hx2
   ·split at hx2
    ·simp only[dz,bf]at hx2;obtain⟨_,_,rfl⟩:=hx2;exact(t1.trans t2).trans lg.dead
    ·cases hx2
   ·cases hx2
  ·cases hx
 |pre ps a ih =>
  intro env h e env' h' hN hx;exact ih (env:=env.keep ps) hN hx
theorem aGy{call:Callee}(hc:Y8 call){n:Nat}{x:gH}{args:List AV}{h:Heap}{lo:Nat}{r:AV}{h':Heap}(he:enter x (fun cx=>exec call cx n) args h lo=some (r,h')):h'.length=h.length/\∀ N,N<=h.length->Kb N h->Kb N h':=by
 unfold enter at he;split at he
 ·obtain⟨⟨e,env',h1⟩,hx,he⟩:=bE.mp he
  have hres:h'=if x.isOpen then h1.take h.length else h:=by
   cases e with
   |exit id=>simp at he
   |norm|ret =>
    simp only[bE,mE,bf]at he;obtain⟨v,e1,r',e2,_,rfl⟩:=he;rfl
  have key:∀ N,N<=h.length->lg N (h++List.replicate x.ns (0,aU.dead)) h1:=fun N hN=>akf hc (.inl hN) n x.code (by simp;omega) hx
  have hlen:=(key 0 (Nat.zero_le _)).1;simp only[uG,Tc]at hlen;subst hres;split
  ·refine⟨by rw[JK];omega,fun N hN hl=>?_⟩
   have hl0:Kb N (h++List.replicate x.ns (0,aU.dead)):=by
    have key2:∀(id v:Nat) (b:aU),(h++List.replicate x.ns (0,aU.dead))[id]?=some (v,b)->b≠.dead->h[id]?=some (v,b):=by
     intro id v b hk hd;rcases Fz id h.length with hlt|hge
     ·rwa [zy hlt]at hk
     ·rw[Fx hge,List.getElem?_replicate]at hk;split at hk
      ·cases hk;exact absurd rfl hd
      ·cases hk
    exact fun id v=>⟨fun cs hid hk=>(hl id v).1 cs hid (key2 _ _ _ hk (by simp)),fun d st hk=>(hl id v).2 d st (key2 _ _ _ hk (by simp))⟩
   have hl1:=(key N hN).2 hl0
   have azB:∀(id v:Nat) (b:aU),(h1.take h.length)[id]?=some (v,b)->h1[id]?=some (v,b):=by
    intro id v b hk;rw[IA]at hk;split at hk
    ·exact hk
    ·cases hk
   exact fun id v=>⟨fun cs hid hk=>(hl1 id v).1 cs hid (azB _ _ _ hk),fun d st hk=>(hl1 id v).2 d st (azB _ _ _ hk)⟩
  ·exact⟨rfl,fun N _ hl=>hl⟩
 ·cases he
theorem aGz{call:Callee}(hc:Y8 call){n:Nat}{x:DU}{d:kP}{id ak:Nat}{args:List AV}{h:Heap}{e:Ex}{h':Heap}(hr:round x (fun cx=>exec call cx n) d id ak args h=some (e,h'))(hid:∃ st,h[id]?=some (ak,.aV d st)) :
  h'.length=h.length/\∀ N,N<=h.length->Kb N h->Kb N h':=by
 obtain⟨st0,hid⟩:=hid;unfold round at hr;split at hr
 ·obtain⟨⟨e1,I7,h1⟩,g1,g2⟩:=bE.mp hr;clear hr;dsimp only at g2;split at g2
  ·split at g2
   ·rename_i v1 d1 aci;split at g2
    ·obtain⟨⟨e2,zk,h3⟩,g3,g4⟩:=bE.mp g2;clear g2;dsimp only at g4;split at g4
     ·rename_i v2 d2 zl;split at g4
      ·simp only[dz,bf]at g4;obtain⟨_,rfl⟩:=g4
       have main:∀ N,N<=h.length->(Kb N h->({ lo:=d.lo,base:=d.base,ns:=d.ns,Df:=some (id,ak) }:Cx).side N)->Kb N h->Kb N (h3.set id (ak,.aV d2 (if e2=.norm then .ready else .done e2))):=by
        intro N hN hside hl;have t1:=akf hc (hside hl) n x.xQ hN g1;have t2:lg N h1 (h1.set id (ak,.aV d1 .busy)):=lg.set (fun _ h=>by cases h) (fun d st he hl=>by cases he;exact(hl id v1).2 _ _ aci)
        have t3:=akf hc (hside hl) n x.body (by rw[t2.1,t1.1];exact hN) g3
        have t4:lg N h3 (h3.set id (ak,.aV d2 (if e2=.norm then .ready else .done e2))):=lg.set (fun _ h=>by cases h) (fun d st he hl=>by cases he;exact(hl id v2).2 _ _ zl)
        exact(((t1.trans t2).trans t3).trans t4).2 hl
       have len:(h3.set id (ak,aU.aV d2 (if e2=.norm then .ready else .done e2))).length=h.length:=by
        have hside:({ lo:=d.lo,base:=d.base,ns:=d.ns,Df:=some (id,ak) }:Cx).side 0:=.inl (Nat.zero_le _);have t1:=akf hc hside n x.xQ (Nat.zero_le _) g1;have t3:=akf hc hside n x.body (Nat.zero_le _) g3;rw[Td,t3.1,Td,t1.1]
       refine⟨len,fun N hN hl=>main N hN (fun hl=>?_) hl⟩;obtain⟨k1,k2⟩:=(hl id ak).2 d st0 hid;rcases Fz id N with hlt|hge
       ·exact .inr ⟨by simp,(k1 hlt).1⟩
       ·exact .inl (k2 hge)
      ·cases g4
     ·cases g4
    ·cases g2
   ·cases g2
  ·cases g2
 ·cases hr
theorem aGA{call:Callee}(hc:Y8 call){n:Nat}{x:gH}{b:Bool}{args:List AV}{h:Heap}{lo:Nat}{r:AV}{h':Heap}(he:L6 x (fun cx=>exec call cx n) b args h lo=some (r,h')):h'.length=h.length/\∀ N,N<=h.length->Kb N h->Kb N h':=by
 unfold L6 at he;split at he
 ·obtain⟨vs,h1,h2⟩:=bE.mp he;obtain⟨q,h3,h4⟩:=bE.mp h2;split at h4
  ·simp only[dz,bf]at h4;obtain⟨_,rfl⟩:=h4;exact⟨rfl,fun _ _ h=>h⟩
  ·cases h4
 ·exact aGy hc he
theorem asy(L:Lib):∀ n,Y8 (ex L n)
 |0=>⟨fun{f args h lo r h'} hx=>by simp[ex]at hx,fun{d id ak args h e h'} hx=>by simp[ex]at hx⟩
 |n+1=>by
  have ih:=asy L n;refine⟨fun{f args h lo r h'} hx=>?_,fun{d id ak args h e h'} hx hid=>?_⟩
  ·simp only[ex]at hx;split at hx
   ·simp only[dz,bf]at hx;obtain⟨_,rfl⟩:=hx;exact⟨rfl,fun _ _ h=>h⟩
   ·obtain⟨x,_,hx⟩:=bE.mp hx;exact aGA ih hx
  ·simp only[ex]at hx;obtain⟨x,_,hx⟩:=bE.mp hx;exact aGz ih hx hid
end Go.VI
