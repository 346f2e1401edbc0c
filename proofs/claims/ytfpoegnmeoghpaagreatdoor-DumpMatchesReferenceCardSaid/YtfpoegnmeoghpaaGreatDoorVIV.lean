/- Calls of functions that are lent what they read. -/
import Derived.Test.YtfpoegnmeoghpaaGreatDoorVITA
set_option linter.unusedVariables false
set_option linter.unusedSimpArgs false
namespace Go.VI
set_option linter.unusedSectionVars false
section
variable [bJ][Rounds]{P:Program}{aQ:Nat->Bool}{dN:Nat->Option iR}{call:Callee}
mutual
theorem acJ{w:World}{m:Map}{h:Heap}(hi:Inv w m h):∀(x y:AV) (u:Value),view h x=some y->R w (Live m h) m h x u->R w (Live [] []) [] [] y u
 |.agg cs,y,u,hv,hr=>by
  simp only[view,mE]at hv;obtain⟨cs',h1,rfl⟩:=hv;simp only[R]at hr⊢;obtain⟨vs,rfl,h2,h3⟩:=hr
  exact⟨vs,rfl,h2,Hz hi cs cs' vs h1 h3⟩
 |.fn f cs,y,u,hv,hr=>by
  simp only[view,mE]at hv;obtain⟨cs',h1,rfl⟩:=hv;simp only[R]at hr⊢;obtain⟨vs,rfl,h2⟩:=hr
  exact⟨vs,rfl,Hz hi cs cs' vs h1 h2⟩
 |.ref id aj z off len fill,y,u,hv,hr=>by
  simp only[view,mE]at hv;obtain⟨es,h1,rfl⟩:=hv;obtain⟨a,cap,rfl,h2,h3⟩:=Gm (z:=z) hi hr h1 (by simp[fe])
  simp only[R,RC];refine⟨a,cap,rfl,h2, ?_⟩;rcases h3 with h3|⟨b,o,e1,e2,e3,e4⟩
  ·exact .inl h3
  ·exact .inr ⟨b,o,e1,e2,fun hl=>by obtain ⟨id,v,blk,hh,_⟩:=hl; simp at hh,e3,wS es b o fun i e he=>by
   obtain⟨v,q1,q2,q3,q4⟩:=zF es b o e4 i e he
   exact⟨v,RC.keep (Keep.weaken fun b hb=>by obtain⟨id,v,blk,hh,_⟩:=hb;simp at hh) _ _ q1,q2,q3,q4⟩⟩
 |.own ..,y,u,hv,hr|.tuple ..,y,u,hv,hr|.aJ ..,y,u,hv,hr|.di ..,y,u,hv,hr|.cZ ..,y,u,hv,hr|.undef,y,u,hv,hr|.eZ ..,y,u,hv,hr=>by simp[view]at hv
 |.bool _,y,u,hv,hr|.int _ _,y,u,hv,hr|.str _,y,u,hv,hr|.gZ,y,u,hv,hr|.iG,y,u,hv,hr|.aD,y,u,hv,hr|.aN _ _,y,u,hv,hr|.aM _ _,y,u,hv,hr|.nilPtr,y,u,hv,hr|.bD _,y,u,hv,hr=>by
  simp only[view,aP]at hv;subst hv;simp only[R]at hr⊢;exact RC.keep (Keep.weaken fun b hb=>by obtain⟨id,v,blk,hh,_⟩:=hb;simp at hh) _ _ hr
theorem Hz{w:World}{m:Map}{h:Heap}(hi:Inv w m h):∀(xs ys:List AV) (us:List Value),qB h xs=some ys->RL w (Live m h) m h xs us->RL w (Live [] []) [] [] ys us
 |[],ys,us,hv,hr=>by
  simp only[qB,aP]at hv;subst hv
  simpa[RL]using hr
 |x::xs,ys,us,hv,hr=>by
  simp only[qB,bE,mE]at hv;obtain⟨y,h1,ys',h2,rfl⟩:=hv;simp only[RL]at hr⊢;obtain⟨u,fB,rfl,r1,r2⟩:=hr;exact⟨u,fB,rfl,acJ hi x y u h1 r1,Hz hi xs ys' fB h2 r2⟩
end
mutual
theorem Tk{w w':World}{X X':Nat->Prop}{m m':Map}{h h':Heap}:∀(x:AV) (u:Value),x.flat=true->R w X m h x u->R w' X' m' h' x u
 |.agg cs,u,hf,hr=>by
  simp only[AV.flat]at hf;simp only[R]at hr⊢;obtain⟨vs,rfl,h2,h3⟩:=hr
  exact⟨vs,rfl,h2,Tm cs vs hf h3⟩
 |.bool _,u,hf,hr|.int _ _,u,hf,hr|.str _,u,hf,hr|.gZ,u,hf,hr|.iG,u,hf,hr|.aD,u,hf,hr|.nilPtr,u,hf,hr=>by simpa[R,RC]using hr
 |.own ..,u,hf,hr|.tuple ..,u,hf,hr|.aJ ..,u,hf,hr|.di ..,u,hf,hr|.cZ ..,u,hf,hr|.undef,u,hf,hr|.eZ ..,u,hf,hr|.fn ..,u,hf,hr|.ref ..,u,hf,hr|.aN ..,u,hf,hr|.aM ..,u,hf,hr|.bD _,u,hf,hr=>by simp[AV.flat]at hf
theorem Tm{w w':World}{X X':Nat->Prop}{m m':Map}{h h':Heap}:∀(xs:List AV) (us:List Value),AV.wO xs=true->RL w X m h xs us->RL w' X' m' h' xs us
 |[],us,hf,hr=>by simpa[RL]using hr
 |x::xs,us,hf,hr=>by
  simp only[AV.wO,bg]at hf;simp only[RL]at hr⊢;obtain⟨u,fB,rfl,r1,r2⟩:=hr;exact⟨u,fB,rfl,Tk x u hf.1 r1,Tm xs fB hf.2 r2⟩
end
mutual
theorem Tn{w w':World}{X X':Nat->Prop}:∀(x:AV) (u:Value),x.flat=true->RC w X x u->RC w' X' x u
 |.agg cs,u,hf,hr=>by
  simp only[AV.flat]at hf;simp only[RC]at hr⊢;obtain⟨vs,rfl,h2,h3⟩:=hr
  exact⟨vs,rfl,h2,Tp cs vs hf h3⟩
 |.bool _,u,hf,hr|.int _ _,u,hf,hr|.str _,u,hf,hr|.gZ,u,hf,hr|.iG,u,hf,hr|.aD,u,hf,hr|.nilPtr,u,hf,hr=>by simpa[RC]using hr
 |.own ..,u,hf,hr|.tuple ..,u,hf,hr|.aJ ..,u,hf,hr|.di ..,u,hf,hr|.cZ ..,u,hf,hr|.undef,u,hf,hr|.eZ ..,u,hf,hr|.fn ..,u,hf,hr|.ref ..,u,hf,hr|.aN ..,u,hf,hr|.aM ..,u,hf,hr|.bD _,u,hf,hr=>by simp[AV.flat]at hf
theorem Tp{w w':World}{X X':Nat->Prop}:∀(xs:List AV) (us:List Value),AV.wO xs=true->dH w X xs us->dH w' X' xs us
 |[],us,hf,hr=>by simpa[dH]using hr
 |x::xs,us,hf,hr=>by
  simp only[AV.wO,bg]at hf;simp only[dH]at hr⊢;obtain⟨u,fB,rfl,r1,r2⟩:=hr;exact⟨u,fB,rfl,Tn x u hf.1 r1,Tp xs fB hf.2 r2⟩
end
theorem acK{es:List AV}(h:AV.wO es=true):∀ e∈es,e.flat=true:=by
 induction es with
 |nil=>simp
 |cons e es ih =>
  simp only[AV.wO,bg]at h;intro x hx;rcases gq.mp hx with rfl|hx
  ·exact h.1
  ·exact ih h.2 x hx
theorem Tq{w:World}{X X':Nat->Prop}{m m':Map}{h h':Heap}{B:List Nat}{x:AV}{u:Value}(hf:x.Bc=true)(hg:iB w X m h B x u):iB w X' m' h' B x u:=by
 unfold iB at hg⊢;split at hg
 ·rename_i z es;simp only[AV.Bc]at hf;refine hg.imp (fun h=>h) ?_;rintro⟨h1,b,h2,cap,c,ty,q1,q2,q3,q4,q5,q6⟩;refine⟨h1,b,h2,cap,c,ty,q1,q2,q3,q4,q5,q6.1,fun i e he=>?_⟩;obtain⟨v,k1,k2,k3,k4⟩:=q6.2 i e he;exact⟨v,Tn e v (acK hf e (wT he)) k1,k2,k3,k4⟩
 ·rename_i hne;have hf':x.flat=true:=by cases x<;>first|exact hf|exact absurd rfl (hne _ _)
  exact⟨hg.1,Tk x u hf' hg.2⟩
theorem Tt{w:World}{X X':Nat->Prop}{m m':Map}{h h':Heap}:∀{cs:List AV} {B:List Nat} {us:List Value},cs.all AV.Bc=true->fM w X m h B cs us->fM w X' m' h' B cs us
 |[],B,us,hf,hg=>by simpa only[fM]using hg
 |c::cs,B,us,hf,hg=>by
  simp only[uw,bg]at hf;simp only[fM]at hg⊢;obtain⟨B1,B2,u,fB,rfl,rfl,g1,g2⟩:=hg;exact⟨B1,B2,u,fB,rfl,rfl,Tq hf.1 g1,Tt hf.2 g2⟩
theorem acL{w:World}{X X':Nat->Prop}{m m':Map}{h h':Heap}{B:List Nat}{x:AV}{u:Value}(hf:x.Gd=true)(hg:oq w X m h B x u):oq w X' m' h' B x u:=by
 unfold oq at hg⊢;split at hg
 ·rename_i cs;obtain⟨us,rfl,hl⟩:=hg;exact⟨us,rfl,Tt (by simpa only[AV.Gd]using hf) hl⟩
 ·rename_i hne;have hf':x.Bc=true:=by cases x<;>first|exact hf|exact absurd rfl (hne _)
  exact Tq hf' hg
theorem Tv(b:Nat):¬ Live [] [] b:=by rintro⟨id,v,blk,h,_⟩;simp at h
theorem Tw{w0:World}{X:Nat->Prop}(hg:rW w0 X):Inv w0 [] []:=⟨rfl,fun id v blk h=>by simp at h,fun id v d st h=>by simp at h,fun id id' v v' blk dO b h=>by simp at h,hg.keep (Keep.weaken fun b hb=>absurd hb (Tv b))⟩
theorem Tx{n:Nat}(hc:nA P aQ call)(Ht:vI call)(hrd:BF P aQ dN)(hm:P.follows .mixedOrders=true){f:Nat}{x:aW}(hk:zP P aQ dN f x=true){b:Bool}{args:List AV}{h:Heap}{lo:Nat}{r:AV}{h':Heap}
  (he:lM x (fun cx=>exec call cx n) b args h lo=some (r,h')):(aQ f=true->h'=h)/\Enters P f/\∀(w:World) (m:Map) (vs:List Value),Inv w m h->RL w (Live m h) m h args vs->lo<=h.length ->
   Calls P f vs.toArray w fun e w'=>∃ u m',e=.returned u/\Step lo w m h w' m' h'/\Inv w' m' h'/\uo w w' m' h' r u:=by
 unfold lM at he;split at he
 ·obtain⟨ys,h1,h2⟩:=bE.mp he;obtain⟨⟨r1,h3⟩,h4,h5⟩:=bE.mp h2;dsimp only at h5;split at h5
  ·rename_i hf;simp only[aP,ax]at h5;obtain⟨rfl,rfl⟩:=h5;obtain⟨_,k2,k3⟩:=SS hc Ht hrd hm hk h4;refine⟨fun _=>rfl,k2,fun w m vs hi hl hlo=>?_⟩;refine(k3 w [] vs (Tw hi.gV) (Hz hi _ _ _ h1 hl) (aV _)).mono ?_;rintro e w' ⟨u,m',rfl,s1,i1,B,b1,b2,b3,b4⟩;have hbel:RowKit.Below w.heap.size w w':=⟨s1.os,s1.tape,s1.output,s1.keep.size,fun q hq=>s1.old q hq (Tv q)⟩;have hlive:∀ b,Live m h b->b<w.heap.size:=fun b ⟨id,v,blk,q1,q2,q3⟩=>hi.lt q1 q2 q3;have hkeep:Keep w (Live m h) w' (fun b=>Live m h b\/b∈B):=⟨hbel.size,fun hlt _=>World.cell?_of_block (hbel.block _ hlt),fun b hb=>hb.imp (fun h=>h) fun hB=>(b2 b hB).1⟩;have hst:=vz (lo:=lo) hi hbel;refine⟨u,m,rfl,hst,wR hi hbel,B,b1,fun b hb=>⟨(b2 b hb).1,fun hl=>by have:=hlive b hl;have:=(b2 b hb).1;omega⟩,⟨wR hi hbel,fun b hb=>.inl hb, ?_, ?_⟩,acL hf b4⟩
   ·intro id aj blk hid hmem;obtain⟨b,c,ty,e1,e2,e3⟩:=hi.blk id aj blk hid hmem;exact⟨b,c,ty,e1,(hbel.block b (hi.lt hid (av.Bf hmem) e1)).trans e2,e3.ids hst.ids hkeep⟩
   ·intro id aj d st hid;obtain⟨b,o,e1,e2,e3⟩:=hi.ay id aj d st hid;exact⟨b,o,e1,(hbel.block b (hi.lt hid (by simp) e1)).trans e2,e3.ids hst.ids hkeep (aV _)⟩
  ·cases h5
 ·exact SS hc Ht hrd hm hk he
end
end Go.VI
