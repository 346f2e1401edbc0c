/- Calls of functions that are lent what they read. -/
import Derived.Test.YtfpoegnmeoghpaaGreatDoorVITA
set_option linter.unusedVariables false
set_option linter.unusedSimpArgs false
namespace Go.VI
set_option linter.unusedSectionVars false
section
variable [kH][Rounds]{P:Program}{eB:Nat->Bool}{qR:Nat->Option DU}{call:Callee}
mutual
theorem aGZ{w:World}{m:Map}{h:Heap}(hi:Inv w m h):∀(x y:AV) (u:Value),view h x=some y->R w (Live m h) m h x u->R w (Live [] []) [] [] y u
 |.agg cs,y,u,hv,hr=>by
  simp only[view,mE]at hv;obtain⟨cs',h1,rfl⟩:=hv;simp only[R]at hr⊢;obtain⟨vs,rfl,h2,h3⟩:=hr
  exact⟨vs,rfl,h2,aoi hi cs cs' vs h1 h3⟩
 |.fn f cs,y,u,hv,hr=>by
  simp only[view,mE]at hv;obtain⟨cs',h1,rfl⟩:=hv;simp only[R]at hr⊢;obtain⟨vs,rfl,h2⟩:=hr
  exact⟨vs,rfl,aoi hi cs cs' vs h1 h2⟩
 |.ref id ak z off len fill,y,u,hv,hr=>by
  simp only[view,mE]at hv;obtain⟨es,h1,rfl⟩:=hv;obtain⟨a,cap,rfl,h2,h3⟩:=anw (z:=z) hi hr h1 (by simp[xB])
  simp only[R,RC];refine⟨a,cap,rfl,h2, ?_⟩;rcases h3 with h3|⟨b,o,e1,e2,e3,e4⟩
  ·exact .inl h3
  ·exact .inr ⟨b,o,e1,e2,fun hl=>by obtain ⟨id,v,blk,hh,_⟩:=hl; simp at hh,e3,ab4 es b o fun i e he=>by
   obtain⟨v,q1,q2,q3,q4⟩:=aiU es b o e4 i e he
   exact⟨v,RC.keep (Keep.weaken fun b hb=>by obtain⟨id,v,blk,hh,_⟩:=hb;simp at hh) _ _ q1,q2,q3,q4⟩⟩
 |.own ..,y,u,hv,hr|.tuple ..,y,u,hv,hr|.bq ..,y,u,hv,hr|.nS ..,y,u,hv,hr|.lF ..,y,u,hv,hr|.undef,y,u,hv,hr|.rM ..,y,u,hv,hr=>by simp[view]at hv
 |.bool _,y,u,hv,hr|.int _ _,y,u,hv,hr|.str _,y,u,hv,hr|.yX,y,u,hv,hr|.zB,y,u,hv,hr|.bO,y,u,hv,hr|.eY _ _,y,u,hv,hr|.fT _ _,y,u,hv,hr|.nilPtr,y,u,hv,hr|.iE _,y,u,hv,hr=>by
  simp only[view,dz]at hv;subst hv;simp only[R]at hr⊢;exact RC.keep (Keep.weaken fun b hb=>by obtain⟨id,v,blk,hh,_⟩:=hb;simp at hh) _ _ hr
theorem aoi{w:World}{m:Map}{h:Heap}(hi:Inv w m h):∀(xs ys:List AV) (us:List Value),TW h xs=some ys->RL w (Live m h) m h xs us->RL w (Live [] []) [] [] ys us
 |[],ys,us,hv,hr=>by
  simp only[TW,dz]at hv;subst hv
  simpa[RL]using hr
 |x::xs,ys,us,hv,hr=>by
  simp only[TW,bE,mE]at hv;obtain⟨y,h1,ys',h2,rfl⟩:=hv;simp only[RL]at hr⊢;obtain⟨u,vw,rfl,r1,r2⟩:=hr;exact⟨u,vw,rfl,aGZ hi x y u h1 r1,aoi hi xs ys' vw h2 r2⟩
end
mutual
theorem azU{w w':World}{X X':Nat->Prop}{m m':Map}{h h':Heap}:∀(x:AV) (u:Value),x.flat=true->R w X m h x u->R w' X' m' h' x u
 |.agg cs,u,hf,hr=>by
  simp only[AV.flat]at hf;simp only[R]at hr⊢;obtain⟨vs,rfl,h2,h3⟩:=hr
  exact⟨vs,rfl,h2,azV cs vs hf h3⟩
 |.bool _,u,hf,hr|.int _ _,u,hf,hr|.str _,u,hf,hr|.yX,u,hf,hr|.zB,u,hf,hr|.bO,u,hf,hr|.nilPtr,u,hf,hr=>by simpa[R,RC]using hr
 |.own ..,u,hf,hr|.tuple ..,u,hf,hr|.bq ..,u,hf,hr|.nS ..,u,hf,hr|.lF ..,u,hf,hr|.undef,u,hf,hr|.rM ..,u,hf,hr|.fn ..,u,hf,hr|.ref ..,u,hf,hr|.eY ..,u,hf,hr|.fT ..,u,hf,hr|.iE _,u,hf,hr=>by simp[AV.flat]at hf
theorem azV{w w':World}{X X':Nat->Prop}{m m':Map}{h h':Heap}:∀(xs:List AV) (us:List Value),AV.abZ xs=true->RL w X m h xs us->RL w' X' m' h' xs us
 |[],us,hf,hr=>by simpa[RL]using hr
 |x::xs,us,hf,hr=>by
  simp only[AV.abZ,fw]at hf;simp only[RL]at hr⊢;obtain⟨u,vw,rfl,r1,r2⟩:=hr;exact⟨u,vw,rfl,azU x u hf.1 r1,azV xs vw hf.2 r2⟩
end
mutual
theorem azW{w w':World}{X X':Nat->Prop}:∀(x:AV) (u:Value),x.flat=true->RC w X x u->RC w' X' x u
 |.agg cs,u,hf,hr=>by
  simp only[AV.flat]at hf;simp only[RC]at hr⊢;obtain⟨vs,rfl,h2,h3⟩:=hr
  exact⟨vs,rfl,h2,azX cs vs hf h3⟩
 |.bool _,u,hf,hr|.int _ _,u,hf,hr|.str _,u,hf,hr|.yX,u,hf,hr|.zB,u,hf,hr|.bO,u,hf,hr|.nilPtr,u,hf,hr=>by simpa[RC]using hr
 |.own ..,u,hf,hr|.tuple ..,u,hf,hr|.bq ..,u,hf,hr|.nS ..,u,hf,hr|.lF ..,u,hf,hr|.undef,u,hf,hr|.rM ..,u,hf,hr|.fn ..,u,hf,hr|.ref ..,u,hf,hr|.eY ..,u,hf,hr|.fT ..,u,hf,hr|.iE _,u,hf,hr=>by simp[AV.flat]at hf
theorem azX{w w':World}{X X':Nat->Prop}:∀(xs:List AV) (us:List Value),AV.abZ xs=true->o9 w X xs us->o9 w' X' xs us
 |[],us,hf,hr=>by simpa[o9]using hr
 |x::xs,us,hf,hr=>by
  simp only[AV.abZ,fw]at hf;simp only[o9]at hr⊢;obtain⟨u,vw,rfl,r1,r2⟩:=hr;exact⟨u,vw,rfl,azW x u hf.1 r1,azX xs vw hf.2 r2⟩
end
theorem aG0{es:List AV}(h:AV.abZ es=true):∀ e∈es,e.flat=true:=by
 induction es with
 |nil=>simp
 |cons e es ih =>
  simp only[AV.abZ,fw]at h;intro x hx;rcases A9.mp hx with rfl|hx
  ·exact h.1
  ·exact ih h.2 x hx
theorem azY{w:World}{X X':Nat->Prop}{m m':Map}{h h':Heap}{B:List Nat}{x:AV}{u:Value}(hf:x.ajM=true)(hg:Dj w X m h B x u):Dj w X' m' h' B x u:=by
 unfold Dj at hg⊢;split at hg
 ·rename_i z es;simp only[AV.ajM]at hf;refine hg.imp (fun h=>h) ?_;rintro⟨h1,b,h2,cap,c,ty,q1,q2,q3,q4,q5,q6⟩;refine⟨h1,b,h2,cap,c,ty,q1,q2,q3,q4,q5,q6.1,fun i e he=>?_⟩;obtain⟨v,k1,k2,k3,k4⟩:=q6.2 i e he;exact⟨v,azW e v (aG0 hf e (ab5 he)) k1,k2,k3,k4⟩
 ·rename_i hne;have hf':x.flat=true:=by cases x<;>first|exact hf|exact absurd rfl (hne _ _)
  exact⟨hg.1,azU x u hf' hg.2⟩
theorem azZ{w:World}{X X':Nat->Prop}{m m':Map}{h h':Heap}:∀{cs:List AV} {B:List Nat} {us:List Value},cs.all AV.ajM=true->xU w X m h B cs us->xU w X' m' h' B cs us
 |[],B,us,hf,hg=>by simpa only[xU]using hg
 |c::cs,B,us,hf,hg=>by
  simp only[YL,fw]at hf;simp only[xU]at hg⊢;obtain⟨B1,B2,u,vw,rfl,rfl,g1,g2⟩:=hg;exact⟨B1,B2,u,vw,rfl,rfl,azY hf.1 g1,azZ hf.2 g2⟩
theorem aG1{w:World}{X X':Nat->Prop}{m m':Map}{h h':Heap}{B:List Nat}{x:AV}{u:Value}(hf:x.anj=true)(hg:RD w X m h B x u):RD w X' m' h' B x u:=by
 unfold RD at hg⊢;split at hg
 ·rename_i cs;obtain⟨us,rfl,hl⟩:=hg;exact⟨us,rfl,azZ (by simpa only[AV.anj]using hf) hl⟩
 ·rename_i hne;have hf':x.ajM=true:=by cases x<;>first|exact hf|exact absurd rfl (hne _)
  exact azY hf' hg
theorem az0(b:Nat):¬ Live [] [] b:=by rintro⟨id,v,blk,h,_⟩;simp at h
theorem az1{w0:World}{X:Nat->Prop}(hg:Y2 w0 X):Inv w0 [] []:=⟨rfl,fun id v blk h=>by simp at h,fun id v d st h=>by simp at h,fun id id' v v' blk qN b h=>by simp at h,hg.keep (Keep.weaken fun b hb=>absurd hb (az0 b))⟩
theorem az2{n:Nat}(hc:Rk P eB call)(hlw:Y8 call)(hrd:aj9 P eB qR)(hm:P.follows .mixedOrders=true){f:Nat}{x:gH}(hk:ai2 P eB qR f x=true){b:Bool}{args:List AV}{h:Heap}{lo:Nat}{r:AV}{h':Heap}
  (he:L6 x (fun cx=>exec call cx n) b args h lo=some (r,h')):(eB f=true->h'=h)/\Enters P f/\∀(w:World) (m:Map) (vs:List Value),Inv w m h->RL w (Live m h) m h args vs->lo<=h.length ->
   Calls P f vs.toArray w fun e w'=>∃ u m',e=.returned u/\Step lo w m h w' m' h'/\Inv w' m' h'/\ZE w w' m' h' r u:=by
 unfold L6 at he;split at he
 ·obtain⟨ys,h1,h2⟩:=bE.mp he;obtain⟨⟨r1,h3⟩,h4,h5⟩:=bE.mp h2;dsimp only at h5;split at h5
  ·rename_i hf;simp only[dz,bf]at h5;obtain⟨rfl,rfl⟩:=h5;obtain⟨_,k2,k3⟩:=azH hc hlw hrd hm hk h4;refine⟨fun _=>rfl,k2,fun w m vs hi hl hlo=>?_⟩;refine(k3 w [] vs (az1 hi.CX) (aoi hi _ _ _ h1 hl) (iJ _)).mono ?_;rintro e w' ⟨u,m',rfl,s1,i1,B,b1,b2,b3,b4⟩;have hbel:RowKit.Below w.heap.size w w':=⟨s1.os,s1.tape,s1.output,s1.keep.size,fun q hq=>s1.old q hq (az0 q)⟩;have hlive:∀ b,Live m h b->b<w.heap.size:=fun b ⟨id,v,blk,q1,q2,q3⟩=>hi.lt q1 q2 q3;have hkeep:Keep w (Live m h) w' (fun b=>Live m h b\/b∈B):=⟨hbel.size,fun hlt _=>World.cell?_of_block (hbel.block _ hlt),fun b hb=>hb.imp (fun h=>h) fun hB=>(b2 b hB).1⟩;have hst:=abq (lo:=lo) hi hbel;refine⟨u,m,rfl,hst,ab3 hi hbel,B,b1,fun b hb=>⟨(b2 b hb).1,fun hl=>by have:=hlive b hl;have:=(b2 b hb).1;omega⟩,⟨ab3 hi hbel,fun b hb=>.inl hb, ?_, ?_⟩,aG1 hf b4⟩
   ·intro id ak blk hid hmem;obtain⟨b,c,ty,e1,e2,e3⟩:=hi.blk id ak blk hid hmem;exact⟨b,c,ty,e1,(hbel.block b (hi.lt hid (aU.ajP hmem) e1)).trans e2,e3.ids hst.ids hkeep⟩
   ·intro id ak d st hid;obtain⟨b,o,e1,e2,e3⟩:=hi.aV id ak d st hid;exact⟨b,o,e1,(hbel.block b (hi.lt hid (by simp) e1)).trans e2,e3.ids hst.ids hkeep (iJ _)⟩
  ·cases h5
 ·exact azH hc hlw hrd hm hk he
end
end Go.VI
