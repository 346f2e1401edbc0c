/- Calls of functions that are lent what they read. -/
import Derived.Test.YtfpoegnmeoghpaaGreatDoorVITA
set_option linter.unusedVariables false
set_option linter.unusedSimpArgs false
namespace Go.VI
set_option linter.unusedSectionVars false
section
variable [dH][Rounds]{P:Program}{aZ:Nat->Bool}{iq:Nat->Option l6}{call:Callee}
mutual
theorem aib{w:World}{m:Map}{h:Heap}(hi:Inv w m h):∀(x y:AV) (u:Value),view h x=some y->R w (Live m h) m h x u->R w (Live [] []) [] [] y u
 |.agg cs,y,u,hv,hr=>by
  simp only[view,mE]at hv;obtain⟨cs',h1,rfl⟩:=hv;simp only[R]at hr⊢;obtain⟨vs,rfl,h2,h3⟩:=hr
  exact⟨vs,rfl,h2,OA hi cs cs' vs h1 h3⟩
 |.fn f cs,y,u,hv,hr=>by
  simp only[view,mE]at hv;obtain⟨cs',h1,rfl⟩:=hv;simp only[R]at hr⊢;obtain⟨vs,rfl,h2⟩:=hr
  exact⟨vs,rfl,OA hi cs cs' vs h1 h2⟩
 |.ref id ai z off len fill,y,u,hv,hr=>by
  simp only[view,mE]at hv;obtain⟨es,h1,rfl⟩:=hv;obtain⟨a,cap,rfl,h2,h3⟩:=Nu (z:=z) hi hr h1 (by simp[jd])
  simp only[R,RC];refine⟨a,cap,rfl,h2, ?_⟩;rcases h3 with h3|⟨b,o,e1,e2,e3,e4⟩
  ·exact .inl h3
  ·exact .inr ⟨b,o,e1,e2,fun hl=>by obtain ⟨id,v,blk,hh,_⟩:=hl; simp at hh,e3,Ca es b o fun i e he=>by
   obtain⟨v,q1,q2,q3,q4⟩:=EN es b o e4 i e he
   exact⟨v,RC.keep (Keep.weaken fun b hb=>by obtain⟨id,v,blk,hh,_⟩:=hb;simp at hh) _ _ q1,q2,q3,q4⟩⟩
 |.own ..,y,u,hv,hr|.tuple ..,y,u,hv,hr|.aF ..,y,u,hv,hr|.gu ..,y,u,hv,hr|.dY ..,y,u,hv,hr|.undef,y,u,hv,hr|.iG ..,y,u,hv,hr=>by simp[view]at hv
 |.bool _,y,u,hv,hr|.int _ _,y,u,hv,hr|.str _,y,u,hv,hr|.jR,y,u,hv,hr|.j6,y,u,hv,hr|.aP,y,u,hv,hr|.aW _ _,y,u,hv,hr|.bF _ _,y,u,hv,hr|.nilPtr,y,u,hv,hr|.bR _,y,u,hv,hr=>by
  simp only[view,aS]at hv;subst hv;simp only[R]at hr⊢;exact RC.keep (Keep.weaken fun b hb=>by obtain⟨id,v,blk,hh,_⟩:=hb;simp at hh) _ _ hr
theorem OA{w:World}{m:Map}{h:Heap}(hi:Inv w m h):∀(xs ys:List AV) (us:List Value),wZ h xs=some ys->RL w (Live m h) m h xs us->RL w (Live [] []) [] [] ys us
 |[],ys,us,hv,hr=>by
  simp only[wZ,aS]at hv;subst hv
  simpa[RL]using hr
 |x::xs,ys,us,hv,hr=>by
  simp only[wZ,bE,mE]at hv;obtain⟨y,h1,ys',h2,rfl⟩:=hv;simp only[RL]at hr⊢;obtain⟨u,jg,rfl,r1,r2⟩:=hr;exact⟨u,jg,rfl,aib hi x y u h1 r1,OA hi xs ys' jg h2 r2⟩
end
mutual
theorem aax{w w':World}{X X':Nat->Prop}{m m':Map}{h h':Heap}:∀(x:AV) (u:Value),x.flat=true->R w X m h x u->R w' X' m' h' x u
 |.agg cs,u,hf,hr=>by
  simp only[AV.flat]at hf;simp only[R]at hr⊢;obtain⟨vs,rfl,h2,h3⟩:=hr
  exact⟨vs,rfl,h2,aay cs vs hf h3⟩
 |.bool _,u,hf,hr|.int _ _,u,hf,hr|.str _,u,hf,hr|.jR,u,hf,hr|.j6,u,hf,hr|.aP,u,hf,hr|.nilPtr,u,hf,hr=>by simpa[R,RC]using hr
 |.own ..,u,hf,hr|.tuple ..,u,hf,hr|.aF ..,u,hf,hr|.gu ..,u,hf,hr|.dY ..,u,hf,hr|.undef,u,hf,hr|.iG ..,u,hf,hr|.fn ..,u,hf,hr|.ref ..,u,hf,hr|.aW ..,u,hf,hr|.bF ..,u,hf,hr|.bR _,u,hf,hr=>by simp[AV.flat]at hf
theorem aay{w w':World}{X X':Nat->Prop}{m m':Map}{h h':Heap}:∀(xs:List AV) (us:List Value),AV.BS xs=true->RL w X m h xs us->RL w' X' m' h' xs us
 |[],us,hf,hr=>by simpa[RL]using hr
 |x::xs,us,hf,hr=>by
  simp only[AV.BS,bM]at hf;simp only[RL]at hr⊢;obtain⟨u,jg,rfl,r1,r2⟩:=hr;exact⟨u,jg,rfl,aax x u hf.1 r1,aay xs jg hf.2 r2⟩
end
mutual
theorem aaz{w w':World}{X X':Nat->Prop}:∀(x:AV) (u:Value),x.flat=true->RC w X x u->RC w' X' x u
 |.agg cs,u,hf,hr=>by
  simp only[AV.flat]at hf;simp only[RC]at hr⊢;obtain⟨vs,rfl,h2,h3⟩:=hr
  exact⟨vs,rfl,h2,aaA cs vs hf h3⟩
 |.bool _,u,hf,hr|.int _ _,u,hf,hr|.str _,u,hf,hr|.jR,u,hf,hr|.j6,u,hf,hr|.aP,u,hf,hr|.nilPtr,u,hf,hr=>by simpa[RC]using hr
 |.own ..,u,hf,hr|.tuple ..,u,hf,hr|.aF ..,u,hf,hr|.gu ..,u,hf,hr|.dY ..,u,hf,hr|.undef,u,hf,hr|.iG ..,u,hf,hr|.fn ..,u,hf,hr|.ref ..,u,hf,hr|.aW ..,u,hf,hr|.bF ..,u,hf,hr|.bR _,u,hf,hr=>by simp[AV.flat]at hf
theorem aaA{w w':World}{X X':Nat->Prop}:∀(xs:List AV) (us:List Value),AV.BS xs=true->gQ w X xs us->gQ w' X' xs us
 |[],us,hf,hr=>by simpa[gQ]using hr
 |x::xs,us,hf,hr=>by
  simp only[AV.BS,bM]at hf;simp only[gQ]at hr⊢;obtain⟨u,jg,rfl,r1,r2⟩:=hr;exact⟨u,jg,rfl,aaz x u hf.1 r1,aaA xs jg hf.2 r2⟩
end
theorem ait{es:List AV}(h:AV.BS es=true):∀ e∈es,e.flat=true:=by
 induction es with
 |nil=>simp
 |cons e es ih =>
  simp only[AV.BS,bM]at h;intro x hx;rcases ko.mp hx with rfl|hx
  ·exact h.1
  ·exact ih h.2 x hx
theorem aaB{w:World}{X X':Nat->Prop}{m m':Map}{h h':Heap}{B:List Nat}{x:AV}{u:Value}(hf:x.Gn=true)(hg:lI w X m h B x u):lI w X' m' h' B x u:=by
 unfold lI at hg⊢;split at hg
 ·rename_i z es;simp only[AV.Gn]at hf;refine hg.imp (fun h=>h) ?_;rintro⟨h1,b,h2,cap,c,ty,q1,q2,q3,q4,q5,q6⟩;refine⟨h1,b,h2,cap,c,ty,q1,q2,q3,q4,q5,q6.1,fun i e he=>?_⟩;obtain⟨v,k1,k2,k3,k4⟩:=q6.2 i e he;exact⟨v,aaz e v (ait hf e (Cb he)) k1,k2,k3,k4⟩
 ·rename_i hne;have hf':x.flat=true:=by cases x<;>first|exact hf|exact absurd rfl (hne _ _)
  exact⟨hg.1,aax x u hf' hg.2⟩
theorem aaC{w:World}{X X':Nat->Prop}{m m':Map}{h h':Heap}:∀{cs:List AV} {B:List Nat} {us:List Value},cs.all AV.Gn=true->jH w X m h B cs us->jH w X' m' h' B cs us
 |[],B,us,hf,hg=>by simpa only[jH]using hg
 |c::cs,B,us,hf,hg=>by
  simp only[vY,bM]at hf;simp only[jH]at hg⊢;obtain⟨B1,B2,u,jg,rfl,rfl,g1,g2⟩:=hg;exact⟨B1,B2,u,jg,rfl,rfl,aaB hf.1 g1,aaC hf.2 g2⟩
theorem aiu{w:World}{X X':Nat->Prop}{m m':Map}{h h':Heap}{B:List Nat}{x:AV}{u:Value}(hf:x.Nj=true)(hg:uL w X m h B x u):uL w X' m' h' B x u:=by
 unfold uL at hg⊢;split at hg
 ·rename_i cs;obtain⟨us,rfl,hl⟩:=hg;exact⟨us,rfl,aaC (by simpa only[AV.Nj]using hf) hl⟩
 ·rename_i hne;have hf':x.Gn=true:=by cases x<;>first|exact hf|exact absurd rfl (hne _)
  exact aaB hf' hg
theorem aaD(b:Nat):¬ Live [] [] b:=by rintro⟨id,v,blk,h,_⟩;simp at h
theorem aaE{w0:World}{X:Nat->Prop}(hg:yx w0 X):Inv w0 [] []:=⟨rfl,fun id v blk h=>by simp at h,fun id v d st h=>by simp at h,fun id id' v v' blk gX b h=>by simp at h,hg.keep (Keep.weaken fun b hb=>absurd hb (aaD b))⟩
theorem aaF{n:Nat}(hc:sV P aZ call)(Ow:zM call)(hrd:GQ P aZ iq)(hm:P.follows .mixedOrders=true){f:Nat}{x:bJ}(hk:EZ P aZ iq f x=true){b:Bool}{args:List AV}{h:Heap}{lo:Nat}{r:AV}{h':Heap}
  (he:qV x (fun cx=>exec call cx n) b args h lo=some (r,h')):(aZ f=true->h'=h)/\Enters P f/\∀(w:World) (m:Map) (vs:List Value),Inv w m h->RL w (Live m h) m h args vs->lo<=h.length ->
   Calls P f vs.toArray w fun e w'=>∃ u m',e=.returned u/\Step lo w m h w' m' h'/\Inv w' m' h'/\zI w w' m' h' r u:=by
 unfold qV at he;split at he
 ·obtain⟨ys,h1,h2⟩:=bE.mp he;obtain⟨⟨r1,h3⟩,h4,h5⟩:=bE.mp h2;dsimp only at h5;split at h5
  ·rename_i hf;simp only[aS,aB]at h5;obtain⟨rfl,rfl⟩:=h5;obtain⟨_,k2,k3⟩:=aak hc Ow hrd hm hk h4;refine⟨fun _=>rfl,k2,fun w m vs hi hl hlo=>?_⟩;refine(k3 w [] vs (aaE hi.kI) (OA hi _ _ _ h1 hl) (bC _)).mono ?_;rintro e w' ⟨u,m',rfl,s1,i1,B,b1,b2,b3,b4⟩;have hbel:RowKit.Below w.heap.size w w':=⟨s1.os,s1.tape,s1.output,s1.keep.size,fun q hq=>s1.old q hq (aaD q)⟩;have hlive:∀ b,Live m h b->b<w.heap.size:=fun b ⟨id,v,blk,q1,q2,q3⟩=>hi.lt q1 q2 q3;have hkeep:Keep w (Live m h) w' (fun b=>Live m h b\/b∈B):=⟨hbel.size,fun hlt _=>World.cell?_of_block (hbel.block _ hlt),fun b hb=>hb.imp (fun h=>h) fun hB=>(b2 b hB).1⟩;have hst:=Ay (lo:=lo) hi hbel;refine⟨u,m,rfl,hst,BZ hi hbel,B,b1,fun b hb=>⟨(b2 b hb).1,fun hl=>by have:=hlive b hl;have:=(b2 b hb).1;omega⟩,⟨BZ hi hbel,fun b hb=>.inl hb, ?_, ?_⟩,aiu hf b4⟩
   ·intro id ai blk hid hmem;obtain⟨b,c,ty,e1,e2,e3⟩:=hi.blk id ai blk hid hmem;exact⟨b,c,ty,e1,(hbel.block b (hi.lt hid (au.Gr hmem) e1)).trans e2,e3.ids hst.ids hkeep⟩
   ·intro id ai d st hid;obtain⟨b,o,e1,e2,e3⟩:=hi.ax id ai d st hid;exact⟨b,o,e1,(hbel.block b (hi.lt hid (by simp) e1)).trans e2,e3.ids hst.ids hkeep (bC _)⟩
  ·cases h5
 ·exact aak hc Ow hrd hm hk he
end
end Go.VI
