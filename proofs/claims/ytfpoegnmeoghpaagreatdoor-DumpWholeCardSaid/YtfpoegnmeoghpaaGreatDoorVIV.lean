/- Calls of functions that are lent what they read. -/
import Derived.Test.YtfpoegnmeoghpaaGreatDoorVITA
set_option linter.unusedVariables false
set_option linter.unusedSimpArgs false
namespace Go.VI
set_option linter.unusedSectionVars false
section
variable [Globs] [Rounds] {P : Program} {clo : Nat → Bool} {rds : Nat → Option XRnd} {call : Callee}
mutual
theorem view_ok {w : World} {m : Map} {h : Heap} (hi : Inv w m h) : ∀ (x y : AV) (u : Value),view h x = some y → R w (Live m h) m h x u → R w (Live [] []) [] [] y u
 | .agg cs,y,u,hv,hr => by
  simp only [view,mE] at hv
  obtain ⟨cs',h1,rfl⟩ := hv
  simp only [R] at hr ⊢
  obtain ⟨vs,rfl,h2,h3⟩ := hr
  exact ⟨vs,rfl,h2,viewL_ok hi cs cs' vs h1 h3⟩
 | .fn f cs,y,u,hv,hr => by
  simp only [view,mE] at hv
  obtain ⟨cs',h1,rfl⟩ := hv
  simp only [R] at hr ⊢
  obtain ⟨vs,rfl,h2⟩ := hr
  exact ⟨vs,rfl,viewL_ok hi cs cs' vs h1 h2⟩
 | .ref id ver z off len fill,y,u,hv,hr => by
  simp only [view,mE] at hv
  obtain ⟨es,h1,rfl⟩ := hv
  obtain ⟨a,cap,rfl,h2,h3⟩ := slice_mem (z := z) hi hr h1 (by simp [zok])
  simp only [R,RC]
  refine ⟨a,cap,rfl,h2, ?_⟩
  rcases h3 with h3 | ⟨b,o,e1,e2,e3,e4⟩
  ·exact .inl h3
  ·exact .inr ⟨b,o,e1,e2,fun hl => by obtain ⟨id,v,blk,hh,_⟩ := hl; simp at hh,e3,RCE_of es b o fun i e he => by
   obtain ⟨v,q1,q2,q3,q4⟩ := RCE_get es b o e4 i e he
   exact ⟨v,RC.keep (Keep.weaken fun b hb => by obtain ⟨id,v,blk,hh,_⟩ := hb; simp at hh) _ _ q1,q2,q3,q4⟩⟩
 | .own ..,y,u,hv,hr | .tuple ..,y,u,hv,hr | .bptr ..,y,u,hv,hr | .iptr ..,y,u,hv,hr | .yld ..,y,u,hv,hr | .undef,y,u,hv,hr | .ifc ..,y,u,hv,hr => by simp [view] at hv
 | .bool _,y,u,hv,hr | .int _ _,y,u,hv,hr | .str _,y,u,hv,hr | .nilFn,y,u,hv,hr | .nilIf,y,u,hv,hr | .nilSl,y,u,hv,hr | .lst _ _,y,u,hv,hr | .lsf _ _,y,u,hv,hr | .nilPtr,y,u,hv,hr | .cptr _,y,u,hv,hr => by
  simp only [view,Option.some.injEq] at hv
  subst hv
  simp only [R] at hr ⊢
  exact RC.keep (Keep.weaken fun b hb => by obtain ⟨id,v,blk,hh,_⟩ := hb; simp at hh) _ _ hr
theorem viewL_ok {w : World} {m : Map} {h : Heap} (hi : Inv w m h) : ∀ (xs ys : List AV) (us : List Value),viewL h xs = some ys → RL w (Live m h) m h xs us → RL w (Live [] []) [] [] ys us
 | [],ys,us,hv,hr => by
  simp only [viewL,Option.some.injEq] at hv
  subst hv
  simpa [RL] using hr
 | x :: xs,ys,us,hv,hr => by
  simp only [viewL,bE,mE] at hv
  obtain ⟨y,h1,ys',h2,rfl⟩ := hv
  simp only [RL] at hr ⊢
  obtain ⟨u,us',rfl,r1,r2⟩ := hr
  exact ⟨u,us',rfl,view_ok hi x y u h1 r1,viewL_ok hi xs ys' us' h2 r2⟩
end
mutual
theorem flat_R {w w' : World} {X X' : Nat → Prop} {m m' : Map} {h h' : Heap} : ∀ (x : AV) (u : Value),x.flat = true → R w X m h x u → R w' X' m' h' x u
 | .agg cs,u,hf,hr => by
  simp only [AV.flat] at hf
  simp only [R] at hr ⊢
  obtain ⟨vs,rfl,h2,h3⟩ := hr
  exact ⟨vs,rfl,h2,flatL_R cs vs hf h3⟩
 | .bool _,u,hf,hr | .int _ _,u,hf,hr | .str _,u,hf,hr | .nilFn,u,hf,hr | .nilIf,u,hf,hr | .nilSl,u,hf,hr | .nilPtr,u,hf,hr => by simpa [R,RC] using hr
 | .own ..,u,hf,hr | .tuple ..,u,hf,hr | .bptr ..,u,hf,hr | .iptr ..,u,hf,hr | .yld ..,u,hf,hr | .undef,u,hf,hr | .ifc ..,u,hf,hr | .fn ..,u,hf,hr | .ref ..,u,hf,hr | .lst ..,u,hf,hr | .lsf ..,u,hf,hr | .cptr _,u,hf,hr => by simp [AV.flat] at hf
theorem flatL_R {w w' : World} {X X' : Nat → Prop} {m m' : Map} {h h' : Heap} : ∀ (xs : List AV) (us : List Value),AV.flatL xs = true → RL w X m h xs us → RL w' X' m' h' xs us
 | [],us,hf,hr => by simpa [RL] using hr
 | x :: xs,us,hf,hr => by
  simp only [AV.flatL,Bool.and_eq_true] at hf
  simp only [RL] at hr ⊢
  obtain ⟨u,us',rfl,r1,r2⟩ := hr
  exact ⟨u,us',rfl,flat_R x u hf.1 r1,flatL_R xs us' hf.2 r2⟩
end
mutual
theorem flat_RC {w w' : World} {X X' : Nat → Prop} : ∀ (x : AV) (u : Value),x.flat = true → RC w X x u → RC w' X' x u
 | .agg cs,u,hf,hr => by
  simp only [AV.flat] at hf
  simp only [RC] at hr ⊢
  obtain ⟨vs,rfl,h2,h3⟩ := hr
  exact ⟨vs,rfl,h2,flatL_RC cs vs hf h3⟩
 | .bool _,u,hf,hr | .int _ _,u,hf,hr | .str _,u,hf,hr | .nilFn,u,hf,hr | .nilIf,u,hf,hr | .nilSl,u,hf,hr | .nilPtr,u,hf,hr => by simpa [RC] using hr
 | .own ..,u,hf,hr | .tuple ..,u,hf,hr | .bptr ..,u,hf,hr | .iptr ..,u,hf,hr | .yld ..,u,hf,hr | .undef,u,hf,hr | .ifc ..,u,hf,hr | .fn ..,u,hf,hr | .ref ..,u,hf,hr | .lst ..,u,hf,hr | .lsf ..,u,hf,hr | .cptr _,u,hf,hr => by simp [AV.flat] at hf
theorem flatL_RC {w w' : World} {X X' : Nat → Prop} : ∀ (xs : List AV) (us : List Value),AV.flatL xs = true → RCL w X xs us → RCL w' X' xs us
 | [],us,hf,hr => by simpa [RCL] using hr
 | x :: xs,us,hf,hr => by
  simp only [AV.flatL,Bool.and_eq_true] at hf
  simp only [RCL] at hr ⊢
  obtain ⟨u,us',rfl,r1,r2⟩ := hr
  exact ⟨u,us',rfl,flat_RC x u hf.1 r1,flatL_RC xs us' hf.2 r2⟩
end
theorem flatL_mem {es : List AV} (h : AV.flatL es = true) : ∀ e ∈ es,e.flat = true := by
 induction es with
 | nil => simp
 | cons e es ih =>
  simp only [AV.flatL,Bool.and_eq_true] at h
  intro x hx
  rcases List.mem_cons.mp hx with rfl | hx
  ·exact h.1
  ·exact ih h.2 x hx
theorem flat1_give {w : World} {X X' : Nat → Prop} {m m' : Map} {h h' : Heap} {B : List Nat} {x : AV} {u : Value} (hf : x.flat1 = true) (hg : GiveR w X m h B x u) : GiveR w X' m' h' B x u := by
 unfold GiveR at hg ⊢
 split at hg
 ·rename_i z es
  simp only [AV.flat1] at hf
  refine hg.imp (fun h => h) ?_
  rintro ⟨h1,b,h2,cap,c,ty,q1,q2,q3,q4,q5,q6⟩
  refine ⟨h1,b,h2,cap,c,ty,q1,q2,q3,q4,q5,q6.1,fun i e he => ?_⟩
  obtain ⟨v,k1,k2,k3,k4⟩ := q6.2 i e he
  exact ⟨v,flat_RC e v (flatL_mem hf e (List.mem_of_getElem? he)) k1,k2,k3,k4⟩
 ·rename_i hne
  have hf' : x.flat = true := by cases x <;> first | exact hf | exact absurd rfl (hne _ _)
  exact ⟨hg.1,flat_R x u hf' hg.2⟩
theorem flatL_give {w : World} {X X' : Nat → Prop} {m m' : Map} {h h' : Heap} : ∀ {cs : List AV} {B : List Nat} {us : List Value},cs.all AV.flat1 = true → GiveL w X m h B cs us → GiveL w X' m' h' B cs us
 | [],B,us,hf,hg => by simpa only [GiveL] using hg
 | c :: cs,B,us,hf,hg => by
  simp only [List.all_cons,Bool.and_eq_true] at hf
  simp only [GiveL] at hg ⊢
  obtain ⟨B1,B2,u,us',rfl,rfl,g1,g2⟩ := hg
  exact ⟨B1,B2,u,us',rfl,rfl,flat1_give hf.1 g1,flatL_give hf.2 g2⟩
theorem flatR_give {w : World} {X X' : Nat → Prop} {m m' : Map} {h h' : Heap} {B : List Nat} {x : AV} {u : Value} (hf : x.flatR = true) (hg : GiveV w X m h B x u) : GiveV w X' m' h' B x u := by
 unfold GiveV at hg ⊢
 split at hg
 ·rename_i cs
  obtain ⟨us,rfl,hl⟩ := hg
  exact ⟨us,rfl,flatL_give (by simpa only [AV.flatR] using hf) hl⟩
 ·rename_i hne
  have hf' : x.flat1 = true := by cases x <;> first | exact hf | exact absurd rfl (hne _)
  exact flat1_give hf' hg
theorem not_live (b : Nat) : ¬ Live [] [] b := by rintro ⟨id,v,blk,h,_⟩; simp at h
theorem lent_inv {w0 : World} {X : Nat → Prop} (hg : GlobOk w0 X) : Inv w0 [] [] := ⟨rfl,fun id v blk h => by simp at h,fun id v d st h => by simp at h,fun id id' v v' blk blk' b h => by simp at h,hg.keep (Keep.weaken fun b hb => absurd hb (not_live b))⟩
theorem enterB_ok {n : Nat} (hc : CallOk P clo call) (hlw : CallLow call) (hrd : RdsOk P clo rds) (hm : P.follows .mixedOrders = true) {f : Nat} {x : XFn} (hk : okFn P clo rds f x = true) {b : Bool} {args : List AV} {h : Heap} {lo : Nat} {r : AV} {h' : Heap}
  (he : enterB x (fun cx => exec call cx n) b args h lo = some (r,h')) : (clo f = true → h' = h) ∧ Enters P f ∧ ∀ (w : World) (m : Map) (vs : List Value),Inv w m h → RL w (Live m h) m h args vs → lo ≤ h.length →
   Calls P f vs.toArray w fun e w' => ∃ u m',e = .returned u ∧ Step lo w m h w' m' h' ∧ Inv w' m' h' ∧ Res w w' m' h' r u := by
 unfold enterB at he
 split at he
 ·obtain ⟨ys,h1,h2⟩ := bE.mp he
  obtain ⟨⟨r1,h3⟩,h4,h5⟩ := bE.mp h2
  dsimp only at h5
  split at h5
  ·rename_i hf
   simp only [Option.some.injEq,Prod.mk.injEq] at h5
   obtain ⟨rfl,rfl⟩ := h5
   obtain ⟨_,k2,k3⟩ := enter_ok hc hlw hrd hm hk h4
   refine ⟨fun _ => rfl,k2,fun w m vs hi hl hlo => ?_⟩
   refine (k3 w [] vs (lent_inv hi.glob) (viewL_ok hi _ _ _ h1 hl) (Nat.le_refl _)).mono ?_
   rintro e w' ⟨u,m',rfl,s1,i1,B,b1,b2,b3,b4⟩
   have hbel : RowKit.Below w.heap.size w w' := ⟨s1.os,s1.tape,s1.output,s1.keep.size,fun q hq => s1.old q hq (not_live q)⟩
   have hlive : ∀ b,Live m h b → b < w.heap.size := fun b ⟨id,v,blk,q1,q2,q3⟩ => hi.lt q1 q2 q3
   have hkeep : Keep w (Live m h) w' (fun b => Live m h b ∨ b ∈ B) := ⟨hbel.size,fun hlt _ => World.cell?_of_block (hbel.block _ hlt),fun b hb => hb.imp (fun h => h) fun hB => (b2 b hB).1⟩
   have hst := below_step (lo := lo) hi hbel
   refine ⟨u,m,rfl,hst,below_inv hi hbel,B,b1,fun b hb => ⟨(b2 b hb).1,fun hl => by have := hlive b hl; have := (b2 b hb).1; omega⟩,⟨below_inv hi hbel,fun b hb => .inl hb, ?_, ?_⟩,flatR_give hf b4⟩
   ·intro id ver blk hid hmem
    obtain ⟨b,c,ty,e1,e2,e3⟩ := hi.blk id ver blk hid hmem
    exact ⟨b,c,ty,e1,(hbel.block b (hi.lt hid (Blk.mem_live hmem) e1)).trans e2,e3.ids hst.ids hkeep⟩
   ·intro id ver d st hid
    obtain ⟨b,o,e1,e2,e3⟩ := hi.rcd id ver d st hid
    exact ⟨b,o,e1,(hbel.block b (hi.lt hid (by simp) e1)).trans e2,e3.ids hst.ids hkeep (Nat.le_refl _)⟩
  ·cases h5
 ·exact enter_ok hc hlw hrd hm hk he
end
end Go.VI
