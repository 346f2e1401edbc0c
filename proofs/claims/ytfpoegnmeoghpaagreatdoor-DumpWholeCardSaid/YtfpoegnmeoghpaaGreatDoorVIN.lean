/- Lists of operations, and regions in whatever order their edges allow. -/
import Derived.Test.YtfpoegnmeoghpaaGreatDoorVIM
set_option linter.unusedVariables false
set_option linter.unusedSimpArgs false
namespace Go.VI
set_option linter.unusedSectionVars false
variable [Globs] [Rounds]
theorem Env.get_set (e : Env) (d : Nat) (v : AV) (t : Nat) : (e.set d v).get t = if d = t then v else e.get t := rfl
theorem Env.get_put (e : Env) (d : Option Nat) (v : AV) (t : Nat) : (e.put d v).get t = if d = some t then v else e.get t := by
 cases d with
 | none => simp [Env.put]
 | some d => simp [Env.put,Env.get_set]
theorem Env.get_keep (ps : List Nat) (e : Env) (t : Nat) : (e.keep ps).get t = if ps.contains t then e.get t else .undef := by
 unfold Env.keep
 induction ps with
 | nil => simp [Env.get]
 | cons p r ih =>
  simp only [List.map_cons,Env.get,ih]
  by_cases h1 : p = t
  ·subst h1; simp
  ·rw [if_neg h1]
   by_cases h2 : r.contains t = true
   ·have h3 : (p :: r).contains t = true := by simp at h2 ⊢; exact .inr h2
    rw [if_pos h2,if_pos h3]
   ·have h3 : ¬ (p :: r).contains t = true := by simp at h2 ⊢; exact ⟨fun h => h1 h.symm,h2⟩
    rw [if_neg h2,if_neg h3]
def EnvEq (e e' : Env) : Prop := ∀ t,e.get t = e'.get t
def Opd.tmps : Opd → List Nat
 | .t i => [i]
 | .c _ => []
def optTmps : Option Opd → List Nat
 | none => []
 | some x => x.tmps
def XI.tmps : XI → List Nat
 | .mov x | .nchk x | .isnil _ x | .un _ x | .conv _ x | .len _ x | .ext x _ | .padd x _ | .fld x _ _ | .load _ x | .box _ x | .boxR x | .isnif _ x | .mkif _ x | .toStr x | .bstr _ x | .clr _ _ x | .pnc x => x.tmps
 | .pick c a b => c.tmps ++ a.tmps ++ b.tmps
 | .bin _ x y | .eqv _ _ x y | .ixA _ _ x y | .ixS _ x y | .ixV _ _ _ x y | .ixStr x y | .store _ x y | .copy _ x y | .mk _ _ _ _ x y | .app _ _ _ x y | .apz _ _ _ _ x y | .mget _ _ x y | .mdel x y | .bwr _ _ x y => x.tmps ++ y.tmps
 | .mput x k v => x.tmps ++ k.tmps ++ v.tmps
 | .lenA _ _ | .alloc .. | .mkmap .. | .mkbld .. => []
 | .minmax _ xs | .mkfn _ xs => xs.flatMap Opd.tmps
 | .build _ ps => ps.flatMap fun p => p.2.2.tmps
 | .bslice _ _ _ ps => ps.flatMap fun p => p.2.tmps
 | .slice _ x lo hi => x.tmps ++ optTmps lo ++ optTmps hi
 | .call f args _ => f.tmps ++ args.flatMap Opd.tmps
theorem Opd.ev_congr {e e' : Env} {x : Opd} (h : ∀ t ∈ x.tmps,e.get t = e'.get t) : x.ev e = x.ev e' := by
 cases x with
 | t i => exact h i (by simp [Opd.tmps])
 | c v => rfl
theorem evs_congr {e e' : Env} {xs : List Opd} (h : ∀ t ∈ xs.flatMap Opd.tmps,e.get t = e'.get t) : evs e xs = evs e' xs := by
 unfold evs
 refine List.map_congr_left fun x hx => Opd.ev_congr fun t ht => h t (List.mem_flatMap.mpr ⟨x,hx,ht⟩)
theorem opt_congr {e e' : Env} {x : Option Opd} (h : ∀ t ∈ optTmps x,e.get t = e'.get t) : x.map (·.ev e) = x.map (·.ev e') := by
 cases x with
 | none => rfl
 | some x => simp only [Option.map_some]; rw [Opd.ev_congr h]
theorem lay_congr {e e' : Env} : ∀ {ps : List (Nat × Nat × Opd)} {cs : List AV},(∀ t ∈ ps.flatMap (fun p => p.2.2.tmps),e.get t = e'.get t) → lay e ps cs = lay e' ps cs
 | [],_,_ => rfl
 | (off,n,x) :: ps,cs,h => by
  simp only [List.flatMap_cons,List.mem_append] at h
  simp only [lay]
  rw [Opd.ev_congr (x := x) (fun t ht => h t (.inl ht))]
  have : lay e ps = lay e' ps := funext fun cs => lay_congr fun t ht => h t (.inr ht)
  rw [this]
theorem setParts_congr {e e' : Env} {base z : Nat} : ∀ {ps : List (Nat × Opd)} {es : List AV} {h : Heap},(∀ t ∈ ps.flatMap (fun p => p.2.tmps),e.get t = e'.get t) → setParts e base z ps es h = setParts e' base z ps es h
 | [],_,_,_ => rfl
 | (i,x) :: ps,es,h,hh => by
  simp only [List.flatMap_cons,List.mem_append] at hh
  simp only [setParts]
  rw [Opd.ev_congr (x := x) (fun t ht => hh t (.inl ht))]
  congr 1
  funext p
  obtain ⟨v,h1⟩ := p
  dsimp only
  rw [setParts_congr fun t ht => hh t (.inr ht)]
theorem xi_congr {call : Callee} {cx : Cx} {e e' : Env} {h : Heap} {o : XI} (hh : ∀ t ∈ o.tmps,e.get t = e'.get t) : xi call cx e h o = xi call cx e' h o := by
 cases o <;> simp only [XI.tmps,List.mem_append] at hh <;> simp only [xi]
 case mov x => rw [Opd.ev_congr hh]
 case nchk x => rw [Opd.ev_congr hh]
 case isnil neg x => rw [Opd.ev_congr hh]
 case un o x => rw [Opd.ev_congr hh]
 case conv k x => rw [Opd.ev_congr hh]
 case len s x => rw [Opd.ev_congr hh]
 case ext x i => rw [Opd.ev_congr hh]
 case padd x k => rw [Opd.ev_congr hh]
 case fld x off sh => rw [Opd.ev_congr hh]
 case load sh x => rw [Opd.ev_congr hh]
 case box s x => rw [Opd.ev_congr hh]
 case boxR x => rw [Opd.ev_congr hh]
 case isnif neg x => rw [Opd.ev_congr hh]
 case mkif t x => rw [Opd.ev_congr hh]
 case toStr x => rw [Opd.ev_congr hh]
 case clr z zero x => rw [Opd.ev_congr hh]
 case bstr f x => rw [Opd.ev_congr hh]
 case mput c a b => rw [Opd.ev_congr (x := c) (fun t ht => hh t (.inl (.inl ht))),Opd.ev_congr (x := a) (fun t ht => hh t (.inl (.inr ht))),Opd.ev_congr (x := b) (fun t ht => hh t (.inr ht))]
 case mget z o x y => rw [Opd.ev_congr (x := x) (fun t ht => hh t (.inl ht)),Opd.ev_congr (x := y) (fun t ht => hh t (.inr ht))]
 case mdel x y => rw [Opd.ev_congr (x := x) (fun t ht => hh t (.inl ht)),Opd.ev_congr (x := y) (fun t ht => hh t (.inr ht))]
 case bwr s f x y => rw [Opd.ev_congr (x := x) (fun t ht => hh t (.inl ht)),Opd.ev_congr (x := y) (fun t ht => hh t (.inr ht))]
 case pick c a b => rw [Opd.ev_congr (x := c) (fun t ht => hh t (.inl (.inl ht))),Opd.ev_congr (x := a) (fun t ht => hh t (.inl (.inr ht))),Opd.ev_congr (x := b) (fun t ht => hh t (.inr ht))]
 case bin o x y => rw [Opd.ev_congr (x := x) (fun t ht => hh t (.inl ht)),Opd.ev_congr (x := y) (fun t ht => hh t (.inr ht))]
 case eqv o ks x y => rw [Opd.ev_congr (x := x) (fun t ht => hh t (.inl ht)),Opd.ev_congr (x := y) (fun t ht => hh t (.inr ht))]
 case ixA n s x y => rw [Opd.ev_congr (x := x) (fun t ht => hh t (.inl ht)),Opd.ev_congr (x := y) (fun t ht => hh t (.inr ht))]
 case ixS z x y => rw [Opd.ev_congr (x := x) (fun t ht => hh t (.inl ht)),Opd.ev_congr (x := y) (fun t ht => hh t (.inr ht))]
 case ixV n s sh x y => rw [Opd.ev_congr (x := x) (fun t ht => hh t (.inl ht)),Opd.ev_congr (x := y) (fun t ht => hh t (.inr ht))]
 case ixStr x y => rw [Opd.ev_congr (x := x) (fun t ht => hh t (.inl ht)),Opd.ev_congr (x := y) (fun t ht => hh t (.inr ht))]
 case store sz x y => rw [Opd.ev_congr (x := x) (fun t ht => hh t (.inl ht)),Opd.ev_congr (x := y) (fun t ht => hh t (.inr ht))]
 case copy z x y => rw [Opd.ev_congr (x := x) (fun t ht => hh t (.inl ht)),Opd.ev_congr (x := y) (fun t ht => hh t (.inr ht))]
 case mk s z zero lim x y => rw [Opd.ev_congr (x := x) (fun t ht => hh t (.inl ht)),Opd.ev_congr (x := y) (fun t ht => hh t (.inr ht))]
 case apz s z zero lim x y => rw [Opd.ev_congr (x := x) (fun t ht => hh t (.inl ht)),Opd.ev_congr (x := y) (fun t ht => hh t (.inr ht))]
 case app s z lim x y => rw [Opd.ev_congr (x := x) (fun t ht => hh t (.inl ht)),Opd.ev_congr (x := y) (fun t ht => hh t (.inr ht))]
 case minmax mx xs => rw [evs_congr hh]
 case mkfn f xs => rw [evs_congr hh]
 case build zero ps => rw [lay_congr hh]
 case bslice z zero n ps => rw [setParts_congr hh]
 case slice z x lo hi => rw [Opd.ev_congr (x := x) (fun t ht => hh t (.inl (.inl ht))),opt_congr (x := lo) (fun t ht => hh t (.inl (.inr ht))),opt_congr (x := hi) (fun t ht => hh t (.inr ht))]
 case call f args own => rw [Opd.ev_congr (x := f) (fun t ht => hh t (.inl ht)),evs_congr (xs := args) (fun t ht => hh t (.inr ht))]
def XOp.elem (x : XOp) (p : Opd) : Bool := match p with | .t t => x.chk.any (fun c => match c with | .elem t' => t == t' | _ => false) | _ => false
def XOp.boxp (x : XOp) (p : Opd) : Bool := match p with | .t t => x.chk.any (fun c => match c with | .box t' => t == t' | _ => false) | _ => false
def XOp.shut (x : XOp) (p : Opd) : Bool := match p with | .t t => x.chk.any (fun c => match c with | .closed t' => t == t' | _ => false) | .c v => v.closed
def XOp.oneOf (clo : Nat → Bool) (x : XOp) (p : Opd) : Bool := match p with | .t t => x.chk.any (fun c => match c with | .fn t' gs => t == t' && gs.all (fun g => clo (mvF g)) | _ => false) | .c (.fn g _) => clo (mvF g) | .c _ => false
def calm (clo : Nat → Bool) (f : Opd) : Bool := match f with | .c (.fn g _) => clo (mvF g + 5000) | _ => false
def XOp.still (clo : Nat → Bool) (x : XOp) : Bool := match x.op with
 | .call f _ own => own.isEmpty && (x.oneOf clo f || calm clo f)
 | .mov .. | .pick .. | .bin .. | .un .. | .conv .. | .eqv .. | .nchk .. | .isnil .. | .len .. | .lenA .. | .minmax .. | .ext .. | .build .. | .padd .. | .ixA .. | .ixS .. | .fld .. | .ixV .. | .ixStr .. | .load .. | .alloc .. | .store .. | .box .. | .boxR .. => true
 | _ => false
def XC.still (clo : Nat → Bool) : XC → Bool
 | .reg _ _ _ ops => ops.all (XOp.still clo)
 | .seq a b | .cond _ a b => a.still clo && b.still clo
 | .blk _ c | .loop c | .pre _ c => c.still clo
 | .rfn .. | .fz .. => false
 | .skip | .exit _ | .ret => true
def XOp.deadAt (x : XOp) (s : Nat) : Bool := x.chk.any (fun c => match c with | .dead s' => s == s' | _ => false)
def XOp.noboxAt (x : XOp) (s : Nat) : Bool := x.chk.any (fun c => match c with | .nobox s' => s == s' | .dead s' => s == s' | _ => false)
def XOp.plain (x : XOp) : Bool := x.chk.all (fun c => match c with | .dead _ | .nobox _ => false | _ => true)
def XOp.only (x : XOp) (s : Nat) : Bool := x.chk.all (fun c => match c with | .dead s' | .nobox s' => s == s' | _ => true)
def XOp.cls (clo : Nat → Bool) (x : XOp) : Nat :=
 match x.op with
 | .load _ p => if x.plain then (if x.shut p then 0 else if x.elem p then 3 else if x.boxp p then 4 else 1) else 2
 | .call f _ own => if own.isEmpty && x.oneOf clo f && x.plain then 1 else if own.isEmpty && calm clo f && x.plain then 8 else 2
 | .bslice _ _ _ ps => if ps.all (fun p => x.shut p.2) && x.plain then 0 else 2
 | .boxR p => if x.shut p && x.plain then 0 else 2
 | .alloc s _ | .box s _ => if x.deadAt s && x.only s then 5 else 2
 | .store _ p v => if x.plain then (if x.boxp p then 7 else if x.elem p && x.shut v then 6 else 2) else 2
 | .mk s .. => if decide (s < 1000) && x.noboxAt s && x.only s then 6 else 2
 | .app s .. => if decide (s < 1000) && x.noboxAt s && x.only s then 6 else 2
 | .copy .. | .mput .. | .mdel .. | .mkmap .. | .mkbld .. | .bwr .. | .clr .. | .apz .. | .pnc .. => 2
 | .mget .. | .toStr _ | .bstr .. => if x.plain then 1 else 2
 | _ => if x.plain then 0 else 2
def Chk.tmps : Chk → List Nat
 | .elem t | .box t | .fn t _ | .closed t => [t]
 | .dead _ | .nobox _ => []
 | .ne a b => [a,b]
def XOp.tmps (x : XOp) : List Nat := (match x.guard with | some (g,_) => [g] | none => []) ++ (x.chk.flatMap Chk.tmps ++ x.op.tmps)
def XOp.writes (x : XOp) (t : Nat) : Bool := x.dst == some t
def clsOk (a b : Nat) : Bool :=
 a == 0 || b == 0 ||
 match a,b with
 | 1,1 | 1,3 | 1,4 | 3,1 | 3,3 | 3,4 | 4,1 | 4,3 | 4,4 => true
 | 1,5 | 3,5 | 4,5 => true
 | 3,7 | 7,3 | 5,3 | 5,5 => true
 | 4,6 | 6,4 | 8,5 => true
 | 5,6 | 6,7 | 7,6 | 7,5 => true
 | _,_ => false
def XOp.neq (x : XOp) (p q : Opd) : Bool := match p,q with
 | .t a,.t b => x.chk.any (fun c => match c with | .ne a' b' => (a == a' && b == b') || (a == b' && b == a') | _ => false)
 | _,_ => false
def neOk (x y : XOp) : Bool := x.plain && y.plain && match x.op,y.op with
 | .load _ p,.store _ q _ => x.neq p q || y.neq p q
 | .store _ q _,.load _ p => x.neq p q || y.neq p q
 | _,_ => false
def swapOk (clo : Nat → Bool) (x y : XOp) : Bool :=
 (y.tmps.all fun t => !x.writes t) && (x.tmps.all fun t => !y.writes t) && (match x.dst with | some d => !y.writes d | none => true) && (clsOk (x.cls clo) (y.cls clo) || neOk x y)
theorem chk_congr {cx : Cx} {e e' : Env} {h : Heap} : ∀ {l : List Chk},(∀ t ∈ l.flatMap Chk.tmps,e.get t = e'.get t) → l.all (Chk.ok cx e h) = l.all (Chk.ok cx e' h)
 | [],_ => rfl
 | c :: l,hh => by
  simp only [List.flatMap_cons,List.mem_append] at hh
  simp only [List.all_cons]
  rw [chk_congr fun t ht => hh t (.inr ht)]
  congr 1
  cases c <;> simp only [Chk.ok,Chk.tmps] at hh ⊢ <;> (try rw [hh _ (.inl (by simp))]) <;> (try rw [hh _ (.inl (by simp))])
theorem xic_congr {call : Callee} {cx : Cx} {e e' : Env} {h : Heap} {x : XOp} (hh : ∀ t ∈ x.chk.flatMap Chk.tmps ++ x.op.tmps,e.get t = e'.get t) : xic call cx e h x = xic call cx e' h x := by
 unfold xic
 rw [chk_congr fun t ht => hh t (List.mem_append.mpr (.inl ht)),xi_congr fun t ht => hh t (List.mem_append.mpr (.inr ht))]
omit [Globs] [Rounds] in
theorem xic_some {call : Callee} {cx : Cx} {env : Env} {h : Heap} {x : XOp} {r : AV × Heap} (hx : xic call cx env h x = some r) : xi call cx env h x.op = some r ∧ x.chk.all (Chk.ok cx env h) = true := by
 unfold xic at hx
 split at hx
 ·exact ⟨hx,by assumption⟩
 ·cases hx
theorem xop_congr {call : Callee} {cx : Cx} {x : XOp} {e e' : Env} {h h1 : Heap} {e1 : Env} (hh : ∀ t ∈ x.tmps,e.get t = e'.get t) (hx : xop call cx x e h = some (e1,h1)) :
  ∃ v,e1 = e.put x.dst v ∧ xop call cx x e' h = some (e'.put x.dst v,h1) := by
 unfold xop at hx ⊢
 have hop : ∀ t ∈ x.chk.flatMap Chk.tmps ++ x.op.tmps,e.get t = e'.get t := fun t ht => hh t (by unfold XOp.tmps; exact List.mem_append.mpr (.inr ht))
 split at hx
 ·rename_i hg
  simp only [mE,Prod.mk.injEq] at hx
  obtain ⟨⟨v,h2⟩,hx,rfl,rfl⟩ := hx
  exact ⟨v,rfl,by simp [hg,← xic_congr hop,hx]⟩
 ·rename_i g want hg
  obtain ⟨b,hb,hy⟩ := bE.mp hx
  clear hx
  have hgg : e.get g = e'.get g := hh g (by simp [XOp.tmps,hg])
  split at hy
  ·rename_i hbw
   simp only [mE,Prod.mk.injEq] at hy
   obtain ⟨⟨v,h2⟩,hx,rfl,rfl⟩ := hy
   exact ⟨v,rfl,by simp [hg,← hgg,hb,hbw,← xic_congr hop,hx]⟩
  ·rename_i hbw
   simp only [Option.some.injEq,Prod.mk.injEq] at hy
   obtain ⟨rfl,rfl⟩ := hy
   exact ⟨.tuple [],rfl,by simp [hg,← hgg,hb,hbw]⟩
theorem EnvEq.put {e e' : Env} (h : EnvEq e e') (d : Option Nat) (v : AV) : EnvEq (e.put d v) (e'.put d v) := fun t => by rw [Env.get_put,Env.get_put,h t]
theorem EnvEq.trans {a b c : Env} (h : EnvEq a b) (h' : EnvEq b c) : EnvEq a c := fun t => (h t).trans (h' t)
theorem xops_envEq {call : Callee} {cx : Cx} : ∀ {xs : List XOp} {e e' e1 : Env} {h h1 : Heap},EnvEq e e' → xops call cx xs e h = some (e1,h1) → ∃ e1',xops call cx xs e' h = some (e1',h1) ∧ EnvEq e1 e1'
 | [],e,e',e1,h,h1,he,hx => by
  simp only [xops,Option.some.injEq,Prod.mk.injEq] at hx
  obtain ⟨rfl,rfl⟩ := hx
  exact ⟨e',rfl,he⟩
 | x :: xs,e,e',e1,h,h1,he,hx => by
  obtain ⟨⟨e2,h2⟩,hx,hxs⟩ := bE.mp hx
  obtain ⟨v,rfl,hx'⟩ := xop_congr (fun t _ => he t) hx
  obtain ⟨e3,h3,h4⟩ := xops_envEq (he.put x.dst v) hxs
  exact ⟨e3,bE.mpr ⟨_,hx',h3⟩,h4⟩
end Go.VI
