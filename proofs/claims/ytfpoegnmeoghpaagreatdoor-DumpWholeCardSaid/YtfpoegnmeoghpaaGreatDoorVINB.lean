/- Operations that look at different blocks may be exchanged. -/
import Derived.Test.YtfpoegnmeoghpaaGreatDoorVINA
set_option linter.unusedVariables false
set_option linter.unusedSimpArgs false
namespace Go.VI
set_option linter.unusedSectionVars false
variable [Globs] [Rounds]
def appW (w : Option (Nat × (Nat × Blk))) (h : Heap) : Heap := match w with | none => h | some (i,b) => h.set i b
structure Loc (S : Nat → Prop) (f : Heap → Option (AV × Heap)) (h : Heap) (v : AV) (w : Option (Nat × (Nat × Blk))) : Prop where
 run : ∀ h',(∀ id,S id → h'[id]? = h[id]?) → f h' = some (v,appW w h')
 wr : ∀ i b,w = some (i,b) → S i
def Blk.kind : Blk → Nat
 | .dead => 0
 | .box _ => 1
 | .arr .. => 2
 | .rcd .. => 3
theorem Blk.kind_lt (b : Blk) : b.kind < 4 := by cases b <;> simp [Blk.kind]
def needR (c k : Nat) : Bool := match c with | 3 => k == 2 | 6 => k == 2 || k == 0 | 4 => k == 1 | _ => false
def needW (c k : Nat) : Bool := match c with | 5 => k == 0 | 6 => k == 2 || k == 0 | 7 => k == 1 | _ => false
def gets (c k : Nat) : Bool := match c with | 5 | 7 => k == 1 | 6 => k == 2 | _ => false
structure ClsLoc (c : Nat) (S : Nat → Prop) (f : Heap → Option (AV × Heap)) (h : Heap) (v : AV) (w : Option (Nat × (Nat × Blk))) : Prop where
 loc : Loc S f h v w
 rd : ∀ id,S id → (∀ b,w ≠ some (id,b)) → ∃ x,h[id]? = some x ∧ needR c x.2.kind = true
 wt : ∀ id b,w = some (id,b) → (∃ x,h[id]? = some x ∧ needW c x.2.kind = true) ∧ gets c b.2.kind = true
theorem appW_comm {a b : Option (Nat × (Nat × Blk))} {h : Heap} (hne : ∀ i x j y,a = some (i,x) → b = some (j,y) → i ≠ j) : appW a (appW b h) = appW b (appW a h) := by
 cases a with
 | none => rfl
 | some p =>
  cases b with
  | none => rfl
  | some q =>
   obtain ⟨i,x⟩ := p
   obtain ⟨j,y⟩ := q
   exact List.set_comm _ _ (Ne.symm (hne i x j y rfl rfl))
theorem appW_get {w : Option (Nat × (Nat × Blk))} {h : Heap} {id : Nat} (hne : ∀ b,w ≠ some (id,b)) : (appW w h)[id]? = h[id]? := by
 cases w with
 | none => rfl
 | some p =>
  obtain ⟨i,b⟩ := p
  show (h.set i b)[id]? = _
  exact List.getElem?_set_ne (fun e => hne b (by rw [e]))
theorem appW_self {h : Heap} {id : Nat} {b : Nat × Blk} (hlt : id < h.length) : (appW (some (id,b)) h)[id]? = some b := by
 show (h.set id b)[id]? = _
 exact List.getElem?_set_self hlt
def apartL : List (Nat × Nat) := [(3,7),(7,3),(5,3),(3,5),(5,5),(4,5),(4,6),(6,4),(5,6),(6,7),(7,6),(7,5),(3,3),(3,4),(4,3),(4,4)]
theorem apart1 : ∀ p ∈ apartL,∀ k,k < 4 → (gets p.1 k && needR p.2 k) = false := by decide
theorem apart2 : ∀ p ∈ apartL,∀ k,k < 4 → (gets p.1 k && needW p.2 k) = false := by decide
theorem apart3 : ∀ p ∈ apartL,∀ k,k < 4 → (needR p.1 k && needW p.2 k) = false := by decide
theorem comm_loc {a c : Nat} (hac : (a,c) ∈ apartL) {f g : Heap → Option (AV × Heap)} {h : Heap} {vx vy : AV} {Sx Sy : Nat → Prop} {wx wy : Option (Nat × (Nat × Blk))} (hx : ClsLoc a Sx f h vx wx) (hy : ClsLoc c Sy g (appW wx h) vy wy) :
  ∃ h1,g h = some (vy,h1) ∧ f h1 = some (vx,appW wy (appW wx h)) := by
 -- a block that the second looks at is none that the first has written
 have h1 : ∀ id,Sy id → ∀ b,wx ≠ some (id,b) := by
  intro id hid b hw
  subst hw
  obtain ⟨⟨x,hx1,hx2⟩,hx3⟩ := hx.wt id b rfl
  have hself : (appW (some (id,b)) h)[id]? = some b := appW_self (List.getElem?_eq_some_iff.mp hx1).1
  by_cases hwy : ∀ b',wy ≠ some (id,b')
  ·obtain ⟨y,hy1,hy2⟩ := hy.rd id hid hwy
   rw [hself] at hy1
   cases hy1
   have := apart1 _ hac _ b.2.kind_lt
   simp [hx3,hy2] at this
  ·have ⟨b',hb'⟩ : ∃ b',wy = some (id,b') := by
    by_cases h : ∃ b',wy = some (id,b')
    ·exact h
    ·exact absurd (fun b' hb' => h ⟨b',hb'⟩) hwy
   obtain ⟨⟨y,hy1,hy2⟩,hy3⟩ := hy.wt id b' hb'
   rw [hself] at hy1
   cases hy1
   have := apart2 _ hac _ b.2.kind_lt
   simp [hx3,hy2] at this
 -- a block that the first looks at is none that the second writes
 have h2 : ∀ id,Sx id → ∀ b,wy ≠ some (id,b) := by
  intro id hid b hw
  have hS := hy.loc.wr id b hw
  have hnx := h1 id hS
  obtain ⟨x,hx1,hx2⟩ := hx.rd id hid hnx
  obtain ⟨⟨y,hy1,hy2⟩,_⟩ := hy.wt id b hw
  rw [appW_get hnx,hx1] at hy1
  cases hy1
  have := apart3 _ hac _ x.2.kind_lt
  simp [hx2,hy2] at this
 refine ⟨appW wy h,hy.loc.run h fun id hid => (appW_get (h1 id hid)).symm, ?_⟩
 rw [hx.loc.run (appW wy h) fun id hid => appW_get (h2 id hid)]
 rw [appW_comm fun i x j y e1 e2 hij => ?_]
 subst hij
 exact h2 i (hx.loc.wr i x e1) y e2
theorem asList0_loc {h : Heap} {x : AV} {es : List AV} (hx : asList0 h x = some es) : ∃ S : Nat → Prop,(∀ id,S id → ∃ y,h[id]? = some y ∧ y.2.kind = 2) ∧ ∀ h',(∀ id,S id → h'[id]? = h[id]?) → asList0 h' x = some es := by
 unfold asList0 at hx
 split at hx
 ·exact ⟨fun _ => False,fun _ h => h.elim,fun h' _ => hx⟩
 ·exact ⟨fun _ => False,fun _ h => h.elim,fun h' _ => hx⟩
 ·exact ⟨fun _ => False,fun _ h => h.elim,fun h' _ => hx⟩
 ·rename_i id ver z off len fill
  split at hx
  ·rename_i w z' es' hid
   refine ⟨fun k => k = id,fun k hk => by subst hk; exact ⟨_,hid,rfl⟩,fun h' he => ?_⟩
   unfold asList0
   dsimp only
   rw [he id rfl,hid]
   exact hx
  ·cases hx
 ·cases hx
theorem appSrc_loc {h : Heap} {z : Nat} {x : AV} {es : List AV} (hx : appSrc h z x = some es) : ∃ S : Nat → Prop,(∀ id,S id → ∃ y,h[id]? = some y ∧ y.2.kind = 2) ∧ ∀ h',(∀ id,S id → h'[id]? = h[id]?) → appSrc h' z x = some es := by
 unfold appSrc at hx
 split at hx
 ·rename_i l
  exact ⟨fun _ => False,fun _ h => h.elim,fun h' _ => by unfold appSrc; exact hx⟩
 ·rename_i hne
  unfold asList at hx
  split at hx
  ·rename_i hz
   obtain ⟨S,h1,h2⟩ := asList0_loc hx
   refine ⟨S,h1,fun h' he => ?_⟩
   unfold appSrc
   split
   ·exact absurd rfl (hne _)
   ·unfold asList; rw [if_pos hz]; exact h2 h' he
  ·cases hx
theorem plain_chk {cx : Cx} {e : Env} {h h' : Heap} : ∀ {l : List Chk},(l.all (fun c => match c with | .dead _ | .nobox _ => false | _ => true)) = true → l.all (Chk.ok cx e h) = l.all (Chk.ok cx e h')
 | [],_ => rfl
 | c :: l,hl => by
  simp only [List.all_cons,Bool.and_eq_true] at hl
  simp only [List.all_cons]
  rw [plain_chk hl.2]
  congr 1
  cases c <;> first | rfl | (simp at hl)
theorem only_chk {cx : Cx} {e : Env} {h h' : Heap} {s : Nat} (hs : h'[cx.base + s]? = h[cx.base + s]?) : ∀ {l : List Chk},(l.all (fun c => match c with | .dead s' | .nobox s' => s == s' | _ => true)) = true → l.all (Chk.ok cx e h) = l.all (Chk.ok cx e h')
 | [],_ => rfl
 | c :: l,hl => by
  simp only [List.all_cons,Bool.and_eq_true] at hl
  simp only [List.all_cons]
  rw [only_chk hs hl.2]
  congr 1
  cases c with
  | dead s' => have := hl.1; simp only [beq_iff_eq] at this; subst this; simp only [Chk.ok,hs]
  | nobox s' => have := hl.1; simp only [beq_iff_eq] at this; subst this; simp only [Chk.ok,hs]
  | _ => rfl
section
variable {call : Callee} {cx : Cx} {e : Env} {h : Heap} {x : XOp}
theorem xic_run {v : AV} {h1 : Heap} (hc : x.chk.all (Chk.ok cx e h) = true) (hx : xi call cx e h x.op = some (v,h1)) : xic call cx e h x = some (v,h1) := by
 unfold xic; rw [if_pos hc]; exact hx
theorem elem_of {p : Opd} (he : x.elem p = true) (hc : x.chk.all (Chk.ok cx e h) = true) : (∃ u i o,p.ev e = .iptr u i o) ∨ ∃ cs,p.ev e = .cptr cs := by
 unfold XOp.elem at he
 split at he
 ·rename_i t
  obtain ⟨c,hcm,hc2⟩ := List.any_eq_true.mp he
  have := List.all_eq_true.mp hc c hcm
  cases c <;> simp only [Bool.false_eq_true] at hc2
  rename_i t'
  simp only [beq_iff_eq] at hc2
  subst hc2
  simp only [Chk.ok] at this
  show (∃ u i o,e.get t = .iptr u i o) ∨ ∃ cs,e.get t = .cptr cs
  split at this
  ·rename_i heq; exact .inl ⟨_,_,_,heq⟩
  ·rename_i heq; exact .inr ⟨_,heq⟩
  ·cases this
 ·cases he
theorem box_of {p : Opd} (he : x.boxp p = true) (hc : x.chk.all (Chk.ok cx e h) = true) : (∃ u i o,p.ev e = .bptr u i o) ∨ ∃ cs,p.ev e = .cptr cs := by
 unfold XOp.boxp at he
 split at he
 ·rename_i t
  obtain ⟨c,hcm,hc2⟩ := List.any_eq_true.mp he
  have := List.all_eq_true.mp hc c hcm
  cases c <;> simp only [Bool.false_eq_true] at hc2
  rename_i t'
  simp only [beq_iff_eq] at hc2
  subst hc2
  simp only [Chk.ok] at this
  show (∃ u i o,e.get t = .bptr u i o) ∨ ∃ cs,e.get t = .cptr cs
  split at this
  ·rename_i heq; exact .inl ⟨_,_,_,heq⟩
  ·rename_i heq; exact .inr ⟨_,heq⟩
  ·cases this
 ·cases he
theorem shut_of {p : Opd} (he : x.shut p = true) (hc : x.chk.all (Chk.ok cx e h) = true) : (p.ev e).closed = true := by
 unfold XOp.shut at he
 split at he
 ·rename_i t
  obtain ⟨c,hcm,hc2⟩ := List.any_eq_true.mp he
  have := List.all_eq_true.mp hc c hcm
  cases c <;> simp only [Bool.false_eq_true] at hc2
  rename_i t'
  simp only [beq_iff_eq] at hc2
  subst hc2
  exact this
 ·exact he
theorem dead_of {s : Nat} (he : x.deadAt s = true) (hc : x.chk.all (Chk.ok cx e h) = true) : ∃ v,h[cx.base + s]? = some (v,.dead) := by
 unfold XOp.deadAt at he
 obtain ⟨c,hcm,hc2⟩ := List.any_eq_true.mp he
 have := List.all_eq_true.mp hc c hcm
 cases c <;> simp only [Bool.false_eq_true] at hc2
 simp only [beq_iff_eq] at hc2
 subst hc2
 simp only [Chk.ok] at this
 split at this
 ·rename_i heq; exact ⟨_,heq⟩
 ·cases this
theorem nobox_of {s : Nat} (he : x.noboxAt s = true) (hc : x.chk.all (Chk.ok cx e h) = true) : ∃ y,h[cx.base + s]? = some y ∧ (y.2.kind = 2 ∨ y.2.kind = 0) := by
 unfold XOp.noboxAt at he
 obtain ⟨c,hcm,hc2⟩ := List.any_eq_true.mp he
 have := List.all_eq_true.mp hc c hcm
 cases c <;> simp only [Bool.false_eq_true] at hc2
 ·simp only [beq_iff_eq] at hc2
  subst hc2
  simp only [Chk.ok] at this
  split at this
  ·rename_i heq; exact ⟨_,heq,.inr rfl⟩
  ·cases this
 ·simp only [beq_iff_eq] at hc2
  subst hc2
  simp only [Chk.ok] at this
  split at this
  ·rename_i heq; exact ⟨_,heq,.inr rfl⟩
  ·rename_i heq; exact ⟨_,heq,.inl rfl⟩
  ·cases this
theorem load_loc {sh : Sh} {p : Opd} (hop : x.op = .load sh p) (hp : x.plain = true) {v : AV} {h1 : Heap} (hx : xic call cx e h x = some (v,h1)) {c : Nat} (hc : (c = 3 ∧ x.elem p = true) ∨ (c = 4 ∧ x.boxp p = true)) :
  ∃ S,ClsLoc c S (fun h => xic call cx e h x) h v none ∧ h1 = h := by
 obtain ⟨hx1,hx2⟩ := xic_some hx
 rw [hop] at hx1
 simp only [xi] at hx1
 obtain ⟨cs,hcs,hx3⟩ := bE.mp hx1
 obtain ⟨q,hq,he⟩ := mE.mp hx3
 simp only [Prod.mk.injEq] at he
 obtain ⟨rfl,rfl⟩ := he
 have fin : ∀ (S : Nat → Prop),(∀ id,S id → ∃ y,h[id]? = some y ∧ needR c y.2.kind = true) → (∀ h',(∀ id,S id → h'[id]? = h[id]?) → pcells h' (p.ev e) = some cs) → ∃ S,ClsLoc c S (fun h => xic call cx e h x) h q none ∧ h = h := by
  intro S h1 h2
  refine ⟨S,⟨⟨fun h' hh => ?_,fun i b h => by cases h⟩,fun id hid _ => h1 id hid,fun id b h => by cases h⟩,rfl⟩
  refine xic_run (by rw [← plain_chk hp]; exact hx2) ?_
  rw [hop]
  simp only [xi]
  exact bE.mpr ⟨cs,h2 h' hh,mE.mpr ⟨q,hq,rfl⟩⟩
 have hcptr : ∀ cs',p.ev e = .cptr cs' → ∃ S,ClsLoc c S (fun h => xic call cx e h x) h q none ∧ h = h := by
  intro cs' hev
  refine fin (fun _ => False) (fun _ h => h.elim) fun h' _ => ?_
  rw [hev] at hcs ⊢
  exact hcs
 rcases hc with ⟨rfl,hel⟩ | ⟨rfl,hbx⟩
 ·rcases elem_of hel hx2 with ⟨u,i,o,hev⟩ | ⟨cs',hev⟩
  ·rw [hev] at hcs
   simp only [pcells] at hcs
   obtain ⟨es,he1,he2⟩ := bE.mp hcs
   obtain ⟨S,g1,g2⟩ := asList0_loc he1
   refine fin S (fun id hid => by obtain ⟨y,y1,y2⟩ := g1 id hid; exact ⟨y,y1,by simp [needR,y2]⟩) fun h' hh => ?_
   rw [hev]
   simp only [pcells]
   exact bE.mpr ⟨es,g2 h' hh,he2⟩
  ·exact hcptr cs' hev
 ·rcases box_of hbx hx2 with ⟨id,ver,off,hev⟩ | ⟨cs',hev⟩
  ·rw [hev] at hcs
   simp only [pcells] at hcs
   split at hcs
   ·rename_i w cs0 hid
    refine fin (fun k => k = id) (fun k hk => by subst hk; exact ⟨_,hid,rfl⟩) fun h' hh => ?_
    rw [hev]
    simp only [pcells]
    rw [hh id rfl,hid]
    exact hcs
   ·cases hcs
  ·exact hcptr cs' hev
theorem mkAt_loc {s ver : Nat} {b : Blk} {h1 : Heap} (hm : mkAt cx s b h = some (ver,h1)) : h1 = h.set (cx.base + s) (ver,b) ∧ ∀ h',h'[cx.base + s]? = h[cx.base + s]? → mkAt cx s b h' = some (ver,h'.set (cx.base + s) (ver,b)) := by
 unfold mkAt at hm
 split at hm
 ·rename_i hc
  split at hm
  ·rename_i v0 b0 hid
   simp only [Option.some.injEq,Prod.mk.injEq] at hm
   obtain ⟨rfl,rfl⟩ := hm
   refine ⟨rfl,fun h' he => ?_⟩
   unfold mkAt
   rw [if_pos hc,he,hid]
  ·cases hm
 ·cases hm
theorem alloc_loc {s : Nat} (hop : (∃ zero,x.op = .alloc s zero) ∨ ∃ y,x.op = .box s y) (hd : x.deadAt s = true) (ho : x.only s = true) {v : AV} {h1 : Heap} (hx : xic call cx e h x = some (v,h1)) :
  ∃ S w,ClsLoc 5 S (fun h => xic call cx e h x) h v w ∧ h1 = appW w h := by
 obtain ⟨hx1,hx2⟩ := xic_some hx
 obtain ⟨v0,hdead⟩ := dead_of hd hx2
 have fin : ∀ (cs : List AV) (ver : Nat),(∀ h',h'[cx.base + s]? = h[cx.base + s]? → xi call cx e h' x.op = some (v,h'.set (cx.base + s) (ver,.box cs))) → h1 = h.set (cx.base + s) (ver,.box cs) → ∃ S w,ClsLoc 5 S (fun h => xic call cx e h x) h v w ∧ h1 = appW w h := by
  intro cs ver hrun he
  refine ⟨fun k => k = cx.base + s,some (cx.base + s,(ver,.box cs)),⟨⟨fun h' hh => ?_,fun i b hb => by cases hb; rfl⟩,fun id hid hn => ?_,fun id b hb => ?_⟩,he⟩
  ·have hs := hh _ rfl
   exact xic_run (by rw [← only_chk hs ho]; exact hx2) (hrun h' hs)
  ·subst hid; exact absurd rfl (hn _)
  ·cases hb; exact ⟨⟨_,hdead,rfl⟩,rfl⟩
 rcases hop with ⟨zero,hop⟩ | ⟨y,hop⟩
 ·rw [hop] at hx1
  simp only [xi] at hx1
  obtain ⟨⟨ver,h2⟩,hm,he⟩ := mE.mp hx1
  simp only [Prod.mk.injEq] at he
  obtain ⟨rfl,rfl⟩ := he
  obtain ⟨k1,k2⟩ := mkAt_loc hm
  refine fin zero ver (fun h' hs => ?_) k1
  rw [hop]
  simp only [xi]
  exact mE.mpr ⟨_,k2 h' hs,rfl⟩
 ·rw [hop] at hx1
  simp only [xi] at hx1
  split at hx1
  ·rename_i hval
   obtain ⟨⟨ver,h2⟩,hm,he⟩ := mE.mp hx1
   simp only [Prod.mk.injEq] at he
   obtain ⟨rfl,rfl⟩ := he
   obtain ⟨k1,k2⟩ := mkAt_loc hm
   refine fin _ ver (fun h' hs => ?_) k1
   rw [hop]
   simp only [xi]
   rw [if_pos hval]
   exact mE.mpr ⟨_,k2 h' hs,rfl⟩
  ·cases hx1
theorem storeB_loc {sz : Nat} {p y : Opd} (hop : x.op = .store sz p y) (hp : x.plain = true) (hb : x.boxp p = true) {v : AV} {h1 : Heap} (hx : xic call cx e h x = some (v,h1)) :
  ∃ S w,ClsLoc 7 S (fun h => xic call cx e h x) h v w ∧ h1 = appW w h := by
 obtain ⟨hx1,hx2⟩ := xic_some hx
 rw [hop] at hx1
 simp only [xi] at hx1
 obtain ⟨h2,hps,he⟩ := mE.mp hx1
 simp only [Prod.mk.injEq] at he
 obtain ⟨rfl,rfl⟩ := he
 rcases box_of hb hx2 with ⟨id,ver,off,hev⟩ | ⟨cs',hev⟩
 ·rw [hev] at hps
  unfold pstore at hps
  split at hps
  ·rename_i hc0
   dsimp only at hps
   split at hps
   ·rename_i w cs hid
    split at hps
    ·rename_i hc
     obtain ⟨cs',hsp,rfl⟩ := mE.mp hps
     refine ⟨fun k => k = id,some (id,(ver,.box cs')),⟨⟨fun h' hh => ?_,fun i b hb => by cases hb; rfl⟩,fun k hk hn => ?_,fun k b hb => ?_⟩,rfl⟩
     ·refine xic_run (by rw [← plain_chk hp]; exact hx2) ?_
      rw [hop]
      simp only [xi]
      refine mE.mpr ⟨_, ?_,rfl⟩
      rw [hev]
      unfold pstore
      rw [if_pos hc0]
      dsimp only
      rw [hh id rfl,hid]
      dsimp only
      rw [if_pos hc]
      exact mE.mpr ⟨cs',hsp,rfl⟩
     ·subst hk; exact absurd rfl (hn _)
     ·cases hb; exact ⟨⟨_,hid,rfl⟩,rfl⟩
    ·cases hps
   ·cases hps
  ·cases hps
 ·rw [hev] at hps
  unfold pstore at hps
  split at hps <;> cases hps
end
mutual
theorem frz_closed {base : Nat} {keep : Bool} : ∀ (x : AV) (h : Heap) (x' : AV) (h' : Heap),x.closed = true → frz base keep x h = some (x',h') → h' = h ∧ ∀ h2,frz base keep x h2 = some (x',h2)
 | .agg cs,h,x',h',hc,hf | .tuple cs,h,x',h',hc,hf | .fn _ cs,h,x',h',hc,hf => by
  simp only [AV.closed] at hc
  simp only [frz,mE,Prod.mk.injEq] at hf ⊢
  obtain ⟨⟨cs',h1⟩,hf,rfl,rfl⟩ := hf
  obtain ⟨rfl,k2⟩ := frzL_closed cs h cs' h1 hc hf
  exact ⟨rfl,fun h2 => ⟨_,k2 h2,rfl,rfl⟩⟩
 | .ifc _ y,h,x',h',hc,hf => by
  simp only [AV.closed] at hc
  simp only [frz,mE,Prod.mk.injEq] at hf ⊢
  obtain ⟨⟨cs',h1⟩,hf,rfl,rfl⟩ := hf
  obtain ⟨rfl,k2⟩ := frz_closed y h cs' h1 hc hf
  exact ⟨rfl,fun h2 => ⟨_,k2 h2,rfl,rfl⟩⟩
 | .ref ..,h,x',h',hc,hf | .own ..,h,x',h',hc,hf | .bptr ..,h,x',h',hc,hf | .iptr ..,h,x',h',hc,hf | .yld ..,h,x',h',hc,hf => by simp [AV.closed] at hc
 | .nilSl,h,x',h',hc,hf | .undef,h,x',h',hc,hf | .bool _,h,x',h',hc,hf | .int _ _,h,x',h',hc,hf | .str _,h,x',h',hc,hf | .nilFn,h,x',h',hc,hf | .nilIf,h,x',h',hc,hf | .lst _ _,h,x',h',hc,hf | .lsf _ _,h,x',h',hc,hf | .nilPtr,h,x',h',hc,hf | .cptr _,h,x',h',hc,hf => by
  simp only [frz,Option.some.injEq,Prod.mk.injEq] at hf
  obtain ⟨rfl,rfl⟩ := hf
  exact ⟨rfl,fun h2 => by simp [frz]⟩
theorem frzL_closed {base : Nat} {keep : Bool} : ∀ (cs : List AV) (h : Heap) (cs' : List AV) (h' : Heap),AV.closedL cs = true → frzL base keep cs h = some (cs',h') → h' = h ∧ ∀ h2,frzL base keep cs h2 = some (cs',h2)
 | [],h,cs',h',hc,hf => by
  simp only [frzL,Option.some.injEq,Prod.mk.injEq] at hf
  obtain ⟨rfl,rfl⟩ := hf
  exact ⟨rfl,fun h2 => by simp [frzL]⟩
 | c :: cs,h,cs',h',hc,hf => by
  simp only [AV.closedL,Bool.and_eq_true] at hc
  simp only [frzL,bE,mE,Prod.mk.injEq] at hf ⊢
  obtain ⟨⟨c1,h1⟩,f1,⟨cs1,h2⟩,f2,rfl,rfl⟩ := hf
  obtain ⟨rfl,k2⟩ := frz_closed c h c1 h1 hc.1 f1
  obtain ⟨rfl,k4⟩ := frzL_closed cs _ cs1 h2 hc.2 f2
  exact ⟨rfl,fun h2 => ⟨_,k2 h2,_,k4 h2,rfl,rfl⟩⟩
end
section
variable {call : Callee} {cx : Cx} {e : Env} {h : Heap} {x : XOp}
theorem storeE_loc {sz : Nat} {p y : Opd} (hop : x.op = .store sz p y) (hp : x.plain = true) (hb : x.elem p = true) (hy : x.shut y = true) {v : AV} {h1 : Heap} (hx : xic call cx e h x = some (v,h1)) :
  ∃ S w,ClsLoc 6 S (fun h => xic call cx e h x) h v w ∧ h1 = appW w h := by
 obtain ⟨hx1,hx2⟩ := xic_some hx
 rw [hop] at hx1
 simp only [xi] at hx1
 obtain ⟨h2,hps,he⟩ := mE.mp hx1
 simp only [Prod.mk.injEq] at he
 obtain ⟨rfl,rfl⟩ := he
 have hcl := shut_of hy hx2
 rcases elem_of hb hx2 with ⟨u,i,off,hev⟩ | ⟨cs',hev⟩
 ·rw [hev] at hps
  cases u with
  | ref id ver z o len fill =>
   have key : ∃ es',h[id]?.map (·.2.kind) = some 2 ∧ h2 = h.set id (ver,.arr z es') ∧ ∀ h',h'[id]? = h[id]? → pstore cx h' sz (.iptr (.ref id ver z o len fill) i off) (y.ev e) = some (h'.set id (ver,.arr z es')) := by
    unfold pstore at hps
    split at hps
    ·rename_i hc0
     dsimp only at hps
     obtain ⟨⟨x1,h3⟩,hf,hps2⟩ := bE.mp hps
     clear hps
     obtain ⟨rfl,hfall⟩ := frz_closed _ _ _ _ hcl hf
     dsimp only at hps2
     split at hps2
     ·rename_i w z' es hid
      split at hps2
      ·rename_i hc
       split at hps2
       ·rename_i cs hes
        obtain ⟨cs',hsp,rfl⟩ := mE.mp hps2
        refine ⟨_,by rw [hid]; rfl,rfl,fun h' hh => ?_⟩
        unfold pstore
        rw [if_pos hc0]
        dsimp only
        refine bE.mpr ⟨_,hfall h', ?_⟩
        dsimp only
        rw [hh,hid]
        dsimp only
        rw [if_pos hc,hes]
        exact mE.mpr ⟨cs',hsp,rfl⟩
       ·rename_i e0 hna hes
        split at hps2
        ·rename_i hc2
         split at hps2
         ·cases hps2
         ·rename_i hna2
          simp only [Option.some.injEq] at hps2
          subst hps2
          refine ⟨_,by rw [hid]; rfl,rfl,fun h' hh => ?_⟩
          unfold pstore
          rw [if_pos hc0]
          dsimp only
          refine bE.mpr ⟨_,hfall h', ?_⟩
          dsimp only
          rw [hh,hid]
          dsimp only
          rw [if_pos hc,hes]
          split
          ·rename_i heq; cases heq; exact absurd rfl (hna _)
          ·rename_i heq
           cases heq
           rw [if_pos hc2]
           split
           ·exact absurd rfl (hna2 _)
           ·rfl
          ·rename_i heq; cases heq
        ·cases hps2
       ·cases hps2
      ·cases hps2
     ·cases hps2
    ·cases hps
   obtain ⟨es',hk,hset,hall⟩ := key
   refine ⟨fun k => k = id,some (id,(ver,.arr z es')),⟨⟨fun h' hh => ?_,fun i b hb => by cases hb; rfl⟩,fun k hk hn => ?_,fun k b hb => ?_⟩,hset⟩
   ·refine xic_run (by rw [← plain_chk hp]; exact hx2) ?_
    rw [hop]
    simp only [xi]
    rw [hev]
    exact mE.mpr ⟨_,hall h' (hh id rfl),rfl⟩
   ·subst hk; exact absurd rfl (hn _)
   ·cases hb
    obtain ⟨y0,hy0,hy1⟩ := mE.mp hk
    exact ⟨⟨y0,hy0,by simp [needW,hy1]⟩,rfl⟩
  | _ =>
   unfold pstore at hps
   split at hps <;> cases hps
 ·rw [hev] at hps
  unfold pstore at hps
  split at hps <;> cases hps
theorem mk_loc {s z lim : Nat} {zero : AV} {n c : Opd} (hop : x.op = .mk s z zero lim n c) (hs1 : s < 1000) (hd : x.noboxAt s = true) (ho : x.only s = true) {v : AV} {h1 : Heap} (hx : xic call cx e h x = some (v,h1)) :
  ∃ S w,ClsLoc 6 S (fun h => xic call cx e h x) h v w ∧ h1 = appW w h := by
 obtain ⟨hx1,hx2⟩ := xic_some hx
 obtain ⟨y0,hy0,hy1⟩ := nobox_of hd hx2
 rw [hop] at hx1
 simp only [xi] at hx1
 split at hx1
 ·rename_i ka a kb b hn hc
  have hso : sOf s = s := if_pos hs1
  rw [if_neg (by omega),hso] at hx1
  split at hx1
  ·rename_i hcond
   obtain ⟨⟨ver,h2⟩,hm,he⟩ := mE.mp hx1
   simp only [Prod.mk.injEq] at he
   obtain ⟨rfl,rfl⟩ := he
   obtain ⟨k1,k2⟩ := mkAt_loc hm
   refine ⟨fun k => k = cx.base + s,some (cx.base + s,(ver,.arr z (List.replicate a.toNat zero))),⟨⟨fun h' hh => ?_,fun i b hb => by cases hb; rfl⟩,fun k hk hn => ?_,fun k b hb => ?_⟩,k1⟩
   ·refine xic_run (by rw [← only_chk (hh _ rfl) ho]; exact hx2) ?_
    rw [hop]
    simp only [xi]
    rw [hn,hc]
    dsimp only
    rw [if_neg (by omega),hso,if_pos hcond]
    exact mE.mpr ⟨_,k2 h' (hh _ rfl),rfl⟩
   ·subst hk; exact absurd rfl (hn _)
   ·cases hb
    refine ⟨⟨y0,hy0, ?_⟩,rfl⟩
    rcases hy1 with hy1 | hy1 <;> simp [needW,hy1]
  ·cases hx1
 ·cases hx1
theorem app_loc {s z lim : Nat} {p y : Opd} (hop : x.op = .app s z lim p y) (hs1 : s < 1000) (hd : x.noboxAt s = true) (ho : x.only s = true) {v : AV} {h1 : Heap} (hx : xic call cx e h x = some (v,h1)) :
  ∃ S w,ClsLoc 6 S (fun h => xic call cx e h x) h v w ∧ h1 = appW w h := by
 obtain ⟨hx1,hx2⟩ := xic_some hx
 obtain ⟨y0,hy0,hy1⟩ := nobox_of hd hx2
 rw [hop] at hx1
 simp only [xi] at hx1
 obtain ⟨xs,hsrc,happ⟩ := bE.mp hx1
 have hapw : ∀ h',appw cx s z lim (p.ev e) xs h' = appv cx s z lim (p.ev e) xs h' := fun h' => if_pos hs1
 rw [hapw] at happ
 obtain ⟨S0,g1,g2⟩ := appSrc_loc hsrc
 have fin : ∀ (w : Option (Nat × (Nat × Blk))),(∀ i b,w = some (i,b) → (∃ y,h[i]? = some y ∧ (y.2.kind = 2 ∨ y.2.kind = 0)) ∧ b.2.kind = 2) → (∀ h',h'[cx.base + s]? = h[cx.base + s]? → (∀ i b,w = some (i,b) → h'[i]? = h[i]?) → appv cx s z lim (p.ev e) xs h' = some (v,appW w h')) → h1 = appW w h →
   ∃ S w,ClsLoc 6 S (fun h => xic call cx e h x) h v w ∧ h1 = appW w h := by
  intro w hw hrun he
  refine ⟨fun k => S0 k ∨ k = cx.base + s ∨ ∃ b,w = some (k,b),w,⟨⟨fun h' hh => ?_,fun i b hb => .inr (.inr ⟨b,hb⟩)⟩,fun k hk hn => ?_,fun k b hb => ?_⟩,he⟩
  ·have hs := hh (cx.base + s) (.inr (.inl rfl))
   refine xic_run (by rw [← only_chk hs ho]; exact hx2) ?_
   rw [hop]
   simp only [xi]
   exact bE.mpr ⟨xs,g2 h' fun id hid => hh id (.inl hid),(hapw h').trans <| hrun h' hs fun i b hb => hh i (.inr (.inr ⟨b,hb⟩))⟩
  ·rcases hk with hk | rfl | ⟨b,hb⟩
   ·obtain ⟨q,q1,q2⟩ := g1 k hk
    exact ⟨q,q1,by simp [needR,q2]⟩
   ·exact ⟨y0,hy0,by rcases hy1 with h | h <;> simp [needR,h]⟩
   ·exact absurd hb (hn b)
  ·obtain ⟨⟨q,q1,q2⟩,q3⟩ := hw k b hb
   exact ⟨⟨q,q1,by rcases q2 with h | h <;> simp [needW,h]⟩,by simp [gets,q3]⟩
 have hmk : ∀ {es : List AV} {ver : Nat} {h2 : Heap},mkAt cx s (.arr z es) h = some (ver,h2) → v = .ref (cx.base + s) ver z 0 es.length es.length → h1 = h2 →
   (∀ h',mkAt cx s (.arr z es) h' = some (ver,h'.set (cx.base + s) (ver,.arr z es)) → appv cx s z lim (p.ev e) xs h' = some (v,h'.set (cx.base + s) (ver,.arr z es))) → ∃ S w,ClsLoc 6 S (fun h => xic call cx e h x) h v w ∧ h1 = appW w h := by
  intro es ver h2 hm hv hh1 hall
  obtain ⟨k1,k2⟩ := mkAt_loc hm
  refine fin (some (cx.base + s,(ver,.arr z es))) (fun i b hb => by cases hb; exact ⟨⟨y0,hy0,hy1⟩,rfl⟩) (fun h' hs _ => hall h' (k2 h' hs)) (by rw [hh1,k1]; rfl)
 unfold appv at happ
 split at happ
 ·rename_i hev
  split at happ
  ·rename_i hc
   simp only [Option.some.injEq,Prod.mk.injEq] at happ
   obtain ⟨rfl,rfl⟩ := happ
   exact fin none (fun i b hb => by cases hb) (fun h' _ _ => by unfold appv; rw [hev]; dsimp only; rw [if_pos hc]; rfl) rfl
  ·rename_i hc
   split at happ
   ·rename_i hc2
    obtain ⟨⟨ver,h2⟩,hm,he⟩ := mE.mp happ
    simp only [Prod.mk.injEq] at he
    obtain ⟨rfl,rfl⟩ := he
    exact hmk hm rfl rfl fun h' hm' => by unfold appv; rw [hev]; dsimp only; rw [if_neg hc,if_pos hc2]; exact mE.mpr ⟨_,hm',rfl⟩
   ·cases happ
 ·rename_i z' es hev
  split at happ
  ·rename_i hc0
   split at happ
   ·rename_i hc
    simp only [Option.some.injEq,Prod.mk.injEq] at happ
    obtain ⟨rfl,rfl⟩ := happ
    exact fin none (fun i b hb => by cases hb) (fun h' _ _ => by unfold appv; rw [hev]; dsimp only; rw [if_pos hc0,if_pos hc]; rfl) rfl
   ·rename_i hc
    split at happ
    ·rename_i hc2
     obtain ⟨⟨ver,h2⟩,hm,he⟩ := mE.mp happ
     simp only [Prod.mk.injEq] at he
     obtain ⟨rfl,rfl⟩ := he
     exact hmk hm rfl rfl fun h' hm' => by unfold appv; rw [hev]; dsimp only; rw [if_pos hc0,if_neg hc,if_pos hc2]; exact mE.mpr ⟨_,hm',rfl⟩
    ·cases happ
  ·cases happ
 ·rename_i id ver z' off len fill hev
  split at happ
  ·rename_i w z'' es hid
   split at happ
   ·rename_i hc
    simp only [Option.some.injEq,Prod.mk.injEq] at happ
    obtain ⟨rfl,rfl⟩ := happ
    refine fin (some (id,(ver,.arr z (es ++ xs)))) (fun i b hb => by cases hb; exact ⟨⟨_,hid,.inl rfl⟩,rfl⟩) (fun h' _ hw => ?_) rfl
    unfold appv
    rw [hev]
    dsimp only
    rw [hw _ _ rfl,hid]
    dsimp only
    rw [if_pos hc]
    rfl
   ·cases happ
  ·cases happ
 ·cases happ
end
end Go.VI
