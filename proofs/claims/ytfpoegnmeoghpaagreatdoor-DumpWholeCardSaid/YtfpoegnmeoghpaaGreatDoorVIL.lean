/- Calls; every operation; regions, in whatever order they are run. -/
import Derived.Test.YtfpoegnmeoghpaaGreatDoorVIK
import Derived.OrdersIn
import Derived.RangeFuncLeaves
import Derived.RangeFuncOwn
import Derived.Lib.FrozenHead
set_option linter.unusedVariables false
set_option linter.unusedSimpArgs false
namespace Go.VI
set_option linter.unusedSectionVars false
variable [Globs] [Rounds]
def OwnAt (w : World) (X : Nat → Prop) (z : Nat) (es : List AV) (b : Nat) (u : Value) : Prop :=
 ∃ cap,∃ c : Array Value,∃ ty,u = .slice (some ⟨b,0,none⟩) es.length cap ∧ es.length ≤ cap ∧ cap * z ≤ c.size ∧ w.heap[b]? = some (Obj.cells c ty (0,0)) ∧ 0 < z ∧ ARR w X z es c.toList
def GiveR (w : World) (X : Nat → Prop) (m : Map) (h : Heap) (B : List Nat) (v : AV) (u : Value) : Prop :=
 match v with
 | .own z es => (es = [] ∧ B = [] ∧ ∃ a cap,u = .slice a 0 cap ∧ (z = 0 → cap = 0)) ∨ (es ≠ [] ∧ ∃ b,B = [b] ∧ OwnAt w X z es b u)
 | v => B = [] ∧ R w X m h v u
def GiveL (w : World) (X : Nat → Prop) (m : Map) (h : Heap) : List Nat → List AV → List Value → Prop
 | B,[],us => B = [] ∧ us = []
 | B,c :: cs,us => ∃ B1 B2 u us',B = B1 ++ B2 ∧ us = u :: us' ∧ GiveR w X m h B1 c u ∧ GiveL w X m h B2 cs us'
def GiveV (w : World) (X : Nat → Prop) (m : Map) (h : Heap) (B : List Nat) (v : AV) (u : Value) : Prop :=
 match v with
 | .tuple cs => ∃ us : List Value,u = .tuple us.toArray ∧ GiveL w X m h B cs us
 | v => GiveR w X m h B v u
structure InvX (w : World) (X : Nat → Prop) (m : Map) (h : Heap) : Prop where
 inv : Inv w m h
 sub : ∀ b,Live m h b → X b
 blk : ∀ (id ver : Nat) (blk : Blk),h[id]? = some (ver,blk) → blk.mem = true → ∃ b,∃ c : Array Value,∃ ty,m[id]? = some b ∧ w.heap[b]? = some (Obj.cells c ty (0,0)) ∧ BlkOk w X m h c.toList blk
 rcd : ∀ (id ver : Nat) (d : Rcd) (st : RS),h[id]? = some (ver,.rcd d st) → ∃ b o,m[id]? = some b ∧ w.heap[b]? = some o ∧ RcdOk w X m h o d st
def Res (w w' : World) (m' : Map) (h' : Heap) (v : AV) (u : Value) : Prop :=
 ∃ B : List Nat,B.Nodup ∧ (∀ b ∈ B,w.heap.size ≤ b ∧ ¬ Live m' h' b) ∧ InvX w' (fun b => Live m' h' b ∨ b ∈ B) m' h' ∧ GiveV w' (fun b => Live m' h' b ∨ b ∈ B) m' h' B v u
def Enters (P : Program) (f : FuncId) : Prop := ∃ fn, P.funcs[f]? = some fn ∧ fn.name ≠ "runtime.NumGoroutine" ∧ fn.body.isSome = true
abbrev fen (ro : Option Nat) : Fence := { Fence.wide with round := ro }
def rndTmps (r : Loop) (vs : List Value) : Array Value := (r.params.zip vs.toArray).foldl (fun tmps (t,a) => tmps.setIfInBounds t a) r.tmps
structure CallExt (clo : Nat → Bool) (call : Callee) : Prop where
 fn : ∀ {f : Nat} {args : List AV} {h : Heap} {lo : Nat} {r : AV} {h' : Heap},call.fn f args h lo = some (r,h') → ∀ {i v : Nat} {b : Nat × Blk},h[i]? = some (v,.dead) → (i < lo ∨ clo f = true ∨ clo (f + 5000) = true) → h'[i]? = some (v,.dead) ∧ call.fn f args (h.set i b) lo = some (r,h'.set i b)
 kp : ∀ {f : Nat} {args : List AV} {h : Heap} {lo : Nat} {r : AV} {h' : Heap},call.fn f args h lo = some (r,h') → (clo f = true ∨ clo (f + 5000) = true) → ∀ {i v : Nat},h'[i]? = some (v,.dead) → h[i]? = some (v,.dead)
 rd : ∀ {d : Rcd} {id ver : Nat} {args : List AV} {h : Heap} {e : Ex} {h' : Heap},call.rd d id ver args h = some (e,h') → ∀ {i v : Nat} {b : Nat × Blk},h[i]? = some (v,.dead) → i < d.lo → d.lo ≤ d.base → d.lo ≤ id → h'[i]? = some (v,.dead) ∧ call.rd d id ver args (h.set i b) = some (e,h'.set i b)
structure Fr2 (w w' : World) (b : Nat) (g : Option Nat) : Prop where
 os : w'.os = w.os
 tape : w'.tape = w.tape
 output : w'.output = w.output
 size : w.heap.size ≤ w'.heap.size
 old : ∀ k,k < w.heap.size → k ≠ b → some k ≠ g → w'.heap[k]? = w.heap[k]?
def WrOk (P : Program) (f : FuncId) : Prop := Enters P f ∧ ∀ (w : World) (b : Nat) (p v : Value) (bs s : List UInt8),w.heap[b]? = some (.cells #[p,v] Globs.bldT (0,0)) → (p = .pointer none ∨ p = .pointer (some ⟨b,0,none⟩)) → w.ownsRowF 0 Globs.byteT 1 v bs.length (Lib.byteCells bs) →
 v.ownBlock ≠ some b → bs.length + s.length ≤ bldLim → Calls P f #[.pointer (some ⟨b,0,none⟩),.string ⟨s.toArray⟩] w fun e w' => e = .returned (.tuple #[.int .i64 s.length,.nilIface]) ∧ Fr2 w w' b v.ownBlock ∧
  ∃ v',w'.heap[b]? = some (.cells #[.pointer (some ⟨b,0,none⟩),v'] Globs.bldT (0,0)) ∧ w'.ownsRowF 0 Globs.byteT 1 v' (bs.length + s.length) (Lib.byteCells (bs ++ s)) ∧ v'.ownBlock ≠ some b ∧ (v'.ownBlock = v.ownBlock ∨ ∀ g,v'.ownBlock = some g → w.heap.size ≤ g)
def BsOk (P : Program) (f : FuncId) : Prop := Enters P f ∧ ∀ (w : World) (b : Nat) (p v : Value) (l : List UInt8),w.heap[b]? = some (.cells #[p,v] Globs.bldT (0,0)) → (p = .pointer none ∨ p = .pointer (some ⟨b,0,none⟩)) → w.ownsRowF 0 Globs.byteT 1 v l.length (Lib.byteCells l) →
 v.ownBlock ≠ some b → (l = [] → v = .slice none 0 0) → Calls P f #[.pointer (some ⟨b,0,none⟩)] w fun e w' => e = .returned (.string ⟨l.toArray⟩) ∧ Fr2 w w' b v.ownBlock ∧ w'.heap[b]? = w.heap[b]? ∧ w'.ownsRowF 0 Globs.byteT 1 v l.length (Lib.byteCells l)
structure CallOk (P : Program) (clo : Nat → Bool) (call : Callee) : Prop where
 does : ∀ {f : Nat} {args : List AV} {h : Heap} {lo : Nat} {r : AV} {h' : Heap},call.fn f args h lo = some (r,h') → Enters P f ∧ ∀ (w : World) (m : Map) (vs : List Value),Inv w m h → RL w (Live m h) m h args vs → lo ≤ h.length →
  Calls P f vs.toArray w fun e w' => ∃ u m',e = .returned u ∧ Step lo w m h w' m' h' ∧ Inv w' m' h' ∧ Res w w' m' h' r u
 shut : ∀ {f : Nat} {args : List AV} {h : Heap} {lo : Nat} {r : AV} {h' : Heap},clo f = true → call.fn f args h lo = some (r,h') → h' = h
 rnd : ∀ {d : Rcd} {id ver : Nat} {args : List AV} {h : Heap} {e : Ex} {h' : Heap},call.rd d id ver args h = some (e,h') → ∀ {w : World} {m : Map} {l : Nat} {r : Loop} {vs : List Value},Inv w m h → h[id]? = some (ver,.rcd d .ready) → d.lo ≤ id → m[id]? = some l → w.heap[l]? = some (.loop r) →
  RcdOk w (Live m h) m h (.loop r) d .ready → RL w (Live m h) m h args vs → r.params.size = vs.length ∧
  RoundIn (fen none) 0 P l r.fn (rndTmps r vs) r.assign r.body w fun e' w' => ∃ m',e' = .returned (.bool (e == .norm)) ∧ Step d.lo w m h w' m' h' ∧ Inv w' m' h'
 ext : CallExt clo call
 wr : ∀ f,Globs.bldF f = true → WrOk P f
 bs : ∀ f,Globs.bstF f = true → BsOk P f
section
variable {w : World} {m : Map} {h : Heap} {P : Program} {env : Env} {a : Act} {o : Oper} {X : Nat → Prop}
mutual
theorem R.less {X' : Nat → Prop} (hx : ∀ b,X' b → X b) : ∀ (v : AV) (u : Value),R w X m h v u → R w X' m h v u
 | v,u,hr => R.step (fun id v blk h => ⟨v,blk,h,Nat.le_refl _,fun _ => Evol.refl _ _ _ _⟩) (Keep.weaken hx) v u hr
end
theorem GiveR.weak {X' : Nat → Prop} (hx : ∀ b,X' b → X b) {B : List Nat} (hB : ∀ b ∈ B,¬ X' b) {v : AV} {u : Value} (hg : GiveR w X m h B v u) :
  R w X' m h (weak1 v) u := by
 unfold GiveR at hg
 split at hg
 ·rename_i z es
  simp only [weak1,R,RC]
  rcases hg with ⟨rfl,_,a',cap,rfl,_⟩ | ⟨hne,b,rfl,cap,c,ty,rfl,h1,h2,h3,h4,h5⟩
  ·exact ⟨a',cap,rfl,by simp,.inl rfl⟩
  ·refine ⟨_,cap,rfl,h1,.inr ⟨b,0,rfl, ?_,hB b (by simp),h4,RCE_of _ _ _ fun i e he => ?_⟩⟩
   ·rcases Nat.lt_or_ge b w.heap.size with hl | hl
    ·exact hl
    ·rw [Array.getElem?_eq_none hl] at h3; cases h3
   ·obtain ⟨v',k1,k2,k3,k4⟩ := ARR.elems h3 h5 he
    exact ⟨v',RC.less hx k1,k2,k3,by simpa using k4⟩
 ·rename_i hne
  have : weak1 v = v := by
   cases v <;> first | rfl | exact absurd rfl (hne _ _)
  rw [this]
  exact R.less hx _ _ hg.2
theorem GiveL.weak {X' : Nat → Prop} (hx : ∀ b,X' b → X b) : ∀ {B : List Nat} {cs : List AV} {us : List Value},(∀ b ∈ B,¬ X' b) → GiveL w X m h B cs us →
  RL w X' m h (cs.map weak1) us
 | B,[],us,_,hg => by simp only [GiveL] at hg; simp [RL,hg.2]
 | B,c :: cs,us,hB,hg => by
  simp only [GiveL] at hg
  obtain ⟨B1,B2,u,us',rfl,rfl,g1,g2⟩ := hg
  simp only [List.map_cons,RL]
  exact ⟨u,us',rfl,GiveR.weak hx (fun b hb => hB b (by simp [hb])) g1,GiveL.weak hx (fun b hb => hB b (by simp [hb])) g2⟩
theorem GiveV.weak {X' : Nat → Prop} (hx : ∀ b,X' b → X b) {B : List Nat} (hB : ∀ b ∈ B,¬ X' b) {v : AV} {u : Value} (hg : GiveV w X m h B v u) : R w X' m h (weak v) u := by
 unfold GiveV at hg
 split at hg
 ·rename_i cs
  obtain ⟨us,rfl,hl⟩ := hg
  simp only [VI.weak,R]
  exact ⟨us,rfl,GiveL.weak hx hB hl⟩
 ·rename_i hne
  have : VI.weak v = weak1 v := by
   cases v <;> first | rfl | exact absurd rfl (hne _)
  rw [this]
  exact GiveR.weak hx hB hg
theorem RL_weak : ∀ {cs : List AV} {us : List Value},RL w X m h cs us → RL w X m h (cs.map weak1) us
 | [],us,hr => by simpa [RL] using hr
 | c :: cs,us,hr => by
  simp only [RL] at hr
  obtain ⟨u,us',rfl,h1,h2⟩ := hr
  simp only [List.map_cons,RL]
  refine ⟨u,us',rfl, ?_,RL_weak h2⟩
  cases c <;> first | exact h1 | (simp [R] at h1)
theorem R_weak {v : AV} {u : Value} (hr : R w X m h v u) : R w X m h (weak v) u := by
 cases v with
 | tuple cs =>
  simp only [R] at hr
  obtain ⟨us,rfl,hl⟩ := hr
  simp only [weak,R]
  exact ⟨us,rfl,RL_weak hl⟩
 | own => simp [R] at hr
 | _ => exact hr
theorem Res.weak {w' : World} {m' : Map} {h' : Heap} {v : AV} {u : Value} (hr : Res w w' m' h' v u) : R w' (Live m' h') m' h' (weak v) u := by
 obtain ⟨B,hn,hB,_,hg⟩ := hr
 exact GiveV.weak (fun b hb => .inl hb) (fun b hb => (hB b hb).2) hg
structure Over (lo : Nat) (w : World) (m : Map) (h : Heap) (w' : World) (X : Nat → Prop) (m1 : Map) (h1 : Heap) : Prop where
 step : Step lo w m h w' m1 h1
 len : m1.length = h1.length
 blk : ∀ (id ver : Nat) (blk : Blk),h1[id]? = some (ver,blk) → blk.mem = true → ∃ b,∃ c : Array Value,∃ ty,m1[id]? = some b ∧ w'.heap[b]? = some (Obj.cells c ty (0,0)) ∧ BlkOk w' X m1 h1 c.toList blk
 rcd : ∀ (id ver : Nat) (d : Rcd) (st : RS),h1[id]? = some (ver,.rcd d st) → ∃ b o,m1[id]? = some b ∧ w'.heap[b]? = some o ∧ RcdOk w' X m1 h1 o d st
 inj : ∀ (id id' v v' : Nat) (blk blk' : Blk) (b : Nat),h1[id]? = some (v,blk) → blk ≠ .dead → m1[id]? = some b → h1[id']? = some (v',blk') → blk' ≠ .dead → m1[id']? = some b → id = id'
 sub : ∀ b,Live m1 h1 b → X b
theorem BlkOk.less {X' : Nat → Prop} (hx : ∀ b,X' b → X b) {c : List Value} {blk : Blk} (hb : BlkOk w X m h c blk) : BlkOk w X' m h c blk :=
 hb.ids (fun id v blk h => ⟨v,blk,h,Nat.le_refl _,fun _ => Evol.refl _ _ _ _⟩) (Keep.weaken hx)
theorem RcdOk.less {X' : Nat → Prop} (hx : ∀ b,X' b → X b) {o : Obj} {d : Rcd} {st : RS} (hb : RcdOk w X m h o d st) : RcdOk w X' m h o d st :=
 hb.ids (fun id v blk h => ⟨v,blk,h,Nat.le_refl _,fun _ => Evol.refl _ _ _ _⟩) (Keep.weaken hx) (Nat.le_refl _)
theorem Over.inv {lo : Nat} {w' : World} {m1 : Map} {h1 : Heap} (ho : Over lo w m h w' X m1 h1) (hg : GlobOk w (Live m h)) : Inv w' m1 h1 :=
 ⟨ho.len,fun id ver blk h1 h2 => let ⟨b,c,ty,e1,e2,e3⟩ := ho.blk id ver blk h1 h2; ⟨b,c,ty,e1,e2,e3.less ho.sub⟩,
   fun id ver d st h1 => let ⟨b,o,e1,e2,e3⟩ := ho.rcd id ver d st h1; ⟨b,o,e1,e2,e3.less ho.sub⟩,ho.inj,hg.keep ho.step.keep⟩
theorem Over.take {lo : Nat} {w' : World} {m1 : Map} {h1 h2 : Heap} (ho : Over lo w m h w' X m1 h1) {cx : Cx} {s ver z b : Nat} {es : List AV} {u : Value} (hlo : lo ≤ cx.base) (hm : mkAt cx s (.arr z es) h1 = some (ver,h2))
  (hb1 : w.heap.size ≤ b) (hb2 : ¬ Live m1 h1 b) (hx : X b) (hu : OwnAt w' X z es b u) :
  ∃ m2,Over lo w m h w' X m2 h2 ∧ Ids w' m1 h1 w' m2 h2 ∧ R w' X m2 h2 (.ref (cx.base + s) ver z 0 es.length es.length) u ∧ (∀ q,Live m2 h2 q → Live m1 h1 q ∨ q = b) := by
 have hm : ∃ v0 blk0,h1[cx.base + s]? = some (v0,blk0) ∧ v0 + 1 = ver ∧ h1.set (cx.base + s) (v0 + 1,.arr z es) = h2 := by
  unfold mkAt at hm
  split at hm
  ·split at hm
   ·rename_i v0 blk0 hid
    simp only [Option.some.injEq,Prod.mk.injEq] at hm
    exact ⟨v0,blk0,hid,hm.1,hm.2⟩
   ·cases hm
  ·cases hm
 obtain ⟨v0,blk0,hid,rfl,rfl⟩ := hm
 ·obtain ⟨cap,c,ty,rfl,g1,g2,g3,g4,g5⟩ := hu
  obtain ⟨b0,hm0⟩ := map_get ho.len hid
  have hlt : cx.base + s < h1.length := (List.getElem?_eq_some_iff.mp hid).1
  have hset : (h1.set (cx.base + s) (v0 + 1,Blk.arr z es))[cx.base + s]? = some (v0 + 1,Blk.arr z es) := List.getElem?_set_self hlt
  have mset : (m1.set (cx.base + s) b)[cx.base + s]? = some b := List.getElem?_set_self (by rw [ho.len]; exact hlt)
  have hother : ∀ {k : Nat},k ≠ cx.base + s → (h1.set (cx.base + s) (v0 + 1,Blk.arr z es))[k]? = h1[k]? := fun hk => List.getElem?_set_ne (by omega)
  have mother : ∀ {k : Nat},k ≠ cx.base + s → (m1.set (cx.base + s) b)[k]? = m1[k]? := fun hk => List.getElem?_set_ne (by omega)
  have hlive : ∀ q,Live (m1.set (cx.base + s) b) (h1.set (cx.base + s) (v0 + 1,Blk.arr z es)) q → Live m1 h1 q ∨ q = b := by
   rintro q ⟨id,v,blk,k1,k2,k3⟩
   by_cases hk : id = cx.base + s
   ·subst hk; rw [mset] at k3; cases k3; exact .inr rfl
   ·rw [hother hk] at k1; rw [mother hk] at k3; exact .inl ⟨id,v,blk,k1,k2,k3⟩
  have hids : Ids w' m1 h1 w' (m1.set (cx.base + s) b) (h1.set (cx.base + s) (v0 + 1,Blk.arr z es)) := by
   intro id v blk hk
   by_cases he : id = cx.base + s
   ·subst he; rw [hid] at hk; cases hk; exact ⟨_,_,hset,by omega,fun e => by omega⟩
   ·refine ⟨v,blk,by rw [hother he]; exact hk,Nat.le_refl _,fun _ => ?_⟩
    cases blk with
    | dead => exact .inl rfl
    | box cs => exact .inr (.inl ⟨cs,cs,rfl,rfl,mother he⟩)
    | rcd d st => exact .inr (.inr (.inl ⟨d,st,d,st,rfl,rfl,mother he,rfl,fun l e => ⟨e,fun _ _ => rfl⟩⟩))
    | arr z es => exact .inr (.inr (.inr ⟨z,es,es,rfl,rfl,Nat.le_refl _,fun _ => ⟨mother he,fun _ _ => Nat.le_refl _⟩⟩))
  have kx : Keep w' X w' X := Keep.refl _ _
  refine ⟨m1.set (cx.base + s) b,⟨?_,by simp [ho.len], ?_, ?_, ?_, ?_⟩,hids, ?_,hlive⟩
  ·-- the step
   refine ⟨ho.step.os,ho.step.tape,ho.step.output,by simp [ho.step.len],ho.step.old,⟨ho.step.keep.size,ho.step.keep.cell,fun q hq => ?_⟩,fun id hk => ?_,fun id v blk hk => ?_,fun id v blk q k1 k2 k3 => ?_⟩
   ·rcases hlive q hq with h | rfl
    ·exact ho.step.keep.live q h
    ·exact .inr hb1
   ·have hne : id ≠ cx.base + s := by omega
    obtain ⟨e1,e2,e3⟩ := ho.step.low id hk
    exact ⟨(hother hne).trans e1,(mother hne).trans e2,e3⟩
   ·obtain ⟨v1,blk1,e1,e2,e3⟩ := ho.step.ids id v blk hk
    by_cases he : id = cx.base + s
    ·subst he; rw [hid] at e1; cases e1; exact ⟨_,_,hset,by omega,fun e => by omega⟩
    ·refine ⟨v1,blk1,by rw [hother he]; exact e1,e2,fun e => ?_⟩
     have := e3 e
     unfold Evol at this ⊢
     rw [mother he]
     exact this
   ·by_cases he : id = cx.base + s
    ·subst he; rw [mset] at k3; cases k3; exact .inr hb1
    ·rw [hother he] at k1; rw [mother he] at k3; exact ho.step.fresh id v blk q k1 k2 k3
  ·intro id v blk k1 k2
   by_cases he : id = cx.base + s
   ·subst he
    rw [hset] at k1
    cases k1
    exact ⟨b,c,ty,mset,g3,g4,g5⟩
   ·rw [hother he] at k1
    obtain ⟨b',c',ty',e1,e2,e3⟩ := ho.blk id v blk k1 k2
    exact ⟨b',c',ty',(mother he).trans e1,e2,e3.ids hids kx⟩
  ·intro id v d st k1
   by_cases he : id = cx.base + s
   ·subst he
    rw [hset] at k1
    cases k1
   ·rw [hother he] at k1
    obtain ⟨b',o',e1,e2,e3⟩ := ho.rcd id v d st k1
    exact ⟨b',o',(mother he).trans e1,e2,e3.ids hids kx (by simp)⟩
  ·intro id id' v v' blk blk' q k1 k2 k3 k1' k2' k3'
   by_cases he : id = cx.base + s
   ·by_cases he' : id' = cx.base + s
    ·omega
    ·subst he
     rw [mset] at k3
     cases k3
     rw [hother he'] at k1'
     rw [mother he'] at k3'
     exact absurd ⟨id',v',blk',k1',k2',k3'⟩ hb2
   ·by_cases he' : id' = cx.base + s
    ·subst he'
     rw [mset] at k3'
     cases k3'
     rw [hother he] at k1
     rw [mother he] at k3
     exact absurd ⟨id,v,blk,k1,k2,k3⟩ hb2
    ·rw [hother he] at k1
     rw [mother he] at k3
     rw [hother he'] at k1'
     rw [mother he'] at k3'
     exact ho.inj id id' v v' blk blk' q k1 k2 k3 k1' k2' k3'
  ·intro q hq
   rcases hlive q hq with h | rfl
   ·exact ho.sub q h
   ·exact hx
  ·simp only [R]
   refine ⟨_,cap,rfl,g1,by simp,v0 + 1,_,hset,Nat.le_refl _,fun _ z' es' hb' => ?_⟩
   cases hb'
   refine ⟨rfl,Nat.le_refl _,fun _ => ⟨b,mset,.inr ⟨by simp,by omega, ?_⟩⟩⟩
   simp only [bsize,g3,Nat.zero_add]
   exact g2
theorem GiveL.get : ∀ {B : List Nat} {cs : List AV} {us : List Value},GiveL w X m h B cs us → ∀ (j : Nat) c,cs[j]? = some c → ∃ B1 B2 B3 u,B = B1 ++ B2 ++ B3 ∧ us[j]? = some u ∧ GiveR w X m h B2 c u ∧
  ∀ {m2 : Map} {h2 : Heap} (c' : AV),(∀ v u,R w X m h v u → R w X m2 h2 v u) → R w X m2 h2 c' u → (∀ z es,c' ≠ .own z es) → GiveL w X m2 h2 (B1 ++ B3) (cs.set j c') us
 | B,[],us,_,j,c,hc => by simp at hc
 | B,x :: cs,us,hg,j,c,hc => by
  simp only [GiveL] at hg
  obtain ⟨B1,B2,u,us',rfl,rfl,g1,g2⟩ := hg
  have lift : ∀ {m2 : Map} {h2 : Heap},(∀ v u,R w X m h v u → R w X m2 h2 v u) → ∀ {B : List Nat} {v : AV} {u : Value},GiveR w X m h B v u → GiveR w X m2 h2 B v u := by
   intro m2 h2 hl B v u hg
   unfold GiveR at hg ⊢
   split
   ·exact hg
   ·rename_i hne
    split at hg
    ·exact absurd rfl (hne _ _)
    ·exact ⟨hg.1,hl _ _ hg.2⟩
  have liftL : ∀ {m2 : Map} {h2 : Heap},(∀ v u,R w X m h v u → R w X m2 h2 v u) → ∀ {cs : List AV} {B : List Nat} {us : List Value},GiveL w X m h B cs us → GiveL w X m2 h2 B cs us := by
   intro m2 h2 hl cs
   induction cs with
   | nil => intro B us hg; exact hg
   | cons y ys ih =>
    intro B us hg
    simp only [GiveL] at hg ⊢
    obtain ⟨B1,B2,u,us',rfl,rfl,g1,g2⟩ := hg
    exact ⟨B1,B2,u,us',rfl,rfl,lift hl g1,ih g2⟩
  cases j with
  | zero =>
   simp only [List.getElem?_cons_zero,Option.some.injEq] at hc
   subst hc
   refine ⟨[],B1,B2,u,by simp,rfl,g1,fun {m2} {h2} c' hl hr hno => ?_⟩
   simp only [List.set_cons_zero,GiveL,List.nil_append]
   refine ⟨[],B2,u,us',rfl,rfl, ?_,liftL hl g2⟩
   unfold GiveR
   split
   ·exact absurd rfl (hno _ _)
   ·exact ⟨rfl,hr⟩
  | succ j =>
   simp only [List.getElem?_cons_succ] at hc
   obtain ⟨C1,C2,C3,u2,rfl,e2,e3,e4⟩ := GiveL.get g2 j c hc
   refine ⟨B1 ++ C1,C2,C3,u2,by simp [List.append_assoc],e2,e3,fun {m2} {h2} c' hl hr hno => ?_⟩
   simp only [List.set_cons_succ,GiveL]
   exact ⟨B1,C1 ++ C3,u,us',by simp [List.append_assoc],rfl,lift hl g1,e4 c' hl hr hno⟩
theorem takeOver_ok {lo : Nat} {w' : World} {cx : Cx} (hlo : lo ≤ cx.base) : ∀ (own : List (Nat × Nat)) (B : List Nat) (cs cs' : List AV) (us : List Value) (m1 : Map) (h1 h2 : Heap),Over lo w m h w' X m1 h1 → B.Nodup → (∀ b ∈ B,w.heap.size ≤ b ∧ ¬ Live m1 h1 b ∧ X b) →
  GiveL w' X m1 h1 B cs us → takeOver cx own cs h1 = some (cs',h2) →
  ∃ m2 B',Over lo w m h w' X m2 h2 ∧ (∀ b ∈ B',¬ Live m2 h2 b) ∧ GiveL w' X m2 h2 B' cs' us
 | [],B,cs,cs',us,m1,h1,h2,ho,_,hB,hg,ht => by
  simp only [takeOver,Option.some.injEq,Prod.mk.injEq] at ht
  obtain ⟨rfl,rfl⟩ := ht
  exact ⟨m1,B,ho,fun b hb => (hB b hb).2.1,hg⟩
 | (j,s) :: own,B,cs,cs',us,m1,h1,h2,ho,hn,hB,hg,ht => by
  simp only [takeOver] at ht
  split at ht
  ·rename_i z es hj
   split at ht
   ·rename_i hes
    split at ht
    ·rename_i hz
     obtain ⟨B1,B2,B3,u,rfl,hu,hgr,hset⟩ := GiveL.get hg j _ hj
     simp only [GiveR] at hgr
     rcases hgr with ⟨_,rfl,a,cap,rfl,hc⟩ | ⟨hne,_⟩
     ·obtain rfl := hc hz
      refine takeOver_ok hlo own (B1 ++ B3) _ cs' us m1 h1 h2 ho (by simpa using hn) (fun b hb => hB b (by simpa using hb)) (hset (.lsf 0 []) (fun _ _ h => h) ?_ (fun _ _ h => by cases h)) ht
      unfold R RC
      exact ⟨a,rfl,.inl rfl⟩
     ·exact absurd hes hne
    ·exact takeOver_ok hlo own B cs cs' us m1 h1 h2 ho hn hB hg ht
   ·rename_i hne
    obtain ⟨⟨ver,h3⟩,hm,ht⟩ := bE.mp ht
    obtain ⟨B1,B2,B3,u,rfl,hu,hgr,hset⟩ := GiveL.get hg j _ hj
    simp only [GiveR] at hgr
    obtain ⟨_,b,rfl,hown⟩ := hgr.resolve_left (fun h => hne h.1)
    obtain ⟨k1,k2,k3⟩ := hB b (by simp)
    obtain ⟨m3,ho3,hids,hR,hlv⟩ := ho.take hlo hm k1 k2 k3 hown
    have hnd : (B1 ++ B3).Nodup ∧ b ∉ B1 ++ B3 := by
     have h1 := hn
     simp only [List.nodup_append,List.mem_append,List.mem_cons,List.not_mem_nil,or_false,List.nodup_cons] at h1 ⊢
     obtain ⟨⟨a1,_,a3⟩,a4,a5⟩ := h1
     refine ⟨⟨a1,a4,fun x hx y hy => a5 x (.inl hx) y hy⟩, ?_⟩
     rintro (hb | hb)
     ·exact a3 b hb b rfl rfl
     ·exact a5 b (.inr rfl) b hb rfl
    refine takeOver_ok hlo own (B1 ++ B3) _ cs' us m3 h3 h2 ho3 hnd.1 (fun q hq => ?_) (hset _ (fun v u hr => R.step hids (Keep.refl _ _) v u hr) hR (fun _ _ h => by cases h)) ht
    have hq' : q ∈ B1 ++ [b] ++ B3 := by
     rcases List.mem_append.mp hq with h | h <;> simp [h]
    obtain ⟨q1,q2,q3⟩ := hB q hq'
    refine ⟨q1,fun hl => ?_,q3⟩
    rcases hlv q hl with h | rfl
    ·exact q2 h
    ·exact hnd.2 hq
  ·exact takeOver_ok hlo own B cs cs' us m1 h1 h2 ho hn hB hg ht
end
end Go.VI
