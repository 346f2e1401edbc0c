/- Rounds of loops over functions; the end theorem. -/
import Derived.Test.YtfpoegnmeoghpaaGreatDoorVIV
set_option linter.unusedVariables false
set_option linter.unusedSimpArgs false
namespace Go.VI
set_option linter.unusedSectionVars false
section
variable [Globs] [Rounds] {P : Program} {clo : Nat → Bool} {rds : Nat → Option XRnd} {call : Callee}
theorem rnd_env {w : World} {X : Nat → Prop} {m : Map} {h : Heap} : ∀ (ps : List Nat) (args : List AV) (vs : List Value) (env : Env) (tmps : Array Value),ps.length = args.length → RL w X m h args vs → (∀ p ∈ ps,p < tmps.size) → (∀ t,R w X m h (env.get t) (tmps.getD t undef)) →
  ∀ t,R w X m h (((ps.zip args).foldl (fun e p => e.set p.1 p.2) env).get t) (((ps.zip vs).foldl (fun tmps (p : Nat × Value) => tmps.setIfInBounds p.1 p.2) tmps).getD t undef)
 | [],args,vs,env,tmps,_,_,_,he => by simpa using he
 | p :: ps,[],vs,env,tmps,hl,_,_,_ => by simp at hl
 | p :: ps,a :: args,vs,env,tmps,hl,hr,hp,he => by
  simp only [RL] at hr
  obtain ⟨u,us,rfl,h1,h2⟩ := hr
  simp only [List.zip_cons_cons,List.foldl_cons]
  refine rnd_env ps args us _ _ (by simpa using hl) h2 (fun q hq => by simpa using hp q (by simp [hq])) fun t => ?_
  rw [Env.get_set]
  have hlt := hp p (by simp)
  split
  ·rename_i heq
   subst heq
   have : (tmps.setIfInBounds p u).getD p undef = u := by simp [hlt]
   rw [this]
   exact h1
  ·rename_i hne
   have : (tmps.setIfInBounds p u).getD t undef = tmps.getD t undef := by simp [Array.getElem?_setIfInBounds_ne hne]
   rw [this]
   exact he t
theorem rnd_size : ∀ (l : List (Nat × Value)) (tmps : Array Value),(l.foldl (fun tmps (p : Nat × Value) => tmps.setIfInBounds p.1 p.2) tmps).size = tmps.size
 | [],_ => rfl
 | _ :: l,tmps => by rw [List.foldl_cons,rnd_size l]; simp
theorem rndTmps_eq (r : Loop) (vs : List Value) : rndTmps r vs = (r.params.toList.zip vs).foldl (fun tmps (p : Nat × Value) => tmps.setIfInBounds p.1 p.2) r.tmps := by
 unfold rndTmps
 rw [← Array.foldl_toList,Array.toList_zip]
theorem round_ok {n : Nat} (hc : CallOk P clo call) (hrd : RdsOk P clo rds) (hm : P.follows .mixedOrders = true) {d : Rcd} {x : XRnd} (hx0 : rds d.g = some x) {id ver : Nat} {args : List AV} {h : Heap} {e : Ex} {h' : Heap} (hx : round x (fun cx => exec call cx n) d id ver args h = some (e,h'))
  {w : World} {m : Map} {l : Nat} {r : Loop} {vs : List Value} (hi : Inv w m h) (hid : h[id]? = some (ver,.rcd d .ready)) (hlo : d.lo ≤ id) (hml : m[id]? = some l) (hlp : w.heap[l]? = some (.loop r)) (hro : RcdOk w (Live m h) m h (.loop r) d .ready) (hl : RL w (Live m h) m h args vs) :
  r.params.size = vs.length ∧ RoundIn (fen none) 0 P l r.fn (rndTmps r vs) r.assign r.body w fun e' w' => ∃ m',e' = .returned (.bool (e == .norm)) ∧ Step d.lo w m h w' m' h' ∧ Inv w' m' h' := by
 obtain ⟨r',hr',hst,hdlo,hdns,hok,henv⟩ := hro
 cases hr'
 have hok2 := hrd.iff.mp hok
 unfold okRnd at hok2
 rw [hx0] at hok2
 simp only [Bool.and_eq_true,beq_iff_eq,List.all_eq_true,decide_eq_true_eq] at hok2
 obtain ⟨⟨⟨ok1,ok2⟩,ok3⟩,ok4⟩ := hok2
 unfold round at hx
 split at hx
 ·rename_i hal
  obtain ⟨⟨e1,env1,h1⟩,g1,g2⟩ := bE.mp hx
  clear hx
  dsimp only at g1 g2
  have hvl := (RL_get _ _ hl).1
  have hps : r.params.size = vs.length := by
   have : x.ps.length = r.params.size := by rw [ok1]; simp
   omega
  refine ⟨hps, ?_⟩
  split at g2
  ·rename_i he1
   subst he1
   split at g2
   ·rename_i v1 d1 hid1
    split at g2
    ·rename_i hv1
     subst hv1
     obtain ⟨⟨e2,env2,h3⟩,g3,g4⟩ := bE.mp g2
     clear g2
     dsimp only at g3 g4
     split at g4
     ·rename_i v2 d2 hid2
      split at g4
      ·rename_i hv2
       subst hv2
       simp only [Option.some.injEq,Prod.mk.injEq] at g4
       obtain ⟨rfl,rfl⟩ := g4
       have hy0 : YldAt m h id v2 l := ⟨v2,_,hid,Nat.le_refl _,fun _ _ _ _ => hml⟩
       have hf0 : Fr ⟨r.tmps.size,0,some l,some (id,v2)⟩ w m h ((x.ps.zip args).foldl (fun e p => e.set p.1 p.2) d.env) { tmps := rndTmps r vs,defers := [] } := by
        refine ⟨⟨fun t => ?_,hi.glob⟩, ?_,⟨[],rfl,List.nodup_nil,fun D hD => by simp at hD⟩,hy0,Nat.zero_le _⟩
        ·show R w _ m h _ ((rndTmps r vs).getD t undef)
         rw [rndTmps_eq,ok1]
         exact rnd_env _ _ _ _ _ (by rw [← ok1]; omega) hl (fun p hp => ok2 p hp) henv t
        ·show (rndTmps r vs).size = _
         rw [rndTmps_eq,rnd_size]
       have hasg := code_wp hc hrd hm (N := ⟨r.tmps.size,0,some l,some (id,v2)⟩) (cx := { lo := d.lo,base := d.base,ns := d.ns,rnd := some (id,v2) }) hdlo rfl n x.asg r.assign ok3 hi hf0 hdns g1
       refine roundIn_of_wpIn (F := fen none) trivial (wpIn_mono hasg ?_)
       rintro e' a1 w1 ⟨rfl,m1,s1,i1,f1⟩
       show ∃ w2,(Instr.beginRound l).run P w1 = .ok () w2 ∧ _
       -- the record is ready
       obtain ⟨v3,blk3,q1,q2,q3⟩ := YldAt.step s1.ids hy0
       rw [hid1] at q1
       cases q1
       have hml1 := q3 rfl d1 .ready rfl
       obtain ⟨b,o,p1,p2,p3⟩ := i1.rcd id _ d1 .ready hid1
       rw [hml1] at p1
       cases p1
       obtain ⟨r1,rfl,hst1,t1,t2,t3,t4⟩ := p3
       obtain ⟨_,hput⟩ := rcd_put i1 hid1 hml1 (.loop { r1 with state := .busy }) (lo := d.lo) hlo
       obtain ⟨s2,i2⟩ := hput .busy rfl rfl ⟨_,rfl,rfl,t1,t2,t3,t4⟩
       refine ⟨_,run_beginRound p2 hst1.1, ?_⟩
       have hbody := code_wp hc hrd hm (N := ⟨r.tmps.size,0,some l,some (id,v2)⟩) (cx := { lo := d.lo,base := d.base,ns := d.ns,rnd := some (id,v2) }) hdlo rfl n x.body r.body ok4 i2 (f1.step s2) (by rw [s2.len,s1.len]; exact hdns) g3
       refine wpIn_mono hbody ?_
       rintro e' a3 w3 ⟨rfl,m3,s3,i3,f3⟩
       obtain ⟨v4,blk4,q4,q5,q6⟩ := YldAt.step (s2.trans s3).ids (YldAt.step s1.ids hy0)
       rw [hid2] at q4
       cases q4
       have hml3 := q6 rfl d2 .busy rfl
       obtain ⟨b3,o3,z1,z2,z3⟩ := i3.rcd id _ d2 .busy hid2
       rw [hml3] at z1
       cases z1
       obtain ⟨r3,rfl,hst3,y1,y2,y3,y4⟩ := z3
       have fin : ∀ (jump : Option Code) (st : RS),st.is { r3 with state := if jump.isNone then .ready else .done,pending := jump } → st = (if e2 = .norm then RS.ready else RS.done e2) → jump.isNone = (e2 == .norm) →
         ∃ v w',(Instr.endRound l jump).run P w3 = .ok v w' ∧ ∃ m',Ending.returned v = .returned (.bool (e2 == .norm)) ∧ Step d.lo w m h w' m' (h3.set id (v2,.rcd d2 (if e2 = .norm then .ready else .done e2))) ∧ Inv w' m' (h3.set id (v2,.rcd d2 (if e2 = .norm then .ready else .done e2))) := by
        intro jump st hst4 hste hj
        obtain ⟨_,hput3⟩ := rcd_put i3 hid2 hml3 (.loop { r3 with state := if jump.isNone then .ready else .done,pending := jump }) (lo := d.lo) hlo
        obtain ⟨s4,i4⟩ := hput3 st rfl (by rw [hste]; split <;> rfl) (RcdOk.mk hst4 y1 y2 y3 y4)
        rw [← hste]
        refine ⟨_,_,run_endRound jump z2,m3,by rw [hj],((s1.trans s2).trans s3).trans s4,i4⟩
       cases e2 with
       | norm => exact fin none .ready ⟨rfl,rfl⟩ rfl rfl
       | exit i =>
        by_cases hi : i < 1000
        ·have hj : jumpOf i = .exit i := if_pos hi
         rw [toExit_lt hi]
         exact fin (some (.exit i)) (.done (.exit i)) ⟨rfl,by rw [hj]⟩ rfl rfl
        ·have hj : jumpOf i = .goto (i - 1000) := if_neg hi
         rw [toExit_ge hi]
         exact fin (some (.goto (i - 1000))) (.done (.exit i)) ⟨rfl,by rw [hj]⟩ rfl rfl
       | ret => exact fin (some .ret) (.done .ret) ⟨rfl,rfl⟩ rfl rfl
      ·cases g4
     ·cases g4
    ·cases g2
   ·cases g2
  ·cases g2
 ·cases hx
def OrcOk (P : Program) (orc : Nat → List AV → Heap → Option AV) : Prop :=
 ∀ (f : Nat) (args : List AV) (h : Heap) (r : AV),orc f args h = some r → Enters P f ∧ ∀ (w : World) (m : Map) (vs : List Value),Inv w m h → RL w (Live m h) m h args vs →
  Calls P f vs.toArray w fun e w' => ∃ u,e = .returned u ∧ RowKit.Below w.heap.size w w' ∧ Res w w' m h r u
structure Tab (P : Program) (clo : Nat → Bool) (L : Lib) : Prop where
 mixed : P.follows .mixedOrders = true
 fn : ∀ f x,L.fns f = some x → okFn P clo L.rds f x = true
 orc : OrcOk P L.orc
 ext : ∀ f args h r,L.orc f args h = some r → ∀ i v b,h[i]? = some (v,Blk.dead) → L.orc f args (h.set i b) = some r
 none : ∀ f args h,L.orc f args h = none → ∀ i v b,h[i]? = some (v,Blk.dead) → (L.fns f).isSome = true → L.orc f args (h.set i b) = none
 wr : ∀ f,Globs.bldF f = true → WrOk P f
 bs : ∀ f,Globs.bstF f = true → BsOk P f
theorem Tab.callExt {L : Lib} (ht : Tab P clo L) (n : Nat) : CallExt clo (ex L n) := by
 have hst : ∀ f x,L.fns f = some x → clo (f + 5000) = true → x.code.still clo = true := fun f x hf hc => by
  have hk := ht.fn f x hf
  unfold okFn at hk
  split at hk
  ·simp only [Bool.and_eq_true] at hk
   have := hk.1.1.2.2
   rw [hc] at this
   simpa using this
  ·cases hk
 refine ex_ext (fun f x hf hc => ?_) hst ht.ext ht.none n
 have hk := ht.fn f x hf
 unfold okFn at hk
 split at hk
 ·simp only [Bool.and_eq_true] at hk
  have := hk.1.1.2.1
  rw [hc] at this
  simpa using this
 ·cases hk
theorem ex_ok {L : Lib} (hrd : RdsOk P clo L.rds) (ht : Tab P clo L) : ∀ n,CallOk P clo (ex L n)
 | 0 => ⟨fun {f args h lo r h'} hx => by simp [ex] at hx,fun {f args h lo r h'} _ hx => by simp [ex] at hx,fun {d id ver args h e h'} hx => by simp [ex] at hx,ht.callExt 0,ht.wr,ht.bs⟩
 | n + 1 => by
  have ih := ex_ok hrd ht n
  refine ⟨fun {f args h lo r h'} hx => ?_,fun {f args h lo r h'} hclo hx => ?_,fun {d id ver args h e h'} hx {w m l r vs} hi hid hlo hml hlp hro hl => ?_,ht.callExt (n + 1),ht.wr,ht.bs⟩
  ·simp only [ex] at hx
   split at hx
   ·rename_i q hq
    simp only [Option.some.injEq,Prod.mk.injEq] at hx
    obtain ⟨rfl,rfl⟩ := hx
    obtain ⟨h1,h2⟩ := ht.orc f args h q hq
    refine ⟨h1,fun w m vs hi hl _ => (h2 w m vs hi hl).mono ?_⟩
    rintro e w' ⟨u,rfl,hb,hr⟩
    exact ⟨u,m,rfl,below_step hi hb,below_inv hi hb,hr⟩
   ·obtain ⟨x,hf,hx⟩ := bE.mp hx
    obtain ⟨_,h1,h2⟩ := enterB_ok ih (ex_low L n) hrd ht.mixed (ht.fn f x hf) hx
    exact ⟨h1,h2⟩
  ·simp only [ex] at hx
   split at hx
   ·simp only [Option.some.injEq,Prod.mk.injEq] at hx
    exact hx.2.symm
   ·obtain ⟨x,hf,hx⟩ := bE.mp hx
    exact (enterB_ok ih (ex_low L n) hrd ht.mixed (ht.fn f x hf) hx).1 hclo
  ·simp only [ex] at hx
   obtain ⟨x,hf,hx⟩ := bE.mp hx
   exact round_ok ih hrd ht.mixed hf hx hi hid hlo hml hlp hro hl
end
@[reducible] def roundsG (P : Program) (clo : Nat → Bool) (rds : Nat → Option XRnd) (G : Globs) : Rounds :=
 letI : Globs := G
 ⟨fun g N ps a b => okRnd P clo rds N g ps a b = true⟩
theorem run_callsG {P : Program} {clo : Nat → Bool} {L : Lib} {G : Globs} (ht : @Tab G (roundsG P clo L.rds G) P clo L) {f : Nat} {args : List AV} {b : Bool} {h' : Heap} (hx : (run L).fn f args [] 0 = some (.bool b,h')) {w : World} (hg : @GlobOk G w (fun _ => False)) {vs : List Value} (hl : RCL w (fun _ => False) args vs) :
  Calls P f vs.toArray w fun e w' => e = .returned (.bool b) ∧ RowKit.Below w.heap.size w w' := by
 letI : Globs := G
 letI : Rounds := roundsG P clo L.rds G
 obtain ⟨n,hn⟩ := (run_iff L).mp hx
 have hc := ex_ok (P := P) (clo := clo) (L := L) ⟨Iff.rfl⟩ ht n
 have hlive : ∀ b,¬ Live [] [] b := by rintro b ⟨id,v,blk,h,_⟩; simp at h
 have hi : Inv w [] [] := lent_inv hg
 have hl' : RL w (Live [] []) [] [] args vs := RL.of_RCL _ _ (RCL.keep (Keep.weaken fun b hb => absurd hb (hlive b)) _ _ hl)
 refine ((hc.does hn).2 w [] vs hi hl' (Nat.le_refl _)).mono ?_
 rintro e w' ⟨u,m',rfl,s1,i1,r1⟩
 have hr := r1.weak
 simp only [weak,weak1,R_bool] at hr
 subst hr
 exact ⟨rfl,s1.os,s1.tape,s1.output,s1.keep.size,fun q hq => s1.old q hq (hlive q)⟩
end Go.VI
