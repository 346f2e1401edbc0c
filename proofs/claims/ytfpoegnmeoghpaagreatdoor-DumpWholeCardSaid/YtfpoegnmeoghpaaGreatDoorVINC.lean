/- Operations exchanged. -/
import Derived.Test.YtfpoegnmeoghpaaGreatDoorVINB
set_option linter.unusedVariables false
set_option linter.unusedSimpArgs false
namespace Go.VI
set_option linter.unusedSectionVars false
variable [Globs] [Rounds]
section
variable {P : Program} {clo : Nat → Bool} {call : Callee} {cx : Cx} {e : Env} {h : Heap} {x y : XOp}
theorem setParts_closed {base z : Nat} {env : Env} : ∀ (ps : List (Nat × Opd)) (es es' : List AV) (h h' : Heap),(∀ p ∈ ps,(p.2.ev env).closed = true) → setParts env base z ps es h = some (es',h') → h' = h ∧ ∀ h2,setParts env base z ps es h2 = some (es',h2)
 | [],es,es',h,h',_,ht => by
  simp only [setParts,Option.some.injEq,Prod.mk.injEq] at ht
  obtain ⟨rfl,rfl⟩ := ht
  exact ⟨rfl,fun h2 => by simp [setParts]⟩
 | (k,x) :: ps,es,es',h,h',hc,ht => by
  simp only [setParts] at ht
  obtain ⟨⟨y,h1⟩,hf,ht2⟩ := bE.mp ht
  clear ht
  dsimp only at ht2
  split at ht2
  ·rename_i hcond
   obtain ⟨rfl,k2⟩ := frz_closed _ _ _ _ (hc (k,x) (by simp)) hf
   obtain ⟨rfl,k4⟩ := setParts_closed ps _ _ _ _ (fun p hp => hc p (by simp [hp])) ht2
   refine ⟨rfl,fun h2 => ?_⟩
   simp only [setParts]
   refine bE.mpr ⟨_,k2 h2, ?_⟩
   dsimp only
   rw [if_pos hcond]
   exact k4 h2
  ·cases ht2
omit [Globs] [Rounds] in
theorem pcells_closed {v : AV} {h : Heap} {cs : List AV} (hc : v.closed = true) (hp : pcells h v = some cs) (h' : Heap) : pcells h' v = some cs := by
 cases v <;> simp only [AV.closed,pcells,Bool.false_eq_true,reduceCtorEq] at hc hp ⊢
 exact hp
theorem pure0 (hc : x.cls clo = 0) {v : AV} {h1 : Heap} (hx : xic call cx e h x = some (v,h1)) : h1 = h ∧ ∀ h2,xic call cx e h2 x = some (v,h2) := by
 obtain ⟨hx1,hx2⟩ := xic_some hx
 have fin : x.plain = true → (h1 = h ∧ ∀ h2,xi call cx e h2 x.op = some (v,h2)) → h1 = h ∧ ∀ h2,xic call cx e h2 x = some (v,h2) :=
  fun hp ⟨a,b⟩ => ⟨a,fun h2 => xic_run (by rw [← plain_chk hp]; exact hx2) (b h2)⟩
 cases hop : x.op <;> rw [hop] at hx1 fin <;> simp only [XOp.cls,hop] at hc
 case load sh p =>
  split at hc
  ·rename_i hp
   split at hc
   ·rename_i hsh
    refine fin hp ?_
    simp only [xi] at hx1 ⊢
    obtain ⟨cs,h2,hx3⟩ := bE.mp hx1
    obtain ⟨q,h3,he⟩ := mE.mp hx3
    simp only [Prod.mk.injEq] at he
    obtain ⟨rfl,rfl⟩ := he
    exact ⟨rfl,fun h' => bE.mpr ⟨cs,pcells_closed (shut_of hsh hx2) h2 h',mE.mpr ⟨q,h3,rfl⟩⟩⟩
   ·(repeat' split at hc) <;> cases hc
  ·cases hc
 case call => (repeat' split at hc) <;> cases hc
 case alloc => split at hc <;> cases hc
 case box => split at hc <;> cases hc
 case store => (repeat' split at hc) <;> cases hc
 case mk => split at hc <;> cases hc
 case app => split at hc <;> cases hc
 case bslice z zero n ps =>
  split at hc
  ·rename_i hcond
   simp only [Bool.and_eq_true,List.all_eq_true] at hcond
   refine fin hcond.2 ?_
   simp only [xi] at hx1 ⊢
   obtain ⟨⟨es,h2⟩,hs,he⟩ := mE.mp hx1
   simp only [Prod.mk.injEq] at he
   obtain ⟨rfl,rfl⟩ := he
   obtain ⟨k1,k2⟩ := setParts_closed ps _ _ _ _ (fun p hp => shut_of (hcond.1 p hp) hx2) hs
   exact ⟨k1,fun h2 => mE.mpr ⟨_,k2 h2,rfl⟩⟩
  ·cases hc
 case boxR p =>
  split at hc
  ·rename_i hcond
   simp only [Bool.and_eq_true] at hcond
   refine fin hcond.2 ?_
   simp only [xi] at hx1 ⊢
   split at hx1
   ·rename_i hval
    obtain ⟨⟨es,h2⟩,hs,he⟩ := mE.mp hx1
    simp only [Prod.mk.injEq] at he
    obtain ⟨rfl,rfl⟩ := he
    obtain ⟨k1,k2⟩ := frz_closed _ _ _ _ (shut_of hcond.1 hx2) hs
    exact ⟨k1,fun h2 => by rw [if_pos hval]; exact mE.mpr ⟨_,k2 h2,rfl⟩⟩
   ·cases hx1
  ·cases hc
 case copy => cases hc
 case mput => cases hc
 case mdel => cases hc
 case mkmap => cases hc
 case mkbld => cases hc
 case bwr => cases hc
 case clr => cases hc
 case pnc => cases hc
 case apz => cases hc
 case mget => split at hc <;> cases hc
 case toStr => split at hc <;> cases hc
 case bstr => split at hc <;> cases hc
 all_goals
  split at hc
  ·rename_i hp
   refine fin hp ?_
   clear fin hx hx2
   simp only [xi] at hx1 ⊢
   first
    | (simp only [Option.some.injEq,Prod.mk.injEq] at hx1; obtain ⟨rfl,rfl⟩ := hx1; exact ⟨rfl,fun _ => rfl⟩)
    | (split at hx1
       ·rename_i hz; simp only [Option.some.injEq,Prod.mk.injEq] at hx1; obtain ⟨rfl,rfl⟩ := hx1; exact ⟨rfl,fun _ => by rw [if_pos hz]⟩
       ·cases hx1)
    | (obtain ⟨q,h3,he⟩ := mE.mp hx1; simp only [Prod.mk.injEq] at he; obtain ⟨rfl,rfl⟩ := he; exact ⟨rfl,fun _ => mE.mpr ⟨q,h3,rfl⟩⟩)
    | (obtain ⟨q0,h2,hx1⟩ := bE.mp hx1; obtain ⟨q,h3,he⟩ := mE.mp hx1; simp only [Prod.mk.injEq] at he; obtain ⟨rfl,rfl⟩ := he; exact ⟨rfl,fun _ => bE.mpr ⟨q0,h2,mE.mpr ⟨q,h3,rfl⟩⟩⟩)
    | (split at hx1
       ·obtain ⟨q,h3,he⟩ := mE.mp hx1; simp only [Prod.mk.injEq] at he; obtain ⟨rfl,rfl⟩ := he; exact ⟨rfl,fun _ => mE.mpr ⟨q,h3,rfl⟩⟩
       ·cases hx1)
    | (split at hx1
       ·obtain ⟨q0,h2,hx1⟩ := bE.mp hx1; obtain ⟨q,h3,he⟩ := mE.mp hx1; simp only [Prod.mk.injEq] at he; obtain ⟨rfl,rfl⟩ := he; exact ⟨rfl,fun _ => bE.mpr ⟨q0,h2,mE.mpr ⟨q,h3,rfl⟩⟩⟩
       ·cases hx1)
    | (split at hx1
       ·rename_i hz; obtain ⟨q0,h2,hx1⟩ := bE.mp hx1; obtain ⟨q,h3,he⟩ := mE.mp hx1; simp only [Prod.mk.injEq] at he; obtain ⟨rfl,rfl⟩ := he; exact ⟨rfl,fun _ => by rw [if_pos hz]; exact bE.mpr ⟨q0,h2,mE.mpr ⟨q,h3,rfl⟩⟩⟩
       ·cases hx1)
  ·cases hc
theorem oneOf_of {f : Opd} (ho : x.oneOf clo f = true) (hc : x.chk.all (Chk.ok cx e h) = true) {g : Nat} {cs : List AV} (hf : f.ev e = .fn g cs) : clo (mvF g) = true := by
 unfold XOp.oneOf at ho
 split at ho
 ·rename_i t
  obtain ⟨c,hcm,hc2⟩ := List.any_eq_true.mp ho
  have := List.all_eq_true.mp hc c hcm
  cases c <;> simp only [Bool.false_eq_true] at hc2
  rename_i t' gs
  simp only [Bool.and_eq_true,beq_iff_eq] at hc2
  obtain ⟨rfl,hgs⟩ := hc2
  simp only [Chk.ok] at this
  have hf' : e.get t = .fn g cs := hf
  rw [hf'] at this
  exact List.all_eq_true.mp hgs g (by simpa using this)
 ·simp only [Opd.ev,AV.fn.injEq] at hf
  rw [← hf.1]
  exact ho
 ·cases ho
theorem reads_ok (hcall : CallOk P clo call) (hlo : cx.lo ≤ cx.base) (hc : x.cls clo = 1 ∨ x.cls clo = 3 ∨ x.cls clo = 4) {v : AV} {h1 : Heap} (hx : xic call cx e h x = some (v,h1)) :
  h1 = h ∧ ∀ i w b,h[i]? = some (w,.dead) → xic call cx e (h.set i b) x = some (v,h.set i b) := by
 obtain ⟨hx1,hx2⟩ := xic_some hx
 cases hop : x.op
 case load sh p =>
  have hp : x.plain = true := by
   simp only [XOp.cls,hop] at hc
   by_cases hp : x.plain = true
   ·exact hp
   ·rw [if_neg hp] at hc; simp at hc
  rw [hop] at hx1
  simp only [xi] at hx1
  obtain ⟨cs,h2,hx3⟩ := bE.mp hx1
  obtain ⟨q,h3,he⟩ := mE.mp hx3
  simp only [Prod.mk.injEq] at he
  obtain ⟨rfl,rfl⟩ := he
  refine ⟨rfl,fun i w b hd => xic_run (by rw [← plain_chk hp]; exact hx2) ?_⟩
  rw [hop]
  simp only [xi]
  exact bE.mpr ⟨cs,pcells_ext h2 hd,mE.mpr ⟨q,h3,rfl⟩⟩
 case call f args own =>
  have hp : (own.isEmpty && x.oneOf clo f && x.plain) = true := by
   simp only [XOp.cls,hop] at hc
   by_cases hp : (own.isEmpty && x.oneOf clo f && x.plain) = true
   ·exact hp
   ·rw [if_neg hp] at hc; split at hc <;> simp at hc
  simp only [Bool.and_eq_true,List.isEmpty_iff] at hp
  obtain ⟨⟨rfl,hof⟩,hp⟩ := hp
  rw [hop] at hx1
  have hfn : ∃ g cs,f.ev e = .fn g cs := by
   simp only [xi] at hx1
   split at hx1
   ·rename_i g cs hf; exact ⟨g,cs,hf⟩
   ·rename_i id ver hf
    unfold XOp.oneOf at hof
    split at hof
    ·rename_i t
     obtain ⟨c,hcm,hc2⟩ := List.any_eq_true.mp hof
     have := List.all_eq_true.mp hx2 c hcm
     cases c <;> simp only [Bool.false_eq_true] at hc2
     rename_i t' gs
     simp only [Bool.and_eq_true,beq_iff_eq] at hc2
     obtain ⟨rfl,hgs⟩ := hc2
     simp only [Chk.ok] at this
     have hf' : e.get t = .yld id ver := hf
     rw [hf'] at this
     cases this
    ·simp [Opd.ev] at hf
    ·cases hof
   ·cases hx1
  obtain ⟨g,cs,hf⟩ := hfn
  have hclo := oneOf_of hof hx2 hf
  have hh : h1 = h := by
   simp only [xi,hf] at hx1
   obtain ⟨⟨r,h2⟩,h3,hx1⟩ := bE.mp hx1
   simp only [Option.some.injEq,Prod.mk.injEq] at hx1
   obtain ⟨_,rfl⟩ := hx1
   exact hcall.shut hclo h3
  subst hh
  refine ⟨rfl,fun i w b hd => xic_run (by rw [← plain_chk hp]; exact hx2) ?_⟩
  rw [hop]
  exact (call_ext (b := b) hcall.ext hlo hx1 hd (.inr ⟨.inl rfl,g,cs,hf,.inl hclo⟩)).2
 case mget zero ok p q =>
  have hp : x.plain = true := by
   simp only [XOp.cls,hop] at hc
   by_cases hp : x.plain = true
   ·exact hp
   ·rw [if_neg hp] at hc; simp at hc
  rw [hop] at hx1
  simp only [xi] at hx1
  obtain ⟨q,h3,he⟩ := mE.mp hx1
  simp only [Prod.mk.injEq] at he
  obtain ⟨rfl,rfl⟩ := he
  refine ⟨rfl,fun i w b hd => xic_run (by rw [← plain_chk hp]; exact hx2) ?_⟩
  rw [hop]
  simp only [xi]
  exact mE.mpr ⟨q,mgetv_ext h3 hd,rfl⟩
 case bstr f p =>
  have hp : x.plain = true := by
   simp only [XOp.cls,hop] at hc
   by_cases hp : x.plain = true
   ·exact hp
   ·rw [if_neg hp] at hc; simp at hc
  rw [hop] at hx1
  simp only [xi] at hx1
  obtain ⟨q,h3,he⟩ := mE.mp hx1
  simp only [Prod.mk.injEq] at he
  obtain ⟨rfl,rfl⟩ := he
  refine ⟨rfl,fun i w b hd => xic_run (by rw [← plain_chk hp]; exact hx2) ?_⟩
  rw [hop]
  simp only [xi]
  exact mE.mpr ⟨q,bstrv_ext h3 hd,rfl⟩
 case toStr p =>
  have hp : x.plain = true := by
   simp only [XOp.cls,hop] at hc
   by_cases hp : x.plain = true
   ·exact hp
   ·rw [if_neg hp] at hc; simp at hc
  rw [hop] at hx1
  simp only [xi] at hx1
  obtain ⟨es,h2,hx3⟩ := bE.mp hx1
  obtain ⟨q,h3,he⟩ := mE.mp hx3
  simp only [Prod.mk.injEq] at he
  obtain ⟨rfl,rfl⟩ := he
  refine ⟨rfl,fun i w b hd => xic_run (by rw [← plain_chk hp]; exact hx2) ?_⟩
  rw [hop]
  simp only [xi]
  exact bE.mpr ⟨es,asList_ext h2 hd,mE.mpr ⟨q,h3,rfl⟩⟩
 all_goals (simp only [XOp.cls,hop] at hc; (repeat' split at hc) <;> simp at hc)
theorem class_loc {c : Nat} (hc : x.cls clo = c) (h3 : 3 ≤ c) (h7 : c ≤ 7) {v : AV} {h1 : Heap} (hx : xic call cx e h x = some (v,h1)) : ∃ S w,ClsLoc c S (fun h => xic call cx e h x) h v w ∧ h1 = appW w h := by
 cases hop : x.op <;> simp only [XOp.cls,hop] at hc
 case load sh p =>
  split at hc
  ·rename_i hp
   split at hc
   ·omega
   split at hc
   ·rename_i he
    subst hc
    obtain ⟨S,k1,k2⟩ := load_loc hop hp hx (.inl ⟨rfl,he⟩)
    exact ⟨S,none,k1,k2⟩
   ·split at hc
    ·rename_i he
     subst hc
     obtain ⟨S,k1,k2⟩ := load_loc hop hp hx (.inr ⟨rfl,he⟩)
     exact ⟨S,none,k1,k2⟩
    ·omega
  ·omega
 case alloc s zero =>
  split at hc
  ·rename_i hp
   simp only [Bool.and_eq_true] at hp
   subst hc
   exact alloc_loc (.inl ⟨_,hop⟩) hp.1 hp.2 hx
  ·omega
 case box s p =>
  split at hc
  ·rename_i hp
   simp only [Bool.and_eq_true] at hp
   subst hc
   exact alloc_loc (.inr ⟨_,hop⟩) hp.1 hp.2 hx
  ·omega
 case store sz p q =>
  split at hc
  ·rename_i hp
   split at hc
   ·rename_i hb
    subst hc
    exact storeB_loc hop hp hb hx
   ·split at hc
    ·rename_i hb
     simp only [Bool.and_eq_true] at hb
     subst hc
     exact storeE_loc hop hp hb.1 hb.2 hx
    ·omega
  ·omega
 case mk s z zero lim n k =>
  split at hc
  ·rename_i hp
   simp only [Bool.and_eq_true] at hp
   subst hc
   exact mk_loc hop (by simpa using hp.1.1) hp.1.2 hp.2 hx
  ·omega
 case app s z lim p q =>
  split at hc
  ·rename_i hp
   simp only [Bool.and_eq_true] at hp
   subst hc
   exact app_loc hop (by simpa using hp.1.1) hp.1.2 hp.2 hx
  ·omega
 case call f args own => split at hc; (· omega); (split at hc <;> omega)
 all_goals first | (split at hc <;> omega) | omega
theorem cls8 (hc : x.cls clo = 8) : ∃ f args,x.op = .call f args [] ∧ calm clo f = true ∧ x.plain = true := by
 cases hop : x.op <;> simp only [XOp.cls,hop] at hc
 case call f args own =>
  split at hc
  ·omega
  ·split at hc
   ·rename_i h
    simp only [Bool.and_eq_true,List.isEmpty_iff] at h
    obtain ⟨⟨rfl,h1⟩,h2⟩ := h
    exact ⟨f,args,rfl,h1,h2⟩
   ·omega
 all_goals ((repeat' split at hc) <;> omega)
theorem comm (hcall : CallOk P clo call) (hlo : cx.lo ≤ cx.base) (hs : clsOk (x.cls clo) (y.cls clo) = true) {vx vy : AV} {h1 h2 : Heap} (hx : xic call cx e h x = some (vx,h1)) (hy : xic call cx e h1 y = some (vy,h2)) :
  ∃ h1',xic call cx e h y = some (vy,h1') ∧ xic call cx e h1' x = some (vx,h2) := by
 by_cases hx0 : x.cls clo = 0
 ·obtain ⟨rfl,hall⟩ := pure0 hx0 hx
  exact ⟨h2,hy,hall h2⟩
 by_cases hy0 : y.cls clo = 0
 ·obtain ⟨rfl,hall⟩ := pure0 hy0 hy
  exact ⟨h,hall h,hx⟩
 have hrr : (x.cls clo = 1 ∨ x.cls clo = 3 ∨ x.cls clo = 4) → (y.cls clo = 1 ∨ y.cls clo = 3 ∨ y.cls clo = 4) → ∃ h1',xic call cx e h y = some (vy,h1') ∧ xic call cx e h1' x = some (vx,h2) := by
  intro a b
  obtain ⟨rfl,_⟩ := reads_ok hcall hlo a hx
  obtain ⟨rfl,_⟩ := reads_ok hcall hlo b hy
  exact ⟨_,hy,hx⟩
 have hra : (x.cls clo = 1 ∨ x.cls clo = 3 ∨ x.cls clo = 4) → y.cls clo = 5 → ∃ h1',xic call cx e h y = some (vy,h1') ∧ xic call cx e h1' x = some (vx,h2) := by
  intro a b
  obtain ⟨rfl,hext⟩ := reads_ok hcall hlo a hx
  obtain ⟨S,w,k1,rfl⟩ := class_loc b (by omega) (by omega) hy
  cases w with
  | none => exact ⟨_,hy,hx⟩
  | some p =>
   obtain ⟨i,bb⟩ := p
   obtain ⟨⟨q,q1,q2⟩,_⟩ := k1.wt i bb rfl
   obtain ⟨w0,b0⟩ := q
   have : b0 = .dead := by
    simp only [needW,beq_iff_eq] at q2
    cases b0 <;> simp [Blk.kind] at q2 ⊢
   subst this
   exact ⟨_,hy,hext i w0 bb q1⟩
 have hap : 3 ≤ x.cls clo → 3 ≤ y.cls clo → (x.cls clo,y.cls clo) ∈ apartL → ∃ h1',xic call cx e h y = some (vy,h1') ∧ xic call cx e h1' x = some (vx,h2) := by
  intro a b hac
  have h77 : ∀ p ∈ apartL,p.1 ≤ 7 ∧ p.2 ≤ 7 := by decide
  obtain ⟨S,w,k1,rfl⟩ := class_loc rfl a (h77 _ hac).1 hx
  obtain ⟨S',w',k1',rfl⟩ := class_loc rfl b (h77 _ hac).2 hy
  exact comm_loc hac k1 k1'
 have hqa : x.cls clo = 8 → y.cls clo = 5 → ∃ h1',xic call cx e h y = some (vy,h1') ∧ xic call cx e h1' x = some (vx,h2) := by
  intro a b
  obtain ⟨f,args,hop,hcm,hpl⟩ := cls8 a
  obtain ⟨S,w,k1,rfl⟩ := class_loc b (by omega) (by omega) hy
  obtain ⟨hx1,hx2⟩ := xic_some hx
  rw [hop] at hx1
  obtain ⟨g,cs,hf,hg⟩ : ∃ g cs,f.ev e = .fn g cs ∧ clo (mvF g + 5000) = true := by
   unfold calm at hcm
   split at hcm
   ·rename_i g cs; exact ⟨g,cs,rfl,hcm⟩
   ·cases hcm
  have hcall2 : ∃ r,call.fn (mvF g) (mvA g (evs e args) cs) h cx.lo = some (r,h1) := by
   simp only [xi,hf] at hx1
   obtain ⟨⟨r,h3⟩,h4,hx1⟩ := bE.mp hx1
   simp only [Option.some.injEq,Prod.mk.injEq] at hx1
   obtain ⟨_,rfl⟩ := hx1
   exact ⟨r,h4⟩
  obtain ⟨r,hcall2⟩ := hcall2
  cases w with
  | none => exact ⟨h,k1.loc.run h (fun id hid => by obtain ⟨z,_,q⟩ := k1.rd id hid (by simp); simp [needR] at q),hx⟩
  | some p =>
   obtain ⟨i,bb⟩ := p
   obtain ⟨⟨q,q1,q2⟩,_⟩ := k1.wt i bb rfl
   obtain ⟨w0,b0⟩ := q
   have : b0 = .dead := by
    simp only [needW,beq_iff_eq] at q2
    cases b0 <;> simp [Blk.kind] at q2 ⊢
   subst this
   have hS : ∀ id,S id → id = i := fun id hid => by
    apply Classical.byContradiction
    intro hne
    obtain ⟨z,_,q⟩ := k1.rd id hid (fun b hb => hne (by cases hb; rfl))
    simp [needR] at q
   have hdead := hcall.ext.kp hcall2 (.inr hg) q1
   refine ⟨h.set i bb,k1.loc.run h (fun id hid => by rw [hS id hid,hdead,q1]),xic_run (by rw [← plain_chk hpl]; exact hx2) ?_⟩
   rw [hop]
   exact (call_ext (b := bb) hcall.ext hlo hx1 hdead (.inr ⟨.inl rfl,g,cs,hf,.inr hg⟩)).2
 revert hs hx0 hy0 hrr hra hap hqa
 generalize x.cls clo = a
 generalize y.cls clo = c
 intro hs hx0 hy0 hrr hra hap hqa
 unfold clsOk at hs
 simp only [Bool.or_eq_true,beq_iff_eq,hx0,hy0,false_or] at hs
 split at hs
 all_goals first
  | exact hrr (by decide) (by decide)
  | exact hra (by decide) (by decide)
  | exact hqa (by decide) (by decide)
  | exact hap (by decide) (by decide) (by decide)
  | (cases hs)
theorem neq_of {z : XOp} {p q : Opd} (hn : z.neq p q = true) (hc : z.chk.all (Chk.ok cx e h) = true) : ∃ i vi oi j vj oj,p.ev e = .bptr i vi oi ∧ q.ev e = .bptr j vj oj ∧ i ≠ j := by
 unfold XOp.neq at hn
 split at hn
 ·rename_i a b
  obtain ⟨c,hcm,hc2⟩ := List.any_eq_true.mp hn
  have h1 := List.all_eq_true.mp hc c hcm
  cases c <;> simp only [Bool.false_eq_true] at hc2
  rename_i a' b'
  simp only [Bool.or_eq_true,Bool.and_eq_true,beq_iff_eq] at hc2
  simp only [Chk.ok] at h1
  split at h1
  ·rename_i i vi oi j vj oj g1 g2
   have hij : i ≠ j := by simpa using h1
   rcases hc2 with ⟨rfl,rfl⟩ | ⟨rfl,rfl⟩
   ·exact ⟨i,vi,oi,j,vj,oj,g1,g2,hij⟩
   ·exact ⟨j,vj,oj,i,vi,oi,g2,g1,fun e => hij e.symm⟩
  ·cases h1
 ·cases hn
theorem pstore_at {cx : Cx} {h h1 : Heap} {sz j vj oj : Nat} {v : AV} (hp : pstore cx h sz (.bptr j vj oj) v = some h1) : ∃ b,h1 = h.set j b := by
 unfold pstore at hp
 split at hp
 ·dsimp only at hp
  split at hp
  ·split at hp
   ·obtain ⟨cs,_,rfl⟩ := mE.mp hp
    exact ⟨_,rfl⟩
   ·cases hp
  ·cases hp
 ·cases hp
theorem load_ne {z : XOp} {sh : Sh} {p : Opd} {i vi oi j : Nat} {b : Nat × Blk} (hop : z.op = .load sh p) (hz : z.plain = true) (hp : p.ev e = .bptr i vi oi) (hij : i ≠ j) {v : AV} {h1 : Heap} (hx : xic call cx e h z = some (v,h1)) :
  h1 = h ∧ xic call cx e (h.set j b) z = some (v,h.set j b) ∧ ∀ h0 b0,h = h0.set j b0 → xic call cx e h0 z = some (v,h0) := by
 obtain ⟨hx1,hx2⟩ := xic_some hx
 rw [hop] at hx1
 simp only [xi,hp] at hx1
 obtain ⟨cs,h2,hx3⟩ := bE.mp hx1
 obtain ⟨q,h3,he⟩ := mE.mp hx3
 simp only [Prod.mk.injEq] at he
 obtain ⟨rfl,rfl⟩ := he
 have go : ∀ h' : Heap,h'[i]? = h[i]? → xic call cx e h' z = some (q,h') := fun h' hh => by
  refine xic_run (by rw [← plain_chk hz]; exact hx2) ?_
  rw [hop]
  simp only [xi,hp]
  have : pcells h' (.bptr i vi oi) = pcells h (.bptr i vi oi) := by simp only [pcells,hh]
  rw [this,h2]
  simp only [Option.bind_some,h3,Option.map_some]
 refine ⟨rfl,go _ (by rw [List.getElem?_set_ne (fun e => hij e.symm)]),fun h0 b0 hh => go h0 (by rw [hh,List.getElem?_set_ne (fun e => hij e.symm)])⟩
theorem store_at {z : XOp} {sz : Nat} {p y : Opd} {j vj oj : Nat} (hop : z.op = .store sz p y) (hp : p.ev e = .bptr j vj oj) {v : AV} {h1 : Heap} (hx : xic call cx e h z = some (v,h1)) : ∃ b,h1 = h.set j b := by
 obtain ⟨hx1,_⟩ := xic_some hx
 rw [hop] at hx1
 simp only [xi,hp] at hx1
 obtain ⟨h2,h3,he⟩ := mE.mp hx1
 simp only [Prod.mk.injEq] at he
 obtain ⟨_,rfl⟩ := he
 exact pstore_at h3
theorem comm_ne (hs : neOk x y = true) {vx vy : AV} {h1 h2 : Heap} (hx : xic call cx e h x = some (vx,h1)) (hy : xic call cx e h1 y = some (vy,h2)) :
  ∃ h1',xic call cx e h y = some (vy,h1') ∧ xic call cx e h1' x = some (vx,h2) := by
 unfold neOk at hs
 simp only [Bool.and_eq_true] at hs
 obtain ⟨⟨px,py⟩,hs⟩ := hs
 have cx' := (xic_some hx).2
 have cy' := (xic_some hy).2
 split at hs
 ·rename_i sh p sz q w ox oy
  rw [Bool.or_eq_true] at hs
  obtain ⟨i,vi,oi,j,vj,oj,e1,e2,hij⟩ := hs.elim (fun k => neq_of k cx') (fun k => neq_of k cy')
  obtain ⟨b,rfl⟩ := store_at oy e2 hy
  obtain ⟨rfl,k2,_⟩ := load_ne (b := b) ox px e1 hij hx
  exact ⟨_,hy,k2⟩
 ·rename_i sz q w sh p ox oy
  rw [Bool.or_eq_true] at hs
  obtain ⟨i,vi,oi,j,vj,oj,e1,e2,hij⟩ := hs.elim (fun k => neq_of k cx') (fun k => neq_of k cy')
  obtain ⟨b,rfl⟩ := store_at ox e2 hx
  obtain ⟨rfl,_,k3⟩ := load_ne (b := b) oy py e1 hij hy
  exact ⟨h,k3 h b rfl,hx⟩
 ·cases hs
theorem xop_cases {e1 : Env} {h1 : Heap} (hx : xop call cx x e h = some (e1,h1)) :
  (∃ v,xic call cx e h x = some (v,h1) ∧ e1 = e.put x.dst v ∧ ∀ h' v' h1',xic call cx e h' x = some (v',h1') → xop call cx x e h' = some (e.put x.dst v',h1')) ∨ (e1 = e.put x.dst (.tuple []) ∧ h1 = h ∧ ∀ h',xop call cx x e h' = some (e.put x.dst (.tuple []),h')) := by
 unfold xop at hx ⊢
 split at hx
 ·rename_i hg
  obtain ⟨⟨v,h2⟩,h3,he⟩ := mE.mp hx
  simp only [Prod.mk.injEq] at he
  obtain ⟨rfl,rfl⟩ := he
  exact .inl ⟨v,h3,rfl,fun h' v' h1' hh => mE.mpr ⟨_,hh,rfl⟩⟩
 ·rename_i g want hg
  obtain ⟨b,hb,hx2⟩ := bE.mp hx
  clear hx
  rw [hb]
  simp only [Option.bind_some]
  split at hx2
  ·rename_i hw
   obtain ⟨⟨v,h2⟩,h3,he⟩ := mE.mp hx2
   simp only [Prod.mk.injEq] at he
   obtain ⟨rfl,rfl⟩ := he
   exact .inl ⟨v,h3,rfl,fun h' v' h1' hh => by rw [if_pos hw]; exact mE.mpr ⟨_,hh,rfl⟩⟩
  ·rename_i hw
   simp only [Option.some.injEq,Prod.mk.injEq] at hx2
   obtain ⟨rfl,rfl⟩ := hx2
   exact .inr ⟨rfl,rfl,fun h' => by rw [if_neg hw]⟩
theorem xop_comm (hcall : CallOk P clo call) (hlo : cx.lo ≤ cx.base) (hs : (clsOk (x.cls clo) (y.cls clo) || neOk x y) = true) {ex ey : Env} {h1 h2 : Heap} (hx : xop call cx x e h = some (ex,h1)) (hy : xop call cx y e h1 = some (ey,h2)) :
  ∃ h1',xop call cx y e h = some (ey,h1') ∧ xop call cx x e h1' = some (ex,h2) := by
 rcases xop_cases hx with ⟨vx,x1,rfl,x2⟩ | ⟨rfl,rfl,x2⟩
 ·rcases xop_cases hy with ⟨vy,y1,rfl,y2⟩ | ⟨rfl,rfl,y2⟩
  ·rw [Bool.or_eq_true] at hs
   rcases hs with hs | hs
   ·obtain ⟨h1',k1,k2⟩ := comm hcall hlo hs x1 y1
    exact ⟨h1',y2 _ _ _ k1,x2 _ _ _ k2⟩
   ·obtain ⟨h1',k1,k2⟩ := comm_ne hs x1 y1
    exact ⟨h1',y2 _ _ _ k1,x2 _ _ _ k2⟩
  ·exact ⟨h,y2 h,hx⟩
 ·exact ⟨h2,hy,x2 h2⟩
theorem swap (hcall : CallOk P clo call) (hlo : cx.lo ≤ cx.base) {e1 e2 : Env} {h1 h2 : Heap} (hs : swapOk clo x y = true) (hx : xop call cx x e h = some (e1,h1)) (hy : xop call cx y e1 h1 = some (e2,h2)) :
  ∃ e1' h1' e2',xop call cx y e h = some (e1',h1') ∧ xop call cx x e1' h1' = some (e2',h2) ∧ EnvEq e2 e2' := by
 simp only [swapOk,Bool.and_eq_true,List.all_eq_true,Bool.not_eq_true'] at hs
 obtain ⟨⟨⟨s1,s2⟩,s3⟩,s4⟩ := hs
 obtain ⟨vx,rfl,_⟩ := xop_congr (e' := e) (fun _ _ => rfl) hx
 have agree1 : ∀ t ∈ y.tmps,(e.put x.dst vx).get t = e.get t := fun t ht => by
  rw [Env.get_put,if_neg]
  have := s1 t ht
  simpa [XOp.writes] using this
 obtain ⟨vy,rfl,hy'⟩ := xop_congr agree1 hy
 have agree2 : ∀ t ∈ x.tmps,e.get t = (e.put y.dst vy).get t := fun t ht => by
  rw [Env.get_put,if_neg]
  have := s2 t ht
  simpa [XOp.writes] using this
 have heq : EnvEq ((e.put x.dst vx).put y.dst vy) ((e.put y.dst vy).put x.dst vx) := fun t => by
  simp only [Env.get_put]
  by_cases h1 : y.dst = some t
  ·by_cases h2 : x.dst = some t
   ·rw [h2] at s3; simp [XOp.writes,h1] at s3
   ·simp [h1,h2]
  ·by_cases h2 : x.dst = some t <;> simp [h1,h2]
 obtain ⟨h1',k1,k2⟩ := xop_comm hcall hlo s4 hx hy'
 obtain ⟨v,he,hx2⟩ := xop_congr agree2 k2
 refine ⟨_,h1',_,k1,hx2, ?_⟩
 intro t
 rw [heq t,Env.get_put (e.put y.dst vy) x.dst v,Env.get_put (e.put y.dst vy) x.dst vx]
 have := congrArg (fun E => Env.get E t) he
 simp only [Env.get_put] at this
 by_cases h : x.dst = some t
 ·simpa [h] using this
 ·simp [h]
end
theorem bubble {P : Program} {clo : Nat → Bool} {call : Callee} (hcall : CallOk P clo call) {cx : Cx} (hlo : cx.lo ≤ cx.base) {s : XOp} : ∀ {l1 l2 : List XOp} {e e1 : Env} {h h1 : Heap},(∀ y ∈ l1,swapOk clo y s = true) → xops call cx (l1 ++ s :: l2) e h = some (e1,h1) →
  ∃ e1',xops call cx (s :: (l1 ++ l2)) e h = some (e1',h1) ∧ EnvEq e1 e1'
 | [],l2,e,e1,h,h1,_,hx => ⟨e1,hx,fun _ => rfl⟩
 | y :: l1,l2,e,e1,h,h1,hs,hx => by
  obtain ⟨⟨e2,h2⟩,hy,hx⟩ := bE.mp hx
  obtain ⟨e3,hx,heq⟩ := bubble hcall hlo (fun z hz => hs z (by simp [hz])) hx
  obtain ⟨⟨e4,h4⟩,hs',hx⟩ := bE.mp hx
  obtain ⟨e5,h5,e6,k1,k2,k3⟩ := swap hcall hlo (hs y (by simp)) hy hs'
  obtain ⟨e7,k4,k5⟩ := xops_envEq k3 hx
  refine ⟨e7, ?_,heq.trans k5⟩
  exact bE.mpr ⟨_,k1,bE.mpr ⟨_,k2,k4⟩⟩
end Go.VI
