/- Calls and rounds: a dead block may be any other. -/
import Derived.Test.YtfpoegnmeoghpaaGreatDoorVIT
set_option linter.unusedVariables false
set_option linter.unusedSimpArgs false
namespace Go.VI
set_option linter.unusedSectionVars false
variable [Globs] [Rounds]
section
variable {clo : Nat → Bool} {call : Callee} {i v : Nat} {b : Nat × Blk}
theorem resOne_ext {env : Env} {h : Heap} {r : XRes} {a : AV} (hx : resOne env h r = some a) (hd : h[i]? = some (v,.dead)) : resOne env (h.set i b) r = some a := by
 cases r with
 | tmp t => exact hx
 | cell t sh =>
  simp only [resOne] at hx ⊢
  obtain ⟨cs,h1,h2⟩ := bE.mp hx
  exact bE.mpr ⟨cs,pcells_ext h1 hd,h2⟩
theorem resAll_ext {env : Env} {h : Heap} : ∀ {rs : List XRes} {as : List AV},resAll env h rs = some as → h[i]? = some (v,.dead) → resAll env (h.set i b) rs = some as
 | [],as,hx,_ => hx
 | r :: rs,as,hx,hd => by
  simp only [resAll] at hx ⊢
  obtain ⟨a,h1,hx⟩ := bE.mp hx
  obtain ⟨as',h2,rfl⟩ := mE.mp hx
  exact bE.mpr ⟨a,resOne_ext h1 hd,mE.mpr ⟨as',resAll_ext h2 hd,rfl⟩⟩
theorem resVal_ext {env : Env} {h : Heap} {rs : List XRes} {a : AV} (hx : resVal env h rs = some a) (hd : h[i]? = some (v,.dead)) : resVal env (h.set i b) rs = some a := by
 unfold resVal at hx ⊢
 split at hx
 ·exact resOne_ext hx hd
 ·obtain ⟨as,h1,rfl⟩ := mE.mp hx
  exact mE.mpr ⟨as,resAll_ext h1 hd,rfl⟩
theorem give_ext {base : Nat} {a a' : AV} {h h' : Heap} (hx : give base a h = some (a',h')) (hd : h[i]? = some (v,.dead)) (hi : i < base) : h'[i]? = some (v,.dead) ∧ give base a (h.set i b) = some (a',h'.set i b) := by
 unfold give at hx ⊢
 split at hx
 ·simp only [Option.some.injEq,Prod.mk.injEq] at hx ⊢
  obtain ⟨rfl,rfl⟩ := hx
  exact ⟨hd,rfl,rfl⟩
 ·split at hx
  ·rename_i hc
   rw [if_pos hc]
   obtain ⟨es,h1,he⟩ := mE.mp hx
   simp only [Prod.mk.injEq] at he
   obtain ⟨rfl,rfl⟩ := he
   refine ⟨set_dead (by omega) hd,mE.mpr ⟨es,asList0_ext h1 hd, ?_⟩⟩
   rw [List.set_comm _ _ (by omega)]
  ·rename_i hc
   rw [if_neg hc]
   exact frz_ext _ _ _ _ hx hd hi
 ·exact frz_ext _ _ _ _ hx hd hi
theorem giveL_ext {base : Nat} (hi : i < base) : ∀ {as as' : List AV} {h h' : Heap},giveL base as h = some (as',h') → h[i]? = some (v,.dead) → h'[i]? = some (v,.dead) ∧ giveL base as (h.set i b) = some (as',h'.set i b)
 | [],as',h,h',hx,hd => by
  simp only [giveL,Option.some.injEq,Prod.mk.injEq] at hx ⊢
  obtain ⟨rfl,rfl⟩ := hx
  exact ⟨hd,rfl,rfl⟩
 | a :: as,as',h,h',hx,hd => by
  simp only [giveL] at hx ⊢
  obtain ⟨⟨a1,h1⟩,h2,hx⟩ := bE.mp hx
  obtain ⟨⟨as1,h3⟩,h4,he⟩ := mE.mp hx
  simp only [Prod.mk.injEq] at he
  obtain ⟨rfl,rfl⟩ := he
  obtain ⟨k1,k2⟩ := give_ext (b := b) h2 hd hi
  obtain ⟨k3,k4⟩ := giveL_ext hi h4 k1
  exact ⟨k3,bE.mpr ⟨_,k2,mE.mpr ⟨_,k4,rfl⟩⟩⟩
theorem giveRes_ext {base : Nat} {a r : AV} {h : Heap} (hx : giveRes base a h = some r) (hd : h[i]? = some (v,.dead)) (hi : i < base) : giveRes base a (h.set i b) = some r := by
 unfold giveRes at hx ⊢
 split at hx
 ·obtain ⟨⟨as,h1⟩,h2,rfl⟩ := mE.mp hx
  exact mE.mpr ⟨_,(giveL_ext hi h2 hd).2,rfl⟩
 ·obtain ⟨⟨as,h1⟩,h2,rfl⟩ := mE.mp hx
  exact mE.mpr ⟨_,(give_ext h2 hd hi).2,rfl⟩
theorem enter_ext {n : Nat} (hc : CallExt clo call) {x : XFn} {args : List AV} {h : Heap} {lo : Nat} {r : AV} {h' : Heap} (he : enter x (fun cx => exec call cx n) args h lo = some (r,h')) (hd : h[i]? = some (v,.dead)) (hi : i < lo ∨ x.isOpen = false ∨ x.code.still clo = true) :
  h'[i]? = some (v,.dead) ∧ enter x (fun cx => exec call cx n) args (h.set i b) lo = some (r,h'.set i b) := by
 have hlt : i < h.length := (List.getElem?_eq_some_iff.mp hd).1
 unfold enter at he ⊢
 simp only [List.length_set] at he ⊢
 split at he
 ·rename_i hal
  rw [if_pos hal]
  obtain ⟨⟨e,env',h1⟩,hx,he⟩ := bE.mp he
  have hset : h.set i b ++ List.replicate x.ns (0,Blk.dead) = (h ++ List.replicate x.ns (0,Blk.dead)).set i b := by rw [List.set_append_left _ _ hlt]
  rw [hset]
  have hd0 : (h ++ List.replicate x.ns (0,Blk.dead))[i]? = some (v,.dead) := by rw [List.getElem?_append_left hlt]; exact hd
  have hcx : i < (if x.isOpen = true then lo else h.length) ∨ x.code.still clo = true := by
   split
   ·rename_i ho; rcases hi with h | h | h
    ·exact .inl h
    ·rw [h] at ho; cases ho
    ·exact .inr h
   ·exact .inl hlt
  have hle : (if x.isOpen = true then lo else h.length) ≤ h.length := by
   split
   ·rename_i ho; exact hal.2 ho
   ·exact Nat.le_refl _
  obtain ⟨k1,k2⟩ := exec_ext (b := b) hc (cx := ⟨if x.isOpen = true then lo else h.length,h.length,x.ns,none⟩) hle (fun _ _ h => by cases h) n x.code hx hd0 hlt hcx
  rw [k2]
  simp only [Option.bind_some]
  have fin : ∀ (hr : ((resVal env' h1 x.res).bind fun v => (giveRes h.length v h1).map fun r => (r,if x.isOpen then h1.take h.length else h)) = some (r,h')),
    h'[i]? = some (v,.dead) ∧ ((resVal env' (h1.set i b) x.res).bind fun v => (giveRes h.length v (h1.set i b)).map fun r => (r,if x.isOpen then (h1.set i b).take h.length else h.set i b)) = some (r,h'.set i b) := by
   intro hr
   obtain ⟨a,g1,g2⟩ := bE.mp hr
   obtain ⟨r',g3,g4⟩ := mE.mp g2
   simp only [Prod.mk.injEq] at g4
   obtain ⟨rfl,rfl⟩ := g4
   refine ⟨?_,bE.mpr ⟨a,resVal_ext g1 k1,mE.mpr ⟨_,giveRes_ext g3 k1 hlt, ?_⟩⟩⟩
   ·split
    ·rw [take_get hlt]; exact k1
    ·exact hd
   ·split
    ·rw [List.take_set]
    ·rfl
  cases e with
  | exit id => cases he
  | norm => exact fin he
  | ret => exact fin he
 ·cases he
theorem round_ext {n : Nat} (hc : CallExt clo call) {x : XRnd} {d : Rcd} {id ver : Nat} {args : List AV} {h : Heap} {e : Ex} {h' : Heap} (hr : round x (fun cx => exec call cx n) d id ver args h = some (e,h')) (hd : h[i]? = some (v,.dead)) (hi : i < d.lo) (hlo : d.lo ≤ d.base) (hid : d.lo ≤ id) :
  h'[i]? = some (v,.dead) ∧ round x (fun cx => exec call cx n) d id ver args (h.set i b) = some (e,h'.set i b) := by
 unfold round at hr ⊢
 split at hr
 ·rename_i hal
  rw [if_pos hal]
  dsimp only
  obtain ⟨⟨e1,env1,h1⟩,g1,g2⟩ := bE.mp hr
  clear hr
  obtain ⟨k1,k2⟩ := exec_ext (b := b) hc (cx := { lo := d.lo,base := d.base,ns := d.ns,rnd := some (id,ver) }) hlo (fun id' ver' h => by cases h; omega) n x.asg g1 hd (by simp only []; omega) (.inl hi)
  rw [k2]
  simp only [Option.bind_some]
  dsimp only at g2
  split at g2
  ·rename_i he
   rw [if_pos he,List.getElem?_set_ne (by omega)]
   split at g2
   ·rename_i v1 d1 hid1
    rw [hid1]
    dsimp only
    split at g2
    ·rename_i hv
     rw [if_pos hv]
     obtain ⟨⟨e2,env2,h3⟩,g3,g4⟩ := bE.mp g2
     clear g2
     obtain ⟨k3,k4⟩ := exec_ext (b := b) hc (cx := { lo := d.lo,base := d.base,ns := d.ns,rnd := some (id,ver) }) hlo (fun id' ver' h => by cases h; omega) n x.body g3 (set_dead (by omega) k1) (by simp only []; omega) (.inl hi)
     rw [List.set_comm _ _ (by omega),k4]
     simp only [Option.bind_some]
     dsimp only at g4
     rw [List.getElem?_set_ne (by omega)]
     split at g4
     ·rename_i v2 d2 hid2
      rw [hid2]
      dsimp only
      split at g4
      ·rename_i hv2
       rw [if_pos hv2]
       simp only [Option.some.injEq,Prod.mk.injEq] at g4 ⊢
       obtain ⟨rfl,rfl⟩ := g4
       exact ⟨set_dead (by omega) k3,rfl,List.set_comm _ _ (by omega)⟩
      ·cases g4
     ·cases g4
    ·cases g2
   ·cases g2
  ·cases g2
 ·cases hr
end
mutual
theorem view_ext {i v : Nat} {b : Nat × Blk} {h : Heap} : ∀ (x y : AV),view h x = some y → h[i]? = some (v,Blk.dead) → view (h.set i b) x = some y
 | .agg cs,y,hv,hd => by
  simp only [view,mE] at hv ⊢
  obtain ⟨cs',h1,rfl⟩ := hv
  exact ⟨cs',viewL_ext cs cs' h1 hd,rfl⟩
 | .fn f cs,y,hv,hd => by
  simp only [view,mE] at hv ⊢
  obtain ⟨cs',h1,rfl⟩ := hv
  exact ⟨cs',viewL_ext cs cs' h1 hd,rfl⟩
 | .ref id ver z off len fill,y,hv,hd => by
  simp only [view,mE] at hv ⊢
  obtain ⟨es,h1,rfl⟩ := hv
  exact ⟨es,asList0_ext h1 hd,rfl⟩
 | .own ..,y,hv,hd | .tuple ..,y,hv,hd | .bptr ..,y,hv,hd | .iptr ..,y,hv,hd | .yld ..,y,hv,hd | .undef,y,hv,hd | .ifc ..,y,hv,hd => by simp [view] at hv
 | .bool _,y,hv,hd | .int _ _,y,hv,hd | .str _,y,hv,hd | .nilFn,y,hv,hd | .nilIf,y,hv,hd | .nilSl,y,hv,hd | .lst _ _,y,hv,hd | .lsf _ _,y,hv,hd | .nilPtr,y,hv,hd | .cptr _,y,hv,hd => by simpa [view] using hv
theorem viewL_ext {i v : Nat} {b : Nat × Blk} {h : Heap} : ∀ (xs ys : List AV),viewL h xs = some ys → h[i]? = some (v,Blk.dead) → viewL (h.set i b) xs = some ys
 | [],ys,hv,hd => by simpa [viewL] using hv
 | x :: xs,ys,hv,hd => by
  simp only [viewL,bE,mE] at hv ⊢
  obtain ⟨y,h1,ys',h2,rfl⟩ := hv
  exact ⟨y,view_ext x y h1 hd,ys',viewL_ext xs ys' h2 hd,rfl⟩
end
theorem enterB_ext {clo : Nat → Bool} {call : Callee} (hc : CallExt clo call) {n : Nat} {x : XFn} {w : Bool} {args : List AV} {h : Heap} {lo : Nat} {r : AV} {h' : Heap} {i v : Nat} {b : Nat × Blk} (he : enterB x (fun cx => exec call cx n) w args h lo = some (r,h')) (hd : h[i]? = some (v,.dead))
  (hi : i < lo ∨ x.isOpen = false ∨ x.code.still clo = true) : h'[i]? = some (v,.dead) ∧ enterB x (fun cx => exec call cx n) w args (h.set i b) lo = some (r,h'.set i b) := by
 unfold enterB at he ⊢
 split at he
 ·rename_i hw
  obtain ⟨vs,h1,h2⟩ := bE.mp he
  obtain ⟨q,h3,h4⟩ := bE.mp h2
  split at h4
  ·rename_i hf
   simp only [Option.some.injEq,Prod.mk.injEq] at h4
   obtain ⟨rfl,rfl⟩ := h4
   refine ⟨hd, ?_⟩
   rw [if_pos hw]
   refine bE.mpr ⟨vs,viewL_ext _ _ h1 hd,bE.mpr ⟨q,h3, ?_⟩⟩
   rw [if_pos hf]
  ·cases h4
 ·rename_i hw
  rw [if_neg hw]
  exact enter_ext hc he hd hi
section
variable {clo : Nat → Bool} {call : Callee} {i v : Nat}
mutual
theorem frz_kp {base : Nat} {keep : Bool} (hi : i < base) : ∀ (x : AV) (h : Heap) (x' : AV) (h' : Heap),frz base keep x h = some (x',h') → h'[i]? = h[i]?
 | .agg cs,h,x',h',hf | .tuple cs,h,x',h',hf | .fn _ cs,h,x',h',hf => by
  simp only [frz,mE,Prod.mk.injEq] at hf
  obtain ⟨⟨cs',h1⟩,hf,rfl,rfl⟩ := hf
  exact frzL_kp hi cs h cs' h1 hf
 | .ifc _ y,h,x',h',hf => by
  simp only [frz,mE,Prod.mk.injEq] at hf
  obtain ⟨⟨cs',h1⟩,hf,rfl,rfl⟩ := hf
  exact frz_kp hi y h cs' h1 hf
 | .ref id ver z off len fill,h,x',h',hf => by
  simp only [frz] at hf
  split at hf
  ·simp only [mE,Prod.mk.injEq] at hf
   obtain ⟨es,h1,rfl,rfl⟩ := hf
   rw [List.getElem?_set_ne (by omega)]
  ·split at hf
   ·simp only [Option.some.injEq,Prod.mk.injEq] at hf
    obtain ⟨rfl,rfl⟩ := hf
    rfl
   ·cases hf
 | .own ..,h,x',h',hf | .bptr ..,h,x',h',hf | .iptr ..,h,x',h',hf | .yld ..,h,x',h',hf => by simp [frz] at hf
 | .nilSl,h,x',h',hf | .undef,h,x',h',hf | .bool _,h,x',h',hf | .int _ _,h,x',h',hf | .str _,h,x',h',hf | .nilFn,h,x',h',hf | .nilIf,h,x',h',hf | .lst _ _,h,x',h',hf | .lsf _ _,h,x',h',hf | .nilPtr,h,x',h',hf | .cptr _,h,x',h',hf => by
  simp only [frz,Option.some.injEq,Prod.mk.injEq] at hf
  obtain ⟨rfl,rfl⟩ := hf
  rfl
theorem frzL_kp {base : Nat} {keep : Bool} (hi : i < base) : ∀ (cs : List AV) (h : Heap) (cs' : List AV) (h' : Heap),frzL base keep cs h = some (cs',h') → h'[i]? = h[i]?
 | [],h,cs',h',hf => by
  simp only [frzL,Option.some.injEq,Prod.mk.injEq] at hf
  obtain ⟨rfl,rfl⟩ := hf
  rfl
 | c :: cs,h,cs',h',hf => by
  simp only [frzL,bE,mE,Prod.mk.injEq] at hf
  obtain ⟨⟨c1,h1⟩,f1,⟨cs1,h2⟩,f2,rfl,rfl⟩ := hf
  rw [frzL_kp hi cs h1 cs1 h2 f2,frz_kp hi c h c1 h1 f1]
end
theorem mkAt_kp {cx : Cx} {s ver : Nat} {x : Blk} {h h' : Heap} (hm : mkAt cx s x h = some (ver,h')) (hi : i < cx.base) : h'[i]? = h[i]? := by
 unfold mkAt at hm
 split at hm
 ·split at hm
  ·simp only [Option.some.injEq,Prod.mk.injEq] at hm
   obtain ⟨rfl,rfl⟩ := hm
   rw [List.getElem?_set_ne (by omega)]
  ·cases hm
 ·cases hm
theorem set_kp {h : Heap} {id : Nat} {y : Nat × Blk} (hy : y.2 ≠ .dead) (hd : (h.set id y)[i]? = some (v,.dead)) : h[i]? = some (v,.dead) := by
 by_cases c : id = i
 ·subst c
  rw [List.getElem?_set] at hd
  simp only [if_true] at hd
  split at hd
  ·cases hd; exact absurd rfl hy
  ·cases hd
 ·rwa [List.getElem?_set_ne c] at hd
theorem pstore_kp {cx : Cx} {h h' : Heap} {sz : Nat} {p x : AV} (hp : pstore cx h sz p x = some h') (hi : i < cx.base) (hd : h'[i]? = some (v,.dead)) : h[i]? = some (v,.dead) := by
 unfold pstore at hp
 split at hp
 ·split at hp
  ·split at hp
   ·split at hp
    ·obtain ⟨cs',_,rfl⟩ := mE.mp hp
     exact set_kp (by simp) hd
    ·cases hp
   ·cases hp
  ·obtain ⟨⟨x1,h1⟩,hf,hp⟩ := bE.mp hp
   have hk := frz_kp hi _ _ _ _ hf
   rw [← hk]
   dsimp only at hp
   split at hp
   ·split at hp
    ·split at hp
     ·obtain ⟨cs',_,rfl⟩ := mE.mp hp
      exact set_kp (by simp) hd
     ·split at hp
      ·split at hp
       ·cases hp
       ·simp only [Option.some.injEq] at hp
        subst hp
        exact set_kp (by simp) hd
      ·cases hp
     ·cases hp
    ·cases hp
   ·cases hp
  ·cases hp
 ·cases hp
theorem xi_kp (hc : CallExt clo call) {cx : Cx} {env : Env} {h h' : Heap} {x : XOp} (hs : x.still clo = true) (hck : x.chk.all (Chk.ok cx env h) = true) {r : AV} (hx : xi call cx env h x.op = some (r,h')) (hi : i < cx.base) (hd : h'[i]? = some (v,.dead)) : h[i]? = some (v,.dead) := by
 have hst := still_of hs hck hx
 unfold XOp.still at hs
 cases hop : x.op <;> rw [hop] at hs hx hst <;> try (cases hs)
 case call f args own =>
  simp only [Bool.and_eq_true,List.isEmpty_iff] at hs
  obtain ⟨rfl,_⟩ := hs
  obtain ⟨g,cs,hf,hg⟩ := hst f args [] rfl
  simp only [xi,hf] at hx
  obtain ⟨⟨r1,h1⟩,h2,hx⟩ := bE.mp hx
  simp only [Option.some.injEq,Prod.mk.injEq] at hx
  obtain ⟨_,rfl⟩ := hx
  exact hc.kp h2 hg hd
 all_goals simp only [xi] at hx
 case alloc s zero =>
  obtain ⟨⟨ver,h1⟩,h2,he⟩ := mE.mp hx
  simp only [Prod.mk.injEq] at he
  obtain ⟨rfl,rfl⟩ := he
  rwa [mkAt_kp h2 hi] at hd
 case box s y =>
  split at hx
  ·obtain ⟨⟨ver,h1⟩,h2,he⟩ := mE.mp hx
   simp only [Prod.mk.injEq] at he
   obtain ⟨rfl,rfl⟩ := he
   rwa [mkAt_kp h2 hi] at hd
  ·cases hx
 case boxR y =>
  split at hx
  ·obtain ⟨⟨ver,h1⟩,h2,he⟩ := mE.mp hx
   simp only [Prod.mk.injEq] at he
   obtain ⟨rfl,rfl⟩ := he
   rwa [frz_kp hi _ _ _ _ h2] at hd
  ·cases hx
 case store sz y z =>
  obtain ⟨h1,h2,he⟩ := mE.mp hx
  simp only [Prod.mk.injEq] at he
  obtain ⟨rfl,rfl⟩ := he
  exact pstore_kp h2 hi hd
 case load sh y =>
  obtain ⟨cs,h2,hx⟩ := bE.mp hx
  obtain ⟨q,h3,he⟩ := mE.mp hx
  simp only [Prod.mk.injEq] at he
  obtain ⟨rfl,rfl⟩ := he
  exact hd
 case ixS z y k =>
  split at hx
  ·obtain ⟨n,h2,hx⟩ := bE.mp hx
   obtain ⟨q,h3,he⟩ := mE.mp hx
   simp only [Prod.mk.injEq] at he
   obtain ⟨rfl,rfl⟩ := he
   exact hd
  ·cases hx
 case fld y off sh =>
  split at hx
  ·obtain ⟨q,h3,he⟩ := mE.mp hx
   simp only [Prod.mk.injEq] at he
   obtain ⟨rfl,rfl⟩ := he
   exact hd
  ·cases hx
 case ixV n size sh y k =>
  split at hx
  ·obtain ⟨n,h2,hx⟩ := bE.mp hx
   obtain ⟨q,h3,he⟩ := mE.mp hx
   simp only [Prod.mk.injEq] at he
   obtain ⟨rfl,rfl⟩ := he
   exact hd
  ·cases hx
 case ixStr y k =>
  split at hx
  ·obtain ⟨n,h2,hx⟩ := bE.mp hx
   obtain ⟨q,h3,he⟩ := mE.mp hx
   simp only [Prod.mk.injEq] at he
   obtain ⟨rfl,rfl⟩ := he
   exact hd
  ·cases hx
 all_goals first
  | (simp only [Option.some.injEq,Prod.mk.injEq] at hx; obtain ⟨rfl,rfl⟩ := hx; exact hd)
  | (obtain ⟨q,h3,he⟩ := mE.mp hx; simp only [Prod.mk.injEq] at he; obtain ⟨rfl,rfl⟩ := he; exact hd)
  | (obtain ⟨q0,h2,hx⟩ := bE.mp hx; obtain ⟨q,h3,he⟩ := mE.mp hx; simp only [Prod.mk.injEq] at he; obtain ⟨rfl,rfl⟩ := he; exact hd)
theorem xop_kp (hc : CallExt clo call) {cx : Cx} {env env' : Env} {h h' : Heap} {x : XOp} (hs : x.still clo = true) (hx : xop call cx x env h = some (env',h')) (hi : i < cx.base) (hd : h'[i]? = some (v,.dead)) : h[i]? = some (v,.dead) := by
 unfold xop at hx
 split at hx
 ·obtain ⟨⟨r,h1⟩,h2,he⟩ := mE.mp hx
  simp only [Prod.mk.injEq] at he
  obtain ⟨rfl,rfl⟩ := he
  obtain ⟨k1,k2⟩ := xic_some h2
  exact xi_kp hc hs k2 k1 hi hd
 ·obtain ⟨q,hq,hx⟩ := bE.mp hx
  split at hx
  ·obtain ⟨⟨r,h1⟩,h2,he⟩ := mE.mp hx
   simp only [Prod.mk.injEq] at he
   obtain ⟨rfl,rfl⟩ := he
   obtain ⟨k1,k2⟩ := xic_some h2
   exact xi_kp hc hs k2 k1 hi hd
  ·simp only [Option.some.injEq,Prod.mk.injEq] at hx
   obtain ⟨rfl,rfl⟩ := hx
   exact hd
theorem xops_kp (hc : CallExt clo call) {cx : Cx} (hi : i < cx.base) : ∀ (os : List XOp) {env env' : Env} {h h' : Heap},os.all (XOp.still clo) = true → xops call cx os env h = some (env',h') → h'[i]? = some (v,.dead) → h[i]? = some (v,.dead)
 | [],env,env',h,h',hs,hx,hd => by
  simp only [xops,Option.some.injEq,Prod.mk.injEq] at hx
  obtain ⟨rfl,rfl⟩ := hx
  exact hd
 | o :: os,env,env',h,h',hs,hx,hd => by
  simp only [List.all_cons,Bool.and_eq_true] at hs
  obtain ⟨⟨e1,h1⟩,h2,hx⟩ := bE.mp hx
  exact xop_kp hc hs.1 h2 hi (xops_kp hc hi os hs.2 hx hd)
theorem killAll_kp {cx : Cx} (hi : i < cx.base) : ∀ (ss : List Nat) (h : Heap),(killAll cx ss h)[i]? = h[i]?
 | [],h => rfl
 | s :: ss,h => by
  simp only [killAll]
  split
  ·rw [killAll_kp hi ss,List.getElem?_set_ne (by omega)]
  ·exact killAll_kp hi ss h
theorem exec_kp (hc : CallExt clo call) {cx : Cx} (hi : i < cx.base) (n : Nat) : ∀ (x : XC) {env : Env} {h : Heap} {e : Ex} {env' : Env} {h' : Heap},x.still clo = true → exec call cx n x (env,h) = some (e,(env',h')) → h'[i]? = some (v,.dead) → h[i]? = some (v,.dead) := by
 intro x
 induction x with
 | skip | exit | ret =>
  intro env h e env' h' hs hx hd
  simp only [exec,Option.some.injEq,Prod.mk.injEq] at hx
  obtain ⟨rfl,rfl,rfl⟩ := hx
  exact hd
 | reg draw keep kill ops =>
  intro env h e env' h' hs hx hd
  simp only [exec,mE,Prod.mk.injEq] at hx
  obtain ⟨⟨e1,h1⟩,h2,rfl,rfl,rfl⟩ := hx
  have := xops_kp hc hi _ hs h2 hd
  rwa [killAll_kp hi] at this
 | seq p q ihp ihq =>
  intro env h e env' h' hs hx hd
  simp only [XC.still,Bool.and_eq_true] at hs
  obtain ⟨⟨e1,env1,h1⟩,h2,hx⟩ := bE.mp hx
  dsimp only at hx
  split at hx
  ·exact ihp hs.1 h2 (ihq hs.2 hx hd)
  ·simp only [Option.some.injEq,Prod.mk.injEq] at hx
   obtain ⟨rfl,rfl,rfl⟩ := hx
   exact ihp hs.1 h2 hd
 | cond c p q ihp ihq =>
  intro env h e env' h' hs hx hd
  simp only [XC.still,Bool.and_eq_true] at hs
  obtain ⟨r,h2,hx⟩ := bE.mp hx
  cases r with
  | true => exact ihp hs.1 hx hd
  | false => exact ihq hs.2 hx hd
 | blk id p ih =>
  intro env h e env' h' hs hx hd
  obtain ⟨⟨e1,env1,h1⟩,h2,he⟩ := mE.mp hx
  unfold Ex.inBlk at he
  split at he
  ·simp only [Prod.mk.injEq] at he
   obtain ⟨rfl,rfl,rfl⟩ := he
   exact ih hs h2 hd
  ·simp only [Prod.mk.injEq] at he
   obtain ⟨rfl,rfl,rfl⟩ := he
   exact ih hs h2 hd
 | loop p ih =>
  intro env h e env' h' hs hx hd
  simp only [exec] at hx
  have key : ∀ (k : Nat) {env : Env} {h : Heap} {e : Ex} {env' : Env} {h' : Heap},iter (exec call cx n p) k (env,h) = some (e,(env',h')) → h'[i]? = some (v,.dead) → h[i]? = some (v,.dead) := by
   intro k
   induction k with
   | zero => intro env h e env' h' hx; simp [iter] at hx
   | succ k ihk =>
    intro env h e env' h' hx hd
    simp only [iter,bE] at hx
    obtain ⟨⟨e1,env1,h1⟩,hx1,hx2⟩ := hx
    dsimp only at hx2
    split at hx2
    ·exact ih hs hx1 (ihk hx2 hd)
    ·simp only [Option.some.injEq,Prod.mk.injEq] at hx2
     obtain ⟨rfl,rfl,rfl⟩ := hx2
     exact ih hs hx1 hd
  exact key n hx hd
 | rfn s f g => intro env h e env' h' hs; cases hs
 | pre ps p ih =>
  intro env h e env' h' hs hx hd
  exact ih (env := env.keep ps) hs hx hd
 | fz t p ih => intro env h e env' h' hs; cases hs
theorem enter_kp {n : Nat} (hc : CallExt clo call) {x : XFn} {args : List AV} {h : Heap} {lo : Nat} {r : AV} {h' : Heap} (he : enter x (fun cx => exec call cx n) args h lo = some (r,h')) (hs : x.isOpen = false ∨ x.code.still clo = true) (hd : h'[i]? = some (v,.dead)) : h[i]? = some (v,.dead) := by
 unfold enter at he
 split at he
 ·obtain ⟨⟨e,env',h1⟩,hx,he⟩ := bE.mp he
  have fin : ((resVal env' h1 x.res).bind fun v => (giveRes h.length v h1).map fun r => (r,if x.isOpen then h1.take h.length else h)) = some (r,h') → h[i]? = some (v,.dead) := by
   intro hr
   obtain ⟨a,g1,g2⟩ := bE.mp hr
   obtain ⟨r',g3,g4⟩ := mE.mp g2
   simp only [Prod.mk.injEq] at g4
   obtain ⟨rfl,rfl⟩ := g4
   by_cases ho : x.isOpen = true
   ·rw [if_pos ho] at hd
    have hst := hs.resolve_left (by rw [ho]; simp)
    rcases Nat.lt_or_ge i h.length with hlt | hge
    ·rw [List.getElem?_take,if_pos hlt] at hd
     have := exec_kp (cx := ⟨if x.isOpen = true then lo else h.length,h.length,x.ns,none⟩) hc hlt n x.code hst hx hd
     rwa [List.getElem?_append_left hlt] at this
    ·rw [List.getElem?_take,if_neg (by omega)] at hd; cases hd
   ·rw [if_neg ho] at hd; exact hd
  cases e with
  | exit id => cases he
  | norm => exact fin he
  | ret => exact fin he
 ·cases he
theorem enterB_kp {n : Nat} (hc : CallExt clo call) {x : XFn} {w : Bool} {args : List AV} {h : Heap} {lo : Nat} {r : AV} {h' : Heap} (he : enterB x (fun cx => exec call cx n) w args h lo = some (r,h')) (hs : x.isOpen = false ∨ x.code.still clo = true) (hd : h'[i]? = some (v,.dead)) : h[i]? = some (v,.dead) := by
 unfold enterB at he
 split at he
 ·obtain ⟨vs,h1,h2⟩ := bE.mp he
  obtain ⟨q,h3,h4⟩ := bE.mp h2
  split at h4
  ·simp only [Option.some.injEq,Prod.mk.injEq] at h4
   obtain ⟨rfl,rfl⟩ := h4
   exact hd
  ·cases h4
 ·exact enter_kp hc he hs hd
end
theorem ex_ext {clo : Nat → Bool} {L : Lib} (hf : ∀ f x,L.fns f = some x → clo f = true → x.isOpen = false) (hg : ∀ f x,L.fns f = some x → clo (f + 5000) = true → x.code.still clo = true) (ho : ∀ f args h r,L.orc f args h = some r → ∀ i v b,h[i]? = some (v,Blk.dead) → L.orc f args (h.set i b) = some r) (hn : ∀ f args h,L.orc f args h = none → ∀ i v b,h[i]? = some (v,Blk.dead) → (L.fns f).isSome = true → L.orc f args (h.set i b) = none) : ∀ n,CallExt clo (ex L n)
 | 0 => ⟨fun {f args h lo r h'} hx => by simp [ex] at hx,fun {f args h lo r h'} hx => by simp [ex] at hx,fun {d id ver args h e h'} hx => by simp [ex] at hx⟩
 | n + 1 => by
  have ih := ex_ext hf hg ho hn n
  refine ⟨fun {f args h lo r h'} hx {i v b} hd hi => ?_,fun {f args h lo r h'} hx hcl {i v} hd => ?_,fun {d id ver args h e h'} hx {i v b} hd hi hlo hid => ?_⟩
  ·simp only [ex] at hx ⊢
   split at hx
   ·rename_i q hq
    simp only [Option.some.injEq,Prod.mk.injEq] at hx
    obtain ⟨rfl,rfl⟩ := hx
    rw [ho f args h q hq i v b hd]
    exact ⟨hd,rfl⟩
   ·rename_i hq
    obtain ⟨x,hx1,hx2⟩ := bE.mp hx
    obtain ⟨k1,k2⟩ := enterB_ext (b := b) ih hx2 hd (hi.imp (fun h => h) (Or.imp (hf f x hx1) (hg f x hx1)))
    rw [hn f args h hq i v b hd (by rw [hx1]; rfl)]
    exact ⟨k1,bE.mpr ⟨x,hx1,k2⟩⟩
  ·simp only [ex] at hx
   split at hx
   ·simp only [Option.some.injEq,Prod.mk.injEq] at hx
    obtain ⟨rfl,rfl⟩ := hx
    exact hd
   ·obtain ⟨x,hx1,hx2⟩ := bE.mp hx
    exact enterB_kp ih hx2 (hcl.imp (hf f x hx1) (hg f x hx1)) hd
  ·simp only [ex] at hx ⊢
   obtain ⟨x,hx1,hx2⟩ := bE.mp hx
   obtain ⟨k1,k2⟩ := round_ext (b := b) ih hx2 hd hi hlo hid
   exact ⟨k1,bE.mpr ⟨x,hx1,k2⟩⟩
end Go.VI
