/- What lies where nothing is looked at makes no difference: a block that is dead may be any other. -/
import Derived.Test.YtfpoegnmeoghpaaGreatDoorVIN
set_option linter.unusedVariables false
set_option linter.unusedSimpArgs false
namespace Go.VI
set_option linter.unusedSectionVars false
variable [Globs] [Rounds]
section
variable {i v : Nat} {b : Nat × Blk} {h : Heap}
theorem dead_ne {id : Nat} {x : Nat × Blk} (hd : h[i]? = some (v,Blk.dead)) (hid : h[id]? = some x) (hx : x.2 ≠ .dead) : id ≠ i := by
 rintro rfl
 rw [hd] at hid
 cases hid
 exact hx rfl
theorem asList0_ext {x : AV} {es : List AV} (hx : asList0 h x = some es) (hd : h[i]? = some (v,Blk.dead)) : asList0 (h.set i b) x = some es := by
 unfold asList0 at hx ⊢
 split at hx
 ·exact hx
 ·exact hx
 ·exact hx
 ·rename_i id ver z off len fill
  split at hx
  ·rename_i w z' es' hid
   have hne := dead_ne hd hid (by simp)
   rw [List.getElem?_set_ne (by omega),hid]
   exact hx
  ·cases hx
 ·cases hx
theorem asList_ext {x : AV} {z : Nat} {es : List AV} (hx : asList h z x = some es) (hd : h[i]? = some (v,Blk.dead)) : asList (h.set i b) z x = some es := by
 unfold asList at hx ⊢
 split at hx
 ·rw [if_pos (by assumption)]; exact asList0_ext hx hd
 ·cases hx
theorem pcells_ext {x : AV} {cs : List AV} (hx : pcells h x = some cs) (hd : h[i]? = some (v,Blk.dead)) : pcells (h.set i b) x = some cs := by
 unfold pcells at hx ⊢
 split at hx
 ·exact hx
 ·rename_i id ver off
  split at hx
  ·rename_i w cs' hid
   have hne := dead_ne hd hid (by simp)
   rw [List.getElem?_set_ne (by omega),hid]
   exact hx
  ·cases hx
 ·rename_i u k off
  obtain ⟨es,h1,h2⟩ := bE.mp hx
  exact bE.mpr ⟨es,asList0_ext h1 hd,h2⟩
 ·cases hx
theorem appSrc_ext {x : AV} {z : Nat} {es : List AV} (hx : appSrc h z x = some es) (hd : h[i]? = some (v,Blk.dead)) : appSrc (h.set i b) z x = some es := by
 unfold appSrc at hx ⊢
 split at hx
 ·exact hx
 ·exact asList_ext hx hd
theorem set_dead {id : Nat} {x : Nat × Blk} (hne : id ≠ i) (hd : h[i]? = some (v,Blk.dead)) : (h.set id x)[i]? = some (v,Blk.dead) := by rw [List.getElem?_set_ne hne]; exact hd
mutual
theorem frz_ext {base : Nat} {keep : Bool} : ∀ (x : AV) (h : Heap) (x' : AV) (h' : Heap),frz base keep x h = some (x',h') → h[i]? = some (v,Blk.dead) → i < base → h'[i]? = some (v,Blk.dead) ∧ frz base keep x (h.set i b) = some (x',h'.set i b)
 | .agg cs,h,x',h',hf,hd,hb | .tuple cs,h,x',h',hf,hd,hb | .fn _ cs,h,x',h',hf,hd,hb => by
  simp only [frz,mE,Prod.mk.injEq] at hf ⊢
  obtain ⟨⟨cs',h1⟩,hf,rfl,rfl⟩ := hf
  obtain ⟨k1,k2⟩ := frzL_ext cs h cs' h1 hf hd hb
  exact ⟨k1,_,k2,rfl,rfl⟩
 | .ifc _ y,h,x',h',hf,hd,hb => by
  simp only [frz,mE,Prod.mk.injEq] at hf ⊢
  obtain ⟨⟨cs',h1⟩,hf,rfl,rfl⟩ := hf
  obtain ⟨k1,k2⟩ := frz_ext y h cs' h1 hf hd hb
  exact ⟨k1,_,k2,rfl,rfl⟩
 | .ref id ver z off len fill,h,x',h',hf,hd,hb => by
  simp only [frz] at hf ⊢
  split at hf
  ·rename_i hle
   rw [if_pos hle]
   simp only [mE,Prod.mk.injEq] at hf ⊢
   obtain ⟨es,h1,rfl,rfl⟩ := hf
   exact ⟨set_dead (by omega) hd,es,asList0_ext h1 hd,rfl,List.set_comm _ _ (by omega)⟩
  ·rename_i hle
   rw [if_neg hle]
   split at hf
   ·rename_i hk
    rw [if_pos hk]
    simp only [Option.some.injEq,Prod.mk.injEq] at hf ⊢
    obtain ⟨rfl,rfl⟩ := hf
    exact ⟨hd,rfl,rfl⟩
   ·cases hf
 | .own ..,h,x',h',hf,hd,hb | .bptr ..,h,x',h',hf,hd,hb | .iptr ..,h,x',h',hf,hd,hb | .yld ..,h,x',h',hf,hd,hb => by simp [frz] at hf
 | .nilSl,h,x',h',hf,hd,hb | .undef,h,x',h',hf,hd,hb | .bool _,h,x',h',hf,hd,hb | .int _ _,h,x',h',hf,hd,hb | .str _,h,x',h',hf,hd,hb | .nilFn,h,x',h',hf,hd,hb | .nilIf,h,x',h',hf,hd,hb | .lst _ _,h,x',h',hf,hd,hb | .lsf _ _,h,x',h',hf,hd,hb | .nilPtr,h,x',h',hf,hd,hb | .cptr _,h,x',h',hf,hd,hb => by
  simp only [frz,Option.some.injEq,Prod.mk.injEq] at hf ⊢
  obtain ⟨rfl,rfl⟩ := hf
  exact ⟨hd,rfl,rfl⟩
theorem frzL_ext {base : Nat} {keep : Bool} : ∀ (cs : List AV) (h : Heap) (cs' : List AV) (h' : Heap),frzL base keep cs h = some (cs',h') → h[i]? = some (v,Blk.dead) → i < base → h'[i]? = some (v,Blk.dead) ∧ frzL base keep cs (h.set i b) = some (cs',h'.set i b)
 | [],h,cs',h',hf,hd,hb => by
  simp only [frzL,Option.some.injEq,Prod.mk.injEq] at hf ⊢
  obtain ⟨rfl,rfl⟩ := hf
  exact ⟨hd,rfl,rfl⟩
 | c :: cs,h,cs',h',hf,hd,hb => by
  simp only [frzL,bE,mE,Prod.mk.injEq] at hf ⊢
  obtain ⟨⟨c1,h1⟩,f1,⟨cs1,h2⟩,f2,rfl,rfl⟩ := hf
  obtain ⟨k1,k2⟩ := frz_ext c h c1 h1 f1 hd hb
  obtain ⟨k3,k4⟩ := frzL_ext cs h1 cs1 h2 f2 k1 hb
  exact ⟨k3,_,k2,_,k4,rfl,rfl⟩
end
theorem mkAt_ext {cx : Cx} {s ver : Nat} {x : Blk} {h' : Heap} (hm : mkAt cx s x h = some (ver,h')) (hd : h[i]? = some (v,Blk.dead)) (hi : i < cx.base) : h'[i]? = some (v,Blk.dead) ∧ mkAt cx s x (h.set i b) = some (ver,h'.set i b) := by
 unfold mkAt at hm ⊢
 split at hm
 ·rename_i hc
  rw [if_pos hc,List.getElem?_set_ne (by omega)]
  split at hm
  ·rename_i v0 blk0 hid
   rw [hid]
   simp only [Option.some.injEq,Prod.mk.injEq] at hm ⊢
   obtain ⟨rfl,rfl⟩ := hm
   exact ⟨set_dead (by omega) hd,rfl,List.set_comm _ _ (by omega)⟩
  ·cases hm
 ·cases hm
theorem takeOver_ext {cx : Cx} (hi : i < cx.base) : ∀ (own : List (Nat × Nat)) (cs cs' : List AV) (h h' : Heap),takeOver cx own cs h = some (cs',h') → h[i]? = some (v,Blk.dead) → h'[i]? = some (v,Blk.dead) ∧ takeOver cx own cs (h.set i b) = some (cs',h'.set i b)
 | [],cs,cs',h,h',ht,hd => by
  simp only [takeOver,Option.some.injEq,Prod.mk.injEq] at ht ⊢
  obtain ⟨rfl,rfl⟩ := ht
  exact ⟨hd,rfl,rfl⟩
 | (j,s) :: r,cs,cs',h,h',ht,hd => by
  simp only [takeOver] at ht ⊢
  split at ht
  ·split at ht
   ·rename_i hc
    rw [if_pos hc]
    exact takeOver_ext hi r _ _ _ _ ht hd
   ·rename_i hc
    rw [if_neg hc]
    obtain ⟨⟨ver,h1⟩,hm,ht⟩ := bE.mp ht
    obtain ⟨k1,k2⟩ := mkAt_ext (b := b) hm hd hi
    obtain ⟨k3,k4⟩ := takeOver_ext hi r _ _ _ _ ht k1
    exact ⟨k3,bE.mpr ⟨_,k2,k4⟩⟩
  ·exact takeOver_ext hi r _ _ _ _ ht hd
theorem setParts_ext {base z : Nat} {env : Env} (hi : i < base) : ∀ (ps : List (Nat × Opd)) (es es' : List AV) (h h' : Heap),setParts env base z ps es h = some (es',h') → h[i]? = some (v,Blk.dead) → h'[i]? = some (v,Blk.dead) ∧ setParts env base z ps es (h.set i b) = some (es',h'.set i b)
 | [],es,es',h,h',ht,hd => by
  simp only [setParts,Option.some.injEq,Prod.mk.injEq] at ht ⊢
  obtain ⟨rfl,rfl⟩ := ht
  exact ⟨hd,rfl,rfl⟩
 | (k,x) :: ps,es,es',h,h',ht,hd => by
  simp only [setParts] at ht ⊢
  obtain ⟨⟨y,h1⟩,hf,ht⟩ := bE.mp ht
  dsimp only at ht
  split at ht
  ·rename_i hc
   obtain ⟨k1,k2⟩ := frz_ext (b := b) _ _ _ _ hf hd hi
   obtain ⟨k3,k4⟩ := setParts_ext hi ps _ _ _ _ ht k1
   refine ⟨k3,bE.mpr ⟨_,k2, ?_⟩⟩
   dsimp only
   rw [if_pos hc]
   exact k4
  ·cases ht
theorem pstore_ext {cx : Cx} {sz : Nat} {p x : AV} {h' : Heap} (hp : pstore cx h sz p x = some h') (hd : h[i]? = some (v,Blk.dead)) (hi : i < cx.base) : h'[i]? = some (v,Blk.dead) ∧ pstore cx (h.set i b) sz p x = some (h'.set i b) := by
 unfold pstore at hp ⊢
 split at hp
 ·rename_i hc0
  rw [if_pos hc0]
  split at hp
  ·rename_i id ver off
   split at hp
   ·rename_i w cs hid
    have hne := dead_ne hd hid (by simp)
    rw [List.getElem?_set_ne (by omega),hid]
    dsimp only
    split at hp
    ·rename_i hc
     rw [if_pos hc]
     obtain ⟨cs',hsp,rfl⟩ := mE.mp hp
     exact ⟨set_dead hne hd,mE.mpr ⟨cs',hsp,List.set_comm _ _ (Ne.symm hne)⟩⟩
    ·cases hp
   ·cases hp
  ·rename_i id ver z o len fill k off
   obtain ⟨⟨x1,h1⟩,hf,hp⟩ := bE.mp hp
   obtain ⟨k1,k2⟩ := frz_ext (b := b) _ _ _ _ hf hd (by omega)
   dsimp only at hp
   split at hp
   ·rename_i w z' es hid
    have hne := dead_ne k1 hid (by simp)
    split at hp
    ·rename_i hc
     split at hp
     ·rename_i cs hes
      obtain ⟨cs',hsp,rfl⟩ := mE.mp hp
      refine ⟨set_dead hne k1,bE.mpr ⟨_,k2, ?_⟩⟩
      dsimp only
      rw [List.getElem?_set_ne (by omega),hid]
      dsimp only
      rw [if_pos hc,hes]
      exact mE.mpr ⟨cs',hsp,List.set_comm _ _ (Ne.symm hne)⟩
     ·rename_i e0 hna hes
      split at hp
      ·rename_i hc2
       split at hp
       ·cases hp
       ·rename_i hna2
        simp only [Option.some.injEq] at hp
        subst hp
        refine ⟨set_dead hne k1,bE.mpr ⟨_,k2, ?_⟩⟩
        dsimp only
        rw [List.getElem?_set_ne (by omega),hid]
        dsimp only
        rw [if_pos hc,hes]
        split
        ·rename_i heq; cases heq; exact absurd rfl (hna _)
        ·rename_i heq
         cases heq
         rw [if_pos hc2]
         split
         ·exact absurd rfl (hna2 _)
         ·rw [List.set_comm _ _ (Ne.symm hne)]
        ·rename_i heq; cases heq
      ·cases hp
     ·cases hp
    ·cases hp
   ·cases hp
  ·cases hp
 ·cases hp
theorem copyv_ext {cx : Cx} {z : Nat} {x y : AV} {ys : List AV} {h' : Heap} (hp : copyv cx z x ys h = some (y,h')) (hd : h[i]? = some (v,Blk.dead)) : h'[i]? = some (v,Blk.dead) ∧ copyv cx z x ys (h.set i b) = some (y,h'.set i b) := by
 unfold copyv at hp ⊢
 split at hp
 ·rename_i hz
  rw [if_pos hz]
  split at hp
  ·cases hp
  ·rename_i len hlen
   split at hp
   ·rename_i h0
    rw [if_pos h0]
    simp only [Option.some.injEq,Prod.mk.injEq] at hp ⊢
    obtain ⟨rfl,rfl⟩ := hp
    exact ⟨hd,rfl,rfl⟩
   ·rename_i h0
    rw [if_neg h0]
    split at hp
    ·rename_i id ver z' off len fill
     split at hp
     ·rename_i w z'' es hid
      have hne := dead_ne hd hid (by simp)
      rw [List.getElem?_set_ne (by omega),hid]
      dsimp only
      split at hp
      ·rename_i hc
       rw [if_pos hc]
       simp only [Option.some.injEq,Prod.mk.injEq] at hp ⊢
       obtain ⟨rfl,rfl⟩ := hp
       exact ⟨set_dead hne hd,rfl,List.set_comm _ _ (Ne.symm hne)⟩
      ·cases hp
     ·cases hp
    ·cases hp
 ·cases hp
theorem appv_ext {cx : Cx} {s z lim : Nat} {x y : AV} {xs : List AV} {h' : Heap} (hp : appv cx s z lim x xs h = some (y,h')) (hd : h[i]? = some (v,Blk.dead)) (hi : i < cx.base) : h'[i]? = some (v,Blk.dead) ∧ appv cx s z lim x xs (h.set i b) = some (y,h'.set i b) := by
 unfold appv at hp ⊢
 split at hp
 ·split at hp
  ·rename_i hc
   rw [if_pos hc]
   simp only [Option.some.injEq,Prod.mk.injEq] at hp ⊢
   obtain ⟨rfl,rfl⟩ := hp
   exact ⟨hd,rfl,rfl⟩
  ·rename_i hc
   rw [if_neg hc]
   split at hp
   ·rename_i hc2
    rw [if_pos hc2]
    obtain ⟨⟨ver,h1⟩,hm,he⟩ := mE.mp hp
    simp only [Prod.mk.injEq] at he
    obtain ⟨rfl,rfl⟩ := he
    obtain ⟨k1,k2⟩ := mkAt_ext (b := b) hm hd (by omega)
    exact ⟨k1,mE.mpr ⟨_,k2,rfl⟩⟩
   ·cases hp
 ·split at hp
  ·rename_i hc0
   rw [if_pos hc0]
   split at hp
   ·rename_i hc
    rw [if_pos hc]
    simp only [Option.some.injEq,Prod.mk.injEq] at hp ⊢
    obtain ⟨rfl,rfl⟩ := hp
    exact ⟨hd,rfl,rfl⟩
   ·rename_i hc
    rw [if_neg hc]
    split at hp
    ·rename_i hc2
     rw [if_pos hc2]
     obtain ⟨⟨ver,h1⟩,hm,he⟩ := mE.mp hp
     simp only [Prod.mk.injEq] at he
     obtain ⟨rfl,rfl⟩ := he
     obtain ⟨k1,k2⟩ := mkAt_ext (b := b) hm hd (by omega)
     exact ⟨k1,mE.mpr ⟨_,k2,rfl⟩⟩
    ·cases hp
  ·cases hp
 ·rename_i id ver z' off len fill
  split at hp
  ·rename_i w z'' es hid
   have hne := dead_ne hd hid (by simp)
   rw [List.getElem?_set_ne (by omega),hid]
   dsimp only
   split at hp
   ·rename_i hc
    rw [if_pos hc]
    simp only [Option.some.injEq,Prod.mk.injEq] at hp ⊢
    obtain ⟨rfl,rfl⟩ := hp
    exact ⟨set_dead hne hd,rfl,List.set_comm _ _ (Ne.symm hne)⟩
   ·cases hp
  ·cases hp
 ·cases hp
theorem mgetv_ext {zero : AV} {ok : Bool} {x y r : AV} (hx : mgetv h zero ok x y = some r) (hd : h[i]? = some (v,Blk.dead)) : mgetv (h.set i b) zero ok x y = some r := by
 unfold mgetv at hx ⊢
 split at hx
 ·rename_i id ver k n
  split at hx
  ·rename_i v1 d k' kvs hid
   have hne := dead_ne hd hid (by simp)
   rw [List.getElem?_set_ne (by omega),hid]
   exact hx
  ·cases hx
 ·cases hx
theorem mupdv_ext {cx : Cx} {x y : AV} {f : Int → List (Int × AV) → List (Int × AV)} {h' : Heap} (hx : mupdv cx h x y f = some h') (hd : h[i]? = some (v,Blk.dead)) : h'[i]? = some (v,Blk.dead) ∧ mupdv cx (h.set i b) x y f = some (h'.set i b) := by
 unfold mupdv at hx ⊢
 split at hx
 ·rename_i id ver k n
  split at hx
  ·rename_i v1 d k' kvs hid
   have hne := dead_ne hd hid (by simp)
   rw [List.getElem?_set_ne (by omega),hid]
   dsimp only
   split at hx
   ·rename_i hc
    rw [if_pos hc]
    simp only [Option.some.injEq] at hx ⊢
    subst hx
    exact ⟨set_dead hne hd,List.set_comm _ _ (by omega)⟩
   ·cases hx
  ·cases hx
 ·cases hx
theorem bstrv_ext {cx : Cx} {x r : AV} (hx : bstrv cx x h = some r) (hd : h[i]? = some (v,Blk.dead)) : bstrv cx x (h.set i b) = some r := by
 unfold bstrv at hx ⊢
 split at hx
 ·rename_i id ver
  split at hx
  ·rename_i v1 d me mv lk hid
   have hne := dead_ne hd hid (by simp)
   rw [List.getElem?_set_ne (by omega),hid]
   dsimp only
   split at hx
   ·rename_i hc
    rw [if_pos hc]
    split at hx
    ·exact hx
    ·rename_i id2 ver2
     split at hx
     ·rename_i v2 d2 l hid2
      have hne2 := dead_ne hd hid2 (by simp)
      rw [List.getElem?_set_ne (by omega),hid2]
      exact hx
     ·cases hx
   ·cases hx
  ·cases hx
 ·cases hx
theorem bwrv_ext {cx : Cx} {s : Nat} {x y r : AV} {h' : Heap} (hx : bwrv cx s x y h = some (r,h')) (hd : h[i]? = some (v,Blk.dead)) (hi : i < cx.base) : h'[i]? = some (v,Blk.dead) ∧ bwrv cx s x y (h.set i b) = some (r,h'.set i b) := by
 unfold bwrv at hx ⊢
 split at hx
 ·rename_i id ver l
  split at hx
  ·rename_i v1 d me mv lk hid
   have hne := dead_ne hd hid (by simp)
   dsimp only
   rw [List.getElem?_set_ne (by omega),hid]
   dsimp only
   split at hx
   ·rename_i hc
    rw [if_pos hc]
    split at hx
    ·split at hx
     ·cases hx
     ·rename_i hl
      rw [if_neg hl]
      split at hx
      ·rename_i hc2
       rw [if_pos hc2]
       obtain ⟨⟨v2,h1⟩,hm,he⟩ := mE.mp hx
       simp only [Prod.mk.injEq] at he
       obtain ⟨rfl,rfl⟩ := he
       obtain ⟨k1,k2⟩ := mkAt_ext (b := b) hm hd hi
       exact ⟨set_dead hne k1,mE.mpr ⟨_,k2,by rw [List.set_comm _ _ (by omega)]⟩⟩
      ·cases hx
    ·rename_i id2 ver2
     split at hx
     ·rename_i v2 d2 l0 hid2
      have hne2 := dead_ne hd hid2 (by simp)
      rw [List.getElem?_set_ne (by omega),hid2]
      dsimp only
      split at hx
      ·rename_i hc2
       rw [if_pos hc2]
       simp only [Option.some.injEq,Prod.mk.injEq] at hx ⊢
       obtain ⟨rfl,rfl⟩ := hx
       exact ⟨set_dead hne (set_dead hne2 hd),rfl,by rw [List.set_comm (i := i) _ _ (by omega),List.set_comm (i := i) _ _ (by omega)]⟩
      ·cases hx
     ·cases hx
   ·cases hx
  ·cases hx
 ·cases hx
end
section
variable {i v : Nat} {b : Nat × Blk} {clo : Nat → Bool} {call : Callee}
theorem yieldv_ext (hc : CallExt clo call) {cx : Cx} {id ver : Nat} {args : List AV} {h h' : Heap} {r : AV} (hx : yieldv call cx id ver args h = some (r,h')) (hd : h[i]? = some (v,.dead)) (hi : i < cx.lo) : h'[i]? = some (v,.dead) ∧ yieldv call cx id ver args (h.set i b) = some (r,h'.set i b) := by
 unfold yieldv at hx ⊢
 split at hx
 ·rename_i w d hid
  have hne := dead_ne hd hid (by simp)
  rw [List.getElem?_set_ne (by omega),hid]
  dsimp only
  split at hx
  ·rename_i hcond
   rw [if_pos hcond]
   obtain ⟨⟨e,h1⟩,h2,he⟩ := mE.mp hx
   simp only [Prod.mk.injEq] at he
   obtain ⟨rfl,rfl⟩ := he
   obtain ⟨k1,k2⟩ := hc.rd h2 (b := b) hd (by omega) hcond.2.2.2.1 hcond.2.2.1
   exact ⟨k1,mE.mpr ⟨_,k2,rfl⟩⟩
  ·cases hx
 ·cases hx
theorem call_ext (hc : CallExt clo call) {cx : Cx} (hlo : cx.lo ≤ cx.base) {env : Env} {h h' : Heap} {f : Opd} {args : List Opd} {own : List (Nat × Nat)} {r : AV} (hx : xi call cx env h (.call f args own) = some (r,h')) (hd : h[i]? = some (v,.dead)) (hi : i < cx.lo ∨ (own = [] ∨ i < cx.base) ∧ ∃ g cs,f.ev env = .fn g cs ∧ (clo (mvF g) = true ∨ clo (mvF g + 5000) = true)) :
  h'[i]? = some (v,.dead) ∧ xi call cx env (h.set i b) (.call f args own) = some (r,h'.set i b) := by
 simp only [xi] at hx ⊢
 split at hx
 ·rename_i g caps hf
  obtain ⟨⟨r1,h1⟩,h2,hx⟩ := bE.mp hx
  obtain ⟨k1,k2⟩ := hc.fn h2 (b := b) hd (hi.imp (fun h => h) fun ⟨_,g',cs',h1,h2⟩ => by rw [hf] at h1; cases h1; exact h2)
  rw [k2]
  simp only [Option.bind_some]
  dsimp only at hx
  split at hx
  ·simp only [Option.some.injEq,Prod.mk.injEq] at hx ⊢
   obtain ⟨rfl,rfl⟩ := hx
   exact ⟨k1,rfl,rfl⟩
  ·rename_i hne
   have hi' : i < cx.base := by
    rcases hi with hi | ⟨ho | ho,_⟩
    ·omega
    ·exact absurd ho (by rintro rfl; exact hne rfl)
    ·exact ho
   split at hx
   ·obtain ⟨⟨cs',h3⟩,h4,he⟩ := mE.mp hx
    simp only [Prod.mk.injEq] at he
    obtain ⟨rfl,rfl⟩ := he
    obtain ⟨k3,k4⟩ := takeOver_ext (b := b) hi' _ _ _ _ _ h4 k1
    exact ⟨k3,mE.mpr ⟨_,k4,rfl⟩⟩
   ·obtain ⟨⟨cs',h3⟩,h4,hx⟩ := bE.mp hx
    obtain ⟨q,h5,he⟩ := mE.mp hx
    simp only [Prod.mk.injEq] at he
    obtain ⟨rfl,rfl⟩ := he
    obtain ⟨k3,k4⟩ := takeOver_ext (b := b) hi' _ _ _ _ _ h4 k1
    exact ⟨k3,bE.mpr ⟨_,k4,mE.mpr ⟨q,h5,rfl⟩⟩⟩
 ·split at hx
  ·rename_i id ver hf hown
   rw [if_pos hown]
   refine yieldv_ext hc hx hd ?_
   rcases hi with hi | ⟨_,g',cs',h1,_⟩
   ·exact hi
   ·rw [hf] at h1; cases h1
  ·cases hx
 ·cases hx
theorem xi_ext (hc : CallExt clo call) {cx : Cx} (hlo : cx.lo ≤ cx.base) {env : Env} {h h' : Heap} {o : XI} {r : AV} (hx : xi call cx env h o = some (r,h')) (hd : h[i]? = some (v,.dead)) (hi : i < cx.base) (hq : i < cx.lo ∨ ∀ f args own,o = .call f args own → ∃ g cs,f.ev env = .fn g cs ∧ (clo (mvF g) = true ∨ clo (mvF g + 5000) = true)) :
  h'[i]? = some (v,.dead) ∧ xi call cx env (h.set i b) o = some (r,h'.set i b) := by
 cases o
 case call f args own => exact call_ext hc hlo hx hd (hq.imp id fun h => ⟨.inr hi,h _ _ _ rfl⟩)
 all_goals simp only [xi] at hx ⊢
 case bslice z zero n ps =>
  obtain ⟨⟨es,h1⟩,h2,he⟩ := mE.mp hx
  simp only [Prod.mk.injEq] at he
  obtain ⟨rfl,rfl⟩ := he
  obtain ⟨k1,k2⟩ := setParts_ext (b := b) (show i < cx.base by omega) _ _ _ _ _ h2 hd
  exact ⟨k1,mE.mpr ⟨_,k2,rfl⟩⟩
 case mkmap s k =>
  obtain ⟨⟨ver,h1⟩,h2,he⟩ := mE.mp hx
  simp only [Prod.mk.injEq] at he
  obtain ⟨rfl,rfl⟩ := he
  obtain ⟨k1,k2⟩ := mkAt_ext (b := b) h2 hd (by omega)
  exact ⟨k1,mE.mpr ⟨_,k2,rfl⟩⟩
 case mkbld s =>
  obtain ⟨⟨ver,h1⟩,h2,he⟩ := mE.mp hx
  simp only [Prod.mk.injEq] at he
  obtain ⟨rfl,rfl⟩ := he
  obtain ⟨k1,k2⟩ := mkAt_ext (b := b) h2 hd (by omega)
  exact ⟨set_dead (by omega) k1,mE.mpr ⟨_,k2,by rw [List.set_comm _ _ (by omega)]⟩⟩
 case mget zero ok x k =>
  obtain ⟨q,h2,he⟩ := mE.mp hx
  simp only [Prod.mk.injEq] at he
  obtain ⟨rfl,rfl⟩ := he
  exact ⟨hd,mE.mpr ⟨_,mgetv_ext h2 hd,rfl⟩⟩
 case bstr f x =>
  obtain ⟨q,h2,he⟩ := mE.mp hx
  simp only [Prod.mk.injEq] at he
  obtain ⟨rfl,rfl⟩ := he
  exact ⟨hd,mE.mpr ⟨_,bstrv_ext h2 hd,rfl⟩⟩
 case toStr x =>
  obtain ⟨es,h1,hx⟩ := bE.mp hx
  obtain ⟨q,h2,he⟩ := mE.mp hx
  simp only [Prod.mk.injEq] at he
  obtain ⟨rfl,rfl⟩ := he
  exact ⟨hd,bE.mpr ⟨_,asList_ext h1 hd,mE.mpr ⟨_,h2,rfl⟩⟩⟩
 case mkif tt x =>
  split at hx
  ·rename_i hc
   rw [if_pos hc]
   simp only [Option.some.injEq,Prod.mk.injEq] at hx ⊢
   obtain ⟨rfl,rfl⟩ := hx
   exact ⟨hd,rfl,rfl⟩
  ·cases hx
 case mput x k y =>
  split at hx
  ·rename_i hc
   rw [if_pos hc]
   obtain ⟨h1,h2,he⟩ := mE.mp hx
   simp only [Prod.mk.injEq] at he
   obtain ⟨rfl,rfl⟩ := he
   obtain ⟨k1,k2⟩ := mupdv_ext (b := b) h2 hd
   exact ⟨k1,mE.mpr ⟨_,k2,rfl⟩⟩
  ·cases hx
 case mdel x k =>
  obtain ⟨h1,h2,he⟩ := mE.mp hx
  simp only [Prod.mk.injEq] at he
  obtain ⟨rfl,rfl⟩ := he
  obtain ⟨k1,k2⟩ := mupdv_ext (b := b) h2 hd
  exact ⟨k1,mE.mpr ⟨_,k2,rfl⟩⟩
 case bwr s f x y => exact bwrv_ext hx hd (by omega)
 case store sz x y =>
  obtain ⟨h1,h2,he⟩ := mE.mp hx
  simp only [Prod.mk.injEq] at he
  obtain ⟨rfl,rfl⟩ := he
  obtain ⟨k1,k2⟩ := pstore_ext (b := b) h2 hd hi
  exact ⟨k1,mE.mpr ⟨_,k2,rfl⟩⟩
 case alloc s zero =>
  obtain ⟨⟨ver,h1⟩,h2,he⟩ := mE.mp hx
  simp only [Prod.mk.injEq] at he
  obtain ⟨rfl,rfl⟩ := he
  obtain ⟨k1,k2⟩ := mkAt_ext (b := b) h2 hd (by omega)
  exact ⟨k1,mE.mpr ⟨_,k2,rfl⟩⟩
 case box s x =>
  split at hx
  ·rename_i hval
   rw [if_pos hval]
   obtain ⟨⟨ver,h1⟩,h2,he⟩ := mE.mp hx
   simp only [Prod.mk.injEq] at he
   obtain ⟨rfl,rfl⟩ := he
   obtain ⟨k1,k2⟩ := mkAt_ext (b := b) h2 hd (by omega)
   exact ⟨k1,mE.mpr ⟨_,k2,rfl⟩⟩
  ·cases hx
 case boxR x =>
  split at hx
  ·rename_i hval
   rw [if_pos hval]
   obtain ⟨⟨ver,h1⟩,h2,he⟩ := mE.mp hx
   simp only [Prod.mk.injEq] at he
   obtain ⟨rfl,rfl⟩ := he
   obtain ⟨k1,k2⟩ := frz_ext (b := b) _ _ _ _ h2 hd (by omega)
   exact ⟨k1,mE.mpr ⟨_,k2,rfl⟩⟩
  ·cases hx
 case mk s z zero lim n c =>
  split at hx
  ·split at hx
   ·rename_i hz
    rw [if_pos hz]
    simp only [Option.some.injEq,Prod.mk.injEq] at hx ⊢
    obtain ⟨rfl,rfl⟩ := hx
    exact ⟨hd,rfl,rfl⟩
   rename_i hz
   rw [if_neg hz]
   split at hx
   ·rename_i hcond
    rw [if_pos hcond]
    obtain ⟨⟨ver,h1⟩,h2,he⟩ := mE.mp hx
    simp only [Prod.mk.injEq] at he
    obtain ⟨rfl,rfl⟩ := he
    obtain ⟨k1,k2⟩ := mkAt_ext (b := b) h2 hd (by omega)
    exact ⟨k1,mE.mpr ⟨_,k2,rfl⟩⟩
   ·cases hx
  ·cases hx
 case app s z lim x y =>
  obtain ⟨xs,h2,hx⟩ := bE.mp hx
  have k : h'[i]? = some (v,Blk.dead) ∧ appw cx s z lim (x.ev env) xs (h.set i b) = some (r,h'.set i b) := by
   unfold appw at hx ⊢
   split at hx
   ·rename_i hs; rw [if_pos hs]; exact appv_ext (b := b) hx hd hi
   ·rename_i hs
    rw [if_neg hs]
    obtain ⟨⟨v1,h1⟩,h3,h4⟩ := bE.mp hx
    obtain ⟨k1,k2⟩ := appv_ext (b := b) h3 hd hi
    obtain ⟨k3,k4⟩ := frz_ext (b := b) _ _ _ _ h4 k1 (by omega)
    exact ⟨k3,bE.mpr ⟨_,k2,k4⟩⟩
  exact ⟨k.1,bE.mpr ⟨xs,appSrc_ext h2 hd,k.2⟩⟩
 case apz s z zero lim x y =>
  split at hx
  ·split at hx
   ·rename_i hc
    obtain ⟨k1,k2⟩ := appv_ext (b := b) hx hd hi
    exact ⟨k1,by rw [if_pos hc]; exact k2⟩
   ·cases hx
  ·cases hx
 case pnc x => cases hx
 case clr z zero x =>
  obtain ⟨n,h2,hx⟩ := bE.mp hx
  obtain ⟨⟨u,h1⟩,h3,he⟩ := mE.mp hx
  simp only [Prod.mk.injEq] at he
  obtain ⟨rfl,rfl⟩ := he
  obtain ⟨k1,k2⟩ := copyv_ext (b := b) h3 hd
  exact ⟨k1,bE.mpr ⟨n,h2,mE.mpr ⟨_,k2,rfl⟩⟩⟩
 case copy z x y =>
  obtain ⟨xs,h2,hx⟩ := bE.mp hx
  obtain ⟨k1,k2⟩ := copyv_ext (b := b) hx hd
  exact ⟨k1,bE.mpr ⟨xs,asList_ext h2 hd,k2⟩⟩
 case load sh x =>
  obtain ⟨cs,h2,hx⟩ := bE.mp hx
  obtain ⟨q,h3,he⟩ := mE.mp hx
  simp only [Prod.mk.injEq] at he
  obtain ⟨rfl,rfl⟩ := he
  exact ⟨hd,bE.mpr ⟨cs,pcells_ext h2 hd,mE.mpr ⟨q,h3,rfl⟩⟩⟩
 case ixS z x k =>
  split at hx
  ·rename_i hval
   rw [if_pos hval]
   obtain ⟨n,h2,hx⟩ := bE.mp hx
   obtain ⟨q,h3,he⟩ := mE.mp hx
   simp only [Prod.mk.injEq] at he
   obtain ⟨rfl,rfl⟩ := he
   exact ⟨hd,bE.mpr ⟨n,h2,mE.mpr ⟨q,h3,rfl⟩⟩⟩
  ·cases hx
 case fld x off sh =>
  split at hx
  ·obtain ⟨q,h3,he⟩ := mE.mp hx
   simp only [Prod.mk.injEq] at he
   obtain ⟨rfl,rfl⟩ := he
   exact ⟨hd,mE.mpr ⟨q,h3,rfl⟩⟩
  ·cases hx
 case ixV n size sh x k =>
  split at hx
  ·obtain ⟨n,h2,hx⟩ := bE.mp hx
   obtain ⟨q,h3,he⟩ := mE.mp hx
   simp only [Prod.mk.injEq] at he
   obtain ⟨rfl,rfl⟩ := he
   exact ⟨hd,bE.mpr ⟨n,h2,mE.mpr ⟨q,h3,rfl⟩⟩⟩
  ·cases hx
 case ixStr x k =>
  split at hx
  ·obtain ⟨n,h2,hx⟩ := bE.mp hx
   obtain ⟨q,h3,he⟩ := mE.mp hx
   simp only [Prod.mk.injEq] at he
   obtain ⟨rfl,rfl⟩ := he
   exact ⟨hd,bE.mpr ⟨n,h2,mE.mpr ⟨q,h3,rfl⟩⟩⟩
  ·cases hx
 all_goals first
  | (simp only [Option.some.injEq,Prod.mk.injEq] at hx ⊢; obtain ⟨rfl,rfl⟩ := hx; exact ⟨hd,rfl,rfl⟩)
  | (obtain ⟨q,h3,he⟩ := mE.mp hx; simp only [Prod.mk.injEq] at he; obtain ⟨rfl,rfl⟩ := he; exact ⟨hd,mE.mpr ⟨q,h3,rfl⟩⟩)
  | (obtain ⟨q0,h2,hx⟩ := bE.mp hx; obtain ⟨q,h3,he⟩ := mE.mp hx; simp only [Prod.mk.injEq] at he; obtain ⟨rfl,rfl⟩ := he; exact ⟨hd,bE.mpr ⟨q0,h2,mE.mpr ⟨q,h3,rfl⟩⟩⟩)
theorem chk_ext {cx : Cx} (hi : i < cx.base) {env : Env} {h : Heap} (l : List Chk) : l.all (Chk.ok cx env (h.set i b)) = l.all (Chk.ok cx env h) := by
 induction l with
 | nil => rfl
 | cons c l ih =>
  simp only [List.all_cons,ih]
  congr 1
  cases c <;> simp only [Chk.ok]
  all_goals rw [List.getElem?_set_ne (by omega)]
theorem still_of {cx : Cx} {env : Env} {h : Heap} {x : XOp} (hs : x.still clo = true) (hc : x.chk.all (Chk.ok cx env h) = true) {r : AV × Heap} (hx : xi call cx env h x.op = some r) : ∀ f args own,x.op = .call f args own → ∃ g cs,f.ev env = .fn g cs ∧ (clo (mvF g) = true ∨ clo (mvF g + 5000) = true) := by
 intro f args own hop
 unfold XOp.still at hs
 rw [hop] at hs
 simp only [Bool.and_eq_true,Bool.or_eq_true] at hs
 rcases hs.2 with ho | ho
 ·unfold XOp.oneOf at ho
  split at ho
  ·rename_i t
   obtain ⟨c,hcm,hc2⟩ := List.any_eq_true.mp ho
   have hk := List.all_eq_true.mp hc c hcm
   cases c <;> simp only [Bool.false_eq_true] at hc2
   rename_i t' gs
   simp only [Bool.and_eq_true,beq_iff_eq] at hc2
   obtain ⟨rfl,hgs⟩ := hc2
   simp only [Chk.ok] at hk
   split at hk
   ·rename_i g cs hf
    exact ⟨g,cs,hf,.inl (List.all_eq_true.mp hgs g (by simpa using hk))⟩
   ·cases hk
  ·rename_i g cs
   exact ⟨g,cs,rfl,.inl ho⟩
  ·cases ho
 ·unfold calm at ho
  split at ho
  ·rename_i g cs
   exact ⟨g,cs,rfl,.inr ho⟩
  ·cases ho
theorem xop_ext (hc : CallExt clo call) {cx : Cx} (hlo : cx.lo ≤ cx.base) {env env' : Env} {h h' : Heap} {o : XOp} (hx : xop call cx o env h = some (env',h')) (hd : h[i]? = some (v,.dead)) (hi : i < cx.base) (hq : i < cx.lo ∨ o.still clo = true) : h'[i]? = some (v,.dead) ∧ xop call cx o env (h.set i b) = some (env',h'.set i b) := by
 have key : ∀ {r : AV} {h' : Heap},xic call cx env h o = some (r,h') → h'[i]? = some (v,.dead) ∧ xic call cx env (h.set i b) o = some (r,h'.set i b) := by
  intro r h' hx
  obtain ⟨h1,h2⟩ := xic_some hx
  obtain ⟨k1,k2⟩ := xi_ext (b := b) hc hlo h1 hd hi (hq.imp id fun hq => still_of hq h2 h1)
  refine ⟨k1, ?_⟩
  unfold xic
  rw [chk_ext (by omega),if_pos h2]
  exact k2
 unfold xop at hx ⊢
 split at hx
 ·rename_i hg
  obtain ⟨⟨r,h1⟩,h2,he⟩ := mE.mp hx
  simp only [Prod.mk.injEq] at he
  obtain ⟨rfl,rfl⟩ := he
  obtain ⟨k1,k2⟩ := key h2
  exact ⟨k1,mE.mpr ⟨_,k2,rfl⟩⟩
 ·rename_i g want hg
  obtain ⟨q,hq,hx⟩ := bE.mp hx
  rw [hq]
  simp only [Option.bind_some]
  split at hx
  ·rename_i hw
   rw [if_pos hw]
   obtain ⟨⟨r,h1⟩,h2,he⟩ := mE.mp hx
   simp only [Prod.mk.injEq] at he
   obtain ⟨rfl,rfl⟩ := he
   obtain ⟨k1,k2⟩ := key h2
   exact ⟨k1,mE.mpr ⟨_,k2,rfl⟩⟩
  ·rename_i hw
   rw [if_neg hw]
   simp only [Option.some.injEq,Prod.mk.injEq] at hx ⊢
   obtain ⟨rfl,rfl⟩ := hx
   exact ⟨hd,rfl,rfl⟩
theorem xops_ext (hc : CallExt clo call) {cx : Cx} (hlo : cx.lo ≤ cx.base) : ∀ (os : List XOp) {env env' : Env} {h h' : Heap},xops call cx os env h = some (env',h') → h[i]? = some (v,.dead) → i < cx.base → (i < cx.lo ∨ os.all (XOp.still clo) = true) → h'[i]? = some (v,.dead) ∧ xops call cx os env (h.set i b) = some (env',h'.set i b)
 | [],env,env',h,h',hx,hd,hi,hq => by
  simp only [xops,Option.some.injEq,Prod.mk.injEq] at hx ⊢
  obtain ⟨rfl,rfl⟩ := hx
  exact ⟨hd,rfl,rfl⟩
 | o :: os,env,env',h,h',hx,hd,hi,hq => by
  obtain ⟨⟨e1,h1⟩,h2,hx⟩ := bE.mp hx
  obtain ⟨k1,k2⟩ := xop_ext (b := b) hc hlo h2 hd hi (hq.imp id fun hq => by simp only [List.all_cons,Bool.and_eq_true] at hq; exact hq.1)
  obtain ⟨k3,k4⟩ := xops_ext hc hlo os hx k1 hi (hq.imp id fun hq => by simp only [List.all_cons,Bool.and_eq_true] at hq; exact hq.2)
  exact ⟨k3,bE.mpr ⟨_,k2,k4⟩⟩
theorem killAll_ext {cx : Cx} (hi : i < cx.base) : ∀ (ss : List Nat) (h : Heap),h[i]? = some (v,.dead) → (killAll cx ss h)[i]? = some (v,.dead) ∧ killAll cx ss (h.set i b) = (killAll cx ss h).set i b
 | [],h,hd => ⟨hd,rfl⟩
 | s :: ss,h,hd => by
  simp only [killAll]
  rw [List.getElem?_set_ne (by omega)]
  split
  ·rename_i w k hid
   rw [hid]
   dsimp only
   rw [List.set_comm _ _ (show i ≠ cx.base + s by omega)]
   exact killAll_ext hi ss _ (set_dead (by omega) hd)
  ·rename_i hid
   rw [hid]
   exact killAll_ext hi ss h hd
theorem exec_ext (hc : CallExt clo call) {cx : Cx} (hlo : cx.lo ≤ cx.base) (hr : ∀ id ver,cx.rnd = some (id,ver) → i < id) (n : Nat) : ∀ (x : XC) {env : Env} {h : Heap} {e : Ex} {env' : Env} {h' : Heap},exec call cx n x (env,h) = some (e,(env',h')) → h[i]? = some (v,.dead) → i < cx.base → (i < cx.lo ∨ x.still clo = true) →
  h'[i]? = some (v,.dead) ∧ exec call cx n x (env,h.set i b) = some (e,(env',h'.set i b)) := by
 intro x
 induction x with
 | skip | exit | ret =>
  intro env h e env' h' hx hd hi hq
  simp only [exec,Option.some.injEq,Prod.mk.injEq] at hx ⊢
  obtain ⟨rfl,rfl,rfl⟩ := hx
  exact ⟨hd,rfl,rfl,rfl⟩
 | reg draw keep kill ops =>
  intro env h e env' h' hx hd hi hq
  obtain ⟨kd,ke⟩ := killAll_ext (b := b) hi kill h hd
  simp only [exec,mE,Prod.mk.injEq,ke] at hx ⊢
  obtain ⟨⟨e1,h1⟩,h2,rfl,rfl,rfl⟩ := hx
  obtain ⟨k1,k2⟩ := xops_ext (b := b) hc hlo _ h2 kd hi hq
  exact ⟨k1,_,k2,rfl,rfl,rfl⟩
 | seq p q ihp ihq =>
  intro env h e env' h' hx hd hi hq
  obtain ⟨⟨e1,env1,h1⟩,h2,hx⟩ := bE.mp hx
  have hq' : i < cx.lo ∨ (p.still clo = true ∧ q.still clo = true) := hq.imp id fun hq => by simpa [XC.still] using hq
  obtain ⟨k1,k2⟩ := ihp h2 hd hi (hq'.imp id (·.1))
  dsimp only at hx
  split at hx
  ·rename_i he
   obtain ⟨k3,k4⟩ := ihq hx k1 hi (hq'.imp id (·.2))
   refine ⟨k3,bE.mpr ⟨_,k2, ?_⟩⟩
   dsimp only
   rw [if_pos he]
   exact k4
  ·rename_i he
   simp only [Option.some.injEq,Prod.mk.injEq] at hx
   obtain ⟨rfl,rfl,rfl⟩ := hx
   refine ⟨k1,bE.mpr ⟨_,k2, ?_⟩⟩
   dsimp only
   rw [if_neg he]
 | cond c p q ihp ihq =>
  intro env h e env' h' hx hd hi hq
  have hq' : i < cx.lo ∨ (p.still clo = true ∧ q.still clo = true) := hq.imp id fun hq => by simpa [XC.still] using hq
  obtain ⟨r,h2,hx⟩ := bE.mp hx
  cases r with
  | true =>
   obtain ⟨k1,k2⟩ := ihp hx hd hi (hq'.imp id (·.1))
   exact ⟨k1,bE.mpr ⟨_,h2,k2⟩⟩
  | false =>
   obtain ⟨k1,k2⟩ := ihq hx hd hi (hq'.imp id (·.2))
   exact ⟨k1,bE.mpr ⟨_,h2,k2⟩⟩
 | blk id p ih =>
  intro env h e env' h' hx hd hi hq
  obtain ⟨⟨e1,env1,h1⟩,h2,he⟩ := mE.mp hx
  obtain ⟨k1,k2⟩ := ih h2 hd hi hq
  unfold Ex.inBlk at he
  split at he
  ·rename_i hee
   simp only [Prod.mk.injEq] at he
   obtain ⟨rfl,rfl,rfl⟩ := he
   refine ⟨k1,mE.mpr ⟨_,k2, ?_⟩⟩
   unfold Ex.inBlk
   rw [if_pos hee]
  ·rename_i hee
   simp only [Prod.mk.injEq] at he
   obtain ⟨rfl,rfl,rfl⟩ := he
   refine ⟨k1,mE.mpr ⟨_,k2, ?_⟩⟩
   unfold Ex.inBlk
   rw [if_neg hee]
 | loop p ih =>
  intro env h e env' h' hx hd hi hq
  simp only [exec] at hx ⊢
  have key : ∀ (k : Nat) {env : Env} {h : Heap} {e : Ex} {env' : Env} {h' : Heap},iter (exec call cx n p) k (env,h) = some (e,(env',h')) → h[i]? = some (v,.dead) → h'[i]? = some (v,.dead) ∧ iter (exec call cx n p) k (env,h.set i b) = some (e,(env',h'.set i b)) := by
   intro k
   induction k with
   | zero => intro env h e env' h' hx; simp [iter] at hx
   | succ k ihk =>
    intro env h e env' h' hx hd
    simp only [iter,bE] at hx ⊢
    obtain ⟨⟨e1,env1,h1⟩,hx1,hx2⟩ := hx
    obtain ⟨k1,k2⟩ := ih hx1 hd hi hq
    dsimp only at hx2
    split at hx2
    ·rename_i he
     obtain ⟨k3,k4⟩ := ihk hx2 k1
     refine ⟨k3,_,k2, ?_⟩
     dsimp only
     rw [if_pos he]
     exact k4
    ·rename_i he
     simp only [Option.some.injEq,Prod.mk.injEq] at hx2
     obtain ⟨rfl,rfl,rfl⟩ := hx2
     refine ⟨k1,_,k2, ?_⟩
     dsimp only
     rw [if_neg he]
  exact key n hx hd
 | rfn s f g =>
  intro env h e env' h' hx hd hi hq
  have hi2 : i < cx.lo := hq.resolve_right (by simp [XC.still])
  have hro : rndOk cx (h.set i b) = rndOk cx h := by
   unfold rndOk
   split
   ·rfl
   ·rename_i id ver hcx
    rw [List.getElem?_set_ne (by have := hr id ver hcx; omega)]
  simp only [exec,hro] at hx ⊢
  split at hx
  ·obtain ⟨⟨ver,h1⟩,hmk,hx1⟩ := bE.mp hx
   obtain ⟨⟨r0,h2⟩,hcall,hx2⟩ := bE.mp hx1
   clear hx hx1
   obtain ⟨k1,k2⟩ := mkAt_ext (b := b) hmk hd (by omega)
   obtain ⟨k3,k4⟩ := hc.fn hcall (b := b) k1 (.inl hi2)
   dsimp only at hx2
   have hget : (h2.set i b)[cx.base + s]? = h2[cx.base + s]? := List.getElem?_set_ne (by omega)
   split at hx2
   ·rename_i w d2 hid
    split at hx2
    ·rename_i hw
     simp only [Option.some.injEq,Prod.mk.injEq] at hx2
     obtain ⟨rfl,rfl,rfl⟩ := hx2
     refine ⟨set_dead (by omega) k3,bE.mpr ⟨_,k2,bE.mpr ⟨_,k4, ?_⟩⟩⟩
     dsimp only
     rw [hget,hid]
     dsimp only
     rw [if_pos hw,List.set_comm _ _ (by omega)]
    ·cases hx2
   ·rename_i w d2 e2 hid
    split at hx2
    ·rename_i hw
     simp only [Option.some.injEq,Prod.mk.injEq] at hx2
     obtain ⟨rfl,rfl,rfl⟩ := hx2
     refine ⟨set_dead (by omega) k3,bE.mpr ⟨_,k2,bE.mpr ⟨_,k4, ?_⟩⟩⟩
     dsimp only
     rw [hget,hid]
     dsimp only
     rw [if_pos hw,List.set_comm _ _ (by omega)]
    ·cases hx2
   ·cases hx2
  ·cases hx
 | pre ps p ih =>
  intro env h e env' h' hx hd hi hq
  exact ih (env := env.keep ps) hx hd hi hq
 | fz t p ih =>
  intro env h e env' h' hx hd hi hq
  have hi2 : i < cx.lo := hq.resolve_right (by simp [XC.still])
  obtain ⟨⟨v',h1⟩,h2,hx⟩ := bE.mp hx
  obtain ⟨k1,k2⟩ := frz_ext (b := b) _ _ _ _ h2 hd (show i < cx.base by omega)
  obtain ⟨k3,k4⟩ := ih (env := env.set t v') hx k1 hi (.inl hi2)
  exact ⟨k3,bE.mpr ⟨_,k2,k4⟩⟩
end
end Go.VI
