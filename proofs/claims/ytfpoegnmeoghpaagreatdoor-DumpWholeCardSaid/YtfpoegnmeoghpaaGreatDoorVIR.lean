/- What the evaluator keeps of the blocks of its callers: these lead to none of the frames above them. -/
import Derived.Test.YtfpoegnmeoghpaaGreatDoorVIQ
set_option linter.unusedVariables false
set_option linter.unusedSimpArgs false
namespace Go.VI
set_option linter.unusedSectionVars false
mutual
theorem lowB_low : ∀ {top : Nat} (v : AV),v.lowB top = true → low top v
 | top,.agg cs,h | top,.tuple cs,h | top,.fn _ cs,h => by simp only [AV.lowB] at h; simp only [low]; exact lowBL_low cs h
 | top,.ifc _ v,h | top,.iptr v _ _,h => by simp only [AV.lowB] at h; simp only [low]; exact lowB_low v h
 | top,.ref ..,h | top,.bptr ..,h | top,.yld ..,h => by simp only [AV.lowB,decide_eq_true_eq] at h; simpa only [low] using h
 | _,.undef,_ | _,.bool _,_ | _,.int _ _,_ | _,.str _,_ | _,.nilFn,_ | _,.nilIf,_ | _,.nilSl,_ | _,.lst _ _,_ | _,.lsf _ _,_ | _,.own _ _,_ | _,.nilPtr,_ | _,.cptr _,_ => by simp [low]
theorem lowBL_low : ∀ {top : Nat} (cs : List AV),AV.lowBL top cs = true → lowL top cs
 | _,[],_ => by simp [lowL]
 | top,c :: cs,h => by
  simp only [AV.lowBL,Bool.and_eq_true] at h
  simp only [lowL]
  exact ⟨lowB_low c h.1,lowBL_low cs h.2⟩
end
mutual
theorem closed_low : ∀ {top : Nat} (v : AV),v.closed = true → low top v
 | top,.agg cs,h | top,.tuple cs,h | top,.fn _ cs,h => by simp only [AV.closed] at h; simp only [low]; exact closedL_low cs h
 | top,.ifc _ v,h => by simp only [AV.closed] at h; simp only [low]; exact closed_low v h
 | top,.ref ..,h | top,.bptr ..,h | top,.yld ..,h | top,.iptr ..,h => by simp [AV.closed] at h
 | _,.undef,_ | _,.bool _,_ | _,.int _ _,_ | _,.str _,_ | _,.nilFn,_ | _,.nilIf,_ | _,.nilSl,_ | _,.lst _ _,_ | _,.lsf _ _,_ | _,.own _ _,_ | _,.nilPtr,_ | _,.cptr _,_ => by simp [low]
theorem closedL_low : ∀ {top : Nat} (cs : List AV),AV.closedL cs = true → lowL top cs
 | _,[],_ => by simp [lowL]
 | top,c :: cs,h => by
  simp only [AV.closedL,Bool.and_eq_true] at h
  simp only [lowL]
  exact ⟨closed_low c h.1,closedL_low cs h.2⟩
end
mutual
theorem low_mono {b b' : Nat} (h : b ≤ b') : ∀ (v : AV),low b v → low b' v
 | .agg cs,hl | .tuple cs,hl | .fn _ cs,hl => by simp only [low] at hl ⊢; exact lowL_mono h cs hl
 | .ifc _ v,hl | .iptr v _ _,hl => by simp only [low] at hl ⊢; exact low_mono h v hl
 | .ref ..,hl | .bptr ..,hl | .yld ..,hl => by simp only [low] at hl ⊢; omega
 | .undef,_ | .bool _,_ | .int _ _,_ | .str _,_ | .nilFn,_ | .nilIf,_ | .nilSl,_ | .lst _ _,_ | .lsf _ _,_ | .own _ _,_ | .nilPtr,_ | .cptr _,_ => by simp [low]
theorem lowL_mono {b b' : Nat} (h : b ≤ b') : ∀ (cs : List AV),lowL b cs → lowL b' cs
 | [],_ => by simp [lowL]
 | c :: cs,hl => by simp only [lowL] at hl ⊢; exact ⟨low_mono h c hl.1,lowL_mono h cs hl.2⟩
end
theorem lowL_iff {b : Nat} : ∀ {cs : List AV},lowL b cs ↔ ∀ c ∈ cs,low b c
 | [] => by simp [lowL]
 | c :: cs => by simp only [lowL,List.mem_cons,forall_eq_or_imp,lowL_iff]
theorem lowL_cells {b : Nat} {v : AV} (h : low b v) : lowL b v.cells := by
 cases v <;> simp_all [AV.cells,low,lowL]
def LowH (N : Nat) (h : Heap) : Prop :=
 ∀ id v,(∀ cs,id < N → h[id]? = some (v,.box cs) → lowL N cs) ∧ (∀ d st,h[id]? = some (v,.rcd d st) → (id < N → d.base + d.ns ≤ N ∧ ∀ t,low N (d.env.get t)) ∧ (N ≤ id → N ≤ d.base))
structure CallLow (call : Callee) : Prop where
 fn : ∀ {f : Nat} {args : List AV} {h : Heap} {lo : Nat} {r : AV} {h' : Heap},call.fn f args h lo = some (r,h') → h'.length = h.length ∧ ∀ N,N ≤ h.length → LowH N h → LowH N h'
 rd : ∀ {d : Rcd} {id ver : Nat} {args : List AV} {h : Heap} {e : Ex} {h' : Heap},call.rd d id ver args h = some (e,h') → (∃ st,h[id]? = some (ver,.rcd d st)) → h'.length = h.length ∧ ∀ N,N ≤ h.length → LowH N h → LowH N h'
def LowTo (N : Nat) (h h' : Heap) : Prop := h'.length = h.length ∧ (LowH N h → LowH N h')
theorem LowTo.refl (N : Nat) (h : Heap) : LowTo N h h := ⟨rfl,fun h => h⟩
theorem LowTo.trans {N : Nat} {h h1 h2 : Heap} (a : LowTo N h h1) (b : LowTo N h1 h2) : LowTo N h h2 := ⟨b.1.trans a.1,fun h => b.2 (a.2 h)⟩
theorem LowTo.set {N : Nat} {h : Heap} {id : Nat} {x : Nat × Blk} (hb : ∀ cs,x.2 = .box cs → id < N → LowH N h → lowL N cs) (hr : ∀ d st,x.2 = .rcd d st → LowH N h → (id < N → d.base + d.ns ≤ N ∧ ∀ t,low N (d.env.get t)) ∧ (N ≤ id → N ≤ d.base)) : LowTo N h (h.set id x) := by
 refine ⟨by simp,fun hl k v => ?_⟩
 by_cases hk : k = id
 ·subst hk
  refine ⟨fun cs hkN hh => ?_,fun d st hh => ?_⟩
  ·rw [List.getElem?_set] at hh
   simp only [if_true] at hh
   split at hh
   ·simp only [Option.some.injEq] at hh; subst hh; exact hb cs rfl hkN hl
   ·cases hh
  ·rw [List.getElem?_set] at hh
   simp only [if_true] at hh
   split at hh
   ·simp only [Option.some.injEq] at hh; subst hh; exact hr d st rfl hl
   ·cases hh
 ·rw [List.getElem?_set_ne (by omega)]
  exact hl k v
theorem LowTo.dead {N : Nat} {h : Heap} {id v : Nat} : LowTo N h (h.set id (v,.dead)) := LowTo.set (fun _ h => by cases h) (fun _ _ h => by cases h)
theorem LowTo.arr {N : Nat} {h : Heap} {id v z : Nat} {es : List AV} : LowTo N h (h.set id (v,.arr z es)) := LowTo.set (fun _ h => by cases h) (fun _ _ h => by cases h)
mutual
theorem frz_low {N base : Nat} {keep : Bool} : ∀ (v : AV) (h : Heap) (v' : AV) (h' : Heap),frz base keep v h = some (v',h') → LowTo N h h'
 | .agg cs,h,v',h',hf | .tuple cs,h,v',h',hf | .fn _ cs,h,v',h',hf => by
  simp only [frz,mE,Prod.mk.injEq] at hf
  obtain ⟨⟨cs',h1⟩,hf,rfl,rfl⟩ := hf
  exact frzL_low cs h cs' _ hf
 | .ifc _ v,h,v',h',hf => by
  simp only [frz,mE,Prod.mk.injEq] at hf
  obtain ⟨⟨cs',h1⟩,hf,rfl,rfl⟩ := hf
  exact frz_low v h cs' _ hf
 | .ref id ver z off len fill,h,v',h',hf => by
  simp only [frz] at hf
  split at hf
  ·simp only [mE,Prod.mk.injEq] at hf
   obtain ⟨es,_,rfl,rfl⟩ := hf
   exact LowTo.dead
  ·split at hf
   ·simp only [Option.some.injEq,Prod.mk.injEq] at hf; obtain ⟨_,rfl⟩ := hf; exact LowTo.refl _ _
   ·cases hf
 | .nilSl,h,v',h',hf => by simp only [frz,Option.some.injEq,Prod.mk.injEq] at hf; obtain ⟨_,rfl⟩ := hf; exact LowTo.refl _ _
 | .own ..,h,v',h',hf | .bptr ..,h,v',h',hf | .iptr ..,h,v',h',hf | .yld ..,h,v',h',hf => by simp [frz] at hf
 | .undef,h,v',h',hf | .bool _,h,v',h',hf | .int _ _,h,v',h',hf | .str _,h,v',h',hf | .nilFn,h,v',h',hf | .nilIf,h,v',h',hf | .lst _ _,h,v',h',hf | .lsf _ _,h,v',h',hf | .nilPtr,h,v',h',hf | .cptr _,h,v',h',hf => by
  simp only [frz,Option.some.injEq,Prod.mk.injEq] at hf; obtain ⟨_,rfl⟩ := hf; exact LowTo.refl _ _
theorem frzL_low {N base : Nat} {keep : Bool} : ∀ (cs : List AV) (h : Heap) (cs' : List AV) (h' : Heap),frzL base keep cs h = some (cs',h') → LowTo N h h'
 | [],h,cs',h',hf => by simp only [frzL,Option.some.injEq,Prod.mk.injEq] at hf; obtain ⟨_,rfl⟩ := hf; exact LowTo.refl _ _
 | c :: cs,h,cs',h',hf => by
  simp only [frzL,bE,mE,Prod.mk.injEq] at hf
  obtain ⟨⟨c1,h1⟩,f1,⟨cs1,h2⟩,f2,rfl,rfl⟩ := hf
  exact (frz_low c h c1 h1 f1).trans (frzL_low cs h1 cs1 _ f2)
end
def Cx.side (cx : Cx) (N : Nat) : Prop := N ≤ cx.base ∨ (cx.rnd ≠ none ∧ cx.base + cx.ns ≤ N)
theorem fit_low {cx : Cx} {N : Nat} (hs : cx.rnd ≠ none) (hN : cx.base + cx.ns ≤ N) {v : AV} (h : cx.fit v = true) : low N v := by
 unfold Cx.fit at h
 cases hr : cx.rnd with
 | none => exact absurd hr hs
 | some p => rw [hr] at h; simp at h; exact low_mono hN _ (lowB_low v h)
theorem mkAt_low {cx : Cx} {N s ver : Nat} {b : Blk} {h h' : Heap} (hs : cx.side N) (hm : mkAt cx s b h = some (ver,h')) (hr : ∀ d st,b = .rcd d st → cx.base ≤ d.base ∧ (s < cx.ns → d.base + d.ns ≤ cx.base + cx.ns)) : LowTo N h h' := by
 unfold mkAt at hm
 split at hm
 ·rename_i hc
  obtain ⟨hc1,hc2⟩ := hc
  split at hm
  ·simp only [Option.some.injEq,Prod.mk.injEq] at hm
   obtain ⟨rfl,rfl⟩ := hm
   refine LowTo.set (fun cs he hid _ => ?_) (fun d st he hl => ?_)
   ·simp only at he
    subst he
    rcases hs with h | ⟨h1,h2⟩
    ·omega
    ·simp only [Blk.fits,List.all_eq_true] at hc2
     exact lowL_iff.mpr fun c hc => fit_low h1 h2 (hc2 c hc)
   ·simp only at he
    subst he
    obtain ⟨g1,g2⟩ := hr d st rfl
    have g2 := g2 hc1
    rcases hs with h | ⟨h1,h2⟩
    ·exact ⟨fun hid => by omega,fun _ => by omega⟩
    ·refine ⟨fun _ => ⟨by omega,fun t => ?_⟩,fun hid => by omega⟩
     simp only [Blk.fits,List.all_eq_true] at hc2
     have : ∀ (e : Env),(∀ p ∈ e,cx.fit p.2 = true) → low N (e.get t) := by
      intro e
      induction e with
      | nil => intro _; simp [Env.get,low]
      | cons p r ih =>
       intro hp
       obtain ⟨k,v⟩ := p
       simp only [Env.get]
       split
       ·exact fit_low h1 h2 (hp (k,v) (by simp))
       ·exact ih fun q hq => hp q (by simp [hq])
     exact this d.env fun p hp => hc2 p hp
  ·cases hm
 ·cases hm
theorem mkAt_low' {cx : Cx} {N s ver : Nat} {b : Blk} {h h' : Heap} (hs : cx.side N) (hm : mkAt cx s b h = some (ver,h')) (hr : ∀ d st,b ≠ .rcd d st := by simp) : LowTo N h h' := mkAt_low hs hm fun d st e => absurd e (hr d st)
theorem takeOver_low {cx : Cx} {N : Nat} (hs : cx.side N) : ∀ (own : List (Nat × Nat)) (cs cs' : List AV) (h h' : Heap),takeOver cx own cs h = some (cs',h') → LowTo N h h'
 | [],cs,cs',h,h',ht => by simp only [takeOver,Option.some.injEq,Prod.mk.injEq] at ht; obtain ⟨_,rfl⟩ := ht; exact LowTo.refl _ _
 | (j,s) :: r,cs,cs',h,h',ht => by
  simp only [takeOver] at ht
  split at ht
  ·split at ht
   ·exact takeOver_low hs r _ _ _ _ ht
   ·obtain ⟨⟨v,h1⟩,hm,ht⟩ := bE.mp ht
    exact (mkAt_low' hs hm).trans (takeOver_low hs r _ _ _ _ ht)
  ·exact takeOver_low hs r _ _ _ _ ht
theorem setParts_low {N base z : Nat} {env : Env} : ∀ (ps : List (Nat × Opd)) (es es' : List AV) (h h' : Heap),setParts env base z ps es h = some (es',h') → LowTo N h h'
 | [],es,es',h,h',ht => by simp only [setParts,Option.some.injEq,Prod.mk.injEq] at ht; obtain ⟨_,rfl⟩ := ht; exact LowTo.refl _ _
 | (i,x) :: ps,es,es',h,h',ht => by
  simp only [setParts] at ht
  obtain ⟨⟨v,h1⟩,hf,ht⟩ := bE.mp ht
  dsimp only at ht
  split at ht
  ·exact (frz_low _ _ _ _ hf).trans (setParts_low ps _ _ _ _ ht)
  ·cases ht
theorem splice_mem {cs new r : List AV} {off : Nat} (h : splice cs off new = some r) : ∀ c ∈ r,c ∈ cs ∨ c ∈ new := by
 unfold splice at h
 split at h
 ·simp only [Option.some.injEq] at h
  subst h
  intro c hc
  simp only [List.mem_append] at hc
  rcases hc with (hc | hc) | hc
  ·exact .inl (List.mem_of_mem_take hc)
  ·exact .inr hc
  ·exact .inl (List.mem_of_mem_drop hc)
 ·cases h
theorem pstore_low {cx : Cx} {N sz : Nat} {h h' : Heap} {p v : AV} (hs : cx.side N) (hp : pstore cx h sz p v = some h') : LowTo N h h' := by
 unfold pstore at hp
 split at hp
 ·split at hp
  ·rename_i id ver off
   split at hp
   ·rename_i w cs hid
    split at hp
    ·rename_i hc
     obtain ⟨hc1,hc2,hc3⟩ := hc
     obtain ⟨cs',hsp,rfl⟩ := mE.mp hp
     refine LowTo.set (fun cs2 he hidN hl => ?_) (fun _ _ h => by cases h)
     simp only [Blk.box.injEq] at he
     subst he
     refine lowL_iff.mpr fun c hc => ?_
     rcases splice_mem hsp c hc with hm | hm
     ·exact lowL_iff.mp ((hl id w).1 cs hidN hid) c hm
     ·have hv : low N v := by
       rcases hc3 with ⟨g1,g2⟩ | g
       ·rcases hs with h | ⟨h1,h2⟩
        ·omega
        ·exact fit_low h1 h2 g2
       ·exact closed_low v g
      exact lowL_iff.mp (lowL_cells hv) c hm
    ·cases hp
   ·cases hp
  ·rename_i id ver z o len fill i off
   obtain ⟨⟨v1,h1⟩,hf,hp⟩ := bE.mp hp
   refine (frz_low _ _ _ _ hf).trans ?_
   dsimp only at hp
   split at hp
   ·split at hp
    ·split at hp
     ·obtain ⟨_,_,rfl⟩ := mE.mp hp; exact LowTo.arr
     ·split at hp
      ·split at hp
       ·cases hp
       ·simp only [Option.some.injEq] at hp; subst hp; exact LowTo.arr
      ·cases hp
     ·cases hp
    ·cases hp
   ·cases hp
  ·cases hp
 ·cases hp
theorem appv_low {cx : Cx} {N s z lim : Nat} {h h' : Heap} {x v : AV} {xs : List AV} (hs : cx.side N) (hp : appv cx s z lim x xs h = some (v,h')) : LowTo N h h' := by
 unfold appv at hp
 split at hp
 ·split at hp
  ·simp only [Option.some.injEq,Prod.mk.injEq] at hp; obtain ⟨_,rfl⟩ := hp; exact LowTo.refl _ _
  ·split at hp
   ·obtain ⟨⟨ver,h1⟩,hm,he⟩ := mE.mp hp
    simp only [Prod.mk.injEq] at he; obtain ⟨_,rfl⟩ := he; exact mkAt_low' hs hm
   ·cases hp
 ·split at hp
  ·split at hp
   ·simp only [Option.some.injEq,Prod.mk.injEq] at hp; obtain ⟨_,rfl⟩ := hp; exact LowTo.refl _ _
   ·split at hp
    ·obtain ⟨⟨ver,h1⟩,hm,he⟩ := mE.mp hp
     simp only [Prod.mk.injEq] at he; obtain ⟨_,rfl⟩ := he; exact mkAt_low' hs hm
    ·cases hp
  ·cases hp
 ·split at hp
  ·split at hp
   ·simp only [Option.some.injEq,Prod.mk.injEq] at hp; obtain ⟨_,rfl⟩ := hp; exact LowTo.arr
   ·cases hp
  ·cases hp
 ·cases hp
theorem copyv_low {cx : Cx} {N z : Nat} {h h' : Heap} {x v : AV} {ys : List AV} (hp : copyv cx z x ys h = some (v,h')) : LowTo N h h' := by
 unfold copyv at hp
 split at hp
 ·split at hp
  ·cases hp
  ·split at hp
   ·simp only [Option.some.injEq,Prod.mk.injEq] at hp; obtain ⟨_,rfl⟩ := hp; exact LowTo.refl _ _
   ·split at hp
    ·split at hp
     ·split at hp
      ·simp only [Option.some.injEq,Prod.mk.injEq] at hp; obtain ⟨_,rfl⟩ := hp; exact LowTo.arr
      ·cases hp
     ·cases hp
    ·cases hp
 ·cases hp
theorem mupdv_low {cx : Cx} {N : Nat} {h h' : Heap} {x y : AV} {f : Int → List (Int × AV) → List (Int × AV)} (hp : mupdv cx h x y f = some h') : LowTo N h h' := by
 unfold mupdv at hp
 split at hp
 ·split at hp
  ·rename_i v1 d k' kvs hid
   split at hp
   ·simp only [Option.some.injEq] at hp
    subst hp
    exact LowTo.set (fun _ e => by cases e) (fun d' st' e hl => by cases e; exact (hl _ _).2 _ _ hid)
   ·cases hp
  ·cases hp
 ·cases hp
theorem at_low {cx : Cx} {s : Nat} {sd : SD} : ∀ d st,Blk.rcd (Rcd.at (cx.base + s) sd) (.spc sd) = .rcd d st → cx.base ≤ d.base ∧ (s < cx.ns → d.base + d.ns ≤ cx.base + cx.ns) := by
 intro d st e
 cases e
 simp only [Rcd.at]
 omega
theorem bwrv_low {cx : Cx} {N s : Nat} {h h' : Heap} {x y v : AV} (hs : cx.side N) (hp : bwrv cx s x y h = some (v,h')) : LowTo N h h' := by
 have fin : ∀ {h1 : Heap} {id ver vv : Nat} {d : Rcd} {st : RS} {me mv a b : Nat},h1[id]? = some (vv,.rcd d st) → cx.base ≤ id → me = id → (cx.base + cx.ns ≤ N → a < N) →
   LowTo N h1 (h1.set id (ver,.rcd { d with env := (SD.bld me mv (some (a,b))).env } (.spc (.bld me mv (some (a,b)))))) := by
  intro h1 id ver vv d st me mv a b hid hb hme ha
  refine LowTo.set (fun _ e => by cases e) (fun d' st' e hl => ?_)
  cases e
  obtain ⟨q1,q2⟩ := (hl _ _).2 _ _ hid
  refine ⟨fun hlt => ⟨(q1 hlt).1,fun t => ?_⟩,q2⟩
  rcases hs with h | ⟨_,h⟩
  ·omega
  ·have := ha h
   simp only [SD.env,Env.get]
   split
   ·simp only [low]; omega
   ·split
    ·simp only [low]; omega
    ·simp [low]
 unfold bwrv at hp
 split at hp
 ·rename_i id ver l
  split at hp
  ·rename_i v1 d me mv lk hid
   split at hp
   ·rename_i hc
    obtain ⟨rfl,hme,_,_⟩ := hc
    split at hp
    ·split at hp
     ·cases hp
     ·split at hp
      ·rename_i hc2
       obtain ⟨_,hne,hb⟩ := hc2
       obtain ⟨⟨v2,h1⟩,hm,he⟩ := mE.mp hp
       simp only [Prod.mk.injEq] at he
       obtain ⟨_,rfl⟩ := he
       have t1 := mkAt_low hs hm at_low
       have hid' : h1[id]? = some (v1,.rcd d (.spc (.bld me mv none))) ∧ s < cx.ns := by
        unfold mkAt at hm
        split at hm
        ·rename_i hcc
         split at hm
         ·simp only [Option.some.injEq,Prod.mk.injEq] at hm
          obtain ⟨_,rfl⟩ := hm
          rw [List.getElem?_set_ne (by omega)]
          exact ⟨hid,hcc.1⟩
         ·cases hm
        ·cases hm
       exact t1.trans (fin hid'.1 hb hme (fun hN => by omega))
      ·cases hp
    ·rename_i id2 ver2
     split at hp
     ·rename_i v2 d2 l0 hid2
      split at hp
      ·rename_i hc2
       obtain ⟨rfl,hne,_,_,_,hb,hns⟩ := hc2
       simp only [Option.some.injEq,Prod.mk.injEq] at hp
       obtain ⟨_,rfl⟩ := hp
       have t1 : LowTo N h (h.set id2 (v2 + 1,.rcd d2 (.spc (.buf (l0 ++ l))))) := LowTo.set (fun _ e => by cases e) (fun d' st' e hl => by cases e; exact (hl _ _).2 _ _ hid2)
       exact t1.trans (fin (by rw [List.getElem?_set_ne hne]; exact hid) hb hme (fun hN => by omega))
      ·cases hp
     ·cases hp
   ·cases hp
  ·cases hp
 ·cases hp
theorem xi_low {call : Callee} (hc : CallLow call) {cx : Cx} {N : Nat} {env : Env} {h h' : Heap} {o : XI} {v : AV} (hs : cx.side N) (hN : N ≤ h.length) (hx : xi call cx env h o = some (v,h')) : LowTo N h h' := by
 cases o <;> simp only [xi] at hx
 case call f args own =>
  split at hx
  ·obtain ⟨⟨r,h1⟩,h2,hx⟩ := bE.mp hx
   obtain ⟨l1,l2⟩ := hc.fn h2
   have t1 : LowTo N h h1 := ⟨l1,l2 N hN⟩
   dsimp only at hx
   split at hx
   ·simp only [Option.some.injEq,Prod.mk.injEq] at hx; obtain ⟨_,rfl⟩ := hx; exact t1
   ·split at hx
    ·obtain ⟨⟨cs',h3⟩,h4,he⟩ := mE.mp hx
     simp only [Prod.mk.injEq] at he; obtain ⟨_,rfl⟩ := he
     exact t1.trans (takeOver_low hs _ _ _ _ _ h4)
    ·obtain ⟨⟨cs',h3⟩,h4,hx⟩ := bE.mp hx
     obtain ⟨_,_,he⟩ := mE.mp hx
     simp only [Prod.mk.injEq] at he; obtain ⟨_,rfl⟩ := he
     exact t1.trans (takeOver_low hs _ _ _ _ _ h4)
  ·split at hx
   ·unfold yieldv at hx
    split at hx
    ·rename_i v0 d hid
     split at hx
     ·rename_i hcond
      obtain ⟨rfl,_⟩ := hcond
      obtain ⟨⟨e,h1⟩,h2,he⟩ := mE.mp hx
      simp only [Prod.mk.injEq] at he; obtain ⟨_,rfl⟩ := he
      obtain ⟨l1,l2⟩ := hc.rd h2 ⟨_,hid⟩
      exact ⟨l1,l2 N hN⟩
     ·cases hx
    ·cases hx
   ·cases hx
  ·cases hx
 case bslice z zero n ps =>
  obtain ⟨⟨es,h1⟩,h2,he⟩ := mE.mp hx
  simp only [Prod.mk.injEq] at he; obtain ⟨_,rfl⟩ := he
  exact setParts_low _ _ _ _ _ h2
 case store sz x y =>
  obtain ⟨h1,h2,he⟩ := mE.mp hx
  simp only [Prod.mk.injEq] at he; obtain ⟨_,rfl⟩ := he
  exact pstore_low hs h2
 case alloc s zero =>
  obtain ⟨⟨ver,h1⟩,h2,he⟩ := mE.mp hx
  simp only [Prod.mk.injEq] at he; obtain ⟨_,rfl⟩ := he
  exact mkAt_low' hs h2
 case box s x =>
  split at hx
  ·obtain ⟨⟨ver,h1⟩,h2,he⟩ := mE.mp hx
   simp only [Prod.mk.injEq] at he; obtain ⟨_,rfl⟩ := he
   exact mkAt_low' hs h2
  ·cases hx
 case boxR x =>
  split at hx
  ·obtain ⟨⟨ver,h1⟩,h2,he⟩ := mE.mp hx
   simp only [Prod.mk.injEq] at he; obtain ⟨_,rfl⟩ := he
   exact frz_low _ _ _ _ h2
  ·cases hx
 case mkmap s k =>
  obtain ⟨⟨ver,h1⟩,h2,he⟩ := mE.mp hx
  simp only [Prod.mk.injEq] at he; obtain ⟨_,rfl⟩ := he
  exact mkAt_low hs h2 at_low
 case mkbld s =>
  obtain ⟨⟨ver,h1⟩,h2,he⟩ := mE.mp hx
  simp only [Prod.mk.injEq] at he; obtain ⟨_,rfl⟩ := he
  have hm2 : mkAt cx s (.rcd (Rcd.at (cx.base + s) (.bld (cx.base + s) ver none)) (.spc (.bld (cx.base + s) ver none))) h = some (ver,h1.set (cx.base + s) (ver,.rcd (Rcd.at (cx.base + s) (.bld (cx.base + s) ver none)) (.spc (.bld (cx.base + s) ver none)))) := by
   unfold mkAt at h2 ⊢
   split at h2
   ·rename_i hc
    rw [if_pos ⟨hc.1,hc.2⟩]
    split at h2
    ·rename_i v0 b0 hid
     simp only [Option.some.injEq,Prod.mk.injEq] at h2
     obtain ⟨rfl,rfl⟩ := h2
     simp
    ·cases h2
   ·cases h2
  exact mkAt_low hs hm2 at_low
 case mput x k y =>
  split at hx
  ·obtain ⟨h1,h2,he⟩ := mE.mp hx
   simp only [Prod.mk.injEq] at he; obtain ⟨_,rfl⟩ := he
   exact mupdv_low h2
  ·cases hx
 case mdel x k =>
  obtain ⟨h1,h2,he⟩ := mE.mp hx
  simp only [Prod.mk.injEq] at he; obtain ⟨_,rfl⟩ := he
  exact mupdv_low h2
 case mkif t x =>
  split at hx
  ·simp only [Option.some.injEq,Prod.mk.injEq] at hx; obtain ⟨_,rfl⟩ := hx; exact LowTo.refl _ _
  ·cases hx
 case bwr s f x y => exact bwrv_low hs hx
 case mk s z zero lim n c =>
  split at hx
  ·split at hx
   ·simp only [Option.some.injEq,Prod.mk.injEq] at hx
    obtain ⟨_,rfl⟩ := hx
    exact LowTo.refl _ _
   split at hx
   ·obtain ⟨⟨ver,h1⟩,h2,he⟩ := mE.mp hx
    simp only [Prod.mk.injEq] at he; obtain ⟨_,rfl⟩ := he
    exact mkAt_low' hs h2
   ·cases hx
  ·cases hx
 case app s z lim x y =>
  obtain ⟨xs,_,hx⟩ := bE.mp hx
  unfold appw at hx
  split at hx
  ·exact appv_low hs hx
  ·obtain ⟨⟨v1,h1⟩,h3,h4⟩ := bE.mp hx
   exact (appv_low hs h3).trans (frz_low _ _ _ _ h4)
 case apz s z zero lim x y =>
  split at hx
  ·split at hx
   ·exact appv_low hs hx
   ·cases hx
  ·cases hx
 case pnc x => cases hx
 case clr z zero x =>
  obtain ⟨n,_,hx⟩ := bE.mp hx
  obtain ⟨⟨u,h1⟩,h3,he⟩ := mE.mp hx
  simp only [Prod.mk.injEq] at he
  obtain ⟨_,rfl⟩ := he
  exact copyv_low h3
 case copy z x y =>
  obtain ⟨ys,_,hx⟩ := bE.mp hx
  exact copyv_low hx
 case ixS z x i =>
  split at hx
  ·obtain ⟨n,_,hx⟩ := bE.mp hx
   obtain ⟨_,_,he⟩ := mE.mp hx
   simp only [Prod.mk.injEq] at he; obtain ⟨_,rfl⟩ := he; exact LowTo.refl _ _
  ·cases hx
 case fld x off sh =>
  split at hx
  ·obtain ⟨_,_,he⟩ := mE.mp hx
   simp only [Prod.mk.injEq] at he; obtain ⟨_,rfl⟩ := he; exact LowTo.refl _ _
  ·cases hx
 case ixV n size sh x i =>
  split at hx
  ·obtain ⟨n,_,hx⟩ := bE.mp hx
   obtain ⟨_,_,he⟩ := mE.mp hx
   simp only [Prod.mk.injEq] at he; obtain ⟨_,rfl⟩ := he; exact LowTo.refl _ _
  ·cases hx
 case ixStr x i =>
  split at hx
  ·obtain ⟨n,_,hx⟩ := bE.mp hx
   obtain ⟨_,_,he⟩ := mE.mp hx
   simp only [Prod.mk.injEq] at he; obtain ⟨_,rfl⟩ := he; exact LowTo.refl _ _
  ·cases hx
 all_goals first
  | (simp only [Option.some.injEq,Prod.mk.injEq] at hx; obtain ⟨_,rfl⟩ := hx; exact LowTo.refl _ _)
  | (obtain ⟨_,_,he⟩ := mE.mp hx; simp only [Prod.mk.injEq] at he; obtain ⟨_,rfl⟩ := he; exact LowTo.refl _ _)
  | (obtain ⟨_,_,hx⟩ := bE.mp hx; obtain ⟨_,_,he⟩ := mE.mp hx; simp only [Prod.mk.injEq] at he; obtain ⟨_,rfl⟩ := he; exact LowTo.refl _ _)
theorem xop_low {call : Callee} (hc : CallLow call) {cx : Cx} {N : Nat} {env env' : Env} {h h' : Heap} {o : XOp} (hs : cx.side N) (hN : N ≤ h.length) (hx : xop call cx o env h = some (env',h')) : LowTo N h h' := by
 unfold xop at hx
 split at hx
 ·obtain ⟨⟨v,h1⟩,h2,he⟩ := mE.mp hx
  simp only [Prod.mk.injEq] at he; obtain ⟨_,rfl⟩ := he
  exact xi_low hc hs hN (xic_some h2).1
 ·obtain ⟨b,_,hx⟩ := bE.mp hx
  split at hx
  ·obtain ⟨⟨v,h1⟩,h2,he⟩ := mE.mp hx
   simp only [Prod.mk.injEq] at he; obtain ⟨_,rfl⟩ := he
   exact xi_low hc hs hN (xic_some h2).1
  ·simp only [Option.some.injEq,Prod.mk.injEq] at hx; obtain ⟨_,rfl⟩ := hx; exact LowTo.refl _ _
theorem xops_low {call : Callee} (hc : CallLow call) {cx : Cx} {N : Nat} (hs : cx.side N) : ∀ (os : List XOp) {env env' : Env} {h h' : Heap},N ≤ h.length → xops call cx os env h = some (env',h') → LowTo N h h'
 | [],env,env',h,h',hN,hx => by simp only [xops,Option.some.injEq,Prod.mk.injEq] at hx; obtain ⟨_,rfl⟩ := hx; exact LowTo.refl _ _
 | o :: os,env,env',h,h',hN,hx => by
  obtain ⟨⟨e1,h1⟩,h2,hx⟩ := bE.mp hx
  have t := xop_low hc hs hN h2
  exact t.trans (xops_low hc hs os (by rw [t.1]; exact hN) hx)
theorem killAll_low {cx : Cx} {N : Nat} : ∀ (ss : List Nat) (h : Heap),LowTo N h (killAll cx ss h)
 | [],h => LowTo.refl _ _
 | s :: ss,h => by
  simp only [killAll]
  split
  ·exact LowTo.dead.trans (killAll_low ss _)
  ·exact killAll_low ss h
theorem exec_low {call : Callee} (hc : CallLow call) {cx : Cx} {N : Nat} (hs : cx.side N) (n : Nat) : ∀ (x : XC) {env : Env} {h : Heap} {e : Ex} {env' : Env} {h' : Heap},N ≤ h.length → exec call cx n x (env,h) = some (e,(env',h')) → LowTo N h h' := by
 intro x
 induction x with
 | skip | exit | ret =>
  intro env h e env' h' hN hx
  simp only [exec,Option.some.injEq,Prod.mk.injEq] at hx
  obtain ⟨_,_,rfl⟩ := hx
  exact LowTo.refl _ _
 | reg draw keep kill ops =>
  intro env h e env' h' hN hx
  simp only [exec,mE,Prod.mk.injEq] at hx
  obtain ⟨⟨e1,h1⟩,h2,_,_,rfl⟩ := hx
  have t := killAll_low (cx := cx) (N := N) kill h
  exact t.trans (xops_low hc hs _ (by rw [t.1]; exact hN) h2)
 | seq a b iha ihb =>
  intro env h e env' h' hN hx
  obtain ⟨⟨e1,env1,h1⟩,h2,hx⟩ := bE.mp hx
  have t := iha hN h2
  dsimp only at hx
  split at hx
  ·exact t.trans (ihb (by rw [t.1]; exact hN) hx)
  ·simp only [Option.some.injEq,Prod.mk.injEq] at hx; obtain ⟨_,_,rfl⟩ := hx; exact t
 | cond c a b iha ihb =>
  intro env h e env' h' hN hx
  obtain ⟨r,_,hx⟩ := bE.mp hx
  split at hx
  ·exact iha hN hx
  ·exact ihb hN hx
 | blk id a ih =>
  intro env h e env' h' hN hx
  obtain ⟨⟨e1,env1,h1⟩,h2,he⟩ := mE.mp hx
  have t := ih hN h2
  unfold Ex.inBlk at he
  split at he <;> (simp only [Prod.mk.injEq] at he; obtain ⟨_,_,rfl⟩ := he; exact t)
 | loop a ih =>
  intro env h e env' h' hN hx
  simp only [exec] at hx
  have key : ∀ (k : Nat) {env : Env} {h : Heap} {e : Ex} {env' : Env} {h' : Heap},N ≤ h.length → iter (exec call cx n a) k (env,h) = some (e,(env',h')) → LowTo N h h' := by
   intro k
   induction k with
   | zero => intro env h e env' h' _ hx; simp [iter] at hx
   | succ k ihk =>
    intro env h e env' h' hN hx
    simp only [iter,bE] at hx
    obtain ⟨⟨e1,env1,h1⟩,hx1,hx2⟩ := hx
    have t := ih hN hx1
    dsimp only at hx2
    split at hx2
    ·exact t.trans (ihk (by rw [t.1]; exact hN) hx2)
    ·simp only [Option.some.injEq,Prod.mk.injEq] at hx2; obtain ⟨_,_,rfl⟩ := hx2; exact t
  exact key n hN hx
 | rfn s f g =>
  intro env h e env' h' hN hx
  simp only [exec] at hx
  split at hx
  ·obtain ⟨⟨ver,h1⟩,hmk,hx1⟩ := bE.mp hx
   obtain ⟨⟨r0,h2⟩,hcall,hx2⟩ := bE.mp hx1
   clear hx hx1
   have t1 : LowTo N h h1 := mkAt_low hs hmk (fun d st e => by cases e; exact ⟨Nat.le_refl _,fun _ => Nat.le_refl _⟩)
   obtain ⟨l1,l2⟩ := hc.fn hcall
   have t2 : LowTo N h1 h2 := ⟨l1,l2 N (by rw [t1.1]; exact hN)⟩
   dsimp only at hx2
   split at hx2
   ·split at hx2
    ·simp only [Option.some.injEq,Prod.mk.injEq] at hx2; obtain ⟨_,_,rfl⟩ := hx2; exact (t1.trans t2).trans LowTo.dead
    ·cases hx2
   ·split at hx2
    ·simp only [Option.some.injEq,Prod.mk.injEq] at hx2; obtain ⟨_,_,rfl⟩ := hx2; exact (t1.trans t2).trans LowTo.dead
    ·cases hx2
   ·cases hx2
  ·cases hx
 | pre ps a ih =>
  intro env h e env' h' hN hx
  exact ih (env := env.keep ps) hN hx
 | fz t a ih =>
  intro env h e env' h' hN hx
  obtain ⟨⟨v',h1⟩,h2,hx⟩ := bE.mp hx
  have s := frz_low (N := N) _ _ _ _ h2
  exact s.trans (ih (env := env.set t v') (by rw [s.1]; exact hN) hx)
theorem enter_low {call : Callee} (hc : CallLow call) {n : Nat} {x : XFn} {args : List AV} {h : Heap} {lo : Nat} {r : AV} {h' : Heap} (he : enter x (fun cx => exec call cx n) args h lo = some (r,h')) : h'.length = h.length ∧ ∀ N,N ≤ h.length → LowH N h → LowH N h' := by
 unfold enter at he
 split at he
 ·obtain ⟨⟨e,env',h1⟩,hx,he⟩ := bE.mp he
  have hres : h' = if x.isOpen then h1.take h.length else h := by
   cases e with
   | exit id => simp at he
   | norm | ret =>
    simp only [bE,mE,Prod.mk.injEq] at he
    obtain ⟨v,e1,r',e2,_,rfl⟩ := he
    rfl
  have key : ∀ N,N ≤ h.length → LowTo N (h ++ List.replicate x.ns (0,Blk.dead)) h1 := fun N hN => exec_low hc (.inl hN) n x.code (by simp; omega) hx
  have hlen := (key 0 (Nat.zero_le _)).1
  simp only [List.length_append,List.length_replicate] at hlen
  subst hres
  split
  ·refine ⟨by rw [List.length_take]; omega,fun N hN hl => ?_⟩
   have hl0 : LowH N (h ++ List.replicate x.ns (0,Blk.dead)) := by
    have key2 : ∀ (id v : Nat) (b : Blk),(h ++ List.replicate x.ns (0,Blk.dead))[id]? = some (v,b) → b ≠ .dead → h[id]? = some (v,b) := by
     intro id v b hk hd
     rcases Nat.lt_or_ge id h.length with hlt | hge
     ·rwa [List.getElem?_append_left hlt] at hk
     ·rw [List.getElem?_append_right hge,List.getElem?_replicate] at hk
      split at hk
      ·cases hk; exact absurd rfl hd
      ·cases hk
    exact fun id v => ⟨fun cs hid hk => (hl id v).1 cs hid (key2 _ _ _ hk (by simp)),fun d st hk => (hl id v).2 d st (key2 _ _ _ hk (by simp))⟩
   have hl1 := (key N hN).2 hl0
   have key3 : ∀ (id v : Nat) (b : Blk),(h1.take h.length)[id]? = some (v,b) → h1[id]? = some (v,b) := by
    intro id v b hk
    rw [List.getElem?_take] at hk
    split at hk
    ·exact hk
    ·cases hk
   exact fun id v => ⟨fun cs hid hk => (hl1 id v).1 cs hid (key3 _ _ _ hk),fun d st hk => (hl1 id v).2 d st (key3 _ _ _ hk)⟩
  ·exact ⟨rfl,fun N _ hl => hl⟩
 ·cases he
theorem round_low {call : Callee} (hc : CallLow call) {n : Nat} {x : XRnd} {d : Rcd} {id ver : Nat} {args : List AV} {h : Heap} {e : Ex} {h' : Heap} (hr : round x (fun cx => exec call cx n) d id ver args h = some (e,h')) (hid : ∃ st,h[id]? = some (ver,.rcd d st)) :
  h'.length = h.length ∧ ∀ N,N ≤ h.length → LowH N h → LowH N h' := by
 obtain ⟨st0,hid⟩ := hid
 unfold round at hr
 split at hr
 ·obtain ⟨⟨e1,env1,h1⟩,g1,g2⟩ := bE.mp hr
  clear hr
  dsimp only at g2
  split at g2
  ·split at g2
   ·rename_i v1 d1 hid1
    split at g2
    ·obtain ⟨⟨e2,env2,h3⟩,g3,g4⟩ := bE.mp g2
     clear g2
     dsimp only at g4
     split at g4
     ·rename_i v2 d2 hid2
      split at g4
      ·simp only [Option.some.injEq,Prod.mk.injEq] at g4
       obtain ⟨_,rfl⟩ := g4
       have main : ∀ N,N ≤ h.length → (LowH N h → ({ lo := d.lo,base := d.base,ns := d.ns,rnd := some (id,ver) } : Cx).side N) → LowH N h → LowH N (h3.set id (ver,.rcd d2 (if e2 = .norm then .ready else .done e2))) := by
        intro N hN hside hl
        have t1 := exec_low hc (hside hl) n x.asg hN g1
        have t2 : LowTo N h1 (h1.set id (ver,.rcd d1 .busy)) := LowTo.set (fun _ h => by cases h) (fun d st he hl => by cases he; exact (hl id v1).2 _ _ hid1)
        have t3 := exec_low hc (hside hl) n x.body (by rw [t2.1,t1.1]; exact hN) g3
        have t4 : LowTo N h3 (h3.set id (ver,.rcd d2 (if e2 = .norm then .ready else .done e2))) := LowTo.set (fun _ h => by cases h) (fun d st he hl => by cases he; exact (hl id v2).2 _ _ hid2)
        exact (((t1.trans t2).trans t3).trans t4).2 hl
       have len : (h3.set id (ver,Blk.rcd d2 (if e2 = .norm then .ready else .done e2))).length = h.length := by
        have hside : ({ lo := d.lo,base := d.base,ns := d.ns,rnd := some (id,ver) } : Cx).side 0 := .inl (Nat.zero_le _)
        have t1 := exec_low hc hside n x.asg (Nat.zero_le _) g1
        have t3 := exec_low hc hside n x.body (Nat.zero_le _) g3
        rw [List.length_set,t3.1,List.length_set,t1.1]
       refine ⟨len,fun N hN hl => main N hN (fun hl => ?_) hl⟩
       obtain ⟨k1,k2⟩ := (hl id ver).2 d st0 hid
       rcases Nat.lt_or_ge id N with hlt | hge
       ·exact .inr ⟨by simp,(k1 hlt).1⟩
       ·exact .inl (k2 hge)
      ·cases g4
     ·cases g4
    ·cases g2
   ·cases g2
  ·cases g2
 ·cases hr
theorem enterB_low {call : Callee} (hc : CallLow call) {n : Nat} {x : XFn} {b : Bool} {args : List AV} {h : Heap} {lo : Nat} {r : AV} {h' : Heap} (he : enterB x (fun cx => exec call cx n) b args h lo = some (r,h')) : h'.length = h.length ∧ ∀ N,N ≤ h.length → LowH N h → LowH N h' := by
 unfold enterB at he
 split at he
 ·obtain ⟨vs,h1,h2⟩ := bE.mp he
  obtain ⟨q,h3,h4⟩ := bE.mp h2
  split at h4
  ·simp only [Option.some.injEq,Prod.mk.injEq] at h4; obtain ⟨_,rfl⟩ := h4; exact ⟨rfl,fun _ _ h => h⟩
  ·cases h4
 ·exact enter_low hc he
theorem ex_low (L : Lib) : ∀ n,CallLow (ex L n)
 | 0 => ⟨fun {f args h lo r h'} hx => by simp [ex] at hx,fun {d id ver args h e h'} hx => by simp [ex] at hx⟩
 | n + 1 => by
  have ih := ex_low L n
  refine ⟨fun {f args h lo r h'} hx => ?_,fun {d id ver args h e h'} hx hid => ?_⟩
  ·simp only [ex] at hx
   split at hx
   ·simp only [Option.some.injEq,Prod.mk.injEq] at hx; obtain ⟨_,rfl⟩ := hx; exact ⟨rfl,fun _ _ h => h⟩
   ·obtain ⟨x,_,hx⟩ := bE.mp hx
    exact enterB_low ih hx
  ·simp only [ex] at hx
   obtain ⟨x,_,hx⟩ := bE.mp hx
   exact round_low ih hx hid
end Go.VI
