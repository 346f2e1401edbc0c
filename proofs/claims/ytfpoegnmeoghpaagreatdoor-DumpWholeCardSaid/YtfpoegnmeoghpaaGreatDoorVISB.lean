/- Builders. -/
import Derived.Test.YtfpoegnmeoghpaaGreatDoorVISP
set_option linter.unusedVariables false
set_option linter.unusedSimpArgs false
namespace Go.VI
set_option linter.unusedSectionVars false
variable [Globs] [Rounds]
section
variable {w : World} {m : Map} {h : Heap} {P : Program} {env : Env} {a : Act} {o : Oper} {X : Nat → Prop} {cx : Cx}
theorem bld_mem (hi : Inv w m h) {id ver : Nat} {u : Value} {d : Rcd} {lk : Option (Nat × Nat)} (hr : R w (Live m h) m h (.yld id ver) u) (hid : h[id]? = some (ver,.rcd d (.spc (.bld id ver lk)))) :
  ∃ b p v,u = .pointer (some ⟨b,0,none⟩) ∧ m[id]? = some b ∧ w.heap[b]? = some (.cells #[p,v] Globs.bldT (0,0)) ∧ (p = .pointer none ∨ p = .pointer (some ⟨b,0,none⟩)) ∧ d.base + d.ns ≤ h.length ∧ LkOk w m h lk v := by
 simp only [R] at hr
 obtain ⟨q,l,e,v0,blk,h1,h2,h3⟩ := hr
 rw [hid] at h1
 cases h1
 obtain ⟨h4,h5⟩ := h3 rfl _ _ rfl
 simp only [RS.knd] at h4
 subst h4
 obtain ⟨b,ob,e1,e2,e3⟩ := hi.rcd id _ _ _ hid
 rw [h5] at e1
 cases e1
 obtain ⟨e4,_,b',p,v,rfl,e5,⟨v0,blk,q1,q2,q3⟩,e6⟩ := e3
 rw [hid] at q1
 cases q1
 obtain ⟨_,q4⟩ := q3 rfl _ _ rfl
 rw [h5] at q4
 cases q4
 exact ⟨l,p,v,e,h5,e2,e5,e4,e6⟩
theorem buf_mem (hi : Inv w m h) {id2 ver2 : Nat} {d : Rcd} {l : List UInt8} {v : Value} (hl : LkOk w m h (some (id2,ver2)) v) (hid : h[id2]? = some (ver2,.rcd d (.spc (.buf l)))) :
  ∃ g cap,v = .slice (some ⟨g,0,none⟩) l.length cap ∧ m[id2]? = some g ∧ (d.base + d.ns ≤ h.length ∧ d.env = []) ∧ bsize w g = cap ∧ w.ownsRowF 0 Globs.byteT 1 v l.length (Lib.byteCells l) ∧ ∃ o,w.heap[g]? = some o ∧ SpcOk w (Live m h) m h o (.buf l) := by
 obtain ⟨g,n,cap,rfl,v0,blk,q1,q2,q3⟩ := hl
 rw [hid] at q1
 cases q1
 obtain ⟨k1,rfl,k3⟩ := q3 rfl _ _ rfl
 obtain ⟨b,ob,e1,e2,e3⟩ := hi.rcd id2 _ _ _ hid
 rw [k1] at e1
 cases e1
 obtain ⟨e4,e4',cur,fz,rfl,f1,f2,f3,f4⟩ := e3
 have hsz : cur.size = cap := by rw [← k3,bsize,e2]
 refine ⟨g,cap,rfl,k1,⟨e4,e4'⟩,k3,⟨by simp [Lib.byteCells_length],.inr ⟨g,cap,cur,fz,rfl,Nat.zero_le _,e2,by omega,by omega,by omega,by omega,by simpa using f4⟩⟩,_,e2,cur,fz,rfl,f1,f2,f3,f4⟩
theorem own_slice {v : Value} {n : Nat} {l : List Value} {e : TypeId} (h : w.ownsRowF 0 e 1 v n l) (hn : n ≠ 0) : ∃ g cap cur fz,v = .slice (some ⟨g,0,none⟩) n cap ∧ v.ownBlock = some g ∧ w.heap[g]? = some (.cells cur e fz) ∧ fz.2 ≤ n ∧ n ≤ cur.size ∧ cur.size ≤ maxLen ∧ cur.size = cap ∧ cur.toList.take n = l := by
 rcases h.2 with ⟨_,h0⟩ | ⟨g,cap,cur,fz,rfl,_,h1,h2,h3,h4,h5,h6⟩
 ·exact absurd h0 hn
 ·exact ⟨g,cap,cur,fz,rfl,rfl,h1,by omega,by omega,by omega,by omega,by simpa using h6⟩
theorem map_set_same {m : Map} {id b : Nat} (hm : m[id]? = some b) : m.set id b = m := by
 refine List.ext_getElem? fun j => ?_
 by_cases hj : j = id
 ·subst hj; rw [List.getElem?_set_self (List.getElem?_eq_some_iff.mp hm).1,hm]
 ·exact List.getElem?_set_ne (by omega)
theorem bld_put (hi : Inv w m h) {id ver b : Nat} {d : Rcd} (hd : d.base + d.ns ≤ h.length) {lk lk' : Option (Nat × Nat)} {w' : World} {v' : Value} (hid : h[id]? = some (ver,.rcd d (.spc (.bld id ver lk)))) (hm : m[id]? = some b) (hf : Fr2 w w' b none) (hb : w'.heap[b]? = some (.cells #[.pointer (some ⟨b,0,none⟩),v'] Globs.bldT (0,0))) {lo : Nat} (hlo : lo ≤ id)
  (hl : ∀ (hs : Step lo w m h w' m (h.set id (ver,.rcd { d with env := (SD.bld id ver lk').env } (.spc (.bld id ver lk'))))),LkOk w' m (h.set id (ver,.rcd { d with env := (SD.bld id ver lk').env } (.spc (.bld id ver lk')))) lk' v') :
  Step lo w m h w' m (h.set id (ver,.rcd { d with env := (SD.bld id ver lk').env } (.spc (.bld id ver lk')))) ∧ Inv w' m (h.set id (ver,.rcd { d with env := (SD.bld id ver lk').env } (.spc (.bld id ver lk')))) := by
 have hlt := hi.lt hid (by simp) hm
 have hmm := map_set_same hm
 have p : Put w m h id ver (.rcd d (.spc (.bld id ver lk))) b w' ver (.rcd { d with env := (SD.bld id ver lk').env } (.spc (.bld id ver lk'))) b :=
  ⟨hi,hid,hm,hf.os,hf.tape,hf.output,hf.size,fun q hq e => hf.old q hq (fun e' => (by have := e e'; cases this)) (by simp),Nat.le_refl _,.inr (.inl ⟨rfl,by simp⟩),fun _ => .inr (.inr (.inl ⟨_,_,_,_,rfl,rfl,by rw [hmm],rfl,fun l e => by cases e⟩))⟩
 have s := p.step (lo := lo) hlo
 have hset := p.hset
 rw [hmm] at s
 have i := p.invR (fun h => by cases h) (fun d2 st2 he => by
  cases he
  refine ⟨_,hb,by simpa using hd,rfl,b,_,v',rfl,.inr rfl,⟨ver,_,hset,Nat.le_refl _,fun _ d st e => by cases e; exact ⟨rfl,by rw [hmm]; exact hm⟩⟩, ?_⟩
  rw [hmm]
  exact hl s)
 rw [hmm] at i
 exact ⟨s,i⟩
def wback (w' : World) (b : Nat) (o : Obj) : World := { w' with heap := w'.heap.setIfInBounds b o }
theorem wback_at {w' : World} {b : Nat} {o : Obj} (h : b < w'.heap.size) : (wback w' b o).heap[b]? = some o := by simp [wback,h]
theorem wback_ne {w' : World} {b : Nat} {o : Obj} {k : Nat} (h : k ≠ b) : (wback w' b o).heap[k]? = w'.heap[k]? := by simp [wback,Ne.symm h]
theorem bwr_core (hi : Inv w m h) {d d2 : Rcd} (hd : d.base + d.ns ≤ h.length) (hd2 : d2.base + d2.ns ≤ h.length ∧ d2.env = []) {id id2 ver v0 ver2 b : Nat} {blk0 : Blk} {b0 : Nat} {lk : Option (Nat × Nat)} {p v v' : Value} {w' : World} {l : List UInt8} {lo : Nat} (hlo : lo ≤ id) (hlo2 : lo ≤ id2) (hne : id2 ≠ id)
  (hid : h[id]? = some (ver,.rcd d (.spc (.bld id ver lk)))) (hm : m[id]? = some b) (hb : w.heap[b]? = some (.cells #[p,v] Globs.bldT (0,0)))
  (hid2 : h[id2]? = some (v0,blk0)) (hm2 : m[id2]? = some b0) (hv : v0 < ver2) {g : Option Nat} (hg : g = none ∨ (g = some b0 ∧ blk0 ≠ .dead)) (hf : Fr2 w w' b g)
  (hb' : w'.heap[b]? = some (.cells #[.pointer (some ⟨b,0,none⟩),v'] Globs.bldT (0,0))) (ho : w'.ownsRowF 0 Globs.byteT 1 v' l.length (Lib.byteCells l)) (hn : l ≠ []) (hvb : v'.ownBlock ≠ some b) (hfr : (v'.ownBlock = g ∧ g ≠ none) ∨ ∀ g',v'.ownBlock = some g' → w.heap.size ≤ g') :
  ∃ m',Step lo w m h w' m' ((h.set id2 (ver2,.rcd d2 (.spc (.buf l)))).set id (ver,.rcd { d with env := (SD.bld id ver (some (id2,ver2))).env } (.spc (.bld id ver (some (id2,ver2)))))) ∧ Inv w' m' ((h.set id2 (ver2,.rcd d2 (.spc (.buf l)))).set id (ver,.rcd { d with env := (SD.bld id ver (some (id2,ver2))).env } (.spc (.bld id ver (some (id2,ver2)))))) := by
 obtain ⟨g',cap,cur,fz,rfl,hown,hcur,f1,f2,f3,f4,f5⟩ := own_slice ho (by simpa using hn)
 have hbl : b < w.heap.size := hi.lt hid (by simp) hm
 have hbl' : b < w'.heap.size := Nat.lt_of_lt_of_le hbl hf.size
 rw [hown] at hvb hfr
 have hgb : g' ≠ b := fun e => hvb (by rw [e])
 -- the bytes' block
 have hw1 : (wback w' b (.cells #[p,v] Globs.bldT (0,0))).heap.size = w'.heap.size := by simp [wback]
 have p1 : Put w m h id2 v0 blk0 b0 (wback w' b (.cells #[p,v] Globs.bldT (0,0))) ver2 (.rcd d2 (.spc (.buf l))) g' := by
  refine ⟨hi,hid2,hm2,hf.os,hf.tape,hf.output,by rw [hw1]; exact hf.size,fun k hk e => ?_,by omega, ?_,fun e => by omega⟩
  ·by_cases hkb : k = b
   ·subst hkb; rw [wback_at hbl',hb]
   ·rw [wback_ne hkb]
    refine hf.old k hk hkb fun e' => ?_
    rcases hg with rfl | ⟨rfl,hd⟩
    ·cases e'
    ·cases e'; exact hd (e rfl)
  ·rcases hfr with ⟨e,hne⟩ | hfresh
   ·rcases hg with rfl | ⟨rfl,hd⟩
    ·exact absurd rfl hne
    ·cases e; exact .inr (.inl ⟨rfl,hd⟩)
   ·exact .inr (.inr (hfresh g' rfl))
 have s1 := p1.step (lo := lo) hlo2
 have i1 := p1.invR (fun h => by cases h) (fun d st e => by
  cases e
  exact ⟨_,(wback_ne hgb).trans hcur,by simpa using hd2.1,hd2.2,cur,fz,rfl,f1,f2,f3,f5⟩)
 have hid' : (h.set id2 (ver2,.rcd d2 (.spc (.buf l))))[id]? = some (ver,.rcd d (.spc (.bld id ver lk))) := by rw [(p1.other (Ne.symm hne)).1]; exact hid
 have hm' : (m.set id2 g')[id]? = some b := by rw [(p1.other (Ne.symm hne)).2]; exact hm
 have hf2 : Fr2 (wback w' b (.cells #[p,v] Globs.bldT (0,0))) w' b none := ⟨rfl,rfl,rfl,by rw [hw1]; exact Nat.le_refl _,fun k hk hkb _ => (wback_ne hkb).symm⟩
 obtain ⟨s2,i2⟩ := bld_put i1 (by simpa using hd) hid' hm' hf2 hb' (lk' := some (id2,ver2)) hlo (fun hs => by
  refine ⟨g',l.length,cap,rfl,ver2,.rcd d2 (.spc (.buf l)), ?_,Nat.le_refl _,fun _ d l' e => ?_⟩
  ·rw [List.getElem?_set_ne (Ne.symm hne)]; exact p1.hset
  ·cases e
   refine ⟨p1.mset,rfl, ?_⟩
   simp only [bsize,hcur]
   exact f4)
 exact ⟨_,s1.trans s2,i2⟩
theorem mkbld_ok (hi : Inv w m h) {s ver : Nat} {h' : Heap} (hk : okXI P o (.mkbld s) = true) (hm : mkAt cx s (.rcd (Rcd.at (cx.base + s) (.bld (cx.base + s) 0 none)) (.spc (.bld (cx.base + s) 0 none))) h = some (ver,h')) (hlo : cx.lo ≤ cx.base) :
  ∃ u w' m',(execOp a.eval o).run P w = .ok (.value u) w' ∧ Step cx.lo w m h w' m' (h'.set (cx.base + s) (ver,.rcd (Rcd.at (cx.base + s) (.bld (cx.base + s) ver none)) (.spc (.bld (cx.base + s) ver none)))) ∧ Inv w' m' (h'.set (cx.base + s) (ver,.rcd (Rcd.at (cx.base + s) (.bld (cx.base + s) ver none)) (.spc (.bld (cx.base + s) ver none)))) ∧
   R w' (Live m' (h'.set (cx.base + s) (ver,.rcd (Rcd.at (cx.base + s) (.bld (cx.base + s) ver none)) (.spc (.bld (cx.base + s) ver none))))) m' (h'.set (cx.base + s) (ver,.rcd (Rcd.at (cx.base + s) (.bld (cx.base + s) ver none)) (.spc (.bld (cx.base + s) ver none)))) (.yld (cx.base + s) ver) u := by
 simp only [okXI] at hk
 split at hk
 ·rename_i t hop
  simp only [Bool.and_eq_true,beq_iff_eq] at hk
  obtain ⟨rfl,hk⟩ := hk
  obtain ⟨i,hi1,hi2⟩ : ∃ i,P.info? Globs.bldT = some i ∧ i.zero = some (.agg #[.pointer none,.slice none 0 0]) := by
   cases hq : P.info? Globs.bldT with
   | none => simp [hq] at hk
   | some i =>
    simp only [hq] at hk
    refine ⟨i,rfl, ?_⟩
    simp at hk
    split at hk
    ·assumption
    ·cases hk
  have hm2 : mkAt cx s (.rcd (Rcd.at (cx.base + s) (.bld (cx.base + s) ver none)) (.spc (.bld (cx.base + s) ver none))) h = some (ver,h'.set (cx.base + s) (ver,.rcd (Rcd.at (cx.base + s) (.bld (cx.base + s) ver none)) (.spc (.bld (cx.base + s) ver none)))) := by
   unfold mkAt at hm ⊢
   split at hm
   ·rename_i hc
    rw [if_pos ⟨hc.1,hc.2⟩]
    split at hm
    ·rename_i v0 b0 hid
     simp only [Option.some.injEq,Prod.mk.injEq] at hm
     obtain ⟨rfl,rfl⟩ := hm
     simp
    ·cases hm
   ·cases hm
  obtain ⟨v0,blk0,b0,p,e,_⟩ := mk_put hi hm2 (below_new w (.cells #[.pointer none,.slice none 0 0] Globs.bldT)) (Nat.le_refl _)
  rw [e]
  refine ⟨.pointer (some ⟨w.heap.size,0,none⟩),w.alloc (.cells #[.pointer none,.slice none 0 0] Globs.bldT),_, ?_,p.step (by omega),p.invR (fun h => by cases h) (fun d st e => ?_), ?_⟩
  ·simp [execOp,hop,Instr.alloc,zeroValue,typeInfo,hi1,hi2,newVar,newRow,Value.cells]
  ·cases e
   exact ⟨_,heap_alloc_new w _,by simp only [Rcd.at,List.length_set]; have := (List.getElem?_eq_some_iff.mp p.hid).1; omega,rfl,w.heap.size,_,_,rfl,.inl rfl,⟨ver,_,p.hset,Nat.le_refl _,fun _ d st e => by cases e; exact ⟨rfl,p.mset⟩⟩,rfl⟩
  ·simp only [R]
   exact ⟨2,w.heap.size,rfl,ver,_,p.hset,Nat.le_refl _,fun _ d st e => by cases e; exact ⟨rfl,p.mset⟩⟩
 ·cases hk
theorem bwr_run {s f : Nat} {x y : Opd} (hi : Inv w m h) (he : Renv w m h env a) (hk : okXI P o (.bwr s f x y) = true) {v : AV} {h' : Heap} (hx : bwrv cx s (x.ev env) (y.ev env) h = some (v,h')) (hlo : cx.lo ≤ cx.base) (hc : ∀ f,Globs.bldF f = true → WrOk P f) :
  ∃ vs : List Value, Enters P f ∧ (∀ fn, P.funcs[f]? = some fn → fn.name ≠ "runtime.NumGoroutine" → fn.body.isSome = true → (execOp a.eval o).run P w = .ok (.enter f vs.toArray) w) ∧
   Calls P f vs.toArray w fun e w' => ∃ u m',e = .returned u ∧ Step cx.lo w m h w' m' h' ∧ Inv w' m' h' ∧ R w' (Live m' h') m' h' v u := by
 simp only [okXI] at hk
 split at hk
 ·rename_i _ g p q vt hop
  simp only [Bool.and_eq_true,beq_iff_eq] at hk
  obtain ⟨⟨⟨rfl,k1⟩,k2⟩,k3⟩ := hk
  obtain ⟨hen,hcall⟩ := hc g k1
  have rx := okOpd_R he k2
  have ry := okOpd_R he k3
  refine ⟨[a.eval p,a.eval q],hen,fun fn hfn hname hbody => ?_, ?_⟩
  ·have hb' : fn.body.isNone = false := by cases hfb : fn.body <;> simp_all
   have hg : a.eval (.func g) = .func (.func g) #[] #[] := rfl
   simp only [execOp,hop,resolve,Deferred.ofValue,hg,invoke,callFunc,Sem.run_bind,Sem.run_pure,Result.andThen_ok,run_program,hfn]
   simp [hname,hb']
  ·unfold bwrv at hx
   split at hx
   ·rename_i id ver l ex ey
    rw [ex] at rx
    rw [ey,R_str] at ry
    split at hx
    ·rename_i v1 d me mv lk hid
     split at hx
     ·rename_i hcond
      obtain ⟨rfl,rfl,rfl,hid0⟩ := hcond
      obtain ⟨b,p0,sv,hu,hm,hb,hp0,hd0,hlk⟩ := bld_mem hi rx hid
      rw [hu,ry]
      have hRt : ∀ {w' : World} {m' : Map} {h' : Heap},R w' (Live m' h') m' h' (.tuple [.int .i64 l.length,.nilIf]) (.tuple #[.int .i64 l.length,.nilIface]) := by
       intro w' m' h'
       simp only [R,RL,RC]
       exact ⟨[.int .i64 l.length,.nilIface],rfl,_,_,rfl,rfl,_,_,rfl,rfl,rfl⟩
      split at hx
      ·split at hx
       ·cases hx
       ·rename_i hl
        split at hx
        ·rename_i hcond
         obtain ⟨⟨v2,h1⟩,hmk,he2⟩ := mE.mp hx
         simp only [Prod.mk.injEq] at he2
         obtain ⟨rfl,rfl⟩ := he2
         simp only [LkOk] at hlk
         subst hlk
         have hown : w.ownsRowF 0 Globs.byteT 1 (.slice none 0 0) ([] : List UInt8).length (Lib.byteCells []) := ⟨rfl,.inl ⟨rfl,rfl⟩⟩
         refine (hcall w b p0 _ [] l hb hp0 hown (by simp [Value.ownBlock]) (by simpa using hcond.1)).mono ?_
         rintro e w' ⟨rfl,hf,v',hb',ho',hvb,hfr⟩
         obtain ⟨v0,blk0,hid2,rfl,rfl⟩ : ∃ v0 blk0,h[cx.base + s]? = some (v0,blk0) ∧ v0 + 1 = v2 ∧ h.set (cx.base + s) (v0 + 1,.rcd (Rcd.at (cx.base + s) (.buf l)) (.spc (.buf l))) = h1 := by
          unfold mkAt at hmk
          split at hmk
          ·split at hmk
           ·rename_i v0 blk0 hid'
            simp only [Option.some.injEq,Prod.mk.injEq] at hmk
            exact ⟨v0,blk0,hid',hmk.1,hmk.2⟩
           ·cases hmk
          ·cases hmk
         obtain ⟨b0,hm2⟩ := map_get hi.len hid2
         have hfr' : (v'.ownBlock = none ∧ (none : Option Nat) ≠ none) ∨ ∀ g',v'.ownBlock = some g' → w.heap.size ≤ g' := by
          rcases hfr with hfr | hfr
          ·right
           intro g' hg'
           rw [hfr] at hg'
           simp [Value.ownBlock] at hg'
          ·exact .inr hfr
         simp only [List.length_nil,Nat.zero_add,List.nil_append] at ho'
         obtain ⟨m',s1,i1⟩ := bwr_core (lo := cx.lo) (d2 := Rcd.at (cx.base + s) (.buf l)) hi hd0 ⟨by have := (List.getElem?_eq_some_iff.mp hid2).1; simp only [Rcd.at]; omega,rfl⟩ hid0 (by omega) (Ne.symm hcond.2.1) hid hm hb hid2 hm2 (Nat.lt_succ_self v0) (.inl rfl) hf hb' ho' hl hvb hfr'
         exact ⟨_,m',rfl,s1,i1,hRt⟩
        ·cases hx
      ·rename_i id2 ver2
       split at hx
       ·rename_i v2 d2 l0 hid2
        split at hx
        ·rename_i hcond
         obtain ⟨rfl,hne,hlo2,hl0,hlim,_⟩ := hcond
         simp only [Option.some.injEq,Prod.mk.injEq] at hx
         obtain ⟨rfl,rfl⟩ := hx
         obtain ⟨g,cap,rfl,hmg,hdd,hbs,hown,_⟩ := buf_mem hi hlk hid2
         have hgb : g ≠ b := fun e => hne (hi.inj id2 me _ _ _ _ b hid2 (by simp) (e ▸ hmg) hid (by simp) hm)
         refine (hcall w b p0 _ l0 l hb hp0 hown (by simp [Value.ownBlock,hgb]) hlim).mono ?_
         rintro e w' ⟨rfl,hf,v',hb',ho',hvb,hfr⟩
         rw [← List.length_append] at ho'
         obtain ⟨m',s1,i1⟩ := bwr_core (lo := cx.lo) (l := l0 ++ l) hi hd0 hdd hid0 hlo2 hne hid hm hb hid2 hmg (Nat.lt_succ_self v2) (.inr ⟨rfl,by simp⟩) hf hb' ho' (by simp [hl0]) hvb (by
          rcases hfr with hfr | hfr
          ·exact .inl ⟨hfr,by simp⟩
          ·exact .inr hfr)
         exact ⟨_,m',rfl,s1,i1,hRt⟩
        ·cases hx
       ·cases hx
     ·cases hx
    ·cases hx
   ·cases hx
 ·cases hk
theorem bstr_run {f : Nat} {x : Opd} (hi : Inv w m h) (he : Renv w m h env a) (hk : okXI P o (.bstr f x) = true) {v : AV} (hx : bstrv cx (x.ev env) h = some v) (hc : ∀ f,Globs.bstF f = true → BsOk P f) :
  ∃ vs : List Value, Enters P f ∧ (∀ fn, P.funcs[f]? = some fn → fn.name ≠ "runtime.NumGoroutine" → fn.body.isSome = true → (execOp a.eval o).run P w = .ok (.enter f vs.toArray) w) ∧
   Calls P f vs.toArray w fun e w' => ∃ u m',e = .returned u ∧ Step cx.lo w m h w' m' h ∧ Inv w' m' h ∧ R w' (Live m' h) m' h v u := by
 simp only [okXI] at hk
 split at hk
 ·rename_i _ g p vt hop
  simp only [Bool.and_eq_true,beq_iff_eq] at hk
  obtain ⟨⟨rfl,k1⟩,k2⟩ := hk
  obtain ⟨hen,hcall⟩ := hc g k1
  have rx := okOpd_R he k2
  refine ⟨[a.eval p],hen,fun fn hfn hname hbody => ?_, ?_⟩
  ·have hb' : fn.body.isNone = false := by cases hfb : fn.body <;> simp_all
   have hg : a.eval (.func g) = .func (.func g) #[] #[] := rfl
   simp only [execOp,hop,resolve,Deferred.ofValue,hg,invoke,callFunc,Sem.run_bind,Sem.run_pure,Result.andThen_ok,run_program,hfn]
   simp [hname,hb']
  ·unfold bstrv at hx
   split at hx
   ·rename_i id ver ex
    rw [ex] at rx
    split at hx
    ·rename_i v1 d me mv lk hid
     split at hx
     ·rename_i hcond
      obtain ⟨rfl,rfl,rfl,hid0⟩ := hcond
      obtain ⟨b,p0,sv,hu,hm,hb,hp0,hd0,hlk⟩ := bld_mem hi rx hid
      rw [hu]
      split at hx
      ·simp only [Option.some.injEq] at hx
       subst hx
       simp only [LkOk] at hlk
       subst hlk
       have hown : w.ownsRowF 0 Globs.byteT 1 (.slice none 0 0) ([] : List UInt8).length (Lib.byteCells []) := ⟨rfl,.inl ⟨rfl,rfl⟩⟩
       refine (hcall w b p0 _ [] hb hp0 hown (by simp [Value.ownBlock]) (fun _ => rfl)).mono ?_
       rintro e w' ⟨rfl,hf,hb',_⟩
       have hbel : RowKit.Below w.heap.size w w' := ⟨hf.os,hf.tape,hf.output,hf.size,fun k hk => by
        by_cases hkb : k = b
        ·rw [hkb,hb']
        ·exact hf.old k hk hkb (by simp [Value.ownBlock])⟩
       exact ⟨_,m,rfl,below_step hi hbel,below_inv hi hbel,R_str.mpr rfl⟩
      ·rename_i id2 ver2
       split at hx
       ·rename_i v2 d2 l hid2
        split at hx
        ·rename_i hcond
         obtain ⟨rfl,hne,hlo2,hl0⟩ := hcond
         simp only [Option.some.injEq] at hx
         subst hx
         obtain ⟨g,cap,rfl,hmg,hdd,hbs,hown,_⟩ := buf_mem hi hlk hid2
         have hgb : g ≠ b := fun e => hne (hi.inj id2 me _ _ _ _ b hid2 (by simp) (e ▸ hmg) hid (by simp) hm)
         refine (hcall w b p0 _ l hb hp0 hown (by simp [Value.ownBlock,hgb]) (fun h => absurd h hl0)).mono ?_
         rintro e w' ⟨rfl,hf,hb',ho'⟩
         obtain ⟨g',cap',cur,fz,e1,_,hcur,f1,f2,f3,f4,f5⟩ := own_slice ho' (by simpa using hl0)
         cases e1
         have hmm := map_set_same hmg
         have hset : h.set id2 (v2,.rcd d2 (.spc (.buf l))) = h := by
          refine List.ext_getElem? fun j => ?_
          by_cases hj : j = id2
          ·subst hj; rw [List.getElem?_set_self (List.getElem?_eq_some_iff.mp hid2).1,hid2]
          ·rw [List.getElem?_set_ne (by omega)]
         have pp : Put w m h id2 v2 (.rcd d2 (.spc (.buf l))) g w' v2 (.rcd d2 (.spc (.buf l))) g := by
          refine ⟨hi,hid2,hmg,hf.os,hf.tape,hf.output,hf.size,fun k hk e => ?_,Nat.le_refl _,.inr (.inl ⟨rfl,by simp⟩),fun _ => .inr (.inr (.inl ⟨_,_,_,_,rfl,rfl,by rw [hmm],rfl,fun l' e => ⟨e,fun b' hb2 => ?_⟩⟩))⟩
          ·by_cases hkb : k = b
           ·rw [hkb,hb']
           ·exact hf.old k hk hkb fun e' => by cases e'; have := e rfl; cases this
          ·rw [hmg] at hb2
           cases hb2
           rw [hbs]
           simp only [bsize,hcur]
           exact f4
         have s1 := pp.step (lo := cx.lo) hlo2
         have i1 := pp.invR (fun h => by cases h) (fun d st e => by
          cases e
          exact ⟨_,hcur,by simpa using hdd.1,hdd.2,cur,fz,rfl,f1,f2,f3,f5⟩)
         rw [hmm,hset] at s1 i1
         exact ⟨_,m,rfl,s1,i1,R_str.mpr rfl⟩
        ·cases hx
       ·cases hx
     ·cases hx
    ·cases hx
   ·cases hx
 ·cases hk
end
end Go.VI
