/- Structs, arrays and slices written out. -/
import Derived.Test.YtfpoegnmeoghpaaGreatDoorVIJ
set_option linter.unusedVariables false
set_option linter.unusedSimpArgs false
namespace Go.VI
set_option linter.unusedSectionVars false
variable [Globs] [Rounds]
section
variable {w : World} {m : Map} {h : Heap} {P : Program} {env : Env} {a : Act} {o : Oper} {X : Nat → Prop}
theorem setList : ∀ (us : List Value) (k off : Nat) (c : Array Value),off + k + us.length ≤ c.size →
  ((us.zipIdx k).foldl (fun cs (x : Value × Nat) => cs.setIfInBounds (off + x.2) x.1) c).toList = c.toList.take (off + k) ++ us ++ c.toList.drop (off + k + us.length)
 | [],k,off,c,_ => by simp
 | u :: us,k,off,c,hle => by
  simp only [List.zipIdx_cons,List.foldl_cons]
  rw [setList us (k + 1) off (c.setIfInBounds (off + k) u) (by simp at hle ⊢; omega)]
  have hlt : off + k < c.toList.length := by simp at hle ⊢; omega
  rw [Array.toList_setIfInBounds]
  refine List.ext_getElem? fun j => ?_
  simp only [List.length_cons] at hle ⊢
  by_cases h1 : j < off + k
  ·rw [List.append_assoc,List.getElem?_append_left (by simp; omega),List.append_assoc,List.getElem?_append_left (by simp; omega),List.getElem?_take,List.getElem?_take,if_pos (by omega),if_pos h1,List.getElem?_set_ne (by omega)]
  ·by_cases h2 : j = off + k
   ·subst h2
    rw [List.append_assoc,List.getElem?_append_left (by simp; omega),List.append_assoc,List.getElem?_append_right (by simp; omega),List.getElem?_take,if_pos (by omega),List.getElem?_set_self hlt]
    have : off + k - (c.toList.take (off + k)).length = 0 := by simp; omega
    rw [this]; rfl
   ·by_cases h3 : j < off + k + 1 + us.length
    ·rw [List.append_assoc,List.getElem?_append_right (by simp; omega),List.getElem?_append_left (by simp; omega),List.append_assoc,List.getElem?_append_right (by simp; omega)]
     have e1 : j - (List.take (off + (k + 1)) (c.toList.set (off + k) u)).length = j - (off + k + 1) := by simp; omega
     have e2 : j - (List.take (off + k) c.toList).length = (j - (off + k + 1)) + 1 := by simp; omega
     rw [e1,e2,List.cons_append,List.getElem?_cons_succ,List.getElem?_append_left (by omega)]
    ·rw [List.getElem?_append_right (by simp; omega),List.getElem?_drop,List.getElem?_append_right (by simp; omega),List.getElem?_drop,List.getElem?_set_ne (by simp; omega)]
     congr 1
     simp; omega
theorem fill_step {place : Nat → Option (Nat × Nat)} {c : Array Value} {i off n : Nat} {v : Value} {rest : List (Nat × Value)} (hp : place i = some (off,n)) (hv : v.cells.size = n) (hle : off + n ≤ c.size) :
  ∃ c' : Array Value,Instr.fill place c ((i,v) :: rest) = Instr.fill place c' rest ∧ c'.toList = c.toList.take off ++ v.cells.toList ++ c.toList.drop (off + v.cells.toList.length) := by
 refine ⟨v.cells.zipIdx.foldl (fun cs (c,j) => cs.setIfInBounds (off + j) c) c, ?_, ?_⟩
 ·simp only [Instr.fill,hp]
  rw [if_neg (by simp [hv]; omega)]
 ·rw [← Array.foldl_toList,Array.toList_zipIdx]
  have := setList v.cells.toList 0 off c (by simp [hv]; omega)
  simpa using this
theorem lay_ok {t : TypeId} (he : Renv w m h env a) : ∀ (os : List (Nat × Operand)) (xs : List (Nat × Nat × Opd)) (cs cs' : List AV) (c : Array Value),okParts P t os xs = true → lay env xs cs = some cs' → ones c.toList → RL w (Live m h) m h cs c.toList →
  ∃ c' : Array Value,Instr.fill (placeT P t) c (os.map fun (i,x) => (i,a.eval x)) = some c' ∧ ones c'.toList ∧ RL w (Live m h) m h cs' c'.toList
 | [],[],cs,cs',c,_,hl,h1,h2 => by
  simp only [lay,Option.some.injEq] at hl
  subst hl
  exact ⟨c,rfl,h1,h2⟩
 | (i,y) :: os,(off,n,x) :: xs,cs,cs',c,hk,hl,h1,h2 => by
  simp only [okParts,Bool.and_eq_true,beq_iff_eq] at hk
  obtain ⟨⟨hp,hx⟩,hk⟩ := hk
  simp only [lay] at hl
  split at hl
  ·rename_i hc
   obtain ⟨cs1,hs,hl⟩ := bE.mp hl
   obtain ⟨g1,g2,g3⟩ := R.cells hc.2 (okOpd_R he hx)
   obtain ⟨hle,hrl⟩ := RL_splice hs h2 g3
   obtain ⟨c1,e1,e2⟩ := fill_step (place := placeT P t) (c := c) (rest := os.map fun (i,x) => (i,a.eval x)) hp (v := a.eval y) (by omega) (by simp at hle; omega)
   obtain ⟨c',e3,e4,e5⟩ := lay_ok he os xs cs1 cs' c1 hk hl (by rw [e2]; exact ones_splice h1 g2) (by rw [e2]; exact hrl)
   exact ⟨c',by rw [List.map_cons,e1]; exact e3,e4,e5⟩
  ·cases hl
 | [],_ :: _,_,_,_,hk,_,_,_ => by simp [okParts] at hk
 | _ :: _,[],_,_,_,hk,_,_,_ => by simp [okParts] at hk
theorem build_ok (he : Renv w m h env a) {zero : List AV} {parts : List (Nat × Nat × Opd)} {cs : List AV} (hk : okXI P o (.build zero parts) = true) (hl : lay env parts zero = some cs) : Reads P w m h a o (.agg cs) := by
 simp only [okXI] at hk
 split at hk
 ·rename_i t ps hop
  simp only [Bool.and_eq_true] at hk
  obtain ⟨⟨k1,k2⟩,k3⟩ := hk
  unfold okZero at k1
  split at k1
  ·rename_i z hz
   obtain ⟨i,hi,hz'⟩ := bE.mp hz
   obtain ⟨h1,h2⟩ := okCells_RCL (w := w) (X := Live m h) k1
   obtain ⟨c',e1,e2,e3⟩ := lay_ok (P := P) (t := t) he ps.toList parts zero cs z.cells k3 hl h1 (RL.of_RCL _ _ h2)
   have hb : P.built t (ps.map fun (i,x) => (i,a.eval x)).toList = some c' := by
    rw [Array.toList_map,← e1]
    unfold Program.built
    unfold builtFields at k2
    rw [hi]
    split at k2
    ·rename_i n e hu
     obtain ⟨ie,hie⟩ := Option.isSome_iff_exists.mp k2
     simp only [hu,hz',hie]
     congr 1
     funext j
     simp [placeT,hu,hie]
    ·rename_i fields hu
     obtain ⟨pl,hpl⟩ := Option.isSome_iff_exists.mp k2
     simp only [hu,hz',hpl]
     congr 1
     funext j
     simp [placeT,hu,hpl]
    ·cases k2
   refine ⟨.agg c', ?_, ?_⟩
   ·have := run_build (P := P) w t (ps.map fun (i,x) => (i,a.eval x)) c' hb
    simp only [execOp,hop,Sem.run_bind,this,Result.andThen_ok,Sem.run_pure]
   ·simp only [R]
    exact ⟨c'.toList,by simp,e2,e3⟩
  ·cases k1
 ·cases hk
theorem setParts_ok {lo base z : Nat} (hlo : lo ≤ base) (hz0 : 0 < z) {place : Nat → Option (Nat × Nat)} (hpl : ∀ i,place i = some (i * z,z)) : ∀ (os : List (Nat × Operand)) (xs : List (Nat × Opd)) (es es' : List AV) (h h' : Heap) (c : Array Value),
  Inv w m h → Renv w m h env a → okIParts os xs = true → setParts env base z xs es h = some (es',h') → c.size = es.length * z → ARR w (Live m h) z es c.toList →
  ∃ c' : Array Value,Instr.fill place c (os.map fun (i,x) => (i,a.eval x)) = some c' ∧ c'.size = es'.length * z ∧ Step lo w m h w m h' ∧ Inv w m h' ∧ ARR w (Live m h') z es' c'.toList ∧ es'.length = es.length
 | [],[],es,es',h,h',c,hi,he,_,hl,hc,ha => by
  simp only [setParts,Option.some.injEq,Prod.mk.injEq] at hl
  obtain ⟨rfl,rfl⟩ := hl
  exact ⟨c,rfl,hc,Step.refl _ _ _ _,hi,ha,rfl⟩
 | (i,y) :: os,(j,x) :: xs,es,es',h,h',c,hi,he,hk,hl,hc,ha => by
  simp only [okIParts,Bool.and_eq_true,beq_iff_eq] at hk
  obtain ⟨⟨rfl,hx⟩,hk⟩ := hk
  simp only [setParts] at hl
  obtain ⟨⟨v,h1⟩,hf,hl⟩ := bE.mp hl
  simp only at hl
  split at hl
  ·rename_i hcond
   obtain ⟨hlt,hlen,hval⟩ := hcond
   obtain ⟨s0,i0,r0⟩ := frz_ok hlo _ _ _ _ _ hi (okOpd_R he hx) hf
   obtain ⟨d1,d2,d3⟩ := RC_RL_cells hval r0
   have hle : i * z + z ≤ c.size := by
    rw [hc]
    have : (i + 1) * z ≤ es.length * z := Nat.mul_le_mul_right _ hlt
    rw [Nat.add_mul] at this; omega
   obtain ⟨c1,e1,e2⟩ := fill_step (place := place) (c := c) (rest := os.map fun (i,x) => (i,a.eval x)) (hpl i) (v := a.eval y) (by omega) hle
   have hvl : (a.eval y).cells.toList.length = z := by simp; omega
   have hc1 : c1.size = c.size := by
    have := congrArg List.length e2
    simp at this
    rw [this]
    simp at hvl; omega
   have ha1 : ARR w (Live m h1) z (es.set i v) c1.toList := by
    have ha' := ha.keep s0.keep
    refine ⟨by simp [hc1,hc],fun k e' hk' => ?_⟩
    by_cases hki : k = i
    ·subst hki
     rw [List.getElem?_set_self hlt] at hk'
     cases hk'
     refine ⟨a.eval y,r0,by omega,d2,fun q u hu => ?_⟩
     have hq : q < z := by rw [← hvl]; exact (List.getElem?_eq_some_iff.mp hu).1
     rw [e2,List.append_assoc,List.getElem?_append_right (by simp; omega),List.getElem?_append_left (by simp at hvl ⊢; omega),← hu]
     congr 1
     simp; omega
    ·rw [List.getElem?_set_ne (by omega)] at hk'
     obtain ⟨vx,x1,x2,x3,x4⟩ := ha'.2 k e' hk'
     refine ⟨vx,x1,x2,x3,fun q u hu => ?_⟩
     have hq : q < z := by rw [← x2]; simpa using (List.getElem?_eq_some_iff.mp hu).1
     have hx := x4 q u hu
     rw [← hx,e2]
     rcases Nat.lt_or_gt_of_ne hki with hlt' | hgt'
     ·have : (k + 1) * z ≤ i * z := Nat.mul_le_mul_right _ hlt'
      rw [Nat.add_mul] at this
      rw [List.append_assoc,List.getElem?_append_left (by simp; omega),List.getElem?_take,if_pos (by omega)]
     ·have : (i + 1) * z ≤ k * z := Nat.mul_le_mul_right _ hgt'
      rw [Nat.add_mul] at this
      rw [List.getElem?_append_right (by simp at hvl ⊢; omega),List.getElem?_drop]
      congr 1
      simp at hvl ⊢; omega
   obtain ⟨c',e3,e4,s1,i1,a1,l1⟩ := setParts_ok hlo hz0 hpl os xs (es.set i v) es' h1 h' c1 i0 ⟨fun t => R.step s0.ids s0.keep _ _ (he.at' t),he.glob.keep s0.keep⟩ hk hl (by simp [hc1,hc]) ha1
   exact ⟨c',by rw [List.map_cons,e1]; exact e3,e4,s0.trans s1,i1,a1,by simpa using l1⟩
  ·cases hl
 | [],_ :: _,_,_,_,_,_,_,_,hk,_,_,_ => by simp [okIParts] at hk
 | _ :: _,[],_,_,_,_,_,_,_,hk,_,_,_ => by simp [okIParts] at hk
theorem buildSlice_run {t e : TypeId} {k : Nat} {i : TypeInfo} {v : Value} {c' : Array Value} {ps : Array (Nat × Value)} (hu : P.underlying t = some (.slice e)) (hinf : P.info? e = some i) (hzero : i.zero = some v) (k2 : k * i.size ≤ 16777216)
  (e1 : Instr.fill (fun j => some (j * i.size,i.size)) (madeCells v.cells (k * i.size)) ps.toList = some c') :
  (Instr.buildSlice t k ps).run P w = .ok (.slice (some ⟨w.heap.size,0,none⟩) k k) (w.alloc (.cells c' e)) := by
 have hbig : ¬ (16777216 < k * i.size) := by omega
 by_cases hk0 : k * i.size = 0
 ·have hm0 : madeCells v.cells 0 = #[] := by simp [madeCells]
  rw [hk0,hm0] at e1
  simp only [Instr.buildSlice,Sem.run_bind,run_underlying hu,Result.andThen_ok,szT_run (show szT P e = some i.size by simp [szT,hinf]),hk0]
  simp [e1,newRow,Array.range_zero']
 ·simp only [Instr.buildSlice,Sem.run_bind,run_underlying hu,Result.andThen_ok,szT_run (show szT P e = some i.size by simp [szT,hinf])]
  simp only [madeCells] at e1
  simp [hbig,hk0,zeroValue,typeInfo,hinf,hzero,e1,newRow]
theorem bslice_ok {cx : Cx} (hi : Inv w m h) (he : Renv w m h env a) {z n : Nat} {zero : AV} {parts : List (Nat × Opd)} {es : List AV} {h' : Heap} (hk : okXI P o (.bslice z zero n parts) = true)
  (hl : setParts env cx.base z parts (List.replicate n zero) h = some (es,h')) (hlo : cx.lo ≤ cx.base) :
  ∃ u w' m',(execOp a.eval o).run P w = .ok (.value u) w' ∧ Step cx.lo w m h w' m' h' ∧ Inv w' m' h' ∧ R w' (Live m' h') m' h' (.lsf z es) u := by
 simp only [okXI] at hk
 split at hk
 ·rename_i t k ps hop
  simp only [Bool.and_eq_true,beq_iff_eq,decide_eq_true_eq] at hk
  obtain ⟨⟨⟨⟨⟨rfl,k1⟩,k2⟩,k3⟩,k5⟩,k4⟩ := hk
  obtain ⟨e,i,hu,hinf,rfl,hz0,hby,hlim,hse⟩ := okElem_info k1
  obtain ⟨v,hv,hcv⟩ := elemZero_info k3 hse
  obtain ⟨i',hinf',hzero⟩ := bE.mp hv
  rw [hinf] at hinf'
  cases hinf'
  obtain ⟨q1,q2,q3⟩ := okConst_cells (w := w) (X := Live m h) hcv
  have hzs : v.cells.size = i.size := by omega
  obtain ⟨c',e1,e2,s1,i1,a1,l1⟩ := setParts_ok (lo := cx.lo) hlo hz0 (place := fun j => some (j * i.size,i.size)) (fun _ => rfl) ps.toList parts (List.replicate k zero) es h h' (madeCells v.cells (k * i.size)) hi he k4 hl (by simp [size_madeCells])
   (ARR_made hz0 hzs q2 q3 (Nat.le_refl _))
  have hbel := below_new w (.cells c' e)
  have s2 := below_step (lo := cx.lo) i1 hbel
  rw [List.length_replicate] at l1
  have hrun := buildSlice_run (P := P) (w := w) (ps := ps.map fun (i,x) => (i,a.eval x)) hu hinf hzero k2 (by rw [Array.toList_map]; exact e1)
  refine ⟨.slice (some ⟨w.heap.size,0,none⟩) k k,_,m, ?_,s1.trans s2,below_inv i1 hbel, ?_⟩
  ·simp only [execOp,hop,Sem.run_bind,hrun,Result.andThen_ok,Sem.run_pure]
  ·simp only [R,RC]
   refine ⟨some ⟨w.heap.size,0,none⟩,by rw [l1], ?_⟩
   by_cases hn : es = []
   ·exact .inl hn
   ·refine .inr ⟨w.heap.size,0,rfl,by simp,fun hl' => absurd (i1.live_lt hl') (by omega),hz0, ?_⟩
    refine RCE_of _ _ _ fun j e' he' => ?_
    obtain ⟨vx,x1,x2,x3,x4⟩ := ARR.elems (w := w.alloc (.cells c' e)) (b := w.heap.size) (c := c') (ty := e) (fr := (0,0)) (heap_alloc_new w _) (a1.keep s2.keep) he'
    exact ⟨vx,x1,x2,x3,by simpa using x4⟩
 ·cases hk
end
end Go.VI
