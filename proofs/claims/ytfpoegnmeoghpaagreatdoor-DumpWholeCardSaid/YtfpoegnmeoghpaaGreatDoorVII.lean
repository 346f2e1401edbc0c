/- The operations that make memory or write to it. -/
import Derived.Test.YtfpoegnmeoghpaaGreatDoorVIH
set_option linter.unusedVariables false
set_option linter.unusedSimpArgs false
namespace Go.VI
set_option linter.unusedSectionVars false
variable [Globs] [Rounds]
section
variable {w : World} {m : Map} {h : Heap} {P : Program} {env : Env} {a : Act} {o : Oper} {X : Nat → Prop}
theorem RCE_flat {z : Nat} : ∀ (es : List AV) (b o : Nat),RCE w X z es b o → ∃ vs : List Value,vs.length = es.length * z ∧ ones vs ∧ memIs w b o vs ∧ ARR w X z es vs
 | [],b,o,_ => ⟨[],by simp,fun _ h => by simp at h,fun j v hj => by simp at hj,by simp [ARR]⟩
 | e :: es,b,o,hE => by
  simp only [RCE] at hE
  obtain ⟨⟨v,h1,h2,h3,h4⟩,h5⟩ := hE
  obtain ⟨vs,g1,g2,g3,g4⟩ := RCE_flat es b (o + z) h5
  have hl : v.cells.toList.length = z := by simpa using h2
  refine ⟨v.cells.toList ++ vs, ?_, ?_, ?_, ?_, ?_⟩
  ·simp only [List.length_append,hl,g1,List.length_cons,Nat.add_mul]; omega
  ·intro u hu
   rcases List.mem_append.mp hu with hu | hu
   ·exact h3 u hu
   ·exact g2 u hu
  ·intro j u hj
   by_cases hjz : j < z
   ·rw [List.getElem?_append_left (by omega)] at hj; exact h4 j u hj
   ·rw [List.getElem?_append_right (by omega),hl] at hj
    have := g3 (j - z) u hj
    rw [show o + z + (j - z) = o + j by omega] at this
    exact this
  ·simp only [List.length_append,hl,List.length_cons,Nat.add_mul]; have := g4.1; omega
  ·intro i e' he
   cases i with
   | zero =>
    simp only [List.getElem?_cons_zero,Option.some.injEq] at he
    subst he
    refine ⟨v,h1,h2,h3,fun j u hj => ?_⟩
    have : j < z := by rw [← hl]; exact (List.getElem?_eq_some_iff.mp hj).1
    rw [Nat.zero_mul,Nat.zero_add,List.getElem?_append_left (by omega)]
    exact hj
   | succ i =>
    obtain ⟨v',k1,k2,k3,k4⟩ := g4.2 i e' (by simpa using he)
    refine ⟨v',k1,k2,k3,fun j u hj => ?_⟩
    rw [List.getElem?_append_right (by rw [hl,Nat.add_mul]; omega),hl,show (i + 1) * z + j - z = i * z + j by rw [Nat.add_mul]; omega]
    exact k4 j u hj
theorem ARR_append {z : Nat} {es xs : List AV} {c1 c2 rest : List Value} (h1 : ARR w X z es c1) (hl : c1.length = es.length * z) (h2 : ARR w X z xs c2) : ARR w X z (es ++ xs) (c1 ++ c2 ++ rest) := by
 refine ⟨?_,fun i e he => ?_⟩
 ·have := h2.1
  simp only [List.length_append,hl,Nat.add_mul]; omega
 ·by_cases hi : i < es.length
  ·rw [List.getElem?_append_left hi] at he
   obtain ⟨v,k1,k2,k3,k4⟩ := h1.2 i e he
   refine ⟨v,k1,k2,k3,fun j u hj => ?_⟩
   have := k4 j u hj
   have hlt := (List.getElem?_eq_some_iff.mp this).1
   rw [List.append_assoc,List.getElem?_append_left hlt]
   exact this
  ·rw [List.getElem?_append_right (by omega)] at he
   obtain ⟨v,k1,k2,k3,k4⟩ := h2.2 _ e he
   refine ⟨v,k1,k2,k3,fun j u hj => ?_⟩
   have := k4 j u hj
   have hlt := (List.getElem?_eq_some_iff.mp this).1
   have hsub : i * z = es.length * z + (i - es.length) * z := by rw [← Nat.add_mul]; congr 1; omega
   rw [List.append_assoc,List.getElem?_append_right (by omega),show i * z + j - c1.length = (i - es.length) * z + j by omega,List.getElem?_append_left hlt]
   exact this
theorem ARR_take {z : Nat} {es : List AV} {c c' : List Value} (h1 : ARR w X z es c) (hl : c'.take (es.length * z) = c.take (es.length * z)) : ARR w X z es c' := by
 have hlen : es.length * z ≤ c'.length := by
  have := congrArg List.length hl
  simp only [List.length_take] at this
  have := h1.1
  omega
 refine ⟨hlen,fun i e he => ?_⟩
 obtain ⟨v,k1,k2,k3,k4⟩ := h1.2 i e he
 refine ⟨v,k1,k2,k3,fun j u hj => ?_⟩
 have hi : i < es.length := (List.getElem?_eq_some_iff.mp he).1
 have hjz : j < z := by rw [← k2]; simpa using (List.getElem?_eq_some_iff.mp hj).1
 have hb : i * z + j < es.length * z := by
  have : (i + 1) * z ≤ es.length * z := Nat.mul_le_mul_right _ hi
  rw [Nat.add_mul] at this; omega
 have e1 : c'[i * z + j]? = (c'.take (es.length * z))[i * z + j]? := by rw [List.getElem?_take,if_pos hb]
 rw [e1,hl,List.getElem?_take,if_pos hb]
 exact k4 j u hj
theorem mk_put {cx : Cx} (hi : Inv w m h) {s ver : Nat} {b : Blk} {h' : Heap} (hm : mkAt cx s b h = some (ver,h')) {w' : World} (hb : RowKit.Below w.heap.size w w') {nb : Nat} (hnb : w.heap.size ≤ nb) :
  ∃ v0 blk0 b0,Put w m h (cx.base + s) v0 blk0 b0 w' ver b nb ∧ h' = h.set (cx.base + s) (ver,b) ∧ s < cx.ns := by
 unfold mkAt at hm
 split at hm
 ·rename_i hs
  split at hm
  ·rename_i v0 blk0 hid
   simp only [Option.some.injEq,Prod.mk.injEq] at hm
   obtain ⟨rfl,rfl⟩ := hm
   obtain ⟨b0,hm0⟩ := map_get hi.len hid
   exact ⟨v0,blk0,b0,⟨hi,hid,hm0,hb.os,hb.tape,hb.output,hb.size,fun q hq _ => hb.block q hq,by omega,.inr (.inr hnb),fun e => by omega⟩,rfl,hs.1⟩
  ·cases hm
 ·cases hm
theorem mk_step {lo : Nat} {cx : Cx} (hi : Inv w m h) {s ver : Nat} {b : Blk} {h' : Heap} (hm : mkAt cx s b h = some (ver,h')) (hlo : lo ≤ cx.base) {w' : World} (hb : RowKit.Below w.heap.size w w') {nb : Nat} (hnb : w.heap.size ≤ nb) {c : Array Value} {ty : TypeId}
  (hc : w'.heap[nb]? = some (.cells c ty (0,0))) (hok : b ≠ .dead → BlkOk w (Live m h) m h c.toList b) (hn : ∀ d st,b ≠ .rcd d st := by simp) :
  ∃ m',Step lo w m h w' m' h' ∧ Inv w' m' h' ∧ h'[cx.base + s]? = some (ver,b) ∧ m'[cx.base + s]? = some nb := by
 obtain ⟨v0,blk0,b0,p,rfl,_⟩ := mk_put hi hm hb hnb
 have hs := p.step (lo := lo) (by omega)
 refine ⟨_,hs,p.inv' hn fun hd => ⟨c,ty,hc, ?_⟩,p.hset,p.mset⟩
 exact (hok hd).step hs
theorem bsize_alloc (w : World) (c : Array Value) (ty : TypeId) (fr : Nat × Nat) : bsize (w.alloc (.cells c ty fr)) w.heap.size = c.size := by
 unfold bsize
 rw [heap_alloc_new]
theorem below_new (w : World) (o : Obj) : RowKit.Below w.heap.size w (w.alloc o) := (RowKit.Below.refl _ _).alloc (Nat.le_refl _) o
theorem alloc_ok {cx : Cx} (hi : Inv w m h) {s ver : Nat} {zero : List AV} {h' : Heap} (hk : okXI P o (.alloc s zero) = true) (hm : mkAt cx s (.box zero) h = some (ver,h')) (hlo : cx.lo ≤ cx.base) :
  ∃ u w' m',(execOp a.eval o).run P w = .ok (.value u) w' ∧ Step cx.lo w m h w' m' h' ∧ Inv w' m' h' ∧ R w' (Live m' h') m' h' (.bptr (cx.base + s) ver 0) u := by
 simp only [okXI] at hk
 split at hk
 ·rename_i t hop
  unfold okZero at hk
  split at hk
  ·rename_i z hz
   obtain ⟨i,hi',hz'⟩ := bE.mp hz
   obtain ⟨h1,h2⟩ := okCells_RCL (w := w) (X := Live m h) hk
   obtain ⟨m',hs,hinv,g1,g2⟩ := mk_step (nb := w.heap.size) (c := z.cells) (ty := t) hi hm hlo (below_new w (.cells z.cells t)) (Nat.le_refl _) (heap_alloc_new w _) (fun _ => ⟨h1,RL.of_RCL _ _ h2⟩)
   refine ⟨.pointer (some ⟨w.heap.size,0,none⟩),_,m', ?_,hs,hinv, ?_⟩
   ·simp [execOp,hop,Instr.alloc,zeroValue,typeInfo,hi',hz',newVar,newRow]
   ·simp only [R]
    exact ⟨_,rfl,ver,_,g1,Nat.le_refl _,fun _ cs hc => ⟨_,g2,rfl⟩⟩
  ·cases hk
 ·cases hk
theorem box_ok {cx : Cx} (hi : Inv w m h) (he : Renv w m h env a) {s ver : Nat} {x : Opd} {h' : Heap} (hk : okXI P o (.box s x) = true) (hv : (x.ev env).val = true) (hm : mkAt cx s (.box (x.ev env).cells) h = some (ver,h')) (hlo : cx.lo ≤ cx.base) :
  ∃ u w' m',(execOp a.eval o).run P w = .ok (.value u) w' ∧ Step cx.lo w m h w' m' h' ∧ Inv w' m' h' ∧ R w' (Live m' h') m' h' (.bptr (cx.base + s) ver 0) u := by
 simp only [okXI] at hk
 split at hk
 ·rename_i t y hop
  obtain ⟨h1,h2,h3⟩ := R.cells hv (okOpd_R he hk)
  obtain ⟨m',hs,hinv,g1,g2⟩ := mk_step (nb := w.heap.size) (c := (a.eval y).cells) (ty := t) hi hm hlo (below_new w (.cells (a.eval y).cells t)) (Nat.le_refl _) (heap_alloc_new w _) (fun _ => ⟨h2,h3⟩)
  refine ⟨.pointer (some ⟨w.heap.size,0,none⟩),_,m', ?_,hs,hinv, ?_⟩
  ·simp [execOp,hop,Instr.box,newVar,newRow]
  ·simp only [R]
   exact ⟨_,rfl,ver,_,g1,Nat.le_refl _,fun _ cs hc => ⟨_,g2,rfl⟩⟩
 ·cases hk
theorem frz_val {base : Nat} {keep : Bool} {x x' : AV} {h h' : Heap} (hf : frz base keep x h = some (x',h')) (hv : x.val = true) : x'.val = true := by
 cases x with
 | ref id ver z off len fill =>
  simp only [frz] at hf
  split at hf
  ·simp only [mE,Prod.mk.injEq] at hf
   obtain ⟨_,_,rfl,_⟩ := hf; rfl
  ·split at hf
   ·simp only [Option.some.injEq,Prod.mk.injEq] at hf
    obtain ⟨rfl,_⟩ := hf; rfl
   ·cases hf
 | undef => simp [AV.val] at hv
 | tuple => simp [AV.val] at hv
 | own => simp [AV.val] at hv
 | agg cs => simp only [frz,mE,Prod.mk.injEq] at hf; obtain ⟨_,_,rfl,_⟩ := hf; rfl
 | fn f cs => simp only [frz,mE,Prod.mk.injEq] at hf; obtain ⟨_,_,rfl,_⟩ := hf; rfl
 | ifc t x => simp only [frz,mE,Prod.mk.injEq] at hf; obtain ⟨_,_,rfl,_⟩ := hf; rfl
 | bptr => simp [frz] at hf
 | iptr => simp [frz] at hf
 | yld => simp [frz] at hf
 | _ => simp only [frz,Option.some.injEq,Prod.mk.injEq] at hf; obtain ⟨rfl,_⟩ := hf; rfl
theorem boxR_ok {cx : Cx} (hi : Inv w m h) (he : Renv w m h env a) {x : Opd} {v' : AV} {h' : Heap} (hk : okXI P o (.boxR x) = true) (hv : (x.ev env).val = true) (hf : frz cx.base false (x.ev env) h = some (v',h')) (hlo : cx.lo ≤ cx.base) :
  ∃ u w' m',(execOp a.eval o).run P w = .ok (.value u) w' ∧ Step cx.lo w m h w' m' h' ∧ Inv w' m' h' ∧ R w' (Live m' h') m' h' (.cptr v'.cells) u := by
 simp only [okXI] at hk
 split at hk
 ·rename_i t y hop
  obtain ⟨s,i,r⟩ := frz_ok hlo _ _ _ _ _ hi (okOpd_R he hk) hf
  have hb := below_new w (.cells (a.eval y).cells t)
  have hv' := frz_val hf hv
  obtain ⟨h1,h2,h3⟩ := R.cells hv' (R.of_RC (m := m) (h := h') _ _ r)
  have hs2 := below_step (lo := cx.lo) i hb
  refine ⟨.pointer (some ⟨w.heap.size,0,none⟩),_,m, ?_,s.trans hs2,below_inv i hb, ?_⟩
  ·simp [execOp,hop,Instr.box,newVar,newRow]
  ·simp only [R,RC]
   refine ⟨_,_,rfl,by simp,fun hl => absurd (i.live_lt hl) (by omega),RCM_of _ _ _ fun j c hc => ?_⟩
   have h0 : 0 < (a.eval y).cells.size := by rw [h1]; have := (List.getElem?_eq_some_iff.mp hc).1; omega
   obtain ⟨u,hu,hu1,hR⟩ := RC.cells r h0 h2 j c hc
   refine ⟨u, ?_,hu1,RC.keep hs2.keep _ _ hR⟩
   rw [Nat.zero_add,cell_of_row _ w.heap.size _ _ t (0,0) (heap_alloc_new w _)]
   simpa using hu
 ·cases hk
theorem okElem_info {t : TypeId} {z lim : Nat} (hk : okElem P t z lim = true) : ∃ e i,P.underlying t = some (.slice e) ∧ P.info? e = some i ∧ i.size = z ∧ 0 < z ∧ lim * i.bytes ≤ 140737488355328 ∧ lim ≤ 140737488355328 ∧ sliceElem P t = some e := by
 unfold okElem at hk
 split at hk
 ·rename_i e he
  split at hk
  ·rename_i i hi
   simp only [Bool.and_eq_true,beq_iff_eq,decide_eq_true_eq] at hk
   exact ⟨e,i,sliceElem_run he,hi,hk.1.1.1,hk.1.1.2,hk.1.2,hk.2,he⟩
  ·cases hk
 ·cases hk
theorem elemZero_info {t e : TypeId} {zero : AV} (hk : elemZero P t zero = true) (he : sliceElem P t = some e) : ∃ v,(P.info? e).bind (·.zero) = some v ∧ okConst zero v = true := by
 unfold elemZero at hk
 rw [he] at hk
 simp only at hk
 split at hk
 ·rename_i v hv; exact ⟨v,hv,hk⟩
 ·cases hk
theorem okConst_cells {x : AV} {v : Value} (hk : okConst x v = true) : v.cells.size = x.cells.length ∧ ones v.cells.toList ∧ RC w X x v := by
 refine ⟨?_, ?_,okConst_RC hk⟩
 ·unfold okConst at hk
  split at hk
  ·rename_i cs vs
   have := (RCL_get _ _ (okCells_RCL (w := w) (X := X) hk).2).1
   simpa [Value.cells,AV.cells] using this
  ·obtain ⟨_,_,h3,h4,_⟩ := okScal_RC (w := w) (X := X) hk
   rw [h3,h4]; rfl
 ·unfold okConst at hk
  split at hk
  ·rename_i cs vs
   exact (okCells_RCL (w := w) (X := X) hk).1
  ·obtain ⟨_,h2,h3,h4,_⟩ := okScal_RC (w := w) (X := X) hk
   rw [h4]; intro u hu; simp at hu; subst hu; exact h2
theorem madeCells_get (zs : Array Value) (n k : Nat) (hk : k < n) : (madeCells zs n).toList[k]? = some (zs[k % zs.size]!) := by
 simp [madeCells,hk]
theorem ARR_made {z n k : Nat} {zero : AV} {v : Value} (hz : 0 < z) (hc : v.cells.size = z) (h1 : ones v.cells.toList) (hr : RC w X zero v) (hn : n ≤ k) : ARR w X z (List.replicate n zero) (madeCells v.cells (k * z)).toList := by
 refine ⟨by simp [size_madeCells]; exact Nat.mul_le_mul_right _ hn,fun i e he => ?_⟩
 rw [List.getElem?_replicate] at he
 split at he
 ·rename_i hi
  simp only [Option.some.injEq] at he
  subst he
  refine ⟨v,hr,hc,h1,fun j u hj => ?_⟩
  have hjz : j < z := by rw [← hc]; simpa using (List.getElem?_eq_some_iff.mp hj).1
  have hb : i * z + j < k * z := by
   have : (i + 1) * z ≤ k * z := Nat.mul_le_mul_right _ (by omega)
   rw [Nat.add_mul] at this; omega
  rw [madeCells_get _ _ _ hb,hc,Nat.mul_comm,Nat.mul_add_mod,Nat.mod_eq_of_lt hjz]
  rw [← hj]
  simp [hc,hjz]
 ·cases he
theorem mk_ok {cx : Cx} (hi : Inv w m h) (he : Renv w m h env a) {s z lim : Nat} {zero : AV} {n c : Opd} {kn kc : IntKind} {p q : Int} {ver : Nat} {h' : Heap} (hk : okXI P o (.mk s z zero lim n c) = true)
  (hn : n.ev env = .int kn p) (hc : c.ev env = .int kc q) (h0 : 0 ≤ p) (h1 : p ≤ q) (h2 : q ≤ lim) (hm : mkAt cx s (.arr z (List.replicate p.toNat zero)) h = some (ver,h')) (hlo : cx.lo ≤ cx.base) :
  ∃ u w' m',(execOp a.eval o).run P w = .ok (.value u) w' ∧ Step cx.lo w m h w' m' h' ∧ Inv w' m' h' ∧ R w' (Live m' h') m' h' (.ref (cx.base + s) ver z 0 p.toNat p.toNat) u := by
 simp only [okXI] at hk
 split at hk
 ·rename_i t l k hop
  simp only [Bool.and_eq_true,decide_eq_true_eq] at hk
  obtain ⟨⟨⟨⟨g1,g2⟩,g3⟩,g4⟩,g5⟩ := hk
  obtain ⟨e,i,hu,hi',hsz,hz0,hby,hlim,hse⟩ := okElem_info g1
  obtain ⟨v,hv,hcv⟩ := elemZero_info g2 hse
  obtain ⟨i',hi'',hzero⟩ := bE.mp hv
  rw [hi'] at hi''
  cases hi''
  have r1 := okOpd_R he g4
  have r2 := okOpd_R he g5
  rw [hn,R_int] at r1
  rw [hc,R_int] at r2
  obtain ⟨k1,k2,k3⟩ := okConst_cells (w := w) (X := Live m h) hcv
  have hb : (i.bytes : Int) * q ≤ 281474976710656 := by
   have h3 : (q.toNat) * i.bytes ≤ lim * i.bytes := Nat.mul_le_mul_right _ (by omega)
   have h4 : (i.bytes : Int) * q = ((q.toNat * i.bytes : Nat) : Int) := by
    rw [Int.natCast_mul,Int.mul_comm]; congr 1; omega
   rw [h4]; omega
  have hrun := run_make (P := P) w t e i v hu hi' hzero kn kc p q h0 h1 hb (by omega)
  rw [hsz] at hrun
  obtain ⟨m',hs,hinv,q1,q2⟩ := mk_step (nb := w.heap.size) (c := madeCells v.cells (q.toNat * z)) (ty := e) hi hm hlo (below_new w _) (Nat.le_refl _) (heap_alloc_new w _)
   (fun _ => ⟨hz0,ARR_made hz0 (by rw [k1,g3]) k2 k3 (by omega)⟩)
  refine ⟨.slice (some ⟨w.heap.size,0,none⟩) p.toNat q.toNat,_,m', ?_,hs,hinv, ?_⟩
  ·simp [execOp,hop,r1,r2,hrun]
  ·simp only [R]
   refine ⟨_,_,rfl,by omega,by simp,ver,_,q1,Nat.le_refl _,fun _ z' es hb' => ?_⟩
   cases hb'
   refine ⟨rfl,by simp,fun _ => ⟨_,q2,.inr ⟨by simp,by omega, ?_⟩⟩⟩
   rw [bsize_alloc,size_madeCells,Nat.zero_add]; exact Nat.le_refl _
 ·cases hk
theorem mk0_ok {cx : Cx} (hi : Inv w m h) (he : Renv w m h env a) {s z lim : Nat} {zero : AV} {n c : Opd} {kn kc : IntKind} (hk : okXI P o (.mk s z zero lim n c) = true)
  (hn : n.ev env = .int kn 0) (hc : c.ev env = .int kc 0) :
  ∃ u w' m',(execOp a.eval o).run P w = .ok (.value u) w' ∧ Step cx.lo w m h w' m' h ∧ Inv w' m' h ∧ R w' (Live m' h) m' h (.lsf z []) u := by
 simp only [okXI] at hk
 split at hk
 ·rename_i t l k hop
  simp only [Bool.and_eq_true,decide_eq_true_eq] at hk
  obtain ⟨⟨⟨⟨g1,g2⟩,g3⟩,g4⟩,g5⟩ := hk
  obtain ⟨e,i,hu,hi',hsz,hz0,hby,hlim,hse⟩ := okElem_info g1
  obtain ⟨v,hv,hcv⟩ := elemZero_info g2 hse
  obtain ⟨i',hi'',hzero⟩ := bE.mp hv
  rw [hi'] at hi''
  cases hi''
  have r1 := okOpd_R he g4
  have r2 := okOpd_R he g5
  rw [hn,R_int] at r1
  rw [hc,R_int] at r2
  have hrun := run_make (P := P) w t e i v hu hi' hzero kn kc 0 0 (Int.le_refl _) (Int.le_refl _) (by omega) (by omega)
  have hbel := below_new w (.cells (madeCells v.cells ((0 : Int).toNat * i.size)) e)
  refine ⟨.slice (some ⟨w.heap.size,0,none⟩) 0 0,_,m, ?_,below_step hi hbel,below_inv hi hbel, ?_⟩
  ·simp [execOp,hop,r1,r2,hrun]
  ·simp only [R,RC]
   exact ⟨_,rfl,.inl trivial⟩
 ·cases hk
theorem splice_get {cs new : List AV} {off : Nat} {cs' : List AV} (hs : splice cs off new = some cs') : off + new.length ≤ cs.length ∧ cs' = cs.take off ++ new ++ cs.drop (off + new.length) := by
 unfold splice at hs
 split at hs
 ·rename_i h; exact ⟨h,by simpa using hs.symm⟩
 ·cases hs
theorem RL_append {xs ys : List AV} {us vs : List Value} (h1 : RL w X m h xs us) (h2 : RL w X m h ys vs) : RL w X m h (xs ++ ys) (us ++ vs) := by
 obtain ⟨g1,g2⟩ := RL_get _ _ h1
 obtain ⟨k1,k2⟩ := RL_get _ _ h2
 refine RL_of _ _ (by simp [g1,k1]) fun j c hc => ?_
 by_cases hj : j < xs.length
 ·rw [List.getElem?_append_left hj] at hc
  obtain ⟨u,hu,hr⟩ := g2 j c hc
  exact ⟨u,by rw [List.getElem?_append_left (by omega)]; exact hu,hr⟩
 ·rw [List.getElem?_append_right (by omega)] at hc
  obtain ⟨u,hu,hr⟩ := k2 _ c hc
  exact ⟨u,by rw [List.getElem?_append_right (by omega),g1]; exact hu,hr⟩
theorem RL_take {xs : List AV} {us : List Value} (h1 : RL w X m h xs us) (n : Nat) : RL w X m h (xs.take n) (us.take n) := by
 obtain ⟨g1,g2⟩ := RL_get _ _ h1
 refine RL_of _ _ (by simp [g1]) fun j c hc => ?_
 rw [List.getElem?_take] at hc ⊢
 split at hc
 ·rw [if_pos (by assumption)]; exact g2 j c hc
 ·cases hc
theorem RL_drop {xs : List AV} {us : List Value} (h1 : RL w X m h xs us) (n : Nat) : RL w X m h (xs.drop n) (us.drop n) := by
 obtain ⟨g1,g2⟩ := RL_get _ _ h1
 refine RL_of _ _ (by simp [g1]) fun j c hc => ?_
 rw [List.getElem?_drop] at hc ⊢
 exact g2 _ c hc
theorem RL_splice {cs new cs' : List AV} {us nu : List Value} {off : Nat} (hs : splice cs off new = some cs') (h1 : RL w X m h cs us) (h2 : RL w X m h new nu) :
  off + nu.length ≤ us.length ∧ RL w X m h cs' (us.take off ++ nu ++ us.drop (off + nu.length)) := by
 obtain ⟨hle,rfl⟩ := splice_get hs
 have l1 := (RL_get _ _ h1).1
 have l2 := (RL_get _ _ h2).1
 refine ⟨by omega,RL_append (RL_append (RL_take h1 off) h2) ?_⟩
 rw [l2]
 exact RL_drop h1 _
theorem ones_splice {us nu : List Value} {off : Nat} (h1 : ones us) (h2 : ones nu) : ones (us.take off ++ nu ++ us.drop (off + nu.length)) := by
 intro u hu
 simp only [List.mem_append] at hu
 rcases hu with (hu | hu) | hu
 ·exact h1 u (List.mem_of_mem_take hu)
 ·exact h2 u hu
 ·exact h1 u (List.mem_of_mem_drop hu)
theorem put_row {lo id ver : Nat} {blk blk' : Blk} {b : Nat} {c c' : Array Value} {ty : TypeId} (hi : Inv w m h) (hid : h[id]? = some (ver,blk)) (hnd : blk ≠ .dead) (hm : m[id]? = some b) (hb : w.heap[b]? = some (.cells c ty (0,0)))
  (hlo : lo ≤ id) (hsz : c'.size = c.size)
  (hev : (∃ cs cs',blk = .box cs ∧ blk' = .box cs') ∨ ∃ z es es',blk = .arr z es ∧ blk' = .arr z es' ∧ es.length ≤ es'.length)
  (hok : ∀ m' h',Step lo w m h (w.setRow b c') m' h' → BlkOk (w.setRow b c') (Live m' h') m' h' c'.toList blk') :
  Step lo w m h (w.setRow b c') m (h.set id (ver,blk')) ∧ Inv (w.setRow b c') m (h.set id (ver,blk')) := by
 have hbl : b < w.heap.size := hi.lt hid hnd hm
 have hnew : (w.setRow b c').heap[b]? = some (.cells c' ty (0,0)) := setRow_heap w b c c' ty (0,0) hb
 have p : Put w m h id ver blk b (w.setRow b c') ver blk' b := by
  refine ⟨hi,hid,hm,rfl,rfl,rfl,by simp,fun q hq hqb => ?_,Nat.le_refl _,.inr (.inl ⟨rfl,hnd⟩),fun _ => ?_⟩
  ·by_cases hqe : q = b
   ·exact absurd (hqb hqe) hnd
   ·exact setRow_other w b q c' hqe
  ·have hmm : (m.set id b)[id]? = m[id]? := by rw [hm]; exact List.getElem?_set_self (by rw [hi.len]; exact (List.getElem?_eq_some_iff.mp hid).1)
   rcases hev with ⟨cs,cs',rfl,rfl⟩ | ⟨z,es,es',rfl,rfl,hle⟩
   ·exact .inr (.inl ⟨cs,cs',rfl,rfl,hmm⟩)
   ·refine .inr (.inr (.inr ⟨z,es,es',rfl,rfl,hle,fun _ => ⟨hmm,fun b' hb' => ?_⟩⟩))
    rw [hm] at hb'
    cases hb'
    simp [bsize,hb,hnew,hsz]
 have hmm : m.set id b = m := by
  refine List.ext_getElem? fun j => ?_
  by_cases hj : j = id
  ·subst hj; rw [p.mset,hm]
  ·exact (p.other hj).2
 have h1 := p.step (lo := lo) hlo
 have h2 := p.inv' (by rcases hev with ⟨cs,cs',rfl,rfl⟩ | ⟨z,es,es',rfl,rfl,hle⟩ <;> simp) (fun _ => ⟨c',ty,hnew,hok _ _ h1⟩)
 rw [hmm] at h1 h2
 exact ⟨h1,h2⟩
theorem storeVar_run {t : TypeId} {sz b off : Nat} {v : Value} {c : Array Value} {ty : TypeId} (hs : szT P t = some sz) (hv : v.cells.size = sz) (h1 : ones v.cells.toList) (hb : w.heap[b]? = some (.cells c ty (0,0))) (hle : off + sz ≤ c.size) :
  (storeVar t ⟨b,off,none⟩ v).run P w = .ok () (w.setRow b (c.toList.take off ++ v.cells.toList ++ c.toList.drop (off + v.cells.toList.length)).toArray) := by
 have := run_storeCells_at P b off ty v.cells.toList 0 c w hb (by simp [hv]; omega) h1
 simp only [Nat.add_zero] at this
 simp only [storeVar,Sem.run_bind,szT_run hs,Result.andThen_ok]
 simp [hv,this]
theorem RC_RL_cells {e : AV} {v : Value} (hv : e.val = true) (hr : RC w X e v) : v.cells.size = e.cells.length ∧ ones v.cells.toList ∧ RCL w X e.cells v.cells.toList := by
 obtain ⟨h1,h2,h3⟩ := R.cells hv (R.of_RC (m := []) (h := []) _ _ hr)
 refine ⟨h1,h2, ?_⟩
 cases e with
 | agg cs =>
  simp only [RC] at hr
  obtain ⟨vs,rfl,_,g2⟩ := hr
  simpa [AV.cells,Value.cells] using g2
 | undef => simp [AV.val] at hv
 | tuple => simp [AV.val] at hv
 | own => simp [AV.val] at hv
 | _ =>
  simp only [AV.cells,List.length_singleton] at h1 h3 ⊢
  simp only [RL] at h3
  obtain ⟨u,us,e1,_,rfl⟩ := h3
  have hvv : v.cells = #[v] := by
   rcases R.val hv (R.of_RC (m := []) (h := []) _ _ hr) with ⟨_,_,e,_⟩ | ⟨_,h2,_⟩
   ·cases e
   ·exact h2
  rw [hvv]
  simp only [RCL]
  exact ⟨v,[],rfl,hr,rfl⟩
theorem store_ok {cx : Cx} (hi : Inv w m h) (he : Renv w m h env a) {sz : Nat} {x v : Opd} {h' : Heap} (hk : okXI P o (.store sz x v) = true) (hp : pstore cx h sz (x.ev env) (v.ev env) = some h') (hlo : cx.lo ≤ cx.base) :
  ∃ w' m',(execOp a.eval o).run P w = .ok .skip w' ∧ Step cx.lo w m h w' m' h' ∧ Inv w' m' h' := by
 simp only [okXI] at hk
 split at hk
 ·rename_i t y u hop
  simp only [Bool.and_eq_true,beq_iff_eq] at hk
  obtain ⟨⟨hs,hk1⟩,hk2⟩ := hk
  have rx := okOpd_R he hk1
  have rv := okOpd_R he hk2
  generalize x.ev env = xv at rx hp
  generalize v.ev env = vv at rv hp
  simp only [pstore] at hp
  split at hp
  ·rename_i hcond
   obtain ⟨hsz,hval⟩ := hcond
   obtain ⟨c1,c2,c3⟩ := R.cells hval rv
   split at hp
   ·-- a variable in memory
    rename_i id ver off
    split at hp
    ·rename_i w0 cs hid
     split at hp
     ·rename_i hc
      obtain ⟨rfl,hlo',_⟩ := hc
      obtain ⟨cs',hsp,rfl⟩ := mE.mp hp
      simp only [R] at rx
      obtain ⟨ad,e1,v0,blk,g1,g2,g3⟩ := rx
      rw [hid] at g1
      cases g1
      obtain ⟨b,hm,rfl⟩ := g3 rfl cs rfl
      obtain ⟨b',c,ty,hm',hb,k1,k2⟩ := hi.blk id _ _ hid (by simp)
      rw [hm] at hm'
      cases hm'
      obtain ⟨hle,hrl⟩ := RL_splice hsp k2 c3
      have hlen := (RL_get _ _ k2).1
      have hrun := storeVar_run (P := P) (w := w) (v := a.eval u) hs (by omega) c2 hb (off := off) (by simp at hle; omega)
      obtain ⟨s1,i1⟩ := put_row (lo := cx.lo) (blk' := .box cs') (c' := (c.toList.take off ++ (a.eval u).cells.toList ++ c.toList.drop (off + (a.eval u).cells.toList.length)).toArray) hi hid (by simp) hm hb hlo'
       (by simp at hle ⊢; omega) (.inl ⟨cs,cs',rfl,rfl⟩) (fun m' h' hst => ⟨ones_splice k1 c2,RL.step hst.ids hst.keep _ _ hrl⟩)
      refine ⟨_,_, ?_,s1,i1⟩
      simp only [execOp,hop,Instr.storeAt,e1,Instr.sureAddr,Sem.run_bind,Sem.run_pure,Result.andThen_ok,hrun]
     ·cases hp
    ·cases hp
   ·-- an element
    rename_i id ver z o' len fill i off
    obtain ⟨⟨v1,h1⟩,hf,hq⟩ := bE.mp hp
    clear hp
    simp only at hq
    obtain ⟨s0,i0,r0⟩ := frz_ok (lo := cx.lo) hlo _ _ _ _ _ hi rv hf
    have rx1 := R.step s0.ids s0.keep _ _ rx
    have hval1 := frz_val hf hval
    obtain ⟨d1,d2,d3⟩ := RC_RL_cells hval1 r0
    split at hq
    ·rename_i w0 z' es hid
     split at hq
     ·rename_i hc
      obtain ⟨rfl,rfl,rfl,hle,hil,hlo'⟩ := hc
      simp only [R] at rx1
      obtain ⟨ad,e1,v0,blk,g1,g2,g3⟩ := rx1
      rw [hid] at g1
      cases g1
      obtain ⟨_,_,g4⟩ := g3 rfl _ es rfl
      obtain ⟨b,hm,rfl⟩ := g4 rfl
      obtain ⟨b',c,ty,hm',hb,hz0,hok⟩ := i0.blk id _ _ hid (by simp)
      rw [hm] at hm'
      cases hm'
      -- the element that is written
      have fin : ∀ (e e' : AV) (off' : Nat),es[o' + i]? = some e → h' = h1.set id (w0,.arr z' (es.set (o' + i) e')) → off' = off →
        (∀ ve : Value,RC w (Live m h1) e ve → ve.cells.size = z' → ones ve.cells.toList → off + (a.eval u).cells.size ≤ z' ∧
         ∃ ve' : Value,RC w (Live m h1) e' ve' ∧ ve'.cells.toList = ve.cells.toList.take off ++ (a.eval u).cells.toList ++ ve.cells.toList.drop (off + (a.eval u).cells.toList.length)) →
        ∃ w' m',(execOp a.eval o).run P w = .ok .skip w' ∧ Step cx.lo w m h w' m' h' ∧ Inv w' m' h' := by
       intro e e' off' hee hh' _ hel
       obtain ⟨ve,q1,q2,q3,q4⟩ := hok.2 _ e hee
       obtain ⟨hlez,ve',p1,p2⟩ := hel ve q1 q2 q3
       have hsz2 : (a.eval u).cells.size = sz := by omega
       have hidx : (o' + i) * z' + z' ≤ c.size := by
        have h5 := hok.1
        have h6 : o' + i < es.length := (List.getElem?_eq_some_iff.mp hee).1
        have h7 : (o' + i + 1) * z' ≤ es.length * z' := Nat.mul_le_mul_right _ h6
        rw [Nat.add_mul (o' + i) 1] at h7
        simp at h5; omega
       have hrun := storeVar_run (P := P) (w := w) (v := a.eval u) hs hsz2 c2 hb (off := (o' + i) * z' + off) (by omega)
       have hvl : (a.eval u).cells.toList.length = sz := by simpa using hsz2
       obtain ⟨s1,i1⟩ := put_row (lo := cx.lo) (blk' := .arr z' (es.set (o' + i) e')) (c' := (c.toList.take ((o' + i) * z' + off) ++ (a.eval u).cells.toList ++ c.toList.drop ((o' + i) * z' + off + (a.eval u).cells.toList.length)).toArray) i0 hid (by simp) hm hb hlo'
        (by simp [hsz2]; omega) (.inr ⟨z',es,es.set (o' + i) e',rfl,rfl,by simp⟩) (fun m' h' hst => ⟨hz0,by
         refine ARR.keep hst.keep ?_
         refine ⟨by simp [hsz2]; have := hok.1; simp at this; omega,fun j x hx => ?_⟩
         have hsame : ∀ k,(k < (o' + i) * z' + off ∨ (o' + i) * z' + off + sz ≤ k) → (c.toList.take ((o' + i) * z' + off) ++ (a.eval u).cells.toList ++ c.toList.drop ((o' + i) * z' + off + (a.eval u).cells.toList.length))[k]? = c.toList[k]? := by
          intro k hk'
          rcases hk' with hk' | hk'
          ·rw [List.append_assoc,List.getElem?_append_left (by simp; omega),List.getElem?_take,if_pos hk']
          ·rw [List.getElem?_append_right (by simp [hsz2]; omega),List.getElem?_drop]
           congr 1
           simp [hsz2]; omega
         have hmid : ∀ k,k < sz → (c.toList.take ((o' + i) * z' + off) ++ (a.eval u).cells.toList ++ c.toList.drop ((o' + i) * z' + off + (a.eval u).cells.toList.length))[(o' + i) * z' + off + k]? = (a.eval u).cells.toList[k]? := by
          intro k hk'
          rw [List.append_assoc,List.getElem?_append_right (by simp; omega),List.getElem?_append_left (by simp [hsz2]; omega)]
          congr 1
          simp; omega
         by_cases hj : j = o' + i
         ·subst hj
          rw [List.getElem?_set_self (List.getElem?_eq_some_iff.mp hee).1] at hx
          cases hx
          refine ⟨ve',p1, ?_, ?_,fun k y hy => ?_⟩
          ·have := congrArg List.length p2
           simp [hsz2] at this
           rw [this]; omega
          ·rw [p2]; exact ones_splice q3 c2
          ·rw [p2] at hy
           have hkz : k < z' := by
            have := (List.getElem?_eq_some_iff.mp hy).1
            simp [hsz2] at this; omega
           by_cases hk1 : k < off
           ·rw [List.append_assoc,List.getElem?_append_left (by simp; omega),List.getElem?_take,if_pos hk1] at hy
            rw [hsame _ (.inl (by omega))]
            exact q4 k y hy
           ·by_cases hk2 : k < off + sz
            ·rw [List.append_assoc,List.getElem?_append_right (by simp; omega),List.getElem?_append_left (by simp [hsz2]; omega)] at hy
             rw [show (o' + i) * z' + k = (o' + i) * z' + off + (k - off) by omega,hmid _ (by omega)]
             rw [← hy]; congr 1; simp; omega
            ·rw [List.getElem?_append_right (by simp [hsz2]; omega),List.getElem?_drop] at hy
             rw [hsame _ (.inr (by omega))]
             refine q4 k y ?_
             rw [← hy]; congr 1; simp [hsz2]; omega
         ·rw [List.getElem?_set_ne (by omega)] at hx
          obtain ⟨vx,x1,x2,x3,x4⟩ := hok.2 j x hx
          refine ⟨vx,x1,x2,x3,fun k y hy => ?_⟩
          have hkz : k < z' := by rw [← x2]; simpa using (List.getElem?_eq_some_iff.mp hy).1
          rw [hsame _ ?_]
          ·exact x4 k y hy
          ·rcases Nat.lt_or_gt_of_ne hj with hlt | hgt
           ·left
            have : (j + 1) * z' ≤ (o' + i) * z' := Nat.mul_le_mul_right _ hlt
            rw [Nat.add_mul] at this; omega
           ·right
            have : (o' + i + 1) * z' ≤ j * z' := Nat.mul_le_mul_right _ hgt
            rw [Nat.add_mul (o' + i)] at this; omega⟩)
       refine ⟨_,_, ?_,s0.trans (hh' ▸ s1),hh' ▸ i1⟩
       simp only [execOp,hop,Instr.storeAt,e1,Instr.sureAddr,Sem.run_bind,Sem.run_pure,Result.andThen_ok,hrun]
      split at hq
      ·rename_i cs hee
       obtain ⟨cs',hsp,rfl⟩ := mE.mp hq
       refine fin _ (.agg cs') off hee rfl rfl fun ve q1 q2 q3 => ?_
       simp only [RC] at q1
       obtain ⟨vs,rfl,y1,y2⟩ := q1
       obtain ⟨hle2,rl2⟩ := RL_splice hsp (RL.of_RCL (m := m) (h := h1) _ _ y2) (RL.of_RCL (m := m) (h := h1) _ _ d3)
       have hzvs : vs.length = z' := by simpa [Value.cells] using q2
       refine ⟨by simp at hle2; omega,.agg (vs.take off ++ (a.eval u).cells.toList ++ vs.drop (off + (a.eval u).cells.toList.length)).toArray, ?_,by simp [Value.cells]⟩
       simp only [RC]
       refine ⟨_,rfl,ones_splice (by simpa [Value.cells] using q3) c2, ?_⟩
       obtain ⟨hle3,rfl⟩ := splice_get hsp
       have l1 := (RCL_get _ _ y2)
       have l2 := (RCL_get _ _ d3)
       refine RCL_of _ _ (by simp; have := l1.1; have := l2.1; simp at this; omega) fun j c' hc' => ?_
       obtain ⟨x',hx',hR⟩ := (RL_get _ _ rl2).2 j c' hc'
       refine ⟨x',hx', ?_⟩
       -- closed cells
       have hcl : RC w (Live m h1) c' x' := by
        by_cases j1 : j < off
        ·rw [List.append_assoc,List.getElem?_append_left (by simp; omega),List.getElem?_take,if_pos j1] at hc'
         rw [List.append_assoc,List.getElem?_append_left (by simp; have := l1.1; omega),List.getElem?_take,if_pos j1] at hx'
         obtain ⟨x2,e2,e3⟩ := l1.2 j c' hc'
         rw [hx'] at e2; cases e2; exact e3
        ·by_cases j2 : j < off + v1.cells.length
         ·rw [List.append_assoc,List.getElem?_append_right (by simp; omega),List.getElem?_append_left (by simp; omega)] at hc'
          rw [List.append_assoc,List.getElem?_append_right (by simp; omega),List.getElem?_append_left (by simp; have := l1.1; have := l2.1; simp at this; omega)] at hx'
          obtain ⟨x2,e2,e3⟩ := l2.2 _ c' hc'
          have : (a.eval u).cells.toList[j - (vs.take off).length]? = (a.eval u).cells.toList[j - (cs.take off).length]? := by congr 1; simp; have := l1.1; omega
          rw [this,e2] at hx'; cases hx'; exact e3
         ·rw [List.getElem?_append_right (by simp; omega),List.getElem?_drop] at hc'
          rw [List.getElem?_append_right (by simp; have := l1.1; have := l2.1; simp at this; omega),List.getElem?_drop] at hx'
          obtain ⟨x2,e2,e3⟩ := l1.2 _ c' hc'
          have : (off + (a.eval u).cells.toList.length + (j - (vs.take off ++ (a.eval u).cells.toList).length)) = (off + v1.cells.length + (j - (cs.take off ++ v1.cells).length)) := by
           have := l1.1; have := l2.1; simp at this ⊢; omega
          rw [this,e2] at hx'; cases hx'; exact e3
       exact hcl
      ·rename_i e hne hee
       split at hq
       ·rename_i hc2
        obtain ⟨rfl,hev⟩ := hc2
        split at hq
        ·cases hq
        ·rename_i v1' hnagg
         simp only [Option.some.injEq] at hq
         refine fin e v1 0 hee hq.symm rfl fun ve q1 q2 q3 => ?_
         obtain ⟨z1,z2,z3⟩ := RC_RL_cells hev q1
         have he1 : e.cells.length = 1 := by
          cases e <;> first | rfl | (exact (hne _ rfl).elim)
         have hv1 : v1.cells.length = 1 := by
          cases v1 <;> first | rfl | (exact (hnagg _ rfl).elim)
         have hue : (a.eval u).cells = #[a.eval u] := by
          rcases R.val hval1 (R.of_RC (m := m) (h := h1) _ _ r0) with ⟨_,_,e',_⟩ | ⟨_,h2,_⟩
          ·exact (hnagg _ e').elim
          ·exact h2
         refine ⟨by omega,a.eval u,r0, ?_⟩
         rw [hue]
         simp
         have hl1 : ve.cells.toList.length = 1 := by simp; omega
         exact List.eq_nil_of_length_eq_zero (by simp at hl1 ⊢; omega)
       ·cases hq
      ·cases hq
     ·cases hq
    ·cases hq
   ·cases hp
  ·cases hp
 ·cases hk
end
end Go.VI
