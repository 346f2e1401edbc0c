/- append; slices and structs written out. -/
import Derived.Test.YtfpoegnmeoghpaaGreatDoorVII
set_option linter.unusedVariables false
set_option linter.unusedSimpArgs false
namespace Go.VI
set_option linter.unusedSectionVars false
variable [Globs] [Rounds]
section
variable {w : World} {m : Map} {h : Heap} {P : Program} {env : Env} {a : Act} {o : Oper} {X : Nat → Prop}
structure Src (P : Program) (w : World) (X : Nat → Prop) (z : Nat) (xs : List AV) (x : Value) where
 news : List Value
 len : news.length = xs.length * z
 one : ones news
 arr : ARR w X z xs news
 lenOf : ∀ w2,(Builtin.lenOf x).run P w2 = .ok xs.length w2
 first : ∀ w2 : World,w2.heap = w.heap → (Builtin.firstCells z xs.length x).run P w2 = .ok news.toArray w2
theorem cell_same {w w2 : World} (h : w2.heap = w.heap) (p : Addr) : w2.cell? p = w.cell? p := by simp [World.cell?,h]
theorem firstCells_ok {z : Nat} {a' : Option Addr} {len cap : Nat} {vs : List Value} (n : Nat) (hl : vs.length = n * z) (hmem : vs = [] ∨ ∃ b off,a' = some ⟨b,off,none⟩ ∧ memIs w b off vs) :
  (Builtin.firstCells z n (.slice a' len cap)).run P w = .ok vs.toArray w := by
 cases a' with
 | none =>
  rcases hmem with rfl | ⟨_,_,e,_⟩
  ·simp [Builtin.firstCells]
  ·cases e
 | some ad =>
  refine run_firstCells_some (P := P) w z n ad len cap vs hl ?_
  rcases hmem with rfl | ⟨b,off,e,hm⟩
  ·intro j v hj; simp at hj
  ·cases e
   intro j v hj
   rw [add_plain]
   exact hm j v hj
theorem src_slice {z : Nat} {xs : List AV} {x : Value} (hs : SliceMem w X z xs x) : Nonempty (Src P w X z xs x) := by
 obtain ⟨a',cap,rfl,hc,hmem⟩ := hs
 by_cases hn : xs = []
 ·subst hn
  refine ⟨⟨[],by simp,fun _ h => by simp at h,by simp [ARR],fun w2 => by simp [Builtin.lenOf],fun w2 hw => ?_⟩⟩
  exact firstCells_ok 0 (by simp) (.inl rfl)
 ·obtain ⟨b,off,rfl,hb,h0,hE⟩ := hmem.resolve_left hn
  obtain ⟨vs,g1,g2,g3,g4⟩ := RCE_flat xs b off hE
  refine ⟨⟨vs,g1,g2,g4,fun w2 => by simp [Builtin.lenOf],fun w2 hw => ?_⟩⟩
  exact firstCells_ok xs.length g1 (.inr ⟨b,off,rfl,fun j v hj => (cell_same hw _).trans (g3 j v hj)⟩)
theorem src_str {l : List UInt8} : Nonempty (Src P w X 1 (l.map fun b => .int .u8 b.toNat) (.string ⟨l.toArray⟩)) := by
 refine ⟨⟨l.map fun b => Value.int .u8 b.toNat,by simp,fun u hu => ?_, ?_,fun w2 => by simp [Builtin.lenOf,ByteArray.size],fun w2 hw => ?_⟩⟩
 ·obtain ⟨b,_,rfl⟩ := List.mem_map.mp hu; rfl
 ·refine ⟨by simp,fun i e he => ?_⟩
  rw [List.getElem?_map] at he
  obtain ⟨b,hb,rfl⟩ := mE.mp he
  refine ⟨.int .u8 b.toNat,by simp [RC],rfl,fun u hu => by simp [Value.cells] at hu; subst hu; rfl,fun j u hj => ?_⟩
  cases j with
  | zero => simp [Value.cells] at hj; subst hj; simp [hb]
  | succ j => simp [Value.cells] at hj
 ·simp only [Builtin.firstCells,Sem.run_pure]
  congr 1
  apply Array.ext'
  simp [extract_str]
theorem app_grow {t u ty e : TypeId} {i : TypeInfo} {zv : Value} {d : TypeDesc} (ht : P.underlying t = some (.slice e)) (hu : P.underlying u = some d) (hd : (∃ e2,d = .slice e2) ∨ d = .string) (hi : P.info? e = some i) (hz : i.zero = some zv)
  {base : Option Addr} {sLen sCap : Nat} {olds : List Value} (hold : ∀ w2 : World,w2.heap = w.heap → (Builtin.firstCells i.size sLen (.slice base sLen sCap)).run P w2 = .ok olds.toArray w2)
  {xs : List AV} {x : Value} (src : Src P w X i.size xs x) (hg : sCap < sLen + xs.length) {lim : Nat} (hl1 : lim * i.bytes ≤ 140737488355328) (hl2 : lim ≤ 140737488355328) (hle : sLen + xs.length ≤ lim) :
  ∃ cap,sLen + xs.length ≤ cap ∧ (Builtin.append_ #[t,u] ty #[.slice base sLen sCap,x]).run P w =
   .ok (.slice (some ⟨w.heap.size,0,none⟩) (sLen + xs.length) cap) (w.drew.alloc (.cells (olds ++ src.news ++ (Builtin.zeroCells zv.cells (cap - (sLen + xs.length))).toList).toArray e)) := by
 refine ⟨grownCap w (sLen + xs.length) sCap e,grownCap_ge _ _ _ _, ?_⟩
 have hn : ¬ (sLen + xs.length ≤ sCap) := by omega
 have hneed : (sLen + xs.length) * i.bytes ≤ 140737488355328 := Nat.le_trans (Nat.mul_le_mul_right _ hle) hl1
 have h48 := growslice_fits hg hneed
 have h63' : ¬ (9223372036854775807 < ((sLen : Int) + (xs.length : Int))) := by omega
 have h48' : ¬ (281474976710656 < Builtin.nextslicecap (sLen + xs.length) sCap * i.bytes) := by omega
 have hf := src.first w.drew rfl
 have hfo := hold w.drew rfl
 have hlen := src.lenOf w
 rcases hd with ⟨e2,rfl⟩ | rfl
 ·simp [Builtin.append_,run_underlying ht,run_underlying hu,sizeOf,typeInfo,zeroValue,hi,hz,hlen,hn,h63',h48',Question.forced,hf,hfo,newRow,grownCap]
  congr 2
  apply Array.ext'
  simp
 ·simp [Builtin.append_,run_underlying ht,run_underlying hu,sizeOf,typeInfo,zeroValue,hi,hz,hlen,hn,h63',h48',Question.forced,hf,hfo,newRow,grownCap]
  congr 2
  apply Array.ext'
  simp
theorem app_room {t u ty e : TypeId} {i : TypeInfo} {d : TypeDesc} (ht : P.underlying t = some (.slice e)) (hu : P.underlying u = some d) (hd : (∃ e2,d = .slice e2) ∨ d = .string) (hi : P.info? e = some i)
  {base : Option Addr} {sLen sCap : Nat} {xs : List AV} {x : Value} (src : Src P w X i.size xs x) (hg : sLen + xs.length ≤ sCap) {w' : World}
  (hst : ∀ ad,base = some ad → (storeCells (ad.add (sLen * i.size)) src.news).run P w = .ok () w') (hno : base = none → w' = w) :
  (Builtin.append_ #[t,u] ty #[.slice base sLen sCap,x]).run P w = .ok (.slice base (sLen + xs.length) sCap) w' := by
 have hf := src.first w rfl
 have hlen := src.lenOf w
 cases base with
 | none =>
  have := hno rfl
  subst this
  rcases hd with ⟨e2,rfl⟩ | rfl
  ·simp [Builtin.append_,run_underlying ht,run_underlying hu,sizeOf,typeInfo,hi,hlen,hg,hf]
  ·simp [Builtin.append_,run_underlying ht,run_underlying hu,sizeOf,typeInfo,hi,hlen,hg,hf]
 | some ad =>
  have h1 := hst ad rfl
  rcases hd with ⟨e2,rfl⟩ | rfl
  ·simp [Builtin.append_,run_underlying ht,run_underlying hu,sizeOf,typeInfo,hi,hlen,hg,hf,h1]
  ·simp [Builtin.append_,run_underlying ht,run_underlying hu,sizeOf,typeInfo,hi,hlen,hg,hf,h1]
theorem drew_below (w : World) (ob : Obj) : RowKit.Below w.heap.size w (w.drew.alloc ob) := ((RowKit.Below.refl _ _).drew).alloc (by simp) ob
theorem appSrc_ok (hi : Inv w m h) {x : AV} {u : Value} {z : Nat} {xs : List AV} (hr : R w (Live m h) m h x u) (hx : appSrc h z x = some xs) : Nonempty (Src P w (Live m h) z xs u) := by
 unfold appSrc at hx
 split at hx
 ·rename_i l
  split at hx
  ·rename_i h1
   subst h1
   simp only [Option.some.injEq] at hx
   subst hx
   rw [R_str] at hr
   subst hr
   exact src_str
  ·cases hx
 ·unfold asList at hx
  split at hx
  ·rename_i hz
   exact src_slice (slice_mem hi hr hx hz)
  ·cases hx
structure SrcN (w : World) (X : Nat → Prop) (z : Nat) (xs : List AV) where
 news : List Value
 len : news.length = xs.length * z
 one : ones news
 arr : ARR w X z xs news
theorem app_core {cx : Cx} (hi : Inv w m h) {s lim : Nat} {xv : AV} {xs : List AV} {v : AV} {h' : Heap} {pv : Value} {e : TypeId} {i : TypeInfo} {zv : Value}
  (hz0 : 0 < i.size) (hzs : zv.cells.size = i.size) (rx : R w (Live m h) m h xv pv) (src : SrcN w (Live m h) i.size xs)
  (grow : ∀ {base : Option Addr} {sLen sCap : Nat} {olds : List Value},pv = .slice base sLen sCap → (∀ w2 : World,w2.heap = w.heap → (Builtin.firstCells i.size sLen (.slice base sLen sCap)).run P w2 = .ok olds.toArray w2) → sCap < sLen + xs.length → sLen + xs.length ≤ lim →
   ∃ cap,sLen + xs.length ≤ cap ∧ (execOp a.eval o).run P w = .ok (.value (.slice (some ⟨w.heap.size,0,none⟩) (sLen + xs.length) cap)) (w.drew.alloc (.cells (olds ++ src.news ++ (Builtin.zeroCells zv.cells (cap - (sLen + xs.length))).toList).toArray e)))
  (room : ∀ {base : Option Addr} {sLen sCap : Nat} {w' : World},pv = .slice base sLen sCap → sLen + xs.length ≤ sCap → (∀ ad,base = some ad → (storeCells (ad.add (sLen * i.size)) src.news).run P w = .ok () w') → (base = none → w' = w) →
   (execOp a.eval o).run P w = .ok (.value (.slice base (sLen + xs.length) sCap)) w')
  (hv : appv cx s i.size lim xv xs h = some (v,h')) (hlo : cx.lo ≤ cx.base) :
  ∃ u w' m',(execOp a.eval o).run P w = .ok (.value u) w' ∧ Step cx.lo w m h w' m' h' ∧ Inv w' m' h' ∧ R w' (Live m' h') m' h' v u := by
 -- a new block with the elements es,then xs
 have anew : ∀ {es : List AV} {ver : Nat} {h' : Heap} {olds : List Value} {base : Option Addr} {sCap : Nat},pv = .slice base es.length sCap → sCap < es.length + xs.length → es.length + xs.length ≤ lim → olds.length = es.length * i.size →
   ARR w (Live m h) i.size es olds → (∀ w2 : World,w2.heap = w.heap → (Builtin.firstCells i.size es.length (.slice base es.length sCap)).run P w2 = .ok olds.toArray w2) →
   mkAt cx s (.arr i.size (es ++ xs)) h = some (ver,h') →
   ∃ u w' m',(execOp a.eval o).run P w = .ok (.value u) w' ∧ Step cx.lo w m h w' m' h' ∧ Inv w' m' h' ∧ R w' (Live m' h') m' h' (.ref (cx.base + s) ver i.size 0 (es ++ xs).length (es ++ xs).length) u := by
  intro es ver h' olds base sCap hp hg hle hol har hold hmk
  obtain ⟨cap,hcap,hrun⟩ := grow hp hold hg hle
  obtain ⟨m',hs,hinv,q1,q2⟩ := mk_step (nb := w.heap.size) (c := (olds ++ src.news ++ (Builtin.zeroCells zv.cells (cap - (es.length + xs.length))).toList).toArray) (ty := e) hi hmk hlo (drew_below w _) (Nat.le_refl _) (heap_alloc_new w.drew _)
   (fun _ => ⟨hz0,by simpa using ARR_append (rest := (Builtin.zeroCells zv.cells (cap - (es.length + xs.length))).toList) har hol src.arr⟩)
  refine ⟨_,_,m',hrun,hs,hinv, ?_⟩
  simp only [R]
  refine ⟨_,cap,by rw [List.length_append],by rw [List.length_append]; omega,by simp,ver,_,q1,Nat.le_refl _,fun _ z' es' hb' => ?_⟩
  cases hb'
  refine ⟨rfl,by simp,fun _ => ⟨_,q2,.inr ⟨by simp,by rw [List.length_append]; omega, ?_⟩⟩⟩
  have hsz : bsize (w.drew.alloc (.cells (olds ++ src.news ++ (Builtin.zeroCells zv.cells (cap - (es.length + xs.length))).toList).toArray e)) w.heap.size = (olds ++ src.news ++ (Builtin.zeroCells zv.cells (cap - (es.length + xs.length))).toList).length := by
   have := bsize_alloc w.drew (olds ++ src.news ++ (Builtin.zeroCells zv.cells (cap - (es.length + xs.length))).toList).toArray e (0,0)
   simpa using this
  rw [hsz]
  simp only [List.length_append,hol,src.len,Array.length_toList,size_zeroCells,hzs,← Nat.add_mul,Nat.zero_add]
  exact Nat.mul_le_mul_right _ (by omega)
 unfold appv at hv
 split at hv
 ·-- the nil slice
  simp only [R,RC] at rx
  split at hv
  ·rename_i hn
   subst hn
   simp only [Option.some.injEq,Prod.mk.injEq] at hv
   obtain ⟨rfl,rfl⟩ := hv
   refine ⟨.slice none 0 0,w,m, ?_,Step.refl _ _ _ _,hi,by simp [R,RC]⟩
   exact room rx (by simp) (fun _ h => by cases h) (fun _ => rfl)
  ·rename_i hn
   split at hv
   ·rename_i hle
    obtain ⟨⟨ver,h1⟩,hmk,hv⟩ := mE.mp hv
    simp only [Prod.mk.injEq] at hv
    obtain ⟨rfl,rfl⟩ := hv
    have hpos : 0 < xs.length := by rcases Nat.eq_zero_or_pos xs.length with h | h; exact absurd (List.eq_nil_of_length_eq_zero h) hn; exact h
    have := anew (es := []) (olds := []) (base := none) (sCap := 0) rx (by simpa using hpos) (by simpa using hle) (by simp) (by simp [ARR]) (fun w2 _ => firstCells_ok 0 (by simp) (.inl rfl)) hmk
    simpa using this
   ·cases hv
 ·-- a slice whose capacity is its length
  rename_i z' es
  simp only [R,RC] at rx
  obtain ⟨a',e1,h4⟩ := rx
  split at hv
  ·rename_i hzz
   simp only [Bool.or_eq_true,beq_iff_eq,List.isEmpty_iff] at hzz
   split at hv
   ·rename_i hn
    subst hn
    simp only [Option.some.injEq,Prod.mk.injEq] at hv
    obtain ⟨rfl,rfl⟩ := hv
    refine ⟨.slice a' es.length es.length,w,m, ?_,Step.refl _ _ _ _,hi, ?_⟩
    ·have hnn : src.news = [] := List.eq_nil_of_length_eq_zero (by simpa using src.len)
     exact room e1 (by first | exact Nat.le_refl _ | simp) (fun ad _ => by rw [hnn]; rfl) (fun _ => rfl)
    ·simp only [R,RC]
     refine ⟨a',rfl, ?_⟩
     by_cases hes : es = []
     ·exact .inl hes
     ·have := hzz.resolve_right hes; subst this; exact h4
   ·rename_i hn
    split at hv
    ·rename_i hle
     obtain ⟨⟨ver,h1⟩,hmk,hv⟩ := mE.mp hv
     simp only [Prod.mk.injEq] at hv
     obtain ⟨rfl,rfl⟩ := hv
     have hpos : 0 < xs.length := by rcases Nat.eq_zero_or_pos xs.length with h | h; exact absurd (List.eq_nil_of_length_eq_zero h) hn; exact h
     rw [List.length_append] at hle
     by_cases hes : es = []
     ·subst hes
      exact anew (es := []) (olds := []) e1 (by simpa using hpos) (by simpa using hle) (by simp) (by simp [ARR]) (fun w2 _ => firstCells_ok 0 (by simp) (.inl rfl)) hmk
     ·have := hzz.resolve_right hes
      subst this
      obtain ⟨b,off,rfl,hb,_,h0,hE⟩ := h4.resolve_left hes
      obtain ⟨vs,g1,g2,g3,g4⟩ := RCE_flat es b off hE
      exact anew e1 (by omega) hle g1 g4 (fun w2 hw => firstCells_ok _ g1 (.inr ⟨b,off,rfl,fun j v hj => (cell_same hw _).trans (g3 j v hj)⟩)) hmk
    ·cases hv
  ·cases hv
 ·-- a slice of a block at work
  rename_i id ver z' off len fill
  split at hv
  ·rename_i w0 z'' es hid
   split at hv
   ·rename_i hc
    obtain ⟨rfl,rfl,rfl,rfl,rfl,hlo',hle,rfl⟩ := hc
    simp only [Option.some.injEq,Prod.mk.injEq] at hv
    obtain ⟨rfl,rfl⟩ := hv
    have hl0 : asList0 h (.ref id w0 i.size 0 es.length es.length) = some es := by simp [asList0,hid]
    obtain ⟨a',cap,es0,e1,hc,_,hid',_,_,_,hmem⟩ := ref_mem hi rx hl0
    rw [hid] at hid'
    cases hid'
    obtain ⟨_,_,_,_,hnone,_⟩ : ∃ a2 cap2,pv = .slice a2 es.length cap2 ∧ es.length ≤ cap2 ∧ (a2 = none → cap2 = 0) ∧ True := by
     simp only [R] at rx
     obtain ⟨a2,cap2,e2,h2,h3,_⟩ := rx
     exact ⟨a2,cap2,e2,h2,h3,trivial⟩
    obtain ⟨b,hm⟩ := map_get hi.len hid
    obtain ⟨b',c,ty,hm',hb,hz0',hok⟩ := hi.blk id _ _ hid (by simp)
    rw [hm] at hm'
    cases hm'
    rw [List.length_append] at hle
    by_cases hroom : es.length + xs.length ≤ cap
    ·-- in place
     rcases hmem with h0 | ⟨b2,hm2,rfl,hbl,_,hE,hfc,hsz⟩
     ·have hn1 : es = [] := List.eq_nil_of_length_eq_zero (by omega)
      have hn2 : xs = [] := List.eq_nil_of_length_eq_zero (by omega)
      subst hn1 hn2 h0
      have hset : h.set id (w0,.arr i.size ([] ++ [])) = h := by
       refine List.ext_getElem? fun j => ?_
       by_cases hj : j = id
       ·subst hj; rw [List.getElem?_set_self (List.getElem?_eq_some_iff.mp hid).1,hid]; rfl
       ·rw [List.getElem?_set_ne (by omega)]
      rw [hset]
      refine ⟨.slice a' 0 0,w,m, ?_,Step.refl _ _ _ _,hi, ?_⟩
      ·have hnn : src.news = [] := List.eq_nil_of_length_eq_zero (by simpa using src.len)
       exact room e1 (by first | exact Nat.le_refl _ | simp) (fun ad _ => by rw [hnn]; rfl) (fun _ => rfl)
      ·rw [e1] at rx; exact rx
     ·rw [hm] at hm2
      cases hm2
      have hbs : bsize w b = c.size := by simp [bsize,hb]
      rw [hbs,Nat.zero_add] at hsz
      have hcsz : es.length * i.size + src.news.length ≤ c.size := by
       rw [src.len,← Nat.add_mul]
       exact Nat.le_trans (Nat.mul_le_mul_right _ hroom) hsz
      have hst := run_storeCells_at P b (es.length * i.size) ty src.news 0 c w hb (by omega) src.one
      simp only [Nat.add_zero] at hst
      obtain ⟨s1,i1⟩ := put_row (lo := cx.lo) (blk' := .arr i.size (es ++ xs)) (c' := (c.toList.take (es.length * i.size) ++ src.news ++ c.toList.drop (es.length * i.size + src.news.length)).toArray) hi hid (by simp) hm hb hlo'
       (by simp; omega) (.inr ⟨i.size,es,es ++ xs,rfl,rfl,by simp⟩) (fun m' h' hst' => ⟨hz0',by
        refine ARR.keep hst'.keep ?_
        have h1 : ARR w (Live m h) i.size es (c.toList.take (es.length * i.size)) := ARR_take (c := c.toList) hok (by rw [List.take_take,Nat.min_self])
        have h2 : (c.toList.take (es.length * i.size)).length = es.length * i.size := by simp; omega
        exact ARR_append (rest := c.toList.drop (es.length * i.size + src.news.length)) h1 h2 src.arr⟩)
      refine ⟨.slice (some ⟨b,0 * i.size,none⟩) (es.length + xs.length) cap,_,m, ?_,s1,i1, ?_⟩
      ·exact room e1 hroom (fun ad had => by cases had; rw [add_plain]; simpa using hst) (fun h => by cases h)
      ·simp only [R]
       refine ⟨_,cap,by rw [List.length_append],by rw [List.length_append]; omega,by simp,w0,_,List.getElem?_set_self (List.getElem?_eq_some_iff.mp hid).1,Nat.le_refl _,fun _ z' es' hb' => ?_⟩
       cases hb'
       refine ⟨rfl,by simp,fun _ => ⟨b,hm,.inr ⟨by simp,by rw [List.length_append]; omega, ?_⟩⟩⟩
       have : bsize (w.setRow b (c.toList.take (es.length * i.size) ++ src.news ++ c.toList.drop (es.length * i.size + src.news.length)).toArray) b = c.size := by
        unfold bsize
        rw [setRow_heap w b c _ ty (0,0) hb]
        simp; omega
       rw [this,Nat.zero_add]; exact hsz
    ·-- moved
     have hold : ∃ olds : List Value,olds.length = es.length * i.size ∧ ARR w (Live m h) i.size es olds ∧ (∀ w2 : World,w2.heap = w.heap → (Builtin.firstCells i.size es.length (.slice a' es.length cap)).run P w2 = .ok olds.toArray w2) := by
      rcases hmem with h0 | ⟨b2,hm2,rfl,hbl,_,hE,_,_⟩
      ·have hn1 : es = [] := List.eq_nil_of_length_eq_zero (by omega)
       subst hn1
       exact ⟨[],by simp,by simp [ARR],fun w2 _ => firstCells_ok 0 (by simp) (.inl rfl)⟩
      ·obtain ⟨vs,g1,g2,g3,g4⟩ := RCE_flat es b2 _ hE
       exact ⟨vs,g1,g4,fun w2 hw => firstCells_ok _ g1 (.inr ⟨b2,_,rfl,fun j v hj => (cell_same hw _).trans (g3 j v hj)⟩)⟩
     obtain ⟨olds,hol,har,hold⟩ := hold
     obtain ⟨cap',hcap,hrun⟩ := grow e1 hold (by omega) hle
     have hbel := drew_below w (.cells (olds ++ src.news ++ (Builtin.zeroCells zv.cells (cap' - (es.length + xs.length))).toList).toArray e)
     have hxpos : 0 < xs.length := by omega
     have pp : Put w m h id w0 (.arr i.size es) b (w.drew.alloc (.cells (olds ++ src.news ++ (Builtin.zeroCells zv.cells (cap' - (es.length + xs.length))).toList).toArray e)) w0 (.arr i.size (es ++ xs)) w.heap.size :=
      ⟨hi,hid,hm,hbel.os,hbel.tape,hbel.output,hbel.size,fun k hk _ => hbel.block k hk,Nat.le_refl _,.inr (.inr (Nat.le_refl _)),
        fun _ => .inr (.inr (.inr ⟨i.size,es,es ++ xs,rfl,rfl,by simp,fun he => by simp at he; subst he; simp at hxpos⟩))⟩
     have s1 := pp.step (lo := cx.lo) hlo'
     have i1 := pp.inv' (by simp) (fun _ => ⟨_,e,heap_alloc_new w.drew _,hz0,by
      refine ARR.keep s1.keep ?_
      simpa using ARR_append (rest := (Builtin.zeroCells zv.cells (cap' - (es.length + xs.length))).toList) har hol src.arr⟩)
     refine ⟨_,_,_,hrun,s1,i1, ?_⟩
     simp only [R]
     refine ⟨_,cap',by rw [List.length_append],by rw [List.length_append]; omega,by simp,w0,_,pp.hset,Nat.le_refl _,fun _ z' es' hb' => ?_⟩
     cases hb'
     refine ⟨rfl,by simp,fun _ => ⟨_,pp.mset,.inr ⟨by simp,by rw [List.length_append]; omega, ?_⟩⟩⟩
     have hsz : bsize (w.drew.alloc (.cells (olds ++ src.news ++ (Builtin.zeroCells zv.cells (cap' - (es.length + xs.length))).toList).toArray e)) w.heap.size = (olds ++ src.news ++ (Builtin.zeroCells zv.cells (cap' - (es.length + xs.length))).toList).length := by
      have := bsize_alloc w.drew (olds ++ src.news ++ (Builtin.zeroCells zv.cells (cap' - (es.length + xs.length))).toList).toArray e (0,0)
      simpa using this
     rw [hsz]
     simp only [List.length_append,hol,src.len,Array.length_toList,size_zeroCells,hzs,← Nat.add_mul,Nat.zero_add]
     exact Nat.mul_le_mul_right _ (by omega)
   ·cases hv
  ·cases hv
 ·cases hv
theorem app_ok {cx : Cx} (hi : Inv w m h) (he : Renv w m h env a) {s z lim : Nat} {x y : Opd} {xs : List AV} {v : AV} {h' : Heap} (hk : okXI P o (.app s z lim x y) = true)
  (hy : appSrc h z (y.ev env) = some xs) (hv : appv cx s z lim (x.ev env) xs h = some (v,h')) (hlo : cx.lo ≤ cx.base) :
  ∃ u w' m',(execOp a.eval o).run P w = .ok (.value u) w' ∧ Step cx.lo w m h w' m' h' ∧ Inv w' m' h' ∧ R w' (Live m' h') m' h' v u := by
 simp only [okXI] at hk
 split at hk
 ·rename_i p q t t2 hop
  simp only [Bool.and_eq_true] at hk
  obtain ⟨⟨⟨⟨k1,k2⟩,k3⟩,k4⟩,k5⟩ := hk
  obtain ⟨e,i,hu,hinf,rfl,hz0,hby,hlim,hse⟩ := okElem_info k1
  rw [hse] at k2
  simp only [hinf,Option.any_some] at k2
  obtain ⟨zv,hzero,hzs⟩ : ∃ zv,i.zero = some zv ∧ zv.cells.size = i.size := by
   cases hz : i.zero with
   | none => simp [hz] at k2
   | some zv => simp [hz] at k2; exact ⟨zv,rfl,k2⟩
  obtain ⟨d,hd1,hd2⟩ : ∃ d,P.underlying t2 = some d ∧ ((∃ e2,d = .slice e2) ∨ d = .string) := by
   simp only [Bool.or_eq_true] at k3
   rcases k3 with k3 | k3
   ·obtain ⟨e2,he2⟩ := Option.isSome_iff_exists.mp k3
    exact ⟨_,sliceElem_run he2,.inl ⟨_,rfl⟩⟩
   ·exact ⟨_,isStrT_run k3,.inr rfl⟩
  have rx := okOpd_R he k4
  obtain ⟨src⟩ := appSrc_ok (P := P) hi (okOpd_R he k5) hy
  have hexec : ∀ {u' : Value} {w' : World},(Builtin.append_ #[t,t2] o.type #[a.eval p,a.eval q]).run P w = .ok u' w' → (execOp a.eval o).run P w = .ok (.value u') w' := by
   intro u' w' hr
   simp [execOp,hop,resolve,invoke,builtin,hr]
  exact app_core hi hz0 hzs rx ⟨src.news,src.len,src.one,src.arr⟩
   (fun hp hold hg hle => by
    obtain ⟨cap,hcap,hrun⟩ := app_grow (P := P) (ty := o.type) hu hd1 hd2 hinf hzero hold src hg hby hlim hle
    rw [← hp] at hrun
    exact ⟨cap,hcap,hexec hrun⟩)
   (fun hp hg hst hno => hexec (by rw [hp]; exact app_room (P := P) (ty := o.type) hu hd1 hd2 hinf src hg hst hno)) hv hlo
 ·cases hk
theorem ARR_pre {z n : Nat} {es : List AV} {c : List Value} (h1 : ARR w X z es c) (hn : n ≤ es.length) : ARR w X z (es.take n) (c.take (n * z)) := by
 have hz : n * z ≤ es.length * z := Nat.mul_le_mul_right _ hn
 refine ⟨by have := h1.1; simp only [List.length_take,Nat.min_eq_left hn]; omega,fun i e he => ?_⟩
 rw [List.getElem?_take] at he
 split at he
 ·rename_i hi
  obtain ⟨v,k1,k2,k3,k4⟩ := h1.2 i e he
  refine ⟨v,k1,k2,k3,fun j u hj => ?_⟩
  have hjz : j < z := by rw [← k2]; simpa using (List.getElem?_eq_some_iff.mp hj).1
  have : (i + 1) * z ≤ n * z := Nat.mul_le_mul_right _ hi
  rw [Nat.add_mul] at this
  rw [List.getElem?_take,if_pos (by omega)]
  exact k4 j u hj
 ·cases he
theorem ARR_suf {z n : Nat} {es : List AV} {c : List Value} (h1 : ARR w X z es c) : ARR w X z (es.drop n) (c.drop (n * z)) := by
 refine ⟨by have := h1.1; simp only [List.length_drop,Nat.sub_mul]; omega,fun i e he => ?_⟩
 rw [List.getElem?_drop] at he
 obtain ⟨v,k1,k2,k3,k4⟩ := h1.2 _ e he
 refine ⟨v,k1,k2,k3,fun j u hj => ?_⟩
 rw [List.getElem?_drop,← k4 j u hj,Nat.add_mul,Nat.add_assoc]
theorem copy_ok {cx : Cx} (hi : Inv w m h) (he : Renv w m h env a) {z : Nat} {x y : Opd} {ys : List AV} {v : AV} {h' : Heap} (hk : okXI P o (.copy z x y) = true)
  (hy : asList h z (y.ev env) = some ys) (hv : copyv cx z (x.ev env) ys h = some (v,h')) :
  ∃ u w' m',(execOp a.eval o).run P w = .ok (.value u) w' ∧ Step cx.lo w m h w' m' h' ∧ Inv w' m' h' ∧ R w' (Live m' h') m' h' v u := by
 simp only [okXI] at hk
 split at hk
 ·rename_i p q t t2 hop
  simp only [Bool.and_eq_true] at hk
  obtain ⟨⟨k1,k4⟩,k5⟩ := hk
  obtain ⟨e,he1,k1⟩ : ∃ e,sliceElem P t = some e ∧ (P.info? e).any (fun i => i.size == z && decide (0 < z)) = true := by
   cases hs : sliceElem P t with
   | none => simp [hs] at k1
   | some e => simp only [hs] at k1; exact ⟨e,rfl,k1⟩
  have hu := sliceElem_run he1
  obtain ⟨i,hinf,hsz,hz0⟩ : ∃ i,P.info? e = some i ∧ i.size = z ∧ 0 < z := by
   cases hq : P.info? e with
   | none => simp [hq] at k1
   | some i => simp [hq] at k1; exact ⟨i,rfl,k1.1,k1.2⟩
  have rx := okOpd_R he k4
  have ry := okOpd_R he k5
  obtain ⟨hzy,hly⟩ : zok z (y.ev env) = true ∧ asList0 h (y.ev env) = some ys := by
   unfold asList at hy
   split at hy
   ·exact ⟨by assumption,hy⟩
   ·cases hy
  obtain ⟨ya,ycap,hys,_,hymem⟩ := slice_mem hi ry hly hzy
  generalize x.ev env = xv at rx hv
  unfold copyv at hv
  split at hv
  ·rename_i hzx
   split at hv
   ·cases hv
   ·rename_i len hlen
    obtain ⟨xa,xcap,hxs⟩ : ∃ xa xcap,a.eval p = .slice xa len xcap := by
     cases xv <;> simp only [slen,reduceCtorEq,Option.some.injEq] at hlen <;> try subst hlen
     ·simp only [R,RC] at rx; exact ⟨none,0,rx⟩
     ·simp only [R,RC] at rx; obtain ⟨a',cap,e1,_⟩ := rx; exact ⟨a',cap,e1⟩
     ·simp only [R,RC] at rx; obtain ⟨a',e1,_⟩ := rx; exact ⟨a',_,e1⟩
     ·simp only [R] at rx; obtain ⟨a',cap,e1,_⟩ := rx; exact ⟨a',cap,e1⟩
    have hexec : ∀ {u' : Value} {w' : World},(Builtin.copy_ #[t,t2] o.type #[a.eval p,a.eval q]).run P w = .ok u' w' → (execOp a.eval o).run P w = .ok (.value u') w' := by
     intro u' w' hr
     simp [execOp,hop,resolve,invoke,builtin,hr]
    split at hv
    ·rename_i h0
     simp only [Option.some.injEq,Prod.mk.injEq] at hv
     obtain ⟨rfl,rfl⟩ := hv
     refine ⟨.int .i64 0,w,m,hexec ?_,Step.refl _ _ _ _,hi,by simp [R,RC]⟩
     have hf := firstCells_ok (P := P) (w := w) (z := z) (a' := ya) (len := ys.length) (cap := ycap) (vs := []) 0 (by simp) (.inl rfl)
     rw [hxs,hys]
     have hmin : Nat.min ys.length len = 0 := h0
     have hlo : ∀ w2,(Builtin.lenOf (.slice ya ys.length ycap)).run P w2 = .ok ys.length w2 := fun w2 => by simp [Builtin.lenOf]
     cases xa with
     | none => simp [Builtin.copy_,run_underlying hu,hlo,hmin,sizeOf,typeInfo,hinf,hsz,hf,goInt]
     | some ad => simp [Builtin.copy_,run_underlying hu,hlo,hmin,sizeOf,typeInfo,hinf,hsz,hf,storeCells,goInt]
    ·rename_i hne
     split at hv
     ·rename_i id ver z' off len' fill
      simp only [slen,Option.some.injEq] at hlen
      subst hlen
      simp only [zok,beq_iff_eq] at hzx
      subst hzx
      split at hv
      ·rename_i w0 z'' es hid
       split at hv
       ·rename_i hc
        obtain ⟨rfl,hzz,rfl,hfit,hlo'⟩ := hc
        have hzz' := hzz.symm
        subst hzz'
        simp only [Option.some.injEq,Prod.mk.injEq] at hv
        obtain ⟨rfl,rfl⟩ := hv
        have hl0 : asList0 h (.ref id w0 z off len' es.length) = some ((es.drop off).take len') := by simp [asList0,hid,hfit]
        obtain ⟨a',cap,es0,e1,hcap,_,hid',_,_,_,hmem⟩ := ref_mem hi rx hl0
        rw [hid] at hid'
        cases hid'
        rw [hxs] at e1
        cases e1
        obtain ⟨b,hm⟩ := map_get hi.len hid
        obtain ⟨b',c,ty,hm',hb,hz0',hok⟩ := hi.blk id _ _ hid (by simp)
        rw [hm] at hm'
        cases hm'
        obtain ⟨n,hn⟩ : ∃ n,n = min ys.length len' := ⟨_,rfl⟩
        rw [← hn] at hne ⊢
        rcases hmem with h0 | ⟨b2,hm2,rfl,hbl,_,hE,hfc,hbsz⟩
        ·omega
        ·rw [hm] at hm2
         cases hm2
         have hyne : ys ≠ [] := by rintro rfl; simp at hn; omega
         obtain ⟨yb,yo,rfl,hyb,_,hyE⟩ := hymem.resolve_left hyne
         obtain ⟨vs,g1,g2,g3,g4⟩ := RCE_flat ys yb yo hyE
         have hnz : n * z ≤ ys.length * z := Nat.mul_le_mul_right _ (by omega)
         have hvl : (vs.take (n * z)).length = n * z := by simp; omega
         have hf := firstCells_ok (P := P) (w := w) (z := z) (a' := some ⟨yb,yo,none⟩) (len := ys.length) (cap := ycap) (vs := vs.take (n * z)) n hvl (.inr ⟨yb,yo,rfl,fun j u hj => by
          rw [List.getElem?_take] at hj
          split at hj
          ·exact g3 j u hj
          ·cases hj⟩)
         have hcz : (off + n) * z ≤ c.size := by
          have h1 := hok.1
          have h2 : (off + n) * z ≤ es.length * z := Nat.mul_le_mul_right _ (by omega)
          simpa using Nat.le_trans h2 h1
         have hst := run_storeCells_at P b (off * z) ty (vs.take (n * z)) 0 c w hb (by rw [hvl,Nat.add_zero,← Nat.add_mul]; exact hcz) (fun u hu => g2 u (List.mem_of_mem_take hu))
         simp only [Nat.add_zero] at hst
         have hlen2 : (es.take off ++ ys.take n ++ es.drop (off + n)).length = es.length := by simp; omega
         obtain ⟨s1,i1⟩ := put_row (lo := cx.lo) (blk' := .arr z (es.take off ++ ys.take n ++ es.drop (off + n))) (c' := (c.toList.take (off * z) ++ vs.take (n * z) ++ c.toList.drop (off * z + (vs.take (n * z)).length)).toArray) hi hid (by simp) hm hb hlo'
          (by rw [Nat.add_mul] at hcz; simp; omega) (.inr ⟨z,es,_,rfl,rfl,by omega⟩) (fun m' h' hst' => ⟨hz0',by
           refine ARR.keep hst'.keep ?_
           have q1 : ARR w (Live m h) z (es.take off) (c.toList.take (off * z)) := ARR_pre hok (by omega)
           have q2 : ARR w (Live m h) z (ys.take n) (vs.take (n * z)) := ARR_pre g4 (by omega)
           have q3 : ARR w (Live m h) z (es.drop (off + n)) (c.toList.drop ((off + n) * z)) := ARR_suf hok
           have l1 : (c.toList.take (off * z)).length = (es.take off).length * z := by
            rw [Nat.add_mul] at hcz
            rw [List.length_take,List.length_take,Nat.min_eq_left (by simp; omega),Nat.min_eq_left (by omega)]
           have q4 := ARR_append (rest := []) q1 l1 q2
           rw [List.append_nil] at q4
           have l2 : (c.toList.take (off * z) ++ vs.take (n * z)).length = (es.take off ++ ys.take n).length * z := by
            rw [List.length_append,List.length_append,l1,hvl,Nat.add_mul,List.length_take (l := ys),Nat.min_eq_left (a := n) (by omega)]
           have q5 := ARR_append (rest := []) q4 l2 q3
           rw [List.append_nil] at q5
           rw [hvl,← Nat.add_mul]
           exact q5⟩)
         refine ⟨.int .i64 n,_,m,hexec ?_,s1,i1,by simp [R,RC]⟩
         rw [hxs,hys]
         have hmin : Nat.min ys.length len' = n := hn.symm
         have hlo : ∀ w2,(Builtin.lenOf (.slice (some ⟨yb,yo,none⟩) ys.length ycap)).run P w2 = .ok ys.length w2 := fun w2 => by simp [Builtin.lenOf]
         simp [Builtin.copy_,run_underlying hu,hlo,hmin,sizeOf,typeInfo,hinf,hsz,hf,hst,goInt]
       ·cases hv
      ·cases hv
     ·cases hv
  ·cases hv
 ·cases hk
theorem ones_zero {zs : Array Value} (h : ones zs.toList) (h0 : 0 < zs.size) (n : Nat) : ones (Builtin.zeroCells zs n).toList := by
 intro u hu
 simp only [Builtin.zeroCells,Array.toList_map,Array.toList_range,List.mem_map,List.mem_range] at hu
 obtain ⟨k,_,rfl⟩ := hu
 have hk : k % zs.size < zs.size := Nat.mod_lt _ h0
 rw [getElem!_pos zs (k % zs.size) hk]
 exact h _ (by simp)
theorem apz_grow {t u ty e : TypeId} {i : TypeInfo} {zv : Value} {kk kn : IntKind} {n : Int} (ht : P.underlying t = some (.slice e)) (hu : P.underlying u = some (.int kk)) (hi : P.info? e = some i) (hz : i.zero = some zv) (hs0 : 0 < i.size)
  {base : Option Addr} {sLen sCap : Nat} {olds : List Value} (hold : ∀ w2 : World,w2.heap = w.heap → (Builtin.firstCells i.size sLen (.slice base sLen sCap)).run P w2 = .ok olds.toArray w2)
  (h0 : 0 ≤ n) (hg : sCap < sLen + n.toNat) {lim : Nat} (hl1 : lim * i.bytes ≤ 140737488355328) (hl2 : lim ≤ 140737488355328) (hle : sLen + n.toNat ≤ lim) :
  ∃ cap,sLen + n.toNat ≤ cap ∧ (Builtin.append_ #[t,u] ty #[.slice base sLen sCap,.int kn n]).run P w =
   .ok (.slice (some ⟨w.heap.size,0,none⟩) (sLen + n.toNat) cap) (w.drew.alloc (.cells (olds ++ (Builtin.zeroCells zv.cells n.toNat).toList ++ (Builtin.zeroCells zv.cells (cap - (sLen + n.toNat))).toList).toArray e)) := by
 refine ⟨grownCap w (sLen + n.toNat) sCap e,grownCap_ge _ _ _ _, ?_⟩
 have hn : ¬ (sLen + n.toNat ≤ sCap) := by omega
 have hneed : (sLen + n.toNat) * i.bytes ≤ 140737488355328 := Nat.le_trans (Nat.mul_le_mul_right _ hle) hl1
 have h48 := growslice_fits hg hneed
 have h63' : ¬ (9223372036854775807 < ((sLen : Int) + (n.toNat : Int))) := by omega
 have h48' : ¬ (281474976710656 < Builtin.nextslicecap (sLen + n.toNat) sCap * i.bytes) := by omega
 have hw : IntKind.i64.wrap n = n := by
  unfold IntKind.wrap
  show (if true && decide (n % 18446744073709551616 ≥ 9223372036854775808) then n % 18446744073709551616 - 18446744073709551616 else n % 18446744073709551616) = n
  rw [Int.emod_eq_of_lt h0 (by omega),decide_eq_false (by omega)]
  rfl
 have hb : ¬ (281474976710656 < n * (i.bytes : Int)) := by
  have : n.toNat * i.bytes ≤ 140737488355328 := Nat.le_trans (Nat.mul_le_mul_right _ (by omega)) hl1
  have e : n * (i.bytes : Int) = ((n.toNat * i.bytes : Nat) : Int) := by rw [Int.natCast_mul]; congr 1; omega
  omega
 have hneg : ¬ n < 0 := by omega
 have hmx : ¬ (9223372036854775807 < (sLen : Int) + max n 0) := by omega
 have hfo := hold w.drew rfl
 by_cases hn0 : n.toNat * i.size = 0
 ·have hz1 : n.toNat = 0 := by rcases Nat.mul_eq_zero.mp hn0 with h | h; exact h; omega
  simp [Builtin.append_,run_underlying ht,run_underlying hu,sizeOf,typeInfo,zeroValue,hi,hz,hn,h63',h48',Question.forced,hfo,newRow,grownCap,asInt,asIntOf,hw,hb,hneg,hn0,hmx]
  congr 2
  apply Array.ext'
  simp [Builtin.zeroCells,hz1]
 ·simp [Builtin.append_,run_underlying ht,run_underlying hu,sizeOf,typeInfo,zeroValue,hi,hz,hn,h63',h48',Question.forced,hfo,newRow,grownCap,asInt,asIntOf,hw,hb,hneg,hn0,hmx]
  congr 2
  apply Array.ext'
  simp
theorem apz_room {t u ty e : TypeId} {i : TypeInfo} {zv : Value} {kk kn : IntKind} {n : Int} (ht : P.underlying t = some (.slice e)) (hu : P.underlying u = some (.int kk)) (hi : P.info? e = some i) (hz : i.zero = some zv) (hs0 : 0 < i.size)
  {base : Option Addr} {sLen sCap : Nat} (h0 : 0 ≤ n) {lim : Nat} (hl1 : lim * i.bytes ≤ 140737488355328) (hl2 : lim ≤ 140737488355328) (hle : n.toNat ≤ lim) (hg : sLen + n.toNat ≤ sCap) {w' : World}
  (hst : ∀ ad,base = some ad → (storeCells (ad.add (sLen * i.size)) (Builtin.zeroCells zv.cells n.toNat).toList).run P w = .ok () w') (hno : base = none → w' = w) :
  (Builtin.append_ #[t,u] ty #[.slice base sLen sCap,.int kn n]).run P w = .ok (.slice base (sLen + n.toNat) sCap) w' := by
 have hw : IntKind.i64.wrap n = n := by
  unfold IntKind.wrap
  show (if true && decide (n % 18446744073709551616 ≥ 9223372036854775808) then n % 18446744073709551616 - 18446744073709551616 else n % 18446744073709551616) = n
  rw [Int.emod_eq_of_lt h0 (by omega),decide_eq_false (by omega)]
  rfl
 have hb : ¬ (281474976710656 < n * (i.bytes : Int)) := by
  have : n.toNat * i.bytes ≤ 140737488355328 := Nat.le_trans (Nat.mul_le_mul_right _ (by omega)) hl1
  have e : n * (i.bytes : Int) = ((n.toNat * i.bytes : Nat) : Int) := by rw [Int.natCast_mul]; congr 1; omega
  omega
 have hneg : ¬ n < 0 := by omega
 have hz0 : n.toNat * i.size = 0 → Builtin.zeroCells zv.cells n.toNat = #[] := fun hn0 => by
  have hz1 : n.toNat = 0 := by rcases Nat.mul_eq_zero.mp hn0 with h | h; exact h; omega
  rw [hz1]; simp [Builtin.zeroCells]
 cases base with
 | none =>
  have := hno rfl
  subst this
  by_cases hn0 : n.toNat * i.size = 0
  ·simp [Builtin.append_,run_underlying ht,run_underlying hu,sizeOf,typeInfo,zeroValue,hi,hz,hg,asInt,asIntOf,hw,hb,hneg,hn0]
  ·simp [Builtin.append_,run_underlying ht,run_underlying hu,sizeOf,typeInfo,zeroValue,hi,hz,hg,asInt,asIntOf,hw,hb,hneg,hn0]
 | some ad =>
  have h1 := hst ad rfl
  by_cases hn0 : n.toNat * i.size = 0
  ·rw [hz0 hn0] at h1
   have h2 : (storeCells (ad.add (sLen * i.size)) []).run P w = .ok () w' := h1
   simp [Builtin.append_,run_underlying ht,run_underlying hu,sizeOf,typeInfo,zeroValue,hi,hz,hg,asInt,asIntOf,hw,hb,hneg,hn0,h2]
  ·simp [Builtin.append_,run_underlying ht,run_underlying hu,sizeOf,typeInfo,zeroValue,hi,hz,hg,asInt,asIntOf,hw,hb,hneg,hn0,h1]
theorem apz_ok {cx : Cx} (hi : Inv w m h) (he : Renv w m h env a) {s z lim : Nat} {zero : AV} {x y : Opd} {kn : IntKind} {n : Int} {v : AV} {h' : Heap} (hk : okXI P o (.apz s z zero lim x y) = true)
  (hy : y.ev env = .int kn n) (h0 : 0 ≤ n) (hnl : n ≤ lim) (hv : appv cx s z lim (x.ev env) (List.replicate n.toNat zero) h = some (v,h')) (hlo : cx.lo ≤ cx.base) :
  ∃ u w' m',(execOp a.eval o).run P w = .ok (.value u) w' ∧ Step cx.lo w m h w' m' h' ∧ Inv w' m' h' ∧ R w' (Live m' h') m' h' v u := by
 simp only [okXI] at hk
 split at hk
 ·rename_i p q t t2 hop
  simp only [Bool.and_eq_true,decide_eq_true_eq] at hk
  obtain ⟨⟨⟨⟨⟨k1,k2⟩,k3⟩,k4⟩,k5⟩,k6⟩ := hk
  obtain ⟨e,i,hu,hinf,rfl,hz0,hby,hlim,hse⟩ := okElem_info k1
  obtain ⟨zv,hzv,hcv⟩ := elemZero_info k2 hse
  obtain ⟨i',hi'',hzero⟩ := bE.mp hzv
  rw [hinf] at hi''
  cases hi''
  obtain ⟨kk,hd⟩ : ∃ kk,P.underlying t2 = some (.int kk) := by
   split at k4
   ·exact ⟨_,by assumption⟩
   ·cases k4
  have rx := okOpd_R he k5
  have ry := okOpd_R he k6
  rw [hy,R_int] at ry
  obtain ⟨c1,c2,c3⟩ := okConst_cells (w := w) (X := Live m h) hcv
  have hzs : zv.cells.size = i.size := by rw [c1,k3]
  have hlen : (List.replicate n.toNat zero).length = n.toNat := List.length_replicate ..
  have harr : ARR w (Live m h) i.size (List.replicate n.toNat zero) (Builtin.zeroCells zv.cells n.toNat).toList := by
   have := ARR_made (w := w) (X := Live m h) hz0 hzs c2 c3 (Nat.le_refl n.toNat)
   rw [← hzs] at this ⊢
   exact this
  have hexec : ∀ {u' : Value} {w' : World},(Builtin.append_ #[t,t2] o.type #[a.eval p,.int kn n]).run P w = .ok u' w' → (execOp a.eval o).run P w = .ok (.value u') w' := by
   intro u' w' hr
   simp [execOp,hop,resolve,invoke,builtin,ry,hr]
  refine app_core (e := e) hi hz0 hzs rx ⟨(Builtin.zeroCells zv.cells n.toNat).toList,by simp [size_zeroCells,hzs],ones_zero c2 (by omega) _,harr⟩
   (fun {base sLen sCap olds} hp hold hg hle => ?_) (fun {base sLen sCap w'} hp hg hst hno => ?_) hv hlo
  ·rw [hlen] at hg hle
   obtain ⟨cap,hcap,hrun⟩ := apz_grow (P := P) (ty := o.type) (kn := kn) hu hd hinf hzero hz0 hold h0 hg hby hlim hle
   rw [← hp] at hrun
   dsimp only
   rw [hlen]
   exact ⟨cap,hcap,hexec hrun⟩
  ·dsimp only at hst
   rw [hlen] at hg ⊢
   exact hexec (by rw [hp]; exact apz_room (P := P) (ty := o.type) (kn := kn) hu hd hinf hzero hz0 h0 hby hlim (by omega) hg hst hno)
 ·cases hk
theorem clr_ok {cx : Cx} (hi : Inv w m h) (he : Renv w m h env a) {z n : Nat} {zero : AV} {x : Opd} {v : AV} {h' : Heap} (hk : okXI P o (.clr z zero x) = true)
  (hn : slen (x.ev env) = some n) (hv : copyv cx z (x.ev env) (List.replicate n zero) h = some (v,h')) :
  ∃ w',(execOp a.eval o).run P w = .ok (.value (.tuple #[])) w' ∧ Step cx.lo w m h w' m h' ∧ Inv w' m h' := by
 simp only [okXI] at hk
 split at hk
 ·rename_i p t hop
  simp only [Bool.and_eq_true,decide_eq_true_eq] at hk
  obtain ⟨⟨⟨k1,k2⟩,k3⟩,k4⟩ := hk
  obtain ⟨e,he1,k1⟩ : ∃ e,sliceElem P t = some e ∧ (P.info? e).any (fun i => i.size == z && decide (0 < z)) = true := by
   cases hs : sliceElem P t with
   | none => simp [hs] at k1
   | some e => simp only [hs] at k1; exact ⟨e,rfl,k1⟩
  have hu := sliceElem_run he1
  obtain ⟨i,hinf,hsz,hz0⟩ : ∃ i,P.info? e = some i ∧ i.size = z ∧ 0 < z := by
   cases hq : P.info? e with
   | none => simp [hq] at k1
   | some i => simp [hq] at k1; exact ⟨i,rfl,k1.1,k1.2⟩
  obtain ⟨zv,hzv,hcv⟩ := elemZero_info k2 he1
  obtain ⟨i',hi'',hzero⟩ := bE.mp hzv
  rw [hinf] at hi''
  cases hi''
  obtain ⟨c1,c2,c3⟩ := okConst_cells (w := w) (X := Live m h) hcv
  have rx := okOpd_R he k4
  have hexec : ∀ {w' : World},(Builtin.clear_ #[t] o.type #[a.eval p]).run P w = .ok (.tuple #[]) w' → (execOp a.eval o).run P w = .ok (.value (.tuple #[])) w' := by
   intro w' hr
   simp [execOp,hop,resolve,invoke,builtin,hr]
  generalize x.ev env = xv at rx hv hn
  obtain ⟨xa,xcap,hxs⟩ : ∃ xa xcap,a.eval p = .slice xa n xcap := by
   cases xv <;> simp only [slen,reduceCtorEq,Option.some.injEq] at hn <;> try subst hn
   ·simp only [R,RC] at rx; exact ⟨none,0,rx⟩
   ·simp only [R,RC] at rx; obtain ⟨a',cap,e1,_⟩ := rx; exact ⟨a',cap,e1⟩
   ·simp only [R,RC] at rx; obtain ⟨a',e1,_⟩ := rx; exact ⟨a',_,e1⟩
   ·simp only [R] at rx; obtain ⟨a',cap,e1,_⟩ := rx; exact ⟨a',cap,e1⟩
  unfold copyv at hv
  split at hv
  ·rename_i hzx
   split at hv
   ·cases hv
   ·rename_i len hlen
    rw [hn] at hlen
    simp only [Option.some.injEq] at hlen
    subst hlen
    simp only [List.length_replicate,Nat.min_self] at hv
    split at hv
    ·rename_i h0
     simp only [Option.some.injEq,Prod.mk.injEq] at hv
     obtain ⟨rfl,rfl⟩ := hv
     refine ⟨w,hexec ?_,Step.refl _ _ _ _,hi⟩
     rw [hxs,h0]
     cases xa <;> simp [Builtin.clear_,run_underlying hu]
    ·rename_i hne
     split at hv
     ·rename_i id ver z' off len' fill
      simp only [slen,Option.some.injEq] at hn
      subst hn
      simp only [zok,beq_iff_eq] at hzx
      subst hzx
      split at hv
      ·rename_i w0 z'' es hid
       split at hv
       ·rename_i hc
        obtain ⟨rfl,hzz,rfl,hfit,hlo'⟩ := hc
        have hzz' := hzz.symm
        subst hzz'
        simp only [Option.some.injEq,Prod.mk.injEq] at hv
        obtain ⟨rfl,rfl⟩ := hv
        have hl0 : asList0 h (.ref id w0 z off len' es.length) = some ((es.drop off).take len') := by simp [asList0,hid,hfit]
        obtain ⟨a',cap,es0,e1,hcap,_,hid',_,_,_,hmem⟩ := ref_mem hi rx hl0
        rw [hid] at hid'
        cases hid'
        rw [hxs] at e1
        cases e1
        obtain ⟨b,hm⟩ := map_get hi.len hid
        obtain ⟨b',c,ty,hm',hb,hz0',hok⟩ := hi.blk id _ _ hid (by simp)
        rw [hm] at hm'
        cases hm'
        rcases hmem with h0 | ⟨b2,hm2,rfl,hbl,_,hE,hfc,hbsz⟩
        ·omega
        ·rw [hm] at hm2
         cases hm2
         have hmade : Builtin.zeroCells zv.cells len' = madeCells zv.cells (len' * z) := by rw [← k3,← c1]; rfl
         have hvl : (madeCells zv.cells (len' * z)).toList.length = len' * z := by simp [size_madeCells]
         have hone : ones (madeCells zv.cells (len' * z)).toList := by
          intro u hu2
          obtain ⟨j,hj⟩ := List.getElem?_of_mem hu2
          have hjl : j < len' * z := by rw [← hvl]; exact (List.getElem?_eq_some_iff.mp hj).1
          rw [madeCells_get _ _ _ hjl] at hj
          cases hj
          have hq : zv.cells.size = z := by rw [c1,k3]
          have hlt : j % zv.cells.size < zv.cells.size := Nat.mod_lt _ (by omega)
          refine c2 _ ?_
          rw [getElem!_pos zv.cells _ hlt]
          exact Array.mem_toList_iff.mpr (Array.getElem_mem hlt)
         have hcz : (off + len') * z ≤ c.size := by
          have h1 := hok.1
          have h2 : (off + len') * z ≤ es.length * z := Nat.mul_le_mul_right _ (by omega)
          simpa using Nat.le_trans h2 h1
         have hst := run_storeCells_at P b (off * z) ty (madeCells zv.cells (len' * z)).toList 0 c w hb (by rw [hvl,Nat.add_zero,← Nat.add_mul]; exact hcz) hone
         simp only [Nat.add_zero] at hst
         have hlen2 : (es.take off ++ List.replicate len' zero ++ es.drop (off + len')).length = es.length := by simp; omega
         have htk : (List.replicate len' zero).take len' = List.replicate len' zero := List.take_of_length_le (by simp)
         obtain ⟨s1,i1⟩ := put_row (lo := cx.lo) (blk' := .arr z (es.take off ++ List.replicate len' zero ++ es.drop (off + len'))) (c' := (c.toList.take (off * z) ++ (madeCells zv.cells (len' * z)).toList ++ c.toList.drop (off * z + (madeCells zv.cells (len' * z)).toList.length)).toArray) hi hid (by simp) hm hb hlo'
          (by rw [Nat.add_mul] at hcz; simp [size_madeCells]; omega) (.inr ⟨z,es,_,rfl,rfl,by omega⟩) (fun m' h' hst' => ⟨hz0',by
           refine ARR.keep hst'.keep ?_
           have q1 : ARR w (Live m h) z (es.take off) (c.toList.take (off * z)) := ARR_pre hok (by omega)
           have q2 : ARR w (Live m h) z (List.replicate len' zero) (madeCells zv.cells (len' * z)).toList := ARR_made hz0 (by rw [c1,k3]) c2 c3 (Nat.le_refl _)
           have q3 : ARR w (Live m h) z (es.drop (off + len')) (c.toList.drop ((off + len') * z)) := ARR_suf hok
           have l1 : (c.toList.take (off * z)).length = (es.take off).length * z := by
            rw [Nat.add_mul] at hcz
            rw [List.length_take,List.length_take,Nat.min_eq_left (by simp; omega),Nat.min_eq_left (by omega)]
           have q4 := ARR_append (rest := []) q1 l1 q2
           rw [List.append_nil] at q4
           have l2 : (c.toList.take (off * z) ++ (madeCells zv.cells (len' * z)).toList).length = (es.take off ++ List.replicate len' zero).length * z := by
            rw [List.length_append,List.length_append,l1,hvl,Nat.add_mul,List.length_replicate]
           have q5 := ARR_append (rest := []) q4 l2 q3
           rw [List.append_nil] at q5
           rw [hvl,← Nat.add_mul]
           exact q5⟩)
         rw [Nat.min_self,htk]
         refine ⟨_,hexec ?_,s1,i1⟩
         rw [hxs]
         have hzr : ∀ w2,(zeroValue e).run P w2 = .ok zv w2 := fun w2 => by simp [zeroValue,typeInfo,hinf,hzero]
         obtain ⟨k,rfl⟩ : ∃ k,len' = k + 1 := ⟨len' - 1,by omega⟩
         simp [Builtin.clear_,run_underlying hu,hzr,hmade,hst]
       ·cases hv
      ·cases hv
     ·cases hv
  ·cases hv
 ·cases hk
end
end Go.VI
