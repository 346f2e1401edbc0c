/- Walking the evaluator by rewriting: slices that are made. -/
import Derived.Test.YtfpoegnmeoghpaaGreatDoorVIX
set_option linter.unusedVariables false
set_option linter.unusedSimpArgs false
namespace Go.VI
@[go_sem] theorem frz_int (b : Nat) (k : Bool) (kd : IntKind) (n : Int) (h : Heap) : frz b k (.int kd n) h = some (.int kd n,h) := by simp [frz]
@[go_sem] theorem frz_bool (b : Nat) (k : Bool) (n : Bool) (h : Heap) : frz b k (.bool n) h = some (.bool n,h) := by simp [frz]
@[go_sem] theorem frz_str (b : Nat) (k : Bool) (l : List UInt8) (h : Heap) : frz b k (.str l) h = some (.str l,h) := by simp [frz]
@[go_sem] theorem frz_lst (b : Nat) (k : Bool) (z : Nat) (l : List AV) (h : Heap) : frz b k (.lst z l) h = some (.lst z l,h) := by simp [frz]
@[go_sem] theorem frz_lsf (b : Nat) (k : Bool) (z : Nat) (l : List AV) (h : Heap) : frz b k (.lsf z l) h = some (.lsf z l,h) := by simp [frz]
@[go_sem] theorem frz_nil (b : Nat) (k : Bool) (h : Heap) : frz b k .nilSl h = some (.lst 0 [],h) := by simp [frz]
def fzA : Option (List AV × Heap) → Option (AV × Heap)
 | some (cs,h) => some (.agg cs,h)
 | none => none
@[go_sem] theorem fzA_some (cs : List AV) (h : Heap) : fzA (some (cs,h)) = some (.agg cs,h) := rfl
@[go_sem] theorem frz_agg (b : Nat) (k : Bool) (cs : List AV) (h : Heap) : frz b k (.agg cs) h = fzA (frzL b k cs h) := by
 simp only [frz]; cases frzL b k cs h <;> rfl
def fzL (b : Nat) (k : Bool) (cs : List AV) : Option (AV × Heap) → Option (List AV × Heap)
 | some (c,h) => (frzL b k cs h).map fun (cs,h) => (c :: cs,h)
 | none => none
@[go_sem] theorem fzL_some (b : Nat) (k : Bool) (cs : List AV) (c : AV) (h : Heap) : fzL b k cs (some (c,h)) = (frzL b k cs h).map fun (cs,h) => (c :: cs,h) := rfl
@[go_sem] theorem frzL_nil (b : Nat) (k : Bool) (h : Heap) : frzL b k [] h = some ([],h) := by simp [frzL]
@[go_sem] theorem frzL_cons (b : Nat) (k : Bool) (c : AV) (cs : List AV) (h : Heap) : frzL b k (c :: cs) h = fzL b k cs (frz b k c h) := by
 simp only [frzL]; cases frz b k c h <;> rfl
@[go_sem] theorem gr_agg (b : Nat) (cs : List AV) (h : Heap) : giveRes b (.agg cs) h = (frz b true (.agg cs) h).map (·.1) := rfl
@[go_sem] theorem gv_agg (b : Nat) (cs : List AV) (h : Heap) : give b (.agg cs) h = frz b true (.agg cs) h := rfl
def sp (env : Env) (base z i : Nat) (ps : List (Nat × Opd)) (es : List AV) : Option (AV × Heap) → Option (List AV × Heap)
 | some (v,h) => if i < es.length ∧ v.cells.length = z ∧ v.val = true then setParts env base z ps (es.set i v) h else none
 | none => none
@[go_sem] theorem sp_some (env : Env) (base z i : Nat) (ps : List (Nat × Opd)) (es : List AV) (v : AV) (h : Heap) :
  sp env base z i ps es (some (v,h)) = if i < es.length ∧ v.cells.length = z ∧ v.val = true then setParts env base z ps (es.set i v) h else none := rfl
@[go_sem] theorem sps_nil (env : Env) (base z : Nat) (es : List AV) (h : Heap) : setParts env base z [] es h = some (es,h) := rfl
@[go_sem] theorem sps_cons (env : Env) (base z i : Nat) (x : Opd) (ps : List (Nat × Opd)) (es : List AV) (h : Heap) :
  setParts env base z ((i,x) :: ps) es h = sp env base z i ps es (frz base false (x.ev env) h) := by
 simp only [setParts]; cases frz base false (x.ev env) h <;> rfl
theorem appSrc_sl {h : Heap} {z : Nat} {v : AV} {es : List AV} (s : Sl h z v es) : appSrc h z v = some es := by
 have := s.list0
 cases v <;> first | exact this | (have := s.len; simp [slen] at this)
theorem Sl.lsf (h : Heap) (z : Nat) (es : List AV) : Sl h z (.lsf z es) es := ⟨by simp [VI.zok],fun _ => rfl,rfl⟩
@[go_sem] theorem appSrc_lsf (h : Heap) (z : Nat) (es : List AV) : appSrc h z (.lsf z es) = some es := appSrc_sl (Sl.lsf h z es)
def accV (id : Nat) (b0 : Nat × Blk) (z : Nat) (es : List AV) : AV := if es = [] then .nilSl else .ref id (b0.1 + 1) z 0 es.length es.length
def accB (b0 : Nat × Blk) (z : Nat) (es : List AV) : Nat × Blk := if es = [] then b0 else (b0.1 + 1,.arr z es)
def accD (b0 : Nat × Blk) (es : List AV) : Nat × Blk := if es = [] then b0 else (b0.1 + 1,.dead)
def ownV (z : Nat) (es : List AV) : AV := if es = [] then .own 0 [] else .own z es
def lstV (z : Nat) (es : List AV) : AV := if es = [] then .lst 0 [] else .lst z es
theorem accV_nil (id : Nat) (b0 : Nat × Blk) (z : Nat) : accV id b0 z [] = .nilSl := rfl
theorem accB_nil (b0 : Nat × Blk) (z : Nat) : accB b0 z [] = b0 := rfl
theorem accV_ne {id : Nat} {b0 : Nat × Blk} {z : Nat} {es : List AV} (h : es ≠ []) : accV id b0 z es = .ref id (b0.1 + 1) z 0 es.length es.length := if_neg h
theorem accB_ne {b0 : Nat × Blk} {z : Nat} {es : List AV} (h : es ≠ []) : accB b0 z es = (b0.1 + 1,.arr z es) := if_neg h
@[go_sem] theorem accV_val (id : Nat) (b0 : Nat × Blk) (z : Nat) (es : List AV) : (accV id b0 z es).val = true := by unfold accV; split <;> rfl
@[go_sem] theorem lstV_val (z : Nat) (es : List AV) : (lstV z es).val = true := by unfold lstV; split <;> rfl
@[go_sem] theorem lstV_cells (z : Nat) (es : List AV) : (lstV z es).cells = [lstV z es] := by unfold lstV; split <;> rfl
@[go_sem] theorem lstV_closed (z : Nat) (es : List AV) : (lstV z es).closed = true := by unfold lstV; split <;> rfl
@[go_sem] theorem frz_lstV (b : Nat) (k : Bool) (z : Nat) (l : List AV) (h : Heap) : frz b k (lstV z l) h = some (lstV z l,h) := by unfold lstV; split <;> simp [frz]
@[go_sem] theorem weak_ownV (z : Nat) (es : List AV) : weak (ownV z es) = lstV z es := by unfold ownV lstV; split <;> rfl
@[go_sem] theorem weak1_ownV (z : Nat) (es : List AV) : weak1 (ownV z es) = lstV z es := by unfold ownV lstV; split <;> rfl
@[go_sem] theorem weak_lstV (z : Nat) (es : List AV) : weak (lstV z es) = lstV z es := by unfold lstV; split <;> rfl
@[go_sem] theorem weak1_lstV (z : Nat) (es : List AV) : weak1 (lstV z es) = lstV z es := by unfold lstV; split <;> rfl
theorem Sl.lstV (h : Heap) (z : Nat) (es : List AV) : Sl h z (VI.lstV z es) es := by
 unfold VI.lstV
 split
 ·rename_i h0; subst h0; exact Sl.lst0 h z 0
 ·exact Sl.lst h z es
theorem Sl.acc {h fr : Heap} {s z : Nat} {b0 : Nat × Blk} {es : List AV} (hb : fr[s]? = some (accB b0 z es)) : Sl (h ++ fr) z (accV (h.length + s) b0 z es) es := by
 unfold accV
 unfold accB at hb
 split
 ·rename_i h0; subst h0; exact Sl.nil _ z
 ·rename_i h0
  rw [if_neg h0] at hb
  exact Sl.refAll hb
theorem set_same {α : Type} {l : List α} {s : Nat} {x : α} (h : l[s]? = some x) : l.set s x = l := by
 refine List.ext_getElem? fun j => ?_
 by_cases hj : j = s
 ·subst hj; rw [List.getElem?_set_self (List.getElem?_eq_some_iff.mp h).1,h]
 ·rw [List.getElem?_set_ne (by omega)]
theorem app_acc {lo ns s z lim : Nat} {h fr : Heap} {b0 : Nat × Blk} {es xs : List AV} (hs : s < ns) (hlo : lo ≤ h.length) (hb : fr[s]? = some (accB b0 z es)) (hl : es.length + xs.length ≤ lim) :
  appv ⟨lo,h.length,ns,none⟩ s z lim (accV (h.length + s) b0 z es) xs (h ++ fr) = some (accV (h.length + s) b0 z (es ++ xs),h ++ fr.set s (accB b0 z (es ++ xs))) := by
 unfold accV accB at *
 by_cases h0 : es = []
 ·subst h0
  simp only [if_true,List.nil_append] at hb ⊢
  simp only [appv]
  by_cases h1 : xs = []
  ·subst h1
   simp [set_same hb]
  ·have h2 : xs.length ≤ lim := by simpa using hl
   have h3 : mkAt ⟨lo,h.length,ns,none⟩ s (.arr z xs) (h ++ fr) = some (b0.1 + 1,h ++ fr.set s (b0.1 + 1,.arr z xs)) := by
    rw [mkAt_fr,hb]
    obtain ⟨v0,bl⟩ := b0
    rw [mkF_some,if_pos hs]
   simp [h1,h2,h3]
 ·have h1 : es ++ xs ≠ [] := by simp [h0]
  simp only [if_neg h0,if_neg h1] at hb ⊢
  have hle : lo ≤ h.length + s := by omega
  simp [appv,get_fr,hb,hle,hl,set_fr]
theorem give_acc {s z : Nat} {h fr : Heap} {b0 : Nat × Blk} {es : List AV} (hb : fr[s]? = some (accB b0 z es)) :
  give h.length (accV (h.length + s) b0 z es) (h ++ fr) = some (ownV z es,h ++ fr.set s (accD b0 es)) := by
 unfold accV accB ownV accD at *
 by_cases h0 : es = []
 ·subst h0
  simp only [if_true] at hb ⊢
  simp [give,set_same hb]
 ·simp only [if_neg h0] at hb ⊢
  simp [give,asList0,get_fr,hb,set_fr]
theorem take_own {lo ns s z : Nat} {h fr : Heap} {b0 : Nat × Blk} {es : List AV} (hs : s < ns) (hb : fr[s]? = some b0) (h0 : es ≠ []) :
  bck ⟨lo,h.length,ns,none⟩ [(0,s)] (some (ownV z es,h ++ fr)) = some (.ref (h.length + s) (b0.1 + 1) z 0 es.length es.length,h ++ fr.set s (b0.1 + 1,.arr z es)) := by
 have h3 : mkAt ⟨lo,h.length,ns,none⟩ s (.arr z es) (h ++ fr) = some (b0.1 + 1,h ++ fr.set s (b0.1 + 1,.arr z es)) := by
  rw [mkAt_fr,hb]
  obtain ⟨v0,bl⟩ := b0
  rw [mkF_some,if_pos hs]
 simp [ownV,h0,bck,takeOver,h3,weak,weak1]
theorem get_pre {h fr : Heap} {id : Nat} {b : Nat × Blk} (hb : h[id]? = some b) : (h ++ fr)[id]? = some b := by
 rw [List.getElem?_append_left (List.getElem?_eq_some_iff.mp hb).1,hb]
theorem set_pre {h fr : Heap} {id : Nat} {b0 : Nat × Blk} (b : Nat × Blk) (hb : h[id]? = some b0) : (h ++ fr).set id b = h.set id b ++ fr := by
 rw [List.set_append_left _ _ (List.getElem?_eq_some_iff.mp hb).1]
theorem Sl.refAt {h : Heap} {id ver z : Nat} {es : List AV} (hb : h[id]? = some (ver,.arr z es)) : Sl h z (.ref id ver z 0 es.length es.length) es :=
 ⟨by simp [VI.zok],fun f => by simp [asList0,get_pre hb],rfl⟩
theorem app_ref {cx : Cx} {s z lim id ver : Nat} {h : Heap} {es xs : List AV} (hb : h[id]? = some (ver,.arr z es)) (hlo : cx.lo ≤ id) (hl : es.length + xs.length ≤ lim) :
  appv cx s z lim (.ref id ver z 0 es.length es.length) xs h = some (.ref id ver z 0 (es.length + xs.length) (es.length + xs.length),h.set id (ver,.arr z (es ++ xs))) := by
 simp [appv,hb,hlo,hl]
theorem ps_iptr {cx : Cx} {h : Heap} {id ver o len fill i : Nat} {k : IntKind} {l : List Int} {n : Int} (hid : h[id]? = some (ver,.arr 1 (l.map (.int k)))) (hl : l.length = fill) (hfit : o + len ≤ fill) (hi : i < len) (hlo : cx.lo ≤ id) :
  pstore cx h 1 (.iptr (.ref id ver 1 o len fill) i 0) (.int k n) = some (h.set id (ver,.arr 1 ((l.set (o + i) n).map (.int k)))) := by
 have hlt : o + i < l.length := by omega
 have he : (l.map (AV.int k))[o + i]? = some (.int k l[o + i]) := by simp [hlt]
 simp only [pstore,frz,AV.cells,AV.val,hid,List.length_map,hl,hfit,hi,hlo,and_self,if_true,Option.bind_some,he,List.map_set,List.length_cons,List.length_nil]
@[go_sem] theorem bnd_none (n d : Nat) : bnd none n d = some d := rfl
theorem bnd_ok {k : IntKind} {i : Int} {n d : Nat} (h0 : 0 ≤ i) (h1 : i ≤ n) : bnd (some (.int k i)) n d = some i.toNat := by simp [bnd,h0,h1]
theorem copy_fr {lo ns : Nat} {h fr : Heap} {s ver z off len fill : Nat} {es ys : List AV} (hb : fr[s]? = some (ver,.arr z es)) (hl : es.length = fill) (hfit : off + len ≤ fill) (hlo : lo ≤ h.length) :
  copyv ⟨lo,h.length,ns,none⟩ z (.ref (h.length + s) ver z off len fill) ys (h ++ fr) = some (.int .i64 (min ys.length len : Nat),h ++ fr.set s (ver,.arr z (es.take off ++ ys.take (min ys.length len) ++ es.drop (off + min ys.length len)))) := by
 have hle : lo ≤ h.length + s := by omega
 simp only [copyv,zok,beq_self_eq_true,if_true,slen]
 split
 ·rename_i h0
  rw [h0]
  simp only [List.take_zero,List.append_nil,Nat.add_zero,List.take_append_drop]
  rw [set_same hb]; rfl
 ·rw [get_fr,hb]
  simp only [hl,hfit,hle,and_self,if_true,set_fr]
def cpx (cx : Cx) (z : Nat) (x : AV) (h : Heap) : Option (List AV) → Option (AV × Heap)
 | some ys => copyv cx z x ys h
 | none => none
@[go_sem] theorem cpx_some (cx : Cx) (z : Nat) (x : AV) (h : Heap) (ys : List AV) : cpx cx z x h (some ys) = copyv cx z x ys h := rfl
@[go_sem] theorem x_copy (C : Callee) (cx : Cx) (env : Env) (h : Heap) (z : Nat) (x y : Opd) : xi C cx env h (.copy z x y) = cpx cx z (x.ev env) h (asList h z (y.ev env)) := by
 simp only [xi]; cases asList h z (y.ev env) <;> rfl
def clx : Option (AV × Heap) → Option (AV × Heap)
 | some (_,h) => some (.tuple [],h)
 | none => none
@[go_sem] theorem clx_some (v : AV) (h : Heap) : clx (some (v,h)) = some (.tuple [],h) := rfl
def clz (cx : Cx) (z : Nat) (zero x : AV) (h : Heap) : Option Nat → Option (AV × Heap)
 | some n => clx (copyv cx z x (List.replicate n zero) h)
 | none => none
@[go_sem] theorem clz_some (cx : Cx) (z n : Nat) (zero x : AV) (h : Heap) : clz cx z zero x h (some n) = clx (copyv cx z x (List.replicate n zero) h) := rfl
@[go_sem] theorem x_pnc (C : Callee) (cx : Cx) (env : Env) (h : Heap) (x : Opd) : xi C cx env h (.pnc x) = none := rfl
@[go_sem] theorem x_clr (C : Callee) (cx : Cx) (env : Env) (h : Heap) (z : Nat) (zero : AV) (x : Opd) : xi C cx env h (.clr z zero x) = clz cx z zero (x.ev env) h (slen (x.ev env)) := by
 simp only [xi]
 cases slen (x.ev env) with
 | none => rfl
 | some n =>
  simp only [Option.bind_some,clz]
  cases copyv cx z (x.ev env) (List.replicate n zero) h <;> rfl
theorem frz_acc {s z : Nat} {k : Bool} {h fr : Heap} {b0 : Nat × Blk} {es : List AV} (hb : fr[s]? = some (accB b0 z es)) :
  frz h.length k (accV (h.length + s) b0 z es) (h ++ fr) = some (lstV z es,h ++ fr.set s (accD b0 es)) := by
 unfold accV accB lstV accD at *
 by_cases h0 : es = []
 ·subst h0
  simp only [if_true] at hb ⊢
  simp [frz,set_same hb]
 ·simp only [if_neg h0] at hb ⊢
  have hle : h.length ≤ h.length + s := by omega
  simp [frz,asList0,get_fr,hb,set_fr,hle]
@[go_sem] theorem accV_cells (id : Nat) (b0 : Nat × Blk) (z : Nat) (es : List AV) : (accV id b0 z es).cells = [accV id b0 z es] := by unfold accV; split <;> rfl
theorem sl_lst {h : Heap} {z z' : Nat} {es : List AV} (hz : z' = z ∨ es = []) : Sl h z (.lst z' es) es := by
 rcases hz with rfl | rfl
 ·exact Sl.lst h z' es
 ·exact Sl.lst0 h z z'
def ownL (z : Nat) (es : List AV) : AV := if es = [] then .lst 0 [] else .own z es
@[go_sem] theorem weak_ownL (z : Nat) (es : List AV) : weak (ownL z es) = lstV z es := by unfold ownL lstV; split <;> rfl
@[go_sem] theorem weak1_ownL (z : Nat) (es : List AV) : weak1 (ownL z es) = lstV z es := by unfold ownL lstV; split <;> rfl
theorem give_fr {s ver z : Nat} {h fr : Heap} {es : List AV} (hb : fr[s]? = some (ver,.arr z es)) :
  give h.length (.ref (h.length + s) ver z 0 es.length es.length) (h ++ fr) = some (.own z es,h ++ fr.set s (ver,.dead)) := by
 simp [give,asList0,get_fr,hb,set_fr]
theorem app_lsf_new {lo ns s z lim ver : Nat} {h fr : Heap} {b : Blk} {xs : List AV} (hs : s < ns) (hb : fr[s]? = some (ver,b)) (hx : xs ≠ []) (hl : xs.length ≤ lim) :
  appv ⟨lo,h.length,ns,none⟩ s z lim (.lsf z []) xs (h ++ fr) = some (.ref (h.length + s) (ver + 1) z 0 xs.length xs.length,h ++ fr.set s (ver + 1,.arr z xs)) := by
 have h3 : mkAt ⟨lo,h.length,ns,none⟩ s (.arr z xs) (h ++ fr) = some (ver + 1,h ++ fr.set s (ver + 1,.arr z xs)) := by
  rw [mkAt_fr,hb,mkF_some,if_pos hs]
 simp [appv,hx,hl,h3]
theorem slicev_ref (id ver z off len fill : Nat) (lo hi : Option AV) : slicev (some z) (.ref id ver z off len fill) lo hi = (bnd hi len len).bind fun b => (bnd lo b 0).map fun a => .ref id ver z (off + a) (b - a) fill := by simp [slicev,zok]
end Go.VI
