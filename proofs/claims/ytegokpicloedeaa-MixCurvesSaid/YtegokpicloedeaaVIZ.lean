/- Walking the evaluator by rewriting: slices that are made. -/
import Derived.Test.YtegokpicloedeaaVIX
namespace Go.VI
set_option linter.unusedVariables false
set_option linter.unusedSimpArgs false

/-! ### values handed on for good -/
@[go_sem] theorem frz_int (b : Nat) (k : Bool) (kd : IntKind) (n : Int) (h : Heap) : frz b k (.int kd n) h = some (.int kd n, h) := by simp [frz]
@[go_sem] theorem frz_bool (b : Nat) (k : Bool) (n : Bool) (h : Heap) : frz b k (.bool n) h = some (.bool n, h) := by simp [frz]
@[go_sem] theorem frz_str (b : Nat) (k : Bool) (l : List UInt8) (h : Heap) : frz b k (.str l) h = some (.str l, h) := by simp [frz]
@[go_sem] theorem frz_lst (b : Nat) (k : Bool) (z : Nat) (l : List AV) (h : Heap) : frz b k (.lst z l) h = some (.lst z l, h) := by simp [frz]
@[go_sem] theorem frz_lsf (b : Nat) (k : Bool) (z : Nat) (l : List AV) (h : Heap) : frz b k (.lsf z l) h = some (.lsf z l, h) := by simp [frz]
@[go_sem] theorem frz_nil (b : Nat) (k : Bool) (h : Heap) : frz b k .nilSl h = some (.lst 0 [], h) := by simp [frz]
def fzA : Option (List AV × Heap) → Option (AV × Heap)
  | some (cs, h) => some (.agg cs, h)
  | none => none
@[go_sem] theorem fzA_some (cs : List AV) (h : Heap) : fzA (some (cs, h)) = some (.agg cs, h) := rfl
@[go_sem] theorem frz_agg (b : Nat) (k : Bool) (cs : List AV) (h : Heap) : frz b k (.agg cs) h = fzA (frzL b k cs h) := by
  simp only [frz]; cases frzL b k cs h <;> rfl
def fzL (b : Nat) (k : Bool) (cs : List AV) : Option (AV × Heap) → Option (List AV × Heap)
  | some (c, h) => (frzL b k cs h).map fun (cs, h) => (c :: cs, h)
  | none => none
@[go_sem] theorem fzL_some (b : Nat) (k : Bool) (cs : List AV) (c : AV) (h : Heap) : fzL b k cs (some (c, h)) = (frzL b k cs h).map fun (cs, h) => (c :: cs, h) := rfl
@[go_sem] theorem frzL_nil (b : Nat) (k : Bool) (h : Heap) : frzL b k [] h = some ([], h) := by simp [frzL]
@[go_sem] theorem frzL_cons (b : Nat) (k : Bool) (c : AV) (cs : List AV) (h : Heap) : frzL b k (c :: cs) h = fzL b k cs (frz b k c h) := by
  simp only [frzL]; cases frz b k c h <;> rfl
@[go_sem] theorem gr_agg (b : Nat) (cs : List AV) (h : Heap) : giveRes b (.agg cs) h = (frz b true (.agg cs) h).map (·.1) := rfl
@[go_sem] theorem gv_agg (b : Nat) (cs : List AV) (h : Heap) : give b (.agg cs) h = frz b true (.agg cs) h := rfl

def sp (env : Env) (base z i : Nat) (ps : List (Nat × Opd)) (es : List AV) : Option (AV × Heap) → Option (List AV × Heap)
  | some (v, h) => if i < es.length ∧ v.cells.length = z ∧ v.val = true then setParts env base z ps (es.set i v) h else none
  | none => none
@[go_sem] theorem sp_some (env : Env) (base z i : Nat) (ps : List (Nat × Opd)) (es : List AV) (v : AV) (h : Heap) :
    sp env base z i ps es (some (v, h)) = if i < es.length ∧ v.cells.length = z ∧ v.val = true then setParts env base z ps (es.set i v) h else none := rfl
@[go_sem] theorem sps_nil (env : Env) (base z : Nat) (es : List AV) (h : Heap) : setParts env base z [] es h = some (es, h) := rfl
@[go_sem] theorem sps_cons (env : Env) (base z i : Nat) (x : Opd) (ps : List (Nat × Opd)) (es : List AV) (h : Heap) :
    setParts env base z ((i, x) :: ps) es h = sp env base z i ps es (frz base false (x.ev env) h) := by
  simp only [setParts]; cases frz base false (x.ev env) h <;> rfl

/-! ### append -/
theorem appSrc_sl {h : Heap} {z : Nat} {v : AV} {es : List AV} (s : Sl h z v es) : appSrc h z v = some es := by
  have := s.list0
  cases v <;> first | exact this | (have := s.len; simp [slen] at this)
theorem Sl.lsf (h : Heap) (z : Nat) (es : List AV) : Sl h z (.lsf z es) es := ⟨by simp [VI.zok], fun _ => rfl, rfl⟩
@[go_sem] theorem appSrc_lsf (h : Heap) (z : Nat) (es : List AV) : appSrc h z (.lsf z es) = some es := appSrc_sl (Sl.lsf h z es)
@[go_sem] theorem appSrc_lst (h : Heap) (z : Nat) (es : List AV) : appSrc h z (.lst z es) = some es := appSrc_sl (Sl.lst h z es)
@[go_sem] theorem appSrc_nil (h : Heap) (z : Nat) : appSrc h z .nilSl = some [] := appSrc_sl (Sl.nil h z)

/-- A slice that grows in a place of the frame, nil while it is empty; b0: the block that lay there. -/
def accV (id : Nat) (b0 : Nat × Blk) (z : Nat) (es : List AV) : AV := if es = [] then .nilSl else .ref id (b0.1 + 1) z 0 es.length es.length
def accB (b0 : Nat × Blk) (z : Nat) (es : List AV) : Nat × Blk := if es = [] then b0 else (b0.1 + 1, .arr z es)
def accD (b0 : Nat × Blk) (es : List AV) : Nat × Blk := if es = [] then b0 else (b0.1 + 1, .dead)
def ownV (z : Nat) (es : List AV) : AV := if es = [] then .own 0 [] else .own z es
def lstV (z : Nat) (es : List AV) : AV := if es = [] then .lst 0 [] else .lst z es
theorem accV_nil (id : Nat) (b0 : Nat × Blk) (z : Nat) : accV id b0 z [] = .nilSl := rfl
theorem accB_nil (b0 : Nat × Blk) (z : Nat) : accB b0 z [] = b0 := rfl
theorem accV_ne {id : Nat} {b0 : Nat × Blk} {z : Nat} {es : List AV} (h : es ≠ []) : accV id b0 z es = .ref id (b0.1 + 1) z 0 es.length es.length := if_neg h
theorem accB_ne {b0 : Nat × Blk} {z : Nat} {es : List AV} (h : es ≠ []) : accB b0 z es = (b0.1 + 1, .arr z es) := if_neg h
@[go_sem] theorem accV_val (id : Nat) (b0 : Nat × Blk) (z : Nat) (es : List AV) : (accV id b0 z es).val = true := by unfold accV; split <;> rfl
@[go_sem] theorem lstV_val (z : Nat) (es : List AV) : (lstV z es).val = true := by unfold lstV; split <;> rfl
@[go_sem] theorem lstV_cells (z : Nat) (es : List AV) : (lstV z es).cells = [lstV z es] := by unfold lstV; split <;> rfl
@[go_sem] theorem lstV_closed (z : Nat) (es : List AV) : (lstV z es).closed = true := by unfold lstV; split <;> rfl
@[go_sem] theorem frz_lstV (b : Nat) (k : Bool) (z : Nat) (l : List AV) (h : Heap) : frz b k (lstV z l) h = some (lstV z l, h) := by unfold lstV; split <;> simp [frz]
@[go_sem] theorem weak_ownV (z : Nat) (es : List AV) : weak (ownV z es) = lstV z es := by unfold ownV lstV; split <;> rfl
@[go_sem] theorem weak1_ownV (z : Nat) (es : List AV) : weak1 (ownV z es) = lstV z es := by unfold ownV lstV; split <;> rfl
@[go_sem] theorem weak_lstV (z : Nat) (es : List AV) : weak (lstV z es) = lstV z es := by unfold lstV; split <;> rfl
@[go_sem] theorem weak1_lstV (z : Nat) (es : List AV) : weak1 (lstV z es) = lstV z es := by unfold lstV; split <;> rfl
theorem ownV_nil (z : Nat) : ownV z [] = .own 0 [] := rfl
theorem Sl.lstV (h : Heap) (z : Nat) (es : List AV) : Sl h z (VI.lstV z es) es := by
  unfold VI.lstV
  split
  · rename_i h0; subst h0; exact Sl.lst0 h z 0
  · exact Sl.lst h z es
theorem Sl.acc {h fr : Heap} {s z : Nat} {b0 : Nat × Blk} {es : List AV} (hb : fr[s]? = some (accB b0 z es)) : Sl (h ++ fr) z (accV (h.length + s) b0 z es) es := by
  unfold accV
  unfold accB at hb
  split
  · rename_i h0; subst h0; exact Sl.nil _ z
  · rename_i h0
    rw [if_neg h0] at hb
    exact Sl.refAll hb

theorem set_same {α : Type} {l : List α} {s : Nat} {x : α} (h : l[s]? = some x) : l.set s x = l := by
  refine List.ext_getElem? fun j => ?_
  by_cases hj : j = s
  · subst hj; rw [List.getElem?_set_self (List.getElem?_eq_some_iff.mp h).1, h]
  · rw [List.getElem?_set_ne (by omega)]

theorem app_acc {lo ns s z lim : Nat} {h fr : Heap} {b0 : Nat × Blk} {es xs : List AV} (hs : s < ns) (hlo : lo ≤ h.length) (hb : fr[s]? = some (accB b0 z es)) (hl : es.length + xs.length ≤ lim) :
    appv ⟨lo, h.length, ns, none⟩ s z lim (accV (h.length + s) b0 z es) xs (h ++ fr) = some (accV (h.length + s) b0 z (es ++ xs), h ++ fr.set s (accB b0 z (es ++ xs))) := by
  unfold accV accB at *
  by_cases h0 : es = []
  · subst h0
    simp only [if_true, List.nil_append] at hb ⊢
    simp only [appv]
    by_cases h1 : xs = []
    · subst h1
      simp [set_same hb]
    · have h2 : xs.length ≤ lim := by simpa using hl
      have h3 : mkAt ⟨lo, h.length, ns, none⟩ s (.arr z xs) (h ++ fr) = some (b0.1 + 1, h ++ fr.set s (b0.1 + 1, .arr z xs)) := by
        rw [mkAt_fr, hb]
        obtain ⟨v0, bl⟩ := b0
        rw [mkF_some, if_pos hs]
      simp [h1, h2, h3]
  · have h1 : es ++ xs ≠ [] := by simp [h0]
    simp only [if_neg h0, if_neg h1] at hb ⊢
    have hle : lo ≤ h.length + s := by omega
    simp [appv, get_fr, hb, hle, hl, set_fr]

theorem give_acc {s z : Nat} {h fr : Heap} {b0 : Nat × Blk} {es : List AV} (hb : fr[s]? = some (accB b0 z es)) :
    give h.length (accV (h.length + s) b0 z es) (h ++ fr) = some (ownV z es, h ++ fr.set s (accD b0 es)) := by
  unfold accV accB ownV accD at *
  by_cases h0 : es = []
  · subst h0
    simp only [if_true] at hb ⊢
    simp [give, set_same hb]
  · simp only [if_neg h0] at hb ⊢
    simp [give, asList0, get_fr, hb, set_fr]
theorem giveRes_acc {s z : Nat} {h fr : Heap} {b0 : Nat × Blk} {es : List AV} (hb : fr[s]? = some (accB b0 z es)) :
    giveRes h.length (accV (h.length + s) b0 z es) (h ++ fr) = some (ownV z es) := by
  have := give_acc (h := h) hb
  unfold accV at *
  split at this
  · rename_i h0; rw [if_pos h0]; simp only [giveRes]; rw [this]; rfl
  · rename_i h0; rw [if_neg h0]; simp only [giveRes]; rw [this]; rfl
/-- A result taken over. -/
theorem take_own {lo ns s z : Nat} {h fr : Heap} {b0 : Nat × Blk} {es : List AV} (hs : s < ns) (hb : fr[s]? = some b0) (h0 : es ≠ []) :
    bck ⟨lo, h.length, ns, none⟩ [(0, s)] (some (ownV z es, h ++ fr)) = some (.ref (h.length + s) (b0.1 + 1) z 0 es.length es.length, h ++ fr.set s (b0.1 + 1, .arr z es)) := by
  have h3 : mkAt ⟨lo, h.length, ns, none⟩ s (.arr z es) (h ++ fr) = some (b0.1 + 1, h ++ fr.set s (b0.1 + 1, .arr z es)) := by
    rw [mkAt_fr, hb]
    obtain ⟨v0, bl⟩ := b0
    rw [mkF_some, if_pos hs]
  simp [ownV, h0, bck, takeOver, h3, weak, weak1]
end Go.VI
