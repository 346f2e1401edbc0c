/- What listed package variables give the evaluator: laws for any program. -/
import GoSem.PinnedTables
import Derived.Test.YtaadgpncmiaccaaGreatDoorVIU2
import Derived.Lib.LaidU8
import Derived.Shelf.Vars
set_option linter.unusedSimpArgs false
set_option linter.unusedVariables false
namespace Go.VI
theorem heap_of_var {P : Program} {w : World} {n : String} {g : Nat} {cs : Array Value} (hg : P.globalNamed n = some g) (h : w.var? P n = some cs) : ∃ t f, w.heap[g]? = some (.cells cs t f) := by
 simp only [World.var?, hg, Option.bind_some] at h
 split at h
 ·rename_i t f hh; cases h; exact ⟨_, _, hh⟩
 ·cases h
theorem rcm_of {w : World} {X : Nat → Prop} {b : Nat} : ∀ (cs : List AV) (o : Nat), (∀ i c, cs[i]? = some c → ∃ u, w.cell? ⟨b, o + i, none⟩ = some u ∧ u.oneCell' = true ∧ RC w X c u) → RCM w X cs b o
 | [], _, _ => by simp [RCM]
 | c :: cs, o, h => by
  simp only [RCM]
  refine ⟨by simpa using h 0 c rfl, rcm_of cs (o + 1) fun i d hd => ?_⟩
  have := h (i + 1) d (by simpa using hd)
  rwa [show o + (i + 1) = o + 1 + i by omega] at this
theorem gv_of {w : World} {g : Nat} {cs : Array Value} {t : TypeId} {f : Nat × Nat} {avs : List AV} (hb : w.heap[g]? = some (.cells cs t f)) (hl : avs.length = cs.size)
  (h : ∀ (i : Nat) (c : AV), avs[i]? = some c → ∃ u, cs[i]? = some u ∧ u.oneCell' = true ∧ RC w (fun _ => False) c u) : g < w.heap.size ∧ ¬ False ∧ RCM w (fun _ => False) avs g 0 ∧ w.cell? ⟨g, avs.length, none⟩ = none := by
 have hc : ∀ i, w.cell? ⟨g, i, none⟩ = cs[i]? := fun i => by simp [World.cell?, hb]
 refine ⟨?_, id, rcm_of avs 0 fun i c hi => ?_, ?_⟩
 ·rcases Nat.lt_or_ge g w.heap.size with h1 | h1
  ·exact h1
  ·rw [Array.getElem?_eq_none h1] at hb; cases hb
 ·rw [Nat.zero_add, hc]; exact h i c hi
 ·rw [hc, Array.getElem?_eq_none (by omega)]
section
variable {P : Program} {w : World}
theorem gv_ints {n : String} {g : Nat} {k : IntKind} {zs : List Int} (hg : P.globalNamed n = some g) (h : Lib.TabIs P w n k zs) : g < w.heap.size ∧ ¬ False ∧ RCM w (fun _ => False) (zs.map (.int k)) g 0 ∧ w.cell? ⟨g, (zs.map (AV.int k)).length, none⟩ = none := by
 obtain ⟨t, f, hb⟩ := heap_of_var hg h
 refine gv_of hb (by simp) fun i c hi => ?_
 simp only [List.getElem?_map, Option.map_eq_some_iff] at hi
 obtain ⟨z, hz, rfl⟩ := hi
 exact ⟨.int k z, by simp [hz], rfl, rfl⟩
theorem cells_of_strs {H : Type} {enc : TypeId × Value → H} {base : Nat} {sp : Nat → Bool} {held : Bool} {fuel : Nat} {t e : TypeId} {n : Nat} {cs : List Value} {ss : List (List UInt8)} {p : List MemPlace}
  (ht : P.underlying t = some (.array n e)) (he : P.underlying e = some .string) (hce : P.cellsOf e = 1) (hct : P.cellsOf t = n)
  (h : DataW.trod enc P w base sp held fuel t cs = some (.agg (ss.map fun s => .lit (.string s)), p)) : cs = ss.map fun s => Value.string ⟨s.toArray⟩ := by
 cases fuel with
 | zero => simp [DataW.trod] at h
 | succ fuel =>
  simp only [DataW.trod, ht, hce, hct, Nat.mul_one] at h
  split at h
  ·rename_i hl
   obtain ⟨xs, hm, hx⟩ := Option.map_eq_some_iff.1 h
   have hxs : xs.map (·.1) = ss.map fun s => (DataW.lit (.string s) : DataW H) := by
    have := congrArg Prod.fst hx
    simpa using this
   have hxl : xs.length = n := by simpa using Lib.mapM_length hm
   have hzl : ss.length = n := by
    have := congrArg List.length hxs
    simp at this
    omega
   apply List.ext_getElem?
   intro i
   by_cases hi : i < n
   ·obtain ⟨b, hb, hf⟩ := Lib.mapM_at hm i i (by simp [hi])
    obtain ⟨s, hc, rfl, _⟩ := DataW.trod_string he hf
    have h1 : cs[i]? = some (.string s) := by
     have := congrArg (·[0]?) hc
     simpa [List.getElem?_take, List.getElem?_drop] using this
    have h2 : (xs.map (·.1))[i]? = some (DataW.lit (.string s.data.toList) : DataW H) := by simp [hb]
    rw [hxs] at h2
    simp only [List.getElem?_map, Option.map_eq_some_iff, DataW.lit.injEq, Lit.string.injEq] at h2
    obtain ⟨z', hz', hz⟩ := h2
    simp [h1, hz', hz]
   ·rw [List.getElem?_eq_none (by omega), List.getElem?_eq_none (by simp; omega)]
  ·cases h
theorem gv_strs {n : String} {g : Nat} {ss : List (List UInt8)} {t e : TypeId} {m : Nat} (hg : P.globalNamed n = some g) (hty : (P.globals[g]?).map (·.type) = some t) (ht : P.underlying t = some (.array m e)) (he : P.underlying e = some .string) (hce : P.cellsOf e = 1) (hct : P.cellsOf t = m)
  (h : Lib.VarReads P w n (.agg (ss.map fun s => .lit (.string s)))) : g < w.heap.size ∧ ¬ False ∧ RCM w (fun _ => False) (ss.map .str) g 0 ∧ w.cell? ⟨g, (ss.map AV.str).length, none⟩ = none := by
 obtain ⟨g', t', cs, fuel, p, h1, h2, h3, h4⟩ := h
 obtain rfl := Option.some.inj (hg.symm.trans h1)
 obtain rfl := Option.some.inj (hty.symm.trans h2)
 obtain ⟨t2, f, hb⟩ := heap_of_var hg h3
 have hcs := cells_of_strs ht he hce hct h4
 have hz : cs.size = ss.length := by have := congrArg List.length hcs; simpa using this
 refine gv_of hb (by simp [hz]) fun i c hi => ?_
 simp only [List.getElem?_map, Option.map_eq_some_iff] at hi
 obtain ⟨s, hs, rfl⟩ := hi
 refine ⟨.string ⟨s.toArray⟩, ?_, rfl, rfl⟩
 rw [← Array.getElem?_toList, hcs]; simp [hs]
theorem gv_ints' {n : String} {g : Nat} {k : IntKind} {zs : List Int} {t e : TypeId} {m : Nat} (hg : P.globalNamed n = some g) (hty : (P.globals[g]?).map (·.type) = some t) (ht : P.underlying t = some (.array m e)) (he : P.underlying e = some (.int k)) (hce : P.cellsOf e = 1) (hct : P.cellsOf t = m)
  (h : Lib.VarReads P w n (Lib.tabData k zs)) : g < w.heap.size ∧ ¬ False ∧ RCM w (fun _ => False) (zs.map (.int k)) g 0 ∧ w.cell? ⟨g, (zs.map (AV.int k)).length, none⟩ = none := by
 obtain ⟨g', t', cs, fuel, p, h1, h2, h3, h4⟩ := h
 obtain rfl := Option.some.inj (hg.symm.trans h1)
 obtain rfl := Option.some.inj (hty.symm.trans h2)
 refine gv_ints hg ?_
 unfold Lib.TabIs
 rw [h3, ← Lib.cells_of_tab ht he hce hct h4]
theorem gv_ifc {n : String} {g : Nat} {nm : String} {d : DataW Unit} {ti : TypeId} {ms : Array (String × TypeId)} (hg : P.globalNamed n = some g) (hty : (P.globals[g]?).map (·.type) = some ti) (hi : P.underlying ti = some (.interface ms))
  (h : Lib.VarReads P w n (.iface nm d)) : ∃ tp, g < w.heap.size ∧ ¬ False ∧ RCM w (fun _ => False) [.ifc tp .undef] g 0 ∧ w.cell? ⟨g, [AV.ifc tp .undef].length, none⟩ = none := by
 obtain ⟨g', t', cs, fuel, p, h1, h2, h3, h4⟩ := h
 obtain rfl := Option.some.inj (hg.symm.trans h1)
 obtain rfl := Option.some.inj (hty.symm.trans h2)
 obtain ⟨t2, f, hb⟩ := heap_of_var hg h3
 have : ∃ u v, cs.toList = [.iface u v] := by
  cases fuel with
  | zero => simp [DataW.trod] at h4
  | succ m =>
   unfold DataW.trod at h4
   rw [hi] at h4
   split at h4 <;> simp_all
 obtain ⟨u, v, hc⟩ := this
 have hz : cs.size = 1 := by have := congrArg List.length hc; simpa using this
 refine ⟨u, gv_of hb (by simp [hz]) fun i c hi => ?_⟩
 cases i with
 | zero =>
  simp only [List.getElem?_cons_zero, Option.some.injEq] at hi
  subst hi
  refine ⟨.iface u v, ?_, rfl, v, rfl, trivial⟩
  rw [← Array.getElem?_toList, hc]; rfl
 | succ i => simp at hi
theorem gv_open_int {g : Nat} {t : TypeId} {zero : Array Value} {k : IntKind}
  (h : w.ShapedOpen P) (hg : g < P.globals.size)
  (h0 : ((begin P (fun _ _ => 0) default).world.heap[g]?).bind Obj.row? = some (zero, t)) (hz : zero.size = 1)
  (hb : P.buildable t = true) (hc : P.cellTypes P.depth t = some [t]) (hu : P.underlying t = some (.int k)) : ∃ q, g < w.heap.size ∧ ¬ False ∧ RCM w (fun _ => False) [.int k q] g 0 ∧ w.cell? ⟨g, [AV.int k q].length, none⟩ = none := by
 obtain ⟨q, hq⟩ := Go.Proofs.cell_of_shapedOpen_int h hg h0 hz hb hc hu
 obtain ⟨cs, hh, hs, _⟩ := h.1 g zero t hg h0
 refine ⟨q, gv_of hh (by simp; omega) fun i c hi => ?_⟩
 cases i with
 | zero =>
  simp only [List.getElem?_cons_zero, Option.some.injEq] at hi
  subst hi
  refine ⟨.int k q, ?_, rfl, rfl⟩
  rw [← hq]; simp [World.cell?, hh]
 | succ i => simp at hi
theorem laid_reads {l : List (String × DataW Unit)} (hf : (l.filter fun x => x.2.handleName?.isSome) = []) (h : laidMetH P l w) {n : String} {d : DataW Unit} (hm : (n, d) ∈ l) : Lib.VarReads P w n d := by
 unfold laidMetH at h
 rw [hf] at h
 exact Lib.laidMet.reads h hm
end
end Go.VI
