/- What the rows' listed variables give the evaluator: the cells of the package variables that are read. -/
import Derived.Test.YtclgoccpkgikkaaGreatDoorRows
import Derived.Test.YtclgoccpkgikkaaGreatDoorLoudOk
import Derived.Test.YtclgoccpkgikkaaGreatDoorVLD
set_option linter.unusedVariables false
set_option linter.unusedSimpArgs false
namespace Go.VI.Loud
open Go.Proofs Go.Proofs.YtclgoccpkgikkaaGreatDoor
theorem chunks {α β : Type} (f : β → List α) (m : Nat) : ∀ (rows : List β) (cs : List α), cs.length = rows.length * m → (∀ i (h : i < rows.length), (cs.drop (i * m)).take m = f rows[i]) → cs = (rows.map f).flatten
 | [], cs, hl, _ => by
  have : cs.length = 0 := by simpa using hl
  simp [List.length_eq_zero_iff.mp this]
 | r :: rows, cs, hl, h => by
  have h0 := h 0 (by simp)
  simp only [Nat.zero_mul, List.drop_zero, List.getElem_cons_zero] at h0
  have hl2 : cs.length = rows.length * m + m := by rw [hl, List.length_cons, Nat.add_mul, Nat.one_mul]
  have ih := chunks f m rows (cs.drop m) (by rw [List.length_drop, hl2]; omega) fun i hi => by
   have := h (i + 1) (by simp; omega)
   simp only [List.getElem_cons_succ] at this
   rw [List.drop_drop, ← this, Nat.add_mul, Nat.one_mul, Nat.add_comm]
  rw [List.map_cons, List.flatten_cons, ← ih, ← h0, List.take_append_drop]
theorem cells_of_tab2 {H : Type} {P : Program} {w : World} {enc : TypeId × Value → H} {base : Nat} {sp : Nat → Bool} {held : Bool} {fuel : Nat} {t e c : TypeId} {n m : Nat} {k : IntKind} {cs : List Value} {rows : List (List Int)} {p : List MemPlace}
  (ht : P.underlying t = some (.array n e)) (he : P.underlying e = some (.array m c)) (hc : P.underlying c = some (.int k)) (hcc : P.cellsOf c = 1) (hce : P.cellsOf e = m) (hct : P.cellsOf t = n * m)
  (h : DataW.trod enc P w base sp held fuel t cs = some (.agg (rows.map (Lib.tabData k)), p)) : cs = (rows.map fun zs => zs.map fun z => Value.int k z).flatten := by
 cases fuel with
 | zero => simp [DataW.trod] at h
 | succ fuel =>
  simp only [DataW.trod, ht, hce, hct] at h
  split at h
  ·rename_i hl
   obtain ⟨xs, hm, hx⟩ := Option.map_eq_some_iff.1 h
   have hxs : xs.map (·.1) = rows.map (Lib.tabData k) := by
    have := congrArg Prod.fst hx
    simpa using this
   have hxl : xs.length = n := by simpa using Lib.mapM_length hm
   have hzl : rows.length = n := by
    have := congrArg List.length hxs
    simp at this
    omega
   refine chunks _ m rows cs (by rw [hl, hzl]) fun i hi => ?_
   obtain ⟨b, hb, hf⟩ := Lib.mapM_at hm i i (by rw [List.getElem?_range (by omega)])
   have h2 : (xs.map (·.1))[i]? = some b.1 := by simp [hb]
   rw [hxs] at h2
   simp only [List.getElem?_map, List.getElem?_eq_getElem hi, Option.map_some, Option.some.injEq] at h2
   obtain ⟨b1, b2⟩ := b
   simp only at h2
   subst h2
   exact Lib.cells_of_tab he hc hcc hce hf
  ·cases h
theorem gv_ints2 {P : Program} {w : World} {n : String} {g : Nat} {k : IntKind} {rows : List (List Int)} {t e c : TypeId} {l m : Nat} (hg : P.globalNamed n = some g) (hty : (P.globals[g]?).map (·.type) = some t)
  (ht : P.underlying t = some (.array l e)) (he : P.underlying e = some (.array m c)) (hc : P.underlying c = some (.int k)) (hcc : P.cellsOf c = 1) (hce : P.cellsOf e = m) (hct : P.cellsOf t = l * m)
  (h : Lib.VarReads P w n (.agg (rows.map (Lib.tabData k)))) : g < w.heap.size ∧ ¬ False ∧ RCM w (fun _ => False) (rows.flatten.map (.int k)) g 0 ∧ w.cell? ⟨g, (rows.flatten.map (AV.int k)).length, none⟩ = none := by
 obtain ⟨g', t', cs, fuel, p, h1, h2, h3, h4⟩ := h
 obtain rfl := Option.some.inj (hg.symm.trans h1)
 obtain rfl := Option.some.inj (hty.symm.trans h2)
 obtain ⟨t2, f, hb⟩ := heap_of_var hg h3
 have hcs := cells_of_tab2 ht he hc hcc hce hct h4
 rw [← List.map_flatten] at hcs
 generalize rows.flatten = L at *
 have hz : cs.size = L.length := by have := congrArg List.length hcs; simpa using this
 refine gv_of hb (by simp [hz]) fun i c hi => ?_
 simp only [List.getElem?_map, Option.map_eq_some_iff] at hi
 obtain ⟨s, hs, rfl⟩ := hi
 refine ⟨.int k s, ?_, rfl, rfl⟩
 rw [← Array.getElem?_toList, hcs]; simp [hs]
def kerR : List (List Int) := [[0, 128, 0, 0], [-9, 111, 29, -3], [-8, 72, 72, -8], [-3, 29, 111, -9]]
theorem no_handles : (Rows.loudScalesRow.laid.filter fun x => x.2.handleName?.isSome) = [] := by kernel_rfl
theorem globs {W : World} (h : laidMetH Tryz.prog Rows.loudScalesRow.laid W) (hs : W.ShapedOpen Tryz.prog) : ∃ te tr, @GlobOk (G te tr) W (fun _ => False) := by
 have r2 : Lib.VarReads Tryz.prog W "internal/strconv.uint64pow10" (Lib.tabData .u64 Lib.pow10Tab) := laid_reads no_handles h (List.mem_of_getElem? (i := 2) (by kernel_rfl))
 have r0 : Lib.VarReads Tryz.prog W "strconv.ErrSyntax" (Rows.laid_strconv_ErrSyntax) := laid_reads no_handles h (List.mem_of_getElem? (i := 5) (by kernel_rfl))
 have r1 : Lib.VarReads Tryz.prog W "strconv.ErrRange" (Rows.laid_strconv_ErrRange) := laid_reads no_handles h (List.mem_of_getElem? (i := 4) (by kernel_rfl))
 have g2' := gv_ints' (g := 1) (by kernel_rfl) (by kernel_rfl) Tryz.underlying173 Tryz.underlying154 (by kernel_rfl) (by kernel_rfl) r2
 obtain ⟨te, g0'⟩ := gv_ifc (g := 4) (by kernel_rfl) (by kernel_rfl) Tryz.underlying117 r0
 obtain ⟨tr, g1'⟩ := gv_ifc (g := 5) (by kernel_rfl) (by kernel_rfl) Tryz.underlying117 r1
 have rk : Lib.VarReads Tryz.prog W "aircheck/loud.kernel" (.agg (kerR.map (Lib.tabData .i64))) := laid_reads no_handles h (List.mem_of_getElem? (i := 6) (by kernel_rfl))
 have gk' := gv_ints2 (g := 0) (by kernel_rfl) (by kernel_rfl) Tryz.underlying59 Tryz.underlying58 Tryz.underlying3 (by kernel_rfl) (by kernel_rfl) (by kernel_rfl) rk
 refine ⟨te, tr, fun g cs hg => ?_⟩
 have hm := globL_mem hg
 simp only [gl, List.mem_cons, List.mem_nil_iff, or_false, Prod.mk.injEq] at hm
 rcases hm with ⟨rfl, rfl⟩ | ⟨rfl, rfl⟩ | ⟨rfl, rfl⟩ | ⟨rfl, rfl⟩
 ·exact g0'
 ·exact g1'
 ·exact g2'
 ·exact gk'
end Go.VI.Loud
