/- What the rows' listed variables give the evaluator: the cells of the package variables that are read. -/
import Derived.Test.YtaadgpncmiaccaaGreatDoorRows
import Derived.Test.YtaadgpncmiaccaaGreatDoorRationalOk
import Derived.Test.YtaadgpncmiaccaaGreatDoorVLD
set_option linter.unusedVariables false
set_option linter.unusedSimpArgs false
namespace Go.VI.Rational
open Go.Proofs Go.Proofs.YtaadgpncmiaccaaGreatDoor
theorem no_handles : (Rows.rationalLowestRow.laid.filter fun x => x.2.handleName?.isSome) = [] := by kernel_rfl
theorem globs {W : World} (h : laidMetH Tryz.prog Rows.rationalLowestRow.laid W) (hs : W.ShapedOpen Tryz.prog) : ∃ q te tr, @GlobOk (G q te tr) W (fun _ => False) := by
 have r2 : Lib.VarReads Tryz.prog W "internal/strconv.uint64pow10" (Lib.tabData .u64 Lib.pow10Tab) := laid_reads no_handles h (List.mem_of_getElem? (i := 2) (by kernel_rfl))
 have r0 : Lib.VarReads Tryz.prog W "strconv.ErrSyntax" (Rows.laid_strconv_ErrSyntax) := laid_reads no_handles h (List.mem_of_getElem? (i := 5) (by kernel_rfl))
 have r1 : Lib.VarReads Tryz.prog W "strconv.ErrRange" (Rows.laid_strconv_ErrRange) := laid_reads no_handles h (List.mem_of_getElem? (i := 4) (by kernel_rfl))
 have g2' := gv_ints' (g := 1) (by kernel_rfl) (by kernel_rfl) Tryz.underlying169 Tryz.underlying146 (by kernel_rfl) (by kernel_rfl) r2
 obtain ⟨te, g0'⟩ := gv_ifc (g := 4) (by kernel_rfl) (by kernel_rfl) Tryz.underlying94 r0
 obtain ⟨tr, g1'⟩ := gv_ifc (g := 5) (by kernel_rfl) (by kernel_rfl) Tryz.underlying94 r1
 obtain ⟨q, gq'⟩ := gv_open_int (P := Tryz.prog) (g := 0) (t := 3) (zero := #[.int .i64 0]) hs (of_decide_eq_true (by kernel_rfl)) (by kernel_rfl) rfl (by kernel_rfl) (by kernel_rfl) Tryz.underlying3
 refine ⟨q, te, tr, fun g cs hg => ?_⟩
 have hm := globL_mem hg
 simp only [gl, List.mem_cons, List.mem_nil_iff, or_false, Prod.mk.injEq] at hm
 rcases hm with ⟨rfl, rfl⟩ | ⟨rfl, rfl⟩ | ⟨rfl, rfl⟩ | ⟨rfl, rfl⟩
 ·exact gq'
 ·exact g0'
 ·exact g1'
 ·exact g2'
end Go.VI.Rational
