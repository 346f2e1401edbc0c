/- What the rows' listed variables give the evaluator: the cells of the package variables that are read. -/
import Derived.Test.YtfpoegnmeoghpaaGreatDoorRows
import Derived.Test.YtfpoegnmeoghpaaGreatDoorDumpOk
import Derived.Test.YtfpoegnmeoghpaaGreatDoorVLD
set_option linter.unusedVariables false
set_option linter.unusedSimpArgs false
namespace Go.VI.Dump
open Go.Proofs Go.Proofs.YtfpoegnmeoghpaaGreatDoor
theorem ars:(Rows.dumpCutRow.laid.filter fun x=>x.2.handleName?.isSome)=[]:=by kernel_rfl
theorem aOg{W:World}(h:laidMetH Tryz.prog Rows.dumpCutRow.laid W)(hs:W.ShapedOpen Tryz.prog):∃ te tr,@Y2 (G te tr) W (fun _=>False):=by
 have r2 : Lib.VarReads Tryz.prog W "internal/strconv.uint64pow10" (Lib.tabData .u64 Lib.pow10Tab) := axp ars h (ab5 (i := 2) (by kernel_rfl))
 have r0 : Lib.VarReads Tryz.prog W "strconv.ErrSyntax" (Rows.laid_strconv_ErrSyntax) := axp ars h (ab5 (i := 5) (by kernel_rfl))
 have r1 : Lib.VarReads Tryz.prog W "strconv.ErrRange" (Rows.laid_strconv_ErrRange) := axp ars h (ab5 (i := 4) (by kernel_rfl))
 have g2':=aOf (g:=0) (by kernel_rfl) (by kernel_rfl) Tryz.underlying237 Tryz.underlying176 (by kernel_rfl) (by kernel_rfl) r2
 obtain⟨te,g0'⟩:=aDO (g:=2) (by kernel_rfl) (by kernel_rfl) Tryz.underlying195 r0
 obtain⟨tr,g1'⟩:=aDO (g:=3) (by kernel_rfl) (by kernel_rfl) Tryz.underlying195 r1
 refine⟨te,tr,fun g cs hg=>?_⟩;have hm:=aIq hg;simp only[gl,A9,List.mem_nil_iff,or_false,bf]at hm;rcases hm with⟨rfl,rfl⟩|⟨rfl,rfl⟩|⟨rfl,rfl⟩
 ·exact g0'
 ·exact g1'
 ·exact g2'
end Go.VI.Dump
