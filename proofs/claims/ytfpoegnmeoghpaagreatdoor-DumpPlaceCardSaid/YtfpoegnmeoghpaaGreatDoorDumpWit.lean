/- A world for the witnesses: each listed variable holds what its initialiser lays. -/
import Derived.Test.YtfpoegnmeoghpaaGreatDoorDumpLaid
import Derived.WideWitness
import Derived.LaidLaws
import Derived.Deep.DeepHandedRow
import Derived.Deep.DeepWitnessRowRef
set_option linter.unusedVariables false
set_option linter.unusedSimpArgs false
namespace Go.VI.Dump
open Go.Proofs Go.Proofs.YtfpoegnmeoghpaaGreatDoor
mutual
def ak':DataW Unit->List Value
 |.lit (.int k n)=>[.int k n]
 |.lit (.string s)=>[.string ⟨s.toArray⟩]
 |.agg ds=>aDP ds
 |_=>[]
def aDP:List (DataW Unit)->List Value
 |[]=>[]
 |d::r=>ak' d++aDP r
end
noncomputable def axq (os:Os):World :=
 let N:=(World.settled Tryz.prog os).heap.size
 let w0:=World.holding Tryz.prog os ⟨#[.cells #[.string ⟨#[118,97,108,117,101,32,111,117,116,32,111,102,32,114,97,110,103,101]⟩] 265,.cells #[.string ⟨#[105,110,118,97,108,105,100,32,115,121,110,116,97,120]⟩] 265],#[],[]⟩
 let put (h:Array Obj) (g:Nat) (cs:Array Value):Array Obj:=h.modify g fun
  |.cells _ t frozen=>.cells cs t frozen
  |o=>o
 let h0:=put (put w0.heap 3 #[.iface 263 (.pointer (some ⟨N,0,none⟩))]) 2 #[.iface 263 (.pointer (some ⟨N+1,0,none⟩))]
 let h2:=put h0 0 (ak' Rows.laid_internal_strconv_uint64pow10).toArray
 let h3:=put h2 4 (ak' Rows.laid_unicode_utf8_first).toArray
 let h4:=put h3 5 (ak' Rows.laid_unicode_utf8_acceptRanges).toArray
 let h5:=put h4 6 (ak' Rows.laid_math_bits_deBruijn32tab).toArray
 let h6:=put h5 7 (ak' Rows.laid_math_bits_deBruijn64tab).toArray
 { w0 with heap:=h6 }
theorem aOh(os:Os)(args:Array Value):laidMetH Tryz.prog Rows.dumpCutRow.laid ((axq os).forCall (fun _ _=>0) ⟨#[],args,[]⟩).memory:=by
 unfold laidMetH;rw[ars];exact laidMet_of_run' 8 (by kernel_rfl) (by kernel_rfl)
end Go.VI.Dump
