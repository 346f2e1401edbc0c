/- the tables are the program's -/
import Derived.Test.YtaadgpncmiaccaaGreatDoorLays
import Derived.Test.YtaadgpncmiaccaaGreatDoorRationalTab
import Derived.Test.YtaadgpncmiaccaaGreatDoorVSB
set_option linter.unusedVariables false
set_option linter.unusedSimpArgs false
namespace Go.VI.Rational
open Go.Proofs
def gl (q : Int) (te tr : Nat) : List (Nat × List AV) := [(0, [.int .i64 q]), (4, [.ifc te .undef]), (5, [.ifc tr .undef]), (1, Lib.pow10Tab.map (.int .u64))]
@[reducible] def G (q : Int) (te tr : Nat) : Globs := { glob := globL (gl q te tr), bldT := 91, byteT := 5, bldF := fun f => f == 75, bstF := fun f => f == 76 }
theorem fn_all (q : Int) (te tr : Nat) : (List.range fnT.length).all (fun f => (fns f).all (fun x => @okFn (G q te tr) Tryz.prog clo rds f x)) = true := by kernel_rfl
theorem extra : Go.Proofs.Builder.Extra Tryz.prog Tryz.lays105_ren := {
 sizeBuilder := by kernel_rfl
 liesBuilder := by kernel_rfl
 t5 := Tryz.underlying5
 a5 := Tryz.isAgg5
 z5 := Tryz.sizeOf5
 v5 := Tryz.zeroValue5
 infoByte := by kernel_rfl
 cellsByte := by kernel_rfl
 sizeByte := by kernel_rfl
 neB5 := by decide }
theorem extra2 : Go.Proofs.Builder.Extra Tryz.prog Tryz.lays156_ren := {
 sizeBuilder := by kernel_rfl
 liesBuilder := by kernel_rfl
 t5 := Tryz.underlying5
 a5 := Tryz.isAgg5
 z5 := Tryz.sizeOf5
 v5 := Tryz.zeroValue5
 infoByte := by kernel_rfl
 cellsByte := by kernel_rfl
 sizeByte := by kernel_rfl
 neB5 := by decide }
theorem gq (q : Int) (te tr : Nat) : globL (gl q te tr) 0 [.int .i64 q] = true := by simp [globL, gl, feqL, feq]
theorem ge (q : Int) (te tr : Nat) : globL (gl q te tr) 4 [.ifc te .undef] = true := by simp [globL, gl, feqL, feq]
theorem gr (q : Int) (te tr : Nat) : globL (gl q te tr) 5 [.ifc tr .undef] = true := by simp [globL, gl, feqL, feq]
theorem l166 : Go.Proofs.Lays.n166 Tryz.prog Tryz.lays105_ren := { Tryz.lays105 with }
theorem l169 : Go.Proofs.Lays.n169 Tryz.prog Tryz.lays105_ren := { Tryz.lays105 with }
set_option maxRecDepth 100000 in
theorem tab (q : Int) (te tr : Nat) : @Tab (G q te tr) (roundsG Tryz.prog clo lib.rds (G q te tr)) Tryz.prog clo lib := by
 letI : Globs := G q te tr
 letI : Rounds := roundsG Tryz.prog clo lib.rds (G q te tr)
 have hks : ∀ f k, kinds f = some k → KindOk Tryz.prog f k := by
  intro f k h
  unfold kinds at h
  split at h
  ·cases h; have e : Tryz.lays156_ren.f 156 = 47 := by kernel_rfl
   exact e ▸ KindOk.join Tryz.lays156 extra2
  ·cases h; have e : Tryz.lays145_ren.f 145 = 48 := by kernel_rfl
   exact e ▸ KindOk.cut Tryz.lays145 (q := q) (gq q te tr)
  ·cases h; have e : Tryz.lays105_ren.f 105 = 96 := by kernel_rfl
   exact e ▸ KindOk.repeat_ Tryz.lays105 extra
  ·cases h; have e : Tryz.lays171_ren.f 171 = 98 := by kernel_rfl
   exact e ▸ KindOk.itoa Tryz.lays171 (g := 1) (by kernel_rfl) (by kernel_rfl)
  ·cases h; have e : Tryz.lays101_ren.f 101 = 102 := by kernel_rfl
   exact e ▸ KindOk.trimPrefix Tryz.lays101
  ·cases h; have e : Tryz.lays160_ren.f 160 = 103 := by kernel_rfl
   exact e ▸ KindOk.trim Tryz.lays160 (by kernel_rfl)
  ·cases h; have e : Tryz.lays172_ren.f 172 = 135 := by kernel_rfl
   have e2 : Tryz.lays172_ren.t 168 = 165 := by kernel_rfl
   exact e ▸ e2 ▸ KindOk.atoi Tryz.lays172 (te := te) (tr := tr) (ge q te tr) (gr q te tr)
  ·cases h
 have hw : ∀ f, (f == 75) = true → WrOk Tryz.prog f := by
  intro f h
  have h' : f = 75 := by simpa using h
  subst h'
  have e : Tryz.lays105_ren.f 166 = 75 := by kernel_rfl
  exact e ▸ wrOk l166 extra (by kernel_rfl) (by kernel_rfl)
 have hb : ∀ f, (f == 76) = true → BsOk Tryz.prog f := by
  intro f h
  have h' : f = 76 := by simpa using h
  subst h'
  have e : Tryz.lays105_ren.f 169 = 76 := by kernel_rfl
  exact e ▸ bsOk l169 extra (by kernel_rfl) (by kernel_rfl)
 refine Tab.mk (by kernel_rfl) (fun f x hf => ?_) (orcT_ok hks) orcT_ext (orcT_none fun f hf => ?_) hw hb
 ·have h1 := List.all_eq_true.mp (fn_all q te tr) f
  have hlt : f < fnT.length := by
   rcases Nat.lt_or_ge f fnT.length with h | h
   ·exact h
   ·have : fns f = none := by unfold fns; rw [List.getElem?_eq_none h]; rfl
    have hf' : fns f = some x := hf
    rw [this] at hf'; cases hf'
  have h2 := h1 (List.mem_range.mpr hlt)
  have hf' : fns f = some x := hf
  rw [hf'] at h2
  exact h2
 ·have hlt : f < fnT.length := by
   rcases Nat.lt_or_ge f fnT.length with h | h
   ·exact h
   ·have : fns f = none := by unfold fns; rw [List.getElem?_eq_none h]; rfl
    have hf' : (fns f).isSome = true := hf
    rw [this] at hf'; cases hf'
  have : (List.range fnT.length).all (fun f => (fns f).isNone || (kinds f).isNone) = true := by decide +kernel
  have := List.all_eq_true.mp this f (List.mem_range.mpr hlt)
  have hf' : (fns f).isSome = true := hf
  cases hq : fns f with
  | none => rw [hq] at hf'; cases hf'
  | some x => rw [hq] at this; simpa using this
end Go.VI.Rational
