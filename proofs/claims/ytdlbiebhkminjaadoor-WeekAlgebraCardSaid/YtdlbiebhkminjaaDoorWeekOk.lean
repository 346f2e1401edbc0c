/- the tables are the program's -/
import Derived.Test.YtdlbiebhkminjaaDoorLays
import Derived.Test.YtdlbiebhkminjaaDoorWeekTab
import Derived.Test.YtdlbiebhkminjaaDoorVSK
namespace Go.VI.Week
open Go.Proofs
/-- What the package variables hold: the names of the days; powers of ten; errors; a bound of the library's. -/
def gl (q : Int) (te tr : Nat) : List (Nat × List AV) := [(0, g0), (4, Lib.pow10Tab.map (.int .u64)), (1, [.int .i64 q]), (2, [.ifc te .undef]), (3, [.ifc tr .undef])]
@[reducible] def G (q : Int) (te tr : Nat) : Globs := { glob := globL (gl q te tr) }
theorem fn_all (q : Int) (te tr : Nat) : (List.range fnT.length).all (fun f => (fns f).all (fun x => @okFn (G q te tr) Tryd.prog clo rds f x)) = true := by kernel_rfl
theorem extra : Go.Proofs.Builder.Extra Tryd.prog Tryd.lays156_ren := {
  sizeBuilder := by kernel_rfl
  liesBuilder := by kernel_rfl
  t5 := Tryd.underlying5
  a5 := Tryd.isAgg5
  z5 := Tryd.sizeOf5
  v5 := Tryd.zeroValue5
  infoByte := by kernel_rfl
  cellsByte := by kernel_rfl
  sizeByte := by kernel_rfl
  neB5 := by decide }
theorem gq (q : Int) (te tr : Nat) : globL (gl q te tr) 1 [.int .i64 q] = true := by simp [globL, gl, feqL, feq]
theorem ge (q : Int) (te tr : Nat) : globL (gl q te tr) 2 [.ifc te .undef] = true := by simp [globL, gl, feqL, feq]
theorem gr (q : Int) (te tr : Nat) : globL (gl q te tr) 3 [.ifc tr .undef] = true := by simp [globL, gl, feqL, feq]
theorem tab (q : Int) (te tr : Nat) : @Tab (G q te tr) (roundsG Tryd.prog clo lib.rds (G q te tr)) Tryd.prog clo lib := by
  letI : Globs := G q te tr
  letI : Rounds := roundsG Tryd.prog clo lib.rds (G q te tr)
  have hks : ∀ f k, kinds f = some k → KindOk Tryd.prog f k := by
    intro f k h
    unfold kinds at h
    split at h
    · cases h; have e : Tryd.lays156_ren.f 156 = 26 := by kernel_rfl
      exact e ▸ KindOk.join Tryd.lays156 extra
    · cases h; have e : Tryd.lays146_ren.f 146 = 27 := by kernel_rfl
      exact e ▸ KindOk.split Tryd.lays146 (by kernel_rfl) (q := q) (gq q te tr)
    · cases h; have e : Tryd.lays171_ren.f 171 = 33 := by kernel_rfl
      exact e ▸ KindOk.itoa Tryd.lays171 (g := 4) (by kernel_rfl) (by kernel_rfl)
    · cases h; have e : Tryd.lays145_ren.f 145 = 38 := by kernel_rfl
      exact e ▸ KindOk.cut Tryd.lays145 (q := q) (gq q te tr)
    · cases h; have e : Tryd.lays172_ren.f 172 = 40 := by kernel_rfl
      have e2 : Tryd.lays172_ren.t 168 = 99 := by kernel_rfl
      exact e ▸ e2 ▸ KindOk.atoi Tryd.lays172 (te := te) (tr := tr) (ge q te tr) (gr q te tr)
    · cases h
  refine Tab.mk (by kernel_rfl) (fun f x hf => ?_) (orcT_ok hks) orcT_ext (orcT_none fun f hf => ?_) (fun f h => by cases h) (fun f h => by cases h)
  · have h1 := List.all_eq_true.mp (fn_all q te tr) f
    have hlt : f < fnT.length := by
      rcases Nat.lt_or_ge f fnT.length with h | h
      · exact h
      · have : fns f = none := by unfold fns; rw [List.getElem?_eq_none h]; rfl
        have hf' : fns f = some x := hf
        rw [this] at hf'; cases hf'
    have h2 := h1 (List.mem_range.mpr hlt)
    have hf' : fns f = some x := hf
    rw [hf'] at h2
    exact h2
  · have hlt : f < fnT.length := by
      rcases Nat.lt_or_ge f fnT.length with h | h
      · exact h
      · have : fns f = none := by unfold fns; rw [List.getElem?_eq_none h]; rfl
        have hf' : (fns f).isSome = true := hf
        rw [this] at hf'; cases hf'
    have : (List.range fnT.length).all (fun f => (fns f).isNone || (kinds f).isNone) = true := by decide +kernel
    have := List.all_eq_true.mp this f (List.mem_range.mpr hlt)
    have hf' : (fns f).isSome = true := hf
    cases hq : fns f with
    | none => rw [hq] at hf'; cases hf'
    | some x => rw [hq] at this; simpa using this
end Go.VI.Week
