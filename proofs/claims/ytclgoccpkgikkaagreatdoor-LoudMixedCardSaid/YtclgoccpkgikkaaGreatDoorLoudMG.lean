/- What the functions on integers compute, part MG. -/
import Derived.Test.YtclgoccpkgikkaaGreatDoorLoudML
import Derived.Test.YtclgoccpkgikkaaGreatDoorLoudMS
set_option linter.unusedVariables false
set_option linter.unusedSimpArgs false
namespace Go.VI.Loud
open Go.VI.Num
/- BIGSTEPS -/
def keepsB (l : List Int) (g m c : Int) : Bool := decide (cmpQ (measQ (blocksL l) g) (Rat.divInt m 1) ≤ 0) && decide (peakL l * g ≤ c * 1024)
theorem keeps_okG {l : List Int} {g m c : Int} (hg : 0 < g) (hm : 0 ≤ m) : keepsB l g m c = okG (blocksL l) (peakL l) m c g := by
 rw [gain_iff hg hm, Bool.and_comm]; rfl
theorem gain_keeps {l : List Int} {m c : Int} (hm : 0 ≤ m) (hc : 0 ≤ c) : gainL l m c ≤ 4096 ∧ keepsB l (gainL l m c : Nat) m c = true ∧ ∀ j : Nat, gainL l m c < j → j ≤ 4096 → keepsB l (j : Nat) m c = false := by
 refine ⟨gFind_le _ _ _ _ _, ?_, fun j h1 h2 => ?_⟩
 ·by_cases h0 : gainL l m c = 0
  ·rw [h0]
   have z := meas_zero (es := blocksL l) hm
   have e0 : ((0 : Nat) : Int) = 0 := rfl
   unfold keepsB
   rw [e0, decide_eq_true z, Bool.true_and, decide_eq_true_eq, Int.mul_zero]
   omega
  ·rw [keeps_okG (by omega) hm]
   exact (gFind_ok (blocksL l) (peakL l) m c 4096).resolve_left h0
 ·rw [keeps_okG (by omega) hm]
  exact gFind_not (blocksL l) (peakL l) m c 4096 j h1 h2
def shGain : List Shp := [.slice 1 (.int .i64), .int .i64, .int .i64, .int .i64]
theorem islice_of {t : List AV} (h : TyL (.slice 1 (.int .i64)) t) : ∃ xs : List Int, (∀ hp, Sl hp 1 (Shp.mk (.slice 1 (.int .i64)) t) (ints xs)) ∧ xs.length ≤ 9223372036854775807 ∧ ∀ x ∈ xs, I64 x := by
 obtain ⟨es, h1, h2, h3⟩ := slice_of h
 obtain ⟨l, rfl, hQ⟩ := list_of (f := AV.int .i64) (Q := I64) (es := es) fun x hx => by
  obtain ⟨c, rfl, hc⟩ := h3 x hx
  obtain ⟨n, rfl, g1, g2⟩ := i64_of hc
  exact ⟨n, rfl, g1, g2⟩
 exact ⟨l, h1, by simpa using h2, hQ⟩
theorem lint_of' {t : List AV} (h : TyL (.int .i64) t) : ∃ n, Shp.mk (.int .i64) t = .int .i64 n ∧ I64 n := by
 obtain ⟨n, rfl, h1, h2⟩ := i64_of h
 exact ⟨n, rfl, h1, h2⟩
end Go.VI.Loud
