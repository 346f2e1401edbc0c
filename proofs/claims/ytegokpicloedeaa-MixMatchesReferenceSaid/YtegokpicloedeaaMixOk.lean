/- the tables are the program's -/
import Derived.Test.YtegokpicloedeaaProg
import Derived.Test.YtegokpicloedeaaMixTab
namespace Go.VI.Mix
open Go.Proofs
theorem fn_all : (List.range fnT.length).all (fun f => (fns f).all (fun x => okFn Try.prog clo rds f x)) = true := by kernel_rfl
theorem tab : @Tab (roundsOf Try.prog clo lib.rds) Try.prog clo lib := by
  letI : Rounds := roundsOf Try.prog clo lib.rds
  have no : ∀ f args h, lib.orc f args h = none := fun _ _ _ => rfl
  refine Tab.mk (by kernel_rfl) (fun f x hf => ?_) (fun f args h r hr => by rw [no] at hr; cases hr) (fun f args h r hr => by rw [no] at hr; cases hr) (fun f args h hn i v b hd hs => rfl)
  have h1 := List.all_eq_true.mp fn_all f
  have hlt : f < fnT.length := by
    rcases Nat.lt_or_ge f fnT.length with h | h
    · exact h
    · have : fns f = none := by unfold fns; rw [List.getElem?_eq_none h]; rfl
      have hf' : fns f = some x := hf
      rw [this] at hf'; cases hf'
  have h2 := h1 (List.mem_range.mpr hlt)
  have hf' : fns f = some x := hf
  rw [hf'] at h2
  exact h2
end Go.VI.Mix
