/- Plain laws that every walk uses, with those of the evaluator. -/
import Derived.Test.YtfpoegnmeoghpaaGreatDoorVIRF
set_option linter.unusedVariables false
set_option linter.unusedSimpArgs false
attribute [go_sem] Nat.succ_ne_self ne_eq not_true_eq_false not_false_eq_true and_self and_true true_and Nat.zero_add Nat.sub_zero Nat.zero_mul Nat.one_mul Nat.le_refl List.getElem?_cons_zero List.set_cons_zero Int.toNat_natCast Int.natCast_zero
attribute [go_sem_proc] Nat.reduceEqDiff Nat.reduceAdd Nat.reduceSub Nat.reduceMul Nat.reduceLT Nat.reduceLeDiff reduceCtorEq Int.reduceToNat Int.reduceLT Int.reduceLE Int.reduceAdd Int.reduceSub Int.reduceMul Int.reduceEq Int.reduceNe
attribute [go_sem_proc ↓] reduceIte
attribute [go_sem] Go.VI.asH Go.VI.aH6 Go.VI.aH7 Go.VI.aAm Go.VI.aH3 Go.VI.aH4 Go.VI.aH8 Go.VI.aH9 Go.VI.aAo
