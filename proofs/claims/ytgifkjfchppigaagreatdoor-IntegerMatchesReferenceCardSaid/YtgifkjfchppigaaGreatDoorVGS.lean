/- Plain laws that every walk uses, with those of the evaluator. -/
import Derived.Test.YtgifkjfchppigaaGreatDoorVIRF
attribute [go_sem] Nat.succ_ne_self ne_eq not_true_eq_false not_false_eq_true and_self and_true true_and Nat.zero_add Nat.sub_zero Nat.zero_mul Nat.one_mul Nat.le_refl List.getElem?_cons_zero List.set_cons_zero Int.toNat_natCast Int.natCast_zero
