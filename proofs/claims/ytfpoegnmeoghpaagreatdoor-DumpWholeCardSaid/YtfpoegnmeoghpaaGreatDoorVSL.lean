/- Texts, plainly: where one lies in another, cuts, splits, decimal numbers; held against the library's own words. -/
import Derived.Lib.SplitLaws
import Derived.Lib.Strings
import Derived.Lib.Join
import Derived.Lib.Repeat
import Derived.Lib.SlTrimSet
import Derived.Lib.ItoaNum
import Derived.Lib.AtoiAll
set_option linter.unusedVariables false
set_option linter.unusedSimpArgs false
namespace Go.VI
def findL (sub : List UInt8) : List UInt8 → Option Nat
 | [] => if sub.isEmpty then some 0 else none
 | b :: l => if sub.isPrefixOf (b :: l) then some 0 else (findL sub l).map (· + 1)
def cutL (s sep : List UInt8) : List UInt8 × List UInt8 × Bool :=
 match findL sep s with
 | some i => (s.take i,s.drop (i + sep.length),true)
 | none => (s,[],false)
def splitF (sep : List UInt8) : Nat → List UInt8 → List (List UInt8)
 | 0,s => [s]
 | k + 1,s => match findL sep s with
  | some i => s.take i :: splitF sep k (s.drop (i + sep.length))
  | none => [s]
def splitL (s sep : List UInt8) : List (List UInt8) := splitF sep s.length s
def decF : Nat → Nat → List UInt8
 | 0,_ => []
 | f + 1,u => if u < 10 then [UInt8.ofNat (48 + u)] else decF f (u / 10) ++ [UInt8.ofNat (48 + u % 10)]
def itoaL (n : Int) : List UInt8 := if n < 0 then 45 :: decF 20 n.natAbs else decF 20 n.toNat
theorem decF_eq : ∀ (f u : Nat),u < 10 ^ f → decF f u = if u = 0 ∧ f = 0 then [] else Lib.decDigits u
 | 0,u,h => by
  have : u = 0 := by simpa using h
  subst this; simp [decF]
 | f + 1,u,h => by
  rw [if_neg (by omega)]
  rw [Lib.decDigits]
  unfold decF
  split
  ·rfl
  ·rename_i h10
   rw [decF_eq f (u / 10) (by rw [Nat.pow_succ] at h; omega),if_neg (by omega)]
theorem itoa_eq {n : Int} (h0 : -9223372036854775808 ≤ n) (h1 : n ≤ 9223372036854775807) : Lib.itoa n = itoaL n := by
 have hp : (9223372036854775808 : Nat) < 10 ^ 20 := by decide
 unfold Lib.itoa itoaL
 split
 ·rw [decF_eq 20 _ (by omega),if_neg (by omega)]
 ·rw [decF_eq 20 _ (by omega),if_neg (by omega)]
end Go.VI
