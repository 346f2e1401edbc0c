/- Texts, plainly: where one lies in another, cuts, splits, decimal numbers; held against the library's own words. -/
import Derived.Lib.SplitLaws
import Derived.Lib.Strings
import Derived.Lib.Join
import Derived.Lib.Repeat
import Derived.Lib.SlTrimSet
import Derived.Lib.ItoaNum
import Derived.Lib.AtoiAll
set_option linter.unusedVariables false
set_option linter.unusedSimpArgs false
namespace Go.VI
def findL (sub : List UInt8) : List UInt8 → Option Nat
 | [] => if sub.isEmpty then some 0 else none
 | b :: l => if sub.isPrefixOf (b :: l) then some 0 else (findL sub l).map (· + 1)
def cutL (s sep : List UInt8) : List UInt8 × List UInt8 × Bool :=
 match findL sep s with
 | some i => (s.take i, s.drop (i + sep.length), true)
 | none => (s, [], false)
def splitF (sep : List UInt8) : Nat → List UInt8 → List (List UInt8)
 | 0, s => [s]
 | k + 1, s => match findL sep s with
  | some i => s.take i :: splitF sep k (s.drop (i + sep.length))
  | none => [s]
def splitL (s sep : List UInt8) : List (List UInt8) := splitF sep s.length s
def decF : Nat → Nat → List UInt8
 | 0, _ => []
 | f + 1, u => if u < 10 then [UInt8.ofNat (48 + u)] else decF f (u / 10) ++ [UInt8.ofNat (48 + u % 10)]
def itoaL (n : Int) : List UInt8 := if n < 0 then 45 :: decF 20 n.natAbs else decF 20 n.toNat
theorem index_eq (sub : List UInt8) : ∀ s, Lib.index s sub = match findL sub s with | some i => (i : Int) | none => -1
 | [] => by unfold Lib.index findL; split <;> rfl
 | b :: l => by
  unfold Lib.index findL
  split
  ·rfl
  ·rw [index_eq sub l]
   cases findL sub l with
   | none => rfl
   | some i =>
    simp only [Option.map_some, beq_iff_eq]
    rw [if_neg (by omega)]
    push_cast
    rfl
theorem index_none {s sub : List UInt8} (h : findL sub s = none) : Lib.index s sub = -1 := by rw [index_eq, h]
theorem index_some {s sub : List UInt8} {i : Nat} (h : findL sub s = some i) : Lib.index s sub = i := by rw [index_eq, h]
theorem cut_eq (s sep : List UInt8) : Lib.cut s sep = cutL s sep := by
 unfold Lib.cut cutL
 cases h : findL sep s with
 | none => rw [index_none h]; simp
 | some i => rw [index_some h]; simp
theorem findL_le {sub : List UInt8} : ∀ {s : List UInt8} {i : Nat}, findL sub s = some i → i + sub.length ≤ s.length
 | [], i, h => by
  unfold findL at h
  split at h
  ·rename_i h0
   simp only [Option.some.injEq] at h
   have : sub = [] := by simpa using h0
   subst this; subst h; simp
  ·cases h
 | b :: l, i, h => by
  unfold findL at h
  split at h
  ·rename_i h0
   simp only [Option.some.injEq] at h
   subst h
   have := (List.isPrefixOf_iff_prefix.mp h0).length_le
   omega
  ·obtain ⟨j, h1, rfl⟩ := Option.map_eq_some_iff.mp h
   have := findL_le h1
   simp only [List.length_cons]
   omega
theorem splitK_eq {sep : List UInt8} (h1 : sep ≠ []) : ∀ (k n : Nat) (s : List UInt8), Lib.count s sep = k → s.length ≤ n → Lib.splitK sep 0 k s = splitF sep n s := by
 have hpos : 0 < sep.length := List.length_pos_iff.mpr h1
 intro k
 induction k with
 | zero =>
  intro n s hk hn
  cases hf : findL sep s with
  | some i => rw [Lib.count_hit h1 (index_some hf)] at hk; omega
  | none =>
   cases n with
   | zero => rfl
   | succ n => simp [Lib.splitK, splitF, hf]
 | succ k ih =>
  intro n s hk hn
  cases hf : findL sep s with
  | none => rw [Lib.count_miss (index_none hf)] at hk; omega
  | some i =>
   have hle := findL_le hf
   have hi := index_some hf
   rw [Lib.count_hit h1 hi] at hk
   cases n with
   | zero => omega
   | succ n =>
    have : ¬ (Lib.index s sep == -1) = true := by rw [hi]; simp
    simp only [Lib.splitK, splitF, hf, if_neg this]
    rw [hi]
    simp only [Int.toNat_natCast, Nat.add_zero]
    rw [ih n _ (by omega) (by simp; omega)]
theorem split_eq {s sep : List UInt8} (h1 : sep ≠ []) : Lib.splitK sep 0 (Lib.count s sep) s = splitL s sep := splitK_eq h1 _ _ _ rfl (Nat.le_refl _)
theorem decF_eq : ∀ (f u : Nat), u < 10 ^ f → decF f u = if u = 0 ∧ f = 0 then [] else Lib.decDigits u
 | 0, u, h => by
  have : u = 0 := by simpa using h
  subst this; simp [decF]
 | f + 1, u, h => by
  rw [if_neg (by omega)]
  rw [Lib.decDigits]
  unfold decF
  split
  ·rfl
  ·rename_i h10
   rw [decF_eq f (u / 10) (by rw [Nat.pow_succ] at h; omega), if_neg (by omega)]
theorem itoa_eq {n : Int} (h0 : -9223372036854775808 ≤ n) (h1 : n ≤ 9223372036854775807) : Lib.itoa n = itoaL n := by
 have hp : (9223372036854775808 : Nat) < 10 ^ 20 := by decide
 unfold Lib.itoa itoaL
 split
 ·rw [decF_eq 20 _ (by omega), if_neg (by omega)]
 ·rw [decF_eq 20 _ (by omega), if_neg (by omega)]
end Go.VI
