/- What the functions on integers compute, part MV. -/
import Derived.Test.YtaadgpncmiaccaaGreatDoorRationalMS
set_option linter.unusedVariables false
set_option linter.unusedSimpArgs false
namespace Go.VI.Rational
open Go.VI.Num
def nS (o : Option Rat) : List UInt8 := match o with | some q => itxt q.num | none => []
def dS (o : Option Rat) : List UInt8 := match o with | some q => itxt (q.den : Int) | none => []
def eO (o : Option Rat) : Int := match o with | some _ => 0 | none => 40
def rO (o : Option Rat) : AV := .agg [.str (nS o), .str (dS o)]
theorem resO_eq (o : Option Rat) : resO o = .tuple [rO o, .int .i64 (eO o)] := by cases o <;> rfl
theorem fourV_eq (a b c d : Option Rat) : fourV a b c d = .tuple [.agg [.str (nS a), .str (dS a), .str (nS b), .str (dS b), .str (nS c), .str (dS c), .str (nS d), .str (dS d)], .agg [.int .i64 (eO a), .int .i64 (eO b), .int .i64 (eO c), .int .i64 (eO d)]] := by
 cases a <;> cases b <;> cases c <;> cases d <;> rfl
def FitO (o : Option Rat) : Prop := ∀ q, o = some q → FitQ q
theorem FitQ.o {q : Rat} (h : FitQ q) : FitO (some q) := fun p e => Option.some.inj e ▸ h
def liftO (f : Rat → Rat → Option Rat) (a b : Option Rat) : Option Rat := match a, b with | some a, some b => f a b | _, _ => none
variable {a b c : Rat}
end Go.VI.Rational
