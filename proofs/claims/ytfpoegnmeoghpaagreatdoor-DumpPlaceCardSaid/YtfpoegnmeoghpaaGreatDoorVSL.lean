/- Texts, plainly: where one lies in another, cuts, splits, decimal numbers; held against the library's own words. -/
import Derived.Test.YtfpoegnmeoghpaaGreatDoorVAL
import Derived.Lib.SplitLaws
import Derived.Lib.Strings
import Derived.Lib.Join
import Derived.Lib.Repeat
import Derived.Lib.SlTrimSet
import Derived.Lib.ItoaNum
import Derived.Lib.AtoiAll
set_option linter.unusedVariables false
set_option linter.unusedSimpArgs false
namespace Go.VI
def asV(sub:List UInt8):List UInt8->Option Nat
 |[]=>if sub.isEmpty then some 0 else none
 |b::l=>if sub.isPrefixOf (b::l)then some 0 else(asV sub l).map (·+1)
def asW(s sep:List UInt8):List UInt8×List UInt8×Bool :=
 match asV sep s with
 |some i=>(s.take i,s.drop (i+sep.length),true)
 |none=>(s,[],false)
def aAE(sep:List UInt8):Nat->List UInt8->List (List UInt8)
 |0,s=>[s]
 |k+1,s=>match asV sep s with
  |some i=>s.take i::aAE sep k (s.drop (i+sep.length))
  |none=>[s]
def aIn(s sep:List UInt8):List (List UInt8):=aAE sep s.length s
def Tv:Nat->Nat->List UInt8
 |0,_=>[]
 |f+1,u=>if u<10 then[UInt8.ofNat (48+u)]else Tv f (u/10)++[UInt8.ofNat (48+u%10)]
def al9(n:Int):List UInt8:=if n<0 then 45::Tv 20 n.natAbs else Tv 20 n.toNat
theorem akl:∀(f u:Nat),u<10^f->Tv f u=if u=0/\f=0 then[]else Lib.decDigits u
 |0,u,h=>by
  have:u=0:=by simpa using h
  subst this;simp[Tv]
 |f+1,u,h=>by
  rw[if_neg (by omega)]
  rw[Lib.decDigits];unfold Tv;split
  ·rfl
  ·rename_i h10;rw[akl f (u/10) (by rw[Nat.pow_succ]at h;omega),if_neg (by omega)]
theorem aIo{n:Int}(h0:-9223372036854775808<=n)(h1:n<=9223372036854775807):Lib.itoa n=al9 n:=by
 have hp:(9223372036854775808:Nat)<10^20:=by decide
 unfold Lib.itoa al9;split
 ·rw[akl 20 _ (by omega),if_neg (by omega)]
 ·rw[akl 20 _ (by omega),if_neg (by omega)]
end Go.VI
