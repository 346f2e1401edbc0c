/- Texts, plainly: where one lies in another, cuts, splits, decimal numbers; held against the library's own words. -/
import Derived.Test.YtfpoegnmeoghpaaGreatDoorVAL
import Derived.Lib.SplitLaws
import Derived.Lib.Strings
import Derived.Lib.Join
import Derived.Lib.Repeat
import Derived.Lib.SlTrimSet
import Derived.Lib.ItoaNum
import Derived.Lib.AtoiAll
set_option linter.unusedVariables false
set_option linter.unusedSimpArgs false
namespace Go.VI
def Tf(sub:List UInt8):List UInt8->Option Nat
 |[]=>if sub.isEmpty then some 0 else none
 |b::l=>if sub.isPrefixOf (b::l)then some 0 else(Tf sub l).map (·+1)
def Tg(s sep:List UInt8):List UInt8×List UInt8×Bool :=
 match Tf sep s with
 |some i=>(s.take i,s.drop (i+sep.length),true)
 |none=>(s,[],false)
def abl(sep:List UInt8):Nat->List UInt8->List (List UInt8)
 |0,s=>[s]
 |k+1,s=>match Tf sep s with
  |some i=>s.take i::abl sep k (s.drop (i+sep.length))
  |none=>[s]
def alh(s sep:List UInt8):List (List UInt8):=abl sep s.length s
def wF:Nat->Nat->List UInt8
 |0,_=>[]
 |f+1,u=>if u<10 then[UInt8.ofNat (48+u)]else wF f (u/10)++[UInt8.ofNat (48+u%10)]
def KN(n:Int):List UInt8:=if n<0 then 45::wF 20 n.natAbs else wF 20 n.toNat
theorem Ho:∀(f u:Nat),u<10^f->wF f u=if u=0/\f=0 then[]else Lib.decDigits u
 |0,u,h=>by
  have:u=0:=by simpa using h
  subst this;simp[wF]
 |f+1,u,h=>by
  rw[if_neg (by omega)]
  rw[Lib.decDigits];unfold wF;split
  ·rfl
  ·rename_i h10;rw[Ho f (u/10) (by rw[yJ]at h;omega),if_neg (by omega)]
theorem ali{n:Int}(h0:-9223372036854775808<=n)(h1:n<=9223372036854775807):Lib.itoa n=KN n:=by
 have hp:(9223372036854775808:Nat)<10^20:=by decide
 unfold Lib.itoa KN;split
 ·rw[Ho 20 _ (by omega),if_neg (by omega)]
 ·rw[Ho 20 _ (by omega),if_neg (by omega)]
end Go.VI
