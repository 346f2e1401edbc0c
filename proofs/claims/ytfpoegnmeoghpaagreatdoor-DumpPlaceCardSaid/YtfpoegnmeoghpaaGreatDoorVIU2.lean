/- What the laws are handed, as lists. -/
import Derived.Test.YtfpoegnmeoghpaaGreatDoorVIY
import Derived.Test.YtfpoegnmeoghpaaGreatDoorVIZ
set_option linter.unusedVariables false
set_option linter.unusedSimpArgs false
namespace Go.VI
theorem aIl{z:Nat}{e:xR}{cs:List AV}(h:Dl (.slice z e) cs):∃ es,(∀ hp,Sl hp z (xR.mk (.slice z e) cs) es)/\es.length<=9223372036854775807/\∀ x∈es,∃ c,x=e.mk c/\Dl e c:=by
 simp only[Dl]at h;rcases h with rfl|⟨es,rfl,h1,h2⟩
 ·exact⟨[],fun hp=>Sl.nil hp z,by simp,by simp⟩
 ·exact⟨es,fun hp=>Sl.eY hp z es,h1,h2⟩
theorem aAD{α:Type}{f:α->AV}{Q:α->Prop}:∀{es:List AV},(∀ x∈es,∃ p,x=f p/\Q p)->∃ l:List α,es=l.map f/\∀ p∈l,Q p
 |[],_=>⟨[],rfl,by simp⟩
 |e::es,h=>by
  obtain⟨p,rfl,hp⟩:=h e (by simp)
  obtain⟨l,rfl,hl⟩:=aAD (es:=es) (f:=f) (Q:=Q) fun x hx=>h x (by simp[hx])
  refine⟨p::l,rfl,fun q hq=>?_⟩;rcases A9.mp hq with rfl|hq
  ·exact hp
  ·exact hl q hq
theorem aIm{k:IntKind}{cs:List AV}(h:Dl (.int k) cs):∃ n,cs=[.int k n]/\k.min<=n/\n<=k.max:=by
 simp only[Dl]at h;obtain⟨n,rfl,hw⟩:=h;simp only[Lit.wf,fw,decide_eq_true_eq]at hw;exact⟨n,rfl,hw.1,hw.2⟩
theorem aox{cs:List AV}(h:Dl (.int .i64) cs):∃ n,cs=[.int .i64 n]/\-9223372036854775808<=n/\n<=9223372036854775807:=by
 obtain⟨n,h1,h2,h3⟩:=aIm h;refine⟨n,h1, ?_, ?_⟩
 ·have:IntKind.i64.min=-9223372036854775808:=by decide
  omega
 ·have:IntKind.i64.max=9223372036854775807:=by decide
  omega
end Go.VI
