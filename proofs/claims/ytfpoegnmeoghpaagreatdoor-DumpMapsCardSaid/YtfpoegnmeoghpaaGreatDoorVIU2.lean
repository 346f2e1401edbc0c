/- What the laws are handed, as lists. -/
import Derived.Test.YtfpoegnmeoghpaaGreatDoorVIY
import Derived.Test.YtfpoegnmeoghpaaGreatDoorVIZ
set_option linter.unusedVariables false
set_option linter.unusedSimpArgs false
namespace Go.VI
theorem alf{z:Nat}{e:jG}{cs:List AV}(h:lK (.slice z e) cs):∃ es,(∀ hp,Sl hp z (jG.mk (.slice z e) cs) es)/\es.length<=9223372036854775807/\∀ x∈es,∃ c,x=e.mk c/\lK e c:=by
 simp only[lK]at h;rcases h with rfl|⟨es,rfl,h1,h2⟩
 ·exact⟨[],fun hp=>Sl.nil hp z,by simp,by simp⟩
 ·exact⟨es,fun hp=>Sl.aW hp z es,h1,h2⟩
theorem abk{α:Type}{f:α->AV}{Q:α->Prop}:∀{es:List AV},(∀ x∈es,∃ p,x=f p/\Q p)->∃ l:List α,es=l.map f/\∀ p∈l,Q p
 |[],_=>⟨[],rfl,by simp⟩
 |e::es,h=>by
  obtain⟨p,rfl,hp⟩:=h e (by simp)
  obtain⟨l,rfl,hl⟩:=abk (es:=es) (f:=f) (Q:=Q) fun x hx=>h x (by simp[hx])
  refine⟨p::l,rfl,fun q hq=>?_⟩;rcases ko.mp hq with rfl|hq
  ·exact hp
  ·exact hl q hq
theorem alg{k:IntKind}{cs:List AV}(h:lK (.int k) cs):∃ n,cs=[.int k n]/\k.min<=n/\n<=k.max:=by
 simp only[lK]at h;obtain⟨n,rfl,hw⟩:=h;simp only[Lit.wf,bM,decide_eq_true_eq]at hw;exact⟨n,rfl,hw.1,hw.2⟩
theorem OP{cs:List AV}(h:lK (.int .i64) cs):∃ n,cs=[.int .i64 n]/\-9223372036854775808<=n/\n<=9223372036854775807:=by
 obtain⟨n,h1,h2,h3⟩:=alg h;refine⟨n,h1, ?_, ?_⟩
 ·have:IntKind.i64.min=-9223372036854775808:=by decide
  omega
 ·have:IntKind.i64.max=9223372036854775807:=by decide
  omega
end Go.VI
