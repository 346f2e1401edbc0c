/- the tables are the program's -/
import Derived.Test.YtfpoegnmeoghpaaGreatDoorLays
import Derived.Test.YtfpoegnmeoghpaaGreatDoorDumpTab
import Derived.Test.YtfpoegnmeoghpaaGreatDoorVSB
set_option linter.unusedVariables false
set_option linter.unusedSimpArgs false
namespace Go.VI.Dump
open Go.Proofs
def gl(te tr:Nat):List (Nat×List AV):=[(2,[.eZ te .undef]),(3,[.eZ tr .undef]),(0,Lib.pow10Tab.map (.int .u64))]
@[reducible] def G(te tr:Nat):bJ:={ gV:=BQ (gl te tr),l9:=193,rV:=5,Dq:=fun f=>f==154,Dr:=fun f=>f==155 }
theorem akn(te tr:Nat):(List.range Af.length).all (fun f=>(iW f).all (fun x=>@zP (G te tr) Tryz.prog aQ dN f x))=true:=by kernel_rfl
theorem extra:Go.Proofs.Builder.Extra Tryz.prog Tryz.lays105_ren:={
 sizeBuilder:=by kernel_rfl
 liesBuilder:=by kernel_rfl
 t5:=Tryz.underlying5
 a5:=Tryz.isAgg5
 z5:=Tryz.sizeOf5
 v5:=Tryz.zeroValue5
 infoByte:=by kernel_rfl
 cellsByte:=by kernel_rfl
 sizeByte:=by kernel_rfl
 neB5:=by decide }
theorem ge(te tr:Nat):BQ (gl te tr) 2 [.eZ te .undef]=true:=by simp[BQ,gl,BP,Ez]
theorem gr(te tr:Nat):BQ (gl te tr) 3 [.eZ tr .undef]=true:=by simp[BQ,gl,BP,Ez]
theorem ako:Go.Proofs.Lays.n166 Tryz.prog Tryz.lays105_ren:={ Tryz.lays105 with }
theorem akp:Go.Proofs.Lays.n169 Tryz.prog Tryz.lays105_ren:={ Tryz.lays105 with }
set_option maxRecDepth 100000 in
theorem tab(te tr:Nat):@BK (G te tr) (HV Tryz.prog aQ lib.dN (G te tr)) Tryz.prog aQ lib:=by
 letI:bJ:=G te tr
 letI:Rounds:=HV Tryz.prog aQ lib.dN (G te tr)
 have hks:∀ f k,kinds f=some k->nG Tryz.prog f k:=by
  intro f k h;unfold kinds at h;split at h
  ·cases h;have e:Tryz.lays171_ren.f 171=104:=by kernel_rfl
   exact e▸nG.itoa Tryz.lays171 (g:=0) (by kernel_rfl) (by kernel_rfl)
  ·cases h;have e:Tryz.lays105_ren.f 105=123:=by kernel_rfl
   exact e▸nG.BR Tryz.lays105 extra
  ·cases h;have e:Tryz.lays101_ren.f 101=163:=by kernel_rfl
   exact e▸nG.trimPrefix Tryz.lays101
  ·cases h;have e:Tryz.lays160_ren.f 160=164:=by kernel_rfl
   exact e▸nG.trim Tryz.lays160 (by kernel_rfl)
  ·cases h;have e:Tryz.lays172_ren.f 172=174:=by kernel_rfl
   have e2:Tryz.lays172_ren.t 168=243:=by kernel_rfl
   exact e▸e2▸nG.atoi Tryz.lays172 (te:=te) (tr:=tr) (ge te tr) (gr te tr)
  ·cases h
 have hw:∀ f,(f==154)=true->DX Tryz.prog f:=by
  intro f h;have h':f=154:=by simpa using h
  subst h';have e:Tryz.lays105_ren.f 166=154:=by kernel_rfl
  exact e▸akj ako extra (by kernel_rfl) (by kernel_rfl)
 have hb:∀ f,(f==155)=true->DY Tryz.prog f:=by
  intro f h;have h':f=155:=by simpa using h
  subst h';have e:Tryz.lays105_ren.f 169=155:=by kernel_rfl
  exact e▸akm akp extra (by kernel_rfl) (by kernel_rfl)
 refine BK.mk (by kernel_rfl) (fun f x hf=>?_) (aed hks) aee (aef fun f hf=>?_) hw hb
 ·have h1:=kr.mp (akn te tr) f
  have hlt:f<Af.length:=by
   rcases gJ f Af.length with h|h
   ·exact h
   ·have:iW f=none:=by unfold iW;rw[zR h];rfl
    have hf':iW f=some x:=hf;rw[this]at hf';cases hf'
  have h2:=h1 (List.mem_range.mpr hlt);have hf':iW f=some x:=hf;rw[hf']at h2;exact h2
 ·have hlt:f<Af.length:=by
   rcases gJ f Af.length with h|h
   ·exact h
   ·have:iW f=none:=by unfold iW;rw[zR h];rfl
    have hf':(iW f).isSome=true:=hf;rw[this]at hf';cases hf'
  have:(List.range Af.length).all (fun f=>(iW f).isNone||(kinds f).isNone)=true:=by decide +kernel
  have:=kr.mp this f (List.mem_range.mpr hlt);have hf':(iW f).isSome=true:=hf
  cases hq:iW f with
  |none=>rw[hq]at hf';cases hf'
  |some x=>rw[hq]at this;simpa using this
end Go.VI.Dump
