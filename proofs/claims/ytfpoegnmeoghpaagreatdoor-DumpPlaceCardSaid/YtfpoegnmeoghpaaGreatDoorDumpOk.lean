/- the tables are the program's -/
import Derived.Test.YtfpoegnmeoghpaaGreatDoorLays
import Derived.Test.YtfpoegnmeoghpaaGreatDoorDumpTab
import Derived.Test.YtfpoegnmeoghpaaGreatDoorVSB
set_option linter.unusedVariables false
set_option linter.unusedSimpArgs false
namespace Go.VI.Dump
open Go.Proofs
def gl(te tr:Nat):List (Nat×List AV):=[(2,[.rM te .undef]),(3,[.rM tr .undef]),(0,Lib.pow10Tab.map (.int .u64))]
@[reducible] def G(te tr:Nat):kH:={ CX:=akn (gl te tr),Nq:=193,Y1:=5,ald:=fun f=>f==154,ale:=fun f=>f==155 }
theorem aOb(te tr:Nat):(List.range fnT.length).all (fun f=>(FJ f).all (fun x=>@ai2 (G te tr) Tryz.prog eB qR f x))=true:=by kernel_rfl
theorem extra:Go.Proofs.Builder.Extra Tryz.prog Tryz.lays105_ren:={
 sizeBuilder:=by kernel_rfl
 liesBuilder:=by kernel_rfl
 t5:=Tryz.underlying5
 a5:=Tryz.isAgg5
 z5:=Tryz.sizeOf5
 v5:=Tryz.zeroValue5
 infoByte:=by kernel_rfl
 cellsByte:=by kernel_rfl
 sizeByte:=by kernel_rfl
 neB5:=by decide }
theorem ge(te tr:Nat):akn (gl te tr) 2 [.rM te .undef]=true:=by simp[akn,gl,akm,feq]
theorem gr(te tr:Nat):akn (gl te tr) 3 [.rM tr .undef]=true:=by simp[akn,gl,akm,feq]
theorem aOc:Go.Proofs.Lays.n166 Tryz.prog Tryz.lays105_ren:={ Tryz.lays105 with }
theorem aOd:Go.Proofs.Lays.n169 Tryz.prog Tryz.lays105_ren:={ Tryz.lays105 with }
set_option maxRecDepth 100000 in
theorem tab(te tr:Nat):@Tab (G te tr) (aoj Tryz.prog eB lib.qR (G te tr)) Tryz.prog eB lib:=by
 letI:kH:=G te tr
 letI:Rounds:=aoj Tryz.prog eB lib.qR (G te tr)
 have hks:∀ f k,kinds f=some k->Rn Tryz.prog f k:=by
  intro f k h;unfold kinds at h;split at h
  ·cases h;have e:Tryz.lays171_ren.f 171=104:=by kernel_rfl
   exact e▸Rn.itoa Tryz.lays171 (g:=0) (by kernel_rfl) (by kernel_rfl)
  ·cases h;have e:Tryz.lays105_ren.f 105=123:=by kernel_rfl
   exact e▸Rn.ako Tryz.lays105 extra
  ·cases h;have e:Tryz.lays101_ren.f 101=163:=by kernel_rfl
   exact e▸Rn.trimPrefix Tryz.lays101
  ·cases h;have e:Tryz.lays160_ren.f 160=164:=by kernel_rfl
   exact e▸Rn.trim Tryz.lays160 (by kernel_rfl)
  ·cases h;have e:Tryz.lays172_ren.f 172=174:=by kernel_rfl
   have e2:Tryz.lays172_ren.t 168=243:=by kernel_rfl
   exact e▸e2▸Rn.atoi Tryz.lays172 (te:=te) (tr:=tr) (ge te tr) (gr te tr)
  ·cases h
 have hw:∀ f,(f==154)=true->alB Tryz.prog f:=by
  intro f h;have h':f=154:=by simpa using h
  subst h';have e:Tryz.lays105_ren.f 166=154:=by kernel_rfl
  exact e▸aN8 aOc extra (by kernel_rfl) (by kernel_rfl)
 have hb:∀ f,(f==155)=true->alC Tryz.prog f:=by
  intro f h;have h':f=155:=by simpa using h
  subst h';have e:Tryz.lays105_ren.f 169=155:=by kernel_rfl
  exact e▸aOa aOd extra (by kernel_rfl) (by kernel_rfl)
 refine Tab.mk (by kernel_rfl) (fun f x hf=>?_) (aIr hks) aIs (aIt fun f hf=>?_) hw hb
 ·have h1:=Gq.mp (aOb te tr) f
  have hlt:f<fnT.length:=by
   rcases Fz f fnT.length with h|h
   ·exact h
   ·have:FJ f=none:=by unfold FJ;rw[ai3 h];rfl
    have hf':FJ f=some x:=hf;rw[this]at hf';cases hf'
  have h2:=h1 (List.mem_range.mpr hlt);have hf':FJ f=some x:=hf;rw[hf']at h2;exact h2
 ·have hlt:f<fnT.length:=by
   rcases Fz f fnT.length with h|h
   ·exact h
   ·have:FJ f=none:=by unfold FJ;rw[ai3 h];rfl
    have hf':(FJ f).isSome=true:=hf;rw[this]at hf';cases hf'
  have:(List.range fnT.length).all (fun f=>(FJ f).isNone||(kinds f).isNone)=true:=by decide +kernel
  have:=Gq.mp this f (List.mem_range.mpr hlt);have hf':(FJ f).isSome=true:=hf
  cases hq:FJ f with
  |none=>rw[hq]at hf';cases hf'
  |some x=>rw[hq]at this;simpa using this
end Go.VI.Dump
