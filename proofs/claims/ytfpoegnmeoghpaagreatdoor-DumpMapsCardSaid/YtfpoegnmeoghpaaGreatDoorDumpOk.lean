/- the tables are the program's -/
import Derived.Test.YtfpoegnmeoghpaaGreatDoorLays
import Derived.Test.YtfpoegnmeoghpaaGreatDoorDumpTab
import Derived.Test.YtfpoegnmeoghpaaGreatDoorVSB
set_option linter.unusedVariables false
set_option linter.unusedSimpArgs false
namespace Go.VI.Dump
open Go.Proofs
def gl(te tr:Nat):List (Nat×List AV):=[(2,[.iG te .undef]),(3,[.iG tr .undef]),(0,Lib.pow10Tab.map (.int .u64))]
@[reducible] def G(te tr:Nat):dH:={ kI:=Hr (gl te tr),rD:=193,yw:=5,Jy:=fun f=>f==154,Jz:=fun f=>f==155 }
theorem arn(te tr:Nat):(List.range Fw.length).all (fun f=>(mM f).all (fun x=>@EZ (G te tr) Tryz.prog aZ iq f x))=true:=by kernel_rfl
theorem extra:Go.Proofs.Builder.Extra Tryz.prog Tryz.lays105_ren:={
 sizeBuilder:=by kernel_rfl
 liesBuilder:=by kernel_rfl
 t5:=Tryz.underlying5
 a5:=Tryz.isAgg5
 z5:=Tryz.sizeOf5
 v5:=Tryz.zeroValue5
 infoByte:=by kernel_rfl
 cellsByte:=by kernel_rfl
 sizeByte:=by kernel_rfl
 neB5:=by decide }
theorem ge(te tr:Nat):Hr (gl te tr) 2 [.iG te .undef]=true:=by simp[Hr,gl,Hq,KO]
theorem gr(te tr:Nat):Hr (gl te tr) 3 [.iG tr .undef]=true:=by simp[Hr,gl,Hq,KO]
theorem aro:Go.Proofs.Lays.n166 Tryz.prog Tryz.lays105_ren:={ Tryz.lays105 with }
theorem arp:Go.Proofs.Lays.n169 Tryz.prog Tryz.lays105_ren:={ Tryz.lays105 with }
set_option maxRecDepth 100000 in
theorem tab(te tr:Nat):@GY (G te tr) (OB Tryz.prog aZ lib.iq (G te tr)) Tryz.prog aZ lib:=by
 letI:dH:=G te tr
 letI:Rounds:=OB Tryz.prog aZ lib.iq (G te tr)
 have hks:∀ f k,kinds f=some k->tV Tryz.prog f k:=by
  intro f k h;unfold kinds at h;split at h
  ·cases h;have e:Tryz.lays171_ren.f 171=104:=by kernel_rfl
   exact e▸tV.itoa Tryz.lays171 (g:=0) (by kernel_rfl) (by kernel_rfl)
  ·cases h;have e:Tryz.lays105_ren.f 105=123:=by kernel_rfl
   exact e▸tV.Ht Tryz.lays105 extra
  ·cases h;have e:Tryz.lays101_ren.f 101=163:=by kernel_rfl
   exact e▸tV.trimPrefix Tryz.lays101
  ·cases h;have e:Tryz.lays160_ren.f 160=164:=by kernel_rfl
   exact e▸tV.trim Tryz.lays160 (by kernel_rfl)
  ·cases h;have e:Tryz.lays172_ren.f 172=174:=by kernel_rfl
   have e2:Tryz.lays172_ren.t 168=243:=by kernel_rfl
   exact e▸e2▸tV.atoi Tryz.lays172 (te:=te) (tr:=tr) (ge te tr) (gr te tr)
  ·cases h
 have hw:∀ f,(f==154)=true->Kg Tryz.prog f:=by
  intro f h;have h':f=154:=by simpa using h
  subst h';have e:Tryz.lays105_ren.f 166=154:=by kernel_rfl
  exact e▸ari aro extra (by kernel_rfl) (by kernel_rfl)
 have hb:∀ f,(f==155)=true->Kh Tryz.prog f:=by
  intro f h;have h':f=155:=by simpa using h
  subst h';have e:Tryz.lays105_ren.f 169=155:=by kernel_rfl
  exact e▸arl arp extra (by kernel_rfl) (by kernel_rfl)
 refine GY.mk (by kernel_rfl) (fun f x hf=>?_) (alm hks) aln (alo fun f hf=>?_) hw hb
 ·have h1:=nE.mp (arn te tr) f
  have hlt:f<Fw.length:=by
   rcases kZ f Fw.length with h|h
   ·exact h
   ·have:mM f=none:=by unfold mM;rw[E8 h];rfl
    have hf':mM f=some x:=hf;rw[this]at hf';cases hf'
  have h2:=h1 (List.mem_range.mpr hlt);have hf':mM f=some x:=hf;rw[hf']at h2;exact h2
 ·have hlt:f<Fw.length:=by
   rcases kZ f Fw.length with h|h
   ·exact h
   ·have:mM f=none:=by unfold mM;rw[E8 h];rfl
    have hf':(mM f).isSome=true:=hf;rw[this]at hf';cases hf'
  have:(List.range Fw.length).all (fun f=>(mM f).isNone||(kinds f).isNone)=true:=by decide +kernel
  have:=nE.mp this f (List.mem_range.mpr hlt);have hf':(mM f).isSome=true:=hf
  cases hq:mM f with
  |none=>rw[hq]at hf';cases hf'
  |some x=>rw[hq]at this;simpa using this
end Go.VI.Dump
