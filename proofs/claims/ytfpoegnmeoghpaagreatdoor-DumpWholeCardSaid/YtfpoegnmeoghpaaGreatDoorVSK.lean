/- The library's functions: from the kit's contracts to what the evaluator says of them. -/
import Derived.Test.YtfpoegnmeoghpaaGreatDoorVSO
import Derived.Shelf.Strings.OnBuilder
import Derived.Shelf.Strings.Cut
import Derived.Shelf.Strings.Split
import Derived.Shelf.Strings.SlTrimAscii
import Derived.Shelf.Strings.Repeat
import Derived.Shelf.Strings.Prefix
import Derived.Shelf.Strconv.AtoiAll
import Derived.Shelf.Strconv.Itoa4
import Derived.Lib.AppendIntMem
import Derived.Lib.AtoiErrMem
set_option linter.unusedVariables false
set_option linter.unusedSimpArgs false
namespace Go.VI
open Go.Proofs Go.Shelf
set_option linter.unusedSectionVars false
section
variable [Globs] [Rounds] {P : Program} {ρ : Ren}
theorem ba_data (l : List UInt8) : (⟨l.toArray⟩ : ByteArray).data.toList = l := by simp
theorem ba_size (l : List UInt8) : (⟨l.toArray⟩ : ByteArray).size = l.length := by
 show l.toArray.size = _
 simp
theorem glob_cell {w : World} {X : Nat → Prop} (hg : GlobOk w X) {g : Nat} {cs : List AV} (h : Globs.glob g cs = true) {j : Nat} {c : AV} (hc : cs[j]? = some c) : ∃ u,w.cell? ⟨g,j,none⟩ = some u ∧ RC w X c u := by
 obtain ⟨_,_,h3,_⟩ := hg g cs h
 obtain ⟨u,h4,_,h5⟩ := RCM_get _ _ _ h3 j c hc
 exact ⟨u,by simpa using h4,h5⟩
theorem glob_ifc {w : World} {X : Nat → Prop} (hg : GlobOk w X) {g t : Nat} (h : Globs.glob g [.ifc t .undef] = true) : ∃ p,w.cell? ⟨g,0,none⟩ = some (.iface t p) := by
 obtain ⟨u,h1,h2⟩ := glob_cell hg h (j := 0) rfl
 simp only [RC] at h2
 obtain ⟨p,rfl,_⟩ := h2
 exact ⟨p,h1⟩
theorem KindOk.trimPrefix (L : Lays.n101 P ρ) : KindOk P (ρ.f 101) .trimPrefix := by
 refine ⟨⟨_,L.f101,by simp [Body.n101],rfl⟩,fun args h r ho w m vs hi hr => ?_⟩
 simp only [orcV] at ho
 split at ho
 ·rename_i s p
  simp only [Option.some.injEq] at ho
  subst ho
  obtain ⟨u,v,rfl,h1,h2⟩ := RL_two hr
  rw [R_str] at h1 h2
  subst h1; subst h2
  refine (Any.strings_TrimPrefix L ⟨s.toArray⟩ ⟨p.toArray⟩ w).mono ?_
  rintro e w' ⟨rfl,rfl⟩
  have hb := RowKit.Below.refl w'.heap.size w'
  rw [ba_data,ba_data]
  exact ⟨_,rfl,hb,res_str hi hb _⟩
 ·cases ho
theorem KindOk.trim (L : Lays.n160 P ρ) (h116 : (P.info? (ρ.t 116)).map (fun i => (i.zero,i.size)) = some (some (.agg (Array.replicate 256 (.bool false))),256)) : KindOk P (ρ.f 160) .trim := by
 refine ⟨⟨_,L.f160,by simp [Body.n160],rfl⟩,fun args h r ho w m vs hi hr => ?_⟩
 simp only [orcV] at ho
 split at ho
 ·rename_i s c
  split at ho
  ·rename_i hc
   obtain ⟨h1,h2,h3⟩ := hc
   simp only [Option.some.injEq] at ho
   subst ho
   obtain ⟨u,v,rfl,k1,k2⟩ := RL_two hr
   rw [R_str] at k1 k2
   subst k1; subst k2
   refine (Any.strings_Trim_laid L h116 ⟨s.toArray⟩ ⟨c.toArray⟩ w (by rw [ba_size]; unfold strLim at h1; omega) (by rw [ba_size]; exact h2) (by rw [ba_data]; exact ascii_of_all h3)).mono ?_
   rintro e w' ⟨rfl,hb⟩
   rw [ba_data,ba_data]
   exact ⟨_,rfl,hb,res_str hi hb _⟩
  ·cases ho
 ·cases ho
theorem KindOk.repeat_ (L : Lays.n105 P ρ) (X : Builder.Extra P ρ) : KindOk P (ρ.f 105) .repeat_ := by
 refine ⟨⟨_,L.f105,by simp [Body.n105],rfl⟩,fun args h r ho w m vs hi hr => ?_⟩
 simp only [orcV] at ho
 split at ho
 ·rename_i s n
  split at ho
  ·rename_i hc
   obtain ⟨h1,h2,h3,h4⟩ := hc
   simp only [Option.some.injEq] at ho
   subst ho
   obtain ⟨u,v,rfl,k1,k2⟩ := RL_two hr
   rw [R_str] at k1
   rw [R_int] at k2
   subst k1; subst k2
   obtain ⟨c,rfl⟩ : ∃ c : Nat,n = c := ⟨n.toNat,by omega⟩
   simp only [Int.toNat_natCast] at h2 ⊢
   have fin : ∀ {l : List UInt8},l = Lib.repeatL s c → Calls P (ρ.f 105) [.string ⟨s.toArray⟩,.int .i64 (c : Int)].toArray w (fun e w' => e = .returned (.string ⟨l.toArray⟩) ∧ RowKit.Below w.heap.size w w') →
     Calls P (ρ.f 105) [.string ⟨s.toArray⟩,.int .i64 (c : Int)].toArray w fun e w' => ∃ u,e = .returned u ∧ RowKit.Below w.heap.size w w' ∧ Res w w' m h (.str (Lib.repeatL s c)) u := by
    rintro l rfl hc
    refine hc.mono ?_
    rintro e w' ⟨rfl,hb⟩
    exact ⟨_,rfl,hb,res_str hi hb _⟩
   rcases c with _ | _ | c
   ·refine fin (l := []) rfl ((Any.strings_Repeat_zero L ⟨s.toArray⟩ w).mono ?_)
    rintro e w' ⟨rfl,rfl⟩
    exact ⟨rfl,RowKit.Below.refl _ _⟩
   ·refine fin (l := s) (by simp [Lib.repeatL]) ((Any.strings_Repeat_one L ⟨s.toArray⟩ w).mono ?_)
    rintro e w' ⟨rfl,rfl⟩
    exact ⟨rfl,RowKit.Below.refl _ _⟩
   ·refine fin rfl ((Any.strings_Repeat_main L X ⟨s.toArray⟩ (c + 1 + 1) w (by omega) (by omega) (by rw [ba_size]; exact h2) (by rw [ba_size]; exact List.length_pos_iff.mpr h4)).mono ?_)
    rintro e w' ⟨rfl,hb⟩
    rw [ba_data]
    exact ⟨rfl,hb⟩
  ·cases ho
 ·cases ho
theorem glob_tab {w : World} {X : Nat → Prop} (hg : GlobOk w X) {g : Nat} {name : String} {k : IntKind} {zs : List Int} (hn : P.globalNamed name = some g) (h0 : zs ≠ []) (h : Globs.glob g (zs.map (.int k)) = true) : Lib.TabIs P w name k zs := by
 obtain ⟨hlt,_,_,hend⟩ := hg g _ h
 have hcells : ∀ j,j < zs.length → w.cell? ⟨g,j,none⟩ = ((zs.map fun z => Value.int k z)[j]?) := by
  intro j hj
  obtain ⟨u,h1,h2⟩ := glob_cell hg h (j := j) (c := .int k zs[j]) (by simp [hj])
  simp only [RC] at h2
  rw [h1,h2]
  simp [hj]
 obtain ⟨c,ty,fr,hb⟩ : ∃ c ty fr,w.heap[g]? = some (.cells c ty fr) := by
  have := hcells 0 (List.length_pos_iff.mpr h0)
  unfold World.cell? at this
  have hz : ((zs.map fun z => Value.int k z)[0]?) = some (.int k (zs[0]'(List.length_pos_iff.mpr h0))) := by simp [List.length_pos_iff.mpr h0]
  rw [hz] at this
  dsimp only at this
  split at this
  ·rename_i c ty fr hb; exact ⟨c,ty,fr,hb⟩
  ·cases this
 unfold Lib.TabIs World.var?
 rw [hn]
 simp only [Option.bind_some,hb]
 congr 1
 have hcell : ∀ j,w.cell? ⟨g,j,none⟩ = c[j]? := fun j => by simp [World.cell?,hb]
 apply Array.ext'
 refine List.ext_getElem? fun j => ?_
 simp only [List.length_map] at hend
 by_cases hj : j < zs.length
 ·have := hcells j hj
  rw [hcell] at this
  simpa using this
 ·rw [hcell] at hend
  have hc : c.size ≤ zs.length := by simpa using hend
  simp [hj]
  omega
theorem KindOk.itoa (L : LaysM.n171 P ρ) {g : Nat} (hn : P.globalNamed "internal/strconv.uint64pow10" = some g) (hg : Globs.glob g (Lib.pow10Tab.map (.int .u64)) = true) : KindOk P (ρ.f 171) .itoa := by
 refine ⟨⟨_,L.f171,by simp [Body.n171],rfl⟩,fun args h r ho w m vs hi hr => ?_⟩
 simp only [orcV] at ho
 split at ho
 ·rename_i n
  split at ho
  ·rename_i hc
   obtain ⟨h1,h2⟩ := hc
   simp only [Option.some.injEq] at ho
   subst ho
   obtain ⟨u,rfl,k1⟩ := RL_one hr
   rw [R_int] at k1
   subst k1
   have ht := glob_tab hi.glob hn (by intro h; have := Lib.pow10Tab_length; rw [h] at this; cases this) hg
   refine (Any.strconv_Itoa L n h1 h2 w ht).mono ?_
   rintro e w' ⟨rfl,k,os,rfl⟩
   rw [itoa_eq h1 h2]
   have hb := Lib.below_grow w.heap.size w (Nat.le_refl _) k os
   exact ⟨_,rfl,hb,res_str hi hb _⟩
  ·cases ho
 ·cases ho
theorem KindOk.atoi (L : LaysC.n172 P ρ) {te tr : TypeId} (hs : Globs.glob (ρ.g 15) [.ifc te .undef] = true) (hrg : Globs.glob (ρ.g 16) [.ifc tr .undef] = true) : KindOk P (ρ.f 172) (.atoi (ρ.t 168)) := by
 refine ⟨⟨_,L.f172,by simp [Body.n172],rfl⟩,fun args h r ho w m vs hi hr => ?_⟩
 simp only [orcV] at ho
 split at ho
 ·rename_i s
  split at ho
  ·rename_i hc
   obtain ⟨u,rfl,k1⟩ := RL_one hr
   rw [R_str] at k1
   subst k1
   have hsz : (⟨s.toArray⟩ : ByteArray).size ≤ 281474976710656 := by rw [ba_size]; unfold strLim at hc; omega
   have hpair : ∀ {w' : World} {X : Nat → Prop} {v : Int} {a : AV} {u : Value},R w' X m h a u → (∀ z es,a ≠ .own z es) → GiveV w' X m h [] (.tuple [.int .i64 v,a]) (.tuple #[.int .i64 v,u]) := by
    intro w' X v a u h1 h2
    simp only [GiveV]
    refine ⟨[_,_],rfl, ?_⟩
    simp only [GiveL]
    refine ⟨[],[],_,_,rfl,rfl,⟨rfl,R_int.mpr rfl⟩,[],[],_,_,rfl,rfl, ?_,rfl,rfl⟩
    unfold GiveR
    split
    ·exact absurd rfl (h2 _ _)
    ·exact ⟨rfl,h1⟩
   split at ho
   ·rename_i v hv
    simp only [Option.some.injEq] at ho
    subst ho
    refine (Any.strconv_Atoi_ok L ⟨s.toArray⟩ (by omega) v (by rw [ba_data]; exact hv) w).mono ?_
    rintro e w' ⟨rfl,hw⟩
    have hb : RowKit.Below w.heap.size w w' := by
     rcases hw with rfl | ⟨t,rfl⟩
     ·exact RowKit.Below.refl _ _
     ·exact Lib.bytesWorld_below w _ _
    exact ⟨_,rfl,hb,res_plain hi hb (hpair (by simp [R,RC]) (by simp))⟩
   ·rename_i hv
    simp only [Option.some.injEq] at ho
    subst ho
    obtain ⟨p,hp⟩ := glob_ifc hi.glob hrg
    refine (Any.strconv_Atoi_range L ⟨s.toArray⟩ hsz (by rw [ba_data]; exact hv) _ w hp (.inr ⟨_,_,rfl⟩)).mono ?_
    rintro e w' ⟨N,rfl,_,_,hb⟩
    rw [ba_data]
    exact ⟨_,rfl,hb,res_plain hi hb (hpair (by simp [R]) (by simp))⟩
   ·rename_i hv1 hv2
    simp only [Option.some.injEq] at ho
    subst ho
    obtain ⟨p,hp⟩ := glob_ifc hi.glob hs
    refine (Any.strconv_Atoi_syntax L ⟨s.toArray⟩ hsz (by
     rw [ba_data]
     cases h : Lib.atoiAll s
     ·exact absurd h (hv1 _)
     ·first | rfl | exact absurd h hv2
     ·first | rfl | exact absurd h hv2) _ w hp (.inr ⟨_,_,rfl⟩)).mono ?_
    rintro e w' ⟨N,rfl,_,_,hb⟩
    exact ⟨_,rfl,hb,res_plain hi hb (hpair (by simp [R]) (by simp))⟩
  ·cases ho
 ·cases ho
end
end Go.VI
