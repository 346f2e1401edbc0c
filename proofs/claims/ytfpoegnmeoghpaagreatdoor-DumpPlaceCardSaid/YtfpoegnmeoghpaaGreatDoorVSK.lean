/- The library's functions: from the kit's contracts to what the evaluator says of them. -/
import Derived.Test.YtfpoegnmeoghpaaGreatDoorVSO
import Derived.Shelf.Strings.OnBuilder
import Derived.Shelf.Strings.Cut
import Derived.Shelf.Strings.Split
import Derived.Shelf.Strings.SlTrimAscii
import Derived.Shelf.Strings.Repeat
import Derived.Shelf.Strings.Prefix
import Derived.Shelf.Strconv.AtoiAll
import Derived.Shelf.Strconv.Itoa4
import Derived.Lib.AppendIntMem
import Derived.Lib.AtoiErrMem
set_option linter.unusedVariables false
set_option linter.unusedSimpArgs false
namespace Go.VI
open Go.Proofs Go.Shelf
set_option linter.unusedSectionVars false
section
variable [kH][Rounds]{P:Program}{ρ:Ren}
theorem abU(l:List UInt8):(⟨l.toArray⟩:ByteArray).data.toList=l:=by simp
theorem anf(l:List UInt8):(⟨l.toArray⟩:ByteArray).size=l.length:=by
 show l.toArray.size=_
 simp
theorem aDJ{w:World}{X:Nat->Prop}(hg:Y2 w X){g:Nat}{cs:List AV}(h:kH.CX g cs=true){j:Nat}{c:AV}(hc:cs[j]?=some c):∃ u,w.cell? ⟨g,j,none⟩=some u/\RC w X c u:=by
 obtain⟨_,_,h3,_⟩:=hg g cs h;obtain⟨u,h4,_,h5⟩:=anp _ _ _ h3 j c hc;exact⟨u,by simpa using h4,h5⟩
theorem aDK{w:World}{X:Nat->Prop}(hg:Y2 w X){g t:Nat}(h:kH.CX g [.rM t .undef]=true):∃ p,w.cell? ⟨g,0,none⟩=some (.iface t p):=by
 obtain⟨u,h1,h2⟩:=aDJ hg h (j:=0) rfl;simp only[RC]at h2;obtain⟨p,rfl,_⟩:=h2;exact⟨p,h1⟩
theorem Rn.trimPrefix(L:Lays.n101 P ρ):Rn P (ρ.f 101) .trimPrefix:=by
 refine⟨⟨_,L.f101,by simp[Body.n101],rfl⟩,fun args h r ho w m vs hi hr=>?_⟩
 simp only[RU]at ho;split at ho
 ·rename_i s p;simp only[dz]at ho;subst ho;obtain⟨u,v,rfl,h1,h2⟩:=asX hr;rw[RB]at h1 h2;subst h1;subst h2;refine(Any.strings_TrimPrefix L ⟨s.toArray⟩ ⟨p.toArray⟩ w).mono ?_;rintro e w' ⟨rfl,rfl⟩;have hb:=RowKit.Below.refl w'.heap.size w';rw[abU,abU];exact⟨_,rfl,hb,aoz hi hb _⟩
 ·cases ho
theorem Rn.trim(L:Lays.n160 P ρ)(h116:(P.info? (ρ.t 116)).map (fun i=>(i.zero,i.size))=some (some (.agg (Array.replicate 256 (.bool false))),256)):Rn P (ρ.f 160) .trim:=by
 refine⟨⟨_,L.f160,by simp[Body.n160],rfl⟩,fun args h r ho w m vs hi hr=>?_⟩
 simp only[RU]at ho;split at ho
 ·rename_i s c;split at ho
  ·rename_i hc;obtain⟨h1,h2,h3⟩:=hc;simp only[dz]at ho;subst ho;obtain⟨u,v,rfl,k1,k2⟩:=asX hr;rw[RB]at k1 k2;subst k1;subst k2;refine(Any.strings_Trim_laid L h116 ⟨s.toArray⟩ ⟨c.toArray⟩ w (by rw[anf];unfold abC at h1;omega) (by rw[anf];exact h2) (by rw[abU];exact ascii_of_all h3)).mono ?_
   rintro e w' ⟨rfl,hb⟩;rw[abU,abU];exact⟨_,rfl,hb,aoz hi hb _⟩
  ·cases ho
 ·cases ho
theorem Rn.ako(L:Lays.n105 P ρ)(X:Builder.Extra P ρ):Rn P (ρ.f 105) .ako:=by
 refine⟨⟨_,L.f105,by simp[Body.n105],rfl⟩,fun args h r ho w m vs hi hr=>?_⟩
 simp only[RU]at ho;split at ho
 ·rename_i s n;split at ho
  ·rename_i hc;obtain⟨h1,h2,h3,h4⟩:=hc;simp only[dz]at ho;subst ho;obtain⟨u,v,rfl,k1,k2⟩:=asX hr;rw[RB]at k1;rw[JA]at k2;subst k1;subst k2;obtain⟨c,rfl⟩:∃ c:Nat,n=c:=⟨n.toNat,by omega⟩
   simp only[abJ]at h2⊢
   have fin:∀{l:List UInt8},l=Lib.repeatL s c->Calls P (ρ.f 105) [.string ⟨s.toArray⟩,.int .i64 (c:Int)].toArray w (fun e w'=>e=.returned (.string ⟨l.toArray⟩)/\RowKit.Below w.heap.size w w') ->
     Calls P (ρ.f 105) [.string ⟨s.toArray⟩,.int .i64 (c:Int)].toArray w fun e w'=>∃ u,e=.returned u/\RowKit.Below w.heap.size w w'/\ZE w w' m h (.str (Lib.repeatL s c)) u:=by
    rintro l rfl hc;refine hc.mono ?_;rintro e w' ⟨rfl,hb⟩;exact⟨_,rfl,hb,aoz hi hb _⟩
   rcases c with _|_|c
   ·refine fin (l:=[]) rfl ((Any.strings_Repeat_zero L ⟨s.toArray⟩ w).mono ?_);rintro e w' ⟨rfl,rfl⟩;exact⟨rfl,RowKit.Below.refl _ _⟩
   ·refine fin (l:=s) (by simp[Lib.repeatL]) ((Any.strings_Repeat_one L ⟨s.toArray⟩ w).mono ?_)
    rintro e w' ⟨rfl,rfl⟩;exact⟨rfl,RowKit.Below.refl _ _⟩
   ·refine fin rfl ((Any.strings_Repeat_main L X ⟨s.toArray⟩ (c+1+1) w (by omega) (by omega) (by rw[anf];exact h2) (by rw[anf];exact SC.mpr h4)).mono ?_)
    rintro e w' ⟨rfl,hb⟩;rw[abU];exact⟨rfl,hb⟩
  ·cases ho
 ·cases ho
theorem aN3{w:World}{X:Nat->Prop}(hg:Y2 w X){g:Nat}{name:String}{k:IntKind}{zs:List Int}(hn:P.globalNamed name=some g)(h0:zs≠[])(h:kH.CX g (zs.map (.int k))=true):Lib.TabIs P w name k zs:=by
 obtain⟨hlt,_,_,hend⟩:=hg g _ h
 have hcells:∀ j,j<zs.length->w.cell? ⟨g,j,none⟩=((zs.map fun z=>Value.int k z)[j]?):=by
  intro j hj;obtain⟨u,h1,h2⟩:=aDJ hg h (j:=j) (c:=.int k zs[j]) (by simp[hj])
  simp only[RC]at h2;rw[h1,h2];simp[hj]
 obtain⟨c,ty,fr,hb⟩:∃ c ty fr,w.heap[g]?=some (.cells c ty fr):=by
  have:=hcells 0 (SC.mpr h0);unfold World.cell? at this;have hz:((zs.map fun z=>Value.int k z)[0]?)=some (.int k (zs[0]'(SC.mpr h0))):=by simp[SC.mpr h0]
  rw[hz]at this;dsimp only at this;split at this
  ·rename_i c ty fr hb;exact⟨c,ty,fr,hb⟩
  ·cases this
 unfold Lib.TabIs World.var?;rw[hn];simp only[Option.bind_some,hb];congr 1;have hcell:∀ j,w.cell? ⟨g,j,none⟩=c[j]?:=fun j=>by simp[World.cell?,hb]
 apply Array.ext';refine Zy fun j=>?_;simp only[abv]at hend;by_cases hj:j<zs.length
 ·have:=hcells j hj;rw[hcell]at this;simpa using this
 ·rw[hcell]at hend;have hc:c.size<=zs.length:=by simpa using hend
  simp[hj];omega
theorem Rn.itoa (L : LaysM.n171 P ρ) {g : Nat} (hn : P.globalNamed "internal/strconv.uint64pow10" = some g) (hg : kH.CX g (Lib.pow10Tab.map (.int .u64)) = true) : Rn P (ρ.f 171) .itoa := by
 refine⟨⟨_,L.f171,by simp[Body.n171],rfl⟩,fun args h r ho w m vs hi hr=>?_⟩
 simp only[RU]at ho;split at ho
 ·rename_i n;split at ho
  ·rename_i hc;obtain⟨h1,h2⟩:=hc;simp only[dz]at ho;subst ho;obtain⟨u,rfl,k1⟩:=aAG hr;rw[JA]at k1;subst k1;have ht:=aN3 hi.CX hn (by intro h;have:=Lib.pow10Tab_length;rw[h]at this;cases this) hg
   refine(Any.strconv_Itoa L n h1 h2 w ht).mono ?_;rintro e w' ⟨rfl,k,os,rfl⟩;rw[aIo h1 h2];have hb:=Lib.below_grow w.heap.size w (iJ _) k os;exact⟨_,rfl,hb,aoz hi hb _⟩
  ·cases ho
 ·cases ho
theorem Rn.atoi(L:LaysC.n172 P ρ){te tr:TypeId}(hs:kH.CX (ρ.g 15) [.rM te .undef]=true)(hrg:kH.CX (ρ.g 16) [.rM tr .undef]=true):Rn P (ρ.f 172) (.atoi (ρ.t 168)):=by
 refine⟨⟨_,L.f172,by simp[Body.n172],rfl⟩,fun args h r ho w m vs hi hr=>?_⟩
 simp only[RU]at ho;split at ho
 ·rename_i s;split at ho
  ·rename_i hc;obtain⟨u,rfl,k1⟩:=aAG hr;rw[RB]at k1;subst k1;have hsz:(⟨s.toArray⟩:ByteArray).size<=281474976710656:=by rw[anf];unfold abC at hc;omega
   have axm:∀{w':World} {X:Nat->Prop} {v:Int} {a:AV} {u:Value},R w' X m h a u->(∀ z es,a≠.own z es)->RD w' X m h [] (.tuple [.int .i64 v,a]) (.tuple #[.int .i64 v,u]):=by
    intro w' X v a u h1 h2;simp only[RD];refine⟨[_,_],rfl, ?_⟩;simp only[xU];refine⟨[],[],_,_,rfl,rfl,⟨rfl,JA.mpr rfl⟩,[],[],_,_,rfl,rfl, ?_,rfl,rfl⟩;unfold Dj;split
    ·exact absurd rfl (h2 _ _)
    ·exact⟨rfl,h1⟩
   split at ho
   ·rename_i v hv;simp only[dz]at ho;subst ho;refine(Any.strconv_Atoi_ok L ⟨s.toArray⟩ (by omega) v (by rw[abU];exact hv) w).mono ?_
    rintro e w' ⟨rfl,hw⟩
    have hb:RowKit.Below w.heap.size w w':=by
     rcases hw with rfl|⟨t,rfl⟩
     ·exact RowKit.Below.refl _ _
     ·exact Lib.bytesWorld_below w _ _
    exact⟨_,rfl,hb,aoy hi hb (axm (by simp[R,RC]) (by simp))⟩
   ·rename_i hv;simp only[dz]at ho;subst ho;obtain⟨p,hp⟩:=aDK hi.CX hrg;refine(Any.strconv_Atoi_range L ⟨s.toArray⟩ hsz (by rw[abU];exact hv) _ w hp (.inr ⟨_,_,rfl⟩)).mono ?_
    rintro e w' ⟨N,rfl,_,_,hb⟩;rw[abU];exact⟨_,rfl,hb,aoy hi hb (axm (by simp[R]) (by simp))⟩
   ·rename_i hv1 hv2;simp only[dz]at ho;subst ho;obtain⟨p,hp⟩:=aDK hi.CX hs
    refine(Any.strconv_Atoi_syntax L ⟨s.toArray⟩ hsz (by
     rw[abU];cases h:Lib.atoiAll s
     ·exact absurd h (hv1 _)
     ·first|rfl|exact absurd h hv2
     ·first|rfl|exact absurd h hv2) _ w hp (.inr ⟨_,_,rfl⟩)).mono ?_
    rintro e w' ⟨N,rfl,_,_,hb⟩;exact⟨_,rfl,hb,aoy hi hb (axm (by simp[R]) (by simp))⟩
  ·cases ho
 ·cases ho
end
end Go.VI
