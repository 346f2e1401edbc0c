/- DumpPlace returns true and leaves its arguments as they were: for every input, where the listed package variables hold what the program's text lays; tied to that text by the card -/
import Derived.Test.YtfpoegnmeoghpaaGreatDoorCards
import Derived.Test.YtfpoegnmeoghpaaGreatDoorTie
import Derived.Test.YtfpoegnmeoghpaaGreatDoorDumpMR
import Derived.Test.YtfpoegnmeoghpaaGreatDoorDumpWit
set_option linter.unusedVariables false
set_option linter.unusedSimpArgs false
namespace Go.Proofs.YtfpoegnmeoghpaaGreatDoor.dumpPlace
open Go.ChangeShapes Go.WideShapes Go.ChangeAt Go.RowKit Go.VI
theorem own:ownKnob Tryz.prog.godebug=none:=by kernel_rfl
theorem laidOut:laidOutB Tryz.prog=true:=by kernel_rfl
theorem aDQ:abB Tryz.prog Dump.axl Tryz.f9.params.toList=true:=by kernel_rfl
set_option maxRecDepth 100000 in
theorem contract(H:Type)(enc:TypeId×Value->H)(W:World)(base:Nat)(args:Array Value)(ds gs:List (DataW H))(before:List MemPlace)
  (hval:∀(j:Nat) t v,Tryz.f9.params[j]?=some t->args[j]?=some v->Value.okWide Tryz.prog W .any base t v)
  (hW:DataW.Whole enc Tryz.prog Tryz.f9.params.toList Rows.dumpPlaceSpec.vars false W args.toList ds gs before) (hL:laidMetH Tryz.prog Rows.dumpPlaceRow.laid W) (hS:W.ShapedOpen Tryz.prog) :
  Calls Tryz.prog 9 args W fun e W'=>∃ v,e=.returned v/\Rows.dumpPlaceSpec.post enc Tryz.prog Tryz.f9 false true false false W args v W':=by
 have hW':=hW;obtain⟨p,q,hA,hV,rfl,hfz,hnd⟩:=hW;obtain⟨xs,hr,ht⟩:=aAu (X:=fun _=>False) aDQ (fun _ h=>h) (fun j t v h1 h2=>hval j t v (by rw[<-Array.getElem?_toList];exact h1) (by rw[<-Array.getElem?_toList];exact h2)) hA
 obtain⟨h',hx⟩:=Dump.aN2 xs ht;obtain⟨q1,q2,hg⟩:=Dump.aOg hL hS;have hc:=aHa (Dump.tab q1 q2) hx hg hr;rw[Array.toArray_toList]at hc;refine hc.mono fun e W' ⟨he,bel⟩=>?_;subst he;have hB:=aAv laidOut bel aDQ hA;obtain⟨rfl,rfl⟩:=trodVars_none hV;have hA':=hA;rw[Tryz.params9]at hA';obtain⟨v0,vs0,d0,ds0,p0,q0,e0,rfl,rfl,h0,r0⟩:=trodAll_cons hA';obtain⟨v1,vs1,d1,ds1,p1,q1,e1,rfl,rfl,h1,r1⟩:=trodAll_cons r0;obtain⟨v2,vs2,d2,ds2,p2,q2,e2,rfl,rfl,h2,r2⟩:=trodAll_cons r1;obtain⟨v3,vs3,d3,ds3,p3,q3,e3,rfl,rfl,h3,r3⟩:=trodAll_cons r2;obtain⟨v4,vs4,d4,ds4,p4,q4,e4,rfl,rfl,h4,r4⟩:=trodAll_cons r3;obtain⟨_,rfl,rfl⟩:=trodAll_nil r4;exact⟨_,rfl,_,_,_,[],_,[],hW',trodAll_mk1 (shut_bool Tryz.underlying4 _),hB,rfl,bel.frame _,fun h=>by cases h⟩
theorem reads(os:Os){H:Type}(enc:TypeId×Value->H):∃ places,DataW.whole enc Tryz.prog ((Dump.axq os).forCall (fun _ _=>0) ⟨#[],#[.int .i64 0,.int .i64 0,.int .i64 0,.slice none 0 0,.slice none 0 0],[]⟩).memory Tryz.f9.params.toList Rows.dumpPlaceSpec.vars false (#[.int .i64 0,.int .i64 0,.int .i64 0,.slice none 0 0,.slice none 0 0]:Array Value).toList 8=some ([.lit (.int .i64 0),.lit (.int .i64 0),.lit (.int .i64 0),.nil,.nil],[],places) :=
 ⟨[],by kernel_rfl⟩
set_option maxRecDepth 100000 in
theorem lifted(os:Os)(started:os.Started)(H:Type)(enc:TypeId×Value->H)(F:Stop.Interp) :
  ReturnsInHanded {} Tryz.checked os 9 .any ((OpenSpec.ofChange Rows.dumpPlaceSpec).preRow enc Tryz.prog Tryz.f9 Rows.dumpPlaceRow.domain false Rows.dumpPlaceRow.laid) (((OpenSpec.ofChange Rows.dumpPlaceSpec).at F).post enc Tryz.prog Tryz.f9 false true false false):=by
 obtain⟨places,hx⟩:=reads os enc
 refine returnsInHanded_of_row (C:=Tryz.checked) (s:=OpenSpec.ofChange Rows.dumpPlaceSpec) own started (by kernel_rfl) Tryz.func9
  (witness_row_atRef (enc:=enc) (C:=Tryz.checked) false (Dump.axq os) #[.int .i64 0,.int .i64 0,.int .i64 0,.slice none 0 0,.slice none 0 0] rfl (by kernel_rfl) (by kernel_rfl) (by kernel_rfl)
   (OpenSpec.preRow_of_cond 8 hx (by kernel_rfl) (fun k hk=>by cases hk) (by kernel_rfl) (Dump.aOh os _))) ?_
 intro W base args ds gs before hval hW _ _ _ hL hS _;exact contract H enc W base args ds gs before hval hW hL hS
theorem said:Rows.DumpPlaceSaid :=
 OpenClaim.holds_of_cond 9 Tryz.f9 rfl rfl rfl rfl rfl rfl rfl ⟨rfl,rfl,rfl,rfl,rfl⟩ rfl rfl rfl rfl rfl (by kernel_rfl) Tryz.func9 (by kernel_rfl)
  (of_decide_eq_true (by kernel_rfl)) (by unfold Func.isWrapper;first|(rw[if_pos (by decide +kernel)];kernel_rfl)|(rw[if_neg (by decide +kernel)];exact⟨rfl,rfl⟩))
  (fun os started H enc _ F=>by rw[OpenClaim.pre_eq_preRow];exact lifted os started H enc F)
theorem aOi:(Tryz.f9.params.toList.all fun t=>!(Tryz.prog.wantsStandIn t))=true:=by kernel_rfl
theorem plain (f : FuncId) (fn : Func) (hf : Tryz.pinned.checked.prog.funcNamed "aircheck/airchecklaw20.DumpPlace" = some f) (hfn : Tryz.pinned.checked.prog.funcs[f]? = some fn) :
  true=Tryz.pinned.checked.prog.looks []/\∀(j:Nat) t,fn.params[j]?=some t->Tryz.pinned.checked.prog.wantsStandIn t=false:=by
 obtain rfl : f = 9 := Option.some.inj ((show Tryz.prog.funcNamed "aircheck/airchecklaw20.DumpPlace" = some 9 by kernel_rfl).symm.trans hf) |>.symm
 obtain rfl:fn=Tryz.f9:=(Option.some.inj (Tryz.func9.symm.trans hfn)).symm;refine⟨by kernel_rfl,fun j t ht=>?_⟩
 have h:=List.all_eq_true.mp aOi t (Array.mem_toList_iff.mpr (Array.mem_of_getElem? ht));rw[Bool.not_eq_true']at h;exact h
theorem card:Rows.DumpPlaceCardSaid :=
 Claim7.holds_tied_plain_at .later [] _ _ _ _ said (fun _ h=>by cases h) (by kernel_rfl) (fun _ h=>by cases h) dumpPlace_row_tie rfl ⟨rfl,rfl⟩ (by kernel_rfl) rfl plain (by kernel_rfl)
end Go.Proofs.YtfpoegnmeoghpaaGreatDoor.dumpPlace
namespace Go.Proofs.YtfpoegnmeoghpaaGreatDoor
theorem dumpPlace_holds:Rows.DumpPlaceCardSaid:=dumpPlace.card
#print axioms dumpPlace_holds
end Go.Proofs.YtfpoegnmeoghpaaGreatDoor
