/- What the functions on integers compute, part MS. -/
import Derived.Test.YtfpoegnmeoghpaaGreatDoorDumpMC
import Derived.Test.YtfpoegnmeoghpaaGreatDoorDumpMA
set_option linter.unusedVariables false
set_option linter.unusedSimpArgs false
namespace Go.VI.Dump
open Go.VI.Num
def frV (s t : List UInt8) : AV := .agg [.str s,.str t]
def rt (q : Rat) : AV := frV (itxt q.num) (itxt (q.den : Int))
def resO (o : Option Rat) : AV := match o with | some q => .tuple [rt q,.int .i64 0] | none => .tuple [frV [] [],.int .i64 40]
theorem zero_txt : itxt 0 = [48] := rfl
theorem fit_zero : Fit 0 := by unfold Fit; decide
theorem den_fit {q : Rat} (h : FitQ q) : Fit (q.den : Int) := by unfold Fit; rw [Int.natAbs_natCast]; exact h.2
theorem cmpN_le (x : Int) : decide (cmpN x 0 ≤ 0) = !decide (0 < x) := by
 unfold cmpN
 by_cases h1 : x < 0
 ·rw [if_pos h1,decide_eq_false (show ¬ 0 < x by omega)]; rfl
 ·rw [if_neg h1]
  by_cases h2 : x = 0
  ·rw [if_pos h2,decide_eq_false (show ¬ 0 < x by omega)]; rfl
  ·rw [if_neg h2,decide_eq_true (show 0 < x by omega)]; rfl
theorem txt_one (z : Int) : decide (itxt z = [49]) = decide (z = 1) := by
 rw [decide_eq_decide,← itxt_one]
 exact ⟨itxt_inj,fun h => by rw [h]⟩
theorem qvalid_run (s t : List UInt8) (h : Heap) (lo : Nat) : (run lib).fn 78 [frV s t] h lo = some (.bool (rvalid s t),h) := by
 have v1 := fun H lo => valid_run s H lo
 have v2 := fun H lo => valid_run t H lo
 unfold frV rvalid
 rw [run_closed (x := x78) rfl rfl rfl rfl]
 cases c1 : validS s with
 | false =>
  rw [c1] at v1
  simp (maxSteps := 1000000) (disch := omega) only [go_sem,x78,v1]
 | true =>
  rw [c1] at v1
  cases c2 : validS t with
  | false =>
   rw [c2] at v2
   simp (maxSteps := 1000000) (disch := omega) only [go_sem,x78,v1,v2]
  | true =>
   rw [c2] at v2
   obtain ⟨e1,f1⟩ := valid_txt c1
   obtain ⟨e2,f2⟩ := valid_txt c2
   have cm := fun H lo => compare_run (x := zv t) (y := 0) f2 fit_zero H lo
   rw [zero_txt,← e2] at cm
   have gc := fun H lo => gcd_run f1 f2 H lo
   rw [← e1,← e2] at gc
   have cl := cmpN_le (zv t)
   have g1 := txt_one ((Int.gcd (zv s) (zv t) : Nat) : Int)
   generalize itxt ((Int.gcd (zv s) (zv t) : Nat) : Int) = G at *
   generalize cmpN (zv t) 0 = q at *
   by_cases c3 : 0 < zv t
   ·rw [decide_eq_true c3] at cl ⊢
    have cl' : ¬ q ≤ 0 := by simpa using cl
    by_cases c4 : G = [49]
    ·have c5 : (Int.gcd (zv s) (zv t) == 1) = true := by
      rw [decide_eq_true c4] at g1
      have := of_decide_eq_true g1.symm
      simp only [beq_iff_eq]; omega
     rw [c5]
     simp (maxSteps := 1000000) (disch := omega) only [go_sem,x78,v1,v2,cm,cl',gc,c4]
    ·have c5 : (Int.gcd (zv s) (zv t) == 1) = false := by
      rw [decide_eq_false c4] at g1
      have := of_decide_eq_false g1.symm
      simp only [beq_eq_false_iff_ne,ne_eq]; omega
     rw [c5]
     simp (maxSteps := 1000000) (disch := omega) only [go_sem,x78,v1,v2,cm,cl',gc,c4]
   ·rw [decide_eq_false c3] at cl ⊢
    have cl' : q ≤ 0 := by simpa using cl
    simp (maxSteps := 1000000) (disch := omega) only [go_sem,x78,v1,v2,cm,cl']
end Go.VI.Dump
namespace Go.VI.Dump
open Go.VI.Num
@[reducible] def okB : Nat × Blk := (1,.box [.bool false])
@[reducible] def badB : Nat × Blk := (1,.box [.bool true])
theorem tk_set (h : Heap) (id : Nat) (b : Nat × Blk) : (h.set id b).take h.length = h.set id b := List.take_of_length_le (by simp)
theorem pc_at {H : Heap} {id : Nat} {cs : List AV} (hid : H[id]? = some (1,.box cs)) : pcells H (.bptr id 1 0) = some cs := by simp [pcells,hid]
theorem hset_same {H : Heap} {id : Nat} {b : Nat × Blk} (hid : H[id]? = some b) : H.set id b = H := by
 obtain ⟨h1,h2⟩ := List.getElem?_eq_some_iff.mp hid
 rw [← h2]; exact List.set_getElem_self h1
theorem ps_at {H : Heap} {id base lo ns : Nat} {a b : Bool} (hid : H[id]? = some (1,.box [.bool a])) (hlo : lo ≤ id) (rnd : Option (Nat × Nat)) : pstore ⟨lo,base,ns,rnd⟩ H 1 (.bptr id 1 0) (.bool b) = some (H.set id (1,.box [.bool b])) := by
 cases rnd <;> simp [pstore,AV.cells,AV.val,hid,hlo,splice,AV.closed]
theorem do_bad {h : Heap} {id : Nat} (hid : h[id]? = some badB) (f : AV) (a b : List UInt8) {lo : Nat} (hlo : lo ≤ id) : (run lib).fn 125 [.bptr id 1 0,f,.str a,.str b] h lo = some (.str [],h) := by
 have hlt : id < h.length := (List.getElem?_eq_some_iff.mp hid).1
 have p := pc_at hid
 rw [run_open (x := x125) rfl rfl rfl rfl (by omega)]
 simp (maxSteps := 1000000) (disch := omega) only [go_sem,x125,p,List.take_length]
theorem do_ok {h : Heap} {id : Nat} (hid : h[id]? = some okB) {g : Nat} (hg0 : g < 1000) {a b s : List UInt8} (hg : ∀ lo,(run lib).fn g [.str a,.str b] h lo = some (.tuple [.str s,.int .i64 0],h)) {lo : Nat} (hlo : lo ≤ id) :
  (run lib).fn 125 [.bptr id 1 0,.fn g [],.str a,.str b] h lo = some (.str s,h) := by
 have hlt : id < h.length := (List.getElem?_eq_some_iff.mp hid).1
 have p := pc_at hid
 have st := ps_at (base := h.length) (ns := 0) (b := false) hid hlo none
 rw [hset_same hid] at st
 rw [run_open (x := x125) rfl rfl rfl rfl (by omega)]
 simp (maxSteps := 1000000) (disch := omega) only [go_sem,x125,p,hg,hg0,st,List.take_length]
theorem do_err {h : Heap} {id : Nat} (hid : h[id]? = some okB) {g : Nat} (hg0 : g < 1000) {a b s : List UInt8} {e : Int} (he : e ≠ 0) (hg : ∀ lo,(run lib).fn g [.str a,.str b] h lo = some (.tuple [.str s,.int .i64 e],h)) {lo : Nat} (hlo : lo ≤ id) :
  (run lib).fn 125 [.bptr id 1 0,.fn g [],.str a,.str b] h lo = some (.str s,h.set id badB) := by
 have hlt : id < h.length := (List.getElem?_eq_some_iff.mp hid).1
 have p := pc_at hid
 have st := ps_at (base := h.length) (ns := 0) (b := true) hid hlo none
 rw [run_open (x := x125) rfl rfl rfl rfl (by omega)]
 simp (maxSteps := 1000000) (disch := omega) only [go_sem,x125,p,hg,hg0,he,st,tk_set]
theorem mul_bad' {h : Heap} {id : Nat} (hid : h[id]? = some badB) (a b : List UInt8) {lo : Nat} (hlo : lo ≤ id) : (run lib).fn 124 [.bptr id 1 0,.str a,.str b] h lo = some (.str [],h) := by
 have hlt : id < h.length := (List.getElem?_eq_some_iff.mp hid).1
 have d := fun f {lo} (hlo : lo ≤ id) => do_bad hid f a b (lo := lo) hlo
 rw [run_open (x := x124) rfl rfl rfl rfl (by omega)]
 simp (maxSteps := 1000000) (disch := omega) only [go_sem,x124,d,hlo,List.take_length,tk_set]
theorem wmul_ok {h : Heap} {id : Nat} (hid : h[id]? = some okB) {x y : Int} (hx : Fit x) (hy : Fit y) (hf : Fit (x * y)) {lo : Nat} (hlo : lo ≤ id) :
  (run lib).fn 124 [.bptr id 1 0,.str (itxt x),.str (itxt y)] h lo = some (.str (itxt (x * y)),h) := by
 have hlt : id < h.length := (List.getElem?_eq_some_iff.mp hid).1
 have d := fun {lo} (hlo : lo ≤ id) => do_ok hid (g := 161) (by decide) (a := itxt x) (b := itxt y) (s := itxt (x * y)) (fun lo => by rw [mul_run hx hy,outT_fit hf]) (lo := lo) hlo
 rw [run_open (x := x124) rfl rfl rfl rfl (by omega)]
 simp (maxSteps := 1000000) (disch := omega) only [go_sem,x124,d,hlo,List.take_length,tk_set]
theorem wmul_err {h : Heap} {id : Nat} (hid : h[id]? = some okB) {x y : Int} (hx : Fit x) (hy : Fit y) (hf : ¬ Fit (x * y)) {lo : Nat} (hlo : lo ≤ id) :
  (run lib).fn 124 [.bptr id 1 0,.str (itxt x),.str (itxt y)] h lo = some (.str [],h.set id badB) := by
 have hlt : id < h.length := (List.getElem?_eq_some_iff.mp hid).1
 have d := fun {lo} (hlo : lo ≤ id) => do_err hid (g := 161) (by decide) (a := itxt x) (b := itxt y) (s := []) (e := 30) (by decide) (fun lo => by rw [mul_run hx hy]; show some (outT (x * y),h) = _; unfold outT; rw [if_neg (show ¬ (x * y).natAbs < 10 ^ 200 from hf)]) (lo := lo) hlo
 rw [run_open (x := x124) rfl rfl rfl rfl (by omega)]
 simp (maxSteps := 1000000) (disch := omega) only [go_sem,x124,d,hlo,List.take_length,tk_set]
theorem quot1_run {x y : Int} (hx : Fit x) (hy : Fit y) (h0 : y ≠ 0) (hq : Fit (x / y)) (h : Heap) (lo : Nat) : (run lib).fn 165 [.str (itxt x),.str (itxt y)] h lo = some (.tuple [.str (itxt (x / y)),.int .i64 0],h) := by
 have dv := fun H lo => div_run hx hy h0 H lo
 unfold divT at dv
 have oS : outS (x / y) = itxt (x / y) := if_pos hq
 have oE : outE (x / y) = 0 := if_pos hq
 rw [run_closed (x := x165) rfl rfl rfl rfl]
 simp (maxSteps := 1000000) (disch := omega) only [go_sem,x165,dv,oS,oE]
theorem quot_ok {h : Heap} {id : Nat} (hid : h[id]? = some okB) {x y : Int} (hx : Fit x) (hy : Fit y) (h0 : y ≠ 0) (hq : Fit (x / y)) {lo : Nat} (hlo : lo ≤ id) :
  (run lib).fn 136 [.bptr id 1 0,.str (itxt x),.str (itxt y)] h lo = some (.str (itxt (x / y)),h) := by
 have hlt : id < h.length := (List.getElem?_eq_some_iff.mp hid).1
 have d := fun {lo} (hlo : lo ≤ id) => do_ok hid (g := 165) (by decide) (a := itxt x) (b := itxt y) (s := itxt (x / y)) (fun lo => quot1_run hx hy h0 hq h lo) (lo := lo) hlo
 rw [run_open (x := x136) rfl rfl rfl rfl (by omega)]
 simp (maxSteps := 1000000) (disch := omega) only [go_sem,x136,d,hlo,List.take_length,tk_set]
end Go.VI.Dump
namespace Go.VI.Dump
open Go.VI.Num
theorem cmpN_lt0 (x : Int) : (cmpN x 0 < 0) ↔ x < 0 := by
 unfold cmpN
 by_cases h1 : x < 0
 ·rw [if_pos h1]; omega
 ·rw [if_neg h1]
  by_cases h2 : x = 0
  ·rw [if_pos h2]; omega
  ·rw [if_neg h2]; omega
theorem neg_fit {x : Int} (h : Fit x) : Fit (-x) := by unfold Fit at *; rw [Int.natAbs_neg]; exact h
theorem gcd_ne {n d : Int} (h : d ≠ 0) : ((Int.gcd n d : Nat) : Int) ≠ 0 := by
 intro e
 have : Int.gcd n d = 0 := by omega
 exact h (Int.gcd_eq_zero_iff.mp this).2
theorem txt_nz {d : Int} (h : d ≠ 0) : ¬ itxt d = [48] := fun e => h (itxt_inj (e.trans zero_txt.symm))
theorem reduced_bad {h : Heap} {id : Nat} (hid : h[id]? = some badB) (n d : List UInt8) {lo : Nat} (hlo : lo ≤ id) : (run lib).fn 103 [.bptr id 1 0,.str n,.str d] h lo = some (resO none,h) := by
 have hlt : id < h.length := (List.getElem?_eq_some_iff.mp hid).1
 have p := fun fr => pc_at (get_pre (fr := fr) hid)
 rw [run_open (x := x103) rfl rfl rfl rfl (by omega)]
 simp (maxSteps := 1000000) (disch := omega) only [go_sem,x103,p,resO,frV,List.take_left']
theorem reduced_zero {h : Heap} {id : Nat} (hid : h[id]? = some okB) (n : List UInt8) {lo : Nat} (hlo : lo ≤ id) : (run lib).fn 103 [.bptr id 1 0,.str n,.str [48]] h lo = some (resO none,h) := by
 have hlt : id < h.length := (List.getElem?_eq_some_iff.mp hid).1
 have p := fun fr => pc_at (get_pre (fr := fr) hid)
 rw [run_open (x := x103) rfl rfl rfl rfl (by omega)]
 simp (maxSteps := 1000000) (disch := omega) only [go_sem,x103,p,resO,frV,List.take_left']
theorem reduced_ok {h : Heap} {id : Nat} (hid : h[id]? = some okB) {n d : Int} (hn : Fit n) (hd : Fit d) (h0 : d ≠ 0) {lo : Nat} (hlo : lo ≤ id) :
  (run lib).fn 103 [.bptr id 1 0,.str (itxt n),.str (itxt d)] h lo = some (resO (some (Rat.divInt n d)),h) := by
 have hlt : id < h.length := (List.getElem?_eq_some_iff.mp hid).1
 have p := fun fr => pc_at (get_pre (fr := fr) hid)
 have hz := txt_nz h0
 have cm := fun H lo => compare_run hd fit_zero H lo
 rw [zero_txt] at cm
 have cl := cmpN_lt0 d
 have fin : ∀ {N D : Int},Fit N → Fit D → 0 < D → Rat.divInt N D = Rat.divInt n d → ∃ G : Int,(∀ fr {lo},lo ≤ id → (run lib).fn 125 [.bptr id 1 0,.fn 105 [],.str (itxt N),.str (itxt D)] (h ++ fr) lo = some (.str (itxt G),h ++ fr)) ∧
   (∀ fr {lo},lo ≤ id → (run lib).fn 136 [.bptr id 1 0,.str (itxt N),.str (itxt G)] (h ++ fr) lo = some (.str (itxt (Rat.divInt n d).num),h ++ fr)) ∧
   (∀ fr {lo},lo ≤ id → (run lib).fn 136 [.bptr id 1 0,.str (itxt D),.str (itxt G)] (h ++ fr) lo = some (.str (itxt ((Rat.divInt n d).den : Int)),h ++ fr)) := by
  intro N D hN hD hp he
  have hG := gcd_fit hN hD
  have hG0 := gcd_ne (n := N) (d := D) (by omega)
  refine ⟨(Int.gcd N D : Nat),fun fr lo hlo => do_ok (get_pre (fr := fr) hid) (by decide) (fun lo => gcd_run hN hD _ _) hlo,fun fr lo hlo => ?_,fun fr lo hlo => ?_⟩
  ·rw [← he,divInt_num hp]
   exact quot_ok (get_pre (fr := fr) hid) hN hG hG0 (ediv_fit hN hG0) hlo
  ·rw [← he,divInt_den hp]
   exact quot_ok (get_pre (fr := fr) hid) hD hG hG0 (ediv_fit hD hG0) hlo
 generalize cmpN d 0 = q at *
 rw [run_open (x := x103) rfl rfl rfl rfl (by omega)]
 by_cases c : d < 0
 ·obtain ⟨G,g1,g2,g3⟩ := fin (neg_fit hn) (neg_fit hd) (by omega) (Rat.neg_divInt_neg n d)
  have s1 := fun fr {lo} (hlo : lo ≤ id) => do_ok (h := h ++ fr) (get_pre (fr := fr) hid) (g := 135) (by decide) (a := [48]) (b := itxt n) (s := itxt (-n)) (fun lo => by rw [← zero_txt,sub_run fit_zero hn,Int.zero_sub,outT_fit (neg_fit hn)]) hlo
  have s2 := fun fr {lo} (hlo : lo ≤ id) => do_ok (h := h ++ fr) (get_pre (fr := fr) hid) (g := 135) (by decide) (a := [48]) (b := itxt d) (s := itxt (-d)) (fun lo => by rw [← zero_txt,sub_run fit_zero hd,Int.zero_sub,outT_fit (neg_fit hd)]) hlo
  have cl' : q < 0 := cl.mpr c
  clear fin
  simp (maxSteps := 1000000) (disch := omega) only [go_sem,x103,p,hz,cm,cl',s1,s2,g1,g2,g3,hlo,resO,rt,frV,List.take_left']
 ·obtain ⟨G,g1,g2,g3⟩ := fin hn hd (by omega) rfl
  have cl' : ¬ q < 0 := fun h => c (cl.mp h)
  clear fin
  simp (maxSteps := 1000000) (disch := omega) only [go_sem,x103,p,hz,cm,cl',g1,g2,g3,hlo,resO,rt,frV,List.take_left']
theorem qmake_run {n d : Int} (hn : Fit n) (hd : Fit d) (h : Heap) (lo : Nat) : (run lib).fn 73 [.str (itxt n),.str (itxt d)] h lo = some (resO (makeQ n d),h) := by
 have v1 := fun H lo => valid_run (itxt n) H lo
 have v2 := fun H lo => valid_run (itxt d) H lo
 rw [validS_itxt hn] at v1
 rw [validS_itxt hd] at v2
 unfold makeQ
 rw [run_closed (x := x73) rfl rfl rfl rfl]
 by_cases c : d = 0
 ·subst c
  rw [if_pos rfl,zero_txt] at *
  have r := fun X {lo} hlo => reduced_zero (h := h ++ [okB,X]) (id := h.length + 0) (by rw [get_fr]; rfl) (itxt n) (lo := lo) hlo
  simp (maxSteps := 1000000) (disch := omega) only [go_sem,x73,v1,v2,r,resO,frV]
 ·rw [if_neg c]
  have r := fun X {lo} hlo => reduced_ok (h := h ++ [okB,X]) (id := h.length + 0) (by rw [get_fr]; rfl) hn hd c (lo := lo) hlo
  generalize Rat.divInt n d = Q at *
  simp (maxSteps := 1000000) (disch := omega) only [go_sem,x73,v1,v2,r,resO,rt,frV]
end Go.VI.Dump
namespace Go.VI.Dump
open Go.VI.Num
def chkB (a : Bool) (v : Bool) : Bool := a || !v
theorem check_round {h : Heap} {id : Nat} {a : Bool} (hid : h[id]? = some (1,.box [.bool a])) {lo : Nat} (hlo : lo ≤ id) (es : List AV) (k : Nat) (s t : List UInt8) (he : es[k]? = some (frV s t)) (hl : es.length ≤ 10) (w : Nat) (b : Blk) (hb : b = .dead ∨ ∃ cs,b = .box cs) (r : Option (Ex × Env × Heap))
  (N : Int) (hN : (es.length : Int) = N) (hr : runC lib ⟨lo,h.length,1,none⟩ (.loop b122_0) ([(0,.bptr id 1 0),(6,.lsf 2 es),(7,.int .i64 N),(8,.int .i64 ((k : Int) + 1))],h.set id (1,.box [.bool (chkB a (rvalid s t))]) ++ [(w + 1,.box [.str s,.str t])]) = r) :
  runC lib ⟨lo,h.length,1,none⟩ (.loop b122_0) ([(0,.bptr id 1 0),(6,.lsf 2 es),(7,.int .i64 N),(8,.int .i64 k)],h ++ [(w,b)]) = r := by
 have hlt : id < h.length := (List.getElem?_eq_some_iff.mp hid).1
 have hk : k < es.length := (List.getElem?_eq_some_iff.mp he).1
 have p := fun fr => pc_at (get_pre (fr := fr) hid)
 have st := fun fr (c : Bool) => ps_at (H := h ++ fr) (base := h.length) (ns := 1) (b := c) (get_pre (fr := fr) hid) hlo none
 have sp := fun fr c => set_pre (fr := fr) c hid
 simp only [sp] at st
 have c1 : (k : Int) < N := by omega
 have hs : Sl (h ++ [(w,b)]) 2 (.lsf 2 es) es := (show PureSl 2 (.lsf 2 es) es from .inr ⟨2,.inr rfl,.inl rfl⟩).sl _
 have e3 : sidx 2 (.lsf 2 es) (.int .i64 k) = some k := by rw [sidx_sl hs (by omega) (by omega)]; simp
 have e4 : ∀ off fr,pcells (h ++ fr) (.iptr (.lsf 2 es) k off) = some ((frV s t).cells.drop off) := fun off fr => by
  have := pc_iptr (off := off) ((show PureSl 2 (.lsf 2 es) es from .inr ⟨2,.inr rfl,.inl rfl⟩).sl (h ++ fr)).elems0 hk
  rw [this]
  have : es[k] = frV s t := by rw [List.getElem?_eq_getElem hk] at he; exact Option.some.inj he
  rw [this]
 have v := fun H lo => qvalid_run s t H lo
 simp only [frV,AV.cells] at e4 v
 rw [w_loop]
 cases a with
 | true =>
  simp only [chkB,Bool.true_or] at hr
  rcases hb with rfl | ⟨cs,rfl⟩
  ·simp (maxSteps := 1000000) (disch := omega) only [go_sem,c1,e3,e4,p,st]
   exact hr
  ·simp (maxSteps := 1000000) (disch := omega) only [go_sem,c1,e3,e4,p,st]
   exact hr
 | false =>
  cases c2 : rvalid s t with
  | true =>
   rw [c2] at v hr
   simp only [chkB,Bool.false_or,Bool.not_true] at hr
   rcases hb with rfl | ⟨cs,rfl⟩
   ·simp (maxSteps := 1000000) (disch := omega) only [go_sem,c1,e3,e4,p,v,st]
    exact hr
   ·simp (maxSteps := 1000000) (disch := omega) only [go_sem,c1,e3,e4,p,v,st]
    exact hr
  | false =>
   rw [c2] at v hr
   simp only [chkB,Bool.false_or,Bool.not_false] at hr
   rcases hb with rfl | ⟨cs,rfl⟩
   ·simp (maxSteps := 1000000) (disch := omega) only [go_sem,c1,e3,e4,p,v,st]
    exact hr
   ·simp (maxSteps := 1000000) (disch := omega) only [go_sem,c1,e3,e4,p,v,st]
    exact hr
theorem tk_app (h : Heap) (id : Nat) (X : Nat × Blk) (fr : Heap) : (h.set id X ++ fr).take h.length = h.set id X := by
 rw [List.take_append_of_le_length (by simp),List.take_of_length_le (by simp)]
theorem check_end {lo B : Nat} (H : Heap) (id : Nat) (es : List AV) (N : Int) : runC lib ⟨lo,B,1,none⟩ (.loop b122_0) ([(0,.bptr id 1 0),(6,.lsf 2 es),(7,.int .i64 N),(8,.int .i64 N)],H) = some (.exit 0,([],H)) := by
 rw [w_loop]
 simp (maxSteps := 1000000) (disch := omega) only [go_sem,Int.lt_irrefl]
theorem check2_run {h : Heap} {id : Nat} (hid : h[id]? = some okB) (s t u v : List UInt8) {lo : Nat} (hlo : lo ≤ id) : (run lib).fn 122 [.bptr id 1 0,.lsf 2 [frV s t,frV u v]] h lo = some (.tuple [],h.set id (1,.box [.bool (!(rvalid s t && rvalid u v))])) := by
 have hlt : id < h.length := (List.getElem?_eq_some_iff.mp hid).1
 have e : (chkB (chkB false (rvalid s t)) (rvalid u v)) = !(rvalid s t && rvalid u v) := by unfold chkB; cases rvalid s t <;> cases rvalid u v <;> rfl
 have hid2 : (h.set id (1,.box [.bool (chkB false (rvalid s t))]))[id]? = some (1,.box [.bool (chkB false (rvalid s t))]) := List.getElem?_set_self hlt
 have c2 := check_round (h := h.set id (1,.box [.bool (chkB false (rvalid s t))])) hid2 hlo [frV s t,frV u v] 1 u v rfl (by simp) 1 (.box [.str s,.str t]) (.inr ⟨_,rfl⟩) _ 2 rfl (check_end _ id [frV s t,frV u v] 2)
 rw [List.length_set,List.set_set,e] at c2
 have lp := check_round (a := false) hid hlo [frV s t,frV u v] 0 s t rfl (by simp) 0 .dead (.inl rfl) _ 2 rfl c2
 have ln : lenv false (.lsf 2 [frV s t,frV u v]) = some (.int .i64 2) := rfl
 simp only [Int.natCast_zero] at lp
 generalize [frV s t,frV u v] = es at *
 rw [run_open (x := x122) rfl rfl rfl rfl (by omega)]
 simp (maxSteps := 1000000) (disch := omega) only [go_sem,x122,ln,lp,tk_app]
end Go.VI.Dump
namespace Go.VI.Dump
open Go.VI.Num
theorem fitZ_t {z : Int} (h : Fit z) : fitZ z = true := decide_eq_true h
theorem fitZ_f {z : Int} (h : ¬ Fit z) : fitZ z = false := decide_eq_false h
theorem den_ne (q : Rat) : (q.den : Int) ≠ 0 := by have := q.den_pos; omega
theorem den2_ne (a b : Rat) : (a.den : Int) * b.den ≠ 0 := Int.mul_ne_zero (den_ne a) (den_ne b)
section
variable (h : Heap)
theorem at_ok (X : Nat × Blk) : (h ++ [okB,X])[h.length + 0]? = some okB := by rw [get_fr]; rfl
theorem at_bad (X : Nat × Blk) : (h ++ [badB,X])[h.length + 0]? = some badB := by rw [get_fr]; rfl
theorem to_bad (X : Nat × Blk) : (h ++ [okB,X]).set (h.length + 0) badB = h ++ [badB,X] := by rw [set_fr]; rfl
theorem to_same (X : Nat × Blk) : (h ++ [okB,X]).set (h.length + 0) okB = h ++ [okB,X] := by rw [set_fr]; rfl
theorem ck_ok {s t u v : List UInt8} (h1 : rvalid s t = true) (h2 : rvalid u v = true) (X : Nat × Blk) {lo : Nat} (hlo : lo ≤ h.length + 0) : (run lib).fn 122 [.bptr (h.length + 0) 1 0,.lsf 2 [.agg [.str s,.str t],.agg [.str u,.str v]]] (h ++ [okB,X]) lo = some (.tuple [],h ++ [okB,X]) := by
 have := check2_run (at_ok h X) s t u v hlo
 rw [h1,h2] at this
 exact this.trans (congrArg (fun H => some (AV.tuple [],H)) (to_same h X))
theorem m_ok {x y z : Int} (hx : Fit x) (hy : Fit y) (e : z = x * y) (hf : Fit z) (X : Nat × Blk) {lo : Nat} (hlo : lo ≤ h.length + 0) : (run lib).fn 124 [.bptr (h.length + 0) 1 0,.str (itxt x),.str (itxt y)] (h ++ [okB,X]) lo = some (.str (itxt z),h ++ [okB,X]) := by
 subst e; exact wmul_ok (at_ok h X) hx hy hf hlo
theorem m_err {x y z : Int} (hx : Fit x) (hy : Fit y) (e : z = x * y) (hf : ¬ Fit z) (X : Nat × Blk) {lo : Nat} (hlo : lo ≤ h.length + 0) : (run lib).fn 124 [.bptr (h.length + 0) 1 0,.str (itxt x),.str (itxt y)] (h ++ [okB,X]) lo = some (.str [],h ++ [badB,X]) := by
 subst e; rw [← to_bad h X]; exact wmul_err (at_ok h X) hx hy hf hlo
theorem m_bad (a b : List UInt8) (X : Nat × Blk) {lo : Nat} (hlo : lo ≤ h.length + 0) : (run lib).fn 124 [.bptr (h.length + 0) 1 0,.str a,.str b] (h ++ [badB,X]) lo = some (.str [],h ++ [badB,X]) := mul_bad' (at_bad h X) a b hlo
theorem d_bad (f : AV) (a b : List UInt8) (X : Nat × Blk) {lo : Nat} (hlo : lo ≤ h.length + 0) : (run lib).fn 125 [.bptr (h.length + 0) 1 0,f,.str a,.str b] (h ++ [badB,X]) lo = some (.str [],h ++ [badB,X]) := do_bad (at_bad h X) f a b hlo
theorem d_ok {g : Nat} (hg0 : g < 1000) {x y z : Int} (hg : ∀ h lo,(run lib).fn g [.str (itxt x),.str (itxt y)] h lo = some (outT z,h)) (hf : Fit z) (X : Nat × Blk) {lo : Nat} (hlo : lo ≤ h.length + 0) : (run lib).fn 125 [.bptr (h.length + 0) 1 0,.fn g [],.str (itxt x),.str (itxt y)] (h ++ [okB,X]) lo = some (.str (itxt z),h ++ [okB,X]) :=
 do_ok (at_ok h X) hg0 (fun lo => by rw [hg,outT_fit hf]) hlo
theorem d_err {g : Nat} (hg0 : g < 1000) {x y z : Int} (hg : ∀ h lo,(run lib).fn g [.str (itxt x),.str (itxt y)] h lo = some (outT z,h)) (hf : ¬ Fit z) (X : Nat × Blk) {lo : Nat} (hlo : lo ≤ h.length + 0) : (run lib).fn 125 [.bptr (h.length + 0) 1 0,.fn g [],.str (itxt x),.str (itxt y)] (h ++ [okB,X]) lo = some (.str [],h ++ [badB,X]) := by
 rw [← to_bad h X]
 exact do_err (at_ok h X) hg0 (e := 30) (by decide) (fun lo => by rw [hg]; unfold outT; rw [if_neg (show ¬ z.natAbs < 10 ^ 200 from hf)]) hlo
theorem r_bad (n d : List UInt8) (X : Nat × Blk) {lo : Nat} (hlo : lo ≤ h.length + 0) : (run lib).fn 103 [.bptr (h.length + 0) 1 0,.str n,.str d] (h ++ [badB,X]) lo = some (.tuple [.agg [.str [],.str []],.int .i64 40],h ++ [badB,X]) := reduced_bad (at_bad h X) n d hlo
theorem r_ok {n d : Int} (hn : Fit n) (hd : Fit d) (h0 : d ≠ 0) (X : Nat × Blk) {lo : Nat} (hlo : lo ≤ h.length + 0) : (run lib).fn 103 [.bptr (h.length + 0) 1 0,.str (itxt n),.str (itxt d)] (h ++ [okB,X]) lo = some (.tuple [.agg [.str (itxt (Rat.divInt n d).num),.str (itxt ((Rat.divInt n d).den : Int))],.int .i64 0],h ++ [okB,X]) := reduced_ok (at_ok h X) hn hd h0 hlo
theorem r_zero (n : Int) (X : Nat × Blk) {lo : Nat} (hlo : lo ≤ h.length + 0) : (run lib).fn 103 [.bptr (h.length + 0) 1 0,.str (itxt n),.str (itxt 0)] (h ++ [okB,X]) lo = some (.tuple [.agg [.str [],.str []],.int .i64 40],h ++ [okB,X]) := reduced_zero (at_ok h X) _ hlo
end
end Go.VI.Dump
namespace Go.VI.Dump
open Go.VI.Num
theorem cl_cptr (cs : List AV) : (AV.cptr cs).closed = true := by simp [AV.closed]
theorem qdiv_run {a b : Rat} (ha : FitQ a) (hb : FitQ b) (h : Heap) (lo : Nat) : (run lib).fn 133 [rt a,rt b] h lo = some (resO (divQ a b),h) := by
 have ck := fun X {lo} hlo => ck_ok h (rvalid_itxt ha) (rvalid_itxt hb) X (lo := lo) hlo
 have q := q_div a b
 have qz := q_div_zero (a := a) (b := b)
 unfold divQ rt frV
 obtain ⟨x,ex⟩ : ∃ x,x = a.num * b.den := ⟨_,rfl⟩
 obtain ⟨y,ey⟩ : ∃ y,y = (a.den : Int) * b.num := ⟨_,rfl⟩
 rw [← ex,← ey] at q ⊢
 rw [← ey] at qz
 rw [run_closed (x := x133) rfl rfl rfl rfl]
 by_cases c1 : Fit x
 ·have m1 := fun X {lo} hlo => m_ok h ha.1 (den_fit hb) ex c1 X (lo := lo) hlo
  rw [fitZ_t c1]
  by_cases c2 : Fit y
  ·have m2 := fun X {lo} hlo => m_ok h (den_fit ha) hb.1 ey c2 X (lo := lo) hlo
   rw [fitZ_t c2]
   by_cases c3 : b = 0
   ·have r := fun X {lo} hlo => r_zero h x X (lo := lo) hlo
    have y0 : y = 0 := qz.mpr c3
    rw [y0] at m2
    rw [decide_eq_false (show ¬ b ≠ 0 from fun h => h c3)]
    simp (maxSteps := 1000000) (disch := omega) only [go_sem,x133,ck,m1,m2,r,resO,rt,frV]
   ·have hd : y ≠ 0 := fun h => c3 (qz.mp h)
    have r := fun X {lo} hlo => r_ok h c1 c2 hd X (lo := lo) hlo
    rw [q] at r
    rw [decide_eq_true (show b ≠ 0 from c3)]
    generalize a / b = Q at *
    simp (maxSteps := 1000000) (disch := omega) only [go_sem,x133,ck,m1,m2,r,resO,rt,frV]
  ·have m2 := fun X {lo} hlo => m_err h (den_fit ha) hb.1 ey c2 X (lo := lo) hlo
   rw [fitZ_f c2]
   simp (maxSteps := 1000000) (disch := omega) only [go_sem,x133,ck,m1,m2,r_bad,resO,rt,frV]
 ·have m1 := fun X {lo} hlo => m_err h ha.1 (den_fit hb) ex c1 X (lo := lo) hlo
  rw [fitZ_f c1]
  simp (maxSteps := 1000000) (disch := omega) only [go_sem,x133,ck,m1,m_bad,r_bad,resO,rt,frV]
theorem qsum_run {g : Nat} (hg0 : g < 1000) {a b : Rat} (ha : FitQ a) (hb : FitQ b) {z : Int} (hg : Fit (a.num * b.den) → Fit (b.num * a.den) → ∀ h lo,(run lib).fn g [.str (itxt (a.num * b.den)),.str (itxt (b.num * a.den))] h lo = some (outT z,h)) (h : Heap) (lo : Nat) :
  (run lib).fn 157 [.fn g [],rt a,rt b] h lo = some (resO (if fitZ (a.num * b.den) && fitZ (b.num * a.den) && fitZ z && fitZ ((a.den : Int) * b.den) then some (Rat.divInt z ((a.den : Int) * b.den)) else none),h) := by
 have ck := fun X {lo} hlo => ck_ok h (rvalid_itxt ha) (rvalid_itxt hb) X (lo := lo) hlo
 have hd := den2_ne a b
 unfold rt frV
 obtain ⟨x,ex⟩ : ∃ x,x = a.num * b.den := ⟨_,rfl⟩
 obtain ⟨u,eu⟩ : ∃ u,u = b.num * a.den := ⟨_,rfl⟩
 obtain ⟨y,ey⟩ : ∃ y,y = (a.den : Int) * b.den := ⟨_,rfl⟩
 rw [← ex,← eu] at hg
 rw [← ex,← eu,← ey]
 rw [← ey] at hd
 rw [run_closed (x := x157) rfl rfl rfl rfl]
 by_cases c1 : Fit x
 ·have m1 := fun X {lo} hlo => m_ok h ha.1 (den_fit hb) ex c1 X (lo := lo) hlo
  rw [fitZ_t c1]
  by_cases c2 : Fit u
  ·have m2 := fun X {lo} hlo => m_ok h hb.1 (den_fit ha) eu c2 X (lo := lo) hlo
   rw [fitZ_t c2]
   by_cases c3 : Fit z
   ·have d := fun X {lo} hlo => d_ok h hg0 (hg c1 c2) c3 X (lo := lo) hlo
    rw [fitZ_t c3]
    by_cases c4 : Fit y
    ·have m3 := fun X {lo} hlo => m_ok h (den_fit ha) (den_fit hb) ey c4 X (lo := lo) hlo
     have r := fun X {lo} hlo => r_ok h c3 c4 hd X (lo := lo) hlo
     rw [fitZ_t c4]
     generalize Rat.divInt z y = Q at *
     simp (maxSteps := 1000000) (disch := omega) only [go_sem,x157,cl_cptr,ck,m1,m2,d,m3,r,resO,rt,frV]
    ·have m3 := fun X {lo} hlo => m_err h (den_fit ha) (den_fit hb) ey c4 X (lo := lo) hlo
     rw [fitZ_f c4]
     simp (maxSteps := 1000000) (disch := omega) only [go_sem,x157,cl_cptr,ck,m1,m2,d,m3,r_bad,resO,rt,frV]
   ·have d := fun X {lo} hlo => d_err h hg0 (hg c1 c2) c3 X (lo := lo) hlo
    rw [fitZ_f c3]
    simp (maxSteps := 1000000) (disch := omega) only [go_sem,x157,cl_cptr,ck,m1,m2,d,m_bad,r_bad,resO,rt,frV]
  ·have m2 := fun X {lo} hlo => m_err h hb.1 (den_fit ha) eu c2 X (lo := lo) hlo
   rw [fitZ_f c2]
   simp (maxSteps := 1000000) (disch := omega) only [go_sem,x157,cl_cptr,ck,m1,m2,d_bad,m_bad,r_bad,resO,rt,frV]
 ·have m1 := fun X {lo} hlo => m_err h ha.1 (den_fit hb) ex c1 X (lo := lo) hlo
  rw [fitZ_f c1]
  simp (maxSteps := 1000000) (disch := omega) only [go_sem,x157,cl_cptr,ck,m1,d_bad,m_bad,r_bad,resO,rt,frV]
theorem resO_cells (o : Option Rat) : ∃ s t e,resO o = .tuple [.agg [.str s,.str t],.int .i64 e] := by
 cases o with
 | none => exact ⟨_,_,_,rfl⟩
 | some q => exact ⟨_,_,_,rfl⟩
theorem qsub_run {a b : Rat} (ha : FitQ a) (hb : FitQ b) (h : Heap) (lo : Nat) : (run lib).fn 119 [rt a,rt b] h lo = some (resO (subQ a b),h) := by
 have s := fun H lo => qsum_run (g := 135) (by decide) ha hb (z := a.num * b.den - b.num * a.den) (fun h1 h2 H lo => sub_run h1 h2 H lo) H lo
 rw [q_sub] at s
 unfold subQ
 generalize (if fitZ (a.num * b.den) && fitZ (b.num * a.den) && fitZ (a.num * b.den - b.num * a.den) && fitZ ((a.den : Int) * b.den) then some (a - b) else none) = o at *
 obtain ⟨s1,s2,e,he⟩ := resO_cells o
 rw [he] at s ⊢
 unfold rt frV at s ⊢
 rw [run_closed (x := x119) rfl rfl rfl rfl]
 simp (maxSteps := 1000000) (disch := omega) only [go_sem,x119,s]
theorem qof_run {n d : Int} (hn : Fit n) (hd : Fit d) (hn1 : -9223372036854775808 ≤ n ∧ n ≤ 9223372036854775807) (hd1 : -9223372036854775808 ≤ d ∧ d ≤ 9223372036854775807) (h : Heap) (lo : Nat) : (run lib).fn 39 [.int .i64 n,.int .i64 d] h lo = some (resO (makeQ n d),h) := by
 have f1 := fun H lo => fromint_run hn1.1 hn1.2 H lo
 have f2 := fun H lo => fromint_run hd1.1 hd1.2 H lo
 have m := fun H lo => qmake_run hn hd H lo
 obtain ⟨s1,s2,e,he⟩ := resO_cells (makeQ n d)
 rw [he] at m ⊢
 rw [run_closed (x := x39) rfl rfl rfl rfl]
 simp (maxSteps := 1000000) (disch := omega) only [go_sem,x39,f1,f2,m]
end Go.VI.Dump
namespace Go.VI.Dump
open Go.VI.Num
theorem cmpN_cases (x y : Int) : (cmpN x y = -1 ∧ x < y) ∨ (cmpN x y = 0 ∧ x = y) ∨ (cmpN x y = 1 ∧ y < x) := by
 unfold cmpN
 by_cases h1 : x < y
 ·rw [if_pos h1]; omega
 ·rw [if_neg h1]
  by_cases h2 : x = y
  ·rw [if_pos h2]; omega
  ·rw [if_neg h2]; omega
theorem cmp_loop (h : Heap) : ∀ (k : Nat) (n d m c σ : Int),d.toNat ≤ k → 0 < d → 0 < c → Fit n → Fit d → Fit m → Fit c → (σ = 1 ∨ σ = -1) → ∃ env' fr',fr'.length = 2 ∧
  runC lib ⟨h.length,h.length,2,none⟩ (.loop b42_0) ([(2,.bptr (h.length + 0) 1 0),(3,.bptr (h.length + 1) 1 0),(5,.int .i64 σ)],h ++ [(1,.box [.str (itxt n),.str (itxt d)]),(1,.box [.str (itxt m),.str (itxt c)])]) =
   some (.ret,(env',h ++ fr')) ∧ env'.get 4 = .int .i64 (σ * cmpN (n * c) (m * d)) := by
 intro k
 induction k with
 | zero => intro n d m c σ h1 h2; omega
 | succ k ih =>
  intro n d m c σ hk hd hc fn fd fm fc hσ
  have v1 := fun H lo => div_run fn fd (by omega) H lo
  have v2 := fun H lo => div_run fm fc (by omega) H lo
  unfold divT at v1 v2
  have fp := ediv_fit fn (show d ≠ 0 by omega)
  have fq := ediv_fit fm (show c ≠ 0 by omega)
  have fr := emod_fit (x := n) fd (by omega)
  have fs := emod_fit (x := m) fc (by omega)
  have cm := fun H lo => compare_run fp fq H lo
  have ne := round_ne (n := n) (m := m) hd hc
  have eq := round_eq (n := n) (d := d) (m := m) (c := c)
  have r0 := Int.emod_nonneg n (show d ≠ 0 by omega)
  have s0 := Int.emod_nonneg m (show c ≠ 0 by omega)
  have r1 := Int.emod_lt_of_pos n hd
  have s1 := Int.emod_lt_of_pos m hc
  have cc := cmpN_cases (n / d) (m / c)
  generalize n / d = p at *
  generalize m / c = q at *
  generalize n % d = r at *
  generalize m % c = s at *
  rcases cc with ⟨e,l⟩ | ⟨e,l⟩ | ⟨e,l⟩
  ·have e2 := ne (by omega)
   rw [e] at e2 cm
   refine ⟨[(4,.int .i64 (σ * -1))],[(1,.box [.str (itxt n),.str (itxt d)]),(1,.box [.str (itxt m),.str (itxt c)])],rfl, ?_,by rw [← e2]; rfl⟩
   rw [w_loop]
   rcases hσ with rfl | rfl
   ·simp (maxSteps := 1000000) (disch := omega) only [go_sem,v1,v2,cm]
   ·simp (maxSteps := 1000000) (disch := omega) only [go_sem,v1,v2,cm]
  ·have e2 := eq l
   rw [e] at cm
   by_cases hr : r = 0
   ·subst hr
    rw [zero_txt] at v1
    rw [Int.zero_mul] at e2
    by_cases hs : s = 0
    ·subst hs
     rw [zero_txt] at v2
     refine ⟨[(4,.int .i64 0)],[(1,.box [.str (itxt n),.str (itxt d)]),(1,.box [.str (itxt m),.str (itxt c)])],rfl, ?_,by rw [e2,Int.zero_mul,show cmpN 0 0 = 0 from rfl,Int.mul_zero]; rfl⟩
     rw [w_loop]
     rcases hσ with rfl | rfl
     ·simp (maxSteps := 1000000) (disch := omega) only [go_sem,v1,v2,cm]
     ·simp (maxSteps := 1000000) (disch := omega) only [go_sem,v1,v2,cm]
    ·have hz := txt_nz hs
     have hp : 0 < s * d := Int.mul_pos (by omega) hd
     refine ⟨[(4,.int .i64 (-σ))],[(1,.box [.str (itxt n),.str (itxt d)]),(1,.box [.str (itxt m),.str (itxt c)])],rfl, ?_,by rw [e2,show cmpN 0 (s * d) = -1 from if_pos hp,Int.mul_neg,Int.mul_one]; rfl⟩
     rw [w_loop]
     rcases hσ with rfl | rfl
     ·simp (maxSteps := 1000000) (disch := omega) only [go_sem,v1,v2,cm,hz]
     ·simp (maxSteps := 1000000) (disch := omega) only [go_sem,v1,v2,cm,hz]
   ·have hy := txt_nz hr
    by_cases hs : s = 0
    ·subst hs
     rw [zero_txt] at v2
     have hp : 0 < r * c := Int.mul_pos (by omega) hc
     refine ⟨[(4,.int .i64 σ)],[(1,.box [.str (itxt n),.str (itxt d)]),(1,.box [.str (itxt m),.str (itxt c)])],rfl, ?_,by rw [e2,Int.zero_mul,show cmpN (r * c) 0 = 1 from by unfold cmpN; rw [if_neg (by omega),if_neg (by omega)],Int.mul_one]; rfl⟩
     rw [w_loop]
     rcases hσ with rfl | rfl
     ·simp (maxSteps := 1000000) (disch := omega) only [go_sem,v1,v2,cm,hy]
     ·simp (maxSteps := 1000000) (disch := omega) only [go_sem,v1,v2,cm,hy]
    ·have hz := txt_nz hs
     obtain ⟨env',fr',l',w',g'⟩ := ih d r c s (-σ) (by omega) (by omega) (by omega) fd fr fc fs (by omega)
     refine ⟨env',fr',l', ?_, ?_⟩
     ·have hne1 : ¬ h.length + 0 = h.length + 1 := by omega
      have hne2 : ¬ h.length + 1 = h.length + 0 := by omega
      rw [w_loop]
      rcases hσ with rfl | rfl
      ·simp (maxSteps := 1000000) (disch := omega) only [go_sem,v1,v2,cm,hy,hz,hne1,hne2]
       exact w'
      ·simp (maxSteps := 1000000) (disch := omega) only [go_sem,v1,v2,cm,hy,hz,hne1,hne2]
       exact w'
     ·rw [g',e2,round_swap,Int.neg_mul_neg]
  ·have e2 := ne (by omega)
   rw [e] at e2 cm
   refine ⟨[(4,.int .i64 (σ * 1))],[(1,.box [.str (itxt n),.str (itxt d)]),(1,.box [.str (itxt m),.str (itxt c)])],rfl, ?_,by rw [← e2]; rfl⟩
   rw [w_loop]
   rcases hσ with rfl | rfl
   ·simp (maxSteps := 1000000) (disch := omega) only [go_sem,v1,v2,cm]
   ·simp (maxSteps := 1000000) (disch := omega) only [go_sem,v1,v2,cm]
theorem qcompare_run {a b : Rat} (ha : FitQ a) (hb : FitQ b) (h : Heap) (lo : Nat) : (run lib).fn 42 [rt a,rt b] h lo = some (.int .i64 (cmpQ a b),h) := by
 have va := fun H lo => qvalid_run (itxt a.num) (itxt (a.den : Int)) H lo
 have vb := fun H lo => qvalid_run (itxt b.num) (itxt (b.den : Int)) H lo
 rw [rvalid_itxt ha] at va
 rw [rvalid_itxt hb] at vb
 obtain ⟨env',fr',l,w,g⟩ := cmp_loop h _ a.num (a.den : Int) b.num (b.den : Int) 1 (Nat.le_refl _) (by have := a.den_pos; omega) (by have := b.den_pos; omega) ha.1 (den_fit ha) hb.1 (den_fit hb) (.inl rfl)
 rw [Int.one_mul] at g
 unfold cmpQ
 unfold rt frV at *
 rw [run_closed (x := x42) rfl rfl rfl rfl]
 simp (maxSteps := 1000000) (disch := omega) only [go_sem,x42,va,vb,w,g,List.take_left']
end Go.VI.Dump
namespace Go.VI.Dump
open Go.VI.Num
end Go.VI.Dump
