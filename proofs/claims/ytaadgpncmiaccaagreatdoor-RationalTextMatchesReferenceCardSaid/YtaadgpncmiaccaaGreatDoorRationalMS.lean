/- What the functions on integers compute, part MS. -/
import Derived.Test.YtaadgpncmiaccaaGreatDoorRationalMC
import Derived.Test.YtaadgpncmiaccaaGreatDoorRationalMA
import Derived.Test.YtaadgpncmiaccaaGreatDoorRationalMR
set_option linter.unusedVariables false
set_option linter.unusedSimpArgs false
namespace Go.VI.Rational
open Go.VI.Num
def frV (s t : List UInt8) : AV := .agg [.str s, .str t]
def rt (q : Rat) : AV := frV (itxt q.num) (itxt (q.den : Int))
def resO (o : Option Rat) : AV := match o with | some q => .tuple [rt q, .int .i64 0] | none => .tuple [frV [] [], .int .i64 40]
theorem zero_txt : itxt 0 = [48] := rfl
theorem fit_zero : Fit 0 := by unfold Fit; decide
theorem den_fit {q : Rat} (h : FitQ q) : Fit (q.den : Int) := by unfold Fit; rw [Int.natAbs_natCast]; exact h.2
theorem cmpN_le (x : Int) : decide (cmpN x 0 ≤ 0) = !decide (0 < x) := by
 unfold cmpN
 by_cases h1 : x < 0
 ·rw [if_pos h1, decide_eq_false (show ¬ 0 < x by omega)]; rfl
 ·rw [if_neg h1]
  by_cases h2 : x = 0
  ·rw [if_pos h2, decide_eq_false (show ¬ 0 < x by omega)]; rfl
  ·rw [if_neg h2, decide_eq_true (show 0 < x by omega)]; rfl
theorem txt_one (z : Int) : decide (itxt z = [49]) = decide (z = 1) := by
 rw [decide_eq_decide, ← itxt_one]
 exact ⟨itxt_inj, fun h => by rw [h]⟩
theorem qvalid_run (s t : List UInt8) (h : Heap) (lo : Nat) : (run lib).fn 17 [frV s t] h lo = some (.bool (rvalid s t), h) := by
 have v1 := fun H lo => valid_run s H lo
 have v2 := fun H lo => valid_run t H lo
 unfold frV rvalid
 rw [run_closed (x := x17) rfl rfl rfl rfl]
 cases c1 : validS s with
 | false =>
  rw [c1] at v1
  simp (maxSteps := 1000000) (disch := omega) only [go_sem, x17, v1]
 | true =>
  rw [c1] at v1
  cases c2 : validS t with
  | false =>
   rw [c2] at v2
   simp (maxSteps := 1000000) (disch := omega) only [go_sem, x17, v1, v2]
  | true =>
   rw [c2] at v2
   obtain ⟨e1, f1⟩ := valid_txt c1
   obtain ⟨e2, f2⟩ := valid_txt c2
   have cm := fun H lo => compare_run (x := zv t) (y := 0) f2 fit_zero H lo
   rw [zero_txt, ← e2] at cm
   have gc := fun H lo => gcd_run f1 f2 H lo
   rw [← e1, ← e2] at gc
   have cl := cmpN_le (zv t)
   have g1 := txt_one ((Int.gcd (zv s) (zv t) : Nat) : Int)
   generalize itxt ((Int.gcd (zv s) (zv t) : Nat) : Int) = G at *
   generalize cmpN (zv t) 0 = q at *
   by_cases c3 : 0 < zv t
   ·rw [decide_eq_true c3] at cl ⊢
    have cl' : ¬ q ≤ 0 := by simpa using cl
    by_cases c4 : G = [49]
    ·have c5 : (Int.gcd (zv s) (zv t) == 1) = true := by
      rw [decide_eq_true c4] at g1
      have := of_decide_eq_true g1.symm
      simp only [beq_iff_eq]; omega
     rw [c5]
     simp (maxSteps := 1000000) (disch := omega) only [go_sem, x17, v1, v2, cm, cl', gc, c4]
    ·have c5 : (Int.gcd (zv s) (zv t) == 1) = false := by
      rw [decide_eq_false c4] at g1
      have := of_decide_eq_false g1.symm
      simp only [beq_eq_false_iff_ne, ne_eq]; omega
     rw [c5]
     simp (maxSteps := 1000000) (disch := omega) only [go_sem, x17, v1, v2, cm, cl', gc, c4]
   ·rw [decide_eq_false c3] at cl ⊢
    have cl' : q ≤ 0 := by simpa using cl
    simp (maxSteps := 1000000) (disch := omega) only [go_sem, x17, v1, v2, cm, cl']
end Go.VI.Rational
namespace Go.VI.Rational
open Go.VI.Num
@[reducible] def okB : Nat × Blk := (1, .box [.bool false])
@[reducible] def badB : Nat × Blk := (1, .box [.bool true])
theorem tk_set (h : Heap) (id : Nat) (b : Nat × Blk) : (h.set id b).take h.length = h.set id b := List.take_of_length_le (by simp)
theorem pc_at {H : Heap} {id : Nat} {cs : List AV} (hid : H[id]? = some (1, .box cs)) : pcells H (.bptr id 1 0) = some cs := by simp [pcells, hid]
theorem set_same {H : Heap} {id : Nat} {b : Nat × Blk} (hid : H[id]? = some b) : H.set id b = H := by
 obtain ⟨h1, h2⟩ := List.getElem?_eq_some_iff.mp hid
 rw [← h2]; exact List.set_getElem_self h1
theorem ps_at {H : Heap} {id base lo ns : Nat} {a b : Bool} (hid : H[id]? = some (1, .box [.bool a])) (hlo : lo ≤ id) (rnd : Option (Nat × Nat)) : pstore ⟨lo, base, ns, rnd⟩ H 1 (.bptr id 1 0) (.bool b) = some (H.set id (1, .box [.bool b])) := by
 cases rnd <;> simp [pstore, AV.cells, AV.val, hid, hlo, splice, AV.closed]
theorem do_bad {h : Heap} {id : Nat} (hid : h[id]? = some badB) (f : AV) (a b : List UInt8) {lo : Nat} (hlo : lo ≤ id) : (run lib).fn 84 [.bptr id 1 0, f, .str a, .str b] h lo = some (.str [], h) := by
 have hlt : id < h.length := (List.getElem?_eq_some_iff.mp hid).1
 have p := pc_at hid
 rw [run_open (x := x84) rfl rfl rfl rfl (by omega)]
 simp (maxSteps := 1000000) (disch := omega) only [go_sem, x84, p, List.take_length]
theorem do_ok {h : Heap} {id : Nat} (hid : h[id]? = some okB) {g : Nat} (hg0 : g < 1000) {a b s : List UInt8} (hg : ∀ lo, (run lib).fn g [.str a, .str b] h lo = some (.tuple [.str s, .int .i64 0], h)) {lo : Nat} (hlo : lo ≤ id) :
  (run lib).fn 84 [.bptr id 1 0, .fn g [], .str a, .str b] h lo = some (.str s, h) := by
 have hlt : id < h.length := (List.getElem?_eq_some_iff.mp hid).1
 have p := pc_at hid
 have st := ps_at (base := h.length) (ns := 0) (b := false) hid hlo none
 rw [set_same hid] at st
 rw [run_open (x := x84) rfl rfl rfl rfl (by omega)]
 simp (maxSteps := 1000000) (disch := omega) only [go_sem, x84, p, hg, hg0, st, List.take_length]
theorem do_err {h : Heap} {id : Nat} (hid : h[id]? = some okB) {g : Nat} (hg0 : g < 1000) {a b s : List UInt8} {e : Int} (he : e ≠ 0) (hg : ∀ lo, (run lib).fn g [.str a, .str b] h lo = some (.tuple [.str s, .int .i64 e], h)) {lo : Nat} (hlo : lo ≤ id) :
  (run lib).fn 84 [.bptr id 1 0, .fn g [], .str a, .str b] h lo = some (.str s, h.set id badB) := by
 have hlt : id < h.length := (List.getElem?_eq_some_iff.mp hid).1
 have p := pc_at hid
 have st := ps_at (base := h.length) (ns := 0) (b := true) hid hlo none
 rw [run_open (x := x84) rfl rfl rfl rfl (by omega)]
 simp (maxSteps := 1000000) (disch := omega) only [go_sem, x84, p, hg, hg0, he, st, tk_set]
theorem mul_bad' {h : Heap} {id : Nat} (hid : h[id]? = some badB) (a b : List UInt8) {lo : Nat} (hlo : lo ≤ id) : (run lib).fn 60 [.bptr id 1 0, .str a, .str b] h lo = some (.str [], h) := by
 have hlt : id < h.length := (List.getElem?_eq_some_iff.mp hid).1
 have d := fun f {lo} (hlo : lo ≤ id) => do_bad hid f a b (lo := lo) hlo
 rw [run_open (x := x60) rfl rfl rfl rfl (by omega)]
 simp (maxSteps := 1000000) (disch := omega) only [go_sem, x60, d, hlo, List.take_length, tk_set]
theorem wmul_ok {h : Heap} {id : Nat} (hid : h[id]? = some okB) {x y : Int} (hx : Fit x) (hy : Fit y) (hf : Fit (x * y)) {lo : Nat} (hlo : lo ≤ id) :
  (run lib).fn 60 [.bptr id 1 0, .str (itxt x), .str (itxt y)] h lo = some (.str (itxt (x * y)), h) := by
 have hlt : id < h.length := (List.getElem?_eq_some_iff.mp hid).1
 have d := fun {lo} (hlo : lo ≤ id) => do_ok hid (g := 89) (by decide) (a := itxt x) (b := itxt y) (s := itxt (x * y)) (fun lo => by rw [mul_run hx hy, outT_fit hf]) (lo := lo) hlo
 rw [run_open (x := x60) rfl rfl rfl rfl (by omega)]
 simp (maxSteps := 1000000) (disch := omega) only [go_sem, x60, d, hlo, List.take_length, tk_set]
theorem wmul_err {h : Heap} {id : Nat} (hid : h[id]? = some okB) {x y : Int} (hx : Fit x) (hy : Fit y) (hf : ¬ Fit (x * y)) {lo : Nat} (hlo : lo ≤ id) :
  (run lib).fn 60 [.bptr id 1 0, .str (itxt x), .str (itxt y)] h lo = some (.str [], h.set id badB) := by
 have hlt : id < h.length := (List.getElem?_eq_some_iff.mp hid).1
 have d := fun {lo} (hlo : lo ≤ id) => do_err hid (g := 89) (by decide) (a := itxt x) (b := itxt y) (s := []) (e := 30) (by decide) (fun lo => by rw [mul_run hx hy]; show some (outT (x * y), h) = _; unfold outT; rw [if_neg (show ¬ (x * y).natAbs < 10 ^ 200 from hf)]) (lo := lo) hlo
 rw [run_open (x := x60) rfl rfl rfl rfl (by omega)]
 simp (maxSteps := 1000000) (disch := omega) only [go_sem, x60, d, hlo, List.take_length, tk_set]
theorem quot1_run {x y : Int} (hx : Fit x) (hy : Fit y) (h0 : y ≠ 0) (hq : Fit (x / y)) (h : Heap) (lo : Nat) : (run lib).fn 111 [.str (itxt x), .str (itxt y)] h lo = some (.tuple [.str (itxt (x / y)), .int .i64 0], h) := by
 have dv := fun H lo => div_run hx hy h0 H lo
 unfold divT at dv
 have oS : outS (x / y) = itxt (x / y) := if_pos hq
 have oE : outE (x / y) = 0 := if_pos hq
 rw [run_closed (x := x111) rfl rfl rfl rfl]
 simp (maxSteps := 1000000) (disch := omega) only [go_sem, x111, dv, oS, oE]
theorem quot_ok {h : Heap} {id : Nat} (hid : h[id]? = some okB) {x y : Int} (hx : Fit x) (hy : Fit y) (h0 : y ≠ 0) (hq : Fit (x / y)) {lo : Nat} (hlo : lo ≤ id) :
  (run lib).fn 85 [.bptr id 1 0, .str (itxt x), .str (itxt y)] h lo = some (.str (itxt (x / y)), h) := by
 have hlt : id < h.length := (List.getElem?_eq_some_iff.mp hid).1
 have d := fun {lo} (hlo : lo ≤ id) => do_ok hid (g := 111) (by decide) (a := itxt x) (b := itxt y) (s := itxt (x / y)) (fun lo => quot1_run hx hy h0 hq h lo) (lo := lo) hlo
 rw [run_open (x := x85) rfl rfl rfl rfl (by omega)]
 simp (maxSteps := 1000000) (disch := omega) only [go_sem, x85, d, hlo, List.take_length, tk_set]
end Go.VI.Rational
namespace Go.VI.Rational
open Go.VI.Num
theorem cmpN_lt0 (x : Int) : (cmpN x 0 < 0) ↔ x < 0 := by
 unfold cmpN
 by_cases h1 : x < 0
 ·rw [if_pos h1]; omega
 ·rw [if_neg h1]
  by_cases h2 : x = 0
  ·rw [if_pos h2]; omega
  ·rw [if_neg h2]; omega
theorem neg_fit {x : Int} (h : Fit x) : Fit (-x) := by unfold Fit at *; rw [Int.natAbs_neg]; exact h
theorem gcd_ne {n d : Int} (h : d ≠ 0) : ((Int.gcd n d : Nat) : Int) ≠ 0 := by
 intro e
 have : Int.gcd n d = 0 := by omega
 exact h (Int.gcd_eq_zero_iff.mp this).2
theorem txt_nz {d : Int} (h : d ≠ 0) : ¬ itxt d = [48] := fun e => h (itxt_inj (e.trans zero_txt.symm))
theorem reduced_bad {h : Heap} {id : Nat} (hid : h[id]? = some badB) (n d : List UInt8) {lo : Nat} (hlo : lo ≤ id) : (run lib).fn 57 [.bptr id 1 0, .str n, .str d] h lo = some (resO none, h) := by
 have hlt : id < h.length := (List.getElem?_eq_some_iff.mp hid).1
 have p := fun fr => pc_at (get_pre (fr := fr) hid)
 rw [run_open (x := x57) rfl rfl rfl rfl (by omega)]
 simp (maxSteps := 1000000) (disch := omega) only [go_sem, x57, p, resO, frV, List.take_left']
theorem reduced_zero {h : Heap} {id : Nat} (hid : h[id]? = some okB) (n : List UInt8) {lo : Nat} (hlo : lo ≤ id) : (run lib).fn 57 [.bptr id 1 0, .str n, .str [48]] h lo = some (resO none, h) := by
 have hlt : id < h.length := (List.getElem?_eq_some_iff.mp hid).1
 have p := fun fr => pc_at (get_pre (fr := fr) hid)
 rw [run_open (x := x57) rfl rfl rfl rfl (by omega)]
 simp (maxSteps := 1000000) (disch := omega) only [go_sem, x57, p, resO, frV, List.take_left']
theorem reduced_ok {h : Heap} {id : Nat} (hid : h[id]? = some okB) {n d : Int} (hn : Fit n) (hd : Fit d) (h0 : d ≠ 0) {lo : Nat} (hlo : lo ≤ id) :
  (run lib).fn 57 [.bptr id 1 0, .str (itxt n), .str (itxt d)] h lo = some (resO (some (Rat.divInt n d)), h) := by
 have hlt : id < h.length := (List.getElem?_eq_some_iff.mp hid).1
 have p := fun fr => pc_at (get_pre (fr := fr) hid)
 have hz := txt_nz h0
 have cm := fun H lo => compare_run hd fit_zero H lo
 rw [zero_txt] at cm
 have cl := cmpN_lt0 d
 have fin : ∀ {N D : Int}, Fit N → Fit D → 0 < D → Rat.divInt N D = Rat.divInt n d → ∃ G : Int, (∀ fr {lo}, lo ≤ id → (run lib).fn 84 [.bptr id 1 0, .fn 51 [], .str (itxt N), .str (itxt D)] (h ++ fr) lo = some (.str (itxt G), h ++ fr)) ∧
   (∀ fr {lo}, lo ≤ id → (run lib).fn 85 [.bptr id 1 0, .str (itxt N), .str (itxt G)] (h ++ fr) lo = some (.str (itxt (Rat.divInt n d).num), h ++ fr)) ∧
   (∀ fr {lo}, lo ≤ id → (run lib).fn 85 [.bptr id 1 0, .str (itxt D), .str (itxt G)] (h ++ fr) lo = some (.str (itxt ((Rat.divInt n d).den : Int)), h ++ fr)) := by
  intro N D hN hD hp he
  have hG := gcd_fit hN hD
  have hG0 := gcd_ne (n := N) (d := D) (by omega)
  refine ⟨(Int.gcd N D : Nat), fun fr lo hlo => do_ok (get_pre (fr := fr) hid) (by decide) (fun lo => gcd_run hN hD _ _) hlo, fun fr lo hlo => ?_, fun fr lo hlo => ?_⟩
  ·rw [← he, divInt_num hp]
   exact quot_ok (get_pre (fr := fr) hid) hN hG hG0 (ediv_fit hN hG0) hlo
  ·rw [← he, divInt_den hp]
   exact quot_ok (get_pre (fr := fr) hid) hD hG hG0 (ediv_fit hD hG0) hlo
 generalize cmpN d 0 = q at *
 rw [run_open (x := x57) rfl rfl rfl rfl (by omega)]
 by_cases c : d < 0
 ·obtain ⟨G, g1, g2, g3⟩ := fin (neg_fit hn) (neg_fit hd) (by omega) (Rat.neg_divInt_neg n d)
  have s1 := fun fr {lo} (hlo : lo ≤ id) => do_ok (h := h ++ fr) (get_pre (fr := fr) hid) (g := 73) (by decide) (a := [48]) (b := itxt n) (s := itxt (-n)) (fun lo => by rw [← zero_txt, sub_run fit_zero hn, Int.zero_sub, outT_fit (neg_fit hn)]) hlo
  have s2 := fun fr {lo} (hlo : lo ≤ id) => do_ok (h := h ++ fr) (get_pre (fr := fr) hid) (g := 73) (by decide) (a := [48]) (b := itxt d) (s := itxt (-d)) (fun lo => by rw [← zero_txt, sub_run fit_zero hd, Int.zero_sub, outT_fit (neg_fit hd)]) hlo
  have cl' : q < 0 := cl.mpr c
  clear fin
  simp (maxSteps := 1000000) (disch := omega) only [go_sem, x57, p, hz, cm, cl', s1, s2, g1, g2, g3, hlo, resO, rt, frV, List.take_left']
 ·obtain ⟨G, g1, g2, g3⟩ := fin hn hd (by omega) rfl
  have cl' : ¬ q < 0 := fun h => c (cl.mp h)
  clear fin
  simp (maxSteps := 1000000) (disch := omega) only [go_sem, x57, p, hz, cm, cl', g1, g2, g3, hlo, resO, rt, frV, List.take_left']
theorem qmake_run {n d : Int} (hn : Fit n) (hd : Fit d) (h : Heap) (lo : Nat) : (run lib).fn 22 [.str (itxt n), .str (itxt d)] h lo = some (resO (makeQ n d), h) := by
 have v1 := fun H lo => valid_run (itxt n) H lo
 have v2 := fun H lo => valid_run (itxt d) H lo
 rw [validS_itxt hn] at v1
 rw [validS_itxt hd] at v2
 unfold makeQ
 rw [run_closed (x := x22) rfl rfl rfl rfl]
 by_cases c : d = 0
 ·subst c
  rw [if_pos rfl, zero_txt] at *
  have r := fun X {lo} hlo => reduced_zero (h := h ++ [okB, X]) (id := h.length + 0) (by rw [get_fr]; rfl) (itxt n) (lo := lo) hlo
  simp (maxSteps := 1000000) (disch := omega) only [go_sem, x22, v1, v2, r, resO, frV]
 ·rw [if_neg c]
  have r := fun X {lo} hlo => reduced_ok (h := h ++ [okB, X]) (id := h.length + 0) (by rw [get_fr]; rfl) hn hd c (lo := lo) hlo
  generalize Rat.divInt n d = Q at *
  simp (maxSteps := 1000000) (disch := omega) only [go_sem, x22, v1, v2, r, resO, rt, frV]
end Go.VI.Rational
namespace Go.VI.Rational
open Go.VI.Num
def chkB (a : Bool) (v : Bool) : Bool := a || !v
theorem check_round {h : Heap} {id : Nat} {a : Bool} (hid : h[id]? = some (1, .box [.bool a])) {lo : Nat} (hlo : lo ≤ id) (es : List AV) (k : Nat) (s t : List UInt8) (he : es[k]? = some (frV s t)) (hl : es.length ≤ 10) (w : Nat) (b : Blk) (hb : b = .dead ∨ ∃ cs, b = .box cs) (r : Option (Ex × Env × Heap))
  (N : Int) (hN : (es.length : Int) = N) (hr : runC lib ⟨lo, h.length, 1, none⟩ (.loop b59_0) ([(0, .bptr id 1 0), (6, .lsf 2 es), (7, .int .i64 N), (8, .int .i64 ((k : Int) + 1))], h.set id (1, .box [.bool (chkB a (rvalid s t))]) ++ [(w + 1, .box [.str s, .str t])]) = r) :
  runC lib ⟨lo, h.length, 1, none⟩ (.loop b59_0) ([(0, .bptr id 1 0), (6, .lsf 2 es), (7, .int .i64 N), (8, .int .i64 k)], h ++ [(w, b)]) = r := by
 have hlt : id < h.length := (List.getElem?_eq_some_iff.mp hid).1
 have hk : k < es.length := (List.getElem?_eq_some_iff.mp he).1
 have p := fun fr => pc_at (get_pre (fr := fr) hid)
 have st := fun fr (c : Bool) => ps_at (H := h ++ fr) (base := h.length) (ns := 1) (b := c) (get_pre (fr := fr) hid) hlo none
 have sp := fun fr c => set_pre (fr := fr) c hid
 simp only [sp] at st
 have c1 : (k : Int) < N := by omega
 have hs : Sl (h ++ [(w, b)]) 2 (.lsf 2 es) es := (show PureSl 2 (.lsf 2 es) es from .inr ⟨2, .inr rfl, .inl rfl⟩).sl _
 have e3 : sidx 2 (.lsf 2 es) (.int .i64 k) = some k := by rw [sidx_sl hs (by omega) (by omega)]; simp
 have e4 : ∀ off fr, pcells (h ++ fr) (.iptr (.lsf 2 es) k off) = some ((frV s t).cells.drop off) := fun off fr => by
  have := pc_iptr (off := off) ((show PureSl 2 (.lsf 2 es) es from .inr ⟨2, .inr rfl, .inl rfl⟩).sl (h ++ fr)).elems0 hk
  rw [this]
  have : es[k] = frV s t := by rw [List.getElem?_eq_getElem hk] at he; exact Option.some.inj he
  rw [this]
 have v := fun H lo => qvalid_run s t H lo
 simp only [frV, AV.cells] at e4 v
 rw [w_loop]
 cases a with
 | true =>
  simp only [chkB, Bool.true_or] at hr
  rcases hb with rfl | ⟨cs, rfl⟩
  ·simp (maxSteps := 1000000) (disch := omega) only [go_sem, c1, e3, e4, p, st]
   exact hr
  ·simp (maxSteps := 1000000) (disch := omega) only [go_sem, c1, e3, e4, p, st]
   exact hr
 | false =>
  cases c2 : rvalid s t with
  | true =>
   rw [c2] at v hr
   simp only [chkB, Bool.false_or, Bool.not_true] at hr
   rcases hb with rfl | ⟨cs, rfl⟩
   ·simp (maxSteps := 1000000) (disch := omega) only [go_sem, c1, e3, e4, p, v, st]
    exact hr
   ·simp (maxSteps := 1000000) (disch := omega) only [go_sem, c1, e3, e4, p, v, st]
    exact hr
  | false =>
   rw [c2] at v hr
   simp only [chkB, Bool.false_or, Bool.not_false] at hr
   rcases hb with rfl | ⟨cs, rfl⟩
   ·simp (maxSteps := 1000000) (disch := omega) only [go_sem, c1, e3, e4, p, v, st]
    exact hr
   ·simp (maxSteps := 1000000) (disch := omega) only [go_sem, c1, e3, e4, p, v, st]
    exact hr
theorem tk_app (h : Heap) (id : Nat) (X : Nat × Blk) (fr : Heap) : (h.set id X ++ fr).take h.length = h.set id X := by
 rw [List.take_append_of_le_length (by simp), List.take_of_length_le (by simp)]
theorem check_end {lo B : Nat} (H : Heap) (id : Nat) (es : List AV) (N : Int) : runC lib ⟨lo, B, 1, none⟩ (.loop b59_0) ([(0, .bptr id 1 0), (6, .lsf 2 es), (7, .int .i64 N), (8, .int .i64 N)], H) = some (.exit 0, ([], H)) := by
 rw [w_loop]
 simp (maxSteps := 1000000) (disch := omega) only [go_sem, Int.lt_irrefl]
theorem check2_run {h : Heap} {id : Nat} (hid : h[id]? = some okB) (s t u v : List UInt8) {lo : Nat} (hlo : lo ≤ id) : (run lib).fn 59 [.bptr id 1 0, .lsf 2 [frV s t, frV u v]] h lo = some (.tuple [], h.set id (1, .box [.bool (!(rvalid s t && rvalid u v))])) := by
 have hlt : id < h.length := (List.getElem?_eq_some_iff.mp hid).1
 have e : (chkB (chkB false (rvalid s t)) (rvalid u v)) = !(rvalid s t && rvalid u v) := by unfold chkB; cases rvalid s t <;> cases rvalid u v <;> rfl
 have hid2 : (h.set id (1, .box [.bool (chkB false (rvalid s t))]))[id]? = some (1, .box [.bool (chkB false (rvalid s t))]) := List.getElem?_set_self hlt
 have c2 := check_round (h := h.set id (1, .box [.bool (chkB false (rvalid s t))])) hid2 hlo [frV s t, frV u v] 1 u v rfl (by simp) 1 (.box [.str s, .str t]) (.inr ⟨_, rfl⟩) _ 2 rfl (check_end _ id [frV s t, frV u v] 2)
 rw [List.length_set, List.set_set, e] at c2
 have lp := check_round (a := false) hid hlo [frV s t, frV u v] 0 s t rfl (by simp) 0 .dead (.inl rfl) _ 2 rfl c2
 have ln : lenv false (.lsf 2 [frV s t, frV u v]) = some (.int .i64 2) := rfl
 simp only [Int.natCast_zero] at lp
 generalize [frV s t, frV u v] = es at *
 rw [run_open (x := x59) rfl rfl rfl rfl (by omega)]
 simp (maxSteps := 1000000) (disch := omega) only [go_sem, x59, ln, lp, tk_app]
theorem check1_run {h : Heap} {id : Nat} (hid : h[id]? = some okB) (s t : List UInt8) {lo : Nat} (hlo : lo ≤ id) : (run lib).fn 59 [.bptr id 1 0, .lsf 2 [frV s t]] h lo = some (.tuple [], h.set id (1, .box [.bool (!rvalid s t)])) := by
 have hlt : id < h.length := (List.getElem?_eq_some_iff.mp hid).1
 have e : chkB false (rvalid s t) = !rvalid s t := by unfold chkB; cases rvalid s t <;> rfl
 have lp := check_round (a := false) hid hlo [frV s t] 0 s t rfl (by simp) 0 .dead (.inl rfl) _ 1 rfl (check_end _ id [frV s t] 1)
 rw [e] at lp
 have ln : lenv false (.lsf 2 [frV s t]) = some (.int .i64 1) := rfl
 simp only [Int.natCast_zero] at lp
 generalize [frV s t] = es at *
 rw [run_open (x := x59) rfl rfl rfl rfl (by omega)]
 simp (maxSteps := 1000000) (disch := omega) only [go_sem, x59, ln, lp, tk_app]
end Go.VI.Rational
namespace Go.VI.Rational
open Go.VI.Num
theorem fitZ_t {z : Int} (h : Fit z) : fitZ z = true := decide_eq_true h
theorem fitZ_f {z : Int} (h : ¬ Fit z) : fitZ z = false := decide_eq_false h
theorem den_ne (q : Rat) : (q.den : Int) ≠ 0 := by have := q.den_pos; omega
theorem den2_ne (a b : Rat) : (a.den : Int) * b.den ≠ 0 := Int.mul_ne_zero (den_ne a) (den_ne b)
section
variable (h : Heap)
theorem at_ok (X : Nat × Blk) : (h ++ [okB, X])[h.length + 0]? = some okB := by rw [get_fr]; rfl
theorem at_bad (X : Nat × Blk) : (h ++ [badB, X])[h.length + 0]? = some badB := by rw [get_fr]; rfl
theorem to_bad (X : Nat × Blk) : (h ++ [okB, X]).set (h.length + 0) badB = h ++ [badB, X] := by rw [set_fr]; rfl
theorem to_same (X : Nat × Blk) : (h ++ [okB, X]).set (h.length + 0) okB = h ++ [okB, X] := by rw [set_fr]; rfl
theorem ck_ok {s t u v : List UInt8} (h1 : rvalid s t = true) (h2 : rvalid u v = true) (X : Nat × Blk) {lo : Nat} (hlo : lo ≤ h.length + 0) : (run lib).fn 59 [.bptr (h.length + 0) 1 0, .lsf 2 [.agg [.str s, .str t], .agg [.str u, .str v]]] (h ++ [okB, X]) lo = some (.tuple [], h ++ [okB, X]) := by
 have := check2_run (at_ok h X) s t u v hlo
 rw [h1, h2] at this
 exact this.trans (congrArg (fun H => some (AV.tuple [], H)) (to_same h X))
theorem m_ok {x y z : Int} (hx : Fit x) (hy : Fit y) (e : z = x * y) (hf : Fit z) (X : Nat × Blk) {lo : Nat} (hlo : lo ≤ h.length + 0) : (run lib).fn 60 [.bptr (h.length + 0) 1 0, .str (itxt x), .str (itxt y)] (h ++ [okB, X]) lo = some (.str (itxt z), h ++ [okB, X]) := by
 subst e; exact wmul_ok (at_ok h X) hx hy hf hlo
theorem m_err {x y z : Int} (hx : Fit x) (hy : Fit y) (e : z = x * y) (hf : ¬ Fit z) (X : Nat × Blk) {lo : Nat} (hlo : lo ≤ h.length + 0) : (run lib).fn 60 [.bptr (h.length + 0) 1 0, .str (itxt x), .str (itxt y)] (h ++ [okB, X]) lo = some (.str [], h ++ [badB, X]) := by
 subst e; rw [← to_bad h X]; exact wmul_err (at_ok h X) hx hy hf hlo
theorem m_bad (a b : List UInt8) (X : Nat × Blk) {lo : Nat} (hlo : lo ≤ h.length + 0) : (run lib).fn 60 [.bptr (h.length + 0) 1 0, .str a, .str b] (h ++ [badB, X]) lo = some (.str [], h ++ [badB, X]) := mul_bad' (at_bad h X) a b hlo
theorem d_bad (f : AV) (a b : List UInt8) (X : Nat × Blk) {lo : Nat} (hlo : lo ≤ h.length + 0) : (run lib).fn 84 [.bptr (h.length + 0) 1 0, f, .str a, .str b] (h ++ [badB, X]) lo = some (.str [], h ++ [badB, X]) := do_bad (at_bad h X) f a b hlo
theorem d_ok {g : Nat} (hg0 : g < 1000) {x y z : Int} (hg : ∀ h lo, (run lib).fn g [.str (itxt x), .str (itxt y)] h lo = some (outT z, h)) (hf : Fit z) (X : Nat × Blk) {lo : Nat} (hlo : lo ≤ h.length + 0) : (run lib).fn 84 [.bptr (h.length + 0) 1 0, .fn g [], .str (itxt x), .str (itxt y)] (h ++ [okB, X]) lo = some (.str (itxt z), h ++ [okB, X]) :=
 do_ok (at_ok h X) hg0 (fun lo => by rw [hg, outT_fit hf]) hlo
theorem d_err {g : Nat} (hg0 : g < 1000) {x y z : Int} (hg : ∀ h lo, (run lib).fn g [.str (itxt x), .str (itxt y)] h lo = some (outT z, h)) (hf : ¬ Fit z) (X : Nat × Blk) {lo : Nat} (hlo : lo ≤ h.length + 0) : (run lib).fn 84 [.bptr (h.length + 0) 1 0, .fn g [], .str (itxt x), .str (itxt y)] (h ++ [okB, X]) lo = some (.str [], h ++ [badB, X]) := by
 rw [← to_bad h X]
 exact do_err (at_ok h X) hg0 (e := 30) (by decide) (fun lo => by rw [hg]; unfold outT; rw [if_neg (show ¬ z.natAbs < 10 ^ 200 from hf)]) hlo
theorem r_bad (n d : List UInt8) (X : Nat × Blk) {lo : Nat} (hlo : lo ≤ h.length + 0) : (run lib).fn 57 [.bptr (h.length + 0) 1 0, .str n, .str d] (h ++ [badB, X]) lo = some (.tuple [.agg [.str [], .str []], .int .i64 40], h ++ [badB, X]) := reduced_bad (at_bad h X) n d hlo
theorem r_ok {n d : Int} (hn : Fit n) (hd : Fit d) (h0 : d ≠ 0) (X : Nat × Blk) {lo : Nat} (hlo : lo ≤ h.length + 0) : (run lib).fn 57 [.bptr (h.length + 0) 1 0, .str (itxt n), .str (itxt d)] (h ++ [okB, X]) lo = some (.tuple [.agg [.str (itxt (Rat.divInt n d).num), .str (itxt ((Rat.divInt n d).den : Int))], .int .i64 0], h ++ [okB, X]) := reduced_ok (at_ok h X) hn hd h0 hlo
theorem r_zero (n : Int) (X : Nat × Blk) {lo : Nat} (hlo : lo ≤ h.length + 0) : (run lib).fn 57 [.bptr (h.length + 0) 1 0, .str (itxt n), .str (itxt 0)] (h ++ [okB, X]) lo = some (.tuple [.agg [.str [], .str []], .int .i64 40], h ++ [okB, X]) := reduced_zero (at_ok h X) _ hlo
end
end Go.VI.Rational
namespace Go.VI.Rational
open Go.VI.Num
theorem cl_cptr (cs : List AV) : (AV.cptr cs).closed = true := by simp [AV.closed]
theorem qdiv_run {a b : Rat} (ha : FitQ a) (hb : FitQ b) (h : Heap) (lo : Nat) : (run lib).fn 26 [rt a, rt b] h lo = some (resO (divQ a b), h) := by
 have ck := fun X {lo} hlo => ck_ok h (rvalid_itxt ha) (rvalid_itxt hb) X (lo := lo) hlo
 have q := q_div a b
 have qz := q_div_zero (a := a) (b := b)
 unfold divQ rt frV
 obtain ⟨x, ex⟩ : ∃ x, x = a.num * b.den := ⟨_, rfl⟩
 obtain ⟨y, ey⟩ : ∃ y, y = (a.den : Int) * b.num := ⟨_, rfl⟩
 rw [← ex, ← ey] at q ⊢
 rw [← ey] at qz
 rw [run_closed (x := x26) rfl rfl rfl rfl]
 by_cases c1 : Fit x
 ·have m1 := fun X {lo} hlo => m_ok h ha.1 (den_fit hb) ex c1 X (lo := lo) hlo
  rw [fitZ_t c1]
  by_cases c2 : Fit y
  ·have m2 := fun X {lo} hlo => m_ok h (den_fit ha) hb.1 ey c2 X (lo := lo) hlo
   rw [fitZ_t c2]
   by_cases c3 : b = 0
   ·have r := fun X {lo} hlo => r_zero h x X (lo := lo) hlo
    have y0 : y = 0 := qz.mpr c3
    rw [y0] at m2
    rw [decide_eq_false (show ¬ b ≠ 0 from fun h => h c3)]
    simp (maxSteps := 1000000) (disch := omega) only [go_sem, x26, ck, m1, m2, r, resO, rt, frV]
   ·have hd : y ≠ 0 := fun h => c3 (qz.mp h)
    have r := fun X {lo} hlo => r_ok h c1 c2 hd X (lo := lo) hlo
    rw [q] at r
    rw [decide_eq_true (show b ≠ 0 from c3)]
    generalize a / b = Q at *
    simp (maxSteps := 1000000) (disch := omega) only [go_sem, x26, ck, m1, m2, r, resO, rt, frV]
  ·have m2 := fun X {lo} hlo => m_err h (den_fit ha) hb.1 ey c2 X (lo := lo) hlo
   rw [fitZ_f c2]
   simp (maxSteps := 1000000) (disch := omega) only [go_sem, x26, ck, m1, m2, r_bad, resO, rt, frV]
 ·have m1 := fun X {lo} hlo => m_err h ha.1 (den_fit hb) ex c1 X (lo := lo) hlo
  rw [fitZ_f c1]
  simp (maxSteps := 1000000) (disch := omega) only [go_sem, x26, ck, m1, m_bad, r_bad, resO, rt, frV]
theorem qsum_run {g : Nat} (hg0 : g < 1000) {a b : Rat} (ha : FitQ a) (hb : FitQ b) {z : Int} (hg : Fit (a.num * b.den) → Fit (b.num * a.den) → ∀ h lo, (run lib).fn g [.str (itxt (a.num * b.den)), .str (itxt (b.num * a.den))] h lo = some (outT z, h)) (h : Heap) (lo : Nat) :
  (run lib).fn 61 [.fn g [], rt a, rt b] h lo = some (resO (if fitZ (a.num * b.den) && fitZ (b.num * a.den) && fitZ z && fitZ ((a.den : Int) * b.den) then some (Rat.divInt z ((a.den : Int) * b.den)) else none), h) := by
 have ck := fun X {lo} hlo => ck_ok h (rvalid_itxt ha) (rvalid_itxt hb) X (lo := lo) hlo
 have hd := den2_ne a b
 unfold rt frV
 obtain ⟨x, ex⟩ : ∃ x, x = a.num * b.den := ⟨_, rfl⟩
 obtain ⟨u, eu⟩ : ∃ u, u = b.num * a.den := ⟨_, rfl⟩
 obtain ⟨y, ey⟩ : ∃ y, y = (a.den : Int) * b.den := ⟨_, rfl⟩
 rw [← ex, ← eu] at hg
 rw [← ex, ← eu, ← ey]
 rw [← ey] at hd
 rw [run_closed (x := x61) rfl rfl rfl rfl]
 by_cases c1 : Fit x
 ·have m1 := fun X {lo} hlo => m_ok h ha.1 (den_fit hb) ex c1 X (lo := lo) hlo
  rw [fitZ_t c1]
  by_cases c2 : Fit u
  ·have m2 := fun X {lo} hlo => m_ok h hb.1 (den_fit ha) eu c2 X (lo := lo) hlo
   rw [fitZ_t c2]
   by_cases c3 : Fit z
   ·have d := fun X {lo} hlo => d_ok h hg0 (hg c1 c2) c3 X (lo := lo) hlo
    rw [fitZ_t c3]
    by_cases c4 : Fit y
    ·have m3 := fun X {lo} hlo => m_ok h (den_fit ha) (den_fit hb) ey c4 X (lo := lo) hlo
     have r := fun X {lo} hlo => r_ok h c3 c4 hd X (lo := lo) hlo
     rw [fitZ_t c4]
     generalize Rat.divInt z y = Q at *
     simp (maxSteps := 1000000) (disch := omega) only [go_sem, x61, cl_cptr, ck, m1, m2, d, m3, r, resO, rt, frV]
    ·have m3 := fun X {lo} hlo => m_err h (den_fit ha) (den_fit hb) ey c4 X (lo := lo) hlo
     rw [fitZ_f c4]
     simp (maxSteps := 1000000) (disch := omega) only [go_sem, x61, cl_cptr, ck, m1, m2, d, m3, r_bad, resO, rt, frV]
   ·have d := fun X {lo} hlo => d_err h hg0 (hg c1 c2) c3 X (lo := lo) hlo
    rw [fitZ_f c3]
    simp (maxSteps := 1000000) (disch := omega) only [go_sem, x61, cl_cptr, ck, m1, m2, d, m_bad, r_bad, resO, rt, frV]
  ·have m2 := fun X {lo} hlo => m_err h hb.1 (den_fit ha) eu c2 X (lo := lo) hlo
   rw [fitZ_f c2]
   simp (maxSteps := 1000000) (disch := omega) only [go_sem, x61, cl_cptr, ck, m1, m2, d_bad, m_bad, r_bad, resO, rt, frV]
 ·have m1 := fun X {lo} hlo => m_err h ha.1 (den_fit hb) ex c1 X (lo := lo) hlo
  rw [fitZ_f c1]
  simp (maxSteps := 1000000) (disch := omega) only [go_sem, x61, cl_cptr, ck, m1, d_bad, m_bad, r_bad, resO, rt, frV]
theorem resO_cells (o : Option Rat) : ∃ s t e, resO o = .tuple [.agg [.str s, .str t], .int .i64 e] := by
 cases o with
 | none => exact ⟨_, _, _, rfl⟩
 | some q => exact ⟨_, _, _, rfl⟩
theorem qadd_run {a b : Rat} (ha : FitQ a) (hb : FitQ b) (h : Heap) (lo : Nat) : (run lib).fn 27 [rt a, rt b] h lo = some (resO (addQ a b), h) := by
 have s := fun H lo => qsum_run (g := 62) (by decide) ha hb (z := a.num * b.den + b.num * a.den) (fun h1 h2 H lo => add_run h1 h2 H lo) H lo
 rw [q_add] at s
 unfold addQ
 generalize (if fitZ (a.num * b.den) && fitZ (b.num * a.den) && fitZ (a.num * b.den + b.num * a.den) && fitZ ((a.den : Int) * b.den) then some (a + b) else none) = o at *
 obtain ⟨s1, s2, e, he⟩ := resO_cells o
 rw [he] at s ⊢
 unfold rt frV at s ⊢
 rw [run_closed (x := x27) rfl rfl rfl rfl]
 simp (maxSteps := 1000000) (disch := omega) only [go_sem, x27, s]
theorem qof_run {n d : Int} (hn : Fit n) (hd : Fit d) (hn1 : -9223372036854775808 ≤ n ∧ n ≤ 9223372036854775807) (hd1 : -9223372036854775808 ≤ d ∧ d ≤ 9223372036854775807) (h : Heap) (lo : Nat) : (run lib).fn 41 [.int .i64 n, .int .i64 d] h lo = some (resO (makeQ n d), h) := by
 have f1 := fun H lo => fromint_run hn1.1 hn1.2 H lo
 have f2 := fun H lo => fromint_run hd1.1 hd1.2 H lo
 have m := fun H lo => qmake_run hn hd H lo
 obtain ⟨s1, s2, e, he⟩ := resO_cells (makeQ n d)
 rw [he] at m ⊢
 rw [run_closed (x := x41) rfl rfl rfl rfl]
 simp (maxSteps := 1000000) (disch := omega) only [go_sem, x41, f1, f2, m]
end Go.VI.Rational
namespace Go.VI.Rational
open Go.VI.Num
theorem cmpN_cases (x y : Int) : (cmpN x y = -1 ∧ x < y) ∨ (cmpN x y = 0 ∧ x = y) ∨ (cmpN x y = 1 ∧ y < x) := by
 unfold cmpN
 by_cases h1 : x < y
 ·rw [if_pos h1]; omega
 ·rw [if_neg h1]
  by_cases h2 : x = y
  ·rw [if_pos h2]; omega
  ·rw [if_neg h2]; omega
theorem cmp_loop (h : Heap) : ∀ (k : Nat) (n d m c σ : Int), d.toNat ≤ k → 0 < d → 0 < c → Fit n → Fit d → Fit m → Fit c → (σ = 1 ∨ σ = -1) → ∃ env' fr', fr'.length = 2 ∧
  runC lib ⟨h.length, h.length, 2, none⟩ (.loop b23_0) ([(2, .bptr (h.length + 0) 1 0), (3, .bptr (h.length + 1) 1 0), (5, .int .i64 σ)], h ++ [(1, .box [.str (itxt n), .str (itxt d)]), (1, .box [.str (itxt m), .str (itxt c)])]) =
   some (.ret, (env', h ++ fr')) ∧ env'.get 4 = .int .i64 (σ * cmpN (n * c) (m * d)) := by
 intro k
 induction k with
 | zero => intro n d m c σ h1 h2; omega
 | succ k ih =>
  intro n d m c σ hk hd hc fn fd fm fc hσ
  have v1 := fun H lo => div_run fn fd (by omega) H lo
  have v2 := fun H lo => div_run fm fc (by omega) H lo
  unfold divT at v1 v2
  have fp := ediv_fit fn (show d ≠ 0 by omega)
  have fq := ediv_fit fm (show c ≠ 0 by omega)
  have fr := emod_fit (x := n) fd (by omega)
  have fs := emod_fit (x := m) fc (by omega)
  have cm := fun H lo => compare_run fp fq H lo
  have ne := round_ne (n := n) (m := m) hd hc
  have eq := round_eq (n := n) (d := d) (m := m) (c := c)
  have r0 := Int.emod_nonneg n (show d ≠ 0 by omega)
  have s0 := Int.emod_nonneg m (show c ≠ 0 by omega)
  have r1 := Int.emod_lt_of_pos n hd
  have s1 := Int.emod_lt_of_pos m hc
  have cc := cmpN_cases (n / d) (m / c)
  generalize n / d = p at *
  generalize m / c = q at *
  generalize n % d = r at *
  generalize m % c = s at *
  rcases cc with ⟨e, l⟩ | ⟨e, l⟩ | ⟨e, l⟩
  ·have e2 := ne (by omega)
   rw [e] at e2 cm
   refine ⟨[(4, .int .i64 (σ * -1))], [(1, .box [.str (itxt n), .str (itxt d)]), (1, .box [.str (itxt m), .str (itxt c)])], rfl, ?_, by rw [← e2]; rfl⟩
   rw [w_loop]
   rcases hσ with rfl | rfl
   ·simp (maxSteps := 1000000) (disch := omega) only [go_sem, v1, v2, cm]
   ·simp (maxSteps := 1000000) (disch := omega) only [go_sem, v1, v2, cm]
  ·have e2 := eq l
   rw [e] at cm
   by_cases hr : r = 0
   ·subst hr
    rw [zero_txt] at v1
    rw [Int.zero_mul] at e2
    by_cases hs : s = 0
    ·subst hs
     rw [zero_txt] at v2
     refine ⟨[(4, .int .i64 0)], [(1, .box [.str (itxt n), .str (itxt d)]), (1, .box [.str (itxt m), .str (itxt c)])], rfl, ?_, by rw [e2, Int.zero_mul, show cmpN 0 0 = 0 from rfl, Int.mul_zero]; rfl⟩
     rw [w_loop]
     rcases hσ with rfl | rfl
     ·simp (maxSteps := 1000000) (disch := omega) only [go_sem, v1, v2, cm]
     ·simp (maxSteps := 1000000) (disch := omega) only [go_sem, v1, v2, cm]
    ·have hz := txt_nz hs
     have hp : 0 < s * d := Int.mul_pos (by omega) hd
     refine ⟨[(4, .int .i64 (-σ))], [(1, .box [.str (itxt n), .str (itxt d)]), (1, .box [.str (itxt m), .str (itxt c)])], rfl, ?_, by rw [e2, show cmpN 0 (s * d) = -1 from if_pos hp, Int.mul_neg, Int.mul_one]; rfl⟩
     rw [w_loop]
     rcases hσ with rfl | rfl
     ·simp (maxSteps := 1000000) (disch := omega) only [go_sem, v1, v2, cm, hz]
     ·simp (maxSteps := 1000000) (disch := omega) only [go_sem, v1, v2, cm, hz]
   ·have hy := txt_nz hr
    by_cases hs : s = 0
    ·subst hs
     rw [zero_txt] at v2
     have hp : 0 < r * c := Int.mul_pos (by omega) hc
     refine ⟨[(4, .int .i64 σ)], [(1, .box [.str (itxt n), .str (itxt d)]), (1, .box [.str (itxt m), .str (itxt c)])], rfl, ?_, by rw [e2, Int.zero_mul, show cmpN (r * c) 0 = 1 from by unfold cmpN; rw [if_neg (by omega), if_neg (by omega)], Int.mul_one]; rfl⟩
     rw [w_loop]
     rcases hσ with rfl | rfl
     ·simp (maxSteps := 1000000) (disch := omega) only [go_sem, v1, v2, cm, hy]
     ·simp (maxSteps := 1000000) (disch := omega) only [go_sem, v1, v2, cm, hy]
    ·have hz := txt_nz hs
     obtain ⟨env', fr', l', w', g'⟩ := ih d r c s (-σ) (by omega) (by omega) (by omega) fd fr fc fs (by omega)
     refine ⟨env', fr', l', ?_, ?_⟩
     ·have hne1 : ¬ h.length + 0 = h.length + 1 := by omega
      have hne2 : ¬ h.length + 1 = h.length + 0 := by omega
      rw [w_loop]
      rcases hσ with rfl | rfl
      ·simp (maxSteps := 1000000) (disch := omega) only [go_sem, v1, v2, cm, hy, hz, hne1, hne2]
       exact w'
      ·simp (maxSteps := 1000000) (disch := omega) only [go_sem, v1, v2, cm, hy, hz, hne1, hne2]
       exact w'
     ·rw [g', e2, round_swap, Int.neg_mul_neg]
  ·have e2 := ne (by omega)
   rw [e] at e2 cm
   refine ⟨[(4, .int .i64 (σ * 1))], [(1, .box [.str (itxt n), .str (itxt d)]), (1, .box [.str (itxt m), .str (itxt c)])], rfl, ?_, by rw [← e2]; rfl⟩
   rw [w_loop]
   rcases hσ with rfl | rfl
   ·simp (maxSteps := 1000000) (disch := omega) only [go_sem, v1, v2, cm]
   ·simp (maxSteps := 1000000) (disch := omega) only [go_sem, v1, v2, cm]
theorem qcompare_run {a b : Rat} (ha : FitQ a) (hb : FitQ b) (h : Heap) (lo : Nat) : (run lib).fn 23 [rt a, rt b] h lo = some (.int .i64 (cmpQ a b), h) := by
 have va := fun H lo => qvalid_run (itxt a.num) (itxt (a.den : Int)) H lo
 have vb := fun H lo => qvalid_run (itxt b.num) (itxt (b.den : Int)) H lo
 rw [rvalid_itxt ha] at va
 rw [rvalid_itxt hb] at vb
 obtain ⟨env', fr', l, w, g⟩ := cmp_loop h _ a.num (a.den : Int) b.num (b.den : Int) 1 (Nat.le_refl _) (by have := a.den_pos; omega) (by have := b.den_pos; omega) ha.1 (den_fit ha) hb.1 (den_fit hb) (.inl rfl)
 rw [Int.one_mul] at g
 unfold cmpQ
 unfold rt frV at *
 rw [run_closed (x := x23) rfl rfl rfl rfl]
 simp (maxSteps := 1000000) (disch := omega) only [go_sem, x23, va, vb, w, g, List.take_left']
end Go.VI.Rational
namespace Go.VI.Rational
open Go.VI.Num
def p10 (p : Nat) : Int := 10 ^ p
theorem dv_zeros : ∀ (p : Nat) (a : Nat), dv a (List.replicate p 48) = a * 10 ^ p
 | 0, a => by simp [dv_nil]
 | p + 1, a => by
  rw [List.replicate_succ, dv_cons, dv_zeros p, Nat.pow_succ]
  have : (48 : UInt8).toNat - 48 = 0 := rfl
  rw [this, Nat.add_zero, Nat.mul_assoc, Nat.mul_comm 10]
theorem p10_txt (p : Nat) : 49 :: List.replicate p 48 = itxt (p10 p) := by
 have hd : Digs (49 :: List.replicate p 48) := by
  intro c hc
  rw [List.mem_cons] at hc
  rcases hc with rfl | hc
  ·exact ⟨by decide, by decide⟩
  ·rw [List.mem_replicate] at hc
   rw [hc.2]; exact ⟨by decide, by decide⟩
 have hn : NoLead (49 :: List.replicate p 48) := ⟨by simp, .inr (by simp)⟩
 have h1 := dec_dv _ _ rfl hd hn
 have h2 : dv 0 (49 :: List.replicate p 48) = 10 ^ p := by
  rw [dv_cons, dv_zeros]
  have : (49 : UInt8).toNat - 48 = 1 := rfl
  rw [this]; omega
 rw [h2] at h1
 have h3 : p10 p = ((10 ^ p : Nat) : Int) := by unfold p10; rw [Int.natCast_pow]; rfl
 rw [h3, itxt_nat', h1]
theorem p10_fit {p : Nat} (h : p < 200) : Fit (p10 p) := by
 unfold Fit p10
 rw [Int.natAbs_pow]
 exact Nat.pow_lt_pow_right (by decide) h
theorem p10_pos (p : Nat) : 0 < p10 p := pow10_pos p
def gridQ (r : Rat) (p : Nat) (up : Bool) : Option Rat := if fitZ (r.num * 10 ^ p) then some (if up then upQ r p else dnQ r p) else none
theorem q1_fit {n d : Int} (hn : Fit n) (hd : 0 < d) (h : n % d ≠ 0) : Fit (n / d + 1) := by
 have e := Int.mul_ediv_add_emod n d
 have r0 := Int.emod_nonneg n (show d ≠ 0 by omega)
 have r1 := Int.emod_lt_of_pos n hd
 have hf := ediv_fit (y := d) hn (by omega)
 unfold Fit at *
 have h2 : 2 ≤ d := by
  rcases Int.lt_or_le d 2 with h3 | h3
  ·exfalso; apply h; have : d = 1 := by omega
   rw [this]; exact Int.emod_one n
  ·exact h3
 by_cases hp : 0 ≤ n / d
 ·have : n / d * 2 ≤ n / d * d := Int.mul_le_mul_of_nonneg_left h2 hp
  rw [Int.mul_comm] at e
  generalize n / d = q at *
  generalize n % d = r at *
  generalize q * d = Z at *
  omega
 ·omega
theorem ck1_ok (h : Heap) {s t : List UInt8} (h1 : rvalid s t = true) (X : Nat × Blk) {lo : Nat} (hlo : lo ≤ h.length + 0) : (run lib).fn 59 [.bptr (h.length + 0) 1 0, .lsf 2 [.agg [.str s, .str t]]] (h ++ [okB, X]) lo = some (.tuple [], h ++ [okB, X]) := by
 have := check1_run (at_ok h X) s t hlo
 rw [h1] at this
 exact this.trans (congrArg (fun H => some (AV.tuple [], H)) (to_same h X))
theorem qround_run {r : Rat} (hr : FitQ r) {p : Nat} (hp : p ≤ 30) (up : Bool) (h : Heap) (lo : Nat) : (run lib).fn 69 [rt r, .int .i64 p, .bool up] h lo = some (resO (gridQ r p up), h) := by
 have ck := fun X {lo} hlo => ck1_ok h (rvalid_itxt hr) X (lo := lo) hlo
 have c1 : ¬ (p : Int) < 0 := by omega
 have c2 : ¬ (30 : Int) < p := by omega
 have rp := fun H lo => repeat_run (n := p) (by omega) 48 H lo
 have tx : binv .add (.str [49]) (.str (List.replicate p 48)) = some (.str (itxt (p10 p))) := by rw [bin_sadd (by simp; omega)]; exact congrArg (fun l => some (AV.str l)) (p10_txt p)
 have ft := p10_fit (p := p) (by omega)
 have tp := p10_pos p
 have nd := den_ne r
 have dp : (0 : Int) < r.den := by have := r.den_pos; omega
 unfold rt frV gridQ
 obtain ⟨n, en⟩ : ∃ n, n = r.num * p10 p := ⟨_, rfl⟩
 have en' : r.num * 10 ^ p = n := en.symm
 rw [en']
 have eD : dnQ r p = Rat.divInt (n / r.den) (p10 p) := by unfold dnQ dnZ; rw [en']; rfl
 have eU : upQ r p = Rat.divInt (if n % r.den = 0 then n / r.den else n / r.den + 1) (p10 p) := by unfold upQ upZ; rw [en']; rfl
 rw [run_closed (x := x69) rfl rfl rfl rfl]
 by_cases cf : Fit n
 ·have m := fun X {lo} hlo => m_ok h hr.1 ft en cf X (lo := lo) hlo
  have dv := fun H lo => div_run cf (den_fit hr) nd H lo
  unfold divT at dv
  have fq := ediv_fit (y := (r.den : Int)) cf nd
  have q1 := fun hh => q1_fit (d := (r.den : Int)) cf dp hh
  have rdn := fun X {lo} hlo => r_ok h fq ft (by omega) X (lo := lo) hlo
  rw [fitZ_t cf, if_pos rfl, eD, eU]
  have st := fun X (c : Bool) => ps_at (base := h.length) (ns := 2) (lo := h.length) (b := c) (at_ok h X) (by omega) none
  have st2 := fun X => (st X false).trans (by rw [to_same h X])
  cases up with
  | false =>
   simp only [Bool.false_eq_true, if_false]
   generalize n / (r.den : Int) = q at *
   generalize n % (r.den : Int) = s at *
   generalize Rat.divInt q (p10 p) = Q at *
   simp (maxSteps := 1000000) (disch := omega) only [go_sem, x69, ck, c1, c2, rp, tx, m, dv, st2, rdn, resO, rt, frV]
  | true =>
   simp only [if_true]
   generalize n % (r.den : Int) = s at *
   by_cases cs : s = 0
   ·subst cs
    rw [if_pos rfl]
    rw [zero_txt] at dv
    generalize n / (r.den : Int) = q at *
    generalize Rat.divInt q (p10 p) = Q at *
    simp (maxSteps := 1000000) (disch := omega) only [go_sem, x69, ck, c1, c2, rp, tx, m, dv, st2, rdn, resO, rt, frV]
   ·have hz := txt_nz cs
    have f1 := q1 cs
    have ad := fun X {lo} hlo => d_ok h (g := 62) (by decide) (x := n / (r.den : Int)) (y := 1) (z := n / (r.den : Int) + 1) (fun H lo => add_run fq (by unfold Fit; decide) H lo) f1 X (lo := lo) hlo
    rw [itxt_one] at ad
    have rup := fun X {lo} hlo => r_ok h f1 ft (by omega) X (lo := lo) hlo
    rw [if_neg cs]
    generalize n / (r.den : Int) = q at *
    generalize q + 1 = q' at *
    generalize Rat.divInt q' (p10 p) = Q at *
    simp (maxSteps := 1000000) (disch := omega) only [go_sem, x69, ck, c1, c2, rp, tx, m, dv, st2, hz, ad, rup, resO, rt, frV]
 ·have m := fun X {lo} hlo => m_err h hr.1 ft en cf X (lo := lo) hlo
  rw [fitZ_f cf, if_neg (by simp)]
  simp (maxSteps := 1000000) (disch := omega) only [go_sem, x69, ck, c1, c2, rp, tx, m, resO, rt, frV]
theorem qdown_run {r : Rat} (hr : FitQ r) {p : Nat} (hp : p ≤ 30) (h : Heap) (lo : Nat) : (run lib).fn 35 [rt r, .int .i64 p] h lo = some (resO (gridQ r p false), h) := by
 have s := fun H lo => qround_run hr hp false H lo
 obtain ⟨s1, s2, e, he⟩ := resO_cells (gridQ r p false)
 rw [he] at s ⊢
 unfold rt frV at s ⊢
 rw [run_closed (x := x35) rfl rfl rfl rfl]
 simp (maxSteps := 1000000) (disch := omega) only [go_sem, x35, s]
theorem qup_run {r : Rat} (hr : FitQ r) {p : Nat} (hp : p ≤ 30) (h : Heap) (lo : Nat) : (run lib).fn 37 [rt r, .int .i64 p] h lo = some (resO (gridQ r p true), h) := by
 have s := fun H lo => qround_run hr hp true H lo
 obtain ⟨s1, s2, e, he⟩ := resO_cells (gridQ r p true)
 rw [he] at s ⊢
 unfold rt frV at s ⊢
 rw [run_closed (x := x37) rfl rfl rfl rfl]
 simp (maxSteps := 1000000) (disch := omega) only [go_sem, x37, s]
end Go.VI.Rational
namespace Go.VI.Rational
open Go.VI.Num
theorem join_run {a b : List UInt8} (hl : a.length + b.length ≤ 1000) (h : Heap) (lo : Nat) : (run lib).fn 47 [.lsf 1 [.str a, .str b], .str [47]] h lo = some (.str (a ++ 47 :: b), h) := by
 refine run_orc ?_
 show orcV .join [.lsf 1 [.str a, .str b], .str [47]] h = some _
 have e1 : asList h 1 (.lsf 1 [.str a, .str b]) = some [.str a, .str b] := ((show PureSl 1 (.lsf 1 [.str a, .str b]) [.str a, .str b] from .inr ⟨1, .inr rfl, .inl rfl⟩).sl h).list0
 have e2 : strsOf [.str a, .str b] = some [a, b] := rfl
 have e3 : Lib.join [a, b] [47] = a ++ 47 :: b := by simp [Lib.join]
 simp only [orcV, e1, e2, e3, Option.bind_some]
 rw [if_pos ⟨by simp [bldLim], by simp [bldLim]; omega⟩]
theorem cut_run {s : List UInt8} (hl : s.length ≤ 1000000) (h : Heap) (lo : Nat) : (run lib).fn 48 [.str s, .str [47]] h lo = some (.tuple [.str (cutL s [47]).1, .str (cutL s [47]).2.1, .bool (cutL s [47]).2.2], h) := by
 refine run_orc ?_
 show orcV .cut [.str s, .str [47]] h = some _
 simp only [orcV]
 rw [if_pos (by simp [strLim]; omega)]
theorem qprint_run (s t : List UInt8) (h : Heap) (lo : Nat) : (run lib).fn 14 [frV s t] h lo = some (.str (printS s t), h) := by
 have v := fun H lo => qvalid_run s t H lo
 unfold frV at *
 rw [run_closed (x := x14) rfl rfl rfl rfl]
 cases hv : rvalid s t with
 | false =>
  rw [hv] at v
  rw [printS_bad hv]
  simp (maxSteps := 1000000) (disch := omega) only [go_sem, x14, v]
 | true =>
  rw [hv] at v
  unfold printS
  rw [if_pos hv]
  by_cases c : t = [49]
  ·rw [if_pos c]
   subst c
   simp (maxSteps := 1000000) (disch := omega) only [go_sem, x14, v]
  ·rw [if_neg c]
   obtain ⟨q, f, e1, e2⟩ := rvalid_rat hv
   have l1 := itxt_len (z := q.num) f.1
   have l2 := itxt_len (z := (q.den : Int)) (den_fit f)
   rw [← e1] at l1
   rw [← e2] at l2
   have j := fun H lo => join_run (a := s) (b := t) (by omega) H lo
   simp (maxSteps := 1000000) (disch := omega) only [go_sem, x14, v, c, j]
def parseV (s : List UInt8) : AV := if parseOk s then .tuple [frV (pairL s).1 (pairL s).2, .int .i64 0] else .tuple [frV [] [], .int .i64 40]
theorem qparse_run {s : List UInt8} (hl : s.length ≤ 1000000) (h : Heap) (lo : Nat) : (run lib).fn 15 [.str s] h lo = some (parseV s, h) := by
 have ct := fun H lo => cut_run hl H lo
 have pr := fun H lo => qprint_run (pairL s).1 (pairL s).2 H lo
 have cp := cut_pair s
 unfold parseV parseOk
 generalize printS (pairL s).1 (pairL s).2 = P at *
 generalize pairL s = pp at *
 obtain ⟨n, d⟩ := pp
 rcases hcut : cutL s [47] with ⟨a, b, is⟩
 rw [hcut] at ct cp
 simp only [Prod.mk.injEq] at cp
 obtain ⟨rfl, rfl⟩ := cp
 clear hcut
 unfold frV at *
 rw [run_closed (x := x15) rfl rfl rfl rfl]
 by_cases c2 : s = []
 ·have e : (P == s && !(s == [])) = false := by simp [c2]
  rw [e]
  subst c2
  by_cases c1 : P = []
  ·cases is
   ·simp only [Bool.false_eq_true, if_false] at pr
    simp (maxSteps := 1000000) (disch := omega) only [go_sem, x15, ct, pr, c1]
   ·simp only [if_true] at pr
    simp (maxSteps := 1000000) (disch := omega) only [go_sem, x15, ct, pr, c1]
  ·cases is
   ·simp only [Bool.false_eq_true, if_false] at pr
    simp (maxSteps := 1000000) (disch := omega) only [go_sem, x15, ct, pr, c1]
   ·simp only [if_true] at pr
    simp (maxSteps := 1000000) (disch := omega) only [go_sem, x15, ct, pr, c1]
 ·by_cases c1 : P = s
  ·have e : (P == s && !(s == [])) = true := by simp [c1, c2]
   rw [e]
   subst c1
   cases is
   ·simp only [Bool.false_eq_true, if_false] at pr ⊢
    simp (maxSteps := 1000000) (disch := omega) only [go_sem, x15, ct, pr, c2]
   ·simp only [if_true] at pr ⊢
    simp (maxSteps := 1000000) (disch := omega) only [go_sem, x15, ct, pr, c2]
  ·have e : (P == s && !(s == [])) = false := by simp [c1]
   rw [e]
   cases is
   ·simp only [Bool.false_eq_true, if_false] at pr
    simp (maxSteps := 1000000) (disch := omega) only [go_sem, x15, ct, pr, c1, c2]
   ·simp only [if_true] at pr
    simp (maxSteps := 1000000) (disch := omega) only [go_sem, x15, ct, pr, c1, c2]
end Go.VI.Rational
namespace Go.VI.Rational
open Go.VI.Num
theorem svalid_run {s t : List UInt8} (hs : s.length ≤ 9223372036854775807) (ht : t.length ≤ 9223372036854775807) (h : Heap) (lo : Nat) : (run lib).fn 40 [frV s t] h lo = some (.bool (rvalid s t), h) := by
 have v1 := fun H lo => rvalid_run hs H lo
 have v2 := fun H lo => rvalid_run ht H lo
 unfold frV rvalid
 rw [run_closed (x := x40) rfl rfl rfl rfl]
 cases c1 : validS s with
 | false =>
  rw [c1] at v1
  simp (maxSteps := 1000000) (disch := omega) only [go_sem, x40, v1, v2]
 | true =>
  rw [c1] at v1
  cases c2 : validS t with
  | false =>
   rw [c2] at v2
   simp (maxSteps := 1000000) (disch := omega) only [go_sem, x40, v1, v2]
  | true =>
   rw [c2] at v2
   obtain ⟨e1, f1⟩ := valid_txt c1
   obtain ⟨e2, f2⟩ := valid_txt c2
   have cm := fun H lo => rcompare_run (x := zv t) (y := 0) f2 fit_zero H lo
   rw [zero_txt, ← e2] at cm
   have gc := fun H lo => rgcd_run f1 f2 H lo
   rw [← e1, ← e2] at gc
   have cl := cmpN_le (zv t)
   have g1 := txt_one ((Int.gcd (zv s) (zv t) : Nat) : Int)
   generalize itxt ((Int.gcd (zv s) (zv t) : Nat) : Int) = G at *
   generalize cmpN (zv t) 0 = q at *
   by_cases c3 : 0 < zv t
   ·rw [decide_eq_true c3] at cl ⊢
    have cl' : ¬ q ≤ 0 := by simpa using cl
    by_cases c4 : G = [49]
    ·have c5 : (Int.gcd (zv s) (zv t) == 1) = true := by
      rw [decide_eq_true c4] at g1
      have := of_decide_eq_true g1.symm
      simp only [beq_iff_eq]; omega
     rw [c5]
     simp (maxSteps := 1000000) (disch := omega) only [go_sem, x40, v1, v2, cm, cl', gc, c4]
    ·have c5 : (Int.gcd (zv s) (zv t) == 1) = false := by
      rw [decide_eq_false c4] at g1
      have := of_decide_eq_false g1.symm
      simp only [beq_eq_false_iff_ne, ne_eq]; omega
     rw [c5]
     simp (maxSteps := 1000000) (disch := omega) only [go_sem, x40, v1, v2, cm, cl', gc, c4]
   ·rw [decide_eq_false c3] at cl ⊢
    have cl' : q ≤ 0 := by simpa using cl
    simp (maxSteps := 1000000) (disch := omega) only [go_sem, x40, v1, v2, cm, cl']
theorem smake_run {n d : Int} (hn : Fit n) (hd : Fit d) (h : Heap) (lo : Nat) : (run lib).fn 39 [.str (itxt n), .str (itxt d)] h lo = some (resO (makeQ n d), h) := by
 have v1 := fun H lo => rvalid_run (fit_str hn) H lo
 have v2 := fun H lo => rvalid_run (fit_str hd) H lo
 rw [validS_itxt hn] at v1
 rw [validS_itxt hd] at v2
 unfold makeQ
 rw [run_closed (x := x39) rfl rfl rfl rfl]
 by_cases c : d = 0
 ·subst c
  rw [if_pos rfl, zero_txt] at *
  simp (maxSteps := 1000000) (disch := omega) only [go_sem, x39, v1, v2, resO, frV]
 ·have hz := txt_nz c
  have cm := fun H lo => rcompare_run hd fit_zero H lo
  rw [zero_txt] at cm
  have cl := cmpN_lt0 d
  rw [if_neg c]
  have fin : ∀ {N D : Int}, Fit N → Fit D → 0 < D → Rat.divInt N D = Rat.divInt n d → ∃ G R1 R2 : Int, (∀ H lo, (run lib).fn 71 [.str (itxt N), .str (itxt D)] H lo = some (.tuple [.str (itxt G), .int .i64 0], H)) ∧
    (∀ H lo, (run lib).fn 66 [.str (itxt N), .str (itxt G)] H lo = some (.tuple [.str (itxt (Rat.divInt n d).num), .str (itxt R1), .int .i64 0], H)) ∧
    (∀ H lo, (run lib).fn 66 [.str (itxt D), .str (itxt G)] H lo = some (.tuple [.str (itxt ((Rat.divInt n d).den : Int)), .str (itxt R2), .int .i64 0], H)) := by
   intro N D hN hD hp he
   have hG := gcd_fit hN hD
   have hG0 := gcd_ne (n := N) (d := D) (by omega)
   refine ⟨(Int.gcd N D : Nat), N % (Int.gcd N D : Nat), D % (Int.gcd N D : Nat), fun H lo => rgcd_run hN hD H lo, fun H lo => ?_, fun H lo => ?_⟩
   ·rw [← he, divInt_num hp]
    exact rdivE_run hN hG hG0 H lo
   ·rw [← he, divInt_den hp]
    exact rdivE_run hD hG hG0 H lo
  generalize cmpN d 0 = q at *
  by_cases c2 : d < 0
  ·obtain ⟨G, R1, R2, g1, g2, g3⟩ := fin (neg_fit hn) (neg_fit hd) (by omega) (Rat.neg_divInt_neg n d)
   have s1 := fun H lo => rsub_run fit_zero hn H lo
   have s2 := fun H lo => rsub_run fit_zero hd H lo
   rw [zero_txt, Int.zero_sub, outT_fit (neg_fit hn)] at s1
   rw [zero_txt, Int.zero_sub, outT_fit (neg_fit hd)] at s2
   have cl' : q < 0 := cl.mpr c2
   clear fin
   simp (maxSteps := 1000000) (disch := omega) only [go_sem, x39, v1, v2, hz, cm, cl', s1, s2, g1, g2, g3, resO, rt, frV]
  ·obtain ⟨G, R1, R2, g1, g2, g3⟩ := fin hn hd (by omega) rfl
   have cl' : ¬ q < 0 := fun h => c2 (cl.mp h)
   clear fin
   simp (maxSteps := 1000000) (disch := omega) only [go_sem, x39, v1, v2, hz, cm, cl', g1, g2, g3, resO, rt, frV]
end Go.VI.Rational
namespace Go.VI.Rational
open Go.VI.Num
def I64 (c : Int) : Prop := -9223372036854775808 ≤ c ∧ c ≤ 9223372036854775807
def pk (c n : Int) : Int := (if c < 0 then -(c + 1) else c) % n
theorem pk_range (c : Int) {n : Int} (hn : 0 < n) : 0 ≤ pk c n ∧ pk c n < n := ⟨Int.emod_nonneg _ (by omega), Int.emod_lt_of_pos _ hn⟩
theorem spick_run {c n : Int} (hn : 0 < n) (hc : I64 c) (h : Heap) (lo : Nat) : (run lib).fn 46 [.int .i64 c, .int .i64 n] h lo = some (.int .i64 (pk c n), h) := by
 obtain ⟨h1, h2⟩ := hc
 unfold pk
 rw [run_closed (x := x46) rfl rfl rfl rfl]
 by_cases c0 : c < 0
 ·rw [if_pos c0]
  simp (maxSteps := 1000000) (disch := omega) only [go_sem, x46, c0]
 ·rw [if_neg c0]
  simp (maxSteps := 1000000) (disch := omega) only [go_sem, x46, c0]
theorem lpick_run {c n : Int} (hn : 0 < n) (hc : I64 c) (h : Heap) (lo : Nat) : (run lib).fn 18 [.int .i64 c, .int .i64 n] h lo = some (.int .i64 (pk c n), h) := by
 obtain ⟨h1, h2⟩ := hc
 unfold pk
 rw [run_closed (x := x18) rfl rfl rfl rfl]
 by_cases c0 : c < 0
 ·rw [if_pos c0]
  simp (maxSteps := 1000000) (disch := omega) only [go_sem, x18, c0]
 ·rw [if_neg c0]
  simp (maxSteps := 1000000) (disch := omega) only [go_sem, x18, c0]
theorem lis_run (a b : List UInt8) (h : Heap) (lo : Nat) : (run lib).fn 24 [.str a, .str b] h lo = some (.agg [.str a, .str b], h) := by
 rw [run_closed (x := x24) rfl rfl rfl rfl]
 simp (maxSteps := 1000000) (disch := omega) only [go_sem, x24]
theorem small_fit {z : Int} (h : z.natAbs < 1000000000000000000000) : Fit z := by
 have : (1000000000000000000000 : Nat) = 10 ^ 21 := by decide
 unfold Fit
 rw [this] at h
 exact Nat.lt_of_lt_of_le h (Nat.pow_le_pow_right (by decide) (by decide))
def smallQ (a b : Int) : Rat := Rat.divInt (pk a 1999 - 999) (1 + pk b 60)
end Go.VI.Rational
namespace Go.VI.Rational
open Go.VI.Num
theorem bytes1 {d : Int} (h1 : 0 ≤ d) (h2 : d < 256) : bytesOf [.int .u8 d] = some [UInt8.ofNat d.toNat] := by
 simp [bytesOf]; omega
theorem dig_loop (cx : Cx) (H : Heap) (v1 v2 v3 v4 : AV) (n : Nat) (hn : n ≤ 100) : ∀ (k : Nat) (s : List UInt8) (c : Int), s.length + k = n → 0 ≤ c → c < 2147483647 →
  runC lib cx (.loop b12_2) ([(1, v1), (2, v2), (3, v3), (4, v4), (5, .int .i64 n), (6, .str s), (7, .int .i64 c)], H) = some (.exit 2, ([(1, v1), (2, v2), (3, v3), (4, v4), (6, .str (s ++ genL k c))], H)) := by
 intro k
 induction k with
 | zero =>
  intro s c hs h0 h1
  have c1 : ¬ (s.length : Int) < n := by omega
  rw [genL, List.append_nil, w_loop]
  simp (maxSteps := 1000000) (disch := omega) only [go_sem, c1]
 | succ k ih =>
  intro s c hs h0 h1
  have c1 : (s.length : Int) < n := by omega
  have e : genC c = (c * 48271 + 11) % 2147483647 := rfl
  have gr := genC_range c
  have k1 := ih (s ++ [UInt8.ofNat (48 + (genC c / 65536 % 10)).toNat]) (genC c) (by simp; omega) gr.1 gr.2
  rw [List.append_assoc, List.cons_append, List.nil_append] at k1
  have e2 : s ++ genL (k + 1) c = s ++ (UInt8.ofNat (48 + (genC c / 65536 % 10)).toNat :: genL k (genC c)) := rfl
  have al : ∀ (H : Heap) (x : AV), asList H 1 (.lsf 1 [x]) = some [x] := fun H x => ((show PureSl 1 (.lsf 1 [x]) [x] from .inr ⟨1, .inr rfl, .inl rfl⟩).sl H).list0
  rw [e2]
  have b1 := bytes1 (d := 48 + genC c / 65536 % 10) (by omega) (by omega)
  have ad := bin_sadd (a := s) (b := [UInt8.ofNat (48 + (genC c / 65536 % 10)).toNat]) (by simp; omega)
  have m1 : c * 48271 ≤ 2147483647 * 48271 := Int.mul_le_mul_of_nonneg_right (by omega) (by decide)
  have m2 : 0 ≤ c * 48271 := Int.mul_nonneg h0 (by decide)
  rw [w_loop]
  simp (maxSteps := 1000000) (disch := omega) only [go_sem, c1, ← e, al, b1, ad]
  exact k1
theorem strip_loop (cx : Cx) (H : Heap) (v1 v2 v3 v4 : AV) : ∀ (l : List UInt8), l.length ≤ 1000 →
  runC lib cx (.loop b12_1) ([(1, v1), (2, v2), (3, v3), (4, v4), (6, .str l)], H) = some (.exit 4, ([(1, v1), (2, v2), (3, v3), (4, v4), (6, .str (strip0 l))], H))
 | [], _ => by
  rw [w_loop]
  simp (maxSteps := 1000000) (disch := omega) only [go_sem, strip0]
 | [b], _ => by
  have c0 : ¬ (1 : Int) < ((1 : Nat) : Int) := by omega
  rw [w_loop]
  simp (maxSteps := 1000000) (disch := omega) only [go_sem, strip0, c0]
 | b :: c :: l, hl => by
  have ih := strip_loop cx H v1 v2 v3 v4 (c :: l) (by simp at hl ⊢; omega)
  have c0 : (1 : Int) < ((l.length + 1 + 1 : Nat) : Int) := by omega
  have sl : slicev none (.str (b :: c :: l)) (some (.int .i64 1)) none = some (.str (c :: l)) := sstr_from (k := .i64) (l := b :: c :: l) (i := 1) (by simp)
  have u48 : ((UInt8.toNat 48 : Nat) : Int) = 48 := rfl
  have hx := ixst0 (k := .i64) b (c :: l) H
  rw [w_loop]
  by_cases h : b = 48
  ·subst h
   simp (maxSteps := 1000000) (disch := omega) only [go_sem, strip0, c0, hx, u48, sl, ih]
  ·have h' : ¬ (b.toNat : Int) = 48 := fun e => h (UInt8.toNat_inj.mp (by have : b.toNat = 48 := (by omega); exact this))
   simp (maxSteps := 1000000) (disch := omega) only [go_sem, strip0, c0, hx, h', h]
end Go.VI.Rational
namespace Go.VI.Rational
open Go.VI.Num
def longD (a b : Int) : Nat := longV (pk a 1000000007) (1 + pk b 100).toNat
def longN (x0 x1 : Int) : Int := if pk x0 2 = 0 then -(longD x0 x1 : Int) else longD x0 x1
def longM (x2 x3 : Int) : Int := if longD x2 x3 = 0 then 7 else longD x2 x3
def longQ (x0 x1 x2 x3 : Int) : Rat := Rat.divInt (longN x0 x1) (longM x2 x3)
theorem longD_lt (a b : Int) : longD a b < 10 ^ 100 := by
 have h := longV_lt (pk a 1000000007) (1 + pk b 100).toNat
 have r := pk_range b (n := 100) (by decide)
 exact Nat.lt_of_lt_of_le h (Nat.pow_le_pow_right (by decide) (by omega))
theorem longN_abs (a b : Int) : (longN a b).natAbs < 10 ^ 100 := by
 have := longD_lt a b
 unfold longN
 split <;> omega
theorem seven_lt : 7 < 10 ^ 100 := Nat.lt_of_lt_of_le (show 7 < 10 ^ 1 by decide) (Nat.pow_le_pow_right (by decide) (by decide))
theorem longM_abs (a b : Int) : (longM a b).natAbs < 10 ^ 100 ∧ 0 < longM a b := by
 have := longD_lt a b
 unfold longM
 by_cases h : longD a b = 0
 ·rw [if_pos h]; exact ⟨seven_lt, by decide⟩
 ·rw [if_neg h]; omega
theorem longQ_fit (a b c d : Int) : FitL (longQ a b c d) := divInt_fitL (by have := (longM_abs c d).2; omega) (longN_abs a b) (longM_abs c d).1
theorem fit_100 {z : Int} (h : z.natAbs < 10 ^ 100) : Fit z := Nat.lt_of_lt_of_le h pow_100_200
theorem neg_txt {n : Nat} (h : n ≠ 0) : itxt (-(n : Int)) = 45 :: itxt (n : Int) := by
 rw [itxt_nat']
 unfold itxt
 rw [if_pos (by omega)]
 have : (-(n : Int)).natAbs = n := by omega
 rw [this]
theorem dig_at (a b : Int) : ∃ n : Nat, (n : Int) = 1 + pk b 100 ∧ (∀ cx H v1 v2 v3 v4, runC lib cx (.loop b12_2) ([(1, v1), (2, v2), (3, v3), (4, v4), (5, .int .i64 (1 + pk b 100)), (6, .str []), (7, .int .i64 (pk a 1000000007))], H) = some (.exit 2, ([(1, v1), (2, v2), (3, v3), (4, v4), (6, .str (genL n (pk a 1000000007)))], H))) ∧
  ∀ cx H v1 v2 v3 v4, runC lib cx (.loop b12_1) ([(1, v1), (2, v2), (3, v3), (4, v4), (6, .str (genL n (pk a 1000000007)))], H) = some (.exit 4, ([(1, v1), (2, v2), (3, v3), (4, v4), (6, .str (itxt (longD a b : Nat)))], H)) := by
 have r := pk_range b (n := 100) (by decide)
 have r2 := pk_range a (n := 1000000007) (by decide)
 refine ⟨(1 + pk b 100).toNat, by omega, fun cx H v1 v2 v3 v4 => ?_, fun cx H v1 v2 v3 v4 => ?_⟩
 ·have := dig_loop cx H v1 v2 v3 v4 (1 + pk b 100).toNat (by omega) (1 + pk b 100).toNat [] (pk a 1000000007) (by simp) (by omega) (by omega)
  rw [List.nil_append, Int.toNat_of_nonneg (by omega)] at this
  exact this
 ·have := strip_loop cx H v1 v2 v3 v4 (genL (1 + pk b 100).toNat (pk a 1000000007)) (by rw [genL_len]; omega)
  rw [long_txt (by omega)] at this
  exact this
theorem long_loop {x0 x1 x2 x3 : Int} (i0 : I64 x0) (i1 : I64 x1) (i2 : I64 x2) (i3 : I64 x3) (h : Heap) (B : Nat × Blk) :
  runC lib ⟨h.length, h.length, 3, none⟩ (.loop b12_0) ([(1, .cptr [.int .i64 x0, .int .i64 x1, .int .i64 x2, .int .i64 x3]), (2, .bptr (h.length + 2) 1 0), (3, .bptr (h.length + 1) 1 0), (4, .int .i64 0)], h ++ [(0, .dead), (1, .box [.str [], .str []]), B]) =
   some (.exit 0, ([(1, .cptr [.int .i64 x0, .int .i64 x1, .int .i64 x2, .int .i64 x3]), (2, .bptr (h.length + 2) 1 0), (3, .bptr (h.length + 1) 1 0)], h ++ [(0, .dead), (1, .box [.str (itxt (longD x0 x1 : Nat)), .str (itxt (longD x2 x3 : Nat))]), B])) := by
 have p0 := fun H lo => spick_run (n := 1000000007) (by decide) i0 H lo
 have p1 := fun H lo => spick_run (n := 100) (by decide) i1 H lo
 have p2 := fun H lo => spick_run (n := 1000000007) (by decide) i2 H lo
 have p3 := fun H lo => spick_run (n := 100) (by decide) i3 H lo
 obtain ⟨n1, e1, d1, s1⟩ := dig_at x0 x1
 obtain ⟨n2, e2, d2, s2⟩ := dig_at x2 x3
 have q1 := pk_range x1 (n := 100) (by decide)
 have q3 := pk_range x3 (n := 100) (by decide)
 generalize itxt (longD x0 x1 : Nat) = A at *
 generalize itxt (longD x2 x3 : Nat) = C at *
 generalize genL n1 (pk x0 1000000007) = G1 at *
 generalize genL n2 (pk x2 1000000007) = G2 at *
 generalize pk x0 1000000007 = y0 at *
 generalize pk x1 100 = y1 at *
 generalize pk x2 1000000007 = y2 at *
 generalize pk x3 100 = y3 at *
 rw [w_loop]
 simp (maxSteps := 1000000) (disch := omega) only [go_sem, p0, p1, d1, s1]
 rw [w_loop]
 simp (maxSteps := 1000000) (disch := omega) only [go_sem, p2, p3, d2, s2]
 rw [w_loop]
 simp (maxSteps := 1000000) (disch := omega) only [go_sem]
end Go.VI.Rational
namespace Go.VI.Rational
open Go.VI.Num
theorem long_run {x0 x1 x2 x3 : Int} (i0 : I64 x0) (i1 : I64 x1) (i2 : I64 x2) (i3 : I64 x3) (h : Heap) (lo : Nat) : (run lib).fn 12 [.agg [.int .i64 x0, .int .i64 x1, .int .i64 x2, .int .i64 x3]] h lo = some (rt (longQ x0 x1 x2 x3), h) := by
 have lp := fun B => long_loop i0 i1 i2 i3 h B
 have ps := fun H lo => spick_run (n := 2) (by decide) i0 H lo
 have hN := fit_100 (longN_abs x0 x1)
 have hM := fit_100 (longM_abs x2 x3).1
 have hM0 := (longM_abs x2 x3).2
 have mk := fun H lo => smake_run hN hM H lo
 unfold makeQ at mk
 rw [if_neg (show ¬ longM x2 x3 = 0 by omega)] at mk
 have eQ : Rat.divInt (longN x0 x1) (longM x2 x3) = longQ x0 x1 x2 x3 := rfl
 rw [eQ] at mk
 generalize longQ x0 x1 x2 x3 = Q at *
 unfold longN longM at mk
 simp only [resO, rt, frV] at mk
 have l0 := longD_lt x0 x1
 have il := itxt_len (z := (longD x0 x1 : Nat)) (fit_100 (by rw [Int.natAbs_natCast]; exact l0))
 have ad : binv .add (.str [45]) (.str (itxt (longD x0 x1 : Nat))) = some (.str (45 :: itxt (longD x0 x1 : Nat))) := by
  rw [bin_sadd (by simp; omega)]; rfl
 have nt := neg_txt (n := longD x0 x1)
 have z0 := fun (e : longD x0 x1 ≠ 0) => txt_nz (d := (longD x0 x1 : Nat)) (by omega)
 have z1 := fun (e : longD x2 x3 ≠ 0) => txt_nz (d := (longD x2 x3 : Nat)) (by omega)
 have t7 : itxt 7 = [55] := by kernel_rfl
 clear hN hM hM0 l0 il eQ
 unfold rt frV
 rw [run_closed (x := x12) rfl rfl rfl rfl]
 by_cases c1 : longD x2 x3 = 0
 ·rw [c1] at lp mk
  rw [if_pos rfl, t7] at mk
  rw [show itxt ((0 : Nat) : Int) = [48] from rfl] at lp
  by_cases c2 : pk x0 2 = 0
  ·rw [c2] at ps
   rw [if_pos c2] at mk
   by_cases c3 : longD x0 x1 = 0
   ·rw [c3] at lp mk
    rw [show itxt (-((0 : Nat) : Int)) = [48] from rfl] at mk
    rw [show itxt ((0 : Nat) : Int) = [48] from rfl] at lp
    simp (maxSteps := 1000000) (disch := omega) only [go_sem, x12, lp, ps, mk]
   ·rw [nt c3] at mk
    have z0' := z0 c3
    generalize itxt (longD x0 x1 : Nat) = A at *
    simp (maxSteps := 1000000) (disch := omega) only [go_sem, x12, lp, ps, z0', ad, mk]
  ·rw [if_neg c2] at mk
   generalize itxt (longD x0 x1 : Nat) = A at *
   simp (maxSteps := 1000000) (disch := omega) only [go_sem, x12, lp, ps, c2, mk]
 ·have z1' := z1 c1
  rw [if_neg c1] at mk
  generalize itxt (longD x2 x3 : Nat) = C at *
  by_cases c2 : pk x0 2 = 0
  ·rw [c2] at ps
   rw [if_pos c2] at mk
   by_cases c3 : longD x0 x1 = 0
   ·rw [c3] at lp mk
    rw [show itxt (-((0 : Nat) : Int)) = [48] from rfl] at mk
    rw [show itxt ((0 : Nat) : Int) = [48] from rfl] at lp
    simp (maxSteps := 1000000) (disch := omega) only [go_sem, x12, lp, ps, z1', mk]
   ·rw [nt c3] at mk
    have z0' := z0 c3
    generalize itxt (longD x0 x1 : Nat) = A at *
    simp (maxSteps := 1000000) (disch := omega) only [go_sem, x12, lp, ps, z1', z0', ad, mk]
  ·rw [if_neg c2] at mk
   generalize itxt (longD x0 x1 : Nat) = A at *
   simp (maxSteps := 1000000) (disch := omega) only [go_sem, x12, lp, ps, c2, z1', mk]
def fourV (a b c d : Option Rat) : AV :=
 let s := fun o : Option Rat => (match o with | some q => [AV.str (itxt q.num), .str (itxt (q.den : Int))] | none => [.str [], .str []])
 let e := fun o : Option Rat => (match o with | some q => AV.int .i64 0 | none => .int .i64 40)
 .tuple [.agg (s a ++ s b ++ s c ++ s d), .agg [e a, e b, e c, e d]]
end Go.VI.Rational
namespace Go.VI.Rational
open Go.VI.Num
theorem fitq {a : Rat} (h : (decide (a.num.natAbs < 10 ^ 200) && decide (a.den < 10 ^ 200)) = true) : FitQ a := by
 simp only [Bool.and_eq_true, decide_eq_true_eq] at h; exact h
def q12 : Rat := Rat.divInt 1 2
def q13 : Rat := Rat.divInt 1 3
def qm14 : Rat := Rat.divInt (-1) 4
def qm13 : Rat := Rat.divInt (-1) 3
def q33 : Rat := Rat.divInt 33333 100000
theorem f12 : FitQ q12 := fitq (by kernel_rfl)
theorem f13 : FitQ q13 := fitq (by kernel_rfl)
theorem fm14 : FitQ qm14 := fitq (by kernel_rfl)
theorem fm13 : FitQ qm13 := fitq (by kernel_rfl)
theorem f33 : FitQ q33 := fitq (by kernel_rfl)
theorem f0 : FitQ (0 : Rat) := fitq (by kernel_rfl)
theorem f1 : FitQ (1 : Rat) := fitq (by kernel_rfl)
theorem s_of {n d : Int} {r : AV} (hn : n.natAbs < 100) (hd : d.natAbs < 100) (e : resO (makeQ n d) = r) (H : Heap) (lo : Nat) : (run lib).fn 41 [.int .i64 n, .int .i64 d] H lo = some (r, H) := by
 rw [← e]; exact qof_run (small_fit (by omega)) (small_fit (by omega)) ⟨by omega, by omega⟩ ⟨by omega, by omega⟩ H lo
theorem eq_fr (n : Bool) (s t u v : List UInt8) : eqvv n [.s, .s] (.agg [.str s, .str t]) (.agg [.str u, .str v]) = some (.bool (if n then !((s == u) && (t == v)) else ((s == u) && (t == v)))) := by
 rw [eqv_agg (by simp) rfl rfl]
 simp [eqL, eq1]
theorem eq_id (s t : List UInt8) : eqvv false [.s, .s] (.agg [.str s, .str t]) (.agg [.str s, .str t]) = some (.bool true) := by
 rw [eq_fr]; simp
theorem sane_run (h : Heap) (lo : Nat) : (run lib).fn 11 [] h lo = some (.bool true, h) := by
 have i := fun a b H lo => lis_run a b H lo
 have a1 := fun H lo => s_of (n := 6) (d := -4) (r := .tuple [.agg [.str [45, 51], .str [50]], .int .i64 0]) (by decide) (by decide) (by kernel_rfl) H lo
 have a2 := fun H lo => s_of (n := 0) (d := -5) (r := .tuple [.agg [.str [48], .str [49]], .int .i64 0]) (by decide) (by decide) (by kernel_rfl) H lo
 have a3 := fun H lo => s_of (n := 1) (d := 0) (r := .tuple [.agg [.str [], .str []], .int .i64 40]) (by decide) (by decide) (by kernel_rfl) H lo
 have a4 : ∀ H lo, (run lib).fn 27 [.agg [.str [49], .str [50]], .agg [.str [49], .str [51]]] H lo = some (.tuple [.agg [.str [53], .str [54]], .int .i64 0], H) := fun H lo => by
  have t := qadd_run f12 f13 H lo
  rw [show resO (addQ q12 q13) = .tuple [.agg [.str [53], .str [54]], .int .i64 0] by kernel_rfl, show rt q12 = .agg [.str [49], .str [50]] by kernel_rfl, show rt q13 = .agg [.str [49], .str [51]] by kernel_rfl] at t
  exact t
 have a5 : ∀ H lo, (run lib).fn 26 [.agg [.str [49], .str [50]], .agg [.str [45, 49], .str [52]]] H lo = some (.tuple [.agg [.str [45, 50], .str [49]], .int .i64 0], H) := fun H lo => by
  have t := qdiv_run f12 fm14 H lo
  rw [show resO (divQ q12 qm14) = .tuple [.agg [.str [45, 50], .str [49]], .int .i64 0] by kernel_rfl, show rt q12 = .agg [.str [49], .str [50]] by kernel_rfl, show rt qm14 = .agg [.str [45, 49], .str [52]] by kernel_rfl] at t
  exact t
 have a6 : ∀ H lo, (run lib).fn 26 [.agg [.str [49], .str [49]], .agg [.str [48], .str [49]]] H lo = some (.tuple [.agg [.str [], .str []], .int .i64 40], H) := fun H lo => by
  have t := qdiv_run f1 f0 H lo
  rw [show resO (divQ 1 0) = .tuple [.agg [.str [], .str []], .int .i64 40] by kernel_rfl, show rt 1 = .agg [.str [49], .str [49]] by kernel_rfl, show rt 0 = .agg [.str [48], .str [49]] by kernel_rfl] at t
  exact t
 have a7 : ∀ H lo, (run lib).fn 35 [.agg [.str [45, 49], .str [51]], .int .i64 2] H lo = some (.tuple [.agg [.str [45, 49, 55], .str [53, 48]], .int .i64 0], H) := fun H lo => by
  have t := qdown_run fm13 (p := 2) (by decide) H lo
  rw [show resO (gridQ qm13 2 false) = .tuple [.agg [.str [45, 49, 55], .str [53, 48]], .int .i64 0] by kernel_rfl, show rt qm13 = .agg [.str [45, 49], .str [51]] by kernel_rfl] at t
  exact t
 have a8 : ∀ H lo, (run lib).fn 37 [.agg [.str [49], .str [51]], .int .i64 2] H lo = some (.tuple [.agg [.str [49, 55], .str [53, 48]], .int .i64 0], H) := fun H lo => by
  have t := qup_run f13 (p := 2) (by decide) H lo
  rw [show resO (gridQ q13 2 true) = .tuple [.agg [.str [49, 55], .str [53, 48]], .int .i64 0] by kernel_rfl, show rt q13 = .agg [.str [49], .str [51]] by kernel_rfl] at t
  exact t
 have a9 : ∀ H lo, (run lib).fn 15 [.str [45, 51, 47, 50]] H lo = some (.tuple [.agg [.str [45, 51], .str [50]], .int .i64 0], H) := fun H lo => (qparse_run (by decide) H lo).trans (by rw [show parseV [45, 51, 47, 50] = .tuple [.agg [.str [45, 51], .str [50]], .int .i64 0] by kernel_rfl])
 have a10 : ∀ H lo, (run lib).fn 15 [.str [54, 47, 52]] H lo = some (.tuple [.agg [.str [], .str []], .int .i64 40], H) := fun H lo => (qparse_run (by decide) H lo).trans (by rw [show parseV [54, 47, 52] = .tuple [.agg [.str [], .str []], .int .i64 40] by kernel_rfl])
 have a11 : ∀ H lo, (run lib).fn 14 [.agg [.str [45, 51], .str [50]]] H lo = some (.str [45, 51, 47, 50], H) := fun H lo => (qprint_run [45, 51] [50] H lo).trans (by rw [show printS [45, 51] [50] = [45, 51, 47, 50] by kernel_rfl])
 have a12 : ∀ H lo, (run lib).fn 23 [.agg [.str [49], .str [51]], .agg [.str [51, 51, 51, 51, 51], .str [49, 48, 48, 48, 48, 48]]] H lo = some (.int .i64 1, H) := fun H lo => by
  have t := qcompare_run f13 f33 H lo
  rw [show cmpQ q13 q33 = 1 by kernel_rfl, show rt q13 = .agg [.str [49], .str [51]] by kernel_rfl, show rt q33 = .agg [.str [51, 51, 51, 51, 51], .str [49, 48, 48, 48, 48, 48]] by kernel_rfl] at t
  exact t
 have a13 : ∀ H lo, (run lib).fn 17 [.agg [.str [45, 51], .str [50]]] H lo = some (.bool true, H) := fun H lo => (qvalid_run [45, 51] [50] H lo).trans (by rw [show rvalid [45, 51] [50] = true by kernel_rfl])
 have a14 : ∀ H lo, (run lib).fn 17 [.agg [.str [], .str []]] H lo = some (.bool false, H) := fun H lo => (qvalid_run [] [] H lo).trans (by rw [show rvalid [] [] = false by kernel_rfl])
 rw [run_closed (x := x11) rfl rfl rfl rfl]
 simp (maxSteps := 1000000) (disch := omega) only [go_sem, x11, i, eq_id, a1, a2, a3, a4, a5, a6, a7, a8, a9, a10, a11, a12, a13, a14]
end Go.VI.Rational
namespace Go.VI.Rational
open Go.VI.Num
def a4 : Shp := .agg [.int .i64, .int .i64, .int .i64, .int .i64]
theorem a4_of {c : List AV} (t : TyL a4 c) : ∃ a b d e : Int, a4.mk c = .agg [.int .i64 a, .int .i64 b, .int .i64 d, .int .i64 e] ∧ I64 a ∧ I64 b ∧ I64 d ∧ I64 e := by
 simp only [a4, TyL] at t
 obtain ⟨l, rfl, hl, hr⟩ := ints_of 4 (show TyLs (List.replicate 4 (.int .i64)) c from t)
 match l, hl with
 | [a, b, d, e], _ => exact ⟨a, b, d, e, rfl, hr a (by simp), hr b (by simp), hr d (by simp), hr e (by simp)⟩
def a2 : Shp := .agg [.int .i64, .int .i64]
end Go.VI.Rational
namespace Go.VI.Rational
open Go.VI.Num
def SmQ (q : Rat) : Prop := q.num.natAbs ≤ 30000 ∧ q.den ≤ 30000
theorem SmQ.fit {q : Rat} (h : SmQ q) : FitQ q := by
 have h1 := small_fit (z := q.num) (by have := h.1; omega)
 have h2 := small_fit (z := (q.den : Int)) (by have := h.2; omega)
 unfold Fit at h2
 rw [Int.natAbs_natCast] at h2
 exact ⟨h1, h2⟩
end Go.VI.Rational
