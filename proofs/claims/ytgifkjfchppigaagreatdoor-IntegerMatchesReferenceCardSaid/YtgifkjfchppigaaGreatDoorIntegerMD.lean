/- What the functions on integers compute, part MD. -/
import Derived.Test.YtgifkjfchppigaaGreatDoorIntegerMC
import Derived.Test.YtgifkjfchppigaaGreatDoorIntegerMA
import Derived.Test.YtgifkjfchppigaaGreatDoorVIU2
namespace Go.VI
theorem bytesOf_map : ∀ l : List UInt8, bytesOf (l.map AV.byte) = some l
  | [] => rfl
  | b :: r => by
    have hb := b.toNat_lt
    simp only [List.map_cons, AV.byte, bytesOf]
    have ih := bytesOf_map r
    rw [if_pos (by omega), ih]
    simp
theorem byte_of {n : Nat} (h : n < 256) : AV.byte (UInt8.ofNat n) = .int .u8 n := by
  simp [AV.byte, UInt8.toNat_ofNat']; omega
end Go.VI
namespace Go.VI.Integer
open Go.VI.Num
set_option linter.unusedVariables false
set_option linter.unusedSimpArgs false

theorem rtrim_loop {l : List Int} (hl : l.length ≤ 1000000) (cx : Cx) (H : Heap) (id : Nat) (hid : H[id]? = some (1, .arr 1 (ints l))) : ∀ k : Nat, k ≤ l.length →
    runC lib cx (.loop b37_0) ([(0, .ref id 1 1 0 k l.length)], H) = some (.exit 0, ([(0, .ref id 1 1 0 (trimK l k) l.length)], H)) := by
  intro k
  induction k with
  | zero =>
    intro hk
    rw [w_loop]
    have s3 : lenv false (.ref id 1 1 0 0 l.length) = some (.int .i64 0) := rfl
    simp only [trimK]
    simp (maxSteps := 1000000) (disch := omega) only [go_sem, ↓reduceIte, Nat.reduceEqDiff, Nat.reduceAdd, Nat.reduceSub, Nat.reduceMul, Nat.reduceLT, Nat.reduceLeDiff, reduceCtorEq, Int.reduceToNat, Int.reduceLT, Int.reduceLE, Int.reduceAdd, Int.reduceSub, Int.reduceMul, Int.reduceEq, Int.reduceNe, wrap_id, wrapu_id, wrapb_id, idx_ok, bin_quo, bin_rem, tdiv_id, tmod_id, ps_bptr, s3, Int.lt_irrefl]
  | succ k ih =>
    intro hk
    have s3 : lenv false (.ref id 1 1 0 (k + 1) l.length) = some (.int .i64 ((k : Int) + 1)) := rfl
    have c1 : (0 : Int) < (k : Int) + 1 := by omega
    have e0 : (k : Int) + 1 - 1 = k := by omega
    have e3 : sidx 1 (.ref id 1 1 0 (k + 1) l.length) (.int .i64 k) = some k := by simp [sidx, zok, slen, idx]
    have hg : l.getD k 0 = l[k] := by rw [List.getD_eq_getElem?_getD, List.getElem?_eq_getElem (by omega)]; rfl
    have e4 : pcells H (.iptr (.ref id 1 1 0 (k + 1) l.length) k 0) = some [.int .i64 l[k]] := by
      have hb : k + 1 ≤ l.length := hk
      have hk' : k < l.length := by omega
      simp only [pcells, asList0, hid, ints_len]
      simp [hb, ints, List.getElem?_take, hk', AV.cells]
    have hsl : slicev (some 1) (.ref id 1 1 0 (k + 1) l.length) none (some (.int .i64 k)) = some (.ref id 1 1 0 k l.length) := by
      have hb : bnd (some (.int .i64 k)) (k + 1) (k + 1) = some k := by rw [bnd_ok (by omega) (by omega)]; simp
      rw [slicev_ref, hb]
      simp [bnd]
    have ih' := ih (by omega)
    simp only [trimK, hg]
    rw [w_loop]
    by_cases c2 : l[k] = 0
    · rw [if_pos c2]
      simp (maxSteps := 1000000) (disch := omega) only [go_sem, ↓reduceIte, Nat.reduceEqDiff, Nat.reduceAdd, Nat.reduceSub, Nat.reduceMul, Nat.reduceLT, Nat.reduceLeDiff, reduceCtorEq, Int.reduceToNat, Int.reduceLT, Int.reduceLE, Int.reduceAdd, Int.reduceSub, Int.reduceMul, Int.reduceEq, Int.reduceNe, wrap_id, wrapu_id, wrapb_id, idx_ok, bin_quo, bin_rem, tdiv_id, tmod_id, ps_bptr, s3, c1, e0, e3, e4, c2, hsl, ih']
    · rw [if_neg c2]
      simp (maxSteps := 1000000) (disch := omega) only [go_sem, ↓reduceIte, Nat.reduceEqDiff, Nat.reduceAdd, Nat.reduceSub, Nat.reduceMul, Nat.reduceLT, Nat.reduceLeDiff, reduceCtorEq, Int.reduceToNat, Int.reduceLT, Int.reduceLE, Int.reduceAdd, Int.reduceSub, Int.reduceMul, Int.reduceEq, Int.reduceNe, wrap_id, wrapu_id, wrapb_id, idx_ok, bin_quo, bin_rem, tdiv_id, tmod_id, ps_bptr, s3, c1, e0, e3, e4, c2]
theorem rtrim_run {l : List Int} (hl : l.length ≤ 1000000) (h : Heap) (id : Nat) (hid : h[id]? = some (1, .arr 1 (ints l))) (N : Nat) (hN : l.length = N) (lo : Nat) : (run lib).fn 37 [.ref id 1 1 0 N N] h lo = some (.ref id 1 1 0 (trimL l).length N, h) := by
  subst hN
  have e := fun cx => rtrim_loop hl cx h id hid l.length (Nat.le_refl _)
  have hlt : id < h.length := (List.getElem?_eq_some_iff.mp hid).1
  have hg : ∀ t N, giveRes h.length (.ref id 1 1 0 t N) h = some (.ref id 1 1 0 t N) := fun t N => by
    simp [giveRes, give, frz, show ¬ h.length ≤ id by omega]
  have ht : (trimL l).length = trimK l l.length := by
    have := trimK_le l l.length
    simp [trimL]; omega
  rw [run_closed (x := x37) rfl rfl rfl rfl, ht]
  simp (maxSteps := 1000000) (disch := omega) only [go_sem, ↓reduceIte, Nat.reduceEqDiff, Nat.reduceAdd, Nat.reduceSub, Nat.reduceMul, Nat.reduceLT, Nat.reduceLeDiff, reduceCtorEq, Int.reduceToNat, Int.reduceLT, Int.reduceLE, Int.reduceAdd, Int.reduceSub, Int.reduceMul, Int.reduceEq, Int.reduceNe, wrap_id, wrapu_id, wrapb_id, idx_ok, bin_quo, bin_rem, tdiv_id, tmod_id, ps_bptr, x37, e, hg, Option.map_some]
theorem rtrim_nil (h : Heap) (lo : Nat) : (run lib).fn 37 [.nilSl] h lo = some (.own 0 [], h) := by
  have s3 : lenv false .nilSl = some (.int .i64 0) := rfl
  have e : runC lib ⟨h.length, h.length, 0, none⟩ (.loop b37_0) ([(0, .nilSl)], h) = some (.exit 0, ([(0, .nilSl)], h)) := by
    rw [w_loop]
    simp (maxSteps := 1000000) (disch := omega) only [go_sem, ↓reduceIte, Nat.reduceEqDiff, Nat.reduceAdd, Nat.reduceSub, Nat.reduceMul, Nat.reduceLT, Nat.reduceLeDiff, reduceCtorEq, Int.reduceToNat, Int.reduceLT, Int.reduceLE, Int.reduceAdd, Int.reduceSub, Int.reduceMul, Int.reduceEq, Int.reduceNe, wrap_id, wrapu_id, wrapb_id, idx_ok, bin_quo, bin_rem, tdiv_id, tmod_id, ps_bptr, s3, Int.lt_irrefl]
  rw [run_closed (x := x37) rfl rfl rfl rfl]
  simp (maxSteps := 1000000) (disch := omega) only [go_sem, ↓reduceIte, Nat.reduceEqDiff, Nat.reduceAdd, Nat.reduceSub, Nat.reduceMul, Nat.reduceLT, Nat.reduceLeDiff, reduceCtorEq, Int.reduceToNat, Int.reduceLT, Int.reduceLE, Int.reduceAdd, Int.reduceSub, Int.reduceMul, Int.reduceEq, Int.reduceNe, wrap_id, wrapu_id, wrapb_id, idx_ok, bin_quo, bin_rem, tdiv_id, tmod_id, ps_bptr, x37, e]
theorem chrs_step {l : List Int} {k : Nat} (hk : k < l.length) : chrs (l.drop k) = chrs (l.drop (k + 1)) ++ [UInt8.ofNat (48 + l[k].toNat)] := by
  rw [List.drop_eq_getElem_cons hk]; simp only [chrs, List.reverse_cons, List.map_append, List.map_singleton]
theorem rtext_loop {v : AV} {l : List Int} {h : Heap} (hs : Sl h 1 v (ints l)) (hd : Dg l) (hl : l.length ≤ 100000) (pre : List UInt8) (V : List AV → AV) (F : List AV → Heap)
    (hF : ∀ (C : List UInt8) (x : AV), C.length ≤ 100000 → appv ⟨h.length, h.length, 2, none⟩ 0 1 140737488355328 (V ((pre ++ C).map AV.byte)) [x] (h ++ F ((pre ++ C).map AV.byte)) = some (V ((pre ++ C).map AV.byte ++ [x]), h ++ F ((pre ++ C).map AV.byte ++ [x]))) : ∀ (k : Nat), k ≤ l.length →
    runC lib ⟨h.length, h.length, 2, none⟩ (.loop b36_0) ([(1, v), (6, V ((pre ++ chrs (l.drop k)).map AV.byte)), (7, .int .i64 ((k : Int) - 1))], h ++ F ((pre ++ chrs (l.drop k)).map AV.byte)) =
      some (.exit 0, ([(1, v), (6, V ((pre ++ chrs l).map AV.byte))], h ++ F ((pre ++ chrs l).map AV.byte))) := by
  intro k
  induction k with
  | zero =>
    intro hk
    have c1 : ¬ (0 : Int) ≤ -1 := by omega
    rw [w_loop]
    simp (maxSteps := 1000000) (disch := omega) only [go_sem, ↓reduceIte, Nat.reduceEqDiff, Nat.reduceAdd, Nat.reduceSub, Nat.reduceMul, Nat.reduceLT, Nat.reduceLeDiff, reduceCtorEq, Int.reduceToNat, Int.reduceLT, Int.reduceLE, Int.reduceAdd, Int.reduceSub, Int.reduceMul, Int.reduceEq, Int.reduceNe, wrap_id, wrapu_id, wrapb_id, idx_ok, bin_quo, bin_rem, tdiv_id, tmod_id, ps_bptr, c1, Int.zero_sub, Int.reduceNeg]
  | succ k ih =>
    intro hk
    have c1 : (0 : Int) ≤ (k : Int) := by omega
    have e0 : (k : Int) + 1 - 1 = k := by omega
    have hkl : k < l.length := by omega
    have hs2 := fun fr => hs.app fr
    have e3 : sidx 1 v (.int .i64 k) = some k := by rw [sidx_sl hs (by omega) (by simp; omega)]; simp
    have e4 := fun off fr => pc_iptr (off := off) (hs2 fr).elems0 (show k < (ints l).length by simp; omega)
    simp only [ints_get] at e4
    have hx := hd l[k] (List.getElem_mem hkl)
    have k1 := ih (by omega)
    rw [chrs_step hkl, ← List.append_assoc, List.map_append, List.map_singleton, byte_of (by omega)] at k1
    have hcl : (chrs (l.drop (k + 1))).length ≤ 100000 := by simp [chrs]; omega
    generalize chrs (l.drop (k + 1)) = C at *
    have ea := fun x : AV => hF C x hcl
    generalize (pre ++ C).map AV.byte = W at *
    generalize l[k] = d at *
    have ed : ((48 + d.toNat : Nat) : Int) = 48 + d := by omega
    rw [ed] at k1
    rw [w_loop]
    simp (maxSteps := 1000000) (disch := omega) only [go_sem, ↓reduceIte, Nat.reduceEqDiff, Nat.reduceAdd, Nat.reduceSub, Nat.reduceMul, Nat.reduceLT, Nat.reduceLeDiff, reduceCtorEq, Int.reduceToNat, Int.reduceLT, Int.reduceLE, Int.reduceAdd, Int.reduceSub, Int.reduceMul, Int.reduceEq, Int.reduceNe, wrap_id, wrapu_id, wrapb_id, idx_ok, bin_quo, bin_rem, tdiv_id, tmod_id, ps_bptr, cast1, e0, c1, e3, e4, ea, k1]
def rtS (neg : Bool) (n : Nat) : List UInt8 := if n = 0 then [48] else if neg then 45 :: dec n else dec n
theorem rtS_itxt (neg : Bool) (n : Nat) : rtS neg n = itxt (sgn neg n) := by
  unfold rtS
  by_cases h0 : n = 0
  · subst h0; cases neg <;> rfl
  · rw [if_neg h0]
    cases neg with
    | true =>
      unfold itxt sgn
      rw [if_pos rfl, if_pos rfl, if_pos (by omega)]
      have : (-(n : Int)).natAbs = n := by omega
      rw [this]
    | false =>
      unfold sgn
      rw [if_neg (by simp), if_neg (by simp), itxt_nat]
theorem rtext_run {v : AV} {n : Nat} (neg : Bool) {h : Heap} (hs : Sl h 1 v (ints (d10 n))) (hl : (d10 n).length ≤ 100000) (lo : Nat) :
    (run lib).fn 36 [.bool neg, v] h lo = some (.tuple [.str (itxt (sgn neg n)), .bool (decide ((d10 n).length ≤ 200))], h) := by
  have s1 := lenv_sl hs.len
  rw [ints_len] at s1
  rw [← rtS_itxt]
  unfold rtS
  by_cases h0 : n = 0
  · subst h0
    have e : ((d10 0).length : Int) = 0 := rfl
    have e2 : decide ((d10 0).length ≤ 200) = true := rfl
    rw [e] at s1
    rw [e2, if_pos rfl, run_closed (x := x36) rfl rfl rfl rfl]
    simp (maxSteps := 1000000) (disch := omega) only [go_sem, ↓reduceIte, Nat.reduceEqDiff, Nat.reduceAdd, Nat.reduceSub, Nat.reduceMul, Nat.reduceLT, Nat.reduceLeDiff, reduceCtorEq, Int.reduceToNat, Int.reduceLT, Int.reduceLE, Int.reduceAdd, Int.reduceSub, Int.reduceMul, Int.reduceEq, Int.reduceNe, wrap_id, wrapu_id, wrapb_id, idx_ok, bin_quo, bin_rem, tdiv_id, tmod_id, ps_bptr, x36, s1]
  · have hne : d10 n ≠ [] := fun e => h0 (d10_nil.mp e)
    have hpos := List.length_pos_iff.mpr hne
    have c0 : ¬ ((d10 n).length : Int) = 0 := by omega
    have ce : decide (((d10 n).length : Int) ≤ 200) = decide ((d10 n).length ≤ 200) := by rw [decide_eq_decide]; omega
    have hd := dg_d10 n
    rw [if_neg h0, run_closed (x := x36) rfl rfl rfl rfl]
    cases neg with
    | true =>
      have lp := rtext_loop hs hd hl [45] (fun W => .ref (h.length + 1) 1 1 0 W.length W.length) (fun W => [(0, .dead), (1, .arr 1 W)]) (fun C x hC => by
        have ea := app_ref (cx := ⟨h.length, h.length, 2, none⟩) (s := 0) (z := 1) (lim := 140737488355328) (id := h.length + 1) (ver := 1) (h := h ++ [(0, .dead), (1, .arr 1 (([45] ++ C).map AV.byte))]) (es := ([45] ++ C).map AV.byte) (xs := [x]) (by rw [get_fr]; rfl) (by simp) (by simp; omega)
        rw [ea, set_fr]; simp) (d10 n).length (Nat.le_refl _)
      rw [List.drop_of_length_le (Nat.le_refl _), chrs_d10 h0] at lp
      have hap : appv ⟨h.length, h.length, 2, none⟩ 1 1 140737488355328 .nilSl [.int .u8 45] (h ++ [(0, .dead), (0, .dead)]) = some (.ref (h.length + 1) 1 1 0 1 1, h ++ [(0, .dead), (1, .arr 1 [.int .u8 45])]) := by
        have := app_acc (lo := h.length) (ns := 2) (s := 1) (z := 1) (lim := 140737488355328) (h := h) (fr := [(0, .dead), (0, .dead)]) (b0 := (0, .dead)) (es := []) (xs := [.int .u8 45]) (by omega) (Nat.le_refl _) rfl (by simp)
        exact this
      have hc0 : ([45] ++ chrs []).map AV.byte = [AV.int .u8 45] := rfl
      rw [hc0] at lp
      simp only [List.length_singleton] at lp
      have ts : asList (h ++ [(0, .dead), (1, .arr 1 (([45] ++ dec n).map AV.byte))]) 1 (.ref (h.length + 1) 1 1 0 (([45] ++ dec n).map AV.byte).length (([45] ++ dec n).map AV.byte).length) = some (([45] ++ dec n).map AV.byte) :=
        (Sl.refAll (h := h) (fr := [(0, .dead), (1, .arr 1 (([45] ++ dec n).map AV.byte))]) (s := 1) rfl).list0
      have hb := bytesOf_map ([45] ++ dec n)
      have e45 : [45] ++ dec n = 45 :: dec n := rfl
      rw [e45] at lp ts hb
      rw [if_pos rfl]
      generalize (45 :: dec n).map AV.byte = W at *
      simp (maxSteps := 1000000) (disch := omega) only [go_sem, ↓reduceIte, Nat.reduceEqDiff, Nat.reduceAdd, Nat.reduceSub, Nat.reduceMul, Nat.reduceLT, Nat.reduceLeDiff, reduceCtorEq, Int.reduceToNat, Int.reduceLT, Int.reduceLE, Int.reduceAdd, Int.reduceSub, Int.reduceMul, Int.reduceEq, Int.reduceNe, wrap_id, wrapu_id, wrapb_id, idx_ok, bin_quo, bin_rem, tdiv_id, tmod_id, ps_bptr, x36, s1, c0, hap, lp, ts, hb, ce]
    | false =>
      have lp := rtext_loop hs hd hl [] (fun W => accV (h.length + 0) (0, .dead) 1 W) (fun W => [accB (0, .dead) 1 W, (0, .dead)]) (fun C x hC =>
        app_acc (lo := h.length) (ns := 2) (s := 0) (z := 1) (lim := 140737488355328) (h := h) (fr := [accB (0, .dead) 1 (([] ++ C).map AV.byte), (0, .dead)]) (b0 := (0, .dead)) (es := ([] ++ C).map AV.byte) (xs := [x]) (by omega) (Nat.le_refl _) rfl (by simp; omega)) (d10 n).length (Nat.le_refl _)
      rw [List.drop_of_length_le (Nat.le_refl _), chrs_d10 h0] at lp
      have hc0 : ([] ++ chrs []).map AV.byte = [] := rfl
      rw [hc0] at lp
      simp only [accV_nil, accB_nil, List.nil_append] at lp
      have ts : asList (h ++ [accB (0, .dead) 1 ((dec n).map AV.byte), (0, .dead)]) 1 (accV (h.length + 0) (0, .dead) 1 ((dec n).map AV.byte)) = some ((dec n).map AV.byte) :=
        (Sl.acc (h := h) (fr := [accB (0, .dead) 1 ((dec n).map AV.byte), (0, .dead)]) (s := 0) rfl).list0
      have hb := bytesOf_map (dec n)
      rw [if_neg (by simp)]
      generalize (dec n).map AV.byte = W at *
      simp (maxSteps := 1000000) (disch := omega) only [go_sem, ↓reduceIte, Nat.reduceEqDiff, Nat.reduceAdd, Nat.reduceSub, Nat.reduceMul, Nat.reduceLT, Nat.reduceLeDiff, reduceCtorEq, Int.reduceToNat, Int.reduceLT, Int.reduceLE, Int.reduceAdd, Int.reduceSub, Int.reduceMul, Int.reduceEq, Int.reduceNe, wrap_id, wrapu_id, wrapb_id, idx_ok, bin_quo, bin_rem, tdiv_id, tmod_id, ps_bptr, x36, s1, c0, lp, ts, hb, ce]
theorem made_loop {s : List UInt8} {most : Nat} (hm : most ≤ 1000) (h : Heap) (hs : s.length ≤ 9223372036854775807) : ∀ (m i : Nat), min s.length most - i ≤ m → i ≤ min s.length most →
    runC lib ⟨h.length, h.length, 1, none⟩ (.loop b13_0) ([(0, .str s), (1, .int .i64 most), (5, accV (h.length + 0) (0, .dead) 1 (ints (madeL s i))), (6, .int .i64 i)], h ++ [accB (0, .dead) 1 (ints (madeL s i))]) =
      some (.exit 0, ([(0, .str s), (5, accV (h.length + 0) (0, .dead) 1 (ints (madeL s most)))], h ++ [accB (0, .dead) 1 (ints (madeL s most))])) := by
  have fin : ∀ i, i = min s.length most → madeL s i = madeL s most := fun i hi => by
    unfold madeL
    rw [hi, Nat.min_comm, ← List.take_take, List.take_length]
  intro m
  induction m with
  | zero =>
    intro i h1 h2
    have hi : i = min s.length most := by omega
    rw [fin i hi, w_loop]
    by_cases c : i < s.length
    · have c1 : (i : Int) < s.length := by omega
      have c2 : ¬ (i : Int) < most := by omega
      simp (maxSteps := 1000000) (disch := omega) only [go_sem, ↓reduceIte, Nat.reduceEqDiff, Nat.reduceAdd, Nat.reduceSub, Nat.reduceMul, Nat.reduceLT, Nat.reduceLeDiff, reduceCtorEq, Int.reduceToNat, Int.reduceLT, Int.reduceLE, Int.reduceAdd, Int.reduceSub, Int.reduceMul, Int.reduceEq, Int.reduceNe, wrap_id, wrapu_id, wrapb_id, idx_ok, bin_quo, bin_rem, tdiv_id, tmod_id, ps_bptr, c1, c2]
    · have c1 : ¬ (i : Int) < s.length := by omega
      simp (maxSteps := 1000000) (disch := omega) only [go_sem, ↓reduceIte, Nat.reduceEqDiff, Nat.reduceAdd, Nat.reduceSub, Nat.reduceMul, Nat.reduceLT, Nat.reduceLeDiff, reduceCtorEq, Int.reduceToNat, Int.reduceLT, Int.reduceLE, Int.reduceAdd, Int.reduceSub, Int.reduceMul, Int.reduceEq, Int.reduceNe, wrap_id, wrapu_id, wrapb_id, idx_ok, bin_quo, bin_rem, tdiv_id, tmod_id, ps_bptr, c1]
  | succ m ih =>
    intro i h1 h2
    by_cases c : i < min s.length most
    · have c1 : (i : Int) < s.length := by omega
      have c2 : (i : Int) < most := by omega
      have hil : i < s.length := by omega
      have k1 := ih (i + 1) (by omega) (by omega)
      have e : madeL s (i + 1) = madeL s i ++ [((s[i].toNat % 10 : Nat) : Int)] := by
        unfold madeL
        rw [List.take_succ_eq_append_getElem hil, List.map_append]; rfl
      rw [e, ints_app, ints_one, cast1] at k1
      have hx := ixst_at (k := .i64) hil
      have hl : (ints (madeL s i)).length ≤ 1000 := by simp [madeL]; omega
      generalize ints (madeL s i) = W at *
      have ea := fun x : AV => app_acc (lo := h.length) (ns := 1) (s := 0) (z := 1) (lim := 17592186044416) (h := h) (fr := [accB (0, .dead) 1 W]) (b0 := (0, .dead)) (es := W) (xs := [x]) (by omega) (Nat.le_refl _) rfl (by simp; omega)
      simp only [List.set_cons_zero] at ea
      have hc := s[i].toNat_lt
      generalize s[i].toNat = d at *
      have ed : ((d : Int) % 10) = ((d % 10 : Nat) : Int) := by omega
      rw [w_loop]
      simp (maxSteps := 1000000) (disch := omega) only [go_sem, ↓reduceIte, Nat.reduceEqDiff, Nat.reduceAdd, Nat.reduceSub, Nat.reduceMul, Nat.reduceLT, Nat.reduceLeDiff, reduceCtorEq, Int.reduceToNat, Int.reduceLT, Int.reduceLE, Int.reduceAdd, Int.reduceSub, Int.reduceMul, Int.reduceEq, Int.reduceNe, wrap_id, wrapu_id, wrapb_id, idx_ok, bin_quo, bin_rem, tdiv_id, tmod_id, ps_bptr, c1, c2, hx, ed, ea, k1]
    · have hi : i = min s.length most := by omega
      rw [fin i hi, w_loop]
      by_cases c : i < s.length
      · have c1 : (i : Int) < s.length := by omega
        have c2 : ¬ (i : Int) < most := by omega
        simp (maxSteps := 1000000) (disch := omega) only [go_sem, ↓reduceIte, Nat.reduceEqDiff, Nat.reduceAdd, Nat.reduceSub, Nat.reduceMul, Nat.reduceLT, Nat.reduceLeDiff, reduceCtorEq, Int.reduceToNat, Int.reduceLT, Int.reduceLE, Int.reduceAdd, Int.reduceSub, Int.reduceMul, Int.reduceEq, Int.reduceNe, wrap_id, wrapu_id, wrapb_id, idx_ok, bin_quo, bin_rem, tdiv_id, tmod_id, ps_bptr, c1, c2]
      · have c1 : ¬ (i : Int) < s.length := by omega
        simp (maxSteps := 1000000) (disch := omega) only [go_sem, ↓reduceIte, Nat.reduceEqDiff, Nat.reduceAdd, Nat.reduceSub, Nat.reduceMul, Nat.reduceLT, Nat.reduceLeDiff, reduceCtorEq, Int.reduceToNat, Int.reduceLT, Int.reduceLE, Int.reduceAdd, Int.reduceSub, Int.reduceMul, Int.reduceEq, Int.reduceNe, wrap_id, wrapu_id, wrapb_id, idx_ok, bin_quo, bin_rem, tdiv_id, tmod_id, ps_bptr, c1]
theorem made_run {s : List UInt8} {most : Nat} (hm : most ≤ 1000) (hs : s.length ≤ 9223372036854775807) (h : Heap) (lo : Nat) : (run lib).fn 13 [.str s, .int .i64 most] h lo = some (.str (itxt (madeZ s most)), h) := by
  have lp := made_loop hm h hs _ 0 (Nat.le_refl _) (Nat.zero_le _)
  have e0 : madeL s 0 = [] := rfl
  have i0 : accV (h.length + 0) (0, .dead) 1 (ints []) = .nilSl := rfl
  have j0 : accB (0, .dead) 1 (ints []) = (0, .dead) := rfl
  rw [e0, i0, j0] at lp
  simp only [Int.natCast_zero] at lp
  have hdg := madeL_dg s most
  have htr := trim10_eq hdg
  have hml : (madeL s most).length ≤ 1000 := by simp [madeL]; omega
  have hz : madeZ s most = sgn (madeB s) (madeN s most) := rfl
  rw [hz]
  unfold madeN
  generalize madeL s most = M at *
  have hdl : (d10 (dq M).toNat).length ≤ 1000 := by
    rw [← htr]; have : (trimL M).length ≤ M.length := by simp [trimL]; omega
    omega
  -- what the second half of the function does, for any slice
  have tx : ∀ (v : AV) (fr : Heap), Sl (h ++ fr) 1 v (ints (d10 (dq M).toNat)) → (run lib).fn 36 [.bool (madeB s), v] (h ++ fr) h.length = some (.tuple [.str (itxt (sgn (madeB s) (dq M).toNat)), .bool (decide ((d10 (dq M).toNat).length ≤ 200))], h ++ fr) := fun v fr hv => rtext_run (madeB s) hv (by omega) _
  rw [run_closed (x := x13) rfl rfl rfl rfl]
  by_cases hM : M = []
  · subst hM
    have e1 : (dq []).toNat = 0 := rfl
    rw [i0, j0] at lp
    rw [e1, d10_zero] at tx
    rw [e1]
    have tx1 := tx (.lst 0 []) [(0, .dead)] (Sl.lst0 _ 1 0)
    have wk : weak (.own 0 []) = .lst 0 [] := rfl
    cases s with
    | nil =>
      have eb : madeB [] = false := rfl
      rw [eb] at tx1 ⊢
      simp (maxSteps := 1000000) (disch := omega) only [go_sem, ↓reduceIte, Nat.reduceEqDiff, Nat.reduceAdd, Nat.reduceSub, Nat.reduceMul, Nat.reduceLT, Nat.reduceLeDiff, reduceCtorEq, Int.reduceToNat, Int.reduceLT, Int.reduceLE, Int.reduceAdd, Int.reduceSub, Int.reduceMul, Int.reduceEq, Int.reduceNe, wrap_id, wrapu_id, wrapb_id, idx_ok, bin_quo, bin_rem, tdiv_id, tmod_id, ps_bptr, x13, lp, Int.lt_irrefl, rtrim_nil, wk, tx1]
    | cons c r =>
      have c1 : (0 : Int) < ((c :: r).length : Nat) := by simp
      have hx := fun H => ixst0 (k := .i64) c r H
      have eb : madeB (c :: r) = decide (128 ≤ c.toNat) := rfl
      have eb2 : decide ((128 : Int) ≤ (c.toNat : Nat)) = decide (128 ≤ c.toNat) := by rw [decide_eq_decide]; omega
      rw [eb] at tx1 ⊢
      simp only [List.length_cons] at c1
      simp (maxSteps := 1000000) (disch := omega) only [go_sem, ↓reduceIte, Nat.reduceEqDiff, Nat.reduceAdd, Nat.reduceSub, Nat.reduceMul, Nat.reduceLT, Nat.reduceLeDiff, reduceCtorEq, Int.reduceToNat, Int.reduceLT, Int.reduceLE, Int.reduceAdd, Int.reduceSub, Int.reduceMul, Int.reduceEq, Int.reduceNe, wrap_id, wrapu_id, wrapb_id, idx_ok, bin_quo, bin_rem, tdiv_id, tmod_id, ps_bptr, x13, lp, c1, hx, eb2, rtrim_nil, wk, tx1]
  · have hMne : ints M ≠ [] := by intro e; exact hM (by simpa [ints] using e)
    simp only [accV_ne hMne, accB_ne hMne, ints_len] at lp
    have tr := rtrim_run (l := M) (by omega) (h ++ [(0 + 1, .arr 1 (ints M))]) (h.length + 0) (by rw [get_fr]; rfl) M.length rfl
    have htl : (trimL M).length ≤ M.length := by simp [trimL]; omega
    have htk : (ints M).take (trimL M).length = ints (d10 (dq M).toNat) := by
      rw [← htr]; unfold trimL
      rw [List.length_take, Nat.min_eq_left (trimK_le _ _)]
      simp [ints, List.map_take]
    have sl : Sl (h ++ [(0 + 1, .arr 1 (ints M))]) 1 (.ref (h.length + 0) 1 1 0 (trimL M).length M.length) (ints (d10 (dq M).toNat)) := by
      have := Sl.ref (h := h) (fr := [(0 + 1, .arr 1 (ints M))]) (s := 0) (ver := 1) (z := 1) (off := 0) (len := (trimL M).length) (fill := M.length) (es := ints M) rfl (by simp) (by omega)
      rw [List.drop_zero, htk] at this
      exact this
    have tx1 := tx _ [(0 + 1, .arr 1 (ints M))] sl
    cases s with
    | nil =>
      have eb : madeB [] = false := rfl
      rw [eb] at tx1 ⊢
      simp (maxSteps := 1000000) (disch := omega) only [go_sem, ↓reduceIte, Nat.reduceEqDiff, Nat.reduceAdd, Nat.reduceSub, Nat.reduceMul, Nat.reduceLT, Nat.reduceLeDiff, reduceCtorEq, Int.reduceToNat, Int.reduceLT, Int.reduceLE, Int.reduceAdd, Int.reduceSub, Int.reduceMul, Int.reduceEq, Int.reduceNe, wrap_id, wrapu_id, wrapb_id, idx_ok, bin_quo, bin_rem, tdiv_id, tmod_id, ps_bptr, x13, lp, Int.lt_irrefl, tr, tx1]
    | cons c r =>
      have c1 : (0 : Int) < ((c :: r).length : Nat) := by simp
      have hx := fun H => ixst0 (k := .i64) c r H
      have eb : madeB (c :: r) = decide (128 ≤ c.toNat) := rfl
      have eb2 : decide ((128 : Int) ≤ (c.toNat : Nat)) = decide (128 ≤ c.toNat) := by rw [decide_eq_decide]; omega
      rw [eb] at tx1 ⊢
      simp only [List.length_cons] at c1
      simp (maxSteps := 1000000) (disch := omega) only [go_sem, ↓reduceIte, Nat.reduceEqDiff, Nat.reduceAdd, Nat.reduceSub, Nat.reduceMul, Nat.reduceLT, Nat.reduceLeDiff, reduceCtorEq, Int.reduceToNat, Int.reduceLT, Int.reduceLE, Int.reduceAdd, Int.reduceSub, Int.reduceMul, Int.reduceEq, Int.reduceNe, wrap_id, wrapu_id, wrapb_id, idx_ok, bin_quo, bin_rem, tdiv_id, tmod_id, ps_bptr, x13, lp, c1, hx, eb2, tr, tx1]
end Go.VI.Integer
namespace Go.VI.Integer
open Go.VI.Num
set_option linter.unusedVariables false
set_option linter.unusedSimpArgs false

theorem add_fit {x y z : Int} (hx : Fit x) (hy : Fit y) (hz : Fit z) (e : x + y = z) (h : Heap) (lo : Nat) : (run lib).fn 14 [.str (itxt x), .str (itxt y)] h lo = some (.tuple [.str (itxt z), .int .i64 0], h) := by
  subst e; rw [add_run hx hy, outT_fit hz]
theorem sub_fit {x y z : Int} (hx : Fit x) (hy : Fit y) (hz : Fit z) (e : x - y = z) (h : Heap) (lo : Nat) : (run lib).fn 16 [.str (itxt x), .str (itxt y)] h lo = some (.tuple [.str (itxt z), .int .i64 0], h) := by
  subst e; rw [sub_run hx hy, outT_fit hz]
theorem mul_fit {x y z : Int} (hx : Fit x) (hy : Fit y) (hz : Fit z) (e : x * y = z) (h : Heap) (lo : Nat) : (run lib).fn 15 [.str (itxt x), .str (itxt y)] h lo = some (.tuple [.str (itxt z), .int .i64 0], h) := by
  subst e; rw [mul_run hx hy, outT_fit hz]
theorem div_fit {x y q r : Int} (hx : Fit x) (hy : Fit y) (h0 : y ≠ 0) (e1 : x / y = q) (e2 : x % y = r) (h : Heap) (lo : Nat) : (run lib).fn 17 [.str (itxt x), .str (itxt y)] h lo = some (.tuple [.str (itxt q), .str (itxt r), .int .i64 0], h) := by
  subst e1; subst e2; rw [div_run hx hy h0]; rfl
theorem gcd_fit' {x y : Int} {g : Int} (hx : Fit x) (hy : Fit y) (e : ((Int.gcd x y : Nat) : Int) = g) (h : Heap) (lo : Nat) : (run lib).fn 20 [.str (itxt x), .str (itxt y)] h lo = some (.tuple [.str (itxt g), .int .i64 0], h) := by
  subst e; rw [gcd_run hx hy]
theorem root_fit' {x : Int} {r : Int} (hx : Fit x) (h0 : 0 ≤ x) (e : ((rootN x.natAbs : Nat) : Int) = r) (h : Heap) (lo : Nat) : (run lib).fn 21 [.str (itxt x)] h lo = some (.tuple [.str (itxt r), .int .i64 0], h) := by
  subst e; rw [root_run hx h0]
def Bd (k : Nat) (z : Int) : Prop := z.natAbs < 10 ^ k
theorem Bd.fit {k : Nat} {z : Int} (h : Bd k z) (hk : k ≤ 200) : Fit z := Nat.lt_of_lt_of_le h (Nat.pow_le_pow_right (by omega) hk)
theorem Bd.mono {k l : Nat} {z : Int} (h : Bd k z) (hk : k ≤ l) : Bd l z := Nat.lt_of_lt_of_le h (Nat.pow_le_pow_right (by omega) hk)
theorem Bd.mul {j k : Nat} {x y : Int} (hx : Bd j x) (hy : Bd k y) : Bd (j + k) (x * y) := by
  unfold Bd at *
  rw [Int.natAbs_mul, Nat.pow_add]
  exact Nat.mul_lt_mul'' hx hy
theorem Bd.add {k : Nat} {x y : Int} (hx : Bd k x) (hy : Bd k y) : Bd (k + 1) (x + y) := by
  unfold Bd at *
  rw [Nat.pow_succ]
  generalize 10 ^ k = X at *
  omega
theorem Bd.sub {k : Nat} {x y : Int} (hx : Bd k x) (hy : Bd k y) : Bd (k + 1) (x - y) := by
  unfold Bd at *
  rw [Nat.pow_succ]
  generalize 10 ^ k = X at *
  omega
theorem Bd.le {k : Nat} {x y : Int} (hx : Bd k x) (h : y.natAbs ≤ x.natAbs) : Bd k y := Nat.lt_of_le_of_lt h hx
theorem str_ne {a b : Int} (h : a ≠ b) : ¬ itxt a = itxt b := fun e => h (itxt_inj e)
theorem str_iff (a b : Int) : (itxt a = itxt b) = (a = b) := by rw [eq_iff_iff]; exact ⟨itxt_inj, fun e => by rw [e]⟩
instance (z : Int) : Decidable (Fit z) := inferInstanceAs (Decidable (_ < _))
theorem fit0 : Fit 0 := by decide
theorem fit1 : Fit 1 := by decide
theorem tx999 : itxt (999) = [57, 57, 57] := by kernel_rfl
theorem tx1 : itxt (1) = [49] := by kernel_rfl
theorem tx1000 : itxt (1000) = [49, 48, 48, 48] := by kernel_rfl
theorem txm999 : itxt (-999) = [45, 57, 57, 57] := by kernel_rfl
theorem txm12 : itxt (-12) = [45, 49, 50] := by kernel_rfl
theorem tx12 : itxt (12) = [49, 50] := by kernel_rfl
theorem txm144 : itxt (-144) = [45, 49, 52, 52] := by kernel_rfl
theorem txm7 : itxt (-7) = [45, 55] := by kernel_rfl
theorem tx2 : itxt (2) = [50] := by kernel_rfl
theorem txm4 : itxt (-4) = [45, 52] := by kernel_rfl
theorem txm2 : itxt (-2) = [45, 50] := by kernel_rfl
theorem tx4 : itxt (4) = [52] := by kernel_rfl
theorem txm18 : itxt (-18) = [45, 49, 56] := by kernel_rfl
theorem tx6 : itxt (6) = [54] := by kernel_rfl
theorem tx99 : itxt (99) = [57, 57] := by kernel_rfl
theorem tx9 : itxt (9) = [57] := by kernel_rfl
theorem txm1 : itxt (-1) = [45, 49] := by kernel_rfl
theorem txm8 : itxt (-8) = [45, 56] := by kernel_rfl
theorem sane_run (h : Heap) (lo : Nat) : (run lib).fn 12 [] h lo = some (.bool true, h) := by
  have a1 : ∀ H lo, (run lib).fn 14 [.str [57, 57, 57], .str [49]] H lo = some (.tuple [.str [49, 48, 48, 48], .int .i64 0], H) := fun H lo => by
    have t := add_fit (x := 999) (y := 1) (z := 1000) (by decide) (by decide) (by decide) (by decide) H lo
    simp only [tx999, tx1, tx1000] at t
    exact t
  have a2 : ∀ H lo, (run lib).fn 16 [.str [49], .str [49, 48, 48, 48]] H lo = some (.tuple [.str [45, 57, 57, 57], .int .i64 0], H) := fun H lo => by
    have t := sub_fit (x := 1) (y := 1000) (z := -999) (by decide) (by decide) (by decide) (by decide) H lo
    simp only [tx1, tx1000, txm999] at t
    exact t
  have a3 : ∀ H lo, (run lib).fn 15 [.str [45, 49, 50], .str [49, 50]] H lo = some (.tuple [.str [45, 49, 52, 52], .int .i64 0], H) := fun H lo => by
    have t := mul_fit (x := -12) (y := 12) (z := -144) (by decide) (by decide) (by decide) (by decide) H lo
    simp only [txm12, tx12, txm144] at t
    exact t
  have a4 : ∀ H lo, (run lib).fn 17 [.str [45, 55], .str [50]] H lo = some (.tuple [.str [45, 52], .str [49], .int .i64 0], H) := fun H lo => by
    have t := div_fit (x := -7) (y := 2) (q := -4) (r := 1) (by decide) (by decide) (by decide) (by decide) (by decide) H lo
    simp only [txm7, tx2, txm4, tx1] at t
    exact t
  have a5 : ∀ H lo, (run lib).fn 17 [.str [45, 55], .str [45, 50]] H lo = some (.tuple [.str [52], .str [49], .int .i64 0], H) := fun H lo => by
    have t := div_fit (x := -7) (y := -2) (q := 4) (r := 1) (by decide) (by decide) (by decide) (by decide) (by decide) H lo
    simp only [txm7, txm2, tx4, tx1] at t
    exact t
  have a6 : ∀ H lo, (run lib).fn 20 [.str [49, 50], .str [45, 49, 56]] H lo = some (.tuple [.str [54], .int .i64 0], H) := fun H lo => by
    have t := gcd_fit' (x := 12) (y := -18) (g := 6) (by decide) (by decide) (by decide) H lo
    simp only [tx12, txm18, tx6] at t
    exact t
  have a7 : ∀ H lo, (run lib).fn 21 [.str [57, 57]] H lo = some (.tuple [.str [57], .int .i64 0], H) := fun H lo => by
    have t := root_fit' (x := 99) (r := 9) (by decide) (by decide) (by rw [rootN_eq (r := 9) (by decide) (by decide)]; rfl) H lo
    simp only [tx99, tx9] at t
    exact t
  have a8 : ∀ H lo, (run lib).fn 21 [.str [45, 49]] H lo = some (.tuple [.str [], .int .i64 30], H) := fun H lo => by
    have t := root_neg (x := -1) (by decide) (by decide) H lo
    simp only [txm1] at t
    exact t
  have a9 : ∀ H lo, (run lib).fn 14 [.str [48, 48, 55], .str [49]] H lo = some (.tuple [.str [], .int .i64 30], H) := fun H lo => add_bad (by decide) H lo
  have a10 : ∀ H lo, (run lib).fn 19 [.str [45, 55]] H lo = some (.bool true, H) := fun H lo => (valid_run [45, 55] H lo).trans (by rw [show validS [45, 55] = true by decide])
  have a11 : ∀ H lo, (run lib).fn 19 [.str [45, 48]] H lo = some (.bool false, H) := fun H lo => (valid_run [45, 48] H lo).trans (by rw [show validS [45, 48] = false by decide])
  have a12 : ∀ H lo, (run lib).fn 19 [.str []] H lo = some (.bool false, H) := fun H lo => (valid_run [] H lo).trans (by rw [show validS [] = false by decide])
  have a13 : ∀ H lo, (run lib).fn 18 [.str [45, 56], .str [45, 55]] H lo = some (.int .i64 (-1), H) := fun H lo => by
    have t := compare_run (x := -8) (y := -7) (by decide) (by decide) H lo
    simp only [txm8, txm7] at t
    exact t
  rw [run_closed (x := x12) rfl rfl rfl rfl]
  simp (maxSteps := 1000000) (disch := omega) only [go_sem, ↓reduceIte, Nat.reduceEqDiff, Nat.reduceAdd, Nat.reduceSub, Nat.reduceMul, Nat.reduceLT, Nat.reduceLeDiff, reduceCtorEq, Int.reduceToNat, Int.reduceLT, Int.reduceLE, Int.reduceAdd, Int.reduceSub, Int.reduceMul, Int.reduceEq, Int.reduceNe, wrap_id, wrapu_id, wrapb_id, idx_ok, bin_quo, bin_rem, tdiv_id, tmod_id, ps_bptr, x12, a1, a2, a3, a4, a5, a6, a7, a8, a9, a10, a11, a12, a13]
theorem cmpN_lt (a b : Int) : (cmpN a b < 0) ↔ a < b := by
  unfold cmpN
  by_cases h1 : a < b
  · rw [if_pos h1]; omega
  · rw [if_neg h1]
    by_cases h2 : a = b
    · rw [if_pos h2]; omega
    · rw [if_neg h2]; omega
theorem cmp_less {a b : Int} (h : a < b) : cmpN a b = -1 := if_pos h
theorem cmp_eq (a : Int) : cmpN a a = 0 := by unfold cmpN; rw [if_neg (by omega), if_pos rfl]
theorem cmp_more {a b : Int} (h : b < a) : cmpN a b = 1 := by unfold cmpN; rw [if_neg (by omega), if_neg (by omega)]
theorem str_of' {c0 : List AV} (t : TyL .str c0) : ∃ l : List UInt8, Shp.str.mk c0 = .str l ∧ l.length ≤ 9223372036854775807 := by
  simp only [TyL] at t
  obtain ⟨l, rfl, h⟩ := t
  exact ⟨l, rfl, h⟩
theorem int_of' {c0 : List AV} (t : TyL (.int .i64) c0) : ∃ n : Int, (Shp.int .i64).mk c0 = .int .i64 n ∧ -9223372036854775808 ≤ n ∧ n ≤ 9223372036854775807 := by
  obtain ⟨n, h1, h2, h3⟩ := i64_of t
  exact ⟨n, by rw [h1]; rfl, h2, h3⟩
theorem i32_of' {c0 : List AV} (t : TyL (.int .i32) c0) : ∃ n : Int, (Shp.int .i32).mk c0 = .int .i32 n ∧ -2147483648 ≤ n ∧ n ≤ 2147483647 := by
  obtain ⟨n, h1, h2, h3⟩ := int_of t
  refine ⟨n, by rw [h1]; rfl, ?_, ?_⟩
  · have : IntKind.i32.min = -2147483648 := by decide
    omega
  · have : IntKind.i32.max = 2147483647 := by decide
    omega
def sh3 : List Shp := [.str, .str, .str]
def sh4 : List Shp := [.str, .str]
end Go.VI.Integer
