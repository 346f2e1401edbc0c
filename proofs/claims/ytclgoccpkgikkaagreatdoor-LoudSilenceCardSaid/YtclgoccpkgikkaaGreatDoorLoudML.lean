/- What the functions on integers compute, part ML. -/
import Derived.Test.YtclgoccpkgikkaaGreatDoorLoudTab
import Derived.Test.YtclgoccpkgikkaaGreatDoorVGS
import Derived.Test.YtclgoccpkgikkaaGreatDoorLoudMC
import Derived.Test.YtclgoccpkgikkaaGreatDoorLoudMA
import Derived.Test.YtclgoccpkgikkaaGreatDoorLoudMS
set_option linter.unusedVariables false
set_option linter.unusedSimpArgs false
namespace Go.VI.Loud
open Go.VI.Num
theorem Sl_val {h : Heap} {z : Nat} {v : AV} {es : List AV} (s : Sl h z v es) : v.val = true ∧ v.cells = [v] := by
 have := s.elems0
 cases v <;> simp [asList0] at this <;> exact ⟨rfl, rfl⟩
def inB (n a b : Int) : Bool := decide (a ≤ n) && decide (n ≤ b)
theorem within_run (n a b : Int) (h : Heap) (lo : Nat) : (run lib).fn 34 [.int .i64 n, .int .i64 a, .int .i64 b] h lo = some (.bool (inB n a b), h) := by
 unfold inB
 rw [run_closed (x := x34) rfl rfl rfl rfl]
 by_cases c1 : a ≤ n
 ·simp (maxSteps := 1000000) (disch := omega) only [go_sem, x34, c1]
 ·simp (maxSteps := 1000000) (disch := omega) only [go_sem, x34, c1]
def ixV (l : List Int) (p : Int → Bool) (k : Nat) : Option Nat := ((l.drop k).findIdx? p).map (· + k)
theorem ixV_end {l : List Int} {p : Int → Bool} : ixV l p l.length = none := by unfold ixV; rw [List.drop_length]; rfl
theorem ixV_hit {l : List Int} {p : Int → Bool} {k : Nat} (hk : k < l.length) (hp : p l[k] = true) : ixV l p k = some k := by
 unfold ixV
 rw [List.drop_eq_getElem_cons hk, List.findIdx?_cons, if_pos hp]; simp
theorem ixV_next {l : List Int} {p : Int → Bool} {k : Nat} (hk : k < l.length) (hp : p l[k] = false) : ixV l p k = ixV l p (k + 1) := by
 unfold ixV
 rw [List.drop_eq_getElem_cons hk, List.findIdx?_cons, hp, if_neg Bool.false_ne_true, Option.map_map]
 congr 1; funext x; simp; omega
theorem ixf_loop {h : Heap} {v : AV} {l : List Int} (hv : Sl h 1 v (ints l)) (hl : l.length ≤ 9223372036854775807) {g : Nat} (hg : g < 1000) {caps : List AV} {p : Int → Bool}
  (hF : ∀ x ∈ l, ∀ lo, (run lib).fn g (.int .i64 x :: caps) h lo = some (.bool (p x), h)) (lo : Nat) : ∀ (d k : Nat), k + d = l.length →
  runC lib ⟨lo, h.length, 0, none⟩ (.loop b54_0) ([(0, v), (1, .fn g caps), (7, .int .i64 l.length), (8, .int .i64 k)], h) =
   match ixV l p k with | some r => some (.ret, ([(4, .int .i64 r)], h)) | none => some (.exit 0, ([], h)) := by
 intro d
 induction d with
 | zero =>
  intro k hk
  obtain rfl : k = l.length := by omega
  rw [ixV_end, w_loop]
  simp (maxSteps := 1000000) (disch := omega) only [go_sem, Int.lt_irrefl]
 | succ d ih =>
  intro k hk
  have hk' : k < l.length := by omega
  have h1 : (k : Int) < l.length := by omega
  have e3 : sidx 1 v (.int .i64 k) = some k := by rw [sidx_sl hv (by omega) (by simp; omega)]; simp
  have e4 := fun off => pc_iptr (off := off) hv.elems0 (show k < (ints l).length by simp; omega)
  simp only [ints_get] at e4
  have f := fun lo => hF l[k] (List.getElem_mem _) lo
  cases hp : p l[k] with
  | true =>
   rw [ixV_hit hk' hp, w_loop]
   rw [hp] at f
   simp (maxSteps := 1000000) (disch := omega) only [go_sem, h1, e3, e4, f, hg, List.cons_append, List.nil_append]
  | false =>
   rw [ixV_next hk' hp, w_loop]
   rw [hp] at f
   have e := ih (k + 1) (by omega)
   rw [cast1] at e
   simp (maxSteps := 1000000) (disch := omega) only [go_sem, h1, e3, e4, f, hg, List.cons_append, List.nil_append, e]
def ixR (l : List Int) (p : Int → Bool) : Int := match ixV l p 0 with | some r => (r : Int) | none => -1
theorem ixf_run {h : Heap} {v : AV} {l : List Int} (hv : Sl h 1 v (ints l)) (hl : l.length ≤ 9223372036854775807) {g : Nat} (hg : g < 1000) {caps : List AV} {p : Int → Bool}
  (hF : ∀ x ∈ l, ∀ lo, (run lib).fn g (.int .i64 x :: caps) h lo = some (.bool (p x), h)) (lo : Nat) : (run lib).fn 54 [v, .fn g caps] h lo = some (.int .i64 (ixR l p), h) := by
 have e := ixf_loop hv hl hg hF h.length l.length 0 (by omega)
 have ll := lenv_sl hv.len
 rw [ints_len] at ll
 unfold ixR
 simp only [Int.natCast_zero] at e
 rw [run_closed (x := x54) rfl rfl rfl rfl]
 cases hr : ixV l p 0 with
 | none =>
  rw [hr] at e
  simp (maxSteps := 1000000) (disch := omega) only [go_sem, x54, ll, e]
 | some r =>
  rw [hr] at e
  simp (maxSteps := 1000000) (disch := omega) only [go_sem, x54, ll, e]
theorem ixR_neg {l : List Int} {p : Int → Bool} : (0 ≤ ixR l p) = (l.any p = true) := by
 unfold ixR ixV
 rw [List.drop_zero, eq_iff_iff]
 cases h : l.findIdx? p with
 | none =>
  have := List.findIdx?_eq_none_iff.mp h
  simp only [Option.map_none]
  constructor
  ·intro h; omega
  ·intro h
   obtain ⟨x, hx, hp⟩ := List.any_eq_true.mp h
   rw [this x hx] at hp; cases hp
 | some i =>
  simp only [Option.map_some]
  constructor
  ·intro _
   obtain ⟨h1, h2, _⟩ := List.findIdx?_eq_some_iff_getElem.mp h
   exact List.any_eq_true.mpr ⟨_, List.getElem_mem h1, h2⟩
  ·intro _; omega
theorem cf_run {h : Heap} {v : AV} {l : List Int} (hv : Sl h 1 v (ints l)) (hl : l.length ≤ 9223372036854775807) {g : Nat} (hg : g < 1000) {caps : List AV} {p : Int → Bool}
  (hF : ∀ x ∈ l, ∀ lo, (run lib).fn g (.int .i64 x :: caps) h lo = some (.bool (p x), h)) (lo : Nat) : (run lib).fn 36 [v, .fn g caps] h lo = some (.bool (l.any p), h) := by
 have e := ixf_run hv hl hg hF h.length
 have hn := ixR_neg (l := l) (p := p)
 generalize ixR l p = r at *
 rw [run_closed (x := x36) rfl rfl rfl rfl]
 cases ha : l.any p with
 | true => rw [ha] at hn; simp only [eq_iff_iff, iff_true] at hn; simp (maxSteps := 1000000) (disch := omega) only [go_sem, x36, e, hn]
 | false => rw [ha] at hn; simp only [Bool.false_eq_true, eq_iff_iff, iff_false] at hn; simp (maxSteps := 1000000) (disch := omega) only [go_sem, x36, e, hn]
theorem not_all {l : List Int} {p q : Int → Bool} (h : ∀ x, q x = !p x) : l.any q = !l.all p := by
 induction l with
 | nil => rfl
 | cons x l ih => rw [List.any_cons, List.all_cons, ih, h, Bool.not_and]
theorem uvalid1_run (x : Int) (h : Heap) (lo : Nat) : (run lib).fn 37 [.int .i64 x] h lo = some (.bool (!inB x (-32768) 32767), h) := by
 have w := fun H lo => within_run x (-32768) 32767 H lo
 rw [run_closed (x := x37) rfl rfl rfl rfl]
 simp (maxSteps := 1000000) (disch := omega) only [go_sem, x37, w]
theorem uvalid_run {h : Heap} {v : AV} {l : List Int} (hv : Sl h 1 v (ints l)) (hl : l.length ≤ 9223372036854775807) (lo : Nat) : (run lib).fn 17 [v] h lo = some (.bool (okS l), h) := by
 have e := cf_run hv hl (g := 37) (by decide) (caps := []) (p := fun x => !inB x (-32768) 32767) (fun x _ lo => uvalid1_run x h lo) h.length
 rw [not_all (p := fun x => inB x (-32768) 32767) (fun x => rfl)] at e
 have ll := lenv_sl hv.len
 rw [ints_len] at ll
 have es : okS l = (decide ((l.length : Int) ≤ 600) && l.all fun x => inB x (-32768) 32767) := by
  unfold okS inB
  congr 1
  rw [decide_eq_decide]; omega
 rw [es]
 generalize (l.all fun x => inB x (-32768) 32767) = b at *
 rw [run_closed (x := x17) rfl rfl rfl rfl]
 by_cases c : (l.length : Int) ≤ 600
 ·simp (maxSteps := 1000000) (disch := omega) only [go_sem, x17, ll, c, e, Bool.not_not]
 ·simp (maxSteps := 1000000) (disch := omega) only [go_sem, x17, ll, c]
end Go.VI.Loud
namespace Go.VI.Loud
open Go.VI.Num
theorem lint_app (a b : List Int) : ints (a ++ b) = ints a ++ ints b := by simp [ints]
theorem lint_one (x : Int) : ints [x] = [.int .i64 x] := rfl
def psL (l : List Int) (k : Nat) : List Int := (List.range (l.length + 1)).map fun j => if j ≤ k then enL (l.take j) else 0
theorem psL_len (l : List Int) (k : Nat) : (psL l k).length = l.length + 1 := by simp [psL]
theorem psL_get {l : List Int} {k j : Nat} (hj : j < (psL l k).length) : (psL l k)[j] = if j ≤ k then enL (l.take j) else 0 := by simp [psL]
theorem enL_take_succ {l : List Int} {k : Nat} (hk : k < l.length) : enL (l.take (k + 1)) = enL (l.take k) + l[k] * l[k] := by
 rw [List.take_succ_eq_append_getElem hk, enL_append]; simp [enL]
theorem psL_zero (l : List Int) : psL l 0 = List.replicate (l.length + 1) 0 := by
 refine List.ext_getElem (by simp [psL]) fun j h1 h2 => ?_
 rw [psL_get, List.getElem_replicate]
 split
 ·have : j = 0 := by omega
  subst this; rfl
 ·rfl
theorem psL_succ {l : List Int} {k : Nat} (hk : k < l.length) : psL l (k + 1) = (psL l k).set (k + 1) (enL (l.take k) + l[k] * l[k]) := by
 refine List.ext_getElem (by simp [psL]) fun j h1 h2 => ?_
 rw [psL_get, List.getElem_set]
 by_cases h : k + 1 = j
 ·subst h
  rw [if_pos rfl, if_pos (Nat.le_refl _), enL_take_succ hk]
 ·rw [if_neg h, psL_get]
  by_cases h3 : j ≤ k
  ·rw [if_pos h3, if_pos (by omega)]
  ·rw [if_neg h3, if_neg (by omega)]
theorem en_take_bd {l : List Int} (h : okS l = true) (k : Nat) : 0 ≤ enL (l.take k) ∧ enL (l.take k) ≤ 1073741824 * 600 := by
 obtain ⟨h1, h2⟩ := okS_mem h
 have h3 := enL_le (l.take k) fun s hs => h2 s (List.mem_of_mem_take hs)
 have h4 : (l.take k).length ≤ 600 := by rw [List.length_take]; omega
 omega
theorem sums_loop {h : Heap} {v : AV} {l : List Int} (hv : Sl h 1 v (ints l)) (hk : okS l = true) : ∀ (d k : Nat), k + d = l.length →
  runC lib ⟨h.length, h.length, 2, none⟩ (.loop b13_1) ([(0, v), (4, .ref (h.length + 1) 1 1 0 (l.length + 1) (l.length + 1)), (16, v), (17, .int .i64 l.length), (18, .int .i64 k)], h ++ [(0, .dead), (1, .arr 1 (ints (psL l k)))]) =
   some (.exit 0, ([(0, v), (4, .ref (h.length + 1) 1 1 0 (l.length + 1) (l.length + 1))], h ++ [(0, .dead), (1, .arr 1 (ints (psL l l.length)))])) := by
 intro d
 induction d with
 | zero =>
  intro k hkd
  obtain rfl : k = l.length := by omega
  rw [w_loop]
  simp (maxSteps := 1000000) (disch := omega) only [go_sem, Int.lt_irrefl]
 | succ d ih =>
  intro k hkd
  have hk' : k < l.length := by omega
  have h600 := (okS_mem hk).1
  have h1 : (k : Int) < l.length := by omega
  have e3 : sidx 1 v (.int .i64 k) = some k := by rw [sidx_sl hv (by omega) (by simp; omega)]; simp
  have e4 := fun off fr => pc_iptr (off := off) (hv.elems fr) (show k < (ints l).length by simp; omega)
  simp only [ints_get] at e4
  have hr := Sl.ref (h := h) (fr := [(0, .dead), (1, .arr 1 (ints (psL l k)))]) (s := 1) (ver := 1) (z := 1) (off := 0) (len := l.length + 1) (fill := l.length + 1) (es := ints (psL l k)) rfl (by simp [psL_len]) (by omega)
  rw [List.drop_zero, List.take_of_length_le (by simp [psL_len])] at hr
  have f3 : sidx 1 (.ref (h.length + 1) 1 1 0 (l.length + 1) (l.length + 1)) (.int .i64 k) = some k := by rw [sidx_sl hr (by omega) (by simp [psL_len]; omega)]; simp
  have f4 := fun off => pc_iptr (off := off) hr.elems0 (show k < (ints (psL l k)).length by simp [psL_len]; omega)
  simp only [ints_get, psL_get, if_pos (Nat.le_refl k)] at f4
  have g3 : sidx 1 (.ref (h.length + 1) 1 1 0 (l.length + 1) (l.length + 1)) (.int .i64 ((k : Int) + 1)) = some (k + 1) := by
   have := sidx_sl (k := .i64) (i := ((k + 1 : Nat) : Int)) hr (by omega) (by simp [psL_len]; omega)
   rw [cast1] at this; rw [this]; simp
  have hs := ps_iptr_fr (lo := h.length) (ns := 2) (h := h) (fr := [(0, .dead), (1, .arr 1 ((psL l k).map (.int .i64)))]) (s := 1) (ver := 1) (o := 0) (len := l.length + 1) (fill := l.length + 1) (i := k + 1) (k := .i64) (l := psL l k) (n := enL (l.take k) + l[k] * l[k]) rfl (psL_len l k) (by omega) (by omega) (by omega)
  rw [Nat.zero_add, ← psL_succ hk'] at hs
  have e := ih (k + 1) (by omega)
  rw [cast1] at e
  have b1 := en_take_bd hk k
  have b2 := lsq_le ((okS_mem hk).2 l[k] (List.getElem_mem _)).1 ((okS_mem hk).2 l[k] (List.getElem_mem _)).2
  have c1 := (okS_mem hk).2 l[k] (List.getElem_mem _)
  simp only [ints] at hs e f4 ⊢
  generalize l[k] = x at *
  generalize enL (l.take k) = E at *
  rw [w_loop]
  simp (maxSteps := 1000000) (disch := omega) only [go_sem, h1, e3, e4, f3, f4, g3, hs, e]
theorem blk_dif {l : List Int} {i : Nat} (h : 8 * i + 32 ≤ l.length) : enL (l.take (8 * i + 32)) - enL (l.take (8 * i)) = blkL l i := by
 unfold blkL
 have : l.take (8 * i + 32) = l.take (8 * i) ++ (l.drop (8 * i)).take 32 := by rw [List.take_add]
 rw [this, enL_append]; omega
theorem blocks_take {l : List Int} {i : Nat} (h : i < nbL l.length) : (blocksL l).take (i + 1) = (blocksL l).take i ++ [blkL l i] := by
 have h2 : i < (blocksL l).length := by simpa [blocksL] using h
 rw [List.take_succ_eq_append_getElem h2]
 simp [blocksL]
theorem out_loop {h : Heap} {v : AV} {l : List Int} (hv : Sl h 1 v (ints l)) (hk : okS l = true) : ∀ (d i : Nat), i + d = nbL l.length →
  runC lib ⟨h.length, h.length, 2, none⟩ (.loop b13_0) ([(0, v), (4, .ref (h.length + 1) 1 1 0 (l.length + 1) (l.length + 1)), (7, accV (h.length + 0) (0, .dead) 1 (ints ((blocksL l).take i))), (8, .int .i64 ((8 * i + 32 : Nat) : Int))], h ++ [accB (0, .dead) 1 (ints ((blocksL l).take i)), (1, .arr 1 (ints (psL l l.length)))]) =
   some (.exit 2, ([(7, accV (h.length + 0) (0, .dead) 1 (ints (blocksL l)))], h ++ [accB (0, .dead) 1 (ints (blocksL l)), (1, .arr 1 (ints (psL l l.length)))])) := by
 have ll := lenv_sl hv.len
 rw [ints_len] at ll
 have h600 := (okS_mem hk).1
 intro d
 induction d with
 | zero =>
  intro i hi
  have hn : ¬ ((8 * i + 32 : Nat) : Int) ≤ l.length := by
   unfold nbL at hi; split at hi <;> omega
  have ht : (blocksL l).take i = blocksL l := List.take_of_length_le (by simp [blocksL]; omega)
  rw [ht, w_loop]
  simp (maxSteps := 1000000) (disch := omega) only [go_sem, ll, hn]
 | succ d ih =>
  intro i hi
  have hlt : i < nbL l.length := by omega
  have h32 : 8 * i + 32 ≤ l.length := by unfold nbL at hlt; split at hlt <;> omega
  have h1 : ((8 * i + 32 : Nat) : Int) ≤ l.length := by omega
  have hr := fun fr0 => Sl.ref (h := h) (fr := [fr0, (1, .arr 1 (ints (psL l l.length)))]) (s := 1) (ver := 1) (z := 1) (off := 0) (len := l.length + 1) (fill := l.length + 1) (es := ints (psL l l.length)) rfl (by simp [psL_len]) (by omega)
  simp only [List.drop_zero, List.take_of_length_le (show (ints (psL l l.length)).length ≤ l.length + 1 by simp [psL_len])] at hr
  have f3 : sidx 1 (.ref (h.length + 1) 1 1 0 (l.length + 1) (l.length + 1)) (.int .i64 ((8 * i + 32 : Nat) : Int)) = some (8 * i + 32) := by rw [sidx_sl (hr (0, .dead)) (by omega) (by simp [psL_len]; omega), Int.toNat_natCast]
  have f4 := fun off fr0 => pc_iptr (off := off) (hr fr0).elems0 (show 8 * i + 32 < (ints (psL l l.length)).length by simp [psL_len]; omega)
  simp only [ints_get, psL_get, if_pos h32] at f4
  have es : ((8 * i + 32 : Nat) : Int) - 32 = ((8 * i : Nat) : Int) := by omega
  have g3 : sidx 1 (.ref (h.length + 1) 1 1 0 (l.length + 1) (l.length + 1)) (.int .i64 ((8 * i : Nat) : Int)) = some (8 * i) := by rw [sidx_sl (hr (0, .dead)) (by omega) (by simp [psL_len]; omega), Int.toNat_natCast]
  have g4 := fun off fr0 => pc_iptr (off := off) (hr fr0).elems0 (show 8 * i < (ints (psL l l.length)).length by simp [psL_len]; omega)
  simp only [ints_get, psL_get, if_pos (show 8 * i ≤ l.length by omega)] at g4
  have b1 := en_take_bd hk (8 * i + 32)
  have b2 := en_take_bd hk (8 * i)
  have bd := blk_dif h32
  have e := ih (i + 1) (by omega)
  have e8 : ((8 * (i + 1) + 32 : Nat) : Int) = ((8 * i + 32 : Nat) : Int) + 8 := by omega
  rw [blocks_take hlt, lint_app, lint_one, e8] at e
  have hbl : ((blocksL l).take i).length ≤ 100 := by
   have := nbL_le h600
   rw [List.length_take]; simp [blocksL]; omega
  have e5 := app_acc (lo := h.length) (ns := 2) (s := 0) (z := 1) (lim := 17592186044416) (h := h) (fr := [accB (0, .dead) 1 (ints ((blocksL l).take i)), (1, .arr 1 (ints (psL l l.length)))]) (b0 := (0, .dead)) (es := ints ((blocksL l).take i)) (xs := [.int .i64 (blkL l i)]) (by omega) (by omega) rfl (by simp; omega)
  have ck : ckN (some (accB (0, .dead) 1 (ints ((blocksL l).take i)))) = true := by unfold accB; split <;> rfl
  have ed : ∀ k fr, asList (h ++ fr) 1 (.lsf 1 [.int .i64 k]) = some [.int .i64 k] := fun k fr => rfl
  generalize (8 * i + 32 : Nat) = P at *
  generalize (8 * i : Nat) = Q at *
  generalize enL (l.take P) = A at *
  generalize enL (l.take Q) = B at *
  generalize blkL l i = X at *
  subst bd
  rw [w_loop]
  simp (maxSteps := 1000000) (disch := omega) only [go_sem, ll, h1, f3, f4, es, g3, g4, ck, e5, e]
theorem ublocks_run {h : Heap} {v : AV} {l : List Int} (hv : Sl h 1 v (ints l)) (hl : l.length ≤ 9223372036854775807) (lo : Nat) :
  (run lib).fn 13 [v] h lo = some (if okS l then .tuple [ownV 1 (ints (blocksL l)), .int .i64 0] else .tuple [.own 0 [], .int .i64 180], h) := by
 have va := uvalid_run hv hl
 have ll := lenv_sl hv.len
 rw [ints_len] at ll
 cases hk : okS l with
 | false =>
  have va' := fun fr lo => uvalid_run (hv.app fr) hl lo
  rw [hk] at va'
  rw [run_closed (x := x13) rfl rfl rfl rfl]
  simp (maxSteps := 1000000) (disch := omega) only [go_sem, x13, va']
 | true =>
  have va' := fun fr lo => uvalid_run (hv.app fr) hl lo
  rw [hk] at va'
  have h600 := (okS_mem hk).1
  have e1 := sums_loop hv hk l.length 0 (by omega)
  have e2 := out_loop hv hk (nbL l.length) 0 (by omega)
  rw [psL_zero, List.replicate_succ] at e1
  simp only [Int.natCast_zero, List.take_zero, ints, List.map_nil, List.map_cons, List.map_replicate, accV_nil, accB_nil, Nat.mul_zero, Nat.zero_add, show ((32 : Nat) : Int) = 32 from rfl] at e1 e2
  have e3 := give_acc (s := 0) (z := 1) (h := h) (fr := [accB (0, .dead) 1 (ints (blocksL l)), (1, .arr 1 (ints (psL l l.length)))]) (b0 := (0, .dead)) (es := ints (blocksL l)) rfl
  simp only [ints] at e3 ⊢
  have c1 : ((l.length : Int) + 1).toNat = l.length + 1 := by omega
  have hmk := fun hh => mks_ok (h := hh) (cx := ⟨h.length, h.length, 2, none⟩) (s := 1) (z := 1) (zero := .int .i64 0) (lim := 17592186044416) (k := .i64) (k' := .i64) (a := (l.length : Int) + 1) (b := (l.length : Int) + 1) (by omega) (by omega) (by omega)
  rw [run_closed (x := x13) rfl rfl rfl rfl]
  simp (maxSteps := 1000000) (disch := omega) only [go_sem, x13, va', ll, c1, hmk, e1, e2, e3]
end Go.VI.Loud
namespace Go.VI.Loud
open Go.VI.Num
theorem set_at {H : Heap} {id : Nat} {b0 : Nat × Blk} (hid : H[id]? = some b0) (b : Nat × Blk) : (H.set id b)[id]? = some b := List.getElem?_set_self (List.getElem?_eq_some_iff.mp hid).1
theorem drop_get {xs ys : List Int} {j : Nat} (hj : j < xs.length) (hl : ys.length = xs.length) (h : ys.drop j = xs.drop j) : ys[j]'(by omega) = xs[j] ∧ ys.drop (j + 1) = xs.drop (j + 1) := by
 rw [List.drop_eq_getElem_cons hj, List.drop_eq_getElem_cons (by omega)] at h
 exact List.cons.inj h
theorem del_loop {H : Heap} {id ver : Nat} {b0 : Nat × Blk} (hid : H[id]? = some b0) {xs : List Int} (hn : xs.length ≤ 1000000) {g : Nat} (hg : g < 1000) {caps : List AV} {p : Int → Bool}
  (hF : ∀ x ∈ xs, ∀ ys lo, (run lib).fn g (.int .i64 x :: caps) (H.set id (ver, .arr 1 ys)) lo = some (.bool (p x), H.set id (ver, .arr 1 ys))) {lo : Nat} (hlo : lo ≤ id) : ∀ (d j i : Nat) (ys : List Int), j + d = xs.length → i ≤ j → ys.length = xs.length → ys.take i = (xs.take j).filter (fun x => !p x) → ys.drop j = xs.drop j →
  ∃ (i' : Nat) (ys' : List Int), runC lib ⟨lo, H.length, 0, none⟩ (.loop b46_0) ([(0, .ref id ver 1 0 xs.length xs.length), (1, .fn g caps), (5, .int .i64 i), (6, .int .i64 j)], H.set id (ver, .arr 1 (ints ys))) =
   some (.exit 0, ([(0, .ref id ver 1 0 xs.length xs.length), (5, .int .i64 i')], H.set id (ver, .arr 1 (ints ys')))) ∧ ys'.length = xs.length ∧ i' ≤ xs.length ∧ ys'.take i' = xs.filter (fun x => !p x) := by
 intro d
 induction d with
 | zero =>
  intro j i ys hj hij hl ht hd
  obtain rfl : j = xs.length := by omega
  rw [List.take_length] at ht
  refine ⟨i, ys, ?_, hl, by omega, ht⟩
  have lr : lenv false (.ref id ver 1 0 xs.length xs.length) = some (.int .i64 xs.length) := rfl
  rw [w_loop]
  simp (maxSteps := 1000000) (disch := omega) only [go_sem, Int.lt_irrefl, lr]
 | succ d ih =>
  intro j i ys hj hij hl ht hd
  have hj' : j < xs.length := by omega
  have h1 : (j : Int) < xs.length := by omega
  obtain ⟨hv, hd'⟩ := drop_get hj' hl hd
  have hb := set_at hid (ver, .arr 1 (ints ys))
  have hs := Sl.refAt hb
  rw [ints_len, hl] at hs
  have e3 : sidx 1 (.ref id ver 1 0 xs.length xs.length) (.int .i64 j) = some j := by rw [sidx_sl hs (by omega) (by simp; omega)]; simp
  have e4 := fun off => pc_iptr (off := off) hs.elems0 (show j < (ints ys).length by simp; omega)
  simp only [ints_get, hv] at e4
  have f := fun ys lo => hF xs[j] (List.getElem_mem _) ys lo
  have f3 : sidx 1 (.ref id ver 1 0 xs.length xs.length) (.int .i64 i) = some i := by rw [sidx_sl hs (by omega) (by simp; omega)]; simp
  have st := fun n => ps_iptr (cx := ⟨lo, H.length, 0, none⟩) (k := .i64) (n := n) (i := i) (o := 0) (len := xs.length) (fill := xs.length) (l := ys) hb hl (by omega) (by omega) hlo
  simp only [Nat.zero_add, List.set_set] at st
  have lr : lenv false (.ref id ver 1 0 xs.length xs.length) = some (.int .i64 xs.length) := rfl
  have tk : (xs.take (j + 1)).filter (fun x => !p x) = (xs.take j).filter (fun x => !p x) ++ (if p xs[j] then [] else [xs[j]]) := by
   rw [List.take_succ_eq_append_getElem hj', List.filter_append]
   congr 1
   cases h : p xs[j] <;> simp [h]
  cases hp : p xs[j] with
  | true =>
   rw [hp, if_pos rfl, List.append_nil] at tk
   obtain ⟨i', ys', e, k1, k2, k3⟩ := ih (j + 1) i ys (by omega) (by omega) hl (by rw [ht, tk]) hd'
   refine ⟨i', ys', ?_, k1, k2, k3⟩
   rw [hp] at f
   rw [cast1] at e
   rw [w_loop]
   simp (maxSteps := 1000000) (disch := omega) only [go_sem, lr, h1, e3, e4, f, hg, List.cons_append, List.nil_append, e]
  | false =>
   rw [hp, if_neg Bool.false_ne_true] at tk
   obtain ⟨i', ys', e, k1, k2, k3⟩ := ih (j + 1) (i + 1) (ys.set i xs[j]) (by omega) (by omega) (by simp [hl]) (by
    rw [List.take_succ_eq_append_getElem (by simp; omega), List.getElem_set_self, List.take_set_of_le (Nat.le_refl _), ht, tk]) (by
    rw [List.drop_set_of_lt (by omega)]; exact hd')
   refine ⟨i', ys', ?_, k1, k2, k3⟩
   rw [hp] at f
   rw [cast1, cast1] at e
   simp only [ints] at st e e4 f ⊢
   rw [w_loop]
   simp (maxSteps := 1000000) (disch := omega) only [go_sem, lr, h1, e3, e4, f, f3, hg, st, List.cons_append, List.nil_append, e]
theorem del_run {H : Heap} {id ver : Nat} {xs : List Int} (hid : H[id]? = some (ver, .arr 1 (ints xs))) (hn : xs.length ≤ 1000000) {g : Nat} (hg : g < 1000) {caps : List AV} {p : Int → Bool}
  (hF : ∀ x ∈ xs, ∀ ys lo, (run lib).fn g (.int .i64 x :: caps) (H.set id (ver, .arr 1 ys)) lo = some (.bool (p x), H.set id (ver, .arr 1 ys))) {lo : Nat} (hlo : lo ≤ id) :
  ∃ zs : List Int, zs.length = xs.length ∧ (xs.filter fun x => !p x).length ≤ xs.length ∧ zs.take (xs.filter fun x => !p x).length = (xs.filter fun x => !p x) ∧
   (run lib).fn 46 [.ref id ver 1 0 xs.length xs.length, .fn g caps] H lo = some (.ref id ver 1 0 (xs.filter fun x => !p x).length xs.length, H.set id (ver, .arr 1 (ints zs))) := by
 have hlt : id < H.length := (List.getElem?_eq_some_iff.mp hid).1
 have hsame : H.set id (ver, .arr 1 (ints xs)) = H := set_same hid
 have hs := Sl.refAt hid
 rw [ints_len] at hs
 have ix := ixf_run hs (by omega) hg (caps := caps) (p := p) (fun x hx lo => by have := hF x hx (ints xs) lo; rw [hsame] at this; exact this) lo
 have hneg := ixR_neg (l := xs) (p := p)
 unfold ixR at ix hneg
 have hfl := List.length_filter_le (fun x => !p x) xs
 have nle : ¬ H.length ≤ id := by omega
 have gr : ∀ a b c H', giveRes H.length (.ref id ver 1 a b c) H' = some (.ref id ver 1 a b c) := fun a b c H' => by simp [giveRes, give, frz, nle]
 have sr : ∀ a b c, slen (.ref id ver 1 a b c) = some b := fun a b c => rfl
 cases hr : ixV xs p 0 with
 | none =>
  rw [hr] at ix hneg
  have hall : xs.filter (fun x => !p x) = xs := by
   rw [List.filter_eq_self]
   intro x hx
   have : xs.any p = false := by
    cases h : xs.any p with
    | false => rfl
    | true => rw [h] at hneg; simp at hneg
   have := List.any_eq_false.mp this x hx
   simpa using this
  refine ⟨xs, rfl, hfl, by rw [hall, List.take_length], ?_⟩
  rw [hall, hsame, run_open (x := x46) rfl rfl rfl rfl (by omega)]
  simp (maxSteps := 1000000) (disch := omega) only [go_sem, x46, ix, gr, List.take_length]
 | some r =>
  rw [hr] at ix
  have hrx : r < xs.length ∧ p (xs[r]?.getD 0) = true ∧ (xs.take r).filter (fun x => !p x) = xs.take r := by
   unfold ixV at hr
   simp only [List.drop_zero, Option.map_eq_some_iff, Nat.add_zero, exists_eq_right] at hr
   obtain ⟨h1, h2, h3⟩ := List.findIdx?_eq_some_iff_getElem.mp hr
   refine ⟨h1, by rw [List.getElem?_eq_getElem h1]; exact h2, ?_⟩
   rw [List.filter_eq_self]
   intro x hx
   obtain ⟨k, hk, rfl⟩ := List.getElem_of_mem hx
   rw [List.length_take] at hk
   have := h3 k (by omega)
   rw [List.getElem_take]
   simpa using this
  obtain ⟨r1, r2, r3⟩ := hrx
  rw [List.getElem?_eq_getElem r1] at r2
  have t1 : xs.take r = (xs.take (r + 1)).filter (fun x => !p x) := by
   rw [List.take_succ_eq_append_getElem r1, List.filter_append, r3]
   have : ([xs[r]].filter fun x => !p x) = [] := by
    have : p xs[r] = true := r2
    simp [this]
   rw [this, List.append_nil]
  obtain ⟨i', ys, e, k1, k2, k3⟩ := del_loop hid hn hg hF hlo (xs.length - (r + 1)) (r + 1) r xs (by omega) (by omega) rfl t1 rfl
  rw [hsame, cast1] at e
  have hi' : i' = (xs.filter fun x => !p x).length := by rw [← k3, List.length_take]; omega
  have nr : ¬ (r : Int) = -1 := by omega
  have hb := set_at hid (ver, .arr 1 (ints ys))
  have sl1 : slicev (some 1) (.ref id ver 1 0 xs.length xs.length) (some (.int .i64 i')) none = some (.ref id ver 1 i' (xs.length - i') xs.length) := by
   rw [slicev_ref, bnd_none, Option.bind_some, bnd_ok (by omega) (by omega)]; simp
  have sl2 : slicev (some 1) (.ref id ver 1 0 xs.length xs.length) none (some (.int .i64 i')) = some (.ref id ver 1 0 i' xs.length) := by
   rw [slicev_ref, bnd_ok (by omega) (by omega), Option.bind_some, bnd_none]; simp
  have cl : copyv ⟨lo, H.length, 0, none⟩ 1 (.ref id ver 1 i' (xs.length - i') xs.length) (List.replicate (xs.length - i') (.int .i64 0)) (H.set id (ver, .arr 1 (ints ys))) = some (.int .i64 (xs.length - i' : Nat), H.set id (ver, .arr 1 (ints (ys.take i' ++ List.replicate (xs.length - i') 0)))) := by
   unfold copyv
   simp only [zok, beq_self_eq_true, if_true, slen, List.length_replicate, Nat.min_self]
   have ell : (ints ys).length = xs.length := by rw [ints_len, k1]
   by_cases h0 : xs.length - i' = 0
   ·have : i' = xs.length := by omega
    subst this
    rw [if_pos (by omega)]
    simp only [Nat.sub_self, List.replicate_zero, List.append_nil]
    rw [← k1, List.take_length]; rfl
   ·rw [if_neg h0, hb]
    simp only [ell, true_and]
    rw [if_pos ⟨by omega, hlo⟩, List.set_set]
    congr 4
    have e1 : i' + (xs.length - i') = (ints ys).length := by rw [ell]; omega
    have e2 : (List.replicate (xs.length - i') (AV.int .i64 0)).take (xs.length - i') = List.replicate (xs.length - i') (AV.int .i64 0) := List.take_of_length_le (by simp)
    rw [e1, List.drop_length, List.append_nil, e2]
    simp [ints, List.map_take]
  refine ⟨ys.take i' ++ List.replicate (xs.length - i') 0, by simp; omega, hfl, ?_, ?_⟩
  ·rw [← hi', List.take_append_of_le_length (by simp; omega), List.take_take, Nat.min_self, k3]
  ·rw [← hi', run_open (x := x46) rfl rfl rfl rfl (by omega)]
   simp (maxSteps := 1000000) (disch := omega) only [go_sem, x46, ix, nr, e, sl1, sl2, sr, cl, gr]
   try rw [List.take_of_length_le (by simp)]
end Go.VI.Loud
namespace Go.VI.Loud
open Go.VI.Num
/- BIGSTEPS -/
theorem ugate1_run (x : Int) (h : Heap) (lo : Nat) : (run lib).fn 45 [.int .i64 x] h lo = some (.bool (!inB x 0 34359738368), h) := by
 have w := fun H lo => within_run x 0 34359738368 H lo
 rw [run_closed (x := x45) rfl rfl rfl rfl]
 simp (maxSteps := 30000000) (disch := omega) only [go_sem, x45, w]
def okEB (es : List Int) : Bool := decide (es.length ≤ 72) && es.all fun x => inB x 0 34359738368
theorem okEB_E {es : List Int} : okEB es = true ↔ okE es := by
 unfold okEB okE inB
 simp only [Bool.and_eq_true, decide_eq_true_eq, List.all_eq_true]
theorem ugate2_run {H : Heap} {v : AV} {es : List Int} (hv : Sl H 1 v (ints es)) (hE : okE es) {a b c : Nat} {n s : Int} (hn : H[a]? = some (1, .box [.int .i64 n])) (he : H[b]? = some (1, .box [v])) (hs : H[c]? = some (1, .box [.int .i64 s])) (n0 : 0 ≤ n) (n1 : n ≤ 72) {x : Int} (x0 : 0 ≤ x) (x1 : x.toNat < es.length) (lo : Nat) :
  (run lib).fn 47 [.int .i64 x, .bptr a 1 0, .bptr b 1 0, .bptr c 1 0] H lo = some (.bool (decide (10 * n * ((es[x.toNat]?).getD 0) < s)), H) := by
 have p1 : pcells H (.bptr a 1 0) = some [.int .i64 n] := by simp [pcells, hn]
 have p2 : pcells H (.bptr b 1 0) = some [v] := by simp [pcells, he]
 have p3 : pcells H (.bptr c 1 0) = some [.int .i64 s] := by simp [pcells, hs]
 have e3 : sidx 1 v (.int .i64 x) = some x.toNat := sidx_sl hv x0 (by simp; omega)
 have e4 := fun off => pc_iptr (off := off) hv.elems0 (show x.toNat < (ints es).length by simp; omega)
 simp only [ints_get] at e4
 rw [List.getElem?_eq_getElem x1, Option.getD_some]
 have eb := hE.2 es[x.toNat] (List.getElem_mem _)
 generalize es[x.toNat] = e at *
 have m1 : 0 ≤ n * e := Int.mul_nonneg n0 eb.1
 have m2 : n * e ≤ 72 * e := Int.mul_le_mul_of_nonneg_right n1 eb.1
 have m3 : 10 * n * e = 10 * (n * e) := Int.mul_assoc _ _ _
 rw [run_closed (x := x47) rfl rfl rfl rfl]
 simp (maxSteps := 30000000) (disch := omega) only [go_sem, x47, p1, p2, p3, e3, e4]
theorem gate_loop {h : Heap} {v : AV} {es : List Int} (hv : Sl h 1 v (ints es)) (hE : okE es) {g : Int} (hg : 0 ≤ g ∧ g ≤ 4096) : ∀ (d k : Nat), k + d = es.length →
  runC lib ⟨h.length, h.length, 5, none⟩ (.loop b22_0) ([(1, .int .i64 g), (2, .bptr (h.length + 4) 1 0), (6, accV (h.length + 2) (0, .dead) 1 (ints (iL (idxF (audB g) (es.take k) 0)))), (7, .bptr (h.length + 3) 1 0), (23, v), (24, .int .i64 es.length), (25, .int .i64 k)],
    h ++ [(0, .dead), (0, .dead), accB (0, .dead) 1 (ints (iL (idxF (audB g) (es.take k) 0))), (1, .box [.int .i64 (sumL ((es.take k).filter (audB g)))]), (1, .box [v])]) =
   some (.exit 0, ([(2, .bptr (h.length + 4) 1 0), (6, accV (h.length + 2) (0, .dead) 1 (ints (iL (idxF (audB g) es 0)))), (7, .bptr (h.length + 3) 1 0)],
    h ++ [(0, .dead), (0, .dead), accB (0, .dead) 1 (ints (iL (idxF (audB g) es 0))), (1, .box [.int .i64 (sumL (audL g es))]), (1, .box [v])])) := by
 intro d
 induction d with
 | zero =>
  intro k hk
  obtain rfl : k = es.length := by omega
  rw [List.take_length, w_loop]
  have e : sumL (es.filter (audB g)) = sumL (audL g es) := rfl
  simp (maxSteps := 30000000) (disch := omega) only [go_sem, Int.lt_irrefl, e]
 | succ d ih =>
  intro k hk
  have hk' : k < es.length := by omega
  have h1 : (k : Int) < es.length := by omega
  have e3 : sidx 1 v (.int .i64 k) = some k := by rw [sidx_sl hv (by omega) (by simp; omega)]; simp
  have e4 := fun off fr => pc_iptr (off := off) (hv.elems fr) (show k < (ints es).length by simp; omega)
  simp only [ints_get] at e4
  have eb := hE.2 es[k] (List.getElem_mem _)
  have ab := aud_bound eb hg
  have h72 := hE.1
  have e := ih (k + 1) (by omega)
  rw [idxF_take hk', sum_take hk', cast1] at e
  have sb := sum_filter_le (p := audB g) (es := es.take k) fun x hx => hE.2 x (List.mem_of_mem_take hx)
  have sl : (es.take k).length ≤ 72 := by rw [List.length_take]; have := hE.1; omega
  have al : (iL (idxF (audB g) (es.take k) 0)).length ≤ 72 := by
   rw [iL_len, idxF_len]; have := List.length_filter_le (audB g) (es.take k); omega
  have ha : audB g es[k] = decide (335544320 ≤ es[k] * g * g) := rfl
  generalize es[k] = x at *
  generalize sumL ((es.take k).filter (audB g)) = S at *
  generalize hA : iL (idxF (audB g) (es.take k) 0) = A at *
  by_cases c : 335544320 ≤ x * g * g
  ·rw [ha, decide_eq_true c] at e
   simp only [if_true] at e
   have ei : iL (idxF (audB g) (es.take k) 0 ++ [k]) = A ++ [(k : Int)] := by rw [← hA]; simp [iL]
   rw [ei, lint_app, lint_one] at e
   have e5 := app_acc (lo := h.length) (ns := 5) (s := 2) (z := 1) (lim := 17592186044416) (h := h) (fr := [(0, .dead), (0, .dead), accB (0, .dead) 1 (ints A), (1, .box [.int .i64 S]), (1, .box [v])]) (b0 := (0, .dead)) (es := ints A) (xs := [.int .i64 k]) (by omega) (by omega) rfl (by simp; omega)
   rw [w_loop]
   simp (maxSteps := 30000000) (disch := omega) only [go_sem, h1, e3, e4, c, e5, e]
  ·rw [ha, decide_eq_false c] at e
   simp only [Bool.false_eq_true, if_false, List.append_nil, Int.add_zero] at e
   rw [hA] at e
   rw [w_loop]
   simp (maxSteps := 30000000) (disch := omega) only [go_sem, h1, e3, e4, c, e]
end Go.VI.Loud
namespace Go.VI.Loud
open Go.VI.Num
/- BIGSTEPS -/
theorem okg_run (es : List Int) (g : Int) : (decide ((es.length : Int) ≤ 72) && (es.all fun x => inB x 0 34359738368)) = okEB es := by
 unfold okEB
 congr 1
 rw [decide_eq_decide]; omega
theorem ugate_ok {h : Heap} {v : AV} {es : List Int} (hv : Sl h 1 v (ints es)) (hE : okE es) {g : Int} (hg : 0 ≤ g ∧ g ≤ 4096) (lo : Nat) :
  ∃ V W, (run lib).fn 22 [v, .int .i64 g] h lo = some (.tuple [V, .int .i64 0], h) ∧ weak1 V = W ∧ PureSl 1 W (ints (iL (gateL g es))) := by
 obtain ⟨vv, vc⟩ := Sl_val hv
 have hEB := okEB_E.mpr hE
 have ll := lenv_sl hv.len
 rw [ints_len] at ll
 have w := fun H lo => within_run g 0 4096 H lo
 have wg : inB g 0 4096 = true := by unfold inB; rw [decide_eq_true hg.1, decide_eq_true hg.2]; rfl
 rw [wg] at w
 have cf := fun fr lo => cf_run (hv.app fr) (by have := hE.1; omega) (g := 45) (by decide) (caps := []) (p := fun x => !inB x 0 34359738368) (fun x _ lo => ugate1_run x (h ++ fr) lo) lo
 rw [not_all (p := fun x => inB x 0 34359738368) (fun x => rfl)] at cf
 have hal : (es.all fun x => inB x 0 34359738368) = true := by unfold okEB at hEB; simp only [Bool.and_eq_true] at hEB; exact hEB.2
 rw [hal] at cf
 have h72 : ¬ (72 : Int) < es.length := by have := hE.1; omega
 have lp := gate_loop hv hE hg es.length 0 (by omega)
 simp only [Int.natCast_zero, List.take_zero, idxF, iL, List.filter_nil, List.map_nil, ints, accV_nil, accB_nil, show sumL [] = 0 from rfl] at lp
 have hml : (iL (idxF (audB g) es 0)).length = (audL g es).length := by rw [iL_len, idx_aud_len]
 have as := aud_sum hE g
 have gf := gate_filter g es
 have hgl := List.length_filter_le (fun x => !decide (10 * ((audL g es).length : Int) * ((es[x.toNat]?).getD 0) < sumL (audL g es))) (iL (idxF (audB g) es 0))
 rw [← gf] at hgl
 obtain ⟨A, hA⟩ : ∃ A, A = iL (idxF (audB g) es 0) := ⟨_, rfl⟩
 have hAm : A.map (AV.int .i64) = ints A := rfl
 have hAe : (idxF (audB g) es 0).map (fun i : Nat => (i : Int)) = A := hA.symm
 have hlt : ∀ x ∈ A, 0 ≤ x ∧ x.toNat < es.length := fun x hx => idx_lt (by rw [← hA]; exact hx)
 rw [← hA] at hml gf hgl
 rw [hAe, hAm] at lp
 clear hA hAe
 by_cases h0 : A = []
 ·-- nothing is audible
  subst h0
  have hG : iL (gateL g es) = [] := by rw [gf]; rfl
  refine ⟨.lsf 0 [], .lsf 0 [], ?_, rfl, ?_⟩
  ·simp only [ints, List.map_nil, accV_nil, accB_nil] at lp
   have ix := fun lo => ixf_run (l := []) (Sl.nil (h ++ [(0, .dead), (1, .box [.int .i64 0]), (0, .dead), (1, .box [.int .i64 (sumL (audL g es))]), (1, .box [v])]) 1) (by decide) (g := 47) (by decide) (caps := [.bptr (h.length + 1) 1 0, .bptr (h.length + 4) 1 0, .bptr (h.length + 3) 1 0]) (p := fun _ => false) (fun x hx lo => by cases hx) lo
   have dr : ∀ lo, lo ≤ h.length + 5 → (run lib).fn 46 [.nilSl, .fn 47 [.bptr (h.length + 1) 1 0, .bptr (h.length + 4) 1 0, .bptr (h.length + 3) 1 0]] (h ++ [(0, .dead), (1, .box [.int .i64 0]), (0, .dead), (1, .box [.int .i64 (sumL (audL g es))]), (1, .box [v])]) lo = some (.own 0 [], h ++ [(0, .dead), (1, .box [.int .i64 0]), (0, .dead), (1, .box [.int .i64 (sumL (audL g es))]), (1, .box [v])]) := fun lo hlo => by
    have er : ixR [] (fun _ => false) = -1 := rfl
    rw [er] at ix
    rw [run_open (x := x46) rfl rfl rfl rfl (by simpa using hlo)]
    simp (maxSteps := 30000000) (disch := omega) only [go_sem, x46, ix, List.take_length]
   have dr' := dr h.length (by omega)
   have ln : lenv false .nilSl = some (.int .i64 0) := rfl
   have gl : ∀ b z es H, give b (.lsf z es) H = some (.lsf z es, H) := fun b z es H => by simp [give, frz]
   rw [run_closed (x := x22) rfl rfl rfl rfl]
   simp (maxSteps := 30000000) (disch := omega) only [go_sem, x22, vv, vc, ll, ln, w, cf, h72, lp, dr', take_none1, gl]
  ·rw [hG]; exact .inr ⟨0, .inr rfl, .inr rfl⟩
 ·have hA0 : ints A ≠ [] := by unfold ints; simpa using h0
  have av : accV (h.length + 2) (0, .dead) 1 (ints A) = .ref (h.length + 2) 1 1 0 A.length A.length := by unfold accV; rw [if_neg hA0, ints_len]
  have ab : accB (0, .dead) 1 (ints A) = (1, .arr 1 (ints A)) := by unfold accB; rw [if_neg hA0]
  rw [av, ab] at lp
  have hset : ∀ ys, (h ++ ([(0, .dead), (1, .box [.int .i64 A.length]), (1, .arr 1 (ints A)), (1, .box [.int .i64 (sumL (audL g es))]), (1, .box [v])] : Heap)).set (h.length + 2) (1, .arr 1 ys) = h ++ ([(0, .dead), (1, .box [.int .i64 A.length]), (1, .arr 1 ys), (1, .box [.int .i64 (sumL (audL g es))]), (1, .box [v])] : Heap) := fun ys => by rw [set_fr]; rfl
  have hF : ∀ x ∈ A, ∀ ys lo, (run lib).fn 47 (.int .i64 x :: [.bptr (h.length + 1) 1 0, .bptr (h.length + 4) 1 0, .bptr (h.length + 3) 1 0]) ((h ++ ([(0, .dead), (1, .box [.int .i64 A.length]), (1, .arr 1 (ints A)), (1, .box [.int .i64 (sumL (audL g es))]), (1, .box [v])] : Heap)).set (h.length + 2) (1, .arr 1 ys)) lo =
    some (.bool (decide (10 * (A.length : Int) * ((es[x.toNat]?).getD 0) < sumL (audL g es))), (h ++ ([(0, .dead), (1, .box [.int .i64 A.length]), (1, .arr 1 (ints A)), (1, .box [.int .i64 (sumL (audL g es))]), (1, .box [v])] : Heap)).set (h.length + 2) (1, .arr 1 ys)) := fun x hx ys lo => by
   obtain ⟨x0, x1⟩ := hlt x hx
   rw [hset]
   exact ugate2_run (hv.app _) hE (by rw [get_fr]; rfl) (by rw [get_fr]; rfl) (by rw [get_fr]; rfl) (by omega) (by omega) x0 x1 lo
  obtain ⟨zs, z1, z2, z3, z4⟩ := del_run (lo := h.length) (by rw [get_fr]; rfl) (by omega) (g := 47) (by decide) hF (by omega)
  rw [hset] at z4
  rw [← hml] at gf
  rw [← gf] at z2 z3 z4
  have ln : lenv false (.ref (h.length + 2) 1 1 0 A.length A.length) = some (.int .i64 A.length) := rfl
  have bk1 : ∀ r H, bck ⟨h.length, h.length, 5, none⟩ [(0, 0)] (some (.ref (h.length + 2) 1 1 0 r A.length, H)) = some (.ref (h.length + 2) 1 1 0 r A.length, H) := fun r H => by simp [bck, takeOver, weak, weak1]
  obtain ⟨G, hG⟩ : ∃ G, G = iL (gateL g es) := ⟨_, rfl⟩
  rw [← hG] at z2 z3 z4 hgl ⊢
  have al : asList0 (h ++ ([(0, .dead), (1, .box [.int .i64 A.length]), (1, .arr 1 (ints zs)), (1, .box [.int .i64 (sumL (audL g es))]), (1, .box [v])] : Heap)) (.ref (h.length + 2) 1 1 0 G.length A.length) = some (ints G) := by
   have e : (ints zs).take G.length = ints G := by unfold ints; rw [← List.map_take, z3]
   simp only [asList0, get_fr, List.getElem?_cons_succ, List.getElem?_cons_zero, ints_len]
   rw [if_pos ⟨trivial, trivial, by omega, by omega⟩, List.drop_zero, e]
  have gv : ∃ V, give h.length (.ref (h.length + 2) 1 1 0 G.length A.length) (h ++ ([(0, .dead), (1, .box [.int .i64 A.length]), (1, .arr 1 (ints zs)), (1, .box [.int .i64 (sumL (audL g es))]), (1, .box [v])] : Heap)) = some (V, (h ++ ([(0, .dead), (1, .box [.int .i64 A.length]), (1, .arr 1 (ints zs)), (1, .box [.int .i64 (sumL (audL g es))]), (1, .box [v])] : Heap)).set (h.length + 2) (1, .dead)) ∧ weak1 V = .lst 1 (ints G) := by
   have hle : h.length ≤ h.length + 2 := by omega
   by_cases hq : G.length = A.length
   ·refine ⟨.own 1 (ints G), ?_, rfl⟩
    simp only [give]
    rw [if_pos ⟨hle, trivial, hq⟩, al]; rfl
   ·refine ⟨.lst 1 (ints G), ?_, rfl⟩
    simp only [give]
    rw [if_neg (by intro h; exact hq h.2.2)]
    simp only [frz]
    rw [if_pos hle, al]; rfl
  obtain ⟨V, gv1, gv2⟩ := gv
  refine ⟨V, .lst 1 (ints G), ?_, gv2, .inr ⟨1, .inl rfl, .inl rfl⟩⟩
  clear hF hset
  rw [run_closed (x := x22) rfl rfl rfl rfl]
  simp (maxSteps := 30000000) (disch := omega) only [go_sem, x22, vv, vc, ll, ln, w, cf, h72, lp, z4, bk1, gv1]
theorem ugate_bad {h : Heap} {v : AV} {es : List Int} (hv : Sl h 1 v (ints es)) (hl : es.length ≤ 9223372036854775807) {g : Int} (hb : (okEB es && inB g 0 4096) = false) (lo : Nat) :
  (run lib).fn 22 [v, .int .i64 g] h lo = some (.tuple [.own 0 [], .int .i64 180], h) := by
 obtain ⟨vv, vc⟩ := Sl_val hv
 have ll := lenv_sl hv.len
 rw [ints_len] at ll
 have w := fun H lo => within_run g 0 4096 H lo
 have cf := fun fr lo => cf_run (hv.app fr) hl (g := 45) (by decide) (caps := []) (p := fun x => !inB x 0 34359738368) (fun x _ lo => ugate1_run x (h ++ fr) lo) lo
 rw [not_all (p := fun x => inB x 0 34359738368) (fun x => rfl)] at cf
 rw [← okg_run es 0] at hb
 generalize (es.all fun x => inB x 0 34359738368) = al at *
 rw [run_closed (x := x22) rfl rfl rfl rfl]
 by_cases h72 : (72 : Int) < es.length
 ·simp (maxSteps := 30000000) (disch := omega) only [go_sem, x22, vv, vc, ll, h72]
 ·rw [decide_eq_true (show (es.length : Int) ≤ 72 by omega), Bool.true_and] at hb
  cases wg : inB g 0 4096 with
  | false =>
   rw [wg] at w
   simp (maxSteps := 30000000) (disch := omega) only [go_sem, x22, vv, vc, ll, h72, w]
  | true =>
   rw [wg] at w hb
   have : al = false := by simpa using hb
   subst this
   simp (maxSteps := 30000000) (disch := omega) only [go_sem, x22, vv, vc, ll, h72, w, cf]
end Go.VI.Loud
namespace Go.VI.Loud
open Go.VI.Num
/- BIGSTEPS -/
def sumG (es : List Int) (G : List Nat) : Int := sumL (G.map fun i => (es[i]?).getD 0)
theorem counted_loop {h : Heap} {v W : AV} {es : List Int} (hv : Sl h 1 v (ints es)) (hE : okE es) {G : List Nat} (hW : PureSl 1 W (ints (iL G))) (hG : ∀ i ∈ G, i < es.length) (hl : G.length ≤ 72) (lo : Nat) : ∀ (d k : Nat), k + d = G.length →
  runC lib ⟨lo, h.length, 0, none⟩ (.loop b38_0) ([(0, v), (5, .int .i64 (sumG es (G.take k))), (6, W), (16, W), (17, .int .i64 G.length), (18, .int .i64 k)], h) =
   some (.exit 0, ([(5, .int .i64 (sumG es G)), (6, W)], h)) := by
 intro d
 induction d with
 | zero =>
  intro k hk
  obtain rfl : k = G.length := by omega
  rw [List.take_length, w_loop]
  simp (maxSteps := 30000000) (disch := omega) only [go_sem, Int.lt_irrefl]
 | succ d ih =>
  intro k hk
  have hk' : k < G.length := by omega
  have h1 : (k : Int) < G.length := by omega
  have hs := hW.sl h
  have e3 : sidx 1 W (.int .i64 k) = some k := by rw [sidx_sl hs (by omega) (by simp [iL_len]; omega)]; simp
  have e4 := fun off => pc_iptr (off := off) hs.elems0 (show k < (ints (iL G)).length by simp [iL_len]; omega)
  have eg : (iL G)[k]'(by simpa [iL_len] using hk') = (G[k] : Int) := by simp [iL]
  simp only [ints_get, eg] at e4
  have hi := hG G[k] (List.getElem_mem _)
  have f3 : sidx 1 v (.int .i64 (G[k] : Nat)) = some G[k] := by rw [sidx_sl hv (by omega) (by simp; omega)]; simp
  have f4 := fun off => pc_iptr (off := off) hv.elems0 (show G[k] < (ints es).length by simp; omega)
  simp only [ints_get] at f4
  have e := ih (k + 1) (by omega)
  have et : sumG es (G.take (k + 1)) = sumG es (G.take k) + es[G[k]] := by
   unfold sumG
   rw [List.take_succ_eq_append_getElem hk', List.map_append, sumL_append]
   congr 1
   simp [sumL, hi]
  rw [et, cast1] at e
  have eb := hE.2 es[G[k]] (List.getElem_mem _)
  have sb : 0 ≤ sumG es (G.take k) ∧ sumG es (G.take k) ≤ 34359738368 * (G.take k).length := by
   have key : ∀ L : List Nat, (∀ i ∈ L, i < es.length) → 0 ≤ sumG es L ∧ sumG es L ≤ 34359738368 * L.length := by
    intro L
    induction L with
    | nil => intro _; simp [sumG, sumL]
    | cons x L ih =>
     intro hL
     have h2 := ih fun i hi => hL i (List.mem_cons_of_mem _ hi)
     have h3 := hL x (by simp)
     have h4 := hE.2 es[x] (List.getElem_mem _)
     have e : sumG es (x :: L) = es[x] + sumG es L := by unfold sumG; rw [List.map_cons, sumL_cons, List.getElem?_eq_getElem h3]; rfl
     rw [e, List.length_cons]; omega
   exact key _ fun i hi => hG i (List.mem_of_mem_take hi)
  have tl : (G.take k).length ≤ 72 := by rw [List.length_take]; omega
  generalize es[G[k]] = x at *
  generalize sumG es (G.take k) = S at *
  generalize G[k] = gk at *
  rw [w_loop]
  simp (maxSteps := 30000000) (disch := omega) only [go_sem, h1, e3, e4, f3, f4, e]
theorem counted_run {h : Heap} {v : AV} {es : List Int} (hv : Sl h 1 v (ints es)) (hE : okE es) {g : Int} (hg : 0 ≤ g ∧ g ≤ 4096) (lo : Nat) :
  (run lib).fn 38 [v, .int .i64 g] h lo = some (.tuple [.int .i64 (cntL g es).length, .int .i64 (sumL (cntL g es))], h) := by
 obtain ⟨V, W, e1, e2, e3⟩ := ugate_ok hv hE hg h.length
 have hm : ∀ i ∈ gateL g es, i < es.length := fun i hi => by
  obtain ⟨_, h2, _⟩ := idxF_mem (gateB g es) es 0 i hi
  omega
 have hlen := gate_len g es
 have cb := cnt_bound hE g
 have lp := counted_loop hv hE e3 hm (by omega) h.length (gateL g es).length 0 (by omega)
 have eS : sumG es (gateL g es) = sumL (cntL g es) := by unfold sumG; rw [gate_map]
 rw [eS, hlen] at lp
 have e0 : sumG es ((gateL g es).take 0) = 0 := rfl
 rw [e0] at lp
 have ez : ((0 : Nat) : Int) = 0 := rfl
 rw [ez] at lp
 have ll := lenv_sl (e3.sl h).len
 rw [ints_len, iL_len, hlen] at ll
 rw [run_closed (x := x38) rfl rfl rfl rfl]
 simp (maxSteps := 30000000) (disch := omega) only [go_sem, x38, e1, e2, ll, lp]
theorem lat_run {H : Heap} {v : AV} {l : List Int} (hv : Sl H 1 v (ints l)) (hl : l.length ≤ 600) {b : Nat} (hb : H[b]? = some (1, .box [v])) (i : Int) (lo : Nat) : (run lib).fn 33 [.int .i64 i, .bptr b 1 0] H lo = some (.int .i64 (atL l i), H) := by
 have p : pcells H (.bptr b 1 0) = some [v] := by simp [pcells, hb]
 have ll := lenv_sl hv.len
 rw [ints_len] at ll
 have w := fun H lo => within_run i 0 ((l.length : Int) - 1) H lo
 rw [run_closed (x := x33) rfl rfl rfl rfl]
 by_cases c : 0 ≤ i ∧ i < l.length
 ·have e3 : sidx 1 v (.int .i64 i) = some i.toNat := sidx_sl hv (by omega) (by simp; omega)
  have e4 := fun off => pc_iptr (off := off) hv.elems0 (show i.toNat < (ints l).length by simp; omega)
  simp only [ints_get] at e4
  have wi : inB i 0 ((l.length : Int) - 1) = true := by unfold inB; rw [decide_eq_true c.1, decide_eq_true (by omega)]; rfl
  rw [wi] at w
  have ea : atL l i = l[i.toNat]'(by omega) := by unfold atL; rw [if_pos c, List.getElem?_eq_getElem (by omega)]; rfl
  rw [ea]
  simp (maxSteps := 30000000) (disch := omega) only [go_sem, x33, p, ll, w, e3, e4]
 ·have wi : inB i 0 ((l.length : Int) - 1) = false := by
   unfold inB
   by_cases c1 : 0 ≤ i
   ·rw [decide_eq_true c1, decide_eq_false (by omega)]; rfl
   ·rw [decide_eq_false c1]; rfl
  rw [wi] at w
  have ea : atL l i = 0 := by unfold atL; rw [if_neg c]
  rw [ea]
  simp (maxSteps := 30000000) (disch := omega) only [go_sem, x33, p, ll, w]
theorem atL_bd {l : List Int} (h : okS l = true) (i : Int) : -32768 ≤ atL l i ∧ atL l i ≤ 32767 := by
 unfold atL
 split
 ·rename_i c
  rw [List.getElem?_eq_getElem (by omega)]
  exact (okS_mem h).2 _ (List.getElem_mem _)
 ·omega
theorem row_loop (cx : Cx) {H : Heap} {l : List Int} {P KV : AV} (hF : ∀ x lo, (run lib).fn 33 [.int .i64 x, P] H lo = some (.int .i64 (atL l x), H)) {i : Int} (hi : -10 ≤ i ∧ i ≤ 1000) (o r : Int) {a b c d : Int} (h0 : -4194304 ≤ a * atL l (i - 1) ∧ a * atL l (i - 1) ≤ 4194304) (h1 : -4194304 ≤ b * atL l i ∧ b * atL l i ≤ 4194304) (h2 : -4194304 ≤ c * atL l (i + 1) ∧ c * atL l (i + 1) ≤ 4194304) (h3 : -4194304 ≤ d * atL l (i + 2) ∧ d * atL l (i + 2) ≤ 4194304) :
  runC lib cx (.loop b15_2) ([(1, P), (4, .fn 33 [P]), (5, .int .i64 o), (6, .int .i64 i), (9, .int .i64 0), (22, KV), (23, .int .i64 r), (26, .agg [.int .i64 a, .int .i64 b, .int .i64 c, .int .i64 d]), (27, .int .i64 0)], H) =
   some (.exit 4, ([(1, P), (4, .fn 33 [P]), (5, .int .i64 o), (6, .int .i64 i), (9, .int .i64 (valL l i a b c d)), (22, KV), (23, .int .i64 r)], H)) := by
 have e0 : i - 1 + 0 = i - 1 := by omega
 have e1 : i - 1 + 1 = i := by omega
 have e2 : i - 1 + 2 = i + 1 := by omega
 have e3 : i - 1 + 3 = i + 2 := by omega
 have ev : 0 + a * atL l (i - 1) + b * atL l i + c * atL l (i + 1) + d * atL l (i + 2) = valL l i a b c d := by unfold valL; omega
 rw [w_loop]
 simp (maxSteps := 30000000) (disch := omega) only [go_sem, hF, e0, List.cons_append, List.nil_append]
 rw [w_loop]
 simp (maxSteps := 30000000) (disch := omega) only [go_sem, hF, e1, List.cons_append, List.nil_append]
 rw [w_loop]
 simp (maxSteps := 30000000) (disch := omega) only [go_sem, hF, e2, List.cons_append, List.nil_append]
 rw [w_loop]
 simp (maxSteps := 30000000) (disch := omega) only [go_sem, hF, e3, List.cons_append, List.nil_append]
 rw [w_loop]
 simp (maxSteps := 30000000) (disch := omega) only [go_sem, ev]
end Go.VI.Loud
namespace Go.VI.Loud
open Go.VI.Num
/- BIGSTEPS -/
theorem row4 (h : Heap) {v : AV} {l : List Int} (hv : Sl h 1 v (ints l)) (hk : okS l = true) {i : Int} (hi : -10 ≤ i ∧ i ≤ 1000) {o : Int} (ho : 0 ≤ o ∧ o ≤ 5242880) (w : Nat) (b0 : Blk) : ∃ c0,
  runC lib ⟨h.length, h.length, 2, none⟩ (.loop b15_1) ([(1, .bptr (h.length + 1) 1 0), (4, .fn 33 [.bptr (h.length + 1) 1 0]), (5, .int .i64 o), (6, .int .i64 i), (22, .agg [.int .i64 0, .int .i64 128, .int .i64 0, .int .i64 0, .int .i64 (-9), .int .i64 111, .int .i64 29, .int .i64 (-3), .int .i64 (-8), .int .i64 72, .int .i64 72, .int .i64 (-8), .int .i64 (-3), .int .i64 29, .int .i64 111, .int .i64 (-9)]), (23, .int .i64 0)], h ++ [(w, b0), (1, .box [v])]) =
   some (.exit 2, ([(1, .bptr (h.length + 1) 1 0), (4, .fn 33 [.bptr (h.length + 1) 1 0]), (5, .int .i64 (oneL l o i)), (6, .int .i64 i)], h ++ [c0, (1, .box [v])])) := by
 have h600 := (okS_mem hk).1
 have hF : ∀ X x lo, (run lib).fn 33 [.int .i64 x, .bptr (h.length + 1) 1 0] (h ++ [X, (1, .box [v])]) lo = some (.int .i64 (atL l x), h ++ [X, (1, .box [v])]) := fun X x lo => lat_run (hv.app _) h600 (by rw [get_fr]; rfl) x lo
 have a0 := atL_bd hk (i - 1)
 have a1 := atL_bd hk i
 have a2 := atL_bd hk (i + 1)
 have a3 := atL_bd hk (i + 2)
 have r0 := fun cx X KV o r => row_loop cx (KV := KV) (hF X) hi o r (a := 0) (b := 128) (c := 0) (d := 0) (by omega) (by omega) (by omega) (by omega)
 have r1 := fun cx X KV o r => row_loop cx (KV := KV) (hF X) hi o r (a := -9) (b := 111) (c := 29) (d := -3) (by omega) (by omega) (by omega) (by omega)
 have r2 := fun cx X KV o r => row_loop cx (KV := KV) (hF X) hi o r (a := -8) (b := 72) (c := 72) (d := -8) (by omega) (by omega) (by omega) (by omega)
 have r3 := fun cx X KV o r => row_loop cx (KV := KV) (hF X) hi o r (a := -3) (b := 29) (c := 111) (d := -9) (by omega) (by omega) (by omega) (by omega)
 have b0' : -6000000 ≤ valL l i 0 128 0 0 ∧ valL l i 0 128 0 0 ≤ 6000000 := by unfold valL; omega
 have b1' : -6000000 ≤ valL l i (-9) 111 29 (-3) ∧ valL l i (-9) 111 29 (-3) ≤ 6000000 := by unfold valL; omega
 have b2' : -6000000 ≤ valL l i (-8) 72 72 (-8) ∧ valL l i (-8) 72 72 (-8) ≤ 6000000 := by unfold valL; omega
 have b3' : -6000000 ≤ valL l i (-3) 29 111 (-9) ∧ valL l i (-3) 29 111 (-9) ≤ 6000000 := by unfold valL; omega
 unfold oneL
 generalize valL l i 0 128 0 0 = v0 at *
 generalize valL l i (-9) 111 29 (-3) = v1 at *
 generalize valL l i (-8) 72 72 (-8) = v2 at *
 generalize valL l i (-3) 29 111 (-9) = v3 at *
 refine ⟨(w + 1 + 1 + 1 + 1, .box [.int .i64 (-3), .int .i64 29, .int .i64 111, .int .i64 (-9)]), ?_⟩
 rw [w_loop]
 simp (maxSteps := 30000000) (disch := omega) only [go_sem, r0]
 rw [w_loop]
 simp (maxSteps := 30000000) (disch := omega) only [go_sem, r1]
 rw [w_loop]
 simp (maxSteps := 30000000) (disch := omega) only [go_sem, r2]
 rw [w_loop]
 simp (maxSteps := 30000000) (disch := omega) only [go_sem, r3]
 rw [w_loop]
 simp (maxSteps := 30000000) (disch := omega) only [go_sem]
 rfl
theorem oneL_bd {l : List Int} (hk : okS l = true) {i o : Int} (ho : 0 ≤ o ∧ o ≤ 5242880) : 0 ≤ oneL l o i ∧ oneL l o i ≤ 5242880 := by
 have a0 := atL_bd hk (i - 1)
 have a1 := atL_bd hk i
 have a2 := atL_bd hk (i + 1)
 have a3 := atL_bd hk (i + 2)
 obtain ⟨h1, h2, h3⟩ := oneL_spec l o i
 refine ⟨by omega, ?_⟩
 rcases h3 with e | e
 ·omega
 ·unfold Hit valL at e; omega
theorem peak_loop (h : Heap) {v : AV} {l : List Int} (hv : Sl h 1 v (ints l)) (hk : okS l = true) : ∀ (n : Nat) (i o : Int), i + n = l.length + 1 → -2 ≤ i → 0 ≤ o ∧ o ≤ 5242880 → ∀ (w : Nat) (b0 : Blk), ∃ c0,
  runC lib ⟨h.length, h.length, 2, none⟩ (.loop b15_0) ([(1, .bptr (h.length + 1) 1 0), (4, .fn 33 [.bptr (h.length + 1) 1 0]), (5, .int .i64 o), (6, .int .i64 i)], h ++ [(w, b0), (1, .box [v])]) =
   some (.exit 0, ([(5, .int .i64 (pkF l n i o))], h ++ [c0, (1, .box [v])])) := by
 have ll := lenv_sl hv.len
 rw [ints_len] at ll
 have h600 := (okS_mem hk).1
 have kl : shaped (.agg 16) g0 = some (.agg [.int .i64 0, .int .i64 128, .int .i64 0, .int .i64 0, .int .i64 (-9), .int .i64 111, .int .i64 29, .int .i64 (-3), .int .i64 (-8), .int .i64 72, .int .i64 72, .int .i64 (-8), .int .i64 (-3), .int .i64 29, .int .i64 111, .int .i64 (-9)]) := rfl
 intro n
 induction n with
 | zero =>
  intro i o hi _ ho w b0
  have c1 : ¬ i ≤ (l.length : Int) := by omega
  refine ⟨(w, b0), ?_⟩
  unfold pkF
  rw [w_loop]
  simp (maxSteps := 30000000) (disch := omega) only [go_sem, ll, c1]
 | succ n ih =>
  intro i o hi hi2 ho w b0
  have c1 : i ≤ (l.length : Int) := by omega
  obtain ⟨⟨w', b'⟩, r⟩ := row4 h hv hk (i := i) (by omega) ho w b0
  obtain ⟨c0, e⟩ := ih (i + 1) (oneL l o i) (by omega) (by omega) (oneL_bd hk ho) w' b'
  refine ⟨c0, ?_⟩
  unfold pkF
  rw [w_loop]
  simp (maxSteps := 30000000) (disch := omega) only [go_sem, ll, c1, kl, r, e]
theorem upeak_run {h : Heap} {v : AV} {l : List Int} (hv : Sl h 1 v (ints l)) (hl : l.length ≤ 9223372036854775807) (lo : Nat) :
  (run lib).fn 15 [v] h lo = some (.tuple [.int .i64 (if okS l then peakL l else 0), .int .i64 (if okS l then 0 else 180)], h) := by
 obtain ⟨vv, vc⟩ := Sl_val hv
 have va := fun fr lo => uvalid_run (hv.app fr) hl lo
 cases hk : okS l with
 | false =>
  rw [hk] at va
  rw [run_closed (x := x15) rfl rfl rfl rfl]
  simp (maxSteps := 30000000) (disch := omega) only [go_sem, x15, vv, vc, va]
 | true =>
  rw [hk] at va
  obtain ⟨c0, lp⟩ := peak_loop h hv hk (l.length + 3) (-2) 0 (by omega) (by omega) (by omega) 0 .dead
  have ep : pkF l (l.length + 3) (-2) 0 = peakL l := rfl
  rw [ep] at lp
  rw [run_closed (x := x15) rfl rfl rfl rfl]
  simp (maxSteps := 30000000) (disch := omega) only [go_sem, x15, vv, vc, va, lp]
end Go.VI.Loud
namespace Go.VI.Loud
open Go.VI.Num
/- BIGSTEPS -/
theorem okG_split (es : List Int) (pk most c g : Int) : okG es pk most c g = (decide (pk * g ≤ c * 1024) && decide (sumL (cntL g es) * g ≤ most * 32 * (cntL g es).length * 1048576 / g)) := rfl
def gR (es : List Int) (pk most c : Int) (n : Nat) (h : Heap) : Option (Ex × Env × Heap) := if gFind es pk most c n = 0 then some (.exit 0, ([], h)) else some (.ret, ([(6, .int .i64 (gFind es pk most c n : Nat)), (7, .int .i64 0)], h))
theorem mul_bd {a b A B : Int} (h1 : 0 ≤ a ∧ a ≤ A) (h2 : 0 ≤ b ∧ b ≤ B) : 0 ≤ a * b ∧ a * b ≤ A * B :=
 ⟨Int.mul_nonneg h1.1 h2.1, Int.mul_le_mul h1.2 h2.2 h2.1 (by omega)⟩
theorem gain_loop {h : Heap} {E : AV} {es : List Int} (hv : Sl h 1 E (ints es)) (hE : okE es) {pk most c : Int} (hp : 0 ≤ pk ∧ pk ≤ 5242880) (hm : 0 ≤ most ∧ most ≤ 1073741824) (hc : 0 ≤ c ∧ c ≤ 8388608) (lo : Nat) : ∀ n : Nat, n ≤ 4096 →
  runC lib ⟨lo, h.length, 0, none⟩ (.loop b24_0) ([(1, .int .i64 most), (2, .int .i64 c), (8, E), (10, .int .i64 pk), (12, .int .i64 n)], h) = gR es pk most c n h := by
 intro n
 induction n with
 | zero =>
  intro _
  have e : gR es pk most c 0 h = some (.exit 0, ([], h)) := rfl
  rw [e, w_loop]
  simp (maxSteps := 30000000) (disch := omega) only [go_sem, Int.lt_irrefl]
 | succ n ih =>
  intro hn
  have e := ih (by omega)
  obtain ⟨G, hG⟩ : ∃ G : Int, ((n + 1 : Nat) : Int) = G := ⟨_, rfl⟩
  have eG : G - 1 = n := by omega
  have g0 : 0 < G := by omega
  have g1 : 0 ≤ G ∧ G ≤ 4096 := by omega
  have ct := fun lo => counted_run hv hE g1 lo
  have cb := cnt_bound hE G
  have p1 := mul_bd hp g1
  have p2 := mul_bd ⟨cb.2.1, cb.2.2⟩ g1
  have p3 := mul_bd (a := most * 32) (A := 34359738368) (b := ((cntL G es).length : Int)) (B := 72) (by omega) (by omega)
  have ok := okG_split es pk most c G
  have gf : gFind es pk most c (n + 1) = if okG es pk most c G then n + 1 else gFind es pk most c n := by rw [← hG]; rfl
  have hgR : gR es pk most c (n + 1) h = if okG es pk most c G then some (.ret, ([(6, .int .i64 G), (7, .int .i64 0)], h)) else gR es pk most c n h := by
   unfold gR
   rw [gf]
   split
   ·rw [if_neg (by omega), hG]
   ·rfl
  rw [hG, hgR, ok]
  generalize ((cntL G es).length : Int) = N at *
  generalize sumL (cntL G es) = S at *
  have q0 : 0 ≤ most * 32 * N * 1048576 := by omega
  have q1 : 0 ≤ most * 32 * N * 1048576 / G := Int.ediv_nonneg q0 (by omega)
  have q2 : most * 32 * N * 1048576 / G ≤ most * 32 * N * 1048576 := Int.ediv_le_self _ q0
  clear ok gf hgR ih
  rw [w_loop]
  by_cases c1 : c * 1024 < pk * G
  ·rw [decide_eq_false (show ¬ pk * G ≤ c * 1024 by omega), Bool.false_and, if_neg Bool.false_ne_true]
   simp (maxSteps := 30000000) (disch := omega) only [go_sem, g0, c1, eG, e]
  ·rw [decide_eq_true (show pk * G ≤ c * 1024 by omega), Bool.true_and]
   by_cases c2 : S * G ≤ most * 32 * N * 1048576 / G
   ·rw [decide_eq_true c2, if_pos rfl]
    simp (maxSteps := 30000000) (disch := omega) only [go_sem, g0, c1, ct, c2]
   ·rw [decide_eq_false c2, if_neg Bool.false_ne_true]
    simp (maxSteps := 30000000) (disch := omega) only [go_sem, g0, c1, ct, c2, eG, e]
theorem peak_bd {l : List Int} (h : okS l = true) : 0 ≤ peakL l ∧ peakL l ≤ 5242880 := by
 obtain ⟨h1, _, h3⟩ := peakL_is l
 refine ⟨h1, ?_⟩
 rcases h3 with e | ⟨i, hi⟩
 ·omega
 ·have a0 := atL_bd h (i - 1)
  have a1 := atL_bd h i
  have a2 := atL_bd h (i + 1)
  have a3 := atL_bd h (i + 2)
  unfold Hit valL at hi
  omega
theorem inB_t {n a b : Int} (h : a ≤ n ∧ n ≤ b) : inB n a b = true := by unfold inB; rw [decide_eq_true h.1, decide_eq_true h.2]; rfl
theorem ublocks_ok {h : Heap} {v : AV} {l : List Int} (hv : Sl h 1 v (ints l)) (hk : okS l = true) (lo : Nat) : (run lib).fn 13 [v] h lo = some (.tuple [ownV 1 (ints (blocksL l)), .int .i64 0], h) := by
 rw [ublocks_run hv (by have := (okS_mem hk).1; omega), hk, if_pos rfl]
theorem ugain_ok {h : Heap} {v : AV} {l : List Int} (hv : Sl h 1 v (ints l)) (hk : okS l = true) {most c : Int} (hm : 0 ≤ most ∧ most ≤ 1073741824) (hc : 0 ≤ c ∧ c ≤ 8388608) (lo : Nat) :
  (run lib).fn 24 [v, .int .i64 most, .int .i64 c] h lo = some (.tuple [.int .i64 (gainL l most c : Nat), .int .i64 0], h) := by
 have hl : l.length ≤ 9223372036854775807 := by have := (okS_mem hk).1; omega
 have hE := blocks_okE hk
 have bl := fun lo => ublocks_ok hv hk lo
 have pk := fun lo => upeak_run hv hl lo
 rw [hk] at pk
 simp only [if_true] at pk
 have w1 := fun H lo => within_run most 0 1073741824 H lo
 have w2 := fun H lo => within_run c 0 8388608 H lo
 rw [inB_t hm] at w1
 rw [inB_t hc] at w2
 have lp := fun E (s : Sl h 1 E (ints (blocksL l))) lo => gain_loop s hE (peak_bd hk) hm hc lo 4096 (Nat.le_refl _)
 have lp' := lp _ (Sl.lstV h 1 (ints (blocksL l))) h.length
 unfold gR at lp'
 have eg : gFind (blocksL l) (peakL l) most c 4096 = gainL l most c := rfl
 rw [eg] at lp'
 have e4 : ((4096 : Nat) : Int) = 4096 := rfl
 rw [e4] at lp'
 have wk : weak1 (ownV 1 (ints (blocksL l))) = lstV 1 (ints (blocksL l)) := by unfold ownV lstV; split <;> rfl
 rw [run_closed (x := x24) rfl rfl rfl rfl]
 by_cases hz : gainL l most c = 0
 ·rw [hz] at lp' ⊢
  simp only [if_true] at lp'
  simp (maxSteps := 30000000) (disch := omega) only [go_sem, x24, bl, wk, pk, w1, w2, lp']
 ·rw [if_neg hz] at lp'
  simp (maxSteps := 30000000) (disch := omega) only [go_sem, x24, bl, wk, pk, w1, w2, lp']
end Go.VI.Loud
namespace Go.VI.Loud
open Go.VI.Num
/- BIGSTEPS -/
theorem sm21 {z : Int} (h : z.natAbs < 1000000000000000000000) : Fit z := by
 have : (1000000000000000000000 : Nat) = 10 ^ 21 := by decide
 unfold Fit
 rw [this] at h
 exact Nat.lt_of_lt_of_le h (Nat.pow_le_pow_right (by decide) (by decide))
theorem fitQ21 {n d : Int} (hd : d ≠ 0) (hn : n.natAbs < 1000000000000000000000) (hf : d.natAbs < 1000000000000000000000) : FitQ (Rat.divInt n d) := divInt_fit hd (sm21 hn) (sm21 hf)
theorem natAbs_mul_lt {a b : Int} {A B : Nat} (h1 : a.natAbs ≤ A) (h2 : b.natAbs ≤ B) : (a * b).natAbs ≤ A * B := by rw [Int.natAbs_mul]; exact Nat.mul_le_mul h1 h2
theorem mulQ_small {a b : Rat} {A B C D : Nat} (h1 : a.num.natAbs ≤ A) (h2 : b.num.natAbs ≤ B) (h3 : a.den ≤ C) (h4 : b.den ≤ D) (h5 : A * B < 1000000000000000000000) (h6 : C * D < 1000000000000000000000) : mulQ a b = some (a * b) ∧ FitQ (a * b) := by
 have p1 := natAbs_mul_lt h1 h2
 have p2 := natAbs_mul_lt (a := (a.den : Int)) (b := (b.den : Int)) (by rw [Int.natAbs_natCast]; exact h3) (by rw [Int.natAbs_natCast]; exact h4)
 have q := q_mul a b
 have hd : (a.den : Int) * b.den ≠ 0 := den2_ne a b
 unfold mulQ
 generalize a.num * b.num = x at *
 generalize (a.den : Int) * b.den = y at *
 have f1 := sm21 (z := x) (by omega)
 have f2 := sm21 (z := y) (by omega)
 rw [fitZ_t f1, fitZ_t f2]
 refine ⟨rfl, ?_⟩
 rw [← q]; exact divInt_fit hd f1 f2
theorem umeas_ok {h : Heap} {v : AV} {l : List Int} (hv : Sl h 1 v (ints l)) (hk : okS l = true) {g : Int} (hg : 0 ≤ g ∧ g ≤ 4096) (lo : Nat) : (run lib).fn 20 [v, .int .i64 g] h lo = some (.tuple [rt (measQ (blocksL l) g), .int .i64 0], h) := by
 have hl : l.length ≤ 9223372036854775807 := by have := (okS_mem hk).1; omega
 have hE := blocks_okE hk
 have bl := fun fr lo => ublocks_ok (hv.app fr) hk lo
 have w1 := fun H lo => within_run g 0 4096 H lo
 rw [inB_t hg] at w1
 have wk : weak1 (ownV 1 (ints (blocksL l))) = lstV 1 (ints (blocksL l)) := by unfold ownV lstV; split <;> rfl
 have ct := fun H lo => counted_run (Sl.lstV H 1 (ints (blocksL l))) hE hg lo
 have cb := cnt_bound hE g
 have gg := mul_bd hg hg
 have em : measQ (blocksL l) g = Rat.divInt (sumL (cntL g (blocksL l))) (32 * ((max (cntL g (blocksL l)).length 1 : Nat) : Int)) * Rat.divInt (g * g) 1048576 := rfl
 generalize hes : blocksL l = es at *
 obtain ⟨D, hD⟩ : ∃ D : Int, D = 32 * ((max (cntL g es).length 1 : Nat) : Int) := ⟨_, rfl⟩
 have eD : 32 * max ((cntL g es).length : Int) 1 = D := by omega
 rw [← hD] at em
 have o1 := fun H lo => qof_run (n := sumL (cntL g es)) (d := D) (sm21 (by omega)) (sm21 (by omega)) ⟨by omega, by omega⟩ ⟨by omega, by omega⟩ H lo
 have o2 := fun H lo => qof_run (n := g * g) (d := 1048576) (sm21 (by omega)) (sm21 (by omega)) ⟨by omega, by omega⟩ ⟨by omega, by omega⟩ H lo
 unfold makeQ at o1 o2
 rw [if_neg (show ¬ D = 0 by omega)] at o1
 rw [if_neg (show ¬ (1048576 : Int) = 0 by decide)] at o2
 obtain ⟨a1, a2⟩ := divInt_abs (n := sumL (cntL g es)) (d := D) (by omega)
 obtain ⟨b1, b2⟩ := divInt_abs (n := g * g) (d := 1048576) (by decide)
 have fa : FitQ (Rat.divInt (sumL (cntL g es)) D) := fitQ21 (by omega) (by omega) (by omega)
 have fb : FitQ (Rat.divInt (g * g) 1048576) := fitQ21 (by decide) (by omega) (by omega)
 have mq := (mulQ_small (a := Rat.divInt (sumL (cntL g es)) D) (b := Rat.divInt (g * g) 1048576) (A := 2473901162496) (B := 16777216) (C := 2304) (D := 1048576) (by omega) (by omega) (by omega) (by omega) (by decide) (by decide)).1
 have m := fun H lo => qmul_run fa fb H lo
 rw [mq, ← em] at m
 generalize measQ es g = Q at *
 generalize Rat.divInt (sumL (cntL g es)) D = q1 at *
 generalize Rat.divInt (g * g) 1048576 = q2 at *
 generalize sumL (cntL g es) = S at *
 generalize ((cntL g es).length : Int) = N at *
 simp only [resO, rt, frV] at o1 o2 m ⊢
 rw [run_closed (x := x20) rfl rfl rfl rfl]
 simp (maxSteps := 30000000) (disch := omega) only [go_sem, x20, bl, wk, w1, ct, eD, o1, o2, m]
end Go.VI.Loud
namespace Go.VI.Loud
open Go.VI.Num
theorem vpick_run {c n : Int} (hn : 0 < n) (hc : I64 c) (h : Heap) (lo : Nat) : (run lib).fn 32 [.int .i64 c, .int .i64 n] h lo = some (.int .i64 (pkI c n), h) := by
 obtain ⟨h1, h2⟩ := hc
 unfold pkI
 rw [run_closed (x := x32) rfl rfl rfl rfl]
 by_cases c0 : c < 0
 ·rw [if_pos c0]
  simp (maxSteps := 1000000) (disch := omega) only [go_sem, x32, c0]
 ·rw [if_neg c0]
  simp (maxSteps := 1000000) (disch := omega) only [go_sem, x32, c0]
theorem kpick_run {c n : Int} (hn : 0 < n) (hc : I64 c) (h : Heap) (lo : Nat) : (run lib).fn 12 [.int .i64 c, .int .i64 n] h lo = some (.int .i64 (pkI c n), h) := by
 obtain ⟨h1, h2⟩ := hc
 unfold pkI
 rw [run_closed (x := x12) rfl rfl rfl rfl]
 by_cases c0 : c < 0
 ·rw [if_pos c0]
  simp (maxSteps := 1000000) (disch := omega) only [go_sem, x12, c0]
 ·rw [if_neg c0]
  simp (maxSteps := 1000000) (disch := omega) only [go_sem, x12, c0]
theorem vints_loop {h : Heap} {v u : AV} {l m : List Int} (hv : Sl h 1 v (ints l)) (hu : Sl h 1 u (ints m)) (hl : l.length ≤ 9223372036854775807) (hm : l.length = m.length) (lo : Nat) (d : Nat) :
  ∀ k : Nat, d = l.length - k → k ≤ l.length → runC lib ⟨lo, h.length, 0, none⟩ (.loop b19_0) ([(0, v), (1, u), (5, .int .i64 k)], h) = if l.drop k = m.drop k then some (.exit 0, ([], h)) else some (.ret, ([(4, .bool false)], h)) := by
 have lv := lenv_sl hv.len
 rw [ints_len] at lv
 induction d with
 | zero =>
  intro k hd hk
  have : k = l.length := by omega
  subst this
  rw [List.drop_length, hm, List.drop_length, if_pos rfl, ← hm, w_loop]
  simp (maxSteps := 1000000) (disch := omega) only [go_sem, lv, Int.lt_irrefl]
 | succ d ih =>
  intro k hd hk
  have hk' : k < l.length := by omega
  have hkm : k < m.length := by omega
  have h1 : (k : Int) < l.length := by omega
  have e3 : sidx 1 v (.int .i64 k) = some k := by rw [sidx_sl hv (by omega) (by simp; omega)]; simp
  have e4 := fun off => pc_iptr (off := off) hv.elems0 (show k < (ints l).length by simp; omega)
  have f3 : sidx 1 u (.int .i64 k) = some k := by rw [sidx_sl hu (by omega) (by simp; omega)]; simp
  have f4 := fun off => pc_iptr (off := off) hu.elems0 (show k < (ints m).length by simp; omega)
  simp only [ints_get] at e4 f4
  rw [List.drop_eq_getElem_cons hk', List.drop_eq_getElem_cons hkm]
  have e := ih (k + 1) (by omega) (by omega)
  rw [cast1] at e
  rw [w_loop]
  by_cases hx : l[k] = m[k]
  ·simp (maxSteps := 1000000) (disch := omega) only [go_sem, lv, h1, e3, e4, f3, f4, hx, e, List.cons.injEq]
  ·simp (maxSteps := 1000000) (disch := omega) only [go_sem, lv, h1, e3, e4, f3, f4, hx, List.cons.injEq, false_and]
theorem vints_run {h : Heap} {v u : AV} {l m : List Int} (hv : Sl h 1 v (ints l)) (hu : Sl h 1 u (ints m)) (hl : l.length ≤ 9223372036854775807) (lo : Nat) : (run lib).fn 19 [v, u] h lo = some (.bool (decide (l = m)), h) := by
 have lv := lenv_sl hv.len
 have lu := lenv_sl hu.len
 rw [ints_len] at lv lu
 rw [run_closed (x := x19) rfl rfl rfl rfl]
 by_cases h1 : l.length = m.length
 ·have e := vints_loop hv hu hl h1 h.length _ 0 rfl (by omega)
  simp only [Int.natCast_zero, List.drop_zero] at e
  have h2 : (l.length : Int) = m.length := by omega
  by_cases h3 : l = m
  ·rw [if_pos h3] at e
   simp (maxSteps := 1000000) (disch := omega) only [go_sem, x19, lv, lu, h2, e, h3]
  ·rw [if_neg h3] at e
   simp (maxSteps := 1000000) (disch := omega) only [go_sem, x19, lv, lu, h2, e, h3]
 ·have h2 : ¬ (l.length : Int) = m.length := by omega
  have h3 : ¬ l = m := by rintro rfl; exact h1 rfl
  simp (maxSteps := 1000000) (disch := omega) only [go_sem, x19, lv, lu, h2, h3]
theorem app_at {cx : Cx} {s t z lim : Nat} {h fr : Heap} {b0 : Nat × Blk} {es xs : List AV} (hne : es ≠ []) (hlo : cx.lo ≤ h.length + t) (hb : fr[t]? = some (accB b0 z es)) (hl : es.length + xs.length ≤ lim) :
  appv cx s z lim (accV (h.length + t) b0 z es) xs (h ++ fr) = some (accV (h.length + t) b0 z (es ++ xs), h ++ fr.set t (accB b0 z (es ++ xs))) := by
 rw [accB_ne hne] at hb
 rw [accV_ne hne, accV_ne (by simp [hne]), accB_ne (by simp [hne]), app_ref (by rw [get_fr, hb]) hlo hl, set_fr, List.length_append]
theorem made_in {h : Heap} {v : AV} (hv : v.val = true) (i : Int) {a p : Int} (ha : -2000 ≤ a ∧ a ≤ 2000) (hp : 1 ≤ p ∧ p ≤ 5) (es : List Int) (he : es.length ≤ 1000) : ∀ (d k : Nat), k + d = 16 →
  runC lib ⟨h.length, h.length, 2, none⟩ (.loop b11_1) ([(0, v), (3, accV (h.length + 1) (0, .dead) 1 (ints (es ++ mkL a p k))), (4, .int .i64 i), (5, .int .i64 a), (6, .int .i64 p), (7, .int .i64 k)], h ++ [(0, .dead), accB (0, .dead) 1 (ints (es ++ mkL a p k))]) =
   some (.exit 2, ([(0, v), (3, accV (h.length + 1) (0, .dead) 1 (ints (es ++ mkL a p 16))), (4, .int .i64 i)], h ++ [(0, .dead), accB (0, .dead) 1 (ints (es ++ mkL a p 16))])) := by
 intro d
 induction d with
 | zero =>
  intro k hk
  obtain rfl : k = 16 := by omega
  have c16 : ¬ ((16 : Nat) : Int) < 16 := by decide
  rw [w_loop]
  simp (maxSteps := 1000000) (disch := omega) only [go_sem, c16]
 | succ d ih =>
  intro k hk
  have e := ih (k + 1) (by omega)
  rw [mkL_succ, ← List.append_assoc, lint_app, lint_one, cast1] at e
  have h1 : (k : Int) < 16 := by omega
  have q0 : 0 ≤ (k : Int) / p := Int.ediv_nonneg (by omega) (by omega)
  have q1 : (k : Int) / p ≤ k := Int.ediv_le_self p (by omega)
  have hml := mkL_len a p k
  by_cases c : (k : Int) / p % 2 = 1
  ·have k0 : mkL a p k ≠ [] := by
    intro e0
    rw [e0] at hml
    have : k = 0 := by simpa using hml.symm
    subst this
    simp at c
   have hA : ints (es ++ mkL a p k) ≠ [] := by simpa [ints] using fun _ => k0
   have ea : madeAt a p k = -a := if_pos c
   rw [ea] at e
   have e5 := app_at (cx := ⟨h.length, h.length, 2, none⟩) (s := 0) (t := 1) (z := 1) (lim := 17592186044416) (h := h) (fr := [(0, .dead), accB (0, .dead) 1 (ints (es ++ mkL a p k))]) (b0 := (0, .dead)) (es := ints (es ++ mkL a p k)) (xs := [.int .i64 (-a)]) hA (by simp) rfl (by simp [mkL_len]; omega)
   rw [w_loop]
   simp (maxSteps := 1000000) (disch := omega) only [go_sem, h1, c, e5, e]
  ·have ea : madeAt a p k = a := if_neg c
   rw [ea] at e
   have e5 := app_acc (lo := h.length) (ns := 2) (s := 1) (z := 1) (lim := 17592186044416) (h := h) (fr := [(0, .dead), accB (0, .dead) 1 (ints (es ++ mkL a p k))]) (b0 := (0, .dead)) (es := ints (es ++ mkL a p k)) (xs := [.int .i64 a]) (by omega) (by omega) rfl (by simp [mkL_len]; omega)
   rw [w_loop]
   simp (maxSteps := 1000000) (disch := omega) only [go_sem, h1, c, e5, e]
theorem made_out {h : Heap} {v : AV} {xs : List Int} (hv : Sl h 1 v (ints xs)) (hl : xs.length ≤ 9223372036854775807) (hi : ∀ x ∈ xs, I64 x) : ∀ (d i : Nat), i + d = min 12 xs.length →
  runC lib ⟨h.length, h.length, 2, none⟩ (.loop b11_0) ([(0, v), (3, accV (h.length + 1) (0, .dead) 1 (ints (soundL (xs.take i)))), (4, .int .i64 i)], h ++ [(0, .dead), accB (0, .dead) 1 (ints (soundL (xs.take i)))]) =
   some (.exit 0, ([(3, accV (h.length + 1) (0, .dead) 1 (ints (soundL xs)))], h ++ [(0, .dead), accB (0, .dead) 1 (ints (soundL xs))])) := by
 obtain ⟨vv, vc⟩ := Sl_val hv
 have lv := lenv_sl hv.len
 rw [ints_len] at lv
 intro d
 induction d with
 | zero =>
  intro i hd
  obtain rfl : i = min 12 xs.length := by omega
  rw [sound_all, w_loop]
  by_cases h1 : ((min 12 xs.length : Nat) : Int) < xs.length
  ·have h2 : ¬ ((min 12 xs.length : Nat) : Int) < 12 := by omega
   simp (maxSteps := 1000000) (disch := omega) only [go_sem, lv, h1, h2]
  ·simp (maxSteps := 1000000) (disch := omega) only [go_sem, lv, h1]
 | succ d ih =>
  intro i hd
  have hk' : i < xs.length := by omega
  have h12 : i < 12 := by omega
  have h1 : (i : Int) < xs.length := by omega
  have h2 : (i : Int) < 12 := by omega
  have e3 : sidx 1 v (.int .i64 i) = some i := by rw [sidx_sl hv (by omega) (by simp; omega)]; simp
  have e4 := fun off fr => pc_iptr (off := off) (hv.elems fr) (show i < (ints xs).length by simp; omega)
  simp only [ints_get] at e4
  have e := ih (i + 1) (by omega)
  have hx := hi xs[i] (List.getElem_mem _)
  have hml := sound_len (xs.take i)
  rw [sound_take hk' h12, cast1] at e
  generalize xs[i] = x at *
  have p1 := fun H lo => vpick_run (n := 4001) (by decide) hx H lo
  have p2 := fun H lo => vpick_run (n := 3) (by decide) (tdiv64 hx (n := 4001) (by decide)) H lo
  have p3 := fun H lo => vpick_run (n := 5) (by decide) (tdiv64 hx (n := 12003) (by decide)) H lo
  have r1 := pkI_range x (n := 4001) (by decide)
  have hA := madeA_bd x
  have hP := madeP_bd x
  have lp := made_in (h := h) vv i hA hP (soundL (xs.take i)) (by rw [hml]; omega) 16 0 (by omega)
  simp only [mkL, List.range_zero, List.map_nil, List.append_nil, Int.natCast_zero] at lp
  rw [← mkL] at lp
  obtain ⟨t1, t2⟩ := tdiv64 hx (n := 4001) (by decide)
  obtain ⟨t3, t4⟩ := tdiv64 hx (n := 12003) (by decide)
  obtain ⟨x1, x2⟩ := hx
  have t5 := tdiv_small (c := pkI x 4001 - 2000) (n := 200) (b := 2000) (by omega) (by decide)
  have r2 := pkI_range (x.tdiv 12003) (n := 5) (by decide)
  unfold madeP at lp e
  rw [w_loop]
  by_cases c : pkI (x.tdiv 4001) 3 = 0
  ·have eA : madeA x = (pkI x 4001 - 2000).tdiv 200 := if_pos c
   rw [eA] at lp e
   simp (maxSteps := 1000000) (disch := omega) only [go_sem, lv, h1, h2, e3, e4, p1, p2, p3, c, lp, e]
  ·have eA : madeA x = pkI x 4001 - 2000 := if_neg c
   rw [eA] at lp e
   simp (maxSteps := 1000000) (disch := omega) only [go_sem, lv, h1, h2, e3, e4, p1, p2, p3, c, lp, e]
theorem made_run {h : Heap} {v : AV} {xs : List Int} (hv : Sl h 1 v (ints xs)) (hl : xs.length ≤ 9223372036854775807) (hi : ∀ x ∈ xs, I64 x) (lo : Nat) :
  (run lib).fn 11 [v] h lo = some (ownV 1 (ints (soundL xs)), h) := by
 have e := made_out hv hl hi _ 0 (Nat.zero_add _)
 have e0 : soundL (xs.take 0) = [] := rfl
 simp only [Int.natCast_zero, e0, ints, List.map_nil, accV_nil, accB_nil] at e
 have e2 := giveRes_acc (s := 1) (z := 1) (h := h) (fr := [(0, .dead), accB (0, .dead) 1 (ints (soundL xs))]) (b0 := (0, .dead)) (es := ints (soundL xs)) rfl
 simp only [ints] at e2 ⊢
 rw [run_closed (x := x11) rfl rfl rfl rfl]
 simp (maxSteps := 1000000) (disch := omega) only [go_sem, x11, e, e2]
end Go.VI.Loud
namespace Go.VI.Loud
open Go.VI.Num
/- BIGSTEPS -/
def exAt (k : Nat) : Int := if (k : Int) < 32 then 10 else 0
def exN (n : Nat) : List Int := (List.range n).map exAt
theorem exN_len (n : Nat) : (exN n).length = n := by simp [exN]
theorem exN_succ (n : Nat) : exN (n + 1) = exN n ++ [exAt n] := by
 unfold exN; rw [List.range_succ, List.map_append]; rfl
theorem ex_loop (h : Heap) : ∀ (d k : Nat), k + d = 40 →
  runC lib ⟨h.length, h.length, 2, none⟩ (.loop b31_0) ([(1, accV (h.length + 0) (0, .dead) 1 (ints (exN k))), (2, .int .i64 k)], h ++ [accB (0, .dead) 1 (ints (exN k)), (0, .dead)]) =
   some (.exit 0, ([(1, accV (h.length + 0) (0, .dead) 1 (ints (exN 40)))], h ++ [accB (0, .dead) 1 (ints (exN 40)), (0, .dead)])) := by
 intro d
 induction d with
 | zero =>
  intro k hk
  obtain rfl : k = 40 := by omega
  have c40 : ¬ ((40 : Nat) : Int) < 40 := by decide
  rw [w_loop]
  simp (maxSteps := 30000000) (disch := omega) only [go_sem, c40]
 | succ d ih =>
  intro k hk
  have e := ih (k + 1) (by omega)
  rw [exN_succ, lint_app, lint_one, cast1] at e
  have h1 : (k : Int) < 40 := by omega
  have hml := exN_len k
  by_cases c : (k : Int) < 32
  ·have ea : exAt k = 10 := if_pos c
   rw [ea] at e
   have e5 := app_acc (lo := h.length) (ns := 2) (s := 0) (z := 1) (lim := 17592186044416) (h := h) (fr := [accB (0, .dead) 1 (ints (exN k)), (0, .dead)]) (b0 := (0, .dead)) (es := ints (exN k)) (xs := [.int .i64 10]) (by omega) (by omega) rfl (by simp [exN_len]; omega)
   rw [w_loop]
   simp (maxSteps := 30000000) (disch := omega) only [go_sem, h1, c, e5, e]
  ·have ea : exAt k = 0 := if_neg c
   rw [ea] at e
   have hA : ints (exN k) ≠ [] := by
    intro e0
    have := congrArg List.length e0
    simp [ints_len, hml] at this
    omega
   have e5 := app_at (cx := ⟨h.length, h.length, 2, none⟩) (s := 1) (t := 0) (z := 1) (lim := 17592186044416) (h := h) (fr := [accB (0, .dead) 1 (ints (exN k)), (0, .dead)]) (b0 := (0, .dead)) (es := ints (exN k)) (xs := [.int .i64 0]) hA (by simp) rfl (by simp [exN_len]; omega)
   rw [w_loop]
   simp (maxSteps := 30000000) (disch := omega) only [go_sem, h1, c, e5, e]
theorem ex_run (h : Heap) (lo : Nat) : (run lib).fn 31 [] h lo = some (ownV 1 (ints (exN 40)), h) := by
 have e := ex_loop h 40 0 rfl
 have e0 : exN 0 = [] := rfl
 simp only [Int.natCast_zero, e0, ints, List.map_nil, accV_nil, accB_nil] at e
 have e2 := giveRes_acc (s := 0) (z := 1) (h := h) (fr := [accB (0, .dead) 1 (ints (exN 40)), (0, .dead)]) (b0 := (0, .dead)) (es := ints (exN 40)) rfl
 simp only [ints] at e2 ⊢
 rw [run_closed (x := x31) rfl rfl rfl rfl]
 simp (maxSteps := 30000000) (disch := omega) only [go_sem, x31, e, e2]
theorem eq_fr (n : Bool) (s t u v : List UInt8) : eqvv n [.s, .s] (.agg [.str s, .str t]) (.agg [.str u, .str v]) = some (.bool (if n then !((s == u) && (t == v)) else ((s == u) && (t == v)))) := by
 rw [eqv_agg (by simp) rfl rfl]
 simp [eqL, eq1]
theorem eq_id (s t : List UInt8) : eqvv false [.s, .s] (.agg [.str s, .str t]) (.agg [.str s, .str t]) = some (.bool true) := by
 rw [eq_fr]; simp
theorem ex_ok : okS (exN 40) = true := by kernel_rfl
theorem ex_bl : blocksL (exN 40) = [3200, 2400] := by kernel_rfl
theorem ex_pk : peakL (exN 40) = 1370 := by kernel_rfl
theorem ex_g1 : gainL (exN 40) 350 8388608 = 2048 := by unfold gainL; rw [ex_bl, ex_pk]; kernel_rfl
theorem ex_g2 : gainL (exN 40) 1073741824 1369 = 1023 := by unfold gainL; rw [ex_bl, ex_pk]; kernel_rfl
theorem ex_g3 : gainL (exN 40) 0 8388608 = 323 := by unfold gainL; rw [ex_bl, ex_pk]; kernel_rfl
theorem ex_m1 : rt (measQ (blocksL (exN 40)) 1024) = .agg [.str [49, 55, 53], .str [50]] := by rw [ex_bl]; kernel_rfl
theorem ex_m2 : rt (measQ (blocksL (exN 40)) 2048) = .agg [.str [51, 53, 48], .str [49]] := by rw [ex_bl]; kernel_rfl
theorem ex_m3 : rt (measQ (blocksL (exN 40)) 323) = .agg [.str [48], .str [49]] := by rw [ex_bl]; kernel_rfl
theorem ex_gt : iL (gateL 1024 [9600, 2400, 319, 320]) = [0, 1] := by kernel_rfl
theorem ksane_run (h : Heap) (lo : Nat) : (run lib).fn 10 [] h lo = some (.bool true, h) := by
 have e := fun H lo => ex_run H lo
 obtain ⟨E, hE⟩ : ∃ E, E = ownV 1 (ints (exN 40)) := ⟨_, rfl⟩
 have sl := fun H => Sl.lst H 1 (ints (exN 40))
 have eo : ownV 1 (ints (exN 40)) = .own 1 (ints (exN 40)) := rfl
 have bl := fun H lo => ublocks_ok (sl H) ex_ok lo
 have m1 := fun H lo => umeas_ok (sl H) ex_ok (g := 1024) (by decide) lo
 have m2 := fun H lo => umeas_ok (sl H) ex_ok (g := 2048) (by decide) lo
 have m3 := fun H lo => umeas_ok (sl H) ex_ok (g := 323) (by decide) lo
 have g1 := fun H lo => ugain_ok (sl H) ex_ok (most := 350) (c := 8388608) (by decide) (by decide) lo
 have g2 := fun H lo => ugain_ok (sl H) ex_ok (most := 1073741824) (c := 1369) (by decide) (by decide) lo
 have g3 := fun H lo => ugain_ok (sl H) ex_ok (most := 0) (c := 8388608) (by decide) (by decide) lo
 have pk := fun H lo => upeak_run (sl H) (by rw [exN_len]; omega) lo
 have vx := fun H lo => uvalid_run (sl H) (by rw [exN_len]; omega) lo
 have vy := fun H lo => uvalid_run (Sl.lsf H 1 (ints [40000])) (by decide) lo
 obtain ⟨V, W, gt1, gt2, gt3⟩ := ugate_ok (h := h ++ [(0, .dead), (0, .dead), (0, .dead)]) (Sl.lsf (h ++ [(0, .dead), (0, .dead), (0, .dead)]) 1 (ints [9600, 2400, 319, 320])) (show okE [9600, 2400, 319, 320] from okEB_E.mp (by kernel_rfl)) (g := 1024) (by decide) h.length
 rw [ex_m1] at m1
 rw [ex_m2] at m2
 rw [ex_m3] at m3
 rw [ex_bl] at bl
 rw [ex_g1, show ((2048 : Nat) : Int) = 2048 from rfl] at g1
 rw [ex_g2, show ((1023 : Nat) : Int) = 1023 from rfl] at g2
 rw [ex_g3, show ((323 : Nat) : Int) = 323 from rfl] at g3
 rw [ex_gt] at gt3
 rw [ex_ok, ex_pk] at pk
 rw [ex_ok] at vx
 have k4 : okS [40000] = false := by kernel_rfl
 rw [k4] at vy
 have gb := fun H lo => ugate_bad (Sl.nil H 1) (es := []) (by decide) (g := 4097) (by kernel_rfl) lo
 have bo : ownV 1 (ints [3200, 2400]) = .own 1 (ints [3200, 2400]) := rfl
 have i1 := fun H lo => vints_run (Sl.lst H 1 (ints [3200, 2400])) (Sl.lsf H 1 (ints [3200, 2400])) (by decide) lo
 rw [eo] at e
 rw [bo] at bl
 generalize ints (exN 40) = X at *
 have i2 := fun H lo => vints_run (gt3.sl H) (Sl.lsf H 1 (ints [0, 1])) (by decide) lo
 simp only [ints, List.map_cons, List.map_nil] at bl gt1 vy gb i1 i2
 rw [run_closed (x := x10) rfl rfl rfl rfl]
 simp (maxSteps := 30000000) (disch := omega) only [go_sem, x10, e, bl, gt1, gt2, m1, m2, m3, g1, g2, g3, pk, vx, vy, gb, i1, i2, eq_id]
end Go.VI.Loud
