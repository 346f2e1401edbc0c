/- What the functions on integers compute, part MX. -/
import Derived.Test.YtclgoccpkgikkaaGreatDoorLoudTab
import Derived.Test.YtclgoccpkgikkaaGreatDoorVGS
import Derived.Test.YtclgoccpkgikkaaGreatDoorLoudMG
set_option linter.unusedVariables false
set_option linter.unusedSimpArgs false
namespace Go.VI.Loud.Mx
def ints (l : List Int) : List AV := l.map (.int .i64)
def pt (p : Int × Int) : AV := .agg [.int .i64 p.1, .int .i64 p.2]
def pts (l : List (Int × Int)) : List AV := l.map pt
def pickS (c n : Int) : Int := (if c < 0 then -(c + 1) else c) % n
@[simp] theorem ints_len (l : List Int) : (ints l).length = l.length := by simp [ints]
@[simp] theorem pts_len (l : List (Int × Int)) : (pts l).length = l.length := by simp [pts]
theorem ints_get (l : List Int) (k : Nat) (h : k < (ints l).length) : (ints l)[k] = .int .i64 (l[k]'(by simpa using h)) := by simp [ints]
theorem pts_get (l : List (Int × Int)) (k : Nat) (h : k < (pts l).length) : (pts l)[k] = pt (l[k]'(by simpa using h)) := by simp [pts]
theorem between_run (n a b : Int) (h : Heap) (lo : Nat) : (run lib).fn 105 [.int .i64 n, .int .i64 a, .int .i64 b] h lo = some (.bool (decide (a ≤ n) && decide (n ≤ b)), h) := by
 rw [run_closed (x := x105) rfl rfl rfl rfl]
 by_cases h1 : a ≤ n <;> simp only [go_sem, x105, h1]
theorem ceil_neg {a b : Int} (hb : 0 < b) : -((-a + b - 1) / b) = a / b := by
 have h1 := Int.emod_add_mul_ediv a b
 have h2 := Int.emod_nonneg a (show b ≠ 0 by omega)
 have h3 := Int.emod_lt_of_pos a hb
 have : (-a + b - 1) / b = -(a / b) := by
  rw [Int.ediv_eq_iff_of_pos hb]
  rw [Int.neg_mul, Int.mul_comm (a / b) b]
  omega
 omega
theorem down_run (a b : Int) (h : Heap) (lo : Nat) (ha : -1000000000000 ≤ a) (ha' : a ≤ 1000000000000) (hb : 0 < b) (hb' : b ≤ 1000000000000) : (run lib).fn 73 [.int .i64 a, .int .i64 b] h lo = some (.int .i64 (a / b), h) := by
 rw [run_closed (x := x73) rfl rfl rfl rfl]
 by_cases h1 : a < 0
 ·have h2 : 0 ≤ (-a + b - 1) / b := Int.ediv_nonneg (by omega) (by omega)
  have h3 : (-a + b - 1) / b ≤ -a + b - 1 := Int.ediv_le_self _ (by omega)
  simp (maxSteps := 1000000) (disch := omega) only [go_sem, x73, h1]
  rw [ceil_neg hb]
 ·have h2 : 0 ≤ a / b := Int.ediv_nonneg (by omega) (by omega)
  have h3 : a / b ≤ a := Int.ediv_le_self _ (by omega)
  simp (maxSteps := 1000000) (disch := omega) only [go_sem, x73, h1]
def curveB (last : Int) : List (Int × Int) → Bool
 | [] => true
 | p :: r => (decide (last + 1 ≤ p.1) && decide (p.1 ≤ 599)) && (decide (0 ≤ p.2) && decide (p.2 ≤ 4096)) && curveB p.1 r
theorem cast1 (k : Nat) : ((k + 1 : Nat) : Int) = (k : Int) + 1 := by simp
theorem curve_loop {h : Heap} {v : AV} {l : List (Int × Int)} (hv : Sl h 2 v (pts l)) (hl : l.length ≤ 9223372036854775807) (last : Int) (hlast : -1 ≤ last) (hlast' : last ≤ 599) (k : Nat) (hk : k ≤ l.length) (v0 : Nat) (b0 : Blk) :
  ∃ fr, runC lib ⟨h.length, h.length, 1, none⟩ (.loop b104_0) ([(0, v), (3, .int .i64 last), (6, v), (7, .int .i64 l.length), (8, .int .i64 k)], h ++ [(v0, b0)]) =
   if curveB last (l.drop k) = true then some (.exit 0, ([(0, v)], h ++ fr)) else some (.ret, ([(2, .bool false)], h ++ fr)) := by
 obtain ⟨d, hd⟩ : ∃ d, d = l.length - k := ⟨_, rfl⟩
 induction d generalizing k last v0 b0 with
 | zero =>
  have : k = l.length := by omega
  subst this
  refine ⟨[(v0, b0)], ?_⟩
  rw [w_loop]
  simp (maxSteps := 1000000) (disch := omega) only [go_sem, Int.lt_irrefl, List.drop_length, curveB]
 | succ d ih =>
  have hk' : k < l.length := by omega
  have e3 : sidx 2 v (.int .i64 k) = some k := by rw [sidx_sl hv (by omega) (by simp; omega)]; simp
  have e4 := pc_iptr (off := 0) (hv.elems [(v0, b0)]) (show k < (pts l).length by simp; omega)
  rw [pts_get] at e4
  rw [List.drop_eq_getElem_cons hk']
  have e5 : ((k : Int) < l.length) := by omega
  obtain ⟨p, hp⟩ : ∃ p, p = l[k] := ⟨_, rfl⟩
  rw [← hp] at e4 ⊢
  simp only [pt] at e4
  cases h1 : (decide (last + 1 ≤ p.1) && decide (p.1 ≤ 599)) with
  | false =>
   refine ⟨[(v0 + 1, .box [.int .i64 p.1, .int .i64 p.2])], ?_⟩
   rw [w_loop]
   simp (maxSteps := 1000000) (disch := omega) only [go_sem, e3, e4, e5, between_run, h1, curveB]
  | true =>
   simp only [Bool.and_eq_true, decide_eq_true_eq] at h1
   cases h2 : (decide (0 ≤ p.2) && decide (p.2 ≤ 4096)) with
   | false =>
    refine ⟨[(v0 + 1, .box [.int .i64 p.1, .int .i64 p.2])], ?_⟩
    rw [w_loop]
    simp (maxSteps := 1000000) (disch := omega) only [go_sem, e3, e4, e5, between_run, h1, h2, curveB]
   | true =>
    obtain ⟨fr, e⟩ := ih p.1 (by omega) (by omega) (k + 1) (by omega) (v0 + 1) (.box [.int .i64 p.1, .int .i64 p.2]) (by omega)
    rw [cast1] at e
    refine ⟨fr, ?_⟩
    rw [w_loop]
    simp (maxSteps := 1000000) (disch := omega) only [go_sem, e3, e4, e5, between_run, h1, h2, curveB, e]
theorem curve_run {h : Heap} {v : AV} {l : List (Int × Int)} (hv : Sl h 2 v (pts l)) (hl : l.length ≤ 9223372036854775807) (lo : Nat) : (run lib).fn 104 [v] h lo = some (.bool (curveB (-1) l && decide ((l.length : Int) ≤ 12)), h) := by
 obtain ⟨fr, e⟩ := curve_loop hv hl (-1) (by omega) (by omega) 0 (by omega) 0 .dead
 rw [Int.natCast_zero, List.drop_zero] at e
 rw [run_closed (x := x104) rfl rfl rfl rfl]
 cases hb : curveB (-1) l <;> rw [hb] at e <;> simp (maxSteps := 1000000) (disch := omega) only [go_sem, x104, lenv_sl hv.len, pts_len, e]
def curvedS (at' : Int) : List (Int × Int) → List (Int × Int)
 | [] => []
 | x :: r => (at' + 1 + pickS x.1 12, pickS x.2 4097) :: curvedS (at' + 1 + pickS x.1 12) r
def okI (n : Int) : Prop := -9223372036854775808 ≤ n ∧ n ≤ 9223372036854775807
theorem gain1_run (p : Int × Int) (t : Int) (h : Heap) (lo : Nat) (h1 : -1000000000 ≤ p.1) (h2 : p.1 ≤ 1000000000) (h3 : -1000000000 ≤ t) (h4 : t ≤ 1000000000) :
  (run lib).fn 107 [.agg [.int .i64 p.1, .int .i64 p.2], .int .i64 t] h lo = some (.int .i64 (p.1 - t), h) := by
 rw [run_closed (x := x107) rfl rfl rfl rfl]
 simp (maxSteps := 1000000) (disch := omega) only [go_sem, x107]
def okP (p : Int × Int) : Prop := 0 ≤ p.1 ∧ p.1 ≤ 599 ∧ 0 ≤ p.2 ∧ p.2 ≤ 4096
theorem bs_loop {h : Heap} {v : AV} {l : List (Int × Int)} (hv : Sl h 2 v (pts l)) (hl : l.length ≤ 1000) (hp : ∀ p ∈ l, okP p) (t : Int) (ht : 0 ≤ t) (ht' : t ≤ 1000) (r : Nat) (hr : ∀ x (hx : x < l.length), l[x].1 < t ↔ x < r) (lo : Nat) (d : Nat) :
  ∀ (i j : Nat), d = j - i → i ≤ r → r ≤ j → j ≤ l.length →
  runC lib ⟨lo, h.length, 0, none⟩ (.loop b106_0) ([(0, v), (1, .int .i64 t), (2, .fn 107 []), (8, .int .i64 l.length), (9, .int .i64 i), (10, .int .i64 j)], h) =
   some (.exit 0, ([(0, v), (1, .int .i64 t), (2, .fn 107 []), (8, .int .i64 l.length), (9, .int .i64 r)], h)) := by
 induction d using Nat.strongRecOn with
 | _ d ih =>
  intro i j hd h1 h2 h3
  rw [w_loop]
  by_cases hij : i < j
  ·have c1 : (i : Int) < j := by omega
   obtain ⟨m, hm⟩ : ∃ m, m = (i + j) / 2 := ⟨_, rfl⟩
   have hm' : ((i : Int) + j) / 2 = (m : Int) := by omega
   have hml : m < l.length := by omega
   have e3 : sidx 2 v (.int .i64 m) = some m := by rw [sidx_sl hv (by omega) (by simp; omega)]; simp
   have e4 := pc_iptr (off := 0) hv.elems0 (show m < (pts l).length by simp; omega)
   simp only [pts_get, pt] at e4
   have q := hp _ (List.getElem_mem hml)
   have q2 := hr m hml
   obtain ⟨p, hp⟩ : ∃ p, p = l[m] := ⟨_, rfl⟩
   rw [← hp] at e4 q q2
   obtain ⟨q3, q4, q5, q6⟩ := q
   by_cases hlt : p.1 < t
   ·have c2 : p.1 - t < 0 := by omega
    have hmr := q2.mp hlt
    have e := ih (j - (m + 1)) (by omega) (m + 1) j rfl (by omega) h2 h3
    rw [cast1] at e
    simp (maxSteps := 1000000) (disch := omega) only [go_sem, c1, hm', e3, e4, gain1_run, c2, e]
   ·have c2 : ¬ p.1 - t < 0 := by omega
    have hmr := mt q2.mpr hlt
    have e := ih (m - i) (by omega) i m rfl h1 (by omega) (by omega)
    simp (maxSteps := 1000000) (disch := omega) only [go_sem, c1, hm', e3, e4, gain1_run, c2, e]
  ·have c1 : ¬ (i : Int) < j := by omega
   have : i = r := by omega
   subst this
   simp (maxSteps := 1000000) (disch := omega) only [go_sem, c1]
theorem bs_run {h : Heap} {v : AV} {l : List (Int × Int)} (hv : Sl h 2 v (pts l)) (hl : l.length ≤ 1000) (hp : ∀ p ∈ l, okP p) (t : Int) (ht : 0 ≤ t) (ht' : t ≤ 1000) (r : Nat) (hr : ∀ x (hx : x < l.length), l[x].1 < t ↔ x < r) (hrl : r ≤ l.length) (lo : Nat) :
  (run lib).fn 106 [v, .int .i64 t, .fn 107 []] h lo = some (.tuple [.int .i64 r, .bool (if hx : r < l.length then decide (l[r].1 = t) else false)], h) := by
 have e := bs_loop hv hl hp t ht ht' r hr h.length _ 0 l.length rfl (by omega) hrl (by omega)
 rw [Int.natCast_zero] at e
 rw [run_closed (x := x106) rfl rfl rfl rfl]
 by_cases hx : r < l.length
 ·have c1 : (r : Int) < l.length := by omega
  have e3 : sidx 2 v (.int .i64 r) = some r := by rw [sidx_sl hv (by omega) (by simp; omega)]; simp
  have e4 := pc_iptr (off := 0) hv.elems0 (show r < (pts l).length by simp; omega)
  simp only [pts_get, pt] at e4
  have q := hp _ (List.getElem_mem hx)
  rw [dif_pos hx]
  obtain ⟨p, hp⟩ : ∃ p, p = l[r] := ⟨_, rfl⟩
  rw [← hp] at e4 q ⊢
  obtain ⟨q3, q4, q5, q6⟩ := q
  have c2 : decide (p.1 - t = 0) = decide (p.1 = t) := by rw [decide_eq_decide]; omega
  simp (maxSteps := 1000000) (disch := omega) only [go_sem, x106, lenv_sl hv.len, pts_len, e, c1, e3, e4, gain1_run, c2]
 ·have c1 : ¬ (r : Int) < l.length := by omega
  rw [dif_neg hx]
  simp (maxSteps := 1000000) (disch := omega) only [go_sem, x106, lenv_sl hv.len, pts_len, e, c1]
end Go.VI.Loud.Mx
namespace Go.VI.Loud.Mx
theorem mul_bd {x y A B : Int} (h1 : -A ≤ x) (h2 : x ≤ A) (h3 : 0 ≤ y) (h4 : y ≤ B) : -(A * B) ≤ x * y ∧ x * y ≤ A * B := by
 have hA : 0 ≤ A := by omega
 have a := Int.mul_le_mul_of_nonneg_right h2 h3
 have b := Int.mul_le_mul_of_nonneg_left h4 hA
 have c := Int.mul_le_mul_of_nonneg_right h1 h3
 rw [Int.neg_mul] at c
 omega
theorem ediv_bd {x b M : Int} (hb : 0 < b) (h1 : -M ≤ x) (h2 : x ≤ M) (hM : 0 ≤ M) : -M ≤ x / b ∧ x / b ≤ M := by
 constructor
 ·rw [Int.le_ediv_iff_mul_le hb]
  have := Int.mul_le_mul_of_nonneg_left (show 1 ≤ b by omega) hM
  rw [Int.neg_mul]; omega
 ·have : x / b < M + 1 := by
   rw [Int.ediv_lt_iff_lt_mul hb]
   have := Int.mul_le_mul_of_nonneg_left (show 1 ≤ b by omega) (show 0 ≤ M + 1 by omega)
   omega
  omega
def gainFrom (a : Int × Int) : List (Int × Int) → Int → Int
 | [], _ => a.2
 | b :: r, t => if t < b.1 then a.2 + (b.2 - a.2) * (t - a.1) / (b.1 - a.1) else gainFrom b r t
def gainS : List (Int × Int) → Int → Int
 | [], _ => 1024
 | p :: r, t => if t ≤ p.1 then p.2 else gainFrom p r t
structure Crv (l : List (Int × Int)) : Prop where
 ok : ∀ p ∈ l, okP p
 up : l.Pairwise fun p q => p.1 < q.1
theorem curveB_crv : ∀ {l : List (Int × Int)} {last : Int}, curveB last l = true → -1 ≤ last → Crv l ∧ ∀ p ∈ l, last < p.1
 | [], last, _, _ => ⟨⟨by simp, by simp⟩, by simp⟩
 | p :: r, last, h, hl => by
  simp only [curveB, Bool.and_eq_true, decide_eq_true_eq] at h
  obtain ⟨⟨⟨h1, h2⟩, h3, h4⟩, h5⟩ := h
  obtain ⟨⟨c1, c2⟩, c3⟩ := curveB_crv h5 (by omega)
  refine ⟨⟨fun q hq => ?_, ?_⟩, fun q hq => ?_⟩
  ·rcases List.mem_cons.mp hq with rfl | hq
   ·exact ⟨by omega, h2, h3, h4⟩
   ·exact c1 q hq
  ·exact List.pairwise_cons.mpr ⟨c3, c2⟩
  ·rcases List.mem_cons.mp hq with rfl | hq
   ·omega
   ·have := c3 q hq; omega
def cntS (l : List (Int × Int)) (t : Int) : Nat := (l.takeWhile fun p => decide (p.1 < t)).length
theorem cntS_le (l : List (Int × Int)) (t : Int) : cntS l t ≤ l.length := by unfold cntS; exact (List.takeWhile_prefix _).length_le
theorem cntS_iff : ∀ {l : List (Int × Int)} (t : Int), Crv l → ∀ x (hx : x < l.length), l[x].1 < t ↔ x < cntS l t
 | [], t, _, x, hx => by simp at hx
 | p :: r, t, ⟨c1, c2⟩, x, hx => by
  obtain ⟨h1, h2⟩ := List.pairwise_cons.mp c2
  unfold cntS
  by_cases hp : p.1 < t
  ·rw [List.takeWhile_cons_of_pos (by simpa using hp)]
   cases x with
   | zero => simpa using hp
   | succ x =>
    have := cntS_iff (l := r) t ⟨fun q hq => c1 q (by simp [hq]), h2⟩ x (by simpa using hx)
    simpa [cntS] using this
  ·rw [List.takeWhile_cons_of_neg (by simpa using hp)]
   cases x with
   | zero => simpa using hp
   | succ x =>
    have := h1 _ (List.getElem_mem (show x < r.length by simpa using hx))
    simp only [List.getElem_cons_succ, List.length_nil, Nat.not_lt_zero, iff_false]
    omega
theorem gainFrom_hit {a : Int × Int} {r : List (Int × Int)} (hc : Crv (a :: r)) : gainFrom a r a.1 = a.2 := by
 cases r with
 | nil => rfl
 | cons b r =>
  have := (List.pairwise_cons.mp hc.up).1 b (by simp)
  simp [gainFrom, this]
theorem gainFrom_at : ∀ (r : List (Int × Int)) (a : Int × Int) (t : Int), Crv (a :: r) → a.1 < t →
  gainFrom a r t = (if hx : cntS r t < r.length then (if r[cntS r t].1 = t then r[cntS r t].2 else
   let p := (a :: r)[cntS r t]'(by simp; omega)
   p.2 + (r[cntS r t].2 - p.2) * (t - p.1) / (r[cntS r t].1 - p.1)) else ((a :: r)[r.length]'(by simp)).2)
 | [], a, t, _, _ => by simp [gainFrom]
 | b :: r, a, t, hc, ha => by
  obtain ⟨c1, c2⟩ := hc
  have hcb : Crv (b :: r) := ⟨fun q hq => c1 q (by simp [hq]), (List.pairwise_cons.mp c2).2⟩
  unfold gainFrom
  by_cases hb : b.1 < t
  ·rw [if_neg (by omega), gainFrom_at r b t hcb hb]
   have e : cntS (b :: r) t = cntS r t + 1 := by unfold cntS; rw [List.takeWhile_cons_of_pos (by simpa using hb)]; rfl
   simp only [e, List.length_cons, Nat.add_lt_add_iff_right, List.getElem_cons_succ]
  ·have e : cntS (b :: r) t = 0 := by unfold cntS; rw [List.takeWhile_cons_of_neg (by simpa using hb)]; rfl
   simp only [e, List.length_cons, Nat.zero_lt_succ, dif_pos, List.getElem_cons_zero]
   by_cases h2 : b.1 = t
   ·subst h2
    rw [if_neg (by omega), if_pos rfl, gainFrom_hit hcb]
   ·rw [if_pos (by omega), if_neg h2]
theorem gainS_at {l : List (Int × Int)} (hc : Crv l) (t : Int) (h0 : l ≠ []) :
  gainS l t = if hx : cntS l t < l.length then (if l[cntS l t].1 = t ∨ cntS l t = 0 then l[cntS l t].2 else
   (l[cntS l t - 1]'(by omega)).2 + (l[cntS l t].2 - (l[cntS l t - 1]'(by omega)).2) * (t - (l[cntS l t - 1]'(by omega)).1) / (l[cntS l t].1 - (l[cntS l t - 1]'(by omega)).1))
   else (l[l.length - 1]'(by have := List.length_pos_iff.mpr h0; omega)).2 := by
 cases l with
 | nil => exact absurd rfl h0
 | cons a r =>
  simp only [gainS]
  by_cases ha : a.1 < t
  ·rw [if_neg (by omega), gainFrom_at r a t hc ha]
   have e : cntS (a :: r) t = cntS r t + 1 := by unfold cntS; rw [List.takeWhile_cons_of_pos (by simpa using ha)]; rfl
   simp [e]
  ·rw [if_pos (by omega)]
   have e : cntS (a :: r) t = 0 := by unfold cntS; rw [List.takeWhile_cons_of_neg (by simpa using ha)]; rfl
   simp [e]
theorem gain_run {h : Heap} {v : AV} {l : List (Int × Int)} (hv : Sl h 2 v (pts l)) (hl : l.length ≤ 1000) (hc : Crv l) (t : Int) (ht : 0 ≤ t) (ht' : t ≤ 1000) (lo : Nat) :
  (run lib).fn 72 [v, .int .i64 t] h lo = some (.int .i64 (gainS l t), h) := by
 by_cases h0 : l = []
 ·subst h0
  rw [run_closed (x := x72) rfl rfl rfl rfl]
  simp (maxSteps := 1000000) (disch := omega) only [go_sem, x72, lenv_sl hv.len, pts_len, List.length_nil, gainS, Int.natCast_zero]
 ·rw [gainS_at hc t h0]
  have hpos := List.length_pos_iff.mpr h0
  obtain ⟨r, hr⟩ : ∃ r, r = cntS l t := ⟨_, rfl⟩
  have hrl := cntS_le l t
  have hri := cntS_iff t hc
  have hbs := fun fr lo => bs_run (hv.app fr) hl hc.ok t ht ht' (cntS l t) hri hrl lo
  rw [run_closed (x := x72) rfl rfl rfl rfl]
  rw [← hr] at hrl hbs
  simp only [← hr]
  have c0 : ¬ (l.length : Int) = 0 := by omega
  by_cases hx : r < l.length
  ·rw [dif_pos hx]
   have e3 : sidx 2 v (.int .i64 r) = some r := by rw [sidx_sl hv (by omega) (by simp; omega)]; simp
   have e4 := fun off fr => pc_iptr (off := off) (hv.elems fr) (show r < (pts l).length by simp; omega)
   simp only [pts_get, pt] at e4
   by_cases h1 : l[r].1 = t
   ·rw [if_pos (.inl h1)]
    simp only [dif_pos hx, h1, decide_true] at hbs
    simp (maxSteps := 1000000) (disch := omega) only [go_sem, x72, lenv_sl hv.len, pts_len, c0, hbs, e3, e4]
   ·by_cases h2 : r = 0
    ·rw [if_pos (.inr h2)]
     simp only [dif_pos hx, h1, decide_false] at hbs
     have c1 : ((r : Int) = 0) := by omega
     simp (maxSteps := 1000000) (disch := omega) only [go_sem, x72, lenv_sl hv.len, pts_len, c0, hbs, e3, e4, c1]
     subst h2
     rw [c1] at e3
     simp (maxSteps := 1000000) (disch := omega) only [go_sem, e3, e4]
    ·rw [if_neg (by rintro (h | h) <;> contradiction)]
     simp only [dif_pos hx, h1, decide_false] at hbs
     have c1 : ¬ ((r : Int) = 0) := by omega
     have c2 : ¬ ((r : Int) = l.length) := by omega
     obtain ⟨q, hq⟩ : ∃ q, r = q + 1 := ⟨r - 1, by omega⟩
     have hql : q < l.length := by omega
     have f3 : sidx 2 v (.int .i64 ((r : Int) - 1)) = some q := by rw [sidx_sl hv (by omega) (by simp; omega)]; simp; omega
     have f4 := fun off fr => pc_iptr (off := off) (hv.elems fr) (show q < (pts l).length by simp; omega)
     simp only [pts_get, pt] at f4
     have o1 := hc.ok _ (List.getElem_mem hx)
     have o2 := hc.ok _ (List.getElem_mem hql)
     have i1 := hri q hql
     have i2 := hri r hx
     have u := List.pairwise_iff_getElem.mp hc.up q r hql hx (by omega)
     have eq : l[r - 1]'(by omega) = l[q] := by congr 1; omega
     rw [eq]
     obtain ⟨b, hb⟩ : ∃ b, b = l[r] := ⟨_, rfl⟩
     obtain ⟨a, ha⟩ : ∃ a, a = l[q] := ⟨_, rfl⟩
     rw [← hb] at e4 o1 i2 u h1 ⊢
     rw [← ha] at f4 o2 i1 u ⊢
     obtain ⟨a1, a2, a3, a4⟩ := o1
     obtain ⟨b1, b2, b3, b4⟩ := o2
     rw [← hr] at i1 i2
     have hat : a.1 < t := i1.mpr (by omega)
     have hm := mul_bd (x := b.2 - a.2) (y := t - a.1) (A := 4096) (B := 1000) (by omega) (by omega) (by omega) (by omega)
     have hd := ediv_bd (x := (b.2 - a.2) * (t - a.1)) (b := b.1 - a.1) (M := 4096 * 1000) (by omega) (by omega) (by omega) (by omega)
     simp (maxSteps := 1000000) (disch := omega) only [go_sem, x72, lenv_sl hv.len, pts_len, c0, hbs, e3, e4, c1, c2, f3, f4, down_run]
  ·rw [dif_neg hx]
   have c1 : ((r : Int) = l.length) := by omega
   have c2 : ¬ ((l.length : Int) = 0) := by omega
   have hq : l.length - 1 < l.length := by omega
   have e3 : sidx 2 v (.int .i64 ((l.length : Int) - 1)) = some (l.length - 1) := by rw [sidx_sl hv (by omega) (by simp; omega)]; simp
   have e4 := fun off fr => pc_iptr (off := off) (hv.elems fr) (show l.length - 1 < (pts l).length by simp; omega)
   simp only [pts_get, pt] at e4
   simp only [dif_neg hx, c1] at hbs
   simp (maxSteps := 1000000) (disch := omega) only [go_sem, x72, lenv_sl hv.len, pts_len, c0, hbs, e3, e4, c1, c2]
end Go.VI.Loud.Mx
namespace Go.VI.Loud.Mx
def seg (a b : Int × Int) (t : Int) : Int := a.2 + (b.2 - a.2) * (t - a.1) / (b.1 - a.1)
theorem seg_l {a b : Int × Int} (h : a.1 < b.1) : seg a b a.1 = a.2 := by
 unfold seg; rw [Int.sub_self, Int.mul_zero, Int.zero_ediv]; omega
theorem seg_r {a b : Int × Int} (h : a.1 < b.1) : seg a b b.1 = b.2 := by
 unfold seg; rw [Int.mul_ediv_cancel _ (by omega)]; omega
theorem gainFrom_seg : ∀ (r : List (Int × Int)) (a : Int × Int) (t : Int) (i : Nat) (hi : i < r.length), Crv (a :: r) → ((a :: r)[i]'(by simp; omega)).1 ≤ t → t ≤ r[i].1 → gainFrom a r t = seg ((a :: r)[i]'(by simp; omega)) r[i] t
 | [], a, t, i, hi, _, _, _ => by simp at hi
 | b :: r, a, t, 0, hi, hc, h1, h2 => by
  have hab := (List.pairwise_cons.mp hc.up).1 b (by simp)
  have hcb : Crv (b :: r) := ⟨fun q hq => hc.ok q (by simp [hq]), (List.pairwise_cons.mp hc.up).2⟩
  simp only [List.getElem_cons_zero] at h1 h2 ⊢
  unfold gainFrom
  by_cases h3 : t < b.1
  ·rw [if_pos h3]; rfl
  ·have : t = b.1 := by omega
   subst this
   rw [if_neg h3, gainFrom_hit hcb, seg_r hab]
 | b :: r, a, t, i + 1, hi, hc, h1, h2 => by
  have hcb : Crv (b :: r) := ⟨fun q hq => hc.ok q (by simp [hq]), (List.pairwise_cons.mp hc.up).2⟩
  simp only [List.getElem_cons_succ] at h1 h2 ⊢
  have hbt : b.1 ≤ t := by
   cases i with
   | zero => exact h1
   | succ i =>
    have := (List.pairwise_cons.mp hcb.up).1 _ (List.getElem_mem (show i < r.length by simp at hi; omega))
    simp only [List.getElem_cons_succ] at h1
    omega
  unfold gainFrom
  rw [if_neg (by omega)]
  exact gainFrom_seg r b t i (by simpa using hi) hcb h1 h2
theorem gain_seg {l : List (Int × Int)} (hc : Crv l) {t : Int} {i : Nat} (hi : i + 1 < l.length) (h1 : l[i].1 ≤ t) (h2 : t ≤ l[i + 1].1) : gainS l t = seg l[i] l[i + 1] t := by
 cases l with
 | nil => simp at hi
 | cons a r =>
  simp only [gainS]
  have ir : i < r.length := by simpa using hi
  by_cases h3 : t ≤ a.1
  ·rw [if_pos h3]
   cases i with
   | zero =>
    have hab := (List.pairwise_cons.mp hc.up).1 _ (List.getElem_mem ir)
    simp only [List.getElem_cons_zero] at h1
    have : t = a.1 := by omega
    subst this
    exact (seg_l hab).symm
   | succ i =>
    have := (List.pairwise_cons.mp hc.up).1 _ (List.getElem_mem (show i < r.length by omega))
    simp only [List.getElem_cons_succ] at h1
    omega
  ·rw [if_neg h3]
   simp only [List.getElem_cons_succ] at h2 ⊢
   exact gainFrom_seg r a t i ir hc h1 h2
theorem gain_before {l : List (Int × Int)} {t : Int} (hl : 0 < l.length) (h : t ≤ l[0].1) : gainS l t = l[0].2 := by
 cases l with
 | nil => simp at hl
 | cons a r => simp only [gainS, List.getElem_cons_zero] at h ⊢; rw [if_pos h]
theorem gainFrom_after : ∀ (r : List (Int × Int)) (a : Int × Int) (t : Int), Crv (a :: r) → ((a :: r)[r.length]'(by simp)).1 ≤ t → gainFrom a r t = ((a :: r)[r.length]'(by simp)).2
 | [], a, t, _, _ => rfl
 | b :: r, a, t, hc, h => by
  have hcb : Crv (b :: r) := ⟨fun q hq => hc.ok q (by simp [hq]), (List.pairwise_cons.mp hc.up).2⟩
  simp only [List.length_cons, List.getElem_cons_succ] at h ⊢
  have hb : b.1 ≤ ((b :: r)[r.length]'(by simp)).1 := by
   rcases Nat.eq_zero_or_pos r.length with h0 | h0
   ·have : r = [] := List.eq_nil_of_length_eq_zero h0
    subst this; simp
   ·have := List.pairwise_iff_getElem.mp hcb.up 0 r.length (by simp) (by simp) h0
    simp only [List.getElem_cons_zero] at this
    omega
  unfold gainFrom
  rw [if_neg (by omega)]
  exact gainFrom_after r b t hcb h
theorem gain_after {l : List (Int × Int)} (hc : Crv l) {t : Int} (hl : 0 < l.length) (h : (l[l.length - 1]'(by omega)).1 ≤ t) : gainS l t = (l[l.length - 1]'(by omega)).2 := by
 cases l with
 | nil => simp at hl
 | cons a r =>
  simp only [List.length_cons, Nat.add_sub_cancel] at h ⊢
  simp only [gainS]
  by_cases h3 : t ≤ a.1
  ·rw [if_pos h3]
   rcases Nat.eq_zero_or_pos r.length with h0 | h0
   ·have : r = [] := List.eq_nil_of_length_eq_zero h0
    subst this; simp
   ·have := List.pairwise_iff_getElem.mp hc.up 0 r.length (by simp) (by simp) h0
    simp only [List.getElem_cons_zero] at this
    omega
  ·rw [if_neg h3]
   exact gainFrom_after r a t hc h
theorem seg_mono {a b : Int × Int} (h : a.1 < b.1) {s t : Int} (h1 : a.1 ≤ s) (h2 : s ≤ t) (h3 : t ≤ b.1) :
  (a.2 ≤ b.2 → a.2 ≤ seg a b s ∧ seg a b s ≤ seg a b t ∧ seg a b t ≤ b.2) ∧ (b.2 ≤ a.2 → b.2 ≤ seg a b t ∧ seg a b t ≤ seg a b s ∧ seg a b s ≤ a.2) := by
 have hb : 0 < b.1 - a.1 := by omega
 have e1 := seg_l h
 have e2 := seg_r h
 have mono : ∀ x y : Int, a.2 ≤ b.2 → x ≤ y → seg a b x ≤ seg a b y := by
  intro x y hab hxy
  unfold seg
  have := Int.mul_le_mul_of_nonneg_left (show x - a.1 ≤ y - a.1 by omega) (show 0 ≤ b.2 - a.2 by omega)
  have := Int.ediv_le_ediv hb this
  omega
 have anti : ∀ x y : Int, b.2 ≤ a.2 → x ≤ y → seg a b y ≤ seg a b x := by
  intro x y hab hxy
  unfold seg
  have := Int.mul_le_mul_of_nonpos_left (show b.2 - a.2 ≤ 0 by omega) (show x - a.1 ≤ y - a.1 by omega)
  have := Int.ediv_le_ediv hb this
  omega
 refine ⟨fun hab => ?_, fun hab => ?_⟩
 ·have q1 := mono a.1 s hab h1
  have q2 := mono s t hab h2
  have q3 := mono t b.1 hab h3
  rw [e1] at q1; rw [e2] at q3
  exact ⟨q1, q2, q3⟩
 ·have q1 := anti a.1 s hab h1
  have q2 := anti s t hab h2
  have q3 := anti t b.1 hab h3
  rw [e1] at q1; rw [e2] at q3
  exact ⟨q3, q2, q1⟩
end Go.VI.Loud.Mx
namespace Go.VI.Loud.Mx
theorem ints_app (a b : List Int) : ints (a ++ b) = ints a ++ ints b := by simp [ints]
theorem ints_one (x : Int) : ints [x] = [.int .i64 x] := rfl
def madeS (xs : List Int) : List Int := (xs.take 40).map fun x => pickS x 65536 - 32767 - 1
def okS (x : Int) : Bool := decide (-32768 ≤ x) && decide (x ≤ 32767)
def soundB (l : List Int) : Bool := decide ((l.length : Int) ≤ 600) && l.all okS
theorem s55_run (x : Int) (h : Heap) (lo : Nat) : (run lib).fn 139 [.int .i64 x] h lo = some (.bool (!okS x), h) := by
 rw [run_closed (x := x139) rfl rfl rfl rfl]
 simp (maxSteps := 1000000) (disch := omega) only [go_sem, x139, between_run, okS]
theorem ix_loop {h : Heap} {v : AV} {l : List Int} (hv : Sl h 1 v (ints l)) (hl : l.length ≤ 9223372036854775807) (lo : Nat) (d : Nat) :
  ∀ k : Nat, d = l.length - k → k ≤ l.length → ∃ r : Int, (0 ≤ r ∧ runC lib ⟨lo, h.length, 0, none⟩ (.loop b54_0) ([(0, v), (1, .fn 139 []), (7, .int .i64 l.length), (8, .int .i64 k)], h) = some (.ret, ([(4, .int .i64 r)], h)) ∧ (l.drop k).all okS = false) ∨
   (runC lib ⟨lo, h.length, 0, none⟩ (.loop b54_0) ([(0, v), (1, .fn 139 []), (7, .int .i64 l.length), (8, .int .i64 k)], h) = some (.exit 0, ([], h)) ∧ (l.drop k).all okS = true) := by
 induction d with
 | zero =>
  intro k hd hk
  refine ⟨0, .inr ⟨?_, ?_⟩⟩
  ·have : k = l.length := by omega
   subst this
   rw [w_loop]
   simp (maxSteps := 1000000) (disch := omega) only [go_sem, Int.lt_irrefl]
  ·rw [List.drop_of_length_le (by omega)]; rfl
 | succ d ih =>
  intro k hd hk
  have hk' : k < l.length := by omega
  have h1 : (k : Int) < l.length := by omega
  have e3 : sidx 1 v (.int .i64 k) = some k := by rw [sidx_sl hv (by omega) (by simp; omega)]; simp
  have e4 := fun off => pc_iptr (off := off) hv.elems0 (show k < (ints l).length by simp; omega)
  simp only [ints_get] at e4
  rw [List.drop_eq_getElem_cons hk', List.all_cons]
  cases hb : okS l[k] with
  | false =>
   refine ⟨k, .inl ⟨by omega, ?_, rfl⟩⟩
   rw [w_loop]
   simp (maxSteps := 1000000) (disch := omega) only [go_sem, h1, e3, e4, s55_run, hb]
  | true =>
   obtain ⟨r, hr⟩ := ih (k + 1) (by omega) (by omega)
   rw [cast1] at hr
   rcases hr with ⟨h0, e, h2⟩ | ⟨e, h2⟩
   ·refine ⟨r, .inl ⟨h0, ?_, by rw [h2]; rfl⟩⟩
    rw [w_loop]
    simp (maxSteps := 1000000) (disch := omega) only [go_sem, h1, e3, e4, s55_run, hb, e]
   ·refine ⟨r, .inr ⟨?_, by rw [h2]; rfl⟩⟩
    rw [w_loop]
    simp (maxSteps := 1000000) (disch := omega) only [go_sem, h1, e3, e4, s55_run, hb, e]
theorem cf_run {h : Heap} {v : AV} {l : List Int} (hv : Sl h 1 v (ints l)) (hl : l.length ≤ 9223372036854775807) (lo : Nat) : (run lib).fn 36 [v, .fn 139 []] h lo = some (.bool (!(l.all okS)), h) := by
 have key : ∃ r : Int, (run lib).fn 54 [v, .fn 139 []] h h.length = some (.int .i64 r, h) ∧ (0 ≤ r ↔ l.all okS = false) := by
  obtain ⟨r, hr⟩ := ix_loop hv hl h.length _ 0 rfl (by omega)
  simp only [Int.natCast_zero, List.drop_zero] at hr
  rcases hr with ⟨h0, e, h2⟩ | ⟨e, h2⟩
  ·refine ⟨r, ?_, by simp [h0, h2]⟩
   rw [run_closed (x := x54) rfl rfl rfl rfl]
   simp (maxSteps := 1000000) (disch := omega) only [go_sem, x54, lenv_sl hv.len, ints_len, e]
  ·refine ⟨-1, ?_, by simp [h2]⟩
   rw [run_closed (x := x54) rfl rfl rfl rfl]
   simp (maxSteps := 1000000) (disch := omega) only [go_sem, x54, lenv_sl hv.len, ints_len, e]
 obtain ⟨r, e, h1⟩ := key
 rw [run_closed (x := x36) rfl rfl rfl rfl]
 cases hb : l.all okS with
 | false => have := h1.mpr hb; simp (maxSteps := 1000000) (disch := omega) only [go_sem, x36, e, this]
 | true =>
  have : ¬ 0 ≤ r := by rw [h1, hb]; simp
  simp (maxSteps := 1000000) (disch := omega) only [go_sem, x36, e, this]
theorem sound_run {h : Heap} {v : AV} {l : List Int} (hv : Sl h 1 v (ints l)) (hl : l.length ≤ 9223372036854775807) (lo : Nat) : (run lib).fn 103 [v] h lo = some (.bool (soundB l), h) := by
 have e := cf_run hv hl h.length
 rw [run_closed (x := x103) rfl rfl rfl rfl]
 unfold soundB
 by_cases h1 : (l.length : Int) ≤ 600
 ·simp (maxSteps := 1000000) (disch := omega) only [go_sem, x103, lenv_sl hv.len, ints_len, h1, e, Bool.not_not]
 ·simp (maxSteps := 1000000) (disch := omega) only [go_sem, x103, lenv_sl hv.len, ints_len, h1]
def roundS (x : Int) : Int := min (max ((x + 512) / 1024) (-32768)) 32767
theorem round_run (x : Int) (h : Heap) (lo : Nat) (h1 : -900000000000 ≤ x) (h2 : x ≤ 900000000000) : (run lib).fn 53 [.int .i64 x] h lo = some (.int .i64 (roundS x), h) := by
 rw [run_closed (x := x53) rfl rfl rfl rfl]
 simp (maxSteps := 1000000) (disch := omega) only [go_sem, x53, down_run, roundS]
def atS (l : List Int) (k : Int) : Int := if 0 ≤ k then l.getD k.toNat 0 else 0
end Go.VI.Loud.Mx
namespace Go.VI.Loud.Mx
def padS (l : List Int) (at' : Nat) : List Int := l ++ List.replicate (at' + 1 - l.length) 0
def addAt (l : List Int) (at' : Nat) (x : Int) : List Int := (padS l at').set at' ((padS l at').getD at' 0 + x)
theorem padS_len (l : List Int) (a : Nat) : (padS l a).length = max l.length (a + 1) := by simp [padS]; omega
theorem addAt_len (l : List Int) (a : Nat) (x : Int) : (addAt l a x).length = max l.length (a + 1) := by simp [addAt, padS_len]
theorem padS_snoc {l : List Int} {a : Nat} (h : l.length ≤ a) : padS l a = padS (l ++ [0]) a := by
 unfold padS
 have : a + 1 - l.length = (a + 1 - (l ++ [0]).length) + 1 := by simp; omega
 rw [this, List.replicate_succ, List.append_assoc]; rfl
theorem padS_id {l : List Int} {a : Nat} (h : a < l.length) : padS l a = l := by
 unfold padS
 have : a + 1 - l.length = 0 := by omega
 rw [this]; simp
theorem padS_getD (l : List Int) (a i : Nat) : (padS l a).getD i 0 = l.getD i 0 := by
 unfold padS
 simp only [List.getD_eq_getElem?_getD, List.getElem?_append, List.getElem?_replicate]
 by_cases h : i < l.length
 ·simp [h]
 ·rw [if_neg h, List.getElem?_eq_none (by omega)]
  split <;> rfl
theorem addAt_getD (l : List Int) (a : Nat) (x : Int) (i : Nat) : (addAt l a x).getD i 0 = l.getD i 0 + if i = a then x else 0 := by
 unfold addAt
 by_cases h : i = a
 ·subst h
  have : i < (padS l i).length := by rw [padS_len]; omega
  rw [List.getD_eq_getElem?_getD, List.getElem?_set_self this, if_pos rfl, Option.getD_some, padS_getD]
 ·rw [List.getD_eq_getElem?_getD, List.getElem?_set_ne (fun e => h e.symm), ← List.getD_eq_getElem?_getD, padS_getD, if_neg h]; omega
def bnd' (M : Int) (l : List Int) : Prop := ∀ x ∈ l, -M ≤ x ∧ x ≤ M
theorem bnd'_getD {M : Int} {l : List Int} (h : bnd' M l) (hM : 0 ≤ M) (i : Nat) : -M ≤ l.getD i 0 ∧ l.getD i 0 ≤ M := by
 rw [List.getD_eq_getElem?_getD]
 cases hi : l[i]? with
 | none => simp; omega
 | some x => exact h x (List.mem_of_getElem? hi)
theorem bnd'_of {M : Int} {l : List Int} (h : ∀ i, -M ≤ l.getD i 0 ∧ l.getD i 0 ≤ M) : bnd' M l := by
 intro x hx
 obtain ⟨i, hi⟩ := List.getElem?_of_mem hx
 have := h i
 rwa [List.getD_eq_getElem?_getD, hi] at this
theorem addAt_bnd {M D : Int} {l : List Int} {a : Nat} {x : Int} (h : bnd' M l) (hM : 0 ≤ M) (hD : -D ≤ x ∧ x ≤ D) : bnd' (M + D) (addAt l a x) := by
 refine bnd'_of fun i => ?_
 rw [addAt_getD]
 have := bnd'_getD h hM i
 split <;> omega
theorem add_loop {h : Heap} {id ver lo : Nat} (hlo : lo ≤ id) (a : Nat) (ha : a ≤ 100000) (x : Int) (v0 : Nat) (b0 : Blk) (d : Nat) :
  ∀ (hp : Heap) (es : List Int), d = a + 1 - es.length → hp[id]? = some (ver, .arr 1 (ints es)) → es.length ≤ 200000 →
  runC lib ⟨lo, hp.length, 1, none⟩ (.loop b71_0) ([(0, .ref id ver 1 0 es.length es.length), (1, .int .i64 a), (2, .int .i64 x)], hp ++ [(v0, b0)]) =
   some (.exit 0, ([(0, .ref id ver 1 0 (padS es a).length (padS es a).length), (1, .int .i64 a), (2, .int .i64 x)], hp.set id (ver, .arr 1 (ints (padS es a))) ++ [(v0, b0)])) := by
 induction d with
 | zero =>
  intro hp es hd hb hl
  have c1 : ¬ (es.length : Int) ≤ a := by omega
  rw [padS_id (by omega), set_same hb, w_loop]
  have hv := Sl.refAt hb
  rw [ints_len] at hv
  simp (maxSteps := 1000000) (disch := omega) only [go_sem, lenv_sl hv.len, ints_len, c1]
 | succ d ih =>
  intro hp es hd hb hl
  have c1 : (es.length : Int) ≤ a := by omega
  have hv := Sl.refAt hb
  rw [ints_len] at hv
  have hlt := (List.getElem?_eq_some_iff.mp hb).1
  have e := ih (hp.set id (ver, .arr 1 (ints (es ++ [0])))) (es ++ [0]) (by simp; omega) (List.getElem?_set_self hlt) (by simp; omega)
  rw [List.length_set, ← padS_snoc (by omega), List.set_set] at e
  have e5 := app_ref (cx := ⟨lo, hp.length, 1, none⟩) (s := 0) (z := 1) (lim := 17592186044416) (xs := [.int .i64 0]) (get_pre (fr := [(v0, b0)]) hb) hlo (by simp; omega)
  rw [set_pre _ hb, ints_len, ← ints_one, ← ints_app] at e5
  simp only [ints_one, List.length_cons, List.length_nil, Nat.zero_add] at e5
  simp only [List.length_append, List.length_cons, List.length_nil, Nat.zero_add] at e
  rw [w_loop]
  simp (maxSteps := 1000000) (disch := omega) only [go_sem, lenv_sl hv.len, ints_len, c1, e5, e]
theorem addAt_len' (l : List Int) (a : Nat) (x : Int) : (addAt l a x).length = (padS l a).length := by simp [addAt]
theorem add_ref {h : Heap} {id ver lo : Nat} (hlo : lo ≤ id) {es : List Int} (hb : h[id]? = some (ver, .arr 1 (ints es))) (hl : es.length ≤ 200000) (a : Nat) (ha : a ≤ 100000) (x : Int) (hx : -10000000000000000 ≤ x ∧ x ≤ 10000000000000000) (hes : bnd' 10000000000000000 es) :
  (run lib).fn 71 [.ref id ver 1 0 es.length es.length, .int .i64 a, .int .i64 x] h lo = some (.ref id ver 1 0 (addAt es a x).length (addAt es a x).length, h.set id (ver, .arr 1 (ints (addAt es a x)))) := by
 have hlt := (List.getElem?_eq_some_iff.mp hb).1
 have e := add_loop (h := h) hlo a ha x 0 .dead _ h es rfl hb hl
 obtain ⟨hp, hhp⟩ : ∃ hp, hp = h.set id (ver, .arr 1 (ints (padS es a))) := ⟨_, rfl⟩
 have hb2 : hp[id]? = some (ver, .arr 1 (ints (padS es a))) := by rw [hhp]; exact List.getElem?_set_self hlt
 have hpl : hp.length = h.length := by rw [hhp]; simp
 have hv := Sl.refAt hb2
 rw [ints_len] at hv
 have hpa : a < (padS es a).length := by rw [padS_len]; omega
 have e3 : sidx 1 (.ref id ver 1 0 (padS es a).length (padS es a).length) (.int .i64 a) = some a := by rw [sidx_sl hv (by omega) (by simp; omega)]; simp
 have e4 := fun off fr => pc_iptr (off := off) (hv.elems fr) (show a < (ints (padS es a)).length by simp; omega)
 simp only [ints_get] at e4
 have hg : (padS es a).getD a 0 = (padS es a)[a] := by rw [List.getD_eq_getElem?_getD, List.getElem?_eq_getElem hpa]; rfl
 have hgb := bnd'_getD hes (by omega) a
 rw [← padS_getD es a a, hg] at hgb
 have e5 := ps_iptr (cx := ⟨lo, hp.length, 1, none⟩) (id := id) (ver := ver) (o := 0) (len := (padS es a).length) (fill := (padS es a).length) (i := a) (k := .i64) (l := padS es a) (n := (padS es a)[a] + x) (get_pre (fr := [(0, .dead)]) hb2) rfl (by omega) hpa hlo
 rw [set_pre _ hb2, Nat.zero_add] at e5
 have hres : h.set id (ver, .arr 1 (ints (addAt es a x))) = hp.set id (ver, .arr 1 (((padS es a).set a ((padS es a)[a] + x)).map (.int .i64))) := by
  rw [hhp, List.set_set]; unfold addAt; rw [hg]; rfl
 rw [hres, addAt_len']
 have htk : (hp.set id (ver, Blk.arr 1 (((padS es a).set a ((padS es a)[a] + x)).map (.int .i64))) ++ [(0, Blk.dead)]).take h.length = hp.set id (ver, Blk.arr 1 (((padS es a).set a ((padS es a)[a] + x)).map (.int .i64))) := by
  rw [List.take_append_of_le_length (by simp [hpl]), List.take_of_length_le (by simp [hpl])]
 have hgv : ∀ hh, giveRes h.length (.ref id ver 1 0 (padS es a).length (padS es a).length) hh = some (.ref id ver 1 0 (padS es a).length (padS es a).length) := by
  intro hh
  have : ¬ h.length ≤ id := by omega
  simp [giveRes, give, frz, this]
 rw [run_open (x := x71) rfl rfl rfl rfl (by omega)]
 rw [← hhp] at e
 rw [← hpl] at e ⊢
 rw [← hpl] at hgv htk
 simp (maxSteps := 1000000) (disch := omega) only [go_sem, x71, e, e3, e4, e5]
 rw [← hpl, hgv, Option.map_some, htk]
theorem add_loopN {h : Heap} {lo : Nat} (hlo : lo ≤ h.length) (a : Nat) (ha : a ≤ 100000) (x : Int) (d : Nat) :
  ∀ (es : List Int), d = a + 1 - es.length → es.length ≤ 200000 →
  runC lib ⟨lo, h.length, 1, none⟩ (.loop b71_0) ([(0, accV (h.length + 0) (0, .dead) 1 (ints es)), (1, .int .i64 a), (2, .int .i64 x)], h ++ [accB (0, .dead) 1 (ints es)]) =
   some (.exit 0, ([(0, accV (h.length + 0) (0, .dead) 1 (ints (padS es a))), (1, .int .i64 a), (2, .int .i64 x)], h ++ [accB (0, .dead) 1 (ints (padS es a))])) := by
 induction d with
 | zero =>
  intro es hd hl
  have c1 : ¬ (es.length : Int) ≤ a := by omega
  have hv := Sl.acc (h := h) (fr := [accB (0, .dead) 1 (ints es)]) (s := 0) (z := 1) (b0 := (0, .dead)) (es := ints es) rfl
  rw [padS_id (by omega), w_loop]
  simp (maxSteps := 1000000) (disch := omega) only [go_sem, lenv_sl hv.len, ints_len, c1]
 | succ d ih =>
  intro es hd hl
  have c1 : (es.length : Int) ≤ a := by omega
  have hv := Sl.acc (h := h) (fr := [accB (0, .dead) 1 (ints es)]) (s := 0) (z := 1) (b0 := (0, .dead)) (es := ints es) rfl
  have e := ih (es ++ [0]) (by simp; omega) (by simp; omega)
  rw [← padS_snoc (by omega), ints_app es [0], ints_one] at e
  have e5 := app_acc (lo := lo) (ns := 1) (s := 0) (z := 1) (lim := 17592186044416) (h := h) (fr := [accB (0, .dead) 1 (ints es)]) (b0 := (0, .dead)) (es := ints es) (xs := [.int .i64 0]) (by omega) hlo rfl (by simp; omega)
  rw [w_loop]
  simp (maxSteps := 1000000) (disch := omega) only [go_sem, lenv_sl hv.len, ints_len, c1, e5, e]
theorem add_nil {h : Heap} {lo : Nat} (hlo : lo ≤ h.length) (a : Nat) (ha : a ≤ 100000) (x : Int) (hx : -10000000000000000 ≤ x ∧ x ≤ 10000000000000000) :
  (run lib).fn 71 [.nilSl, .int .i64 a, .int .i64 x] h lo = some (ownV 1 (ints (addAt [] a x)), h) := by
 have e := add_loopN (h := h) hlo a ha x _ [] rfl (by simp)
 obtain ⟨es, hes⟩ : ∃ es, es = padS [] a := ⟨_, rfl⟩
 have hel : es.length = a + 1 := by rw [hes, padS_len]; simp
 have hne : ints es ≠ [] := by
  intro h0
  have := congrArg List.length h0
  rw [ints_len, List.length_nil] at this
  (try rw [List.length_set] at this)
  omega
 rw [← hes, accV_ne hne, accB_ne hne, ints_len] at e
 simp only [ints, List.map_nil, accV_nil, accB_nil] at e
 have hv := Sl.refAll (h := h) (fr := [(0 + 1, .arr 1 (es.map (.int .i64)))]) (s := 0) (ver := 0 + 1) (z := 1) (es := es.map (.int .i64)) rfl
 simp only [List.length_map] at hv
 have e3 : sidx 1 (.ref (h.length + 0) (0 + 1) 1 0 es.length es.length) (.int .i64 a) = some a := by rw [sidx_sl hv (by omega) (by simp; omega)]; simp
 have e4 := pc_iptr (off := 0) hv.elems0 (show a < (es.map (AV.int .i64)).length by simp; omega)
 simp only [List.getElem_map] at e4
 have hg : es[a]'(by omega) = 0 := by simp [hes, padS]
 rw [hg] at e4
 have e5 := ps_iptr_fr (lo := lo) (ns := 1) (h := h) (fr := [(0 + 1, .arr 1 (es.map (.int .i64)))]) (s := 0) (ver := 0 + 1) (o := 0) (len := es.length) (fill := es.length) (i := a) (k := .i64) (l := es) (n := x) rfl rfl (by omega) (by omega) hlo
 have hr : addAt [] a x = es.set a x := by unfold addAt; rw [← hes, List.getD_eq_getElem?_getD, List.getElem?_eq_getElem (by omega), hg]; simp
 have hne2 : ints (es.set a x) ≠ [] := by
  intro h0
  have := congrArg List.length h0
  rw [ints_len, List.length_nil] at this
  (try rw [List.length_set] at this)
  omega
 have e2 := giveRes_acc (s := 0) (z := 1) (h := h) (fr := [accB (0, .dead) 1 (ints (es.set a x))]) (b0 := (0, .dead)) (es := ints (es.set a x)) rfl
 rw [accV_ne hne2, accB_ne hne2, ints_len, List.length_set] at e2
 rw [hr]
 rw [run_open (x := x71) rfl rfl rfl rfl hlo]
 simp only [ints, Nat.zero_add] at e e2 e3 e4 e5 ⊢
 simp (maxSteps := 1000000) (disch := omega) only [go_sem, x71, e, e3, e4, e5, e2, Int.zero_add, List.take_left']
end Go.VI.Loud.Mx
namespace Go.VI.Loud.Mx
structure Trk where
 fr : Int
 sm : List Int
 gn : List (Int × Int)
 zs : Nat
 zg : Nat
 full : Bool
def gV (t : Trk) : AV := if t.full then .lsf t.zg (pts t.gn) else .lst t.zg (pts t.gn)
@[go_sem] theorem gV_val (t : Trk) : (gV t).val = true := by unfold gV; split <;> rfl
@[go_sem] theorem gV_cells (t : Trk) : (gV t).cells = [gV t] := by unfold gV; split <;> rfl
@[go_sem] theorem gV_closed (t : Trk) : (gV t).closed = true := by unfold gV; split <;> rfl
@[go_sem] theorem frz_gV (b : Nat) (k : Bool) (t : Trk) (h : Heap) : frz b k (gV t) h = some (gV t, h) := by unfold gV; split <;> simp [frz]
def trk (t : Trk) : AV := .agg [.int .i64 t.fr, .lst t.zs (ints t.sm), gV t]
def trks (l : List Trk) : List AV := l.map trk
structure okZ (t : Trk) : Prop where
 s : t.zs = 1 ∨ t.sm = []
 g : t.zg = 2 ∨ t.gn = []
@[simp] theorem trks_len (l : List Trk) : (trks l).length = l.length := by simp [trks]
theorem trks_get (l : List Trk) (k : Nat) (h : k < (trks l).length) : (trks l)[k] = trk (l[k]'(by simpa using h)) := by simp [trks]
theorem okZ.sls {t : Trk} (hz : okZ t) (h : Heap) : Sl h 1 (.lst t.zs (ints t.sm)) (ints t.sm) := sl_lst (hz.s.imp id fun h => by rw [h]; rfl)
theorem okZ.slg {t : Trk} (hz : okZ t) (h : Heap) : Sl h 2 (gV t) (pts t.gn) := by
 have a : Sl h 2 (.lst t.zg (pts t.gn)) (pts t.gn) := sl_lst (hz.g.imp id fun h => by rw [h]; rfl)
 unfold gV
 split
 ·rcases hz.g with e | e
  ·rw [e]; exact Sl.lsf h 2 _
  ·rw [e]; exact ⟨by simp [VI.zok, pts], fun _ => rfl, rfl⟩
 ·exact a
theorem ints_nil {l : List Int} : ints l = [] ↔ l = [] := by simp [ints]
def vT (t : Trk) : Bool := soundB t.sm && (curveB (-1) t.gn && decide ((t.gn.length : Int) ≤ 12)) && (decide (0 ≤ t.fr) && decide (t.fr ≤ 600 - t.sm.length))
def validB (l : List Trk) : Bool := l.all vT && decide ((l.length : Int) ≤ 8)
theorem soundB_len {l : List Int} (h : soundB l = true) : (l.length : Int) ≤ 600 := by
 unfold soundB at h; simp only [Bool.and_eq_true, decide_eq_true_eq] at h; exact h.1
structure okT (t : Trk) : Prop where
 z : okZ t
 f : okI t.fr
 s : t.sm.length ≤ 9223372036854775807
 g : t.gn.length ≤ 9223372036854775807
theorem valid_loop {h : Heap} {v : AV} {l : List Trk} (hv : Sl h 3 v (trks l)) (hl : l.length ≤ 9223372036854775807) (hz : ∀ t ∈ l, okT t) (d : Nat) :
  ∀ (k v0 : Nat) (b0 : Blk), d = l.length - k → k ≤ l.length → ∃ fr,
  runC lib ⟨h.length, h.length, 1, none⟩ (.loop b70_0) ([(0, v), (5, v), (6, .int .i64 l.length), (7, .int .i64 k)], h ++ [(v0, b0)]) =
   if (l.drop k).all vT = true then some (.exit 0, ([(0, v)], h ++ fr)) else some (.ret, ([(2, .bool false)], h ++ fr)) := by
 induction d with
 | zero =>
  intro k v0 b0 hd hk
  have : k = l.length := by omega
  subst this
  refine ⟨[(v0, b0)], ?_⟩
  rw [List.drop_length, w_loop]
  simp (maxSteps := 1000000) (disch := omega) only [go_sem, Int.lt_irrefl, List.all_nil]
 | succ d ih =>
  intro k v0 b0 hd hk
  have hk' : k < l.length := by omega
  have h1 : (k : Int) < l.length := by omega
  have e3 : sidx 3 v (.int .i64 k) = some k := by rw [sidx_sl hv (by omega) (by simp; omega)]; simp
  have e4 := fun off fr => pc_iptr (off := off) (hv.elems fr) (show k < (trks l).length by simp; omega)
  simp only [trks_get, trk] at e4
  have hz' := hz l[k] (List.getElem_mem _)
  rw [List.drop_eq_getElem_cons hk', List.all_cons]
  obtain ⟨t, ht⟩ : ∃ t, t = l[k] := ⟨_, rfl⟩
  rw [← ht] at e4 hz' ⊢
  have s1 := fun fr lo => sound_run (hz'.z.sls (h ++ fr)) hz'.s lo
  have s2 := fun fr lo => curve_run (hz'.z.slg (h ++ fr)) hz'.g lo
  have s3 := lenv_sl (hz'.z.sls h).len
  have f1 := hz'.f.1
  have f2 := hz'.f.2
  obtain ⟨fr, e⟩ := ih (k + 1) (v0 + 1) (.box [.int .i64 t.fr, .lst t.zs (ints t.sm), gV t]) (by omega) (by omega)
  rw [cast1] at e
  have nb : ∀ b, vT t = b → b = false → ∃ fr, (if (b && (l.drop (k + 1)).all vT) = true then some (Ex.exit 0, ([(0, v)], h ++ fr)) else some (Ex.ret, ([(2, AV.bool false)], h ++ fr))) = some (Ex.ret, ([(2, AV.bool false)], h ++ fr)) := by
   intro b _ hb; subst hb; exact ⟨[], by simp⟩
  cases c1 : soundB t.sm with
  | false =>
   refine ⟨[(v0 + 1, .box [.int .i64 t.fr, .lst t.zs (ints t.sm), gV t])], ?_⟩
   rw [w_loop]
   simp (maxSteps := 1000000) (disch := omega) only [go_sem, h1, e3, e4, s1, c1, vT]
  | true =>
   have hsl := soundB_len c1
   cases c2 : (curveB (-1) t.gn && decide ((t.gn.length : Int) ≤ 12)) with
   | false =>
    refine ⟨[(v0 + 1, .box [.int .i64 t.fr, .lst t.zs (ints t.sm), gV t])], ?_⟩
    rw [w_loop]
    simp (maxSteps := 1000000) (disch := omega) only [go_sem, h1, e3, e4, s1, s2, c1, c2, vT]
   | true =>
    cases c3 : (decide (0 ≤ t.fr) && decide (t.fr ≤ 600 - t.sm.length)) with
    | false =>
     refine ⟨[(v0 + 1, .box [.int .i64 t.fr, .lst t.zs (ints t.sm), gV t])], ?_⟩
     rw [w_loop]
     simp (maxSteps := 1000000) (disch := omega) only [go_sem, h1, e3, e4, s1, s2, s3, ints_len, c1, c2, between_run, c3, vT]
    | true =>
     refine ⟨fr, ?_⟩
     rw [w_loop]
     simp (maxSteps := 1000000) (disch := omega) only [go_sem, h1, e3, e4, s1, s2, s3, ints_len, c1, c2, between_run, c3, vT, e]
theorem valid_run {h : Heap} {v : AV} {l : List Trk} (hv : Sl h 3 v (trks l)) (hl : l.length ≤ 9223372036854775807) (hz : ∀ t ∈ l, okT t) (lo : Nat) : (run lib).fn 70 [v] h lo = some (.bool (validB l), h) := by
 obtain ⟨fr, e⟩ := valid_loop hv hl hz _ 0 0 .dead rfl (by omega)
 rw [Int.natCast_zero, List.drop_zero] at e
 rw [run_closed (x := x70) rfl rfl rfl rfl]
 unfold validB
 cases hb : l.all vT <;> rw [hb] at e <;> simp (maxSteps := 1000000) (disch := omega) only [go_sem, x70, lenv_sl hv.len, trks_len, e]
def step1 (t : Trk) (o : List Int) (k : Nat) : List Int := addAt o (t.fr.toNat + k) (t.sm.getD k 0 * gainS t.gn k)
def addT (o : List Int) (t : Trk) : List Int := (List.range t.sm.length).foldl (step1 t) o
def exactL (l : List Trk) : List Int := l.foldl addT []
theorem bck_ref (cx : Cx) (s i v z o l f : Nat) (h : Heap) : bck cx [(0, s)] (some (.ref i v z o l f, h)) = some (.ref i v z o l f, h) := by simp [bck, takeOver, weak, weak1]
theorem add_acc {h fr : Heap} {ns : Nat} (hns : 0 < ns) {es : List Int} (hl : es.length ≤ 200000) (hes : bnd' 10000000000000000 es) (a : Nat) (ha : a ≤ 100000) (x : Int) (hx : -10000000000000000 ≤ x ∧ x ≤ 10000000000000000) :
  bck ⟨h.length, h.length, ns, none⟩ [(0, 0)] ((run lib).fn 71 [accV (h.length + 0) (0, .dead) 1 (ints es), .int .i64 a, .int .i64 x] (h ++ accB (0, .dead) 1 (ints es) :: fr) h.length) =
   some (accV (h.length + 0) (0, .dead) 1 (ints (addAt es a x)), h ++ accB (0, .dead) 1 (ints (addAt es a x)) :: fr) := by
 have hne : ints (addAt es a x) ≠ [] := by
  intro h0
  have := congrArg List.length h0
  rw [ints_len, addAt_len, List.length_nil] at this
  omega
 by_cases h0 : es = []
 ·subst h0
  have e : ints ([] : List Int) = [] := rfl
  rw [e, accV_nil, accB_nil, add_nil (by simp) a ha x hx, take_own hns rfl hne, accV_ne hne, accB_ne hne]
  rfl
 ·have h1 : ints es ≠ [] := by rw [ne_eq, ints_nil]; exact h0
  have hb : (h ++ (0 + 1, Blk.arr 1 (ints es)) :: fr)[h.length + 0]? = some (0 + 1, .arr 1 (ints es)) := by rw [get_fr]; rfl
  rw [accV_ne h1, accB_ne h1, ints_len]
  rw [add_ref (by omega) hb hl a ha x hx hes, bck_ref, accV_ne hne, accB_ne hne, ints_len, set_fr]
  rfl
theorem foldl_range_succ {α : Type} (f : α → Nat → α) (n : Nat) (a : α) : (List.range (n + 1)).foldl f a = f ((List.range n).foldl f a) n := by simp [List.range_succ]
theorem gainS_bd {l : List (Int × Int)} (hc : Crv l) {t : Int} (ht : 0 ≤ t) : 0 ≤ gainS l t ∧ gainS l t ≤ 4096 := by
 by_cases h0 : l = []
 ·subst h0; simp [gainS]
 ·have hpos := List.length_pos_iff.mpr h0
  by_cases h1 : t ≤ l[0].1
  ·rw [gain_before hpos h1]; have := hc.ok _ (List.getElem_mem hpos); exact ⟨this.2.2.1, this.2.2.2⟩
  ·by_cases h2 : (l[l.length - 1]'(by omega)).1 ≤ t
   ·rw [gain_after hc hpos h2]; have := hc.ok _ (List.getElem_mem (show l.length - 1 < l.length by omega)); exact ⟨this.2.2.1, this.2.2.2⟩
   ·-- between two points
    have hcl := cntS_le l t
    have hci := cntS_iff t hc
    have c0 : 0 < cntS l t := (hci 0 hpos).mp (by omega)
    have c1 : cntS l t < l.length := by
     rcases Nat.lt_or_ge (cntS l t) l.length with h | h
     ·exact h
     ·have := (hci (l.length - 1) (by omega)).mpr (by omega)
      omega
    obtain ⟨i, hi⟩ : ∃ i, cntS l t = i + 1 := ⟨cntS l t - 1, by omega⟩
    have a1 := (hci i (by omega)).mpr (by omega)
    have a2 := mt (hci (i + 1) (by omega)).mp (by omega)
    have q1 := hc.ok _ (List.getElem_mem (show i < l.length by omega))
    have q2 := hc.ok _ (List.getElem_mem (show i + 1 < l.length by omega))
    have u := List.pairwise_iff_getElem.mp hc.up i (i + 1) (by omega) (by omega) (by omega)
    rw [gain_seg hc (i := i) (by omega) (by omega) (by omega)]
    obtain ⟨m1, m2⟩ := seg_mono u (s := t) (t := t) (by omega) (by omega) (by omega)
    obtain ⟨_, _, o3, o4⟩ := q1
    obtain ⟨_, _, o5, o6⟩ := q2
    rcases Int.le_total l[i].2 l[i + 1].2 with h | h
    ·have := m1 h; omega
    ·have := m2 h; omega
theorem vT_of {t : Trk} (h : vT t = true) : (∀ x ∈ t.sm, -32768 ≤ x ∧ x ≤ 32767) ∧ t.sm.length ≤ 600 ∧ Crv t.gn ∧ t.gn.length ≤ 12 ∧ 0 ≤ t.fr ∧ t.fr ≤ 600 - t.sm.length := by
 unfold vT soundB at h
 simp only [Bool.and_eq_true, decide_eq_true_eq, List.all_eq_true] at h
 obtain ⟨⟨⟨h1, h2⟩, h3, h4⟩, h5, h6⟩ := h
 refine ⟨fun x hx => ?_, by omega, (curveB_crv h3 (by omega)).1, by omega, h5, h6⟩
 have := h2 x hx
 unfold okS at this
 simp only [Bool.and_eq_true, decide_eq_true_eq] at this
 exact this
theorem step1_bd {t : Trk} (h : vT t = true) {k : Nat} (hk : k < t.sm.length) : -134217728 ≤ t.sm.getD k 0 * gainS t.gn k ∧ t.sm.getD k 0 * gainS t.gn k ≤ 134217728 := by
 obtain ⟨h1, h2, h3, _⟩ := vT_of h
 have e : t.sm.getD k 0 = t.sm[k] := by rw [List.getD_eq_getElem?_getD, List.getElem?_eq_getElem hk]; rfl
 have := h1 _ (List.getElem_mem hk)
 have g := gainS_bd h3 (t := (k : Int)) (by omega)
 have := mul_bd (x := t.sm[k]) (y := gainS t.gn k) (A := 32768) (B := 4096) (by omega) (by omega) g.1 g.2
 rw [e]; omega
theorem exact_loop1 {h : Heap} {v : AV} {t : Trk} (ht : vT t = true) (hz : okZ t) (o : List Int) (n : Nat) (ho : bnd' (134217728 * n) o) (hol : o.length ≤ 600) (j : Nat) (len : Int) (ver : Nat) (hn : n ≤ 100000) (d : Nat) :
  ∀ k : Nat, d = t.sm.length - k → k ≤ t.sm.length → bnd' (134217728 * (n + k)) ((List.range k).foldl (step1 t) o) → ((List.range k).foldl (step1 t) o).length ≤ 600 →
  runC lib ⟨h.length, h.length, 2, none⟩ (.loop b52_1) ([(4, accV (h.length + 0) (0, .dead) 1 (ints ((List.range k).foldl (step1 t) o))), (6, .bptr (h.length + 1) ver 0), (11, v), (12, .int .i64 len), (13, .int .i64 j), (19, .int .i64 t.sm.length), (20, .int .i64 k)],
   h ++ [accB (0, .dead) 1 (ints ((List.range k).foldl (step1 t) o)), (ver, .box [.int .i64 t.fr, .lst t.zs (ints t.sm), gV t])]) =
   some (.exit 2, ([(4, accV (h.length + 0) (0, .dead) 1 (ints (addT o t))), (11, v), (12, .int .i64 len), (13, .int .i64 j)], h ++ [accB (0, .dead) 1 (ints (addT o t)), (ver, .box [.int .i64 t.fr, .lst t.zs (ints t.sm), gV t])])) := by
 obtain ⟨h1, h2, h3, h4, h5, h6⟩ := vT_of ht
 induction d with
 | zero =>
  intro k hd hk _ _
  have : k = t.sm.length := by omega
  subst this
  rw [w_loop]
  simp (maxSteps := 1000000) (disch := omega) only [go_sem, Int.lt_irrefl, addT]
 | succ d ih =>
  intro k hd hk hb hbl
  have hk' : k < t.sm.length := by omega
  have c1 : (k : Int) < t.sm.length := by omega
  obtain ⟨es, hes⟩ : ∃ es, es = (List.range k).foldl (step1 t) o := ⟨_, rfl⟩
  have hs := step1_bd ht hk'
  have e3 : sidx 1 (.lst t.zs (ints t.sm)) (.int .i64 k) = some k := by rw [sidx_sl (hz.sls h) (by omega) (by simp; omega)]; simp
  have e4 := fun off fr => pc_iptr (off := off) ((hz.sls h).elems fr) (show k < (ints t.sm).length by simp; omega)
  simp only [ints_get] at e4
  have hg : t.sm.getD k 0 = t.sm[k] := by rw [List.getD_eq_getElem?_getD, List.getElem?_eq_getElem hk']; rfl
  have e6 := fun fr lo => gain_run (hz.slg (h ++ fr)) (by omega) h3 k (by omega) (by omega) lo
  have hfr : t.fr + (k : Int) = ((t.fr.toNat + k : Nat) : Int) := by omega
  have hw := addAt_bnd (a := t.fr.toNat + k) (D := 134217728) (x := t.sm.getD k 0 * gainS t.gn k) hb (by omega) hs
  have e := ih (k + 1) (by omega) (by omega) (by rw [foldl_range_succ, step1]; rw [show (134217728 : Int) * (n + (k + 1 : Nat)) = 134217728 * (n + k) + 134217728 by omega]; exact hw) (by rw [foldl_range_succ, step1, addAt_len]; omega)
  rw [foldl_range_succ, cast1] at e
  rw [← hes] at hb hbl e ⊢
  rw [step1] at e
  rw [hg] at e hs
  have e5 := add_acc (h := h) (ns := 2) (fr := [(ver, .box [.int .i64 t.fr, .lst t.zs (ints t.sm), gV t])]) (by omega) (es := es) (by omega) (fun x hx => by have := hb x hx; omega) (t.fr.toNat + k) (by omega) (t.sm[k] * gainS t.gn k) (by omega)
  rw [w_loop]
  simp (maxSteps := 1000000) (disch := omega) only [go_sem, c1, e3, e4, e6, hfr, e5, e]
end Go.VI.Loud.Mx
namespace Go.VI.Loud.Mx
theorem fold_bd {t : Trk} (ht : vT t = true) {M : Int} {o : List Int} (ho : bnd' M o) (hM : 0 ≤ M) (hol : o.length ≤ 600) : ∀ k, k ≤ t.sm.length → bnd' (M + 134217728 * k) ((List.range k).foldl (step1 t) o) ∧ ((List.range k).foldl (step1 t) o).length ≤ 600
 | 0, _ => by simpa using ⟨ho, hol⟩
 | k + 1, hk => by
  obtain ⟨h1, h2⟩ := fold_bd ht ho hM hol k (by omega)
  have hs := step1_bd ht (show k < t.sm.length by omega)
  obtain ⟨g1, g2, g3, g4, g5, g6⟩ := vT_of ht
  have hw := addAt_bnd (a := t.fr.toNat + k) (D := 134217728) (x := t.sm.getD k 0 * gainS t.gn k) h1 (by omega) hs
  rw [foldl_range_succ, step1, addAt_len]
  refine ⟨?_, by omega⟩
  rw [show M + 134217728 * ((k + 1 : Nat) : Int) = M + 134217728 * k + 134217728 by omega]
  exact hw
theorem addT_bd {t : Trk} (ht : vT t = true) {n : Nat} {o : List Int} (ho : bnd' (134217728 * n) o) (hol : o.length ≤ 600) : bnd' (134217728 * (n + 600 : Nat)) (addT o t) ∧ (addT o t).length ≤ 600 := by
 obtain ⟨h1, h2⟩ := fold_bd ht ho (by omega) hol t.sm.length (by omega)
 obtain ⟨g1, g2, _⟩ := vT_of ht
 exact ⟨fun x hx => by have := h1 x hx; omega, h2⟩
theorem exactL_bd : ∀ {l : List Trk} {n : Nat} {o : List Int}, (∀ t ∈ l, vT t = true) → bnd' (134217728 * n) o → o.length ≤ 600 → bnd' (134217728 * (n + 600 * l.length : Nat)) (l.foldl addT o) ∧ (l.foldl addT o).length ≤ 600
 | [], n, o, _, ho, hl => by simpa using ⟨ho, hl⟩
 | t :: l, n, o, hv, ho, hl => by
  obtain ⟨h1, h2⟩ := addT_bd (hv t (by simp)) ho hl
  obtain ⟨h3, h4⟩ := exactL_bd (l := l) (fun t ht => hv t (by simp [ht])) h1 h2
  refine ⟨?_, h4⟩
  rw [show n + 600 * (t :: l).length = n + 600 + 600 * l.length by simp; omega]
  exact h3
theorem exact_loop0 {h : Heap} {v : AV} {l : List Trk} (hv : Sl h 3 v (trks l)) (hl : l.length ≤ 8) (hz : ∀ t ∈ l, okZ t) (hvt : ∀ t ∈ l, vT t = true) (d : Nat) :
  ∀ (k v1 : Nat) (b1 : Blk), d = l.length - k → k ≤ l.length → ∃ q,
  runC lib ⟨h.length, h.length, 2, none⟩ (.loop b52_0) ([(4, accV (h.length + 0) (0, .dead) 1 (ints (exactL (l.take k)))), (11, v), (12, .int .i64 l.length), (13, .int .i64 k)], h ++ [accB (0, .dead) 1 (ints (exactL (l.take k))), (v1, b1)]) =
   some (.exit 0, ([(4, accV (h.length + 0) (0, .dead) 1 (ints (exactL l)))], h ++ [accB (0, .dead) 1 (ints (exactL l)), q])) := by
 induction d with
 | zero =>
  intro k v1 b1 hd hk
  have : k = l.length := by omega
  subst this
  refine ⟨(v1, b1), ?_⟩
  rw [List.take_length, w_loop]
  simp (maxSteps := 1000000) (disch := omega) only [go_sem, Int.lt_irrefl]
 | succ d ih =>
  intro k v1 b1 hd hk
  have hk' : k < l.length := by omega
  have h1 : (k : Int) < l.length := by omega
  have e3 : sidx 3 v (.int .i64 k) = some k := by rw [sidx_sl hv (by omega) (by simp; omega)]; simp
  have e4 := fun off fr => pc_iptr (off := off) (hv.elems fr) (show k < (trks l).length by simp; omega)
  simp only [trks_get, trk] at e4
  have hz' := hz l[k] (List.getElem_mem _)
  have hvt' := hvt l[k] (List.getElem_mem _)
  have hb := exactL_bd (l := l.take k) (n := 0) (o := []) (fun t ht => hvt t (List.mem_of_mem_take ht)) (by intro x hx; simp at hx) (by simp)
  have hfold : exactL (l.take (k + 1)) = addT (exactL (l.take k)) l[k] := by unfold exactL; rw [List.take_succ_eq_append_getElem hk', List.foldl_append]; rfl
  obtain ⟨t, ht⟩ : ∃ t, t = l[k] := ⟨_, rfl⟩
  rw [← ht] at e4 hz' hvt' hfold
  have s3 := lenv_sl (hz'.sls h).len
  obtain ⟨q, e⟩ := ih (k + 1) (v1 + 1) (.box [.int .i64 t.fr, .lst t.zs (ints t.sm), gV t]) (by omega) (by omega)
  rw [cast1, hfold] at e
  have hb2 : bnd' (134217728 * ((0 + 600 * (l.take k).length : Nat) : Int)) (exactL (l.take k)) := hb.1
  have hb3 : (exactL (l.take k)).length ≤ 600 := hb.2
  have e5 := exact_loop1 (h := h) (v := v) hvt' hz' (exactL (l.take k)) (0 + 600 * (l.take k).length) hb2 hb3 k l.length (v1 + 1) (by simp; omega) _ 0 rfl (by omega) (by simpa using hb2) (by simpa using hb3)
  simp only [List.range_zero, List.foldl_nil, Int.natCast_zero] at e5
  refine ⟨q, ?_⟩
  rw [w_loop]
  simp (maxSteps := 1000000) (disch := omega) only [go_sem, h1, e3, e4, s3, ints_len, e5, e]
theorem exact_run {h : Heap} {v : AV} {l : List Trk} (hv : Sl h 3 v (trks l)) (hl : l.length ≤ 9223372036854775807) (hz : ∀ t ∈ l, okT t) (lo : Nat) :
  (run lib).fn 52 [v] h lo = some (if validB l = true then .tuple [ownV 1 (ints (exactL l)), .int .i64 0] else .tuple [.own 0 [], .int .i64 170], h) := by
 have e1 := fun fr lo => valid_run (hv.app fr) hl hz lo
 rw [run_closed (x := x52) rfl rfl rfl rfl]
 cases hb : validB l with
 | false =>
  rw [hb] at e1
  simp (maxSteps := 1000000) (disch := omega) only [go_sem, x52, e1]
 | true =>
  rw [hb] at e1
  unfold validB at hb
  simp only [Bool.and_eq_true, decide_eq_true_eq, List.all_eq_true] at hb
  obtain ⟨q, e⟩ := exact_loop0 hv (by omega) (fun t ht => (hz t ht).z) hb.1 _ 0 0 .dead rfl (by omega)
  simp only [Int.natCast_zero, List.take_zero, exactL, List.foldl_nil, ints, List.map_nil, accV_nil, accB_nil] at e
  have e2 := give_acc (s := 0) (z := 1) (h := h) (fr := [accB (0, .dead) 1 (ints (exactL l)), q]) (b0 := (0, .dead)) (es := ints (exactL l)) rfl
  simp only [ints, exactL] at e2 ⊢
  simp (maxSteps := 1000000) (disch := omega) only [go_sem, x52, e1, lenv_sl hv.len, trks_len, e, e2]
theorem mix_loop {h : Heap} {es : List Int} (hl : es.length ≤ 600) (hb : bnd' 900000000000 es) (e0 : AV) (ver : Nat) (d : Nat) :
  ∀ k : Nat, d = es.length - k → k ≤ es.length →
  runC lib ⟨h.length, h.length, 1, none⟩ (.loop b30_0) ([(4, .ref (h.length + 0) ver 1 0 es.length es.length), (5, e0), (13, .int .i64 es.length), (14, .int .i64 k)], h ++ [(ver, .arr 1 (ints ((es.take k).map roundS ++ es.drop k)))]) =
   some (.exit 0, ([(4, .ref (h.length + 0) ver 1 0 es.length es.length), (5, e0)], h ++ [(ver, .arr 1 (ints (es.map roundS)))])) := by
 induction d with
 | zero =>
  intro k hd hk
  have : k = es.length := by omega
  subst this
  rw [List.take_length, List.drop_length, List.append_nil, w_loop]
  simp (maxSteps := 1000000) (disch := omega) only [go_sem, Int.lt_irrefl]
 | succ d ih =>
  intro k hd hk
  have hk' : k < es.length := by omega
  have c1 : (k : Int) < es.length := by omega
  obtain ⟨cur, hcur⟩ : ∃ cur, cur = (es.take k).map roundS ++ es.drop k := ⟨_, rfl⟩
  have hcl : cur.length = es.length := by rw [hcur]; simp; omega
  have hv := Sl.refAll (h := h) (fr := [(ver, .arr 1 (ints cur))]) (s := 0) (ver := ver) (z := 1) (es := ints cur) rfl
  rw [ints_len, hcl] at hv
  have e3 : sidx 1 (.ref (h.length + 0) ver 1 0 es.length es.length) (.int .i64 k) = some k := by rw [sidx_sl hv (by omega) (by simp; omega)]; simp
  have e4 := fun off => pc_iptr (off := off) hv.elems0 (show k < (ints cur).length by simp; omega)
  simp only [ints_get] at e4
  have hck : cur[k]'(by omega) = es[k] := by
   simp only [hcur]
   rw [List.getElem_append_right (by simp; omega)]
   simp
   congr 1; omega
  rw [hck] at e4
  have hx := hb _ (List.getElem_mem hk')
  have e5 := ps_iptr_fr (lo := h.length) (ns := 1) (h := h) (fr := [(ver, .arr 1 (cur.map (.int .i64)))]) (s := 0) (ver := ver) (o := 0) (len := es.length) (fill := es.length) (i := k) (k := .i64) (l := cur) (n := roundS es[k]) rfl hcl (by omega) hk' (by omega)
  have hnew : cur.set k (roundS es[k]) = (es.take (k + 1)).map roundS ++ es.drop (k + 1) := by
   rw [hcur, List.take_succ_eq_append_getElem hk', List.drop_eq_getElem_cons hk', List.map_append, List.append_assoc, List.set_append_right _ _ (by simp; omega)]
   congr 1
   have : k - ((es.take k).map roundS).length = 0 := by simp; omega
   rw [this]; rfl
  rw [Nat.zero_add, hnew] at e5
  have e := ih (k + 1) (by omega) (by omega)
  rw [cast1] at e
  rw [← hcur, w_loop]
  simp only [ints] at e4 e5 e ⊢
  simp (maxSteps := 1000000) (disch := omega) only [go_sem, c1, e3, e4, round_run, e5, e]
def ownF (es : List AV) : AV := if es = [] then .lsf 0 [] else .own 1 es
theorem Sl.lsf0 (h : Heap) : Sl h 1 (.lsf 0 []) [] := ⟨by simp [VI.zok], fun _ => rfl, rfl⟩
theorem mix_run {h : Heap} {v : AV} {l : List Trk} (hv : Sl h 3 v (trks l)) (hl : l.length ≤ 9223372036854775807) (hz : ∀ t ∈ l, okT t) (lo : Nat) :
  (run lib).fn 30 [v] h lo = some (if validB l = true then .tuple [ownF (ints ((exactL l).map roundS)), .int .i64 0] else .tuple [.lsf 0 [], .int .i64 170], h) := by
 have e1 := fun fr lo => exact_run (hv.app fr) hl hz lo
 have gl : ∀ b z es H, give b (.lsf z es) H = some (.lsf z es, H) := fun b z es H => by simp [give, frz]
 rw [run_closed (x := x30) rfl rfl rfl rfl]
 cases hb : validB l with
 | false =>
  rw [hb] at e1
  have t1 := take_none2 (cx := ⟨h.length, h.length, 1, none⟩) (s := 0) (h := h ++ [(0, .dead)]) (r := [.int .i64 170])
  have l1 := (Sl.lsf0 h).len
  simp (maxSteps := 1000000) (disch := omega) only [go_sem, x30, e1, t1, lenv_sl l1, w_loop, gl]
 | true =>
  rw [hb] at e1
  unfold validB at hb
  simp only [Bool.and_eq_true, decide_eq_true_eq, List.all_eq_true] at hb
  obtain ⟨b1, b2⟩ := exactL_bd (l := l) (n := 0) (o := []) hb.1 (by intro x hx; simp at hx) (by simp)
  obtain ⟨es, hes⟩ : ∃ es, es = exactL l := ⟨_, rfl⟩
  have b3 : bnd' 900000000000 es := by
   intro x hx
   rw [hes] at hx
   have := b1 x hx
   omega
  have b4 : es.length ≤ 600 := by rw [hes]; exact b2
  rw [← hes] at e1 ⊢
  by_cases h0 : es = []
  ·rw [h0] at e1 ⊢
   have t1 := take_none2 (cx := ⟨h.length, h.length, 1, none⟩) (s := 0) (h := h ++ [(0, .dead)]) (r := [.int .i64 0])
   have l1 := (Sl.lsf0 h).len
   simp only [ints, List.map_nil, ownV_nil] at e1 ⊢
   simp (maxSteps := 1000000) (disch := omega) only [go_sem, x30, e1, t1, lenv_sl l1, w_loop, ownF, gl]
  ·have hne : ints es ≠ [] := by rw [ne_eq, ints_nil]; exact h0
   have t1 := take_own2 (lo := h.length) (ns := 1) (s := 0) (z := 1) (h := h) (fr := [(0, .dead)]) (b0 := (0, .dead)) (es := ints es) (r := [.int .i64 0]) (by omega) rfl hne
   rw [ints_len] at t1
   have hv2 := Sl.refAll (h := h) (fr := [(0 + 1, .arr 1 (ints es))]) (s := 0) (ver := 0 + 1) (z := 1) (es := ints es) rfl
   rw [ints_len] at hv2
   have e := mix_loop (h := h) b4 b3 (.int .i64 0) (0 + 1) _ 0 rfl (by omega)
   simp only [Int.natCast_zero, List.take_zero, List.map_nil, List.nil_append, List.drop_zero] at e
   have hne2 : ints (es.map roundS) ≠ [] := by rw [ne_eq, ints_nil]; simpa using h0
   have g := give_fr (h := h) (fr := [(0 + 1, .arr 1 (ints (es.map roundS)))]) (s := 0) (ver := 0 + 1) (z := 1) (es := ints (es.map roundS)) rfl
   rw [ints_len, List.length_map] at g
   simp only [Nat.zero_add] at t1 hv2 e g
   simp (maxSteps := 1000000) (disch := omega) only [go_sem, x30, e1, t1, lenv_sl hv2.len, ints_len, e, g, ownF, if_neg hne2]
end Go.VI.Loud.Mx
namespace Go.VI.Loud
open Go.VI.Num
/- BIGSTEPS -/
def oneT (S : List Int) (g : Int) : Mx.Trk := ⟨0, S, [(0, g)], if S = [] then 0 else 1, 2, true⟩
theorem oneT_trk (S : List Int) (g : Int) : Mx.trks [oneT S g] = [.agg [.int .i64 0, lstV 1 (ints S), .lsf 2 [.agg [.int .i64 0, .int .i64 g]]]] := by
 by_cases h : S = []
 ·subst h; rfl
 ·have h2 : ints S ≠ [] := by simpa [ints] using h
  unfold Mx.trks oneT Mx.trk Mx.gV lstV
  simp only [List.map_cons, List.map_nil, h, h2, if_true, if_false]
  rfl
theorem gain_const (g t : Int) : Mx.gainS [(0, g)] t = g := by
 show (if t ≤ (0 : Int) then g else g) = g
 split <;> rfl
theorem add_end (o : List Int) (x : Int) : Mx.addAt o o.length x = o ++ [x] := by
 have e : Mx.padS o o.length = o ++ [0] := by
  unfold Mx.padS
  rw [show o.length + 1 - o.length = 1 by omega]; rfl
 unfold Mx.addAt
 rw [e]
 simp [List.set_append]
theorem one_fold {S : List Int} {g : Int} : ∀ n : Nat, n ≤ S.length → (List.range n).foldl (Mx.step1 (oneT S g)) [] = (S.take n).map (· * g)
 | 0, _ => rfl
 | n + 1, h => by
  rw [List.range_succ, List.foldl_append, one_fold n (by omega), List.take_succ_eq_append_getElem (by omega), List.map_append]
  simp only [List.foldl_cons, List.foldl_nil, List.map_cons, List.map_nil]
  unfold Mx.step1 oneT
  simp only [gain_const]
  have e1 : (0 : Int).toNat + n = ((S.take n).map (· * g)).length := by simp; omega
  rw [e1, add_end, List.getD_eq_getElem?_getD, List.getElem?_eq_getElem (by omega)]
  rfl
theorem one_exact (S : List Int) (g : Int) : Mx.exactL [oneT S g] = S.map (· * g) := by
 have := one_fold (S := S) (g := g) S.length (Nat.le_refl _)
 rw [List.take_length] at this
 exact this
theorem one_valid {S : List Int} {g : Int} (hS : ∀ s ∈ S, -2000 ≤ s ∧ s ≤ 2000) (hl : S.length ≤ 192) (hg : 0 ≤ g ∧ g ≤ 4096) : Mx.validB [oneT S g] = true := by
 unfold Mx.validB
 simp only [List.all_cons, List.all_nil, Bool.and_true, List.length_singleton, Bool.and_eq_true, decide_eq_true_eq]
 refine ⟨?_, by decide⟩
 unfold Mx.vT Mx.soundB oneT Mx.curveB Mx.curveB
 simp only [Bool.and_eq_true, decide_eq_true_eq, List.all_eq_true]
 refine ⟨⟨⟨by omega, fun s hs => ?_⟩, ⟨⟨⟨by omega, by omega⟩, hg.1, hg.2⟩, trivial⟩, by simp⟩, by omega, by omega⟩
 have := hS s hs
 unfold Mx.okS
 simp only [Bool.and_eq_true, decide_eq_true_eq]
 omega
def lfV (es : List AV) : AV := if es = [] then .lsf 0 [] else .lst 1 es
theorem weak1_ownF (es : List AV) : weak1 (Mx.ownF es) = lfV es := by unfold Mx.ownF lfV; split <;> rfl
theorem Sl.lfV (H : Heap) (es : List AV) : Sl H 1 (lfV es) es := by
 unfold VI.Loud.lfV
 split
 ·rename_i h
  subst h
  exact ⟨by simp [VI.zok], fun _ => rfl, rfl⟩
 ·exact Sl.lst H 1 es
theorem round_small {x g P c : Int} (h1 : 128 * x ≤ P) (h2 : -(128 * x) ≤ P) (hg : 0 ≤ g) (hp : P * g ≤ c * 1024) (hc : 0 ≤ c ∧ c ≤ 599999) :
  128 * max (Mx.roundS (x * g)) (-(Mx.roundS (x * g))) ≤ c + 64 ∧ -32768 ≤ Mx.roundS (x * g) ∧ Mx.roundS (x * g) ≤ 32768 := by
 have k1 : 128 * x * g ≤ P * g := Int.mul_le_mul_of_nonneg_right h1 hg
 have k2 : -(128 * x) * g ≤ P * g := Int.mul_le_mul_of_nonneg_right h2 hg
 rw [Int.mul_assoc] at k1
 rw [Int.neg_mul, Int.mul_assoc] at k2
 unfold Mx.roundS
 generalize x * g = y at *
 omega
theorem mixed_loop (cx : Cx) {H : Heap} {V : AV} {l : List Int} (hv : Sl H 1 V (ints l)) (hl : l.length ≤ 1000) {c : Int} (hc : 0 ≤ c ∧ c ≤ 599999) (hb : ∀ x ∈ l, 128 * max x (-x) ≤ c + 64 ∧ -32768 ≤ x ∧ x ≤ 32768) (u : AV) : ∀ (d k : Nat), k + d = l.length →
  runC lib cx (.loop b9_0) ([(7, u), (9, .int .i64 c), (12, V), (14, .int .i64 k)], H) = some (.exit 0, ([(7, u)], H)) := by
 have lv := lenv_sl hv.len
 rw [ints_len] at lv
 intro d
 induction d with
 | zero =>
  intro k hd
  obtain rfl : k = l.length := by omega
  rw [w_loop]
  simp (maxSteps := 30000000) (disch := omega) only [go_sem, lv, Int.lt_irrefl]
 | succ d ih =>
  intro k hd
  have hk' : k < l.length := by omega
  have h1 : (k : Int) < l.length := by omega
  have e3 : sidx 1 V (.int .i64 k) = some k := by rw [sidx_sl hv (by omega) (by simp; omega)]; simp
  have e4 := fun off => pc_iptr (off := off) hv.elems0 (show k < (ints l).length by simp; omega)
  simp only [ints_get] at e4
  have e := ih (k + 1) (by omega)
  rw [cast1] at e
  obtain ⟨b1, b2, b3⟩ := hb l[k] (List.getElem_mem _)
  generalize l[k] = x at *
  have n1 : ¬ c + 64 < 128 * max x (-x) := by omega
  rw [w_loop]
  simp (maxSteps := 30000000) (disch := omega) only [go_sem, lv, h1, e3, e4, n1, e]
theorem mixed_run {h : Heap} {v : AV} {xs : List Int} (hv : Sl h 1 v (ints xs)) (hl : xs.length ≤ 9223372036854775807) (hi : ∀ x ∈ xs, I64 x) {most ceiling : Int} (h1 : I64 most) (h2 : I64 ceiling) (lo : Nat) :
  (run lib).fn 9 [v, .int .i64 most, .int .i64 ceiling] h lo = some (.bool true, h) := by
 obtain ⟨vv, vc⟩ := Sl_val hv
 have sn := fun H lo => ksane_run H lo
 have md := fun lo => made_run hv hl hi lo
 have hk := sound_ok xs
 have hS := fun s (hs : s ∈ soundL xs) => sound_mem hs
 have hSl := sound_len xs
 generalize soundL xs = S at *
 have p1 := fun H lo => kpick_run (n := 100000) (by decide) h1 H lo
 have p2 := fun H lo => kpick_run (n := 600000) (by decide) h2 H lo
 have r1 := pkI_range most (n := 100000) (by decide)
 have r2 := pkI_range ceiling (n := 600000) (by decide)
 generalize pkI most 100000 = m at *
 generalize pkI ceiling 600000 = c at *
 have sl := fun H => Sl.lstV H 1 (ints S)
 have gn := fun H lo => ugain_ok (sl H) hk (most := m) (c := c) (by omega) (by omega) lo
 obtain ⟨k1, k2, _⟩ := gain_keeps (l := S) (m := m) (c := c) r1.1 r2.1
 generalize gainL S m c = G at *
 unfold keepsB at k2
 simp only [Bool.and_eq_true, decide_eq_true_eq] at k2
 obtain ⟨_, k4⟩ := k2
 have pbs := peak_bounds S
 have va := one_valid (g := (G : Int)) hS (by omega) (by omega)
 have ht : ∀ t ∈ [oneT S (G : Int)], Mx.okT t := fun t ht => by
  rw [List.mem_singleton] at ht
  subst ht
  refine ⟨⟨?_, .inl rfl⟩, ?_, ?_, by simp [oneT]⟩
  ·by_cases h : S = []
   ·exact .inr h
   ·exact .inl (if_neg h)
  ·show -9223372036854775808 ≤ (0 : Int) ∧ (0 : Int) ≤ 9223372036854775807; decide
  ·show S.length ≤ _; omega
 have mx := fun H lo => Mx.mix_run (h := H) (v := .lsf 3 (Mx.trks [oneT S (G : Int)])) (Sl.lsf H 3 _) (by simp) ht lo
 rw [va, one_exact] at mx
 simp only [if_true, oneT_trk] at mx
 have hb : ∀ x ∈ (S.map (· * (G : Int))).map Mx.roundS, 128 * max x (-x) ≤ c + 64 ∧ -32768 ≤ x ∧ x ≤ 32768 := fun x hx => by
  simp only [List.map_map, List.mem_map, Function.comp] at hx
  obtain ⟨s, hs, rfl⟩ := hx
  obtain ⟨i, hi2, rfl⟩ := List.getElem_of_mem hs
  have am := atL_most S (i : Int)
  rw [atL_get hi2] at am
  exact round_small (P := peakL S) (by omega) (by omega) (by omega) k4 (by omega)
 have hll : ((S.map (· * (G : Int))).map Mx.roundS).length = S.length := by simp
 generalize (S.map (· * (G : Int))).map Mx.roundS = L at *
 have lv := lenv_sl (Sl.lfV h (ints L)).len
 have ls := lenv_sl (sl h).len
 rw [ints_len, hll] at lv
 rw [ints_len] at ls
 have lp := fun u => mixed_loop ⟨h.length, h.length, 0, none⟩ (Sl.lfV h (ints L)) (by omega) (c := c) (by omega) hb u L.length 0 (by omega)
 simp only [Int.natCast_zero] at lp
 have mx2 : ∀ H lo, (run lib).fn 30 [.lsf 3 [.agg [.int .i64 0, lstV 1 (ints S), .lsf 2 [.agg [.int .i64 0, .int .i64 (G : Int)]]]]] H lo = some (.tuple [Mx.ownF (ints L), .int .i64 0], H) := mx
 clear mx
 have cl : ∀ z es, (AV.lsf z es).cells = [.lsf z es] := fun _ _ => rfl
 have vl : ∀ z es, (AV.lsf z es).val = true := fun _ _ => rfl
 rw [run_closed (x := x9) rfl rfl rfl rfl]
 simp (maxSteps := 30000000) (disch := omega) only [go_sem, x9, vv, vc, sn, md, p1, p2, gn, mx2, weak1_ownF, lv, ls, lp, cl, vl]
def shMixed : List Shp := [.slice 1 (.int .i64), .int .i64, .int .i64]
theorem walkMixed (xs : List AV) (ht : TyA shMixed xs) : ∃ h', (run lib).fn 9 xs [] 0 = some (.bool true, h') := by
 simp only [shMixed, TyA] at ht
 obtain ⟨c0, r0, rfl, t0, c1, r1, rfl, t1, c2, r2, rfl, t2, rfl⟩ := ht
 obtain ⟨l, s0, hl, hi⟩ := islice_of t0
 obtain ⟨m, e1, hm⟩ := lint_of' t1
 obtain ⟨c, e2, hc⟩ := lint_of' t2
 rw [e1, e2]
 exact ⟨_, mixed_run (s0 []) hl hi hm hc 0⟩
end Go.VI.Loud
