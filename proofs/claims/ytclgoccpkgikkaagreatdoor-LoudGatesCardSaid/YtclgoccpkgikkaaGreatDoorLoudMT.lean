/- What the functions on integers compute, part MT. -/
import Derived.Test.YtclgoccpkgikkaaGreatDoorLoudMG
set_option linter.unusedVariables false
set_option linter.unusedSimpArgs false
namespace Go.VI.Loud
open Go.VI.Num
/- BIGSTEPS -/
def gvL (x : Int) : Int := if 0 < pkI x 3 then pkI (x.tdiv 3) 100000 else pkI x 34359738369
def enrL (xs : List Int) : List Int := (xs.take 72).map gvL
theorem gvL_bd (x : Int) : 0 ≤ gvL x ∧ gvL x ≤ 34359738368 := by
 have h1 := pkI_range (x.tdiv 3) (n := 100000) (by decide)
 have h2 := pkI_range x (n := 34359738369) (by decide)
 unfold gvL
 split <;> omega
theorem enrL_len (xs : List Int) : (enrL xs).length = min 72 xs.length := by simp [enrL]
theorem enrL_ok (xs : List Int) : okE (enrL xs) := by
 refine ⟨by rw [enrL_len]; omega, fun e he => ?_⟩
 unfold enrL at he
 obtain ⟨x, _, rfl⟩ := List.mem_map.mp he
 exact gvL_bd x
theorem aud_mono {e g k : Int} (h0 : 0 ≤ e) (h1 : 0 ≤ g) (h2 : g ≤ k) (h : audB g e = true) : audB k e = true := by
 unfold audB at *
 simp only [decide_eq_true_eq] at *
 have p1 : e * g ≤ e * k := Int.mul_le_mul_of_nonneg_left h2 h0
 have p2 : 0 ≤ e * k := Int.mul_nonneg h0 (by omega)
 have p3 : e * g * g ≤ e * k * g := Int.mul_le_mul_of_nonneg_right p1 h1
 have p4 : e * k * g ≤ e * k * k := Int.mul_le_mul_of_nonneg_left h2 p2
 omega
theorem enr_loop {h : Heap} {v : AV} {xs : List Int} (hv : Sl h 1 v (ints xs)) (hl : xs.length ≤ 9223372036854775807) (hi : ∀ x ∈ xs, I64 x) (o t : Int) : ∀ (d k : Nat), k + d = min 72 xs.length →
  runC lib ⟨h.length, h.length, 1, none⟩ (.loop b7_2) ([(0, v), (1, .int .i64 o), (2, .int .i64 t), (8, accV (h.length + 0) (0, .dead) 1 (ints ((enrL xs).take k))), (9, .int .i64 k)], h ++ [accB (0, .dead) 1 (ints ((enrL xs).take k))]) =
   some (.exit 0, ([(1, .int .i64 o), (2, .int .i64 t), (8, accV (h.length + 0) (0, .dead) 1 (ints (enrL xs)))], h ++ [accB (0, .dead) 1 (ints (enrL xs))])) := by
 obtain ⟨vv, vc⟩ := Sl_val hv
 have lv := lenv_sl hv.len
 rw [ints_len] at lv
 have hml := enrL_len xs
 intro d
 induction d with
 | zero =>
  intro k hd
  rw [List.take_of_length_le (by omega), w_loop]
  by_cases h1 : (k : Int) < xs.length
  ·have h2 : ¬ (k : Int) < 72 := by omega
   simp (maxSteps := 30000000) (disch := omega) only [go_sem, lv, h1, h2]
  ·simp (maxSteps := 30000000) (disch := omega) only [go_sem, lv, h1]
 | succ d ih =>
  intro k hd
  have hk' : k < xs.length := by omega
  have h1 : (k : Int) < xs.length := by omega
  have h2 : (k : Int) < 72 := by omega
  have e3 : sidx 1 v (.int .i64 k) = some k := by rw [sidx_sl hv (by omega) (by simp; omega)]; simp
  have e4 := fun off fr => pc_iptr (off := off) (hv.elems fr) (show k < (ints xs).length by simp; omega)
  simp only [ints_get] at e4
  have hx := hi xs[k] (List.getElem_mem _)
  have e := ih (k + 1) (by omega)
  have hg : (enrL xs)[k]'(by omega) = gvL xs[k] := by simp [enrL]
  rw [cast1, List.take_succ_eq_append_getElem (by omega), hg, lint_app, lint_one] at e
  generalize xs[k] = x at *
  have p1 := fun H lo => kpick_run (n := 34359738369) (by decide) hx H lo
  have p2 := fun H lo => kpick_run (n := 3) (by decide) hx H lo
  have p3 := fun H lo => kpick_run (n := 100000) (by decide) (tdiv64 hx (n := 3) (by decide)) H lo
  obtain ⟨t1, t2⟩ := tdiv64 hx (n := 3) (by decide)
  obtain ⟨x1, x2⟩ := hx
  have e5 := app_acc (lo := h.length) (ns := 1) (s := 0) (z := 1) (lim := 17592186044416) (h := h) (fr := [accB (0, .dead) 1 (ints ((enrL xs).take k))]) (b0 := (0, .dead)) (es := ints ((enrL xs).take k)) (xs := [.int .i64 (gvL x)]) (by omega) (by omega) rfl (by simp; omega)
  rw [w_loop]
  by_cases c : 0 < pkI x 3
  ·have eg : gvL x = pkI (x.tdiv 3) 100000 := if_pos c
   rw [eg] at e e5
   simp (maxSteps := 30000000) (disch := omega) only [go_sem, lv, h1, h2, e3, e4, p1, p2, p3, c, e5, e]
  ·have eg : gvL x = pkI x 34359738369 := if_neg c
   rw [eg] at e e5
   simp (maxSteps := 30000000) (disch := omega) only [go_sem, lv, h1, h2, e3, e4, p1, p2, c, e5, e]
theorem audL_take {g : Int} {es : List Int} {k : Nat} (h : k < es.length) : audL g (es.take (k + 1)) = if audB g es[k] then audL g (es.take k) ++ [es[k]] else audL g (es.take k) := by
 unfold audL
 rw [List.take_succ_eq_append_getElem h, List.filter_append]
 cases c : audB g es[k] <;> simp [c]
theorem okE_take {es : List Int} (h : okE es) (k : Nat) : okE (es.take k) := ⟨by rw [List.length_take]; have := h.1; omega, fun e he => h.2 e (List.mem_of_mem_take he)⟩
theorem g1_loop (cx : Cx) {H : Heap} {A W : AV} {es : List Int} (hv : Sl H 1 A (ints es)) (hE : okE es) {g k : Int} (hg : 0 ≤ g ∧ g ≤ k) (hk : k ≤ 4096) : ∀ (d i : Nat), i + d = es.length →
  runC lib cx (.loop b7_1) ([(8, A), (11, .int .i64 g), (12, .int .i64 k), (13, W), (15, .int .i64 (audL g (es.take i)).length), (16, .int .i64 (sumL (audL g (es.take i)))), (17, .int .i64 i)], H) =
   some (.exit 2, ([(8, A), (11, .int .i64 g), (13, W), (15, .int .i64 (audL g es).length), (16, .int .i64 (sumL (audL g es)))], H)) := by
 have lv := lenv_sl hv.len
 rw [ints_len] at lv
 intro d
 induction d with
 | zero =>
  intro i hd
  obtain rfl : i = es.length := by omega
  rw [List.take_length, w_loop]
  simp (maxSteps := 30000000) (disch := omega) only [go_sem, lv, Int.lt_irrefl]
 | succ d ih =>
  intro i hd
  have h1' : i < es.length := by omega
  have h1 : (i : Int) < es.length := by omega
  have h72 := hE.1
  have e3 : sidx 1 A (.int .i64 i) = some i := by rw [sidx_sl hv (by omega) (by simp; omega)]; simp
  have e4 := fun off => pc_iptr (off := off) hv.elems0 (show i < (ints es).length by simp; omega)
  simp only [ints_get] at e4
  have eb := hE.2 es[i] (List.getElem_mem _)
  have e := ih (i + 1) (by omega)
  rw [audL_take h1', cast1] at e
  have sb := aud_sum (okE_take hE i) g
  generalize es[i] = x at *
  generalize audL g (es.take i) = T at *
  have a1 := fun lo => vaud_run (e := x) (g := g) eb (by omega) H lo
  have a2 := fun lo => vaud_run (e := x) (g := k) eb (by omega) H lo
  cases c : audB g x with
  | false =>
   rw [c] at e a1
   rw [if_neg Bool.false_ne_true] at e
   rw [w_loop]
   simp (maxSteps := 30000000) (disch := omega) only [go_sem, lv, h1, e3, e4, a1, e]
  | true =>
   have c2 := aud_mono eb.1 hg.1 hg.2 c
   rw [c] at e a1
   rw [c2] at a2
   have es : sumL [x] = x := by simp [sumL]
   rw [if_pos rfl, List.length_append, List.length_singleton, sumL_append, es, cast1] at e
   rw [w_loop]
   simp (maxSteps := 30000000) (disch := omega) only [go_sem, lv, h1, e3, e4, a1, a2, e]
theorem sumG_bd {es : List Int} (hE : okE es) : ∀ L : List Nat, (∀ i ∈ L, i < es.length) → 0 ≤ sumG es L ∧ sumG es L ≤ 34359738368 * L.length := by
 intro L
 induction L with
 | nil => intro _; simp [sumG, sumL]
 | cons x L ih =>
  intro hL
  have h2 := ih fun i hi => hL i (List.mem_cons_of_mem _ hi)
  have h3 := hL x (by simp)
  have h4 := hE.2 es[x] (List.getElem_mem _)
  have e : sumG es (x :: L) = es[x] + sumG es L := by unfold sumG; rw [List.map_cons, sumL_cons, List.getElem?_eq_getElem h3]; rfl
  rw [e, List.length_cons]; omega
theorem g0_loop (cx : Cx) {H : Heap} {A W : AV} {es : List Int} (hv : Sl H 1 A (ints es)) (hE : okE es) {g : Int} (hg : 0 ≤ g ∧ g ≤ 4096) {G : List Nat} (hW : PureSl 1 W (ints (iL G))) (hG : ∀ i ∈ G, ∃ h : i < es.length, audB g es[i] = true) (hS : G.Pairwise (· < ·)) (hl : G.length ≤ 72) (n al : Int) : ∀ (d k : Nat), k + d = G.length →
  runC lib cx (.loop b7_0) ([(8, A), (11, .int .i64 g), (13, W), (15, .int .i64 n), (16, .int .i64 al), (18, .int .i64 (sumG es (G.take k))), (19, .int .i64 k)], H) =
   some (.exit 4, ([(13, W), (15, .int .i64 n), (16, .int .i64 al), (18, .int .i64 (sumG es G))], H)) := by
 have lv := lenv_sl hv.len
 rw [ints_len] at lv
 have hs := hW.sl H
 have lw := lenv_sl hs.len
 rw [ints_len, iL_len] at lw
 have hlt : ∀ i ∈ G, i < es.length := fun i hi => (hG i hi).1
 have h72 := hE.1
 intro d
 induction d with
 | zero =>
  intro k hk
  obtain rfl : k = G.length := by omega
  rw [List.take_length, w_loop]
  simp (maxSteps := 30000000) (disch := omega) only [go_sem, lw, Int.lt_irrefl]
 | succ d ih =>
  intro k hk
  have hk' : k < G.length := by omega
  have h1 : (k : Int) < G.length := by omega
  have e3 : sidx 1 W (.int .i64 k) = some k := by rw [sidx_sl hs (by omega) (by simp [iL_len]; omega)]; simp
  have e4 := fun off => pc_iptr (off := off) hs.elems0 (show k < (ints (iL G)).length by simp [iL_len]; omega)
  have eg : (iL G)[k]'(by simpa [iL_len] using hk') = (G[k] : Int) := by simp [iL]
  simp only [ints_get, eg] at e4
  obtain ⟨hgi, hga⟩ := hG G[k] (List.getElem_mem _)
  have f3 : sidx 1 A (.int .i64 (G[k] : Nat)) = some G[k] := by rw [sidx_sl hv (by omega) (by simp; omega)]; simp
  have f4 := fun off => pc_iptr (off := off) hv.elems0 (show G[k] < (ints es).length by simp; omega)
  simp only [ints_get] at f4
  have e := ih (k + 1) (by omega)
  have et : sumG es (G.take (k + 1)) = sumG es (G.take k) + es[G[k]] := by
   unfold sumG
   rw [List.take_succ_eq_append_getElem hk', List.map_append, sumL_append]
   congr 1
   simp [sumL, hgi]
  rw [et, cast1] at e
  have eb := hE.2 es[G[k]] (List.getElem_mem _)
  have sb := sumG_bd hE (G.take k) fun i hi => hlt i (List.mem_of_mem_take hi)
  have tl : (G.take k).length ≤ 72 := by rw [List.length_take]; omega
  have au := fun lo => vaud_run (e := es[G[k]]) (g := g) eb hg H lo
  rw [hga] at au
  have n1 : ¬ ((G[k] : Nat) : Int) < 0 := by omega
  have n2 : ¬ (es.length : Int) ≤ ((G[k] : Nat) : Int) := by omega
  by_cases k0 : k = 0
  ·subst k0
   generalize es[G[0]] = x at *
   generalize sumG es (G.take 0) = S at *
   generalize G[0] = gk at *
   have z0 : ((0 : Nat) : Int) = 0 := rfl
   rw [z0] at h1 e3 e ⊢
   rw [Int.zero_add] at e
   rw [w_loop]
   simp (maxSteps := 30000000) (disch := omega) only [go_sem, lv, lw, h1, e3, e4, f3, f4, n1, n2, au, e]
  ·have kp : (0 : Int) < k := by omega
   have j3 : sidx 1 W (.int .i64 ((k : Int) - 1)) = some (k - 1) := by
    rw [show (k : Int) - 1 = ((k - 1 : Nat) : Int) by omega, sidx_sl hs (by omega) (by simp [iL_len]; omega)]; simp
   have j4 := fun off => pc_iptr (off := off) hs.elems0 (show k - 1 < (ints (iL G)).length by simp [iL_len]; omega)
   have jg : (iL G)[k - 1]'(by simp [iL_len]; omega) = (G[k - 1] : Int) := by simp [iL]
   simp only [ints_get, jg] at j4
   have hlt2 : G[k - 1] < G[k] := List.pairwise_iff_getElem.mp hS (k - 1) k (by omega) hk' (by omega)
   have n3 : ¬ ((G[k] : Nat) : Int) ≤ ((G[k - 1] : Nat) : Int) := by omega
   generalize es[G[k]] = x at *
   generalize sumG es (G.take k) = S at *
   clear eg jg et
   rw [w_loop]
   simp (maxSteps := 30000000) (disch := omega) only [go_sem, lv, lw, h1, e3, e4, f3, f4, j3, j4, kp, n1, n2, n3, au, e]
theorem gates_run {h : Heap} {v : AV} {xs : List Int} (hv : Sl h 1 v (ints xs)) (hl : xs.length ≤ 9223372036854775807) (hi : ∀ x ∈ xs, I64 x) {one two : Int} (h1 : I64 one) (h2 : I64 two) (lo : Nat) :
  (run lib).fn 7 [v, .int .i64 one, .int .i64 two] h lo = some (.bool true, h) := by
 obtain ⟨vv, vc⟩ := Sl_val hv
 have sn := fun H lo => ksane_run H lo
 have l2 := enr_loop hv hl hi one two _ 0 (Nat.zero_add _)
 simp only [Int.natCast_zero, List.take_zero, show ints [] = [] from rfl, accV_nil, accB_nil] at l2
 have hE := enrL_ok xs
 have ha := Sl.acc (h := h) (fr := [accB (0, .dead) 1 (ints (enrL xs))]) (s := 0) (z := 1) (b0 := (0, .dead)) (es := ints (enrL xs)) rfl
 have vA := accV_val (h.length + 0) (0, .dead) 1 (ints (enrL xs))
 generalize enrL xs = L at *
 have p1 := fun H lo => kpick_run (n := 4097) (by decide) h1 H lo
 have r1 := pkI_range one (n := 4097) (by decide)
 generalize pkI one 4097 = g at *
 have p2 := fun H lo => kpick_run (n := 4097 - g) (by omega) h2 H lo
 have r2 := pkI_range two (n := 4097 - g) (by omega)
 generalize pkI two (4097 - g) = w at *
 obtain ⟨V, W, a1, a2, a3⟩ := ugate_ok ha hE (g := g) (by omega) h.length
 have q1 := g1_loop ⟨h.length, h.length, 1, none⟩ (W := W) ha hE (g := g) (k := g + w) (by omega) (by omega) L.length 0 (by omega)
 have hm : ∀ i ∈ gateL g L, ∃ h : i < L.length, audB g L[i] = true := fun i hi => by
  obtain ⟨_, h2, h3⟩ := idxF_mem (gateB g L) L 0 i hi
  refine ⟨by omega, ?_⟩
  unfold gateB at h3
  simp only [Nat.sub_zero, Bool.and_eq_true] at h3
  exact h3.1
 have hlen := gate_len g L
 have cb := cnt_bound hE g
 have ab := aud_sum hE g
 have q0 := g0_loop ⟨h.length, h.length, 1, none⟩ ha hE (g := g) (by omega) a3 hm (idxF_sorted _ _ _) (by omega) ((audL g L).length) (sumL (audL g L)) (gateL g L).length 0 (by omega)
 have eS : sumG L (gateL g L) = sumL (cntL g L) := by unfold sumG; rw [gate_map]
 have e0 : sumG L ((gateL g L).take 0) = 0 := rfl
 have e1 : audL g (L.take 0) = [] := rfl
 have e2 : sumL [] = 0 := rfl
 rw [eS, e0] at q0
 rw [e1, List.length_nil, e2] at q1
 have ll := lenv_sl (a3.sl (h ++ [accB (0, .dead) 1 (ints L)])).len
 rw [ints_len, iL_len, hlen] at ll
 have avg := gates_avg (aud_nonneg hE g)
 have non := gates_none (aud_nonneg hE g)
 rw [show (audL g L).filter (keepB (audL g L).length (sumL (audL g L))) = cntL g L from rfl] at avg non
 have m1 := mul_bd (A := 2473901162496) (B := 72) (b := ((audL g L).length : Int)) ⟨cb.2.1, cb.2.2⟩ (by omega)
 have m2 := mul_bd (A := 2473901162496) (B := 72) (b := ((cntL g L).length : Int)) ⟨ab.2.1, ab.2.2⟩ (by omega)
 generalize sumL (cntL g L) = S at *
 generalize sumL (audL g L) = T at *
 have z0 : ((0 : Nat) : Int) = 0 := rfl
 rw [z0] at q0 q1
 have bt : (true == true) = true := rfl
 have bf : (false == false) = true := rfl
 have c1 := cb.1
 have c2 := ab.1
 clear cb ab eS e0 e1 e2 hm hE hi h1 h2 ha
 generalize (audL g L).length = a at *
 generalize (cntL g L).length = b at *
 clear hlen a3
 rw [run_closed (x := x7) rfl rfl rfl rfl]
 by_cases c : a = 0
 ·obtain rfl := non.mpr c
  subst c
  clear non avg m1 m2
  rw [z0] at q1 q0 ll
  simp (maxSteps := 30000000) (disch := omega) only [go_sem, x7, vv, vc, sn, l2, p1, p2, a1, a2, q1, q0, ll, vA, Int.mul_zero, bt]
 ·have d1 : ¬ (a : Int) = 0 := by omega
  have d2 : ¬ (b : Int) = 0 := fun e => c (non.mp (by omega))
  clear non c
  simp (maxSteps := 30000000) (disch := omega) only [go_sem, x7, vv, vc, sn, l2, p1, p2, a1, a2, q1, q0, ll, vA, d1, d2, avg, bf]
def shGates : List Shp := [.slice 1 (.int .i64), .int .i64, .int .i64]
theorem walkGates (xs : List AV) (ht : TyA shGates xs) : ∃ h', (run lib).fn 7 xs [] 0 = some (.bool true, h') := by
 simp only [shGates, TyA] at ht
 obtain ⟨c0, r0, rfl, t0, c1, r1, rfl, t1, c2, r2, rfl, t2, rfl⟩ := ht
 obtain ⟨l, s0, hl, hi⟩ := islice_of t0
 obtain ⟨m, e1, hm⟩ := int_of' t1
 obtain ⟨c, e2, hc⟩ := int_of' t2
 rw [e1, e2]
 exact ⟨_, gates_run (s0 []) hl hi hm hc 0⟩
end Go.VI.Loud
