import Derived.Test.YtegokpicloedeaaMixD
import Derived.Test.YtegokpicloedeaaMixA
namespace Go.VI.Mix
set_option linter.unusedVariables false
set_option linter.unusedSimpArgs false

structure Trk where
  fr : Int
  sm : List Int
  gn : List (Int × Int)
  zs : Nat
  zg : Nat
def trk (t : Trk) : AV := .agg [.int .i64 t.fr, .lst t.zs (ints t.sm), .lst t.zg (pts t.gn)]
def trks (l : List Trk) : List AV := l.map trk
structure okZ (t : Trk) : Prop where
  s : t.zs = 1 ∨ t.sm = []
  g : t.zg = 2 ∨ t.gn = []
@[simp] theorem trks_len (l : List Trk) : (trks l).length = l.length := by simp [trks]
theorem trks_get (l : List Trk) (k : Nat) (h : k < (trks l).length) : (trks l)[k] = trk (l[k]'(by simpa using h)) := by simp [trks]
theorem trks_app (a b : List Trk) : trks (a ++ b) = trks a ++ trks b := by simp [trks]
theorem okZ.sls {t : Trk} (hz : okZ t) (h : Heap) : Sl h 1 (.lst t.zs (ints t.sm)) (ints t.sm) := sl_lst (hz.s.imp id fun h => by rw [h]; rfl)
theorem okZ.slg {t : Trk} (hz : okZ t) (h : Heap) : Sl h 2 (.lst t.zg (pts t.gn)) (pts t.gn) := sl_lst (hz.g.imp id fun h => by rw [h]; rfl)
def mkT (fr : Int) (sm : List Int) (gn : List (Int × Int)) : Trk := ⟨fr, sm, gn, if sm = [] then 0 else 1, if gn = [] then 0 else 2⟩
theorem ints_nil {l : List Int} : ints l = [] ↔ l = [] := by simp [ints]
theorem pts_nil {l : List (Int × Int)} : pts l = [] ↔ l = [] := by simp [pts]
theorem trk_mkT (fr : Int) (sm : List Int) (gn : List (Int × Int)) : trk (mkT fr sm gn) = .agg [.int .i64 fr, lstV 1 (ints sm), lstV 2 (pts gn)] := by
  unfold trk mkT lstV
  by_cases h1 : sm = [] <;> by_cases h2 : gn = [] <;> simp [h1, h2, ints_nil, pts_nil] <;> simp [ints, pts]
theorem okZ_mkT (fr : Int) (sm : List Int) (gn : List (Int × Int)) : okZ (mkT fr sm gn) := by
  constructor
  · by_cases h1 : sm = []
    · exact .inr h1
    · exact .inl (by simp [mkT, h1])
  · by_cases h1 : gn = []
    · exact .inr h1
    · exact .inl (by simp [mkT, h1])

def trackS (sound : List Int) (x : List (Int × Int)) (i : Nat) (p : Int × Int) : Trk :=
  mkT (pickS p.1 60) (sound.drop (pickS p.2 (sound.length + 1)).toNat) (curvedS (-1) (((x.take (min (3 * i + 3) x.length)).drop (min (3 * i) x.length)).take 6))
def tracksS (sound : List Int) (x y : List (Int × Int)) : List Trk := (y.take 4).mapIdx fun i p => trackS sound x i p

theorem tracks_loop {h : Heap} {v u t : AV} {sd : List Int} {x y : List (Int × Int)} (hv : Sl h 1 v (ints sd)) (hu : Sl h 2 u (pts x)) (ht : Sl h 2 t (pts y)) (hl : sd.length ≤ 1000) (hx : x.length ≤ 9223372036854775807) (hy : y.length ≤ 9223372036854775807)
    (hxi : ∀ p ∈ x, okI p.1 ∧ okI p.2) (hyi : ∀ p ∈ y, okI p.1 ∧ okI p.2) (d : Nat) :
    ∀ (k v1 v2 : Nat) (b2 : Blk), d = min 4 y.length - k → k ≤ min 4 y.length → ∃ q1 q2,
    runC lib ⟨h.length, h.length, 3, none⟩ (.loop b17_0) ([(0, v), (1, u), (2, t), (7, accV (h.length + 0) (0, .dead) 3 (trks ((tracksS sd x y).take k))), (8, .int .i64 k)], h ++ [accB (0, .dead) 3 (trks ((tracksS sd x y).take k)), (v1, .dead), (v2, b2)]) =
      some (.exit 0, ([(7, accV (h.length + 0) (0, .dead) 3 (trks (tracksS sd x y)))], h ++ [accB (0, .dead) 3 (trks (tracksS sd x y)), q1, q2])) := by
  have hml : (tracksS sd x y).length = min 4 y.length := by simp [tracksS]
  induction d with
  | zero =>
    intro k v1 v2 b2 hd hk
    refine ⟨(v1, .dead), (v2, b2), ?_⟩
    rw [List.take_of_length_le (by omega), w_loop]
    by_cases h1 : (k : Int) < y.length
    · have h2 : ¬ (k : Int) < 4 := by omega
      simp (maxSteps := 1000000) (disch := omega) only [go_sem, ↓reduceIte, Nat.reduceEqDiff, Nat.reduceAdd, Nat.reduceSub, Nat.reduceMul, Nat.reduceLT, Nat.reduceLeDiff, reduceCtorEq, Nat.succ_ne_self, ne_eq, not_true_eq_false, not_false_eq_true, and_self, and_true, true_and, Nat.zero_add, Nat.sub_zero, Nat.zero_mul, Nat.one_mul, Nat.le_refl, List.getElem?_cons_zero, List.set_cons_zero, Int.reduceToNat, Int.reduceLT, Int.reduceLE, Int.reduceAdd, Int.reduceSub, Int.reduceMul, Int.reduceEq, Int.reduceNe, Int.toNat_natCast, Int.natCast_zero, wrap_id, wrapu_id, wrapb_id, idx_ok, bin_quo, bin_rem, tdiv_id, tmod_id, ps_bptr, lenv_sl ht.len, pts_len, h1, h2]
    · simp (maxSteps := 1000000) (disch := omega) only [go_sem, ↓reduceIte, Nat.reduceEqDiff, Nat.reduceAdd, Nat.reduceSub, Nat.reduceMul, Nat.reduceLT, Nat.reduceLeDiff, reduceCtorEq, Nat.succ_ne_self, ne_eq, not_true_eq_false, not_false_eq_true, and_self, and_true, true_and, Nat.zero_add, Nat.sub_zero, Nat.zero_mul, Nat.one_mul, Nat.le_refl, List.getElem?_cons_zero, List.set_cons_zero, Int.reduceToNat, Int.reduceLT, Int.reduceLE, Int.reduceAdd, Int.reduceSub, Int.reduceMul, Int.reduceEq, Int.reduceNe, Int.toNat_natCast, Int.natCast_zero, wrap_id, wrapu_id, wrapb_id, idx_ok, bin_quo, bin_rem, tdiv_id, tmod_id, ps_bptr, lenv_sl ht.len, pts_len, h1]
  | succ d ih =>
    intro k v1 v2 b2 hd hk
    have hk' : k < y.length := by omega
    have h1 : (k : Int) < y.length := by omega
    have h2 : (k : Int) < 4 := by omega
    have e3 : sidx 2 t (.int .i64 k) = some k := by rw [sidx_sl ht (by omega) (by simp; omega)]; simp
    have e4 := fun off fr => pc_iptr (off := off) (ht.elems fr) (show k < (pts y).length by simp; omega)
    simp only [pts_get, pt] at e4
    have hp' := hyi y[k] (List.getElem_mem _)
    have hg : (tracksS sd x y)[k]'(by omega) = trackS sd x k y[k] := by simp [tracksS]
    obtain ⟨p, hp⟩ : ∃ p, p = y[k] := ⟨_, rfl⟩
    rw [← hp] at e4 hp' hg
    obtain ⟨⟨i1, i2⟩, i3, i4⟩ := hp'
    have p1 := pickS_bd (c := p.1) (n := 60) (by omega)
    have p2 := pickS_bd (c := p.2) (n := sd.length + 1) (by omega)
    obtain ⟨n, hn⟩ : ∃ n : Nat, (n : Int) = pickS p.2 (sd.length + 1) := ⟨(pickS p.2 (sd.length + 1)).toNat, by omega⟩
    -- the curve
    obtain ⟨a, ha⟩ : ∃ a, a = min (3 * k) x.length := ⟨_, rfl⟩
    obtain ⟨b, hb⟩ : ∃ b, b = min (3 * k + 3) x.length := ⟨_, rfl⟩
    have ha' : min ((3 : Int) * k) x.length = a := by omega
    have hb' : min ((3 : Int) * k + 3) x.length = b := by omega
    obtain ⟨u', s1, _, s3⟩ := slicev_sl (hu.app [accB (0, .dead) 3 (trks ((tracksS sd x y).take k)), (v1, .dead), (v2, .dead)]) (lo := some (.int .i64 a)) (hi := some (.int .i64 b)) (a := a) (b := b) (by rw [bnd_ok (by omega) (by simp; omega)]; simp) (by rw [bnd_ok (by omega) (by omega)]; simp) (by omega) (by simp; omega)
    have s4 : ((pts x).take b).drop a = pts ((x.take b).drop a) := by simp [pts]
    rw [s4] at s3
    have s5 := fun lo => curved_run s3 (by simp; omega) (fun q hq => hxi q (List.mem_of_mem_take (List.mem_of_mem_drop hq))) lo
    obtain ⟨c, hc⟩ : ∃ c, c = curvedS (-1) (((x.take b).drop a).take 6) := ⟨_, rfl⟩
    rw [← hc] at s5
    -- the samples
    obtain ⟨v', r1, _, r3⟩ := slicev_sl (hv.app [accB (0, .dead) 3 (trks ((tracksS sd x y).take k)), (v1, .dead), (v2 + 1, .box [.int .i64 (pickS p.1 60), .nilSl, lstV 2 (pts c)])]) (lo := some (.int .i64 n)) (hi := none) (a := n) (b := sd.length) (by simp [bnd]) (by rw [bnd_ok (by omega) (by omega)]; simp) (by omega) (by simp)
    have r4 : ((ints sd).take sd.length).drop n = ints (sd.drop n) := by rw [List.take_of_length_le (by simp)]; simp [ints]
    rw [r4] at r3
    have r5 := app_acc (lo := h.length) (ns := 3) (s := 1) (z := 1) (lim := 17592186044416) (h := h) (fr := [accB (0, .dead) 3 (trks ((tracksS sd x y).take k)), (v1, .dead), (v2 + 1, .box [.int .i64 (pickS p.1 60), .nilSl, lstV 2 (pts c)])]) (b0 := (v1, .dead)) (es := []) (xs := ints (sd.drop n)) (by omega) (by omega) rfl (by simp; omega)
    rw [accV_nil, List.nil_append] at r5
    have hT : trackS sd x k p = mkT (pickS p.1 60) (sd.drop n) c := by
      unfold trackS; rw [← ha, ← hb, ← hc, ← hn]; simp
    obtain ⟨v1', hv1⟩ := accD_dead v1 (ints (sd.drop n))
    obtain ⟨q1, q2, e⟩ := ih (k + 1) v1' (v2 + 1) (.box [.int .i64 (pickS p.1 60), accV (h.length + 1) (v1, .dead) 1 (ints (sd.drop n)), lstV 2 (pts c)]) (by omega) (by omega)
    rw [cast1, List.take_succ_eq_append_getElem (by omega), hg, hT, trks_app] at e
    have e1 : trks [mkT (pickS p.1 60) (sd.drop n) c] = [.agg [.int .i64 (pickS p.1 60), lstV 1 (ints (sd.drop n)), lstV 2 (pts c)]] := by simp [trks, trk_mkT]
    rw [e1] at e
    have f1 := frz_acc (s := 1) (z := 1) (k := false) (h := h) (fr := [accB (0, .dead) 3 (trks ((tracksS sd x y).take k)), accB (v1, .dead) 1 (ints (sd.drop n)), (v2 + 1, .box [.int .i64 (pickS p.1 60), accV (h.length + 1) (v1, .dead) 1 (ints (sd.drop n)), lstV 2 (pts c)])]) (b0 := (v1, .dead)) (es := ints (sd.drop n)) rfl
    have e5 := app_acc (lo := h.length) (ns := 3) (s := 0) (z := 3) (lim := 2513169434916) (h := h) (fr := [accB (0, .dead) 3 (trks ((tracksS sd x y).take k)), (v1', .dead), (v2 + 1, .box [.int .i64 (pickS p.1 60), accV (h.length + 1) (v1, .dead) 1 (ints (sd.drop n)), lstV 2 (pts c)])]) (b0 := (0, .dead)) (es := trks ((tracksS sd x y).take k)) (xs := [.agg [.int .i64 (pickS p.1 60), lstV 1 (ints (sd.drop n)), lstV 2 (pts c)]]) (by omega) (by omega) rfl (by simp; omega)
    refine ⟨q1, q2, ?_⟩
    rw [w_loop]
    simp (maxSteps := 1000000) (disch := omega) only [go_sem, ↓reduceIte, Nat.reduceEqDiff, Nat.reduceAdd, Nat.reduceSub, Nat.reduceMul, Nat.reduceLT, Nat.reduceLeDiff, reduceCtorEq, Nat.succ_ne_self, ne_eq, not_true_eq_false, not_false_eq_true, and_self, and_true, true_and, Nat.zero_add, Nat.sub_zero, Nat.zero_mul, Nat.one_mul, Nat.le_refl, List.getElem?_cons_zero, List.set_cons_zero, Int.reduceToNat, Int.reduceLT, Int.reduceLE, Int.reduceAdd, Int.reduceSub, Int.reduceMul, Int.reduceEq, Int.reduceNe, Int.toNat_natCast, Int.natCast_zero, wrap_id, wrapu_id, wrapb_id, idx_ok, bin_quo, bin_rem, tdiv_id, tmod_id, ps_bptr, lenv_sl ht.len, lenv_sl hu.len, lenv_sl hv.len, ints_len, pts_len, h1, h2, e3, e4, pick33, ha', hb', s1, s5, ← hn, r1, appSrc_sl r3, r5, f1, hv1, e5, e]

theorem tracks_run {h : Heap} {v u t : AV} {sd : List Int} {x y : List (Int × Int)} (hv : Sl h 1 v (ints sd)) (hu : Sl h 2 u (pts x)) (ht : Sl h 2 t (pts y)) (hl : sd.length ≤ 1000) (hx : x.length ≤ 9223372036854775807) (hy : y.length ≤ 9223372036854775807)
    (hxi : ∀ p ∈ x, okI p.1 ∧ okI p.2) (hyi : ∀ p ∈ y, okI p.1 ∧ okI p.2) (lo : Nat) : (run lib).fn 17 [v, u, t] h lo = some (ownV 3 (trks (tracksS sd x y)), h) := by
  obtain ⟨q1, q2, e⟩ := tracks_loop hv hu ht hl hx hy hxi hyi _ 0 0 0 .dead rfl (by omega)
  simp only [Int.natCast_zero, List.take_zero, trks, List.map_nil, accV_nil, accB_nil] at e
  have e2 := giveRes_acc (s := 0) (z := 3) (h := h) (fr := [accB (0, .dead) 3 (trks (tracksS sd x y)), q1, q2]) (b0 := (0, .dead)) (es := trks (tracksS sd x y)) rfl
  simp only [trks] at e2 ⊢
  rw [run_closed (x := x17) rfl rfl rfl rfl]
  simp (maxSteps := 1000000) (disch := omega) only [go_sem, ↓reduceIte, Nat.reduceEqDiff, Nat.reduceAdd, Nat.reduceSub, Nat.reduceMul, Nat.reduceLT, Nat.reduceLeDiff, reduceCtorEq, Nat.succ_ne_self, ne_eq, not_true_eq_false, not_false_eq_true, and_self, and_true, true_and, Nat.zero_add, Nat.sub_zero, Nat.zero_mul, Nat.one_mul, Nat.le_refl, List.getElem?_cons_zero, List.set_cons_zero, Int.reduceToNat, Int.reduceLT, Int.reduceLE, Int.reduceAdd, Int.reduceSub, Int.reduceMul, Int.reduceEq, Int.reduceNe, Int.toNat_natCast, Int.natCast_zero, wrap_id, wrapu_id, wrapb_id, idx_ok, bin_quo, bin_rem, tdiv_id, tmod_id, ps_bptr, x17, e, e2]
theorem tracksS_ok (sd : List Int) (x y : List (Int × Int)) : ∀ t ∈ tracksS sd x y, okZ t := by
  intro t ht
  obtain ⟨i, hi, rfl⟩ := List.mem_iff_getElem.mp ht
  simp [tracksS, trackS, okZ_mkT]

/-! Valid -/
def vT (t : Trk) : Bool := soundB t.sm && (curveB (-1) t.gn && decide ((t.gn.length : Int) ≤ 12)) && (decide (0 ≤ t.fr) && decide (t.fr ≤ 600 - t.sm.length))
def validB (l : List Trk) : Bool := l.all vT && decide ((l.length : Int) ≤ 8)
theorem soundB_len {l : List Int} (h : soundB l = true) : (l.length : Int) ≤ 600 := by
  unfold soundB at h; simp only [Bool.and_eq_true, decide_eq_true_eq] at h; exact h.1
/-- What is asked of tracks beside their numbers. -/
structure okT (t : Trk) : Prop where
  z : okZ t
  f : okI t.fr
  s : t.sm.length ≤ 9223372036854775807
  g : t.gn.length ≤ 9223372036854775807
theorem valid_loop {h : Heap} {v : AV} {l : List Trk} (hv : Sl h 3 v (trks l)) (hl : l.length ≤ 9223372036854775807) (hz : ∀ t ∈ l, okT t) (d : Nat) :
    ∀ (k v0 : Nat) (b0 : Blk), d = l.length - k → k ≤ l.length → ∃ fr,
    runC lib ⟨h.length, h.length, 1, none⟩ (.loop b22_0) ([(0, v), (5, v), (6, .int .i64 l.length), (7, .int .i64 k)], h ++ [(v0, b0)]) =
      if (l.drop k).all vT = true then some (.exit 0, ([(0, v)], h ++ fr)) else some (.ret, ([(2, .bool false)], h ++ fr)) := by
  induction d with
  | zero =>
    intro k v0 b0 hd hk
    have : k = l.length := by omega
    subst this
    refine ⟨[(v0, b0)], ?_⟩
    rw [List.drop_length, w_loop]
    simp (maxSteps := 1000000) (disch := omega) only [go_sem, ↓reduceIte, Nat.reduceEqDiff, Nat.reduceAdd, Nat.reduceSub, Nat.reduceMul, Nat.reduceLT, Nat.reduceLeDiff, reduceCtorEq, Nat.succ_ne_self, ne_eq, not_true_eq_false, not_false_eq_true, and_self, and_true, true_and, Nat.zero_add, Nat.sub_zero, Nat.zero_mul, Nat.one_mul, Nat.le_refl, List.getElem?_cons_zero, List.set_cons_zero, Int.reduceToNat, Int.reduceLT, Int.reduceLE, Int.reduceAdd, Int.reduceSub, Int.reduceMul, Int.reduceEq, Int.reduceNe, Int.toNat_natCast, Int.natCast_zero, wrap_id, wrapu_id, wrapb_id, idx_ok, bin_quo, bin_rem, tdiv_id, tmod_id, ps_bptr, Int.lt_irrefl, List.all_nil]
  | succ d ih =>
    intro k v0 b0 hd hk
    have hk' : k < l.length := by omega
    have h1 : (k : Int) < l.length := by omega
    have e3 : sidx 3 v (.int .i64 k) = some k := by rw [sidx_sl hv (by omega) (by simp; omega)]; simp
    have e4 := fun off fr => pc_iptr (off := off) (hv.elems fr) (show k < (trks l).length by simp; omega)
    simp only [trks_get, trk] at e4
    have hz' := hz l[k] (List.getElem_mem _)
    rw [List.drop_eq_getElem_cons hk', List.all_cons]
    obtain ⟨t, ht⟩ : ∃ t, t = l[k] := ⟨_, rfl⟩
    rw [← ht] at e4 hz' ⊢
    have s1 := fun fr lo => sound_run (hz'.z.sls (h ++ fr)) hz'.s lo
    have s2 := fun fr lo => curve_run (hz'.z.slg (h ++ fr)) hz'.g lo
    have s3 := lenv_sl (hz'.z.sls h).len
    have f1 := hz'.f.1
    have f2 := hz'.f.2
    obtain ⟨fr, e⟩ := ih (k + 1) (v0 + 1) (.box [.int .i64 t.fr, .lst t.zs (ints t.sm), .lst t.zg (pts t.gn)]) (by omega) (by omega)
    rw [cast1] at e
    have nb : ∀ b, vT t = b → b = false → ∃ fr, (if (b && (l.drop (k + 1)).all vT) = true then some (Ex.exit 0, ([(0, v)], h ++ fr)) else some (Ex.ret, ([(2, AV.bool false)], h ++ fr))) = some (Ex.ret, ([(2, AV.bool false)], h ++ fr)) := by
      intro b _ hb; subst hb; exact ⟨[], by simp⟩
    cases c1 : soundB t.sm with
    | false =>
      refine ⟨[(v0 + 1, .box [.int .i64 t.fr, .lst t.zs (ints t.sm), .lst t.zg (pts t.gn)])], ?_⟩
      rw [w_loop]
      simp (maxSteps := 1000000) (disch := omega) only [go_sem, ↓reduceIte, Nat.reduceEqDiff, Nat.reduceAdd, Nat.reduceSub, Nat.reduceMul, Nat.reduceLT, Nat.reduceLeDiff, reduceCtorEq, Nat.succ_ne_self, ne_eq, not_true_eq_false, not_false_eq_true, and_self, and_true, true_and, Nat.zero_add, Nat.sub_zero, Nat.zero_mul, Nat.one_mul, Nat.le_refl, List.getElem?_cons_zero, List.set_cons_zero, Int.reduceToNat, Int.reduceLT, Int.reduceLE, Int.reduceAdd, Int.reduceSub, Int.reduceMul, Int.reduceEq, Int.reduceNe, Int.toNat_natCast, Int.natCast_zero, wrap_id, wrapu_id, wrapb_id, idx_ok, bin_quo, bin_rem, tdiv_id, tmod_id, ps_bptr, h1, e3, e4, s1, c1, vT]
    | true =>
      have hsl := soundB_len c1
      cases c2 : (curveB (-1) t.gn && decide ((t.gn.length : Int) ≤ 12)) with
      | false =>
        refine ⟨[(v0 + 1, .box [.int .i64 t.fr, .lst t.zs (ints t.sm), .lst t.zg (pts t.gn)])], ?_⟩
        rw [w_loop]
        simp (maxSteps := 1000000) (disch := omega) only [go_sem, ↓reduceIte, Nat.reduceEqDiff, Nat.reduceAdd, Nat.reduceSub, Nat.reduceMul, Nat.reduceLT, Nat.reduceLeDiff, reduceCtorEq, Nat.succ_ne_self, ne_eq, not_true_eq_false, not_false_eq_true, and_self, and_true, true_and, Nat.zero_add, Nat.sub_zero, Nat.zero_mul, Nat.one_mul, Nat.le_refl, List.getElem?_cons_zero, List.set_cons_zero, Int.reduceToNat, Int.reduceLT, Int.reduceLE, Int.reduceAdd, Int.reduceSub, Int.reduceMul, Int.reduceEq, Int.reduceNe, Int.toNat_natCast, Int.natCast_zero, wrap_id, wrapu_id, wrapb_id, idx_ok, bin_quo, bin_rem, tdiv_id, tmod_id, ps_bptr, h1, e3, e4, s1, s2, c1, c2, vT]
      | true =>
        cases c3 : (decide (0 ≤ t.fr) && decide (t.fr ≤ 600 - t.sm.length)) with
        | false =>
          refine ⟨[(v0 + 1, .box [.int .i64 t.fr, .lst t.zs (ints t.sm), .lst t.zg (pts t.gn)])], ?_⟩
          rw [w_loop]
          simp (maxSteps := 1000000) (disch := omega) only [go_sem, ↓reduceIte, Nat.reduceEqDiff, Nat.reduceAdd, Nat.reduceSub, Nat.reduceMul, Nat.reduceLT, Nat.reduceLeDiff, reduceCtorEq, Nat.succ_ne_self, ne_eq, not_true_eq_false, not_false_eq_true, and_self, and_true, true_and, Nat.zero_add, Nat.sub_zero, Nat.zero_mul, Nat.one_mul, Nat.le_refl, List.getElem?_cons_zero, List.set_cons_zero, Int.reduceToNat, Int.reduceLT, Int.reduceLE, Int.reduceAdd, Int.reduceSub, Int.reduceMul, Int.reduceEq, Int.reduceNe, Int.toNat_natCast, Int.natCast_zero, wrap_id, wrapu_id, wrapb_id, idx_ok, bin_quo, bin_rem, tdiv_id, tmod_id, ps_bptr, h1, e3, e4, s1, s2, s3, ints_len, c1, c2, between_run, c3, vT]
        | true =>
          refine ⟨fr, ?_⟩
          rw [w_loop]
          simp (maxSteps := 1000000) (disch := omega) only [go_sem, ↓reduceIte, Nat.reduceEqDiff, Nat.reduceAdd, Nat.reduceSub, Nat.reduceMul, Nat.reduceLT, Nat.reduceLeDiff, reduceCtorEq, Nat.succ_ne_self, ne_eq, not_true_eq_false, not_false_eq_true, and_self, and_true, true_and, Nat.zero_add, Nat.sub_zero, Nat.zero_mul, Nat.one_mul, Nat.le_refl, List.getElem?_cons_zero, List.set_cons_zero, Int.reduceToNat, Int.reduceLT, Int.reduceLE, Int.reduceAdd, Int.reduceSub, Int.reduceMul, Int.reduceEq, Int.reduceNe, Int.toNat_natCast, Int.natCast_zero, wrap_id, wrapu_id, wrapb_id, idx_ok, bin_quo, bin_rem, tdiv_id, tmod_id, ps_bptr, h1, e3, e4, s1, s2, s3, ints_len, c1, c2, between_run, c3, vT, e]
theorem valid_run {h : Heap} {v : AV} {l : List Trk} (hv : Sl h 3 v (trks l)) (hl : l.length ≤ 9223372036854775807) (hz : ∀ t ∈ l, okT t) (lo : Nat) : (run lib).fn 22 [v] h lo = some (.bool (validB l), h) := by
  obtain ⟨fr, e⟩ := valid_loop hv hl hz _ 0 0 .dead rfl (by omega)
  rw [Int.natCast_zero, List.drop_zero] at e
  rw [run_closed (x := x22) rfl rfl rfl rfl]
  unfold validB
  cases hb : l.all vT <;> rw [hb] at e <;> simp (maxSteps := 1000000) (disch := omega) only [go_sem, ↓reduceIte, Nat.reduceEqDiff, Nat.reduceAdd, Nat.reduceSub, Nat.reduceMul, Nat.reduceLT, Nat.reduceLeDiff, reduceCtorEq, Nat.succ_ne_self, ne_eq, not_true_eq_false, not_false_eq_true, and_self, and_true, true_and, Nat.zero_add, Nat.sub_zero, Nat.zero_mul, Nat.one_mul, Nat.le_refl, List.getElem?_cons_zero, List.set_cons_zero, Int.reduceToNat, Int.reduceLT, Int.reduceLE, Int.reduceAdd, Int.reduceSub, Int.reduceMul, Int.reduceEq, Int.reduceNe, Int.toNat_natCast, Int.natCast_zero, wrap_id, wrapu_id, wrapb_id, idx_ok, bin_quo, bin_rem, tdiv_id, tmod_id, ps_bptr, x22, lenv_sl hv.len, trks_len, e]

/-! Exact -/
def step1 (t : Trk) (o : List Int) (k : Nat) : List Int := addAt o (t.fr.toNat + k) (t.sm.getD k 0 * gainS t.gn k)
def addT (o : List Int) (t : Trk) : List Int := (List.range t.sm.length).foldl (step1 t) o
def exactL (l : List Trk) : List Int := l.foldl addT []

theorem bck_ref (cx : Cx) (s i v z o l f : Nat) (h : Heap) : bck cx [(0, s)] (some (.ref i v z o l f, h)) = some (.ref i v z o l f, h) := by simp [bck, takeOver, weak, weak1]
theorem add_acc {h fr : Heap} {ns : Nat} (hns : 0 < ns) {es : List Int} (hl : es.length ≤ 200000) (hes : bnd' 10000000000000000 es) (a : Nat) (ha : a ≤ 100000) (x : Int) (hx : -10000000000000000 ≤ x ∧ x ≤ 10000000000000000) :
    bck ⟨h.length, h.length, ns, none⟩ [(0, 0)] ((run lib).fn 40 [accV (h.length + 0) (0, .dead) 1 (ints es), .int .i64 a, .int .i64 x] (h ++ accB (0, .dead) 1 (ints es) :: fr) h.length) =
      some (accV (h.length + 0) (0, .dead) 1 (ints (addAt es a x)), h ++ accB (0, .dead) 1 (ints (addAt es a x)) :: fr) := by
  have hne : ints (addAt es a x) ≠ [] := by
    intro h0
    have := congrArg List.length h0
    rw [ints_len, addAt_len, List.length_nil] at this
    omega
  by_cases h0 : es = []
  · subst h0
    have e : ints ([] : List Int) = [] := rfl
    rw [e, accV_nil, accB_nil, add_nil (by simp) a ha x hx, take_own hns rfl hne, accV_ne hne, accB_ne hne]
    rfl
  · have h1 : ints es ≠ [] := by rw [ne_eq, ints_nil]; exact h0
    have hb : (h ++ (0 + 1, Blk.arr 1 (ints es)) :: fr)[h.length + 0]? = some (0 + 1, .arr 1 (ints es)) := by rw [get_fr]; rfl
    rw [accV_ne h1, accB_ne h1, ints_len]
    rw [add_ref (by omega) hb hl a ha x hx hes, bck_ref, accV_ne hne, accB_ne hne, ints_len, set_fr]
    rfl
theorem foldl_range_succ {α : Type} (f : α → Nat → α) (n : Nat) (a : α) : (List.range (n + 1)).foldl f a = f ((List.range n).foldl f a) n := by simp [List.range_succ]
theorem gainS_bd {l : List (Int × Int)} (hc : Crv l) {t : Int} (ht : 0 ≤ t) : 0 ≤ gainS l t ∧ gainS l t ≤ 4096 := by
  by_cases h0 : l = []
  · subst h0; simp [gainS]
  · have hpos := List.length_pos_iff.mpr h0
    by_cases h1 : t ≤ l[0].1
    · rw [gain_before hpos h1]; have := hc.ok _ (List.getElem_mem hpos); exact ⟨this.2.2.1, this.2.2.2⟩
    · by_cases h2 : (l[l.length - 1]'(by omega)).1 ≤ t
      · rw [gain_after hc hpos h2]; have := hc.ok _ (List.getElem_mem (show l.length - 1 < l.length by omega)); exact ⟨this.2.2.1, this.2.2.2⟩
      · -- between two points
        have hcl := cntS_le l t
        have hci := cntS_iff t hc
        have c0 : 0 < cntS l t := (hci 0 hpos).mp (by omega)
        have c1 : cntS l t < l.length := by
          rcases Nat.lt_or_ge (cntS l t) l.length with h | h
          · exact h
          · have := (hci (l.length - 1) (by omega)).mpr (by omega)
            omega
        obtain ⟨i, hi⟩ : ∃ i, cntS l t = i + 1 := ⟨cntS l t - 1, by omega⟩
        have a1 := (hci i (by omega)).mpr (by omega)
        have a2 := mt (hci (i + 1) (by omega)).mp (by omega)
        have q1 := hc.ok _ (List.getElem_mem (show i < l.length by omega))
        have q2 := hc.ok _ (List.getElem_mem (show i + 1 < l.length by omega))
        have u := List.pairwise_iff_getElem.mp hc.up i (i + 1) (by omega) (by omega) (by omega)
        rw [gain_seg hc (i := i) (by omega) (by omega) (by omega)]
        obtain ⟨m1, m2⟩ := seg_mono u (s := t) (t := t) (by omega) (by omega) (by omega)
        obtain ⟨_, _, o3, o4⟩ := q1
        obtain ⟨_, _, o5, o6⟩ := q2
        rcases Int.le_total l[i].2 l[i + 1].2 with h | h
        · have := m1 h; omega
        · have := m2 h; omega
theorem okS_bd {x : Int} (h : okS x = true) : -32768 ≤ x ∧ x ≤ 32768 := by unfold okS at h; simp only [Bool.and_eq_true, decide_eq_true_eq] at h; omega
theorem vT_of {t : Trk} (h : vT t = true) : (∀ x ∈ t.sm, -32768 ≤ x ∧ x ≤ 32767) ∧ t.sm.length ≤ 600 ∧ Crv t.gn ∧ t.gn.length ≤ 12 ∧ 0 ≤ t.fr ∧ t.fr ≤ 600 - t.sm.length := by
  unfold vT soundB at h
  simp only [Bool.and_eq_true, decide_eq_true_eq, List.all_eq_true] at h
  obtain ⟨⟨⟨h1, h2⟩, h3, h4⟩, h5, h6⟩ := h
  refine ⟨fun x hx => ?_, by omega, (curveB_crv h3 (by omega)).1, by omega, h5, h6⟩
  have := h2 x hx
  unfold okS at this
  simp only [Bool.and_eq_true, decide_eq_true_eq] at this
  exact this
theorem step1_bd {t : Trk} (h : vT t = true) {k : Nat} (hk : k < t.sm.length) : -134217728 ≤ t.sm.getD k 0 * gainS t.gn k ∧ t.sm.getD k 0 * gainS t.gn k ≤ 134217728 := by
  obtain ⟨h1, h2, h3, _⟩ := vT_of h
  have e : t.sm.getD k 0 = t.sm[k] := by rw [List.getD_eq_getElem?_getD, List.getElem?_eq_getElem hk]; rfl
  have := h1 _ (List.getElem_mem hk)
  have g := gainS_bd h3 (t := (k : Int)) (by omega)
  have := mul_bd (x := t.sm[k]) (y := gainS t.gn k) (A := 32768) (B := 4096) (by omega) (by omega) g.1 g.2
  rw [e]; omega

theorem exact_loop1 {h : Heap} {v : AV} {t : Trk} (ht : vT t = true) (hz : okZ t) (o : List Int) (n : Nat) (ho : bnd' (134217728 * n) o) (hol : o.length ≤ 600) (j : Nat) (len : Int) (ver : Nat) (hn : n ≤ 100000) (d : Nat) :
    ∀ k : Nat, d = t.sm.length - k → k ≤ t.sm.length → bnd' (134217728 * (n + k)) ((List.range k).foldl (step1 t) o) → ((List.range k).foldl (step1 t) o).length ≤ 600 →
    runC lib ⟨h.length, h.length, 2, none⟩ (.loop b18_1) ([(4, accV (h.length + 0) (0, .dead) 1 (ints ((List.range k).foldl (step1 t) o))), (6, .bptr (h.length + 1) ver 0), (11, v), (12, .int .i64 len), (13, .int .i64 j), (19, .int .i64 t.sm.length), (20, .int .i64 k)],
      h ++ [accB (0, .dead) 1 (ints ((List.range k).foldl (step1 t) o)), (ver, .box [.int .i64 t.fr, .lst t.zs (ints t.sm), .lst t.zg (pts t.gn)])]) =
      some (.exit 2, ([(4, accV (h.length + 0) (0, .dead) 1 (ints (addT o t))), (11, v), (12, .int .i64 len), (13, .int .i64 j)], h ++ [accB (0, .dead) 1 (ints (addT o t)), (ver, .box [.int .i64 t.fr, .lst t.zs (ints t.sm), .lst t.zg (pts t.gn)])])) := by
  obtain ⟨h1, h2, h3, h4, h5, h6⟩ := vT_of ht
  induction d with
  | zero =>
    intro k hd hk _ _
    have : k = t.sm.length := by omega
    subst this
    rw [w_loop]
    simp (maxSteps := 1000000) (disch := omega) only [go_sem, ↓reduceIte, Nat.reduceEqDiff, Nat.reduceAdd, Nat.reduceSub, Nat.reduceMul, Nat.reduceLT, Nat.reduceLeDiff, reduceCtorEq, Nat.succ_ne_self, ne_eq, not_true_eq_false, not_false_eq_true, and_self, and_true, true_and, Nat.zero_add, Nat.sub_zero, Nat.zero_mul, Nat.one_mul, Nat.le_refl, List.getElem?_cons_zero, List.set_cons_zero, Int.reduceToNat, Int.reduceLT, Int.reduceLE, Int.reduceAdd, Int.reduceSub, Int.reduceMul, Int.reduceEq, Int.reduceNe, Int.toNat_natCast, Int.natCast_zero, wrap_id, wrapu_id, wrapb_id, idx_ok, bin_quo, bin_rem, tdiv_id, tmod_id, ps_bptr, Int.lt_irrefl, addT]
  | succ d ih =>
    intro k hd hk hb hbl
    have hk' : k < t.sm.length := by omega
    have c1 : (k : Int) < t.sm.length := by omega
    obtain ⟨es, hes⟩ : ∃ es, es = (List.range k).foldl (step1 t) o := ⟨_, rfl⟩
    have hs := step1_bd ht hk'
    have e3 : sidx 1 (.lst t.zs (ints t.sm)) (.int .i64 k) = some k := by rw [sidx_sl (hz.sls h) (by omega) (by simp; omega)]; simp
    have e4 := fun off fr => pc_iptr (off := off) ((hz.sls h).elems fr) (show k < (ints t.sm).length by simp; omega)
    simp only [ints_get] at e4
    have hg : t.sm.getD k 0 = t.sm[k] := by rw [List.getD_eq_getElem?_getD, List.getElem?_eq_getElem hk']; rfl
    have e6 := fun fr lo => gain_run (hz.slg (h ++ fr)) (by omega) h3 k (by omega) (by omega) lo
    have hfr : t.fr + (k : Int) = ((t.fr.toNat + k : Nat) : Int) := by omega
    have hw := addAt_bnd (a := t.fr.toNat + k) (D := 134217728) (x := t.sm.getD k 0 * gainS t.gn k) hb (by omega) hs
    have e := ih (k + 1) (by omega) (by omega) (by rw [foldl_range_succ, step1]; rw [show (134217728 : Int) * (n + (k + 1 : Nat)) = 134217728 * (n + k) + 134217728 by omega]; exact hw) (by rw [foldl_range_succ, step1, addAt_len]; omega)
    rw [foldl_range_succ, cast1] at e
    rw [← hes] at hb hbl e ⊢
    rw [step1] at e
    rw [hg] at e hs
    have e5 := add_acc (h := h) (ns := 2) (fr := [(ver, .box [.int .i64 t.fr, .lst t.zs (ints t.sm), .lst t.zg (pts t.gn)])]) (by omega) (es := es) (by omega) (fun x hx => by have := hb x hx; omega) (t.fr.toNat + k) (by omega) (t.sm[k] * gainS t.gn k) (by omega)
    rw [w_loop]
    simp (maxSteps := 1000000) (disch := omega) only [go_sem, ↓reduceIte, Nat.reduceEqDiff, Nat.reduceAdd, Nat.reduceSub, Nat.reduceMul, Nat.reduceLT, Nat.reduceLeDiff, reduceCtorEq, Nat.succ_ne_self, ne_eq, not_true_eq_false, not_false_eq_true, and_self, and_true, true_and, Nat.zero_add, Nat.sub_zero, Nat.zero_mul, Nat.one_mul, Nat.le_refl, List.getElem?_cons_zero, List.set_cons_zero, Int.reduceToNat, Int.reduceLT, Int.reduceLE, Int.reduceAdd, Int.reduceSub, Int.reduceMul, Int.reduceEq, Int.reduceNe, Int.toNat_natCast, Int.natCast_zero, wrap_id, wrapu_id, wrapb_id, idx_ok, bin_quo, bin_rem, tdiv_id, tmod_id, ps_bptr, c1, e3, e4, e6, hfr, e5, e]
end Go.VI.Mix
