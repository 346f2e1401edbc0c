import Derived.Test.YtegokpicloedeaaMixRD
namespace Go.VI.Mix
set_option linter.unusedVariables false
set_option linter.unusedSimpArgs false

theorem l30 {h rest : Heap} {es : List AV} (hes : ∀ e ∈ es, ∃ l : List Int, Sl h 1 e (ints l) ∧ l.length ≤ 1000) (hn : es.length ≤ 100) (u : AV) (m : List Int) (hu : Sl h 1 u (ints m)) (hm : m.length ≤ 1000) (n g0 g1 g2 g3 n0 n1 n2 n3 : Int) (on : okI n) (v1 : Nat) (a21 : AV) (d : Nat) :
    ∀ (k v0 : Nat) (b0 : Blk), d = es.length - k → k ≤ es.length → ∃ q,
    runC lib ⟨h.length, h.length, 10, none⟩ (.loop b3_0) ([(8, .int .i64 n), (19, .cptr [.int .i64 n0, .int .i64 n1, .int .i64 n2, .int .i64 n3]), (21, a21), (23, u), (48, .bptr (h.length + 1) v1 0), (238, .lsf 1 es), (239, .int .i64 es.length), (240, .int .i64 k)], h ++ (v0, b0) :: (v1, .box [.int .i64 g0, .int .i64 g1, .int .i64 g2, .int .i64 g3]) :: rest) =
      some (.exit 6, ([(21, a21)], h ++ q :: (v1, .box [.int .i64 g0, .int .i64 g1, .int .i64 g2, .int .i64 g3]) :: rest)) := by
  have hv := Sl.lsf h 1 es
  induction d with
  | zero =>
    intro k v0 b0 hd hk
    have c1 : ¬ (k : Int) < es.length := by omega
    refine ⟨(v0, b0), ?_⟩
    rw [w_loop]
    simp (maxSteps := 1000000) (disch := omega) only [go_sem, ↓reduceIte, Nat.reduceEqDiff, Nat.reduceAdd, Nat.reduceSub, Nat.reduceMul, Nat.reduceLT, Nat.reduceLeDiff, reduceCtorEq, Nat.succ_ne_self, ne_eq, not_true_eq_false, not_false_eq_true, and_self, and_true, true_and, Nat.zero_add, Nat.sub_zero, Nat.zero_mul, Nat.one_mul, Nat.le_refl, List.getElem?_cons_zero, List.set_cons_zero, Int.reduceToNat, Int.reduceLT, Int.reduceLE, Int.reduceAdd, Int.reduceSub, Int.reduceMul, Int.reduceEq, Int.reduceNe, Int.toNat_natCast, Int.natCast_zero, wrap_id, wrapu_id, wrapb_id, idx_ok, bin_quo, bin_rem, tdiv_id, tmod_id, ps_bptr, c1]
  | succ d ih =>
    intro k v0 b0 hd hk
    have hk' : k < es.length := by omega
    have c1 : (k : Int) < es.length := by omega
    have e3 : sidx 1 (.lsf 1 es) (.int .i64 k) = some k := by rw [sidx_sl hv (by omega) (by omega)]; simp
    have e4 := fun off fr => pc_iptr (off := off) (hv.elems fr) hk'
    obtain ⟨l, hc, hl⟩ := hes _ (List.getElem_mem hk')
    obtain ⟨c, hcc⟩ : ∃ c, c = es[k] := ⟨_, rfl⟩
    rw [← hcc] at e4 hc
    have hcl := sl_cells hc
    have p1 := fun hh lo => pick13 n 41 hh lo on.1 on.2 (by omega)
    have h2 : ((2 : Nat) : Int) = 2 := rfl
    have hi := fun fr => l32 (cx := ⟨h.length, h.length, 10, none⟩) (es := [.int .i64 n, .int .i64 (pickS n 41)]) (fun e he => by
      rcases List.mem_cons.mp he with rfl | he
      · exact ⟨_, rfl⟩
      · rw [List.mem_singleton] at he; exact ⟨_, he⟩) (by simp) c u l m (hc.app fr) (hu.app fr) (by omega) (by omega) (.int .i64 n) (.cptr [.int .i64 n0, .int .i64 n1, .int .i64 n2, .int .i64 n3]) a21 (.bptr (h.length + 1) v1 0) (.lsf 1 es) (.int .i64 es.length) (.int .i64 k) _ 0 rfl (by simp)
    have hlen : (([.int .i64 n, .int .i64 (pickS n 41)] : List AV).length : Int) = 2 := rfl
    simp only [hlen, Int.natCast_zero] at hi
    obtain ⟨⟨v2, b2⟩, hj⟩ := l31 (h := h) (fr := (v1, .box [.int .i64 g0, .int .i64 g1, .int .i64 g2, .int .i64 g3]) :: rest) (es := [.agg [.int .i64 g0, .int .i64 g1, .int .i64 g2, .int .i64 g3], .agg [.int .i64 n0, .int .i64 n1, .int .i64 n2, .int .i64 n3]]) (fun e he => by
      rcases List.mem_cons.mp he with rfl | he
      · exact ⟨_, _, _, _, rfl⟩
      · rw [List.mem_singleton] at he; exact ⟨_, _, _, _, he⟩) (by simp) c u l m hc hu (by omega) (by omega) (.int .i64 n) (.cptr [.int .i64 n0, .int .i64 n1, .int .i64 n2, .int .i64 n3]) a21 (.bptr (h.length + 1) v1 0) (.lsf 1 es) (.int .i64 es.length) (.int .i64 k) _ 0 v0 b0 rfl (by simp)
    have hlen2 : (([.agg [.int .i64 g0, .int .i64 g1, .int .i64 g2, .int .i64 g3], .agg [.int .i64 n0, .int .i64 n1, .int .i64 n2, .int .i64 n3]] : List AV).length : Int) = 2 := rfl
    simp only [hlen2, Int.natCast_zero] at hj
    obtain ⟨q, e⟩ := ih (k + 1) v2 b2 (by omega) (by omega)
    rw [cast1] at e
    refine ⟨q, ?_⟩
    rw [w_loop]
    clear ih
    simp (maxSteps := 1000000) (disch := omega) only [go_sem, ↓reduceIte, Nat.reduceEqDiff, Nat.reduceAdd, Nat.reduceSub, Nat.reduceMul, Nat.reduceLT, Nat.reduceLeDiff, reduceCtorEq, Nat.succ_ne_self, ne_eq, not_true_eq_false, not_false_eq_true, and_self, and_true, true_and, Nat.zero_add, Nat.sub_zero, Nat.zero_mul, Nat.one_mul, Nat.le_refl, List.getElem?_cons_zero, List.set_cons_zero, Int.reduceToNat, Int.reduceLT, Int.reduceLE, Int.reduceAdd, Int.reduceSub, Int.reduceMul, Int.reduceEq, Int.reduceNe, Int.toNat_natCast, Int.natCast_zero, wrap_id, wrapu_id, wrapb_id, idx_ok, bin_quo, bin_rem, tdiv_id, tmod_id, ps_bptr, c1, e3, e4, hcl, p1, lenv_sl (Sl.lsf h 1 [.int .i64 n, .int .i64 (pickS n 41)]).len, lenv_sl (Sl.lsf h 4 [.agg [.int .i64 g0, .int .i64 g1, .int .i64 g2, .int .i64 g3], .agg [.int .i64 n0, .int .i64 n1, .int .i64 n2, .int .i64 n3]]).len, hlen, hlen2, h2, hi, hj, e]
theorem frz_fr {b : Nat} {k : Bool} {s ver z n : Nat} {h fr : Heap} {es : List AV} (hb : fr[s]? = some (ver, .arr z es)) (hn : es.length = n) (hle : b ≤ h.length) :
    frz b k (.ref (h.length + s) ver z 0 n n) (h ++ fr) = some (.lst z es, h ++ fr.set s (ver, .dead)) := by
  subst hn
  have hle' : b ≤ h.length + s := by omega
  simp [frz, asList0, get_fr, hb, set_fr, hle']
theorem ps_iptr_pt {lo ns : Nat} {h fr : Heap} {s ver n i : Nat} {l : List (Int × Int)} {p : Int × Int} (hid : fr[s]? = some (ver, .arr 2 (pts l))) (hl : l.length = n) (hi : i < n) (hlo : lo ≤ h.length) :
    pstore ⟨lo, h.length, ns, none⟩ (h ++ fr) 2 (.iptr (.ref (h.length + s) ver 2 0 n n) i 0) (.agg [.int .i64 p.1, .int .i64 p.2]) = some (h ++ fr.set s (ver, .arr 2 (pts (l.set i p)))) := by
  have hle : lo ≤ h.length + s := by omega
  have hi' : i < l.length := by omega
  have e : (pts l)[i]? = some (.agg [.int .i64 l[i].1, .int .i64 l[i].2]) := by simp [pts, pt, hi']
  have e2 : pts (l.set i p) = (pts l).set i (.agg [.int .i64 p.1, .int .i64 p.2]) := by simp [pts, List.map_set, pt]
  simp only [pstore, frz, frzL, AV.cells, AV.val, get_fr, hid, pts_len, hl, hi, hle, and_self, if_true, Option.bind_some, Option.map_some, Nat.zero_add, e, splice, List.length_cons, List.length_nil, List.take_zero, List.nil_append, List.drop_succ_cons, List.drop_zero, List.cons_append, set_fr, e2]
  simp

theorem lstV_ne {z : Nat} {es : List AV} (h : es ≠ []) : lstV z es = .lst z es := if_neg h
theorem SS : True := trivial
set_option maxHeartbeats 4000000 in
theorem law3 {h : Heap} {v u x y : AV} {a b : List Int} {xl yl : List (Int × Int)} (hv : Sl h 1 v (ints a)) (hu : Sl h 1 u (ints b)) (hx : Sl h 2 x (pts xl)) (hy : Sl h 2 y (pts yl)) (la : a.length ≤ 9223372036854775807) (lb : b.length ≤ 9223372036854775807) (lx : xl.length ≤ 9223372036854775807) (ly : yl.length ≤ 9223372036854775807)
    (ia : ∀ n ∈ a, okI n) (ib : ∀ n ∈ b, okI n) (ix : ∀ p ∈ xl, okI p.1 ∧ okI p.2) (iy : ∀ p ∈ yl, okI p.1 ∧ okI p.2) (sm p1 p2 fr wh n n0 n1 n2 n3 : Int) (osm : okI sm) (ofr : okI fr) (ow : okI wh) (on : okI n) (o0 : okI n0) (o1 : okI n1) (o2 : okI n2) (o3 : okI n3)
    (hs : (run lib).fn 11 [] (h ++ [(0, .dead), (0, .dead), (0, .dead), (0, .dead), (0, .dead), (0, .dead), (0, .dead), (0, .dead), (0, .dead), (0, .dead)]) h.length = some (.bool true, h ++ [(0, .dead), (0, .dead), (0, .dead), (0, .dead), (0, .dead), (0, .dead), (0, .dead), (0, .dead), (0, .dead), (0, .dead)])) (lo : Nat) :
    (run lib).fn 3 [v, u, x, y, .int .i64 sm, .agg [.int .i64 p1, .int .i64 p2], .int .i64 fr, .int .i64 wh, .int .i64 n, .agg [.int .i64 n0, .int .i64 n1, .int .i64 n2, .int .i64 n3]] h lo = some (.bool true, h) := by
  obtain ⟨a1, a2⟩ := madeS_bd a
  obtain ⟨b1, b2⟩ := madeS_bd b
  have e1 := fun fr => made_run (hv.app fr) la ia h.length
  have e2 := fun fr => made_run (hu.app fr) lb ib h.length
  have cv := fun fr => curved_run (hx.app fr) lx ix h.length
  have pg0 := fun hh lo => pick13 n0 3000 hh lo o0.1 o0.2 (by omega)
  have pg1 := fun hh lo => pick13 n1 1025 hh lo o1.1 o1.2 (by omega)
  have pg2 := fun hh lo => pick13 n2 30 hh lo o2.1 o2.2 (by omega)
  have pg3 := fun hh lo => pick13 n3 30 hh lo o3.1 o3.2 (by omega)
  have qg0 := pickS_bd (c := n0) (n := 3000) (by omega)
  have qg1 := pickS_bd (c := n1) (n := 1025) (by omega)
  have qg2 := pickS_bd (c := n2) (n := 30) (by omega)
  have qg3 := pickS_bd (c := n3) (n := 30) (by omega)
  obtain ⟨t1, t2⟩ := tracksS_vT (x := xl) (y := yl) a1 a2
  obtain ⟨one, hone⟩ : ∃ x, x = madeS a := ⟨_, rfl⟩
  obtain ⟨two, htwo⟩ : ∃ x, x = madeS b := ⟨_, rfl⟩
  rw [← hone] at a1 a2 t1 t2
  rw [← htwo] at b1 b2
  simp only [← hone] at e1
  simp only [← htwo] at e2
  obtain ⟨T, hT⟩ : ∃ x, x = tracksS one xl yl := ⟨_, rfl⟩
  rw [← hT] at t1 t2
  have okTT : ∀ t ∈ T, okT t := fun t ht => (t1 t ht).2.2.1
  obtain ⟨crv, hcrv⟩ : ∃ x, x = curvedS (-1) (xl.take 6) := ⟨_, rfl⟩
  simp only [← hcrv] at cv
  have lcrv : crv.length ≤ 6 := by
    have := (curvedS_crv (xl.take 6) (-1) 0 (by omega) (by simp; omega)).2.2
    rw [hcrv, this]; simp; omega
  obtain ⟨bent0, hb0⟩ : ∃ x, x = one ++ [sm] := ⟨_, rfl⟩
  have hlb : bent0.length = one.length + 1 := by rw [hb0]; simp
  obtain ⟨oth0, ho0⟩ : ∃ x, x = crv ++ [(p1, p2)] := ⟨_, rfl⟩
  have hlo : oth0.length = crv.length + 1 := by rw [ho0]; simp
  have pw1 := fun hh lo => pick13 wh bent0.length hh lo ow.1 ow.2 (by omega)
  have qw1 := pickS_bd (c := wh) (n := bent0.length) (by omega)
  obtain ⟨k1, hk1'⟩ : ∃ k : Nat, (k : Int) = pickS wh bent0.length := ⟨(pickS wh bent0.length).toNat, by omega⟩
  have pw2 := fun hh lo => pick13 wh oth0.length hh lo ow.1 ow.2 (by omega)
  have qw2 := pickS_bd (c := wh) (n := oth0.length) (by omega)
  obtain ⟨k2, hk2'⟩ : ∃ k : Nat, (k : Int) = pickS wh oth0.length := ⟨(pickS wh oth0.length).toNat, by omega⟩
  simp only [← hk1'] at pw1
  simp only [← hk2'] at pw2
  have hk1 : k1 < bent0.length := by omega
  have hk2 : k2 < oth0.length := by omega
  obtain ⟨bent, hbent⟩ : ∃ x, x = bent0.set k1 sm := ⟨_, rfl⟩
  obtain ⟨oth, hoth⟩ : ∃ x, x = oth0.set k2 (p1, p2) := ⟨_, rfl⟩
  have lbent : bent.length = bent0.length := by rw [hbent, List.length_set]
  have loth : oth.length = oth0.length := by rw [hoth, List.length_set]
  have neb : ints bent ≠ [] := by
    rw [ne_eq, ints_nil]; intro h0; rw [h0] at lbent; simp at lbent; omega
  have neo : pts oth ≠ [] := by
    rw [ne_eq, pts_nil]; intro h0; rw [h0] at loth; simp at loth; omega
  obtain ⟨odd, hodd⟩ : ∃ x, x = T ++ [mkT fr two oth] := ⟨_, rfl⟩
  obtain ⟨str, hstr⟩ : ∃ x, x = T ++ [mkT 5 bent crv] := ⟨_, rfl⟩
  have lodd : odd.length = T.length + 1 := by rw [hodd]; simp
  have lstr : str.length = T.length + 1 := by rw [hstr]; simp
  have okTo : ∀ t ∈ odd, okT t := fun t ht => by
    rw [hodd, List.mem_append, List.mem_singleton] at ht
    rcases ht with ht | rfl
    · exact okTT t ht
    · exact ⟨okZ_mkT _ _ _, ofr, by show two.length ≤ _; omega, by show oth.length ≤ _; omega⟩
  have okTs : ∀ t ∈ str, okT t := fun t ht => by
    rw [hstr, List.mem_append, List.mem_singleton] at ht
    rcases ht with ht | rfl
    · exact okTT t ht
    · exact ⟨okZ_mkT _ _ _, ⟨by show -9223372036854775808 ≤ (5 : Int); omega, by show (5 : Int) ≤ _; omega⟩, by show bent.length ≤ _; omega, by show crv.length ≤ _; omega⟩
  have ap1 := fun fr => appSrc_sl (Sl.lstV (h ++ fr) 1 (ints one))
  have ap2 := fun fr => appSrc_sl (Sl.lstV (h ++ fr) 2 (pts crv))
  have ap3 := fun fr => appSrc_sl (Sl.lstV (h ++ fr) 3 (trks T))
  clear hone htwo hcrv t1 a1 b1 hv hu ia ib
  rw [run_closed (x := x3) rfl rfl rfl rfl]
  by_cases h1 : one = []
  · skip
    by_cases h2 : crv = []
    · skip
      by_cases h3 : T = []
      · skip
        have bA := fun hh => app_lsf_nil (cx := ⟨h.length, h.length, 10, none⟩) (s := 8) (z := 1) (lim := 17592186044416) (h := hh) (es := [])
        have bB0 := app_lsf_new (lo := h.length) (ns := 10) (s := 9) (z := 1) (lim := 17592186044416) (ver := 0) (b := .dead) (h := h) (fr := [(0, .dead), (0, .dead), (0, .dead), (0, .dead), (0, .dead), (0, .dead), (0, .dead), (0, .dead), (0, .dead), (0, .dead)]) (xs := [.int .i64 sm]) (by omega) rfl (by simp) (by simp)
        have q1 : [AV.int .i64 sm] = ints bent0 := by rw [hb0, h1]; rfl
        have q1l : [AV.int .i64 sm].length = bent0.length := by rw [hb0, h1]; simp
        rw [q1l] at bB0
        have bB : appv ⟨h.length, h.length, 10, none⟩ 9 1 17592186044416 (.lsf 1 []) [.int .i64 sm] (h ++ [(0, .dead), (0, .dead), (0, .dead), (0, .dead), (0, .dead), (0, .dead), (0, .dead), (0, .dead), (0, .dead), (0, .dead)]) = some (.ref (h.length + 9) (0 + 1) 1 0 bent0.length bent0.length, h ++ [(0, .dead), (0, .dead), (0, .dead), (0, .dead), (0, .dead), (0, .dead), (0, .dead), (0, .dead), (0, .dead), (0 + 1, .arr 1 (ints bent0))]) := by rw [← q1]; exact bB0
        have r1 := Sl.refAll (h := h) (fr := [(0, .dead), (0, .dead), (0, .dead), (0, .dead), (0, .dead), (0, .dead), (0, .dead), (0, .dead), (0, .dead), (0 + 1, .arr 1 (ints bent0))]) (s := 9) (ver := 0 + 1) (z := 1) (es := ints bent0) rfl
        rw [ints_len] at r1
        have r1l : slen (.ref (h.length + 9) (0 + 1) 1 0 bent0.length bent0.length) = some bent0.length := rfl
        have s1 : sidx 1 (.ref (h.length + 9) (0 + 1) 1 0 bent0.length bent0.length) (.int .i64 k1) = some k1 := by rw [sidx_sl r1 (by omega) (by simp; omega)]; simp
        have w1 := ps_iptr_fr (lo := h.length) (ns := 10) (h := h) (fr := [(0, .dead), (0, .dead), (0, .dead), (0, .dead), (0, .dead), (0, .dead), (0, .dead), (0, .dead), (0, .dead), (0 + 1, .arr 1 (bent0.map (.int .i64)))]) (s := 9) (ver := 0 + 1) (o := 0) (len := bent0.length) (fill := bent0.length) (i := k1) (k := .i64) (l := bent0) (n := sm) rfl rfl (by omega) hk1 (by omega)
        rw [Nat.zero_add k1, ← hbent, show bent0.map (AV.int .i64) = ints bent0 from rfl, show bent.map (AV.int .i64) = ints bent from rfl] at w1
        have oA := fun hh => app_lsf_nil (cx := ⟨h.length, h.length, 10, none⟩) (s := 6) (z := 2) (lim := 8796093022208) (h := hh) (es := [])
        have oB0 := app_lsf_new (lo := h.length) (ns := 10) (s := 7) (z := 2) (lim := 8796093022208) (ver := 0) (b := .dead) (h := h) (fr := [(0, .dead), (0, .dead), (0, .dead), (0, .dead), (0, .dead), (0, .dead), (0, .dead), (0, .dead), (0, .dead), (0 + 1, .arr 1 (ints bent))]) (xs := [.agg [.int .i64 p1, .int .i64 p2]]) (by omega) rfl (by simp) (by simp)
        have q2 : [AV.agg [.int .i64 p1, .int .i64 p2]] = pts oth0 := by rw [ho0, h2]; rfl
        have q2l : [AV.agg [.int .i64 p1, .int .i64 p2]].length = oth0.length := by rw [ho0, h2]; simp
        rw [q2l] at oB0
        have oB : appv ⟨h.length, h.length, 10, none⟩ 7 2 8796093022208 (.lsf 2 []) [.agg [.int .i64 p1, .int .i64 p2]] (h ++ [(0, .dead), (0, .dead), (0, .dead), (0, .dead), (0, .dead), (0, .dead), (0, .dead), (0, .dead), (0, .dead), (0 + 1, .arr 1 (ints bent))]) = some (.ref (h.length + 7) (0 + 1) 2 0 oth0.length oth0.length, h ++ [(0, .dead), (0, .dead), (0, .dead), (0, .dead), (0, .dead), (0, .dead), (0, .dead), (0 + 1, .arr 2 (pts oth0)), (0, .dead), (0 + 1, .arr 1 (ints bent))]) := by rw [← q2]; exact oB0
        have r2 := Sl.refAll (h := h) (fr := [(0, .dead), (0, .dead), (0, .dead), (0, .dead), (0, .dead), (0, .dead), (0, .dead), (0 + 1, .arr 2 (pts oth0)), (0, .dead), (0 + 1, .arr 1 (ints bent))]) (s := 7) (ver := 0 + 1) (z := 2) (es := pts oth0) rfl
        rw [pts_len] at r2
        have r2l : slen (.ref (h.length + 7) (0 + 1) 2 0 oth0.length oth0.length) = some oth0.length := rfl
        have s2 : sidx 2 (.ref (h.length + 7) (0 + 1) 2 0 oth0.length oth0.length) (.int .i64 k2) = some k2 := by rw [sidx_sl r2 (by omega) (by simp; omega)]; simp
        have w2 := ps_iptr_pt (lo := h.length) (ns := 10) (h := h) (fr := [(0, .dead), (0, .dead), (0, .dead), (0, .dead), (0, .dead), (0, .dead), (0, .dead), (0 + 1, .arr 2 (pts oth0)), (0, .dead), (0 + 1, .arr 1 (ints bent))]) (s := 7) (ver := 0 + 1) (n := oth0.length) (i := k2) (l := oth0) (p := (p1, p2)) rfl rfl hk2 (by omega)
        rw [← hoth] at w2
        have z1 := frz_fr (b := h.length) (k := false) (s := 7) (ver := 0 + 1) (z := 2) (n := oth0.length) (h := h) (fr := [(0, .dead), (0, .dead), (0, .dead), (0, .dead), (0, .dead), (0, .dead), (0, .dead), (0 + 1, .arr 2 (pts oth)), (0, .dead), (0 + 1, .arr 1 (ints bent))]) (es := pts oth) rfl (by rw [pts_len, hoth, List.length_set]) (by omega)
        have l34' := l34 (H := h ++ [(0, .dead), (0, .dead), (0, .dead), (0, .dead), (0, .dead), (0, .dead), (0, .dead), (0 + 1, .dead), (0, .dead), (0 + 1, .arr 1 (ints bent))]) (cx := ⟨h.length, h.length, 10, none⟩) (es := [lstV 2 (pts crv), .lst 2 (pts oth), .lst 0 []]) (fun e he => by
        simp only [List.mem_cons, List.not_mem_nil, or_false] at he
        rcases he with rfl | rfl | rfl
        · exact ⟨crv, Sl.lstV _ 2 _, by omega⟩
        · exact ⟨oth, Sl.lst _ 2 _, by omega⟩
        · exact ⟨[], Sl.lst0 _ 2 0, by simp⟩) (by simp) n on
        have tk := tracks_run (Sl.lstV (h ++ [(0, .dead), (0, .dead), (0, .dead), (0, .dead), (0, .dead), (0, .dead), (0, .dead), (0 + 1, .dead), (0, .dead), (0 + 1, .arr 1 (ints bent))]) 1 (ints one)) (hx.app [(0, .dead), (0, .dead), (0, .dead), (0, .dead), (0, .dead), (0, .dead), (0, .dead), (0 + 1, .dead), (0, .dead), (0 + 1, .arr 1 (ints bent))]) (hy.app [(0, .dead), (0, .dead), (0, .dead), (0, .dead), (0, .dead), (0, .dead), (0, .dead), (0 + 1, .dead), (0, .dead), (0 + 1, .arr 1 (ints bent))]) (by omega) lx ly ix iy h.length
        rw [← hT] at tk
        have tA := fun hh => app_lsf_nil (cx := ⟨h.length, h.length, 10, none⟩) (s := 4) (z := 3) (lim := 2513169434916) (h := hh) (es := [])
        have tB0 := app_lsf_new (lo := h.length) (ns := 10) (s := 5) (z := 3) (lim := 2513169434916) (ver := 0) (b := .dead) (h := h) (fr := [(0, .dead), (0, .dead), (0, .dead), (0, .dead), (0, .dead), (0, .dead), (0, .dead), (0 + 1, .dead), (0, .dead), (0 + 1, .arr 1 (ints bent))]) (xs := [.agg [.int .i64 fr, lstV 1 (ints two), .lst 2 (pts oth)]]) (by omega) rfl (by simp) (by simp)
        have q3 : [AV.agg [.int .i64 fr, lstV 1 (ints two), .lst 2 (pts oth)]] = trks odd := by rw [hodd, h3]; simp [trks, trk_mkT, lstV_ne, neo]
        have q3l : [AV.agg [.int .i64 fr, lstV 1 (ints two), .lst 2 (pts oth)]].length = odd.length := by rw [hodd, h3]; simp
        rw [q3l] at tB0
        have tB : appv ⟨h.length, h.length, 10, none⟩ 5 3 2513169434916 (.lsf 3 []) [.agg [.int .i64 fr, lstV 1 (ints two), .lst 2 (pts oth)]] (h ++ [(0, .dead), (0, .dead), (0, .dead), (0, .dead), (0, .dead), (0, .dead), (0, .dead), (0 + 1, .dead), (0, .dead), (0 + 1, .arr 1 (ints bent))]) = some (.ref (h.length + 5) (0 + 1) 3 0 odd.length odd.length, h ++ [(0, .dead), (0, .dead), (0, .dead), (0, .dead), (0, .dead), (0 + 1, .arr 3 (trks odd)), (0, .dead), (0 + 1, .dead), (0, .dead), (0 + 1, .arr 1 (ints bent))]) := by rw [← q3]; exact tB0
        have z2 := frz_fr (b := h.length) (k := false) (s := 9) (ver := 0 + 1) (z := 1) (n := bent0.length) (h := h) (fr := [(0, .dead), (0, .dead), (0, .dead), (0, .dead), (0, .dead), (0 + 1, .arr 3 (trks odd)), (0, .dead), (0 + 1, .dead), (0, .dead), (0 + 1, .arr 1 (ints bent))]) (es := ints bent) rfl (by rw [ints_len, hbent, List.length_set]) (by omega)
        have uA := fun hh => app_lsf_nil (cx := ⟨h.length, h.length, 10, none⟩) (s := 2) (z := 3) (lim := 2513169434916) (h := hh) (es := [])
        have uB0 := app_lsf_new (lo := h.length) (ns := 10) (s := 3) (z := 3) (lim := 2513169434916) (ver := 0) (b := .dead) (h := h) (fr := [(0, .dead), (0, .dead), (0, .dead), (0, .dead), (0, .dead), (0 + 1, .arr 3 (trks odd)), (0, .dead), (0 + 1, .dead), (0, .dead), (0 + 1, .dead)]) (xs := [.agg [.int .i64 5, .lst 1 (ints bent), lstV 2 (pts crv)]]) (by omega) rfl (by simp) (by simp)
        have q4 : [AV.agg [.int .i64 5, .lst 1 (ints bent), lstV 2 (pts crv)]] = trks str := by rw [hstr, h3]; simp [trks, trk_mkT, lstV_ne, neb]
        have q4l : [AV.agg [.int .i64 5, .lst 1 (ints bent), lstV 2 (pts crv)]].length = str.length := by rw [hstr, h3]; simp
        rw [q4l] at uB0
        have uB : appv ⟨h.length, h.length, 10, none⟩ 3 3 2513169434916 (.lsf 3 []) [.agg [.int .i64 5, .lst 1 (ints bent), lstV 2 (pts crv)]] (h ++ [(0, .dead), (0, .dead), (0, .dead), (0, .dead), (0, .dead), (0 + 1, .arr 3 (trks odd)), (0, .dead), (0 + 1, .dead), (0, .dead), (0 + 1, .dead)]) = some (.ref (h.length + 3) (0 + 1) 3 0 str.length str.length, h ++ [(0, .dead), (0, .dead), (0, .dead), (0 + 1, .arr 3 (trks str)), (0, .dead), (0 + 1, .arr 3 (trks odd)), (0, .dead), (0 + 1, .dead), (0, .dead), (0 + 1, .dead)]) := by rw [← q4]; exact uB0
        have z3 := frz_fr (b := h.length) (k := false) (s := 5) (ver := 0 + 1) (z := 3) (n := odd.length) (h := h) (fr := [(0, .dead), (0, .dead), (0, .dead), (0 + 1, .arr 3 (trks str)), (0, .dead), (0 + 1, .arr 3 (trks odd)), (0, .dead), (0 + 1, .dead), (0, .dead), (0 + 1, .dead)]) (es := trks odd) rfl (by rw [trks_len]) (by omega)
        have z4 := frz_fr (b := h.length) (k := false) (s := 3) (ver := 0 + 1) (z := 3) (n := str.length) (h := h) (fr := [(0, .dead), (0, .dead), (0, .dead), (0 + 1, .arr 3 (trks str)), (0, .dead), (0 + 1, .dead), (0, .dead), (0 + 1, .dead), (0, .dead), (0 + 1, .dead)]) (es := trks str) rfl (by rw [trks_len]) (by omega)
        have l33' := l33 (H := h ++ [(0, .dead), (0, .dead), (0, .dead), (0 + 1, .dead), (0, .dead), (0 + 1, .dead), (0, .dead), (0 + 1, .dead), (0, .dead), (0 + 1, .dead)]) (cx := ⟨h.length, h.length, 10, none⟩) (es := [lstV 3 (trks T), .lst 3 (trks odd), .lst 3 (trks str)]) (fun e he => by
        simp only [List.mem_cons, List.not_mem_nil, or_false] at he
        rcases he with rfl | rfl | rfl
        · exact ⟨T, Sl.lstV _ 3 _, by omega, okTT⟩
        · exact ⟨odd, Sl.lst _ 3 _, by omega, okTo⟩
        · exact ⟨str, Sl.lst _ 3 _, by omega, okTs⟩) (by simp)
        obtain ⟨q, l30'⟩ := l30 (h := h) (rest := [(0, .dead), (0 + 1, .dead), (0, .dead), (0 + 1, .dead), (0, .dead), (0 + 1, .dead), (0, .dead), (0 + 1, .dead)]) (es := [lstV 1 (ints one), .lst 1 (ints bent), lstV 1 (ints two)]) (fun e he => by
        simp only [List.mem_cons, List.not_mem_nil, or_false] at he
        rcases he with rfl | rfl | rfl
        · exact ⟨one, Sl.lstV _ 1 _, by omega⟩
        · exact ⟨bent, Sl.lst _ 1 _, by omega⟩
        · exact ⟨two, Sl.lstV _ 1 _, by omega⟩) (by simp) (lstV 1 (ints two)) two (Sl.lstV h 1 _) (by omega) n (1 + pickS n0 3000) (pickS n1 1025) (1 + pickS n2 30) (1 + pickS n3 30) n0 n1 n2 n3 on (0 + 1) (.bool true) _ 0 0 .dead rfl (by simp)
        have h33 : (([lstV 2 (pts crv), .lst 2 (pts oth), .lst 0 []] : List AV).length : Int) = 3 := rfl
        have h34 : (([lstV 3 (trks T), .lst 3 (trks odd), .lst 3 (trks str)] : List AV).length : Int) = 3 := rfl
        have h35 : (([lstV 1 (ints one), .lst 1 (ints bent), lstV 1 (ints two)] : List AV).length : Int) = 3 := rfl
        have L34 := fun a2 a3 a6 a19 a21 a22 a23 a24 a25 a26 => l34' a2 a3 a6 a19 a21 a22 a23 a24 a25 a26 _ 0 rfl (by simp)
        have L33 := fun a8 a19 a21 a22 a23 a24 => l33' a8 a19 a21 a22 a23 a24 _ 0 rfl (by simp)
        simp only [h33, h34, h35, Int.natCast_zero] at L34 L33 l30'
        replace ap1 : ∀ fr, appSrc (h ++ fr) 1 (lstV 1 (ints one)) = some [] := fun fr => by rw [ap1 fr, h1]; rfl
        replace ap2 : ∀ fr, appSrc (h ++ fr) 2 (lstV 2 (pts crv)) = some [] := fun fr => by rw [ap2 fr, h2]; rfl
        replace ap3 : ∀ fr, appSrc (h ++ fr) 3 (lstV 3 (trks T)) = some [] := fun fr => by rw [ap3 fr, h3]; rfl
        have hn3 : ((3 : Nat) : Int) = 3 := rfl
        clear l34' l33' okTT okTo okTs hx hy ix iy
        simp (maxSteps := 1000000) (disch := omega) only [go_sem, ↓reduceIte, Nat.reduceEqDiff, Nat.reduceAdd, Nat.reduceSub, Nat.reduceMul, Nat.reduceLT, Nat.reduceLeDiff, reduceCtorEq, Nat.succ_ne_self, ne_eq, not_true_eq_false, not_false_eq_true, and_self, and_true, true_and, Nat.zero_add, Nat.sub_zero, Nat.zero_mul, Nat.one_mul, Nat.le_refl, List.getElem?_cons_zero, List.set_cons_zero, Int.reduceToNat, Int.reduceLT, Int.reduceLE, Int.reduceAdd, Int.reduceSub, Int.reduceMul, Int.reduceEq, Int.reduceNe, Int.toNat_natCast, Int.natCast_zero, wrap_id, wrapu_id, wrapb_id, idx_ok, bin_quo, bin_rem, tdiv_id, tmod_id, ps_bptr, x3, hs, e1, e2, cv, ap1, ap2, ap3, pw1, pw2, pg0, pg1, pg2, pg3, L34, L33, l30', hn3, h33, h34, h35, lenv_sl (Sl.lsf h 1 [lstV 2 (pts crv), .lst 2 (pts oth), .lst 0 []]).len, lenv_sl (Sl.lsf h 1 [lstV 3 (trks T), .lst 3 (trks odd), .lst 3 (trks str)]).len, lenv_sl (Sl.lsf h 1 [lstV 1 (ints one), .lst 1 (ints bent), lstV 1 (ints two)]).len, bA, bB, lenv_sl r1l, s1, w1, oA, oB, lenv_sl r2l, s2, w2, z1, tk, tA, tB, z2, uA, uB, z3, z4]
      · have ne3 : trks T ≠ [] := by intro h0; exact h3 (by simpa [trks] using h0)
        have bA := fun hh => app_lsf_nil (cx := ⟨h.length, h.length, 10, none⟩) (s := 8) (z := 1) (lim := 17592186044416) (h := hh) (es := [])
        have bB0 := app_lsf_new (lo := h.length) (ns := 10) (s := 9) (z := 1) (lim := 17592186044416) (ver := 0) (b := .dead) (h := h) (fr := [(0, .dead), (0, .dead), (0, .dead), (0, .dead), (0, .dead), (0, .dead), (0, .dead), (0, .dead), (0, .dead), (0, .dead)]) (xs := [.int .i64 sm]) (by omega) rfl (by simp) (by simp)
        have q1 : [AV.int .i64 sm] = ints bent0 := by rw [hb0, h1]; rfl
        have q1l : [AV.int .i64 sm].length = bent0.length := by rw [hb0, h1]; simp
        rw [q1l] at bB0
        have bB : appv ⟨h.length, h.length, 10, none⟩ 9 1 17592186044416 (.lsf 1 []) [.int .i64 sm] (h ++ [(0, .dead), (0, .dead), (0, .dead), (0, .dead), (0, .dead), (0, .dead), (0, .dead), (0, .dead), (0, .dead), (0, .dead)]) = some (.ref (h.length + 9) (0 + 1) 1 0 bent0.length bent0.length, h ++ [(0, .dead), (0, .dead), (0, .dead), (0, .dead), (0, .dead), (0, .dead), (0, .dead), (0, .dead), (0, .dead), (0 + 1, .arr 1 (ints bent0))]) := by rw [← q1]; exact bB0
        have r1 := Sl.refAll (h := h) (fr := [(0, .dead), (0, .dead), (0, .dead), (0, .dead), (0, .dead), (0, .dead), (0, .dead), (0, .dead), (0, .dead), (0 + 1, .arr 1 (ints bent0))]) (s := 9) (ver := 0 + 1) (z := 1) (es := ints bent0) rfl
        rw [ints_len] at r1
        have r1l : slen (.ref (h.length + 9) (0 + 1) 1 0 bent0.length bent0.length) = some bent0.length := rfl
        have s1 : sidx 1 (.ref (h.length + 9) (0 + 1) 1 0 bent0.length bent0.length) (.int .i64 k1) = some k1 := by rw [sidx_sl r1 (by omega) (by simp; omega)]; simp
        have w1 := ps_iptr_fr (lo := h.length) (ns := 10) (h := h) (fr := [(0, .dead), (0, .dead), (0, .dead), (0, .dead), (0, .dead), (0, .dead), (0, .dead), (0, .dead), (0, .dead), (0 + 1, .arr 1 (bent0.map (.int .i64)))]) (s := 9) (ver := 0 + 1) (o := 0) (len := bent0.length) (fill := bent0.length) (i := k1) (k := .i64) (l := bent0) (n := sm) rfl rfl (by omega) hk1 (by omega)
        rw [Nat.zero_add k1, ← hbent, show bent0.map (AV.int .i64) = ints bent0 from rfl, show bent.map (AV.int .i64) = ints bent from rfl] at w1
        have oA := fun hh => app_lsf_nil (cx := ⟨h.length, h.length, 10, none⟩) (s := 6) (z := 2) (lim := 8796093022208) (h := hh) (es := [])
        have oB0 := app_lsf_new (lo := h.length) (ns := 10) (s := 7) (z := 2) (lim := 8796093022208) (ver := 0) (b := .dead) (h := h) (fr := [(0, .dead), (0, .dead), (0, .dead), (0, .dead), (0, .dead), (0, .dead), (0, .dead), (0, .dead), (0, .dead), (0 + 1, .arr 1 (ints bent))]) (xs := [.agg [.int .i64 p1, .int .i64 p2]]) (by omega) rfl (by simp) (by simp)
        have q2 : [AV.agg [.int .i64 p1, .int .i64 p2]] = pts oth0 := by rw [ho0, h2]; rfl
        have q2l : [AV.agg [.int .i64 p1, .int .i64 p2]].length = oth0.length := by rw [ho0, h2]; simp
        rw [q2l] at oB0
        have oB : appv ⟨h.length, h.length, 10, none⟩ 7 2 8796093022208 (.lsf 2 []) [.agg [.int .i64 p1, .int .i64 p2]] (h ++ [(0, .dead), (0, .dead), (0, .dead), (0, .dead), (0, .dead), (0, .dead), (0, .dead), (0, .dead), (0, .dead), (0 + 1, .arr 1 (ints bent))]) = some (.ref (h.length + 7) (0 + 1) 2 0 oth0.length oth0.length, h ++ [(0, .dead), (0, .dead), (0, .dead), (0, .dead), (0, .dead), (0, .dead), (0, .dead), (0 + 1, .arr 2 (pts oth0)), (0, .dead), (0 + 1, .arr 1 (ints bent))]) := by rw [← q2]; exact oB0
        have r2 := Sl.refAll (h := h) (fr := [(0, .dead), (0, .dead), (0, .dead), (0, .dead), (0, .dead), (0, .dead), (0, .dead), (0 + 1, .arr 2 (pts oth0)), (0, .dead), (0 + 1, .arr 1 (ints bent))]) (s := 7) (ver := 0 + 1) (z := 2) (es := pts oth0) rfl
        rw [pts_len] at r2
        have r2l : slen (.ref (h.length + 7) (0 + 1) 2 0 oth0.length oth0.length) = some oth0.length := rfl
        have s2 : sidx 2 (.ref (h.length + 7) (0 + 1) 2 0 oth0.length oth0.length) (.int .i64 k2) = some k2 := by rw [sidx_sl r2 (by omega) (by simp; omega)]; simp
        have w2 := ps_iptr_pt (lo := h.length) (ns := 10) (h := h) (fr := [(0, .dead), (0, .dead), (0, .dead), (0, .dead), (0, .dead), (0, .dead), (0, .dead), (0 + 1, .arr 2 (pts oth0)), (0, .dead), (0 + 1, .arr 1 (ints bent))]) (s := 7) (ver := 0 + 1) (n := oth0.length) (i := k2) (l := oth0) (p := (p1, p2)) rfl rfl hk2 (by omega)
        rw [← hoth] at w2
        have z1 := frz_fr (b := h.length) (k := false) (s := 7) (ver := 0 + 1) (z := 2) (n := oth0.length) (h := h) (fr := [(0, .dead), (0, .dead), (0, .dead), (0, .dead), (0, .dead), (0, .dead), (0, .dead), (0 + 1, .arr 2 (pts oth)), (0, .dead), (0 + 1, .arr 1 (ints bent))]) (es := pts oth) rfl (by rw [pts_len, hoth, List.length_set]) (by omega)
        have l34' := l34 (H := h ++ [(0, .dead), (0, .dead), (0, .dead), (0, .dead), (0, .dead), (0, .dead), (0, .dead), (0 + 1, .dead), (0, .dead), (0 + 1, .arr 1 (ints bent))]) (cx := ⟨h.length, h.length, 10, none⟩) (es := [lstV 2 (pts crv), .lst 2 (pts oth), .lst 0 []]) (fun e he => by
        simp only [List.mem_cons, List.not_mem_nil, or_false] at he
        rcases he with rfl | rfl | rfl
        · exact ⟨crv, Sl.lstV _ 2 _, by omega⟩
        · exact ⟨oth, Sl.lst _ 2 _, by omega⟩
        · exact ⟨[], Sl.lst0 _ 2 0, by simp⟩) (by simp) n on
        have tk := tracks_run (Sl.lstV (h ++ [(0, .dead), (0, .dead), (0, .dead), (0, .dead), (0, .dead), (0, .dead), (0, .dead), (0 + 1, .dead), (0, .dead), (0 + 1, .arr 1 (ints bent))]) 1 (ints one)) (hx.app [(0, .dead), (0, .dead), (0, .dead), (0, .dead), (0, .dead), (0, .dead), (0, .dead), (0 + 1, .dead), (0, .dead), (0 + 1, .arr 1 (ints bent))]) (hy.app [(0, .dead), (0, .dead), (0, .dead), (0, .dead), (0, .dead), (0, .dead), (0, .dead), (0 + 1, .dead), (0, .dead), (0 + 1, .arr 1 (ints bent))]) (by omega) lx ly ix iy h.length
        rw [← hT] at tk
        have tA := app_lsf_new (lo := h.length) (ns := 10) (s := 4) (z := 3) (lim := 2513169434916) (ver := 0) (b := .dead) (h := h) (fr := [(0, .dead), (0, .dead), (0, .dead), (0, .dead), (0, .dead), (0, .dead), (0, .dead), (0 + 1, .dead), (0, .dead), (0 + 1, .arr 1 (ints bent))]) (xs := trks T) (by omega) rfl ne3 (by simp; omega)
        have tB := app_ref (cx := ⟨h.length, h.length, 10, none⟩) (s := 5) (z := 3) (lim := 2513169434916) (id := h.length + 4) (ver := 0 + 1) (h := h ++ [(0, .dead), (0, .dead), (0, .dead), (0, .dead), (0 + 1, .arr 3 (trks T)), (0, .dead), (0, .dead), (0 + 1, .dead), (0, .dead), (0 + 1, .arr 1 (ints bent))]) (es := trks T) (xs := [.agg [.int .i64 fr, lstV 1 (ints two), .lst 2 (pts oth)]]) (by rw [get_fr]; rfl) (by simp) (by simp; omega)
        rw [set_fr] at tB
        have q3 : trks T ++ [AV.agg [.int .i64 fr, lstV 1 (ints two), .lst 2 (pts oth)]] = trks odd := by rw [hodd]; simp [trks, trk_mkT, lstV_ne, neo]
        have q3l : (trks T).length + [AV.agg [.int .i64 fr, lstV 1 (ints two), .lst 2 (pts oth)]].length = odd.length := by rw [hodd]; simp
        rw [q3l] at tB
        rw [q3] at tB
        have z2 := frz_fr (b := h.length) (k := false) (s := 9) (ver := 0 + 1) (z := 1) (n := bent0.length) (h := h) (fr := [(0, .dead), (0, .dead), (0, .dead), (0, .dead), (0 + 1, .arr 3 (trks odd)), (0, .dead), (0, .dead), (0 + 1, .dead), (0, .dead), (0 + 1, .arr 1 (ints bent))]) (es := ints bent) rfl (by rw [ints_len, hbent, List.length_set]) (by omega)
        have uA := app_lsf_new (lo := h.length) (ns := 10) (s := 2) (z := 3) (lim := 2513169434916) (ver := 0) (b := .dead) (h := h) (fr := [(0, .dead), (0, .dead), (0, .dead), (0, .dead), (0 + 1, .arr 3 (trks odd)), (0, .dead), (0, .dead), (0 + 1, .dead), (0, .dead), (0 + 1, .dead)]) (xs := trks T) (by omega) rfl ne3 (by simp; omega)
        have uB := app_ref (cx := ⟨h.length, h.length, 10, none⟩) (s := 3) (z := 3) (lim := 2513169434916) (id := h.length + 2) (ver := 0 + 1) (h := h ++ [(0, .dead), (0, .dead), (0 + 1, .arr 3 (trks T)), (0, .dead), (0 + 1, .arr 3 (trks odd)), (0, .dead), (0, .dead), (0 + 1, .dead), (0, .dead), (0 + 1, .dead)]) (es := trks T) (xs := [.agg [.int .i64 5, .lst 1 (ints bent), lstV 2 (pts crv)]]) (by rw [get_fr]; rfl) (by simp) (by simp; omega)
        rw [set_fr] at uB
        have q4 : trks T ++ [AV.agg [.int .i64 5, .lst 1 (ints bent), lstV 2 (pts crv)]] = trks str := by rw [hstr]; simp [trks, trk_mkT, lstV_ne, neb]
        have q4l : (trks T).length + [AV.agg [.int .i64 5, .lst 1 (ints bent), lstV 2 (pts crv)]].length = str.length := by rw [hstr]; simp
        rw [q4l] at uB
        rw [q4] at uB
        have z3 := frz_fr (b := h.length) (k := false) (s := 4) (ver := 0 + 1) (z := 3) (n := odd.length) (h := h) (fr := [(0, .dead), (0, .dead), (0 + 1, .arr 3 (trks str)), (0, .dead), (0 + 1, .arr 3 (trks odd)), (0, .dead), (0, .dead), (0 + 1, .dead), (0, .dead), (0 + 1, .dead)]) (es := trks odd) rfl (by rw [trks_len]) (by omega)
        have z4 := frz_fr (b := h.length) (k := false) (s := 2) (ver := 0 + 1) (z := 3) (n := str.length) (h := h) (fr := [(0, .dead), (0, .dead), (0 + 1, .arr 3 (trks str)), (0, .dead), (0 + 1, .dead), (0, .dead), (0, .dead), (0 + 1, .dead), (0, .dead), (0 + 1, .dead)]) (es := trks str) rfl (by rw [trks_len]) (by omega)
        have l33' := l33 (H := h ++ [(0, .dead), (0, .dead), (0 + 1, .dead), (0, .dead), (0 + 1, .dead), (0, .dead), (0, .dead), (0 + 1, .dead), (0, .dead), (0 + 1, .dead)]) (cx := ⟨h.length, h.length, 10, none⟩) (es := [lstV 3 (trks T), .lst 3 (trks odd), .lst 3 (trks str)]) (fun e he => by
        simp only [List.mem_cons, List.not_mem_nil, or_false] at he
        rcases he with rfl | rfl | rfl
        · exact ⟨T, Sl.lstV _ 3 _, by omega, okTT⟩
        · exact ⟨odd, Sl.lst _ 3 _, by omega, okTo⟩
        · exact ⟨str, Sl.lst _ 3 _, by omega, okTs⟩) (by simp)
        obtain ⟨q, l30'⟩ := l30 (h := h) (rest := [(0 + 1, .dead), (0, .dead), (0 + 1, .dead), (0, .dead), (0, .dead), (0 + 1, .dead), (0, .dead), (0 + 1, .dead)]) (es := [lstV 1 (ints one), .lst 1 (ints bent), lstV 1 (ints two)]) (fun e he => by
        simp only [List.mem_cons, List.not_mem_nil, or_false] at he
        rcases he with rfl | rfl | rfl
        · exact ⟨one, Sl.lstV _ 1 _, by omega⟩
        · exact ⟨bent, Sl.lst _ 1 _, by omega⟩
        · exact ⟨two, Sl.lstV _ 1 _, by omega⟩) (by simp) (lstV 1 (ints two)) two (Sl.lstV h 1 _) (by omega) n (1 + pickS n0 3000) (pickS n1 1025) (1 + pickS n2 30) (1 + pickS n3 30) n0 n1 n2 n3 on (0 + 1) (.bool true) _ 0 0 .dead rfl (by simp)
        have h33 : (([lstV 2 (pts crv), .lst 2 (pts oth), .lst 0 []] : List AV).length : Int) = 3 := rfl
        have h34 : (([lstV 3 (trks T), .lst 3 (trks odd), .lst 3 (trks str)] : List AV).length : Int) = 3 := rfl
        have h35 : (([lstV 1 (ints one), .lst 1 (ints bent), lstV 1 (ints two)] : List AV).length : Int) = 3 := rfl
        have L34 := fun a2 a3 a6 a19 a21 a22 a23 a24 a25 a26 => l34' a2 a3 a6 a19 a21 a22 a23 a24 a25 a26 _ 0 rfl (by simp)
        have L33 := fun a8 a19 a21 a22 a23 a24 => l33' a8 a19 a21 a22 a23 a24 _ 0 rfl (by simp)
        simp only [h33, h34, h35, Int.natCast_zero] at L34 L33 l30'
        replace ap1 : ∀ fr, appSrc (h ++ fr) 1 (lstV 1 (ints one)) = some [] := fun fr => by rw [ap1 fr, h1]; rfl
        replace ap2 : ∀ fr, appSrc (h ++ fr) 2 (lstV 2 (pts crv)) = some [] := fun fr => by rw [ap2 fr, h2]; rfl
        have hn3 : ((3 : Nat) : Int) = 3 := rfl
        clear l34' l33' okTT okTo okTs hx hy ix iy
        simp (maxSteps := 1000000) (disch := omega) only [go_sem, ↓reduceIte, Nat.reduceEqDiff, Nat.reduceAdd, Nat.reduceSub, Nat.reduceMul, Nat.reduceLT, Nat.reduceLeDiff, reduceCtorEq, Nat.succ_ne_self, ne_eq, not_true_eq_false, not_false_eq_true, and_self, and_true, true_and, Nat.zero_add, Nat.sub_zero, Nat.zero_mul, Nat.one_mul, Nat.le_refl, List.getElem?_cons_zero, List.set_cons_zero, Int.reduceToNat, Int.reduceLT, Int.reduceLE, Int.reduceAdd, Int.reduceSub, Int.reduceMul, Int.reduceEq, Int.reduceNe, Int.toNat_natCast, Int.natCast_zero, wrap_id, wrapu_id, wrapb_id, idx_ok, bin_quo, bin_rem, tdiv_id, tmod_id, ps_bptr, x3, hs, e1, e2, cv, ap1, ap2, ap3, pw1, pw2, pg0, pg1, pg2, pg3, L34, L33, l30', hn3, h33, h34, h35, lenv_sl (Sl.lsf h 1 [lstV 2 (pts crv), .lst 2 (pts oth), .lst 0 []]).len, lenv_sl (Sl.lsf h 1 [lstV 3 (trks T), .lst 3 (trks odd), .lst 3 (trks str)]).len, lenv_sl (Sl.lsf h 1 [lstV 1 (ints one), .lst 1 (ints bent), lstV 1 (ints two)]).len, bA, bB, lenv_sl r1l, s1, w1, oA, oB, lenv_sl r2l, s2, w2, z1, tk, tA, tB, z2, uA, uB, z3, z4]
    · have ne2 : pts crv ≠ [] := by rw [ne_eq, pts_nil]; exact h2
      by_cases h3 : T = []
      · skip
        have bA := fun hh => app_lsf_nil (cx := ⟨h.length, h.length, 10, none⟩) (s := 8) (z := 1) (lim := 17592186044416) (h := hh) (es := [])
        have bB0 := app_lsf_new (lo := h.length) (ns := 10) (s := 9) (z := 1) (lim := 17592186044416) (ver := 0) (b := .dead) (h := h) (fr := [(0, .dead), (0, .dead), (0, .dead), (0, .dead), (0, .dead), (0, .dead), (0, .dead), (0, .dead), (0, .dead), (0, .dead)]) (xs := [.int .i64 sm]) (by omega) rfl (by simp) (by simp)
        have q1 : [AV.int .i64 sm] = ints bent0 := by rw [hb0, h1]; rfl
        have q1l : [AV.int .i64 sm].length = bent0.length := by rw [hb0, h1]; simp
        rw [q1l] at bB0
        have bB : appv ⟨h.length, h.length, 10, none⟩ 9 1 17592186044416 (.lsf 1 []) [.int .i64 sm] (h ++ [(0, .dead), (0, .dead), (0, .dead), (0, .dead), (0, .dead), (0, .dead), (0, .dead), (0, .dead), (0, .dead), (0, .dead)]) = some (.ref (h.length + 9) (0 + 1) 1 0 bent0.length bent0.length, h ++ [(0, .dead), (0, .dead), (0, .dead), (0, .dead), (0, .dead), (0, .dead), (0, .dead), (0, .dead), (0, .dead), (0 + 1, .arr 1 (ints bent0))]) := by rw [← q1]; exact bB0
        have r1 := Sl.refAll (h := h) (fr := [(0, .dead), (0, .dead), (0, .dead), (0, .dead), (0, .dead), (0, .dead), (0, .dead), (0, .dead), (0, .dead), (0 + 1, .arr 1 (ints bent0))]) (s := 9) (ver := 0 + 1) (z := 1) (es := ints bent0) rfl
        rw [ints_len] at r1
        have r1l : slen (.ref (h.length + 9) (0 + 1) 1 0 bent0.length bent0.length) = some bent0.length := rfl
        have s1 : sidx 1 (.ref (h.length + 9) (0 + 1) 1 0 bent0.length bent0.length) (.int .i64 k1) = some k1 := by rw [sidx_sl r1 (by omega) (by simp; omega)]; simp
        have w1 := ps_iptr_fr (lo := h.length) (ns := 10) (h := h) (fr := [(0, .dead), (0, .dead), (0, .dead), (0, .dead), (0, .dead), (0, .dead), (0, .dead), (0, .dead), (0, .dead), (0 + 1, .arr 1 (bent0.map (.int .i64)))]) (s := 9) (ver := 0 + 1) (o := 0) (len := bent0.length) (fill := bent0.length) (i := k1) (k := .i64) (l := bent0) (n := sm) rfl rfl (by omega) hk1 (by omega)
        rw [Nat.zero_add k1, ← hbent, show bent0.map (AV.int .i64) = ints bent0 from rfl, show bent.map (AV.int .i64) = ints bent from rfl] at w1
        have oA := app_lsf_new (lo := h.length) (ns := 10) (s := 6) (z := 2) (lim := 8796093022208) (ver := 0) (b := .dead) (h := h) (fr := [(0, .dead), (0, .dead), (0, .dead), (0, .dead), (0, .dead), (0, .dead), (0, .dead), (0, .dead), (0, .dead), (0 + 1, .arr 1 (ints bent))]) (xs := pts crv) (by omega) rfl ne2 (by simp; omega)
        have oB := app_ref (cx := ⟨h.length, h.length, 10, none⟩) (s := 7) (z := 2) (lim := 8796093022208) (id := h.length + 6) (ver := 0 + 1) (h := h ++ [(0, .dead), (0, .dead), (0, .dead), (0, .dead), (0, .dead), (0, .dead), (0 + 1, .arr 2 (pts crv)), (0, .dead), (0, .dead), (0 + 1, .arr 1 (ints bent))]) (es := pts crv) (xs := [.agg [.int .i64 p1, .int .i64 p2]]) (by rw [get_fr]; rfl) (by simp) (by simp; omega)
        rw [set_fr] at oB
        have q2 : pts crv ++ [AV.agg [.int .i64 p1, .int .i64 p2]] = pts oth0 := by rw [ho0]; simp [pts, pt]
        have q2l : (pts crv).length + [AV.agg [.int .i64 p1, .int .i64 p2]].length = oth0.length := by rw [ho0]; simp
        rw [q2l] at oB
        rw [q2] at oB
        have r2 := Sl.refAll (h := h) (fr := [(0, .dead), (0, .dead), (0, .dead), (0, .dead), (0, .dead), (0, .dead), (0 + 1, .arr 2 (pts oth0)), (0, .dead), (0, .dead), (0 + 1, .arr 1 (ints bent))]) (s := 6) (ver := 0 + 1) (z := 2) (es := pts oth0) rfl
        rw [pts_len] at r2
        have r2l : slen (.ref (h.length + 6) (0 + 1) 2 0 oth0.length oth0.length) = some oth0.length := rfl
        have s2 : sidx 2 (.ref (h.length + 6) (0 + 1) 2 0 oth0.length oth0.length) (.int .i64 k2) = some k2 := by rw [sidx_sl r2 (by omega) (by simp; omega)]; simp
        have w2 := ps_iptr_pt (lo := h.length) (ns := 10) (h := h) (fr := [(0, .dead), (0, .dead), (0, .dead), (0, .dead), (0, .dead), (0, .dead), (0 + 1, .arr 2 (pts oth0)), (0, .dead), (0, .dead), (0 + 1, .arr 1 (ints bent))]) (s := 6) (ver := 0 + 1) (n := oth0.length) (i := k2) (l := oth0) (p := (p1, p2)) rfl rfl hk2 (by omega)
        rw [← hoth] at w2
        have z1 := frz_fr (b := h.length) (k := false) (s := 6) (ver := 0 + 1) (z := 2) (n := oth0.length) (h := h) (fr := [(0, .dead), (0, .dead), (0, .dead), (0, .dead), (0, .dead), (0, .dead), (0 + 1, .arr 2 (pts oth)), (0, .dead), (0, .dead), (0 + 1, .arr 1 (ints bent))]) (es := pts oth) rfl (by rw [pts_len, hoth, List.length_set]) (by omega)
        have l34' := l34 (H := h ++ [(0, .dead), (0, .dead), (0, .dead), (0, .dead), (0, .dead), (0, .dead), (0 + 1, .dead), (0, .dead), (0, .dead), (0 + 1, .arr 1 (ints bent))]) (cx := ⟨h.length, h.length, 10, none⟩) (es := [lstV 2 (pts crv), .lst 2 (pts oth), .lst 0 []]) (fun e he => by
        simp only [List.mem_cons, List.not_mem_nil, or_false] at he
        rcases he with rfl | rfl | rfl
        · exact ⟨crv, Sl.lstV _ 2 _, by omega⟩
        · exact ⟨oth, Sl.lst _ 2 _, by omega⟩
        · exact ⟨[], Sl.lst0 _ 2 0, by simp⟩) (by simp) n on
        have tk := tracks_run (Sl.lstV (h ++ [(0, .dead), (0, .dead), (0, .dead), (0, .dead), (0, .dead), (0, .dead), (0 + 1, .dead), (0, .dead), (0, .dead), (0 + 1, .arr 1 (ints bent))]) 1 (ints one)) (hx.app [(0, .dead), (0, .dead), (0, .dead), (0, .dead), (0, .dead), (0, .dead), (0 + 1, .dead), (0, .dead), (0, .dead), (0 + 1, .arr 1 (ints bent))]) (hy.app [(0, .dead), (0, .dead), (0, .dead), (0, .dead), (0, .dead), (0, .dead), (0 + 1, .dead), (0, .dead), (0, .dead), (0 + 1, .arr 1 (ints bent))]) (by omega) lx ly ix iy h.length
        rw [← hT] at tk
        have tA := fun hh => app_lsf_nil (cx := ⟨h.length, h.length, 10, none⟩) (s := 4) (z := 3) (lim := 2513169434916) (h := hh) (es := [])
        have tB0 := app_lsf_new (lo := h.length) (ns := 10) (s := 5) (z := 3) (lim := 2513169434916) (ver := 0) (b := .dead) (h := h) (fr := [(0, .dead), (0, .dead), (0, .dead), (0, .dead), (0, .dead), (0, .dead), (0 + 1, .dead), (0, .dead), (0, .dead), (0 + 1, .arr 1 (ints bent))]) (xs := [.agg [.int .i64 fr, lstV 1 (ints two), .lst 2 (pts oth)]]) (by omega) rfl (by simp) (by simp)
        have q3 : [AV.agg [.int .i64 fr, lstV 1 (ints two), .lst 2 (pts oth)]] = trks odd := by rw [hodd, h3]; simp [trks, trk_mkT, lstV_ne, neo]
        have q3l : [AV.agg [.int .i64 fr, lstV 1 (ints two), .lst 2 (pts oth)]].length = odd.length := by rw [hodd, h3]; simp
        rw [q3l] at tB0
        have tB : appv ⟨h.length, h.length, 10, none⟩ 5 3 2513169434916 (.lsf 3 []) [.agg [.int .i64 fr, lstV 1 (ints two), .lst 2 (pts oth)]] (h ++ [(0, .dead), (0, .dead), (0, .dead), (0, .dead), (0, .dead), (0, .dead), (0 + 1, .dead), (0, .dead), (0, .dead), (0 + 1, .arr 1 (ints bent))]) = some (.ref (h.length + 5) (0 + 1) 3 0 odd.length odd.length, h ++ [(0, .dead), (0, .dead), (0, .dead), (0, .dead), (0, .dead), (0 + 1, .arr 3 (trks odd)), (0 + 1, .dead), (0, .dead), (0, .dead), (0 + 1, .arr 1 (ints bent))]) := by rw [← q3]; exact tB0
        have z2 := frz_fr (b := h.length) (k := false) (s := 9) (ver := 0 + 1) (z := 1) (n := bent0.length) (h := h) (fr := [(0, .dead), (0, .dead), (0, .dead), (0, .dead), (0, .dead), (0 + 1, .arr 3 (trks odd)), (0 + 1, .dead), (0, .dead), (0, .dead), (0 + 1, .arr 1 (ints bent))]) (es := ints bent) rfl (by rw [ints_len, hbent, List.length_set]) (by omega)
        have uA := fun hh => app_lsf_nil (cx := ⟨h.length, h.length, 10, none⟩) (s := 2) (z := 3) (lim := 2513169434916) (h := hh) (es := [])
        have uB0 := app_lsf_new (lo := h.length) (ns := 10) (s := 3) (z := 3) (lim := 2513169434916) (ver := 0) (b := .dead) (h := h) (fr := [(0, .dead), (0, .dead), (0, .dead), (0, .dead), (0, .dead), (0 + 1, .arr 3 (trks odd)), (0 + 1, .dead), (0, .dead), (0, .dead), (0 + 1, .dead)]) (xs := [.agg [.int .i64 5, .lst 1 (ints bent), lstV 2 (pts crv)]]) (by omega) rfl (by simp) (by simp)
        have q4 : [AV.agg [.int .i64 5, .lst 1 (ints bent), lstV 2 (pts crv)]] = trks str := by rw [hstr, h3]; simp [trks, trk_mkT, lstV_ne, neb]
        have q4l : [AV.agg [.int .i64 5, .lst 1 (ints bent), lstV 2 (pts crv)]].length = str.length := by rw [hstr, h3]; simp
        rw [q4l] at uB0
        have uB : appv ⟨h.length, h.length, 10, none⟩ 3 3 2513169434916 (.lsf 3 []) [.agg [.int .i64 5, .lst 1 (ints bent), lstV 2 (pts crv)]] (h ++ [(0, .dead), (0, .dead), (0, .dead), (0, .dead), (0, .dead), (0 + 1, .arr 3 (trks odd)), (0 + 1, .dead), (0, .dead), (0, .dead), (0 + 1, .dead)]) = some (.ref (h.length + 3) (0 + 1) 3 0 str.length str.length, h ++ [(0, .dead), (0, .dead), (0, .dead), (0 + 1, .arr 3 (trks str)), (0, .dead), (0 + 1, .arr 3 (trks odd)), (0 + 1, .dead), (0, .dead), (0, .dead), (0 + 1, .dead)]) := by rw [← q4]; exact uB0
        have z3 := frz_fr (b := h.length) (k := false) (s := 5) (ver := 0 + 1) (z := 3) (n := odd.length) (h := h) (fr := [(0, .dead), (0, .dead), (0, .dead), (0 + 1, .arr 3 (trks str)), (0, .dead), (0 + 1, .arr 3 (trks odd)), (0 + 1, .dead), (0, .dead), (0, .dead), (0 + 1, .dead)]) (es := trks odd) rfl (by rw [trks_len]) (by omega)
        have z4 := frz_fr (b := h.length) (k := false) (s := 3) (ver := 0 + 1) (z := 3) (n := str.length) (h := h) (fr := [(0, .dead), (0, .dead), (0, .dead), (0 + 1, .arr 3 (trks str)), (0, .dead), (0 + 1, .dead), (0 + 1, .dead), (0, .dead), (0, .dead), (0 + 1, .dead)]) (es := trks str) rfl (by rw [trks_len]) (by omega)
        have l33' := l33 (H := h ++ [(0, .dead), (0, .dead), (0, .dead), (0 + 1, .dead), (0, .dead), (0 + 1, .dead), (0 + 1, .dead), (0, .dead), (0, .dead), (0 + 1, .dead)]) (cx := ⟨h.length, h.length, 10, none⟩) (es := [lstV 3 (trks T), .lst 3 (trks odd), .lst 3 (trks str)]) (fun e he => by
        simp only [List.mem_cons, List.not_mem_nil, or_false] at he
        rcases he with rfl | rfl | rfl
        · exact ⟨T, Sl.lstV _ 3 _, by omega, okTT⟩
        · exact ⟨odd, Sl.lst _ 3 _, by omega, okTo⟩
        · exact ⟨str, Sl.lst _ 3 _, by omega, okTs⟩) (by simp)
        obtain ⟨q, l30'⟩ := l30 (h := h) (rest := [(0, .dead), (0 + 1, .dead), (0, .dead), (0 + 1, .dead), (0 + 1, .dead), (0, .dead), (0, .dead), (0 + 1, .dead)]) (es := [lstV 1 (ints one), .lst 1 (ints bent), lstV 1 (ints two)]) (fun e he => by
        simp only [List.mem_cons, List.not_mem_nil, or_false] at he
        rcases he with rfl | rfl | rfl
        · exact ⟨one, Sl.lstV _ 1 _, by omega⟩
        · exact ⟨bent, Sl.lst _ 1 _, by omega⟩
        · exact ⟨two, Sl.lstV _ 1 _, by omega⟩) (by simp) (lstV 1 (ints two)) two (Sl.lstV h 1 _) (by omega) n (1 + pickS n0 3000) (pickS n1 1025) (1 + pickS n2 30) (1 + pickS n3 30) n0 n1 n2 n3 on (0 + 1) (.bool true) _ 0 0 .dead rfl (by simp)
        have h33 : (([lstV 2 (pts crv), .lst 2 (pts oth), .lst 0 []] : List AV).length : Int) = 3 := rfl
        have h34 : (([lstV 3 (trks T), .lst 3 (trks odd), .lst 3 (trks str)] : List AV).length : Int) = 3 := rfl
        have h35 : (([lstV 1 (ints one), .lst 1 (ints bent), lstV 1 (ints two)] : List AV).length : Int) = 3 := rfl
        have L34 := fun a2 a3 a6 a19 a21 a22 a23 a24 a25 a26 => l34' a2 a3 a6 a19 a21 a22 a23 a24 a25 a26 _ 0 rfl (by simp)
        have L33 := fun a8 a19 a21 a22 a23 a24 => l33' a8 a19 a21 a22 a23 a24 _ 0 rfl (by simp)
        simp only [h33, h34, h35, Int.natCast_zero] at L34 L33 l30'
        replace ap1 : ∀ fr, appSrc (h ++ fr) 1 (lstV 1 (ints one)) = some [] := fun fr => by rw [ap1 fr, h1]; rfl
        replace ap3 : ∀ fr, appSrc (h ++ fr) 3 (lstV 3 (trks T)) = some [] := fun fr => by rw [ap3 fr, h3]; rfl
        have hn3 : ((3 : Nat) : Int) = 3 := rfl
        clear l34' l33' okTT okTo okTs hx hy ix iy
        simp (maxSteps := 1000000) (disch := omega) only [go_sem, ↓reduceIte, Nat.reduceEqDiff, Nat.reduceAdd, Nat.reduceSub, Nat.reduceMul, Nat.reduceLT, Nat.reduceLeDiff, reduceCtorEq, Nat.succ_ne_self, ne_eq, not_true_eq_false, not_false_eq_true, and_self, and_true, true_and, Nat.zero_add, Nat.sub_zero, Nat.zero_mul, Nat.one_mul, Nat.le_refl, List.getElem?_cons_zero, List.set_cons_zero, Int.reduceToNat, Int.reduceLT, Int.reduceLE, Int.reduceAdd, Int.reduceSub, Int.reduceMul, Int.reduceEq, Int.reduceNe, Int.toNat_natCast, Int.natCast_zero, wrap_id, wrapu_id, wrapb_id, idx_ok, bin_quo, bin_rem, tdiv_id, tmod_id, ps_bptr, x3, hs, e1, e2, cv, ap1, ap2, ap3, pw1, pw2, pg0, pg1, pg2, pg3, L34, L33, l30', hn3, h33, h34, h35, lenv_sl (Sl.lsf h 1 [lstV 2 (pts crv), .lst 2 (pts oth), .lst 0 []]).len, lenv_sl (Sl.lsf h 1 [lstV 3 (trks T), .lst 3 (trks odd), .lst 3 (trks str)]).len, lenv_sl (Sl.lsf h 1 [lstV 1 (ints one), .lst 1 (ints bent), lstV 1 (ints two)]).len, bA, bB, lenv_sl r1l, s1, w1, oA, oB, lenv_sl r2l, s2, w2, z1, tk, tA, tB, z2, uA, uB, z3, z4]
      · have ne3 : trks T ≠ [] := by intro h0; exact h3 (by simpa [trks] using h0)
        have bA := fun hh => app_lsf_nil (cx := ⟨h.length, h.length, 10, none⟩) (s := 8) (z := 1) (lim := 17592186044416) (h := hh) (es := [])
        have bB0 := app_lsf_new (lo := h.length) (ns := 10) (s := 9) (z := 1) (lim := 17592186044416) (ver := 0) (b := .dead) (h := h) (fr := [(0, .dead), (0, .dead), (0, .dead), (0, .dead), (0, .dead), (0, .dead), (0, .dead), (0, .dead), (0, .dead), (0, .dead)]) (xs := [.int .i64 sm]) (by omega) rfl (by simp) (by simp)
        have q1 : [AV.int .i64 sm] = ints bent0 := by rw [hb0, h1]; rfl
        have q1l : [AV.int .i64 sm].length = bent0.length := by rw [hb0, h1]; simp
        rw [q1l] at bB0
        have bB : appv ⟨h.length, h.length, 10, none⟩ 9 1 17592186044416 (.lsf 1 []) [.int .i64 sm] (h ++ [(0, .dead), (0, .dead), (0, .dead), (0, .dead), (0, .dead), (0, .dead), (0, .dead), (0, .dead), (0, .dead), (0, .dead)]) = some (.ref (h.length + 9) (0 + 1) 1 0 bent0.length bent0.length, h ++ [(0, .dead), (0, .dead), (0, .dead), (0, .dead), (0, .dead), (0, .dead), (0, .dead), (0, .dead), (0, .dead), (0 + 1, .arr 1 (ints bent0))]) := by rw [← q1]; exact bB0
        have r1 := Sl.refAll (h := h) (fr := [(0, .dead), (0, .dead), (0, .dead), (0, .dead), (0, .dead), (0, .dead), (0, .dead), (0, .dead), (0, .dead), (0 + 1, .arr 1 (ints bent0))]) (s := 9) (ver := 0 + 1) (z := 1) (es := ints bent0) rfl
        rw [ints_len] at r1
        have r1l : slen (.ref (h.length + 9) (0 + 1) 1 0 bent0.length bent0.length) = some bent0.length := rfl
        have s1 : sidx 1 (.ref (h.length + 9) (0 + 1) 1 0 bent0.length bent0.length) (.int .i64 k1) = some k1 := by rw [sidx_sl r1 (by omega) (by simp; omega)]; simp
        have w1 := ps_iptr_fr (lo := h.length) (ns := 10) (h := h) (fr := [(0, .dead), (0, .dead), (0, .dead), (0, .dead), (0, .dead), (0, .dead), (0, .dead), (0, .dead), (0, .dead), (0 + 1, .arr 1 (bent0.map (.int .i64)))]) (s := 9) (ver := 0 + 1) (o := 0) (len := bent0.length) (fill := bent0.length) (i := k1) (k := .i64) (l := bent0) (n := sm) rfl rfl (by omega) hk1 (by omega)
        rw [Nat.zero_add k1, ← hbent, show bent0.map (AV.int .i64) = ints bent0 from rfl, show bent.map (AV.int .i64) = ints bent from rfl] at w1
        have oA := app_lsf_new (lo := h.length) (ns := 10) (s := 6) (z := 2) (lim := 8796093022208) (ver := 0) (b := .dead) (h := h) (fr := [(0, .dead), (0, .dead), (0, .dead), (0, .dead), (0, .dead), (0, .dead), (0, .dead), (0, .dead), (0, .dead), (0 + 1, .arr 1 (ints bent))]) (xs := pts crv) (by omega) rfl ne2 (by simp; omega)
        have oB := app_ref (cx := ⟨h.length, h.length, 10, none⟩) (s := 7) (z := 2) (lim := 8796093022208) (id := h.length + 6) (ver := 0 + 1) (h := h ++ [(0, .dead), (0, .dead), (0, .dead), (0, .dead), (0, .dead), (0, .dead), (0 + 1, .arr 2 (pts crv)), (0, .dead), (0, .dead), (0 + 1, .arr 1 (ints bent))]) (es := pts crv) (xs := [.agg [.int .i64 p1, .int .i64 p2]]) (by rw [get_fr]; rfl) (by simp) (by simp; omega)
        rw [set_fr] at oB
        have q2 : pts crv ++ [AV.agg [.int .i64 p1, .int .i64 p2]] = pts oth0 := by rw [ho0]; simp [pts, pt]
        have q2l : (pts crv).length + [AV.agg [.int .i64 p1, .int .i64 p2]].length = oth0.length := by rw [ho0]; simp
        rw [q2l] at oB
        rw [q2] at oB
        have r2 := Sl.refAll (h := h) (fr := [(0, .dead), (0, .dead), (0, .dead), (0, .dead), (0, .dead), (0, .dead), (0 + 1, .arr 2 (pts oth0)), (0, .dead), (0, .dead), (0 + 1, .arr 1 (ints bent))]) (s := 6) (ver := 0 + 1) (z := 2) (es := pts oth0) rfl
        rw [pts_len] at r2
        have r2l : slen (.ref (h.length + 6) (0 + 1) 2 0 oth0.length oth0.length) = some oth0.length := rfl
        have s2 : sidx 2 (.ref (h.length + 6) (0 + 1) 2 0 oth0.length oth0.length) (.int .i64 k2) = some k2 := by rw [sidx_sl r2 (by omega) (by simp; omega)]; simp
        have w2 := ps_iptr_pt (lo := h.length) (ns := 10) (h := h) (fr := [(0, .dead), (0, .dead), (0, .dead), (0, .dead), (0, .dead), (0, .dead), (0 + 1, .arr 2 (pts oth0)), (0, .dead), (0, .dead), (0 + 1, .arr 1 (ints bent))]) (s := 6) (ver := 0 + 1) (n := oth0.length) (i := k2) (l := oth0) (p := (p1, p2)) rfl rfl hk2 (by omega)
        rw [← hoth] at w2
        have z1 := frz_fr (b := h.length) (k := false) (s := 6) (ver := 0 + 1) (z := 2) (n := oth0.length) (h := h) (fr := [(0, .dead), (0, .dead), (0, .dead), (0, .dead), (0, .dead), (0, .dead), (0 + 1, .arr 2 (pts oth)), (0, .dead), (0, .dead), (0 + 1, .arr 1 (ints bent))]) (es := pts oth) rfl (by rw [pts_len, hoth, List.length_set]) (by omega)
        have l34' := l34 (H := h ++ [(0, .dead), (0, .dead), (0, .dead), (0, .dead), (0, .dead), (0, .dead), (0 + 1, .dead), (0, .dead), (0, .dead), (0 + 1, .arr 1 (ints bent))]) (cx := ⟨h.length, h.length, 10, none⟩) (es := [lstV 2 (pts crv), .lst 2 (pts oth), .lst 0 []]) (fun e he => by
        simp only [List.mem_cons, List.not_mem_nil, or_false] at he
        rcases he with rfl | rfl | rfl
        · exact ⟨crv, Sl.lstV _ 2 _, by omega⟩
        · exact ⟨oth, Sl.lst _ 2 _, by omega⟩
        · exact ⟨[], Sl.lst0 _ 2 0, by simp⟩) (by simp) n on
        have tk := tracks_run (Sl.lstV (h ++ [(0, .dead), (0, .dead), (0, .dead), (0, .dead), (0, .dead), (0, .dead), (0 + 1, .dead), (0, .dead), (0, .dead), (0 + 1, .arr 1 (ints bent))]) 1 (ints one)) (hx.app [(0, .dead), (0, .dead), (0, .dead), (0, .dead), (0, .dead), (0, .dead), (0 + 1, .dead), (0, .dead), (0, .dead), (0 + 1, .arr 1 (ints bent))]) (hy.app [(0, .dead), (0, .dead), (0, .dead), (0, .dead), (0, .dead), (0, .dead), (0 + 1, .dead), (0, .dead), (0, .dead), (0 + 1, .arr 1 (ints bent))]) (by omega) lx ly ix iy h.length
        rw [← hT] at tk
        have tA := app_lsf_new (lo := h.length) (ns := 10) (s := 4) (z := 3) (lim := 2513169434916) (ver := 0) (b := .dead) (h := h) (fr := [(0, .dead), (0, .dead), (0, .dead), (0, .dead), (0, .dead), (0, .dead), (0 + 1, .dead), (0, .dead), (0, .dead), (0 + 1, .arr 1 (ints bent))]) (xs := trks T) (by omega) rfl ne3 (by simp; omega)
        have tB := app_ref (cx := ⟨h.length, h.length, 10, none⟩) (s := 5) (z := 3) (lim := 2513169434916) (id := h.length + 4) (ver := 0 + 1) (h := h ++ [(0, .dead), (0, .dead), (0, .dead), (0, .dead), (0 + 1, .arr 3 (trks T)), (0, .dead), (0 + 1, .dead), (0, .dead), (0, .dead), (0 + 1, .arr 1 (ints bent))]) (es := trks T) (xs := [.agg [.int .i64 fr, lstV 1 (ints two), .lst 2 (pts oth)]]) (by rw [get_fr]; rfl) (by simp) (by simp; omega)
        rw [set_fr] at tB
        have q3 : trks T ++ [AV.agg [.int .i64 fr, lstV 1 (ints two), .lst 2 (pts oth)]] = trks odd := by rw [hodd]; simp [trks, trk_mkT, lstV_ne, neo]
        have q3l : (trks T).length + [AV.agg [.int .i64 fr, lstV 1 (ints two), .lst 2 (pts oth)]].length = odd.length := by rw [hodd]; simp
        rw [q3l] at tB
        rw [q3] at tB
        have z2 := frz_fr (b := h.length) (k := false) (s := 9) (ver := 0 + 1) (z := 1) (n := bent0.length) (h := h) (fr := [(0, .dead), (0, .dead), (0, .dead), (0, .dead), (0 + 1, .arr 3 (trks odd)), (0, .dead), (0 + 1, .dead), (0, .dead), (0, .dead), (0 + 1, .arr 1 (ints bent))]) (es := ints bent) rfl (by rw [ints_len, hbent, List.length_set]) (by omega)
        have uA := app_lsf_new (lo := h.length) (ns := 10) (s := 2) (z := 3) (lim := 2513169434916) (ver := 0) (b := .dead) (h := h) (fr := [(0, .dead), (0, .dead), (0, .dead), (0, .dead), (0 + 1, .arr 3 (trks odd)), (0, .dead), (0 + 1, .dead), (0, .dead), (0, .dead), (0 + 1, .dead)]) (xs := trks T) (by omega) rfl ne3 (by simp; omega)
        have uB := app_ref (cx := ⟨h.length, h.length, 10, none⟩) (s := 3) (z := 3) (lim := 2513169434916) (id := h.length + 2) (ver := 0 + 1) (h := h ++ [(0, .dead), (0, .dead), (0 + 1, .arr 3 (trks T)), (0, .dead), (0 + 1, .arr 3 (trks odd)), (0, .dead), (0 + 1, .dead), (0, .dead), (0, .dead), (0 + 1, .dead)]) (es := trks T) (xs := [.agg [.int .i64 5, .lst 1 (ints bent), lstV 2 (pts crv)]]) (by rw [get_fr]; rfl) (by simp) (by simp; omega)
        rw [set_fr] at uB
        have q4 : trks T ++ [AV.agg [.int .i64 5, .lst 1 (ints bent), lstV 2 (pts crv)]] = trks str := by rw [hstr]; simp [trks, trk_mkT, lstV_ne, neb]
        have q4l : (trks T).length + [AV.agg [.int .i64 5, .lst 1 (ints bent), lstV 2 (pts crv)]].length = str.length := by rw [hstr]; simp
        rw [q4l] at uB
        rw [q4] at uB
        have z3 := frz_fr (b := h.length) (k := false) (s := 4) (ver := 0 + 1) (z := 3) (n := odd.length) (h := h) (fr := [(0, .dead), (0, .dead), (0 + 1, .arr 3 (trks str)), (0, .dead), (0 + 1, .arr 3 (trks odd)), (0, .dead), (0 + 1, .dead), (0, .dead), (0, .dead), (0 + 1, .dead)]) (es := trks odd) rfl (by rw [trks_len]) (by omega)
        have z4 := frz_fr (b := h.length) (k := false) (s := 2) (ver := 0 + 1) (z := 3) (n := str.length) (h := h) (fr := [(0, .dead), (0, .dead), (0 + 1, .arr 3 (trks str)), (0, .dead), (0 + 1, .dead), (0, .dead), (0 + 1, .dead), (0, .dead), (0, .dead), (0 + 1, .dead)]) (es := trks str) rfl (by rw [trks_len]) (by omega)
        have l33' := l33 (H := h ++ [(0, .dead), (0, .dead), (0 + 1, .dead), (0, .dead), (0 + 1, .dead), (0, .dead), (0 + 1, .dead), (0, .dead), (0, .dead), (0 + 1, .dead)]) (cx := ⟨h.length, h.length, 10, none⟩) (es := [lstV 3 (trks T), .lst 3 (trks odd), .lst 3 (trks str)]) (fun e he => by
        simp only [List.mem_cons, List.not_mem_nil, or_false] at he
        rcases he with rfl | rfl | rfl
        · exact ⟨T, Sl.lstV _ 3 _, by omega, okTT⟩
        · exact ⟨odd, Sl.lst _ 3 _, by omega, okTo⟩
        · exact ⟨str, Sl.lst _ 3 _, by omega, okTs⟩) (by simp)
        obtain ⟨q, l30'⟩ := l30 (h := h) (rest := [(0 + 1, .dead), (0, .dead), (0 + 1, .dead), (0, .dead), (0 + 1, .dead), (0, .dead), (0, .dead), (0 + 1, .dead)]) (es := [lstV 1 (ints one), .lst 1 (ints bent), lstV 1 (ints two)]) (fun e he => by
        simp only [List.mem_cons, List.not_mem_nil, or_false] at he
        rcases he with rfl | rfl | rfl
        · exact ⟨one, Sl.lstV _ 1 _, by omega⟩
        · exact ⟨bent, Sl.lst _ 1 _, by omega⟩
        · exact ⟨two, Sl.lstV _ 1 _, by omega⟩) (by simp) (lstV 1 (ints two)) two (Sl.lstV h 1 _) (by omega) n (1 + pickS n0 3000) (pickS n1 1025) (1 + pickS n2 30) (1 + pickS n3 30) n0 n1 n2 n3 on (0 + 1) (.bool true) _ 0 0 .dead rfl (by simp)
        have h33 : (([lstV 2 (pts crv), .lst 2 (pts oth), .lst 0 []] : List AV).length : Int) = 3 := rfl
        have h34 : (([lstV 3 (trks T), .lst 3 (trks odd), .lst 3 (trks str)] : List AV).length : Int) = 3 := rfl
        have h35 : (([lstV 1 (ints one), .lst 1 (ints bent), lstV 1 (ints two)] : List AV).length : Int) = 3 := rfl
        have L34 := fun a2 a3 a6 a19 a21 a22 a23 a24 a25 a26 => l34' a2 a3 a6 a19 a21 a22 a23 a24 a25 a26 _ 0 rfl (by simp)
        have L33 := fun a8 a19 a21 a22 a23 a24 => l33' a8 a19 a21 a22 a23 a24 _ 0 rfl (by simp)
        simp only [h33, h34, h35, Int.natCast_zero] at L34 L33 l30'
        replace ap1 : ∀ fr, appSrc (h ++ fr) 1 (lstV 1 (ints one)) = some [] := fun fr => by rw [ap1 fr, h1]; rfl
        have hn3 : ((3 : Nat) : Int) = 3 := rfl
        clear l34' l33' okTT okTo okTs hx hy ix iy
        simp (maxSteps := 1000000) (disch := omega) only [go_sem, ↓reduceIte, Nat.reduceEqDiff, Nat.reduceAdd, Nat.reduceSub, Nat.reduceMul, Nat.reduceLT, Nat.reduceLeDiff, reduceCtorEq, Nat.succ_ne_self, ne_eq, not_true_eq_false, not_false_eq_true, and_self, and_true, true_and, Nat.zero_add, Nat.sub_zero, Nat.zero_mul, Nat.one_mul, Nat.le_refl, List.getElem?_cons_zero, List.set_cons_zero, Int.reduceToNat, Int.reduceLT, Int.reduceLE, Int.reduceAdd, Int.reduceSub, Int.reduceMul, Int.reduceEq, Int.reduceNe, Int.toNat_natCast, Int.natCast_zero, wrap_id, wrapu_id, wrapb_id, idx_ok, bin_quo, bin_rem, tdiv_id, tmod_id, ps_bptr, x3, hs, e1, e2, cv, ap1, ap2, ap3, pw1, pw2, pg0, pg1, pg2, pg3, L34, L33, l30', hn3, h33, h34, h35, lenv_sl (Sl.lsf h 1 [lstV 2 (pts crv), .lst 2 (pts oth), .lst 0 []]).len, lenv_sl (Sl.lsf h 1 [lstV 3 (trks T), .lst 3 (trks odd), .lst 3 (trks str)]).len, lenv_sl (Sl.lsf h 1 [lstV 1 (ints one), .lst 1 (ints bent), lstV 1 (ints two)]).len, bA, bB, lenv_sl r1l, s1, w1, oA, oB, lenv_sl r2l, s2, w2, z1, tk, tA, tB, z2, uA, uB, z3, z4]
  · have ne1 : ints one ≠ [] := by rw [ne_eq, ints_nil]; exact h1
    by_cases h2 : crv = []
    · skip
      by_cases h3 : T = []
      · skip
        have bA := app_lsf_new (lo := h.length) (ns := 10) (s := 8) (z := 1) (lim := 17592186044416) (ver := 0) (b := .dead) (h := h) (fr := [(0, .dead), (0, .dead), (0, .dead), (0, .dead), (0, .dead), (0, .dead), (0, .dead), (0, .dead), (0, .dead), (0, .dead)]) (xs := ints one) (by omega) rfl ne1 (by simp; omega)
        have bB := app_ref (cx := ⟨h.length, h.length, 10, none⟩) (s := 9) (z := 1) (lim := 17592186044416) (id := h.length + 8) (ver := 0 + 1) (h := h ++ [(0, .dead), (0, .dead), (0, .dead), (0, .dead), (0, .dead), (0, .dead), (0, .dead), (0, .dead), (0 + 1, .arr 1 (ints one)), (0, .dead)]) (es := ints one) (xs := [.int .i64 sm]) (by rw [get_fr]; rfl) (by simp) (by simp; omega)
        rw [set_fr] at bB
        have q1 : ints one ++ [AV.int .i64 sm] = ints bent0 := by rw [hb0]; simp [ints]
        have q1l : (ints one).length + [AV.int .i64 sm].length = bent0.length := by rw [hb0]; simp
        rw [q1l] at bB
        rw [q1] at bB
        have r1 := Sl.refAll (h := h) (fr := [(0, .dead), (0, .dead), (0, .dead), (0, .dead), (0, .dead), (0, .dead), (0, .dead), (0, .dead), (0 + 1, .arr 1 (ints bent0)), (0, .dead)]) (s := 8) (ver := 0 + 1) (z := 1) (es := ints bent0) rfl
        rw [ints_len] at r1
        have r1l : slen (.ref (h.length + 8) (0 + 1) 1 0 bent0.length bent0.length) = some bent0.length := rfl
        have s1 : sidx 1 (.ref (h.length + 8) (0 + 1) 1 0 bent0.length bent0.length) (.int .i64 k1) = some k1 := by rw [sidx_sl r1 (by omega) (by simp; omega)]; simp
        have w1 := ps_iptr_fr (lo := h.length) (ns := 10) (h := h) (fr := [(0, .dead), (0, .dead), (0, .dead), (0, .dead), (0, .dead), (0, .dead), (0, .dead), (0, .dead), (0 + 1, .arr 1 (bent0.map (.int .i64))), (0, .dead)]) (s := 8) (ver := 0 + 1) (o := 0) (len := bent0.length) (fill := bent0.length) (i := k1) (k := .i64) (l := bent0) (n := sm) rfl rfl (by omega) hk1 (by omega)
        rw [Nat.zero_add k1, ← hbent, show bent0.map (AV.int .i64) = ints bent0 from rfl, show bent.map (AV.int .i64) = ints bent from rfl] at w1
        have oA := fun hh => app_lsf_nil (cx := ⟨h.length, h.length, 10, none⟩) (s := 6) (z := 2) (lim := 8796093022208) (h := hh) (es := [])
        have oB0 := app_lsf_new (lo := h.length) (ns := 10) (s := 7) (z := 2) (lim := 8796093022208) (ver := 0) (b := .dead) (h := h) (fr := [(0, .dead), (0, .dead), (0, .dead), (0, .dead), (0, .dead), (0, .dead), (0, .dead), (0, .dead), (0 + 1, .arr 1 (ints bent)), (0, .dead)]) (xs := [.agg [.int .i64 p1, .int .i64 p2]]) (by omega) rfl (by simp) (by simp)
        have q2 : [AV.agg [.int .i64 p1, .int .i64 p2]] = pts oth0 := by rw [ho0, h2]; rfl
        have q2l : [AV.agg [.int .i64 p1, .int .i64 p2]].length = oth0.length := by rw [ho0, h2]; simp
        rw [q2l] at oB0
        have oB : appv ⟨h.length, h.length, 10, none⟩ 7 2 8796093022208 (.lsf 2 []) [.agg [.int .i64 p1, .int .i64 p2]] (h ++ [(0, .dead), (0, .dead), (0, .dead), (0, .dead), (0, .dead), (0, .dead), (0, .dead), (0, .dead), (0 + 1, .arr 1 (ints bent)), (0, .dead)]) = some (.ref (h.length + 7) (0 + 1) 2 0 oth0.length oth0.length, h ++ [(0, .dead), (0, .dead), (0, .dead), (0, .dead), (0, .dead), (0, .dead), (0, .dead), (0 + 1, .arr 2 (pts oth0)), (0 + 1, .arr 1 (ints bent)), (0, .dead)]) := by rw [← q2]; exact oB0
        have r2 := Sl.refAll (h := h) (fr := [(0, .dead), (0, .dead), (0, .dead), (0, .dead), (0, .dead), (0, .dead), (0, .dead), (0 + 1, .arr 2 (pts oth0)), (0 + 1, .arr 1 (ints bent)), (0, .dead)]) (s := 7) (ver := 0 + 1) (z := 2) (es := pts oth0) rfl
        rw [pts_len] at r2
        have r2l : slen (.ref (h.length + 7) (0 + 1) 2 0 oth0.length oth0.length) = some oth0.length := rfl
        have s2 : sidx 2 (.ref (h.length + 7) (0 + 1) 2 0 oth0.length oth0.length) (.int .i64 k2) = some k2 := by rw [sidx_sl r2 (by omega) (by simp; omega)]; simp
        have w2 := ps_iptr_pt (lo := h.length) (ns := 10) (h := h) (fr := [(0, .dead), (0, .dead), (0, .dead), (0, .dead), (0, .dead), (0, .dead), (0, .dead), (0 + 1, .arr 2 (pts oth0)), (0 + 1, .arr 1 (ints bent)), (0, .dead)]) (s := 7) (ver := 0 + 1) (n := oth0.length) (i := k2) (l := oth0) (p := (p1, p2)) rfl rfl hk2 (by omega)
        rw [← hoth] at w2
        have z1 := frz_fr (b := h.length) (k := false) (s := 7) (ver := 0 + 1) (z := 2) (n := oth0.length) (h := h) (fr := [(0, .dead), (0, .dead), (0, .dead), (0, .dead), (0, .dead), (0, .dead), (0, .dead), (0 + 1, .arr 2 (pts oth)), (0 + 1, .arr 1 (ints bent)), (0, .dead)]) (es := pts oth) rfl (by rw [pts_len, hoth, List.length_set]) (by omega)
        have l34' := l34 (H := h ++ [(0, .dead), (0, .dead), (0, .dead), (0, .dead), (0, .dead), (0, .dead), (0, .dead), (0 + 1, .dead), (0 + 1, .arr 1 (ints bent)), (0, .dead)]) (cx := ⟨h.length, h.length, 10, none⟩) (es := [lstV 2 (pts crv), .lst 2 (pts oth), .lst 0 []]) (fun e he => by
        simp only [List.mem_cons, List.not_mem_nil, or_false] at he
        rcases he with rfl | rfl | rfl
        · exact ⟨crv, Sl.lstV _ 2 _, by omega⟩
        · exact ⟨oth, Sl.lst _ 2 _, by omega⟩
        · exact ⟨[], Sl.lst0 _ 2 0, by simp⟩) (by simp) n on
        have tk := tracks_run (Sl.lstV (h ++ [(0, .dead), (0, .dead), (0, .dead), (0, .dead), (0, .dead), (0, .dead), (0, .dead), (0 + 1, .dead), (0 + 1, .arr 1 (ints bent)), (0, .dead)]) 1 (ints one)) (hx.app [(0, .dead), (0, .dead), (0, .dead), (0, .dead), (0, .dead), (0, .dead), (0, .dead), (0 + 1, .dead), (0 + 1, .arr 1 (ints bent)), (0, .dead)]) (hy.app [(0, .dead), (0, .dead), (0, .dead), (0, .dead), (0, .dead), (0, .dead), (0, .dead), (0 + 1, .dead), (0 + 1, .arr 1 (ints bent)), (0, .dead)]) (by omega) lx ly ix iy h.length
        rw [← hT] at tk
        have tA := fun hh => app_lsf_nil (cx := ⟨h.length, h.length, 10, none⟩) (s := 4) (z := 3) (lim := 2513169434916) (h := hh) (es := [])
        have tB0 := app_lsf_new (lo := h.length) (ns := 10) (s := 5) (z := 3) (lim := 2513169434916) (ver := 0) (b := .dead) (h := h) (fr := [(0, .dead), (0, .dead), (0, .dead), (0, .dead), (0, .dead), (0, .dead), (0, .dead), (0 + 1, .dead), (0 + 1, .arr 1 (ints bent)), (0, .dead)]) (xs := [.agg [.int .i64 fr, lstV 1 (ints two), .lst 2 (pts oth)]]) (by omega) rfl (by simp) (by simp)
        have q3 : [AV.agg [.int .i64 fr, lstV 1 (ints two), .lst 2 (pts oth)]] = trks odd := by rw [hodd, h3]; simp [trks, trk_mkT, lstV_ne, neo]
        have q3l : [AV.agg [.int .i64 fr, lstV 1 (ints two), .lst 2 (pts oth)]].length = odd.length := by rw [hodd, h3]; simp
        rw [q3l] at tB0
        have tB : appv ⟨h.length, h.length, 10, none⟩ 5 3 2513169434916 (.lsf 3 []) [.agg [.int .i64 fr, lstV 1 (ints two), .lst 2 (pts oth)]] (h ++ [(0, .dead), (0, .dead), (0, .dead), (0, .dead), (0, .dead), (0, .dead), (0, .dead), (0 + 1, .dead), (0 + 1, .arr 1 (ints bent)), (0, .dead)]) = some (.ref (h.length + 5) (0 + 1) 3 0 odd.length odd.length, h ++ [(0, .dead), (0, .dead), (0, .dead), (0, .dead), (0, .dead), (0 + 1, .arr 3 (trks odd)), (0, .dead), (0 + 1, .dead), (0 + 1, .arr 1 (ints bent)), (0, .dead)]) := by rw [← q3]; exact tB0
        have z2 := frz_fr (b := h.length) (k := false) (s := 8) (ver := 0 + 1) (z := 1) (n := bent0.length) (h := h) (fr := [(0, .dead), (0, .dead), (0, .dead), (0, .dead), (0, .dead), (0 + 1, .arr 3 (trks odd)), (0, .dead), (0 + 1, .dead), (0 + 1, .arr 1 (ints bent)), (0, .dead)]) (es := ints bent) rfl (by rw [ints_len, hbent, List.length_set]) (by omega)
        have uA := fun hh => app_lsf_nil (cx := ⟨h.length, h.length, 10, none⟩) (s := 2) (z := 3) (lim := 2513169434916) (h := hh) (es := [])
        have uB0 := app_lsf_new (lo := h.length) (ns := 10) (s := 3) (z := 3) (lim := 2513169434916) (ver := 0) (b := .dead) (h := h) (fr := [(0, .dead), (0, .dead), (0, .dead), (0, .dead), (0, .dead), (0 + 1, .arr 3 (trks odd)), (0, .dead), (0 + 1, .dead), (0 + 1, .dead), (0, .dead)]) (xs := [.agg [.int .i64 5, .lst 1 (ints bent), lstV 2 (pts crv)]]) (by omega) rfl (by simp) (by simp)
        have q4 : [AV.agg [.int .i64 5, .lst 1 (ints bent), lstV 2 (pts crv)]] = trks str := by rw [hstr, h3]; simp [trks, trk_mkT, lstV_ne, neb]
        have q4l : [AV.agg [.int .i64 5, .lst 1 (ints bent), lstV 2 (pts crv)]].length = str.length := by rw [hstr, h3]; simp
        rw [q4l] at uB0
        have uB : appv ⟨h.length, h.length, 10, none⟩ 3 3 2513169434916 (.lsf 3 []) [.agg [.int .i64 5, .lst 1 (ints bent), lstV 2 (pts crv)]] (h ++ [(0, .dead), (0, .dead), (0, .dead), (0, .dead), (0, .dead), (0 + 1, .arr 3 (trks odd)), (0, .dead), (0 + 1, .dead), (0 + 1, .dead), (0, .dead)]) = some (.ref (h.length + 3) (0 + 1) 3 0 str.length str.length, h ++ [(0, .dead), (0, .dead), (0, .dead), (0 + 1, .arr 3 (trks str)), (0, .dead), (0 + 1, .arr 3 (trks odd)), (0, .dead), (0 + 1, .dead), (0 + 1, .dead), (0, .dead)]) := by rw [← q4]; exact uB0
        have z3 := frz_fr (b := h.length) (k := false) (s := 5) (ver := 0 + 1) (z := 3) (n := odd.length) (h := h) (fr := [(0, .dead), (0, .dead), (0, .dead), (0 + 1, .arr 3 (trks str)), (0, .dead), (0 + 1, .arr 3 (trks odd)), (0, .dead), (0 + 1, .dead), (0 + 1, .dead), (0, .dead)]) (es := trks odd) rfl (by rw [trks_len]) (by omega)
        have z4 := frz_fr (b := h.length) (k := false) (s := 3) (ver := 0 + 1) (z := 3) (n := str.length) (h := h) (fr := [(0, .dead), (0, .dead), (0, .dead), (0 + 1, .arr 3 (trks str)), (0, .dead), (0 + 1, .dead), (0, .dead), (0 + 1, .dead), (0 + 1, .dead), (0, .dead)]) (es := trks str) rfl (by rw [trks_len]) (by omega)
        have l33' := l33 (H := h ++ [(0, .dead), (0, .dead), (0, .dead), (0 + 1, .dead), (0, .dead), (0 + 1, .dead), (0, .dead), (0 + 1, .dead), (0 + 1, .dead), (0, .dead)]) (cx := ⟨h.length, h.length, 10, none⟩) (es := [lstV 3 (trks T), .lst 3 (trks odd), .lst 3 (trks str)]) (fun e he => by
        simp only [List.mem_cons, List.not_mem_nil, or_false] at he
        rcases he with rfl | rfl | rfl
        · exact ⟨T, Sl.lstV _ 3 _, by omega, okTT⟩
        · exact ⟨odd, Sl.lst _ 3 _, by omega, okTo⟩
        · exact ⟨str, Sl.lst _ 3 _, by omega, okTs⟩) (by simp)
        obtain ⟨q, l30'⟩ := l30 (h := h) (rest := [(0, .dead), (0 + 1, .dead), (0, .dead), (0 + 1, .dead), (0, .dead), (0 + 1, .dead), (0 + 1, .dead), (0, .dead)]) (es := [lstV 1 (ints one), .lst 1 (ints bent), lstV 1 (ints two)]) (fun e he => by
        simp only [List.mem_cons, List.not_mem_nil, or_false] at he
        rcases he with rfl | rfl | rfl
        · exact ⟨one, Sl.lstV _ 1 _, by omega⟩
        · exact ⟨bent, Sl.lst _ 1 _, by omega⟩
        · exact ⟨two, Sl.lstV _ 1 _, by omega⟩) (by simp) (lstV 1 (ints two)) two (Sl.lstV h 1 _) (by omega) n (1 + pickS n0 3000) (pickS n1 1025) (1 + pickS n2 30) (1 + pickS n3 30) n0 n1 n2 n3 on (0 + 1) (.bool true) _ 0 0 .dead rfl (by simp)
        have h33 : (([lstV 2 (pts crv), .lst 2 (pts oth), .lst 0 []] : List AV).length : Int) = 3 := rfl
        have h34 : (([lstV 3 (trks T), .lst 3 (trks odd), .lst 3 (trks str)] : List AV).length : Int) = 3 := rfl
        have h35 : (([lstV 1 (ints one), .lst 1 (ints bent), lstV 1 (ints two)] : List AV).length : Int) = 3 := rfl
        have L34 := fun a2 a3 a6 a19 a21 a22 a23 a24 a25 a26 => l34' a2 a3 a6 a19 a21 a22 a23 a24 a25 a26 _ 0 rfl (by simp)
        have L33 := fun a8 a19 a21 a22 a23 a24 => l33' a8 a19 a21 a22 a23 a24 _ 0 rfl (by simp)
        simp only [h33, h34, h35, Int.natCast_zero] at L34 L33 l30'
        replace ap2 : ∀ fr, appSrc (h ++ fr) 2 (lstV 2 (pts crv)) = some [] := fun fr => by rw [ap2 fr, h2]; rfl
        replace ap3 : ∀ fr, appSrc (h ++ fr) 3 (lstV 3 (trks T)) = some [] := fun fr => by rw [ap3 fr, h3]; rfl
        have hn3 : ((3 : Nat) : Int) = 3 := rfl
        clear l34' l33' okTT okTo okTs hx hy ix iy
        simp (maxSteps := 1000000) (disch := omega) only [go_sem, ↓reduceIte, Nat.reduceEqDiff, Nat.reduceAdd, Nat.reduceSub, Nat.reduceMul, Nat.reduceLT, Nat.reduceLeDiff, reduceCtorEq, Nat.succ_ne_self, ne_eq, not_true_eq_false, not_false_eq_true, and_self, and_true, true_and, Nat.zero_add, Nat.sub_zero, Nat.zero_mul, Nat.one_mul, Nat.le_refl, List.getElem?_cons_zero, List.set_cons_zero, Int.reduceToNat, Int.reduceLT, Int.reduceLE, Int.reduceAdd, Int.reduceSub, Int.reduceMul, Int.reduceEq, Int.reduceNe, Int.toNat_natCast, Int.natCast_zero, wrap_id, wrapu_id, wrapb_id, idx_ok, bin_quo, bin_rem, tdiv_id, tmod_id, ps_bptr, x3, hs, e1, e2, cv, ap1, ap2, ap3, pw1, pw2, pg0, pg1, pg2, pg3, L34, L33, l30', hn3, h33, h34, h35, lenv_sl (Sl.lsf h 1 [lstV 2 (pts crv), .lst 2 (pts oth), .lst 0 []]).len, lenv_sl (Sl.lsf h 1 [lstV 3 (trks T), .lst 3 (trks odd), .lst 3 (trks str)]).len, lenv_sl (Sl.lsf h 1 [lstV 1 (ints one), .lst 1 (ints bent), lstV 1 (ints two)]).len, bA, bB, lenv_sl r1l, s1, w1, oA, oB, lenv_sl r2l, s2, w2, z1, tk, tA, tB, z2, uA, uB, z3, z4]
      · have ne3 : trks T ≠ [] := by intro h0; exact h3 (by simpa [trks] using h0)
        have bA := app_lsf_new (lo := h.length) (ns := 10) (s := 8) (z := 1) (lim := 17592186044416) (ver := 0) (b := .dead) (h := h) (fr := [(0, .dead), (0, .dead), (0, .dead), (0, .dead), (0, .dead), (0, .dead), (0, .dead), (0, .dead), (0, .dead), (0, .dead)]) (xs := ints one) (by omega) rfl ne1 (by simp; omega)
        have bB := app_ref (cx := ⟨h.length, h.length, 10, none⟩) (s := 9) (z := 1) (lim := 17592186044416) (id := h.length + 8) (ver := 0 + 1) (h := h ++ [(0, .dead), (0, .dead), (0, .dead), (0, .dead), (0, .dead), (0, .dead), (0, .dead), (0, .dead), (0 + 1, .arr 1 (ints one)), (0, .dead)]) (es := ints one) (xs := [.int .i64 sm]) (by rw [get_fr]; rfl) (by simp) (by simp; omega)
        rw [set_fr] at bB
        have q1 : ints one ++ [AV.int .i64 sm] = ints bent0 := by rw [hb0]; simp [ints]
        have q1l : (ints one).length + [AV.int .i64 sm].length = bent0.length := by rw [hb0]; simp
        rw [q1l] at bB
        rw [q1] at bB
        have r1 := Sl.refAll (h := h) (fr := [(0, .dead), (0, .dead), (0, .dead), (0, .dead), (0, .dead), (0, .dead), (0, .dead), (0, .dead), (0 + 1, .arr 1 (ints bent0)), (0, .dead)]) (s := 8) (ver := 0 + 1) (z := 1) (es := ints bent0) rfl
        rw [ints_len] at r1
        have r1l : slen (.ref (h.length + 8) (0 + 1) 1 0 bent0.length bent0.length) = some bent0.length := rfl
        have s1 : sidx 1 (.ref (h.length + 8) (0 + 1) 1 0 bent0.length bent0.length) (.int .i64 k1) = some k1 := by rw [sidx_sl r1 (by omega) (by simp; omega)]; simp
        have w1 := ps_iptr_fr (lo := h.length) (ns := 10) (h := h) (fr := [(0, .dead), (0, .dead), (0, .dead), (0, .dead), (0, .dead), (0, .dead), (0, .dead), (0, .dead), (0 + 1, .arr 1 (bent0.map (.int .i64))), (0, .dead)]) (s := 8) (ver := 0 + 1) (o := 0) (len := bent0.length) (fill := bent0.length) (i := k1) (k := .i64) (l := bent0) (n := sm) rfl rfl (by omega) hk1 (by omega)
        rw [Nat.zero_add k1, ← hbent, show bent0.map (AV.int .i64) = ints bent0 from rfl, show bent.map (AV.int .i64) = ints bent from rfl] at w1
        have oA := fun hh => app_lsf_nil (cx := ⟨h.length, h.length, 10, none⟩) (s := 6) (z := 2) (lim := 8796093022208) (h := hh) (es := [])
        have oB0 := app_lsf_new (lo := h.length) (ns := 10) (s := 7) (z := 2) (lim := 8796093022208) (ver := 0) (b := .dead) (h := h) (fr := [(0, .dead), (0, .dead), (0, .dead), (0, .dead), (0, .dead), (0, .dead), (0, .dead), (0, .dead), (0 + 1, .arr 1 (ints bent)), (0, .dead)]) (xs := [.agg [.int .i64 p1, .int .i64 p2]]) (by omega) rfl (by simp) (by simp)
        have q2 : [AV.agg [.int .i64 p1, .int .i64 p2]] = pts oth0 := by rw [ho0, h2]; rfl
        have q2l : [AV.agg [.int .i64 p1, .int .i64 p2]].length = oth0.length := by rw [ho0, h2]; simp
        rw [q2l] at oB0
        have oB : appv ⟨h.length, h.length, 10, none⟩ 7 2 8796093022208 (.lsf 2 []) [.agg [.int .i64 p1, .int .i64 p2]] (h ++ [(0, .dead), (0, .dead), (0, .dead), (0, .dead), (0, .dead), (0, .dead), (0, .dead), (0, .dead), (0 + 1, .arr 1 (ints bent)), (0, .dead)]) = some (.ref (h.length + 7) (0 + 1) 2 0 oth0.length oth0.length, h ++ [(0, .dead), (0, .dead), (0, .dead), (0, .dead), (0, .dead), (0, .dead), (0, .dead), (0 + 1, .arr 2 (pts oth0)), (0 + 1, .arr 1 (ints bent)), (0, .dead)]) := by rw [← q2]; exact oB0
        have r2 := Sl.refAll (h := h) (fr := [(0, .dead), (0, .dead), (0, .dead), (0, .dead), (0, .dead), (0, .dead), (0, .dead), (0 + 1, .arr 2 (pts oth0)), (0 + 1, .arr 1 (ints bent)), (0, .dead)]) (s := 7) (ver := 0 + 1) (z := 2) (es := pts oth0) rfl
        rw [pts_len] at r2
        have r2l : slen (.ref (h.length + 7) (0 + 1) 2 0 oth0.length oth0.length) = some oth0.length := rfl
        have s2 : sidx 2 (.ref (h.length + 7) (0 + 1) 2 0 oth0.length oth0.length) (.int .i64 k2) = some k2 := by rw [sidx_sl r2 (by omega) (by simp; omega)]; simp
        have w2 := ps_iptr_pt (lo := h.length) (ns := 10) (h := h) (fr := [(0, .dead), (0, .dead), (0, .dead), (0, .dead), (0, .dead), (0, .dead), (0, .dead), (0 + 1, .arr 2 (pts oth0)), (0 + 1, .arr 1 (ints bent)), (0, .dead)]) (s := 7) (ver := 0 + 1) (n := oth0.length) (i := k2) (l := oth0) (p := (p1, p2)) rfl rfl hk2 (by omega)
        rw [← hoth] at w2
        have z1 := frz_fr (b := h.length) (k := false) (s := 7) (ver := 0 + 1) (z := 2) (n := oth0.length) (h := h) (fr := [(0, .dead), (0, .dead), (0, .dead), (0, .dead), (0, .dead), (0, .dead), (0, .dead), (0 + 1, .arr 2 (pts oth)), (0 + 1, .arr 1 (ints bent)), (0, .dead)]) (es := pts oth) rfl (by rw [pts_len, hoth, List.length_set]) (by omega)
        have l34' := l34 (H := h ++ [(0, .dead), (0, .dead), (0, .dead), (0, .dead), (0, .dead), (0, .dead), (0, .dead), (0 + 1, .dead), (0 + 1, .arr 1 (ints bent)), (0, .dead)]) (cx := ⟨h.length, h.length, 10, none⟩) (es := [lstV 2 (pts crv), .lst 2 (pts oth), .lst 0 []]) (fun e he => by
        simp only [List.mem_cons, List.not_mem_nil, or_false] at he
        rcases he with rfl | rfl | rfl
        · exact ⟨crv, Sl.lstV _ 2 _, by omega⟩
        · exact ⟨oth, Sl.lst _ 2 _, by omega⟩
        · exact ⟨[], Sl.lst0 _ 2 0, by simp⟩) (by simp) n on
        have tk := tracks_run (Sl.lstV (h ++ [(0, .dead), (0, .dead), (0, .dead), (0, .dead), (0, .dead), (0, .dead), (0, .dead), (0 + 1, .dead), (0 + 1, .arr 1 (ints bent)), (0, .dead)]) 1 (ints one)) (hx.app [(0, .dead), (0, .dead), (0, .dead), (0, .dead), (0, .dead), (0, .dead), (0, .dead), (0 + 1, .dead), (0 + 1, .arr 1 (ints bent)), (0, .dead)]) (hy.app [(0, .dead), (0, .dead), (0, .dead), (0, .dead), (0, .dead), (0, .dead), (0, .dead), (0 + 1, .dead), (0 + 1, .arr 1 (ints bent)), (0, .dead)]) (by omega) lx ly ix iy h.length
        rw [← hT] at tk
        have tA := app_lsf_new (lo := h.length) (ns := 10) (s := 4) (z := 3) (lim := 2513169434916) (ver := 0) (b := .dead) (h := h) (fr := [(0, .dead), (0, .dead), (0, .dead), (0, .dead), (0, .dead), (0, .dead), (0, .dead), (0 + 1, .dead), (0 + 1, .arr 1 (ints bent)), (0, .dead)]) (xs := trks T) (by omega) rfl ne3 (by simp; omega)
        have tB := app_ref (cx := ⟨h.length, h.length, 10, none⟩) (s := 5) (z := 3) (lim := 2513169434916) (id := h.length + 4) (ver := 0 + 1) (h := h ++ [(0, .dead), (0, .dead), (0, .dead), (0, .dead), (0 + 1, .arr 3 (trks T)), (0, .dead), (0, .dead), (0 + 1, .dead), (0 + 1, .arr 1 (ints bent)), (0, .dead)]) (es := trks T) (xs := [.agg [.int .i64 fr, lstV 1 (ints two), .lst 2 (pts oth)]]) (by rw [get_fr]; rfl) (by simp) (by simp; omega)
        rw [set_fr] at tB
        have q3 : trks T ++ [AV.agg [.int .i64 fr, lstV 1 (ints two), .lst 2 (pts oth)]] = trks odd := by rw [hodd]; simp [trks, trk_mkT, lstV_ne, neo]
        have q3l : (trks T).length + [AV.agg [.int .i64 fr, lstV 1 (ints two), .lst 2 (pts oth)]].length = odd.length := by rw [hodd]; simp
        rw [q3l] at tB
        rw [q3] at tB
        have z2 := frz_fr (b := h.length) (k := false) (s := 8) (ver := 0 + 1) (z := 1) (n := bent0.length) (h := h) (fr := [(0, .dead), (0, .dead), (0, .dead), (0, .dead), (0 + 1, .arr 3 (trks odd)), (0, .dead), (0, .dead), (0 + 1, .dead), (0 + 1, .arr 1 (ints bent)), (0, .dead)]) (es := ints bent) rfl (by rw [ints_len, hbent, List.length_set]) (by omega)
        have uA := app_lsf_new (lo := h.length) (ns := 10) (s := 2) (z := 3) (lim := 2513169434916) (ver := 0) (b := .dead) (h := h) (fr := [(0, .dead), (0, .dead), (0, .dead), (0, .dead), (0 + 1, .arr 3 (trks odd)), (0, .dead), (0, .dead), (0 + 1, .dead), (0 + 1, .dead), (0, .dead)]) (xs := trks T) (by omega) rfl ne3 (by simp; omega)
        have uB := app_ref (cx := ⟨h.length, h.length, 10, none⟩) (s := 3) (z := 3) (lim := 2513169434916) (id := h.length + 2) (ver := 0 + 1) (h := h ++ [(0, .dead), (0, .dead), (0 + 1, .arr 3 (trks T)), (0, .dead), (0 + 1, .arr 3 (trks odd)), (0, .dead), (0, .dead), (0 + 1, .dead), (0 + 1, .dead), (0, .dead)]) (es := trks T) (xs := [.agg [.int .i64 5, .lst 1 (ints bent), lstV 2 (pts crv)]]) (by rw [get_fr]; rfl) (by simp) (by simp; omega)
        rw [set_fr] at uB
        have q4 : trks T ++ [AV.agg [.int .i64 5, .lst 1 (ints bent), lstV 2 (pts crv)]] = trks str := by rw [hstr]; simp [trks, trk_mkT, lstV_ne, neb]
        have q4l : (trks T).length + [AV.agg [.int .i64 5, .lst 1 (ints bent), lstV 2 (pts crv)]].length = str.length := by rw [hstr]; simp
        rw [q4l] at uB
        rw [q4] at uB
        have z3 := frz_fr (b := h.length) (k := false) (s := 4) (ver := 0 + 1) (z := 3) (n := odd.length) (h := h) (fr := [(0, .dead), (0, .dead), (0 + 1, .arr 3 (trks str)), (0, .dead), (0 + 1, .arr 3 (trks odd)), (0, .dead), (0, .dead), (0 + 1, .dead), (0 + 1, .dead), (0, .dead)]) (es := trks odd) rfl (by rw [trks_len]) (by omega)
        have z4 := frz_fr (b := h.length) (k := false) (s := 2) (ver := 0 + 1) (z := 3) (n := str.length) (h := h) (fr := [(0, .dead), (0, .dead), (0 + 1, .arr 3 (trks str)), (0, .dead), (0 + 1, .dead), (0, .dead), (0, .dead), (0 + 1, .dead), (0 + 1, .dead), (0, .dead)]) (es := trks str) rfl (by rw [trks_len]) (by omega)
        have l33' := l33 (H := h ++ [(0, .dead), (0, .dead), (0 + 1, .dead), (0, .dead), (0 + 1, .dead), (0, .dead), (0, .dead), (0 + 1, .dead), (0 + 1, .dead), (0, .dead)]) (cx := ⟨h.length, h.length, 10, none⟩) (es := [lstV 3 (trks T), .lst 3 (trks odd), .lst 3 (trks str)]) (fun e he => by
        simp only [List.mem_cons, List.not_mem_nil, or_false] at he
        rcases he with rfl | rfl | rfl
        · exact ⟨T, Sl.lstV _ 3 _, by omega, okTT⟩
        · exact ⟨odd, Sl.lst _ 3 _, by omega, okTo⟩
        · exact ⟨str, Sl.lst _ 3 _, by omega, okTs⟩) (by simp)
        obtain ⟨q, l30'⟩ := l30 (h := h) (rest := [(0 + 1, .dead), (0, .dead), (0 + 1, .dead), (0, .dead), (0, .dead), (0 + 1, .dead), (0 + 1, .dead), (0, .dead)]) (es := [lstV 1 (ints one), .lst 1 (ints bent), lstV 1 (ints two)]) (fun e he => by
        simp only [List.mem_cons, List.not_mem_nil, or_false] at he
        rcases he with rfl | rfl | rfl
        · exact ⟨one, Sl.lstV _ 1 _, by omega⟩
        · exact ⟨bent, Sl.lst _ 1 _, by omega⟩
        · exact ⟨two, Sl.lstV _ 1 _, by omega⟩) (by simp) (lstV 1 (ints two)) two (Sl.lstV h 1 _) (by omega) n (1 + pickS n0 3000) (pickS n1 1025) (1 + pickS n2 30) (1 + pickS n3 30) n0 n1 n2 n3 on (0 + 1) (.bool true) _ 0 0 .dead rfl (by simp)
        have h33 : (([lstV 2 (pts crv), .lst 2 (pts oth), .lst 0 []] : List AV).length : Int) = 3 := rfl
        have h34 : (([lstV 3 (trks T), .lst 3 (trks odd), .lst 3 (trks str)] : List AV).length : Int) = 3 := rfl
        have h35 : (([lstV 1 (ints one), .lst 1 (ints bent), lstV 1 (ints two)] : List AV).length : Int) = 3 := rfl
        have L34 := fun a2 a3 a6 a19 a21 a22 a23 a24 a25 a26 => l34' a2 a3 a6 a19 a21 a22 a23 a24 a25 a26 _ 0 rfl (by simp)
        have L33 := fun a8 a19 a21 a22 a23 a24 => l33' a8 a19 a21 a22 a23 a24 _ 0 rfl (by simp)
        simp only [h33, h34, h35, Int.natCast_zero] at L34 L33 l30'
        replace ap2 : ∀ fr, appSrc (h ++ fr) 2 (lstV 2 (pts crv)) = some [] := fun fr => by rw [ap2 fr, h2]; rfl
        have hn3 : ((3 : Nat) : Int) = 3 := rfl
        clear l34' l33' okTT okTo okTs hx hy ix iy
        simp (maxSteps := 1000000) (disch := omega) only [go_sem, ↓reduceIte, Nat.reduceEqDiff, Nat.reduceAdd, Nat.reduceSub, Nat.reduceMul, Nat.reduceLT, Nat.reduceLeDiff, reduceCtorEq, Nat.succ_ne_self, ne_eq, not_true_eq_false, not_false_eq_true, and_self, and_true, true_and, Nat.zero_add, Nat.sub_zero, Nat.zero_mul, Nat.one_mul, Nat.le_refl, List.getElem?_cons_zero, List.set_cons_zero, Int.reduceToNat, Int.reduceLT, Int.reduceLE, Int.reduceAdd, Int.reduceSub, Int.reduceMul, Int.reduceEq, Int.reduceNe, Int.toNat_natCast, Int.natCast_zero, wrap_id, wrapu_id, wrapb_id, idx_ok, bin_quo, bin_rem, tdiv_id, tmod_id, ps_bptr, x3, hs, e1, e2, cv, ap1, ap2, ap3, pw1, pw2, pg0, pg1, pg2, pg3, L34, L33, l30', hn3, h33, h34, h35, lenv_sl (Sl.lsf h 1 [lstV 2 (pts crv), .lst 2 (pts oth), .lst 0 []]).len, lenv_sl (Sl.lsf h 1 [lstV 3 (trks T), .lst 3 (trks odd), .lst 3 (trks str)]).len, lenv_sl (Sl.lsf h 1 [lstV 1 (ints one), .lst 1 (ints bent), lstV 1 (ints two)]).len, bA, bB, lenv_sl r1l, s1, w1, oA, oB, lenv_sl r2l, s2, w2, z1, tk, tA, tB, z2, uA, uB, z3, z4]
    · have ne2 : pts crv ≠ [] := by rw [ne_eq, pts_nil]; exact h2
      by_cases h3 : T = []
      · skip
        have bA := app_lsf_new (lo := h.length) (ns := 10) (s := 8) (z := 1) (lim := 17592186044416) (ver := 0) (b := .dead) (h := h) (fr := [(0, .dead), (0, .dead), (0, .dead), (0, .dead), (0, .dead), (0, .dead), (0, .dead), (0, .dead), (0, .dead), (0, .dead)]) (xs := ints one) (by omega) rfl ne1 (by simp; omega)
        have bB := app_ref (cx := ⟨h.length, h.length, 10, none⟩) (s := 9) (z := 1) (lim := 17592186044416) (id := h.length + 8) (ver := 0 + 1) (h := h ++ [(0, .dead), (0, .dead), (0, .dead), (0, .dead), (0, .dead), (0, .dead), (0, .dead), (0, .dead), (0 + 1, .arr 1 (ints one)), (0, .dead)]) (es := ints one) (xs := [.int .i64 sm]) (by rw [get_fr]; rfl) (by simp) (by simp; omega)
        rw [set_fr] at bB
        have q1 : ints one ++ [AV.int .i64 sm] = ints bent0 := by rw [hb0]; simp [ints]
        have q1l : (ints one).length + [AV.int .i64 sm].length = bent0.length := by rw [hb0]; simp
        rw [q1l] at bB
        rw [q1] at bB
        have r1 := Sl.refAll (h := h) (fr := [(0, .dead), (0, .dead), (0, .dead), (0, .dead), (0, .dead), (0, .dead), (0, .dead), (0, .dead), (0 + 1, .arr 1 (ints bent0)), (0, .dead)]) (s := 8) (ver := 0 + 1) (z := 1) (es := ints bent0) rfl
        rw [ints_len] at r1
        have r1l : slen (.ref (h.length + 8) (0 + 1) 1 0 bent0.length bent0.length) = some bent0.length := rfl
        have s1 : sidx 1 (.ref (h.length + 8) (0 + 1) 1 0 bent0.length bent0.length) (.int .i64 k1) = some k1 := by rw [sidx_sl r1 (by omega) (by simp; omega)]; simp
        have w1 := ps_iptr_fr (lo := h.length) (ns := 10) (h := h) (fr := [(0, .dead), (0, .dead), (0, .dead), (0, .dead), (0, .dead), (0, .dead), (0, .dead), (0, .dead), (0 + 1, .arr 1 (bent0.map (.int .i64))), (0, .dead)]) (s := 8) (ver := 0 + 1) (o := 0) (len := bent0.length) (fill := bent0.length) (i := k1) (k := .i64) (l := bent0) (n := sm) rfl rfl (by omega) hk1 (by omega)
        rw [Nat.zero_add k1, ← hbent, show bent0.map (AV.int .i64) = ints bent0 from rfl, show bent.map (AV.int .i64) = ints bent from rfl] at w1
        have oA := app_lsf_new (lo := h.length) (ns := 10) (s := 6) (z := 2) (lim := 8796093022208) (ver := 0) (b := .dead) (h := h) (fr := [(0, .dead), (0, .dead), (0, .dead), (0, .dead), (0, .dead), (0, .dead), (0, .dead), (0, .dead), (0 + 1, .arr 1 (ints bent)), (0, .dead)]) (xs := pts crv) (by omega) rfl ne2 (by simp; omega)
        have oB := app_ref (cx := ⟨h.length, h.length, 10, none⟩) (s := 7) (z := 2) (lim := 8796093022208) (id := h.length + 6) (ver := 0 + 1) (h := h ++ [(0, .dead), (0, .dead), (0, .dead), (0, .dead), (0, .dead), (0, .dead), (0 + 1, .arr 2 (pts crv)), (0, .dead), (0 + 1, .arr 1 (ints bent)), (0, .dead)]) (es := pts crv) (xs := [.agg [.int .i64 p1, .int .i64 p2]]) (by rw [get_fr]; rfl) (by simp) (by simp; omega)
        rw [set_fr] at oB
        have q2 : pts crv ++ [AV.agg [.int .i64 p1, .int .i64 p2]] = pts oth0 := by rw [ho0]; simp [pts, pt]
        have q2l : (pts crv).length + [AV.agg [.int .i64 p1, .int .i64 p2]].length = oth0.length := by rw [ho0]; simp
        rw [q2l] at oB
        rw [q2] at oB
        have r2 := Sl.refAll (h := h) (fr := [(0, .dead), (0, .dead), (0, .dead), (0, .dead), (0, .dead), (0, .dead), (0 + 1, .arr 2 (pts oth0)), (0, .dead), (0 + 1, .arr 1 (ints bent)), (0, .dead)]) (s := 6) (ver := 0 + 1) (z := 2) (es := pts oth0) rfl
        rw [pts_len] at r2
        have r2l : slen (.ref (h.length + 6) (0 + 1) 2 0 oth0.length oth0.length) = some oth0.length := rfl
        have s2 : sidx 2 (.ref (h.length + 6) (0 + 1) 2 0 oth0.length oth0.length) (.int .i64 k2) = some k2 := by rw [sidx_sl r2 (by omega) (by simp; omega)]; simp
        have w2 := ps_iptr_pt (lo := h.length) (ns := 10) (h := h) (fr := [(0, .dead), (0, .dead), (0, .dead), (0, .dead), (0, .dead), (0, .dead), (0 + 1, .arr 2 (pts oth0)), (0, .dead), (0 + 1, .arr 1 (ints bent)), (0, .dead)]) (s := 6) (ver := 0 + 1) (n := oth0.length) (i := k2) (l := oth0) (p := (p1, p2)) rfl rfl hk2 (by omega)
        rw [← hoth] at w2
        have z1 := frz_fr (b := h.length) (k := false) (s := 6) (ver := 0 + 1) (z := 2) (n := oth0.length) (h := h) (fr := [(0, .dead), (0, .dead), (0, .dead), (0, .dead), (0, .dead), (0, .dead), (0 + 1, .arr 2 (pts oth)), (0, .dead), (0 + 1, .arr 1 (ints bent)), (0, .dead)]) (es := pts oth) rfl (by rw [pts_len, hoth, List.length_set]) (by omega)
        have l34' := l34 (H := h ++ [(0, .dead), (0, .dead), (0, .dead), (0, .dead), (0, .dead), (0, .dead), (0 + 1, .dead), (0, .dead), (0 + 1, .arr 1 (ints bent)), (0, .dead)]) (cx := ⟨h.length, h.length, 10, none⟩) (es := [lstV 2 (pts crv), .lst 2 (pts oth), .lst 0 []]) (fun e he => by
        simp only [List.mem_cons, List.not_mem_nil, or_false] at he
        rcases he with rfl | rfl | rfl
        · exact ⟨crv, Sl.lstV _ 2 _, by omega⟩
        · exact ⟨oth, Sl.lst _ 2 _, by omega⟩
        · exact ⟨[], Sl.lst0 _ 2 0, by simp⟩) (by simp) n on
        have tk := tracks_run (Sl.lstV (h ++ [(0, .dead), (0, .dead), (0, .dead), (0, .dead), (0, .dead), (0, .dead), (0 + 1, .dead), (0, .dead), (0 + 1, .arr 1 (ints bent)), (0, .dead)]) 1 (ints one)) (hx.app [(0, .dead), (0, .dead), (0, .dead), (0, .dead), (0, .dead), (0, .dead), (0 + 1, .dead), (0, .dead), (0 + 1, .arr 1 (ints bent)), (0, .dead)]) (hy.app [(0, .dead), (0, .dead), (0, .dead), (0, .dead), (0, .dead), (0, .dead), (0 + 1, .dead), (0, .dead), (0 + 1, .arr 1 (ints bent)), (0, .dead)]) (by omega) lx ly ix iy h.length
        rw [← hT] at tk
        have tA := fun hh => app_lsf_nil (cx := ⟨h.length, h.length, 10, none⟩) (s := 4) (z := 3) (lim := 2513169434916) (h := hh) (es := [])
        have tB0 := app_lsf_new (lo := h.length) (ns := 10) (s := 5) (z := 3) (lim := 2513169434916) (ver := 0) (b := .dead) (h := h) (fr := [(0, .dead), (0, .dead), (0, .dead), (0, .dead), (0, .dead), (0, .dead), (0 + 1, .dead), (0, .dead), (0 + 1, .arr 1 (ints bent)), (0, .dead)]) (xs := [.agg [.int .i64 fr, lstV 1 (ints two), .lst 2 (pts oth)]]) (by omega) rfl (by simp) (by simp)
        have q3 : [AV.agg [.int .i64 fr, lstV 1 (ints two), .lst 2 (pts oth)]] = trks odd := by rw [hodd, h3]; simp [trks, trk_mkT, lstV_ne, neo]
        have q3l : [AV.agg [.int .i64 fr, lstV 1 (ints two), .lst 2 (pts oth)]].length = odd.length := by rw [hodd, h3]; simp
        rw [q3l] at tB0
        have tB : appv ⟨h.length, h.length, 10, none⟩ 5 3 2513169434916 (.lsf 3 []) [.agg [.int .i64 fr, lstV 1 (ints two), .lst 2 (pts oth)]] (h ++ [(0, .dead), (0, .dead), (0, .dead), (0, .dead), (0, .dead), (0, .dead), (0 + 1, .dead), (0, .dead), (0 + 1, .arr 1 (ints bent)), (0, .dead)]) = some (.ref (h.length + 5) (0 + 1) 3 0 odd.length odd.length, h ++ [(0, .dead), (0, .dead), (0, .dead), (0, .dead), (0, .dead), (0 + 1, .arr 3 (trks odd)), (0 + 1, .dead), (0, .dead), (0 + 1, .arr 1 (ints bent)), (0, .dead)]) := by rw [← q3]; exact tB0
        have z2 := frz_fr (b := h.length) (k := false) (s := 8) (ver := 0 + 1) (z := 1) (n := bent0.length) (h := h) (fr := [(0, .dead), (0, .dead), (0, .dead), (0, .dead), (0, .dead), (0 + 1, .arr 3 (trks odd)), (0 + 1, .dead), (0, .dead), (0 + 1, .arr 1 (ints bent)), (0, .dead)]) (es := ints bent) rfl (by rw [ints_len, hbent, List.length_set]) (by omega)
        have uA := fun hh => app_lsf_nil (cx := ⟨h.length, h.length, 10, none⟩) (s := 2) (z := 3) (lim := 2513169434916) (h := hh) (es := [])
        have uB0 := app_lsf_new (lo := h.length) (ns := 10) (s := 3) (z := 3) (lim := 2513169434916) (ver := 0) (b := .dead) (h := h) (fr := [(0, .dead), (0, .dead), (0, .dead), (0, .dead), (0, .dead), (0 + 1, .arr 3 (trks odd)), (0 + 1, .dead), (0, .dead), (0 + 1, .dead), (0, .dead)]) (xs := [.agg [.int .i64 5, .lst 1 (ints bent), lstV 2 (pts crv)]]) (by omega) rfl (by simp) (by simp)
        have q4 : [AV.agg [.int .i64 5, .lst 1 (ints bent), lstV 2 (pts crv)]] = trks str := by rw [hstr, h3]; simp [trks, trk_mkT, lstV_ne, neb]
        have q4l : [AV.agg [.int .i64 5, .lst 1 (ints bent), lstV 2 (pts crv)]].length = str.length := by rw [hstr, h3]; simp
        rw [q4l] at uB0
        have uB : appv ⟨h.length, h.length, 10, none⟩ 3 3 2513169434916 (.lsf 3 []) [.agg [.int .i64 5, .lst 1 (ints bent), lstV 2 (pts crv)]] (h ++ [(0, .dead), (0, .dead), (0, .dead), (0, .dead), (0, .dead), (0 + 1, .arr 3 (trks odd)), (0 + 1, .dead), (0, .dead), (0 + 1, .dead), (0, .dead)]) = some (.ref (h.length + 3) (0 + 1) 3 0 str.length str.length, h ++ [(0, .dead), (0, .dead), (0, .dead), (0 + 1, .arr 3 (trks str)), (0, .dead), (0 + 1, .arr 3 (trks odd)), (0 + 1, .dead), (0, .dead), (0 + 1, .dead), (0, .dead)]) := by rw [← q4]; exact uB0
        have z3 := frz_fr (b := h.length) (k := false) (s := 5) (ver := 0 + 1) (z := 3) (n := odd.length) (h := h) (fr := [(0, .dead), (0, .dead), (0, .dead), (0 + 1, .arr 3 (trks str)), (0, .dead), (0 + 1, .arr 3 (trks odd)), (0 + 1, .dead), (0, .dead), (0 + 1, .dead), (0, .dead)]) (es := trks odd) rfl (by rw [trks_len]) (by omega)
        have z4 := frz_fr (b := h.length) (k := false) (s := 3) (ver := 0 + 1) (z := 3) (n := str.length) (h := h) (fr := [(0, .dead), (0, .dead), (0, .dead), (0 + 1, .arr 3 (trks str)), (0, .dead), (0 + 1, .dead), (0 + 1, .dead), (0, .dead), (0 + 1, .dead), (0, .dead)]) (es := trks str) rfl (by rw [trks_len]) (by omega)
        have l33' := l33 (H := h ++ [(0, .dead), (0, .dead), (0, .dead), (0 + 1, .dead), (0, .dead), (0 + 1, .dead), (0 + 1, .dead), (0, .dead), (0 + 1, .dead), (0, .dead)]) (cx := ⟨h.length, h.length, 10, none⟩) (es := [lstV 3 (trks T), .lst 3 (trks odd), .lst 3 (trks str)]) (fun e he => by
        simp only [List.mem_cons, List.not_mem_nil, or_false] at he
        rcases he with rfl | rfl | rfl
        · exact ⟨T, Sl.lstV _ 3 _, by omega, okTT⟩
        · exact ⟨odd, Sl.lst _ 3 _, by omega, okTo⟩
        · exact ⟨str, Sl.lst _ 3 _, by omega, okTs⟩) (by simp)
        obtain ⟨q, l30'⟩ := l30 (h := h) (rest := [(0, .dead), (0 + 1, .dead), (0, .dead), (0 + 1, .dead), (0 + 1, .dead), (0, .dead), (0 + 1, .dead), (0, .dead)]) (es := [lstV 1 (ints one), .lst 1 (ints bent), lstV 1 (ints two)]) (fun e he => by
        simp only [List.mem_cons, List.not_mem_nil, or_false] at he
        rcases he with rfl | rfl | rfl
        · exact ⟨one, Sl.lstV _ 1 _, by omega⟩
        · exact ⟨bent, Sl.lst _ 1 _, by omega⟩
        · exact ⟨two, Sl.lstV _ 1 _, by omega⟩) (by simp) (lstV 1 (ints two)) two (Sl.lstV h 1 _) (by omega) n (1 + pickS n0 3000) (pickS n1 1025) (1 + pickS n2 30) (1 + pickS n3 30) n0 n1 n2 n3 on (0 + 1) (.bool true) _ 0 0 .dead rfl (by simp)
        have h33 : (([lstV 2 (pts crv), .lst 2 (pts oth), .lst 0 []] : List AV).length : Int) = 3 := rfl
        have h34 : (([lstV 3 (trks T), .lst 3 (trks odd), .lst 3 (trks str)] : List AV).length : Int) = 3 := rfl
        have h35 : (([lstV 1 (ints one), .lst 1 (ints bent), lstV 1 (ints two)] : List AV).length : Int) = 3 := rfl
        have L34 := fun a2 a3 a6 a19 a21 a22 a23 a24 a25 a26 => l34' a2 a3 a6 a19 a21 a22 a23 a24 a25 a26 _ 0 rfl (by simp)
        have L33 := fun a8 a19 a21 a22 a23 a24 => l33' a8 a19 a21 a22 a23 a24 _ 0 rfl (by simp)
        simp only [h33, h34, h35, Int.natCast_zero] at L34 L33 l30'
        replace ap3 : ∀ fr, appSrc (h ++ fr) 3 (lstV 3 (trks T)) = some [] := fun fr => by rw [ap3 fr, h3]; rfl
        have hn3 : ((3 : Nat) : Int) = 3 := rfl
        clear l34' l33' okTT okTo okTs hx hy ix iy
        simp (maxSteps := 1000000) (disch := omega) only [go_sem, ↓reduceIte, Nat.reduceEqDiff, Nat.reduceAdd, Nat.reduceSub, Nat.reduceMul, Nat.reduceLT, Nat.reduceLeDiff, reduceCtorEq, Nat.succ_ne_self, ne_eq, not_true_eq_false, not_false_eq_true, and_self, and_true, true_and, Nat.zero_add, Nat.sub_zero, Nat.zero_mul, Nat.one_mul, Nat.le_refl, List.getElem?_cons_zero, List.set_cons_zero, Int.reduceToNat, Int.reduceLT, Int.reduceLE, Int.reduceAdd, Int.reduceSub, Int.reduceMul, Int.reduceEq, Int.reduceNe, Int.toNat_natCast, Int.natCast_zero, wrap_id, wrapu_id, wrapb_id, idx_ok, bin_quo, bin_rem, tdiv_id, tmod_id, ps_bptr, x3, hs, e1, e2, cv, ap1, ap2, ap3, pw1, pw2, pg0, pg1, pg2, pg3, L34, L33, l30', hn3, h33, h34, h35, lenv_sl (Sl.lsf h 1 [lstV 2 (pts crv), .lst 2 (pts oth), .lst 0 []]).len, lenv_sl (Sl.lsf h 1 [lstV 3 (trks T), .lst 3 (trks odd), .lst 3 (trks str)]).len, lenv_sl (Sl.lsf h 1 [lstV 1 (ints one), .lst 1 (ints bent), lstV 1 (ints two)]).len, bA, bB, lenv_sl r1l, s1, w1, oA, oB, lenv_sl r2l, s2, w2, z1, tk, tA, tB, z2, uA, uB, z3, z4]
      · have ne3 : trks T ≠ [] := by intro h0; exact h3 (by simpa [trks] using h0)
        have bA := app_lsf_new (lo := h.length) (ns := 10) (s := 8) (z := 1) (lim := 17592186044416) (ver := 0) (b := .dead) (h := h) (fr := [(0, .dead), (0, .dead), (0, .dead), (0, .dead), (0, .dead), (0, .dead), (0, .dead), (0, .dead), (0, .dead), (0, .dead)]) (xs := ints one) (by omega) rfl ne1 (by simp; omega)
        have bB := app_ref (cx := ⟨h.length, h.length, 10, none⟩) (s := 9) (z := 1) (lim := 17592186044416) (id := h.length + 8) (ver := 0 + 1) (h := h ++ [(0, .dead), (0, .dead), (0, .dead), (0, .dead), (0, .dead), (0, .dead), (0, .dead), (0, .dead), (0 + 1, .arr 1 (ints one)), (0, .dead)]) (es := ints one) (xs := [.int .i64 sm]) (by rw [get_fr]; rfl) (by simp) (by simp; omega)
        rw [set_fr] at bB
        have q1 : ints one ++ [AV.int .i64 sm] = ints bent0 := by rw [hb0]; simp [ints]
        have q1l : (ints one).length + [AV.int .i64 sm].length = bent0.length := by rw [hb0]; simp
        rw [q1l] at bB
        rw [q1] at bB
        have r1 := Sl.refAll (h := h) (fr := [(0, .dead), (0, .dead), (0, .dead), (0, .dead), (0, .dead), (0, .dead), (0, .dead), (0, .dead), (0 + 1, .arr 1 (ints bent0)), (0, .dead)]) (s := 8) (ver := 0 + 1) (z := 1) (es := ints bent0) rfl
        rw [ints_len] at r1
        have r1l : slen (.ref (h.length + 8) (0 + 1) 1 0 bent0.length bent0.length) = some bent0.length := rfl
        have s1 : sidx 1 (.ref (h.length + 8) (0 + 1) 1 0 bent0.length bent0.length) (.int .i64 k1) = some k1 := by rw [sidx_sl r1 (by omega) (by simp; omega)]; simp
        have w1 := ps_iptr_fr (lo := h.length) (ns := 10) (h := h) (fr := [(0, .dead), (0, .dead), (0, .dead), (0, .dead), (0, .dead), (0, .dead), (0, .dead), (0, .dead), (0 + 1, .arr 1 (bent0.map (.int .i64))), (0, .dead)]) (s := 8) (ver := 0 + 1) (o := 0) (len := bent0.length) (fill := bent0.length) (i := k1) (k := .i64) (l := bent0) (n := sm) rfl rfl (by omega) hk1 (by omega)
        rw [Nat.zero_add k1, ← hbent, show bent0.map (AV.int .i64) = ints bent0 from rfl, show bent.map (AV.int .i64) = ints bent from rfl] at w1
        have oA := app_lsf_new (lo := h.length) (ns := 10) (s := 6) (z := 2) (lim := 8796093022208) (ver := 0) (b := .dead) (h := h) (fr := [(0, .dead), (0, .dead), (0, .dead), (0, .dead), (0, .dead), (0, .dead), (0, .dead), (0, .dead), (0 + 1, .arr 1 (ints bent)), (0, .dead)]) (xs := pts crv) (by omega) rfl ne2 (by simp; omega)
        have oB := app_ref (cx := ⟨h.length, h.length, 10, none⟩) (s := 7) (z := 2) (lim := 8796093022208) (id := h.length + 6) (ver := 0 + 1) (h := h ++ [(0, .dead), (0, .dead), (0, .dead), (0, .dead), (0, .dead), (0, .dead), (0 + 1, .arr 2 (pts crv)), (0, .dead), (0 + 1, .arr 1 (ints bent)), (0, .dead)]) (es := pts crv) (xs := [.agg [.int .i64 p1, .int .i64 p2]]) (by rw [get_fr]; rfl) (by simp) (by simp; omega)
        rw [set_fr] at oB
        have q2 : pts crv ++ [AV.agg [.int .i64 p1, .int .i64 p2]] = pts oth0 := by rw [ho0]; simp [pts, pt]
        have q2l : (pts crv).length + [AV.agg [.int .i64 p1, .int .i64 p2]].length = oth0.length := by rw [ho0]; simp
        rw [q2l] at oB
        rw [q2] at oB
        have r2 := Sl.refAll (h := h) (fr := [(0, .dead), (0, .dead), (0, .dead), (0, .dead), (0, .dead), (0, .dead), (0 + 1, .arr 2 (pts oth0)), (0, .dead), (0 + 1, .arr 1 (ints bent)), (0, .dead)]) (s := 6) (ver := 0 + 1) (z := 2) (es := pts oth0) rfl
        rw [pts_len] at r2
        have r2l : slen (.ref (h.length + 6) (0 + 1) 2 0 oth0.length oth0.length) = some oth0.length := rfl
        have s2 : sidx 2 (.ref (h.length + 6) (0 + 1) 2 0 oth0.length oth0.length) (.int .i64 k2) = some k2 := by rw [sidx_sl r2 (by omega) (by simp; omega)]; simp
        have w2 := ps_iptr_pt (lo := h.length) (ns := 10) (h := h) (fr := [(0, .dead), (0, .dead), (0, .dead), (0, .dead), (0, .dead), (0, .dead), (0 + 1, .arr 2 (pts oth0)), (0, .dead), (0 + 1, .arr 1 (ints bent)), (0, .dead)]) (s := 6) (ver := 0 + 1) (n := oth0.length) (i := k2) (l := oth0) (p := (p1, p2)) rfl rfl hk2 (by omega)
        rw [← hoth] at w2
        have z1 := frz_fr (b := h.length) (k := false) (s := 6) (ver := 0 + 1) (z := 2) (n := oth0.length) (h := h) (fr := [(0, .dead), (0, .dead), (0, .dead), (0, .dead), (0, .dead), (0, .dead), (0 + 1, .arr 2 (pts oth)), (0, .dead), (0 + 1, .arr 1 (ints bent)), (0, .dead)]) (es := pts oth) rfl (by rw [pts_len, hoth, List.length_set]) (by omega)
        have l34' := l34 (H := h ++ [(0, .dead), (0, .dead), (0, .dead), (0, .dead), (0, .dead), (0, .dead), (0 + 1, .dead), (0, .dead), (0 + 1, .arr 1 (ints bent)), (0, .dead)]) (cx := ⟨h.length, h.length, 10, none⟩) (es := [lstV 2 (pts crv), .lst 2 (pts oth), .lst 0 []]) (fun e he => by
        simp only [List.mem_cons, List.not_mem_nil, or_false] at he
        rcases he with rfl | rfl | rfl
        · exact ⟨crv, Sl.lstV _ 2 _, by omega⟩
        · exact ⟨oth, Sl.lst _ 2 _, by omega⟩
        · exact ⟨[], Sl.lst0 _ 2 0, by simp⟩) (by simp) n on
        have tk := tracks_run (Sl.lstV (h ++ [(0, .dead), (0, .dead), (0, .dead), (0, .dead), (0, .dead), (0, .dead), (0 + 1, .dead), (0, .dead), (0 + 1, .arr 1 (ints bent)), (0, .dead)]) 1 (ints one)) (hx.app [(0, .dead), (0, .dead), (0, .dead), (0, .dead), (0, .dead), (0, .dead), (0 + 1, .dead), (0, .dead), (0 + 1, .arr 1 (ints bent)), (0, .dead)]) (hy.app [(0, .dead), (0, .dead), (0, .dead), (0, .dead), (0, .dead), (0, .dead), (0 + 1, .dead), (0, .dead), (0 + 1, .arr 1 (ints bent)), (0, .dead)]) (by omega) lx ly ix iy h.length
        rw [← hT] at tk
        have tA := app_lsf_new (lo := h.length) (ns := 10) (s := 4) (z := 3) (lim := 2513169434916) (ver := 0) (b := .dead) (h := h) (fr := [(0, .dead), (0, .dead), (0, .dead), (0, .dead), (0, .dead), (0, .dead), (0 + 1, .dead), (0, .dead), (0 + 1, .arr 1 (ints bent)), (0, .dead)]) (xs := trks T) (by omega) rfl ne3 (by simp; omega)
        have tB := app_ref (cx := ⟨h.length, h.length, 10, none⟩) (s := 5) (z := 3) (lim := 2513169434916) (id := h.length + 4) (ver := 0 + 1) (h := h ++ [(0, .dead), (0, .dead), (0, .dead), (0, .dead), (0 + 1, .arr 3 (trks T)), (0, .dead), (0 + 1, .dead), (0, .dead), (0 + 1, .arr 1 (ints bent)), (0, .dead)]) (es := trks T) (xs := [.agg [.int .i64 fr, lstV 1 (ints two), .lst 2 (pts oth)]]) (by rw [get_fr]; rfl) (by simp) (by simp; omega)
        rw [set_fr] at tB
        have q3 : trks T ++ [AV.agg [.int .i64 fr, lstV 1 (ints two), .lst 2 (pts oth)]] = trks odd := by rw [hodd]; simp [trks, trk_mkT, lstV_ne, neo]
        have q3l : (trks T).length + [AV.agg [.int .i64 fr, lstV 1 (ints two), .lst 2 (pts oth)]].length = odd.length := by rw [hodd]; simp
        rw [q3l] at tB
        rw [q3] at tB
        have z2 := frz_fr (b := h.length) (k := false) (s := 8) (ver := 0 + 1) (z := 1) (n := bent0.length) (h := h) (fr := [(0, .dead), (0, .dead), (0, .dead), (0, .dead), (0 + 1, .arr 3 (trks odd)), (0, .dead), (0 + 1, .dead), (0, .dead), (0 + 1, .arr 1 (ints bent)), (0, .dead)]) (es := ints bent) rfl (by rw [ints_len, hbent, List.length_set]) (by omega)
        have uA := app_lsf_new (lo := h.length) (ns := 10) (s := 2) (z := 3) (lim := 2513169434916) (ver := 0) (b := .dead) (h := h) (fr := [(0, .dead), (0, .dead), (0, .dead), (0, .dead), (0 + 1, .arr 3 (trks odd)), (0, .dead), (0 + 1, .dead), (0, .dead), (0 + 1, .dead), (0, .dead)]) (xs := trks T) (by omega) rfl ne3 (by simp; omega)
        have uB := app_ref (cx := ⟨h.length, h.length, 10, none⟩) (s := 3) (z := 3) (lim := 2513169434916) (id := h.length + 2) (ver := 0 + 1) (h := h ++ [(0, .dead), (0, .dead), (0 + 1, .arr 3 (trks T)), (0, .dead), (0 + 1, .arr 3 (trks odd)), (0, .dead), (0 + 1, .dead), (0, .dead), (0 + 1, .dead), (0, .dead)]) (es := trks T) (xs := [.agg [.int .i64 5, .lst 1 (ints bent), lstV 2 (pts crv)]]) (by rw [get_fr]; rfl) (by simp) (by simp; omega)
        rw [set_fr] at uB
        have q4 : trks T ++ [AV.agg [.int .i64 5, .lst 1 (ints bent), lstV 2 (pts crv)]] = trks str := by rw [hstr]; simp [trks, trk_mkT, lstV_ne, neb]
        have q4l : (trks T).length + [AV.agg [.int .i64 5, .lst 1 (ints bent), lstV 2 (pts crv)]].length = str.length := by rw [hstr]; simp
        rw [q4l] at uB
        rw [q4] at uB
        have z3 := frz_fr (b := h.length) (k := false) (s := 4) (ver := 0 + 1) (z := 3) (n := odd.length) (h := h) (fr := [(0, .dead), (0, .dead), (0 + 1, .arr 3 (trks str)), (0, .dead), (0 + 1, .arr 3 (trks odd)), (0, .dead), (0 + 1, .dead), (0, .dead), (0 + 1, .dead), (0, .dead)]) (es := trks odd) rfl (by rw [trks_len]) (by omega)
        have z4 := frz_fr (b := h.length) (k := false) (s := 2) (ver := 0 + 1) (z := 3) (n := str.length) (h := h) (fr := [(0, .dead), (0, .dead), (0 + 1, .arr 3 (trks str)), (0, .dead), (0 + 1, .dead), (0, .dead), (0 + 1, .dead), (0, .dead), (0 + 1, .dead), (0, .dead)]) (es := trks str) rfl (by rw [trks_len]) (by omega)
        have l33' := l33 (H := h ++ [(0, .dead), (0, .dead), (0 + 1, .dead), (0, .dead), (0 + 1, .dead), (0, .dead), (0 + 1, .dead), (0, .dead), (0 + 1, .dead), (0, .dead)]) (cx := ⟨h.length, h.length, 10, none⟩) (es := [lstV 3 (trks T), .lst 3 (trks odd), .lst 3 (trks str)]) (fun e he => by
        simp only [List.mem_cons, List.not_mem_nil, or_false] at he
        rcases he with rfl | rfl | rfl
        · exact ⟨T, Sl.lstV _ 3 _, by omega, okTT⟩
        · exact ⟨odd, Sl.lst _ 3 _, by omega, okTo⟩
        · exact ⟨str, Sl.lst _ 3 _, by omega, okTs⟩) (by simp)
        obtain ⟨q, l30'⟩ := l30 (h := h) (rest := [(0 + 1, .dead), (0, .dead), (0 + 1, .dead), (0, .dead), (0 + 1, .dead), (0, .dead), (0 + 1, .dead), (0, .dead)]) (es := [lstV 1 (ints one), .lst 1 (ints bent), lstV 1 (ints two)]) (fun e he => by
        simp only [List.mem_cons, List.not_mem_nil, or_false] at he
        rcases he with rfl | rfl | rfl
        · exact ⟨one, Sl.lstV _ 1 _, by omega⟩
        · exact ⟨bent, Sl.lst _ 1 _, by omega⟩
        · exact ⟨two, Sl.lstV _ 1 _, by omega⟩) (by simp) (lstV 1 (ints two)) two (Sl.lstV h 1 _) (by omega) n (1 + pickS n0 3000) (pickS n1 1025) (1 + pickS n2 30) (1 + pickS n3 30) n0 n1 n2 n3 on (0 + 1) (.bool true) _ 0 0 .dead rfl (by simp)
        have h33 : (([lstV 2 (pts crv), .lst 2 (pts oth), .lst 0 []] : List AV).length : Int) = 3 := rfl
        have h34 : (([lstV 3 (trks T), .lst 3 (trks odd), .lst 3 (trks str)] : List AV).length : Int) = 3 := rfl
        have h35 : (([lstV 1 (ints one), .lst 1 (ints bent), lstV 1 (ints two)] : List AV).length : Int) = 3 := rfl
        have L34 := fun a2 a3 a6 a19 a21 a22 a23 a24 a25 a26 => l34' a2 a3 a6 a19 a21 a22 a23 a24 a25 a26 _ 0 rfl (by simp)
        have L33 := fun a8 a19 a21 a22 a23 a24 => l33' a8 a19 a21 a22 a23 a24 _ 0 rfl (by simp)
        simp only [h33, h34, h35, Int.natCast_zero] at L34 L33 l30'
        have hn3 : ((3 : Nat) : Int) = 3 := rfl
        clear l34' l33' okTT okTo okTs hx hy ix iy
        simp (maxSteps := 1000000) (disch := omega) only [go_sem, ↓reduceIte, Nat.reduceEqDiff, Nat.reduceAdd, Nat.reduceSub, Nat.reduceMul, Nat.reduceLT, Nat.reduceLeDiff, reduceCtorEq, Nat.succ_ne_self, ne_eq, not_true_eq_false, not_false_eq_true, and_self, and_true, true_and, Nat.zero_add, Nat.sub_zero, Nat.zero_mul, Nat.one_mul, Nat.le_refl, List.getElem?_cons_zero, List.set_cons_zero, Int.reduceToNat, Int.reduceLT, Int.reduceLE, Int.reduceAdd, Int.reduceSub, Int.reduceMul, Int.reduceEq, Int.reduceNe, Int.toNat_natCast, Int.natCast_zero, wrap_id, wrapu_id, wrapb_id, idx_ok, bin_quo, bin_rem, tdiv_id, tmod_id, ps_bptr, x3, hs, e1, e2, cv, ap1, ap2, ap3, pw1, pw2, pg0, pg1, pg2, pg3, L34, L33, l30', hn3, h33, h34, h35, lenv_sl (Sl.lsf h 1 [lstV 2 (pts crv), .lst 2 (pts oth), .lst 0 []]).len, lenv_sl (Sl.lsf h 1 [lstV 3 (trks T), .lst 3 (trks odd), .lst 3 (trks str)]).len, lenv_sl (Sl.lsf h 1 [lstV 1 (ints one), .lst 1 (ints bent), lstV 1 (ints two)]).len, bA, bB, lenv_sl r1l, s1, w1, oA, oB, lenv_sl r2l, s2, w2, z1, tk, tA, tB, z2, uA, uB, z3, z4]
end Go.VI.Mix
