import Derived.Test.YtegokpicloedeaaMixR
import Derived.Test.YtegokpicloedeaaMixI
namespace Go.VI.Mix
set_option linter.unusedVariables false
set_option linter.unusedSimpArgs false

theorem underS_nil {l m g : List Int} : underS l m g = [] ↔ l = [] := by
  rw [← List.length_eq_zero_iff, underS_len, List.length_eq_zero_iff]
def ownM (z : Nat) (es : List AV) : AV := if es = [] then .lst z [] else .own z es
@[go_sem] theorem weak1_ownM (z : Nat) (es : List AV) : weak1 (ownM z es) = .lst z es := by
  unfold ownM
  split
  · rename_i h; rw [h]; rfl
  · rfl
theorem under_run' {h : Heap} {v u : AV} {l m : List Int} (hv : Sl h 1 v (ints l)) (hu : Sl h 1 u (ints m)) (hl : l.length ≤ 9223372036854775807) (hm : m.length ≤ 9223372036854775807) (lev fl att rel : Int) (lo : Nat) :
    (run lib).fn 29 [v, u, .int .i64 lev, .int .i64 fl, .int .i64 att, .int .i64 rel] h lo =
      some (if underOk l m lev fl att rel = true then .tuple [ownM 1 (ints (underS l m (duckS lev fl att rel l))), .int .i64 0] else .tuple [.own 0 [], .int .i64 170], h) := by
  rw [under_run hv hu hl hm]
  unfold ownM
  simp only [ints_nil, underS_nil]
theorem slice_lst {l : List Int} {n : Nat} (hn : n ≤ l.length) : slicev (some 1) (lstV 1 (ints l)) none (some (.int .i64 n)) = some (.lst 1 (ints (l.take n))) := by
  have hb : bnd (some (.int .i64 n)) l.length l.length = some n := by rw [bnd_ok (by omega) (by omega)]; simp
  by_cases h0 : l = []
  · subst h0
    have : n = 0 := by simpa using hn
    subst this
    simp [lstV, ints, slicev, zok, bnd]
  · have hne : ints l ≠ [] := by rw [ne_eq, ints_nil]; exact h0
    simp only [lstV, if_neg hne, slicev, zok, beq_self_eq_true, Bool.true_or, if_true, ints_len, hb, Option.bind_some]
    simp [bnd, ints]
theorem duck_off {lev fl att rel : Int} {n : Nat} (hlev : 1 ≤ lev) (ha : 1 ≤ att ∧ att ≤ 300) (hr : 1 ≤ rel ∧ rel ≤ 300) : duckS lev fl att rel (List.replicate n 0) = List.replicate n 1024 := by
  refine List.eq_replicate_iff.mpr ⟨by simp [duckS], fun x hx => ?_⟩
  simp only [duckS, List.mem_map, List.mem_range] at hx
  obtain ⟨i, hi, rfl⟩ := hx
  have ea : (att.toNat : Int) = att := by omega
  have er : (rel.toNat : Int) = rel := by omega
  have := duckAt_off (lev := lev) (fl := fl) (att := att.toNat) (rel := rel.toNat) (l := List.replicate n 0) (i := i) hi (by omega) (by omega) (by omega) (by omega) (by
    simp only [winOn, List.any_eq_false]
    intro x hx
    have := List.mem_of_mem_take (List.mem_of_mem_drop hx)
    rw [List.eq_of_mem_replicate this]
    simp [onS]; omega)
  rw [ea, er] at this
  exact this
theorem duck_full {lev att rel : Int} (l : List Int) (ha : 1 ≤ att) (hr : 1 ≤ rel) : duckS lev 1024 att rel l = List.replicate l.length 1024 := by
  refine List.eq_replicate_iff.mpr ⟨by simp [duckS], fun x hx => ?_⟩
  have := duckS_bd l (by omega) ha hr x hx
  omega
theorem under_silent {m : List Int} (hm : ∀ x ∈ m, -32768 ≤ x ∧ x ≤ 32767) : underS (List.replicate m.length 0) m (List.replicate m.length 1024) = m := by
  refine List.ext_getElem (by simp [underS]) fun i h1 h2 => ?_
  have := hm _ (List.getElem_mem h2)
  simp only [underS, List.getElem_map, List.getElem_range, underAt, List.getD_eq_getElem?_getD, List.getElem?_replicate, h2, if_true, Option.getD_some, List.getElem?_eq_getElem]
  unfold roundS; omega
theorem mix_two {l m : List Int} (hl : m.length = l.length) : (exactL [⟨0, l, [], 1, 0⟩, ⟨0, m, [], 1, 0⟩]).map roundS = underS l m (List.replicate l.length 1024) := by
  have hlen : (exactL [⟨0, l, [], 1, 0⟩, ⟨0, m, [], 1, 0⟩]).length = l.length := by
    rw [exactL_len]
    simp only [maxE, endT, hl]
    by_cases h0 : l.length = 0 <;> simp [h0]
  refine List.ext_getElem (by simp [underS, hlen]) fun i h1 h2 => ?_
  have hi : i < l.length := by simpa [underS] using h2
  have e := exactL_getD [⟨0, l, [], 1, 0⟩, ⟨0, m, [], 1, 0⟩] i
  rw [List.getD_eq_getElem?_getD, List.getElem?_eq_getElem (by omega), Option.getD_some] at e
  rw [List.getElem_map, e]
  simp only [underS, List.getElem_map, List.getElem_range, underAt, sumC, contrib, Int.toNat_zero, Nat.zero_le, Nat.zero_add, Nat.sub_zero, hl, hi, and_self, if_true, gainS, List.getD_eq_getElem?_getD, List.getElem?_replicate, Option.getD_some]
  congr 1
  omega

theorem underOk_of {l m : List Int} {lev fl att rel : Int} (hl : l.length ≤ 600) (hx : ∀ x ∈ l, -32768 ≤ x ∧ x ≤ 32767) (hm : m.length = l.length) (hy : ∀ x ∈ m, -32768 ≤ x ∧ x ≤ 32767) (h1 : 1 ≤ lev ∧ lev ≤ 32768) (h2 : 0 ≤ fl ∧ fl ≤ 1024) (h3 : 1 ≤ att ∧ att ≤ 300) (h4 : 1 ≤ rel ∧ rel ≤ 300) : underOk l m lev fl att rel = true := by
  simp only [underOk, duckOk, Bool.and_eq_true, inB_iff, decide_eq_true_eq]
  exact ⟨⟨⟨⟨⟨⟨soundB_of hx hl, h1⟩, h2⟩, h3⟩, h4⟩, soundB_of hy (by omega)⟩, hm⟩
theorem law10 {h : Heap} {v u : AV} {a b : List Int} (hv : Sl h 1 v (ints a)) (hu : Sl h 1 u (ints b)) (hl : a.length ≤ 9223372036854775807) (hm : b.length ≤ 9223372036854775807) (hai : ∀ n ∈ a, okI n) (hbi : ∀ n ∈ b, okI n) (n0 n1 n2 n3 : Int) (o0 : okI n0) (o1 : okI n1) (o2 : okI n2) (o3 : okI n3)
    (hs : (run lib).fn 11 [] (h ++ [(0, .dead)]) h.length = some (.bool true, h ++ [(0, .dead)])) (lo : Nat) : (run lib).fn 10 [v, u, .agg [.int .i64 n0, .int .i64 n1, .int .i64 n2, .int .i64 n3]] h lo = some (.bool true, h) := by
  obtain ⟨a1, a2⟩ := madeS_bd a
  obtain ⟨b1, b2⟩ := madeS_bd b
  have e1 := made_run (hv.app [(0, .dead)]) hl hai h.length
  have e2 := made_run (hu.app [(0, .dead)]) hm hbi h.length
  have p0 := fun hh lo => pick13 n0 30000 hh lo o0.1 o0.2 (by omega)
  have p1 := fun hh lo => pick13 n1 1025 hh lo o1.1 o1.2 (by omega)
  have p2 := fun hh lo => pick13 n2 20 hh lo o2.1 o2.2 (by omega)
  have p3 := fun hh lo => pick13 n3 20 hh lo o3.1 o3.2 (by omega)
  have q0 := pickS_bd (c := n0) (n := 30000) (by omega)
  have q1 := pickS_bd (c := n1) (n := 1025) (by omega)
  have q2 := pickS_bd (c := n2) (n := 20) (by omega)
  have q3 := pickS_bd (c := n3) (n := 20) (by omega)
  obtain ⟨lev, hlev⟩ : ∃ x, x = 1 + pickS n0 30000 := ⟨_, rfl⟩
  obtain ⟨fl, hfl⟩ : ∃ x, x = pickS n1 1025 := ⟨_, rfl⟩
  obtain ⟨att, hatt⟩ : ∃ x, x = 1 + pickS n2 20 := ⟨_, rfl⟩
  obtain ⟨rel, hrel⟩ : ∃ x, x = 1 + pickS n3 20 := ⟨_, rfl⟩
  have hlev' := hlev.symm
  have hatt' := hatt.symm
  have hrel' := hrel.symm
  simp only [← hfl] at p1
  obtain ⟨one, h1⟩ : ∃ x, x = madeS a := ⟨_, rfl⟩
  obtain ⟨two, h2⟩ : ∃ x, x = madeS b := ⟨_, rfl⟩
  rw [← h1] at a1 a2 e1
  rw [← h2] at b1 b2 e2
  have l1 := lenv_sl (Sl.lstV h 1 (ints one)).len
  have l2 := lenv_sl (Sl.lstV h 1 (ints two)).len
  rw [ints_len] at l1 l2
  obtain ⟨n, hn⟩ : ∃ n, n = min one.length two.length := ⟨_, rfl⟩
  have hn' : min (one.length : Int) (two.length : Int) = n := by omega
  have s1 := slice_lst (l := one) (n := n) (by omega)
  have s2 := slice_lst (l := two) (n := n) (by omega)
  have k1 : (one.take n).length = n := by simp; omega
  have k2 : (two.take n).length = n := by simp; omega
  have x1 : ∀ x ∈ one.take n, -32768 ≤ x ∧ x ≤ 32767 := fun x hx => a1 x (List.mem_of_mem_take hx)
  have x2 : ∀ x ∈ two.take n, -32768 ≤ x ∧ x ≤ 32767 := fun x hx => b1 x (List.mem_of_mem_take hx)
  obtain ⟨p, hp⟩ : ∃ p, p = one.take n := ⟨_, rfl⟩
  obtain ⟨q, hq⟩ : ∃ q, q = two.take n := ⟨_, rfl⟩
  rw [← hp] at s1 k1 x1
  rw [← hq] at s2 k2 x2
  have hmk := fun hh => mks_ok (h := hh) (cx := ⟨h.length, h.length, 1, none⟩) (s := 0) (z := 1) (zero := .int .i64 0) (lim := 17592186044416) (k := .i64) (k' := .i64) (a := (n : Int)) (b := (n : Int)) (by omega) (by omega) (by omega)
  have hz : List.replicate n (AV.int .i64 0) = ints (List.replicate n 0) := by simp [ints]
  have hr := Sl.refAll (h := h) (fr := [(0 + 1, .arr 1 (ints (List.replicate n 0)))]) (s := 0) (ver := 0 + 1) (z := 1) (es := ints (List.replicate n 0)) rfl
  rw [ints_len, List.length_replicate] at hr
  have u1 := under_run' hr (Sl.lst (h ++ [(0 + 1, .arr 1 (ints (List.replicate n 0)))]) 1 (ints q)) (by simp; omega) (by omega) lev fl att rel h.length
  rw [if_pos (underOk_of (by simp; omega) (fun x hx => by rw [List.eq_of_mem_replicate hx]; omega) (by simp [k2]) x2 (by omega) (by omega) (by omega) (by omega)), duck_off (by omega) (by omega) (by omega)] at u1
  have us := under_silent x2
  rw [k2] at us
  rw [us] at u1
  have u2 := fun H => under_run' (Sl.lst H 1 (ints p)) (Sl.lst H 1 (ints q)) (by omega) (by omega) lev 1024 att rel h.length
  have uok : underOk p q lev 1024 att rel = true := underOk_of (by omega) x1 (by omega) x2 (by omega) (by omega) (by omega) (by omega)
  simp only [if_pos uok] at u2
  rw [duck_full p (by omega) (by omega)] at u2
  have et : trks [⟨0, p, [], 1, 0⟩, ⟨0, q, [], 1, 0⟩] = [.agg [.int .i64 0, .lst 1 (ints p), .lst 0 []], .agg [.int .i64 0, .lst 1 (ints q), .lst 0 []]] := rfl
  have u3 := fun H => mix_run (h := H) (v := .lsf 3 (trks [⟨0, p, [], 1, 0⟩, ⟨0, q, [], 1, 0⟩])) (l := [⟨0, p, [], 1, 0⟩, ⟨0, q, [], 1, 0⟩]) ⟨by simp [VI.zok], fun _ => rfl, rfl⟩ (by simp) (fun t ht => by
    rcases List.mem_cons.mp ht with rfl | ht
    · exact ⟨⟨.inl rfl, .inr rfl⟩, ⟨by show -9223372036854775808 ≤ (0:Int); omega, by show (0:Int) ≤ _; omega⟩, by show p.length ≤ _; omega, by simp⟩
    · rw [List.mem_singleton] at ht
      subst ht
      exact ⟨⟨.inl rfl, .inr rfl⟩, ⟨by show -9223372036854775808 ≤ (0:Int); omega, by show (0:Int) ≤ _; omega⟩, by show q.length ≤ _; omega, by simp⟩) h.length
  have vok : validB [⟨0, p, [], 1, 0⟩, ⟨0, q, [], 1, 0⟩] = true := validB_of (fun t ht => by
    have : ∀ l : List Int, l.length ≤ 600 → (∀ x ∈ l, -32768 ≤ x ∧ x ≤ 32767) → vT ⟨0, l, [], 1, 0⟩ = true := fun l hl hx => by
      simp only [vT, soundB_of hx hl, curveB, Bool.and_eq_true, decide_eq_true_eq, List.length_nil]
      refine ⟨⟨?_, ?_, ?_⟩, ?_, ?_⟩ <;> first | trivial | omega
    rcases List.mem_cons.mp ht with rfl | ht
    · exact this p (by omega) x1
    · rw [List.mem_singleton] at ht
      subst ht
      exact this q (by omega) x2) (by simp)
  simp only [if_pos vok, mix_two (show q.length = p.length by omega), et] at u3
  obtain ⟨w, hw⟩ : ∃ w, w = underS p q (List.replicate p.length 1024) := ⟨_, rfl⟩
  simp only [← hw] at u2 u3
  have i1 := fun H => Ints_run (h := H) (Sl.lst H 1 (ints q)) (Sl.lst H 1 (ints q)) (by omega) h.length
  have wl : w.length = n := by rw [hw, underS_len]; exact k1
  have i2 := fun H => Ints_run (h := H) (Sl.lst H 1 (ints w)) (Sl.lstV H 1 (ints w)) (by omega) h.length
  rw [run_closed (x := x10) rfl rfl rfl rfl]
  clear hai hbi a1 b1 x1 x2 hr
  simp (maxSteps := 1000000) (disch := omega) only [go_sem, ↓reduceIte, Nat.reduceEqDiff, Nat.reduceAdd, Nat.reduceSub, Nat.reduceMul, Nat.reduceLT, Nat.reduceLeDiff, reduceCtorEq, Nat.succ_ne_self, ne_eq, not_true_eq_false, not_false_eq_true, and_self, and_true, true_and, Nat.zero_add, Nat.sub_zero, Nat.zero_mul, Nat.one_mul, Nat.le_refl, List.getElem?_cons_zero, List.set_cons_zero, Int.reduceToNat, Int.reduceLT, Int.reduceLE, Int.reduceAdd, Int.reduceSub, Int.reduceMul, Int.reduceEq, Int.reduceNe, Int.toNat_natCast, Int.natCast_zero, wrap_id, wrapu_id, wrapb_id, idx_ok, bin_quo, bin_rem, tdiv_id, tmod_id, ps_bptr, x10, hs, e1, e2, l1, l2, hn', p0, p1, p2, p3, hlev', hatt', hrel', s1, s2, hmk, mkr, Int.toNat_natCast, hz, u1, u2, u3, i1, i2]
end Go.VI.Mix
