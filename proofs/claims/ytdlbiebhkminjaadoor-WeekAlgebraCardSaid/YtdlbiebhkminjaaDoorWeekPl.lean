import Derived.Test.YtdlbiebhkminjaaDoorWeekSp
namespace Go.VI.Week
set_option linter.unusedVariables false
set_option linter.unusedSimpArgs false

/-! How many seconds of some a week has. -/
def at_ (l : List Int) (x : Nat) : Bool := hasS l (x / 3600)
def cnt (l : List Int) (a : Nat) : Nat → Int
  | 0 => 0
  | n + 1 => cnt l a n + if at_ l (a + n) then 1 else 0
theorem cnt_add (l : List Int) (a n m : Nat) : cnt l a (n + m) = cnt l a n + cnt l (a + n) m := by
  induction m with
  | zero => simp [cnt]
  | succ m ih =>
    have e : a + (n + m) = a + n + m := by omega
    have e2 : n + (m + 1) = n + m + 1 := by omega
    rw [e2, cnt, ih, cnt, e]; omega
theorem cnt_const {l : List Int} {a : Nat} {b : Bool} : ∀ n : Nat, (∀ i, i < n → at_ l (a + i) = b) → cnt l a n = if b then (n : Int) else 0
  | 0, _ => by cases b <;> rfl
  | n + 1, h => by
    rw [cnt, cnt_const n (fun i hi => h i (by omega)), h n (by omega)]
    cases b <;> simp
theorem cnt_nn (l : List Int) (a n : Nat) : 0 ≤ cnt l a n ∧ cnt l a n ≤ n := by
  induction n with
  | zero => simp [cnt]
  | succ n ih => rw [cnt]; split <;> omega
theorem sumP_from (L : List (Int × Int)) : ∀ n : Int, L.foldl (fun n p => n + (p.2 - p.1)) n = n + sumP L := by
  induction L with
  | nil => intro n; simp [sumP]
  | cons p L ih =>
    intro n
    have e : sumP (p :: L) = L.foldl (fun n p => n + (p.2 - p.1)) (0 + (p.2 - p.1)) := rfl
    rw [List.foldl_cons, ih, e, ih]; omega
theorem sumP_cons (p : Int × Int) (L : List (Int × Int)) : sumP (p :: L) = p.2 - p.1 + sumP L := by
  have e : sumP (p :: L) = L.foldl (fun n p => n + (p.2 - p.1)) (0 + (p.2 - p.1)) := rfl
  rw [e, sumP_from]; omega
theorem sumP_app (A B : List (Int × Int)) : sumP (A ++ B) = sumP A + sumP B := by
  induction A with
  | nil => simp [sumP]
  | cons p A ih => rw [List.cons_append, sumP_cons, ih, sumP_cons]; omega
/-- Where the spells from an hour on begin. -/
def cur (a b k : Nat) : Nat := min b (max a (k * 3600))
def fin_ (b : Nat) (o : Int) : List (Int × Int) := if o < 0 then [] else [(o, (b : Int))]
theorem hour_const {l : List Int} {a b k : Nat} (h0 : a / 3600 ≤ k) (h1 : k * 3600 < b) (hab : a < b) : ∀ i, i < cur a b (k + 1) - cur a b k → at_ l (cur a b k + i) = hasS l k := by
  intro i hi
  unfold cur at hi
  unfold at_ cur
  congr 1
  omega
theorem spL_sum {l : List Int} {a b K : Nat} (hab : a < b) (hK1 : b ≤ K * 3600) (hK2 : K * 3600 < b + 3600) (d : Nat) : ∀ (k : Nat) (o : Int), k + d = K → a / 3600 ≤ k → -1 ≤ o → o ≤ cur a b k →
    sumP (spL l a d k o).1 + sumP (fin_ b (spL l a d k o).2) = (if o < 0 then 0 else (cur a b k : Int) - o) + cnt l (cur a b k) (b - cur a b k) := by
  induction d with
  | zero =>
    intro k o hk h0 ho1 ho2
    have hc : cur a b k = b := by unfold cur; omega
    rw [hc, Nat.sub_self, cnt]
    simp only [spL, fin_]
    by_cases c : o < 0 <;> simp [sumP, c]
  | succ d ih =>
    intro k o hk h0 ho1 ho2
    have h1 : k * 3600 < b := by
      have h3 : (k + 1) * 3600 ≤ K * 3600 := Nat.mul_le_mul_right _ (by omega)
      rw [Nat.add_mul, Nat.one_mul] at h3
      exact Nat.lt_of_add_lt_add_right (Nat.lt_of_le_of_lt h3 hK2)
    have hcc : cur a b k ≤ cur a b (k + 1) := by unfold cur; omega
    have hcb : cur a b (k + 1) ≤ b := by unfold cur; omega
    have hm : max (a : Int) ((k : Int) * 3600) = (cur a b k : Int) := by unfold cur; omega
    have hs : cnt l (cur a b k) (b - cur a b k) = (if hasS l k then ((cur a b (k + 1) - cur a b k : Nat) : Int) else 0) + cnt l (cur a b (k + 1)) (b - cur a b (k + 1)) := by
      have e : b - cur a b k = (cur a b (k + 1) - cur a b k) + (b - cur a b (k + 1)) := by omega
      rw [e, cnt_add, cnt_const _ (hour_const h0 h1 hab)]
      have e2 : cur a b k + (cur a b (k + 1) - cur a b k) = cur a b (k + 1) := by omega
      rw [e2]
    rw [hs]
    have i1 := ih (k + 1) (-1) (by omega) (by omega) (by omega) (by omega)
    rw [if_pos (by omega)] at i1
    cases hb : hasS l k
    · by_cases c2 : o < 0
      · have i2 := ih (k + 1) o (by omega) (by omega) (by omega) (by omega)
        rw [if_pos c2] at i2
        simp only [spL, hb, Bool.false_eq_true, if_false, c2, if_true]
        omega
      · simp only [spL, hb, Bool.false_eq_true, if_false, c2, sumP_cons, hm]
        omega
    · by_cases c2 : o < 0
      · have i2 := ih (k + 1) (cur a b k) (by omega) (by omega) (by omega) (by omega)
        rw [if_neg (by omega)] at i2
        simp only [spL, hb, if_true, c2, hm]
        omega
      · have i2 := ih (k + 1) o (by omega) (by omega) (by omega) (by omega)
        rw [if_neg c2] at i2
        simp only [spL, hb, if_true, c2, if_false]
        omega
theorem spells_eq (l : List Int) (a b : Nat) : spells l a b = (spL l a (hrU b - hr a) (hr a) (-1)).1 ++ fin_ b (spL l a (hrU b - hr a) (hr a) (-1)).2 := rfl
theorem hr_nat (a : Nat) : hr a = a / 3600 := by unfold hr; omega
theorem hrU_nat (b : Nat) : hrU b = (b + 3599) / 3600 := by unfold hrU; omega
theorem cur_hr {a b : Nat} (hab : a < b) : cur a b (hr a) = a := by rw [hr_nat]; unfold cur; omega
/-- Seconds returns how many seconds of a spell a week has. -/
theorem seconds_cnt (l : List Int) {a b : Nat} (hab : a < b) : sumP (spells l a b) = cnt l a (b - a) := by
  rw [spells_eq, sumP_app]
  have e1 := hr_nat a
  have e2 := hrU_nat b
  have h := spL_sum (l := l) (K := hrU b) hab (by omega) (by omega) (hrU b - hr a) (hr a) (-1) (by omega) (by omega) (by omega) (by omega)
  rw [h, if_pos (by omega), cur_hr hab]; omega

/-! The spells themselves -/
def okL (l : List Int) (f t : Int) : Bool → Int → List (Int × Int) → Prop
  | _, _, [] => True
  | first, c, p :: r => c ≤ p.1 ∧ (first = false → c < p.1) ∧ p.1 < p.2 ∧ p.2 ≤ t ∧ (f < p.1 → at_ l (p.1 - 1).toNat = false) ∧ (p.2 < t → at_ l p.2.toNat = false) ∧ at_ l p.1.toNat = true ∧ at_ l (p.2 - 1).toNat = true ∧ okL l f t false p.2 r
def inL (u : Int) (L : List (Int × Int)) : Bool := L.any fun p => decide (p.1 ≤ u) && decide (u < p.2)
theorem okL_out {l : List Int} {f t : Int} {u : Int} : ∀ (L : List (Int × Int)) (first : Bool) (c : Int), okL l f t first c L → u < c → inL u L = false
  | [], _, _, _, _ => rfl
  | p :: r, first, c, h, hu => by
    obtain ⟨h1, _, h3, _, _, _, _, _, h9⟩ := h
    have := okL_out (u := u) r false p.2 h9 (by omega)
    have e : decide (p.1 ≤ u) = false := by simp; omega
    simp only [inL, List.any_cons, e, Bool.false_and, Bool.false_or]
    exact this
theorem at_hour {l : List Int} {a b k : Nat} (h0 : a / 3600 ≤ k) (h1 : k * 3600 < b) (hab : a < b) {i : Nat} (h2 : cur a b k ≤ i) (h3 : i < cur a b (k + 1)) : at_ l i = hasS l k := by
  have := hour_const (l := l) h0 h1 hab (i - cur a b k) (by omega)
  rwa [Nat.add_sub_cancel' h2] at this
theorem cur_lt {a b k : Nat} (h0 : a / 3600 ≤ k) (h1 : k * 3600 < b) (hab : a < b) : cur a b k < cur a b (k + 1) := by unfold cur; omega
theorem spL_ok {l : List Int} {a b K : Nat} (hab : a < b) (hK1 : b ≤ K * 3600) (hK2 : K * 3600 < b + 3600) (d : Nat) : ∀ (k : Nat) (o : Int) (first : Bool) (c : Int), k + d = K → a / 3600 ≤ k → -1 ≤ o →
    (o < 0 → (a / 3600 < k → hasS l (k - 1) = false) ∧ c ≤ cur a b k ∧ (first = false → c < cur a b k ∨ hasS l k = false)) →
    (0 ≤ o → o < cur a b k ∧ (a : Int) ≤ o ∧ ((a : Int) < o → at_ l (o - 1).toNat = false) ∧ (∀ i : Nat, o ≤ i → i < cur a b k → at_ l i = true) ∧ c ≤ o ∧ (first = false → c < o)) →
    okL l a b first c ((spL l a d k o).1 ++ fin_ b (spL l a d k o).2) ∧
    (∀ u : Nat, (if o < 0 then (cur a b k : Int) else o) ≤ u → u < b → inL u ((spL l a d k o).1 ++ fin_ b (spL l a d k o).2) = at_ l u) := by
  induction d with
  | zero =>
    intro k o first c hk h0 ho hA hB
    have hc : cur a b k = b := by unfold cur; omega
    by_cases c2 : o < 0
    · simp only [spL, fin_, c2, if_true, List.nil_append]
      exact ⟨trivial, fun u h1 h2 => by omega⟩
    · obtain ⟨b1, b2, b3, b4, b5, b6⟩ := hB (by omega)
      rw [hc] at b1 b4
      simp only [spL, fin_, c2, if_false, List.nil_append]
      refine ⟨⟨b5, b6, by omega, by simp only []; omega, b3, fun h => by simp only [] at h; omega, b4 _ (by omega) (by omega), b4 _ (by simp only []; omega) (by simp only []; omega), trivial⟩, fun u h1 h2 => ?_⟩
      have e1 : decide (o ≤ (u : Int)) = true := by simp; omega
      have e2 : decide ((u : Int) < (b : Int)) = true := by simp; omega
      simp only [inL, List.any_cons, List.any_nil, e1, e2]
      rw [b4 u h1 h2]; rfl
  | succ d ih =>
    intro k o first c hk h0 ho hA hB
    have h1 : k * 3600 < b := by
      have h3 : (k + 1) * 3600 ≤ K * 3600 := Nat.mul_le_mul_right _ (by omega)
      rw [Nat.add_mul, Nat.one_mul] at h3
      exact Nat.lt_of_add_lt_add_right (Nat.lt_of_le_of_lt h3 hK2)
    have hlt := cur_lt h0 h1 hab
    have hcb : cur a b (k + 1) ≤ b := Nat.min_le_left _ _
    have hac : a ≤ cur a b k := by unfold cur; omega
    have hm : max (a : Int) ((k : Int) * 3600) = (cur a b k : Int) := by unfold cur; omega
    have hat := fun i => at_hour (l := l) h0 h1 hab (i := i)
    obtain ⟨C, hC⟩ : ∃ C, C = cur a b k := ⟨_, rfl⟩
    obtain ⟨C', hC'⟩ : ∃ C', C' = cur a b (k + 1) := ⟨_, rfl⟩
    rw [← hC] at hlt hac hm hat hA hB ⊢
    rw [← hC'] at hlt hcb hat
    cases hb : hasS l k
    · rw [hb] at hat hA
      obtain ⟨j1, j2⟩ := ih (k + 1) (-1) true C' (by omega) (by omega) (by omega) (fun _ => ⟨fun _ => hb, by omega, fun h => by cases h⟩) (fun h => by omega)
      rw [← hC', if_pos (by omega)] at j2
      by_cases c2 : o < 0
      · obtain ⟨a1, a2, a3⟩ := hA c2
        obtain ⟨k1, _⟩ := ih (k + 1) o first c (by omega) (by omega) ho (fun _ => ⟨fun _ => hb, by omega, fun _ => .inl (by omega)⟩) (fun h => by omega)
        simp only [spL, hb, Bool.false_eq_true, if_false, c2, if_true]
        refine ⟨k1, fun u g1 g2 => ?_⟩
        obtain ⟨_, k2⟩ := ih (k + 1) o true C' (by omega) (by omega) ho (fun _ => ⟨fun _ => hb, by omega, fun h => by cases h⟩) (fun h => by omega)
        rw [← hC', if_pos c2] at k2
        obtain ⟨k3, _⟩ := ih (k + 1) o true C' (by omega) (by omega) ho (fun _ => ⟨fun _ => hb, by omega, fun h => by cases h⟩) (fun h => by omega)
        by_cases c3 : u < C'
        · rw [hat u (by omega) c3]
          exact okL_out _ _ _ k3 (by omega)
        · exact k2 u (by omega) g2
      · obtain ⟨b1, b2, b3, b4, b5, b6⟩ := hB (by omega)
        obtain ⟨k1, _⟩ := ih (k + 1) (-1) false C (by omega) (by omega) (by omega) (fun _ => ⟨fun _ => hb, by omega, fun _ => .inl (by omega)⟩) (fun h => by omega)
        simp only [spL, hb, Bool.false_eq_true, if_false, c2, hm, List.cons_append]
        refine ⟨⟨b5, b6, b1, by simp only []; omega, b3, fun h => hat _ (by simp only []; omega) (by simp only []; omega), b4 _ (by simp only []; omega) (by simp only []; omega), b4 _ (by simp only []; omega) (by simp only []; omega), k1⟩, fun u g1 g2 => ?_⟩
        have e1 : decide (o ≤ (u : Int)) = true := by simp; omega
        simp only [inL, List.any_cons, e1, Bool.true_and]
        by_cases c3 : u < C
        · have e2 : decide ((u : Int) < (C : Int)) = true := by simp; omega
          rw [e2, b4 u g1 c3]; rfl
        · have e2 : decide ((u : Int) < (C : Int)) = false := by simp; omega
          rw [e2, Bool.false_or]
          by_cases c4 : u < C'
          · rw [hat u (by omega) c4]
            exact okL_out _ _ _ j1 (by omega)
          · exact j2 u (by omega) g2
    · rw [hb] at hat hA
      by_cases c2 : o < 0
      · obtain ⟨a1, a2, a3⟩ := hA c2
        have hx : (a : Int) < (C : Int) → at_ l ((C : Int) - 1).toNat = false := by
          intro h
          have hk3 : a / 3600 < k ∧ C = k * 3600 := by rw [hC] at h ⊢; unfold cur at h ⊢; omega
          rw [← a1 hk3.1]
          unfold at_
          congr 1
          omega
        obtain ⟨k1, k2⟩ := ih (k + 1) (C : Int) first c (by omega) (by omega) (by omega) (fun h => by omega) (fun _ => ⟨by omega, by omega, hx, fun i g1 g2 => hat i (by omega) (by omega), a2, fun h => (a3 h).elim id (fun h => by cases h)⟩)
        rw [if_neg (by omega)] at k2
        simp only [spL, hb, if_true, c2, hm]
        exact ⟨k1, k2⟩
      · obtain ⟨b1, b2, b3, b4, b5, b6⟩ := hB (by omega)
        obtain ⟨k1, k2⟩ := ih (k + 1) o first c (by omega) (by omega) ho (fun h => by omega) (fun _ => ⟨by omega, b2, b3, fun i g1 g2 => by
          by_cases c3 : i < C
          · exact b4 i g1 c3
          · exact hat i (by omega) (by omega), b5, b6⟩)
        rw [if_neg c2] at k2
        simp only [spL, hb, if_true, c2, if_false]
        exact ⟨k1, k2⟩
theorem spells_ok (l : List Int) {a b : Nat} (hab : a < b) : okL l a b true a (spells l a b) ∧ ∀ u : Nat, a ≤ u → u < b → inL u (spells l a b) = at_ l u := by
  have e1 := hr_nat a
  have e2 := hrU_nat b
  obtain ⟨h1, h2⟩ := spL_ok (l := l) (K := hrU b) hab (by omega) (by omega) (hrU b - hr a) (hr a) (-1) true a (by omega) (by omega) (by omega) (fun _ => ⟨fun h => by omega, by rw [cur_hr hab]; omega, fun h => by cases h⟩) (fun h => by omega)
  rw [← spells_eq] at h1 h2
  refine ⟨h1, fun u g1 g2 => h2 u ?_ g2⟩
  rw [if_pos (by omega), cur_hr hab]; omega
end Go.VI.Week
namespace Go.VI
theorem lent_any {L : Lib} {f : Nat} {args vs : List AV} {h : Heap} {lo : Nat} {r : AV} (ho : ∀ h, L.orc f args h = none) (hb : L.brw f = true) (hv : viewL [] args = some vs) (hv' : viewL h args = some vs) (e : (run L).fn f args [] 0 = some (r, [])) : (run L).fn f args h lo = some (r, h) := by
  rw [run_eq, ho] at e ⊢
  cases hf : L.fns f with
  | none => rw [hf] at e; cases e
  | some x =>
    rw [hf] at e
    simp only [Option.bind_some, enterB, hb, if_true, hv, hv'] at e ⊢
    cases he : enter x (runC L) vs [] 0 with
    | none => rw [he] at e; cases e
    | some p =>
      rw [he] at e
      simp only [Option.bind_some] at e ⊢
      split at e
      · rename_i hfl
        cases e
        rw [if_pos hfl]
      · cases e
end Go.VI
namespace Go.VI.Week
set_option linter.unusedVariables false
set_option linter.unusedSimpArgs false
def wL : List Int := [787392, 787392, 787392, 787392, 787392, 3840, 0]
def wT : List UInt8 := [109, 111, 110, 45, 102, 114, 105, 32, 54, 45, 49, 48, 32, 49, 56, 45, 50, 48, 59, 32, 115, 97, 116, 32, 56, 45, 49, 50]
def zL : List Int := [0, 0, 0, 0, 0, 0, 0]
set_option maxRecDepth 100000 in
theorem print_w (h : Heap) (lo : Nat) : (run lib).fn 11 [.agg (ints wL)] h lo = some (.tuple [.str wT, .int .i64 0], h) :=
  lent_any (vs := [.agg (ints wL)]) (fun _ => rfl) rfl rfl rfl ((run_iff lib).mpr ⟨3000, by kernel_rfl⟩)
set_option maxRecDepth 100000 in
theorem parse_w (h : Heap) (lo : Nat) : (run lib).fn 12 [.str wT] h lo = some (.tuple [.agg (ints wL), .int .i64 2, .int .i64 0], h) :=
  lent_any (vs := [.str wT]) (fun _ => rfl) rfl rfl rfl ((run_iff lib).mpr ⟨3000, by kernel_rfl⟩)
set_option maxRecDepth 100000 in
theorem parse_1 (h : Heap) (lo : Nat) : (run lib).fn 12 [.str [109, 111, 110, 32, 54, 45, 49, 48, 59, 32, 116, 117, 101, 32, 54, 45, 49, 48]] h lo = some (.tuple [.agg (ints zL), .int .i64 1, .int .i64 60], h) :=
  lent_any (vs := [.str [109, 111, 110, 32, 54, 45, 49, 48, 59, 32, 116, 117, 101, 32, 54, 45, 49, 48]]) (fun _ => rfl) rfl rfl rfl ((run_iff lib).mpr ⟨3000, by kernel_rfl⟩)
set_option maxRecDepth 100000 in
theorem parse_2 (h : Heap) (lo : Nat) : (run lib).fn 12 [.str [109, 111, 110, 32, 54, 45, 56, 32, 56, 45, 49, 48]] h lo = some (.tuple [.agg (ints zL), .int .i64 0, .int .i64 60], h) :=
  lent_any (vs := [.str [109, 111, 110, 32, 54, 45, 56, 32, 56, 45, 49, 48]]) (fun _ => rfl) rfl rfl rfl ((run_iff lib).mpr ⟨3000, by kernel_rfl⟩)
def two : List (Int × Int) := [(30000, 36000), (64800, 70000)]
set_option maxRecDepth 100000 in
theorem same_2 (h : Heap) (lo : Nat) : (run lib).fn 23 [.lst 2 (pts two), .lsf 2 (pts two)] h lo = some (.bool true, h) :=
  lent_any (vs := [.lst 2 (pts two), .lsf 2 (pts two)]) (fun _ => rfl) rfl rfl rfl ((run_iff lib).mpr ⟨3000, by kernel_rfl⟩)
theorem hasS_z (k : Nat) : hasS zL k = false := by
  have : ∀ d : Nat, d < 7 → zL.getD d 0 = 0 := by decide
  unfold hasS
  rw [this _ (by omega)]
  simp
theorem nextS_z (t : Int) (d : Nat) : ∀ k, nextS zL t d k = none := by
  induction d with
  | zero => intro k; rfl
  | succ d ih => intro k; simp [nextS, hasS_z, ih]
theorem spells_w : spells wL 30000 70000 = two := by decide +kernel
theorem sum_w : sumP (spells wL 0 604800) = 122400 := by decide +kernel
theorem not_m1 (h : Heap) (lo : Nat) : (run lib).fn 18 [.agg (ints [-1, 0, 0, 0, 0, 0, 0])] h lo = some (.tuple [.agg (ints zL), .int .i64 60], h) := by
  have e := fun h lo => valid_run (l := [-1, 0, 0, 0, 0, 0, 0]) rfl h lo
  have hv : vW [-1, 0, 0, 0, 0, 0, 0] = false := by decide
  rw [hv] at e
  rw [run_closed (x := x18) rfl rfl rfl rfl]
  simp only [ints, List.map_cons, List.map_nil, zL] at e ⊢
  simp (maxSteps := 1000000) (disch := omega) only [go_sem, ↓reduceIte, Nat.reduceEqDiff, Nat.reduceAdd, Nat.reduceSub, Nat.reduceMul, Nat.reduceLT, Nat.reduceLeDiff, reduceCtorEq, Nat.succ_ne_self, ne_eq, not_true_eq_false, not_false_eq_true, and_self, and_true, true_and, Nat.zero_add, Nat.sub_zero, Nat.zero_mul, Nat.one_mul, Nat.le_refl, List.getElem?_cons_zero, List.set_cons_zero, Int.reduceToNat, Int.reduceLT, Int.reduceLE, Int.reduceAdd, Int.reduceSub, Int.reduceMul, Int.reduceEq, Int.reduceNe, Int.toNat_natCast, Int.natCast_zero, wrap_id, wrapu_id, wrapb_id, idx_ok, bin_quo, bin_rem, tdiv_id, tmod_id, ps_bptr, x18, e, List.take_succ_cons, List.take_zero, List.length_cons, List.length_nil, List.drop_zero, List.drop_succ_cons]
theorem sane_run (h : Heap) (lo : Nat) : (run lib).fn 9 [] h lo = some (.bool true, h) := by
  have hv : vW wL = true := by decide
  have hz : vW zL = true := by decide
  have l7 : wL.length = 7 := rfl
  have z7 : zL.length = 7 := rfl
  have n1 := fun h lo => next_run l7 hv 36000 (by omega) (by omega) h lo
  have n2 := fun h lo => next_run l7 hv 417600 (by omega) (by omega) h lo
  have n3 := fun h lo => next_run z7 hz 0 (by omega) (by omega) h lo
  have s1 := fun h lo => (spells_run l7 hv (f := 30000) (t := 70000) (by omega) h lo).2
  have s2 := fun h lo => seconds_run l7 hv (f := 0) (t := 604800) (by omega) h lo
  have i1 := fun h lo => in_run l7 hv 21600 h lo
  have i2 := fun h lo => in_run l7 hv 36000 h lo
  have v1 := fun h lo => valid_run l7 h lo
  have e1 : nextS wL 36000 (2778 - (36000 / 3600 : Int).toNat) (36000 / 3600 : Int).toNat = some 64800 := by decide +kernel
  have e2 : nextS wL 417600 (2778 - (417600 / 3600 : Int).toNat) (417600 / 3600 : Int).toNat = some 460800 := by decide +kernel
  have e3 : (decide ((0 : Int) ≤ 21600) && decide ((21600 : Int) < 10000000) && hasS wL (21600 / 3600 : Int).toNat) = true := by decide +kernel
  have e4 : (decide ((0 : Int) ≤ 36000) && decide ((36000 : Int) < 10000000) && hasS wL (36000 / 3600 : Int).toNat) = false := by decide +kernel
  have hw : ownV 2 (pts two) = .own 2 (pts two) := rfl
  have q := same_2
  have pw := print_w
  have p1 := parse_w
  have p2 := parse_1
  have p3 := parse_2
  have nm := not_m1
  have q1 : binv .eql (.str wT) (.str wT) = some (.bool true) := by kernel_rfl
  have q2 : eqvv false [.i .i64, .i .i64, .i .i64, .i .i64, .i .i64, .i .i64, .i .i64] (.agg (ints wL)) (.agg (ints wL)) = some (.bool true) := by kernel_rfl
  simp only [e1] at n1
  simp only [e2] at n2
  simp only [nextS_z] at n3
  rw [e3] at i1
  rw [e4] at i2
  simp only [spells_w, hw] at s1
  simp only [sum_w] at s2
  rw [hv] at v1
  simp only [ints, wL, zL, wT, pts, pt, two, List.map_cons, List.map_nil] at n1 n2 n3 s1 s2 i1 i2 v1 q pw p1 p2 p3 nm q1 q2
  rw [run_closed (x := x9) rfl rfl rfl rfl]
  simp (maxSteps := 1000000) (disch := omega) only [go_sem, ↓reduceIte, Nat.reduceEqDiff, Nat.reduceAdd, Nat.reduceSub, Nat.reduceMul, Nat.reduceLT, Nat.reduceLeDiff, reduceCtorEq, Nat.succ_ne_self, ne_eq, not_true_eq_false, not_false_eq_true, and_self, and_true, true_and, Nat.zero_add, Nat.sub_zero, Nat.zero_mul, Nat.one_mul, Nat.le_refl, List.getElem?_cons_zero, List.set_cons_zero, Int.reduceToNat, Int.reduceLT, Int.reduceLE, Int.reduceAdd, Int.reduceSub, Int.reduceMul, Int.reduceEq, Int.reduceNe, Int.toNat_natCast, Int.natCast_zero, wrap_id, wrapu_id, wrapb_id, idx_ok, bin_quo, bin_rem, tdiv_id, tmod_id, ps_bptr, x9, n1, n2, n3, s1, s2, i1, i2, v1, q, pw, p1, p2, p3, nm, q1, q2, List.take_succ_cons, List.take_zero, List.length_cons, List.length_nil, List.drop_zero, List.drop_succ_cons]
end Go.VI.Week
