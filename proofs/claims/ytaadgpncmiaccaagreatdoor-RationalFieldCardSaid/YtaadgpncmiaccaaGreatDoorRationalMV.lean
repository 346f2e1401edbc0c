/- What the functions on integers compute, part MV. -/
import Derived.Test.YtaadgpncmiaccaaGreatDoorRationalMS
set_option linter.unusedVariables false
set_option linter.unusedSimpArgs false
namespace Go.VI.Rational
open Go.VI.Num
def nS (o : Option Rat) : List UInt8 := match o with | some q => itxt q.num | none => []
def dS (o : Option Rat) : List UInt8 := match o with | some q => itxt (q.den : Int) | none => []
def eO (o : Option Rat) : Int := match o with | some _ => 0 | none => 40
def rO (o : Option Rat) : AV := .agg [.str (nS o), .str (dS o)]
theorem resO_eq (o : Option Rat) : resO o = .tuple [rO o, .int .i64 (eO o)] := by cases o <;> rfl
theorem fourV_eq (a b c d : Option Rat) : fourV a b c d = .tuple [.agg [.str (nS a), .str (dS a), .str (nS b), .str (dS b), .str (nS c), .str (dS c), .str (nS d), .str (dS d)], .agg [.int .i64 (eO a), .int .i64 (eO b), .int .i64 (eO c), .int .i64 (eO d)]] := by
 cases a <;> cases b <;> cases c <;> cases d <;> rfl
theorem eO_some {o : Option Rat} (h : eO o = 0) : ∃ q, o = some q := by
 cases o with
 | none => simp [eO] at h
 | some q => exact ⟨q, rfl⟩
def FitO (o : Option Rat) : Prop := ∀ q, o = some q → FitQ q
theorem FitQ.o {q : Rat} (h : FitQ q) : FitO (some q) := fun p e => Option.some.inj e ▸ h
def liftO (f : Rat → Rat → Option Rat) (a b : Option Rat) : Option Rat := match a, b with | some a, some b => f a b | _, _ => none
theorem liftO_some {f : Rat → Rat → Option Rat} {a b : Option Rat} {q : Rat} (h : liftO f a b = some q) : ∃ x y, a = some x ∧ b = some y ∧ f x y = some q := by
 cases a <;> cases b <;> simp [liftO] at h
 exact ⟨_, _, rfl, rfl, h⟩
theorem rvalid_nil : rvalid [] [] = false := by kernel_rfl
theorem opO {g : Nat} {f : Rat → Rat → Option Rat} (hok : ∀ {a b : Rat}, FitQ a → FitQ b → ∀ H lo, (run lib).fn g [rt a, rt b] H lo = some (resO (f a b), H))
  (hbad : ∀ {s t u v : List UInt8}, (rvalid s t && rvalid u v) = false → ∀ H lo, (run lib).fn g [frV s t, frV u v] H lo = some (resO none, H)) {a b : Option Rat} (ha : FitO a) (hb : FitO b) (H : Heap) (lo : Nat) :
  (run lib).fn g [rO a, rO b] H lo = some (resO (liftO f a b), H) := by
 cases a with
 | none => exact hbad (s := []) (t := []) (by rw [rvalid_nil]; rfl) H lo
 | some a => cases b with
  | none => exact hbad (u := []) (v := []) (by rw [rvalid_nil, Bool.and_false]) H lo
  | some b => exact hok (ha a rfl) (hb b rfl) H lo
theorem addO_run {a b : Option Rat} (ha : FitO a) (hb : FitO b) (H : Heap) (lo : Nat) : (run lib).fn 27 [rO a, rO b] H lo = some (resO (liftO addQ a b), H) := opO (fun h1 h2 => qadd_run h1 h2) (fun h => qadd_bad h) ha hb H lo
theorem subO_run {a b : Option Rat} (ha : FitO a) (hb : FitO b) (H : Heap) (lo : Nat) : (run lib).fn 44 [rO a, rO b] H lo = some (resO (liftO subQ a b), H) := opO (fun h1 h2 => qsub_run h1 h2) (fun h => qsub_bad h) ha hb H lo
theorem mulO_run {a b : Option Rat} (ha : FitO a) (hb : FitO b) (H : Heap) (lo : Nat) : (run lib).fn 25 [rO a, rO b] H lo = some (resO (liftO mulQ a b), H) := opO (fun h1 h2 => qmul_run h1 h2) (fun h => qmul_bad h) ha hb H lo
theorem divO_run {a b : Option Rat} (ha : FitO a) (hb : FitO b) (H : Heap) (lo : Nat) : (run lib).fn 26 [rO a, rO b] H lo = some (resO (liftO divQ a b), H) := opO (fun h1 h2 => qdiv_run h1 h2) (fun h => qdiv_bad h) ha hb H lo
theorem fourO_run {a b : Option Rat} (ha : FitO a) (hb : FitO b) (h : Heap) (lo : Nat) : (run lib).fn 29 [rO a, rO b] h lo = some (fourV (liftO addQ a b) (liftO subQ a b) (liftO mulQ a b) (liftO divQ a b), h) :=
 four_gen (fun H lo => addO_run ha hb H lo) (fun H lo => subO_run ha hb H lo) (fun H lo => mulO_run ha hb H lo) (fun H lo => divO_run ha hb H lo) h lo
theorem fit2 {x y : Bool} (h : (x && y) = true) : x = true ∧ y = true := by simpa using h
theorem addQ_some {a b q : Rat} (h : addQ a b = some q) : q = a + b ∧ FitQ q := by
 unfold addQ at h
 split at h
 ·rename_i c
  obtain ⟨c, c4⟩ := fit2 c
  obtain ⟨c, c3⟩ := fit2 c
  cases h
  refine ⟨rfl, ?_⟩
  rw [← q_add]
  exact divInt_fit (den2_ne a b) (of_decide_eq_true c3) (of_decide_eq_true c4)
 ·cases h
theorem subQ_some {a b q : Rat} (h : subQ a b = some q) : q = a - b ∧ FitQ q := by
 unfold subQ at h
 split at h
 ·rename_i c
  obtain ⟨c, c4⟩ := fit2 c
  obtain ⟨c, c3⟩ := fit2 c
  cases h
  refine ⟨rfl, ?_⟩
  rw [← q_sub]
  exact divInt_fit (den2_ne a b) (of_decide_eq_true c3) (of_decide_eq_true c4)
 ·cases h
theorem mulQ_some {a b q : Rat} (h : mulQ a b = some q) : q = a * b ∧ FitQ q := by
 unfold mulQ at h
 split at h
 ·rename_i c
  obtain ⟨c3, c4⟩ := fit2 c
  cases h
  refine ⟨rfl, ?_⟩
  rw [← q_mul]
  exact divInt_fit (den2_ne a b) (of_decide_eq_true c3) (of_decide_eq_true c4)
 ·cases h
theorem divQ_some {a b q : Rat} (h : divQ a b = some q) : (q = a / b ∧ b ≠ 0) ∧ FitQ q := by
 unfold divQ at h
 split at h
 ·rename_i c
  obtain ⟨c, c4⟩ := fit2 c
  obtain ⟨c2, c3⟩ := fit2 c
  have hb := of_decide_eq_true c4
  cases h
  refine ⟨⟨rfl, hb⟩, ?_⟩
  rw [← q_div]
  exact divInt_fit (fun e => hb (q_div_zero.mp e)) (of_decide_eq_true c2) (of_decide_eq_true c3)
 ·cases h
theorem liftO_fit {f : Rat → Rat → Option Rat} (hf : ∀ {a b q}, f a b = some q → FitQ q) (a b : Option Rat) : FitO (liftO f a b) := fun q h => by
 obtain ⟨x, y, _, _, e⟩ := liftO_some h
 exact hf e
theorem addQ_comm (a b : Rat) : addQ a b = addQ b a := by
 unfold addQ
 rw [Int.add_comm (a.num * b.den), Int.mul_comm (a.den : Int), Rat.add_comm a, Bool.and_comm (fitZ (a.num * b.den))]
theorem mulQ_comm (a b : Rat) : mulQ a b = mulQ b a := by
 unfold mulQ
 rw [Int.mul_comm a.num, Int.mul_comm (a.den : Int), Rat.mul_comm a]
variable {a b c : Rat}
theorem f_assoc (h1 : eO (liftO addQ (liftO addQ (some a) (some b)) (some c)) = 0) (h2 : eO (liftO addQ (some a) (liftO addQ (some b) (some c))) = 0) : liftO addQ (liftO addQ (some a) (some b)) (some c) = liftO addQ (some a) (liftO addQ (some b) (some c)) := by
 obtain ⟨q, e1⟩ := eO_some h1
 obtain ⟨r, e2⟩ := eO_some h2
 rw [e1, e2]
 obtain ⟨x, y, u1, u2, u3⟩ := liftO_some e1
 obtain ⟨z, w, v1, v2, v3⟩ := liftO_some e2
 cases u2; cases v1
 rw [(addQ_some u3).1, (addQ_some v3).1, (addQ_some u1).1, (addQ_some v2).1, Rat.add_assoc]
theorem f_massoc (h1 : eO (liftO mulQ (liftO mulQ (some a) (some b)) (some c)) = 0) (h2 : eO (liftO mulQ (some a) (liftO mulQ (some b) (some c))) = 0) : liftO mulQ (some a) (liftO mulQ (some b) (some c)) = liftO mulQ (liftO mulQ (some a) (some b)) (some c) := by
 obtain ⟨q, e1⟩ := eO_some h1
 obtain ⟨r, e2⟩ := eO_some h2
 rw [e1, e2]
 obtain ⟨x, y, u1, u2, u3⟩ := liftO_some e1
 obtain ⟨z, w, v1, v2, v3⟩ := liftO_some e2
 cases u2; cases v1
 rw [(mulQ_some u3).1, (mulQ_some v3).1, (mulQ_some u1).1, (mulQ_some v2).1, Rat.mul_assoc]
theorem f_dist (h1 : eO (liftO addQ (liftO mulQ (some a) (some c)) (liftO mulQ (some b) (some c))) = 0) (h2 : eO (liftO mulQ (liftO addQ (some a) (some b)) (some c)) = 0) : liftO addQ (liftO mulQ (some a) (some c)) (liftO mulQ (some b) (some c)) = liftO mulQ (liftO addQ (some a) (some b)) (some c) := by
 obtain ⟨q, e1⟩ := eO_some h1
 obtain ⟨r, e2⟩ := eO_some h2
 rw [e1, e2]
 obtain ⟨x, y, u1, u2, u3⟩ := liftO_some e1
 obtain ⟨z, w, v1, v2, v3⟩ := liftO_some e2
 cases v2
 rw [(addQ_some u3).1, (mulQ_some v3).1, (mulQ_some u1).1, (mulQ_some u2).1, (addQ_some v1).1, Rat.add_mul]
theorem f_back (h2 : eO (liftO subQ (liftO addQ (some a) (some b)) (some b)) = 0) : liftO subQ (liftO addQ (some a) (some b)) (some b) = some a := by
 obtain ⟨r, e2⟩ := eO_some h2
 rw [e2]
 obtain ⟨z, w, v1, v2, v3⟩ := liftO_some e2
 cases v2
 rw [(subQ_some v3).1, (addQ_some v1).1]
 congr 1
 grind
theorem f_again (h2 : eO (liftO mulQ (liftO divQ (some a) (some b)) (some b)) = 0) : liftO mulQ (liftO divQ (some a) (some b)) (some b) = some a := by
 obtain ⟨r, e2⟩ := eO_some h2
 rw [e2]
 obtain ⟨z, w, v1, v2, v3⟩ := liftO_some e2
 cases v2
 rw [(mulQ_some v3).1, (divQ_some v1).1.1, Rat.div_mul_cancel (divQ_some v1).1.2]
end Go.VI.Rational
