/- What the functions on integers compute, part MG. -/
import Derived.Test.YtgifkjfchppigaaGreatDoorIntegerMD
namespace Go.VI.Integer
open Go.VI.Num
set_option linter.unusedVariables false
set_option linter.unusedSimpArgs false

/-! IntegerMachine -/
theorem emq {x y q r : Int} (h0 : y ≠ 0) (h1 : r + y * q = x) (h2 : 0 ≤ r) (h3 : r < (y.natAbs : Int)) : x / y = q ∧ x % y = r := by
  rcases Int.lt_or_gt_of_ne h0 with c | c
  · exact (Int.ediv_emod_unique' c).mpr ⟨h1, h2, by omega⟩
  · exact (Int.ediv_emod_unique c).mpr ⟨h1, h2, by omega⟩
theorem small_fit {z : Int} (h : z.natAbs ≤ 9223372036854775808) : Fit z := Nat.lt_of_le_of_lt h (by decide)
theorem i32conv {a : Int} (h1 : -9223372036854775808 ≤ a) (h2 : a ≤ 9223372036854775807) : convv .i64 (.int .i32 a) = some (.int .i64 a) := by rw [conv_int, wrap_id h1 h2]
theorem tmod_nn (x y : Int) : x.tmod y < 0 → x < 0 := fun h => by
  rcases Int.lt_or_le x 0 with c | c
  · exact c
  · have := Int.tmod_nonneg y c; omega
set_option maxHeartbeats 1000000 in
theorem mach_lt_Z {x y : Int} (hx : -2147483648 ≤ x ∧ x ≤ 2147483647) (hy : -2147483648 ≤ y ∧ y ≤ 2147483647) (g : x < y) (h0 : y = 0) (h : Heap) (lo : Nat) : (run lib).fn 10 [.int .i32 x, .int .i32 y] h lo = some (.bool true, h) := by
  have hm : (x * y).natAbs ≤ 4611686018427387904 := by
    rw [Int.natAbs_mul]
    exact Nat.mul_le_mul (show x.natAbs ≤ 2147483648 by omega) (show y.natAbs ≤ 2147483648 by omega)
  have cv1 := i32conv (a := x) (by omega) (by omega)
  have cv2 := i32conv (a := y) (by omega) (by omega)
  have xf : Fit x := small_fit (by omega)
  have yf : Fit y := small_fit (by omega)
  have af : Fit (x + y) := small_fit (by omega)
  have bf : Fit (x - y) := small_fit (by omega)
  have mf : Fit (x * y) := small_fit (by omega)
  have f1 := fromint_run (n := x) (by omega) (by omega)
  have f2 := fromint_run (n := y) (by omega) (by omega)
  have f3 := fromint_run (n := x + y) (by omega) (by omega)
  have f4 := fromint_run (n := x - y) (by omega) (by omega)
  have f5 := fromint_run (n := x * y) (by omega) (by omega)
  have t1 := toint_run xf
  have tt : toT x = .tuple [.int .i64 x, .int .i64 0] := if_pos (by omega)
  rw [tt] at t1
  have o1 := add_fit xf yf af rfl
  have o2 := sub_fit xf yf bf rfl
  have o3 := mul_fit xf yf mf rfl
  have wm : IntKind.i64.wrap (x * y) = x * y := wrap_id (by omega) (by omega)
  have c1 := compare_run xf yf
  rw [cmp_less g] at c1
  have g1 : x < y := g
  have g2 : ¬ y < x := by omega
  have d1 : ∀ H lo, (run lib).fn 17 [.str (itxt x), .str (itxt y)] H lo = some (.tuple [.str [], .str [], .int .i64 30], H) := by rw [h0]; exact div_zero xf
  have hz : (y = 0) = True := eq_true h0
  generalize itxt (x + y) = AS at *
  generalize itxt (x - y) = BS at *
  generalize itxt (x * y) = MS at *
  rw [run_closed (x := x10) rfl rfl rfl rfl]
  simp (maxSteps := 1000000) (disch := omega) only [go_sem, ↓reduceIte, Nat.reduceEqDiff, Nat.reduceAdd, Nat.reduceSub, Nat.reduceMul, Nat.reduceLT, Nat.reduceLeDiff, reduceCtorEq, Int.reduceToNat, Int.reduceLT, Int.reduceLE, Int.reduceAdd, Int.reduceSub, Int.reduceMul, Int.reduceEq, Int.reduceNe, wrap_id, wrapu_id, wrapb_id, idx_ok, bin_quo, bin_rem, tdiv_id, tmod_id, ps_bptr, x10, sane_run, cv1, cv2, f1, f2, f3, f4, f5, t1, o1, o2, o3, wm, c1, g1, g2, Int.reduceNeg, d1, hz]
set_option maxHeartbeats 1000000 in
theorem mach_lt_A {x y : Int} (hx : -2147483648 ≤ x ∧ x ≤ 2147483647) (hy : -2147483648 ≤ y ∧ y ≤ 2147483647) (g : x < y) (h0 : y ≠ 0) (hr : x.tmod y < 0) (hp : 0 < y) (h : Heap) (lo : Nat) : (run lib).fn 10 [.int .i32 x, .int .i32 y] h lo = some (.bool true, h) := by
  have hm : (x * y).natAbs ≤ 4611686018427387904 := by
    rw [Int.natAbs_mul]
    exact Nat.mul_le_mul (show x.natAbs ≤ 2147483648 by omega) (show y.natAbs ≤ 2147483648 by omega)
  have cv1 := i32conv (a := x) (by omega) (by omega)
  have cv2 := i32conv (a := y) (by omega) (by omega)
  have xf : Fit x := small_fit (by omega)
  have yf : Fit y := small_fit (by omega)
  have af : Fit (x + y) := small_fit (by omega)
  have bf : Fit (x - y) := small_fit (by omega)
  have mf : Fit (x * y) := small_fit (by omega)
  have f1 := fromint_run (n := x) (by omega) (by omega)
  have f2 := fromint_run (n := y) (by omega) (by omega)
  have f3 := fromint_run (n := x + y) (by omega) (by omega)
  have f4 := fromint_run (n := x - y) (by omega) (by omega)
  have f5 := fromint_run (n := x * y) (by omega) (by omega)
  have t1 := toint_run xf
  have tt : toT x = .tuple [.int .i64 x, .int .i64 0] := if_pos (by omega)
  rw [tt] at t1
  have o1 := add_fit xf yf af rfl
  have o2 := sub_fit xf yf bf rfl
  have o3 := mul_fit xf yf mf rfl
  have wm : IntKind.i64.wrap (x * y) = x * y := wrap_id (by omega) (by omega)
  have c1 := compare_run xf yf
  rw [cmp_less g] at c1
  have g1 : x < y := g
  have g2 : ¬ y < x := by omega
  have e1 := Int.tmod_add_mul_tdiv x y
  have ra : (x.tmod y).natAbs < y.natAbs := by rw [Int.natAbs_tmod]; exact Nat.mod_lt _ (by omega)
  have qa : (x.tdiv y).natAbs ≤ 2147483648 := by
    rw [Int.natAbs_tdiv]; exact Nat.le_trans (Nat.div_le_self _ _) (by omega)
  have n1 := tmod_nn x y
  have wq : IntKind.i64.wrap (x.tdiv y) = x.tdiv y := wrap_id (by omega) (by omega)
  obtain ⟨k1, k2⟩ := emq (x := x) (y := y) (q := x.tdiv y - 1) (r := x.tmod y + y) h0 (by rw [Int.mul_sub, Int.mul_one]; generalize y * x.tdiv y = Z at *; omega) (by omega) (by omega)
  have d1 := div_fit xf yf h0 k1 k2
  have f6 := fromint_run (n := x.tdiv y - 1) (by omega) (by omega)
  have f7 := fromint_run (n := x.tmod y + y) (by omega) (by omega)
  have hr2 : ¬ x.tmod y + y < 0 := by omega
  have b1 : binv .rem (.int .i64 x) (.int .i64 y) = some (.int .i64 (x.tmod y)) := bin_rem h0
  have b2 : binv .quo (.int .i64 x) (.int .i64 y) = some (.int .i64 (x.tdiv y)) := by rw [bin_quo h0, wq]
  generalize x.tmod y = r0 at *
  generalize x.tdiv y = q0 at *
  generalize itxt (x + y) = AS at *
  generalize itxt (x - y) = BS at *
  generalize itxt (x * y) = MS at *
  rw [run_closed (x := x10) rfl rfl rfl rfl]
  simp (maxSteps := 1000000) (disch := omega) only [go_sem, ↓reduceIte, Nat.reduceEqDiff, Nat.reduceAdd, Nat.reduceSub, Nat.reduceMul, Nat.reduceLT, Nat.reduceLeDiff, reduceCtorEq, Int.reduceToNat, Int.reduceLT, Int.reduceLE, Int.reduceAdd, Int.reduceSub, Int.reduceMul, Int.reduceEq, Int.reduceNe, wrap_id, wrapu_id, wrapb_id, idx_ok, bin_quo, bin_rem, tdiv_id, tmod_id, ps_bptr, x10, sane_run, cv1, cv2, f1, f2, f3, f4, f5, t1, o1, o2, o3, wm, c1, g1, g2, Int.reduceNeg, h0, d1, f6, f7, b1, b2, hr, hp, hr2]
set_option maxHeartbeats 1000000 in
theorem mach_lt_B {x y : Int} (hx : -2147483648 ≤ x ∧ x ≤ 2147483647) (hy : -2147483648 ≤ y ∧ y ≤ 2147483647) (g : x < y) (h0 : y ≠ 0) (hr : x.tmod y < 0) (hp : ¬ 0 < y) (h : Heap) (lo : Nat) : (run lib).fn 10 [.int .i32 x, .int .i32 y] h lo = some (.bool true, h) := by
  have hm : (x * y).natAbs ≤ 4611686018427387904 := by
    rw [Int.natAbs_mul]
    exact Nat.mul_le_mul (show x.natAbs ≤ 2147483648 by omega) (show y.natAbs ≤ 2147483648 by omega)
  have cv1 := i32conv (a := x) (by omega) (by omega)
  have cv2 := i32conv (a := y) (by omega) (by omega)
  have xf : Fit x := small_fit (by omega)
  have yf : Fit y := small_fit (by omega)
  have af : Fit (x + y) := small_fit (by omega)
  have bf : Fit (x - y) := small_fit (by omega)
  have mf : Fit (x * y) := small_fit (by omega)
  have f1 := fromint_run (n := x) (by omega) (by omega)
  have f2 := fromint_run (n := y) (by omega) (by omega)
  have f3 := fromint_run (n := x + y) (by omega) (by omega)
  have f4 := fromint_run (n := x - y) (by omega) (by omega)
  have f5 := fromint_run (n := x * y) (by omega) (by omega)
  have t1 := toint_run xf
  have tt : toT x = .tuple [.int .i64 x, .int .i64 0] := if_pos (by omega)
  rw [tt] at t1
  have o1 := add_fit xf yf af rfl
  have o2 := sub_fit xf yf bf rfl
  have o3 := mul_fit xf yf mf rfl
  have wm : IntKind.i64.wrap (x * y) = x * y := wrap_id (by omega) (by omega)
  have c1 := compare_run xf yf
  rw [cmp_less g] at c1
  have g1 : x < y := g
  have g2 : ¬ y < x := by omega
  have e1 := Int.tmod_add_mul_tdiv x y
  have ra : (x.tmod y).natAbs < y.natAbs := by rw [Int.natAbs_tmod]; exact Nat.mod_lt _ (by omega)
  have qa : (x.tdiv y).natAbs ≤ 2147483648 := by
    rw [Int.natAbs_tdiv]; exact Nat.le_trans (Nat.div_le_self _ _) (by omega)
  have n1 := tmod_nn x y
  have wq : IntKind.i64.wrap (x.tdiv y) = x.tdiv y := wrap_id (by omega) (by omega)
  obtain ⟨k1, k2⟩ := emq (x := x) (y := y) (q := x.tdiv y + 1) (r := x.tmod y - y) h0 (by rw [Int.mul_add, Int.mul_one]; generalize y * x.tdiv y = Z at *; omega) (by omega) (by omega)
  have d1 := div_fit xf yf h0 k1 k2
  have f6 := fromint_run (n := x.tdiv y + 1) (by omega) (by omega)
  have f7 := fromint_run (n := x.tmod y - y) (by omega) (by omega)
  have b1 : binv .rem (.int .i64 x) (.int .i64 y) = some (.int .i64 (x.tmod y)) := bin_rem h0
  have b2 : binv .quo (.int .i64 x) (.int .i64 y) = some (.int .i64 (x.tdiv y)) := by rw [bin_quo h0, wq]
  generalize x.tmod y = r0 at *
  generalize x.tdiv y = q0 at *
  generalize itxt (x + y) = AS at *
  generalize itxt (x - y) = BS at *
  generalize itxt (x * y) = MS at *
  rw [run_closed (x := x10) rfl rfl rfl rfl]
  simp (maxSteps := 1000000) (disch := omega) only [go_sem, ↓reduceIte, Nat.reduceEqDiff, Nat.reduceAdd, Nat.reduceSub, Nat.reduceMul, Nat.reduceLT, Nat.reduceLeDiff, reduceCtorEq, Int.reduceToNat, Int.reduceLT, Int.reduceLE, Int.reduceAdd, Int.reduceSub, Int.reduceMul, Int.reduceEq, Int.reduceNe, wrap_id, wrapu_id, wrapb_id, idx_ok, bin_quo, bin_rem, tdiv_id, tmod_id, ps_bptr, x10, sane_run, cv1, cv2, f1, f2, f3, f4, f5, t1, o1, o2, o3, wm, c1, g1, g2, Int.reduceNeg, h0, d1, f6, f7, b1, b2, hr, hp]
set_option maxHeartbeats 1000000 in
theorem mach_lt_C {x y : Int} (hx : -2147483648 ≤ x ∧ x ≤ 2147483647) (hy : -2147483648 ≤ y ∧ y ≤ 2147483647) (g : x < y) (h0 : y ≠ 0) (hr : ¬ x.tmod y < 0) (h : Heap) (lo : Nat) : (run lib).fn 10 [.int .i32 x, .int .i32 y] h lo = some (.bool true, h) := by
  have hm : (x * y).natAbs ≤ 4611686018427387904 := by
    rw [Int.natAbs_mul]
    exact Nat.mul_le_mul (show x.natAbs ≤ 2147483648 by omega) (show y.natAbs ≤ 2147483648 by omega)
  have cv1 := i32conv (a := x) (by omega) (by omega)
  have cv2 := i32conv (a := y) (by omega) (by omega)
  have xf : Fit x := small_fit (by omega)
  have yf : Fit y := small_fit (by omega)
  have af : Fit (x + y) := small_fit (by omega)
  have bf : Fit (x - y) := small_fit (by omega)
  have mf : Fit (x * y) := small_fit (by omega)
  have f1 := fromint_run (n := x) (by omega) (by omega)
  have f2 := fromint_run (n := y) (by omega) (by omega)
  have f3 := fromint_run (n := x + y) (by omega) (by omega)
  have f4 := fromint_run (n := x - y) (by omega) (by omega)
  have f5 := fromint_run (n := x * y) (by omega) (by omega)
  have t1 := toint_run xf
  have tt : toT x = .tuple [.int .i64 x, .int .i64 0] := if_pos (by omega)
  rw [tt] at t1
  have o1 := add_fit xf yf af rfl
  have o2 := sub_fit xf yf bf rfl
  have o3 := mul_fit xf yf mf rfl
  have wm : IntKind.i64.wrap (x * y) = x * y := wrap_id (by omega) (by omega)
  have c1 := compare_run xf yf
  rw [cmp_less g] at c1
  have g1 : x < y := g
  have g2 : ¬ y < x := by omega
  have e1 := Int.tmod_add_mul_tdiv x y
  have ra : (x.tmod y).natAbs < y.natAbs := by rw [Int.natAbs_tmod]; exact Nat.mod_lt _ (by omega)
  have qa : (x.tdiv y).natAbs ≤ 2147483648 := by
    rw [Int.natAbs_tdiv]; exact Nat.le_trans (Nat.div_le_self _ _) (by omega)
  have n1 := tmod_nn x y
  have wq : IntKind.i64.wrap (x.tdiv y) = x.tdiv y := wrap_id (by omega) (by omega)
  obtain ⟨k1, k2⟩ := emq (x := x) (y := y) (q := x.tdiv y) (r := x.tmod y) h0 (by omega) (by omega) (by omega)
  have d1 := div_fit xf yf h0 k1 k2
  have f6 := fromint_run (n := x.tdiv y) (by omega) (by omega)
  have f7 := fromint_run (n := x.tmod y) (by omega) (by omega)
  have b1 : binv .rem (.int .i64 x) (.int .i64 y) = some (.int .i64 (x.tmod y)) := bin_rem h0
  have b2 : binv .quo (.int .i64 x) (.int .i64 y) = some (.int .i64 (x.tdiv y)) := by rw [bin_quo h0, wq]
  generalize x.tmod y = r0 at *
  generalize x.tdiv y = q0 at *
  generalize itxt (x + y) = AS at *
  generalize itxt (x - y) = BS at *
  generalize itxt (x * y) = MS at *
  rw [run_closed (x := x10) rfl rfl rfl rfl]
  simp (maxSteps := 1000000) (disch := omega) only [go_sem, ↓reduceIte, Nat.reduceEqDiff, Nat.reduceAdd, Nat.reduceSub, Nat.reduceMul, Nat.reduceLT, Nat.reduceLeDiff, reduceCtorEq, Int.reduceToNat, Int.reduceLT, Int.reduceLE, Int.reduceAdd, Int.reduceSub, Int.reduceMul, Int.reduceEq, Int.reduceNe, wrap_id, wrapu_id, wrapb_id, idx_ok, bin_quo, bin_rem, tdiv_id, tmod_id, ps_bptr, x10, sane_run, cv1, cv2, f1, f2, f3, f4, f5, t1, o1, o2, o3, wm, c1, g1, g2, Int.reduceNeg, h0, d1, f6, f7, b1, b2, hr]
set_option maxHeartbeats 1000000 in
theorem mach_eq_Z {x y : Int} (hx : -2147483648 ≤ x ∧ x ≤ 2147483647) (hy : -2147483648 ≤ y ∧ y ≤ 2147483647) (g : x = y) (h0 : y = 0) (h : Heap) (lo : Nat) : (run lib).fn 10 [.int .i32 x, .int .i32 y] h lo = some (.bool true, h) := by
  have hm : (x * y).natAbs ≤ 4611686018427387904 := by
    rw [Int.natAbs_mul]
    exact Nat.mul_le_mul (show x.natAbs ≤ 2147483648 by omega) (show y.natAbs ≤ 2147483648 by omega)
  have cv1 := i32conv (a := x) (by omega) (by omega)
  have cv2 := i32conv (a := y) (by omega) (by omega)
  have xf : Fit x := small_fit (by omega)
  have yf : Fit y := small_fit (by omega)
  have af : Fit (x + y) := small_fit (by omega)
  have bf : Fit (x - y) := small_fit (by omega)
  have mf : Fit (x * y) := small_fit (by omega)
  have f1 := fromint_run (n := x) (by omega) (by omega)
  have f2 := fromint_run (n := y) (by omega) (by omega)
  have f3 := fromint_run (n := x + y) (by omega) (by omega)
  have f4 := fromint_run (n := x - y) (by omega) (by omega)
  have f5 := fromint_run (n := x * y) (by omega) (by omega)
  have t1 := toint_run xf
  have tt : toT x = .tuple [.int .i64 x, .int .i64 0] := if_pos (by omega)
  rw [tt] at t1
  have o1 := add_fit xf yf af rfl
  have o2 := sub_fit xf yf bf rfl
  have o3 := mul_fit xf yf mf rfl
  have wm : IntKind.i64.wrap (x * y) = x * y := wrap_id (by omega) (by omega)
  have c1 := compare_run xf yf
  have ce : cmpN x y = 0 := by rw [g, cmp_eq]
  rw [ce] at c1
  have g1 : ¬ x < y := by omega
  have g2 : ¬ y < x := by omega
  have d1 : ∀ H lo, (run lib).fn 17 [.str (itxt x), .str (itxt y)] H lo = some (.tuple [.str [], .str [], .int .i64 30], H) := by rw [h0]; exact div_zero xf
  have hz : (y = 0) = True := eq_true h0
  generalize itxt (x + y) = AS at *
  generalize itxt (x - y) = BS at *
  generalize itxt (x * y) = MS at *
  rw [run_closed (x := x10) rfl rfl rfl rfl]
  simp (maxSteps := 1000000) (disch := omega) only [go_sem, ↓reduceIte, Nat.reduceEqDiff, Nat.reduceAdd, Nat.reduceSub, Nat.reduceMul, Nat.reduceLT, Nat.reduceLeDiff, reduceCtorEq, Int.reduceToNat, Int.reduceLT, Int.reduceLE, Int.reduceAdd, Int.reduceSub, Int.reduceMul, Int.reduceEq, Int.reduceNe, wrap_id, wrapu_id, wrapb_id, idx_ok, bin_quo, bin_rem, tdiv_id, tmod_id, ps_bptr, x10, sane_run, cv1, cv2, f1, f2, f3, f4, f5, t1, o1, o2, o3, wm, c1, g1, g2, Int.reduceNeg, d1, hz]
set_option maxHeartbeats 1000000 in
theorem mach_eq_A {x y : Int} (hx : -2147483648 ≤ x ∧ x ≤ 2147483647) (hy : -2147483648 ≤ y ∧ y ≤ 2147483647) (g : x = y) (h0 : y ≠ 0) (hr : x.tmod y < 0) (hp : 0 < y) (h : Heap) (lo : Nat) : (run lib).fn 10 [.int .i32 x, .int .i32 y] h lo = some (.bool true, h) := by
  have hm : (x * y).natAbs ≤ 4611686018427387904 := by
    rw [Int.natAbs_mul]
    exact Nat.mul_le_mul (show x.natAbs ≤ 2147483648 by omega) (show y.natAbs ≤ 2147483648 by omega)
  have cv1 := i32conv (a := x) (by omega) (by omega)
  have cv2 := i32conv (a := y) (by omega) (by omega)
  have xf : Fit x := small_fit (by omega)
  have yf : Fit y := small_fit (by omega)
  have af : Fit (x + y) := small_fit (by omega)
  have bf : Fit (x - y) := small_fit (by omega)
  have mf : Fit (x * y) := small_fit (by omega)
  have f1 := fromint_run (n := x) (by omega) (by omega)
  have f2 := fromint_run (n := y) (by omega) (by omega)
  have f3 := fromint_run (n := x + y) (by omega) (by omega)
  have f4 := fromint_run (n := x - y) (by omega) (by omega)
  have f5 := fromint_run (n := x * y) (by omega) (by omega)
  have t1 := toint_run xf
  have tt : toT x = .tuple [.int .i64 x, .int .i64 0] := if_pos (by omega)
  rw [tt] at t1
  have o1 := add_fit xf yf af rfl
  have o2 := sub_fit xf yf bf rfl
  have o3 := mul_fit xf yf mf rfl
  have wm : IntKind.i64.wrap (x * y) = x * y := wrap_id (by omega) (by omega)
  have c1 := compare_run xf yf
  have ce : cmpN x y = 0 := by rw [g, cmp_eq]
  rw [ce] at c1
  have g1 : ¬ x < y := by omega
  have g2 : ¬ y < x := by omega
  have e1 := Int.tmod_add_mul_tdiv x y
  have ra : (x.tmod y).natAbs < y.natAbs := by rw [Int.natAbs_tmod]; exact Nat.mod_lt _ (by omega)
  have qa : (x.tdiv y).natAbs ≤ 2147483648 := by
    rw [Int.natAbs_tdiv]; exact Nat.le_trans (Nat.div_le_self _ _) (by omega)
  have n1 := tmod_nn x y
  have wq : IntKind.i64.wrap (x.tdiv y) = x.tdiv y := wrap_id (by omega) (by omega)
  obtain ⟨k1, k2⟩ := emq (x := x) (y := y) (q := x.tdiv y - 1) (r := x.tmod y + y) h0 (by rw [Int.mul_sub, Int.mul_one]; generalize y * x.tdiv y = Z at *; omega) (by omega) (by omega)
  have d1 := div_fit xf yf h0 k1 k2
  have f6 := fromint_run (n := x.tdiv y - 1) (by omega) (by omega)
  have f7 := fromint_run (n := x.tmod y + y) (by omega) (by omega)
  have hr2 : ¬ x.tmod y + y < 0 := by omega
  have b1 : binv .rem (.int .i64 x) (.int .i64 y) = some (.int .i64 (x.tmod y)) := bin_rem h0
  have b2 : binv .quo (.int .i64 x) (.int .i64 y) = some (.int .i64 (x.tdiv y)) := by rw [bin_quo h0, wq]
  generalize x.tmod y = r0 at *
  generalize x.tdiv y = q0 at *
  generalize itxt (x + y) = AS at *
  generalize itxt (x - y) = BS at *
  generalize itxt (x * y) = MS at *
  rw [run_closed (x := x10) rfl rfl rfl rfl]
  simp (maxSteps := 1000000) (disch := omega) only [go_sem, ↓reduceIte, Nat.reduceEqDiff, Nat.reduceAdd, Nat.reduceSub, Nat.reduceMul, Nat.reduceLT, Nat.reduceLeDiff, reduceCtorEq, Int.reduceToNat, Int.reduceLT, Int.reduceLE, Int.reduceAdd, Int.reduceSub, Int.reduceMul, Int.reduceEq, Int.reduceNe, wrap_id, wrapu_id, wrapb_id, idx_ok, bin_quo, bin_rem, tdiv_id, tmod_id, ps_bptr, x10, sane_run, cv1, cv2, f1, f2, f3, f4, f5, t1, o1, o2, o3, wm, c1, g1, g2, Int.reduceNeg, h0, d1, f6, f7, b1, b2, hr, hp, hr2]
set_option maxHeartbeats 1000000 in
theorem mach_eq_B {x y : Int} (hx : -2147483648 ≤ x ∧ x ≤ 2147483647) (hy : -2147483648 ≤ y ∧ y ≤ 2147483647) (g : x = y) (h0 : y ≠ 0) (hr : x.tmod y < 0) (hp : ¬ 0 < y) (h : Heap) (lo : Nat) : (run lib).fn 10 [.int .i32 x, .int .i32 y] h lo = some (.bool true, h) := by
  have hm : (x * y).natAbs ≤ 4611686018427387904 := by
    rw [Int.natAbs_mul]
    exact Nat.mul_le_mul (show x.natAbs ≤ 2147483648 by omega) (show y.natAbs ≤ 2147483648 by omega)
  have cv1 := i32conv (a := x) (by omega) (by omega)
  have cv2 := i32conv (a := y) (by omega) (by omega)
  have xf : Fit x := small_fit (by omega)
  have yf : Fit y := small_fit (by omega)
  have af : Fit (x + y) := small_fit (by omega)
  have bf : Fit (x - y) := small_fit (by omega)
  have mf : Fit (x * y) := small_fit (by omega)
  have f1 := fromint_run (n := x) (by omega) (by omega)
  have f2 := fromint_run (n := y) (by omega) (by omega)
  have f3 := fromint_run (n := x + y) (by omega) (by omega)
  have f4 := fromint_run (n := x - y) (by omega) (by omega)
  have f5 := fromint_run (n := x * y) (by omega) (by omega)
  have t1 := toint_run xf
  have tt : toT x = .tuple [.int .i64 x, .int .i64 0] := if_pos (by omega)
  rw [tt] at t1
  have o1 := add_fit xf yf af rfl
  have o2 := sub_fit xf yf bf rfl
  have o3 := mul_fit xf yf mf rfl
  have wm : IntKind.i64.wrap (x * y) = x * y := wrap_id (by omega) (by omega)
  have c1 := compare_run xf yf
  have ce : cmpN x y = 0 := by rw [g, cmp_eq]
  rw [ce] at c1
  have g1 : ¬ x < y := by omega
  have g2 : ¬ y < x := by omega
  have e1 := Int.tmod_add_mul_tdiv x y
  have ra : (x.tmod y).natAbs < y.natAbs := by rw [Int.natAbs_tmod]; exact Nat.mod_lt _ (by omega)
  have qa : (x.tdiv y).natAbs ≤ 2147483648 := by
    rw [Int.natAbs_tdiv]; exact Nat.le_trans (Nat.div_le_self _ _) (by omega)
  have n1 := tmod_nn x y
  have wq : IntKind.i64.wrap (x.tdiv y) = x.tdiv y := wrap_id (by omega) (by omega)
  obtain ⟨k1, k2⟩ := emq (x := x) (y := y) (q := x.tdiv y + 1) (r := x.tmod y - y) h0 (by rw [Int.mul_add, Int.mul_one]; generalize y * x.tdiv y = Z at *; omega) (by omega) (by omega)
  have d1 := div_fit xf yf h0 k1 k2
  have f6 := fromint_run (n := x.tdiv y + 1) (by omega) (by omega)
  have f7 := fromint_run (n := x.tmod y - y) (by omega) (by omega)
  have b1 : binv .rem (.int .i64 x) (.int .i64 y) = some (.int .i64 (x.tmod y)) := bin_rem h0
  have b2 : binv .quo (.int .i64 x) (.int .i64 y) = some (.int .i64 (x.tdiv y)) := by rw [bin_quo h0, wq]
  generalize x.tmod y = r0 at *
  generalize x.tdiv y = q0 at *
  generalize itxt (x + y) = AS at *
  generalize itxt (x - y) = BS at *
  generalize itxt (x * y) = MS at *
  rw [run_closed (x := x10) rfl rfl rfl rfl]
  simp (maxSteps := 1000000) (disch := omega) only [go_sem, ↓reduceIte, Nat.reduceEqDiff, Nat.reduceAdd, Nat.reduceSub, Nat.reduceMul, Nat.reduceLT, Nat.reduceLeDiff, reduceCtorEq, Int.reduceToNat, Int.reduceLT, Int.reduceLE, Int.reduceAdd, Int.reduceSub, Int.reduceMul, Int.reduceEq, Int.reduceNe, wrap_id, wrapu_id, wrapb_id, idx_ok, bin_quo, bin_rem, tdiv_id, tmod_id, ps_bptr, x10, sane_run, cv1, cv2, f1, f2, f3, f4, f5, t1, o1, o2, o3, wm, c1, g1, g2, Int.reduceNeg, h0, d1, f6, f7, b1, b2, hr, hp]
set_option maxHeartbeats 1000000 in
theorem mach_eq_C {x y : Int} (hx : -2147483648 ≤ x ∧ x ≤ 2147483647) (hy : -2147483648 ≤ y ∧ y ≤ 2147483647) (g : x = y) (h0 : y ≠ 0) (hr : ¬ x.tmod y < 0) (h : Heap) (lo : Nat) : (run lib).fn 10 [.int .i32 x, .int .i32 y] h lo = some (.bool true, h) := by
  have hm : (x * y).natAbs ≤ 4611686018427387904 := by
    rw [Int.natAbs_mul]
    exact Nat.mul_le_mul (show x.natAbs ≤ 2147483648 by omega) (show y.natAbs ≤ 2147483648 by omega)
  have cv1 := i32conv (a := x) (by omega) (by omega)
  have cv2 := i32conv (a := y) (by omega) (by omega)
  have xf : Fit x := small_fit (by omega)
  have yf : Fit y := small_fit (by omega)
  have af : Fit (x + y) := small_fit (by omega)
  have bf : Fit (x - y) := small_fit (by omega)
  have mf : Fit (x * y) := small_fit (by omega)
  have f1 := fromint_run (n := x) (by omega) (by omega)
  have f2 := fromint_run (n := y) (by omega) (by omega)
  have f3 := fromint_run (n := x + y) (by omega) (by omega)
  have f4 := fromint_run (n := x - y) (by omega) (by omega)
  have f5 := fromint_run (n := x * y) (by omega) (by omega)
  have t1 := toint_run xf
  have tt : toT x = .tuple [.int .i64 x, .int .i64 0] := if_pos (by omega)
  rw [tt] at t1
  have o1 := add_fit xf yf af rfl
  have o2 := sub_fit xf yf bf rfl
  have o3 := mul_fit xf yf mf rfl
  have wm : IntKind.i64.wrap (x * y) = x * y := wrap_id (by omega) (by omega)
  have c1 := compare_run xf yf
  have ce : cmpN x y = 0 := by rw [g, cmp_eq]
  rw [ce] at c1
  have g1 : ¬ x < y := by omega
  have g2 : ¬ y < x := by omega
  have e1 := Int.tmod_add_mul_tdiv x y
  have ra : (x.tmod y).natAbs < y.natAbs := by rw [Int.natAbs_tmod]; exact Nat.mod_lt _ (by omega)
  have qa : (x.tdiv y).natAbs ≤ 2147483648 := by
    rw [Int.natAbs_tdiv]; exact Nat.le_trans (Nat.div_le_self _ _) (by omega)
  have n1 := tmod_nn x y
  have wq : IntKind.i64.wrap (x.tdiv y) = x.tdiv y := wrap_id (by omega) (by omega)
  obtain ⟨k1, k2⟩ := emq (x := x) (y := y) (q := x.tdiv y) (r := x.tmod y) h0 (by omega) (by omega) (by omega)
  have d1 := div_fit xf yf h0 k1 k2
  have f6 := fromint_run (n := x.tdiv y) (by omega) (by omega)
  have f7 := fromint_run (n := x.tmod y) (by omega) (by omega)
  have b1 : binv .rem (.int .i64 x) (.int .i64 y) = some (.int .i64 (x.tmod y)) := bin_rem h0
  have b2 : binv .quo (.int .i64 x) (.int .i64 y) = some (.int .i64 (x.tdiv y)) := by rw [bin_quo h0, wq]
  generalize x.tmod y = r0 at *
  generalize x.tdiv y = q0 at *
  generalize itxt (x + y) = AS at *
  generalize itxt (x - y) = BS at *
  generalize itxt (x * y) = MS at *
  rw [run_closed (x := x10) rfl rfl rfl rfl]
  simp (maxSteps := 1000000) (disch := omega) only [go_sem, ↓reduceIte, Nat.reduceEqDiff, Nat.reduceAdd, Nat.reduceSub, Nat.reduceMul, Nat.reduceLT, Nat.reduceLeDiff, reduceCtorEq, Int.reduceToNat, Int.reduceLT, Int.reduceLE, Int.reduceAdd, Int.reduceSub, Int.reduceMul, Int.reduceEq, Int.reduceNe, wrap_id, wrapu_id, wrapb_id, idx_ok, bin_quo, bin_rem, tdiv_id, tmod_id, ps_bptr, x10, sane_run, cv1, cv2, f1, f2, f3, f4, f5, t1, o1, o2, o3, wm, c1, g1, g2, Int.reduceNeg, h0, d1, f6, f7, b1, b2, hr]
set_option maxHeartbeats 1000000 in
theorem mach_gt_Z {x y : Int} (hx : -2147483648 ≤ x ∧ x ≤ 2147483647) (hy : -2147483648 ≤ y ∧ y ≤ 2147483647) (g : y < x) (h0 : y = 0) (h : Heap) (lo : Nat) : (run lib).fn 10 [.int .i32 x, .int .i32 y] h lo = some (.bool true, h) := by
  have hm : (x * y).natAbs ≤ 4611686018427387904 := by
    rw [Int.natAbs_mul]
    exact Nat.mul_le_mul (show x.natAbs ≤ 2147483648 by omega) (show y.natAbs ≤ 2147483648 by omega)
  have cv1 := i32conv (a := x) (by omega) (by omega)
  have cv2 := i32conv (a := y) (by omega) (by omega)
  have xf : Fit x := small_fit (by omega)
  have yf : Fit y := small_fit (by omega)
  have af : Fit (x + y) := small_fit (by omega)
  have bf : Fit (x - y) := small_fit (by omega)
  have mf : Fit (x * y) := small_fit (by omega)
  have f1 := fromint_run (n := x) (by omega) (by omega)
  have f2 := fromint_run (n := y) (by omega) (by omega)
  have f3 := fromint_run (n := x + y) (by omega) (by omega)
  have f4 := fromint_run (n := x - y) (by omega) (by omega)
  have f5 := fromint_run (n := x * y) (by omega) (by omega)
  have t1 := toint_run xf
  have tt : toT x = .tuple [.int .i64 x, .int .i64 0] := if_pos (by omega)
  rw [tt] at t1
  have o1 := add_fit xf yf af rfl
  have o2 := sub_fit xf yf bf rfl
  have o3 := mul_fit xf yf mf rfl
  have wm : IntKind.i64.wrap (x * y) = x * y := wrap_id (by omega) (by omega)
  have c1 := compare_run xf yf
  rw [cmp_more g] at c1
  have g1 : ¬ x < y := by omega
  have g2 : y < x := g
  have d1 : ∀ H lo, (run lib).fn 17 [.str (itxt x), .str (itxt y)] H lo = some (.tuple [.str [], .str [], .int .i64 30], H) := by rw [h0]; exact div_zero xf
  have hz : (y = 0) = True := eq_true h0
  generalize itxt (x + y) = AS at *
  generalize itxt (x - y) = BS at *
  generalize itxt (x * y) = MS at *
  rw [run_closed (x := x10) rfl rfl rfl rfl]
  simp (maxSteps := 1000000) (disch := omega) only [go_sem, ↓reduceIte, Nat.reduceEqDiff, Nat.reduceAdd, Nat.reduceSub, Nat.reduceMul, Nat.reduceLT, Nat.reduceLeDiff, reduceCtorEq, Int.reduceToNat, Int.reduceLT, Int.reduceLE, Int.reduceAdd, Int.reduceSub, Int.reduceMul, Int.reduceEq, Int.reduceNe, wrap_id, wrapu_id, wrapb_id, idx_ok, bin_quo, bin_rem, tdiv_id, tmod_id, ps_bptr, x10, sane_run, cv1, cv2, f1, f2, f3, f4, f5, t1, o1, o2, o3, wm, c1, g1, g2, Int.reduceNeg, d1, hz]
set_option maxHeartbeats 1000000 in
theorem mach_gt_A {x y : Int} (hx : -2147483648 ≤ x ∧ x ≤ 2147483647) (hy : -2147483648 ≤ y ∧ y ≤ 2147483647) (g : y < x) (h0 : y ≠ 0) (hr : x.tmod y < 0) (hp : 0 < y) (h : Heap) (lo : Nat) : (run lib).fn 10 [.int .i32 x, .int .i32 y] h lo = some (.bool true, h) := by
  have hm : (x * y).natAbs ≤ 4611686018427387904 := by
    rw [Int.natAbs_mul]
    exact Nat.mul_le_mul (show x.natAbs ≤ 2147483648 by omega) (show y.natAbs ≤ 2147483648 by omega)
  have cv1 := i32conv (a := x) (by omega) (by omega)
  have cv2 := i32conv (a := y) (by omega) (by omega)
  have xf : Fit x := small_fit (by omega)
  have yf : Fit y := small_fit (by omega)
  have af : Fit (x + y) := small_fit (by omega)
  have bf : Fit (x - y) := small_fit (by omega)
  have mf : Fit (x * y) := small_fit (by omega)
  have f1 := fromint_run (n := x) (by omega) (by omega)
  have f2 := fromint_run (n := y) (by omega) (by omega)
  have f3 := fromint_run (n := x + y) (by omega) (by omega)
  have f4 := fromint_run (n := x - y) (by omega) (by omega)
  have f5 := fromint_run (n := x * y) (by omega) (by omega)
  have t1 := toint_run xf
  have tt : toT x = .tuple [.int .i64 x, .int .i64 0] := if_pos (by omega)
  rw [tt] at t1
  have o1 := add_fit xf yf af rfl
  have o2 := sub_fit xf yf bf rfl
  have o3 := mul_fit xf yf mf rfl
  have wm : IntKind.i64.wrap (x * y) = x * y := wrap_id (by omega) (by omega)
  have c1 := compare_run xf yf
  rw [cmp_more g] at c1
  have g1 : ¬ x < y := by omega
  have g2 : y < x := g
  have e1 := Int.tmod_add_mul_tdiv x y
  have ra : (x.tmod y).natAbs < y.natAbs := by rw [Int.natAbs_tmod]; exact Nat.mod_lt _ (by omega)
  have qa : (x.tdiv y).natAbs ≤ 2147483648 := by
    rw [Int.natAbs_tdiv]; exact Nat.le_trans (Nat.div_le_self _ _) (by omega)
  have n1 := tmod_nn x y
  have wq : IntKind.i64.wrap (x.tdiv y) = x.tdiv y := wrap_id (by omega) (by omega)
  obtain ⟨k1, k2⟩ := emq (x := x) (y := y) (q := x.tdiv y - 1) (r := x.tmod y + y) h0 (by rw [Int.mul_sub, Int.mul_one]; generalize y * x.tdiv y = Z at *; omega) (by omega) (by omega)
  have d1 := div_fit xf yf h0 k1 k2
  have f6 := fromint_run (n := x.tdiv y - 1) (by omega) (by omega)
  have f7 := fromint_run (n := x.tmod y + y) (by omega) (by omega)
  have hr2 : ¬ x.tmod y + y < 0 := by omega
  have b1 : binv .rem (.int .i64 x) (.int .i64 y) = some (.int .i64 (x.tmod y)) := bin_rem h0
  have b2 : binv .quo (.int .i64 x) (.int .i64 y) = some (.int .i64 (x.tdiv y)) := by rw [bin_quo h0, wq]
  generalize x.tmod y = r0 at *
  generalize x.tdiv y = q0 at *
  generalize itxt (x + y) = AS at *
  generalize itxt (x - y) = BS at *
  generalize itxt (x * y) = MS at *
  rw [run_closed (x := x10) rfl rfl rfl rfl]
  simp (maxSteps := 1000000) (disch := omega) only [go_sem, ↓reduceIte, Nat.reduceEqDiff, Nat.reduceAdd, Nat.reduceSub, Nat.reduceMul, Nat.reduceLT, Nat.reduceLeDiff, reduceCtorEq, Int.reduceToNat, Int.reduceLT, Int.reduceLE, Int.reduceAdd, Int.reduceSub, Int.reduceMul, Int.reduceEq, Int.reduceNe, wrap_id, wrapu_id, wrapb_id, idx_ok, bin_quo, bin_rem, tdiv_id, tmod_id, ps_bptr, x10, sane_run, cv1, cv2, f1, f2, f3, f4, f5, t1, o1, o2, o3, wm, c1, g1, g2, Int.reduceNeg, h0, d1, f6, f7, b1, b2, hr, hp, hr2]
set_option maxHeartbeats 1000000 in
theorem mach_gt_B {x y : Int} (hx : -2147483648 ≤ x ∧ x ≤ 2147483647) (hy : -2147483648 ≤ y ∧ y ≤ 2147483647) (g : y < x) (h0 : y ≠ 0) (hr : x.tmod y < 0) (hp : ¬ 0 < y) (h : Heap) (lo : Nat) : (run lib).fn 10 [.int .i32 x, .int .i32 y] h lo = some (.bool true, h) := by
  have hm : (x * y).natAbs ≤ 4611686018427387904 := by
    rw [Int.natAbs_mul]
    exact Nat.mul_le_mul (show x.natAbs ≤ 2147483648 by omega) (show y.natAbs ≤ 2147483648 by omega)
  have cv1 := i32conv (a := x) (by omega) (by omega)
  have cv2 := i32conv (a := y) (by omega) (by omega)
  have xf : Fit x := small_fit (by omega)
  have yf : Fit y := small_fit (by omega)
  have af : Fit (x + y) := small_fit (by omega)
  have bf : Fit (x - y) := small_fit (by omega)
  have mf : Fit (x * y) := small_fit (by omega)
  have f1 := fromint_run (n := x) (by omega) (by omega)
  have f2 := fromint_run (n := y) (by omega) (by omega)
  have f3 := fromint_run (n := x + y) (by omega) (by omega)
  have f4 := fromint_run (n := x - y) (by omega) (by omega)
  have f5 := fromint_run (n := x * y) (by omega) (by omega)
  have t1 := toint_run xf
  have tt : toT x = .tuple [.int .i64 x, .int .i64 0] := if_pos (by omega)
  rw [tt] at t1
  have o1 := add_fit xf yf af rfl
  have o2 := sub_fit xf yf bf rfl
  have o3 := mul_fit xf yf mf rfl
  have wm : IntKind.i64.wrap (x * y) = x * y := wrap_id (by omega) (by omega)
  have c1 := compare_run xf yf
  rw [cmp_more g] at c1
  have g1 : ¬ x < y := by omega
  have g2 : y < x := g
  have e1 := Int.tmod_add_mul_tdiv x y
  have ra : (x.tmod y).natAbs < y.natAbs := by rw [Int.natAbs_tmod]; exact Nat.mod_lt _ (by omega)
  have qa : (x.tdiv y).natAbs ≤ 2147483648 := by
    rw [Int.natAbs_tdiv]; exact Nat.le_trans (Nat.div_le_self _ _) (by omega)
  have n1 := tmod_nn x y
  have wq : IntKind.i64.wrap (x.tdiv y) = x.tdiv y := wrap_id (by omega) (by omega)
  obtain ⟨k1, k2⟩ := emq (x := x) (y := y) (q := x.tdiv y + 1) (r := x.tmod y - y) h0 (by rw [Int.mul_add, Int.mul_one]; generalize y * x.tdiv y = Z at *; omega) (by omega) (by omega)
  have d1 := div_fit xf yf h0 k1 k2
  have f6 := fromint_run (n := x.tdiv y + 1) (by omega) (by omega)
  have f7 := fromint_run (n := x.tmod y - y) (by omega) (by omega)
  have b1 : binv .rem (.int .i64 x) (.int .i64 y) = some (.int .i64 (x.tmod y)) := bin_rem h0
  have b2 : binv .quo (.int .i64 x) (.int .i64 y) = some (.int .i64 (x.tdiv y)) := by rw [bin_quo h0, wq]
  generalize x.tmod y = r0 at *
  generalize x.tdiv y = q0 at *
  generalize itxt (x + y) = AS at *
  generalize itxt (x - y) = BS at *
  generalize itxt (x * y) = MS at *
  rw [run_closed (x := x10) rfl rfl rfl rfl]
  simp (maxSteps := 1000000) (disch := omega) only [go_sem, ↓reduceIte, Nat.reduceEqDiff, Nat.reduceAdd, Nat.reduceSub, Nat.reduceMul, Nat.reduceLT, Nat.reduceLeDiff, reduceCtorEq, Int.reduceToNat, Int.reduceLT, Int.reduceLE, Int.reduceAdd, Int.reduceSub, Int.reduceMul, Int.reduceEq, Int.reduceNe, wrap_id, wrapu_id, wrapb_id, idx_ok, bin_quo, bin_rem, tdiv_id, tmod_id, ps_bptr, x10, sane_run, cv1, cv2, f1, f2, f3, f4, f5, t1, o1, o2, o3, wm, c1, g1, g2, Int.reduceNeg, h0, d1, f6, f7, b1, b2, hr, hp]
set_option maxHeartbeats 1000000 in
theorem mach_gt_C {x y : Int} (hx : -2147483648 ≤ x ∧ x ≤ 2147483647) (hy : -2147483648 ≤ y ∧ y ≤ 2147483647) (g : y < x) (h0 : y ≠ 0) (hr : ¬ x.tmod y < 0) (h : Heap) (lo : Nat) : (run lib).fn 10 [.int .i32 x, .int .i32 y] h lo = some (.bool true, h) := by
  have hm : (x * y).natAbs ≤ 4611686018427387904 := by
    rw [Int.natAbs_mul]
    exact Nat.mul_le_mul (show x.natAbs ≤ 2147483648 by omega) (show y.natAbs ≤ 2147483648 by omega)
  have cv1 := i32conv (a := x) (by omega) (by omega)
  have cv2 := i32conv (a := y) (by omega) (by omega)
  have xf : Fit x := small_fit (by omega)
  have yf : Fit y := small_fit (by omega)
  have af : Fit (x + y) := small_fit (by omega)
  have bf : Fit (x - y) := small_fit (by omega)
  have mf : Fit (x * y) := small_fit (by omega)
  have f1 := fromint_run (n := x) (by omega) (by omega)
  have f2 := fromint_run (n := y) (by omega) (by omega)
  have f3 := fromint_run (n := x + y) (by omega) (by omega)
  have f4 := fromint_run (n := x - y) (by omega) (by omega)
  have f5 := fromint_run (n := x * y) (by omega) (by omega)
  have t1 := toint_run xf
  have tt : toT x = .tuple [.int .i64 x, .int .i64 0] := if_pos (by omega)
  rw [tt] at t1
  have o1 := add_fit xf yf af rfl
  have o2 := sub_fit xf yf bf rfl
  have o3 := mul_fit xf yf mf rfl
  have wm : IntKind.i64.wrap (x * y) = x * y := wrap_id (by omega) (by omega)
  have c1 := compare_run xf yf
  rw [cmp_more g] at c1
  have g1 : ¬ x < y := by omega
  have g2 : y < x := g
  have e1 := Int.tmod_add_mul_tdiv x y
  have ra : (x.tmod y).natAbs < y.natAbs := by rw [Int.natAbs_tmod]; exact Nat.mod_lt _ (by omega)
  have qa : (x.tdiv y).natAbs ≤ 2147483648 := by
    rw [Int.natAbs_tdiv]; exact Nat.le_trans (Nat.div_le_self _ _) (by omega)
  have n1 := tmod_nn x y
  have wq : IntKind.i64.wrap (x.tdiv y) = x.tdiv y := wrap_id (by omega) (by omega)
  obtain ⟨k1, k2⟩ := emq (x := x) (y := y) (q := x.tdiv y) (r := x.tmod y) h0 (by omega) (by omega) (by omega)
  have d1 := div_fit xf yf h0 k1 k2
  have f6 := fromint_run (n := x.tdiv y) (by omega) (by omega)
  have f7 := fromint_run (n := x.tmod y) (by omega) (by omega)
  have b1 : binv .rem (.int .i64 x) (.int .i64 y) = some (.int .i64 (x.tmod y)) := bin_rem h0
  have b2 : binv .quo (.int .i64 x) (.int .i64 y) = some (.int .i64 (x.tdiv y)) := by rw [bin_quo h0, wq]
  generalize x.tmod y = r0 at *
  generalize x.tdiv y = q0 at *
  generalize itxt (x + y) = AS at *
  generalize itxt (x - y) = BS at *
  generalize itxt (x * y) = MS at *
  rw [run_closed (x := x10) rfl rfl rfl rfl]
  simp (maxSteps := 1000000) (disch := omega) only [go_sem, ↓reduceIte, Nat.reduceEqDiff, Nat.reduceAdd, Nat.reduceSub, Nat.reduceMul, Nat.reduceLT, Nat.reduceLeDiff, reduceCtorEq, Int.reduceToNat, Int.reduceLT, Int.reduceLE, Int.reduceAdd, Int.reduceSub, Int.reduceMul, Int.reduceEq, Int.reduceNe, wrap_id, wrapu_id, wrapb_id, idx_ok, bin_quo, bin_rem, tdiv_id, tmod_id, ps_bptr, x10, sane_run, cv1, cv2, f1, f2, f3, f4, f5, t1, o1, o2, o3, wm, c1, g1, g2, Int.reduceNeg, h0, d1, f6, f7, b1, b2, hr]
theorem machine_run {x y : Int} (hx : -2147483648 ≤ x ∧ x ≤ 2147483647) (hy : -2147483648 ≤ y ∧ y ≤ 2147483647) (h : Heap) (lo : Nat) : (run lib).fn 10 [.int .i32 x, .int .i32 y] h lo = some (.bool true, h) := by
  by_cases h0 : y = 0
  · rcases Int.lt_trichotomy x y with g | g | g
    · exact mach_lt_Z hx hy g h0 h lo
    · exact mach_eq_Z hx hy g h0 h lo
    · exact mach_gt_Z hx hy g h0 h lo
  · by_cases hr : x.tmod y < 0
    · by_cases hp : 0 < y
      · rcases Int.lt_trichotomy x y with g | g | g
        · exact mach_lt_A hx hy g h0 hr hp h lo
        · exact mach_eq_A hx hy g h0 hr hp h lo
        · exact mach_gt_A hx hy g h0 hr hp h lo
      · rcases Int.lt_trichotomy x y with g | g | g
        · exact mach_lt_B hx hy g h0 hr hp h lo
        · exact mach_eq_B hx hy g h0 hr hp h lo
        · exact mach_gt_B hx hy g h0 hr hp h lo
    · rcases Int.lt_trichotomy x y with g | g | g
      · exact mach_lt_C hx hy g h0 hr h lo
      · exact mach_eq_C hx hy g h0 hr h lo
      · exact mach_gt_C hx hy g h0 hr h lo
/-! IntegerText -/
theorem itext_run {n : Int} {s : List UInt8} (hn1 : -9223372036854775808 ≤ n) (hn2 : n ≤ 9223372036854775807) (h : Heap) (lo : Nat) : (run lib).fn 11 [.int .i64 n, .str s] h lo = some (.bool true, h) := by
  have nf : Fit n := small_fit (by omega)
  have f1 := fromint_run hn1 hn2
  have t1 := toint_run nf
  have tt : toT n = .tuple [.int .i64 n, .int .i64 0] := if_pos ⟨hn1, hn2⟩
  rw [tt] at t1
  have v1 := valid_run (itxt n)
  rw [validS_itxt nf] at v1
  have em : min (s.length : Int) 30 = ((min s.length 30 : Nat) : Int) := by omega
  have s1 := sstr_to (k := .i64) (l := s) (show min s.length 30 ≤ s.length by omega)
  have hl : (s.take (min s.length 30)).length ≤ 30 := by simp; omega
  generalize s.take (min s.length 30) = u at *
  generalize hN : itxt n = N at *
  cases hv : validS u with
  | false =>
    have t2 := toint_bad (s := u) (by omega) hv
    rw [run_closed (x := x11) rfl rfl rfl rfl]
    simp (maxSteps := 1000000) (disch := omega) only [go_sem, ↓reduceIte, Nat.reduceEqDiff, Nat.reduceAdd, Nat.reduceSub, Nat.reduceMul, Nat.reduceLT, Nat.reduceLeDiff, reduceCtorEq, Int.reduceToNat, Int.reduceLT, Int.reduceLE, Int.reduceAdd, Int.reduceSub, Int.reduceMul, Int.reduceEq, Int.reduceNe, wrap_id, wrapu_id, wrapb_id, idx_ok, bin_quo, bin_rem, tdiv_id, tmod_id, ps_bptr, x11, sane_run, f1, t1, v1, em, s1, t2]
  | true =>
    obtain ⟨hu, zf⟩ := valid_txt hv
    have t2 := toint_run (z := zv u) zf
    have v2 := valid_run u
    rw [hv] at v2
    rw [← hu] at t2
    unfold toT at t2
    by_cases c : -9223372036854775808 ≤ zv u ∧ zv u ≤ 9223372036854775807
    · have f2 := fromint_run c.1 c.2
      rw [← hu] at f2
      simp only [if_pos c] at t2
      generalize zv u = z at *
      rw [run_closed (x := x11) rfl rfl rfl rfl]
      simp (maxSteps := 1000000) (disch := omega) only [go_sem, ↓reduceIte, Nat.reduceEqDiff, Nat.reduceAdd, Nat.reduceSub, Nat.reduceMul, Nat.reduceLT, Nat.reduceLeDiff, reduceCtorEq, Int.reduceToNat, Int.reduceLT, Int.reduceLE, Int.reduceAdd, Int.reduceSub, Int.reduceMul, Int.reduceEq, Int.reduceNe, wrap_id, wrapu_id, wrapb_id, idx_ok, bin_quo, bin_rem, tdiv_id, tmod_id, ps_bptr, x11, sane_run, f1, t1, v1, em, s1, t2, v2, f2]
    · simp only [if_neg c] at t2
      rw [run_closed (x := x11) rfl rfl rfl rfl]
      simp (maxSteps := 1000000) (disch := omega) only [go_sem, ↓reduceIte, Nat.reduceEqDiff, Nat.reduceAdd, Nat.reduceSub, Nat.reduceMul, Nat.reduceLT, Nat.reduceLeDiff, reduceCtorEq, Int.reduceToNat, Int.reduceLT, Int.reduceLE, Int.reduceAdd, Int.reduceSub, Int.reduceMul, Int.reduceEq, Int.reduceNe, wrap_id, wrapu_id, wrapb_id, idx_ok, bin_quo, bin_rem, tdiv_id, tmod_id, ps_bptr, x11, sane_run, f1, t1, v1, em, s1, t2, v2]
def sh10 : List Shp := [.int .i32, .int .i32]
def sh11 : List Shp := [.int .i64, .str]
theorem walk10 (xs : List AV) (ht : TyA sh10 xs) : ∃ h', (run lib).fn 10 xs [] 0 = some (.bool true, h') := by
  simp only [sh10, TyA] at ht
  obtain ⟨c0, r, rfl, t0, c1, r1, rfl, t1, rfl⟩ := ht
  obtain ⟨a, e0, a1⟩ := i32_of' t0
  obtain ⟨b, e1, b1⟩ := i32_of' t1
  rw [e0, e1]
  exact ⟨_, machine_run a1 b1 [] 0⟩
theorem walk11 (xs : List AV) (ht : TyA sh11 xs) : ∃ h', (run lib).fn 11 xs [] 0 = some (.bool true, h') := by
  simp only [sh11, TyA] at ht
  obtain ⟨c0, r, rfl, t0, c1, r1, rfl, t1, rfl⟩ := ht
  obtain ⟨a, e0, a1, a2⟩ := int_of' t0
  obtain ⟨b, e1, b1⟩ := str_of' t1
  rw [e0, e1]
  exact ⟨_, itext_run a1 a2 [] 0⟩
end Go.VI.Integer
