/-
  The walks of PlaneEdges and PlaneLaws (chapter 6).
-/
import Derived.Test.YtabknckaoeifhaaPlane
import Derived.Test.YtabknckaoeifhaaWord
import Derived.Test.YtabknckaoeifhaaShell
namespace Go.Proofs.Ytabknckaoeifhaa.Plane
open Go.RowKit Go.Proofs.Ytabknckaoeifhaa.Plain Go.Proofs.Ytabknckaoeifhaa.Flt
set_option linter.unusedVariables false

theorem norm_as (w : World) (x y : Int) {n : Int} (h1 : inB x = true) (h2 : inB y = true) (e : x * x + y * y = n) : Calls Try.prog 29 #[.int .i64 x, .int .i64 y] w fun e w' => e = .returned (.tuple #[.int .i64 n, .bool true]) ∧ w = w' := by
  subst e; exact norm_y w x y h1 h2
set_option maxRecDepth 100000 in
set_option maxHeartbeats 2000000 in
theorem planeEdges (a0 a1 : Int) (w : World) (w0 : (Lit.int .i64 a0).wf = true) (w1 : (Lit.int .i64 a1).wf = true) :
    Calls Try.prog 9 #[.int .i64 a0, .int .i64 a1] w fun e w' => e = .returned (.bool true) ∧ Below w.heap.size w w' := by
  obtain ⟨x1, x2⟩ := bounds_i64 w0
  obtain ⟨y1, y2⟩ := bounds_i64 w1
  go_enter Try.func9, Try.ntmps9
  go_wp2_with fail
  refine (Word.place _ _ _ (by omega) (by omega) (by omega) (by omega)).mono ?_
  rintro e w' ⟨rfl, rfl⟩
  have xb : 0 ≤ a0 % 1048577 := by omega
  have xc : a0 % 1048577 < 1048577 := by omega
  generalize a0 % 1048577 = x at xb xc ⊢
  go_wp2_with fail
  refine (Word.place _ _ _ (by omega) (by omega) (by omega) (by omega)).mono ?_
  rintro e w' ⟨rfl, rfl⟩
  have yb : 0 ≤ a1 % 1048577 := by omega
  have yc : a1 % 1048577 < 1048577 := by omega
  generalize a1 % 1048577 = y at yb yc ⊢
  go_wp2_with fail
  refine (op1_in _ _ _ _ _ (inB_of (by omega) (by omega)) (inB_of (by omega) (by omega)) (inB_of (by omega) (by omega)) (inB_of (by omega) (by omega)) (x := 1048576) (y := -1048576) (by omega) (by omega) rfl rfl).mono ?_
  rintro e w' ⟨rfl, rfl⟩
  go_wp2_with fail
  by_cases hx : x = 1048576
  · subst hx
    refine (op_none _ _ _ _ _ _ (by decide +kernel)).mono ?_
    rintro e w' ⟨rfl, rfl⟩
    go_wp2_with fail
    refine (op_none _ _ _ _ _ _ (by decide +kernel)).mono ?_
    rintro e w' ⟨rfl, rfl⟩
    go_wp2_with fail
    refine (norm_n _ _ _ (inB_no (by omega))).mono ?_
    rintro e w' ⟨rfl, rfl⟩
    go_wp2_with fail
    refine (norm_as _ _ _ (n := 2199023255552) rfl rfl (by omega)).mono ?_
    rintro e w' ⟨rfl, rfl⟩
    go_wp2_with fail
    refine (turn_in _ _ _ _ 2 (by omega) (by decide +kernel) (inB_of (by omega) (by omega)) (inB_of (by omega) (by omega)) (p := -1048576) (q := -y) rfl).mono ?_
    rintro e w' ⟨rfl, rfl⟩
    go_wp2_with fail
    refine (awake _).mono ?_
    rintro e w' ⟨rfl, rfl⟩
    go_wp2_with fail
    go_ret
    exact ⟨rfl, Below.refl _ _⟩
  · refine (op1_out _ _ _ _ _ (inB_of (by omega) (by omega)) (inB_of (by omega) (by omega)) (inB_of (by omega) (by omega)) (inB_of (by omega) (by omega)) (by rw [inB_no (by omega)]; simp)).mono ?_
    rintro e w' ⟨rfl, rfl⟩
    go_wp2_with fail
    refine (op2_out _ _ _ _ _ (inB_of (by omega) (by omega)) (inB_of (by omega) (by omega)) (inB_of (by omega) (by omega)) (inB_of (by omega) (by omega)) (by rw [inB_no (by omega)]; simp)).mono ?_
    rintro e w' ⟨rfl, rfl⟩
    go_wp2_with fail
    refine (norm_n _ _ _ (inB_no (by omega))).mono ?_
    rintro e w' ⟨rfl, rfl⟩
    go_wp2_with fail
    refine (norm_as _ _ _ (n := 2199023255552) rfl rfl (by omega)).mono ?_
    rintro e w' ⟨rfl, rfl⟩
    go_wp2_with fail
    refine (turn_in _ _ _ _ 2 (by omega) (by decide +kernel) (inB_of (by omega) (by omega)) (inB_of (by omega) (by omega)) (p := -x) (q := -y) rfl).mono ?_
    rintro e w' ⟨rfl, rfl⟩
    go_wp2_with fail
    refine (awake _).mono ?_
    rintro e w' ⟨rfl, rfl⟩
    go_wp2_with fail
    go_ret
    exact ⟨rfl, Below.refl _ _⟩
theorem small {p q : Int} (b1 : -300 ≤ p) (c1 : p ≤ 300) (b2 : -300 ≤ q) (c2 : q ≤ 300) : -90000 ≤ p * q ∧ p * q ≤ 90000 := by
  have a : (p * q).natAbs ≤ 300 * 300 := by rw [Int.natAbs_mul]; exact Nat.mul_le_mul (by omega) (by omega)
  omega
theorem two_squares (a b c d : Int) : (a * c - b * d) * (a * c - b * d) + (a * d + b * c) * (a * d + b * c) = (a * a + b * b) * (c * c + d * d) := by grind
set_option maxRecDepth 100000 in
set_option maxHeartbeats 4000000 in
theorem laws_core (p0 p1 p2 p3 p4 p5 : Int) (b0 : -300 ≤ p0) (c0 : p0 ≤ 300) (b1 : -300 ≤ p1) (c1 : p1 ≤ 300) (b2 : -300 ≤ p2) (c2 : p2 ≤ 300) (b3 : -300 ≤ p3) (c3 : p3 ≤ 300) (b4 : -300 ≤ p4) (c4 : p4 ≤ 300) (b5 : -300 ≤ p5) (c5 : p5 ≤ 300) :
    ∃ X Y M K N T U : Int, Hid (p0 * p2 - p1 * p3 = X ∧ p0 * p3 + p1 * p2 = Y ∧ p0 * p0 + p1 * p1 = M ∧ p2 * p2 + p3 * p3 = K ∧ X * X + Y * Y = N ∧ wrap64 (M * K) = N ∧ p0 * p4 - p1 * p5 = T ∧ p0 * p5 + p1 * p4 = U) ∧
      -180000 ≤ X ∧ X ≤ 180000 ∧ -180000 ≤ Y ∧ Y ≤ 180000 ∧ 0 ≤ M ∧ M ≤ 180000 ∧ -180000 ≤ T ∧ T ≤ 180000 ∧ -180000 ≤ U ∧ U ≤ 180000 := by
  have s00 := small b0 c0 b0 c0
  have s11 := small b1 c1 b1 c1
  have s22 := small b2 c2 b2 c2
  have s33 := small b3 c3 b3 c3
  have s02 := small b0 c0 b2 c2
  have s13 := small b1 c1 b3 c3
  have s03 := small b0 c0 b3 c3
  have s12 := small b1 c1 b2 c2
  have s04 := small b0 c0 b4 c4
  have s15 := small b1 c1 b5 c5
  have s05 := small b0 c0 b5 c5
  have s14 := small b1 c1 b4 c4
  have t0 : 0 ≤ p0 * p0 := by rcases Int.le_total 0 p0 with h | h; exact Int.mul_nonneg h h; exact Int.mul_nonneg_of_nonpos_of_nonpos h h
  have t1 : 0 ≤ p1 * p1 := by rcases Int.le_total 0 p1 with h | h; exact Int.mul_nonneg h h; exact Int.mul_nonneg_of_nonpos_of_nonpos h h
  have key := two_squares p0 p1 p2 p3
  have kb : ((p0 * p0 + p1 * p1) * (p2 * p2 + p3 * p3)).natAbs ≤ 180000 * 180000 := by rw [Int.natAbs_mul]; exact Nat.mul_le_mul (by omega) (by omega)
  refine ⟨_, _, _, _, _, _, _, Lib.hid ⟨rfl, rfl, rfl, rfl, rfl, ?_, rfl, rfl⟩, by omega, by omega, by omega, by omega, by omega, by omega, by omega, by omega, by omega, by omega⟩
  rw [IntWalk.wrap64_in _ ⟨by omega, by omega⟩, key]
theorem share (p0 p1 p2 p3 p4 p5 : Int) : p0 * (p2 + p4) - p1 * (p3 + p5) = (p0 * p2 - p1 * p3) + (p0 * p4 - p1 * p5) ∧ p0 * (p3 + p5) + p1 * (p2 + p4) = (p0 * p3 + p1 * p2) + (p0 * p5 + p1 * p4) := by
  simp only [Int.mul_add]; omega
set_option maxRecDepth 100000 in
set_option maxHeartbeats 4000000 in
theorem planeLaws (a0 a1 a2 a3 a4 a5 : Int) (w : World) (w0 : (Lit.int .i64 a0).wf = true) (w1 : (Lit.int .i64 a1).wf = true) (w2 : (Lit.int .i64 a2).wf = true) (w3 : (Lit.int .i64 a3).wf = true) (w4 : (Lit.int .i64 a4).wf = true) (w5 : (Lit.int .i64 a5).wf = true) :
    Calls Try.prog 8 #[.int .i64 a0, .int .i64 a1, .int .i64 a2, .int .i64 a3, .int .i64 a4, .int .i64 a5] w fun e w' => e = .returned (.bool true) ∧ Below w.heap.size w w' := by
  obtain ⟨x0, y0⟩ := bounds_i64 w0
  obtain ⟨x1, y1⟩ := bounds_i64 w1
  obtain ⟨x2, y2⟩ := bounds_i64 w2
  obtain ⟨x3, y3⟩ := bounds_i64 w3
  obtain ⟨x4, y4⟩ := bounds_i64 w4
  obtain ⟨x5, y5⟩ := bounds_i64 w5
  go_enter Try.func8, Try.ntmps8
  go_wp2_with fail
  refine (Word.place _ _ _ (by omega) (by omega) (by omega) (by omega)).mono ?_
  rintro e w' ⟨rfl, rfl⟩
  have b0 : -300 ≤ a0 % 601 - 300 := by omega
  have c0 : a0 % 601 - 300 ≤ 300 := by omega
  have d0 : a0 % 601 = (a0 % 601 - 300) + 300 := by omega
  rw [d0]
  clear d0
  generalize a0 % 601 - 300 = p0 at b0 c0 ⊢
  go_wp2_with fail
  refine (Word.place _ _ _ (by omega) (by omega) (by omega) (by omega)).mono ?_
  rintro e w' ⟨rfl, rfl⟩
  have b1 : -300 ≤ a1 % 601 - 300 := by omega
  have c1 : a1 % 601 - 300 ≤ 300 := by omega
  have d1 : a1 % 601 = (a1 % 601 - 300) + 300 := by omega
  rw [d1]
  clear d1
  generalize a1 % 601 - 300 = p1 at b1 c1 ⊢
  go_wp2_with fail
  refine (Word.place _ _ _ (by omega) (by omega) (by omega) (by omega)).mono ?_
  rintro e w' ⟨rfl, rfl⟩
  have b2 : -300 ≤ a2 % 601 - 300 := by omega
  have c2 : a2 % 601 - 300 ≤ 300 := by omega
  have d2 : a2 % 601 = (a2 % 601 - 300) + 300 := by omega
  rw [d2]
  clear d2
  generalize a2 % 601 - 300 = p2 at b2 c2 ⊢
  go_wp2_with fail
  refine (Word.place _ _ _ (by omega) (by omega) (by omega) (by omega)).mono ?_
  rintro e w' ⟨rfl, rfl⟩
  have b3 : -300 ≤ a3 % 601 - 300 := by omega
  have c3 : a3 % 601 - 300 ≤ 300 := by omega
  have d3 : a3 % 601 = (a3 % 601 - 300) + 300 := by omega
  rw [d3]
  clear d3
  generalize a3 % 601 - 300 = p3 at b3 c3 ⊢
  go_wp2_with fail
  refine (Word.place _ _ _ (by omega) (by omega) (by omega) (by omega)).mono ?_
  rintro e w' ⟨rfl, rfl⟩
  have b4 : -300 ≤ a4 % 601 - 300 := by omega
  have c4 : a4 % 601 - 300 ≤ 300 := by omega
  have d4 : a4 % 601 = (a4 % 601 - 300) + 300 := by omega
  rw [d4]
  clear d4
  generalize a4 % 601 - 300 = p4 at b4 c4 ⊢
  go_wp2_with fail
  refine (Word.place _ _ _ (by omega) (by omega) (by omega) (by omega)).mono ?_
  rintro e w' ⟨rfl, rfl⟩
  have b5 : -300 ≤ a5 % 601 - 300 := by omega
  have c5 : a5 % 601 - 300 ≤ 300 := by omega
  have d5 : a5 % 601 = (a5 % 601 - 300) + 300 := by omega
  rw [d5]
  clear d5
  generalize a5 % 601 - 300 = p5 at b5 c5 ⊢
  obtain ⟨X, Y, M, K, N, T, U, HE, X1, X2, Y1, Y2, M1, M2, T1, T2, U1, U2⟩ := laws_core p0 p1 p2 p3 p4 p5 b0 c0 b1 c1 b2 c2 b3 c3 b4 c4 b5 c5
  go_wp2_with fail
  refine (op3_in _ _ _ _ _ (inB_of (by omega) (by omega)) (inB_of (by omega) (by omega)) (inB_of (by omega) (by omega)) (inB_of (by omega) (by omega)) (x := X) (y := Y) HE.out.1 HE.out.2.1 (inB_of (by omega) (by omega)) (inB_of (by omega) (by omega))).mono ?_
  rintro e w' ⟨rfl, rfl⟩
  go_wp2_with fail
  refine (op3_in _ _ _ _ _ (inB_of (by omega) (by omega)) (inB_of (by omega) (by omega)) (inB_of (by omega) (by omega)) (inB_of (by omega) (by omega)) (x := X) (y := Y) (by rw [← HE.out.1, Int.mul_comm p2, Int.mul_comm p3]) (by rw [← HE.out.2.1, Int.mul_comm p2, Int.mul_comm p3]; omega) (inB_of (by omega) (by omega)) (inB_of (by omega) (by omega))).mono ?_
  rintro e w' ⟨rfl, rfl⟩
  go_wp2_with fail
  refine (norm_as _ _ _ (n := M) (inB_of (by omega) (by omega)) (inB_of (by omega) (by omega)) HE.out.2.2.1).mono ?_
  rintro e w' ⟨rfl, rfl⟩
  go_wp2_with fail
  refine (norm_as _ _ _ (n := K) (inB_of (by omega) (by omega)) (inB_of (by omega) (by omega)) HE.out.2.2.2.1).mono ?_
  rintro e w' ⟨rfl, rfl⟩
  go_wp2_with fail
  refine (norm_as _ _ _ (n := N) (inB_of (by omega) (by omega)) (inB_of (by omega) (by omega)) HE.out.2.2.2.2.1).mono ?_
  rintro e w' ⟨rfl, rfl⟩
  have hmk := HE.out.2.2.2.2.2.1
  go_wp2_with fail
  clear hmk
  refine (op1_in _ _ _ _ _ (inB_of (by omega) (by omega)) (inB_of (by omega) (by omega)) (inB_of (by omega) (by omega)) (inB_of (by omega) (by omega)) (x := p2 + p4) (y := p3 + p5) rfl rfl (inB_of (by omega) (by omega)) (inB_of (by omega) (by omega))).mono ?_
  rintro e w' ⟨rfl, rfl⟩
  go_wp2_with fail
  refine (op3_in _ _ _ _ _ (inB_of (by omega) (by omega)) (inB_of (by omega) (by omega)) (inB_of (by omega) (by omega)) (inB_of (by omega) (by omega)) (x := X + T) (y := Y + U) (by rw [(share p0 p1 p2 p3 p4 p5).1, HE.out.1, HE.out.2.2.2.2.2.2.1]) (by rw [(share p0 p1 p2 p3 p4 p5).2, HE.out.2.1, HE.out.2.2.2.2.2.2.2]) (inB_of (by omega) (by omega)) (inB_of (by omega) (by omega))).mono ?_
  rintro e w' ⟨rfl, rfl⟩
  go_wp2_with fail
  refine (op3_in _ _ _ _ _ (inB_of (by omega) (by omega)) (inB_of (by omega) (by omega)) (inB_of (by omega) (by omega)) (inB_of (by omega) (by omega)) (x := T) (y := U) HE.out.2.2.2.2.2.2.1 HE.out.2.2.2.2.2.2.2 (inB_of (by omega) (by omega)) (inB_of (by omega) (by omega))).mono ?_
  rintro e w' ⟨rfl, rfl⟩
  go_wp2_with fail
  refine (op1_in _ _ _ _ _ (inB_of (by omega) (by omega)) (inB_of (by omega) (by omega)) (inB_of (by omega) (by omega)) (inB_of (by omega) (by omega)) (x := X + T) (y := Y + U) rfl rfl (inB_of (by omega) (by omega)) (inB_of (by omega) (by omega))).mono ?_
  rintro e w' ⟨rfl, rfl⟩
  go_wp2_with fail
  refine (turn_in _ _ _ _ 1 (by omega) (by decide +kernel) (inB_of (by omega) (by omega)) (inB_of (by omega) (by omega)) (p := -p1) (q := p0) rfl).mono ?_
  rintro e w' ⟨rfl, rfl⟩
  go_wp2_with fail
  refine (op3_in _ _ _ _ _ (inB_of (by omega) (by omega)) (inB_of (by omega) (by omega)) (inB_of (by omega) (by omega)) (inB_of (by omega) (by omega)) (x := -p1) (y := p0) (by omega) (by omega) (inB_of (by omega) (by omega)) (inB_of (by omega) (by omega))).mono ?_
  rintro e w' ⟨rfl, rfl⟩
  go_wp2_with fail
  refine (turn_in _ _ _ _ 0 (by omega) (by decide +kernel) (inB_of (by omega) (by omega)) (inB_of (by omega) (by omega)) (p := p0) (q := p1) rfl).mono ?_
  rintro e w' ⟨rfl, rfl⟩
  go_wp2_with fail
  refine (op4_in _ _ _ _ _ (inB_of (by omega) (by omega)) (inB_of (by omega) (by omega)) (inB_of (by omega) (by omega)) (inB_of (by omega) (by omega)) (x := M) (y := 0) (by rw [← HE.out.2.2.1, Int.mul_neg]; omega) (by rw [Int.mul_neg, Int.mul_comm p1]; omega) (inB_of (by omega) (by omega)) (inB_of (by omega) (by omega))).mono ?_
  rintro e w' ⟨rfl, rfl⟩
  go_wp2_with fail
  refine (awake _).mono ?_
  rintro e w' ⟨rfl, rfl⟩
  go_wp2_with fail
  go_ret
  exact ⟨rfl, ((Ext.refl _).alloc _).below⟩
end Go.Proofs.Ytabknckaoeifhaa.Plane
