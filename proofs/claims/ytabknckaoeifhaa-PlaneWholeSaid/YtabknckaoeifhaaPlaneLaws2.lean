/-
  The walk of PlaneWhole (chapter 6).
-/
import Derived.Test.YtabknckaoeifhaaPlaneLaws
namespace Go.Proofs.Ytabknckaoeifhaa.Plane
open Go.RowKit Go.Proofs.Ytabknckaoeifhaa.Plain Go.Proofs.Ytabknckaoeifhaa.Flt Ieee
set_option linter.unusedVariables false

def Nan (b : Nat) : Prop := ∃ s f, double.read b = .nan s f
theorem nan_cut (q : Question) (x y t : Nat) (hq : q = .nanBits .f64 x y) : Nan (q.cut t) := by
  subst hq
  obtain ⟨s, f, h⟩ := read_nanBits t
  exact ⟨s, f, h⟩
theorem one_quo (W : World) : Sem.run Try.prog (binOp .quo 32 (.float .f64 4607182418800017408) (.float .f64 0)) W = .ok (.float .f64 9218868437227405312) W :=
  run_float_arith W .quo _ _ _ _ _ (by decide +kernel)
theorem zero_quo (W : World) : ∃ n, Nan n ∧ Sem.run Try.prog (binOp .quo 32 (.float .f64 0) (.float .f64 0)) W = .ok (.float .f64 n) W.drew := by
  have h : FloatKind.f64.format.div 0 0 = none := by decide +kernel
  refine ⟨Question.cut (.nanBits .f64 0 0) (W.tape W.drawn (.nanBits .f64 0 0)), nan_cut _ 0 0 _ rfl, ?_⟩
  simp [binOp, Op.floatArith, h, Question.forced]
theorem sum_nan (W : World) {a b c d r : Nat} (h1 : FloatKind.f64.format.add a c = some r) (h2 : FloatKind.f64.format.add b d = none) :
    ∃ n, Nan n ∧ Sem.run Try.prog (binOp .add 31 (.complex .f64 a b) (.complex .f64 c d)) W = .ok (.complex .f64 r n) W.drew := by
  refine ⟨Question.cut (.nanBits .f64 b d) (W.tape W.drawn (.nanBits .f64 b d)), nan_cut _ b d _ rfl, ?_⟩
  simp [binOp, Op.complexOp, Op.Complex.arith, Op.floatArith, h1, h2, Question.forced]
theorem rep_zero : Rep 0 0 := pt_turn.re
theorem rep_neg0 : Rep 9223372036854775808 0 := ⟨true, 0, -1074, by decide +kernel, .inr ⟨by omega, by rw [show (0 : Int).natAbs = 0 from rfl, Nat.zero_mul]⟩, by omega, fun h => absurd rfl h⟩
theorem rep_half : Rep 4602678819172646912 2 := ⟨false, 4503599627370496, -53, by decide +kernel, .inr ⟨by omega, by decide⟩, by omega, fun _ => by decide⟩
theorem rep_quart : Rep 4598175219545276416 1 := ⟨false, 4503599627370496, -54, by decide +kernel, .inr ⟨by omega, by decide⟩, by omega, fun _ => by decide⟩
theorem read_infty : double.read 9218868437227405312 = .infinity false := by decide +kernel
theorem neg_zero (W : World) : Sem.run Try.prog (Op.unary .neg (.float .f64 0)) W = .ok (.float .f64 9223372036854775808) W := by kernel_rfl
/-- a number and a part of one is none -/
theorem wh_part {b : Nat} {z : Int} (h : Rep b z) (hz : z % 4 ≠ 0) (h1 : -4194304 ≤ z) : ∃ q, Wh b q false := by
  by_cases h2 : z ≤ 4194304
  · exact ⟨_, .part z h hz h1 h2 rfl⟩
  · exact ⟨0, .hi z h (by omega) rfl⟩
theorem add_of {a b : Nat} {y z u : Int} (ha : Rep a y) (hb : Rep b z) (hu : u = y + z) (hs : u.natAbs < 9007199254740992) : ∃ r, floatBits .add .f64 a b = some r ∧ Rep r u :=
  sum_rep ha hb false u (by simpa using hu) hs
/-- the four sums: none of them is a point -/
theorem more0 (W : World) {x y : Int} (h1 : inB x = true) (h2 : inB y = true) : ∃ r s q u o, Sem.run Try.prog (binOp .add 31 (.complex .f64 (floatOfInt .f64 x) (floatOfInt .f64 y)) (.complex .f64 4602678819172646912 0)) W = .ok (.complex .f64 r s) W ∧ Wh r q false ∧ Wh s u o := by
  have g1 := of_decide_eq_true h1
  have g2 := of_decide_eq_true h2
  obtain ⟨r, e1, r1⟩ := add_of (pt_of h1 h2).re rep_half (u := 4 * x + 2) rfl (by omega)
  obtain ⟨s, e2, r2⟩ := add_of (pt_of h1 h2).im rep_zero (u := 4 * y) (by omega) (by omega)
  obtain ⟨q, hq⟩ := wh_part r1 (by omega) (by omega)
  exact ⟨r, s, q, y, true, run_complex_sum W .add (.inl rfl) _ _ _ _ _ _ _ _ (by unfold cSumBits; rw [e1, e2]; rfl), hq, .ok r2 g2.1 g2.2⟩
theorem more1 (W : World) {x y : Int} (h1 : inB x = true) (h2 : inB y = true) : ∃ r s q u o, Sem.run Try.prog (binOp .add 31 (.complex .f64 (floatOfInt .f64 x) (floatOfInt .f64 y)) (.complex .f64 0 4598175219545276416)) W = .ok (.complex .f64 r s) W ∧ Wh s q false ∧ Wh r u o := by
  have g1 := of_decide_eq_true h1
  have g2 := of_decide_eq_true h2
  obtain ⟨r, e1, r1⟩ := add_of (pt_of h1 h2).re rep_zero (u := 4 * x) (by omega) (by omega)
  obtain ⟨s, e2, r2⟩ := add_of (pt_of h1 h2).im rep_quart (u := 4 * y + 1) rfl (by omega)
  obtain ⟨q, hq⟩ := wh_part r2 (by omega) (by omega)
  exact ⟨r, s, q, x, true, run_complex_sum W .add (.inl rfl) _ _ _ _ _ _ _ _ (by unfold cSumBits; rw [e1, e2]; rfl), hq, .ok r1 g1.1 g1.2⟩
theorem more2 (W : World) {x y : Int} (h1 : inB x = true) (h2 : inB y = true) : ∃ r s q u o, Sem.run Try.prog (binOp .add 31 (.complex .f64 (floatOfInt .f64 x) (floatOfInt .f64 y)) (.complex .f64 9218868437227405312 0)) W = .ok (.complex .f64 r s) W ∧ Wh r q false ∧ Wh s u o := by
  have g1 := of_decide_eq_true h1
  have g2 := of_decide_eq_true h2
  obtain ⟨r, e1, r1⟩ := add_inf (pt_of h1 h2).re read_infty
  have e1 : floatBits .add .f64 (floatOfInt .f64 x) 9218868437227405312 = some r := e1
  obtain ⟨s, e2, r2⟩ := add_of (pt_of h1 h2).im rep_zero (u := 4 * y) (by omega) (by omega)
  exact ⟨r, s, 0, y, true, run_complex_sum W .add (.inl rfl) _ _ _ _ _ _ _ _ (by unfold cSumBits; rw [e1, e2]; rfl), .no (.inl ⟨_, r1⟩) rfl, .ok r2 g2.1 g2.2⟩
theorem more3 (W : World) {x y : Int} {n : Nat} (h1 : inB x = true) (h2 : inB y = true) (hn : Nan n) : ∃ r s q u o, Sem.run Try.prog (binOp .add 31 (.complex .f64 (floatOfInt .f64 x) (floatOfInt .f64 y)) (.complex .f64 0 n)) W = .ok (.complex .f64 r s) W.drew ∧ Wh s q false ∧ Wh r u o := by
  have g1 := of_decide_eq_true h1
  obtain ⟨s0, f0, hn⟩ := hn
  obtain ⟨r, e1, r1⟩ := add_of (pt_of h1 h2).re rep_zero (u := 4 * x) (by omega) (by omega)
  obtain ⟨s, ⟨s1, f1, hs⟩, hrun⟩ := sum_nan W e1 (add_nan (pt_of h1 h2).im hn)
  exact ⟨r, s, 0, x, true, hrun, .no (.inr ⟨_, _, hs⟩) rfl, .ok r1 g1.1 g1.2⟩
theorem idx4 (j : Nat) (hj : j < 4) (c0 c1 c2 c3 : Value) (W : World) : Sem.run Try.prog (Instr.index 35 (.agg #[c0, c1, c2, c3]) (.int .i64 (j : Int))) W = .ok (#[c0, c1, c2, c3].getD j undef) W := by
  rcases (by omega : j = 0 ∨ j = 1 ∨ j = 2 ∨ j = 3) with rfl | rfl | rfl | rfl
  all_goals kernel_rfl
set_option maxRecDepth 100000 in
set_option maxHeartbeats 2000000 in
theorem planeWhole (a0 a1 a2 : Int) (w : World) (w0 : (Lit.int .i64 a0).wf = true) (w1 : (Lit.int .i64 a1).wf = true) (w2 : (Lit.int .i64 a2).wf = true) :
    Calls Try.prog 5 #[.int .i64 a0, .int .i64 a1, .int .i64 a2] w fun e w' => e = .returned (.bool true) ∧ Below w.heap.size w w' := by
  obtain ⟨x1, x2⟩ := bounds_i64 w0
  obtain ⟨y1, y2⟩ := bounds_i64 w1
  obtain ⟨z1, z2⟩ := bounds_i64 w2
  go_enter Try.func5, Try.ntmps5
  go_wp2_with fail
  refine (Word.place _ _ _ (by omega) (by omega) (by omega) (by omega)).mono ?_
  rintro e w' ⟨rfl, rfl⟩
  have b0 : -1048576 ≤ a0 % 2097153 - 1048576 := by omega
  have c0 : a0 % 2097153 - 1048576 ≤ 1048576 := by omega
  have d0 : a0 % 2097153 = (a0 % 2097153 - 1048576) + 1048576 := by omega
  rw [d0]
  clear d0
  generalize a0 % 2097153 - 1048576 = x at b0 c0 ⊢
  go_wp2_with fail
  refine (Word.place _ _ _ (by omega) (by omega) (by omega) (by omega)).mono ?_
  rintro e w' ⟨rfl, rfl⟩
  have b1 : -1048576 ≤ a1 % 2097153 - 1048576 := by omega
  have c1 : a1 % 2097153 - 1048576 ≤ 1048576 := by omega
  have d1 : a1 % 2097153 = (a1 % 2097153 - 1048576) + 1048576 := by omega
  rw [d1]
  clear d1
  generalize a1 % 2097153 - 1048576 = y at b1 c1 ⊢
  have HX : Hid (inB x = true) := Lib.hid (inB_of b0 c0)
  have HY : Hid (inB y = true) := Lib.hid (inB_of b1 c1)
  go_wp2_with fail
  refine (of_yes _ (.ok (pt_of HX.out HY.out).re b0 c0) (.ok (pt_of HX.out HY.out).im b1 c1)).mono ?_
  rintro e w' ⟨rfl, rfl⟩
  have q1 := one_quo
  obtain ⟨n, hn, q2⟩ := zero_quo w
  have HN := Lib.hid hn
  clear hn
  go_wp2_with fail
  refine (Word.place _ _ _ (by omega) (by omega) (by omega) (by omega)).mono ?_
  rintro e w' ⟨rfl, rfl⟩
  rcases (by omega : a2 % 4 = 0 ∨ a2 % 4 = 1 ∨ a2 % 4 = 2 ∨ a2 % 4 = 3) with h4 | h4 | h4 | h4 <;> rw [h4] <;> clear h4 q1 q2
  · obtain ⟨r, s, q, u, o, hadd, h1, h2⟩ := more0 w.drew HX.out HY.out
    have H1 := Lib.hid h1
    have H2 := Lib.hid h2
    have i4 := idx4 0 (by omega)
    have i5 : ∀ (c0 c1 c2 c3 : Value) (W : World), Sem.run Try.prog (Instr.index 35 (.agg #[c0, c1, c2, c3]) (.int .i64 0)) W = .ok c0 W := fun c0 c1 c2 c3 W => i4 c0 c1 c2 c3 W
    clear h1 h2 i4
    go_wp2_with fail
    refine (of_no _ H1.out H2.out (.inl rfl)).mono ?_
    rintro e w' ⟨rfl, rfl⟩
    clear hadd i5
    have q3 := neg_zero
    go_wp2_with fail
    refine (of_yes _ (x := 0) (.ok (by exact rep_neg0) (by omega) (by omega)) (.ok (pt_of HX.out HY.out).im b1 c1)).mono ?_
    rintro e w' ⟨rfl, rfl⟩
    go_wp2_with fail
    refine (awake _).mono ?_
    rintro e w' ⟨rfl, rfl⟩
    go_wp2_with fail
    go_ret
    exact ⟨rfl, ((Ext.refl _).drew).below⟩
  · obtain ⟨r, s, q, u, o, hadd, h1, h2⟩ := more1 w.drew HX.out HY.out
    have H1 := Lib.hid h1
    have H2 := Lib.hid h2
    have i4 := idx4 1 (by omega)
    have i5 : ∀ (c0 c1 c2 c3 : Value) (W : World), Sem.run Try.prog (Instr.index 35 (.agg #[c0, c1, c2, c3]) (.int .i64 1)) W = .ok c1 W := fun c0 c1 c2 c3 W => i4 c0 c1 c2 c3 W
    clear h1 h2 i4
    go_wp2_with fail
    refine (of_no _ H2.out H1.out (.inr rfl)).mono ?_
    rintro e w' ⟨rfl, rfl⟩
    clear hadd i5
    have q3 := neg_zero
    go_wp2_with fail
    refine (of_yes _ (x := 0) (.ok (by exact rep_neg0) (by omega) (by omega)) (.ok (pt_of HX.out HY.out).im b1 c1)).mono ?_
    rintro e w' ⟨rfl, rfl⟩
    go_wp2_with fail
    refine (awake _).mono ?_
    rintro e w' ⟨rfl, rfl⟩
    go_wp2_with fail
    go_ret
    exact ⟨rfl, ((Ext.refl _).drew).below⟩
  · obtain ⟨r, s, q, u, o, hadd, h1, h2⟩ := more2 w.drew HX.out HY.out
    have H1 := Lib.hid h1
    have H2 := Lib.hid h2
    have i4 := idx4 2 (by omega)
    have i5 : ∀ (c0 c1 c2 c3 : Value) (W : World), Sem.run Try.prog (Instr.index 35 (.agg #[c0, c1, c2, c3]) (.int .i64 2)) W = .ok c2 W := fun c0 c1 c2 c3 W => i4 c0 c1 c2 c3 W
    clear h1 h2 i4
    go_wp2_with fail
    refine (of_no _ H1.out H2.out (.inl rfl)).mono ?_
    rintro e w' ⟨rfl, rfl⟩
    clear hadd i5
    have q3 := neg_zero
    go_wp2_with fail
    refine (of_yes _ (x := 0) (.ok (by exact rep_neg0) (by omega) (by omega)) (.ok (pt_of HX.out HY.out).im b1 c1)).mono ?_
    rintro e w' ⟨rfl, rfl⟩
    go_wp2_with fail
    refine (awake _).mono ?_
    rintro e w' ⟨rfl, rfl⟩
    go_wp2_with fail
    go_ret
    exact ⟨rfl, ((Ext.refl _).drew).below⟩
  · obtain ⟨r, s, q, u, o, hadd, h1, h2⟩ := more3 w.drew HX.out HY.out HN.out
    have H1 := Lib.hid h1
    have H2 := Lib.hid h2
    have i4 := idx4 3 (by omega)
    have i5 : ∀ (c0 c1 c2 c3 : Value) (W : World), Sem.run Try.prog (Instr.index 35 (.agg #[c0, c1, c2, c3]) (.int .i64 3)) W = .ok c3 W := fun c0 c1 c2 c3 W => i4 c0 c1 c2 c3 W
    clear h1 h2 i4
    go_wp2_with fail
    refine (of_no _ H2.out H1.out (.inr rfl)).mono ?_
    rintro e w' ⟨rfl, rfl⟩
    clear hadd i5
    have q3 := neg_zero
    go_wp2_with fail
    refine (of_yes _ (x := 0) (.ok (by exact rep_neg0) (by omega) (by omega)) (.ok (pt_of HX.out HY.out).im b1 c1)).mono ?_
    rintro e w' ⟨rfl, rfl⟩
    go_wp2_with fail
    refine (awake _).mono ?_
    rintro e w' ⟨rfl, rfl⟩
    go_wp2_with fail
    go_ret
    exact ⟨rfl, ((Ext.refl _).drew.drew).below⟩
end Go.Proofs.Ytabknckaoeifhaa.Plane
