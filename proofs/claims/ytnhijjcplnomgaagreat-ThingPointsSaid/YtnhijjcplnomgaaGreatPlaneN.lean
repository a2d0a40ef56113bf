/-
  Contracts of package plane (chapter 6): points as complex numbers.
-/
import Derived.Test.YtnhijjcplnomgaaGreatRows
import Derived.Test.YtnhijjcplnomgaaGreatExt
import Derived.Test.YtnhijjcplnomgaaGreatFlt
import Derived.Lib.Hide
import Derived.WalkLawsBesides
namespace Go.Proofs.YtnhijjcplnomgaaGreat.Plane
open Go.RowKit Go.Proofs.YtnhijjcplnomgaaGreat.Plain Go.Proofs.YtnhijjcplnomgaaGreat.Flt Ieee
set_option linter.unusedVariables false

theorem rep_lo : Rep 13920626448202203136 (-4194304) := by
  have h := ofInt_rep (-1048576) (by decide)
  have e : floatOfInt .f64 (-1048576) = 13920626448202203136 := by decide +kernel
  rw [e] at h; exact h
theorem rep_hi : Rep 4697254411347427328 4194304 := by
  have h := ofInt_rep 1048576 (by decide)
  have e : floatOfInt .f64 1048576 = 4697254411347427328 := by decide +kernel
  rw [e] at h; exact h
theorem cmp_ge {y z : Int} (h : z ≤ y) : (some (compare y z) == some Ordering.gt || some (compare y z) == some Ordering.eq) = true := by
  simp only [compare, compareOfLessAndEq]
  by_cases e : y = z
  · subst e; simp
  · have : ¬ y < z := by omega
    simp [this, e]
theorem cmp_le {y z : Int} (h : y ≤ z) : (some (compare y z) == some Ordering.lt || some (compare y z) == some Ordering.eq) = true := by
  simp only [compare, compareOfLessAndEq]
  by_cases e : y = z
  · subst e; simp
  · have : y < z := by omega
    simp [this]
theorem cmp_nge {y z : Int} (h : y < z) : (some (compare y z) == some Ordering.gt || some (compare y z) == some Ordering.eq) = false := by
  simp only [compare, compareOfLessAndEq]
  simp [h]
theorem cmp_nle {y z : Int} (h : z < y) : (some (compare y z) == some Ordering.lt || some (compare y z) == some Ordering.eq) = false := by
  simp only [compare, compareOfLessAndEq]
  have h1 : ¬ y < z := by omega
  have h2 : ¬ y = z := by omega
  simp [h1, h2]
theorem cmp_eq (y z : Int) : (some (compare y z) == some Ordering.eq) = decide (y = z) := by
  simp only [compare, compareOfLessAndEq]
  by_cases e : y = z
  · subst e; simp
  · by_cases h : y < z <;> simp [h, e]
def ordr (a b : Nat) : Option Ordering := FloatKind.f64.format.order a b
theorem ordr_rep {a b : Nat} {y z : Int} (ha : Rep a y) (hb : Rep b z) : FloatKind.f64.format.order a b = some (compare y z) := order_rep ha hb
theorem whole_in (w : World) {b : Nat} {z : Int} (hb : Rep b z) (h1 : -4194304 ≤ z) (h2 : z ≤ 4194304) :
    Calls Tryz.prog 152 #[.float .f64 b] w fun e w' => e = .returned (.tuple #[.int .i64 (z.tdiv 4), .bool (decide (z % 4 = 0))]) ∧ w = w' := by
  have o1 : (FloatKind.f64.format.order b 13920626448202203136 == some .gt || FloatKind.f64.format.order b 13920626448202203136 == some .eq) = true := by rw [ordr_rep hb rep_lo]; exact cmp_ge h1
  have o2 : (FloatKind.f64.format.order b 4697254411347427328 == some .lt || FloatKind.f64.format.order b 4697254411347427328 == some .eq) = true := by rw [ordr_rep hb rep_hi]; exact cmp_le h2
  have hcv : ∀ W : World, Sem.run Tryz.prog (convert 175 3 (.float .f64 b)) W = .ok (.int .i64 (z.tdiv 4)) W := fun W => run_convert_float_int W _ _ _ _ _ _ (by kernel_rfl) Tryz.underlying3 (toInt_rep hb (by omega) (by omega))
  have hr := tdiv4 z
  have o3 : (FloatKind.f64.format.order (floatOfInt .f64 (z.tdiv 4)) b == some .eq) = decide (z % 4 = 0) := by
    rw [ordr_rep (ofInt_rep (z.tdiv 4) (by omega)) hb, cmp_eq]
    congr 1; rw [eq_iff_iff]; exact hr.2.2
  generalize z.tdiv 4 = q at hcv o3 ⊢
  generalize decide (z % 4 = 0) = ok at o3 ⊢
  clear hr hb
  go_enter Tryz.func152, Tryz.ntmps152
  go_wp2
  go_ret2
  exact ⟨rfl, rfl⟩
theorem whole_lo (w : World) {b : Nat} {z : Int} (hb : Rep b z) (h1 : z < -4194304) :
    Calls Tryz.prog 152 #[.float .f64 b] w fun e w' => e = .returned (.tuple #[.int .i64 0, .bool false]) ∧ w = w' := by
  have o1 : (FloatKind.f64.format.order b 13920626448202203136 == some .gt || FloatKind.f64.format.order b 13920626448202203136 == some .eq) = false := by rw [ordr_rep hb rep_lo]; exact cmp_nge h1
  clear hb
  go_enter Tryz.func152, Tryz.ntmps152
  go_wp2
  go_ret2
  exact ⟨rfl, rfl⟩
theorem whole_hi (w : World) {b : Nat} {z : Int} (hb : Rep b z) (h1 : 4194304 < z) :
    Calls Tryz.prog 152 #[.float .f64 b] w fun e w' => e = .returned (.tuple #[.int .i64 0, .bool false]) ∧ w = w' := by
  have o1 : (FloatKind.f64.format.order b 13920626448202203136 == some .gt || FloatKind.f64.format.order b 13920626448202203136 == some .eq) = true := by rw [ordr_rep hb rep_lo]; exact cmp_ge (by omega)
  have o2 : (FloatKind.f64.format.order b 4697254411347427328 == some .lt || FloatKind.f64.format.order b 4697254411347427328 == some .eq) = false := by rw [ordr_rep hb rep_hi]; exact cmp_nle h1
  clear hb
  go_enter Tryz.func152, Tryz.ntmps152
  go_wp2
  go_ret2
  exact ⟨rfl, rfl⟩
theorem whole_none (w : World) {b : Nat} (hb : NoNum b) :
    Calls Tryz.prog 152 #[.float .f64 b] w fun e w' => e = .returned (.tuple #[.int .i64 0, .bool false]) ∧ w = w' := by
  have e0 : ∀ c, FloatKind.f64.format.order b c = double.order b c := fun _ => rfl
  rcases hb with ⟨s, hb⟩ | ⟨s, f, hb⟩
  · cases s
    · have o1 : (FloatKind.f64.format.order b 13920626448202203136 == some .gt || FloatKind.f64.format.order b 13920626448202203136 == some .eq) = true := by rw [e0, order_inf rep_lo hb]; rfl
      have o2 : (FloatKind.f64.format.order b 4697254411347427328 == some .lt || FloatKind.f64.format.order b 4697254411347427328 == some .eq) = false := by rw [e0, order_inf rep_hi hb]; rfl
      clear hb e0
      go_enter Tryz.func152, Tryz.ntmps152
      go_wp2
      go_ret2
      exact ⟨rfl, rfl⟩
    · have o1 : (FloatKind.f64.format.order b 13920626448202203136 == some .gt || FloatKind.f64.format.order b 13920626448202203136 == some .eq) = false := by rw [e0, order_inf rep_lo hb]; rfl
      clear hb e0
      go_enter Tryz.func152, Tryz.ntmps152
      go_wp2
      go_ret2
      exact ⟨rfl, rfl⟩
  · have o1 : (FloatKind.f64.format.order b 13920626448202203136 == some .gt || FloatKind.f64.format.order b 13920626448202203136 == some .eq) = false := by rw [e0, order_nan rep_lo hb]; rfl
    clear hb e0
    go_enter Tryz.func152, Tryz.ntmps152
    go_wp2
    go_ret2
    exact ⟨rfl, rfl⟩
/-- what 'whole' says of bits -/
inductive Wh (b : Nat) (q : Int) : Bool → Prop
  | ok : Rep b (4 * q) → -1048576 ≤ q → q ≤ 1048576 → Wh b q true
  | part (z : Int) : Rep b z → z % 4 ≠ 0 → -4194304 ≤ z → z ≤ 4194304 → q = z.tdiv 4 → Wh b q false
  | lo (z : Int) : Rep b z → z < -4194304 → q = 0 → Wh b q false
  | hi (z : Int) : Rep b z → 4194304 < z → q = 0 → Wh b q false
  | no : NoNum b → q = 0 → Wh b q false
theorem whole_as (w : World) {b : Nat} {q : Int} {ok : Bool} (h : Wh b q ok) :
    Calls Tryz.prog 152 #[.float .f64 b] w fun e w' => e = .returned (.tuple #[.int .i64 q, .bool ok]) ∧ w = w' := by
  cases h with
  | ok hb h1 h2 =>
    have := whole_in w hb (by omega) (by omega)
    rw [Int.mul_tdiv_cancel_left _ (by omega), decide_eq_true (by omega)] at this
    exact this
  | part z hb hn h1 h2 e =>
    have := whole_in w hb h1 h2
    rw [decide_eq_false hn, ← e] at this
    exact this
  | lo z hb h e => subst e; exact whole_lo w hb h
  | hi z hb h e => subst e; exact whole_hi w hb h
  | no hb e => subst e; exact whole_none w hb
theorem of_yes (w : World) {a b : Nat} {x y : Int} (ha : Wh a x true) (hb : Wh b y true) :
    Calls Tryz.prog 136 #[.complex .f64 a b] w fun e w' => e = .returned (.tuple #[.int .i64 x, .int .i64 y, .bool true]) ∧ w = w' := by
  have HA := Lib.hid ha
  have HB := Lib.hid hb
  clear ha hb
  go_enter Tryz.func136, Tryz.ntmps136
  go_wp2_with fail
  refine (whole_as _ HA.out).mono ?_
  rintro e w1 ⟨rfl, rfl⟩
  go_wp2_with fail
  refine (whole_as _ HB.out).mono ?_
  rintro e w1 ⟨rfl, rfl⟩
  go_wp2_with fail
  go_ret3
  exact ⟨rfl, rfl⟩
theorem of_no (w : World) {a b : Nat} {x y : Int} {i o : Bool} (ha : Wh a x i) (hb : Wh b y o) (h : i = false ∨ o = false) :
    Calls Tryz.prog 136 #[.complex .f64 a b] w fun e w' => e = .returned (.tuple #[.int .i64 0, .int .i64 0, .bool false]) ∧ w = w' := by
  have HA := Lib.hid ha
  have HB := Lib.hid hb
  clear ha hb
  cases i
  · go_enter Tryz.func136, Tryz.ntmps136
    go_wp2_with fail
    refine (whole_as _ HA.out).mono ?_
    rintro e w1 ⟨rfl, rfl⟩
    go_wp2_with fail
    refine (whole_as _ HB.out).mono ?_
    rintro e w1 ⟨rfl, rfl⟩
    go_wp2_with fail
    go_ret3
    exact ⟨rfl, rfl⟩
  · cases o
    · clear h
      go_enter Tryz.func136, Tryz.ntmps136
      go_wp2_with fail
      refine (whole_as _ HA.out).mono ?_
      rintro e w1 ⟨rfl, rfl⟩
      go_wp2_with fail
      refine (whole_as _ HB.out).mono ?_
      rintro e w1 ⟨rfl, rfl⟩
      go_wp2_with fail
      go_ret3
      exact ⟨rfl, rfl⟩
    · simp at h
/-- a point that is within, or none -/
def inB (v : Int) : Bool := decide (-1048576 ≤ v ∧ v ≤ 1048576)
def ptV (x y : Int) : Value := if inB x && inB y then .tuple #[.int .i64 x, .int .i64 y, .bool true] else .tuple #[.int .i64 0, .int .i64 0, .bool false]
theorem wh_of {b : Nat} {x : Int} (h : Rep b (4 * x)) : ∃ q, Wh b q (inB x) ∧ (inB x = true → q = x) := by
  by_cases h1 : -1048576 ≤ x ∧ x ≤ 1048576
  · have e : inB x = true := decide_eq_true h1
    rw [e]; exact ⟨x, .ok h h1.1 h1.2, fun _ => rfl⟩
  · have e : inB x = false := decide_eq_false h1
    rw [e]
    refine ⟨0, ?_, fun h => by cases h⟩
    by_cases h2 : x < -1048576
    · exact .lo _ h (by omega) rfl
    · exact .hi _ h (by omega) rfl
theorem of_pt (w : World) {a b : Nat} {x y : Int} (ha : Rep a (4 * x)) (hb : Rep b (4 * y)) :
    Calls Tryz.prog 136 #[.complex .f64 a b] w fun e w' => e = .returned (ptV x y) ∧ w = w' := by
  obtain ⟨q, h1, h2⟩ := wh_of ha
  obtain ⟨r, k1, k2⟩ := wh_of hb
  unfold ptV
  cases e1 : inB x <;> cases e2 : inB y <;> rw [e1] at h1 h2 <;> rw [e2] at k1 k2
  · exact of_no w h1 k1 (.inl rfl)
  · exact of_no w h1 k1 (.inl rfl)
  · exact of_no w h1 k1 (.inr rfl)
  · obtain rfl := h2 rfl
    obtain rfl := k2 rfl
    exact of_yes w h1 k1
theorem lof (w : World) (x y : Int) : Calls Tryz.prog 135 #[.int .i64 x, .int .i64 y] w fun e w' => e = .returned (.complex .f64 (floatOfInt .f64 x) (floatOfInt .f64 y)) ∧ w = w' := by
  go_enter Tryz.func135, Tryz.ntmps135
  go_wp2
  go_ret
  exact ⟨rfl, rfl⟩
theorem is_y (w : World) (v : Int) (h : inB v = true) : Calls Tryz.prog 126 #[.int .i64 v] w fun e w' => e = .returned (.bool true) ∧ w = w' := by
  have h' := of_decide_eq_true h
  obtain ⟨a, b⟩ := h'
  clear h
  go_enter Tryz.func126, Tryz.ntmps126
  go_wp2
  go_ret
  exact ⟨rfl, rfl⟩
theorem is_n (w : World) (v : Int) (h : inB v = false) : Calls Tryz.prog 126 #[.int .i64 v] w fun e w' => e = .returned (.bool false) ∧ w = w' := by
  have h' := of_decide_eq_false h
  clear h
  by_cases h1 : -1048576 ≤ v
  · have d1 : decide (-1048576 ≤ v) = true := by simpa using h1
    have d2 : decide (v ≤ 1048576) = false := by simp; omega
    clear h'
    go_enter Tryz.func126, Tryz.ntmps126
    go_wp2
    go_ret
    exact ⟨rfl, rfl⟩
  · have d1 : decide (-1048576 ≤ v) = false := by simp; omega
    clear h'
    go_enter Tryz.func126, Tryz.ntmps126
    go_wp2
    go_ret
    exact ⟨rfl, rfl⟩
/-! ### sums and products of points -/
structure Pt (a b : Nat) (x y : Int) : Prop where
  re : Rep a (4 * x)
  im : Rep b (4 * y)
def Near (n : Int) : Prop := -281474976710656 ≤ n ∧ n ≤ 281474976710656
theorem fsum {a b : Nat} {x y : Int} (ha : Rep a (4 * x)) (hb : Rep b (4 * y)) (h : Near (x + y)) : ∃ r, floatBits .add .f64 a b = some r ∧ Rep r (4 * (x + y)) := by
  obtain ⟨h1, h2⟩ := h
  exact sum_rep ha hb false (4 * (x + y)) (by simp; omega) (by omega)
theorem fdif {a b : Nat} {x y : Int} (ha : Rep a (4 * x)) (hb : Rep b (4 * y)) (h : Near (x - y)) : ∃ r, floatBits .sub .f64 a b = some r ∧ Rep r (4 * (x - y)) := by
  obtain ⟨h1, h2⟩ := h
  exact sum_rep ha hb true (4 * (x - y)) (by simp; omega) (by omega)
theorem fmul {a b : Nat} {x y : Int} (ha : Rep a (4 * x)) (hb : Rep b (4 * y)) (h : Near (x * y)) : ∃ r, floatBits .mul .f64 a b = some r ∧ Rep r (4 * (x * y)) := by
  obtain ⟨h1, h2⟩ := h
  exact mul_rep ha hb (by omega)
theorem psum {a b c d : Nat} {x y u v : Int} (p : Pt a b x y) (q : Pt c d u v) (h1 : Near (x + u)) (h2 : Near (y + v)) :
    ∃ r s, (∀ W : World, Sem.run Tryz.prog (binOp .add 166 (.complex .f64 a b) (.complex .f64 c d)) W = .ok (.complex .f64 r s) W) ∧ Pt r s (x + u) (y + v) := by
  obtain ⟨r, e1, r1⟩ := fsum p.re q.re h1
  obtain ⟨s, e2, r2⟩ := fsum p.im q.im h2
  exact ⟨r, s, fun W => run_complex_sum W .add (.inl rfl) _ _ _ _ _ _ _ _ (by unfold cSumBits; rw [e1, e2]; rfl), r1, r2⟩
theorem pdif {a b c d : Nat} {x y u v : Int} (p : Pt a b x y) (q : Pt c d u v) (h1 : Near (x - u)) (h2 : Near (y - v)) :
    ∃ r s, (∀ W : World, Sem.run Tryz.prog (binOp .sub 166 (.complex .f64 a b) (.complex .f64 c d)) W = .ok (.complex .f64 r s) W) ∧ Pt r s (x - u) (y - v) := by
  obtain ⟨r, e1, r1⟩ := fdif p.re q.re h1
  obtain ⟨s, e2, r2⟩ := fdif p.im q.im h2
  exact ⟨r, s, fun W => run_complex_sum W .sub (.inr rfl) _ _ _ _ _ _ _ _ (by unfold cSumBits; rw [e1, e2]; rfl), r1, r2⟩
theorem pmul {a b c d : Nat} {x y u v : Int} (p : Pt a b x y) (q : Pt c d u v) (h1 : Near (x * u)) (h2 : Near (y * v)) (h3 : Near (x * u - y * v)) (h4 : Near (x * v)) (h5 : Near (y * u)) (h6 : Near (x * v + y * u)) :
    ∃ r s, (∀ W : World, Sem.run Tryz.prog (binOp .mul 166 (.complex .f64 a b) (.complex .f64 c d)) W = .ok (.complex .f64 r s) W) ∧ Pt r s (x * u - y * v) (x * v + y * u) := by
  obtain ⟨r1, e1, k1⟩ := fmul p.re q.re h1
  obtain ⟨r2, e2, k2⟩ := fmul p.im q.im h2
  obtain ⟨r3, e3, k3⟩ := fdif k1 k2 h3
  obtain ⟨r4, e4, k4⟩ := fmul p.re q.im h4
  obtain ⟨r5, e5, k5⟩ := fmul p.im q.re h5
  obtain ⟨r6, e6, k6⟩ := fsum k4 k5 h6
  exact ⟨r3, r6, fun W => run_complex_mul W _ _ _ _ _ _ _ (by unfold cMulBits; simp only [e1, e2, e3, e4, e5, e6, Option.bind_some]), k3, k6⟩
theorem pt_of {x y : Int} (hx : inB x = true) (hy : inB y = true) : Pt (floatOfInt .f64 x) (floatOfInt .f64 y) x y := by
  have h1 := of_decide_eq_true hx
  have h2 := of_decide_eq_true hy
  exact ⟨ofInt_rep x (by omega), ofInt_rep y (by omega)⟩
theorem prod_bd {x y : Int} (hx : inB x = true) (hy : inB y = true) : -1099511627776 ≤ x * y ∧ x * y ≤ 1099511627776 := by
  have h1 := of_decide_eq_true hx
  have h2 := of_decide_eq_true hy
  have a : (x * y).natAbs ≤ 1048576 * 1048576 := by rw [Int.natAbs_mul]; exact Nat.mul_le_mul (by omega) (by omega)
  omega
theorem inB_neg {x : Int} (h : inB x = true) : inB (-x) = true := by
  have h1 := of_decide_eq_true h
  exact decide_eq_true (by omega)
set_option maxRecDepth 100000 in
set_option maxHeartbeats 1000000 in
theorem op_none (w : World) (op a b c d : Int) (h : (inB a && inB b && inB c && inB d) = false) :
    Calls Tryz.prog 108 #[.int .i64 op, .int .i64 a, .int .i64 b, .int .i64 c, .int .i64 d] w fun e w' => e = .returned (.tuple #[.int .i64 0, .int .i64 0, .bool false]) ∧ w = w' := by
  cases h1 : inB a with
  | false =>
    have H1 := Lib.hid h1
    clear h h1
    go_enter Tryz.func108, Tryz.ntmps108
    go_wp2_with fail
    refine (is_n _ _ H1.out).mono ?_
    rintro e w1 ⟨rfl, rfl⟩
    go_wp2_with fail
    go_ret3
    exact ⟨rfl, rfl⟩
  | true =>
    cases h2 : inB b with
    | false =>
      have H1 := Lib.hid h1
      have H2 := Lib.hid h2
      clear h h1 h2
      go_enter Tryz.func108, Tryz.ntmps108
      go_wp2_with fail
      refine (is_y _ _ H1.out).mono ?_
      rintro e w1 ⟨rfl, rfl⟩
      go_wp2_with fail
      refine (is_n _ _ H2.out).mono ?_
      rintro e w1 ⟨rfl, rfl⟩
      go_wp2_with fail
      go_ret3
      exact ⟨rfl, rfl⟩
    | true =>
      cases h3 : inB c with
      | false =>
        have H1 := Lib.hid h1
        have H2 := Lib.hid h2
        have H3 := Lib.hid h3
        clear h h1 h2 h3
        go_enter Tryz.func108, Tryz.ntmps108
        go_wp2_with fail
        refine (is_y _ _ H1.out).mono ?_
        rintro e w1 ⟨rfl, rfl⟩
        go_wp2_with fail
        refine (is_y _ _ H2.out).mono ?_
        rintro e w1 ⟨rfl, rfl⟩
        go_wp2_with fail
        refine (is_n _ _ H3.out).mono ?_
        rintro e w1 ⟨rfl, rfl⟩
        go_wp2_with fail
        go_ret3
        exact ⟨rfl, rfl⟩
      | true =>
        have h4 : inB d = false := by rw [h1, h2, h3] at h; simpa using h
        have H1 := Lib.hid h1
        have H2 := Lib.hid h2
        have H3 := Lib.hid h3
        have H4 := Lib.hid h4
        clear h h1 h2 h3 h4
        go_enter Tryz.func108, Tryz.ntmps108
        go_wp2_with fail
        refine (is_y _ _ H1.out).mono ?_
        rintro e w1 ⟨rfl, rfl⟩
        go_wp2_with fail
        refine (is_y _ _ H2.out).mono ?_
        rintro e w1 ⟨rfl, rfl⟩
        go_wp2_with fail
        refine (is_y _ _ H3.out).mono ?_
        rintro e w1 ⟨rfl, rfl⟩
        go_wp2_with fail
        refine (is_n _ _ H4.out).mono ?_
        rintro e w1 ⟨rfl, rfl⟩
        go_wp2_with fail
        go_ret3
        exact ⟨rfl, rfl⟩
theorem ptV_tuple (x y : Int) : ∃ p q o, ptV x y = .tuple #[.int .i64 p, .int .i64 q, .bool o] := by
  unfold ptV; split
  · exact ⟨_, _, _, rfl⟩
  · exact ⟨_, _, _, rfl⟩
set_option maxRecDepth 100000 in
set_option maxHeartbeats 1000000 in
theorem op1 (w : World) (a b c d : Int) (h1 : inB a = true) (h2 : inB b = true) (h3 : inB c = true) (h4 : inB d = true) :
    Calls Tryz.prog 108 #[.int .i64 1, .int .i64 a, .int .i64 b, .int .i64 c, .int .i64 d] w fun e w' => e = .returned (ptV (a + c) (b + d)) ∧ w = w' := by
  obtain ⟨g1, g1'⟩ := of_decide_eq_true h1
  obtain ⟨g2, g2'⟩ := of_decide_eq_true h2
  obtain ⟨g3, g3'⟩ := of_decide_eq_true h3
  obtain ⟨g4, g4'⟩ := of_decide_eq_true h4
  obtain ⟨r, s, hrun, hp⟩ := psum (pt_of h1 h2) (pt_of h3 h4) (by unfold Near; omega) (by unfold Near; omega)
  have H1 := Lib.hid h1
  have H2 := Lib.hid h2
  have H3 := Lib.hid h3
  have H4 := Lib.hid h4
  have HP := Lib.hid hp
  clear h1 h2 h3 h4 hp
  go_enter Tryz.func108, Tryz.ntmps108
  go_wp2_with fail
  refine (is_y _ _ H1.out).mono ?_
  rintro e w1 ⟨rfl, rfl⟩
  go_wp2_with fail
  refine (is_y _ _ H2.out).mono ?_
  rintro e w1 ⟨rfl, rfl⟩
  go_wp2_with fail
  refine (is_y _ _ H3.out).mono ?_
  rintro e w1 ⟨rfl, rfl⟩
  go_wp2_with fail
  refine (is_y _ _ H4.out).mono ?_
  rintro e w1 ⟨rfl, rfl⟩
  go_wp2_with fail
  refine (lof _ _ _).mono ?_
  rintro e w1 ⟨rfl, rfl⟩
  go_wp2_with fail
  refine (lof _ _ _).mono ?_
  rintro e w1 ⟨rfl, rfl⟩
  go_wp2_with fail
  refine (of_pt _ HP.out.re HP.out.im).mono ?_
  rintro e w1 ⟨rfl, rfl⟩
  obtain ⟨p, q, o, hv⟩ := ptV_tuple (a + c) (b + d)
  rw [hv]
  have HV := Lib.hid hv
  clear hv
  go_wp2_with fail
  go_ret3
  exact ⟨by rw [HV.out]; rfl, rfl⟩
set_option maxRecDepth 100000 in
set_option maxHeartbeats 1000000 in
theorem op2 (w : World) (a b c d : Int) (h1 : inB a = true) (h2 : inB b = true) (h3 : inB c = true) (h4 : inB d = true) :
    Calls Tryz.prog 108 #[.int .i64 2, .int .i64 a, .int .i64 b, .int .i64 c, .int .i64 d] w fun e w' => e = .returned (ptV (a - c) (b - d)) ∧ w = w' := by
  obtain ⟨g1, g1'⟩ := of_decide_eq_true h1
  obtain ⟨g2, g2'⟩ := of_decide_eq_true h2
  obtain ⟨g3, g3'⟩ := of_decide_eq_true h3
  obtain ⟨g4, g4'⟩ := of_decide_eq_true h4
  obtain ⟨r, s, hrun, hp⟩ := pdif (pt_of h1 h2) (pt_of h3 h4) (by unfold Near; omega) (by unfold Near; omega)
  have H1 := Lib.hid h1
  have H2 := Lib.hid h2
  have H3 := Lib.hid h3
  have H4 := Lib.hid h4
  have HP := Lib.hid hp
  clear h1 h2 h3 h4 hp
  go_enter Tryz.func108, Tryz.ntmps108
  go_wp2_with fail
  refine (is_y _ _ H1.out).mono ?_
  rintro e w1 ⟨rfl, rfl⟩
  go_wp2_with fail
  refine (is_y _ _ H2.out).mono ?_
  rintro e w1 ⟨rfl, rfl⟩
  go_wp2_with fail
  refine (is_y _ _ H3.out).mono ?_
  rintro e w1 ⟨rfl, rfl⟩
  go_wp2_with fail
  refine (is_y _ _ H4.out).mono ?_
  rintro e w1 ⟨rfl, rfl⟩
  go_wp2_with fail
  refine (lof _ _ _).mono ?_
  rintro e w1 ⟨rfl, rfl⟩
  go_wp2_with fail
  refine (lof _ _ _).mono ?_
  rintro e w1 ⟨rfl, rfl⟩
  go_wp2_with fail
  refine (of_pt _ HP.out.re HP.out.im).mono ?_
  rintro e w1 ⟨rfl, rfl⟩
  obtain ⟨p, q, o, hv⟩ := ptV_tuple (a - c) (b - d)
  rw [hv]
  have HV := Lib.hid hv
  clear hv
  go_wp2_with fail
  go_ret3
  exact ⟨by rw [HV.out]; rfl, rfl⟩
set_option maxRecDepth 100000 in
set_option maxHeartbeats 1000000 in
theorem op3 (w : World) (a b c d : Int) (h1 : inB a = true) (h2 : inB b = true) (h3 : inB c = true) (h4 : inB d = true) :
    Calls Tryz.prog 108 #[.int .i64 3, .int .i64 a, .int .i64 b, .int .i64 c, .int .i64 d] w fun e w' => e = .returned (ptV (a * c - b * d) (a * d + b * c)) ∧ w = w' := by
  obtain ⟨g1, g1'⟩ := of_decide_eq_true h1
  obtain ⟨g2, g2'⟩ := of_decide_eq_true h2
  obtain ⟨g3, g3'⟩ := of_decide_eq_true h3
  obtain ⟨g4, g4'⟩ := of_decide_eq_true h4
  have p1 := prod_bd h1 h3
  have p2 := prod_bd h2 h4
  have p3 := prod_bd h1 h4
  have p4 := prod_bd h2 h3
  obtain ⟨r, s, hrun, hp⟩ := pmul (pt_of h1 h2) (pt_of h3 h4) (by unfold Near; omega) (by unfold Near; omega) (by unfold Near; omega) (by unfold Near; omega) (by unfold Near; omega) (by unfold Near; omega)
  clear p1 p2 p3 p4
  have H1 := Lib.hid h1
  have H2 := Lib.hid h2
  have H3 := Lib.hid h3
  have H4 := Lib.hid h4
  have HP := Lib.hid hp
  clear h1 h2 h3 h4 hp
  go_enter Tryz.func108, Tryz.ntmps108
  go_wp2_with fail
  refine (is_y _ _ H1.out).mono ?_
  rintro e w1 ⟨rfl, rfl⟩
  go_wp2_with fail
  refine (is_y _ _ H2.out).mono ?_
  rintro e w1 ⟨rfl, rfl⟩
  go_wp2_with fail
  refine (is_y _ _ H3.out).mono ?_
  rintro e w1 ⟨rfl, rfl⟩
  go_wp2_with fail
  refine (is_y _ _ H4.out).mono ?_
  rintro e w1 ⟨rfl, rfl⟩
  go_wp2_with fail
  refine (lof _ _ _).mono ?_
  rintro e w1 ⟨rfl, rfl⟩
  go_wp2_with fail
  refine (lof _ _ _).mono ?_
  rintro e w1 ⟨rfl, rfl⟩
  go_wp2_with fail
  refine (of_pt _ HP.out.re HP.out.im).mono ?_
  rintro e w1 ⟨rfl, rfl⟩
  obtain ⟨p, q, o, hv⟩ := ptV_tuple (a * c - b * d) (a * d + b * c)
  rw [hv]
  have HV := Lib.hid hv
  clear hv
  go_wp2_with fail
  go_ret3
  exact ⟨by rw [HV.out]; rfl, rfl⟩
set_option maxRecDepth 100000 in
set_option maxHeartbeats 1000000 in
theorem op4 (w : World) (a b c d : Int) (h1 : inB a = true) (h2 : inB b = true) (h3 : inB c = true) (h4 : inB d = true) :
    Calls Tryz.prog 108 #[.int .i64 4, .int .i64 a, .int .i64 b, .int .i64 c, .int .i64 d] w fun e w' => e = .returned (ptV (a * c - b * -d) (a * -d + b * c)) ∧ w = w' := by
  obtain ⟨g1, g1'⟩ := of_decide_eq_true h1
  obtain ⟨g2, g2'⟩ := of_decide_eq_true h2
  obtain ⟨g3, g3'⟩ := of_decide_eq_true h3
  obtain ⟨g4, g4'⟩ := of_decide_eq_true h4
  have h5 := inB_neg h4
  have p1 := prod_bd h1 h3
  have p2 := prod_bd h2 h5
  have p3 := prod_bd h1 h5
  have p4 := prod_bd h2 h3
  obtain ⟨r, s, hrun, hp⟩ := pmul (pt_of h1 h2) (pt_of h3 h5) (by unfold Near; omega) (by unfold Near; omega) (by unfold Near; omega) (by unfold Near; omega) (by unfold Near; omega) (by unfold Near; omega)
  clear p1 p2 p3 p4 h5
  have H1 := Lib.hid h1
  have H2 := Lib.hid h2
  have H3 := Lib.hid h3
  have H4 := Lib.hid h4
  have HP := Lib.hid hp
  clear h1 h2 h3 h4 hp
  go_enter Tryz.func108, Tryz.ntmps108
  go_wp2_with fail
  refine (is_y _ _ H1.out).mono ?_
  rintro e w1 ⟨rfl, rfl⟩
  go_wp2_with fail
  refine (is_y _ _ H2.out).mono ?_
  rintro e w1 ⟨rfl, rfl⟩
  go_wp2_with fail
  refine (is_y _ _ H3.out).mono ?_
  rintro e w1 ⟨rfl, rfl⟩
  go_wp2_with fail
  refine (is_y _ _ H4.out).mono ?_
  rintro e w1 ⟨rfl, rfl⟩
  go_wp2_with fail
  refine (lof _ _ _).mono ?_
  rintro e w1 ⟨rfl, rfl⟩
  go_wp2_with fail
  refine (lof _ _ _).mono ?_
  rintro e w1 ⟨rfl, rfl⟩
  go_wp2_with fail
  refine (lof _ _ _).mono ?_
  rintro e w1 ⟨rfl, rfl⟩
  go_wp2_with fail
  refine (of_pt _ HP.out.re HP.out.im).mono ?_
  rintro e w1 ⟨rfl, rfl⟩
  obtain ⟨p, q, o, hv⟩ := ptV_tuple (a * c - b * -d) (a * -d + b * c)
  rw [hv]
  have HV := Lib.hid hv
  clear hv
  go_wp2_with fail
  go_ret3
  exact ⟨by rw [HV.out]; rfl, rfl⟩
theorem ptV_in {x y : Int} (hx : inB x = true) (hy : inB y = true) : ptV x y = .tuple #[.int .i64 x, .int .i64 y, .bool true] := by unfold ptV; rw [hx, hy]; rfl
theorem ptV_out {x y : Int} (h : (inB x && inB y) = false) : ptV x y = .tuple #[.int .i64 0, .int .i64 0, .bool false] := by unfold ptV; rw [h]; rfl
/-! ### Norm, Turn -/
theorem norm_y (w : World) (x y : Int) (h1 : inB x = true) (h2 : inB y = true) : Calls Tryz.prog 100 #[.int .i64 x, .int .i64 y] w fun e w' => e = .returned (.tuple #[.int .i64 (x * x + y * y), .bool true]) ∧ w = w' := by
  obtain ⟨p1, p1'⟩ := prod_bd h1 h1
  obtain ⟨p2, p2'⟩ := prod_bd h2 h2
  have e1 : wrap64 (x * x) = x * x := IntWalk.wrap64_in _ ⟨by omega, by omega⟩
  have e2 : wrap64 (y * y) = y * y := IntWalk.wrap64_in _ ⟨by omega, by omega⟩
  have e3 : wrap64 (x * x + y * y) = x * x + y * y := IntWalk.wrap64_in _ ⟨by omega, by omega⟩
  have H1 := Lib.hid h1
  have H2 := Lib.hid h2
  have E1 := Lib.hid e1
  have E2 := Lib.hid e2
  have E3 := Lib.hid e3
  clear h1 h2 e1 e2 e3 p1 p1' p2 p2'
  go_enter Tryz.func100, Tryz.ntmps100
  go_wp2_with fail
  refine (is_y _ _ H1.out).mono ?_
  rintro e w1 ⟨rfl, rfl⟩
  go_wp2_with fail
  refine (is_y _ _ H2.out).mono ?_
  rintro e w1 ⟨rfl, rfl⟩
  go_wp2_with fail
  go_ret2
  exact ⟨by simp only [E1.out, E2.out, E3.out]; rfl, rfl⟩
theorem norm_n (w : World) (x y : Int) (h : inB x = false) : Calls Tryz.prog 100 #[.int .i64 x, .int .i64 y] w fun e w' => e = .returned (.tuple #[.int .i64 0, .bool false]) ∧ w = w' := by
  have H1 := Lib.hid h
  clear h
  go_enter Tryz.func100, Tryz.ntmps100
  go_wp2_with fail
  refine (is_n _ _ H1.out).mono ?_
  rintro e w1 ⟨rfl, rfl⟩
  go_wp2_with fail
  go_ret2
  exact ⟨rfl, rfl⟩
theorem inB_of {x : Int} (h1 : -1048576 ≤ x) (h2 : x ≤ 1048576) : inB x = true := decide_eq_true ⟨h1, h2⟩
theorem inB_no {x : Int} (h : x < -1048576 ∨ 1048576 < x) : inB x = false := decide_eq_false (by omega)
theorem op1_in (w : World) (a b c d : Int) (h1 : inB a = true) (h2 : inB b = true) (h3 : inB c = true) (h4 : inB d = true) {x y : Int} (ex : a + c = x) (ey : b + d = y) (h5 : inB x = true) (h6 : inB y = true) :
    Calls Tryz.prog 108 #[.int .i64 1, .int .i64 a, .int .i64 b, .int .i64 c, .int .i64 d] w fun e w' => e = .returned (.tuple #[.int .i64 x, .int .i64 y, .bool true]) ∧ w = w' := by
  subst ex; subst ey; rw [← ptV_in h5 h6]; exact op1 w a b c d h1 h2 h3 h4
theorem op3_in (w : World) (a b c d : Int) (h1 : inB a = true) (h2 : inB b = true) (h3 : inB c = true) (h4 : inB d = true) {x y : Int} (ex : a * c - b * d = x) (ey : a * d + b * c = y) (h5 : inB x = true) (h6 : inB y = true) :
    Calls Tryz.prog 108 #[.int .i64 3, .int .i64 a, .int .i64 b, .int .i64 c, .int .i64 d] w fun e w' => e = .returned (.tuple #[.int .i64 x, .int .i64 y, .bool true]) ∧ w = w' := by
  subst ex; subst ey; rw [← ptV_in h5 h6]; exact op3 w a b c d h1 h2 h3 h4
theorem op4_in (w : World) (a b c d : Int) (h1 : inB a = true) (h2 : inB b = true) (h3 : inB c = true) (h4 : inB d = true) {x y : Int} (ex : a * c - b * -d = x) (ey : a * -d + b * c = y) (h5 : inB x = true) (h6 : inB y = true) :
    Calls Tryz.prog 108 #[.int .i64 4, .int .i64 a, .int .i64 b, .int .i64 c, .int .i64 d] w fun e w' => e = .returned (.tuple #[.int .i64 x, .int .i64 y, .bool true]) ∧ w = w' := by
  subst ex; subst ey; rw [← ptV_in h5 h6]; exact op4 w a b c d h1 h2 h3 h4
end Go.Proofs.YtnhijjcplnomgaaGreat.Plane
