/-
  Contracts of package number (chapter 17) and of its reference.
-/
import Derived.Test.YtabknckaoeifhaaWord
import Derived.Test.YtabknckaoeifhaaExt
import Derived.WalkKit
import Derived.Lib.Hide
namespace Go.Proofs.Ytabknckaoeifhaa.Number
open Go.RowKit Go.Proofs.Ytabknckaoeifhaa.Plain Go.Proofs.Ytabknckaoeifhaa.Word
set_option linter.unusedVariables false

/-! ### the quotient that is cut downwards, as the Go text has it -/
def turned (r b : Int) : Bool := decide (r ≠ 0) && (decide (r < 0) != decide (b < 0))
def divQ (a b : Int) : Int := if turned (a.tmod b) b then a.tdiv b - 1 else a.tdiv b
def divR (a b : Int) : Int := if turned (a.tmod b) b then a.tmod b + b else a.tmod b
theorem tdiv_bd (a b : Int) (h1 : -536870912 ≤ a) (h2 : a < 536870912) : -536870912 ≤ a.tdiv b ∧ a.tdiv b ≤ 536870912 := by
  have h := Int.natAbs_tdiv_le_natAbs a b
  omega
theorem tmod_bd (a b : Int) (hb : b ≠ 0) : (0 ≤ a → 0 ≤ a.tmod b) ∧ (a ≤ 0 → a.tmod b ≤ 0) ∧ (0 < b → -b < a.tmod b ∧ a.tmod b < b) ∧ (b < 0 → b < a.tmod b ∧ a.tmod b < -b) := by
  refine ⟨fun h => Int.tmod_nonneg _ h, fun h => ?_, fun h => ⟨Int.lt_tmod_of_pos a h, Int.tmod_lt_of_pos a h⟩, fun h => ?_⟩
  · have := Int.tmod_nonneg b (a := -a) (by omega)
    rw [Int.neg_tmod] at this; omega
  · have h1 := Int.lt_tmod_of_pos a (b := -b) (by omega)
    have h2 := Int.tmod_lt_of_pos a (b := -b) (by omega)
    rw [Int.tmod_neg] at h1 h2; omega
theorem div_cases (a b : Int) (hb : b ≠ 0) : (a.tmod b = 0 ∧ divQ a b = a.tdiv b ∧ divR a b = 0) ∨ (a.tmod b < 0 ∧ b < 0 ∧ divQ a b = a.tdiv b ∧ divR a b = a.tmod b) ∨ (0 < a.tmod b ∧ 0 < b ∧ divQ a b = a.tdiv b ∧ divR a b = a.tmod b) ∨
    (a.tmod b < 0 ∧ 0 < b ∧ divQ a b = a.tdiv b - 1 ∧ divR a b = a.tmod b + b) ∨ (0 < a.tmod b ∧ b < 0 ∧ divQ a b = a.tdiv b - 1 ∧ divR a b = a.tmod b + b) := by
  unfold divQ divR turned
  generalize a.tmod b = r
  generalize a.tdiv b = q
  rcases Int.lt_trichotomy r 0 with h | h | h
  · have e1 : decide (r ≠ 0) = true := by simp; omega
    have e2 : decide (r < 0) = true := by simpa using h
    rcases Int.lt_or_gt_of_ne hb with k | k
    · have e3 : decide (b < 0) = true := by simpa using k
      simp [e1, e2, e3]; omega
    · have e3 : decide (b < 0) = false := by simp; omega
      simp [e1, e2, e3]; omega
  · subst h; simp
  · have e1 : decide (r ≠ 0) = true := by simp; omega
    have e2 : decide (r < 0) = false := by simp; omega
    rcases Int.lt_or_gt_of_ne hb with k | k
    · have e3 : decide (b < 0) = true := by simpa using k
      simp [e1, e2, e3]; omega
    · have e3 : decide (b < 0) = false := by simp; omega
      simp [e1, e2, e3]; omega
theorem div_facts (a b : Int) (hb : b ≠ 0) : divQ a b * b + divR a b = a ∧ (0 < b → 0 ≤ divR a b ∧ divR a b < b) ∧ (b < 0 → b < divR a b ∧ divR a b ≤ 0) := by
  have h0 := Int.mul_tdiv_add_tmod a b
  obtain ⟨h1, h2, h3, h4⟩ := tmod_bd a b hb
  have hc := div_cases a b hb
  generalize divQ a b = Q at *
  generalize divR a b = R at *
  generalize a.tmod b = r at *
  generalize a.tdiv b = q at *
  have e : b * q = q * b := Int.mul_comm b q
  rcases hc with ⟨c1, rfl, rfl⟩ | ⟨c1, c2, rfl, rfl⟩ | ⟨c1, c2, rfl, rfl⟩ | ⟨c1, c2, rfl, rfl⟩ | ⟨c1, c2, rfl, rfl⟩
  · subst c1; refine ⟨by omega, fun _ => by omega, fun _ => by omega⟩
  · refine ⟨by omega, fun _ => by omega, fun _ => by omega⟩
  · refine ⟨by omega, fun _ => by omega, fun _ => by omega⟩
  · refine ⟨by rw [Int.sub_mul]; omega, fun _ => by omega, fun _ => by omega⟩
  · refine ⟨by rw [Int.sub_mul]; omega, fun _ => by omega, fun _ => by omega⟩
set_option maxHeartbeats 1000000 in
theorem divide_core (a b q r Q R : Int) (w : World) (hb : b ≠ 0) (hq : a.tdiv b = q) (hr : a.tmod b = r) (q1 : -536870912 ≤ q) (q2 : q ≤ 536870912) (r1 : -536870912 ≤ r) (r2 : r ≤ 536870912) (hb1 : -536870912 ≤ b) (hb2 : b < 536870912)
    (hc : (r = 0 ∧ Q = q ∧ R = 0) ∨ (r < 0 ∧ b < 0 ∧ Q = q ∧ R = r) ∨ (0 < r ∧ 0 < b ∧ Q = q ∧ R = r) ∨ (r < 0 ∧ 0 < b ∧ Q = q - 1 ∧ R = r + b) ∨ (0 < r ∧ b < 0 ∧ Q = q - 1 ∧ R = r + b)) :
    Calls Try.prog 48 #[.int .i64 a, .int .i64 b] w fun e w' => e = .returned (.tuple #[.int .i64 Q, .int .i64 R]) ∧ Ext w w' := by
  rcases hc with ⟨c1, c3, c4⟩ | ⟨c1, c2, c3, c4⟩ | ⟨c1, c2, c3, c4⟩ | ⟨c1, c2, c3, c4⟩ | ⟨c1, c2, c3, c4⟩
  · subst c1 c3 c4
    go_enter Try.func48, Try.ntmps48
    go_wp2
    go_quiet (fail)
    go_wp2
    go_ret2
    exact ⟨rfl, (Ext.refl _).drewN _⟩
  · have e1 : (r != 0) = true := by rw [bne_iff_ne]; omega
    have e2 : decide (r < 0) = true := by simp; omega
    have e3 : decide (b < 0) = true := by simp; omega
    subst c3 c4
    go_enter Try.func48, Try.ntmps48
    go_wp2
    go_quiet (fail)
    go_wp2
    go_ret2
    exact ⟨rfl, (Ext.refl _).drewN _⟩
  · have e1 : (r != 0) = true := by rw [bne_iff_ne]; omega
    have e2 : decide (r < 0) = false := by simp; omega
    have e3 : decide (b < 0) = false := by simp; omega
    subst c3 c4
    go_enter Try.func48, Try.ntmps48
    go_wp2
    go_quiet (fail)
    go_wp2
    go_ret2
    exact ⟨rfl, (Ext.refl _).drewN _⟩
  · have e1 : (r != 0) = true := by rw [bne_iff_ne]; omega
    have e2 : decide (r < 0) = true := by simp; omega
    have e3 : decide (b < 0) = false := by simp; omega
    subst c3 c4
    go_enter Try.func48, Try.ntmps48
    go_wp2
    go_quiet (fail)
    go_wp2
    go_ret2
    exact ⟨rfl, (Ext.refl _).drewN _⟩
  · have e1 : (r != 0) = true := by rw [bne_iff_ne]; omega
    have e2 : decide (r < 0) = false := by simp; omega
    have e3 : decide (b < 0) = true := by simp; omega
    subst c3 c4
    go_enter Try.func48, Try.ntmps48
    go_wp2
    go_quiet (fail)
    go_wp2
    go_ret2
    exact ⟨rfl, (Ext.refl _).drewN _⟩
theorem divide (a b : Int) (w : World) (ha1 : -536870912 ≤ a) (ha2 : a < 536870912) (hb1 : -536870912 ≤ b) (hb2 : b < 536870912) (hb : b ≠ 0) :
    Calls Try.prog 48 #[.int .i64 a, .int .i64 b] w fun e w' => e = .returned (.tuple #[.int .i64 (divQ a b), .int .i64 (divR a b)]) ∧ Ext w w' := by
  obtain ⟨q1, q2⟩ := tdiv_bd a b ha1 ha2
  obtain ⟨r1, r2, r3, r4⟩ := tmod_bd a b hb
  exact divide_core a b _ _ _ _ w hb rfl rfl q1 q2 (by omega) (by omega) hb1 hb2 (div_cases a b hb)

/-! ### what a primitive on two numbers answers: an object or a number, and whether there is an answer -/
def noneT : Bool × Int × Bool := (false, 0, false)
def wholeT (v : Int) : Bool × Int × Bool := if fitsB v then (false, v, true) else noneT
def truthT (t : Bool) : Bool × Int × Bool := (true, if t then 1 else 2, true)
def shiftT (a b : Int) : Bool × Int × Bool := if b < -30 ∨ 30 < b then noneT else if b < 0 then wholeT (a / 2 ^ (-b).toNat) else wholeT (a * 2 ^ b.toNat)
def numT (n a b : Int) : Bool × Int × Bool :=
  if n = 1 then wholeT (a + b) else if n = 2 then wholeT (a - b) else if n = 3 then wholeT (a * b)
  else if n = 4 then (if b = 0 then noneT else wholeT (divQ a b)) else if n = 5 then (if b = 0 then noneT else wholeT (divR a b))
  else if n = 6 then truthT (decide (a < b)) else if n = 7 then truthT (decide (b < a)) else if n = 8 then truthT (decide (a ≤ b)) else if n = 9 then truthT (decide (b ≤ a))
  else if n = 10 then truthT (a == b) else if n = 11 then truthT (a != b)
  else if n = 12 then wholeT (bits .and .i64 a b) else if n = 13 then wholeT (bits .or .i64 a b) else if n = 14 then wholeT (bits .xor .i64 a b)
  else if n = 15 then shiftT a b else noneT
def opT (n a b : Int) : Bool × Int × Bool := if fitsB a && fitsB b then numT n a b else noneT
def valT (t : Bool × Int × Bool) : Value := .tuple #[.agg #[.bool t.1, .int .i64 t.2.1], .bool t.2.2]
theorem pow_le_30 (k : Nat) (h : k ≤ 30) : (2 : Int) ^ k ≤ 1073741824 ∧ 1 ≤ (2 : Int) ^ k := by
  have h1 : 2 ^ k ≤ 2 ^ 30 := Nat.pow_le_pow_right (by omega) h
  have h2 : 0 < 2 ^ k := Nat.pow_pos (by omega)
  have e : ((2 ^ k : Nat) : Int) = (2 : Int) ^ k := by simp
  omega
theorem mul_pow_bd (a : Int) (k : Nat) (h : k ≤ 30) (h1 : -536870912 ≤ a) (h2 : a < 536870912) : -576460752303423488 ≤ a * 2 ^ k ∧ a * 2 ^ k ≤ 576460752303423488 := by
  obtain ⟨p1, p2⟩ := pow_le_30 k h
  constructor
  · have := Int.mul_le_mul_of_nonneg_right h1 (c := 2 ^ k) (by omega); omega
  · have := Int.mul_le_mul_of_nonneg_right (show a ≤ 536870912 by omega) (c := 2 ^ k) (by omega); omega
theorem mul_bd (a b : Int) (h1 : -536870912 ≤ a) (h2 : a < 536870912) (h3 : -536870912 ≤ b) (h4 : b < 536870912) : -576460752303423488 ≤ a * b ∧ a * b ≤ 576460752303423488 := by
  have h := Int.natAbs_mul a b
  have h' : a.natAbs * b.natAbs ≤ 536870912 * 536870912 := Nat.mul_le_mul (by omega) (by omega)
  omega

theorem whole (v : Int) (w : World) : Calls Try.prog 47 #[.int .i64 v] w fun e w' => e = .returned (valT (wholeT v)) ∧ Ext w w' := by
  unfold wholeT
  cases h : fitsB v
  all_goals
    go_enter Try.func47, Try.ntmps47
    go_wp2_with (go_at_call 46; refine (fits _ _).mono ?_; rintro e w' ⟨rfl, rfl⟩)
    exact bodyPost_ret (v := .tuple #[.agg #[.bool _, .int .i64 _], .bool _]) (by simp [results, Try.results47, go_sem, noneT]) rfl ⟨rfl, (Ext.refl _).alloc _⟩
theorem truth (t : Bool) (w : World) : Calls Try.prog 49 #[.bool t] w fun e w' => e = .returned (valT (truthT t)) ∧ Ext w w' := by
  cases t
  all_goals
    go_enter Try.func49, Try.ntmps49
    go_wp2
    exact bodyPost_ret (v := .tuple #[.agg #[.bool _, .int .i64 _], .bool _]) (by simp [results, Try.results49, go_sem, truthT]) rfl ⟨rfl, (Ext.refl _).alloc _⟩
set_option maxHeartbeats 1000000 in
theorem shift (a b : Int) (w : World) (ha1 : -536870912 ≤ a) (ha2 : a < 536870912) (hb1 : -536870912 ≤ b) (hb2 : b < 536870912) :
    Calls Try.prog 50 #[.int .i64 a, .int .i64 b] w fun e w' => e = .returned (valT (shiftT a b)) ∧ Ext w w' := by
  unfold shiftT
  by_cases h1 : b < -30
  · rw [if_pos (.inl h1)]
    go_enter Try.func50, Try.ntmps50
    go_wp2
    exact bodyPost_ret (v := .tuple #[.agg #[.bool _, .int .i64 _], .bool _]) (by simp [results, Try.results50, go_sem, noneT]) rfl ⟨rfl, (Ext.refl _).alloc _⟩
  by_cases h2 : 30 < b
  · rw [if_pos (.inr h2)]
    have d1 : decide (b < -30) = false := by simpa using h1
    have d2 : decide (30 < b) = true := by simpa using h2
    go_enter Try.func50, Try.ntmps50
    go_wp2
    exact bodyPost_ret (v := .tuple #[.agg #[.bool _, .int .i64 _], .bool _]) (by simp [results, Try.results50, go_sem, noneT]) rfl ⟨rfl, (Ext.refl _).alloc _⟩
  rw [if_neg (by omega)]
  have d1 : decide (b < -30) = false := by simpa using h1
  have d2 : decide (30 < b) = false := by simpa using h2
  by_cases h3 : b < 0
  · rw [if_pos h3]
    go_enter Try.func50, Try.ntmps50
    go_wp2_with fail
    refine (whole _ _).mono ?_
    rintro e w1 ⟨rfl, x1⟩
    have B1 := (Blk.new w 55 #[.bool false, .int .i64 0]).ext x1
    have E1 : Ext w w1 := ((Ext.refl w).alloc _).trans x1
    obtain ⟨c1, f1, z1⟩ := B1.rules
    simp only [valT]
    go_wp2_with fail
    exact bodyPost_ret (v := .tuple #[.agg #[.bool _, .int .i64 _], .bool _]) (by simp [results, Try.results50, go_sem, c1]) rfl ⟨rfl, (E1.setNew (p := ⟨w.heap.size, 0, none⟩) (Nat.le_refl _) _).setNew (p := ⟨w.heap.size, 1, none⟩) (Nat.le_refl _) _⟩
  · rw [if_neg h3]
    have d3 : decide (b < 0) = false := by simpa using h3
    obtain ⟨m1, m2⟩ := mul_pow_bd a b.toNat (by omega) ha1 ha2
    go_enter Try.func50, Try.ntmps50
    go_wp2_with fail
    refine (whole _ _).mono ?_
    rintro e w1 ⟨rfl, x1⟩
    have B1 := (Blk.new w 55 #[.bool false, .int .i64 0]).ext x1
    have E1 : Ext w w1 := ((Ext.refl w).alloc _).trans x1
    obtain ⟨c1, f1, z1⟩ := B1.rules
    simp only [valT]
    go_wp2_with fail
    exact bodyPost_ret (v := .tuple #[.agg #[.bool _, .int .i64 _], .bool _]) (by simp [results, Try.results50, go_sem, c1]) rfl ⟨rfl, (E1.setNew (p := ⟨w.heap.size, 0, none⟩) (Nat.le_refl _) _).setNew (p := ⟨w.heap.size, 1, none⟩) (Nat.le_refl _) _⟩
set_option maxRecDepth 100000 in
set_option maxHeartbeats 2000000 in
theorem op1 (a b : Int) (w : World) (fa : fitsB a = true) (fb : fitsB b = true) :
    Calls Try.prog 31 #[.int .i64 1, .int .i64 a, .int .i64 b] w fun e w' => e = .returned (valT (wholeT (a + b))) ∧ Ext w w' := by
  obtain ⟨ha1, ha2⟩ := fits_of fa
  obtain ⟨hb1, hb2⟩ := fits_of fb
  go_enter Try.func31, Try.ntmps31
  go_wp2_with (go_at_call 46; refine (fits _ _).mono ?_; rintro e w' ⟨rfl, rfl⟩)
  refine (whole _ _).mono ?_
  rintro e w1 ⟨rfl, x1⟩
  have B1 := (Blk.new w 55 #[.bool false, .int .i64 0]).ext x1
  have E1 : Ext w w1 := ((Ext.refl w).alloc _).trans x1
  obtain ⟨c1, f1, z1⟩ := B1.rules
  simp only [valT]
  go_wp2_with fail
  exact bodyPost_ret (v := .tuple #[.agg #[.bool _, .int .i64 _], .bool _]) (by simp [results, Try.results31, go_sem, c1]) rfl ⟨rfl, (E1.setNew (p := ⟨w.heap.size, 0, none⟩) (Nat.le_refl _) _).setNew (p := ⟨w.heap.size, 1, none⟩) (Nat.le_refl _) _⟩
set_option maxRecDepth 100000 in
set_option maxHeartbeats 2000000 in
theorem op2 (a b : Int) (w : World) (fa : fitsB a = true) (fb : fitsB b = true) :
    Calls Try.prog 31 #[.int .i64 2, .int .i64 a, .int .i64 b] w fun e w' => e = .returned (valT (wholeT (a - b))) ∧ Ext w w' := by
  obtain ⟨ha1, ha2⟩ := fits_of fa
  obtain ⟨hb1, hb2⟩ := fits_of fb
  go_enter Try.func31, Try.ntmps31
  go_wp2_with (go_at_call 46; refine (fits _ _).mono ?_; rintro e w' ⟨rfl, rfl⟩)
  refine (whole _ _).mono ?_
  rintro e w1 ⟨rfl, x1⟩
  have B1 := (Blk.new w 55 #[.bool false, .int .i64 0]).ext x1
  have E1 : Ext w w1 := ((Ext.refl w).alloc _).trans x1
  obtain ⟨c1, f1, z1⟩ := B1.rules
  simp only [valT]
  go_wp2_with fail
  exact bodyPost_ret (v := .tuple #[.agg #[.bool _, .int .i64 _], .bool _]) (by simp [results, Try.results31, go_sem, c1]) rfl ⟨rfl, (E1.setNew (p := ⟨w.heap.size, 0, none⟩) (Nat.le_refl _) _).setNew (p := ⟨w.heap.size, 1, none⟩) (Nat.le_refl _) _⟩
set_option maxRecDepth 100000 in
set_option maxHeartbeats 2000000 in
theorem op3 (a b : Int) (w : World) (fa : fitsB a = true) (fb : fitsB b = true) :
    Calls Try.prog 31 #[.int .i64 3, .int .i64 a, .int .i64 b] w fun e w' => e = .returned (valT (wholeT (a * b))) ∧ Ext w w' := by
  obtain ⟨ha1, ha2⟩ := fits_of fa
  obtain ⟨hb1, hb2⟩ := fits_of fb
  obtain ⟨m1, m2⟩ := mul_bd a b ha1 ha2 hb1 hb2
  go_enter Try.func31, Try.ntmps31
  go_wp2_with (go_at_call 46; refine (fits _ _).mono ?_; rintro e w' ⟨rfl, rfl⟩)
  refine (whole _ _).mono ?_
  rintro e w1 ⟨rfl, x1⟩
  have B1 := (Blk.new w 55 #[.bool false, .int .i64 0]).ext x1
  have E1 : Ext w w1 := ((Ext.refl w).alloc _).trans x1
  obtain ⟨c1, f1, z1⟩ := B1.rules
  simp only [valT]
  go_wp2_with fail
  exact bodyPost_ret (v := .tuple #[.agg #[.bool _, .int .i64 _], .bool _]) (by simp [results, Try.results31, go_sem, c1]) rfl ⟨rfl, (E1.setNew (p := ⟨w.heap.size, 0, none⟩) (Nat.le_refl _) _).setNew (p := ⟨w.heap.size, 1, none⟩) (Nat.le_refl _) _⟩
set_option maxRecDepth 100000 in
set_option maxHeartbeats 2000000 in
theorem op4 (a b : Int) (w : World) (fa : fitsB a = true) (fb : fitsB b = true) (hb : b ≠ 0) :
    Calls Try.prog 31 #[.int .i64 4, .int .i64 a, .int .i64 b] w fun e w' => e = .returned (valT (wholeT (divQ a b))) ∧ Ext w w' := by
  obtain ⟨ha1, ha2⟩ := fits_of fa
  obtain ⟨hb1, hb2⟩ := fits_of fb
  have hb0 : (b == 0) = false := by simp [hb]
  go_enter Try.func31, Try.ntmps31
  go_wp2_with (go_at_call 46; refine (fits _ _).mono ?_; rintro e w' ⟨rfl, rfl⟩)
  refine (divide _ _ _ ha1 ha2 hb1 hb2 hb).mono ?_
  rintro e w0 ⟨rfl, x0⟩
  go_wp2_with fail
  refine (whole _ _).mono ?_
  rintro e w1 ⟨rfl, x1⟩
  have B1 := ((Blk.new w 55 #[.bool false, .int .i64 0]).ext x0).ext x1
  have E1 : Ext w w1 := (((Ext.refl w).alloc _).trans x0).trans x1
  obtain ⟨c1, f1, z1⟩ := B1.rules
  simp only [valT]
  go_wp2_with fail
  exact bodyPost_ret (v := .tuple #[.agg #[.bool _, .int .i64 _], .bool _]) (by simp [results, Try.results31, go_sem, c1]) rfl ⟨rfl, (E1.setNew (p := ⟨w.heap.size, 0, none⟩) (Nat.le_refl _) _).setNew (p := ⟨w.heap.size, 1, none⟩) (Nat.le_refl _) _⟩
set_option maxRecDepth 100000 in
set_option maxHeartbeats 2000000 in
theorem op5 (a b : Int) (w : World) (fa : fitsB a = true) (fb : fitsB b = true) (hb : b ≠ 0) :
    Calls Try.prog 31 #[.int .i64 5, .int .i64 a, .int .i64 b] w fun e w' => e = .returned (valT (wholeT (divR a b))) ∧ Ext w w' := by
  obtain ⟨ha1, ha2⟩ := fits_of fa
  obtain ⟨hb1, hb2⟩ := fits_of fb
  have hb0 : (b == 0) = false := by simp [hb]
  go_enter Try.func31, Try.ntmps31
  go_wp2_with (go_at_call 46; refine (fits _ _).mono ?_; rintro e w' ⟨rfl, rfl⟩)
  refine (divide _ _ _ ha1 ha2 hb1 hb2 hb).mono ?_
  rintro e w0 ⟨rfl, x0⟩
  go_wp2_with fail
  refine (whole _ _).mono ?_
  rintro e w1 ⟨rfl, x1⟩
  have B1 := ((Blk.new w 55 #[.bool false, .int .i64 0]).ext x0).ext x1
  have E1 : Ext w w1 := (((Ext.refl w).alloc _).trans x0).trans x1
  obtain ⟨c1, f1, z1⟩ := B1.rules
  simp only [valT]
  go_wp2_with fail
  exact bodyPost_ret (v := .tuple #[.agg #[.bool _, .int .i64 _], .bool _]) (by simp [results, Try.results31, go_sem, c1]) rfl ⟨rfl, (E1.setNew (p := ⟨w.heap.size, 0, none⟩) (Nat.le_refl _) _).setNew (p := ⟨w.heap.size, 1, none⟩) (Nat.le_refl _) _⟩
set_option maxRecDepth 100000 in
set_option maxHeartbeats 2000000 in
theorem op6 (a b : Int) (w : World) (fa : fitsB a = true) (fb : fitsB b = true) :
    Calls Try.prog 31 #[.int .i64 6, .int .i64 a, .int .i64 b] w fun e w' => e = .returned (valT (truthT (decide (a < b)))) ∧ Ext w w' := by
  obtain ⟨ha1, ha2⟩ := fits_of fa
  obtain ⟨hb1, hb2⟩ := fits_of fb
  go_enter Try.func31, Try.ntmps31
  go_wp2_with (go_at_call 46; refine (fits _ _).mono ?_; rintro e w' ⟨rfl, rfl⟩)
  refine (truth _ _).mono ?_
  rintro e w1 ⟨rfl, x1⟩
  have B1 := (Blk.new w 55 #[.bool false, .int .i64 0]).ext x1
  have E1 : Ext w w1 := ((Ext.refl w).alloc _).trans x1
  obtain ⟨c1, f1, z1⟩ := B1.rules
  simp only [valT]
  go_wp2_with fail
  exact bodyPost_ret (v := .tuple #[.agg #[.bool _, .int .i64 _], .bool _]) (by simp [results, Try.results31, go_sem, c1]) rfl ⟨rfl, (E1.setNew (p := ⟨w.heap.size, 0, none⟩) (Nat.le_refl _) _).setNew (p := ⟨w.heap.size, 1, none⟩) (Nat.le_refl _) _⟩
set_option maxRecDepth 100000 in
set_option maxHeartbeats 2000000 in
theorem op7 (a b : Int) (w : World) (fa : fitsB a = true) (fb : fitsB b = true) :
    Calls Try.prog 31 #[.int .i64 7, .int .i64 a, .int .i64 b] w fun e w' => e = .returned (valT (truthT (decide (b < a)))) ∧ Ext w w' := by
  obtain ⟨ha1, ha2⟩ := fits_of fa
  obtain ⟨hb1, hb2⟩ := fits_of fb
  go_enter Try.func31, Try.ntmps31
  go_wp2_with (go_at_call 46; refine (fits _ _).mono ?_; rintro e w' ⟨rfl, rfl⟩)
  refine (truth _ _).mono ?_
  rintro e w1 ⟨rfl, x1⟩
  have B1 := (Blk.new w 55 #[.bool false, .int .i64 0]).ext x1
  have E1 : Ext w w1 := ((Ext.refl w).alloc _).trans x1
  obtain ⟨c1, f1, z1⟩ := B1.rules
  simp only [valT]
  go_wp2_with fail
  exact bodyPost_ret (v := .tuple #[.agg #[.bool _, .int .i64 _], .bool _]) (by simp [results, Try.results31, go_sem, c1]) rfl ⟨rfl, (E1.setNew (p := ⟨w.heap.size, 0, none⟩) (Nat.le_refl _) _).setNew (p := ⟨w.heap.size, 1, none⟩) (Nat.le_refl _) _⟩
set_option maxRecDepth 100000 in
set_option maxHeartbeats 2000000 in
theorem op8 (a b : Int) (w : World) (fa : fitsB a = true) (fb : fitsB b = true) :
    Calls Try.prog 31 #[.int .i64 8, .int .i64 a, .int .i64 b] w fun e w' => e = .returned (valT (truthT (decide (a ≤ b)))) ∧ Ext w w' := by
  obtain ⟨ha1, ha2⟩ := fits_of fa
  obtain ⟨hb1, hb2⟩ := fits_of fb
  go_enter Try.func31, Try.ntmps31
  go_wp2_with (go_at_call 46; refine (fits _ _).mono ?_; rintro e w' ⟨rfl, rfl⟩)
  refine (truth _ _).mono ?_
  rintro e w1 ⟨rfl, x1⟩
  have B1 := (Blk.new w 55 #[.bool false, .int .i64 0]).ext x1
  have E1 : Ext w w1 := ((Ext.refl w).alloc _).trans x1
  obtain ⟨c1, f1, z1⟩ := B1.rules
  simp only [valT]
  go_wp2_with fail
  exact bodyPost_ret (v := .tuple #[.agg #[.bool _, .int .i64 _], .bool _]) (by simp [results, Try.results31, go_sem, c1]) rfl ⟨rfl, (E1.setNew (p := ⟨w.heap.size, 0, none⟩) (Nat.le_refl _) _).setNew (p := ⟨w.heap.size, 1, none⟩) (Nat.le_refl _) _⟩
set_option maxRecDepth 100000 in
set_option maxHeartbeats 2000000 in
theorem op9 (a b : Int) (w : World) (fa : fitsB a = true) (fb : fitsB b = true) :
    Calls Try.prog 31 #[.int .i64 9, .int .i64 a, .int .i64 b] w fun e w' => e = .returned (valT (truthT (decide (b ≤ a)))) ∧ Ext w w' := by
  obtain ⟨ha1, ha2⟩ := fits_of fa
  obtain ⟨hb1, hb2⟩ := fits_of fb
  go_enter Try.func31, Try.ntmps31
  go_wp2_with (go_at_call 46; refine (fits _ _).mono ?_; rintro e w' ⟨rfl, rfl⟩)
  refine (truth _ _).mono ?_
  rintro e w1 ⟨rfl, x1⟩
  have B1 := (Blk.new w 55 #[.bool false, .int .i64 0]).ext x1
  have E1 : Ext w w1 := ((Ext.refl w).alloc _).trans x1
  obtain ⟨c1, f1, z1⟩ := B1.rules
  simp only [valT]
  go_wp2_with fail
  exact bodyPost_ret (v := .tuple #[.agg #[.bool _, .int .i64 _], .bool _]) (by simp [results, Try.results31, go_sem, c1]) rfl ⟨rfl, (E1.setNew (p := ⟨w.heap.size, 0, none⟩) (Nat.le_refl _) _).setNew (p := ⟨w.heap.size, 1, none⟩) (Nat.le_refl _) _⟩
set_option maxRecDepth 100000 in
set_option maxHeartbeats 2000000 in
theorem op10 (a b : Int) (w : World) (fa : fitsB a = true) (fb : fitsB b = true) :
    Calls Try.prog 31 #[.int .i64 10, .int .i64 a, .int .i64 b] w fun e w' => e = .returned (valT (truthT (a == b))) ∧ Ext w w' := by
  obtain ⟨ha1, ha2⟩ := fits_of fa
  obtain ⟨hb1, hb2⟩ := fits_of fb
  go_enter Try.func31, Try.ntmps31
  go_wp2_with (go_at_call 46; refine (fits _ _).mono ?_; rintro e w' ⟨rfl, rfl⟩)
  refine (truth _ _).mono ?_
  rintro e w1 ⟨rfl, x1⟩
  have B1 := (Blk.new w 55 #[.bool false, .int .i64 0]).ext x1
  have E1 : Ext w w1 := ((Ext.refl w).alloc _).trans x1
  obtain ⟨c1, f1, z1⟩ := B1.rules
  simp only [valT]
  go_wp2_with fail
  exact bodyPost_ret (v := .tuple #[.agg #[.bool _, .int .i64 _], .bool _]) (by simp [results, Try.results31, go_sem, c1]) rfl ⟨rfl, (E1.setNew (p := ⟨w.heap.size, 0, none⟩) (Nat.le_refl _) _).setNew (p := ⟨w.heap.size, 1, none⟩) (Nat.le_refl _) _⟩
set_option maxRecDepth 100000 in
set_option maxHeartbeats 2000000 in
theorem op11 (a b : Int) (w : World) (fa : fitsB a = true) (fb : fitsB b = true) :
    Calls Try.prog 31 #[.int .i64 11, .int .i64 a, .int .i64 b] w fun e w' => e = .returned (valT (truthT (a != b))) ∧ Ext w w' := by
  obtain ⟨ha1, ha2⟩ := fits_of fa
  obtain ⟨hb1, hb2⟩ := fits_of fb
  go_enter Try.func31, Try.ntmps31
  go_wp2_with (go_at_call 46; refine (fits _ _).mono ?_; rintro e w' ⟨rfl, rfl⟩)
  refine (truth _ _).mono ?_
  rintro e w1 ⟨rfl, x1⟩
  have B1 := (Blk.new w 55 #[.bool false, .int .i64 0]).ext x1
  have E1 : Ext w w1 := ((Ext.refl w).alloc _).trans x1
  obtain ⟨c1, f1, z1⟩ := B1.rules
  simp only [valT]
  go_wp2_with fail
  exact bodyPost_ret (v := .tuple #[.agg #[.bool _, .int .i64 _], .bool _]) (by simp [results, Try.results31, go_sem, c1]) rfl ⟨rfl, (E1.setNew (p := ⟨w.heap.size, 0, none⟩) (Nat.le_refl _) _).setNew (p := ⟨w.heap.size, 1, none⟩) (Nat.le_refl _) _⟩
set_option maxRecDepth 100000 in
set_option maxHeartbeats 2000000 in
theorem op12 (a b : Int) (w : World) (fa : fitsB a = true) (fb : fitsB b = true) :
    Calls Try.prog 31 #[.int .i64 12, .int .i64 a, .int .i64 b] w fun e w' => e = .returned (valT (wholeT (bits .and .i64 a b))) ∧ Ext w w' := by
  obtain ⟨ha1, ha2⟩ := fits_of fa
  obtain ⟨hb1, hb2⟩ := fits_of fb
  go_enter Try.func31, Try.ntmps31
  go_wp2_with (go_at_call 46; refine (fits _ _).mono ?_; rintro e w' ⟨rfl, rfl⟩)
  refine (whole _ _).mono ?_
  rintro e w1 ⟨rfl, x1⟩
  have B1 := (Blk.new w 55 #[.bool false, .int .i64 0]).ext x1
  have E1 : Ext w w1 := ((Ext.refl w).alloc _).trans x1
  obtain ⟨c1, f1, z1⟩ := B1.rules
  simp only [valT]
  go_wp2_with fail
  exact bodyPost_ret (v := .tuple #[.agg #[.bool _, .int .i64 _], .bool _]) (by simp [results, Try.results31, go_sem, c1]) rfl ⟨rfl, (E1.setNew (p := ⟨w.heap.size, 0, none⟩) (Nat.le_refl _) _).setNew (p := ⟨w.heap.size, 1, none⟩) (Nat.le_refl _) _⟩
set_option maxRecDepth 100000 in
set_option maxHeartbeats 2000000 in
theorem op13 (a b : Int) (w : World) (fa : fitsB a = true) (fb : fitsB b = true) :
    Calls Try.prog 31 #[.int .i64 13, .int .i64 a, .int .i64 b] w fun e w' => e = .returned (valT (wholeT (bits .or .i64 a b))) ∧ Ext w w' := by
  obtain ⟨ha1, ha2⟩ := fits_of fa
  obtain ⟨hb1, hb2⟩ := fits_of fb
  go_enter Try.func31, Try.ntmps31
  go_wp2_with (go_at_call 46; refine (fits _ _).mono ?_; rintro e w' ⟨rfl, rfl⟩)
  refine (whole _ _).mono ?_
  rintro e w1 ⟨rfl, x1⟩
  have B1 := (Blk.new w 55 #[.bool false, .int .i64 0]).ext x1
  have E1 : Ext w w1 := ((Ext.refl w).alloc _).trans x1
  obtain ⟨c1, f1, z1⟩ := B1.rules
  simp only [valT]
  go_wp2_with fail
  exact bodyPost_ret (v := .tuple #[.agg #[.bool _, .int .i64 _], .bool _]) (by simp [results, Try.results31, go_sem, c1]) rfl ⟨rfl, (E1.setNew (p := ⟨w.heap.size, 0, none⟩) (Nat.le_refl _) _).setNew (p := ⟨w.heap.size, 1, none⟩) (Nat.le_refl _) _⟩
set_option maxRecDepth 100000 in
set_option maxHeartbeats 2000000 in
theorem op14 (a b : Int) (w : World) (fa : fitsB a = true) (fb : fitsB b = true) :
    Calls Try.prog 31 #[.int .i64 14, .int .i64 a, .int .i64 b] w fun e w' => e = .returned (valT (wholeT (bits .xor .i64 a b))) ∧ Ext w w' := by
  obtain ⟨ha1, ha2⟩ := fits_of fa
  obtain ⟨hb1, hb2⟩ := fits_of fb
  go_enter Try.func31, Try.ntmps31
  go_wp2_with (go_at_call 46; refine (fits _ _).mono ?_; rintro e w' ⟨rfl, rfl⟩)
  refine (whole _ _).mono ?_
  rintro e w1 ⟨rfl, x1⟩
  have B1 := (Blk.new w 55 #[.bool false, .int .i64 0]).ext x1
  have E1 : Ext w w1 := ((Ext.refl w).alloc _).trans x1
  obtain ⟨c1, f1, z1⟩ := B1.rules
  simp only [valT]
  go_wp2_with fail
  exact bodyPost_ret (v := .tuple #[.agg #[.bool _, .int .i64 _], .bool _]) (by simp [results, Try.results31, go_sem, c1]) rfl ⟨rfl, (E1.setNew (p := ⟨w.heap.size, 0, none⟩) (Nat.le_refl _) _).setNew (p := ⟨w.heap.size, 1, none⟩) (Nat.le_refl _) _⟩
set_option maxRecDepth 100000 in
set_option maxHeartbeats 2000000 in
theorem op15 (a b : Int) (w : World) (fa : fitsB a = true) (fb : fitsB b = true) :
    Calls Try.prog 31 #[.int .i64 15, .int .i64 a, .int .i64 b] w fun e w' => e = .returned (valT (shiftT a b)) ∧ Ext w w' := by
  obtain ⟨ha1, ha2⟩ := fits_of fa
  obtain ⟨hb1, hb2⟩ := fits_of fb
  go_enter Try.func31, Try.ntmps31
  go_wp2_with (go_at_call 46; refine (fits _ _).mono ?_; rintro e w' ⟨rfl, rfl⟩)
  refine (shift _ _ _ ha1 ha2 hb1 hb2).mono ?_
  rintro e w1 ⟨rfl, x1⟩
  have B1 := (Blk.new w 55 #[.bool false, .int .i64 0]).ext x1
  have E1 : Ext w w1 := ((Ext.refl w).alloc _).trans x1
  obtain ⟨c1, f1, z1⟩ := B1.rules
  simp only [valT]
  go_wp2_with fail
  exact bodyPost_ret (v := .tuple #[.agg #[.bool _, .int .i64 _], .bool _]) (by simp [results, Try.results31, go_sem, c1]) rfl ⟨rfl, (E1.setNew (p := ⟨w.heap.size, 0, none⟩) (Nat.le_refl _) _).setNew (p := ⟨w.heap.size, 1, none⟩) (Nat.le_refl _) _⟩
set_option maxRecDepth 100000 in
set_option maxHeartbeats 2000000 in
theorem op_no1 (n a b : Int) (w : World) (fa : fitsB a = false) :
    Calls Try.prog 31 #[.int .i64 n, .int .i64 a, .int .i64 b] w fun e w' => e = .returned (valT noneT) ∧ Ext w w' := by
  go_enter Try.func31, Try.ntmps31
  go_wp2_with (go_at_call 46; refine (fits _ _).mono ?_; rintro e w' ⟨rfl, rfl⟩)
  exact bodyPost_ret (v := .tuple #[.agg #[.bool _, .int .i64 _], .bool _]) (by simp [results, Try.results31, go_sem, noneT]) rfl ⟨rfl, (Ext.refl _).alloc _⟩
set_option maxRecDepth 100000 in
set_option maxHeartbeats 2000000 in
theorem op_no2 (n a b : Int) (w : World) (fa : fitsB a = true) (fb : fitsB b = false) :
    Calls Try.prog 31 #[.int .i64 n, .int .i64 a, .int .i64 b] w fun e w' => e = .returned (valT noneT) ∧ Ext w w' := by
  go_enter Try.func31, Try.ntmps31
  go_wp2_with (go_at_call 46; refine (fits _ _).mono ?_; rintro e w' ⟨rfl, rfl⟩)
  exact bodyPost_ret (v := .tuple #[.agg #[.bool _, .int .i64 _], .bool _]) (by simp [results, Try.results31, go_sem, noneT]) rfl ⟨rfl, (Ext.refl _).alloc _⟩
set_option maxRecDepth 100000 in
set_option maxHeartbeats 2000000 in
theorem op_zero (n a : Int) (w : World) (fa : fitsB a = true) (hn : n = 4 ∨ n = 5) :
    Calls Try.prog 31 #[.int .i64 n, .int .i64 a, .int .i64 0] w fun e w' => e = .returned (valT noneT) ∧ Ext w w' := by
  have fb : fitsB 0 = true := by decide
  rcases hn with rfl | rfl
  all_goals
    go_enter Try.func31, Try.ntmps31
    go_wp2_with (go_at_call 46; refine (fits _ _).mono ?_; rintro e w' ⟨rfl, rfl⟩)
    exact bodyPost_ret (v := .tuple #[.agg #[.bool _, .int .i64 _], .bool _]) (by simp [results, Try.results31, go_sem, noneT]) rfl ⟨rfl, (Ext.refl _).alloc _⟩
set_option maxRecDepth 100000 in
set_option maxHeartbeats 2000000 in
theorem op_else (n a b : Int) (w : World) (fa : fitsB a = true) (fb : fitsB b = true) (hn : n < 1 ∨ 15 < n) :
    Calls Try.prog 31 #[.int .i64 n, .int .i64 a, .int .i64 b] w fun e w' => e = .returned (valT noneT) ∧ Ext w w' := by
  have e1 : (n == 1) = false := by rw [beq_eq_false_iff_ne]; omega
  have e2 : (n == 2) = false := by rw [beq_eq_false_iff_ne]; omega
  have e3 : (n == 3) = false := by rw [beq_eq_false_iff_ne]; omega
  have e4 : (n == 4) = false := by rw [beq_eq_false_iff_ne]; omega
  have e5 : (n == 5) = false := by rw [beq_eq_false_iff_ne]; omega
  have e6 : (n == 6) = false := by rw [beq_eq_false_iff_ne]; omega
  have e7 : (n == 7) = false := by rw [beq_eq_false_iff_ne]; omega
  have e8 : (n == 8) = false := by rw [beq_eq_false_iff_ne]; omega
  have e9 : (n == 9) = false := by rw [beq_eq_false_iff_ne]; omega
  have e10 : (n == 10) = false := by rw [beq_eq_false_iff_ne]; omega
  have e11 : (n == 11) = false := by rw [beq_eq_false_iff_ne]; omega
  have e12 : (n == 12) = false := by rw [beq_eq_false_iff_ne]; omega
  have e13 : (n == 13) = false := by rw [beq_eq_false_iff_ne]; omega
  have e14 : (n == 14) = false := by rw [beq_eq_false_iff_ne]; omega
  have e15 : (n == 15) = false := by rw [beq_eq_false_iff_ne]; omega
  go_enter Try.func31, Try.ntmps31
  go_wp2_with (go_at_call 46; refine (fits _ _).mono ?_; rintro e w' ⟨rfl, rfl⟩)
  exact bodyPost_ret (v := .tuple #[.agg #[.bool _, .int .i64 _], .bool _]) (by simp [results, Try.results31, go_sem, noneT]) rfl ⟨rfl, (Ext.refl _).alloc _⟩
theorem op (n a b : Int) (w : World) : Calls Try.prog 31 #[.int .i64 n, .int .i64 a, .int .i64 b] w fun e w' => e = .returned (valT (opT n a b)) ∧ Ext w w' := by
  unfold opT
  cases fa : fitsB a
  · exact op_no1 n a b w fa
  cases fb : fitsB b
  · exact op_no2 n a b w fa fb
  simp only [Bool.and_self, if_true]
  by_cases h : n < 1 ∨ 15 < n
  · have e : numT n a b = noneT := by
      unfold numT
      repeat rw [if_neg (by omega)]
    rw [e]; exact op_else n a b w fa fb h
  have hn : n = 1 ∨ n = 2 ∨ n = 3 ∨ n = 4 ∨ n = 5 ∨ n = 6 ∨ n = 7 ∨ n = 8 ∨ n = 9 ∨ n = 10 ∨ n = 11 ∨ n = 12 ∨ n = 13 ∨ n = 14 ∨ n = 15 := by omega
  rcases hn with rfl | rfl | rfl | rfl | rfl | rfl | rfl | rfl | rfl | rfl | rfl | rfl | rfl | rfl | rfl
  · exact op1 a b w fa fb
  · exact op2 a b w fa fb
  · exact op3 a b w fa fb
  · by_cases hb : b = 0
    · subst hb; exact op_zero 4 a w fa (by omega)
    · have e : numT 4 a b = wholeT (divQ a b) := by unfold numT; simp [hb]
      rw [e]; exact op4 a b w fa fb hb
  · by_cases hb : b = 0
    · subst hb; exact op_zero 5 a w fa (by omega)
    · have e : numT 5 a b = wholeT (divR a b) := by unfold numT; simp [hb]
      rw [e]; exact op5 a b w fa fb hb
  · exact op6 a b w fa fb
  · exact op7 a b w fa fb
  · exact op8 a b w fa fb
  · exact op9 a b w fa fb
  · exact op10 a b w fa fb
  · exact op11 a b w fa fb
  · exact op12 a b w fa fb
  · exact op13 a b w fa fb
  · exact op14 a b w fa fb
  · exact op15 a b w fa fb
end Go.Proofs.Ytabknckaoeifhaa.Number
