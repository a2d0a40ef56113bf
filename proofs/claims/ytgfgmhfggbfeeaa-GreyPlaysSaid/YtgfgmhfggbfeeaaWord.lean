/-
  Contracts of package word, of its reference, and of colloquylaw00.Place.
-/
import Derived.Test.YtgfgmhfggbfeeaaRows
import Derived.Test.YtgfgmhfggbfeeaaPlain
import Derived.WalkKit
import Derived.ScopeJumps
import Derived.Lib.Hide
namespace Go.Proofs.Ytgfgmhfggbfeeaa.Word
open Go.RowKit Go.Proofs.Ytgfgmhfggbfeeaa.Plain
set_option linter.unusedVariables false

theorem tmod_lo (v n : Int) (h0 : 0 < n) (h : v.tmod n < 0) : v.tmod n + n = v % n := by
  have h1 := Int.tmod_eq_emod (a := v) (b := n)
  have h2 := Int.emod_nonneg v (Int.ne_of_gt h0)
  split at h1
  · omega
  · rw [h1]; have := Int.natAbs_of_nonneg (Int.le_of_lt h0); omega
theorem tmod_hi (v n : Int) (h0 : 0 < n) (h : 0 ≤ v.tmod n) : v.tmod n = v % n := by
  have h1 := Int.tmod_eq_emod (a := v) (b := n)
  have h2 := Int.emod_lt_of_pos v h0
  split at h1
  · omega
  · have := Int.natAbs_of_nonneg (Int.le_of_lt h0); omega

theorem place (v n : Int) (w : World) (h0 : 0 < n) (h1 : n ≤ 4611686018427387904) (hv : -9223372036854775808 ≤ v) (hv2 : v ≤ 9223372036854775807) :
    Calls Try.prog 16 #[.int .i64 v, .int .i64 n] w fun e w' => e = .returned (.int .i64 (v % n)) ∧ w = w' := by
  have hb1 : -n < v.tmod n := Int.lt_tmod_of_pos v h0
  have hb2 : v.tmod n < n := Int.tmod_lt_of_pos v h0
  go_enter Try.func16, Try.ntmps16
  go_wp2
  · go_ret
    exact ⟨ret_int (tmod_lo v n h0 (by assumption)), rfl⟩
  · go_ret
    exact ⟨ret_int (tmod_hi v n h0 (by assumption)), rfl⟩

theorem fits (v : Int) (w : World) : Calls Try.prog 18 #[.int .i64 v] w fun e w' => e = .returned (.bool (fitsB v)) ∧ w = w' := by
  by_cases h1 : -536870912 ≤ v
  · by_cases h2 : v < 536870912
    · go_enter Try.func18, Try.ntmps18
      go_wp2
      go_ret
      exact ⟨ret_bool (fits_yes h1 h2).symm, rfl⟩
    · go_enter Try.func18, Try.ntmps18
      go_wp2
      go_ret
      exact ⟨ret_bool (fits_no (by omega)).symm, rfl⟩
  · go_enter Try.func18, Try.ntmps18
    go_wp2
    go_ret
    exact ⟨ret_bool (fits_no (by omega)).symm, rfl⟩
theorem rfits (v : Int) (w : World) : Calls Try.prog 53 #[.int .i64 v] w fun e w' => e = .returned (.bool (fitsB v)) ∧ w = w' := by
  by_cases h1 : -536870912 ≤ v
  · by_cases h2 : v < 536870912
    · go_enter Try.func53, Try.ntmps53
      go_wp2
      go_ret
      exact ⟨ret_bool (fits_yes h1 h2).symm, rfl⟩
    · go_enter Try.func53, Try.ntmps53
      go_wp2
      go_ret
      exact ⟨ret_bool (fits_no (by omega)).symm, rfl⟩
  · go_enter Try.func53, Try.ntmps53
    go_wp2
    go_ret
    exact ⟨ret_bool (fits_no (by omega)).symm, rfl⟩
theorem add_yes (a b : Int) (w : World) (h1 : fitsB a = true) (h2 : fitsB b = true) (h3 : fitsB (a + b) = true) : Calls Try.prog 17 #[.int .i64 a, .int .i64 b] w fun e w' => e = .returned (.tuple #[.int .i64 (a + b), .bool true]) ∧ w = w' := by
  obtain ⟨ha1, ha2⟩ := fits_of h1
  obtain ⟨hb1, hb2⟩ := fits_of h2
  go_enter Try.func17, Try.ntmps17
  go_wp2_with (go_at_call 18; refine (fits _ _).mono ?_; rintro e w' ⟨rfl, rfl⟩)
  go_ret2
  exact ⟨rfl, rfl⟩
theorem add_no (a b : Int) (w : World) (h : (fitsB a && fitsB b && fitsB (a + b)) = false) : Calls Try.prog 17 #[.int .i64 a, .int .i64 b] w fun e w' => e = .returned (.tuple #[.int .i64 0, .bool false]) ∧ w = w' := by
  cases h1 : fitsB a
  · clear h
    go_enter Try.func17, Try.ntmps17
    go_wp2_with (go_at_call 18; refine (fits _ _).mono ?_; rintro e w' ⟨rfl, rfl⟩)
    go_ret2
    exact ⟨rfl, rfl⟩
  · cases h2 : fitsB b
    · clear h
      go_enter Try.func17, Try.ntmps17
      go_wp2_with (go_at_call 18; refine (fits _ _).mono ?_; rintro e w' ⟨rfl, rfl⟩)
      go_ret2
      exact ⟨rfl, rfl⟩
    · have h3 : fitsB (a + b) = false := by simpa [h1, h2] using h
      clear h
      obtain ⟨ha1, ha2⟩ := fits_of h1
      obtain ⟨hb1, hb2⟩ := fits_of h2
      go_enter Try.func17, Try.ntmps17
      go_wp2_with (go_at_call 18; refine (fits _ _).mono ?_; rintro e w' ⟨rfl, rfl⟩)
      go_ret2
      exact ⟨rfl, rfl⟩
theorem radd_yes (a b : Int) (w : World) (h1 : fitsB a = true) (h2 : fitsB b = true) (h3 : fitsB (a + b) = true) : Calls Try.prog 47 #[.int .i64 a, .int .i64 b] w fun e w' => e = .returned (.tuple #[.int .i64 (a + b), .bool true]) ∧ w = w' := by
  obtain ⟨ha1, ha2⟩ := fits_of h1
  obtain ⟨hb1, hb2⟩ := fits_of h2
  go_enter Try.func47, Try.ntmps47
  go_wp2_with (go_at_call 53; refine (rfits _ _).mono ?_; rintro e w' ⟨rfl, rfl⟩)
  go_ret2
  exact ⟨rfl, rfl⟩
theorem radd_no (a b : Int) (w : World) (h : (fitsB a && fitsB b && fitsB (a + b)) = false) : Calls Try.prog 47 #[.int .i64 a, .int .i64 b] w fun e w' => e = .returned (.tuple #[.int .i64 0, .bool false]) ∧ w = w' := by
  cases h1 : fitsB a
  · clear h
    go_enter Try.func47, Try.ntmps47
    go_wp2_with (go_at_call 53; refine (rfits _ _).mono ?_; rintro e w' ⟨rfl, rfl⟩)
    go_ret2
    exact ⟨rfl, rfl⟩
  · cases h2 : fitsB b
    · clear h
      go_enter Try.func47, Try.ntmps47
      go_wp2_with (go_at_call 53; refine (rfits _ _).mono ?_; rintro e w' ⟨rfl, rfl⟩)
      go_ret2
      exact ⟨rfl, rfl⟩
    · have h3 : fitsB (a + b) = false := by simpa [h1, h2] using h
      clear h
      obtain ⟨ha1, ha2⟩ := fits_of h1
      obtain ⟨hb1, hb2⟩ := fits_of h2
      go_enter Try.func47, Try.ntmps47
      go_wp2_with (go_at_call 53; refine (rfits _ _).mono ?_; rintro e w' ⟨rfl, rfl⟩)
      go_ret2
      exact ⟨rfl, rfl⟩

theorem isint (v : Int) (w : World) (hv : 0 ≤ v) (hv2 : v < 4294967296) : Calls Try.prog 30 #[.int .u32 v] w fun e w' => e = .returned (.bool (isIntB v)) ∧ w = w' := by
  go_enter Try.func30, Try.ntmps30
  go_wp2
  go_ret
  refine ⟨ret_bool ?_, rfl⟩
  rw [u32_and1 v hv hv2]; unfold isIntB
  rcases Int.emod_two_eq v with h | h <;> simp [h]
theorem risint (v : Int) (w : World) (hv : 0 ≤ v) (hv2 : v < 4294967296) : Calls Try.prog 50 #[.int .u32 v] w fun e w' => e = .returned (.bool (isIntB v)) ∧ w = w' := by
  go_enter Try.func50, Try.ntmps50
  go_wp2
  go_ret
  refine ⟨ret_bool ?_, rfl⟩
  rw [u32_and1 v hv hv2]; unfold isIntB
  rcases Int.emod_two_eq v with h | h <;> simp [h]
theorem intof (v : Int) (w : World) (hv : 0 ≤ v) (hv2 : v < 4294967296) : Calls Try.prog 26 #[.int .u32 v] w fun e w' => e = .returned (.int .i64 (intOfW v)) ∧ w = w' := by
  rcases Int.emod_two_eq v with h | h
  · have hb : isIntB v = false := by simp [isIntB, h]
    have H := Lib.hid h
    clear h
    go_enter Try.func26, Try.ntmps26
    go_wp2
    refine wp_scope_jumps 0 (fun a' w' => w' = w ∧ ∃ u3 u4 u5, a' = { tmps := #[.int .u32 v, undef, .int .i64 0, u3, u4, u5, undef, undef, undef, undef], defers := [] }) (fun _ _ => 0) rfl ?_ ?_
    · go_wp2_with (go_at_call 30; refine (isint _ _ hv hv2).mono ?_; rintro e w' ⟨rfl, rfl⟩)
      go_step3
      exact ⟨rfl, rfl, _, _, _, rfl⟩
    · rintro a' w' ⟨rfl, u3, u4, u5, rfl⟩
      go_wp2
      simp only [Exit.jump]
      go_ret
      refine ⟨ret_int ?_, rfl⟩
      have := H.out
      simp [intOfW, this]
  · have hb : isIntB v = true := by simp [isIntB, h]
    have H := Lib.hid h
    clear h
    go_enter Try.func26, Try.ntmps26
    go_wp2
    refine wp_scope_straight ?_
    go_wp2_with (go_at_call 30; refine (isint _ _ hv hv2).mono ?_; rintro e w' ⟨rfl, rfl⟩)
    rw [Exit.noGoto_ret]
    go_ret
    refine ⟨ret_int ?_, rfl⟩
    unfold intOfW
    rw [if_pos H.out]
    simp only [wrap64, wrap32]
    split <;> omega
theorem refof (v : Int) (w : World) (hv : 0 ≤ v) (hv2 : v < 4294967296) : Calls Try.prog 28 #[.int .u32 v] w fun e w' => e = .returned (.int .i64 (refOfW v)) ∧ w = w' := by
  rcases Int.emod_two_eq v with h | h
  · have hb : isIntB v = false := by simp [isIntB, h]
    have H := Lib.hid h
    clear h
    go_enter Try.func28, Try.ntmps28
    go_wp2
    refine wp_scope_straight ?_
    go_wp2_with (go_at_call 30; refine (isint _ _ hv hv2).mono ?_; rintro e w' ⟨rfl, rfl⟩)
    rw [Exit.noGoto_ret]
    go_ret
    refine ⟨ret_int ?_, rfl⟩
    unfold refOfW
    have := H.out
    rw [if_neg (by omega)]
  · have hb : isIntB v = true := by simp [isIntB, h]
    have H := Lib.hid h
    clear h
    go_enter Try.func28, Try.ntmps28
    go_wp2
    refine wp_scope_jumps 0 (fun a' w' => w' = w ∧ ∃ u3 u4, a' = { tmps := #[.int .u32 v, undef, .int .i64 0, u3, u4, undef, undef, undef], defers := [] }) (fun _ _ => 0) rfl ?_ ?_
    · go_wp2_with (go_at_call 30; refine (isint _ _ hv hv2).mono ?_; rintro e w' ⟨rfl, rfl⟩)
      go_step3
      exact ⟨rfl, rfl, _, _, rfl⟩
    · rintro a' w' ⟨rfl, u3, u4, rfl⟩
      go_wp2
      simp only [Exit.jump]
      go_ret
      refine ⟨ret_int ?_, rfl⟩
      have := H.out
      simp [refOfW, this]
theorem rintof (v : Int) (w : World) (hv : 0 ≤ v) (hv2 : v < 4294967296) : Calls Try.prog 51 #[.int .u32 v] w fun e w' => e = .returned (.int .i64 (intOfW v)) ∧ w = w' := by
  rcases Int.emod_two_eq v with h | h
  · have hb : isIntB v = false := by simp [isIntB, h]
    have H := Lib.hid h
    clear h
    go_enter Try.func51, Try.ntmps51
    go_wp2_with (go_at_call 50; refine (risint _ _ hv hv2).mono ?_; rintro e w' ⟨rfl, rfl⟩)
    go_ret
    refine ⟨ret_int ?_, rfl⟩
    have := H.out
    simp [intOfW, this]
  · have hb : isIntB v = true := by simp [isIntB, h]
    have H := Lib.hid h
    clear h
    go_enter Try.func51, Try.ntmps51
    go_wp2_with (go_at_call 50; refine (risint _ _ hv hv2).mono ?_; rintro e w' ⟨rfl, rfl⟩)
    go_ret
    refine ⟨ret_int ?_, rfl⟩
    unfold intOfW
    rw [if_pos H.out]
    simp only [wrap64, wrap32]
    split <;> omega
theorem rrefof (v : Int) (w : World) (hv : 0 ≤ v) (hv2 : v < 4294967296) : Calls Try.prog 52 #[.int .u32 v] w fun e w' => e = .returned (.int .i64 (refOfW v)) ∧ w = w' := by
  rcases Int.emod_two_eq v with h | h
  · have hb : isIntB v = false := by simp [isIntB, h]
    have H := Lib.hid h
    clear h
    go_enter Try.func52, Try.ntmps52
    go_wp2_with (go_at_call 50; refine (risint _ _ hv hv2).mono ?_; rintro e w' ⟨rfl, rfl⟩)
    go_ret
    refine ⟨ret_int ?_, rfl⟩
    unfold refOfW
    have := H.out
    rw [if_neg (by omega)]
  · have hb : isIntB v = true := by simp [isIntB, h]
    have H := Lib.hid h
    clear h
    go_enter Try.func52, Try.ntmps52
    go_wp2_with (go_at_call 50; refine (risint _ _ hv hv2).mono ?_; rintro e w' ⟨rfl, rfl⟩)
    go_ret
    refine ⟨ret_int ?_, rfl⟩
    have := H.out
    simp [refOfW, this]
theorem int (v : Int) (w : World) (hv : -9223372036854775808 ≤ v) (hv2 : v ≤ 9223372036854775807) : Calls Try.prog 27 #[.int .i64 v] w fun e w' => e = .returned (.int .u32 (intW v)) ∧ w = w' := by
  go_enter Try.func27, Try.ntmps27
  go_wp2
  all_goals go_ret
  all_goals refine ⟨ret_int ?_, rfl⟩
  all_goals unfold intW cutI
  all_goals (repeat' split)
  all_goals omega
theorem ref (v : Int) (w : World) (hv : -9223372036854775808 ≤ v) (hv2 : v ≤ 9223372036854775807) : Calls Try.prog 29 #[.int .i64 v] w fun e w' => e = .returned (.int .u32 (refW v)) ∧ w = w' := by
  go_enter Try.func29, Try.ntmps29
  go_wp2
  all_goals go_ret
  all_goals refine ⟨ret_int ?_, rfl⟩
  all_goals unfold refW
  all_goals (repeat' split)
  all_goals omega
theorem or1 (x : Int) (h0 : 0 ≤ x) (h1 : x < 4294967296) (h2 : x % 2 = 0) : bits .or .u32 x 1 = x + 1 := by
  have h := u32_or_sum 1 (x / 2) 1 (by omega) (by omega) (by omega) (by omega) (by omega)
  have e : x / 2 * ((2 ^ 1 : Nat) : Int) = x := by omega
  rw [e] at h
  obtain ⟨n, rfl⟩ := Int.eq_ofNat_of_zero_le h0
  have h' := u32_or_nat 1 n (by omega) (by omega)
  have h'' := u32_or_nat n 1 (by omega) (by omega)
  rw [Nat.or_comm] at h''
  have h3 : bits .or .u32 (n : Int) 1 = bits .or .u32 1 (n : Int) := h''.trans h'.symm
  rw [h3, h]; omega
theorem rint (v : Int) (w : World) (hv : -9223372036854775808 ≤ v) (hv2 : v ≤ 9223372036854775807) : Calls Try.prog 48 #[.int .i64 v] w fun e w' => e = .returned (.int .u32 (intW v)) ∧ w = w' := by
  go_enter Try.func48, Try.ntmps48
  go_wp2
  all_goals go_ret
  all_goals refine ⟨ret_int ?_, rfl⟩
  all_goals rw [or1 _ (by omega) (by omega) (by omega)]
  all_goals unfold intW cutI
  all_goals (repeat' split)
  all_goals omega
theorem rref (v : Int) (w : World) (hv : -9223372036854775808 ≤ v) (hv2 : v ≤ 9223372036854775807) : Calls Try.prog 49 #[.int .i64 v] w fun e w' => e = .returned (.int .u32 (refW v)) ∧ w = w' := by
  go_enter Try.func49, Try.ntmps49
  go_wp2
  all_goals go_ret
  all_goals refine ⟨ret_int ?_, rfl⟩
  all_goals unfold refW
  all_goals (repeat' split)
  all_goals omega
theorem awake (w : World) : Calls Try.prog 19 #[] w fun e w' => e = .returned (.bool true) ∧ w = w' := by
  have e1 : intW (-1) = 4294967295 := by decide
  have e2 : refW 5 = 10 := by decide
  have e3 : fitsB 0 = true := by decide
  go_enter Try.func19, Try.ntmps19
  go_wp2_with (first | (go_at_call 27; refine (int _ _ (by omega) (by omega)).mono ?_; rintro e w' ⟨rfl, rfl⟩) | (go_at_call 29; refine (ref _ _ (by omega) (by omega)).mono ?_; rintro e w' ⟨rfl, rfl⟩) | (go_at_call 18; refine (fits _ _).mono ?_; rintro e w' ⟨rfl, rfl⟩))
  go_ret
  exact ⟨rfl, rfl⟩
end Go.Proofs.Ytgfgmhfggbfeeaa.Word
