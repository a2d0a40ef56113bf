/-
  Word, as one text (a claim has at most 60 files).
-/
import Derived.Test.YtjpalcejmloocaaGreatRows
import Derived.Test.YtjpalcejmloocaaGreatCt01
import Derived.WalkKit
import Derived.ScopeJumps
import Derived.Lib.Hide
namespace Go.Proofs.YtjpalcejmloocaaGreat.Word
open Go.RowKit Go.Proofs.YtjpalcejmloocaaGreat.Plain
set_option linter.unusedVariables false

theorem tmod_lo (v n : Int) (h0 : 0 < n) (h : v.tmod n < 0) : v.tmod n + n = v % n := by
  have h1 := Int.tmod_eq_emod (a := v) (b := n)
  have h2 := Int.emod_nonneg v (Int.ne_of_gt h0)
  split at h1
  · omega
  · rw [h1]; have := Int.natAbs_of_nonneg (Int.le_of_lt h0); omega
theorem tmod_hi (v n : Int) (h0 : 0 < n) (h : 0 ≤ v.tmod n) : v.tmod n = v % n := by
  have h1 := Int.tmod_eq_emod (a := v) (b := n)
  have h2 := Int.emod_lt_of_pos v h0
  split at h1
  · omega
  · have := Int.natAbs_of_nonneg (Int.le_of_lt h0); omega

theorem place (v n : Int) (w : World) (h0 : 0 < n) (h1 : n ≤ 4611686018427387904) (hv : -9223372036854775808 ≤ v) (hv2 : v ≤ 9223372036854775807) :
    Calls Tryz.prog 6 #[.int .i64 v, .int .i64 n] w fun e w' => e = .returned (.int .i64 (v % n)) ∧ w = w' := by
  have hb1 : -n < v.tmod n := Int.lt_tmod_of_pos v h0
  have hb2 : v.tmod n < n := Int.tmod_lt_of_pos v h0
  go_enter Tryz.func6, Tryz.ntmps6
  go_wp2
  · go_ret
    exact ⟨ret_int (tmod_lo v n h0 (by assumption)), rfl⟩
  · go_ret
    exact ⟨ret_int (tmod_hi v n h0 (by assumption)), rfl⟩

theorem fits (v : Int) (w : World) : Calls Tryz.prog 110 #[.int .i64 v] w fun e w' => e = .returned (.bool (fitsB v)) ∧ w = w' := by
  by_cases h1 : -536870912 ≤ v
  · by_cases h2 : v < 536870912
    · go_enter Tryz.func110, Tryz.ntmps110
      go_wp2
      go_ret
      exact ⟨ret_bool (fits_yes h1 h2).symm, rfl⟩
    · go_enter Tryz.func110, Tryz.ntmps110
      go_wp2
      go_ret
      exact ⟨ret_bool (fits_no (by omega)).symm, rfl⟩
  · go_enter Tryz.func110, Tryz.ntmps110
    go_wp2
    go_ret
    exact ⟨ret_bool (fits_no (by omega)).symm, rfl⟩
theorem rfits (v : Int) (w : World) : Calls Tryz.prog 129 #[.int .i64 v] w fun e w' => e = .returned (.bool (fitsB v)) ∧ w = w' := by
  by_cases h1 : -536870912 ≤ v
  · by_cases h2 : v < 536870912
    · go_enter Tryz.func129, Tryz.ntmps129
      go_wp2
      go_ret
      exact ⟨ret_bool (fits_yes h1 h2).symm, rfl⟩
    · go_enter Tryz.func129, Tryz.ntmps129
      go_wp2
      go_ret
      exact ⟨ret_bool (fits_no (by omega)).symm, rfl⟩
  · go_enter Tryz.func129, Tryz.ntmps129
    go_wp2
    go_ret
    exact ⟨ret_bool (fits_no (by omega)).symm, rfl⟩

theorem isint (v : Int) (w : World) (hv : 0 ≤ v) (hv2 : v < 4294967296) : Calls Tryz.prog 116 #[.int .u32 v] w fun e w' => e = .returned (.bool (isIntB v)) ∧ w = w' := by
  go_enter Tryz.func116, Tryz.ntmps116
  go_wp2
  go_ret
  refine ⟨ret_bool ?_, rfl⟩
  rw [u32_and1 v hv hv2]; unfold isIntB
  rcases Int.emod_two_eq v with h | h <;> simp [h]
theorem intof (v : Int) (w : World) (hv : 0 ≤ v) (hv2 : v < 4294967296) : Calls Tryz.prog 117 #[.int .u32 v] w fun e w' => e = .returned (.int .i64 (intOfW v)) ∧ w = w' := by
  rcases Int.emod_two_eq v with h | h
  · have hb : isIntB v = false := by simp [isIntB, h]
    have H := Lib.hid h
    clear h
    go_enter Tryz.func117, Tryz.ntmps117
    go_wp2
    refine wp_scope_jumps 0 (fun a' w' => w' = w ∧ ∃ u3 u4 u5, a' = { tmps := #[.int .u32 v, undef, .int .i64 0, u3, u4, u5, undef, undef, undef, undef], defers := [] }) (fun _ _ => 0) rfl ?_ ?_
    · go_wp2_with (go_at_call 116; refine (isint _ _ hv hv2).mono ?_; rintro e w' ⟨rfl, rfl⟩)
      go_step3
      exact ⟨rfl, rfl, _, _, _, rfl⟩
    · rintro a' w' ⟨rfl, u3, u4, u5, rfl⟩
      go_wp2
      simp only [Exit.jump]
      go_ret
      refine ⟨ret_int ?_, rfl⟩
      have := H.out
      simp [intOfW, this]
  · have hb : isIntB v = true := by simp [isIntB, h]
    have H := Lib.hid h
    clear h
    go_enter Tryz.func117, Tryz.ntmps117
    go_wp2
    refine wp_scope_straight ?_
    go_wp2_with (go_at_call 116; refine (isint _ _ hv hv2).mono ?_; rintro e w' ⟨rfl, rfl⟩)
    rw [Exit.noGoto_ret]
    go_ret
    refine ⟨ret_int ?_, rfl⟩
    unfold intOfW
    rw [if_pos H.out]
    simp only [wrap64, wrap32]
    split <;> omega
theorem refof (v : Int) (w : World) (hv : 0 ≤ v) (hv2 : v < 4294967296) : Calls Tryz.prog 118 #[.int .u32 v] w fun e w' => e = .returned (.int .i64 (refOfW v)) ∧ w = w' := by
  rcases Int.emod_two_eq v with h | h
  · have hb : isIntB v = false := by simp [isIntB, h]
    have H := Lib.hid h
    clear h
    go_enter Tryz.func118, Tryz.ntmps118
    go_wp2
    refine wp_scope_straight ?_
    go_wp2_with (go_at_call 116; refine (isint _ _ hv hv2).mono ?_; rintro e w' ⟨rfl, rfl⟩)
    rw [Exit.noGoto_ret]
    go_ret
    refine ⟨ret_int ?_, rfl⟩
    unfold refOfW
    have := H.out
    rw [if_neg (by omega)]
  · have hb : isIntB v = true := by simp [isIntB, h]
    have H := Lib.hid h
    clear h
    go_enter Tryz.func118, Tryz.ntmps118
    go_wp2
    refine wp_scope_jumps 0 (fun a' w' => w' = w ∧ ∃ u3 u4, a' = { tmps := #[.int .u32 v, undef, .int .i64 0, u3, u4, undef, undef, undef], defers := [] }) (fun _ _ => 0) rfl ?_ ?_
    · go_wp2_with (go_at_call 116; refine (isint _ _ hv hv2).mono ?_; rintro e w' ⟨rfl, rfl⟩)
      go_step3
      exact ⟨rfl, rfl, _, _, rfl⟩
    · rintro a' w' ⟨rfl, u3, u4, rfl⟩
      go_wp2
      simp only [Exit.jump]
      go_ret
      refine ⟨ret_int ?_, rfl⟩
      have := H.out
      simp [refOfW, this]
theorem int (v : Int) (w : World) (hv : -9223372036854775808 ≤ v) (hv2 : v ≤ 9223372036854775807) : Calls Tryz.prog 136 #[.int .i64 v] w fun e w' => e = .returned (.int .u32 (intW v)) ∧ w = w' := by
  go_enter Tryz.func136, Tryz.ntmps136
  go_wp2
  all_goals go_ret
  all_goals refine ⟨ret_int ?_, rfl⟩
  all_goals unfold intW cutI
  all_goals (repeat' split)
  all_goals omega
theorem ref (v : Int) (w : World) (hv : -9223372036854775808 ≤ v) (hv2 : v ≤ 9223372036854775807) : Calls Tryz.prog 139 #[.int .i64 v] w fun e w' => e = .returned (.int .u32 (refW v)) ∧ w = w' := by
  go_enter Tryz.func139, Tryz.ntmps139
  go_wp2
  all_goals go_ret
  all_goals refine ⟨ret_int ?_, rfl⟩
  all_goals unfold refW
  all_goals (repeat' split)
  all_goals omega
theorem or1 (x : Int) (h0 : 0 ≤ x) (h1 : x < 4294967296) (h2 : x % 2 = 0) : bits .or .u32 x 1 = x + 1 := by
  have h := u32_or_sum 1 (x / 2) 1 (by omega) (by omega) (by omega) (by omega) (by omega)
  have e : x / 2 * ((2 ^ 1 : Nat) : Int) = x := by omega
  rw [e] at h
  obtain ⟨n, rfl⟩ := Int.eq_ofNat_of_zero_le h0
  have h' := u32_or_nat 1 n (by omega) (by omega)
  have h'' := u32_or_nat n 1 (by omega) (by omega)
  rw [Nat.or_comm] at h''
  have h3 : bits .or .u32 (n : Int) 1 = bits .or .u32 1 (n : Int) := h''.trans h'.symm
  rw [h3, h]; omega
end Go.Proofs.YtjpalcejmloocaaGreat.Word
