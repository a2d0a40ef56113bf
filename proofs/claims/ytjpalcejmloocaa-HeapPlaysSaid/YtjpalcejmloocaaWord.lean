/-
  Contracts of package word, of its reference, and of colloquylaw00.Place.
-/
import Derived.Test.YtjpalcejmloocaaRows
import Derived.Test.YtjpalcejmloocaaPlain
import Derived.WalkKit
import Derived.ScopeJumps
import Derived.Lib.Hide
namespace Go.Proofs.Ytjpalcejmloocaa.Word
open Go.RowKit Go.Proofs.Ytjpalcejmloocaa.Plain
set_option linter.unusedVariables false

theorem tmod_lo (v n : Int) (h0 : 0 < n) (h : v.tmod n < 0) : v.tmod n + n = v % n := by
  have h1 := Int.tmod_eq_emod (a := v) (b := n)
  have h2 := Int.emod_nonneg v (Int.ne_of_gt h0)
  split at h1
  · omega
  · rw [h1]; have := Int.natAbs_of_nonneg (Int.le_of_lt h0); omega
theorem tmod_hi (v n : Int) (h0 : 0 < n) (h : 0 ≤ v.tmod n) : v.tmod n = v % n := by
  have h1 := Int.tmod_eq_emod (a := v) (b := n)
  have h2 := Int.emod_lt_of_pos v h0
  split at h1
  · omega
  · have := Int.natAbs_of_nonneg (Int.le_of_lt h0); omega

theorem place (v n : Int) (w : World) (h0 : 0 < n) (h1 : n ≤ 4611686018427387904) (hv : -9223372036854775808 ≤ v) (hv2 : v ≤ 9223372036854775807) :
    Calls Try.prog 7 #[.int .i64 v, .int .i64 n] w fun e w' => e = .returned (.int .i64 (v % n)) ∧ w = w' := by
  have hb1 : -n < v.tmod n := Int.lt_tmod_of_pos v h0
  have hb2 : v.tmod n < n := Int.tmod_lt_of_pos v h0
  go_enter Try.func7, Try.ntmps7
  go_wp2
  · go_ret
    exact ⟨ret_int (tmod_lo v n h0 (by assumption)), rfl⟩
  · go_ret
    exact ⟨ret_int (tmod_hi v n h0 (by assumption)), rfl⟩


theorem isint (v : Int) (w : World) (hv : 0 ≤ v) (hv2 : v < 4294967296) : Calls Try.prog 64 #[.int .u32 v] w fun e w' => e = .returned (.bool (isIntB v)) ∧ w = w' := by
  go_enter Try.func64, Try.ntmps64
  go_wp2
  go_ret
  refine ⟨ret_bool ?_, rfl⟩
  rw [u32_and1 v hv hv2]; unfold isIntB
  rcases Int.emod_two_eq v with h | h <;> simp [h]
theorem intof (v : Int) (w : World) (hv : 0 ≤ v) (hv2 : v < 4294967296) : Calls Try.prog 59 #[.int .u32 v] w fun e w' => e = .returned (.int .i64 (intOfW v)) ∧ w = w' := by
  rcases Int.emod_two_eq v with h | h
  · have hb : isIntB v = false := by simp [isIntB, h]
    have H := Lib.hid h
    clear h
    go_enter Try.func59, Try.ntmps59
    go_wp2
    refine wp_scope_jumps 0 (fun a' w' => w' = w ∧ ∃ u3 u4 u5, a' = { tmps := #[.int .u32 v, undef, .int .i64 0, u3, u4, u5, undef, undef, undef, undef], defers := [] }) (fun _ _ => 0) rfl ?_ ?_
    · go_wp2_with (go_at_call 64; refine (isint _ _ hv hv2).mono ?_; rintro e w' ⟨rfl, rfl⟩)
      go_step3
      exact ⟨rfl, rfl, _, _, _, rfl⟩
    · rintro a' w' ⟨rfl, u3, u4, u5, rfl⟩
      go_wp2
      simp only [Exit.jump]
      go_ret
      refine ⟨ret_int ?_, rfl⟩
      have := H.out
      simp [intOfW, this]
  · have hb : isIntB v = true := by simp [isIntB, h]
    have H := Lib.hid h
    clear h
    go_enter Try.func59, Try.ntmps59
    go_wp2
    refine wp_scope_straight ?_
    go_wp2_with (go_at_call 64; refine (isint _ _ hv hv2).mono ?_; rintro e w' ⟨rfl, rfl⟩)
    rw [Exit.noGoto_ret]
    go_ret
    refine ⟨ret_int ?_, rfl⟩
    unfold intOfW
    rw [if_pos H.out]
    simp only [wrap64, wrap32]
    split <;> omega
theorem refof (v : Int) (w : World) (hv : 0 ≤ v) (hv2 : v < 4294967296) : Calls Try.prog 58 #[.int .u32 v] w fun e w' => e = .returned (.int .i64 (refOfW v)) ∧ w = w' := by
  rcases Int.emod_two_eq v with h | h
  · have hb : isIntB v = false := by simp [isIntB, h]
    have H := Lib.hid h
    clear h
    go_enter Try.func58, Try.ntmps58
    go_wp2
    refine wp_scope_straight ?_
    go_wp2_with (go_at_call 64; refine (isint _ _ hv hv2).mono ?_; rintro e w' ⟨rfl, rfl⟩)
    rw [Exit.noGoto_ret]
    go_ret
    refine ⟨ret_int ?_, rfl⟩
    unfold refOfW
    have := H.out
    rw [if_neg (by omega)]
  · have hb : isIntB v = true := by simp [isIntB, h]
    have H := Lib.hid h
    clear h
    go_enter Try.func58, Try.ntmps58
    go_wp2
    refine wp_scope_jumps 0 (fun a' w' => w' = w ∧ ∃ u3 u4, a' = { tmps := #[.int .u32 v, undef, .int .i64 0, u3, u4, undef, undef, undef], defers := [] }) (fun _ _ => 0) rfl ?_ ?_
    · go_wp2_with (go_at_call 64; refine (isint _ _ hv hv2).mono ?_; rintro e w' ⟨rfl, rfl⟩)
      go_step3
      exact ⟨rfl, rfl, _, _, rfl⟩
    · rintro a' w' ⟨rfl, u3, u4, rfl⟩
      go_wp2
      simp only [Exit.jump]
      go_ret
      refine ⟨ret_int ?_, rfl⟩
      have := H.out
      simp [refOfW, this]
theorem int (v : Int) (w : World) (hv : -9223372036854775808 ≤ v) (hv2 : v ≤ 9223372036854775807) : Calls Try.prog 28 #[.int .i64 v] w fun e w' => e = .returned (.int .u32 (intW v)) ∧ w = w' := by
  go_enter Try.func28, Try.ntmps28
  go_wp2
  all_goals go_ret
  all_goals refine ⟨ret_int ?_, rfl⟩
  all_goals unfold intW cutI
  all_goals (repeat' split)
  all_goals omega
theorem ref (v : Int) (w : World) (hv : -9223372036854775808 ≤ v) (hv2 : v ≤ 9223372036854775807) : Calls Try.prog 31 #[.int .i64 v] w fun e w' => e = .returned (.int .u32 (refW v)) ∧ w = w' := by
  go_enter Try.func31, Try.ntmps31
  go_wp2
  all_goals go_ret
  all_goals refine ⟨ret_int ?_, rfl⟩
  all_goals unfold refW
  all_goals (repeat' split)
  all_goals omega
theorem or1 (x : Int) (h0 : 0 ≤ x) (h1 : x < 4294967296) (h2 : x % 2 = 0) : bits .or .u32 x 1 = x + 1 := by
  have h := u32_or_sum 1 (x / 2) 1 (by omega) (by omega) (by omega) (by omega) (by omega)
  have e : x / 2 * ((2 ^ 1 : Nat) : Int) = x := by omega
  rw [e] at h
  obtain ⟨n, rfl⟩ := Int.eq_ofNat_of_zero_le h0
  have h' := u32_or_nat 1 n (by omega) (by omega)
  have h'' := u32_or_nat n 1 (by omega) (by omega)
  rw [Nat.or_comm] at h''
  have h3 : bits .or .u32 (n : Int) 1 = bits .or .u32 1 (n : Int) := h''.trans h'.symm
  rw [h3, h]; omega
theorem rint (v : Int) (w : World) (hv : -9223372036854775808 ≤ v) (hv2 : v ≤ 9223372036854775807) : Calls Try.prog 33 #[.int .i64 v] w fun e w' => e = .returned (.int .u32 (intW v)) ∧ w = w' := by
  go_enter Try.func33, Try.ntmps33
  go_wp2
  all_goals go_ret
  all_goals refine ⟨ret_int ?_, rfl⟩
  all_goals rw [or1 _ (by omega) (by omega) (by omega)]
  all_goals unfold intW cutI
  all_goals (repeat' split)
  all_goals omega
end Go.Proofs.Ytjpalcejmloocaa.Word
