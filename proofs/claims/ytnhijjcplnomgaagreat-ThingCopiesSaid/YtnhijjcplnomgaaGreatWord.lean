/-
  Contracts of package word, of its reference, and of colloquylaw00.Place.
-/
import Derived.Test.YtnhijjcplnomgaaGreatRows
import Derived.Test.YtnhijjcplnomgaaGreatPlain
import Derived.WalkKit
import Derived.ScopeJumps
import Derived.Lib.Hide
namespace Go.Proofs.YtnhijjcplnomgaaGreat.Word
open Go.RowKit Go.Proofs.YtnhijjcplnomgaaGreat.Plain
set_option linter.unusedVariables false

theorem tmod_lo (v n : Int) (h0 : 0 < n) (h : v.tmod n < 0) : v.tmod n + n = v % n := by
  have h1 := Int.tmod_eq_emod (a := v) (b := n)
  have h2 := Int.emod_nonneg v (Int.ne_of_gt h0)
  split at h1
  · omega
  · rw [h1]; have := Int.natAbs_of_nonneg (Int.le_of_lt h0); omega
theorem tmod_hi (v n : Int) (h0 : 0 < n) (h : 0 ≤ v.tmod n) : v.tmod n = v % n := by
  have h1 := Int.tmod_eq_emod (a := v) (b := n)
  have h2 := Int.emod_lt_of_pos v h0
  split at h1
  · omega
  · have := Int.natAbs_of_nonneg (Int.le_of_lt h0); omega

theorem place (v n : Int) (w : World) (h0 : 0 < n) (h1 : n ≤ 4611686018427387904) (hv : -9223372036854775808 ≤ v) (hv2 : v ≤ 9223372036854775807) :
    Calls Tryz.prog 13 #[.int .i64 v, .int .i64 n] w fun e w' => e = .returned (.int .i64 (v % n)) ∧ w = w' := by
  have hb1 : -n < v.tmod n := Int.lt_tmod_of_pos v h0
  have hb2 : v.tmod n < n := Int.tmod_lt_of_pos v h0
  go_enter Tryz.func13, Tryz.ntmps13
  go_wp2
  · go_ret
    exact ⟨ret_int (tmod_lo v n h0 (by assumption)), rfl⟩
  · go_ret
    exact ⟨ret_int (tmod_hi v n h0 (by assumption)), rfl⟩

theorem fits (v : Int) (w : World) : Calls Tryz.prog 88 #[.int .i64 v] w fun e w' => e = .returned (.bool (fitsB v)) ∧ w = w' := by
  by_cases h1 : -536870912 ≤ v
  · by_cases h2 : v < 536870912
    · go_enter Tryz.func88, Tryz.ntmps88
      go_wp2
      go_ret
      exact ⟨ret_bool (fits_yes h1 h2).symm, rfl⟩
    · go_enter Tryz.func88, Tryz.ntmps88
      go_wp2
      go_ret
      exact ⟨ret_bool (fits_no (by omega)).symm, rfl⟩
  · go_enter Tryz.func88, Tryz.ntmps88
    go_wp2
    go_ret
    exact ⟨ret_bool (fits_no (by omega)).symm, rfl⟩

theorem or1 (x : Int) (h0 : 0 ≤ x) (h1 : x < 4294967296) (h2 : x % 2 = 0) : bits .or .u32 x 1 = x + 1 := by
  have h := u32_or_sum 1 (x / 2) 1 (by omega) (by omega) (by omega) (by omega) (by omega)
  have e : x / 2 * ((2 ^ 1 : Nat) : Int) = x := by omega
  rw [e] at h
  obtain ⟨n, rfl⟩ := Int.eq_ofNat_of_zero_le h0
  have h' := u32_or_nat 1 n (by omega) (by omega)
  have h'' := u32_or_nat n 1 (by omega) (by omega)
  rw [Nat.or_comm] at h''
  have h3 : bits .or .u32 (n : Int) 1 = bits .or .u32 1 (n : Int) := h''.trans h'.symm
  rw [h3, h]; omega
end Go.Proofs.YtnhijjcplnomgaaGreat.Word
