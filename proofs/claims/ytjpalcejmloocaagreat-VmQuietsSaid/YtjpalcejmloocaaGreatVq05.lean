/-
  Header, Word, as one text (a claim has at most 60 files).
-/
import Derived.Test.YtjpalcejmloocaaGreatRows
import Derived.Test.YtjpalcejmloocaaGreatVq04
import Derived.Test.YtjpalcejmloocaaGreatVq01
import Derived.WalkKit
import Derived.WalkSmall
import Derived.Deep.QuietTactic
import Derived.BigQuiet
import Derived.Lib.Hide
import Derived.ScopeJumps
namespace Go.Proofs.YtjpalcejmloocaaGreat.Header
open Go.RowKit Go.Proofs.YtjpalcejmloocaaGreat.Plain
set_option linter.unusedVariables false

def pw (n : Int) : Int := if n = 22 then 4194304 else 8388608
theorem bit (b : Bool) (n : Int) (h : n = 22 ∨ n = 23) (w : World) : Calls Tryz.prog 145 #[.bool b, .int .i64 n] w fun e w' => e = .returned (.int .u32 (bitN b * pw n)) ∧ w' = w := by
  rcases h with rfl | rfl
  all_goals cases b
  all_goals
    go_enter Tryz.func145, Tryz.ntmps145
    go_wp2
    go_ret
    exact ⟨rfl, rfl⟩
set_option maxHeartbeats 1000000 in
theorem put (s f o c : Int) (fi li : Bool) (w : World) : Calls Tryz.prog 138 #[.agg #[.int .i64 s, .int .i64 f, .int .i64 o, .int .i64 c, .bool fi, .bool li]] w fun e w' => e = .returned (.int .u32 (putN s f o c fi li)) ∧ Ext w w' := by
  go_enter Tryz.func138, Tryz.ntmps138
  go_wp2
  go_quiet ((go_at_call 145; exact Calls.quiet_of_same (bit _ _ (by omega) _)))
  go_wp2
  go_ret
  exact ⟨ret_int (put_value s f o c fi li), ((Ext.refl _).alloc _).drewN _⟩
set_option maxHeartbeats 1000000 in
theorem get (v : Int) (w : World) (h0 : 0 ≤ v) (h1 : v < 4294967296) : Calls Tryz.prog 146 #[.int .u32 v] w fun e w' => e = .returned (.agg #[.int .i64 (gotS v), .int .i64 (gotF v), .int .i64 (gotO v), .int .i64 (gotC v), .bool (gotI v), .bool (gotL v)]) ∧ Ext w w' := by
  have e1 := Lib.hid (get_s v h0 h1)
  have e2 := Lib.hid (get_f v h0 h1)
  have e3 := Lib.hid (get_o v h0 h1)
  have e4 := Lib.hid (get_c v h0 h1)
  have e5 := Lib.hid (get_i v h0 h1)
  have e6 := Lib.hid (get_l v h0 h1)
  go_enter Tryz.func146, Tryz.ntmps146
  go_wp2
  refine bodyPost_ret (v := .agg #[.int .i64 (gotS v), .int .i64 (gotF v), .int .i64 (gotO v), .int .i64 (gotC v), .bool (gotI v), .bool (gotL v)]) ?_ rfl ⟨rfl, (Ext.refl _).alloc _⟩
  rw [← e1.out, ← e2.out, ← e3.out, ← e4.out, ← e5.out, ← e6.out]
  simp [results, Tryz.results146, go_sem]
end Go.Proofs.YtjpalcejmloocaaGreat.Header
namespace Go.Proofs.YtjpalcejmloocaaGreat.Word
open Go.RowKit Go.Proofs.YtjpalcejmloocaaGreat.Plain
set_option linter.unusedVariables false

theorem tmod_lo (v n : Int) (h0 : 0 < n) (h : v.tmod n < 0) : v.tmod n + n = v % n := by
  have h1 := Int.tmod_eq_emod (a := v) (b := n)
  have h2 := Int.emod_nonneg v (Int.ne_of_gt h0)
  split at h1
  · omega
  · rw [h1]; have := Int.natAbs_of_nonneg (Int.le_of_lt h0); omega
theorem tmod_hi (v n : Int) (h0 : 0 < n) (h : 0 ≤ v.tmod n) : v.tmod n = v % n := by
  have h1 := Int.tmod_eq_emod (a := v) (b := n)
  have h2 := Int.emod_lt_of_pos v h0
  split at h1
  · omega
  · have := Int.natAbs_of_nonneg (Int.le_of_lt h0); omega

theorem place (v n : Int) (w : World) (h0 : 0 < n) (h1 : n ≤ 4611686018427387904) (hv : -9223372036854775808 ≤ v) (hv2 : v ≤ 9223372036854775807) :
    Calls Tryz.prog 6 #[.int .i64 v, .int .i64 n] w fun e w' => e = .returned (.int .i64 (v % n)) ∧ w = w' := by
  have hb1 : -n < v.tmod n := Int.lt_tmod_of_pos v h0
  have hb2 : v.tmod n < n := Int.tmod_lt_of_pos v h0
  go_enter Tryz.func6, Tryz.ntmps6
  go_wp2
  · go_ret
    exact ⟨ret_int (tmod_lo v n h0 (by assumption)), rfl⟩
  · go_ret
    exact ⟨ret_int (tmod_hi v n h0 (by assumption)), rfl⟩

theorem fits (v : Int) (w : World) : Calls Tryz.prog 110 #[.int .i64 v] w fun e w' => e = .returned (.bool (fitsB v)) ∧ w = w' := by
  by_cases h1 : -536870912 ≤ v
  · by_cases h2 : v < 536870912
    · go_enter Tryz.func110, Tryz.ntmps110
      go_wp2
      go_ret
      exact ⟨ret_bool (fits_yes h1 h2).symm, rfl⟩
    · go_enter Tryz.func110, Tryz.ntmps110
      go_wp2
      go_ret
      exact ⟨ret_bool (fits_no (by omega)).symm, rfl⟩
  · go_enter Tryz.func110, Tryz.ntmps110
    go_wp2
    go_ret
    exact ⟨ret_bool (fits_no (by omega)).symm, rfl⟩
theorem rfits (v : Int) (w : World) : Calls Tryz.prog 129 #[.int .i64 v] w fun e w' => e = .returned (.bool (fitsB v)) ∧ w = w' := by
  by_cases h1 : -536870912 ≤ v
  · by_cases h2 : v < 536870912
    · go_enter Tryz.func129, Tryz.ntmps129
      go_wp2
      go_ret
      exact ⟨ret_bool (fits_yes h1 h2).symm, rfl⟩
    · go_enter Tryz.func129, Tryz.ntmps129
      go_wp2
      go_ret
      exact ⟨ret_bool (fits_no (by omega)).symm, rfl⟩
  · go_enter Tryz.func129, Tryz.ntmps129
    go_wp2
    go_ret
    exact ⟨ret_bool (fits_no (by omega)).symm, rfl⟩

theorem isint (v : Int) (w : World) (hv : 0 ≤ v) (hv2 : v < 4294967296) : Calls Tryz.prog 116 #[.int .u32 v] w fun e w' => e = .returned (.bool (isIntB v)) ∧ w = w' := by
  go_enter Tryz.func116, Tryz.ntmps116
  go_wp2
  go_ret
  refine ⟨ret_bool ?_, rfl⟩
  rw [u32_and1 v hv hv2]; unfold isIntB
  rcases Int.emod_two_eq v with h | h <;> simp [h]
theorem intof (v : Int) (w : World) (hv : 0 ≤ v) (hv2 : v < 4294967296) : Calls Tryz.prog 117 #[.int .u32 v] w fun e w' => e = .returned (.int .i64 (intOfW v)) ∧ w = w' := by
  rcases Int.emod_two_eq v with h | h
  · have hb : isIntB v = false := by simp [isIntB, h]
    have H := Lib.hid h
    clear h
    go_enter Tryz.func117, Tryz.ntmps117
    go_wp2
    refine wp_scope_jumps 0 (fun a' w' => w' = w ∧ ∃ u3 u4 u5, a' = { tmps := #[.int .u32 v, undef, .int .i64 0, u3, u4, u5, undef, undef, undef, undef], defers := [] }) (fun _ _ => 0) rfl ?_ ?_
    · go_wp2_with (go_at_call 116; refine (isint _ _ hv hv2).mono ?_; rintro e w' ⟨rfl, rfl⟩)
      go_step3
      exact ⟨rfl, rfl, _, _, _, rfl⟩
    · rintro a' w' ⟨rfl, u3, u4, u5, rfl⟩
      go_wp2
      simp only [Exit.jump]
      go_ret
      refine ⟨ret_int ?_, rfl⟩
      have := H.out
      simp [intOfW, this]
  · have hb : isIntB v = true := by simp [isIntB, h]
    have H := Lib.hid h
    clear h
    go_enter Tryz.func117, Tryz.ntmps117
    go_wp2
    refine wp_scope_straight ?_
    go_wp2_with (go_at_call 116; refine (isint _ _ hv hv2).mono ?_; rintro e w' ⟨rfl, rfl⟩)
    rw [Exit.noGoto_ret]
    go_ret
    refine ⟨ret_int ?_, rfl⟩
    unfold intOfW
    rw [if_pos H.out]
    simp only [wrap64, wrap32]
    split <;> omega
theorem refof (v : Int) (w : World) (hv : 0 ≤ v) (hv2 : v < 4294967296) : Calls Tryz.prog 118 #[.int .u32 v] w fun e w' => e = .returned (.int .i64 (refOfW v)) ∧ w = w' := by
  rcases Int.emod_two_eq v with h | h
  · have hb : isIntB v = false := by simp [isIntB, h]
    have H := Lib.hid h
    clear h
    go_enter Tryz.func118, Tryz.ntmps118
    go_wp2
    refine wp_scope_straight ?_
    go_wp2_with (go_at_call 116; refine (isint _ _ hv hv2).mono ?_; rintro e w' ⟨rfl, rfl⟩)
    rw [Exit.noGoto_ret]
    go_ret
    refine ⟨ret_int ?_, rfl⟩
    unfold refOfW
    have := H.out
    rw [if_neg (by omega)]
  · have hb : isIntB v = true := by simp [isIntB, h]
    have H := Lib.hid h
    clear h
    go_enter Tryz.func118, Tryz.ntmps118
    go_wp2
    refine wp_scope_jumps 0 (fun a' w' => w' = w ∧ ∃ u3 u4, a' = { tmps := #[.int .u32 v, undef, .int .i64 0, u3, u4, undef, undef, undef], defers := [] }) (fun _ _ => 0) rfl ?_ ?_
    · go_wp2_with (go_at_call 116; refine (isint _ _ hv hv2).mono ?_; rintro e w' ⟨rfl, rfl⟩)
      go_step3
      exact ⟨rfl, rfl, _, _, rfl⟩
    · rintro a' w' ⟨rfl, u3, u4, rfl⟩
      go_wp2
      simp only [Exit.jump]
      go_ret
      refine ⟨ret_int ?_, rfl⟩
      have := H.out
      simp [refOfW, this]
theorem int (v : Int) (w : World) (hv : -9223372036854775808 ≤ v) (hv2 : v ≤ 9223372036854775807) : Calls Tryz.prog 136 #[.int .i64 v] w fun e w' => e = .returned (.int .u32 (intW v)) ∧ w = w' := by
  go_enter Tryz.func136, Tryz.ntmps136
  go_wp2
  all_goals go_ret
  all_goals refine ⟨ret_int ?_, rfl⟩
  all_goals unfold intW cutI
  all_goals (repeat' split)
  all_goals omega
theorem ref (v : Int) (w : World) (hv : -9223372036854775808 ≤ v) (hv2 : v ≤ 9223372036854775807) : Calls Tryz.prog 139 #[.int .i64 v] w fun e w' => e = .returned (.int .u32 (refW v)) ∧ w = w' := by
  go_enter Tryz.func139, Tryz.ntmps139
  go_wp2
  all_goals go_ret
  all_goals refine ⟨ret_int ?_, rfl⟩
  all_goals unfold refW
  all_goals (repeat' split)
  all_goals omega
end Go.Proofs.YtjpalcejmloocaaGreat.Word
