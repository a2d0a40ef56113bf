/-
  The walk of NumberNone.
-/
import Derived.Test.YtabknckaoeifhaaNumberLaws
namespace Go.Proofs.Ytabknckaoeifhaa.NumberLaws
open Go.RowKit Go.Proofs.Ytabknckaoeifhaa.Plain Go.Proofs.Ytabknckaoeifhaa.Word Go.Proofs.Ytabknckaoeifhaa.Number
set_option linter.unusedVariables false

theorem names_some : ∀ i : Fin 15, (nms.getD i.val ⟨#[]⟩).toList ≠ [] := by decide +kernel
theorem names_apart : ∀ i j : Fin 15, j.val < i.val → (nms.getD i.val ⟨#[]⟩).toList ≠ (nms.getD j.val ⟨#[]⟩).toList := by decide +kernel
theorem name_some (i : Nat) (h : i < 15) : (nameB ((i : Int) + 1)).toList ≠ [] := by rw [nameB_in i h]; exact names_some ⟨i, h⟩
theorem name_apart (i j : Nat) (h : i < 15) (hj : j < i) : (nameB ((i : Int) + 1)).toList ≠ (nameB ((j : Int) + 1)).toList := by
  rw [nameB_in i h, nameB_in j (by omega)]; exact names_apart ⟨i, h⟩ ⟨j, by omega⟩ hj
theorem opT_else (n a b : Int) (h : n < 1 ∨ 15 < n) : opT n a b = (false, 0, false) := by
  unfold opT
  split
  · unfold numT
    repeat rw [if_neg (by omega)]
    rfl
  · rfl

set_option maxRecDepth 100000 in
set_option maxHeartbeats 4000000 in
theorem none_core (a0 a1 a2 A B K : Int) (w : World) (x1 : -9223372036854775808 ≤ a0) (x2 : a0 ≤ 9223372036854775807) (y1 : -9223372036854775808 ≤ a1) (y2 : a1 ≤ 9223372036854775807) (z1 : -9223372036854775808 ≤ a2) (z2 : a2 ≤ 9223372036854775807)
    (eA : 536870912 + a1 % 1000 = A) (eB : -536870913 - a2 % 1000 = B) (eK : 16 + a0 % 1000 = K) (k0 : 16 ≤ K) (k1 : K ≤ 1015)
    (t1 : opT a0 A 1 = (false, 0, false)) (t2 : opT a0 1 B = (false, 0, false)) (t3 : opT K 1 1 = (false, 0, false)) (t4 : opT (-K) 1 1 = (false, 0, false))
    (nK : nameB K = ⟨#[]⟩) (n0 : nameB 0 = ⟨#[]⟩) :
    Calls Try.prog 14 #[.int .i64 a0, .int .i64 a1, .int .i64 a2] w fun e w' => e = .returned (.bool true) ∧ Below w.heap.size w w' := by
  have T1 := Lib.hid t1
  have T2 := Lib.hid t2
  have T3 := Lib.hid t3
  have T4 := Lib.hid t4
  clear t1 t2 t3 t4
  go_enter Try.func14, Try.ntmps14
  go_wp2_with (go_at_call 19; refine (place _ _ _ (by omega) (by omega) (by omega) (by omega)).mono ?_; rintro e w' ⟨rfl, rfl⟩)
  refine (opv T1.out _).mono ?_
  rintro e w1 ⟨rfl, x1⟩
  go_wp2_with (go_at_call 19; refine (place _ _ _ (by omega) (by omega) (by omega) (by omega)).mono ?_; rintro e w' ⟨rfl, rfl⟩)
  refine (opv T2.out _).mono ?_
  rintro e w2 ⟨rfl, x2⟩
  have E2 : Ext w w2 := (x1.alloc _).trans x2
  go_wp2_with (go_at_call 19; refine (place _ _ _ (by omega) (by omega) (by omega) (by omega)).mono ?_; rintro e w' ⟨rfl, rfl⟩)
  refine (opv T3.out _).mono ?_
  rintro e w3 ⟨rfl, x3⟩
  have E3 : Ext w w3 := (E2.alloc _).trans x3
  go_wp2_with fail
  refine (opv T4.out _).mono ?_
  rintro e w4 ⟨rfl, x4⟩
  have E4 : Ext w w4 := (E3.alloc _).trans x4
  clear x1 x2 E2 x3 E3 x4
  go_wp2_with fail
  go_loopw [16, 17] (fun i _ wr => ∃ k : Nat, k ≤ 15 ∧ i = .int .i64 ((k : Int) + 1) ∧ Ext w wr) (fun i _ _ => (16 - intOf i).toNat)
  case atStart => exact ⟨0, by omega, rfl, E4.alloc _⟩
  case round =>
    obtain ⟨k, hk, rfl, E⟩ := hrel
    by_cases hlt : k < 15
    · have d15 : decide ((k : Int) + 1 ≤ 15) = true := by simp; omega
      go_wp2_with fail
      obtain ⟨wo, ho⟩ : ∃ wo : World, wo = wr := ⟨_, rfl⟩
      have nk : ((nameB ((k : Int) + 1)).toList == []) = false := by simpa using name_some k hlt
      have nk' : (nameB ((k : Int) + 1)).toList.isEmpty = false := by
        have := name_some k hlt
        cases h : (nameB ((k : Int) + 1)).toList with
        | nil => exact absurd h this
        | cons _ _ => rfl
      go_loopw [17] (fun i wr => ∃ j : Nat, j ≤ k ∧ i = .int .i64 ((j : Int) + 1) ∧ Ext w wr) (fun i _ => (16 - intOf i).toNat)
      case atStart => exact ⟨0, by omega, rfl, E⟩
      case round =>
        obtain ⟨j, hj, rfl, E⟩ := hrel
        by_cases hjk : j < k
        · have na : ((nameB ((k : Int) + 1)).toList == (nameB ((j : Int) + 1)).toList) = false := by simpa using name_apart k j hlt hjk
          go_wp2_with fail
          refine (name _ _).mono ?_
          rintro e v1 ⟨rfl, x1⟩
          go_wp2_with fail
          refine (name _ _).mono ?_
          rintro e v2 ⟨rfl, x2⟩
          go_wp2_with fail
          refine (name _ _).mono ?_
          rintro e v3 ⟨rfl, x3⟩
          go_wp2_with fail
          go_roundw
          case rel => exact ⟨j + 1, by omega, by go_num, ((E.trans x1).trans x2).trans x3⟩
          case measure => simp [intOf]; omega
        · go_wp2_with fail
          go_roundw
          case rel => exact ⟨k + 1, by omega, by go_num, E⟩
          case measure => simp [intOf]; omega
    · have hk15 : k = 15 := by omega
      subst hk15
      go_wp2_with fail
      refine (name _ _).mono ?_
      rintro e v1 ⟨rfl, x1⟩
      rw [nK]
      go_wp2_with fail
      refine (name _ _).mono ?_
      rintro e v2 ⟨rfl, x2⟩
      rw [n0]
      go_wp2_with fail
      refine (awake _).mono ?_
      rintro e v3 ⟨rfl, x3⟩
      go_wp2_with fail
      go_ret
      exact ⟨rfl, (((E.trans x1).trans x2).trans x3).below⟩
theorem numberNone (a0 a1 a2 : Int) (w0 : (Lit.int .i64 a0).wf = true) (w1 : (Lit.int .i64 a1).wf = true) (w2 : (Lit.int .i64 a2).wf = true) (w : World) :
    Calls Try.prog 14 #[.int .i64 a0, .int .i64 a1, .int .i64 a2] w fun e w' => e = .returned (.bool true) ∧ Below w.heap.size w w' := by
  obtain ⟨x1, x2⟩ := bounds_i64 w0
  obtain ⟨y1, y2⟩ := bounds_i64 w1
  obtain ⟨z1, z2⟩ := bounds_i64 w2
  exact none_core a0 a1 a2 _ _ _ w x1 x2 y1 y2 z1 z2 rfl rfl rfl (by omega) (by omega) (opT_no (.inl (fits_no (by omega)))) (opT_no (.inr (fits_no (by omega)))) (opT_else _ _ _ (by omega)) (opT_else _ _ _ (by omega)) (nameB_out _ (by omega)) (nameB_out _ (by omega))
end Go.Proofs.Ytabknckaoeifhaa.NumberLaws
