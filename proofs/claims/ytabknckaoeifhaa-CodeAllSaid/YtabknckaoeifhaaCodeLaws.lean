/-
  The walks of CodeNames and CodePieces (chapter 13).
-/
import Derived.Test.YtabknckaoeifhaaCode2
namespace Go.Proofs.Ytabknckaoeifhaa.Code
open Go.RowKit Go.Proofs.Ytabknckaoeifhaa.Plain
set_option linter.unusedVariables false

theorem sameB_data (a b : ByteArray) : sameB a b = (a.data.toList == b.data.toList) := by unfold sameB; rw [ByteArray.toList_eq, ByteArray.toList_eq]
def findD (l : List ByteArray) (s : ByteArray) : Int := match l.findIdx? (fun b => s.data.toList == b.data.toList) with | some k => (k : Int) | none => -1
theorem find_data (l : List ByteArray) (s : ByteArray) : findI l s = findD l s := by
  unfold findI findD
  rw [show sameB s = (fun b => s.data.toList == b.data.toList) from funext (sameB_data s)]
  cases l.findIdx? (fun b => s.data.toList == b.data.toList) <;> rfl
theorem op_data (s : ByteArray) : opI s = findD nms s + 1 := by unfold opI; rw [find_data]
theorem nms_ok (k : Nat) (h : k < 22) : (nms.getD k ⟨#[]⟩).toList ≠ [] ∧ opI (nms.getD k ⟨#[]⟩) = (k : Int) + 1 := by
  rw [op_data, ByteArray.toList_eq]
  rcases lt22 h with rfl | rfl | rfl | rfl | rfl | rfl | rfl | rfl | rfl | rfl | rfl | rfl | rfl | rfl | rfl | rfl | rfl | rfl | rfl | rfl | rfl | rfl
  all_goals decide +kernel
theorem op_send : opI ⟨#[115, 101, 110, 100]⟩ = 11 := by rw [op_data]; decide +kernel
theorem op_none : opI ⟨#[]⟩ = 0 := by rw [op_data]; decide +kernel
theorem op_Send : opI ⟨#[83, 101, 110, 100]⟩ = 0 := by rw [op_data]; decide +kernel
theorem name9 (w : World) : Calls Try.prog 15 #[.int .i64 9] w fun e w' => e = .returned (.string ⟨#[105, 110, 116]⟩) ∧ Ext w w' := name_in 8 (by omega) w
theorem cop_at {s : ByteArray} {n : Int} (h : opI s = n) (w : World) : Calls Try.prog 17 #[.string s] w fun e w' => e = .returned (.int .i64 n) ∧ Ext w w' := by rw [← h]; exact cop w s
theorem cget0 (w : World) : Calls Try.prog 21 #[.string ⟨#[9, 129, 0]⟩, .int .i64 0] w fun e w' => e = .returned (.tuple #[.agg #[.int .i64 9, .int .i64 129, .int .i64 0], .bool true]) ∧ Ext w w' :=
  cget_in w ⟨#[9, 129, 0]⟩ (by decide) 0 (by decide)
theorem awake (w : World) : Calls Try.prog 18 #[] w fun e w' => e = .returned (.bool true) ∧ Ext w w' := by
  go_enter Try.func18, Try.ntmps18
  go_wp2_with fail
  refine (cget0 _).mono ?_
  rintro e w1 ⟨rfl, x1⟩
  go_wp2_with fail
  refine (name9 _).mono ?_
  rintro e w2 ⟨rfl, x2⟩
  go_wp2_with fail
  refine (cop_at op_send _).mono ?_
  rintro e w3 ⟨rfl, x3⟩
  go_wp2_with fail
  go_ret
  exact ⟨rfl, (((x1.alloc _).trans x2).trans x3)⟩
set_option maxHeartbeats 2000000 in
theorem codeNames (w : World) : Calls Try.prog 3 #[] w fun e w' => e = .returned (.bool true) ∧ Below w.heap.size w w' := by
  go_enter Try.func3, Try.ntmps3
  go_wp2
  go_loopw [1] (fun i wr => ∃ k : Nat, k ≤ 27 ∧ i = .int .i64 ((k : Int) - 2) ∧ Ext w wr) (fun i _ => (25 - intOf i).toNat)
  case atStart => exact ⟨0, Nat.zero_le _, rfl, Ext.refl _⟩
  case round =>
    obtain ⟨k, hk, rfl, hx⟩ := hrel
    by_cases hlt : k < 27
    · by_cases h1 : k < 3
      · go_wp2_with fail
        refine (name_lo _ (by omega) _).mono ?_
        rintro e w1 ⟨rfl, x1⟩
        go_wp2_with fail
        refine (rname_lo _ (by omega) _).mono ?_
        rintro e w2 ⟨rfl, x2⟩
        have d1 : decide ((k : Int) - 2 < 1) = true := by simp; omega
        go_wp2_with fail
        go_roundw
        case rel => exact ⟨k + 1, by omega, by go_num, (hx.trans x1).trans x2⟩
        case measure => simp [intOf]; omega
      · by_cases h2 : k < 25
        · obtain ⟨j, rfl⟩ : ∃ j, k = j + 3 := ⟨k - 3, by omega⟩
          have e1 : (((j + 3 : Nat) : Int) - 2) = (j : Int) + 1 := by omega
          rw [e1]
          obtain ⟨q1, q2⟩ := nms_ok j (by omega)
          have Q2 := Lib.hid q2
          have n1 := Lib.hid (name_in j (by omega))
          have n2 := Lib.hid (rname_in j (by omega))
          clear q2 e1
          generalize nms.getD j ⟨#[]⟩ = s at q1 Q2 n1 n2
          have q3 : s.toList.isEmpty = false := by cases h : s.toList with | nil => exact absurd h q1 | cons _ _ => rfl
          have q4 : (s.toList == s.toList) = true := by simp
          have d1 : decide ((j : Int) + 1 < 1) = false := by simp; omega
          have d2 : decide (22 < (j : Int) + 1) = false := by simp; omega
          have d3 : ((j : Int) + 1 != (j : Int) + 1) = false := by simp
          go_wp2_with fail
          refine (n1.out _).mono ?_
          rintro e w1 ⟨rfl, x1⟩
          go_wp2_with fail
          refine (n2.out _).mono ?_
          rintro e w2 ⟨rfl, x2⟩
          go_wp2_with fail
          refine (cop_at Q2.out _).mono ?_
          rintro e w3 ⟨rfl, x3⟩
          go_wp2_with fail
          go_roundw
          case rel => exact ⟨j + 4, by omega, by go_num, ((hx.trans x1).trans x2).trans x3⟩
          case measure => simp [intOf]; omega
        · have d1 : decide ((k : Int) - 2 < 1) = false := by simp; omega
          have d2 : decide (22 < (k : Int) - 2) = true := by simp; omega
          go_wp2_with fail
          refine (name_hi _ (by omega) _).mono ?_
          rintro e w1 ⟨rfl, x1⟩
          go_wp2_with fail
          refine (rname_hi _ (by omega) _).mono ?_
          rintro e w2 ⟨rfl, x2⟩
          go_wp2_with fail
          go_roundw
          case rel => exact ⟨k + 1, by omega, by go_num, (hx.trans x1).trans x2⟩
          case measure => simp [intOf]; omega
    · go_wp2_with fail
      refine (cop_at op_none _).mono ?_
      rintro e w1 ⟨rfl, x1⟩
      go_wp2_with fail
      refine (cop_at op_Send _).mono ?_
      rintro e w2 ⟨rfl, x2⟩
      go_wp2_with fail
      refine (awake _).mono ?_
      rintro e w3 ⟨rfl, x3⟩
      go_wp2_with fail
      go_ret
      exact ⟨rfl, (((hx.trans x1).trans x2).trans x3).below⟩
end Go.Proofs.Ytabknckaoeifhaa.Code
