/-
  Contracts of the reference of chapter 17, and of the names of the primitives.
-/
import Derived.Test.YtabknckaoeifhaaNumber
import Derived.OpenShut
namespace Go.Proofs.Ytabknckaoeifhaa.Number
open Go.RowKit Go.Proofs.Ytabknckaoeifhaa.Plain Go.Proofs.Ytabknckaoeifhaa.Word
set_option linter.unusedVariables false

/-! ### names -/
def nms : List ByteArray := [⟨#[43]⟩, ⟨#[45]⟩, ⟨#[42]⟩, ⟨#[47, 47]⟩, ⟨#[92, 92]⟩, ⟨#[60]⟩, ⟨#[62]⟩, ⟨#[60, 61]⟩, ⟨#[62, 61]⟩, ⟨#[61]⟩, ⟨#[126, 61]⟩, ⟨#[98, 105, 116, 65, 110, 100, 58]⟩, ⟨#[98, 105, 116, 79, 114, 58]⟩, ⟨#[98, 105, 116, 88, 111, 114, 58]⟩, ⟨#[98, 105, 116, 83, 104, 105, 102, 116, 58]⟩]
def nameB (n : Int) : ByteArray := if 1 ≤ n ∧ n ≤ 15 then nms.getD (n - 1).toNat ⟨#[]⟩ else ⟨#[]⟩
theorem lt15 {k : Nat} (h : k < 15) : k = 0 ∨ k = 1 ∨ k = 2 ∨ k = 3 ∨ k = 4 ∨ k = 5 ∨ k = 6 ∨ k = 7 ∨ k = 8 ∨ k = 9 ∨ k = 10 ∨ k = 11 ∨ k = 12 ∨ k = 13 ∨ k = 14 := by omega
theorem nameB_in (k : Nat) (h : k < 15) : nameB ((k : Int) + 1) = nms.getD k ⟨#[]⟩ := by
  unfold nameB; rw [if_pos (by omega), show ((k : Int) + 1 - 1).toNat = k from by omega]
theorem nameB_out (n : Int) (h : n < 1 ∨ 15 < n) : nameB n = ⟨#[]⟩ := by unfold nameB; rw [if_neg (by omega)]
theorem ret_str {a b : Value} (h : a = b) : Ending.returned a = .returned b := by rw [h]
set_option maxRecDepth 100000 in
set_option maxHeartbeats 2000000 in
theorem name_in (k : Nat) (hk : k < 15) (w : World) : Calls Try.prog 34 #[.int .i64 ((k : Int) + 1)] w fun e w' => e = .returned (.string (nms.getD k ⟨#[]⟩)) ∧ Ext w w' := by
  have h1 : ¬ (k : Int) + 1 < 1 := by omega
  have Hk := Lib.hid hk
  go_enter Try.func34, Try.ntmps34
  go_wp2
  go_ret
  refine ⟨ret_str ?_, (Ext.refl _).alloc _⟩
  rcases lt15 Hk.out with rfl | rfl | rfl | rfl | rfl | rfl | rfl | rfl | rfl | rfl | rfl | rfl | rfl | rfl | rfl
  all_goals rfl
set_option maxHeartbeats 2000000 in
theorem name_lo (n : Int) (h : n < 1) (w : World) : Calls Try.prog 34 #[.int .i64 n] w fun e w' => e = .returned (.string ⟨#[]⟩) ∧ Ext w w' := by
  go_enter Try.func34, Try.ntmps34
  go_wp2
  go_ret
  exact ⟨rfl, (Ext.refl _).alloc _⟩
set_option maxHeartbeats 2000000 in
theorem name_hi (n : Int) (h : 15 < n) (w : World) : Calls Try.prog 34 #[.int .i64 n] w fun e w' => e = .returned (.string ⟨#[]⟩) ∧ Ext w w' := by
  have h1 : decide (n < 1) = false := by simp; omega
  have h2 : decide (15 < n) = true := by simpa using h
  go_enter Try.func34, Try.ntmps34
  go_wp2
  go_ret
  exact ⟨rfl, (Ext.refl _).alloc _⟩
theorem name (n : Int) (w : World) : Calls Try.prog 34 #[.int .i64 n] w fun e w' => e = .returned (.string (nameB n)) ∧ Ext w w' := by
  by_cases h1 : n < 1
  · rw [nameB_out n (.inl h1)]; exact name_lo n h1 w
  by_cases h2 : 15 < n
  · rw [nameB_out n (.inr h2)]; exact name_hi n h2 w
  obtain ⟨k, rfl⟩ : ∃ k : Nat, n = (k : Int) + 1 := ⟨(n - 1).toNat, by omega⟩
  rw [nameB_in k (by omega)]; exact name_in k (by omega) w
set_option maxRecDepth 100000 in
set_option maxHeartbeats 2000000 in
theorem rname_in (k : Nat) (hk : k < 15) (w : World) : Calls Try.prog 35 #[.int .i64 ((k : Int) + 1)] w fun e w' => e = .returned (.string (nms.getD k ⟨#[]⟩)) ∧ Ext w w' := by
  have h1 : ¬ (k : Int) + 1 < 1 := by omega
  have Hk := Lib.hid hk
  go_enter Try.func35, Try.ntmps35
  go_wp2
  go_ret
  refine ⟨ret_str ?_, (Ext.refl _).alloc _⟩
  rcases lt15 Hk.out with rfl | rfl | rfl | rfl | rfl | rfl | rfl | rfl | rfl | rfl | rfl | rfl | rfl | rfl | rfl
  all_goals rfl
set_option maxHeartbeats 2000000 in
theorem rname_lo (n : Int) (h : n < 1) (w : World) : Calls Try.prog 35 #[.int .i64 n] w fun e w' => e = .returned (.string ⟨#[]⟩) ∧ Ext w w' := by
  go_enter Try.func35, Try.ntmps35
  go_wp2
  go_ret
  exact ⟨rfl, (Ext.refl _).alloc _⟩
set_option maxHeartbeats 2000000 in
theorem rname_hi (n : Int) (h : 15 < n) (w : World) : Calls Try.prog 35 #[.int .i64 n] w fun e w' => e = .returned (.string ⟨#[]⟩) ∧ Ext w w' := by
  have h1 : decide (n < 1) = false := by simp; omega
  have h2 : decide (15 < n) = true := by simpa using h
  go_enter Try.func35, Try.ntmps35
  go_wp2
  go_ret
  exact ⟨rfl, (Ext.refl _).alloc _⟩
theorem rname (n : Int) (w : World) : Calls Try.prog 35 #[.int .i64 n] w fun e w' => e = .returned (.string (nameB n)) ∧ Ext w w' := by
  by_cases h1 : n < 1
  · rw [nameB_out n (.inl h1)]; exact rname_lo n h1 w
  by_cases h2 : 15 < n
  · rw [nameB_out n (.inr h2)]; exact rname_hi n h2 w
  obtain ⟨k, rfl⟩ : ∃ k : Nat, n = (k : Int) + 1 := ⟨(n - 1).toNat, by omega⟩
  rw [nameB_in k (by omega)]; exact rname_in k (by omega) w

/-! ### the reference -/
theorem rtruth (t : Bool) (w : World) : Calls Try.prog 52 #[.bool t] w fun e w' => e = .returned (valT (truthT t)) ∧ Ext w w' := by
  cases t
  all_goals
    go_enter Try.func52, Try.ntmps52
    go_wp2
    exact bodyPost_ret (v := .tuple #[.agg #[.bool _, .int .i64 _], .bool _]) (by simp [results, Try.results52, go_sem, truthT]) rfl ⟨rfl, (Ext.refl _).alloc _⟩
/-- the reference's own test of a quotient that is cut upwards -/
theorem down_cases (a b : Int) (hb : b ≠ 0) : (a.tdiv b * b = a ∧ divQ a b = a.tdiv b) ∨ (a.tdiv b * b ≠ a ∧ a < 0 ∧ b < 0 ∧ divQ a b = a.tdiv b) ∨ (a.tdiv b * b ≠ a ∧ 0 ≤ a ∧ 0 < b ∧ divQ a b = a.tdiv b) ∨
    (a.tdiv b * b ≠ a ∧ a < 0 ∧ 0 < b ∧ divQ a b = a.tdiv b - 1) ∨ (a.tdiv b * b ≠ a ∧ 0 ≤ a ∧ b < 0 ∧ divQ a b = a.tdiv b - 1) := by
  have h0 := Int.mul_tdiv_add_tmod a b
  obtain ⟨h1, h2, h3, h4⟩ := tmod_bd a b hb
  have hc := div_cases a b hb
  rw [Int.mul_comm b] at h0
  generalize divQ a b = Q at *
  generalize divR a b = R at *
  generalize a.tmod b = r at *
  generalize a.tdiv b * b = p at *
  generalize a.tdiv b = q at *
  rcases hc with ⟨c1, c3, _⟩ | ⟨c1, c2, c3, _⟩ | ⟨c1, c2, c3, _⟩ | ⟨c1, c2, c3, _⟩ | ⟨c1, c2, c3, _⟩
  · exact .inl ⟨by omega, c3⟩
  · exact .inr (.inl ⟨by omega, by omega, c2, c3⟩)
  · exact .inr (.inr (.inl ⟨by omega, by omega, c2, c3⟩))
  · exact .inr (.inr (.inr (.inl ⟨by omega, by omega, c2, c3⟩)))
  · exact .inr (.inr (.inr (.inr ⟨by omega, by omega, c2, c3⟩)))
set_option maxHeartbeats 2000000 in
theorem down_core (a b q p Q : Int) (w : World) (hb : b ≠ 0) (hq : a.tdiv b = q) (hp : q * b = p) (q1 : -536870912 ≤ q) (q2 : q ≤ 536870912) (p1 : -1000000000 ≤ p) (p2 : p ≤ 1000000000)
    (hc : (p = a ∧ Q = q) ∨ (p ≠ a ∧ a < 0 ∧ b < 0 ∧ Q = q) ∨ (p ≠ a ∧ 0 ≤ a ∧ 0 < b ∧ Q = q) ∨ (p ≠ a ∧ a < 0 ∧ 0 < b ∧ Q = q - 1) ∨ (p ≠ a ∧ 0 ≤ a ∧ b < 0 ∧ Q = q - 1)) :
    Calls Try.prog 54 #[.int .i64 a, .int .i64 b] w fun e w' => e = .returned (.int .i64 Q) ∧ w = w' := by
  rcases hc with ⟨c1, c3⟩ | ⟨c1, c2, c4, c3⟩ | ⟨c1, c2, c4, c3⟩ | ⟨c1, c2, c4, c3⟩ | ⟨c1, c2, c4, c3⟩
  · have e1 : (p != a) = false := by simp [c1]
    have C := Lib.hid c1
    clear c1
    subst c3
    go_enter Try.func54, Try.ntmps54
    go_wp2
    go_ret
    exact ⟨rfl, rfl⟩
  · have e1 : (p != a) = true := by simpa using c1
    have e2 : decide (a < 0) = true := by simp; omega
    have e3 : decide (b < 0) = true := by simp; omega
    have C := Lib.hid c1
    clear c1
    subst c3
    go_enter Try.func54, Try.ntmps54
    go_wp2
    go_ret
    exact ⟨rfl, rfl⟩
  · have e1 : (p != a) = true := by simpa using c1
    have e2 : decide (a < 0) = false := by simp; omega
    have e3 : decide (b < 0) = false := by simp; omega
    have C := Lib.hid c1
    clear c1
    subst c3
    go_enter Try.func54, Try.ntmps54
    go_wp2
    go_ret
    exact ⟨rfl, rfl⟩
  · have e1 : (p != a) = true := by simpa using c1
    have e2 : decide (a < 0) = true := by simp; omega
    have e3 : decide (b < 0) = false := by simp; omega
    have C := Lib.hid c1
    clear c1
    subst c3
    go_enter Try.func54, Try.ntmps54
    go_wp2
    go_ret
    exact ⟨rfl, rfl⟩
  · have e1 : (p != a) = true := by simpa using c1
    have e2 : decide (a < 0) = false := by simp; omega
    have e3 : decide (b < 0) = true := by simp; omega
    have C := Lib.hid c1
    clear c1
    subst c3
    go_enter Try.func54, Try.ntmps54
    go_wp2
    go_ret
    exact ⟨rfl, rfl⟩
theorem down (a b : Int) (w : World) (ha1 : -536870912 ≤ a) (ha2 : a < 536870912) (hb1 : -536870912 ≤ b) (hb2 : b < 536870912) (hb : b ≠ 0) :
    Calls Try.prog 54 #[.int .i64 a, .int .i64 b] w fun e w' => e = .returned (.int .i64 (divQ a b)) ∧ w = w' := by
  obtain ⟨q1, q2⟩ := tdiv_bd a b ha1 ha2
  have h0 := Int.mul_tdiv_add_tmod a b
  rw [Int.mul_comm b] at h0
  obtain ⟨_, _, h3, h4⟩ := tmod_bd a b hb
  exact down_core a b _ _ _ w hb rfl rfl q1 q2 (by omega) (by omega) (down_cases a b hb)
/-- what the reference's whole answers -/
def wholeR (n a b : Int) : Int × Bool :=
  if n = 1 then (a + b, true) else if n = 2 then (a - b, true) else if n = 3 then (a * b, true)
  else if n = 4 then (if b = 0 then (0, false) else (divQ a b, true)) else if n = 5 then (if b = 0 then (0, false) else (divR a b, true))
  else if n = 12 then (bits .and .i64 a b, true) else if n = 13 then (bits .or .i64 a b, true) else if n = 14 then (bits .xor .i64 a b, true)
  else if n = 15 then (if b < -30 ∨ 30 < b then (0, false) else if b < 0 then (a / 2 ^ (-b).toNat, true) else (a * 2 ^ b.toNat, true)) else (0, false)
set_option maxRecDepth 100000 in
set_option maxHeartbeats 2000000 in
theorem rw1 (a b : Int) (w : World) (ha1 : -536870912 ≤ a) (ha2 : a < 536870912) (hb1 : -536870912 ≤ b) (hb2 : b < 536870912) :
    Calls Try.prog 53 #[.int .i64 1, .int .i64 a, .int .i64 b] w fun e w' => e = .returned (.tuple #[.int .i64 (a + b), .bool true]) ∧ w = w' := by
  go_enter Try.func53, Try.ntmps53
  go_wp2_with fail
  go_ret2
  exact ⟨rfl, rfl⟩
set_option maxRecDepth 100000 in
set_option maxHeartbeats 2000000 in
theorem rw2 (a b : Int) (w : World) (ha1 : -536870912 ≤ a) (ha2 : a < 536870912) (hb1 : -536870912 ≤ b) (hb2 : b < 536870912) :
    Calls Try.prog 53 #[.int .i64 2, .int .i64 a, .int .i64 b] w fun e w' => e = .returned (.tuple #[.int .i64 (a - b), .bool true]) ∧ w = w' := by
  go_enter Try.func53, Try.ntmps53
  go_wp2_with fail
  go_ret2
  exact ⟨rfl, rfl⟩
set_option maxRecDepth 100000 in
set_option maxHeartbeats 2000000 in
theorem rw3 (a b : Int) (w : World) (ha1 : -536870912 ≤ a) (ha2 : a < 536870912) (hb1 : -536870912 ≤ b) (hb2 : b < 536870912) :
    Calls Try.prog 53 #[.int .i64 3, .int .i64 a, .int .i64 b] w fun e w' => e = .returned (.tuple #[.int .i64 (a * b), .bool true]) ∧ w = w' := by
  obtain ⟨m1, m2⟩ := mul_bd a b ha1 ha2 hb1 hb2
  go_enter Try.func53, Try.ntmps53
  go_wp2_with fail
  go_ret2
  exact ⟨rfl, rfl⟩
set_option maxRecDepth 100000 in
set_option maxHeartbeats 2000000 in
theorem rw4 (a b : Int) (w : World) (ha1 : -536870912 ≤ a) (ha2 : a < 536870912) (hb1 : -536870912 ≤ b) (hb2 : b < 536870912) (hb : b ≠ 0) :
    Calls Try.prog 53 #[.int .i64 4, .int .i64 a, .int .i64 b] w fun e w' => e = .returned (.tuple #[.int .i64 (divQ a b), .bool true]) ∧ w = w' := by
  have hb0 : (b == 0) = false := by simp [hb]
  go_enter Try.func53, Try.ntmps53
  go_wp2_with (go_at_call 54; refine (down _ _ _ ha1 ha2 hb1 hb2 hb).mono ?_; rintro e w' ⟨rfl, rfl⟩)
  go_ret2
  exact ⟨rfl, rfl⟩
set_option maxRecDepth 100000 in
set_option maxHeartbeats 2000000 in
theorem rw5 (a b : Int) (w : World) (ha1 : -536870912 ≤ a) (ha2 : a < 536870912) (hb1 : -536870912 ≤ b) (hb2 : b < 536870912) (hb : b ≠ 0) :
    Calls Try.prog 53 #[.int .i64 5, .int .i64 a, .int .i64 b] w fun e w' => e = .returned (.tuple #[.int .i64 (divR a b), .bool true]) ∧ w = w' := by
  have hb0 : (b == 0) = false := by simp [hb]
  obtain ⟨d1, d2, d3⟩ := div_facts a b hb
  have HE := Lib.hid (show divR a b = a - divQ a b * b by omega)
  have m1 : -2000000000 ≤ divQ a b * b ∧ divQ a b * b ≤ 2000000000 := by omega
  obtain ⟨m1, m2⟩ := m1
  clear d1 d2 d3
  go_enter Try.func53, Try.ntmps53
  go_wp2_with (go_at_call 54; refine (down _ _ _ ha1 ha2 hb1 hb2 hb).mono ?_; rintro e w' ⟨rfl, rfl⟩)
  go_ret2
  refine ⟨?_, rfl⟩
  rw [HE.out]
  rfl
set_option maxRecDepth 100000 in
set_option maxHeartbeats 2000000 in
theorem rw4_0 (a b : Int) (w : World) (ha1 : -536870912 ≤ a) (ha2 : a < 536870912) (hb1 : -536870912 ≤ b) (hb2 : b < 536870912) (hb : b = 0) :
    Calls Try.prog 53 #[.int .i64 4, .int .i64 a, .int .i64 b] w fun e w' => e = .returned (.tuple #[.int .i64 (0), .bool false]) ∧ w = w' := by
  subst hb
  go_enter Try.func53, Try.ntmps53
  go_wp2_with fail
  go_ret2
  exact ⟨rfl, rfl⟩
set_option maxRecDepth 100000 in
set_option maxHeartbeats 2000000 in
theorem rw5_0 (a b : Int) (w : World) (ha1 : -536870912 ≤ a) (ha2 : a < 536870912) (hb1 : -536870912 ≤ b) (hb2 : b < 536870912) (hb : b = 0) :
    Calls Try.prog 53 #[.int .i64 5, .int .i64 a, .int .i64 b] w fun e w' => e = .returned (.tuple #[.int .i64 (0), .bool false]) ∧ w = w' := by
  subst hb
  go_enter Try.func53, Try.ntmps53
  go_wp2_with fail
  go_ret2
  exact ⟨rfl, rfl⟩
set_option maxRecDepth 100000 in
set_option maxHeartbeats 2000000 in
theorem rw12 (a b : Int) (w : World) (ha1 : -536870912 ≤ a) (ha2 : a < 536870912) (hb1 : -536870912 ≤ b) (hb2 : b < 536870912) :
    Calls Try.prog 53 #[.int .i64 12, .int .i64 a, .int .i64 b] w fun e w' => e = .returned (.tuple #[.int .i64 (bits .and .i64 a b), .bool true]) ∧ w = w' := by
  go_enter Try.func53, Try.ntmps53
  go_wp2_with fail
  go_ret2
  exact ⟨rfl, rfl⟩
set_option maxRecDepth 100000 in
set_option maxHeartbeats 2000000 in
theorem rw13 (a b : Int) (w : World) (ha1 : -536870912 ≤ a) (ha2 : a < 536870912) (hb1 : -536870912 ≤ b) (hb2 : b < 536870912) :
    Calls Try.prog 53 #[.int .i64 13, .int .i64 a, .int .i64 b] w fun e w' => e = .returned (.tuple #[.int .i64 (bits .or .i64 a b), .bool true]) ∧ w = w' := by
  go_enter Try.func53, Try.ntmps53
  go_wp2_with fail
  go_ret2
  exact ⟨rfl, rfl⟩
set_option maxRecDepth 100000 in
set_option maxHeartbeats 2000000 in
theorem rw14 (a b : Int) (w : World) (ha1 : -536870912 ≤ a) (ha2 : a < 536870912) (hb1 : -536870912 ≤ b) (hb2 : b < 536870912) :
    Calls Try.prog 53 #[.int .i64 14, .int .i64 a, .int .i64 b] w fun e w' => e = .returned (.tuple #[.int .i64 (bits .xor .i64 a b), .bool true]) ∧ w = w' := by
  go_enter Try.func53, Try.ntmps53
  go_wp2_with fail
  go_ret2
  exact ⟨rfl, rfl⟩
set_option maxRecDepth 100000 in
set_option maxHeartbeats 2000000 in
theorem rw15_lo (a b : Int) (w : World) (ha1 : -536870912 ≤ a) (ha2 : a < 536870912) (hb1 : -536870912 ≤ b) (hb2 : b < 536870912) (h : b < -30) :
    Calls Try.prog 53 #[.int .i64 15, .int .i64 a, .int .i64 b] w fun e w' => e = .returned (.tuple #[.int .i64 (0), .bool false]) ∧ w = w' := by
  go_enter Try.func53, Try.ntmps53
  go_wp2_with fail
  go_ret2
  exact ⟨rfl, rfl⟩
set_option maxRecDepth 100000 in
set_option maxHeartbeats 2000000 in
theorem rw15_hi (a b : Int) (w : World) (ha1 : -536870912 ≤ a) (ha2 : a < 536870912) (hb1 : -536870912 ≤ b) (hb2 : b < 536870912) (h : 30 < b) :
    Calls Try.prog 53 #[.int .i64 15, .int .i64 a, .int .i64 b] w fun e w' => e = .returned (.tuple #[.int .i64 (0), .bool false]) ∧ w = w' := by
  have d1 : decide (b < -30) = false := by simp; omega
  have d2 : decide (30 < b) = true := by simpa using h
  go_enter Try.func53, Try.ntmps53
  go_wp2_with fail
  go_ret2
  exact ⟨rfl, rfl⟩
set_option maxRecDepth 100000 in
set_option maxHeartbeats 2000000 in
theorem rw15_neg (a b : Int) (w : World) (ha1 : -536870912 ≤ a) (ha2 : a < 536870912) (hb1 : -536870912 ≤ b) (hb2 : b < 536870912) (h1 : -30 ≤ b) (h2 : b < 0) :
    Calls Try.prog 53 #[.int .i64 15, .int .i64 a, .int .i64 b] w fun e w' => e = .returned (.tuple #[.int .i64 (a / 2 ^ (-b).toNat), .bool true]) ∧ w = w' := by
  have d1 : decide (b < -30) = false := by simp; omega
  have d2 : decide (30 < b) = false := by simp; omega
  go_enter Try.func53, Try.ntmps53
  go_wp2_with fail
  go_ret2
  exact ⟨rfl, rfl⟩
set_option maxRecDepth 100000 in
set_option maxHeartbeats 2000000 in
theorem rw15_pos (a b : Int) (w : World) (ha1 : -536870912 ≤ a) (ha2 : a < 536870912) (hb1 : -536870912 ≤ b) (hb2 : b < 536870912) (h1 : 0 ≤ b) (h2 : b ≤ 30) :
    Calls Try.prog 53 #[.int .i64 15, .int .i64 a, .int .i64 b] w fun e w' => e = .returned (.tuple #[.int .i64 (a * 2 ^ b.toNat), .bool true]) ∧ w = w' := by
  have d1 : decide (b < -30) = false := by simp; omega
  have d2 : decide (30 < b) = false := by simp; omega
  have d3 : decide (b < 0) = false := by simp; omega
  obtain ⟨m1, m2⟩ := mul_pow_bd a b.toNat (by omega) ha1 ha2
  go_enter Try.func53, Try.ntmps53
  go_wp2_with fail
  go_ret2
  exact ⟨rfl, rfl⟩
set_option maxRecDepth 100000 in
set_option maxHeartbeats 2000000 in
theorem rw_else (n a b : Int) (w : World) (hn : n < 1 ∨ 15 < n) :
    Calls Try.prog 53 #[.int .i64 n, .int .i64 a, .int .i64 b] w fun e w' => e = .returned (.tuple #[.int .i64 0, .bool false]) ∧ w = w' := by
  have e1 : (n == 1) = false := by rw [beq_eq_false_iff_ne]; omega
  have e2 : (n == 2) = false := by rw [beq_eq_false_iff_ne]; omega
  have e3 : (n == 3) = false := by rw [beq_eq_false_iff_ne]; omega
  have e4 : (n == 4) = false := by rw [beq_eq_false_iff_ne]; omega
  have e5 : (n == 5) = false := by rw [beq_eq_false_iff_ne]; omega
  have e12 : (n == 12) = false := by rw [beq_eq_false_iff_ne]; omega
  have e13 : (n == 13) = false := by rw [beq_eq_false_iff_ne]; omega
  have e14 : (n == 14) = false := by rw [beq_eq_false_iff_ne]; omega
  have e15 : (n == 15) = false := by rw [beq_eq_false_iff_ne]; omega
  go_enter Try.func53, Try.ntmps53
  go_wp2_with fail
  go_ret2
  exact ⟨rfl, rfl⟩
/-- the reference's answer out of whole's -/
def fromR (t : Int × Bool) : Bool × Int × Bool := if t.2 then wholeT t.1 else noneT
set_option maxRecDepth 100000 in
set_option maxHeartbeats 2000000 in
theorem rop6 (a b : Int) (w : World) (fa : fitsB a = true) (fb : fitsB b = true) :
    Calls Try.prog 32 #[.int .i64 6, .int .i64 a, .int .i64 b] w fun e w' => e = .returned (valT (truthT (decide (a < b)))) ∧ Ext w w' := by
  go_enter Try.func32, Try.ntmps32
  go_wp2_with (go_at_call 51; refine (rfits _ _).mono ?_; rintro e w' ⟨rfl, rfl⟩)
  refine (rtruth _ _).mono ?_
  rintro e w1 ⟨rfl, x1⟩
  have B1 := (Blk.new w 55 #[.bool false, .int .i64 0]).ext x1
  have E1 : Ext w w1 := ((Ext.refl w).alloc _).trans x1
  obtain ⟨c1, f1, z1⟩ := B1.rules
  simp only [valT]
  go_wp2_with fail
  exact bodyPost_ret (v := .tuple #[.agg #[.bool _, .int .i64 _], .bool _]) (by simp [results, Try.results32, go_sem, c1]) rfl ⟨rfl, (E1.setNew (p := ⟨w.heap.size, 0, none⟩) (Nat.le_refl _) _).setNew (p := ⟨w.heap.size, 1, none⟩) (Nat.le_refl _) _⟩
set_option maxRecDepth 100000 in
set_option maxHeartbeats 2000000 in
theorem rop7 (a b : Int) (w : World) (fa : fitsB a = true) (fb : fitsB b = true) :
    Calls Try.prog 32 #[.int .i64 7, .int .i64 a, .int .i64 b] w fun e w' => e = .returned (valT (truthT (decide (b < a)))) ∧ Ext w w' := by
  go_enter Try.func32, Try.ntmps32
  go_wp2_with (go_at_call 51; refine (rfits _ _).mono ?_; rintro e w' ⟨rfl, rfl⟩)
  refine (rtruth _ _).mono ?_
  rintro e w1 ⟨rfl, x1⟩
  have B1 := (Blk.new w 55 #[.bool false, .int .i64 0]).ext x1
  have E1 : Ext w w1 := ((Ext.refl w).alloc _).trans x1
  obtain ⟨c1, f1, z1⟩ := B1.rules
  simp only [valT]
  go_wp2_with fail
  exact bodyPost_ret (v := .tuple #[.agg #[.bool _, .int .i64 _], .bool _]) (by simp [results, Try.results32, go_sem, c1]) rfl ⟨rfl, (E1.setNew (p := ⟨w.heap.size, 0, none⟩) (Nat.le_refl _) _).setNew (p := ⟨w.heap.size, 1, none⟩) (Nat.le_refl _) _⟩
set_option maxRecDepth 100000 in
set_option maxHeartbeats 2000000 in
theorem rop8 (a b : Int) (w : World) (fa : fitsB a = true) (fb : fitsB b = true) :
    Calls Try.prog 32 #[.int .i64 8, .int .i64 a, .int .i64 b] w fun e w' => e = .returned (valT (truthT (decide (a ≤ b)))) ∧ Ext w w' := by
  go_enter Try.func32, Try.ntmps32
  go_wp2_with (go_at_call 51; refine (rfits _ _).mono ?_; rintro e w' ⟨rfl, rfl⟩)
  refine (rtruth _ _).mono ?_
  rintro e w1 ⟨rfl, x1⟩
  have B1 := (Blk.new w 55 #[.bool false, .int .i64 0]).ext x1
  have E1 : Ext w w1 := ((Ext.refl w).alloc _).trans x1
  obtain ⟨c1, f1, z1⟩ := B1.rules
  simp only [valT]
  go_wp2_with fail
  exact bodyPost_ret (v := .tuple #[.agg #[.bool _, .int .i64 _], .bool _]) (by simp [results, Try.results32, go_sem, c1]) rfl ⟨rfl, (E1.setNew (p := ⟨w.heap.size, 0, none⟩) (Nat.le_refl _) _).setNew (p := ⟨w.heap.size, 1, none⟩) (Nat.le_refl _) _⟩
set_option maxRecDepth 100000 in
set_option maxHeartbeats 2000000 in
theorem rop9 (a b : Int) (w : World) (fa : fitsB a = true) (fb : fitsB b = true) :
    Calls Try.prog 32 #[.int .i64 9, .int .i64 a, .int .i64 b] w fun e w' => e = .returned (valT (truthT (decide (b ≤ a)))) ∧ Ext w w' := by
  go_enter Try.func32, Try.ntmps32
  go_wp2_with (go_at_call 51; refine (rfits _ _).mono ?_; rintro e w' ⟨rfl, rfl⟩)
  refine (rtruth _ _).mono ?_
  rintro e w1 ⟨rfl, x1⟩
  have B1 := (Blk.new w 55 #[.bool false, .int .i64 0]).ext x1
  have E1 : Ext w w1 := ((Ext.refl w).alloc _).trans x1
  obtain ⟨c1, f1, z1⟩ := B1.rules
  simp only [valT]
  go_wp2_with fail
  exact bodyPost_ret (v := .tuple #[.agg #[.bool _, .int .i64 _], .bool _]) (by simp [results, Try.results32, go_sem, c1]) rfl ⟨rfl, (E1.setNew (p := ⟨w.heap.size, 0, none⟩) (Nat.le_refl _) _).setNew (p := ⟨w.heap.size, 1, none⟩) (Nat.le_refl _) _⟩
set_option maxRecDepth 100000 in
set_option maxHeartbeats 2000000 in
theorem rop10 (a b : Int) (w : World) (fa : fitsB a = true) (fb : fitsB b = true) :
    Calls Try.prog 32 #[.int .i64 10, .int .i64 a, .int .i64 b] w fun e w' => e = .returned (valT (truthT (a == b))) ∧ Ext w w' := by
  go_enter Try.func32, Try.ntmps32
  go_wp2_with (go_at_call 51; refine (rfits _ _).mono ?_; rintro e w' ⟨rfl, rfl⟩)
  refine (rtruth _ _).mono ?_
  rintro e w1 ⟨rfl, x1⟩
  have B1 := (Blk.new w 55 #[.bool false, .int .i64 0]).ext x1
  have E1 : Ext w w1 := ((Ext.refl w).alloc _).trans x1
  obtain ⟨c1, f1, z1⟩ := B1.rules
  simp only [valT]
  go_wp2_with fail
  exact bodyPost_ret (v := .tuple #[.agg #[.bool _, .int .i64 _], .bool _]) (by simp [results, Try.results32, go_sem, c1]) rfl ⟨rfl, (E1.setNew (p := ⟨w.heap.size, 0, none⟩) (Nat.le_refl _) _).setNew (p := ⟨w.heap.size, 1, none⟩) (Nat.le_refl _) _⟩
set_option maxRecDepth 100000 in
set_option maxHeartbeats 2000000 in
theorem rop11 (a b : Int) (w : World) (fa : fitsB a = true) (fb : fitsB b = true) :
    Calls Try.prog 32 #[.int .i64 11, .int .i64 a, .int .i64 b] w fun e w' => e = .returned (valT (truthT (a != b))) ∧ Ext w w' := by
  go_enter Try.func32, Try.ntmps32
  go_wp2_with (go_at_call 51; refine (rfits _ _).mono ?_; rintro e w' ⟨rfl, rfl⟩)
  refine (rtruth _ _).mono ?_
  rintro e w1 ⟨rfl, x1⟩
  have B1 := (Blk.new w 55 #[.bool false, .int .i64 0]).ext x1
  have E1 : Ext w w1 := ((Ext.refl w).alloc _).trans x1
  obtain ⟨c1, f1, z1⟩ := B1.rules
  simp only [valT]
  go_wp2_with fail
  exact bodyPost_ret (v := .tuple #[.agg #[.bool _, .int .i64 _], .bool _]) (by simp [results, Try.results32, go_sem, c1]) rfl ⟨rfl, (E1.setNew (p := ⟨w.heap.size, 0, none⟩) (Nat.le_refl _) _).setNew (p := ⟨w.heap.size, 1, none⟩) (Nat.le_refl _) _⟩
set_option maxRecDepth 100000 in
set_option maxHeartbeats 2000000 in
theorem rop_num (n a b v : Int) (ok : Bool) (w : World) (fa : fitsB a = true) (fb : fitsB b = true) (hn : n < 6 ∨ 11 < n)
    (hw : ∀ W, Calls Try.prog 53 #[.int .i64 n, .int .i64 a, .int .i64 b] W fun e w' => e = .returned (.tuple #[.int .i64 v, .bool ok]) ∧ W = w') :
    Calls Try.prog 32 #[.int .i64 n, .int .i64 a, .int .i64 b] w fun e w' => e = .returned (valT (fromR (v, ok))) ∧ Ext w w' := by
  have e6 : (n == 6) = false := by rw [beq_eq_false_iff_ne]; omega
  have e7 : (n == 7) = false := by rw [beq_eq_false_iff_ne]; omega
  have e8 : (n == 8) = false := by rw [beq_eq_false_iff_ne]; omega
  have e9 : (n == 9) = false := by rw [beq_eq_false_iff_ne]; omega
  have e10 : (n == 10) = false := by rw [beq_eq_false_iff_ne]; omega
  have e11 : (n == 11) = false := by rw [beq_eq_false_iff_ne]; omega
  have HW := Lib.hid hw
  clear hw hn
  unfold fromR
  cases ok
  · go_enter Try.func32, Try.ntmps32
    go_wp2_with (first | (go_at_call 51; refine (rfits _ _).mono ?_; rintro e w' ⟨rfl, rfl⟩) | (go_at_call 53; refine (HW.out _).mono ?_; rintro e w' ⟨rfl, rfl⟩))
    exact bodyPost_ret (v := .tuple #[.agg #[.bool _, .int .i64 _], .bool _]) (by simp [results, Try.results32, go_sem, noneT]) rfl ⟨rfl, (Ext.refl _).alloc _⟩
  · simp only [if_true]
    unfold wholeT
    cases hf : fitsB v
    · go_enter Try.func32, Try.ntmps32
      go_wp2_with (first | (go_at_call 51; refine (rfits _ _).mono ?_; rintro e w' ⟨rfl, rfl⟩) | (go_at_call 53; refine (HW.out _).mono ?_; rintro e w' ⟨rfl, rfl⟩))
      exact bodyPost_ret (v := .tuple #[.agg #[.bool _, .int .i64 _], .bool _]) (by simp [results, Try.results32, go_sem, noneT]) rfl ⟨rfl, (Ext.refl _).alloc _⟩
    · go_enter Try.func32, Try.ntmps32
      go_wp2_with (first | (go_at_call 51; refine (rfits _ _).mono ?_; rintro e w' ⟨rfl, rfl⟩) | (go_at_call 53; refine (HW.out _).mono ?_; rintro e w' ⟨rfl, rfl⟩))
      exact bodyPost_ret (v := .tuple #[.agg #[.bool _, .int .i64 _], .bool _]) (by simp [results, Try.results32, go_sem]) rfl ⟨rfl, (Ext.refl _).alloc _⟩
set_option maxRecDepth 100000 in
set_option maxHeartbeats 2000000 in
theorem rop_no (n a b : Int) (w : World) (h : (fitsB a && fitsB b) = false) :
    Calls Try.prog 32 #[.int .i64 n, .int .i64 a, .int .i64 b] w fun e w' => e = .returned (valT noneT) ∧ Ext w w' := by
  cases fa : fitsB a
  · clear h
    go_enter Try.func32, Try.ntmps32
    go_wp2_with (go_at_call 51; refine (rfits _ _).mono ?_; rintro e w' ⟨rfl, rfl⟩)
    exact bodyPost_ret (v := .tuple #[.agg #[.bool _, .int .i64 _], .bool _]) (by simp [results, Try.results32, go_sem, noneT]) rfl ⟨rfl, (Ext.refl _).alloc _⟩
  · have fb : fitsB b = false := by simpa [fa] using h
    clear h
    go_enter Try.func32, Try.ntmps32
    go_wp2_with (go_at_call 51; refine (rfits _ _).mono ?_; rintro e w' ⟨rfl, rfl⟩)
    exact bodyPost_ret (v := .tuple #[.agg #[.bool _, .int .i64 _], .bool _]) (by simp [results, Try.results32, go_sem, noneT]) rfl ⟨rfl, (Ext.refl _).alloc _⟩
theorem rop (n a b : Int) (w : World) : Calls Try.prog 32 #[.int .i64 n, .int .i64 a, .int .i64 b] w fun e w' => e = .returned (valT (opT n a b)) ∧ Ext w w' := by
  unfold opT
  cases h : fitsB a && fitsB b
  · exact rop_no n a b w h
  simp only [Bool.and_eq_true] at h
  obtain ⟨fa, fb⟩ := h
  obtain ⟨ha1, ha2⟩ := fits_of fa
  obtain ⟨hb1, hb2⟩ := fits_of fb
  simp only [if_true]
  by_cases h : n < 1 ∨ 15 < n
  · have e : numT n a b = noneT := by
      unfold numT
      repeat rw [if_neg (by omega)]
    rw [e]; exact rop_num n a b 0 false w fa fb (by omega) (fun W => rw_else n a b W h)
  have hn : n = 1 ∨ n = 2 ∨ n = 3 ∨ n = 4 ∨ n = 5 ∨ n = 6 ∨ n = 7 ∨ n = 8 ∨ n = 9 ∨ n = 10 ∨ n = 11 ∨ n = 12 ∨ n = 13 ∨ n = 14 ∨ n = 15 := by omega
  rcases hn with rfl | rfl | rfl | rfl | rfl | rfl | rfl | rfl | rfl | rfl | rfl | rfl | rfl | rfl | rfl
  · exact rop_num 1 a b _ true w fa fb (by omega) (fun W => rw1 a b W ha1 ha2 hb1 hb2)
  · exact rop_num 2 a b _ true w fa fb (by omega) (fun W => rw2 a b W ha1 ha2 hb1 hb2)
  · exact rop_num 3 a b _ true w fa fb (by omega) (fun W => rw3 a b W ha1 ha2 hb1 hb2)
  · by_cases hb : b = 0
    · have e : numT 4 a b = noneT := by unfold numT; simp [hb]
      rw [e]; exact rop_num 4 a b 0 false w fa fb (by omega) (fun W => rw4_0 a b W ha1 ha2 hb1 hb2 hb)
    · have e : numT 4 a b = wholeT (divQ a b) := by unfold numT; simp [hb]
      rw [e]; exact rop_num 4 a b _ true w fa fb (by omega) (fun W => rw4 a b W ha1 ha2 hb1 hb2 hb)
  · by_cases hb : b = 0
    · have e : numT 5 a b = noneT := by unfold numT; simp [hb]
      rw [e]; exact rop_num 5 a b 0 false w fa fb (by omega) (fun W => rw5_0 a b W ha1 ha2 hb1 hb2 hb)
    · have e : numT 5 a b = wholeT (divR a b) := by unfold numT; simp [hb]
      rw [e]; exact rop_num 5 a b _ true w fa fb (by omega) (fun W => rw5 a b W ha1 ha2 hb1 hb2 hb)
  · exact rop6 a b w fa fb
  · exact rop7 a b w fa fb
  · exact rop8 a b w fa fb
  · exact rop9 a b w fa fb
  · exact rop10 a b w fa fb
  · exact rop11 a b w fa fb
  · exact rop_num 12 a b _ true w fa fb (by omega) (fun W => rw12 a b W ha1 ha2 hb1 hb2)
  · exact rop_num 13 a b _ true w fa fb (by omega) (fun W => rw13 a b W ha1 ha2 hb1 hb2)
  · exact rop_num 14 a b _ true w fa fb (by omega) (fun W => rw14 a b W ha1 ha2 hb1 hb2)
  · have e : numT 15 a b = shiftT a b := by unfold numT; simp
    rw [e]
    unfold shiftT
    by_cases h1 : b < -30
    · rw [if_pos (.inl h1)]; exact rop_num 15 a b 0 false w fa fb (by omega) (fun W => rw15_lo a b W ha1 ha2 hb1 hb2 h1)
    by_cases h2 : 30 < b
    · rw [if_pos (.inr h2)]; exact rop_num 15 a b 0 false w fa fb (by omega) (fun W => rw15_hi a b W ha1 ha2 hb1 hb2 h2)
    rw [if_neg (by omega)]
    by_cases h3 : b < 0
    · rw [if_pos h3]; exact rop_num 15 a b _ true w fa fb (by omega) (fun W => rw15_neg a b W ha1 ha2 hb1 hb2 (by omega) h3)
    · rw [if_neg h3]; exact rop_num 15 a b _ true w fa fb (by omega) (fun W => rw15_pos a b W ha1 ha2 hb1 hb2 (by omega) (by omega))
end Go.Proofs.Ytabknckaoeifhaa.Number
