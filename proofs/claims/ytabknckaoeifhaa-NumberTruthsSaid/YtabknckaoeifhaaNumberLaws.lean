/-
  The walks of the laws of chapter 17: NumberAll, NumberEdges, NumberNone, NumberLaws, NumberTruths.
-/
import Derived.Test.YtabknckaoeifhaaNumberRef
import Derived.OpenShut
import Derived.ProofKit
namespace Go.Proofs.Ytabknckaoeifhaa.NumberLaws
open Go.RowKit Go.Proofs.Ytabknckaoeifhaa.Plain Go.Proofs.Ytabknckaoeifhaa.Word Go.Proofs.Ytabknckaoeifhaa.Number
set_option linter.unusedVariables false

theorem sameVal (o : Bool) (v : Int) (w : World) : Calls Try.prog 33 #[.agg #[.bool o, .int .i64 v], .agg #[.bool o, .int .i64 v]] w fun e w' => e = .returned (.bool true) ∧ Ext w w' := by
  go_enter Try.func33, Try.ntmps33
  go_wp2
  go_ret
  exact ⟨rfl, ((Ext.refl _).alloc _).alloc _⟩
/-- an answer that is known -/
theorem opv {n a b : Int} {o : Bool} {v : Int} {ok : Bool} (h : opT n a b = (o, v, ok)) (w : World) :
    Calls Try.prog 31 #[.int .i64 n, .int .i64 a, .int .i64 b] w fun e w' => e = .returned (.tuple #[.agg #[.bool o, .int .i64 v], .bool ok]) ∧ Ext w w' :=
  (op n a b w).mono fun e w' ⟨he, hx⟩ => ⟨by rw [he, h]; rfl, hx⟩
theorem ropv {n a b : Int} {o : Bool} {v : Int} {ok : Bool} (h : opT n a b = (o, v, ok)) (w : World) :
    Calls Try.prog 32 #[.int .i64 n, .int .i64 a, .int .i64 b] w fun e w' => e = .returned (.tuple #[.agg #[.bool o, .int .i64 v], .bool ok]) ∧ Ext w w' :=
  (rop n a b w).mono fun e w' ⟨he, hx⟩ => ⟨by rw [he, h]; rfl, hx⟩
set_option maxHeartbeats 2000000 in
theorem awake (w : World) : Calls Try.prog 36 #[] w fun e w' => e = .returned (.bool true) ∧ Ext w w' := by
  go_enter Try.func36, Try.ntmps36
  go_wp2_with fail
  refine (opv (o := false) (v := -4) (ok := true) (by decide) _).mono ?_
  rintro e w1 ⟨rfl, x1⟩
  go_wp2_with fail
  refine (opv (o := false) (v := 1) (ok := true) (by decide) _).mono ?_
  rintro e w2 ⟨rfl, x2⟩
  have B1 := (Blk.new w1 55 #[.bool false, .int .i64 (-4)]).ext x2
  have E2 : Ext w w2 := (x1.alloc _).trans x2
  obtain ⟨c1, f1, z1⟩ := B1.rules
  have hn : ((nameB 5).toList == [92, 92]) = true := by decide +kernel
  go_wp2_with fail
  refine (name _ _).mono ?_
  rintro e w3 ⟨rfl, x3⟩
  go_wp2_with fail
  go_ret
  exact ⟨rfl, (E2.alloc _).trans x3⟩
set_option maxHeartbeats 2000000 in
theorem numberAll (a0 a1 a2 : Int) (w0 : (Lit.int .i64 a0).wf = true) (w1 : (Lit.int .i64 a1).wf = true) (w2 : (Lit.int .i64 a2).wf = true) (w : World) :
    Calls Try.prog 10 #[.int .i64 a0, .int .i64 a1, .int .i64 a2] w fun e w' => e = .returned (.bool true) ∧ Below w.heap.size w w' := by
  clear w0 w1 w2
  obtain ⟨o, v, ok, hT⟩ : ∃ o v ok, opT a0 a1 a2 = (o, v, ok) := ⟨_, _, _, rfl⟩
  have HT := Lib.hid hT
  clear hT
  go_enter Try.func10, Try.ntmps10
  go_wp2_with fail
  refine (opv HT.out _).mono ?_
  rintro e w1 ⟨rfl, x1⟩
  go_wp2_with fail
  refine (ropv HT.out _).mono ?_
  rintro e w2 ⟨rfl, x2⟩
  have B1 := (Blk.new w1 55 #[.bool o, .int .i64 v]).ext x2
  have E2 : Ext w w2 := (x1.alloc _).trans x2
  obtain ⟨c1, f1, z1⟩ := B1.rules
  go_wp2_with fail
  refine (sameVal _ _ _).mono ?_
  rintro e w3 ⟨rfl, x3⟩
  go_wp2_with fail
  refine (name _ _).mono ?_
  rintro e w4 ⟨rfl, x4⟩
  go_wp2_with fail
  refine (rname _ _).mono ?_
  rintro e w5 ⟨rfl, x5⟩
  go_wp2_with fail
  refine (awake _).mono ?_
  rintro e w6 ⟨rfl, x6⟩
  go_wp2_with fail
  go_ret
  exact ⟨rfl, (((((E2.alloc _).trans x3).trans x4).trans x5).trans x6).below⟩

/-! ### NumberEdges -/
theorem opT_of {n a b : Int} (ha : fitsB a = true) (hb : fitsB b = true) : opT n a b = numT n a b := by unfold opT; rw [ha, hb]; rfl
theorem wholeT_in {v : Int} (h1 : -536870912 ≤ v) (h2 : v < 536870912) : wholeT v = (false, v, true) := by unfold wholeT; rw [fits_yes h1 h2]; rfl
theorem wholeT_out {v : Int} (h : v < -536870912 ∨ 536870912 ≤ v) : wholeT v = (false, 0, false) := by unfold wholeT; rw [fits_no h]; rfl
theorem op1 (a b : Int) (ha : fitsB a = true) (hb : fitsB b = true) : opT 1 a b = wholeT (a + b) := by rw [opT_of ha hb]; unfold numT; rfl
theorem op2 (a b : Int) (ha : fitsB a = true) (hb : fitsB b = true) : opT 2 a b = wholeT (a - b) := by rw [opT_of ha hb]; unfold numT; rfl
theorem op15 (a b : Int) (ha : fitsB a = true) (hb : fitsB b = true) : opT 15 a b = shiftT a b := by rw [opT_of ha hb]; unfold numT; rfl
theorem opT_no {n a b : Int} (h : fitsB a = false ∨ fitsB b = false) : opT n a b = (false, 0, false) := by
  unfold opT; rcases h with h | h <;> simp [h, noneT]
set_option maxRecDepth 100000 in
set_option maxHeartbeats 4000000 in
theorem edges (a0 a1 x p U V : Int) (n : Nat) (fit onV : Bool) (oV : Bool) (w : World) (hx0 : 0 ≤ x) (hx1 : x < 1000) (hn : n < 31) (x1 : -9223372036854775808 ≤ a0) (x2 : a0 ≤ 9223372036854775807) (y1 : -9223372036854775808 ≤ a1) (y2 : a1 ≤ 9223372036854775807)
    (ex : a0 % 1000 = x) (en : a1 % 31 = (n : Int)) (ep : x * 2 ^ n = p) (p0 : 0 ≤ p) (p1 : p ≤ 1073741824000)
    (t1 : opT 1 (536870911 - x) x = (false, 536870911, true)) (t2 : opT 1 (536870912 - x) x = (false, 0, false)) (t3 : opT 2 (-536870912 + x) x = (false, -536870912, true)) (t4 : opT 2 (-536870912 + x - 1) x = (false, 0, false))
    (t5 : opT 15 x n = (false, U, fit)) (t6 : opT 15 U (-(n : Int)) = (oV, V, onV)) (t7 : opT 15 x (31 + (n : Int)) = (false, 0, false)) (ef : decide (p < 536870912) = fit)
    (ok : fit = true → U = p ∧ onV = true ∧ V = x) :
    Calls Try.prog 12 #[.int .i64 a0, .int .i64 a1] w fun e w' => e = .returned (.bool true) ∧ Below w.heap.size w w' := by
  have T1 := Lib.hid t1
  have T2 := Lib.hid t2
  have T3 := Lib.hid t3
  have T4 := Lib.hid t4
  have T5 := Lib.hid t5
  have T6 := Lib.hid t6
  have T7 := Lib.hid t7
  clear t1 t2 t3 t4 t5 t6 t7
  have n0 : (0 : Int) ≤ (n : Int) := by omega
  have n1 : (n : Int) < 31 := by omega
  go_enter Try.func12, Try.ntmps12
  go_wp2_with (go_at_call 19; refine (place _ _ _ (by omega) (by omega) (by omega) (by omega)).mono ?_; rintro e w' ⟨rfl, rfl⟩)
  refine (opv T1.out _).mono ?_
  rintro e w1 ⟨rfl, x1⟩
  go_wp2_with fail
  refine (opv T2.out _).mono ?_
  rintro e w2 ⟨rfl, x2⟩
  have B1 := (Blk.new w1 55 #[.bool false, .int .i64 536870911]).ext x2
  have E2 : Ext w w2 := (x1.alloc _).trans x2
  go_wp2_with fail
  refine (opv T3.out _).mono ?_
  rintro e w3 ⟨rfl, x3⟩
  replace B1 := (B1.alloc _).ext x3
  have E3 : Ext w w3 := (E2.alloc _).trans x3
  go_wp2_with fail
  refine (opv T4.out _).mono ?_
  rintro e w4 ⟨rfl, x4⟩
  replace B1 := (B1.alloc _).ext x4
  have B3 := (Blk.new w3 55 #[.bool false, .int .i64 (-536870912)]).ext x4
  have E4 : Ext w w4 := (E3.alloc _).trans x4
  go_wp2_with fail
  refine (opv T5.out _).mono ?_
  rintro e w5 ⟨rfl, x5⟩
  replace B1 := (B1.alloc _).ext x5
  replace B3 := (B3.alloc _).ext x5
  have E5 : Ext w w5 := (E4.alloc _).trans x5
  have B5 := Blk.new w5 55 #[.bool false, .int .i64 U]
  go_wp2_with fail
  refine (opv T6.out _).mono ?_
  rintro e w6 ⟨rfl, x6⟩
  replace B1 := (B1.alloc _).ext x6
  replace B3 := (B3.alloc _).ext x6
  replace B5 := B5.ext x6
  have E6 : Ext w w6 := (E5.alloc _).trans x6
  go_wp2_with fail
  refine (opv T7.out _).mono ?_
  rintro e w7 ⟨rfl, x7⟩
  replace B1 := (B1.alloc _).ext x7
  replace B3 := (B3.alloc _).ext x7
  replace B5 := (B5.alloc _).ext x7
  have B6 := (Blk.new w6 55 #[.bool oV, .int .i64 V]).ext x7
  have E7 : Ext w w7 := (E6.alloc _).trans x7
  obtain ⟨q1, q2, q3⟩ := B1.rules
  obtain ⟨r1, r2, r3⟩ := B3.rules
  obtain ⟨s1, s2, s3⟩ := B5.rules
  obtain ⟨v1, v2, v3⟩ := B6.rules
  have OK := Lib.hid ok
  clear ok
  cases fit
  · go_wp2_with fail
    refine (awake _).mono ?_
    rintro e w8 ⟨rfl, x8⟩
    go_wp2_with fail
    go_ret
    exact ⟨rfl, ((E7.alloc _).trans x8).below⟩
  · obtain ⟨k1, rfl, k3⟩ := OK.out rfl
    have e1 : (U == p) = true := by simp [k1]
    have e2 : (V == x) = true := by simp [k3]
    clear OK k1 k3
    go_wp2_with fail
    refine (awake _).mono ?_
    rintro e w8 ⟨rfl, x8⟩
    go_wp2_with fail
    go_ret
    exact ⟨rfl, ((E7.alloc _).trans x8).below⟩
theorem numberEdges (a0 a1 : Int) (w0 : (Lit.int .i64 a0).wf = true) (w1 : (Lit.int .i64 a1).wf = true) (w : World) :
    Calls Try.prog 12 #[.int .i64 a0, .int .i64 a1] w fun e w' => e = .returned (.bool true) ∧ Below w.heap.size w w' := by
  obtain ⟨x1, x2⟩ := bounds_i64 w0
  obtain ⟨y1, y2⟩ := bounds_i64 w1
  obtain ⟨x, ex⟩ : ∃ x, a0 % 1000 = x := ⟨_, rfl⟩
  obtain ⟨n, en⟩ : ∃ n : Nat, a1 % 31 = (n : Int) := ⟨(a1 % 31).toNat, by omega⟩
  have hx0 : 0 ≤ x := by omega
  have hx1 : x < 1000 := by omega
  have hn : n < 31 := by omega
  obtain ⟨q1, q2⟩ := pow_le_30 n (by omega)
  have p0 : 0 ≤ x * 2 ^ n := Int.mul_nonneg hx0 (by omega)
  have p1 : x * 2 ^ n ≤ 1073741824000 := by
    have h := Int.mul_le_mul (show x ≤ 1000 by omega) q1 (by omega) (by omega); omega
  have fx : fitsB x = true := fits_yes (by omega) (by omega)
  have fn : fitsB (n : Int) = true := fits_yes (by omega) (by omega)
  have t1 : opT 1 (536870911 - x) x = (false, 536870911, true) := by
    rw [op1 _ _ (fits_yes (by omega) (by omega)) fx, show 536870911 - x + x = 536870911 from by omega, wholeT_in (by omega) (by omega)]
  have t2 : opT 1 (536870912 - x) x = (false, 0, false) := by
    by_cases h : x = 0
    · exact opT_no (.inl (fits_no (by omega)))
    · rw [op1 _ _ (fits_yes (by omega) (by omega)) fx, wholeT_out (by omega)]
  have t3 : opT 2 (-536870912 + x) x = (false, -536870912, true) := by
    rw [op2 _ _ (fits_yes (by omega) (by omega)) fx, show -536870912 + x - x = -536870912 from by omega, wholeT_in (by omega) (by omega)]
  have t4 : opT 2 (-536870912 + x - 1) x = (false, 0, false) := by
    by_cases h : x = 0
    · exact opT_no (.inl (fits_no (by omega)))
    · rw [op2 _ _ (fits_yes (by omega) (by omega)) fx, wholeT_out (by omega)]
  have t5 : opT 15 x n = wholeT (x * 2 ^ n) := by
    rw [op15 _ _ fx fn]; unfold shiftT; rw [if_neg (by omega), if_neg (by omega), Int.toNat_natCast]
  have t7 : opT 15 x (31 + (n : Int)) = (false, 0, false) := by
    rw [op15 _ _ fx (fits_yes (by omega) (by omega))]; unfold shiftT; rw [if_pos (by omega)]; rfl
  by_cases hf : x * 2 ^ n < 536870912
  · have fp : fitsB (x * 2 ^ n) = true := fits_yes (by omega) hf
    have t6 : opT 15 (x * 2 ^ n) (-(n : Int)) = (false, x, true) := by
      rw [op15 _ _ fp (fits_yes (by omega) (by omega))]; unfold shiftT; rw [if_neg (by omega)]
      by_cases h0 : n = 0
      · subst h0
        rw [if_neg (by omega)]
        have e : x * 2 ^ 0 * 2 ^ (-((0 : Nat) : Int)).toNat = x := by simp
        rw [e, wholeT_in (by omega) (by omega)]
      · rw [if_pos (by omega)]
        have e : x * 2 ^ n / 2 ^ (-(-(n : Int))).toNat = x := by
          rw [Int.neg_neg, Int.toNat_natCast]
          exact Int.mul_ediv_cancel x (by omega)
        rw [e, wholeT_in (by omega) (by omega)]
    exact edges a0 a1 x _ _ _ n true true false w hx0 hx1 hn x1 x2 y1 y2 ex en rfl p0 p1 t1 t2 t3 t4 (by rw [t5, wholeT_in (by omega) hf]) t6 t7 (by simpa using hf) (fun _ => ⟨rfl, rfl, rfl⟩)
  · exact edges a0 a1 x _ _ _ n false _ _ w hx0 hx1 hn x1 x2 y1 y2 ex en rfl p0 p1 t1 t2 t3 t4 (by rw [t5, wholeT_out (by omega)]) rfl t7 (by simpa using hf) (fun h => by cases h)
end Go.Proofs.Ytabknckaoeifhaa.NumberLaws
