/-
  Awake11, as one text (a claim has at most 60 files).
-/
import Derived.Test.YtjpalcejmloocaaGreatCt42
import Derived.Test.YtjpalcejmloocaaGreatCt49
import Derived.Test.YtjpalcejmloocaaGreatCt45
import Derived.Test.YtjpalcejmloocaaGreatCt50
namespace Go.Proofs.YtjpalcejmloocaaGreat.World
open Go.RowKit Go.Proofs.YtjpalcejmloocaaGreat.Plain
set_option linter.unusedVariables false
attribute [local go_sem ↓] Go.wp_at_zero Go.wp_at_succ
def awkB : Bool := match MS.wholeO 400 400 ((newS firstW 50).make 7 2) with
  | none => false
  | some (S, t) => decide (23 < t ∧ t ≤ 1000000) && (decide (S.phase = 0) && (!S.has 23 && S.has 5))
theorem awk_ok : awkB = true := by decide +kernel
theorem awk_parts : ∃ S t, MS.wholeO 400 400 ((newS firstW 50).make 7 2) = some (S, t) ∧ 23 < t ∧ t ≤ 1000000 ∧ S.phase = 0 ∧ S.has 23 = false ∧ S.has 5 = true := by
  have h := awk_ok
  unfold awkB at h
  cases hq : MS.wholeO 400 400 ((newS firstW 50).make 7 2) with
  | none => rw [hq] at h; cases h
  | some p =>
    obtain ⟨S, t⟩ := p
    rw [hq] at h
    simp only [Bool.and_eq_true, decide_eq_true_eq, Bool.not_eq_true'] at h
    exact ⟨S, t, rfl, h.1.1, h.1.2, h.2.1, h.2.2.1, h.2.2.2⟩
set_option maxRecDepth 100000 in
set_option maxHeartbeats 4000000 in
theorem awake11 (w : World) : Calls Tryz.prog 16 #[] w fun e w' => e = .returned (.bool true) ∧ Ext w w' := by
  obtain ⟨S1, t, hw, t0, t1, hp, h23, h5⟩ := awk_parts
  have ON := Lib.hid (fun W x (h : WorldAt W x firstW) => objnew h first_check rfl 50)
  have FC := Lib.hid (nums_of_check first_check)
  obtain ⟨S0, hS0⟩ : ∃ S0, newS firstW 50 = S0 := ⟨_, rfl⟩
  have p0 : S0.phase ≠ 1 := by rw [← hS0]; show (0 : Int) ≠ 1; decide
  rw [hS0] at ON hw
  clear hS0
  have HW := Lib.hid hw
  clear hw
  have FW := Lib.hid (fun W => first_ W)
  generalize firstW = W0 at *
  go_enter Tryz.func16, Tryz.ntmps16
  go_wp2_with fail
  refine (FW.out _).mono ?_
  rintro e w2 ⟨x, rfl, hb, x2⟩
  have WA := Lib.hid (hb.at_ FC.out)
  have X2 := Lib.hid x2
  clear hb x2
  go_wp2_with fail
  refine (ON.out _ _ WA.out).mono ?_
  rintro e w3 ⟨m, F, rfl, hm, hF, x3⟩
  have X3 := Lib.hid (X2.out.trans x3)
  have FF := Lib.hid (fun k hk => Nat.le_trans X2.out.below.size (hF k hk))
  have MM := Lib.hid (mmake hm p0 7 2)
  clear x3 hF hm WA X2 ON
  generalize S0.makeId 7 2 = q1 at *
  generalize S0.makeOK 7 2 = q2 at *
  generalize S0.make 7 2 = S01 at *
  go_wp2_with fail
  refine MM.out.mono ?_
  rintro e w4 ⟨rfl, F4, m4, v4⟩
  have MW := Lib.hid (mwhole m4 t1 HW.out)
  have V4 := Lib.hid v4
  clear m4 v4 MM HW
  go_wp2_with fail
  refine MW.out.mono ?_
  rintro e w5 ⟨rfl, F5, m5, v5⟩
  have V5 := Lib.hid (V4.out.trans v5)
  have XE := Lib.hid (show Ext w w5 from Ext.of_below (Keep.below X3.out.below V5.out.keep X3.out.below.size (fun i hi hf => by have := FF.out i hf; omega)))
  obtain ⟨bt, R⟩ := m5.rd
  have c0 := R.c0
  have lt := R.lt
  have C1 := Lib.hid (fun W [x : IsExt w5 W] => by have q := mphase (m5.ext x.out); rw [hp] at q; exact q)
  have C2 := Lib.hid (fun W [IsExt w5 W] => by have q := R.has W 23; rw [h23] at q; exact q)
  have C3 := Lib.hid (fun W [IsExt w5 W] => by have q := R.has W 5; rw [h5] at q; exact q)
  clear m5 v5 MW V4 V5 X3 FF R hp h23 h5
  go_wp2_with (first | (go_at_call 25; refine (C1.out _).mono ?_; rintro e w2 ⟨rfl, x2⟩; obtain ⟨y, rfl⟩ := x2))
  refine calls_name (fun W hW => ?_)
  have hx : IsExt w5 W := ⟨by rw [hW]; exact is_ext _ _⟩
  clear hW
  refine (C2.out W).mono ?_
  rintro e w6 ⟨rfl, x6⟩
  have X6 := Lib.hid (hx.out.trans x6)
  have c6 := (X6.out.below.cell (p := ⟨m, 0, none⟩) lt).trans c0
  have l6 := Nat.lt_of_lt_of_le lt X6.out.below.size
  clear hx x6 c0 lt C1 C2
  go_wp2_with fail
  refine calls_name (fun W hW => ?_)
  have hx : IsExt w6 W := ⟨by rw [hW]; exact is_ext _ _⟩
  clear hW
  haveI : IsExt w5 W := ⟨X6.out.trans hx.out⟩
  refine (C3.out W).mono ?_
  rintro e w7 ⟨rfl, x7⟩
  have X7 := Lib.hid ((X6.out.trans hx.out).trans x7)
  clear hx x7 X6 c6 l6 C3
  go_wp2_with fail
  go_ret
  exact ⟨rfl, XE.out.trans X7.out⟩
end Go.Proofs.YtjpalcejmloocaaGreat.World
