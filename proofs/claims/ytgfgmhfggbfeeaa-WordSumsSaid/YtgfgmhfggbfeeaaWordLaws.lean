/-
  The walks of the laws of chapter 1: WordSums, WordBack, WordCuts, WordAll.
-/
import Derived.Test.YtgfgmhfggbfeeaaWord
import Derived.OpenShut
import Derived.ProofKit
namespace Go.Proofs.Ytgfgmhfggbfeeaa.WordLaws
open Go.RowKit Go.Proofs.Ytgfgmhfggbfeeaa.Plain Go.Proofs.Ytgfgmhfggbfeeaa.Word
set_option linter.unusedVariables false

theorem i64_bd {a : Int} (h : (Lit.int .i64 a).wf = true) : -9223372036854775808 ≤ a ∧ a ≤ 9223372036854775807 := bounds_i64 h

theorem sums_in (a0 a1 : Int) (w : World) (x1 : -9223372036854775808 ≤ a0) (x2 : a0 ≤ 9223372036854775807) (y1 : -9223372036854775808 ≤ a1) (y2 : a1 ≤ 9223372036854775807)
    (h1 : -536870912 ≤ a0 % 1073741824 - 536870912 + (a1 % 1073741824 - 536870912)) (h2 : a0 % 1073741824 - 536870912 + (a1 % 1073741824 - 536870912) < 536870912) :
    Calls Try.prog 3 #[.int .i64 a0, .int .i64 a1] w fun e w' => e = .returned (.bool true) ∧ Grown w w' := by
  have fx : fitsB (a0 % 1073741824 - 536870912) = true := fits_yes (by omega) (by omega)
  have fy : fitsB (a1 % 1073741824 - 536870912) = true := fits_yes (by omega) (by omega)
  have fs : fitsB (a0 % 1073741824 - 536870912 + (a1 % 1073741824 - 536870912)) = true := fits_yes (by omega) (by omega)
  have ft : fitsB (a1 % 1073741824 - 536870912 + (a0 % 1073741824 - 536870912)) = true := fits_yes (by omega) (by omega)
  have fm : (fitsB 536870912 && fitsB (a1 % 1073741824 - 536870912) && fitsB (536870912 + (a1 % 1073741824 - 536870912))) = false := by rw [fits_no (by omega)]; rfl
  have f1 : fitsB 536870912 = false := by decide
  have f2 : fitsB (-536870913) = false := by decide
  have ec : (a1 % 1073741824 - 536870912 + (a0 % 1073741824 - 536870912) == a0 % 1073741824 - 536870912 + (a1 % 1073741824 - 536870912)) = true := by rw [Int.add_comm]; simp
  go_enter Try.func3, Try.ntmps3
  go_wp2_with (first | (go_at_call 16; refine (place _ _ _ (by omega) (by omega) (by omega) (by omega)).mono ?_; rintro e w' ⟨rfl, rfl⟩) | (go_at_call 17; refine (add_yes _ _ _ (by assumption) (by assumption) (by assumption)).mono ?_; rintro e w' ⟨rfl, rfl⟩) | (go_at_call 17; refine (add_no _ _ _ (by assumption)).mono ?_; rintro e w' ⟨rfl, rfl⟩) | (go_at_call 18; refine (fits _ _).mono ?_; rintro e w' ⟨rfl, rfl⟩) | (go_at_call 19; refine (awake _).mono ?_; rintro e w' ⟨rfl, rfl⟩))
  go_ret
  exact ⟨rfl, Grown.refl _⟩
theorem sums_out (a0 a1 : Int) (w : World) (x1 : -9223372036854775808 ≤ a0) (x2 : a0 ≤ 9223372036854775807) (y1 : -9223372036854775808 ≤ a1) (y2 : a1 ≤ 9223372036854775807)
    (hn : ¬ -536870912 ≤ a0 % 1073741824 - 536870912 + (a1 % 1073741824 - 536870912) ∨ -536870912 ≤ a0 % 1073741824 - 536870912 + (a1 % 1073741824 - 536870912) ∧ ¬ a0 % 1073741824 - 536870912 + (a1 % 1073741824 - 536870912) < 536870912) :
    Calls Try.prog 3 #[.int .i64 a0, .int .i64 a1] w fun e w' => e = .returned (.bool true) ∧ Grown w w' := by
  have fs : (fitsB (a0 % 1073741824 - 536870912) && fitsB (a1 % 1073741824 - 536870912) && fitsB (a0 % 1073741824 - 536870912 + (a1 % 1073741824 - 536870912))) = false := by rw [fits_no (v := _ + _) (by omega)]; simp
  have ft : (fitsB (a1 % 1073741824 - 536870912) && fitsB (a0 % 1073741824 - 536870912) && fitsB (a1 % 1073741824 - 536870912 + (a0 % 1073741824 - 536870912))) = false := by rw [fits_no (v := _ + _) (by omega)]; simp
  have fm : (fitsB 536870912 && fitsB (a1 % 1073741824 - 536870912) && fitsB (536870912 + (a1 % 1073741824 - 536870912))) = false := by rw [fits_no (by omega)]; rfl
  have fx : fitsB (a0 % 1073741824 - 536870912) = true := fits_yes (by omega) (by omega)
  have f1 : fitsB 536870912 = false := by decide
  have f2 : fitsB (-536870913) = false := by decide
  have Fs := Lib.hid fs
  have Ft := Lib.hid ft
  have Fm := Lib.hid fm
  clear fs ft fm
  have hd : ¬ a0 % 1073741824 - 536870912 + (a1 % 1073741824 - 536870912) < 536870912 → decide (a0 % 1073741824 - 536870912 + (a1 % 1073741824 - 536870912) < 536870912) = false := fun h => by simpa using h
  rcases hn with h | ⟨h1, h⟩
  · clear hd
    go_enter Try.func3, Try.ntmps3
    go_wp2_with (first | (go_at_call 16; refine (place _ _ _ (by omega) (by omega) (by omega) (by omega)).mono ?_; rintro e w' ⟨rfl, rfl⟩) | (go_at_call 17; refine (add_no _ _ _ (by with_reducible first | exact Fs.out | exact Ft.out | exact Fm.out)).mono ?_; rintro e w' ⟨rfl, rfl⟩) | (go_at_call 18; refine (fits _ _).mono ?_; rintro e w' ⟨rfl, rfl⟩) | (go_at_call 19; refine (awake _).mono ?_; rintro e w' ⟨rfl, rfl⟩))
    go_ret
    exact ⟨rfl, Grown.refl _⟩
  · have hd' := hd h
    clear hd
    go_enter Try.func3, Try.ntmps3
    go_wp2_with (first | (go_at_call 16; refine (place _ _ _ (by omega) (by omega) (by omega) (by omega)).mono ?_; rintro e w' ⟨rfl, rfl⟩) | (go_at_call 17; refine (add_no _ _ _ (by with_reducible first | exact Fs.out | exact Ft.out | exact Fm.out)).mono ?_; rintro e w' ⟨rfl, rfl⟩) | (go_at_call 18; refine (fits _ _).mono ?_; rintro e w' ⟨rfl, rfl⟩) | (go_at_call 19; refine (awake _).mono ?_; rintro e w' ⟨rfl, rfl⟩))
    go_ret
    exact ⟨rfl, Grown.refl _⟩
theorem wordSums (a0 a1 : Int) (w0 : (Lit.int .i64 a0).wf = true) (w1 : (Lit.int .i64 a1).wf = true) (w : World) :
    Calls Try.prog 3 #[.int .i64 a0, .int .i64 a1] w fun e w' => e = .returned (.bool true) ∧ Grown w w' := by
  obtain ⟨x1, x2⟩ := i64_bd w0
  obtain ⟨y1, y2⟩ := i64_bd w1
  by_cases h1 : -536870912 ≤ a0 % 1073741824 - 536870912 + (a1 % 1073741824 - 536870912)
  · by_cases h2 : a0 % 1073741824 - 536870912 + (a1 % 1073741824 - 536870912) < 536870912
    · exact sums_in a0 a1 w x1 x2 y1 y2 h1 h2
    · exact sums_out a0 a1 w x1 x2 y1 y2 (.inr ⟨h1, h2⟩)
  · exact sums_out a0 a1 w x1 x2 y1 y2 (.inl h1)

theorem wordAll (a0 a1 a2 : Int) (w0 : (Lit.int .i64 a0).wf = true) (w1 : (Lit.int .i64 a1).wf = true) (w2 : (Lit.int .u32 a2).wf = true) (w : World) :
    Calls Try.prog 15 #[.int .i64 a0, .int .i64 a1, .int .u32 a2] w fun e w' => e = .returned (.bool true) ∧ Grown w w' := by
  obtain ⟨x1, x2⟩ := i64_bd w0
  obtain ⟨y1, y2⟩ := i64_bd w1
  obtain ⟨z1, z2⟩ := bounds_u32 w2
  clear w0 w1 w2
  cases h : fitsB a0 && fitsB a1 && fitsB (a0 + a1)
  · have H := Lib.hid h
    clear h
    go_enter Try.func15, Try.ntmps15
    go_wp2_with (first | (go_at_call 17; refine (add_no _ _ _ H.out).mono ?_; rintro e w' ⟨rfl, rfl⟩) | (go_at_call 47; refine (radd_no _ _ _ H.out).mono ?_; rintro e w' ⟨rfl, rfl⟩) | (go_at_call 18; refine (fits _ _).mono ?_; rintro e w' ⟨rfl, rfl⟩) | (go_at_call 53; refine (rfits _ _).mono ?_; rintro e w' ⟨rfl, rfl⟩) | (go_at_call 27; refine (int _ _ x1 x2).mono ?_; rintro e w' ⟨rfl, rfl⟩) | (go_at_call 48; refine (rint _ _ x1 x2).mono ?_; rintro e w' ⟨rfl, rfl⟩) | (go_at_call 29; refine (ref _ _ x1 x2).mono ?_; rintro e w' ⟨rfl, rfl⟩) | (go_at_call 49; refine (rref _ _ x1 x2).mono ?_; rintro e w' ⟨rfl, rfl⟩) | (go_at_call 30; refine (isint _ _ z1 (by omega)).mono ?_; rintro e w' ⟨rfl, rfl⟩) | (go_at_call 50; refine (risint _ _ z1 (by omega)).mono ?_; rintro e w' ⟨rfl, rfl⟩) | (go_at_call 26; refine (intof _ _ z1 (by omega)).mono ?_; rintro e w' ⟨rfl, rfl⟩) | (go_at_call 51; refine (rintof _ _ z1 (by omega)).mono ?_; rintro e w' ⟨rfl, rfl⟩) | (go_at_call 28; refine (refof _ _ z1 (by omega)).mono ?_; rintro e w' ⟨rfl, rfl⟩) | (go_at_call 52; refine (rrefof _ _ z1 (by omega)).mono ?_; rintro e w' ⟨rfl, rfl⟩) | (go_at_call 19; refine (awake _).mono ?_; rintro e w' ⟨rfl, rfl⟩))
    go_ret
    exact ⟨rfl, Grown.refl _⟩
  · simp only [Bool.and_eq_true] at h
    obtain ⟨⟨f1, f2⟩, f3⟩ := h
    go_enter Try.func15, Try.ntmps15
    go_wp2_with (first | (go_at_call 17; refine (add_yes _ _ _ f1 f2 f3).mono ?_; rintro e w' ⟨rfl, rfl⟩) | (go_at_call 47; refine (radd_yes _ _ _ f1 f2 f3).mono ?_; rintro e w' ⟨rfl, rfl⟩) | (go_at_call 18; refine (fits _ _).mono ?_; rintro e w' ⟨rfl, rfl⟩) | (go_at_call 53; refine (rfits _ _).mono ?_; rintro e w' ⟨rfl, rfl⟩) | (go_at_call 27; refine (int _ _ x1 x2).mono ?_; rintro e w' ⟨rfl, rfl⟩) | (go_at_call 48; refine (rint _ _ x1 x2).mono ?_; rintro e w' ⟨rfl, rfl⟩) | (go_at_call 29; refine (ref _ _ x1 x2).mono ?_; rintro e w' ⟨rfl, rfl⟩) | (go_at_call 49; refine (rref _ _ x1 x2).mono ?_; rintro e w' ⟨rfl, rfl⟩) | (go_at_call 30; refine (isint _ _ z1 (by omega)).mono ?_; rintro e w' ⟨rfl, rfl⟩) | (go_at_call 50; refine (risint _ _ z1 (by omega)).mono ?_; rintro e w' ⟨rfl, rfl⟩) | (go_at_call 26; refine (intof _ _ z1 (by omega)).mono ?_; rintro e w' ⟨rfl, rfl⟩) | (go_at_call 51; refine (rintof _ _ z1 (by omega)).mono ?_; rintro e w' ⟨rfl, rfl⟩) | (go_at_call 28; refine (refof _ _ z1 (by omega)).mono ?_; rintro e w' ⟨rfl, rfl⟩) | (go_at_call 52; refine (rrefof _ _ z1 (by omega)).mono ?_; rintro e w' ⟨rfl, rfl⟩) | (go_at_call 19; refine (awake _).mono ?_; rintro e w' ⟨rfl, rfl⟩))
    go_ret
    exact ⟨rfl, Grown.refl _⟩

/-! ### the plain laws of WordBack and WordCuts -/
theorem back_int (v : Int) (h1 : -1073741824 ≤ v) (h2 : v < 1073741824) : intOfW (intW v) = v := by
  have hc : cutI v = v := by unfold cutI; rw [if_neg (by omega), if_neg (by omega)]
  unfold intOfW intW
  rw [hc, if_pos (by omega)]
  split <;> omega
theorem back_ref (v : Int) (h1 : 0 ≤ v) (h2 : v < 1073741824) : refOfW (refW v) = v := by
  have hc : refW v = 2 * v := by unfold refW; rw [if_neg (by omega), if_neg (by omega)]
  unfold refOfW
  rw [hc, if_neg (by omega)]
  omega
theorem int_odd (v : Int) : intW v % 2 = 1 := by unfold intW; omega
theorem ref_even (v : Int) : refW v % 2 = 0 := by unfold refW; split <;> (try split) <;> omega
theorem isint_int (v : Int) : isIntB (intW v) = true := by simp [isIntB, int_odd]
theorem isint_ref (v : Int) : isIntB (refW v) = false := by simp [isIntB, ref_even]
theorem refof_int (v : Int) : refOfW (intW v) = 0 := by simp [refOfW, int_odd]
theorem intof_ref (v : Int) : intOfW (refW v) = 0 := by simp [intOfW, ref_even]
theorem int_ne_ref (v p : Int) : (intW v == refW p) = false := by
  have h1 := int_odd v
  have h2 := ref_even p
  rw [beq_eq_false_iff_ne]
  intro h; rw [h] at h1; omega
theorem int_of_word (w : Int) (h0 : 0 ≤ w) (h1 : w < 4294967296) (h : w % 2 = 1) : intW (intOfW w) = w := by
  unfold intOfW; rw [if_pos h]; unfold intW cutI
  split <;> (rw [if_neg (by omega), if_neg (by omega)]; omega)
theorem ref_of_word (w : Int) (h0 : 0 ≤ w) (h1 : w < 4294967296) (h : w % 2 = 0) : refW (refOfW w) = w := by
  unfold refOfW; rw [if_neg (by omega)]; unfold refW
  rw [if_neg (by omega), if_neg (by omega)]; omega
theorem intof_bd (w : Int) (h0 : 0 ≤ w) (h1 : w < 4294967296) : -1073741824 ≤ intOfW w ∧ intOfW w < 1073741824 := by
  unfold intOfW; split <;> (try split) <;> omega
theorem refof_bd (w : Int) (h0 : 0 ≤ w) (h1 : w < 4294967296) : 0 ≤ refOfW w ∧ refOfW w < 2147483648 := by
  unfold refOfW; split <;> omega

theorem wordBack (a0 a1 a2 : Int) (w0 : (Lit.int .i64 a0).wf = true) (w1 : (Lit.int .i64 a1).wf = true) (w2 : (Lit.int .u32 a2).wf = true) (w : World) :
    Calls Try.prog 8 #[.int .i64 a0, .int .i64 a1, .int .u32 a2] w fun e w' => e = .returned (.bool true) ∧ Grown w w' := by
  obtain ⟨x1, x2⟩ := i64_bd w0
  obtain ⟨y1, y2⟩ := i64_bd w1
  obtain ⟨z1, z2⟩ := bounds_u32 w2
  clear w0 w1 w2
  have b1 := back_int (a0 % 2147483648 - 1073741824) (by omega) (by omega)
  have b2 := back_ref (a1 % 1073741824) (by omega) (by omega)
  have b3 := isint_int (a0 % 2147483648 - 1073741824)
  have b4 := isint_ref (a1 % 1073741824)
  have b5 := refof_int (a0 % 2147483648 - 1073741824)
  have b6 := intof_ref (a1 % 1073741824)
  have b7 := int_ne_ref (a0 % 2147483648 - 1073741824) (a1 % 1073741824)
  obtain ⟨c1, c2⟩ := intW_bd (a0 % 2147483648 - 1073741824)
  obtain ⟨d1, d2⟩ := refW_bd (a1 % 1073741824)
  obtain ⟨e1, e2⟩ := intof_bd a2 z1 (by omega)
  obtain ⟨e3, e4⟩ := refof_bd a2 z1 (by omega)
  rcases Int.emod_two_eq a2 with h | h
  · have f1 := ref_of_word a2 z1 (by omega) h
    have f2 : isIntB a2 = false := by simp [isIntB, h]
    clear h
    go_enter Try.func8, Try.ntmps8
    go_wp2_with (first | (go_at_call 16; refine (place _ _ _ (by omega) (by omega) (by omega) (by omega)).mono ?_; rintro e w' ⟨rfl, rfl⟩) | (go_at_call 27; refine (int _ _ (by omega) (by omega)).mono ?_; rintro e w' ⟨rfl, rfl⟩) | (go_at_call 29; refine (ref _ _ (by omega) (by omega)).mono ?_; rintro e w' ⟨rfl, rfl⟩) | (go_at_call 30; refine (isint _ _ (by omega) (by omega)).mono ?_; rintro e w' ⟨rfl, rfl⟩) | (go_at_call 26; refine (intof _ _ (by omega) (by omega)).mono ?_; rintro e w' ⟨rfl, rfl⟩) | (go_at_call 28; refine (refof _ _ (by omega) (by omega)).mono ?_; rintro e w' ⟨rfl, rfl⟩) | (go_at_call 19; refine (awake _).mono ?_; rintro e w' ⟨rfl, rfl⟩))
    go_ret
    exact ⟨rfl, Grown.refl _⟩
  · have f1 := int_of_word a2 z1 (by omega) h
    have f2 : isIntB a2 = true := by simp [isIntB, h]
    clear h
    go_enter Try.func8, Try.ntmps8
    go_wp2_with (first | (go_at_call 16; refine (place _ _ _ (by omega) (by omega) (by omega) (by omega)).mono ?_; rintro e w' ⟨rfl, rfl⟩) | (go_at_call 27; refine (int _ _ (by omega) (by omega)).mono ?_; rintro e w' ⟨rfl, rfl⟩) | (go_at_call 29; refine (ref _ _ (by omega) (by omega)).mono ?_; rintro e w' ⟨rfl, rfl⟩) | (go_at_call 30; refine (isint _ _ (by omega) (by omega)).mono ?_; rintro e w' ⟨rfl, rfl⟩) | (go_at_call 26; refine (intof _ _ (by omega) (by omega)).mono ?_; rintro e w' ⟨rfl, rfl⟩) | (go_at_call 28; refine (refof _ _ (by omega) (by omega)).mono ?_; rintro e w' ⟨rfl, rfl⟩) | (go_at_call 19; refine (awake _).mono ?_; rintro e w' ⟨rfl, rfl⟩))
    go_ret
    exact ⟨rfl, Grown.refl _⟩

theorem wrap_int (v : Int) (h1 : -1073741824 ≤ v) (h2 : v < 1073741824) : wrap32 (intW v) = 2 * v + 1 := by
  unfold intW cutI wrap32; rw [if_neg (by omega), if_neg (by omega)]; omega
set_option maxHeartbeats 4000000 in
theorem cuts_core (a0 a1 c : Int) (b1 b2 : Bool) (w : World) (x1 : -9223372036854775808 ≤ a0) (x2 : a0 ≤ 9223372036854775807) (y1 : -9223372036854775808 ≤ a1) (y2 : a1 ≤ 9223372036854775807)
    (hc : a0 < -1073741824 ∧ c = -1073741824 ∨ -1073741824 ≤ a0 ∧ a0 ≤ 1073741823 ∧ c = a0 ∨ 1073741823 < a0 ∧ c = 1073741823)
    (f1 : (a0 % 2147483648 - 1073741824 == a1 % 2147483648 - 1073741824) = b1) (f2 : (intW (a0 % 2147483648 - 1073741824) == intW (a1 % 2147483648 - 1073741824)) = b1)
    (f3 : decide (a0 % 2147483648 < a1 % 2147483648) = b2) (f4 : decide (wrap32 (intW (a0 % 2147483648 - 1073741824)) < wrap32 (intW (a1 % 2147483648 - 1073741824))) = b2)
    (b3 : Bool) (f5 : fitsB (a0 % 2147483648 - 1073741824) = b3) (f6 : (decide (-536870912 ≤ a0 % 2147483648 - 1073741824) = true ∧ decide (a0 % 2147483648 - 1073741824 < 536870912) = b3) ∨ decide (-536870912 ≤ a0 % 2147483648 - 1073741824) = false ∧ b3 = false) :
    Calls Try.prog 9 #[.int .i64 a0, .int .i64 a1] w fun e w' => e = .returned (.bool true) ∧ Grown w w' := by
  have e1 : intOfW (intW a0) = c := by
    have : cutI a0 = c := by
      unfold cutI
      rcases hc with ⟨h, rfl⟩ | ⟨h, h', rfl⟩ | ⟨h, rfl⟩
      · rw [if_pos h]
      · rw [if_neg (by omega), if_neg (by omega)]
      · rw [if_neg (by omega), if_pos h]
    unfold intOfW intW; rw [this, if_pos (by omega)]; split <;> omega
  have e2 : refOfW (refW (-1 - a0 % 1000)) = 0 := by
    have : refW (-1 - a0 % 1000) = 0 := by unfold refW; rw [if_pos (by omega)]; rfl
    rw [this]; rfl
  obtain ⟨c1, c2⟩ := intW_bd a0
  obtain ⟨c3, c4⟩ := refW_bd (-1 - a0 % 1000)
  obtain ⟨c5, c6⟩ := intW_bd (a0 % 2147483648 - 1073741824)
  obtain ⟨c7, c8⟩ := intW_bd (a1 % 2147483648 - 1073741824)
  rcases hc with ⟨h, rfl⟩ | ⟨h, h', rfl⟩ | ⟨h, rfl⟩
  all_goals (rcases f6 with ⟨g1, g2⟩ | ⟨g1, rfl⟩)
  all_goals
    go_enter Try.func9, Try.ntmps9
    go_wp2_with (first | (go_at_call 16; refine (place _ _ _ (by omega) (by omega) (by omega) (by omega)).mono ?_; rintro e w' ⟨rfl, rfl⟩) | (go_at_call 27; refine (int _ _ (by omega) (by omega)).mono ?_; rintro e w' ⟨rfl, rfl⟩) | (go_at_call 29; refine (ref _ _ (by omega) (by omega)).mono ?_; rintro e w' ⟨rfl, rfl⟩) | (go_at_call 18; refine (fits _ _).mono ?_; rintro e w' ⟨rfl, rfl⟩) | (go_at_call 26; refine (intof _ _ (by omega) (by omega)).mono ?_; rintro e w' ⟨rfl, rfl⟩) | (go_at_call 28; refine (refof _ _ (by omega) (by omega)).mono ?_; rintro e w' ⟨rfl, rfl⟩) | (go_at_call 19; refine (awake _).mono ?_; rintro e w' ⟨rfl, rfl⟩))
    go_ret
    exact ⟨rfl, Grown.refl _⟩
theorem wordCuts (a0 a1 : Int) (w0 : (Lit.int .i64 a0).wf = true) (w1 : (Lit.int .i64 a1).wf = true) (w : World) :
    Calls Try.prog 9 #[.int .i64 a0, .int .i64 a1] w fun e w' => e = .returned (.bool true) ∧ Grown w w' := by
  obtain ⟨x1, x2⟩ := i64_bd w0
  obtain ⟨y1, y2⟩ := i64_bd w1
  have e1 := wrap_int (a0 % 2147483648 - 1073741824) (by omega) (by omega)
  have e2 := wrap_int (a1 % 2147483648 - 1073741824) (by omega) (by omega)
  have e3 := back_int (a0 % 2147483648 - 1073741824) (by omega) (by omega)
  have e4 := back_int (a1 % 2147483648 - 1073741824) (by omega) (by omega)
  refine cuts_core a0 a1 (if a0 < -1073741824 then -1073741824 else if 1073741823 < a0 then 1073741823 else a0) _ _ w x1 x2 y1 y2 ?_ rfl ?_ rfl ?_ _ rfl ?_
  · split
    · omega
    · split <;> omega
  · rw [Bool.eq_iff_iff]; simp only [beq_iff_eq]
    exact ⟨fun h => e3.symm.trans ((congrArg intOfW h).trans e4), fun h => congrArg intW h⟩
  · rw [e1, e2, Bool.eq_iff_iff]; simp only [decide_eq_true_eq]; clear e1 e2 e3 e4; omega
  · by_cases h : -536870912 ≤ a0 % 2147483648 - 1073741824
    · refine .inl ⟨by simpa using h, ?_⟩
      unfold fitsB
      rw [Bool.eq_iff_iff]; simp only [decide_eq_true_eq]; omega
    · exact .inr ⟨by simpa using h, fits_no (by omega)⟩
end Go.Proofs.Ytgfgmhfggbfeeaa.WordLaws
