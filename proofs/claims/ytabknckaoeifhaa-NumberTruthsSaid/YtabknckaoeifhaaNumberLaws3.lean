/-
  The walks of NumberTruths and NumberNone.
-/
import Derived.Test.YtabknckaoeifhaaNumberLaws2
namespace Go.Proofs.Ytabknckaoeifhaa.NumberLaws
open Go.RowKit Go.Proofs.Ytabknckaoeifhaa.Plain Go.Proofs.Ytabknckaoeifhaa.Word Go.Proofs.Ytabknckaoeifhaa.Number
set_option linter.unusedVariables false

def tv (n a b : Int) : Bool := if n = 6 then decide (a < b) else if n = 7 then decide (b < a) else if n = 8 then decide (a ≤ b) else if n = 9 then decide (b ≤ a) else if n = 10 then a == b else a != b
theorem opT_tv (n a b : Int) (h1 : 6 ≤ n) (h2 : n ≤ 11) (fa : fitsB a = true) (fb : fitsB b = true) : opT n a b = truthT (tv n a b) := by
  have hn : n = 6 ∨ n = 7 ∨ n = 8 ∨ n = 9 ∨ n = 10 ∨ n = 11 := by omega
  rcases hn with rfl | rfl | rfl | rfl | rfl | rfl
  · exact opT6 a b fa fb
  · exact opT7 a b fa fb
  · exact opT8 a b fa fb
  · exact opT9 a b fa fb
  · exact opT10 a b fa fb
  · exact opT11 a b fa fb
theorem lisA (n a b : Int) (w : World) (h1 : 6 ≤ n) (h2 : n ≤ 11) (fa : fitsB a = true) (fb : fitsB b = true) :
    Calls Try.prog 39 #[.int .i64 n, .int .i64 a, .int .i64 b] w fun e w' => e = .returned (.bool (tv n a b)) ∧ Ext w w' := lis w (opT_tv n a b h1 h2 fa fb)
theorem lnoA (n a b : Int) (w : World) (h1 : 6 ≤ n) (h2 : n ≤ 11) (fa : fitsB a = true) (fb : fitsB b = true) :
    Calls Try.prog 40 #[.int .i64 n, .int .i64 a, .int .i64 b] w fun e w' => e = .returned (.bool (!tv n a b)) ∧ Ext w w' := lno w (opT_tv n a b h1 h2 fa fb)

theorem lisT {n a b : Int} {t : Bool} (ht : tv n a b = t) (w : World) (h1 : 6 ≤ n) (h2 : n ≤ 11) (fa : fitsB a = true) (fb : fitsB b = true) :
    Calls Try.prog 39 #[.int .i64 n, .int .i64 a, .int .i64 b] w fun e w' => e = .returned (.bool t) ∧ Ext w w' := by
  rw [← ht]; exact lisA n a b w h1 h2 fa fb
theorem lnoT {n a b : Int} {t : Bool} (ht : tv n a b = t) (w : World) (h1 : 6 ≤ n) (h2 : n ≤ 11) (fa : fitsB a = true) (fb : fitsB b = true) :
    Calls Try.prog 40 #[.int .i64 n, .int .i64 a, .int .i64 b] w fun e w' => e = .returned (.bool (!t)) ∧ Ext w w' := by
  rw [← ht]; exact lnoA n a b w h1 h2 fa fb
set_option maxRecDepth 100000 in
set_option maxHeartbeats 8000000 in
theorem truths_core (a0 a1 a2 p q r : Int) (t01 t12 u : Bool) (w : World) (x1 : -9223372036854775808 ≤ a0) (x2 : a0 ≤ 9223372036854775807) (y1 : -9223372036854775808 ≤ a1) (y2 : a1 ≤ 9223372036854775807) (z1 : -9223372036854775808 ≤ a2) (z2 : a2 ≤ 9223372036854775807)
    (ep : a0 % 1073741824 - 536870912 = p) (eq : a1 % 1073741824 - 536870912 = q) (er : a2 % 1073741824 - 536870912 = r) (fp : fitsB p = true) (fq : fitsB q = true) (fr : fitsB r = true)
    (k1 : tv 6 p q = t01) (k2 : tv 6 q r = t12) (k3 : t01 = true → t12 = true → tv 6 p r = true) (k4 : tv 7 q p = t01) (k5 : tv 8 p q = u) (k6 : tv 9 q p = u) (k7 : tv 10 r r = true) (k8 : tv 11 r r = false) (k9 : tv 8 p p = true) :
    Calls Try.prog 13 #[.int .i64 a0, .int .i64 a1, .int .i64 a2] w fun e w' => e = .returned (.bool true) ∧ Below w.heap.size w w' := by
  have hb : ∀ t : Bool, (t == !t) = false := by decide
  have K3 := Lib.hid k3
  clear k3
  have hc : t01 = false ∨ t01 = true ∧ t12 = false ∨ t01 = true ∧ t12 = true ∧ tv 6 p r = true := by
    have := K3.out
    cases t01
    · exact .inl rfl
    · cases t12
      · exact .inr (.inl ⟨rfl, rfl⟩)
      · exact .inr (.inr ⟨rfl, rfl, this rfl rfl⟩)
  clear K3
  rcases hc with rfl | ⟨rfl, rfl⟩ | ⟨rfl, rfl, k3⟩
  all_goals
    go_enter Try.func13, Try.ntmps13
    go_wp2_with (go_at_call 19; refine (place _ _ _ (by omega) (by omega) (by omega) (by omega)).mono ?_; rintro e w' ⟨rfl, rfl⟩)
    refine wp_name fun W1 hW1 => ?_
    have B1 : Blk W1 w.heap.size 62 #[.int .i64 p, .int .i64 q, .int .i64 r] := by rw [hW1]; exact Blk.new _ _ _
    have E1 : Ext w W1 := by rw [hW1]; exact (Ext.refl _).alloc _
    clear hW1
    obtain ⟨c1, f1, z1⟩ := B1.rules
    refine wp_region_ext (by kernel_rfl) (by kernel_rfl) ?_
    repeat (go_big_quiet_step ((first | (go_at_call 39; with_reducible exact calls_ext (lisT k1 _ (by omega) (by omega) (by assumption) (by assumption))) | (go_at_call 39; with_reducible exact calls_ext (lisT k2 _ (by omega) (by omega) (by assumption) (by assumption))) | (go_at_call 39; with_reducible exact calls_ext (lisT (show tv 6 p r = true by assumption) _ (by omega) (by omega) (by assumption) (by assumption))) | (go_at_call 39; with_reducible exact calls_ext (lisT k4 _ (by omega) (by omega) (by assumption) (by assumption))) | (go_at_call 39; with_reducible exact calls_ext (lisT k5 _ (by omega) (by omega) (by assumption) (by assumption))) | (go_at_call 39; with_reducible exact calls_ext (lisT k6 _ (by omega) (by omega) (by assumption) (by assumption))))))
    refine wpQuiet_nil ?_
    rintro W2 ⟨x2, hW2⟩
    replace B1 := B1.ext ⟨x2, hW2⟩
    have E2 : Ext w W2 := E1.trans ⟨x2, hW2⟩
    clear c1 f1 z1 hW2 E1
    go_wp2_with fail
    go_loopw [10] (fun i wr => ∃ k : Nat, k ≤ 6 ∧ i = .int .i64 ((k : Int) + 6) ∧ Blk wr w.heap.size 62 #[.int .i64 p, .int .i64 q, .int .i64 r] ∧ Ext w wr) (fun i _ => (12 - intOf i).toNat)
    case atStart => exact ⟨0, by omega, rfl, B1, E2⟩
    case round =>
      obtain ⟨k, hk, rfl, B, E⟩ := hrel
      obtain ⟨c1, f1, z1⟩ := B.rules
      by_cases hlt : k < 6
      · have h1 : (k : Int) + 6 ≤ 11 := by omega
        go_wp2_with fail
        refine wp_region_ext (by kernel_rfl) (by kernel_rfl) ?_
        repeat (go_big_quiet_step ((first | (go_at_call 39; exact calls_ext (lisA _ _ _ _ (by omega) (by omega) (by assumption) (by assumption))) | (go_at_call 40; exact calls_ext (lnoA _ _ _ _ (by omega) (by omega) (by assumption) (by assumption))))))
        refine wpQuiet_nil ?_
        rintro W3 ⟨x3, hW3⟩
        replace B := B.ext ⟨x3, hW3⟩
        have E3 : Ext w W3 := E.trans ⟨x3, hW3⟩
        clear c1 f1 z1 hW3 E
        go_wp2_with fail
        go_roundw
        case rel => exact ⟨k + 1, by omega, by go_num, B, E3⟩
        case measure => simp [intOf]; omega
      · have hk6 : k = 6 := by omega
        subst hk6
        go_wp2_with fail
        refine (lisT k7 _ (by omega) (by omega) (by assumption) (by assumption)).mono ?_
        rintro e w3 ⟨rfl, x3⟩
        replace B := B.ext x3
        clear c1 f1 z1
        obtain ⟨c1, f1, z1⟩ := B.rules
        go_wp2_with fail
        refine (lnoT k8 _ (by omega) (by omega) (by assumption) (by assumption)).mono ?_
        rintro e w4 ⟨rfl, x4⟩
        replace B := B.ext x4
        clear c1 f1 z1
        obtain ⟨c1, f1, z1⟩ := B.rules
        go_wp2_with fail
        refine (lisT k9 _ (by omega) (by omega) (by assumption) (by assumption)).mono ?_
        rintro e w5 ⟨rfl, x5⟩
        go_wp2_with fail
        refine (awake _).mono ?_
        rintro e w6 ⟨rfl, x6⟩
        go_wp2_with fail
        go_ret
        exact ⟨rfl, ((((E.trans x3).trans x4).trans x5).trans x6).below⟩
theorem numberTruths (a0 a1 a2 : Int) (w0 : (Lit.int .i64 a0).wf = true) (w1 : (Lit.int .i64 a1).wf = true) (w2 : (Lit.int .i64 a2).wf = true) (w : World) :
    Calls Try.prog 13 #[.int .i64 a0, .int .i64 a1, .int .i64 a2] w fun e w' => e = .returned (.bool true) ∧ Below w.heap.size w w' := by
  obtain ⟨x1, x2⟩ := bounds_i64 w0
  obtain ⟨y1, y2⟩ := bounds_i64 w1
  obtain ⟨z1, z2⟩ := bounds_i64 w2
  refine truths_core a0 a1 a2 _ _ _ _ _ _ w x1 x2 y1 y2 z1 z2 rfl rfl rfl (fits_yes (by omega) (by omega)) (fits_yes (by omega) (by omega)) (fits_yes (by omega) (by omega)) rfl rfl ?_ ?_ rfl ?_ ?_ ?_ ?_
  · intro h1 h2
    simp [tv] at h1 h2 ⊢
    omega
  · simp [tv]
  · simp [tv]
  · simp [tv]
  · simp [tv]
  · simp [tv]
end Go.Proofs.Ytabknckaoeifhaa.NumberLaws
