/-
  The walk of FreeJoins (chapter 4).
-/
import Derived.Test.YtiffoapjhkapfaaFreeJoinsPlain
import Derived.Test.YtiffoapjhkapfaaShell
import Derived.Test.YtiffoapjhkapfaaWord
import Derived.Deep.DeepCutAuto
namespace Go.Proofs.Ytiffoapjhkapfaa.Free
open Go.RowKit Go.Proofs.Ytiffoapjhkapfaa.Plain Go.Proofs.Ytiffoapjhkapfaa.Word
set_option linter.unusedVariables false

/-! ### the walk -/
set_option maxRecDepth 100000 in
set_option maxHeartbeats 2000000 in
theorem joins_core (n size keep by_ : Int) (w : World) (n1 : -9223372036854775808 ≤ n) (n2 : n ≤ 9223372036854775807) (s1 : -9223372036854775808 ≤ size) (s2 : size ≤ 9223372036854775807) (p1 : -9223372036854775808 ≤ keep) (p2 : keep ≤ 9223372036854775807) (b1 : -9223372036854775808 ≤ by_) (b2 : by_ ≤ 9223372036854775807)
    (k m stay c X : Nat) (hk : 1 + n % 20 = (k : Int)) (hm : 1 + size % 9 = (m : Int)) (hst : keep % (k : Int) = (stay : Int)) (hc : by_ % (k : Int) = (c : Int)) (k1 : 1 ≤ k) (k2 : k ≤ 20) (m1 : 1 ≤ m) (m2 : m ≤ 9) (st : stay < k) (cl : c < k) (hX : X = if stay < k - 1 - stay then k - 1 - stay else stay) :
    Calls Try.prog 6 #[.int .i64 n, .int .i64 size, .int .i64 keep, .int .i64 by_] w fun e w' => e = .returned (.bool true) ∧ Ext w w' := by
  have HK := Lib.hid hk
  have HM := Lib.hid hm
  have HST := Lib.hid hst
  have HC := Lib.hid hc
  have HX := Lib.hid hX
  clear hk hm hst hc hX
  have km1 : 1 ≤ k * m := Nat.mul_pos k1 m1
  have km2 : k * m ≤ 180 := Nat.mul_le_mul k2 m2
  have q1 : (1 : Int) ≤ (k : Int) * (m : Int) := by rw [← Int.natCast_mul]; omega
  have q2 : (k : Int) * (m : Int) ≤ 180 := by rw [← Int.natCast_mul]; omega
  go_enter Try.func6, Try.ntmps6
  go_upto_region 2 with (go_at_call 12; refine (place _ _ _ (by omega) (by omega) (by omega) (by omega)).mono ?_; rintro e w' ⟨rfl, rfl⟩)
  rw [HK.out, HM.out]
  go_wp2_with fail
  refine (new_ _ (k * m) w (Int.natCast_mul k m).symm (by omega)).mono ?_
  rintro e w1 ⟨rfl, f1, x1⟩
  generalize hgg : w.heap.size = g at *
  have HG := Lib.hid hgg
  clear hgg
  have f1 : Fr w1 g g (tailL (0 * m) (k * m)) (k * m) := by
    have e : allL (k * m) = tailL (0 * m) (k * m) := by
      unfold allL tailL
      rw [if_neg (by omega), if_pos (by omega), Nat.zero_mul]
      rw [show ((0 : Nat) : Int) = 0 from rfl, Int.sub_zero]
    rw [← e]; exact f1
  go_wp2_with fail
  go_loopw [12] (fun i wr => ∃ t : Nat, t ≤ k ∧ i = .int .i64 t ∧ Fr wr g g (tailL (t * m) (k * m)) (k * m) ∧ Ext w wr) (fun i _ => k - (intOf i).toNat)
  case atStart => exact ⟨0, Nat.zero_le _, rfl, f1, x1⟩
  case round =>
    obtain ⟨t, ht, rfl, fr, hx⟩ := hrel
    by_cases htk : t < k
    · have tb := block_in (m := m) htk
      obtain ⟨t1, t2, t3⟩ := tail_take (t * m) m (k * m) (by omega) m1
      rw [← Nat.succ_mul] at t2
      have r1 : (0 : Int) ≤ (t : Int) * (m : Int) := by rw [← Int.natCast_mul]; omega
      have r2 : (t : Int) * (m : Int) ≤ 180 := by rw [← Int.natCast_mul]; omega
      have T1 := Lib.hid t1
      have T2 := Lib.hid t2
      have T3 : Hid ((nth (tailL (t * m) (k * m)) 0).1 = (t : Int) * (m : Int)) := Lib.hid (by rw [t3]; exact Int.natCast_mul t m)
      have tkI : (t : Int) < (k : Int) := by omega
      clear t1 t2 t3
      go_wp2_with fail
      refine (take_yes fr (m : Int) (by omega) (by omega) 0 T1.out).mono ?_
      rintro e w2 ⟨rfl, f2, k2⟩
      rw [T2.out] at f2
      rw [T3.out]
      have x2 := tk_ext k2 (Nat.le_refl _) (Nat.le_refl _) hx HG.out
      clear k2
      go_wp2_with fail
      go_roundw
      case rel => exact ⟨t + 1, by omega, by go_num, f2, x2⟩
      case measure => simp [intOf]; omega
    · obtain rfl : t = k := by omega
      have f3 : Fr wr g g [] (t * m) := by
        have e : tailL (t * m) (t * m) = [] := if_neg (by omega)
        rw [e] at fr; exact fr
      clear fr
      go_wp2_with (go_at_call 12; refine (place _ _ _ (by omega) (by omega) (by omega) (by omega)).mono ?_; rintro e w' ⟨rfl, rfl⟩)
      rw [HST.out, HC.out]
      obtain ⟨wo, rfl⟩ : ∃ wo : World, wo = wr := ⟨_, rfl⟩
      go_loopw [17] (fun i wr => ∃ i' : Nat, i' ≤ t ∧ i = .int .i64 i' ∧ (∃ L, Fr wr g g L (t * m) ∧ ∀ x, has L x ↔ wordsAt t m c stay i' x) ∧ Ext w wr) (fun i _ => t - (intOf i).toNat)
      case atStart => exact ⟨0, Nat.zero_le _, rfl, ⟨[], f3, fun x => ⟨fun h => absurd h (has_nil _), fun ⟨t, ht, _⟩ => by omega⟩⟩, hx⟩
      case round =>
        obtain ⟨i, hi, rfl, ⟨L, fl, hh⟩, xq⟩ := hrel
        by_cases hit : i < t
        · have jl := ordJ_lt (k := t) (c := c) (i := i) (by omega)
          have jb := block_in (m := m) jl
          have gs : g ≤ wr.heap.size := by have := xq.below.size; have := HG.out; omega
          have r1 : (0 : Int) ≤ (ordJ t c i : Int) * (m : Int) := by rw [← Int.natCast_mul]; omega
          have r2 : (ordJ t c i : Int) * (m : Int) ≤ 180 := by rw [← Int.natCast_mul]; omega
          have iI : (i : Int) < (t : Int) := by omega
          have ways : (((t : Int) % 7 == 0) = true ∧ ((i : Int) + (c : Int)) % (t : Int) = (ordJ t c i : Int)) ∨ (((t : Int) % 7 == 0) = false ∧ ((i : Int) * 7 + (c : Int)) % (t : Int) = (ordJ t c i : Int)) := by
            by_cases h7 : t % 7 = 0
            · refine .inl ⟨by simp; omega, ?_⟩
              unfold ordJ; rw [if_pos h7, Int.natCast_emod, Int.natCast_add]
            · refine .inr ⟨by simp; omega, ?_⟩
              unfold ordJ; rw [if_neg h7, Int.natCast_emod, Int.natCast_add, Int.natCast_mul]; rfl
          by_cases hs : ordJ t c i = stay
          · have HS := Lib.hid (joins_skip hs hh)
            have es : ((ordJ t c i : Int) != (stay : Int)) = false := by simp; omega
            clear hs hh
            generalize ordJ t c i = J at *
            rcases ways with ⟨e7, ej⟩ | ⟨e7, ej⟩
            all_goals
              go_wp2_with fail
              go_roundw
              case rel => exact ⟨i + 1, by omega, by go_num, ⟨L, fl, HS.out⟩, xq⟩
              case measure => simp [intOf]; omega
          · have GO := Lib.hid (joins_ok k2 cl hit m1 hh)
            have ST := Lib.hid (fun L' => joins_step (L := L) (L' := L') hs hh)
            have es : ((ordJ t c i : Int) != (stay : Int)) = true := by simp; omega
            clear hs hh
            generalize ordJ t c i = J at *
            rcases ways with ⟨e7, ej⟩ | ⟨e7, ej⟩
            all_goals
              go_wp2_with fail
              rw [← Int.natCast_mul]
              refine (give fl gs _ _ GO.out).mono ?_
              rintro e w4 ⟨rfl, ⟨L4, f4, h4⟩, k4⟩
              have x4 := tk_ext k4 (Nat.le_refl _) (Nat.le_refl _) xq HG.out
              have H4 := Lib.hid (ST.out L4 h4)
              clear k4 h4
              go_wp2_with fail
              go_roundw
              case rel => exact ⟨i + 1, by omega, by go_num, ⟨L4, f4, H4.out⟩, x4⟩
              case measure => simp [intOf]; omega
        · obtain rfl : i = t := by omega
          obtain rfl : L = twoL i m stay := joins_end k2 cl m1 st fl.can hh
          have TL := Lib.hid (two_len i m stay)
          have wd := words_ fl
          rw [two_words i m stay st] at wd
          have WE : (((i - 1) * m : Nat) : Int) = ((i : Int) - 1) * (m : Int) := by rw [Int.natCast_mul, show ((i - 1 : Nat) : Int) = (i : Int) - 1 from by omega]
          rw [WE] at wd
          have lg := longest_ fl
          rw [two_long i m stay X st HX.out m1, Int.natCast_mul] at lg
          have GO := Lib.hid (two_give i m stay m1 st)
          have RN := Lib.hid (runs_ fl)
          have ALL := Lib.hid (fun L' (hL : Can 0 L') => two_all (L := L') i m stay m1 st hL)
          clear hh
          have HW := Lib.hid WE
          have HLG : Hid (longL (twoL i m stay) = (X : Int) * (m : Int)) := Lib.hid (by rw [two_long i m stay X st HX.out m1, Int.natCast_mul])
          have HWD : Hid (wordsL (twoL i m stay) = ((i : Int) - 1) * (m : Int)) := Lib.hid (by rw [two_words i m stay st, WE])
          clear WE wd lg
          have gs : g ≤ wr.heap.size := by have := xq.below.size; have := HG.out; omega
          have sb := block_in (m := m) st
          have Xi : X ≤ i := by rw [HX.out]; split <;> omega
          have Xm : X * m ≤ 180 := Nat.le_trans (Nat.mul_le_mul_right m Xi) km2
          have im : (i - 1) * m ≤ 180 := Nat.le_trans (Nat.mul_le_mul_right m (by omega)) km2
          have a1 : (0 : Int) ≤ (stay : Int) * (m : Int) := by rw [← Int.natCast_mul]; omega
          have a2 : (stay : Int) * (m : Int) ≤ 180 := by rw [← Int.natCast_mul]; omega
          have a3 : (0 : Int) ≤ (X : Int) * (m : Int) := by rw [← Int.natCast_mul]; omega
          have a4 : (X : Int) * (m : Int) ≤ 180 := by rw [← Int.natCast_mul]; omega
          have a5 : (0 : Int) ≤ ((i : Int) - 1) * (m : Int) := by rw [← HW.out]; omega
          have a6 : ((i : Int) - 1) * (m : Int) ≤ 180 := by rw [← HW.out]; omega
          have mx : (if (stay : Int) < (i : Int) - 1 - (stay : Int) then (i : Int) - 1 - (stay : Int) else (stay : Int)) = (X : Int) := by rw [HX.out]; split <;> split <;> omega
          have XI : (X : Int) ≤ 20 := by omega
          clear HX HW Xm im Xi
          by_cases c1 : 0 < stay
          · by_cases c2 : stay + 1 < i
            · skip
              have ln : (twoL i m stay).length = 2 := by have := TL.out; rw [if_pos c1, if_pos c2] at this; omega
              have d1 : decide ((0 : Int) < (stay : Int)) = true := by simp; omega
              have d1' : decide (0 < stay) = true := by simp; omega
              have d2 : decide ((stay : Int) < (i : Int) - 1) = true := by simp; omega
              clear c1 c2
              go_wp2_with fail
              refine RN.out.mono ?_
              rintro e w5 ⟨v5, rfl, o5, x5⟩
              obtain ⟨A5, c5, rfl, o6, o7⟩ := own_form o5
              rw [ln] at o6 ⊢
              clear o5 ln
              unfold maxLen at o7
              have wd := words_ (fl.ext x5)
              rw [HWD.out] at wd
              have WD := Lib.hid wd
              clear wd
              go_wp2_with fail
              refine WD.out.mono ?_
              rintro e w6 ⟨rfl, x6⟩
              have lg := longest_ ((fl.ext x5).ext x6)
              rw [HLG.out] at lg
              have LG := Lib.hid lg
              clear lg
              go_wp2_with fail
              refine LG.out.mono ?_
              rintro e w7 ⟨rfl, x7⟩
              have f7 := ((fl.ext x5).ext x6).ext x7
              have gs7 : g ≤ w7.heap.size := by have := x5.below.size; have := x6.below.size; have := x7.below.size; omega
              have x0 := ((xq.trans x5).trans x6).trans x7
              clear x5 x6 x7
              go_wp2_with fail
              rw [← Int.natCast_mul]
              refine (give f7 gs7 _ _ GO.out).mono ?_
              rintro e w8 ⟨rfl, ⟨L8, f8, h8⟩, k8⟩
              have x8 := tk_ext k8 (Nat.le_refl _) (Nat.le_refl _) x0 HG.out
              obtain rfl : L8 = allL (i * m) := ALL.out L8 f8.can h8
              have l8 : (allL (i * m)).length = 1 := by unfold allL; rw [if_neg (by omega)]; rfl
              clear k8 h8
              go_wp2_with fail
              refine (runs_ f8).mono ?_
              rintro e w9 ⟨v9, rfl, o9, x9⟩
              obtain ⟨A9, c9, rfl, p6, p7⟩ := own_form o9
              rw [l8] at p6 ⊢
              clear o9 l8
              unfold maxLen at p7
              go_wp2_with fail
              refine (awake4 _).mono ?_
              rintro e w10 ⟨rfl, x10⟩
              go_wp2_with fail
              go_ret
              exact ⟨rfl, (x8.trans x9).trans x10⟩
            · skip
              have ln : (twoL i m stay).length = 1 := by have := TL.out; rw [if_pos c1, if_neg c2] at this; omega
              have d1 : decide ((0 : Int) < (stay : Int)) = true := by simp; omega
              have d1' : decide (0 < stay) = true := by simp; omega
              have d2 : decide ((stay : Int) < (i : Int) - 1) = false := by simp; omega
              clear c1 c2
              go_wp2_with fail
              refine RN.out.mono ?_
              rintro e w5 ⟨v5, rfl, o5, x5⟩
              obtain ⟨A5, c5, rfl, o6, o7⟩ := own_form o5
              rw [ln] at o6 ⊢
              clear o5 ln
              unfold maxLen at o7
              have wd := words_ (fl.ext x5)
              rw [HWD.out] at wd
              have WD := Lib.hid wd
              clear wd
              go_wp2_with fail
              refine WD.out.mono ?_
              rintro e w6 ⟨rfl, x6⟩
              have lg := longest_ ((fl.ext x5).ext x6)
              rw [HLG.out] at lg
              have LG := Lib.hid lg
              clear lg
              go_wp2_with fail
              refine LG.out.mono ?_
              rintro e w7 ⟨rfl, x7⟩
              have f7 := ((fl.ext x5).ext x6).ext x7
              have gs7 : g ≤ w7.heap.size := by have := x5.below.size; have := x6.below.size; have := x7.below.size; omega
              have x0 := ((xq.trans x5).trans x6).trans x7
              clear x5 x6 x7
              go_wp2_with fail
              rw [← Int.natCast_mul]
              refine (give f7 gs7 _ _ GO.out).mono ?_
              rintro e w8 ⟨rfl, ⟨L8, f8, h8⟩, k8⟩
              have x8 := tk_ext k8 (Nat.le_refl _) (Nat.le_refl _) x0 HG.out
              obtain rfl : L8 = allL (i * m) := ALL.out L8 f8.can h8
              have l8 : (allL (i * m)).length = 1 := by unfold allL; rw [if_neg (by omega)]; rfl
              clear k8 h8
              go_wp2_with fail
              refine (runs_ f8).mono ?_
              rintro e w9 ⟨v9, rfl, o9, x9⟩
              obtain ⟨A9, c9, rfl, p6, p7⟩ := own_form o9
              rw [l8] at p6 ⊢
              clear o9 l8
              unfold maxLen at p7
              go_wp2_with fail
              refine (awake4 _).mono ?_
              rintro e w10 ⟨rfl, x10⟩
              go_wp2_with fail
              go_ret
              exact ⟨rfl, (x8.trans x9).trans x10⟩
          · by_cases c2 : stay + 1 < i
            · skip
              have ln : (twoL i m stay).length = 1 := by have := TL.out; rw [if_neg c1, if_pos c2] at this; omega
              have d1 : decide ((0 : Int) < (stay : Int)) = false := by simp; omega
              have d1' : decide (0 < stay) = false := by simp; omega
              have d2 : decide ((stay : Int) < (i : Int) - 1) = true := by simp; omega
              clear c1 c2
              go_wp2_with fail
              refine RN.out.mono ?_
              rintro e w5 ⟨v5, rfl, o5, x5⟩
              obtain ⟨A5, c5, rfl, o6, o7⟩ := own_form o5
              rw [ln] at o6 ⊢
              clear o5 ln
              unfold maxLen at o7
              have wd := words_ (fl.ext x5)
              rw [HWD.out] at wd
              have WD := Lib.hid wd
              clear wd
              go_wp2_with fail
              refine WD.out.mono ?_
              rintro e w6 ⟨rfl, x6⟩
              have lg := longest_ ((fl.ext x5).ext x6)
              rw [HLG.out] at lg
              have LG := Lib.hid lg
              clear lg
              go_wp2_with fail
              refine LG.out.mono ?_
              rintro e w7 ⟨rfl, x7⟩
              have f7 := ((fl.ext x5).ext x6).ext x7
              have gs7 : g ≤ w7.heap.size := by have := x5.below.size; have := x6.below.size; have := x7.below.size; omega
              have x0 := ((xq.trans x5).trans x6).trans x7
              clear x5 x6 x7
              go_wp2_with fail
              rw [← Int.natCast_mul]
              refine (give f7 gs7 _ _ GO.out).mono ?_
              rintro e w8 ⟨rfl, ⟨L8, f8, h8⟩, k8⟩
              have x8 := tk_ext k8 (Nat.le_refl _) (Nat.le_refl _) x0 HG.out
              obtain rfl : L8 = allL (i * m) := ALL.out L8 f8.can h8
              have l8 : (allL (i * m)).length = 1 := by unfold allL; rw [if_neg (by omega)]; rfl
              clear k8 h8
              go_wp2_with fail
              refine (runs_ f8).mono ?_
              rintro e w9 ⟨v9, rfl, o9, x9⟩
              obtain ⟨A9, c9, rfl, p6, p7⟩ := own_form o9
              rw [l8] at p6 ⊢
              clear o9 l8
              unfold maxLen at p7
              go_wp2_with fail
              refine (awake4 _).mono ?_
              rintro e w10 ⟨rfl, x10⟩
              go_wp2_with fail
              go_ret
              exact ⟨rfl, (x8.trans x9).trans x10⟩
            · skip
              have ln : (twoL i m stay).length = 0 := by have := TL.out; rw [if_neg c1, if_neg c2] at this; omega
              have d1 : decide ((0 : Int) < (stay : Int)) = false := by simp; omega
              have d1' : decide (0 < stay) = false := by simp; omega
              have d2 : decide ((stay : Int) < (i : Int) - 1) = false := by simp; omega
              clear c1 c2
              go_wp2_with fail
              refine RN.out.mono ?_
              rintro e w5 ⟨v5, rfl, o5, x5⟩
              obtain ⟨A5, c5, rfl, o6, o7⟩ := own_form o5
              rw [ln] at o6 ⊢
              clear o5 ln
              unfold maxLen at o7
              have wd := words_ (fl.ext x5)
              rw [HWD.out] at wd
              have WD := Lib.hid wd
              clear wd
              go_wp2_with fail
              refine WD.out.mono ?_
              rintro e w6 ⟨rfl, x6⟩
              have lg := longest_ ((fl.ext x5).ext x6)
              rw [HLG.out] at lg
              have LG := Lib.hid lg
              clear lg
              go_wp2_with fail
              refine LG.out.mono ?_
              rintro e w7 ⟨rfl, x7⟩
              have f7 := ((fl.ext x5).ext x6).ext x7
              have gs7 : g ≤ w7.heap.size := by have := x5.below.size; have := x6.below.size; have := x7.below.size; omega
              have x0 := ((xq.trans x5).trans x6).trans x7
              clear x5 x6 x7
              go_wp2_with fail
              rw [← Int.natCast_mul]
              refine (give f7 gs7 _ _ GO.out).mono ?_
              rintro e w8 ⟨rfl, ⟨L8, f8, h8⟩, k8⟩
              have x8 := tk_ext k8 (Nat.le_refl _) (Nat.le_refl _) x0 HG.out
              obtain rfl : L8 = allL (i * m) := ALL.out L8 f8.can h8
              have l8 : (allL (i * m)).length = 1 := by unfold allL; rw [if_neg (by omega)]; rfl
              clear k8 h8
              go_wp2_with fail
              refine (runs_ f8).mono ?_
              rintro e w9 ⟨v9, rfl, o9, x9⟩
              obtain ⟨A9, c9, rfl, p6, p7⟩ := own_form o9
              rw [l8] at p6 ⊢
              clear o9 l8
              unfold maxLen at p7
              go_wp2_with fail
              refine (awake4 _).mono ?_
              rintro e w10 ⟨rfl, x10⟩
              go_wp2_with fail
              go_ret
              exact ⟨rfl, (x8.trans x9).trans x10⟩
theorem freeJoins (a0 a1 a2 a3 : Int) (w : World) (w0 : (Lit.int .i64 a0).wf = true) (w1 : (Lit.int .i64 a1).wf = true) (w2 : (Lit.int .i64 a2).wf = true) (w3 : (Lit.int .i64 a3).wf = true) :
    Calls Try.prog 6 #[.int .i64 a0, .int .i64 a1, .int .i64 a2, .int .i64 a3] w fun e w' => e = .returned (.bool true) ∧ Below w.heap.size w w' := by
  obtain ⟨n1, n2⟩ := Shell.bounds64 w0
  obtain ⟨s1, s2⟩ := Shell.bounds64 w1
  obtain ⟨p1, p2⟩ := Shell.bounds64 w2
  obtain ⟨b1, b2⟩ := Shell.bounds64 w3
  obtain ⟨k, hk⟩ : ∃ k : Nat, 1 + a0 % 20 = (k : Int) := ⟨(1 + a0 % 20).toNat, by omega⟩
  obtain ⟨m, hm⟩ : ∃ m : Nat, 1 + a1 % 9 = (m : Int) := ⟨(1 + a1 % 9).toNat, by omega⟩
  have kp : (0 : Int) < (k : Int) := by omega
  have q1 := Int.emod_nonneg a2 (Int.ne_of_gt kp)
  have q2 := Int.emod_lt_of_pos a2 kp
  have q3 := Int.emod_nonneg a3 (Int.ne_of_gt kp)
  have q4 := Int.emod_lt_of_pos a3 kp
  obtain ⟨stay, hst⟩ : ∃ s : Nat, a2 % (k : Int) = (s : Int) := ⟨(a2 % (k : Int)).toNat, by omega⟩
  obtain ⟨c, hc⟩ : ∃ s : Nat, a3 % (k : Int) = (s : Int) := ⟨(a3 % (k : Int)).toNat, by omega⟩
  exact (joins_core a0 a1 a2 a3 w n1 n2 s1 s2 p1 p2 b1 b2 k m stay c _ hk hm hst hc (by omega) (by omega) (by omega) (by omega) (by omega) (by omega) rfl).mono fun e w' h => ⟨h.1, h.2.below⟩
end Go.Proofs.Ytiffoapjhkapfaa.Free
