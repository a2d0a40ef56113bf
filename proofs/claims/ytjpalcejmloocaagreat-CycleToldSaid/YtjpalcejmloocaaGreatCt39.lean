/-
  Cyc12, Cyc13, as one text (a claim has at most 60 files).
-/
import Derived.Test.YtjpalcejmloocaaGreatCt38
namespace Go.Proofs.YtjpalcejmloocaaGreat.World
open Go.RowKit Go.Proofs.YtjpalcejmloocaaGreat.Plain
set_option linter.unusedVariables false
attribute [local go_sem ↓] Go.wp_at_zero Go.wp_at_succ
/-- so many units -/
def MS.workO (n : Nat) : Nat → MS → Option MS
  | 0, S => some S
  | k + 1, S => match S.unitO n with
    | none => none
    | some (S1, _) => workO n k S1
section
variable {w w' w2 : World} {F F' F2 : Nat → Prop} {m : Nat} {S S' : MS} {X : MX}
theorem munit (h : M w F m S) {n : Nat} {dd : Int} (he : S.unitO n = some (S', dd)) : Calls Tryz.prog 37 #[.pointer (some ⟨m, 0, none⟩)] w fun e w' => e = .returned (.int .i64 dd) ∧ Goes F m S' w w' := by
  unfold MS.unitO at he
  by_cases h0 : S.phase = 0
  · rw [if_pos h0] at he
    cases hs : S.smallB with
    | false => rw [hs, if_neg (by decide)] at he; cases he
    | true =>
      rw [hs, if_pos rfl] at he
      injection he with he
      injection he with e1 e2
      subst e1 e2
      exact (munit0 h h0 hs).mono fun e w' ⟨h1, h2, h3⟩ => ⟨h1, F, h2, Mov.same h3⟩
  · rw [if_neg h0] at he
    by_cases h2 : S.phase = 2
    · rw [if_pos h2] at he
      cases hs : S.sweepO with
      | none => rw [hs] at he; cases he
      | some S1 =>
        rw [hs] at he
        injection he with he
        injection he with e1 e2
        subst e1 e2
        exact (munit2 h h2 hs).mono fun e w' ⟨h1, h2, h3⟩ => ⟨h1, F, h2, Mov.same h3⟩
    · rw [if_neg h2] at he
      exact munit1 h h0 h2 he
theorem mphase (h : M w F m S) : Calls Tryz.prog 25 #[.pointer (some ⟨m, 0, none⟩)] w fun e w' => e = .returned (.int .i64 S.phase) ∧ Ext w w' := by
  obtain ⟨bt, sb, C⟩ := h.cl
  have c12 := C.c12
  have lt := C.lt
  clear C h
  generalize S.phase = p at *
  go_enter Tryz.func25, Tryz.ntmps25
  go_wp2_with fail
  go_ret
  exact ⟨rfl, Ext.refl w⟩
set_option maxRecDepth 100000 in
set_option maxHeartbeats 1000000 in
theorem mwork (h : M w F m S) {n k : Nat} (hk : k ≤ 2000) (he : MS.workO n k S = some S') : Calls Tryz.prog 24 #[.pointer (some ⟨m, 0, none⟩), .int .i64 (k : Int)] w fun e w' => (∃ z, e = .returned (.tuple #[.int .i64 (k : Int), .int .i64 z])) ∧ Goes F m S' w w' := by
  have f1 : (if (2000 : Int) < (k : Int) then (2000 : Int) else (k : Int)) = (k : Int) := if_neg (by omega)
  have f2 : (if (k : Int) < 0 then (0 : Int) else (k : Int)) = (k : Int) := if_neg (by omega)
  have f3 : (if (0 : Int) < (k : Int) then (k : Int) else 0) = (k : Int) := by split <;> omega
  have f4 : (if 0 < k then (k : Int) else 0) = (k : Int) := by split <;> omega
  have HM := Lib.hid h
  have HE := Lib.hid he
  clear h he
  go_enter Tryz.func24, Tryz.ntmps24
  go_wp2_with fail
  go_loopw [5, 10] (fun zv iv wq => ∃ q : Nat, q ≤ k ∧ iv = .int .i64 q ∧ (∃ z, zv = .int .i64 z) ∧ ∃ Sq F1, MS.workO n (k - q) Sq = some S' ∧ M wq F1 m Sq ∧ Mov F F1 w wq) (fun _ iv _ => k - (intOf iv).toNat)
  case atStart => exact ⟨0, by omega, rfl, ⟨0, rfl⟩, S, F, HE.out, HM.out, Mov.of_ext (Ext.refl w)⟩
  case round =>
    clear HM HE
    obtain ⟨q, hq, rfl, ⟨z, rfl⟩, Sq, F1, he, hm, hmv⟩ := hrel
    have MV := Lib.hid hmv
    clear hmv
    by_cases hlt : q < k
    · have qI : (q : Int) < (k : Int) := by omega
      obtain ⟨j, hj⟩ : ∃ j, k - q = j + 1 := ⟨k - q - 1, by omega⟩
      rw [hj] at he
      unfold MS.workO at he
      cases hu : Sq.unitO n with
      | none => rw [hu] at he; cases he
      | some p =>
        obtain ⟨S1, d1⟩ := p
        rw [hu] at he
        have HE := Lib.hid (show MS.workO n (k - (q + 1)) S1 = some S' by rw [show k - (q + 1) = j by omega]; exact he)
        have MU := Lib.hid (munit hm hu)
        clear he hu hm hj
        go_wp2_with fail
        refine MU.out.mono ?_
        rintro e w2 ⟨rfl, F2, m2, v2⟩
        have M2 := Lib.hid m2
        have V2 := Lib.hid (MV.out.trans v2)
        clear m2 v2 MU MV
        go_wp2_with fail
        go_roundw
        case rel => exact ⟨q + 1, by omega, by go_num, ⟨_, rfl⟩, S1, F2, HE.out, M2.out, V2.out⟩
        case measure => simp [intOf] <;> omega
    · obtain rfl : q = k := by omega
      rw [Nat.sub_self] at he
      unfold MS.workO at he
      injection he with he
      subst he
      have HM := Lib.hid hm
      clear hm
      go_wp2_with fail
      go_ret2
      exact ⟨⟨z, rfl⟩, F1, HM.out, MV.out⟩
end
end Go.Proofs.YtjpalcejmloocaaGreat.World
namespace Go.Proofs.YtjpalcejmloocaaGreat.World
open Go.RowKit Go.Proofs.YtjpalcejmloocaaGreat.Plain
set_option linter.unusedVariables false
attribute [local go_sem ↓] Go.wp_at_zero Go.wp_at_succ
theorem act_name {Q : Act → Prop} {a : Act} (h : ∀ A, A = a → Q A) : Q a := h a rfl
def frWh (m : Nat) (cnt : Int) (u : Nat → Value) : Act := { tmps := #[.pointer (some ⟨m, 0, none⟩), u 1, .int .i64 0, .int .i64 cnt, u 4, u 5, u 6, u 7, u 8, u 9, u 10, u 11, u 12, u 13, u 14, u 15, u 16, u 17], defers := [] }
/-- at the label: so many rounds are left -/
def WhJ (n : Nat) (w : World) (F : Nat → Prop) (m : Nat) (S' : MS) (tot : Int) (k : Nat) (a : Act) (wq : World) : Prop :=
  ∃ (Sq : MS) (F1 : Nat → Prop) (cnt r : Int) (u : Nat → Value), MS.wholeO n k Sq = some (S', r) ∧ cnt + r = tot ∧ 0 ≤ cnt ∧ M wq F1 m Sq ∧ Mov F F1 w wq ∧ a = frWh m cnt u
theorem whole_pos (n : Nat) : ∀ (k : Nat) (S S' : MS) (r : Int), MS.wholeO n k S = some (S', r) → 1 ≤ r
  | 0, S, S', r, h => by cases h
  | k + 1, S, S', r, h => by
    unfold MS.wholeO at h
    cases hu : S.unitO n with
    | none => rw [hu] at h; cases h
    | some p =>
      obtain ⟨S1, d⟩ := p
      rw [hu] at h
      simp only at h
      by_cases h0 : S1.phase = 0
      · rw [if_pos h0] at h
        injection h with h
        injection h with _ h
        omega
      · rw [if_neg h0] at h
        cases hq : MS.wholeO n k S1 with
        | none => rw [hq] at h; cases h
        | some q =>
          obtain ⟨S2, r2⟩ := q
          rw [hq] at h
          injection h with h
          injection h with _ h
          have := whole_pos n k S1 S2 r2 hq
          have h : r2 + 1 = r := h
          omega
theorem whole_parts {n k : Nat} {S S' : MS} {r : Int} (h : MS.wholeO n (k + 1) S = some (S', r)) : ∃ S1 d, S.unitO n = some (S1, d) ∧ ((S1.phase = 0 ∧ S1 = S' ∧ r = 1) ∨ (S1.phase ≠ 0 ∧ MS.wholeO n k S1 = some (S', r - 1))) := by
  unfold MS.wholeO at h
  cases hu : S.unitO n with
  | none => rw [hu] at h; cases h
  | some p =>
    obtain ⟨S1, d⟩ := p
    rw [hu] at h
    simp only at h
    refine ⟨S1, d, rfl, ?_⟩
    by_cases h0 : S1.phase = 0
    · rw [if_pos h0] at h
      injection h with h
      injection h with h1 h2
      exact .inl ⟨h0, h1, h2.symm⟩
    · rw [if_neg h0] at h
      cases hq : MS.wholeO n k S1 with
      | none => rw [hq] at h; cases h
      | some q =>
        obtain ⟨S2, r2⟩ := q
        rw [hq] at h
        injection h with h
        injection h with h1 h2
        have h2 : r2 + 1 = r := h2
        have h1 : S2 = S' := h1
        subst h1
        exact .inr ⟨h0, by rw [show r - 1 = r2 by omega]⟩
section
variable {w w' w2 : World} {F F' F2 : Nat → Prop} {m : Nat} {S S' : MS} {X : MX}
set_option maxRecDepth 100000 in
set_option maxHeartbeats 2000000 in
theorem mwhole (h : M w F m S) {n k : Nat} {tot : Int} (ht : tot ≤ 1000000) (he : MS.wholeO n k S = some (S', tot)) : Calls Tryz.prog 11 #[.pointer (some ⟨m, 0, none⟩)] w fun e w' => e = .returned (.int .i64 tot) ∧ Goes F m S' w w' := by
  have HM := Lib.hid h
  have HE := Lib.hid he
  clear h he
  go_enter Tryz.func11, Tryz.ntmps11
  go_wp2_with fail
  refine wp_scope_fall 0 (WhJ n w F m S' tot) rfl ?_ ?_
  · rintro q act wr ⟨Sq, F1, cnt, r, u, hq, hc, hc0, hm, hmv, rfl⟩
    clear HM HE
    have MV := Lib.hid hmv
    have hr := whole_pos n q Sq S' r hq
    cases q with
    | zero => cases hq
    | succ q =>
      obtain ⟨S1, d, hu, hS⟩ := whole_parts hq
      have HW := Lib.hid (mwork hm (n := n) (k := 1) (S' := S1) (by omega) (by unfold MS.workO; rw [hu]; rfl))
      rw [show ((1 : Nat) : Int) = 1 from rfl] at HW
      clear hmv hm hu hq
      have cB : cnt ≤ 1000000 := by omega
      have HC := Lib.hid hc
      have HR := Lib.hid hr
      clear hc hr
      unfold frWh
      go_wp2_with fail
      refine HW.out.mono ?_
      rintro e w2 ⟨⟨z, rfl⟩, F2, m2, v2⟩
      have V2 := Lib.hid (MV.out.trans v2)
      have M2 := Lib.hid m2
      have CP := Lib.hid (mphase m2)
      clear m2 v2 HW MV
      rcases hS with ⟨p0, rfl, hr1⟩ | ⟨p0, hq⟩
      · rw [p0] at CP
        have HR1 := Lib.hid hr1
        clear p0 hr1
        go_wp2_with fail
        refine CP.out.mono ?_
        rintro e w3 ⟨rfl, x3⟩
        have M3 := Lib.hid (M2.out.ext x3)
        have V3 := Lib.hid (V2.out.ext x3)
        clear x3 CP M2 V2
        go_wp2_with fail
        unfold Exit.jump
        dsimp only
        go_ret
        exact ⟨ret_int (by rw [← HC.out, HR1.out]), F2, M3.out, V3.out⟩
      · have e1 : (S1.phase != 0) = true := by simp [p0]
        have HQ := Lib.hid hq
        clear p0 hq
        generalize S1.phase = ph at *
        go_wp2_with fail
        refine CP.out.mono ?_
        rintro e w3 ⟨rfl, x3⟩
        have M3 := Lib.hid (M2.out.ext x3)
        have V3 := Lib.hid (V2.out.ext x3)
        clear x3 CP M2 V2
        go_wp2_with fail
        refine wp_goto ?_
        refine ⟨rfl, q, Nat.lt_succ_self q, ?_⟩
        refine act_name (Q := fun A => WhJ n w F m S' tot q A w3) (fun A hA => ?_)
        exact ⟨S1, F2, cnt + 1, r - 1, fun j => A.tmps.getD j undef, HQ.out, by have := HC.out; omega, by omega, M3.out, V3.out, by rw [hA]; rfl⟩
  · intro body
    have BODY := Lib.hid body
    clear body
    go_wp2_with fail
    go_step3
    refine ‹∀ (a_1 : Act) (w_1 : World), Code.wp _ _ (Exit.jump 0 (fun a w_1 => ∃ n_1, WhJ n w F m S' tot n_1 a w_1) _) a_1 w_1 → _› _ _ ?_
    refine BODY.out k _ _ ?_
    refine act_name (Q := fun A => WhJ n w F m S' tot k A w) (fun A hA => ?_)
    exact ⟨S, F, 0, tot, fun j => A.tmps.getD j undef, HE.out, by omega, by omega, HM.out, Mov.of_ext (Ext.refl w), by rw [hA]; rfl⟩
end
end Go.Proofs.YtjpalcejmloocaaGreat.World
