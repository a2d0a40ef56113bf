/-
  Nums, Awake7, as one text (a claim has at most 60 files).
-/
import Derived.Test.YtadhkmplhgcgkaaMc02
import Derived.Test.YtadhkmplhgcgkaaMc50
import Derived.Test.YtadhkmplhgcgkaaMc51
import Derived.Test.YtadhkmplhgcgkaaMc33
namespace Go.Proofs.Ytadhkmplhgcgkaa.World
open Go.RowKit Go.Proofs.Ytadhkmplhgcgkaa.Plain
set_option linter.unusedVariables false
theorem shape_of {n : Nat} {t : PT} (h : shapeB n t = true) : (t.fmt = 1 ∨ t.fmt = 2 ∨ t.fmt = 3) ∧ (t.fmt ≠ 3 → t.B.size = 0) ∧ (t.fmt = 3 → t.F = []) ∧ t.F.length ≤ 60 ∧ t.B.size ≤ 200 ∧ ∀ j, j < t.F.length → fldB n (vAt t.F j) = true := by
  unfold shapeB at h
  by_cases h3 : t.fmt = 3
  · rw [if_pos h3, Bool.and_eq_true] at h
    have h1 := of_decide_eq_true h.1
    have h2 := of_decide_eq_true h.2
    exact ⟨.inr (.inr h3), fun e => absurd h3 e, fun _ => List.eq_nil_of_length_eq_zero h1, by omega, h2, fun j hj => by omega⟩
  · rw [if_neg h3] at h
    by_cases h1 : t.fmt = 1 ∨ t.fmt = 2
    · rw [if_pos h1, Bool.and_eq_true, Bool.and_eq_true] at h
      have g1 := of_decide_eq_true h.1
      have g2 := of_decide_eq_true h.2.1
      exact ⟨h1.imp id .inl, fun _ => g1, fun e => absurd e h3, g2, by omega, (allTo_iff _ _).1 h.2.2⟩
    · rw [if_neg h1] at h; cases h
theorem nums_of_check {W : PW} (h : checkB W = true) : Nums W := by
  unfold checkB at h
  simp only [Bool.and_eq_true, decide_eq_true_eq] at h
  obtain ⟨⟨n1, n2⟩, _, h3, _, h5⟩ := h
  unfold thingsB at h3
  simp only [Bool.and_eq_true, decide_eq_true_eq] at h3
  obtain ⟨t1, t2, t3⟩ := h3
  unfold regsB at h5
  simp only [Bool.and_eq_true, Bool.or_eq_true, decide_eq_true_eq] at h5
  obtain ⟨r1, r2, r3, r4, _, r6, r7, r8⟩ := h5
  have th : ∀ x, thereB W x = true → 0 ≤ x ∧ x < W.L.length := fun x hx => by
    unfold thereB liveB at hx
    simp only [Bool.and_eq_true] at hx
    exact of_decide_eq_true hx.2.1
  have md : ∀ {α : Type} {l : List α} {x : α} (d : α), x ∈ l → ∃ i, i < l.length ∧ l.getD i d = x := fun d hx => by
    obtain ⟨i, hi, e⟩ := List.getElem_of_mem hx
    exact ⟨i, hi, by rw [List.getD_eq_getElem?_getD, List.getElem?_eq_getElem hi]; exact e⟩
  have tl : ∀ l : List Int, thereL W l = true → ∀ y ∈ l, in64 y := fun l hl y hy => by
    obtain ⟨i, hi, e⟩ := md 0 hy
    have q := (allTo_iff _ _).1 hl i hi
    rw [e] at q
    have := th _ q
    exact ⟨by omega, by omega⟩
  have last0 : -1 ≤ W.last := by
    have o := (allTo_iff _ _).1 t1 0 (by omega)
    have hh : ∀ i, i ≤ W.L.length → 0 ≤ prevH W.L i := by
      intro i
      induction i with
      | zero => intro _; exact Int.le_refl _
      | succ i ih =>
        intro hi
        have o := (allTo_iff _ _).1 t1 i (by omega)
        unfold oneB at o
        simp only [Bool.and_eq_true, decide_eq_true_eq] at o
        have := ih (by omega)
        show 0 ≤ (tAt W.L i).hash
        omega
    have := hh W.L.length (Nat.le_refl _)
    omega
  refine ⟨⟨by omega, by omega⟩, ?_, ?_, ⟨by omega, by omega⟩, ⟨by omega, by omega⟩, by unfold maxLen; omega, by unfold maxLen; omega, tl _ r3, tl _ r4, fun x hx => ?_, fun s hs => ?_, fun t ht => ?_⟩
  · rcases r1 with e | e
    · rw [e]; exact ⟨by omega, by omega⟩
    · have := th _ e; exact ⟨by omega, by omega⟩
  · rcases r2 with e | e
    · rw [e]; exact ⟨by omega, by omega⟩
    · have := th _ e; exact ⟨by omega, by omega⟩
  · obtain ⟨i, hi, e⟩ := md (0, 0) hx
    have q := (allTo_iff _ _).1 r6 i hi
    have e : wAt W.R.wait i = x := e
    rw [e, Bool.and_eq_true] at q
    have a := th _ q.1
    have b := th _ q.2
    exact ⟨⟨by omega, by omega⟩, ⟨by omega, by omega⟩⟩
  · obtain ⟨i, hi, e⟩ := md ByteArray.empty hs
    have q := of_decide_eq_true ((allTo_iff _ _).1 r8 i hi)
    have e : sAt W.R.snaps i = s := e
    rw [e] at q
    unfold maxLen; omega
  · obtain ⟨i, hi, e⟩ := md dT ht
    have e : tAt W.L i = t := e
    have o := (allTo_iff _ _).1 t1 i hi
    unfold oneB thingB at o
    simp only [Bool.and_eq_true, decide_eq_true_eq] at o
    rw [e] at o
    obtain ⟨o1, o2, o3, o4, _⟩ := o
    obtain ⟨s1, s2, s3, s4, s5, s6⟩ := shape_of o4
    have hp : 0 ≤ prevH W.L i := by
      cases i with
      | zero => exact Int.le_refl _
      | succ i =>
        have hh : ∀ j, j ≤ W.L.length → 0 ≤ prevH W.L j := by
          intro j
          induction j with
          | zero => intro _; exact Int.le_refl _
          | succ j ih =>
            intro hj
            have o := (allTo_iff _ _).1 t1 j (by omega)
            unfold oneB at o
            simp only [Bool.and_eq_true, decide_eq_true_eq] at o
            have := ih (by omega)
            show 0 ≤ (tAt W.L j).hash
            omega
        exact hh _ (by omega)
    refine ⟨⟨by omega, by omega⟩, ?_, ⟨by omega, by omega⟩, by unfold maxLen; omega, fun v hv => ?_⟩
    · rcases s1 with a | a | a <;> rw [a] <;> exact ⟨by omega, by omega⟩
    · obtain ⟨j, hj, ej⟩ := md dV hv
      have q := s6 j hj
      have ej : vAt t.F j = v := ej
      rw [ej] at q
      unfold fldB at q
      split at q
      · have := of_decide_eq_true q; exact ⟨by omega, by omega⟩
      · have := fits_of q; exact ⟨by omega, by omega⟩
end Go.Proofs.Ytadhkmplhgcgkaa.World
namespace Go.Proofs.Ytadhkmplhgcgkaa.World
open Go.RowKit Go.Proofs.Ytadhkmplhgcgkaa.Plain
set_option linter.unusedVariables false
attribute [local go_sem ↓] Go.wp_at_zero Go.wp_at_succ
theorem first_put0 : (putS firstW).1 = 0 := by decide +kernel
theorem first_put_len : 300 < (putS firstW).2.length := by decide +kernel
theorem first_put3 : (putS firstW).2.take 3 = [67, 81, 49] := by decide +kernel
theorem cq_get : getS [67, 81] = (3, none) := by
  have h : (getS [67, 81]).1 = 3 := by decide +kernel
  rcases get_cases (b := [67, 81]) with ⟨k, _, e⟩ | ⟨W, e⟩
  · rw [e] at h ⊢
    have h : k = 3 := h
    rw [h]
  · rw [e] at h
    have h : (0 : Int) = 3 := h
    omega
theorem str_cq1 : strI [67, 81, 49] = ⟨#[67, 81, 49]⟩ := by decide +kernel
theorem okB_cq : okB [67, 81] := by
  intro x hx
  simp only [List.mem_cons, List.not_mem_nil, or_false] at hx
  rcases hx with rfl | rfl <;> omega
set_option maxRecDepth 100000 in
set_option maxHeartbeats 4000000 in
theorem awake7 (w : World) : Calls Try.prog 18 #[] w fun e w' => e = .returned (.bool true) ∧ Ext w w' := by
  go_enter Try.func18, Try.ntmps18
  go_upto_region 3 with ((first | (go_at_call 21; refine (get_none (rowB (l := [67, 81]) (Blk.new _ _ _) (by decide)) okB_cq (by decide) cq_get).mono ?_; rintro e w2 ⟨rfl, x2⟩; have X2 := Lib.hid (((Ext.refl w).alloc _).trans x2); clear x2; simp only [zeroWc]) | (go_at_call 19; refine (putW WA.out).mono ?_; rintro e w4 ⟨A4, c4, n4, rfl, o4, l4, x4⟩; rw [first_put0]; have O4 := Lib.hid o4; have L4 := Lib.hid l4; have X4 := Lib.hid (X3.out.trans x4); clear o4 l4 x4) | (go_at_call 8; refine (first_ _).mono ?_; rintro e w3 ⟨x, rfl, hb, x3⟩; have WA := Lib.hid (hb.at_ (nums_of_check first_check)); have X3 := Lib.hid ((X2.out.alloc _).trans x3); clear hb x3)))
  have hl4 : 300 < n4 := by rw [← L4.out]; exact first_put_len
  have hl4I : (300 : Int) < (n4 : Int) := by omega
  have ro : Row w4 (.slice A4 n4 c4) (putS firstW).2.length 1 (cU (putS firstW).2) := (OwnB.own O4.out).row
  rw [L4.out] at ro
  have r3 : Row w4 (.slice A4 3 c4) ((putS firstW).2.take 3).length 1 (cU ((putS firstW).2.take 3)) := row_take (by rw [L4.out]; exact ro) (by rw [L4.out]; omega)
  obtain ⟨A5, c5, e5, l5, l5'⟩ := Row.form ro
  injection e5 with e5 _ e6
  subst e5 e6
  rw [first_put3] at r3
  have hcv : (convert 45 9 (.slice A4 3 c4)).run Try.prog w4 = .ok (.string ⟨#[67, 81, 49]⟩) w4 := by
    have q := conv_str r3
    rw [str_cq1] at q
    exact q
  have hc3 : (3 : Int) ≤ (c4 : Int) := by omega
  clear ro r3 O4 L4 X2 X3 WA
  go_wp2_with ((first | (go_at_call 8; refine (first_ _).mono ?_; rintro e w5 ⟨y, rfl, hb, x5⟩; have WB := Lib.hid (hb.at_ (nums_of_check first_check)); have X5 := Lib.hid (X4.out.trans x5); clear hb x5) | (go_at_call 24; refine (check WB.out).mono ?_; rintro e w6 ⟨rfl, x6⟩; rw [first_check]; have X6 := Lib.hid (X5.out.trans x6); clear x6)))
  go_ret
  exact ⟨ret_bool rfl, X6.out⟩
end Go.Proofs.Ytadhkmplhgcgkaa.World
