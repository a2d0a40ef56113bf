/-
  Nums, as one text (a claim has at most 60 files).
-/
import Derived.Test.YtjpalcejmloocaaGreatCt02
namespace Go.Proofs.YtjpalcejmloocaaGreat.World
open Go.RowKit Go.Proofs.YtjpalcejmloocaaGreat.Plain
set_option linter.unusedVariables false
theorem shape_of {n : Nat} {t : PT} (h : shapeB n t = true) : (t.fmt = 1 ∨ t.fmt = 2 ∨ t.fmt = 3) ∧ (t.fmt ≠ 3 → t.B.size = 0) ∧ (t.fmt = 3 → t.F = []) ∧ t.F.length ≤ 60 ∧ t.B.size ≤ 200 ∧ ∀ j, j < t.F.length → fldB n (vAt t.F j) = true := by
  unfold shapeB at h
  by_cases h3 : t.fmt = 3
  · rw [if_pos h3, Bool.and_eq_true] at h
    have h1 := of_decide_eq_true h.1
    have h2 := of_decide_eq_true h.2
    exact ⟨.inr (.inr h3), fun e => absurd h3 e, fun _ => List.eq_nil_of_length_eq_zero h1, by omega, h2, fun j hj => by omega⟩
  · rw [if_neg h3] at h
    by_cases h1 : t.fmt = 1 ∨ t.fmt = 2
    · rw [if_pos h1, Bool.and_eq_true, Bool.and_eq_true] at h
      have g1 := of_decide_eq_true h.1
      have g2 := of_decide_eq_true h.2.1
      exact ⟨h1.imp id .inl, fun _ => g1, fun e => absurd e h3, g2, by omega, (allTo_iff _ _).1 h.2.2⟩
    · rw [if_neg h1] at h; cases h
theorem nums_of_check {W : PW} (h : checkB W = true) : Nums W := by
  unfold checkB at h
  simp only [Bool.and_eq_true, decide_eq_true_eq] at h
  obtain ⟨⟨n1, n2⟩, _, h3, _, h5⟩ := h
  unfold thingsB at h3
  simp only [Bool.and_eq_true, decide_eq_true_eq] at h3
  obtain ⟨t1, t2, t3⟩ := h3
  unfold regsB at h5
  simp only [Bool.and_eq_true, Bool.or_eq_true, decide_eq_true_eq] at h5
  obtain ⟨r1, r2, r3, r4, _, r6, r7, r8⟩ := h5
  have th : ∀ x, thereB W x = true → 0 ≤ x ∧ x < W.L.length := fun x hx => by
    unfold thereB liveB at hx
    simp only [Bool.and_eq_true] at hx
    exact of_decide_eq_true hx.2.1
  have md : ∀ {α : Type} {l : List α} {x : α} (d : α), x ∈ l → ∃ i, i < l.length ∧ l.getD i d = x := fun d hx => by
    obtain ⟨i, hi, e⟩ := List.getElem_of_mem hx
    exact ⟨i, hi, by rw [List.getD_eq_getElem?_getD, List.getElem?_eq_getElem hi]; exact e⟩
  have tl : ∀ l : List Int, thereL W l = true → ∀ y ∈ l, in64 y := fun l hl y hy => by
    obtain ⟨i, hi, e⟩ := md 0 hy
    have q := (allTo_iff _ _).1 hl i hi
    rw [e] at q
    have := th _ q
    exact ⟨by omega, by omega⟩
  have last0 : -1 ≤ W.last := by
    have o := (allTo_iff _ _).1 t1 0 (by omega)
    have hh : ∀ i, i ≤ W.L.length → 0 ≤ prevH W.L i := by
      intro i
      induction i with
      | zero => intro _; exact Int.le_refl _
      | succ i ih =>
        intro hi
        have o := (allTo_iff _ _).1 t1 i (by omega)
        unfold oneB at o
        simp only [Bool.and_eq_true, decide_eq_true_eq] at o
        have := ih (by omega)
        show 0 ≤ (tAt W.L i).hash
        omega
    have := hh W.L.length (Nat.le_refl _)
    omega
  refine ⟨⟨by omega, by omega⟩, ?_, ?_, ⟨by omega, by omega⟩, ⟨by omega, by omega⟩, by unfold maxLen; omega, by unfold maxLen; omega, tl _ r3, tl _ r4, fun x hx => ?_, fun s hs => ?_, fun t ht => ?_⟩
  · rcases r1 with e | e
    · rw [e]; exact ⟨by omega, by omega⟩
    · have := th _ e; exact ⟨by omega, by omega⟩
  · rcases r2 with e | e
    · rw [e]; exact ⟨by omega, by omega⟩
    · have := th _ e; exact ⟨by omega, by omega⟩
  · obtain ⟨i, hi, e⟩ := md (0, 0) hx
    have q := (allTo_iff _ _).1 r6 i hi
    have e : wAt W.R.wait i = x := e
    rw [e, Bool.and_eq_true] at q
    have a := th _ q.1
    have b := th _ q.2
    exact ⟨⟨by omega, by omega⟩, ⟨by omega, by omega⟩⟩
  · obtain ⟨i, hi, e⟩ := md ByteArray.empty hs
    have q := of_decide_eq_true ((allTo_iff _ _).1 r8 i hi)
    have e : sAt W.R.snaps i = s := e
    rw [e] at q
    unfold maxLen; omega
  · obtain ⟨i, hi, e⟩ := md dT ht
    have e : tAt W.L i = t := e
    have o := (allTo_iff _ _).1 t1 i hi
    unfold oneB thingB at o
    simp only [Bool.and_eq_true, decide_eq_true_eq] at o
    rw [e] at o
    obtain ⟨o1, o2, o3, o4, _⟩ := o
    obtain ⟨s1, s2, s3, s4, s5, s6⟩ := shape_of o4
    have hp : 0 ≤ prevH W.L i := by
      cases i with
      | zero => exact Int.le_refl _
      | succ i =>
        have hh : ∀ j, j ≤ W.L.length → 0 ≤ prevH W.L j := by
          intro j
          induction j with
          | zero => intro _; exact Int.le_refl _
          | succ j ih =>
            intro hj
            have o := (allTo_iff _ _).1 t1 j (by omega)
            unfold oneB at o
            simp only [Bool.and_eq_true, decide_eq_true_eq] at o
            have := ih (by omega)
            show 0 ≤ (tAt W.L j).hash
            omega
        exact hh _ (by omega)
    refine ⟨⟨by omega, by omega⟩, ?_, ⟨by omega, by omega⟩, by unfold maxLen; omega, fun v hv => ?_⟩
    · rcases s1 with a | a | a <;> rw [a] <;> exact ⟨by omega, by omega⟩
    · obtain ⟨j, hj, ej⟩ := md dV hv
      have q := s6 j hj
      have ej : vAt t.F j = v := ej
      rw [ej] at q
      unfold fldB at q
      split at q
      · have := of_decide_eq_true q; exact ⟨by omega, by omega⟩
      · have := fits_of q; exact ⟨by omega, by omega⟩
end Go.Proofs.YtjpalcejmloocaaGreat.World
