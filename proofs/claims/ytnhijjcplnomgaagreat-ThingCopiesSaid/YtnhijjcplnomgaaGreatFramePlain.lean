/-
  What is a frame, plain: what stays of it when a field is turned, when a thing is added.
-/
import Derived.Test.YtnhijjcplnomgaaGreatFrame5
namespace Go.Proofs.YtnhijjcplnomgaaGreat.World
open Go.RowKit Go.Proofs.YtnhijjcplnomgaaGreat.Plain
set_option linter.unusedVariables false
namespace MS
section
variable {S : MS} {i j : Int} {v : PV} {x : PT}
theorem get_put (w : S.Wf) (h : S.isField i j = true) (k l : Int) : (S.put i j v).get k l = if k = i ∧ l = j then v else S.get k l := by
  obtain ⟨h1, h2, h3, h4, h5, h6⟩ := field_lt w h
  unfold get
  rw [isField_put ⟨h1, h2⟩]
  by_cases hf : S.isField k l = true
  · obtain ⟨g1, g2, g3, g4, _, _⟩ := field_lt w hf
    rw [if_pos hf, field_put ⟨h1, h2⟩ ⟨h3, h4⟩]
    by_cases e : k = i ∧ l = j
    · rw [if_pos e, if_pos ⟨by omega, by omega⟩]
    · rw [if_neg e, if_neg (fun e' => e ⟨by omega, by omega⟩), if_pos hf]
  · rw [if_neg hf]
    by_cases e : k = i ∧ l = j
    · rw [e.1, e.2] at hf; exact absurd h hf
    · rw [if_neg e, if_neg hf]
theorem plainB_put (hi : 0 ≤ i ∧ i < S.L.length) (u : PV) (n : Int) : (S.put i j v).plainB u n = S.plainB u n := by unfold plainB; rw [fmt_put hi, size_put hi]
theorem isRoom_put (hi : 0 ≤ i ∧ i < S.L.length) (u : PV) : (S.put i j v).isRoom u = S.isRoom u := by unfold isRoom; rw [plainB_put hi, size_put hi]
theorem isMethod_put (w : S.Wf) (h : S.isField i j = true) (k : Int) (hk : k ≠ i ∨ 4 ≤ j) : (S.put i j v).isMethod k = S.isMethod k := by
  obtain ⟨h1, h2, _⟩ := field_lt w h
  have g : ∀ l, l < 4 → (S.put i j v).get k l = S.get k l := fun l hl => by rw [get_put w h, if_neg (by omega)]
  unfold isMethod numB
  rw [plainB_put ⟨h1, h2⟩, g 0 (by omega), g 1 (by omega), g 2 (by omega), g 3 (by omega), fmt_put ⟨h1, h2⟩]
theorem isBlock_put (w : S.Wf) (h : S.isField i j = true) (k : Int) (hk : k ≠ i ∨ 4 ≤ j) : (S.put i j v).isBlock k = S.isBlock k := by
  obtain ⟨h1, h2, _⟩ := field_lt w h
  have g : ∀ l, l < 4 → (S.put i j v).get k l = S.get k l := fun l hl => by rw [get_put w h, if_neg (by omega)]
  unfold isBlock numB
  rw [plainB_put ⟨h1, h2⟩, g 0 (by omega), g 1 (by omega), g 2 (by omega), g 3 (by omega), isRoom_put ⟨h1, h2⟩]
theorem isFrame_put (w : S.Wf) (h : S.isField i j = true) {k : Int} (hk : S.isFrame k = true) (hm : (S.get k 3).n ≠ i ∨ 4 ≤ j) (hb : (S.get k 5).n ≠ i ∨ 4 ≤ j)
    (ho : k ≠ i ∨ 6 ≤ j ∨ j = 4 ∨ (j = 1 ∧ v.obj = false) ∨ (j = 2 ∧ v.obj = false ∧ 0 ≤ v.n ∧ v.n ≤ 16)) : (S.put i j v).isFrame k = true := by
  obtain ⟨h1, h2, _⟩ := field_lt w h
  have G := fun l => get_put (v := v) w h k l
  have g0 : (S.put i j v).get k 0 = S.get k 0 := by rw [G, if_neg (by omega)]
  have g3 : (S.put i j v).get k 3 = S.get k 3 := by rw [G, if_neg (by omega)]
  have g5 : (S.put i j v).get k 5 = S.get k 5 := by rw [G, if_neg (by omega)]
  unfold isFrame at hk ⊢
  simp only [Bool.and_eq_true] at hk ⊢
  obtain ⟨a1, a2, a3, a4, a5, a6, a7, a8⟩ := hk
  rw [g0, g3, g5, isRoom_put ⟨h1, h2⟩, isRoom_put ⟨h1, h2⟩, isMethod_put w h _ hm, isBlock_put w h _ hb]
  refine ⟨a1, a2, ?_, ?_, a5, a6, a7, a8⟩
  · rw [G]
    split
    · rename_i e
      have : v.obj = false := by
        rcases ho with ho | ho | ho | ho | ho
        · exact absurd e.1 ho
        · omega
        · omega
        · exact ho.2
        · exact ho.2.1
      rw [this]; rfl
    · exact a3
  · unfold numB at a4 ⊢
    rw [G]
    split
    · rename_i e
      have : v.obj = false ∧ 0 ≤ v.n ∧ v.n ≤ 16 := by
        rcases ho with ho | ho | ho | ho | ho
        · exact absurd e.1 ho
        · omega
        · omega
        · omega
        · exact ho.2
      rw [this.1, decide_eq_true this.2]; rfl
    · exact a4
/-! ### a thing more -/
theorem fmt_has {k : Int} (h : S.fmt k ≠ 0) : S.has k = true := by
  cases hh : S.has k with
  | true => rfl
  | false => unfold fmt at h; rw [hh] at h; exact absurd rfl h
theorem plainB_add (w : S.Wf) {u : PV} {n : Int} (h : S.plainB u n = true) : (S.add x).plainB u n = true := by
  unfold plainB at *
  simp only [Bool.and_eq_true, decide_eq_true_eq] at *
  have hh : S.has u.n = true := fmt_has (by omega)
  rw [fmt_old w hh, size_old w hh]; exact h
theorem plainB_has {u : PV} {n : Int} (h : S.plainB u n = true) : S.has u.n = true := by
  unfold plainB at h
  simp only [Bool.and_eq_true, decide_eq_true_eq] at h
  exact fmt_has (by omega)
theorem isRoom_has {u : PV} (h : S.isRoom u = true) : S.has u.n = true := by
  unfold isRoom at h
  rw [Bool.and_eq_true] at h
  exact plainB_has h.1
theorem isRoom_add (w : S.Wf) {u : PV} (h : S.isRoom u = true) : (S.add x).isRoom u = true := by
  have hh := isRoom_has h
  unfold isRoom at *
  rw [Bool.and_eq_true] at *
  exact ⟨plainB_add w h.1, by rw [size_old w hh]; exact h.2⟩
theorem isMethod_has {k : Int} (h : S.isMethod k = true) : S.has k = true := by
  unfold isMethod at h
  rw [Bool.and_eq_true] at h
  exact plainB_has h.1
theorem isMethod_add (w : S.Wf) {k : Int} (h : S.isMethod k = true) : (S.add x).isMethod k = true := by
  have hh := isMethod_has h
  unfold isMethod numB at *
  rw [get_old w hh, get_old w hh, get_old w hh, get_old w hh]
  simp only [Bool.and_eq_true] at *
  obtain ⟨h1, h2, h3, h4, h5, h6, h7⟩ := h
  have h8 := of_decide_eq_true h7
  exact ⟨plainB_add w h1, h2, h3, h4, h5, h6, by rw [fmt_old w (fmt_has (by omega))]; exact h7⟩
theorem isBlock_has {k : Int} (h : S.isBlock k = true) : S.has k = true := by
  unfold isBlock at h
  rw [Bool.and_eq_true] at h
  exact plainB_has h.1
theorem isBlock_add (w : S.Wf) {k : Int} (h : S.isBlock k = true) : (S.add x).isBlock k = true := by
  have hh := isBlock_has h
  unfold isBlock numB at *
  rw [get_old w hh, get_old w hh, get_old w hh, get_old w hh]
  simp only [Bool.and_eq_true] at *
  obtain ⟨h1, h2, h3⟩ := h
  exact ⟨plainB_add w h1, isRoom_add w h2, h3⟩
theorem isFrame_has {k : Int} (h : S.isFrame k = true) : S.has k = true := by
  unfold isFrame at h
  simp only [Bool.and_eq_true] at h
  exact isRoom_has h.2.1
theorem isFrame_add (w : S.Wf) {k : Int} (h : S.isFrame k = true) : (S.add x).isFrame k = true := by
  have hh := isFrame_has h
  unfold isFrame numB at *
  rw [get_old w hh, get_old w hh, get_old w hh, get_old w hh, get_old w hh]
  simp only [Bool.and_eq_true, Bool.or_eq_true] at *
  obtain ⟨h1, h2, h3, h4, h5, h6, h7, h8⟩ := h
  exact ⟨h1, isRoom_add w h2, h3, h4, h5.imp id (isRoom_add w), h6, isMethod_add w h7, h8.imp id fun q => ⟨q.1, isBlock_add w q.2⟩⟩
/-! ### fields of frames -/
theorem isFrame_size {k : Int} (h : S.isFrame k = true) : S.fmt k = 1 ∧ S.size k = 22 ∧ k ≠ 0 := by
  unfold isFrame isRoom plainB at h
  simp only [Bool.and_eq_true, decide_eq_true_eq, Bool.not_eq_true', decide_eq_false_iff_not] at h
  exact ⟨h.2.1.1.2.1, h.2.1.2, h.1⟩
theorem isFrame_field {k : Int} (h : S.isFrame k = true) {l : Int} (hl : 0 ≤ l ∧ l < 22) : S.isField k l = true := by
  obtain ⟨a, b, _⟩ := isFrame_size h
  unfold isField
  rw [isFrame_has h, a, b]
  simp [hl]
theorem setOK_of (hf : S.isField i j = true) (hv : S.may v = true) (hj : (j ≠ 3 ∧ j ≠ 4) ∨ S.isClass i = false) : S.setOK i j v = true := by
  unfold setOK
  rw [hf, hv]
  rcases hj with ⟨a, b⟩ | a
  · rw [decide_eq_false a, decide_eq_false b]; rfl
  · rw [a, Bool.and_false]; rfl
theorem set_put (h : S.setOK i j v = true) : S.set i j v = S.put i j v := by unfold set; rw [if_pos h]
theorem set_no (h : S.setOK i j v = false) : S.set i j v = S := by unfold set; rw [h]; rfl
theorem isFrame_sp {k : Int} (h : S.isFrame k = true) : (S.get k 2).obj = false ∧ 0 ≤ (S.get k 2).n ∧ (S.get k 2).n ≤ 16 := by
  unfold isFrame numB at h
  simp only [Bool.and_eq_true, decide_eq_true_eq, Bool.not_eq_true'] at h
  exact h.2.2.2.1
end
end MS
end Go.Proofs.YtnhijjcplnomgaaGreat.World
