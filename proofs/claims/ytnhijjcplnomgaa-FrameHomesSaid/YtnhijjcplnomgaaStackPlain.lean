/-
  FrameStack, plain: a frame's stack as a list.
-/
import Derived.Test.YtnhijjcplnomgaaAwake14
namespace Go.Proofs.Ytnhijjcplnomgaa.World
open Go.RowKit Go.Proofs.Ytnhijjcplnomgaa.Plain
set_option linter.unusedVariables false
/-- frame id, t temps, and l pushed -/
structure FS (S : MS) (id : Int) (t : Nat) (l : List Int) : Prop where
  fr : S.Fr id
  ph : S.phase = 0
  h0 : S.has 0 = true
  sp : S.sp id = t + l.length
  le : t + l.length ≤ 16
  val : ∀ j, j < l.length → S.get id (6 + t + j) = num (l.getD j 0)
  rest : ∀ j : Nat, t + l.length ≤ j → j < 16 → S.get id (6 + j) = MS.nilV
section
variable {S : MS} {id : Int} {t : Nat} {l : List Int} {v : Int}
theorem getD_snoc (l : List Int) (v : Int) (j : Nat) : (l ++ [v]).getD j 0 = if j < l.length then l.getD j 0 else if j = l.length then v else 0 := by
  rw [List.getD_eq_getElem?_getD, List.getD_eq_getElem?_getD]
  by_cases h : j < l.length
  · rw [if_pos h, List.getElem?_append_left h]
  · rw [if_neg h, List.getElem?_append_right (by omega)]
    by_cases h2 : j = l.length
    · subst h2; simp
    · rw [if_neg h2, List.getElem?_eq_none (by simp; omega)]; rfl
theorem FS.push (h : FS S id t l) (hlt : t + l.length < 16) (hv : -1000 ≤ v ∧ v ≤ 1000) : S.pushOK id (num v) = true ∧ FS (S.push id (num v)) id t (l ++ [v]) := by
  have sp := h.sp
  obtain ⟨a, b, c, d⟩ := h.fr.push (v := num v) (by omega) (MS.fits_small (n := v) (by omega))
  refine ⟨a, b, c.phase.trans h.ph, by rw [c.has]; exact h.h0, ?_, by simp; omega, fun j hj => ?_, fun j h1 h2 => ?_⟩
  · show ((S.push id (num v)).get id 2).n = _
    rw [d, if_pos ⟨rfl, rfl⟩]
    show S.sp id + 1 = _
    rw [sp]; simp; omega
  · rw [List.length_append] at hj
    have hj : j < l.length + 1 := hj
    rw [d, if_neg (by omega), getD_snoc]
    by_cases e : j < l.length
    · rw [if_neg (by omega), if_pos e]; exact h.val j e
    · rw [if_pos ⟨rfl, by omega⟩, if_neg e, if_pos (by omega)]
  · rw [List.length_append] at h1
    have h1 : t + (l.length + 1) ≤ j := h1
    rw [d, if_neg (by omega), if_neg (by omega)]
    exact h.rest j (by omega) h2
theorem FS.full (h : FS S id t l) (hlt : t + l.length = 16) : S.pushOK id (num v) = false ∧ S.push id (num v) = S := MS.push_full (by rw [h.sp]; omega)
theorem FS.pop (h : FS S id t (l ++ [v])) : S.popOK id = true ∧ S.get id (6 + S.sp id - 1) = num v ∧ FS (S.pop id) id t l := by
  have sp := h.sp
  have le := h.le
  rw [List.length_append] at sp le
  have sp : S.sp id = t + (l.length + 1 : Nat) := sp
  have le : t + (l.length + 1) ≤ 16 := le
  obtain ⟨a, b, c, d⟩ := h.fr.pop h.h0 (by omega)
  have hl : (l ++ [v]).length = l.length + 1 := by simp
  refine ⟨a, ?_, b, c.phase.trans h.ph, by rw [c.has]; exact h.h0, ?_, by omega, fun j hj => ?_, fun j h1 h2 => ?_⟩
  · have q := h.val l.length (by omega)
    rw [getD_snoc, if_neg (by omega), if_pos rfl] at q
    rw [← q]
    congr 1
    omega
  · show ((S.pop id).get id 2).n = _
    rw [d, if_pos ⟨rfl, rfl⟩]
    show S.sp id - 1 = _
    omega
  · rw [d, if_neg (by omega), if_neg (by omega)]
    have q := h.val j (by omega)
    rw [getD_snoc, if_pos hj] at q
    exact q
  · rw [d, if_neg (by omega)]
    by_cases e : (6 + (j : Int)) = 6 + S.sp id - 1
    · rw [if_pos ⟨rfl, e⟩]
    · rw [if_neg (fun q => e q.2)]
      exact h.rest j (by omega) h2
theorem FS.top (h : FS S id t l) (k : Nat) (hk : k < l.length) : S.topOK id k = true ∧ S.topV id k = num (l.getD (l.length - 1 - k) 0) := by
  have sp := h.sp
  have a : S.topOK id k = true := by
    unfold MS.topOK
    rw [h.fr.is, decide_eq_true (by omega)]; rfl
  refine ⟨a, ?_⟩
  unfold MS.topV
  rw [if_pos a, ← h.val _ (by omega)]
  congr 1
  omega
end
theorem fs_new {S S' : MS} {t : Nat} (hs : S.Std) (ht : t ≤ 8) {f : Nat → PV} (N : MS.NewFr S S' S.L.length f) (h2 : f 2 = num t) (hn : ∀ j, 6 ≤ j → j < 22 → f j = MS.nilV) : FS S' S.L.length t [] := by
  have g := N.own.get
  refine ⟨N.fr, N.own.std.ph, N.own.std.has0, ?_, by simp; omega, fun j hj => by simp at hj, fun j h1 h2 => ?_⟩
  · show (S'.get S.L.length 2).n = _
    have q := g 2 (by omega)
    have q : S'.get S.L.length 2 = f 2 := q
    rw [q, h2]; simp; rfl
  · have q := g (6 + j) (by omega)
    rw [hn _ (by omega) (by omega)] at q
    rw [← q]
    congr 1
end Go.Proofs.Ytnhijjcplnomgaa.World
