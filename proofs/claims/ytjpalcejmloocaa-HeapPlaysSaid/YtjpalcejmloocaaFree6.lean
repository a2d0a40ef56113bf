/-
  Plain facts on giving words back (chapter 4).
-/
import Derived.Test.YtjpalcejmloocaaFree5
namespace Go.Proofs.Ytjpalcejmloocaa.Free
set_option linter.unusedVariables false

theorem ins_has (L : List Run) (i : Nat) (r : Run) (k : Int) : has (ins L i r) k ↔ has L k ∨ (r.1 ≤ k ∧ k < r.1 + r.2) := by
  unfold ins
  rw [has_append, has_cons]
  conv => rhs; rw [← List.take_append_drop i L, has_append]
  constructor
  · rintro (h | h | h)
    · exact .inl (.inl h)
    · exact .inr h
    · exact .inl (.inr h)
  · rintro ((h | h) | h)
    · exact .inl h
    · exact .inr (.inr h)
    · exact .inr (.inl h)
theorem endOf_take {L : List Run} {lo : Int} (i : Nat) (hi : 0 < i) (r : Run) (hr : L[i - 1]? = some r) : endOf lo (L.take i) = r.1 + r.2 := by
  induction L generalizing lo i with
  | nil => simp at hr
  | cons s L ih =>
    rcases i with _ | i
    · omega
    · simp only [List.take_succ_cons, endOf]
      rcases i with _ | i
      · simp at hr; subst hr; rfl
      · exact ih (i + 1) (by omega) (by simpa using hr)
theorem ins_weak {L : List Run} {lo a n : Int} {i : Nat} (h : Weak lo L) (hi : i ≤ L.length) (ha : lo ≤ a) (hn : 1 ≤ n) (h1 : ∀ r, 0 < i → L[i - 1]? = some r → r.1 + r.2 ≤ a) (h2 : ∀ s, L[i]? = some s → a + n ≤ s.1) : Weak lo (ins L i (a, n)) := by
  unfold ins
  have h' := h
  rw [← List.take_append_drop i L, Weak.append] at h'
  rw [Weak.append]
  refine ⟨h'.1, ?_, hn, ?_⟩
  · rcases Nat.eq_zero_or_pos i with h0 | h0
    · subst h0; simpa [endOf] using ha
    · obtain ⟨r, hr⟩ : ∃ r, L[i - 1]? = some r := ⟨_, List.getElem?_eq_getElem (by omega)⟩
      rw [endOf_take i h0 r hr]
      exact h1 r h0 hr
  · rcases Nat.lt_or_ge i L.length with hlt | hge
    · have e := List.drop_eq_getElem_cons hlt
      rw [e] at h' ⊢
      exact ⟨h2 _ (List.getElem?_eq_getElem hlt), h'.2.2.1, h'.2.2.2⟩
    · rw [List.drop_eq_nil_of_le hge]; trivial
theorem ins_gap {L : List Run} {lo : Int} {i : Nat} {q : Run} (h : Can lo L) (hi : i ≤ L.length) (j : Nat) (hj : j + 1 < i ∨ i < j) : GapAt (ins L i q) j := by
  intro r s hr hs
  rw [ins_at _ _ _ hi] at hr hs
  rcases hj with hj | hj
  · rw [if_pos (by omega)] at hr hs
    exact h.gap j r s hr hs
  · rw [if_neg (by omega), if_neg (by omega)] at hr hs
    exact h.gap (j - 1) r s hr (by rw [show j - 1 + 1 = j from by omega]; simpa using hs)
/-- what Give leaves -/
def givenL (L : List Run) (i : Nat) (r : Run) : List Run := joinLoop (ins L i r) (i - 1) (min (i - 1 + 2) L.length)
theorem given_can {L : List Run} {lo a n : Int} {i : Nat} (h : Can lo L) (hi : i ≤ L.length) (ha : lo ≤ a) (hn : 1 ≤ n) (h1 : ∀ r, 0 < i → L[i - 1]? = some r → r.1 + r.2 ≤ a) (h2 : ∀ s, L[i]? = some s → a + n ≤ s.1) :
    Can lo (givenL L i (a, n)) ∧ ∀ k, has (givenL L i (a, n)) k ↔ has L k ∨ (a ≤ k ∧ k < a + n) := by
  have hj := join_can (ins L i (a, n)) (i - 1) (min (i - 1 + 2) L.length) lo (ins_weak h.weak hi ha hn h1 h2) (fun j hj => ?_) (.inl (by rw [ins_len _ _ _ hi]; omega))
  · exact ⟨hj.1, fun k => (hj.2 k).trans (ins_has L i (a, n) k)⟩
  · rcases hj with hj | hj
    · exact ins_gap h hi j (.inl (by omega))
    · by_cases hjl : L.length ≤ j
      · intro r s hr hs
        have := (List.getElem?_eq_some_iff.1 hs).1
        rw [ins_len _ _ _ hi] at this
        omega
      · exact ins_gap h hi j (.inr (by omega))
theorem Can.srt {L : List Run} {lo : Int} (h : Can lo L) : Srt L := by
  induction L generalizing lo with
  | nil => intro i j _ hj; simp at hj
  | cons r L ih =>
    intro i j hij hj
    rcases j with _ | j
    · omega
    · have hm : nth L j ∈ L := nth_mem L j (by simpa using hj)
      have hg := (h.2.2.weak.ge hm).1
      have r1 := h.2.1
      rcases i with _ | i
      · show r.1 < (nth L j).1; omega
      · exact ih h.2.2 i j (by omega) (by simpa using hj)
theorem lo_exists {L : List Run} (hs : Srt L) (a : Int) : ∃ i, IsLo L a i := by
  have : ∀ n, n ≤ L.length → (∀ j, n ≤ j → j < L.length → a ≤ (nth L j).1) → ∃ i, IsLo L a i := by
    intro n
    induction n with
    | zero => exact fun _ h => ⟨0, Nat.zero_le _, fun j hj => by omega, h⟩
    | succ n ih =>
      intro hn h
      by_cases hc : (nth L n).1 < a
      · refine ⟨n + 1, hn, fun j hj => ?_, h⟩
        rcases Nat.lt_or_ge j n with h1 | h1
        · have := hs j n h1 (by omega); omega
        · obtain rfl : j = n := by omega
          exact hc
      · refine ih (by omega) (fun j h1 h2 => ?_)
        rcases Nat.lt_or_ge n j with h3 | h3
        · exact h j (by omega) h2
        · obtain rfl : j = n := by omega
          omega
  exact this L.length (Nat.le_refl _) (fun j h1 h2 => by omega)
end Go.Proofs.Ytjpalcejmloocaa.Free
