/-
  Contracts of package free (chapter 4), by the words that are free: Give, Is, Runs.
-/
import Derived.Test.YtjpalcejmloocaaFree8
import Derived.Test.YtjpalcejmloocaaFree2
import Derived.WalkSpells
namespace Go.Proofs.Ytjpalcejmloocaa.Free
open Go.RowKit Go.Proofs.Ytjpalcejmloocaa.Plain
set_option linter.unusedVariables false

/-! ### plain -/
theorem can_len {L : List Run} {lo N : Int} (h : Can lo L) (hu : Upto N L) (hlo : lo ≤ N) : (L.length : Int) ≤ N - lo := by
  induction L generalizing lo with
  | nil => simp; omega
  | cons r L ih =>
    have hr := hu r List.mem_cons_self
    cases L with
    | nil => have := h.1; have := h.2.1; simp; omega
    | cons s L =>
      have := h.1; have := h.2.1; have h3 := h.2.2.1; have := h.2.2.2.1
      have hs := hu s (List.mem_cons_of_mem _ List.mem_cons_self)
      have := ih h.2.2 (fun x hx => hu x (List.mem_cons_of_mem _ hx)) (by omega)
      simp only [List.length_cons] at this ⊢; omega
theorem can_bd {L : List Run} {N : Int} (h : Can 0 L) (hu : Upto N L) (hN : N ≤ 65536) : Bd L := by
  intro r hr
  have := h.weak.ge hr
  exact ⟨this.1, this.2, Int.le_trans (hu r hr) hN⟩
theorem has_nth {L : List Run} {k : Int} : has L k ↔ ∃ j, j < L.length ∧ (nth L j).1 ≤ k ∧ k < (nth L j).1 + (nth L j).2 := by
  constructor
  · rintro ⟨r, hr, h⟩
    obtain ⟨j, hj, e⟩ := List.getElem_of_mem hr
    refine ⟨j, hj, ?_⟩
    have := nth_some L j hj
    rw [List.getElem?_eq_getElem hj, e] at this
    injection this with this
    rw [← this]; exact h
  · rintro ⟨j, hj, h⟩
    exact ⟨_, nth_mem L j hj, h⟩
theorem can_apart {L : List Run} {lo : Int} (h : Can lo L) : ∀ i j, i < j → j < L.length → (nth L i).1 + (nth L i).2 < (nth L j).1 := by
  induction L generalizing lo with
  | nil => intro i j _ hj; simp at hj
  | cons r L ih =>
    intro i j hij hj
    rcases j with _ | j
    · omega
    · have hm : nth L j ∈ L := nth_mem L j (by simpa using hj)
      have hg := (h.2.2.weak.ge hm).1
      rcases i with _ | i
      · show r.1 + r.2 < (nth L j).1; omega
      · exact ih h.2.2 i j (by omega) (by simpa using hj)
theorem nth_pos {L : List Run} {lo : Int} (h : Can lo L) (j : Nat) (hj : j < L.length) : 1 ≤ (nth L j).2 := (h.weak.ge (nth_mem L j hj)).2
/-- what Give tests: there is nothing in the way -/
theorem no_hit {L : List Run} {lo a n : Int} {i : Nat} (h : Can lo L) (hi : IsLo L a i) (hn : 1 ≤ n) :
    (∀ k, a ≤ k → k < a + n → ¬ has L k) ↔ ((i < L.length → a + n ≤ (nth L i).1) ∧ (0 < i → (nth L (i - 1)).1 + (nth L (i - 1)).2 ≤ a)) := by
  constructor
  · intro hk
    refine ⟨fun hl => ?_, fun h0 => ?_⟩
    · have h1 := hi.hi i (Nat.le_refl _) hl
      rcases Int.lt_or_le (nth L i).1 (a + n) with h2 | h2
      · exact absurd (has_nth.2 ⟨i, hl, Int.le_refl _, by have := nth_pos h i hl; omega⟩) (hk _ h1 h2)
      · exact h2
    · have hl : i - 1 < L.length := by have := hi.le; omega
      have h1 := hi.lo (i - 1) (by omega)
      rcases Int.lt_or_le a ((nth L (i - 1)).1 + (nth L (i - 1)).2) with h2 | h2
      · exact absurd (has_nth.2 ⟨i - 1, hl, by omega, h2⟩) (hk a (Int.le_refl _) (by omega))
      · exact h2
  · rintro ⟨h1, h2⟩ k hk1 hk2 hh
    obtain ⟨j, hj, j1, j2⟩ := has_nth.1 hh
    rcases Nat.lt_or_ge j i with hji | hji
    · have e2 := h2 (by omega)
      rcases Nat.lt_or_ge j (i - 1) with h3 | h3
      · have := can_apart h j (i - 1) h3 (by have := hi.le; omega)
        have := nth_pos h (i - 1) (by have := hi.le; omega)
        omega
      · obtain rfl : j = i - 1 := by omega
        omega
    · have e1 := h1 (by omega)
      rcases Nat.lt_or_ge i j with h3 | h3
      · have := can_apart h i j h3 hj
        have := nth_pos h i (by omega)
        omega
      · obtain rfl : j = i := by omega
        omega
/-- what Is tests -/
theorem is_hit {L : List Run} {lo a : Int} {i : Nat} (h : Can lo L) (hi : IsLo L a i) :
    has L a ↔ ((i < L.length ∧ (nth L i).1 = a) ∨ (0 < i ∧ a < (nth L (i - 1)).1 + (nth L (i - 1)).2)) := by
  have := no_hit h hi (n := 1) (Int.le_refl _)
  constructor
  · intro hh
    by_cases c1 : i < L.length ∧ (nth L i).1 = a
    · exact .inl c1
    · refine .inr ?_
      by_cases c2 : 0 < i ∧ a < (nth L (i - 1)).1 + (nth L (i - 1)).2
      · exact c2
      · refine absurd hh (this.2 ⟨fun hl => ?_, fun h0 => ?_⟩ a (Int.le_refl _) (by omega))
        · have h1 := hi.hi i (Nat.le_refl _) hl
          have : (nth L i).1 ≠ a := fun e => c1 ⟨hl, e⟩
          omega
        · have : ¬ a < (nth L (i - 1)).1 + (nth L (i - 1)).2 := fun e => c2 ⟨h0, e⟩
          omega
  · rintro (⟨hl, e⟩ | ⟨h0, e⟩)
    · exact has_nth.2 ⟨i, hl, by omega, by have := nth_pos h i hl; omega⟩
    · have hl : i - 1 < L.length := by have := hi.le; omega
      exact has_nth.2 ⟨i - 1, hl, by have := hi.lo (i - 1) (by omega); omega, e⟩
/-! ### the words of a world -/
/-- g is a Free of N words whose runs L are canonical -/
structure Fr (w : World) (g base : Nat) (L : List Run) (N : Nat) : Prop where
  fre : ∃ v, Fre w g base v L N
  can : Can 0 L
  upto : Upto N L
  small : N ≤ 65536
theorem Fr.ext {w w' : World} {g base : Nat} {L : List Run} {N : Nat} (h : Fr w g base L N) (x : Ext w w') : Fr w' g base L N := by
  obtain ⟨v, hv⟩ := h.fre
  exact ⟨⟨v, hv.ext x⟩, h.can, h.upto, h.small⟩
theorem Fr.len {w : World} {g base : Nat} {L : List Run} {N : Nat} (h : Fr w g base L N) : L.length ≤ 65536 := by
  have := can_len h.can h.upto (by omega)
  have := h.small
  omega
def GiveOk (L : List Run) (N : Nat) (a n : Int) : Prop := 1 ≤ n ∧ 0 ≤ a ∧ a + n ≤ N ∧ ∀ k, a ≤ k → k < a + n → ¬ has L k
/-- what Give does where it may -/
def Given (w : World) (g base : Nat) (L : List Run) (N : Nat) (a n : Int) (e : Ending) (w' : World) : Prop :=
  e = .returned (.bool true) ∧ (∃ L', Fr w' g base L' N ∧ ∀ k, has L' k ↔ has L k ∨ (a ≤ k ∧ k < a + n)) ∧ TK w g base w'
theorem upto_of {L L' : List Run} {N : Nat} {a n : Int} (hw : Can 0 L') (hk : ∀ k, has L' k ↔ has L k ∨ (a ≤ k ∧ k < a + n)) (hu : Upto N L) (hN : a + n ≤ N) : Upto N L' := by
  intro r hr
  have h1 := (hw.weak.ge hr).2
  rcases (hk (r.1 + r.2 - 1)).1 ⟨r, hr, by omega, by omega⟩ with ⟨s, hs, s1, s2⟩ | h
  · have := hu s hs; omega
  · omega
theorem give {w : World} {g base : Nat} {L : List Run} {N : Nat} (h : Fr w g base L N) (hb : base ≤ w.heap.size) (a n : Int) (ok : GiveOk L N a n) :
    Calls Try.prog 49 #[.pointer (some ⟨g, 0, none⟩), .int .i64 a, .int .i64 n] w (Given w g base L N a n) := by
  obtain ⟨v, hv⟩ := h.fre
  have hsm := h.small
  obtain ⟨i, hi⟩ := lo_exists h.can.srt a
  obtain ⟨o1, o2, o3, o4⟩ := ok
  obtain ⟨m1, m2⟩ := (no_hit h.can hi o1).1 o4
  have hl : L.length < 70000 := by have := h.len; omega
  refine (give_yes hv h.can.srt hsm a n o1 o2 (by omega) (by omega) i hi m1 m2 hb hl).mono ?_
  rintro e w' ⟨rfl, hF, tk⟩
  obtain ⟨c1, c2⟩ := given_can h.can hi.le o2 o1 (fun r h0 hr => by
    have e1 := nth_some L (i - 1) (by have := hi.le; omega)
    rw [e1] at hr; injection hr with hr; rw [← hr]; exact m2 h0) (fun s hs => by
    have hil := (List.getElem?_eq_some_iff.1 hs).1
    rw [nth_some L i hil] at hs; injection hs with hs; rw [← hs]; exact m1 hil)
  exact ⟨rfl, ⟨_, ⟨hF, c1, upto_of c1 c2 h.upto o3, hsm⟩, c2⟩, tk⟩
theorem give_no {w : World} {g base : Nat} {L : List Run} {N : Nat} (h : Fr w g base L N) (a n : Int) (no : ¬ GiveOk L N a n) :
    Calls Try.prog 49 #[.pointer (some ⟨g, 0, none⟩), .int .i64 a, .int .i64 n] w fun e w' => e = .returned (.bool false) ∧ Ext w w' := by
  obtain ⟨v, hv⟩ := h.fre
  have hsm := h.small
  by_cases hbad : n < 1 ∨ a < 0 ∨ (N : Int) < n ∨ (N : Int) - n < a
  · refine (give_bad hv hsm a n hbad).mono ?_
    rintro e w' ⟨rfl, rfl⟩
    exact ⟨rfl, Ext.refl _⟩
  · obtain ⟨i, hi⟩ := lo_exists h.can.srt a
    refine give_hit hv h.can.srt hsm a n (by omega) (by omega) (by omega) (by omega) i hi ?_
    by_cases c1 : i < L.length ∧ (nth L i).1 < a + n
    · exact .inl c1
    · refine .inr ?_
      by_cases c2 : 0 < i ∧ a < (nth L (i - 1)).1 + (nth L (i - 1)).2
      · exact c2
      · refine absurd ⟨by omega, by omega, by omega, ?_⟩ no
        refine (no_hit h.can hi (by omega)).2 ⟨fun hl => ?_, fun h0 => ?_⟩
        · rcases Int.lt_or_le (nth L i).1 (a + n) with h2 | h2
          · exact absurd ⟨hl, h2⟩ c1
          · exact h2
        · rcases Int.lt_or_le a ((nth L (i - 1)).1 + (nth L (i - 1)).2) with h2 | h2
          · exact absurd ⟨h0, h2⟩ c2
          · exact h2
end Go.Proofs.Ytjpalcejmloocaa.Free
