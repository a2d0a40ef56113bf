/-
  Plain facts on runs of free words (chapter 4): lists of runs in order, none beside another; taking and giving back. No program in sight.
-/
import Derived.WalkKit
namespace Go.Proofs.Ytiffoapjhkapfaa.Free

abbrev Run := Int × Int
def Can : Int → List Run → Prop
  | _, [] => True
  | lo, r :: L => lo ≤ r.1 ∧ 1 ≤ r.2 ∧ Can (r.1 + r.2 + 1) L
def Weak : Int → List Run → Prop
  | _, [] => True
  | lo, r :: L => lo ≤ r.1 ∧ 1 ≤ r.2 ∧ Weak (r.1 + r.2) L
def has (L : List Run) (k : Int) : Prop := ∃ r ∈ L, r.1 ≤ k ∧ k < r.1 + r.2
def Upto (N : Int) (L : List Run) : Prop := ∀ r ∈ L, r.1 + r.2 ≤ N

theorem Can.mono {lo lo' : Int} {L : List Run} (h : Can lo L) (hl : lo' ≤ lo) : Can lo' L := by
  cases L with
  | nil => trivial
  | cons r L => exact ⟨Int.le_trans hl h.1, h.2.1, h.2.2⟩
theorem Can.weak {lo : Int} {L : List Run} (h : Can lo L) : Weak lo L := by
  induction L generalizing lo with
  | nil => trivial
  | cons r L ih => exact ⟨h.1, h.2.1, ih (h.2.2.mono (by omega))⟩
theorem Weak.mono {lo lo' : Int} {L : List Run} (h : Weak lo L) (hl : lo' ≤ lo) : Weak lo' L := by
  cases L with
  | nil => trivial
  | cons r L => exact ⟨Int.le_trans hl h.1, h.2.1, h.2.2⟩
theorem has_nil (k : Int) : ¬ has [] k := by rintro ⟨r, h, _⟩; cases h
theorem has_cons (r : Run) (L : List Run) (k : Int) : has (r :: L) k ↔ (r.1 ≤ k ∧ k < r.1 + r.2) ∨ has L k := by
  constructor
  · rintro ⟨s, hs, h⟩
    rcases List.mem_cons.1 hs with rfl | hs
    · exact .inl h
    · exact .inr ⟨s, hs, h⟩
  · rintro (h | ⟨s, hs, h⟩)
    · exact ⟨r, List.mem_cons_self, h⟩
    · exact ⟨s, List.mem_cons_of_mem _ hs, h⟩
theorem has_append (L M : List Run) (k : Int) : has (L ++ M) k ↔ has L k ∨ has M k := by
  constructor
  · rintro ⟨s, hs, h⟩
    rcases List.mem_append.1 hs with hs | hs
    · exact .inl ⟨s, hs, h⟩
    · exact .inr ⟨s, hs, h⟩
  · rintro (⟨s, hs, h⟩ | ⟨s, hs, h⟩)
    · exact ⟨s, List.mem_append_left _ hs, h⟩
    · exact ⟨s, List.mem_append_right _ hs, h⟩
theorem Weak.ge {lo : Int} {L : List Run} (h : Weak lo L) {r : Run} (hr : r ∈ L) : lo ≤ r.1 ∧ 1 ≤ r.2 := by
  induction L generalizing lo with
  | nil => cases hr
  | cons s L ih =>
    rcases List.mem_cons.1 hr with rfl | hr
    · exact ⟨h.1, h.2.1⟩
    · have := ih h.2.2 hr; have := h.1; have := h.2.1; omega
theorem Weak.has_ge {lo : Int} {L : List Run} (h : Weak lo L) {k : Int} (hk : has L k) : lo ≤ k := by
  obtain ⟨r, hr, h1, h2⟩ := hk
  have := (h.ge hr).1
  omega
/-- two lists with the same words are one -/
theorem can_unique : ∀ (L M : List Run) (lo lo' : Int), Can lo L → Can lo' M → (∀ k, has L k ↔ has M k) → L = M
  | [], [], _, _, _, _, _ => rfl
  | [], s :: M, _, _, _, hM, h => absurd ((h s.1).2 ((has_cons s M s.1).2 (.inl ⟨Int.le_refl _, by have := hM.2.1; omega⟩))) (has_nil _)
  | r :: L, [], _, _, hL, _, h => absurd ((h r.1).1 ((has_cons r L r.1).2 (.inl ⟨Int.le_refl _, by have := hL.2.1; omega⟩))) (has_nil _)
  | r :: L, s :: M, lo, lo', hL, hM, h => by
    have r1 := hL.2.1
    have s1 := hM.2.1
    have gL : ∀ k, has L k → r.1 + r.2 + 1 ≤ k := fun k hk => hL.2.2.weak.has_ge hk
    have gM : ∀ k, has M k → s.1 + s.2 + 1 ≤ k := fun k hk => hM.2.2.weak.has_ge hk
    have inL : ∀ k, has (s :: M) k → (r.1 ≤ k ∧ k < r.1 + r.2) ∨ r.1 + r.2 + 1 ≤ k := fun k hk => by
      rcases (has_cons r L k).1 ((h k).2 hk) with h1 | h1
      · exact .inl h1
      · exact .inr (gL k h1)
    have inM : ∀ k, has (r :: L) k → (s.1 ≤ k ∧ k < s.1 + s.2) ∨ s.1 + s.2 + 1 ≤ k := fun k hk => by
      rcases (has_cons s M k).1 ((h k).1 hk) with h1 | h1
      · exact .inl h1
      · exact .inr (gM k h1)
    have a1 := inM r.1 ((has_cons r L _).2 (.inl ⟨Int.le_refl _, by omega⟩))
    have a2 := inL s.1 ((has_cons s M _).2 (.inl ⟨Int.le_refl _, by omega⟩))
    have e1 : r.1 = s.1 := by omega
    have b1 := inM (r.1 + r.2 - 1) ((has_cons r L _).2 (.inl ⟨by omega, by omega⟩))
    have b2 := inL (s.1 + s.2 - 1) ((has_cons s M _).2 (.inl ⟨by omega, by omega⟩))
    have c1 : r.2 < s.2 → False := fun hlt => by
      have := inL (r.1 + r.2) ((has_cons s M _).2 (.inl ⟨by omega, by omega⟩)); omega
    have c2 : s.2 < r.2 → False := fun hlt => by
      have := inM (s.1 + s.2) ((has_cons r L _).2 (.inl ⟨by omega, by omega⟩)); omega
    have e2 : r.2 = s.2 := by
      rcases Int.lt_trichotomy r.2 s.2 with h | h | h
      · exact (c1 h).elim
      · exact h
      · exact (c2 h).elim
    have e : r = s := Prod.ext e1 e2
    subst e
    rw [can_unique L M _ _ hL.2.2 hM.2.2 (fun k => by
      constructor
      · intro hk
        have := gL k hk
        rcases (has_cons r M k).1 ((h k).1 ((has_cons r L k).2 (.inr hk))) with h1 | h1
        · omega
        · exact h1
      · intro hk
        have := gM k hk
        rcases (has_cons r L k).1 ((h k).2 ((has_cons r M k).2 (.inr hk))) with h1 | h1
        · omega
        · exact h1)]
/-! ### gaps -/
def GapAt (L : List Run) (j : Nat) : Prop := ∀ r s, L[j]? = some r → L[j + 1]? = some s → r.1 + r.2 < s.1
theorem can_of_gaps : ∀ (L : List Run) (lo : Int), Weak lo L → (∀ j, GapAt L j) → Can lo L
  | [], _, _, _ => trivial
  | r :: L, lo, h, g => by
    refine ⟨h.1, h.2.1, can_of_gaps L _ ?_ (fun j => g (j + 1))⟩
    cases L with
    | nil => trivial
    | cons s L =>
      have := g 0 r s rfl rfl
      exact ⟨by omega, h.2.2.2.1, h.2.2.2.2⟩
theorem Can.gap {lo : Int} {L : List Run} (h : Can lo L) (j : Nat) : GapAt L j := by
  induction L generalizing lo j with
  | nil => intro r s hr; simp at hr
  | cons a L ih =>
    rcases j with _ | j
    · intro r s hr hs
      simp at hr hs
      subst hr
      cases L with
      | nil => simp at hs
      | cons b L => simp at hs; subst hs; have := h.2.2.1; omega
    · intro r s hr hs
      exact ih h.2.2 j r s (by simpa using hr) (by simpa using hs)
/-! ### joining -/
def mergeAt (L : List Run) (i : Nat) : List Run :=
  match L[i]?, L[i + 1]? with
  | some r, some s => L.take i ++ (r.1, r.2 + s.2) :: L.drop (i + 2)
  | _, _ => L
def joinLoop (L : List Run) (i last : Nat) : List Run :=
  if h : i < last then
    match L[i]?, L[i + 1]? with
    | some r, some s => if r.1 + r.2 = s.1 then joinLoop (mergeAt L i) i (last - 1) else joinLoop L (i + 1) last
    | _, _ => L
  else L
  termination_by last - i
end Go.Proofs.Ytiffoapjhkapfaa.Free
