/-
  Plain facts on runs of free words (chapter 4): lists of runs in order, none beside another; taking and giving back. No program in sight.
-/
import Derived.WalkKit
namespace Go.Proofs.Ytjpalcejmloocaa.Free

abbrev Run := Int × Int
def Can : Int → List Run → Prop
  | _, [] => True
  | lo, r :: L => lo ≤ r.1 ∧ 1 ≤ r.2 ∧ Can (r.1 + r.2 + 1) L
def Weak : Int → List Run → Prop
  | _, [] => True
  | lo, r :: L => lo ≤ r.1 ∧ 1 ≤ r.2 ∧ Weak (r.1 + r.2) L
def has (L : List Run) (k : Int) : Prop := ∃ r ∈ L, r.1 ≤ k ∧ k < r.1 + r.2
def Upto (N : Int) (L : List Run) : Prop := ∀ r ∈ L, r.1 + r.2 ≤ N

theorem Can.mono {lo lo' : Int} {L : List Run} (h : Can lo L) (hl : lo' ≤ lo) : Can lo' L := by
  cases L with
  | nil => trivial
  | cons r L => exact ⟨Int.le_trans hl h.1, h.2.1, h.2.2⟩
theorem Can.weak {lo : Int} {L : List Run} (h : Can lo L) : Weak lo L := by
  induction L generalizing lo with
  | nil => trivial
  | cons r L ih => exact ⟨h.1, h.2.1, ih (h.2.2.mono (by omega))⟩
theorem Weak.mono {lo lo' : Int} {L : List Run} (h : Weak lo L) (hl : lo' ≤ lo) : Weak lo' L := by
  cases L with
  | nil => trivial
  | cons r L => exact ⟨Int.le_trans hl h.1, h.2.1, h.2.2⟩
theorem has_nil (k : Int) : ¬ has [] k := by rintro ⟨r, h, _⟩; cases h
theorem has_cons (r : Run) (L : List Run) (k : Int) : has (r :: L) k ↔ (r.1 ≤ k ∧ k < r.1 + r.2) ∨ has L k := by
  constructor
  · rintro ⟨s, hs, h⟩
    rcases List.mem_cons.1 hs with rfl | hs
    · exact .inl h
    · exact .inr ⟨s, hs, h⟩
  · rintro (h | ⟨s, hs, h⟩)
    · exact ⟨r, List.mem_cons_self, h⟩
    · exact ⟨s, List.mem_cons_of_mem _ hs, h⟩
theorem has_append (L M : List Run) (k : Int) : has (L ++ M) k ↔ has L k ∨ has M k := by
  constructor
  · rintro ⟨s, hs, h⟩
    rcases List.mem_append.1 hs with hs | hs
    · exact .inl ⟨s, hs, h⟩
    · exact .inr ⟨s, hs, h⟩
  · rintro (⟨s, hs, h⟩ | ⟨s, hs, h⟩)
    · exact ⟨s, List.mem_append_left _ hs, h⟩
    · exact ⟨s, List.mem_append_right _ hs, h⟩
theorem Weak.ge {lo : Int} {L : List Run} (h : Weak lo L) {r : Run} (hr : r ∈ L) : lo ≤ r.1 ∧ 1 ≤ r.2 := by
  induction L generalizing lo with
  | nil => cases hr
  | cons s L ih =>
    rcases List.mem_cons.1 hr with rfl | hr
    · exact ⟨h.1, h.2.1⟩
    · have := ih h.2.2 hr; have := h.1; have := h.2.1; omega
theorem Weak.has_ge {lo : Int} {L : List Run} (h : Weak lo L) {k : Int} (hk : has L k) : lo ≤ k := by
  obtain ⟨r, hr, h1, h2⟩ := hk
  have := (h.ge hr).1
  omega
/-- two lists with the same words are one -/
theorem can_unique : ∀ (L M : List Run) (lo lo' : Int), Can lo L → Can lo' M → (∀ k, has L k ↔ has M k) → L = M
  | [], [], _, _, _, _, _ => rfl
  | [], s :: M, _, _, _, hM, h => absurd ((h s.1).2 ((has_cons s M s.1).2 (.inl ⟨Int.le_refl _, by have := hM.2.1; omega⟩))) (has_nil _)
  | r :: L, [], _, _, hL, _, h => absurd ((h r.1).1 ((has_cons r L r.1).2 (.inl ⟨Int.le_refl _, by have := hL.2.1; omega⟩))) (has_nil _)
  | r :: L, s :: M, lo, lo', hL, hM, h => by
    have r1 := hL.2.1
    have s1 := hM.2.1
    have gL : ∀ k, has L k → r.1 + r.2 + 1 ≤ k := fun k hk => hL.2.2.weak.has_ge hk
    have gM : ∀ k, has M k → s.1 + s.2 + 1 ≤ k := fun k hk => hM.2.2.weak.has_ge hk
    have inL : ∀ k, has (s :: M) k → (r.1 ≤ k ∧ k < r.1 + r.2) ∨ r.1 + r.2 + 1 ≤ k := fun k hk => by
      rcases (has_cons r L k).1 ((h k).2 hk) with h1 | h1
      · exact .inl h1
      · exact .inr (gL k h1)
    have inM : ∀ k, has (r :: L) k → (s.1 ≤ k ∧ k < s.1 + s.2) ∨ s.1 + s.2 + 1 ≤ k := fun k hk => by
      rcases (has_cons s M k).1 ((h k).1 hk) with h1 | h1
      · exact .inl h1
      · exact .inr (gM k h1)
    have a1 := inM r.1 ((has_cons r L _).2 (.inl ⟨Int.le_refl _, by omega⟩))
    have a2 := inL s.1 ((has_cons s M _).2 (.inl ⟨Int.le_refl _, by omega⟩))
    have e1 : r.1 = s.1 := by omega
    have b1 := inM (r.1 + r.2 - 1) ((has_cons r L _).2 (.inl ⟨by omega, by omega⟩))
    have b2 := inL (s.1 + s.2 - 1) ((has_cons s M _).2 (.inl ⟨by omega, by omega⟩))
    have c1 : r.2 < s.2 → False := fun hlt => by
      have := inL (r.1 + r.2) ((has_cons s M _).2 (.inl ⟨by omega, by omega⟩)); omega
    have c2 : s.2 < r.2 → False := fun hlt => by
      have := inM (s.1 + s.2) ((has_cons r L _).2 (.inl ⟨by omega, by omega⟩)); omega
    have e2 : r.2 = s.2 := by
      rcases Int.lt_trichotomy r.2 s.2 with h | h | h
      · exact (c1 h).elim
      · exact h
      · exact (c2 h).elim
    have e : r = s := Prod.ext e1 e2
    subst e
    rw [can_unique L M _ _ hL.2.2 hM.2.2 (fun k => by
      constructor
      · intro hk
        have := gL k hk
        rcases (has_cons r M k).1 ((h k).1 ((has_cons r L k).2 (.inr hk))) with h1 | h1
        · omega
        · exact h1
      · intro hk
        have := gM k hk
        rcases (has_cons r L k).1 ((h k).2 ((has_cons r M k).2 (.inr hk))) with h1 | h1
        · omega
        · exact h1)]
/-! ### gaps -/
def GapAt (L : List Run) (j : Nat) : Prop := ∀ r s, L[j]? = some r → L[j + 1]? = some s → r.1 + r.2 < s.1
theorem can_of_gaps : ∀ (L : List Run) (lo : Int), Weak lo L → (∀ j, GapAt L j) → Can lo L
  | [], _, _, _ => trivial
  | r :: L, lo, h, g => by
    refine ⟨h.1, h.2.1, can_of_gaps L _ ?_ (fun j => g (j + 1))⟩
    cases L with
    | nil => trivial
    | cons s L =>
      have := g 0 r s rfl rfl
      exact ⟨by omega, h.2.2.2.1, h.2.2.2.2⟩
theorem Can.gap {lo : Int} {L : List Run} (h : Can lo L) (j : Nat) : GapAt L j := by
  induction L generalizing lo j with
  | nil => intro r s hr; simp at hr
  | cons a L ih =>
    rcases j with _ | j
    · intro r s hr hs
      simp at hr hs
      subst hr
      cases L with
      | nil => simp at hs
      | cons b L => simp at hs; subst hs; have := h.2.2.1; omega
    · intro r s hr hs
      exact ih h.2.2 j r s (by simpa using hr) (by simpa using hs)
/-! ### joining -/
def mergeAt (L : List Run) (i : Nat) : List Run :=
  match L[i]?, L[i + 1]? with
  | some r, some s => L.take i ++ (r.1, r.2 + s.2) :: L.drop (i + 2)
  | _, _ => L
def joinLoop (L : List Run) (i last : Nat) : List Run :=
  if h : i < last then
    match L[i]?, L[i + 1]? with
    | some r, some s => if r.1 + r.2 = s.1 then joinLoop (mergeAt L i) i (last - 1) else joinLoop L (i + 1) last
    | _, _ => L
  else L
  termination_by last - i
theorem join_end (L : List Run) (i last : Nat) (h : ¬ i < last) : joinLoop L i last = L := by rw [joinLoop, dif_neg h]
theorem join_no (L : List Run) (i last : Nat) (r s : Run) (h : i < last) (hr : L[i]? = some r) (hs : L[i + 1]? = some s) (hne : ¬ r.1 + r.2 = s.1) : joinLoop L i last = joinLoop L (i + 1) last := by
  rw [joinLoop, dif_pos h]; simp only [hr, hs]; rw [if_neg hne]
theorem join_yes (L : List Run) (i last : Nat) (r s : Run) (h : i < last) (hr : L[i]? = some r) (hs : L[i + 1]? = some s) (he : r.1 + r.2 = s.1) : joinLoop L i last = joinLoop (mergeAt L i) i (last - 1) := by
  rw [joinLoop, dif_pos h]; simp only [hr, hs]; rw [if_pos he]
theorem merge_eq {L : List Run} {i : Nat} {r s : Run} (hr : L[i]? = some r) (hs : L[i + 1]? = some s) : mergeAt L i = L.take i ++ (r.1, r.2 + s.2) :: L.drop (i + 2) := by unfold mergeAt; rw [hr, hs]
theorem split2 {L : List Run} {i : Nat} {r s : Run} (hr : L[i]? = some r) (hs : L[i + 1]? = some s) : L = L.take i ++ r :: s :: L.drop (i + 2) := by
  obtain ⟨h1, e1⟩ := List.getElem?_eq_some_iff.1 hr
  obtain ⟨h2, e2⟩ := List.getElem?_eq_some_iff.1 hs
  conv => lhs; rw [← List.take_append_drop i L, List.drop_eq_getElem_cons h1, List.drop_eq_getElem_cons h2]
  rw [e1, e2]
def endOf : Int → List Run → Int
  | lo, [] => lo
  | _, r :: L => endOf (r.1 + r.2) L
theorem Weak.append {L M : List Run} {lo : Int} : Weak lo (L ++ M) ↔ Weak lo L ∧ Weak (endOf lo L) M := by
  induction L generalizing lo with
  | nil => simp [Weak, endOf]
  | cons r L ih =>
    simp only [List.cons_append, Weak, endOf]
    rw [ih]
    simp only [and_assoc]
theorem merge_weak {L : List Run} {lo : Int} {i : Nat} {r s : Run} (h : Weak lo L) (hr : L[i]? = some r) (hs : L[i + 1]? = some s) (he : r.1 + r.2 = s.1) : Weak lo (mergeAt L i) := by
  rw [merge_eq hr hs]
  rw [split2 hr hs] at h
  rw [Weak.append] at h ⊢
  refine ⟨h.1, ?_⟩
  obtain ⟨_, h1, h2, h3, h4, h5⟩ := h
  exact ⟨h1, by show 1 ≤ r.2 + s.2; omega, by show Weak (r.1 + (r.2 + s.2)) _; rw [show r.1 + (r.2 + s.2) = s.1 + s.2 from by omega]; exact h5⟩
theorem merge_has {L : List Run} {i : Nat} {r s : Run} (hr : L[i]? = some r) (hs : L[i + 1]? = some s) (he : r.1 + r.2 = s.1) (h0 : 1 ≤ r.2) (h1 : 1 ≤ s.2) (k : Int) : has (mergeAt L i) k ↔ has L k := by
  rw [merge_eq hr hs]
  conv => rhs; rw [split2 hr hs]
  simp only [has_append, has_cons]
  constructor
  · rintro (h | h | h)
    · exact .inl h
    · have h : r.1 ≤ k ∧ k < r.1 + (r.2 + s.2) := h
      by_cases hk : k < r.1 + r.2
      · exact .inr (.inl ⟨h.1, hk⟩)
      · exact .inr (.inr (.inl ⟨by omega, by omega⟩))
    · exact .inr (.inr (.inr h))
  · rintro (h | h | h | h)
    · exact .inl h
    · exact .inr (.inl ⟨h.1, by show k < r.1 + (r.2 + s.2); omega⟩)
    · exact .inr (.inl ⟨by show r.1 ≤ k; omega, by show k < r.1 + (r.2 + s.2); omega⟩)
    · exact .inr (.inr h)
theorem Weak.at {L : List Run} {lo : Int} (h : Weak lo L) {i : Nat} {r : Run} (hr : L[i]? = some r) : 1 ≤ r.2 := (h.ge (List.mem_of_getElem? hr)).2
theorem merge_at {L : List Run} {i : Nat} {r s : Run} (hr : L[i]? = some r) (hs : L[i + 1]? = some s) (j : Nat) : (mergeAt L i)[j]? = if j < i then L[j]? else if j = i then some (r.1, r.2 + s.2) else L[j + 1]? := by
  have hl : i + 1 < L.length := (List.getElem?_eq_some_iff.1 hs).1
  rw [merge_eq hr hs]
  by_cases h1 : j < i
  · rw [if_pos h1, List.getElem?_append_left (by simp; omega), List.getElem?_take_of_lt h1]
  · rw [if_neg h1, List.getElem?_append_right (by simp; omega), List.length_take, Nat.min_eq_left (by omega)]
    by_cases h2 : j = i
    · subst h2; rw [if_pos rfl]; simp
    · rw [if_neg h2, show j - i = (j - i - 1) + 1 from by omega, List.getElem?_cons_succ, List.getElem?_drop]
      congr 1; omega
/-- joining where there may be no gap gives runs that are never beside one another, and the same words -/
theorem join_can (L : List Run) (i last : Nat) (lo : Int) (hw : Weak lo L) (hg : ∀ j, (j < i ∨ last ≤ j) → GapAt L j) (hl : last < L.length ∨ last = 0) :
    Can lo (joinLoop L i last) ∧ ∀ k, has (joinLoop L i last) k ↔ has L k := by
  by_cases h : i < last
  · have hl' : last < L.length := by
      rcases hl with h1 | h1
      · exact h1
      · omega
    obtain ⟨r, hr⟩ : ∃ r, L[i]? = some r := ⟨_, List.getElem?_eq_getElem (by omega)⟩
    obtain ⟨s, hs⟩ : ∃ s, L[i + 1]? = some s := ⟨_, List.getElem?_eq_getElem (by omega)⟩
    by_cases he : r.1 + r.2 = s.1
    · rw [join_yes L i last r s h hr hs he]
      have r2 := hw.at hr
      have s2 := hw.at hs
      have hm := merge_at hr hs
      have ih := join_can (mergeAt L i) i (last - 1) lo (merge_weak hw hr hs he) (fun j hj a b ha hb => ?_) (.inl ?_)
      · exact ⟨ih.1, fun k => (ih.2 k).trans (merge_has hr hs he r2 s2 k)⟩
      · rw [hm] at ha hb
        rcases Nat.lt_trichotomy (j + 1) i with h1 | h1 | h1
        · rw [if_pos (by omega)] at ha
          rw [if_pos (by omega)] at hb
          exact hg j (.inl (by omega)) a b ha hb
        · rw [if_pos (by omega)] at ha
          rw [if_neg (by omega), if_pos h1] at hb
          injection hb with hb
          subst hb
          exact hg j (.inl (by omega)) a r ha (by rw [h1]; exact hr)
        · by_cases h2 : j = i
          · rw [if_neg (by omega), if_pos h2] at ha
            rw [if_neg (by omega), if_neg (by omega)] at hb
            injection ha with ha
            subst ha
            have := hg (i + 1) (.inr (by omega)) s b hs (by rw [← h2]; exact hb)
            show r.1 + (r.2 + s.2) < b.1
            omega
          · rw [if_neg (by omega), if_neg h2] at ha
            rw [if_neg (by omega), if_neg (by omega)] at hb
            exact hg (j + 1) (.inr (by omega)) a b ha hb
      · rw [merge_eq hr hs]; simp; omega
    · rw [join_no L i last r s h hr hs he]
      refine join_can L (i + 1) last lo hw (fun j hj => ?_) (.inl hl')
      rcases Nat.lt_trichotomy j i with h1 | h1 | h1
      · exact hg j (.inl h1)
      · intro a b ha hb
        subst h1
        rw [hr] at ha; rw [hs] at hb
        injection ha with ha; injection hb with hb
        subst ha; subst hb
        have : r.1 + r.2 ≤ s.1 := by
          rw [split2 hr hs, Weak.append] at hw
          exact hw.2.2.2.1
        omega
      · exact hg j (.inr (by omega))
  · rw [join_end L i last h]
    exact ⟨can_of_gaps L lo hw (fun j => hg j (by omega)), fun k => Iff.rfl⟩
  termination_by last - i
end Go.Proofs.Ytjpalcejmloocaa.Free
