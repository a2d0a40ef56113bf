/-
  Plain facts for FreeJoins (chapter 4).
-/
import Derived.Test.YtiffoapjhkapfaaFree10
namespace Go.Proofs.Ytiffoapjhkapfaa.Free
open Go.RowKit Go.Proofs.Ytiffoapjhkapfaa.Plain
set_option linter.unusedVariables false

/-! ### plain -/
def tailL (p N : Nat) : List Run := if p < N then [((p : Int), (N : Int) - (p : Int))] else []
theorem tail_take (p n N : Nat) (h : p + n ≤ N) (hn : 1 ≤ n) : bst (tailL p N) n (tailL p N).length = some 0 ∧ takeAt (tailL p N) 0 n = tailL (p + n) N ∧ nth (tailL p N) 0 = ((p : Int), (N : Int) - (p : Int)) := by
  have e : tailL p N = [((p : Int), (N : Int) - (p : Int))] := if_pos (by omega)
  rw [e]
  refine ⟨?_, ?_, rfl⟩
  · show (match (none : Option Nat) with | none => if (n : Int) ≤ (N : Int) - (p : Int) then some 0 else none | some b => some b) = _
    simp only
    rw [if_pos (by omega)]
  · rw [takeAt_zero]
    unfold tailL
    by_cases h2 : p + n < N
    · rw [if_neg (by show ¬ (N : Int) - (p : Int) = n; omega), if_pos h2]
      show [((p : Int) + (n : Int), (N : Int) - (p : Int) - (n : Int))] = _
      rw [show (p : Int) + (n : Int) = ((p + n : Nat) : Int) from by omega, show (N : Int) - (p : Int) - (n : Int) = (N : Int) - ((p + n : Nat) : Int) from by omega]
    · rw [if_pos (by show (N : Int) - (p : Int) = n; omega), if_neg h2]
/-- in which order they are given back -/
def ordJ (k c i : Nat) : Nat := if k % 7 = 0 then (i + c) % k else (i * 7 + c) % k
theorem ordJ_lt {k c i : Nat} (hk : 0 < k) : ordJ k c i < k := by unfold ordJ; split <;> exact Nat.mod_lt _ hk
def ordOk (k : Nat) : Bool := (List.range k).all fun c => (List.range k).all fun i => (List.range k).all fun i' => (i == i' || ordJ k c i != ordJ k c i')
def ordAll (k : Nat) : Bool := (List.range k).all fun c => (List.range k).all fun j => (List.range k).any fun i => ordJ k c i == j
theorem ords : (List.range 21).all (fun k => ordOk k && ordAll k) = true := by decide +kernel
theorem ordJ_inj {k c i i' : Nat} (hk : k ≤ 20) (hc : c < k) (hi : i < k) (hi' : i' < k) (h : ordJ k c i = ordJ k c i') : i = i' := by
  have h1 := List.all_eq_true.1 ords k (List.mem_range.2 (by omega))
  rw [Bool.and_eq_true] at h1
  have h2 := List.all_eq_true.1 (List.all_eq_true.1 (List.all_eq_true.1 h1.1 c (List.mem_range.2 hc)) i (List.mem_range.2 hi)) i' (List.mem_range.2 hi')
  rw [Bool.or_eq_true] at h2
  rcases h2 with h2 | h2
  · exact beq_iff_eq.1 h2
  · rw [h] at h2; simp at h2
theorem ordJ_sur {k c j : Nat} (hk : k ≤ 20) (hc : c < k) (hj : j < k) : ∃ i, i < k ∧ ordJ k c i = j := by
  have h1 := List.all_eq_true.1 ords k (List.mem_range.2 (by omega))
  rw [Bool.and_eq_true] at h1
  obtain ⟨i, hi, h2⟩ := List.any_eq_true.1 (List.all_eq_true.1 (List.all_eq_true.1 h1.2 c (List.mem_range.2 hc)) j (List.mem_range.2 hj))
  exact ⟨i, List.mem_range.1 hi, beq_iff_eq.1 h2⟩
/-- the words that are free behind so many rounds -/
def wordsAt (k m c stay i : Nat) (x : Int) : Prop := ∃ t, t < i ∧ ordJ k c t ≠ stay ∧ ((ordJ k c t * m : Nat) : Int) ≤ x ∧ x < ((ordJ k c t * m + m : Nat) : Int)
theorem mul_lt_apart {a b m : Nat} (h : a < b) : a * m + m ≤ b * m := by
  have := Nat.mul_le_mul_right m (show a + 1 ≤ b from h)
  rw [Nat.add_mul] at this; omega
theorem block_in {j k m : Nat} (h : j < k) : j * m + m ≤ k * m := mul_lt_apart h
theorem block_eq {a b m : Nat} {x : Int} (h1 : ((a * m : Nat) : Int) ≤ x) (h2 : x < ((a * m + m : Nat) : Int)) (h3 : ((b * m : Nat) : Int) ≤ x) (h4 : x < ((b * m + m : Nat) : Int)) : a = b := by
  rcases Nat.lt_trichotomy a b with h | h | h
  · have := mul_lt_apart (m := m) h; omega
  · exact h
  · have := mul_lt_apart (m := m) h; omega
theorem joins_ok {L : List Run} {k m c stay i : Nat} (hk : k ≤ 20) (hc : c < k) (hi : i < k) (hm : 1 ≤ m) (hh : ∀ x, has L x ↔ wordsAt k m c stay i x) : GiveOk L (k * m) ((ordJ k c i * m : Nat) : Int) (m : Int) := by
  have hb := block_in (m := m) (ordJ_lt (k := k) (c := c) (i := i) (by omega))
  refine ⟨by omega, by omega, by omega, fun x h1 h2 h3 => ?_⟩
  obtain ⟨t, ht, _, h4, h5⟩ := (hh x).1 h3
  have := ordJ_inj hk hc (by omega) hi (block_eq h4 h5 h1 (by omega))
  omega
theorem joins_step {L L' : List Run} {k m c stay i : Nat} (hs : ordJ k c i ≠ stay) (hh : ∀ x, has L x ↔ wordsAt k m c stay i x) (h' : ∀ x, has L' x ↔ has L x ∨ (((ordJ k c i * m : Nat) : Int) ≤ x ∧ x < ((ordJ k c i * m : Nat) : Int) + (m : Int))) (x : Int) : has L' x ↔ wordsAt k m c stay (i + 1) x := by
  rw [h', hh]
  constructor
  · rintro (⟨t, ht, h⟩ | h)
    · exact ⟨t, by omega, h⟩
    · exact ⟨i, by omega, hs, h.1, by omega⟩
  · rintro ⟨t, ht, h0, h1, h2⟩
    rcases Nat.lt_or_ge t i with h3 | h3
    · exact .inl ⟨t, h3, h0, h1, h2⟩
    · obtain rfl : t = i := by omega
      exact .inr ⟨h1, by omega⟩
theorem joins_skip {L : List Run} {k m c stay i : Nat} (hs : ordJ k c i = stay) (hh : ∀ x, has L x ↔ wordsAt k m c stay i x) (x : Int) : has L x ↔ wordsAt k m c stay (i + 1) x := by
  rw [hh]
  constructor
  · rintro ⟨t, ht, h⟩
    exact ⟨t, by omega, h⟩
  · rintro ⟨t, ht, h0, h⟩
    rcases Nat.lt_or_ge t i with h3 | h3
    · exact ⟨t, h3, h0, h⟩
    · obtain rfl : t = i := by omega
      exact absurd hs h0
/-- what is free at the end: all but one -/
def twoL (k m stay : Nat) : List Run := (if 0 < stay then [((0 : Int), ((stay * m : Nat) : Int))] else []) ++ (if stay + 1 < k then [((((stay + 1) * m : Nat) : Int), (((k - 1 - stay) * m : Nat) : Int))] else [])
theorem in_block {x : Int} {m k : Nat} (h0 : 0 ≤ x) (h1 : x < ((k * m : Nat) : Int)) (hm : 1 ≤ m) : ∃ j, j < k ∧ ((j * m : Nat) : Int) ≤ x ∧ x < ((j * m + m : Nat) : Int) := by
  obtain ⟨n, rfl⟩ := Int.eq_ofNat_of_zero_le h0
  have hd := Nat.div_add_mod n m
  have hl := Nat.mod_lt n (show 0 < m by omega)
  rw [Nat.mul_comm] at hd
  refine ⟨n / m, ?_, by omega, by omega⟩
  apply Nat.div_lt_of_lt_mul
  rw [Nat.mul_comm]
  omega
theorem two_can (k m stay : Nat) (hm : 1 ≤ m) (hs : stay < k) : Can 0 (twoL k m stay) := by
  unfold twoL
  have e1 : (stay + 1) * m = stay * m + m := Nat.succ_mul _ _
  have p1 : 0 < stay → 1 ≤ stay * m := fun h => Nat.mul_pos h hm
  have p2 : stay + 1 < k → 1 ≤ (k - 1 - stay) * m := fun h => Nat.mul_pos (by omega) hm
  by_cases h1 : 0 < stay <;> by_cases h2 : stay + 1 < k
  · rw [if_pos h1, if_pos h2]
    have := p1 h1; have := p2 h2
    exact ⟨Int.le_refl _, by show (1 : Int) ≤ ((stay * m : Nat) : Int); omega, by show (0 : Int) + ((stay * m : Nat) : Int) + 1 ≤ (((stay + 1) * m : Nat) : Int); omega, by show (1 : Int) ≤ (((k - 1 - stay) * m : Nat) : Int); omega, trivial⟩
  · rw [if_pos h1, if_neg h2]
    have := p1 h1
    exact ⟨Int.le_refl _, by show (1 : Int) ≤ ((stay * m : Nat) : Int); omega, trivial⟩
  · rw [if_neg h1, if_pos h2]
    have := p2 h2
    exact ⟨by show (0 : Int) ≤ (((stay + 1) * m : Nat) : Int); omega, by show (1 : Int) ≤ (((k - 1 - stay) * m : Nat) : Int); omega, trivial⟩
  · rw [if_neg h1, if_neg h2]
    trivial
theorem two_has (k m stay : Nat) (hs : stay < k) (x : Int) : has (twoL k m stay) x ↔ (0 ≤ x ∧ x < ((stay * m : Nat) : Int)) ∨ (((stay * m + m : Nat) : Int) ≤ x ∧ x < ((k * m : Nat) : Int)) := by
  unfold twoL
  have e1 : (stay + 1) * m = stay * m + m := Nat.succ_mul _ _
  have e2 : k * m = stay * m + m + (k - 1 - stay) * m := by
    conv => lhs; rw [show k = stay + 1 + (k - 1 - stay) from by omega]
    rw [Nat.add_mul, e1]
  have z := has_nil x
  rw [has_append]
  have q1 : has (if 0 < stay then [((0 : Int), ((stay * m : Nat) : Int))] else []) x ↔ (0 ≤ x ∧ x < ((stay * m : Nat) : Int)) := by
    by_cases h1 : 0 < stay
    · rw [if_pos h1, has_cons]
      constructor
      · rintro (h | h)
        · have h : 0 ≤ x ∧ x < 0 + ((stay * m : Nat) : Int) := h
          omega
        · exact absurd h z
      · exact fun h => .inl ⟨h.1, by show x < 0 + ((stay * m : Nat) : Int); omega⟩
    · rw [if_neg h1]
      obtain rfl : stay = 0 := by omega
      exact ⟨fun h => absurd h z, fun h => by simp at h; omega⟩
  have q2 : has (if stay + 1 < k then [((((stay + 1) * m : Nat) : Int), (((k - 1 - stay) * m : Nat) : Int))] else []) x ↔ (((stay * m + m : Nat) : Int) ≤ x ∧ x < ((k * m : Nat) : Int)) := by
    by_cases h2 : stay + 1 < k
    · rw [if_pos h2, has_cons]
      constructor
      · rintro (h | h)
        · have h : (((stay + 1) * m : Nat) : Int) ≤ x ∧ x < (((stay + 1) * m : Nat) : Int) + (((k - 1 - stay) * m : Nat) : Int) := h
          omega
        · exact absurd h z
      · exact fun h => .inl ⟨by show (((stay + 1) * m : Nat) : Int) ≤ x; omega, by show x < (((stay + 1) * m : Nat) : Int) + (((k - 1 - stay) * m : Nat) : Int); omega⟩
    · rw [if_neg h2]
      have : (k - 1 - stay) * m = 0 := by rw [show k - 1 - stay = 0 from by omega, Nat.zero_mul]
      exact ⟨fun h => absurd h z, fun h => by omega⟩
  rw [q1, q2]
theorem joins_end {L : List Run} {k m c stay : Nat} (hk : k ≤ 20) (hc : c < k) (hm : 1 ≤ m) (hs : stay < k) (hL : Can 0 L) (hh : ∀ x, has L x ↔ wordsAt k m c stay k x) : L = twoL k m stay := by
  refine can_unique _ _ 0 0 hL (two_can k m stay hm hs) (fun x => ?_)
  rw [hh, two_has k m stay hs]
  have sb := block_in (m := m) hs
  constructor
  · rintro ⟨t, ht, h0, h1, h2⟩
    have hj := ordJ_lt (k := k) (c := c) (i := t) (by omega)
    have hb := block_in (m := m) hj
    rcases Nat.lt_trichotomy (ordJ k c t) stay with h | h | h
    · have := mul_lt_apart (m := m) h; exact .inl (by omega)
    · exact absurd h h0
    · have := mul_lt_apart (m := m) h; exact .inr (by omega)
  · intro hx
    obtain ⟨j, hj, h1, h2⟩ := in_block (x := x) (m := m) (k := k) (by omega) (by omega) hm
    obtain ⟨t, ht, e⟩ := ordJ_sur hk hc hj
    refine ⟨t, ht, ?_, by rw [e]; exact h1, by rw [e]; exact h2⟩
    rw [e]
    rintro rfl
    omega
theorem two_len (k m stay : Nat) : ((twoL k m stay).length : Int) = (if 0 < stay then 1 else 0) + (if stay + 1 < k then 1 else 0) := by
  unfold twoL
  by_cases h1 : 0 < stay <;> by_cases h2 : stay + 1 < k <;> simp [h1, h2]
theorem two_words (k m stay : Nat) (hs : stay < k) : wordsL (twoL k m stay) = ((k - 1) * m : Nat) := by
  have e2 : (k - 1) * m = stay * m + (k - 1 - stay) * m := by rw [← Nat.add_mul]; congr 1; omega
  unfold twoL
  by_cases h1 : 0 < stay <;> by_cases h2 : stay + 1 < k
  · rw [if_pos h1, if_pos h2]
    show (0 : Int) + ((stay * m : Nat) : Int) + (((k - 1 - stay) * m : Nat) : Int) = _
    omega
  · rw [if_pos h1, if_neg h2]
    have : (k - 1 - stay) * m = 0 := by rw [show k - 1 - stay = 0 from by omega, Nat.zero_mul]
    show (0 : Int) + ((stay * m : Nat) : Int) = _
    omega
  · rw [if_neg h1, if_pos h2]
    have : stay * m = 0 := by rw [show stay = 0 from by omega, Nat.zero_mul]
    show (0 : Int) + (((k - 1 - stay) * m : Nat) : Int) = _
    omega
  · rw [if_neg h1, if_neg h2]
    have : (k - 1) * m = 0 := by rw [show k - 1 = 0 from by omega, Nat.zero_mul]
    show (0 : Int) = _
    omega
theorem two_long (k m stay X : Nat) (hs : stay < k) (hX : X = if stay < k - 1 - stay then k - 1 - stay else stay) (hm : 1 ≤ m) : longL (twoL k m stay) = (X * m : Nat) := by
  have p1 : 0 < stay → 1 ≤ stay * m := fun h => Nat.mul_pos h hm
  have p2 : stay + 1 < k → 1 ≤ (k - 1 - stay) * m := fun h => Nat.mul_pos (by omega) hm
  have c1 : stay < k - 1 - stay → stay * m + m ≤ (k - 1 - stay) * m := fun h => mul_lt_apart h
  have c2 : k - 1 - stay ≤ stay → (k - 1 - stay) * m ≤ stay * m := fun h => Nat.mul_le_mul_right m h
  subst hX
  unfold twoL
  by_cases h1 : 0 < stay <;> by_cases h2 : stay + 1 < k
  · rw [if_pos h1, if_pos h2]
    have := p1 h1; have := p2 h2
    show (if (if (0 : Int) < ((stay * m : Nat) : Int) then ((stay * m : Nat) : Int) else 0) < (((k - 1 - stay) * m : Nat) : Int) then (((k - 1 - stay) * m : Nat) : Int) else (if (0 : Int) < ((stay * m : Nat) : Int) then ((stay * m : Nat) : Int) else 0)) = _
    rw [if_pos (show (0 : Int) < ((stay * m : Nat) : Int) by omega)]
    by_cases h3 : stay < k - 1 - stay
    · have := c1 h3; rw [if_pos h3, if_pos (by omega)]
    · have := c2 (by omega); rw [if_neg h3, if_neg (by omega)]
  · rw [if_pos h1, if_neg h2]
    have := p1 h1
    show (if (0 : Int) < ((stay * m : Nat) : Int) then ((stay * m : Nat) : Int) else 0) = _
    rw [if_pos (by omega), if_neg (by omega)]
  · rw [if_neg h1, if_pos h2]
    have := p2 h2
    show (if (0 : Int) < (((k - 1 - stay) * m : Nat) : Int) then (((k - 1 - stay) * m : Nat) : Int) else 0) = _
    rw [if_pos (by omega), if_pos (by omega)]
  · rw [if_neg h1, if_neg h2]
    show (0 : Int) = _
    rw [if_neg (by omega), show stay = 0 from by omega, Nat.zero_mul]; rfl
theorem two_give (k m stay : Nat) (hm : 1 ≤ m) (hs : stay < k) : GiveOk (twoL k m stay) (k * m) ((stay * m : Nat) : Int) (m : Int) := by
  have := block_in (m := m) hs
  refine ⟨by omega, by omega, by omega, fun x h1 h2 h3 => ?_⟩
  rcases (two_has k m stay hs x).1 h3 with h | h <;> omega
theorem two_all {L : List Run} (k m stay : Nat) (hm : 1 ≤ m) (hs : stay < k) (hL : Can 0 L) (hh : ∀ x, has L x ↔ has (twoL k m stay) x ∨ (((stay * m : Nat) : Int) ≤ x ∧ x < ((stay * m : Nat) : Int) + (m : Int))) : L = allL (k * m) := by
  have sb := block_in (m := m) hs
  refine can_unique _ _ 0 0 hL (all_can _).1 (fun x => ?_)
  rw [hh, two_has k m stay hs, all_has]
  omega
end Go.Proofs.Ytiffoapjhkapfaa.Free
