/-
  Plain facts for FreeTakes (chapter 4); what is kept, by the types of the blocks that turn; an array of truths.
-/
import Derived.Test.YtjpalcejmloocaaFree10
namespace Go.Proofs.Ytjpalcejmloocaa.Free
open Go.RowKit Go.Proofs.Ytjpalcejmloocaa.Plain
set_option linter.unusedVariables false

/-! ### what is taken -/
def inR (r : Run) (x : Int) : Prop := r.1 ≤ x ∧ x < r.1 + r.2
structure TI (k : Nat) (L T : List Run) : Prop where
  cover : ∀ x, (0 ≤ x ∧ x < (k : Int)) ↔ has L x ∨ has T x
  disj : ∀ x, has L x → ¬ has T x
  pair : ∀ i j, i < T.length → j < T.length → i ≠ j → ∀ x, inR (nth T i) x → ¬ inR (nth T j) x
  pos : ∀ r ∈ T, 1 ≤ r.2 ∧ r.2 ≤ 20
theorem TI.start (k : Nat) : TI k (allL k) [] :=
  ⟨fun x => by rw [all_has]; exact ⟨fun h => .inl h, fun h => h.elim id (fun h => absurd h (has_nil _))⟩, fun x _ h => has_nil _ h, fun i j hi => by simp at hi, fun r hr => by cases hr⟩
theorem nth_app_lt {T : List Run} {r : Run} {i : Nat} (h : i < T.length) : nth (T ++ [r]) i = nth T i := by
  unfold nth; rw [List.getD_eq_getElem?_getD, List.getD_eq_getElem?_getD, List.getElem?_append_left h]
theorem nth_app_eq {T : List Run} {r : Run} : nth (T ++ [r]) T.length = r := by
  unfold nth; rw [List.getD_eq_getElem?_getD, List.getElem?_append_right (Nat.le_refl _)]; simp
theorem has_app1 {T : List Run} {r : Run} {x : Int} : has (T ++ [r]) x ↔ has T x ∨ inR r x := by
  rw [has_append, has_cons]
  constructor
  · rintro (h | h | h)
    · exact .inl h
    · exact .inr h
    · exact absurd h (has_nil _)
  · rintro (h | h)
    · exact .inl h
    · exact .inr (.inl h)
theorem in_of_nth {T : List Run} {i : Nat} {x : Int} (hi : i < T.length) (h : inR (nth T i) x) : has T x := ⟨_, nth_mem T i hi, h⟩
theorem TI.take {k b : Nat} {L T : List Run} {n : Int} (h : TI k L T) (hL : Can 0 L) (hb : b < L.length) (h1 : 1 ≤ n) (h20 : n ≤ 20) (h2 : n ≤ (nth L b).2) : TI k (takeAt L b n) (T ++ [((nth L b).1, n)]) := by
  have hh := takeAt_has L b 0 n hL hb h1 h2
  have inL : ∀ x, inR ((nth L b).1, n) x → has L x := fun x hx => has_nth.2 ⟨b, hb, hx.1, by have h3 : x < (nth L b).1 + n := hx.2; omega⟩
  refine ⟨fun x => ?_, fun x hx => ?_, ?_, ?_⟩
  · rw [h.cover, hh, has_app1]
    constructor
    · rintro (h3 | h3)
      · by_cases h4 : (nth L b).1 ≤ x ∧ x < (nth L b).1 + n
        · exact .inr (.inr h4)
        · exact .inl ⟨h3, h4⟩
      · exact .inr (.inl h3)
    · rintro (h3 | h3 | h3)
      · exact .inl h3.1
      · exact .inr h3
      · exact .inl (inL x h3)
  · rw [hh] at hx
    rw [has_app1]
    rintro (h3 | h3)
    · exact h.disj x hx.1 h3
    · exact hx.2 h3
  · intro i j hi hj hij x hx hx'
    simp only [List.length_append, List.length_cons, List.length_nil] at hi hj
    rcases Nat.lt_or_ge i T.length with h3 | h3 <;> rcases Nat.lt_or_ge j T.length with h4 | h4
    · rw [nth_app_lt h3] at hx; rw [nth_app_lt h4] at hx'; exact h.pair i j h3 h4 hij x hx hx'
    · obtain rfl : j = T.length := by omega
      rw [nth_app_lt h3] at hx; rw [nth_app_eq] at hx'
      exact h.disj x (inL x hx') (in_of_nth h3 hx)
    · obtain rfl : i = T.length := by omega
      rw [nth_app_lt h4] at hx'; rw [nth_app_eq] at hx
      exact h.disj x (inL x hx) (in_of_nth h4 hx')
    · omega
  · intro r hr
    rcases List.mem_append.1 hr with hr | hr
    · exact h.pos r hr
    · simp at hr; subst hr; exact ⟨h1, h20⟩
theorem TI.range {k : Nat} {L T : List Run} (h : TI k L T) (i : Nat) (hi : i < T.length) : 0 ≤ (nth T i).1 ∧ 1 ≤ (nth T i).2 ∧ (nth T i).2 ≤ 20 ∧ (nth T i).1 + (nth T i).2 ≤ k := by
  have hp := h.pos _ (nth_mem T i hi)
  have h1 := (h.cover (nth T i).1).2 (.inr (in_of_nth hi ⟨by omega, by omega⟩))
  have h2 := (h.cover ((nth T i).1 + (nth T i).2 - 1)).2 (.inr (in_of_nth hi ⟨by omega, by omega⟩))
  omega
/-! ### in which order all is given back -/
def rot (n c i : Nat) : Nat := if i + c < n then i + c else i + c - n
theorem rot_lt {n c i : Nat} (hc : c ≤ n) (hi : i < n) : rot n c i < n := by unfold rot; split <;> omega
theorem rot_mod {n c i : Nat} (hc : c ≤ n) (hi : i < n) : (i + c) % n = rot n c i := by
  unfold rot
  split
  · exact Nat.mod_eq_of_lt (by assumption)
  · rw [Nat.mod_eq_sub_mod (by omega), Nat.mod_eq_of_lt (by omega)]
theorem rot_inj {n c i j : Nat} (hc : c ≤ n) (hi : i < n) (hj : j < n) (h : rot n c i = rot n c j) : i = j := by unfold rot at h; split at h <;> split at h <;> omega
theorem rot_sur {n c j : Nat} (hc : c ≤ n) (hj : j < n) : ∃ i, i < n ∧ rot n c i = j := by
  by_cases h : c ≤ j
  · exact ⟨j - c, by omega, by unfold rot; rw [if_pos (by omega)]; omega⟩
  · exact ⟨j + n - c, by omega, by unfold rot; rw [if_neg (by omega)]; omega⟩
/-- what is free behind so many rounds -/
def freeAt (L T : List Run) (c i : Nat) (x : Int) : Prop := has L x ∨ ∃ t, t < i ∧ inR (nth T (rot T.length c t)) x
theorem back_ok {k c i : Nat} {L T L' : List Run} (h : TI k L T) (hc : c ≤ T.length) (hi : i < T.length) (hh : ∀ x, has L' x ↔ freeAt L T c i x) : GiveOk L' k (nth T (rot T.length c i)).1 (nth T (rot T.length c i)).2 := by
  obtain ⟨r1, r2, r3, r4⟩ := h.range _ (rot_lt hc hi)
  refine ⟨r2, r1, r4, fun x h1 h2 h3 => ?_⟩
  rcases (hh x).1 h3 with h4 | ⟨t, ht, h4⟩
  · exact h.disj x h4 (in_of_nth (rot_lt hc hi) ⟨h1, h2⟩)
  · refine h.pair _ _ (rot_lt hc (by omega)) (rot_lt hc hi) (fun e => ?_) x h4 ⟨h1, h2⟩
    have := rot_inj hc (by omega) hi e
    omega
theorem back_step {c i : Nat} {L T L' L'' : List Run} (hh : ∀ x, has L' x ↔ freeAt L T c i x) (h' : ∀ x, has L'' x ↔ has L' x ∨ ((nth T (rot T.length c i)).1 ≤ x ∧ x < (nth T (rot T.length c i)).1 + (nth T (rot T.length c i)).2)) (x : Int) : has L'' x ↔ freeAt L T c (i + 1) x := by
  rw [h', hh]
  unfold freeAt
  constructor
  · rintro ((h | ⟨t, ht, h⟩) | h)
    · exact .inl h
    · exact .inr ⟨t, by omega, h⟩
    · exact .inr ⟨i, by omega, h⟩
  · rintro (h | ⟨t, ht, h⟩)
    · exact .inl (.inl h)
    · rcases Nat.lt_or_ge t i with h3 | h3
      · exact .inl (.inr ⟨t, h3, h⟩)
      · obtain rfl : t = i := by omega
        exact .inr h
theorem back_end {k c : Nat} {L T L' : List Run} (h : TI k L T) (hc : c ≤ T.length) (hL : Can 0 L') (hh : ∀ x, has L' x ↔ freeAt L T c T.length x) : L' = allL k := by
  refine can_unique _ _ 0 0 hL (all_can _).1 (fun x => ?_)
  rw [hh, all_has, h.cover]
  unfold freeAt
  constructor
  · rintro (h1 | ⟨t, ht, h1⟩)
    · exact .inl h1
    · exact .inr (in_of_nth (rot_lt hc ht) h1)
  · rintro (h1 | h1)
    · exact .inl h1
    · obtain ⟨j, hj, h2⟩ := has_nth.1 h1
      obtain ⟨t, ht, e⟩ := rot_sur hc hj
      exact .inr ⟨t, ht, by rw [e]; exact h2⟩
theorem all_words (k : Nat) : wordsL (allL k) = k ∧ longL (allL k) = k := by
  unfold allL
  split
  · subst_vars; exact ⟨rfl, rfl⟩
  · refine ⟨?_, ?_⟩
    · show (0 : Int) + (k : Int) = k; omega
    · show (if (0 : Int) < (k : Int) then (k : Int) else 0) = k; rw [if_pos (by omega)]
/-! ### what is kept, by types -/
def KT (ts : List TypeId) (w w' : World) : Prop := Keep (fun k => ∃ t cs, t ∈ ts ∧ Blk w k t cs) w w'
theorem blk_kt {w w' : World} {g : Nat} {t : TypeId} {cs : Array Value} {ts : List TypeId} (h : Blk w g t cs) (k : KT ts w w') (hn : t ∉ ts) : Blk w' g t cs :=
  h.keep k (by
    rintro ⟨t', cs', ht, hb⟩
    by_cases e : t = t'
    · subst e; exact hn ht
    · exact h.ne hb e rfl)
theorem own_kt {w w' : World} {base : Nat} {e : TypeId} {size : Nat} {v : Value} {n : Nat} {xs : List Value} {ts : List TypeId} (h : w.ownsRow base e size v n xs) (k : KT ts w w') (hn : e ∉ ts) : w'.ownsRow base e size v n xs := by
  refine ⟨h.1, ?_⟩
  rcases h.2 with hn' | ⟨g, cap, cur, rfl, hb, hgg, rest⟩
  · exact .inl hn'
  · exact .inr ⟨g, cap, cur, rfl, hb, blk_kt (w := w) hgg k hn, rest⟩
theorem Fr.kt {w w' : World} {g base : Nat} {L : List Run} {N : Nat} {ts : List TypeId} (f : Fr w g base L N) (k : KT ts w w') (h1 : 77 ∉ ts) (h2 : 78 ∉ ts) : Fr w' g base L N := by
  obtain ⟨v, hv⟩ := f.fre
  exact ⟨⟨v, blk_kt hv.blk k h1, own_kt hv.own k h2, hv.len, hv.bd⟩, f.can, f.upto, f.small⟩
theorem IntS.kt {w w' : World} {b : Nat} {v : Value} {zs : List Int} {ts : List TypeId} (h : IntS w b v zs) (k : KT ts w w') (h1 : 3 ∉ ts) : IntS w' b v zs := ⟨own_kt h.own k h1⟩
theorem tk_kt {w w' : World} {g base : Nat} {L : List Run} {N : Nat} (f : Fr w g base L N) (k : TK w g base w') : KT [77, 78] w w' :=
  Keep.mono k (by
    obtain ⟨v, hv⟩ := f.fre
    rintro j (rfl | ⟨_, cs, hb⟩)
    · exact ⟨_, _, by simp, hv.blk⟩
    · exact ⟨_, _, by simp, hb⟩)
theorem ki_kt {w w' : World} {b : Nat} {v : Value} {zs : List Int} (h : IntS w b v zs) (k : KI v w w') : KT [3] w w' :=
  Keep.mono k (fun j hj => by obtain ⟨_, cs, hb⟩ := ints_own h hj; exact ⟨_, _, by simp, hb⟩)
/-! ### an array of truths -/
def zeros300 : Array Value := Array.replicate 300 (.bool false)
def hasB (T : List Run) (x : Int) : Bool := T.any fun r => decide (r.1 ≤ x ∧ x < r.1 + r.2)
theorem hasB_iff (T : List Run) (x : Int) : hasB T x = true ↔ has T x := by
  unfold hasB has
  rw [List.any_eq_true]
  constructor
  · rintro ⟨r, hr, h⟩; exact ⟨r, hr, of_decide_eq_true h⟩
  · rintro ⟨r, hr, h⟩; exact ⟨r, hr, decide_eq_true h⟩
theorem hasB_app (T : List Run) (a n x : Int) : hasB (T ++ [(a, n)]) x = (hasB T x || decide (a ≤ x ∧ x < a + n)) := by
  unfold hasB; rw [List.any_append]; simp
theorem kt_ext {a w w' : World} {ts : List TypeId} (x : Ext a w) (k : KT ts w w') (hb : ∀ j, (∃ t cs, t ∈ ts ∧ Blk w j t cs) → a.heap.size ≤ j) : Ext a w' :=
  Ext.of_below (Keep.below x.below k x.below.size (fun i hi hs => by have := hb i hs; omega))
end Go.Proofs.Ytjpalcejmloocaa.Free
