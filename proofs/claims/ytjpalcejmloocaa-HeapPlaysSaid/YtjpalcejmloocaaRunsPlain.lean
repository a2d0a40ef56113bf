/-
  Chapter 4's reference, plain: of each word whether it is free, as runs.
-/
import Derived.Test.YtjpalcejmloocaaFree2
namespace Go.Proofs.Ytjpalcejmloocaa.Free
open Go.RowKit Go.Proofs.Ytjpalcejmloocaa.Plain
set_option linter.unusedVariables false
theorem can_snoc : ∀ {l : List Run} {lo : Int} {r : Run}, Can lo l → lo ≤ r.1 → 1 ≤ r.2 → (∀ s ∈ l, s.1 + s.2 < r.1) → Can lo (l ++ [r])
  | [], lo, r, _, h1, h2, _ => ⟨h1, h2, trivial⟩
  | s :: l, lo, r, h, h1, h2, h3 => ⟨h.1, h.2.1, can_snoc h.2.2 (by have := h3 s List.mem_cons_self; omega) h2 (fun t ht => h3 t (List.mem_cons_of_mem _ ht))⟩
theorem sumTo_app (l m : List Run) : ∀ k, k ≤ l.length → sumTo (l ++ m) k = sumTo l k
  | 0, _ => rfl
  | k + 1, h => by
    have e : nth (l ++ m) k = nth l k := by
      unfold nth
      rw [List.getD_eq_getElem?_getD, List.getD_eq_getElem?_getD, List.getElem?_append_left (by omega)]
    simp only [sumTo]
    rw [sumTo_app l m k (by omega), e]
theorem wordsL_snoc (l : List Run) (r : Run) : wordsL (l ++ [r]) = wordsL l + r.2 := by
  have e : nth (l ++ [r]) l.length = r := by
    unfold nth
    rw [List.getD_eq_getElem?_getD, List.getElem?_append_right (Nat.le_refl _), Nat.sub_self]; rfl
  unfold wordsL
  rw [show (l ++ [r]).length = l.length + 1 by simp]
  simp only [sumTo]
  rw [sumTo_app l [r] l.length (Nat.le_refl _), e]
theorem count_step (is : List Bool) (i : Nat) : (is.take (i + 1)).count true = (is.take i).count true + (if is.getD i false = true then 1 else 0) := by
  rw [List.take_add_one, List.count_append, List.getD_eq_getElem?_getD]
  cases is[i]? with
  | none => rfl
  | some b => cases b <;> rfl
theorem count_run {is : List Bool} {fr : Nat} : ∀ i, fr ≤ i → (∀ x, fr ≤ x → x < i → is.getD x false = true) → (is.take i).count true = (is.take fr).count true + (i - fr) := by
  intro i
  induction i with
  | zero => intro h _; obtain rfl : fr = 0 := by omega
            rfl
  | succ i ih =>
    intro h1 h2
    by_cases hc : fr = i + 1
    · rw [hc, Nat.sub_self]; rfl
    · rw [count_step, ih (by omega) (fun x a b => h2 x a (by omega)), if_pos (h2 i (by omega) (by omega))]; omega
/-- the runs that were found among the first words; where the one that is open begins -/
structure RunI (is : List Bool) (l : List Run) (fr i : Nat) : Prop where
  fi : fr ≤ i
  op : ∀ x, fr ≤ x → x < i → is.getD x false = true
  can : Can 0 l
  up : ∀ r ∈ l, r.1 + r.2 < fr
  hs : ∀ x : Nat, x < fr → (has l (x : Int) ↔ is.getD x false = true)
  sm : wordsL l = ((is.take fr).count true : Nat)
  le : l.length ≤ fr
theorem RunI.start (is : List Bool) : RunI is [] 0 0 := ⟨Nat.le_refl _, fun x _ h => by omega, trivial, fun r h => (by cases h), fun x h => (by omega), rfl, Nat.le_refl _⟩
theorem RunI.more {is : List Bool} {l : List Run} {fr i : Nat} (h : RunI is l fr i) (hb : is.getD i false = true) : RunI is l fr (i + 1) :=
  ⟨by have := h.fi; omega, fun x h1 h2 => by
    by_cases hc : x = i
    · subst hc; exact hb
    · exact h.op x h1 (by omega), h.can, h.up, h.hs, h.sm, h.le⟩
theorem RunI.cut0 {is : List Bool} {l : List Run} {i : Nat} (h : RunI is l i i) (hb : is.getD i false = false) : RunI is l (i + 1) (i + 1) :=
  ⟨Nat.le_refl _, fun x h1 h2 => by omega, h.can, fun r hr => by have := h.up r hr; omega, fun x hx => by
    by_cases hc : x = i
    · subst hc
      rw [hb]
      refine ⟨fun ⟨r, hr, h1, h2⟩ => ?_, fun e => by cases e⟩
      have := h.up r hr; omega
    · exact h.hs x (by omega), by rw [count_step, hb]; exact h.sm, by have := h.le; omega⟩
theorem RunI.cut1 {is : List Bool} {l : List Run} {fr i : Nat} (h : RunI is l fr i) (hi : fr < i) (hb : is.getD i false = false) : RunI is (l ++ [((fr : Int), (i : Int) - (fr : Int))]) (i + 1) (i + 1) := by
  refine ⟨Nat.le_refl _, fun x h1 h2 => by omega, can_snoc h.can (by simp) (by show (1 : Int) ≤ (i : Int) - fr; omega) (fun s hs => h.up s hs), fun r hr => ?_, fun x hx => ?_, ?_, by have := h.le; simp; omega⟩
  · rcases List.mem_append.1 hr with hr | hr
    · have := h.up r hr; omega
    · obtain rfl : r = ((fr : Int), (i : Int) - (fr : Int)) := by simpa using hr
      show (fr : Int) + ((i : Int) - fr) < ((i + 1 : Nat) : Int)
      omega
  · rw [has_append]
    have hn : has [((fr : Int), (i : Int) - (fr : Int))] (x : Int) ↔ fr ≤ x ∧ x < i := by
      constructor
      · rintro ⟨r, hr, h1, h2⟩
        obtain rfl : r = ((fr : Int), (i : Int) - (fr : Int)) := by simpa using hr
        have h1 : (fr : Int) ≤ x := h1
        have h2 : (x : Int) < (fr : Int) + ((i : Int) - fr) := h2
        omega
      · rintro ⟨h1, h2⟩
        exact ⟨_, List.mem_singleton_self _, by show (fr : Int) ≤ x; omega, by show (x : Int) < (fr : Int) + ((i : Int) - fr); omega⟩
    rw [hn]
    rcases Nat.lt_or_ge x fr with hc | hc
    · rw [h.hs x hc]
      exact ⟨fun e => e.elim id (fun e => by omega), .inl⟩
    · by_cases he : x = i
      · subst he
        rw [hb]
        refine ⟨fun e => ?_, fun e => by cases e⟩
        rcases e with ⟨r, hr, h1, h2⟩ | e
        · have := h.up r hr; omega
        · omega
      · exact ⟨fun _ => h.op x hc (by omega), fun _ => .inr ⟨hc, by omega⟩⟩
  · rw [wordsL_snoc, h.sm, count_step, hb, count_run i h.fi h.op]
    show ((List.count true (List.take fr is) : Nat) : Int) + ((i : Int) - (fr : Int)) = _
    simp only [Bool.false_eq_true, if_false]
    omega
theorem RunI.end_ {is : List Bool} {l : List Run} {fr : Nat} (h : RunI is l fr (is.length + 1)) : fr = is.length + 1 := by
  have h1 := h.fi
  by_cases hc : fr = is.length + 1
  · exact hc
  · have := h.op is.length (by omega) (by omega)
    rw [List.getD_eq_getElem?_getD, List.getElem?_eq_none (Nat.le_refl _)] at this
    cases this
/-- the words of runs are just those that are free -/
structure Frees (is : List Bool) (L : List Run) : Prop where
  can : Can 0 L
  up : Upto is.length L
  hs : ∀ x : Nat, x < is.length → (has L (x : Int) ↔ is.getD x false = true)
theorem getD_out (is : List Bool) (x : Nat) (h : is.length ≤ x) : is.getD x false = false := by
  rw [List.getD_eq_getElem?_getD, List.getElem?_eq_none h]; rfl
theorem RunI.all {is : List Bool} {l L : List Run} {fr : Nat} (h : RunI is l fr (is.length + 1)) (k : Frees is L) : l = L := by
  have e := h.end_
  subst e
  refine can_unique l L 0 0 h.can k.can (fun x => ?_)
  by_cases h0 : 0 ≤ x
  · obtain ⟨n, rfl⟩ := Int.eq_ofNat_of_zero_le h0
    by_cases hn : n < is.length
    · exact (h.hs n (by omega)).trans (k.hs n hn).symm
    · refine ⟨fun ⟨r, hr, h1, h2⟩ => ?_, fun ⟨r, hr, h1, h2⟩ => ?_⟩
      · have q := (h.hs n)
        by_cases hm : n = is.length
        · have := (q (by omega)).1 ⟨r, hr, h1, h2⟩
          rw [getD_out is n (by omega)] at this; cases this
        · have := h.up r hr; omega
      · have := k.up r hr; omega
  · exact ⟨fun e => absurd (h.can.weak.has_ge e) h0, fun e => absurd (k.can.weak.has_ge e) h0⟩
theorem run_ex (is : List Bool) : ∀ i, ∃ l fr, RunI is l fr i
  | 0 => ⟨[], 0, RunI.start is⟩
  | i + 1 => by
    obtain ⟨l, fr, h⟩ := run_ex is i
    cases hb : is.getD i false with
    | true => exact ⟨l, fr, h.more hb⟩
    | false =>
      by_cases hc : fr < i
      · exact ⟨_, _, h.cut1 hc hb⟩
      · obtain rfl : fr = i := by have := h.fi; omega
        exact ⟨_, _, h.cut0 hb⟩
/-- how many are free -/
theorem Frees.words {is : List Bool} {L : List Run} (k : Frees is L) : wordsL L = (is.count true : Nat) := by
  obtain ⟨l, fr, h⟩ := run_ex is (is.length + 1)
  have e := h.end_
  have a := h.all k
  have s := h.sm
  rw [a, e, List.take_of_length_le (by omega)] at s
  exact s
/-- words from a on turned -/
def clr (is : List Bool) (a : Nat) (b : Bool) : Nat → List Bool
  | 0 => is
  | n + 1 => (clr is a b n).set (a + n) b
theorem clr_len (is : List Bool) (a : Nat) (b : Bool) (n : Nat) : (clr is a b n).length = is.length := by
  induction n with
  | zero => rfl
  | succ n ih => simp [clr, ih]
theorem clr_get (is : List Bool) (a : Nat) (b : Bool) (x : Nat) (hx : x < is.length) : ∀ n, (clr is a b n).getD x false = if a ≤ x ∧ x < a + n then b else is.getD x false
  | 0 => by rw [if_neg (by omega)]; rfl
  | n + 1 => by
    show ((clr is a b n).set (a + n) b).getD x false = _
    rw [List.getD_eq_getElem?_getD, List.getElem?_set, clr_len]
    by_cases he : a + n = x
    · rw [if_pos he, if_pos (by omega), if_pos (by omega)]; rfl
    · rw [if_neg he, ← List.getD_eq_getElem?_getD, clr_get is a b x hx n]
      by_cases hc : a ≤ x ∧ x < a + n
      · rw [if_pos hc, if_pos (by omega)]
      · rw [if_neg hc, if_neg (by omega)]
/-- behind Take -/
theorem Frees.take {is : List Bool} {L L' : List Run} {a n : Nat} (k : Frees is L) (hc : Can 0 L') (hu : Upto is.length L') (hh : ∀ x, has L' x ↔ has L x ∧ ¬ ((a : Int) ≤ x ∧ x < (a : Int) + n)) : Frees (clr is a false n) L' := by
  refine ⟨hc, by rw [clr_len]; exact hu, fun x hx => ?_⟩
  rw [clr_len] at hx
  rw [clr_get is a false x hx, hh, k.hs x hx]
  by_cases hq : a ≤ x ∧ x < a + n
  · rw [if_pos hq]; exact ⟨fun e => absurd ⟨by omega, by omega⟩ e.2, fun e => by cases e⟩
  · rw [if_neg hq]; exact ⟨fun e => e.1, fun e => ⟨e, fun h => hq ⟨by omega, by omega⟩⟩⟩
/-- behind Give -/
theorem Frees.give {is : List Bool} {L L' : List Run} {a n : Nat} (k : Frees is L) (hc : Can 0 L') (hu : Upto is.length L') (hh : ∀ x, has L' x ↔ has L x ∨ ((a : Int) ≤ x ∧ x < (a : Int) + n)) : Frees (clr is a true n) L' := by
  refine ⟨hc, by rw [clr_len]; exact hu, fun x hx => ?_⟩
  rw [clr_len] at hx
  rw [clr_get is a true x hx, hh, k.hs x hx]
  by_cases hq : a ≤ x ∧ x < a + n
  · rw [if_pos hq]; exact ⟨fun _ => rfl, fun _ => .inr ⟨by omega, by omega⟩⟩
  · rw [if_neg hq]; exact ⟨fun e => e.elim id (fun h => absurd ⟨by omega, by omega⟩ hq), .inl⟩
end Go.Proofs.Ytjpalcejmloocaa.Free
