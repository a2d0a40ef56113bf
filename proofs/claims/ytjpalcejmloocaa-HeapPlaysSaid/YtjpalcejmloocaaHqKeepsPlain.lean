/-
  Plain facts for HeapKeeps (chapter 5): what objects say of the words, of the free runs and of the beginnings.
-/
import Derived.Test.YtjpalcejmloocaaHqOps
namespace Go.Proofs.Ytjpalcejmloocaa.Heap
open Go.RowKit Go.Proofs.Ytjpalcejmloocaa.Plain Go.Proofs.Ytjpalcejmloocaa.Free
set_option linter.unusedVariables false

/-! ### an object's words -/
theorem fill_out' (S : List Int) (p : Nat) (x : Int) (j q : Nat) (h : q < p ∨ p + j ≤ q) : (fill S p x j).getD q 0 = S.getD q 0 := by
  induction j with
  | zero => rfl
  | succ j ih =>
    rw [fill, List.getD_eq_getElem?_getD, List.getElem?_set_ne (by omega), ← List.getD_eq_getElem?_getD, ih (by omega)]
theorem fill_in (S : List Int) (p : Nat) (x : Int) (j q : Nat) (h : p ≤ q) (h2 : q < p + j) (h3 : q < S.length) : (fill S p x j).getD q 0 = x := by
  induction j with
  | zero => omega
  | succ j ih =>
    rw [fill, List.getD_eq_getElem?_getD, List.getElem?_set]
    by_cases e : p + j = q
    · rw [if_pos e, if_pos (by rw [fill_len]; omega)]; rfl
    · rw [if_neg e, ← List.getD_eq_getElem?_getD, ih (by omega)]
theorem set_out (S : List Int) (k q : Nat) (x : Int) (h : k ≠ q) : (S.set k x).getD q 0 = S.getD q 0 := by
  rw [List.getD_eq_getElem?_getD, List.getElem?_set_ne h, ← List.getD_eq_getElem?_getD]
theorem set_in (S : List Int) (k : Nat) (x : Int) (h : k < S.length) : (S.set k x).getD k 0 = x := by
  rw [List.getD_eq_getElem?_getD, List.getElem?_set_self h]; rfl
theorem bset_out (S : List Bool) (k q : Nat) (x : Bool) (h : k ≠ q) : (S.set k x).getD q false = S.getD q false := by
  rw [List.getD_eq_getElem?_getD, List.getElem?_set_ne h, ← List.getD_eq_getElem?_getD]
theorem bset_in (S : List Bool) (k : Nat) (x : Bool) (h : k < S.length) : (S.set k x).getD k false = x := by
  rw [List.getD_eq_getElem?_getD, List.getElem?_set_self h]; rfl
theorem made_len' (S : List Int) (k W : Nat) (fmt odd cls hash x : Int) : (made S k W fmt odd cls hash x).length = S.length := by
  unfold made; rw [fill_len]; simp
theorem made_out' (S : List Int) (k W : Nat) (fmt odd cls hash x : Int) (q : Nat) (h : q < k ∨ k + 3 + W ≤ q) : (made S k W fmt odd cls hash x).getD q 0 = S.getD q 0 := by
  unfold made
  rw [fill_out' _ _ _ _ _ (by omega), set_out _ _ _ _ (by omega), set_out _ _ _ _ (by omega), set_out _ _ _ _ (by omega)]
theorem made_0 (S : List Int) (k W : Nat) (fmt odd cls hash x : Int) (h : k < S.length) : (made S k W fmt odd cls hash x).getD k 0 = putN W fmt odd 0 false true := by
  unfold made
  rw [fill_out' _ _ _ _ _ (by omega), set_out _ _ _ _ (by omega), set_out _ _ _ _ (by omega), set_in _ _ _ h]
theorem made_1 (S : List Int) (k W : Nat) (fmt odd cls hash x : Int) (h : k + 1 < S.length) : (made S k W fmt odd cls hash x).getD (k + 1) 0 = refW cls := by
  unfold made
  rw [fill_out' _ _ _ _ _ (by omega), set_out _ _ _ _ (by omega), set_in _ _ _ (by simpa using h)]
theorem made_2 (S : List Int) (k W : Nat) (fmt odd cls hash x : Int) (h : k + 2 < S.length) : (made S k W fmt odd cls hash x).getD (k + 2) 0 = intW hash := by
  unfold made
  rw [fill_out' _ _ _ _ _ (by omega), set_in _ _ _ (by simpa using h)]
theorem made_3 (S : List Int) (k W : Nat) (fmt odd cls hash x : Int) (j : Nat) (hj : j < W) (h : k + 3 + j < S.length) : (made S k W fmt odd cls hash x).getD (k + 3 + j) 0 = x := by
  unfold made
  exact fill_in _ _ _ _ _ (by omega) (by omega) (by simpa using h)
/-- a word of the store by its number -/
theorem getL_nat (S : List Int) (k : Nat) (h : k < S.length) : Store.getL S (k : Int) = S.getD k 0 := by
  unfold Store.getL
  rw [if_pos (by omega), Int.toNat_natCast]
theorem has_nat {Bg : List Bool} {k : Nat} (h : k + 1 < Bg.length) : hasB Bg ((k : Int) + 1) = Bg.getD (k + 1) false := by
  unfold hasB
  rw [decide_eq_true (by omega), Bool.true_and, show ((k : Int) + 1).toNat = k + 1 from by omega]
theorem put_s (s f o : Int) (h0 : 0 ≤ s) (h1 : s < 65536) : gotS (putN s f o 0 false true) = s := by
  have g := got_s (m := 0) (s := s) (f := f) (o := o) (c := 0) (fi := false) (li := true)
  rw [Int.zero_mul, Int.add_zero] at g
  rw [g]; omega
theorem put_f (s f o : Int) (h0 : 0 ≤ f) (h1 : f < 4) : gotF (putN s f o 0 false true) = f := by
  have g := got_f (m := 0) (s := s) (f := f) (o := o) (c := 0) (fi := false) (li := true)
  rw [Int.zero_mul, Int.add_zero] at g
  rw [g]; omega
theorem put_o (s f o : Int) (h0 : 0 ≤ o) (h1 : o < 4) : gotO (putN s f o 0 false true) = o := by
  have g := got_o (m := 0) (s := s) (f := f) (o := o) (c := 0) (fi := false) (li := true)
  rw [Int.zero_mul, Int.add_zero] at g
  rw [g]; omega
/-! ### what a plain object of n fields answers -/
structure Hd (S : List Int) (Bg : List Bool) (k n : Nat) : Prop where
  word : S.getD k 0 = putN n 1 0 0 false true
  beg : Bg.getD (k + 1) false = true
  fit : k + 3 + n ≤ S.length
  len : Bg.length = S.length + 1
  small : n ≤ 60
section
variable {S : List Int} {Bg : List Bool} {k n : Nat}
theorem Hd.has (h : Hd S Bg k n) : hasB Bg ((k : Int) + 1) = true := by
  rw [has_nat (by have := h.fit; have := h.len; omega)]; exact h.beg
theorem Hd.getL (h : Hd S Bg k n) : Store.getL S ((k : Int) + 1 - 1) = putN n 1 0 0 false true := by
  rw [show (k : Int) + 1 - 1 = (k : Int) from by omega, getL_nat _ _ (by have := h.fit; omega)]; exact h.word
theorem Hd.size (h : Hd S Bg k n) : sizeI S Bg ((k : Int) + 1) = n := by
  have := h.small
  unfold sizeI
  rw [if_pos h.has, h.getL, put_f _ _ _ (by omega) (by omega), if_neg (by decide), put_s _ _ _ (by omega) (by omega)]
theorem Hd.fmt (h : Hd S Bg k n) : fmtI S Bg ((k : Int) + 1) = 1 := by
  unfold fmtI
  rw [if_pos h.has, h.getL, put_f _ _ _ (by omega) (by omega)]
theorem Hd.in_ (h : Hd S Bg k n) (j : Nat) (hj : j < n) : inB S Bg ((k : Int) + 1) j false = true := by
  unfold inB
  rw [h.has, h.fmt, h.size, decide_eq_true (by omega), decide_eq_true (by omega)]; rfl
theorem Hd.set (h : Hd S Bg k n) (q : Nat) (x : Int) (hq : k < q) : Hd (S.set q x) Bg k n :=
  ⟨by rw [set_out _ _ _ _ (by omega)]; exact h.word, h.beg, by rw [List.length_set]; exact h.fit, by rw [List.length_set]; exact h.len, h.small⟩
end
theorem nextN_zero (Bg : List Bool) (p : Nat) (hno : ∀ r, p < r → Bg.getD r false = false) : nextN Bg p = 0 := by
  by_cases h : p + 1 < Bg.length
  · rw [next_no Bg p h (hno (p + 1) (by omega))]
    exact nextN_zero Bg (p + 1) (fun r h1 => hno r (by omega))
  · exact next_end Bg p (by omega)
  termination_by Bg.length - p
/-! ### all objects -/
structure Ob where
  k : Nat
  n : Nat
  h : Nat
def inO (o : Ob) (x : Nat) : Prop := o.k ≤ x ∧ x < o.k + 3 + o.n
structure ObOk (S : List Int) (Bg : List Bool) (o : Ob) : Prop where
  hd : Hd S Bg o.k o.n
  hash : S.getD (o.k + 2) 0 = intW o.h
  fld : ∀ j, j < o.n → S.getD (o.k + 3 + j) 0 = ((100 * o.h + j : Nat) : Int)
  n8 : o.n ≤ 8
  h40 : o.h < 40
def Apt (a b : Ob) : Prop := ∀ x, inO a x → ¬ inO b x
structure KK (i : Nat) (O : List Ob) (S : List Int) (L : List Run) (Bg : List Bool) : Prop where
  len : S.length = 600
  blen : Bg.length = 601
  can : Free.Can 0 L
  up : Upto 600 L
  obj : ∀ o ∈ O, ObOk S Bg o
  words : ∀ x : Nat, x < 600 → (Free.has L (x : Int) ↔ ∀ o ∈ O, ¬ inO o x)
  apart : O.Pairwise Apt
  beg : ∀ j, Bg.getD j false = true → ∃ o ∈ O, j = o.k + 1
  tail : ∀ x : Nat, 11 * i ≤ x → x < 600 → Free.has L (x : Int)
def er {α : Type} (O : List α) (k : Nat) : List α := O.take k ++ O.drop (k + 1)
theorem er_map {α β : Type} (f : α → β) (O : List α) (k : Nat) : (er O k).map f = er (O.map f) k := by unfold er; simp [List.map_take, List.map_drop]
theorem ob_in {S : List Int} {Bg : List Bool} {o : Ob} (h : ObOk S Bg o) : inO o o.k := ⟨Nat.le_refl _, by omega⟩
theorem ob_out {S S' : List Int} {Bg Bg' : List Bool} {o : Ob} (h : ObOk S Bg o) (hl : S'.length = S.length) (hb : Bg'.length = Bg.length) (hS : ∀ q, inO o q → S'.getD q 0 = S.getD q 0) (hB : Bg'.getD (o.k + 1) false = Bg.getD (o.k + 1) false) : ObOk S' Bg' o := by
  refine ⟨⟨?_, by rw [hB]; exact h.hd.beg, by rw [hl]; exact h.hd.fit, by rw [hl, hb]; exact h.hd.len, h.hd.small⟩, ?_, fun j hj => ?_, h.n8, h.h40⟩
  · rw [hS _ ⟨Nat.le_refl _, by omega⟩]; exact h.hd.word
  · rw [hS _ ⟨by omega, by omega⟩]; exact h.hash
  · rw [hS _ ⟨by omega, by omega⟩]; exact h.fld j hj
theorem KK.start : KK 0 [] (List.replicate 600 0) (allL 600) (List.replicate 601 false) := by
  refine ⟨List.length_replicate, List.length_replicate, (all_can 600).1, (all_can 600).2, fun o ho => (by cases ho), fun x hx => ?_, List.Pairwise.nil, fun j hj => ?_, fun x _ hx => ?_⟩
  · rw [all_has]; exact ⟨fun _ o ho => (by cases ho), fun _ => ⟨by omega, by omega⟩⟩
  · rw [List.getD_eq_getElem?_getD, List.getElem?_replicate] at hj
    split at hj <;> simp at hj
  · rw [all_has]; omega
/-- an object goes -/
theorem KK.drop {i : Nat} {A B : List Ob} {o : Ob} {S : List Int} {L L' : List Run} {Bg : List Bool} (h : KK i (A ++ o :: B) S L Bg) (hc : Free.Can 0 L') (hu : Upto 600 L')
    (hh : ∀ x, Free.has L' x ↔ Free.has L x ∨ ((o.k : Int) ≤ x ∧ x < (o.k : Int) + (3 + o.n))) : KK i (A ++ B) (S.set o.k 0) L' (Bg.set (o.k + 1) false) := by
  have hp := h.apart
  rw [List.pairwise_append, List.pairwise_cons] at hp
  obtain ⟨p1, ⟨p2, p3⟩, p4⟩ := hp
  have ho := h.obj o (by simp)
  have apt : ∀ o' ∈ A ++ B, Apt o' o := by
    intro o' ho'
    rcases List.mem_append.1 ho' with h1 | h1
    · exact p4 o' h1 o List.mem_cons_self
    · intro x hx hx'; exact p2 o' h1 x hx' hx
  have sub : ∀ o' ∈ A ++ B, o' ∈ A ++ o :: B := by
    intro o' ho'
    rcases List.mem_append.1 ho' with h1 | h1
    · exact List.mem_append_left _ h1
    · exact List.mem_append_right _ (List.mem_cons_of_mem _ h1)
  refine ⟨by rw [List.length_set]; exact h.len, by rw [List.length_set]; exact h.blen, hc, hu, fun o' ho' => ?_, fun x hx => ?_, ?_, fun j hj => ?_, fun x h1 h2 => ?_⟩
  · have hne : ∀ q, inO o' q → o.k ≠ q := by
      rintro q hq rfl
      exact apt o' ho' _ hq (ob_in ho)
    have hok := h.obj o' (sub o' ho')
    exact ob_out hok (List.length_set ..) (List.length_set ..) (fun q hq => set_out _ _ _ _ (hne q hq)) (bset_out _ _ _ _ (by have := hne o'.k (ob_in hok); omega))
  · rw [hh, h.words x hx]
    constructor
    · rintro (h1 | h1) o' ho' hx'
      · exact h1 o' (sub o' ho') hx'
      · exact apt o' ho' x hx' ⟨by omega, by omega⟩
    · intro h1
      by_cases h2 : inO o x
      · exact .inr ⟨by have := h2.1; omega, by have := h2.2; omega⟩
      · refine .inl fun o' ho' => ?_
        rcases List.mem_append.1 ho' with h3 | h3
        · exact h1 o' (List.mem_append_left _ h3)
        · rcases List.mem_cons.1 h3 with rfl | h3
          · exact h2
          · exact h1 o' (List.mem_append_right _ h3)
  · rw [List.pairwise_append]
    exact ⟨p1, p3, fun a ha b hb => p4 a ha b (List.mem_cons_of_mem _ hb)⟩
  · by_cases e : o.k + 1 = j
    · subst e
      rw [bset_in _ _ _ (by have := ho.hd.fit; have := ho.hd.len; omega)] at hj
      cases hj
    · rw [bset_out _ _ _ _ e] at hj
      obtain ⟨o', ho', rfl⟩ := h.beg j hj
      refine ⟨o', ?_, rfl⟩
      rcases List.mem_append.1 ho' with h3 | h3
      · exact List.mem_append_left _ h3
      · rcases List.mem_cons.1 h3 with rfl | h3
        · exact absurd rfl e
        · exact List.mem_append_right _ h3
  · rw [hh]; exact .inl (h.tail x h1 h2)
theorem KK.giveok {i : Nat} {A B : List Ob} {o : Ob} {S : List Int} {L : List Run} {Bg : List Bool} (h : KK i (A ++ o :: B) S L Bg) : GiveOk L 600 o.k (3 + o.n) := by
  have ho := h.obj o (by simp)
  have hf := ho.hd.fit
  have hl := h.len
  refine ⟨by omega, by omega, by omega, fun x h1 h2 hh => ?_⟩
  obtain ⟨k, rfl⟩ := Int.eq_ofNat_of_zero_le (by omega : 0 ≤ x)
  exact (h.words k (by omega)).1 hh o (by simp) ⟨by omega, by omega⟩
/-- there is room, and it is not far up -/
theorem KK.room {i : Nat} {O : List Ob} {S : List Int} {L : List Run} {Bg : List Bool} (h : KK i O S L Bg) (hi : i < 40) (n : Nat) (hn : n ≤ 8) :
    ∃ b k : Nat, bst L (3 + n) L.length = some b ∧ (nth L b).1 = (k : Int) ∧ k ≤ 11 * i ∧ k + 3 + n ≤ 600 := by
  obtain ⟨j, hj, j1, j2⟩ := has_nth.1 (h.tail (11 * i) (Nat.le_refl _) (by omega))
  have hjn := h.can.weak.ge (nth_mem L j hj)
  have hup := h.up _ (nth_mem L j hj)
  have e : (nth L j).1 + (nth L j).2 = 600 := by
    rcases Int.lt_or_le ((nth L j).1 + (nth L j).2) 600 with h1 | h1
    · exfalso
      obtain ⟨m, hm⟩ := Int.eq_ofNat_of_zero_le (by omega : 0 ≤ (nth L j).1 + (nth L j).2)
      obtain ⟨j', hj', q1, q2⟩ := has_nth.1 (h.tail m (by omega) (by omega))
      rcases Nat.lt_trichotomy j j' with h3 | rfl | h3
      · have := can_apart h.can j j' h3 hj'; omega
      · omega
      · have := can_apart h.can j' j h3 hj; omega
    · omega
  cases hb : bst L (3 + n) L.length with
  | none => exact absurd ((bst_none L _ _).1 hb j hj) (by omega)
  | some b =>
    have hbl := bst_lt L _ _ b hb
    have hbg := bst_ge L _ _ b hb
    have hb0 := h.can.weak.ge (nth_mem L b hbl)
    have hbu := h.up _ (nth_mem L b hbl)
    obtain ⟨k, hk⟩ := Int.eq_ofNat_of_zero_le hb0.1
    refine ⟨b, k, rfl, hk, ?_, by omega⟩
    rcases Nat.lt_trichotomy b j with h3 | h3 | h3
    · have := can_apart h.can b j h3 hj; omega
    · subst h3; omega
    · have := can_apart h.can j b h3 hbl; omega
/-- the fields are laid -/
def fld (S : List Int) (k i : Nat) : Nat → List Int
  | 0 => S
  | j + 1 => (fld S k i j).set (k + 3 + j) ((100 * i + j : Nat) : Int)
theorem fld_len (S : List Int) (k i j : Nat) : (fld S k i j).length = S.length := by
  induction j with
  | zero => rfl
  | succ j ih => simp [fld, ih]
theorem fld_out (S : List Int) (k i j q : Nat) (h : q < k + 3 ∨ k + 3 + j ≤ q) : (fld S k i j).getD q 0 = S.getD q 0 := by
  induction j with
  | zero => rfl
  | succ j ih => rw [fld, set_out _ _ _ _ (by omega), ih (by omega)]
theorem fld_in (S : List Int) (k i j t : Nat) (h : t < j) (h2 : k + 3 + t < S.length) : (fld S k i j).getD (k + 3 + t) 0 = ((100 * i + t : Nat) : Int) := by
  induction j with
  | zero => omega
  | succ j ih =>
    rw [fld]
    by_cases e : t = j
    · subst e; exact set_in _ _ _ (by rw [fld_len]; exact h2)
    · rw [set_out _ _ _ _ (by omega)]; exact ih (by omega)
theorem fld_hd {S : List Int} {Bg : List Bool} {k n : Nat} (h : Hd S Bg k n) (i j : Nat) : Hd (fld S k i j) Bg k n := by
  induction j with
  | zero => exact h
  | succ j ih => exact ih.set _ _ (by omega)
theorem made_hd {S : List Int} {Bg : List Bool} {k n : Nat} (i : Nat) (hk : k + 3 + n ≤ S.length) (hb : Bg.length = S.length + 1) (hn : n ≤ 60) : Hd (made S k n 1 0 0 i (intW 0)) (Bg.set (k + 1) true) k n :=
  ⟨made_0 _ _ _ _ _ _ _ _ (by omega), bset_in _ _ _ (by omega), by rw [made_len']; exact hk, by rw [made_len', List.length_set]; exact hb, hn⟩
/-- an object more -/
theorem KK.make {i : Nat} {O : List Ob} {S : List Int} {L : List Run} {Bg : List Bool} (h : KK i O S L Bg) (hi : i < 40) (n : Nat) (hn : n ≤ 8) {b k : Nat} (hb : bst L (3 + n) L.length = some b) (hk : (nth L b).1 = (k : Int)) (hk2 : k ≤ 11 * i) (hk3 : k + 3 + n ≤ 600) :
    KK (i + 1) (O ++ [⟨k, n, i⟩]) (fld (made S k n 1 0 0 i (intW 0)) k i n) (takeAt L b (3 + n)) (Bg.set (k + 1) true) := by
  have hbl := bst_lt L _ _ b hb
  have hbg := bst_ge L _ _ b hb
  have hl := h.len
  have hbl2 := h.blen
  have hT := takeAt_has L b 0 (3 + n) h.can hbl (by omega) hbg
  rw [hk] at hT
  have free : ∀ x : Nat, k ≤ x → x < k + 3 + n → Free.has L (x : Int) := fun x h1 h2 => has_nth.2 ⟨b, hbl, by omega, by omega⟩
  have apt : ∀ o ∈ O, ∀ x, k ≤ x → x < k + 3 + n → ¬ inO o x := fun o ho x h1 h2 => (h.words x (by omega)).1 (free x h1 h2) o ho
  have out : ∀ q, (q < k ∨ k + 3 + n ≤ q) → (fld (made S k n 1 0 0 i (intW 0)) k i n).getD q 0 = S.getD q 0 := fun q hq => by
    rw [fld_out _ _ _ _ _ (by omega), made_out' _ _ _ _ _ _ _ _ _ hq]
  refine ⟨by rw [fld_len, made_len']; exact hl, by rw [List.length_set]; exact hbl2, takeAt_can L b 0 (3 + n) h.can hbl (by omega) hbg, ?_, fun o ho => ?_, fun x hx => ?_, ?_, fun j hj => ?_, fun x h1 h2 => ?_⟩
  · have := takeAt_upto L b 0 (3 + n) (N := 600) h.can hbl (by omega) hbg h.up; exact this
  · rcases List.mem_append.1 ho with h1 | h1
    · have hok := h.obj o h1
      refine ob_out hok (by rw [fld_len, made_len']) (List.length_set ..) (fun q hq => out q ?_) (bset_out _ _ _ _ ?_)
      · rcases Nat.lt_or_ge q k with h3 | h3
        · exact .inl h3
        · rcases Nat.lt_or_ge q (k + 3 + n) with h4 | h4
          · exact absurd hq (apt o h1 q h3 h4)
          · exact .inr h4
      · intro e
        exact apt o h1 k (Nat.le_refl _) (by omega) (by rw [show k = o.k from by omega]; exact ob_in hok)
    · rw [List.mem_singleton] at h1
      subst h1
      refine ⟨fld_hd (made_hd i (by omega) (by omega) (by omega)) i n, ?_, fun j hj => fld_in _ _ _ _ _ hj (by rw [made_len']; show k + 3 + j < _; have : j < n := hj; omega), hn, hi⟩
      show (fld (made S k n 1 0 0 i (intW 0)) k i n).getD (k + 2) 0 = intW i
      rw [fld_out _ _ _ _ _ (by omega), made_2 _ _ _ _ _ _ _ _ (by omega)]
  · rw [hT, h.words x hx]
    constructor
    · rintro ⟨h1, h2⟩ o ho
      rcases List.mem_append.1 ho with h3 | h3
      · exact h1 o h3
      · rw [List.mem_singleton] at h3
        subst h3
        rintro ⟨h4, h5⟩
        have h4 : k ≤ x := h4
        have h5 : x < k + 3 + n := h5
        omega
    · intro h1
      refine ⟨fun o ho => h1 o (List.mem_append_left _ ho), fun hh => ?_⟩
      exact h1 ⟨k, n, i⟩ (by simp) ⟨by show k ≤ x; omega, by show x < k + 3 + n; omega⟩
  · rw [List.pairwise_append]
    refine ⟨h.apart, List.pairwise_singleton _ _, fun a ha c hc => ?_⟩
    rw [List.mem_singleton] at hc
    subst hc
    rintro x hx ⟨h4, h5⟩
    exact apt a ha x h4 h5 hx
  · by_cases e : k + 1 = j
    · exact ⟨⟨k, n, i⟩, by simp, e.symm⟩
    · rw [bset_out _ _ _ _ e] at hj
      obtain ⟨o, ho, e2⟩ := h.beg j hj
      exact ⟨o, List.mem_append_left _ ho, e2⟩
  · rw [hT]
    exact ⟨h.tail x (by omega) h2, by omega⟩
/-- all gone -/
theorem KK.none {i : Nat} {S : List Int} {L : List Run} {Bg : List Bool} (h : KK i [] S L Bg) : wordsL L = 600 ∧ nextN Bg 0 = 0 := by
  constructor
  · have e : L = allL 600 := can_unique _ _ 0 0 h.can (all_can 600).1 (fun x => by
      rw [all_has]
      constructor
      · intro hx
        have h1 := h.can.weak.has_ge hx
        obtain ⟨r, hr, r1, r2⟩ := hx
        have := h.up r hr
        omega
      · intro hx
        obtain ⟨k, rfl⟩ := Int.eq_ofNat_of_zero_le hx.1
        exact (h.words k (by omega)).2 (fun o ho => by cases ho))
    rw [e]; exact (all_words 600).1
  · refine nextN_zero Bg 0 (fun r _ => ?_)
    rw [Bool.eq_false_iff]
    intro hr
    obtain ⟨o, ho, _⟩ := h.beg r hr
    cases ho
theorem er_split {α : Type} (O : List α) (k : Nat) (h : k < O.length) : O = O.take k ++ O[k] :: O.drop (k + 1) := by
  rw [← List.drop_eq_getElem_cons h, List.take_append_drop]
theorem hash_back (v : Nat) (h : v < 40) : intOfW (intW (v : Int)) = v := by
  have e : intW (v : Int) = 2 * (v : Int) + 1 := by
    unfold intW cutI
    rw [if_neg (by omega), if_neg (by omega)]
    omega
  rw [e]
  unfold intOfW
  rw [if_pos (by omega), if_pos (by omega)]
  omega
theorem hash_at {S : List Int} {Bg : List Bool} {o : Ob} (h : ObOk S Bg o) : hashI S Bg ((o.k : Int) + 1) = o.h := by
  unfold hashI
  have hf := h.hd.fit
  rw [if_pos h.hd.has, show (o.k : Int) + 1 + 1 = ((o.k + 2 : Nat) : Int) from by omega, getL_nat _ _ (by omega), h.hash, hash_back _ h.h40]
theorem field_at {S : List Int} {Bg : List Bool} {o : Ob} (h : ObOk S Bg o) (j : Nat) (hj : j < o.n) : Store.getL S ((o.k : Int) + 1 + 2 + (j : Int)) = ((100 * o.h + j : Nat) : Int) := by
  have hf := h.hd.fit
  rw [show (o.k : Int) + 1 + 2 + (j : Int) = ((o.k + 3 + j : Nat) : Int) from by omega, getL_nat _ _ (by omega), h.fld j hj]
end Go.Proofs.Ytjpalcejmloocaa.Heap
