/-
  HeapPlays (chapter 5), plain: objects and words, words and objects.
-/
import Derived.Test.YtjpalcejmloocaaHqKeepsPlain
import Derived.Test.YtjpalcejmloocaaHqSet
import Derived.Test.YtjpalcejmloocaaHqByte
import Derived.Test.YtjpalcejmloocaaRunsPlain
namespace Go.Proofs.Ytjpalcejmloocaa.Heap
open Go.RowKit Go.Proofs.Ytjpalcejmloocaa.Plain Go.Proofs.Ytjpalcejmloocaa.Free
set_option linter.unusedVariables false
/-- an object, plain: its first word, how many words behind the head; what it is -/
structure PO where
  k : Nat
  W : Nat
  fmt : Int
  cls : Int
  hash : Int
  F : List Int
  B : List Int
  col : Int
  fin : Bool
def PO.odd (o : PO) : Int := if o.fmt = 3 then (o.W : Int) * 4 - o.B.length else 0
def PO.w0 (o : PO) : Int := putN o.W o.fmt o.odd o.col o.fin true
def inP (o : PO) (x : Nat) : Prop := o.k ≤ x ∧ x < o.k + 3 + o.W
structure POk (o : PO) : Prop where
  f : (o.fmt = 3 ∧ o.F = [] ∧ o.B.length ≤ 200 ∧ o.W = (o.B.length + 3) / 4) ∨ ((o.fmt = 1 ∨ o.fmt = 2) ∧ o.B = [] ∧ o.F.length = o.W ∧ o.W ≤ 60)
  c : 0 ≤ o.cls ∧ o.cls ≤ 65536
  h : 0 ≤ o.hash ∧ o.hash ≤ 3000
  m : 0 ≤ o.col ∧ o.col ≤ 2
  fw : ∀ x ∈ o.F, 0 ≤ x ∧ x < 4294967296
  bw : ∀ x ∈ o.B, 0 ≤ x ∧ x < 256
structure PAt (S : List Int) (Bg : List Bool) (o : PO) : Prop where
  fit : o.k + 3 + o.W ≤ S.length
  beg : Bg.getD (o.k + 1) false = true
  w0 : S.getD o.k 0 = o.w0
  w1 : S.getD (o.k + 1) 0 = refW o.cls
  w2 : S.getD (o.k + 2) 0 = intW o.hash
  fld : ∀ j, j < o.F.length → S.getD (o.k + 3 + j) 0 = o.F.getD j 0
  byt : ∀ j, j < o.B.length → S.getD (o.k + 3 + j / 4) 0 / 256 ^ (j % 4) % 256 = o.B.getD j 0
structure HR (O : List PO) (S : List Int) (L : List Run) (Bg : List Bool) (is : List Bool) : Prop where
  blen : Bg.length = S.length + 1
  isl : is.length = S.length
  fr : Frees is L
  obj : ∀ o ∈ O, POk o ∧ PAt S Bg o
  words : ∀ x : Nat, x < S.length → (Free.has L (x : Int) ↔ ∀ o ∈ O, ¬ inP o x)
  apart : O.Pairwise (fun a b => a.k + 3 + a.W ≤ b.k)
  beg : ∀ j, Bg.getD j false = true → ∃ o ∈ O, j = o.k + 1
theorem POk.ws {o : PO} (h : POk o) : o.W ≤ 60 := by rcases h.f with ⟨_, _, a, b⟩ | ⟨_, _, _, a⟩ <;> omega
theorem POk.fmts {o : PO} (h : POk o) : 1 ≤ o.fmt ∧ o.fmt ≤ 3 := by rcases h.f with ⟨a, _⟩ | ⟨a, _⟩ <;> omega
theorem POk.odds {o : PO} (h : POk o) : 0 ≤ o.odd ∧ o.odd < 4 := by
  unfold PO.odd
  rcases h.f with ⟨a, _, b, c⟩ | ⟨a, _⟩
  · rw [if_pos a]; omega
  · rw [if_neg (by omega)]; omega
theorem got0 (s f o c : Int) (fi : Bool) (s0 : 0 ≤ s) (s1 : s < 65536) (f0 : 0 ≤ f) (f1 : f < 4) (o0 : 0 ≤ o) (o1 : o < 4) (c0 : 0 ≤ c) (c1 : c < 4) : gotS (putN s f o c fi true) = s ∧ gotF (putN s f o c fi true) = f ∧ gotO (putN s f o c fi true) = o ∧ gotC (putN s f o c fi true) = c ∧ gotI (putN s f o c fi true) = fi ∧ gotL (putN s f o c fi true) = true := by
  have g1 := got_s (m := 0) (s := s) (f := f) (o := o) (c := c) (fi := fi) (li := true)
  have g2 := got_f (m := 0) (s := s) (f := f) (o := o) (c := c) (fi := fi) (li := true)
  have g3 := got_o (m := 0) (s := s) (f := f) (o := o) (c := c) (fi := fi) (li := true)
  have g4 := got_c (m := 0) (s := s) (f := f) (o := o) (c := c) (fi := fi) (li := true)
  have g5 := got_i (m := 0) (s := s) (f := f) (o := o) (c := c) (fi := fi) (li := true)
  have g6 := got_l (m := 0) (s := s) (f := f) (o := o) (c := c) (fi := fi) (li := true)
  rw [Int.zero_mul, Int.add_zero] at g1 g2 g3 g4 g5 g6
  exact ⟨by rw [g1]; omega, by rw [g2]; omega, by rw [g3]; omega, by rw [g4]; omega, g5, g6⟩
theorem POk.got {o : PO} (h : POk o) : gotS o.w0 = o.W ∧ gotF o.w0 = o.fmt ∧ gotO o.w0 = o.odd ∧ gotC o.w0 = o.col ∧ gotI o.w0 = o.fin ∧ gotL o.w0 = true := by
  have := h.ws; have := h.fmts; have := h.odds; have := h.m
  exact got0 _ _ _ _ _ (by omega) (by omega) (by omega) (by omega) (by omega) (by omega) (by omega) (by omega)
section
variable {S : List Int} {Bg : List Bool} {o : PO}
/-! ### what is said of an object -/
theorem PAt.has (h : PAt S Bg o) (hl : Bg.length = S.length + 1) : hasB Bg ((o.k : Int) + 1) = true := by
  rw [has_nat (by have := h.fit; omega)]; exact h.beg
theorem PAt.getL0 (h : PAt S Bg o) : Store.getL S ((o.k : Int) + 1 - 1) = o.w0 := by
  rw [show (o.k : Int) + 1 - 1 = (o.k : Int) from by omega, getL_nat _ _ (by have := h.fit; omega)]; exact h.w0
theorem PAt.fmt (h : PAt S Bg o) (k : POk o) (hl : Bg.length = S.length + 1) : fmtI S Bg ((o.k : Int) + 1) = o.fmt := by
  unfold fmtI
  rw [if_pos (h.has hl), h.getL0, k.got.2.1]
theorem PAt.size (h : PAt S Bg o) (k : POk o) (hl : Bg.length = S.length + 1) : sizeI S Bg ((o.k : Int) + 1) = (o.F.length : Int) + o.B.length := by
  unfold sizeI
  rw [if_pos (h.has hl), h.getL0, k.got.1, k.got.2.1, k.got.2.2.1]
  unfold PO.odd
  rcases k.f with ⟨a, b, c, d⟩ | ⟨a, b, c, d⟩
  · rw [if_pos a, if_pos a, b]; simp; omega
  · rw [if_neg (by omega), b]; simp; omega
theorem PAt.cls (h : PAt S Bg o) (k : POk o) (hl : Bg.length = S.length + 1) : classI S Bg ((o.k : Int) + 1) = o.cls := by
  unfold classI
  rw [if_pos (h.has hl), show (o.k : Int) + 1 = ((o.k + 1 : Nat) : Int) from by omega, getL_nat _ _ (by have := h.fit; omega), h.w1]
  have := k.c
  unfold refW refOfW
  rw [if_neg (by omega), if_neg (by omega), if_neg (by omega)]; omega
theorem PAt.hsh (h : PAt S Bg o) (k : POk o) (hl : Bg.length = S.length + 1) : hashI S Bg ((o.k : Int) + 1) = o.hash := by
  unfold hashI
  rw [if_pos (h.has hl), show (o.k : Int) + 1 + 1 = ((o.k + 2 : Nat) : Int) from by omega, getL_nat _ _ (by have := h.fit; omega), h.w2]
  have := k.h
  have e : intW o.hash = 2 * o.hash + 1 := by
    unfold intW cutI
    rw [if_neg (by omega), if_neg (by omega)]
    omega
  rw [e]
  unfold intOfW
  rw [if_pos (by omega), if_pos (by omega)]
  omega
theorem PAt.mrk (h : PAt S Bg o) (k : POk o) (hl : Bg.length = S.length + 1) : markC S Bg ((o.k : Int) + 1) = o.col ∧ markF S Bg ((o.k : Int) + 1) = o.fin := by
  unfold markC markF
  rw [if_pos (h.has hl), h.has hl, h.getL0, k.got.2.2.2.1, k.got.2.2.2.2.1]
  exact ⟨rfl, rfl⟩
theorem PAt.inF (h : PAt S Bg o) (k : POk o) (hl : Bg.length = S.length + 1) (i : Int) : inB S Bg ((o.k : Int) + 1) i false = decide (0 ≤ i ∧ i < o.F.length) := by
  unfold inB
  rw [h.has hl, h.fmt k hl, h.size k hl]
  rcases k.f with ⟨a, b, c, d⟩ | ⟨a, b, c, d⟩
  · rw [a, b]
    simp
  · rw [b, beq_eq_false_iff_ne.2 (by omega : o.fmt ≠ 3)]
    simp [Bool.decide_and]
theorem PAt.inY (h : PAt S Bg o) (k : POk o) (hl : Bg.length = S.length + 1) (i : Int) : inB S Bg ((o.k : Int) + 1) i true = decide (0 ≤ i ∧ i < o.B.length) := by
  unfold inB
  rw [h.has hl, h.fmt k hl, h.size k hl]
  rcases k.f with ⟨a, b, c, d⟩ | ⟨a, b, c, d⟩
  · rw [a, b]
    simp [Bool.decide_and]
  · rw [b, beq_eq_false_iff_ne.2 (by omega : o.fmt ≠ 3)]
    simp
theorem PAt.fldL (h : PAt S Bg o) (k : POk o) (j : Nat) (hj : j < o.F.length) : Store.getL S ((o.k : Int) + 1 + 2 + (j : Int)) = o.F.getD j 0 := by
  have hW : o.F.length ≤ o.W := by
    rcases k.f with ⟨a, b, c, d⟩ | ⟨a, b, c, d⟩
    · rw [b]; simp
    · omega
  rw [show (o.k : Int) + 1 + 2 + (j : Int) = ((o.k + 3 + j : Nat) : Int) from by omega, getL_nat _ _ (by have := h.fit; omega), h.fld j hj]
theorem PAt.bytL (h : PAt S Bg o) (k : POk o) (j : Nat) (hj : j < o.B.length) : Store.getL S ((o.k : Int) + 1 + 2 + (j : Int) / 4) / 256 ^ (j % 4) % 256 = o.B.getD j 0 := by
  have hW : o.B.length ≤ o.W * 4 := by
    rcases k.f with ⟨a, b, c, d⟩ | ⟨a, b, c, d⟩
    · omega
    · rw [b]; simp
  rw [show (o.k : Int) + 1 + 2 + (j : Int) / 4 = ((o.k + 3 + j / 4 : Nat) : Int) from by omega, getL_nat _ _ (by have := h.fit; omega), h.byt j hj]
/-- where none begins -/
theorem none_has {O : List PO} {L : List Run} {is : List Bool} (h : HR O S L Bg is) {at_ : Int} (hn : ∀ o ∈ O, (o.k : Int) + 1 ≠ at_) : hasB Bg at_ = false := by
  cases hb : hasB Bg at_ with
  | false => rfl
  | true =>
    exfalso
    unfold hasB at hb
    rw [Bool.and_eq_true, decide_eq_true_eq] at hb
    obtain ⟨o, ho, e⟩ := h.beg _ hb.2
    exact hn o ho (by omega)
theorem none_said {at_ : Int} (hb : hasB Bg at_ = false) : fmtI S Bg at_ = 0 ∧ sizeI S Bg at_ = -1 ∧ classI S Bg at_ = 0 ∧ hashI S Bg at_ = -1 ∧ markC S Bg at_ = 0 ∧ markF S Bg at_ = false ∧ ∀ i b, inB S Bg at_ i b = false := by
  unfold fmtI sizeI classI hashI markC markF inB
  rw [hb]
  simp
/-- an object stays where its words and its beginning stay -/
theorem PAt.out {S' : List Int} {Bg' : List Bool} (h : PAt S Bg o) (k : POk o) (hl : S'.length = S.length) (hS : ∀ q, inP o q → S'.getD q 0 = S.getD q 0) (hB : Bg'.getD (o.k + 1) false = Bg.getD (o.k + 1) false) : PAt S' Bg' o := by
  have hf : o.F.length ≤ o.W ∧ o.B.length ≤ o.W * 4 := by
    rcases k.f with ⟨a, b, c, d⟩ | ⟨a, b, c, d⟩
    · rw [b]; exact ⟨by simp, by omega⟩
    · rw [b]; exact ⟨by omega, by simp⟩
  refine ⟨by rw [hl]; exact h.fit, by rw [hB]; exact h.beg, ?_, ?_, ?_, fun j hj => ?_, fun j hj => ?_⟩
  · rw [hS _ ⟨Nat.le_refl _, by omega⟩]; exact h.w0
  · rw [hS _ ⟨by omega, by omega⟩]; exact h.w1
  · rw [hS _ ⟨by omega, by omega⟩]; exact h.w2
  · rw [hS _ ⟨by omega, by omega⟩]; exact h.fld j hj
  · rw [hS _ ⟨by omega, by omega⟩]; exact h.byt j hj
end
/-! ### an object is turned -/
section
variable {S S' : List Int} {L L' : List Run} {Bg : List Bool} {is is' : List Bool} {A B : List PO} {o o' : PO}
theorem HR.mid (h : HR (A ++ o :: B) S L Bg is) : POk o ∧ PAt S Bg o := h.obj o (by simp)
theorem HR.sides (h : HR (A ++ o :: B) S L Bg is) : (∀ a ∈ A, a.k + 3 + a.W ≤ o.k) ∧ (∀ b ∈ B, o.k + 3 + o.W ≤ b.k) := by
  have p := h.apart
  rw [List.pairwise_append, List.pairwise_cons] at p
  exact ⟨fun a ha => p.2.2 a ha o List.mem_cons_self, p.2.1.1⟩
theorem HR.upd (h : HR (A ++ o :: B) S L Bg is) (hk : o'.k = o.k) (hW : o'.W = o.W) (ok : POk o') (at' : PAt S' Bg o') (hl : S'.length = S.length) (hS : ∀ q, ¬ inP o q → S'.getD q 0 = S.getD q 0) : HR (A ++ o' :: B) S' L Bg is := by
  obtain ⟨sa, sb⟩ := h.sides
  have inE : ∀ x, inP o' x ↔ inP o x := fun x => by unfold inP; rw [hk, hW]
  refine ⟨by rw [hl]; exact h.blen, by rw [hl]; exact h.isl, h.fr, fun p hp => ?_, fun x hx => ?_, ?_, fun j hj => ?_⟩
  · rcases List.mem_append.1 hp with h1 | h1
    · obtain ⟨q1, q2⟩ := h.obj p (List.mem_append_left _ h1)
      exact ⟨q1, q2.out q1 hl (fun q hq => hS q (fun hq2 => by have := sa p h1; have := hq.2; have := hq2.1; omega)) rfl⟩
    · rcases List.mem_cons.1 h1 with rfl | h1
      · exact ⟨ok, at'⟩
      · obtain ⟨q1, q2⟩ := h.obj p (List.mem_append_right _ (List.mem_cons_of_mem _ h1))
        exact ⟨q1, q2.out q1 hl (fun q hq => hS q (fun hq2 => by have := sb p h1; have := hq.1; have := hq2.2; omega)) rfl⟩
  · rw [h.words x (by omega)]
    constructor
    · intro h1 p hp
      rcases List.mem_append.1 hp with h2 | h2
      · exact h1 p (List.mem_append_left _ h2)
      · rcases List.mem_cons.1 h2 with rfl | h2
        · rw [inE]; exact h1 o (by simp)
        · exact h1 p (List.mem_append_right _ (List.mem_cons_of_mem _ h2))
    · intro h1 p hp
      rcases List.mem_append.1 hp with h2 | h2
      · exact h1 p (List.mem_append_left _ h2)
      · rcases List.mem_cons.1 h2 with rfl | h2
        · rw [← inE]; exact h1 o' (by simp)
        · exact h1 p (List.mem_append_right _ (List.mem_cons_of_mem _ h2))
  · have p := h.apart
    rw [List.pairwise_append, List.pairwise_cons] at p ⊢
    refine ⟨p.1, ⟨fun b hb => by rw [hk, hW]; exact p.2.1.1 b hb, p.2.1.2⟩, fun a ha b hb => ?_⟩
    rcases List.mem_cons.1 hb with rfl | hb
    · rw [hk]; exact p.2.2 a ha o List.mem_cons_self
    · exact p.2.2 a ha b (List.mem_cons_of_mem _ hb)
  · obtain ⟨p, hp, e⟩ := h.beg j hj
    rcases List.mem_append.1 hp with h2 | h2
    · exact ⟨p, List.mem_append_left _ h2, e⟩
    · rcases List.mem_cons.1 h2 with rfl | h2
      · exact ⟨o', by simp, by rw [hk]; exact e⟩
      · exact ⟨p, List.mem_append_right _ (List.mem_cons_of_mem _ h2), e⟩
end
end Go.Proofs.Ytjpalcejmloocaa.Heap
