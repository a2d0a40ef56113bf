/-
  Contracts of package free (chapter 4), by the words that are free: Take, Longest, Words; the document's example; slices of numbers beside a Free.
-/
import Derived.Test.YtjpalcejmloocaaFree9
import Derived.Maps.AppendAt
namespace Go.Proofs.Ytjpalcejmloocaa.Free
open Go.RowKit Go.Proofs.Ytjpalcejmloocaa.Plain
set_option linter.unusedVariables false

/-! ### plain: Take -/
theorem takeAt_zero (r : Run) (L : List Run) (n : Int) : takeAt (r :: L) 0 n = if r.2 = n then L else (r.1 + n, r.2 - n) :: L := rfl
theorem takeAt_succ (r : Run) (L : List Run) (b : Nat) (n : Int) : takeAt (r :: L) (b + 1) n = r :: takeAt L b n := by
  unfold takeAt
  show (if (nth L b).2 = n then _ else _) = _
  split <;> rfl
theorem takeAt_can : ∀ (L : List Run) (b : Nat) (lo n : Int), Can lo L → b < L.length → 1 ≤ n → n ≤ (nth L b).2 → Can lo (takeAt L b n)
  | [], _, _, _, _, hb, _, _ => by simp at hb
  | r :: L, 0, lo, n, h, _, h1, h2 => by
    have h2 : n ≤ r.2 := h2
    rw [takeAt_zero]
    split
    · exact h.2.2.mono (by have := h.1; have := h.2.1; omega)
    · exact ⟨by show lo ≤ r.1 + n; have := h.1; omega, by show 1 ≤ r.2 - n; omega, by show Can (r.1 + n + (r.2 - n) + 1) L; rw [show r.1 + n + (r.2 - n) + 1 = r.1 + r.2 + 1 from by omega]; exact h.2.2⟩
  | r :: L, b + 1, lo, n, h, hb, h1, h2 => by
    rw [takeAt_succ]
    exact ⟨h.1, h.2.1, takeAt_can L b _ n h.2.2 (by simpa using hb) h1 h2⟩
theorem takeAt_has : ∀ (L : List Run) (b : Nat) (lo n : Int), Can lo L → b < L.length → 1 ≤ n → n ≤ (nth L b).2 → ∀ k, has (takeAt L b n) k ↔ has L k ∧ ¬ ((nth L b).1 ≤ k ∧ k < (nth L b).1 + n)
  | [], _, _, _, _, hb, _, _, _ => by simp at hb
  | r :: L, 0, lo, n, h, _, h1, h2, k => by
    have h2 : n ≤ r.2 := h2
    have g := fun hk => h.2.2.weak.has_ge (k := k) hk
    rw [takeAt_zero, has_cons]
    show _ ↔ _ ∧ ¬ (r.1 ≤ k ∧ k < r.1 + n)
    split
    · constructor
      · intro hk; have := g hk; exact ⟨.inr hk, by omega⟩
      · rintro ⟨h3 | h3, h4⟩
        · omega
        · exact h3
    · rw [has_cons]
      show (r.1 + n ≤ k ∧ k < r.1 + n + (r.2 - n)) ∨ has L k ↔ _
      constructor
      · rintro (h3 | h3)
        · exact ⟨.inl (by omega), by omega⟩
        · have := g h3; exact ⟨.inr h3, by omega⟩
      · rintro ⟨h3 | h3, h4⟩
        · exact .inl (by omega)
        · exact .inr h3
  | r :: L, b + 1, lo, n, h, hb, h1, h2, k => by
    have hb' : b < L.length := by simpa using hb
    have h2 : n ≤ (nth L b).2 := h2
    have ih := takeAt_has L b _ n h.2.2 hb' h1 h2 k
    have g := (h.2.2.weak.ge (nth_mem L b hb')).1
    rw [takeAt_succ, has_cons, has_cons, ih]
    show _ ↔ _ ∧ ¬ ((nth L b).1 ≤ k ∧ k < (nth L b).1 + n)
    constructor
    · rintro (h3 | h3)
      · exact ⟨.inl h3, by omega⟩
      · exact ⟨.inr h3.1, h3.2⟩
    · rintro ⟨h3 | h3, h4⟩
      · exact .inl h3
      · exact .inr ⟨h3, h4⟩
theorem takeAt_upto (L : List Run) (b : Nat) (lo n : Int) {N : Nat} (h : Can lo L) (hb : b < L.length) (h1 : 1 ≤ n) (h2 : n ≤ (nth L b).2) (hu : Upto N L) : Upto N (takeAt L b n) := by
  intro r hr
  have hr2 := ((takeAt_can L b lo n h hb h1 h2).weak.ge hr).2
  obtain ⟨⟨s, hs, s1, s2⟩, _⟩ := (takeAt_has L b lo n h hb h1 h2 (r.1 + r.2 - 1)).1 ⟨r, hr, by omega, by omega⟩
  have := hu s hs
  omega
theorem bst_none (L : List Run) (n : Int) (k : Nat) : bst L n k = none ↔ ∀ j, j < k → (nth L j).2 < n := by
  induction k with
  | zero => exact ⟨fun _ j hj => by omega, fun _ => rfl⟩
  | succ k ih =>
    unfold bst
    cases hb : bst L n k with
    | none =>
      rw [hb] at ih
      have ih := ih.1 rfl
      simp only
      constructor
      · intro h j hj
        split at h
        · cases h
        · rcases Nat.lt_or_ge j k with h1 | h1
          · exact ih j h1
          · obtain rfl : j = k := by omega
            omega
      · intro h
        rw [if_neg (by have := h k (by omega); omega)]
    | some c =>
      simp only
      constructor
      · intro h; split at h <;> cases h
      · intro h
        have := ih.2 (fun j hj => h j (by omega))
        rw [hb] at this; cases this
theorem bst_best (L : List Run) (n : Int) (k b : Nat) (h : bst L n k = some b) : ∀ j, j < k → n ≤ (nth L j).2 → (nth L b).2 ≤ (nth L j).2 := by
  induction k generalizing b with
  | zero => simp [bst] at h
  | succ k ih =>
    intro j hj hn
    unfold bst at h
    cases hb : bst L n k with
    | none =>
      rw [hb] at h
      simp only at h
      split at h
      · injection h with h
        subst h
        rcases Nat.lt_or_ge j k with h1 | h1
        · have := (bst_none L n k).1 hb j h1; omega
        · obtain rfl : j = k := by omega
          exact Int.le_refl _
      · cases h
    | some c =>
      rw [hb] at h
      simp only at h
      have hc := ih c hb
      split at h
      · rename_i hh
        injection h with h
        subst h
        rcases Nat.lt_or_ge j k with h1 | h1
        · have := hc j h1 hn; omega
        · obtain rfl : j = k := by omega
          exact Int.le_refl _
      · rename_i hh
        injection h with h
        subst h
        rcases Nat.lt_or_ge j k with h1 | h1
        · exact hc j h1 hn
        · obtain rfl : j = k := by omega
          omega
/-! ### plain: Longest -/
theorem maxTo_ge (L : List Run) (k j : Nat) (hj : j < k) : (nth L j).2 ≤ maxTo L k := by
  induction k with
  | zero => omega
  | succ k ih =>
    unfold maxTo
    rcases Nat.lt_or_ge j k with h1 | h1
    · have := ih h1; split <;> omega
    · obtain rfl : j = k := by omega
      split <;> omega
theorem maxTo_is (L : List Run) (k : Nat) : maxTo L k = 0 ∨ ∃ j, j < k ∧ (nth L j).2 = maxTo L k := by
  induction k with
  | zero => exact .inl rfl
  | succ k ih =>
    unfold maxTo
    split
    · exact .inr ⟨k, by omega, rfl⟩
    · rcases ih with h | ⟨j, hj, h⟩
      · exact .inl h
      · exact .inr ⟨j, by omega, h⟩
theorem long_fits (L : List Run) (n : Int) (hn : 1 ≤ n) : (∃ b, bst L n L.length = some b) ↔ n ≤ longL L := by
  constructor
  · rintro ⟨b, hb⟩
    have h1 := bst_ge L n _ b hb
    have h2 := maxTo_ge L L.length b (bst_lt L n _ b hb)
    unfold longL; omega
  · intro h
    cases hb : bst L n L.length with
    | some b => exact ⟨b, rfl⟩
    | none =>
      have h1 := (bst_none L n _).1 hb
      rcases maxTo_is L L.length with h2 | ⟨j, hj, h2⟩
      · unfold longL at h; omega
      · have := h1 j hj; unfold longL at h; omega
/-! ### Take -/
theorem Fr.tk_own {w : World} {g base : Nat} {L : List Run} {N : Nat} (h : Fr w g base L N) : True := trivial
def Taken (w : World) (g base : Nat) (L : List Run) (N : Nat) (n : Int) (b : Nat) (e : Ending) (w' : World) : Prop :=
  e = .returned (.tuple #[.int .i64 (nth L b).1, .bool true]) ∧ Fr w' g base (takeAt L b n) N ∧ TK w g base w'
theorem take_yes {w : World} {g base : Nat} {L : List Run} {N : Nat} (h : Fr w g base L N) (n : Int) (hn : 1 ≤ n) (hn2 : n ≤ 1000000) (b : Nat) (hb : bst L n L.length = some b) :
    Calls Try.prog 27 #[.pointer (some ⟨g, 0, none⟩), .int .i64 n] w (Taken w g base L N n b) := by
  obtain ⟨v, hv⟩ := h.fre
  refine (take hv hn hn2).mono ?_
  rintro e w' ⟨_, p2⟩
  obtain ⟨rfl, hf, kp⟩ := p2 b hb
  have h1 := bst_lt L n _ b hb
  have h2 := bst_ge L n _ b hb
  exact ⟨rfl, ⟨hf, takeAt_can L b 0 n h.can h1 hn h2, takeAt_upto L b 0 n h.can h1 hn h2 h.upto, h.small⟩, (TK.refl w g base).step hv.own kp⟩
theorem take_no {w : World} {g base : Nat} {L : List Run} {N : Nat} (h : Fr w g base L N) (n : Int) (hn : 1 ≤ n) (hn2 : n ≤ 1000000) (hb : bst L n L.length = none) :
    Calls Try.prog 27 #[.pointer (some ⟨g, 0, none⟩), .int .i64 n] w fun e w' => e = .returned (.tuple #[.int .i64 0, .bool false]) ∧ Ext w w' := by
  obtain ⟨v, hv⟩ := h.fre
  refine (take hv hn hn2).mono ?_
  rintro e w' ⟨p1, _⟩
  exact p1 hb
theorem words_ {w : World} {g base : Nat} {L : List Run} {N : Nat} (h : Fr w g base L N) :
    Calls Try.prog 57 #[.pointer (some ⟨g, 0, none⟩)] w fun e w' => e = .returned (.int .i64 (wordsL L)) ∧ Ext w w' := by
  obtain ⟨v, hv⟩ := h.fre
  exact words hv
theorem all_can (n : Nat) : Can 0 (allL n) ∧ Upto n (allL n) := by
  unfold allL
  split
  · exact ⟨trivial, fun r hr => by cases hr⟩
  · refine ⟨⟨Int.le_refl _, by show (1 : Int) ≤ n; omega, trivial⟩, fun r hr => ?_⟩
    rcases List.mem_cons.1 hr with rfl | hr
    · show (0 : Int) + n ≤ n; omega
    · cases hr
theorem all_has (n : Nat) (k : Int) : has (allL n) k ↔ 0 ≤ k ∧ k < n := by
  unfold allL
  split
  · exact ⟨fun h => absurd h (has_nil _), fun h => by omega⟩
  · rw [has_cons]
    show (0 ≤ k ∧ k < 0 + (n : Int)) ∨ _ ↔ _
    constructor
    · rintro (h | h)
      · omega
      · exact absurd h (has_nil _)
    · exact fun h => .inl (by omega)
theorem new_ (v : Int) (n : Nat) (w : World) (hv : v = n) (hn : n ≤ 65536) :
    Calls Try.prog 24 #[.int .i64 v] w fun e w' => e = .returned (.pointer (some ⟨w.heap.size, 0, none⟩)) ∧ Fr w' w.heap.size w.heap.size (allL n) n ∧ Ext w w' := by
  subst hv
  refine (new (n : Int) n n w (if_neg (by omega)) ?_ hn).mono ?_
  · split <;> omega
  · rintro e w' ⟨rfl, hf, x⟩
    exact ⟨rfl, ⟨hf, (all_can n).1, (all_can n).2, hn⟩, x⟩
theorem tk_ext {w w' : World} {g base B : Nat} (h : TK w g base w') (hg : B ≤ g) (hb : B ≤ base) {a : World} (x : Ext a w) (ha : a.heap.size = B) : Ext a w' := by
  subst ha
  have k : Keep (fun j => a.heap.size ≤ j) w w' := Keep.mono h (fun j hj => by rcases hj with rfl | ⟨hj, _⟩ <;> omega)
  exact Ext.of_below (Keep.below x.below k x.below.size (fun i hi h => by omega))
/-! ### the document's example -/
structure IntS (w : World) (base : Nat) (v : Value) (zs : List Int) : Prop where
  own : w.ownsRow base 3 1 v zs.length (zs.map (Value.int .i64))
theorem IntS.nil (w : World) (base : Nat) : IntS w base (.slice none 0 0) [] := ⟨World.ownsRow_nil _ _ _ _⟩
theorem IntS.ext {w w' : World} {base : Nat} {v : Value} {zs : List Int} (h : IntS w base v zs) (x : Ext w w') : IntS w' base v zs := ⟨own_keep h.own (Keep.of_ext x (fun _ => False)) (fun _ _ h => h)⟩
theorem ints_form {w : World} {base : Nat} {v : Value} {zs : List Int} (h : IntS w base v zs) : (v = .slice none 0 0 ∧ zs = []) ∨ ∃ g cap cur, v = .slice (some ⟨g, 0, none⟩) zs.length cap ∧ base ≤ g ∧ Blk w g 3 cur ∧ zs.length ≤ cap ∧ cap ≤ maxLen ∧ cur.toList.take zs.length = zs.map (Value.int .i64) := by
  rcases h.own.2 with ⟨rfl, h0⟩ | ⟨g, cap, cur, rfl, hb, hg, hn, hcap, hsz, htake⟩
  · exact .inl ⟨rfl, List.length_eq_zero_iff.1 h0⟩
  · exact .inr ⟨g, cap, cur, rfl, hb, hg, hn, hcap, by simpa using htake⟩
theorem IntS.tk {w w' : World} {base b g : Nat} {v : Value} {zs : List Int} {L : List Run} {N : Nat} (h : IntS w b v zs) (f : Fr w g base L N) (k : TK w g base w') : IntS w' b v zs := by
  refine ⟨own_keep h.own k (fun j hj hh => ?_)⟩
  rcases ints_form h with ⟨rfl, _⟩ | ⟨r, cap, cur, rfl, hb, hg, _⟩
  · cases hj
  · simp [Value.ownBlock] at hj
    subst hj
    obtain ⟨u, fu⟩ := f.fre
    rcases hh with rfl | ⟨_, cs, hcs⟩
    · exact fu.blk.ne hg (by decide) rfl
    · exact hcs.ne hg (by decide) rfl
theorem IntS.slice {w : World} {base : Nat} {v : Value} {zs : List Int} (h : IntS w base v zs) : ∃ A c, v = .slice A zs.length c ∧ zs.length ≤ c ∧ c ≤ maxLen := own_form h.own
theorem IntS.at_ {w : World} {base len c : Nat} {A : Option Addr} {zs : List Int} (h : IntS w base (.slice A len c) zs) (j : Nat) (hj : j < zs.length) : ∃ g, A = some ⟨g, 0, none⟩ ∧ base ≤ g ∧ g < w.heap.size ∧ w.cell? ⟨g, j, none⟩ = some (.int .i64 (zs.getD j 0)) := by
  rcases ints_form h with ⟨_, rfl⟩ | ⟨r, cap, cur, hh, hb, hg, hle, _, ht⟩
  · simp at hj
  · injection hh with h5 h6 h7
    refine ⟨r, h5, hb, hg.lt, ?_⟩
    rw [hg.cell]
    have : (cur.toList.take zs.length)[j]? = (zs.map (Value.int .i64))[j]? := by rw [ht]
    rw [List.getElem?_take_of_lt hj, List.getElem?_map, List.getElem?_eq_getElem hj] at this
    rw [← Array.getElem?_toList, this, List.getD_eq_getElem?_getD, List.getElem?_eq_getElem hj]
    rfl
theorem infoI : (Try.prog.info? 3).map (fun i => (i.zero, i.size, i.bytes)) = some (some (.int .i64 0), 1, 8) := by kernel_rfl
def Apart (v u : Value) : Prop := ∀ k, v.ownBlock = some k → u.ownBlock ≠ some k
theorem apart_nil (u : Value) : Apart (.slice none 0 0) u := by rintro k h; cases h
theorem Apart.symm {v u : Value} (h : Apart v u) : Apart u v := fun k h1 h2 => h k h2 h1
theorem ints_own {w : World} {b k : Nat} {v : Value} {zs : List Int} (h : IntS w b v zs) (hk : v.ownBlock = some k) : b ≤ k ∧ ∃ cs, Blk w k 3 cs := by
  rcases ints_form h with ⟨rfl, _⟩ | ⟨r, cap, cur, rfl, hb, hg, _⟩
  · cases hk
  · simp [Value.ownBlock] at hk
    subst hk
    exact ⟨hb, cur, hg⟩
theorem IntS.keep {w w' : World} {b : Nat} {v : Value} {zs : List Int} {S : Nat → Prop} (h : IntS w b v zs) (k : Keep S w w') (hs : ∀ j, v.ownBlock = some j → ¬ S j) : IntS w' b v zs := ⟨own_keep h.own k hs⟩
/-- what an append to a slice of numbers leaves as it was -/
def KI (v : Value) (w w' : World) : Prop := Keep (fun k => v.ownBlock = some k) w w'
theorem IntS.ki {w w' : World} {b : Nat} {v u : Value} {zs : List Int} (h : IntS w b u zs) (k : KI v w w') (ap : Apart v u) : IntS w' b u zs := h.keep k (fun j h1 h2 => ap j h2 h1)
theorem Fr.ki {w w' : World} {g base b : Nat} {L : List Run} {N : Nat} {v : Value} {zs : List Int} (f : Fr w g base L N) (h : IntS w b v zs) (k : KI v w w') : Fr w' g base L N := by
  obtain ⟨u, fu⟩ := f.fre
  refine ⟨⟨u, fu.keep k (fun hs => ?_) (fun j hj hs => ?_)⟩, f.can, f.upto, f.small⟩
  · obtain ⟨_, cs, hc⟩ := ints_own h hs
    exact fu.blk.ne hc (by decide) rfl
  · obtain ⟨_, cs, hc⟩ := ints_own h hs
    rcases own_rw fu.own with ⟨rfl, _⟩ | ⟨r, cap, cur, rfl, hb, hr⟩
    · cases hj
    · simp [Value.ownBlock] at hj
      subst hj
      exact hr.blk.ne hc (by decide) rfl
theorem ki_ext {a w w' : World} {b : Nat} {v : Value} {zs : List Int} (x : Ext a w) (h : IntS w b v zs) (hb : a.heap.size ≤ b) (k : KI v w w') : Ext a w' :=
  Ext.of_below (Keep.below x.below k x.below.size (fun i hi hs => by have := (ints_own h hs).1; omega))
theorem ints_lt {w : World} {b k : Nat} {v : Value} {zs : List Int} (h : IntS w b v zs) (hk : v.ownBlock = some k) : k < w.heap.size := by
  obtain ⟨_, cs, hc⟩ := ints_own h hk
  exact hc.lt
/-- a number more -/
theorem apart_app {w : World} {b H : Nat} {v v' u : Value} {zs : List Int} (h : IntS w b u zs) (ap : Apart v u) (h5 : v'.ownBlock = v.ownBlock ∨ v'.ownBlock = some H) (hH : w.heap.size ≤ H) : Apart v' u := by
  intro k hk hu
  rcases h5 with h5 | h5
  · exact ap k (by rw [← h5]; exact hk) hu
  · rw [h5] at hk; injection hk with hk
    have := ints_lt h hu
    omega
end Go.Proofs.Ytjpalcejmloocaa.Free
