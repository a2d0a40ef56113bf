/-
  Free9, Free10, FreeTakesPlain, as one text (a claim has at most 60 files).
-/
import Derived.Test.YtjpalcejmloocaaGreatVq09
import Derived.Test.YtjpalcejmloocaaGreatVq03
import Derived.WalkSpells
import Derived.Maps.AppendAt
namespace Go.Proofs.YtjpalcejmloocaaGreat.Free
open Go.RowKit Go.Proofs.YtjpalcejmloocaaGreat.Plain
set_option linter.unusedVariables false

/-! ### plain -/
theorem can_len {L : List Run} {lo N : Int} (h : Can lo L) (hu : Upto N L) (hlo : lo ≤ N) : (L.length : Int) ≤ N - lo := by
  induction L generalizing lo with
  | nil => simp; omega
  | cons r L ih =>
    have hr := hu r List.mem_cons_self
    cases L with
    | nil => have := h.1; have := h.2.1; simp; omega
    | cons s L =>
      have := h.1; have := h.2.1; have h3 := h.2.2.1; have := h.2.2.2.1
      have hs := hu s (List.mem_cons_of_mem _ List.mem_cons_self)
      have := ih h.2.2 (fun x hx => hu x (List.mem_cons_of_mem _ hx)) (by omega)
      simp only [List.length_cons] at this ⊢; omega
theorem has_nth {L : List Run} {k : Int} : has L k ↔ ∃ j, j < L.length ∧ (nth L j).1 ≤ k ∧ k < (nth L j).1 + (nth L j).2 := by
  constructor
  · rintro ⟨r, hr, h⟩
    obtain ⟨j, hj, e⟩ := List.getElem_of_mem hr
    refine ⟨j, hj, ?_⟩
    have := nth_some L j hj
    rw [List.getElem?_eq_getElem hj, e] at this
    injection this with this
    rw [← this]; exact h
  · rintro ⟨j, hj, h⟩
    exact ⟨_, nth_mem L j hj, h⟩
/-! ### the words of a world -/
/-- g is a Free of N words whose runs L are canonical -/
structure Fr (w : World) (g base : Nat) (L : List Run) (N : Nat) : Prop where
  fre : ∃ v, Fre w g base v L N
  can : Can 0 L
  upto : Upto N L
  small : N ≤ 65536
theorem Fr.ext {w w' : World} {g base : Nat} {L : List Run} {N : Nat} (h : Fr w g base L N) (x : Ext w w') : Fr w' g base L N := by
  obtain ⟨v, hv⟩ := h.fre
  exact ⟨⟨v, hv.ext x⟩, h.can, h.upto, h.small⟩
theorem Fr.len {w : World} {g base : Nat} {L : List Run} {N : Nat} (h : Fr w g base L N) : L.length ≤ 65536 := by
  have := can_len h.can h.upto (by omega)
  have := h.small
  omega
end Go.Proofs.YtjpalcejmloocaaGreat.Free
namespace Go.Proofs.YtjpalcejmloocaaGreat.Free
open Go.RowKit Go.Proofs.YtjpalcejmloocaaGreat.Plain
set_option linter.unusedVariables false

/-! ### plain: Take -/
theorem takeAt_zero (r : Run) (L : List Run) (n : Int) : takeAt (r :: L) 0 n = if r.2 = n then L else (r.1 + n, r.2 - n) :: L := rfl
theorem takeAt_succ (r : Run) (L : List Run) (b : Nat) (n : Int) : takeAt (r :: L) (b + 1) n = r :: takeAt L b n := by
  unfold takeAt
  show (if (nth L b).2 = n then _ else _) = _
  split <;> rfl
theorem takeAt_has : ∀ (L : List Run) (b : Nat) (lo n : Int), Can lo L → b < L.length → 1 ≤ n → n ≤ (nth L b).2 → ∀ k, has (takeAt L b n) k ↔ has L k ∧ ¬ ((nth L b).1 ≤ k ∧ k < (nth L b).1 + n)
  | [], _, _, _, _, hb, _, _, _ => by simp at hb
  | r :: L, 0, lo, n, h, _, h1, h2, k => by
    have h2 : n ≤ r.2 := h2
    have g := fun hk => h.2.2.weak.has_ge (k := k) hk
    rw [takeAt_zero, has_cons]
    show _ ↔ _ ∧ ¬ (r.1 ≤ k ∧ k < r.1 + n)
    split
    · constructor
      · intro hk; have := g hk; exact ⟨.inr hk, by omega⟩
      · rintro ⟨h3 | h3, h4⟩
        · omega
        · exact h3
    · rw [has_cons]
      show (r.1 + n ≤ k ∧ k < r.1 + n + (r.2 - n)) ∨ has L k ↔ _
      constructor
      · rintro (h3 | h3)
        · exact ⟨.inl (by omega), by omega⟩
        · have := g h3; exact ⟨.inr h3, by omega⟩
      · rintro ⟨h3 | h3, h4⟩
        · exact .inl (by omega)
        · exact .inr h3
  | r :: L, b + 1, lo, n, h, hb, h1, h2, k => by
    have hb' : b < L.length := by simpa using hb
    have h2 : n ≤ (nth L b).2 := h2
    have ih := takeAt_has L b _ n h.2.2 hb' h1 h2 k
    have g := (h.2.2.weak.ge (nth_mem L b hb')).1
    rw [takeAt_succ, has_cons, has_cons, ih]
    show _ ↔ _ ∧ ¬ ((nth L b).1 ≤ k ∧ k < (nth L b).1 + n)
    constructor
    · rintro (h3 | h3)
      · exact ⟨.inl h3, by omega⟩
      · exact ⟨.inr h3.1, h3.2⟩
    · rintro ⟨h3 | h3, h4⟩
      · exact .inl h3
      · exact .inr ⟨h3, h4⟩
/-! ### plain: Longest -/
/-! ### Take -/
/-! ### the document's example -/
structure IntS (w : World) (base : Nat) (v : Value) (zs : List Int) : Prop where
  own : w.ownsRow base 3 1 v zs.length (zs.map (Value.int .i64))
theorem IntS.nil (w : World) (base : Nat) : IntS w base (.slice none 0 0) [] := ⟨World.ownsRow_nil _ _ _ _⟩
theorem IntS.ext {w w' : World} {base : Nat} {v : Value} {zs : List Int} (h : IntS w base v zs) (x : Ext w w') : IntS w' base v zs := ⟨own_keep h.own (Keep.of_ext x (fun _ => False)) (fun _ _ h => h)⟩
theorem ints_form {w : World} {base : Nat} {v : Value} {zs : List Int} (h : IntS w base v zs) : (v = .slice none 0 0 ∧ zs = []) ∨ ∃ g cap cur, v = .slice (some ⟨g, 0, none⟩) zs.length cap ∧ base ≤ g ∧ Blk w g 3 cur ∧ zs.length ≤ cap ∧ cap ≤ maxLen ∧ cur.toList.take zs.length = zs.map (Value.int .i64) := by
  rcases h.own.2 with ⟨rfl, h0⟩ | ⟨g, cap, cur, rfl, hb, hg, hn, hcap, hsz, htake⟩
  · exact .inl ⟨rfl, List.length_eq_zero_iff.1 h0⟩
  · exact .inr ⟨g, cap, cur, rfl, hb, hg, hn, hcap, by simpa using htake⟩
theorem IntS.tk {w w' : World} {base b g : Nat} {v : Value} {zs : List Int} {L : List Run} {N : Nat} (h : IntS w b v zs) (f : Fr w g base L N) (k : TK w g base w') : IntS w' b v zs := by
  refine ⟨own_keep h.own k (fun j hj hh => ?_)⟩
  rcases ints_form h with ⟨rfl, _⟩ | ⟨r, cap, cur, rfl, hb, hg, _⟩
  · cases hj
  · simp [Value.ownBlock] at hj
    subst hj
    obtain ⟨u, fu⟩ := f.fre
    rcases hh with rfl | ⟨_, cs, hcs⟩
    · exact fu.blk.ne hg (by decide) rfl
    · exact hcs.ne hg (by decide) rfl
theorem IntS.slice {w : World} {base : Nat} {v : Value} {zs : List Int} (h : IntS w base v zs) : ∃ A c, v = .slice A zs.length c ∧ zs.length ≤ c ∧ c ≤ maxLen := own_form h.own
theorem IntS.at_ {w : World} {base len c : Nat} {A : Option Addr} {zs : List Int} (h : IntS w base (.slice A len c) zs) (j : Nat) (hj : j < zs.length) : ∃ g, A = some ⟨g, 0, none⟩ ∧ base ≤ g ∧ g < w.heap.size ∧ w.cell? ⟨g, j, none⟩ = some (.int .i64 (zs.getD j 0)) := by
  rcases ints_form h with ⟨_, rfl⟩ | ⟨r, cap, cur, hh, hb, hg, hle, _, ht⟩
  · simp at hj
  · injection hh with h5 h6 h7
    refine ⟨r, h5, hb, hg.lt, ?_⟩
    rw [hg.cell]
    have : (cur.toList.take zs.length)[j]? = (zs.map (Value.int .i64))[j]? := by rw [ht]
    rw [List.getElem?_take_of_lt hj, List.getElem?_map, List.getElem?_eq_getElem hj] at this
    rw [← Array.getElem?_toList, this, List.getD_eq_getElem?_getD, List.getElem?_eq_getElem hj]
    rfl
theorem infoI : (Tryz.prog.info? 3).map (fun i => (i.zero, i.size, i.bytes)) = some (some (.int .i64 0), 1, 8) := by kernel_rfl
def Apart (v u : Value) : Prop := ∀ k, v.ownBlock = some k → u.ownBlock ≠ some k
theorem Apart.symm {v u : Value} (h : Apart v u) : Apart u v := fun k h1 h2 => h k h2 h1
theorem IntS.keep {w w' : World} {b : Nat} {v : Value} {zs : List Int} {S : Nat → Prop} (h : IntS w b v zs) (k : Keep S w w') (hs : ∀ j, v.ownBlock = some j → ¬ S j) : IntS w' b v zs := ⟨own_keep h.own k hs⟩
end Go.Proofs.YtjpalcejmloocaaGreat.Free
namespace Go.Proofs.YtjpalcejmloocaaGreat.Free
open Go.RowKit Go.Proofs.YtjpalcejmloocaaGreat.Plain
set_option linter.unusedVariables false

/-! ### what is taken -/
def inR (r : Run) (x : Int) : Prop := r.1 ≤ x ∧ x < r.1 + r.2
structure TI (k : Nat) (L T : List Run) : Prop where
  cover : ∀ x, (0 ≤ x ∧ x < (k : Int)) ↔ has L x ∨ has T x
  disj : ∀ x, has L x → ¬ has T x
  pair : ∀ i j, i < T.length → j < T.length → i ≠ j → ∀ x, inR (nth T i) x → ¬ inR (nth T j) x
  pos : ∀ r ∈ T, 1 ≤ r.2 ∧ r.2 ≤ 20
theorem nth_app_lt {T : List Run} {r : Run} {i : Nat} (h : i < T.length) : nth (T ++ [r]) i = nth T i := by
  unfold nth; rw [List.getD_eq_getElem?_getD, List.getD_eq_getElem?_getD, List.getElem?_append_left h]
theorem nth_app_eq {T : List Run} {r : Run} : nth (T ++ [r]) T.length = r := by
  unfold nth; rw [List.getD_eq_getElem?_getD, List.getElem?_append_right (Nat.le_refl _)]; simp
theorem has_app1 {T : List Run} {r : Run} {x : Int} : has (T ++ [r]) x ↔ has T x ∨ inR r x := by
  rw [has_append, has_cons]
  constructor
  · rintro (h | h | h)
    · exact .inl h
    · exact .inr h
    · exact absurd h (has_nil _)
  · rintro (h | h)
    · exact .inl h
    · exact .inr (.inl h)
theorem in_of_nth {T : List Run} {i : Nat} {x : Int} (hi : i < T.length) (h : inR (nth T i) x) : has T x := ⟨_, nth_mem T i hi, h⟩
theorem TI.take {k b : Nat} {L T : List Run} {n : Int} (h : TI k L T) (hL : Can 0 L) (hb : b < L.length) (h1 : 1 ≤ n) (h20 : n ≤ 20) (h2 : n ≤ (nth L b).2) : TI k (takeAt L b n) (T ++ [((nth L b).1, n)]) := by
  have hh := takeAt_has L b 0 n hL hb h1 h2
  have inL : ∀ x, inR ((nth L b).1, n) x → has L x := fun x hx => has_nth.2 ⟨b, hb, hx.1, by have h3 : x < (nth L b).1 + n := hx.2; omega⟩
  refine ⟨fun x => ?_, fun x hx => ?_, ?_, ?_⟩
  · rw [h.cover, hh, has_app1]
    constructor
    · rintro (h3 | h3)
      · by_cases h4 : (nth L b).1 ≤ x ∧ x < (nth L b).1 + n
        · exact .inr (.inr h4)
        · exact .inl ⟨h3, h4⟩
      · exact .inr (.inl h3)
    · rintro (h3 | h3 | h3)
      · exact .inl h3.1
      · exact .inr h3
      · exact .inl (inL x h3)
  · rw [hh] at hx
    rw [has_app1]
    rintro (h3 | h3)
    · exact h.disj x hx.1 h3
    · exact hx.2 h3
  · intro i j hi hj hij x hx hx'
    simp only [List.length_append, List.length_cons, List.length_nil] at hi hj
    rcases Nat.lt_or_ge i T.length with h3 | h3 <;> rcases Nat.lt_or_ge j T.length with h4 | h4
    · rw [nth_app_lt h3] at hx; rw [nth_app_lt h4] at hx'; exact h.pair i j h3 h4 hij x hx hx'
    · obtain rfl : j = T.length := by omega
      rw [nth_app_lt h3] at hx; rw [nth_app_eq] at hx'
      exact h.disj x (inL x hx') (in_of_nth h3 hx)
    · obtain rfl : i = T.length := by omega
      rw [nth_app_lt h4] at hx'; rw [nth_app_eq] at hx
      exact h.disj x (inL x hx) (in_of_nth h4 hx')
    · omega
  · intro r hr
    rcases List.mem_append.1 hr with hr | hr
    · exact h.pos r hr
    · simp at hr; subst hr; exact ⟨h1, h20⟩
theorem TI.range {k : Nat} {L T : List Run} (h : TI k L T) (i : Nat) (hi : i < T.length) : 0 ≤ (nth T i).1 ∧ 1 ≤ (nth T i).2 ∧ (nth T i).2 ≤ 20 ∧ (nth T i).1 + (nth T i).2 ≤ k := by
  have hp := h.pos _ (nth_mem T i hi)
  have h1 := (h.cover (nth T i).1).2 (.inr (in_of_nth hi ⟨by omega, by omega⟩))
  have h2 := (h.cover ((nth T i).1 + (nth T i).2 - 1)).2 (.inr (in_of_nth hi ⟨by omega, by omega⟩))
  omega
/-! ### in which order all is given back -/
/-! ### what is kept, by types -/
def KT (ts : List TypeId) (w w' : World) : Prop := Keep (fun k => ∃ t cs, t ∈ ts ∧ Blk w k t cs) w w'
theorem blk_kt {w w' : World} {g : Nat} {t : TypeId} {cs : Array Value} {ts : List TypeId} (h : Blk w g t cs) (k : KT ts w w') (hn : t ∉ ts) : Blk w' g t cs :=
  h.keep k (by
    rintro ⟨t', cs', ht, hb⟩
    by_cases e : t = t'
    · subst e; exact hn ht
    · exact h.ne hb e rfl)
theorem own_kt {w w' : World} {base : Nat} {e : TypeId} {size : Nat} {v : Value} {n : Nat} {xs : List Value} {ts : List TypeId} (h : w.ownsRow base e size v n xs) (k : KT ts w w') (hn : e ∉ ts) : w'.ownsRow base e size v n xs := by
  refine ⟨h.1, ?_⟩
  rcases h.2 with hn' | ⟨g, cap, cur, rfl, hb, hgg, rest⟩
  · exact .inl hn'
  · exact .inr ⟨g, cap, cur, rfl, hb, blk_kt (w := w) hgg k hn, rest⟩
theorem Fr.kt {w w' : World} {g base : Nat} {L : List Run} {N : Nat} {ts : List TypeId} (f : Fr w g base L N) (k : KT ts w w') (h1 : 197 ∉ ts) (h2 : 198 ∉ ts) : Fr w' g base L N := by
  obtain ⟨v, hv⟩ := f.fre
  exact ⟨⟨v, blk_kt hv.blk k h1, own_kt hv.own k h2, hv.len, hv.bd⟩, f.can, f.upto, f.small⟩
theorem IntS.kt {w w' : World} {b : Nat} {v : Value} {zs : List Int} {ts : List TypeId} (h : IntS w b v zs) (k : KT ts w w') (h1 : 3 ∉ ts) : IntS w' b v zs := ⟨own_kt h.own k h1⟩
/-! ### an array of truths -/
def zeros300 : Array Value := Array.replicate 300 (.bool false)
def hasB (T : List Run) (x : Int) : Bool := T.any fun r => decide (r.1 ≤ x ∧ x < r.1 + r.2)
end Go.Proofs.YtjpalcejmloocaaGreat.Free
