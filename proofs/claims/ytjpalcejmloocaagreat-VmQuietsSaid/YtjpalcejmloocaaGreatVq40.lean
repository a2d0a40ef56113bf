/-
  CutPlain, InvPlain, InvPlain2, NewPush, as one text (a claim has at most 60 files).
-/
import Derived.Test.YtjpalcejmloocaaGreatVq39
import Derived.Test.YtjpalcejmloocaaGreatVq28
namespace Go.Proofs.YtjpalcejmloocaaGreat.World
open Go.RowKit Go.Proofs.YtjpalcejmloocaaGreat.Plain
set_option linter.unusedVariables false
/-- a reading that was well is short where its bytes are cut, or reads the same -/
structure Good {α : Type} (f : RdS → α × RdS) : Prop where
  stay : ∀ s, s.e ≠ 0 → (f s).2 = s
  cut : ∀ (l : List Int) (m : Nat), (f ⟨l, 0⟩).2.e = 0 → (f ⟨l.take m, 0⟩).2.e = 3 ∨ ∃ k, k ≤ m ∧ k ≤ l.length ∧ (f ⟨l, 0⟩).2 = ⟨l.drop k, 0⟩ ∧ f ⟨l.take m, 0⟩ = ((f ⟨l, 0⟩).1, ⟨(l.drop k).take (m - k), 0⟩)
theorem Good.bind {α β : Type} {f : RdS → α × RdS} {g : α → RdS → β × RdS} (hf : Good f) (hg : ∀ a, Good (g a)) : Good (fun s => g (f s).1 (f s).2) := by
  refine ⟨fun s hs => ?_, fun l m h => ?_⟩
  · show (g (f s).1 (f s).2).2 = s
    rw [hf.stay s hs]
    exact (hg _).stay s hs
  · replace h : (g (f ⟨l, 0⟩).1 (f ⟨l, 0⟩).2).2.e = 0 := h
    have h1 : (f ⟨l, 0⟩).2.e = 0 := by
      by_cases e : (f ⟨l, 0⟩).2.e = 0
      · exact e
      · rw [(hg _).stay _ e] at h; exact absurd h e
    rcases hf.cut l m h1 with h3 | ⟨k, hk, hkl, e1, e2⟩
    · refine .inl ?_
      show (g (f ⟨l.take m, 0⟩).1 (f ⟨l.take m, 0⟩).2).2.e = 3
      rw [(hg _).stay _ (by rw [h3]; decide)]
      exact h3
    · show (g (f ⟨l.take m, 0⟩).1 (f ⟨l.take m, 0⟩).2).2.e = 3 ∨ ∃ k, k ≤ m ∧ k ≤ l.length ∧ (g (f ⟨l, 0⟩).1 (f ⟨l, 0⟩).2).2 = ⟨l.drop k, 0⟩ ∧ g (f ⟨l.take m, 0⟩).1 (f ⟨l.take m, 0⟩).2 = ((g (f ⟨l, 0⟩).1 (f ⟨l, 0⟩).2).1, ⟨(l.drop k).take (m - k), 0⟩)
      rw [e2]
      rw [e1] at h ⊢
      rcases (hg (f ⟨l, 0⟩).1).cut (l.drop k) (m - k) h with h4 | ⟨k2, hk2, hkl2, e3, e4⟩
      · exact .inl h4
      · refine .inr ⟨k + k2, by omega, by rw [List.length_drop] at hkl2; omega, ?_, ?_⟩
        · rw [e3, List.drop_drop]
        · show g (f ⟨l, 0⟩).1 ⟨(l.drop k).take (m - k), 0⟩ = _
          rw [e4, List.drop_drop, show m - (k + k2) = m - k - k2 by omega]
theorem Good.map {α β : Type} {f : RdS → α × RdS} (hf : Good f) (φ : α → β) : Good (fun s => (φ (f s).1, (f s).2)) :=
  ⟨hf.stay, fun l m h => by
    rcases hf.cut l m h with h3 | ⟨k, hk, hkl, e1, e2⟩
    · exact .inl h3
    · exact .inr ⟨k, hk, hkl, e1, by
        show (φ (f ⟨l.take m, 0⟩).1, (f ⟨l.take m, 0⟩).2) = _
        rw [e2]⟩⟩
theorem Good.pure {α : Type} (a : α) : Good (fun s => (a, s)) :=
  ⟨fun s _ => rfl, fun l m _ => .inr ⟨0, by omega, by omega, rfl, by simp⟩⟩
theorem good_take (n : Nat) : Good (takeR n) := by
  refine ⟨fun s hs => stay_take hs, fun l m h => ?_⟩
  have hn : n ≤ l.length := by
    by_cases e : n ≤ l.length
    · exact e
    · exfalso
      unfold takeR at h
      rw [if_pos rfl, if_neg e] at h
      exact absurd h (by show ¬ (3 : Int) = 0; decide)
  have e1 : takeR n ⟨l, 0⟩ = (l.take n, ⟨l.drop n, 0⟩) := by unfold takeR; rw [if_pos rfl, if_pos hn]
  by_cases hm : n ≤ m
  · refine .inr ⟨n, hm, hn, by rw [e1], ?_⟩
    unfold takeR
    rw [if_pos rfl, if_pos (by show n ≤ (l.take m).length; rw [List.length_take]; omega), if_pos rfl, if_pos hn]
    show ((l.take m).take n, _) = (l.take n, _)
    rw [List.take_take, Nat.min_eq_left hm, List.drop_take]
  · refine .inl ?_
    unfold takeR
    rw [if_pos rfl, if_neg (by show ¬ n ≤ (l.take m).length; rw [List.length_take]; omega)]
theorem good_num : Good numR := (good_take 4).map beV
theorem good_short (p : Int) (n : Int) : Good (fun s => ((if (shortR p s).e = 0 then n else 0), shortR p s)) := by
  refine ⟨fun s hs => stay_short hs, fun l m h => ?_⟩
  have hp : p ≤ (l.length : Int) := by
    by_cases e : p ≤ (l.length : Int)
    · exact e
    · exfalso
      replace h : (shortR p ⟨l, 0⟩).e = 0 := h
      unfold shortR at h
      rw [if_pos (by show (l.length : Int) < p; omega)] at h
      exact absurd h (by show ¬ (3 : Int) = 0; decide)
  have e1 : shortR p ⟨l, 0⟩ = ⟨l, 0⟩ := by unfold shortR; rw [if_neg (by show ¬ (l.length : Int) < p; omega)]
  by_cases hm : p ≤ ((l.take m).length : Int)
  · have e2 : shortR p ⟨l.take m, 0⟩ = ⟨l.take m, 0⟩ := by unfold shortR; rw [if_neg (by show ¬ ((l.take m).length : Int) < p; omega)]
    refine .inr ⟨0, by omega, by omega, e1, ?_⟩
    show ((if (shortR p ⟨l.take m, 0⟩).e = 0 then n else 0), shortR p ⟨l.take m, 0⟩) = ((if (shortR p ⟨l, 0⟩).e = 0 then n else 0), _)
    rw [e1, e2]
    simp
  · refine .inl ?_
    show (shortR p ⟨l.take m, 0⟩).e = 3
    unfold shortR
    rw [if_pos (by show ((l.take m).length : Int) < p; omega)]
    rfl
theorem good_count (each : Int) : Good (countR each) := by
  have h := good_num.bind (fun n => good_short (n * each) n)
  have e : (fun s => ((if (shortR ((numR s).1 * each) (numR s).2).e = 0 then (numR s).1 else 0), shortR ((numR s).1 * each) (numR s).2)) = countR each := by
    funext s
    unfold countR
    split <;> rfl
  rw [← e]
  exact h
theorem good_nums : ∀ k, Good (numsR k)
  | 0 => Good.pure []
  | k + 1 => (good_nums k).bind (fun l => good_num.map (fun x => l ++ [x]))
theorem good_places : Good placesR := (good_count 4).bind (fun n => good_nums n.toNat)
theorem good_waits : ∀ k, Good (waitsR k)
  | 0 => Good.pure []
  | k + 1 => (good_waits k).bind (fun l => good_num.bind (fun a => good_num.map (fun b => l ++ [(a, b)])))
end Go.Proofs.YtjpalcejmloocaaGreat.World
namespace Go.Proofs.YtjpalcejmloocaaGreat.World
open Go.RowKit Go.Proofs.YtjpalcejmloocaaGreat.Plain
set_option linter.unusedVariables false
/-- what was read well has these bytes -/
def Inv {α : Type} (f : RdS → α × RdS) (P : α → List Int → Prop) : Prop := ∀ l, okB l → (f ⟨l, 0⟩).2.e = 0 → ∃ c k, c = l.take k ∧ (f ⟨l, 0⟩).2 = ⟨l.drop k, 0⟩ ∧ k ≤ l.length ∧ P (f ⟨l, 0⟩).1 c
theorem Inv.bind {α β : Type} {f : RdS → α × RdS} {g : α → RdS → β × RdS} {P : α → List Int → Prop} {Q : α → β → List Int → Prop} {R : β → List Int → Prop} (hf : Inv f P) (hg : ∀ a, Inv (g a) (Q a)) (st : ∀ a, Good (g a)) (hR : ∀ a c b c', P a c → Q a b c' → R b (c ++ c')) : Inv (fun s => g (f s).1 (f s).2) R := by
  intro l hl h
  replace h : (g (f ⟨l, 0⟩).1 (f ⟨l, 0⟩).2).2.e = 0 := h
  have h1 : (f ⟨l, 0⟩).2.e = 0 := by
    by_cases e : (f ⟨l, 0⟩).2.e = 0
    · exact e
    · rw [(st _).stay _ e] at h; exact absurd h e
  obtain ⟨c, k, hc, e1, hk, p⟩ := hf l hl h1
  show ∃ c k, c = l.take k ∧ (g (f ⟨l, 0⟩).1 (f ⟨l, 0⟩).2).2 = ⟨l.drop k, 0⟩ ∧ k ≤ l.length ∧ R (g (f ⟨l, 0⟩).1 (f ⟨l, 0⟩).2).1 c
  rw [e1] at h ⊢
  obtain ⟨c', k', hc', e2, hk', q⟩ := hg (f ⟨l, 0⟩).1 (l.drop k) (fun x hx => hl x (List.mem_of_mem_drop hx)) h
  rw [List.length_drop] at hk'
  refine ⟨c ++ c', k + k', ?_, by rw [e2, List.drop_drop], by omega, hR _ _ _ _ p q⟩
  rw [hc, hc', List.take_add]
theorem Inv.map {α β : Type} {f : RdS → α × RdS} {P : α → List Int → Prop} {R : β → List Int → Prop} (hf : Inv f P) (φ : α → β) (hR : ∀ a c, P a c → R (φ a) c) : Inv (fun s => (φ (f s).1, (f s).2)) R := by
  intro l hl h
  obtain ⟨c, k, hc, e1, hk, p⟩ := hf l hl h
  exact ⟨c, k, hc, e1, hk, hR _ _ p⟩
theorem Inv.pure {α : Type} (a : α) {P : α → List Int → Prop} (h : P a []) : Inv (fun s => (a, s)) P := fun l _ _ => ⟨[], 0, rfl, rfl, Nat.zero_le _, h⟩
theorem inv_take (n : Nat) : Inv (takeR n) (fun bs c => c = bs ∧ bs.length = n ∧ okB bs) := by
  intro l hl h
  have hn : n ≤ l.length := by
    by_cases e : n ≤ l.length
    · exact e
    · exfalso
      unfold takeR at h
      rw [if_pos rfl, if_neg e] at h
      exact absurd h (by show ¬ (3 : Int) = 0; decide)
  have e1 : takeR n ⟨l, 0⟩ = (l.take n, ⟨l.drop n, 0⟩) := by unfold takeR; rw [if_pos rfl, if_pos hn]
  refine ⟨l.take n, n, rfl, by rw [e1], hn, ?_⟩
  rw [e1]
  exact ⟨rfl, by rw [List.length_take]; omega, fun x hx => hl x (List.mem_of_mem_take hx)⟩
def Pn (n : Int) (c : List Int) : Prop := c = b4 n ∧ 0 ≤ n ∧ n < 4294967296
theorem inv_num : Inv numR Pn := (inv_take 4).map beV (fun bs c h => by
  obtain ⟨rfl, h4, hk⟩ := h
  match c, h4, hk with
  | [a, b, d, e], _, hk =>
    have ha := hk a (by simp)
    have hb := hk b (by simp)
    have hd := hk d (by simp)
    have he := hk e (by simp)
    have ev : beV [a, b, d, e] = (((0 * 256 + a) * 256 + b) * 256 + d) * 256 + e := rfl
    refine ⟨?_, by rw [ev]; omega, by rw [ev]; omega⟩
    rw [ev]
    unfold b4
    have e1 : ((((0 * 256 + a) * 256 + b) * 256 + d) * 256 + e) / 16777216 = a := by omega
    have e2 : ((((0 * 256 + a) * 256 + b) * 256 + d) * 256 + e) / 65536 % 256 = b := by omega
    have e3 : ((((0 * 256 + a) * 256 + b) * 256 + d) * 256 + e) / 256 % 256 = d := by omega
    have e4 : ((((0 * 256 + a) * 256 + b) * 256 + d) * 256 + e) % 256 = e := by omega
    rw [e1, e2, e3, e4])
theorem inv_short (p n : Int) : Inv (fun s => ((if (shortR p s).e = 0 then n else 0), shortR p s)) (fun m c => m = n ∧ c = []) := by
  intro l hl h
  replace h : (shortR p ⟨l, 0⟩).e = 0 := h
  have hp : p ≤ (l.length : Int) := by
    by_cases e : p ≤ (l.length : Int)
    · exact e
    · exfalso
      unfold shortR at h
      rw [if_pos (by show (l.length : Int) < p; omega)] at h
      exact absurd h (by show ¬ (3 : Int) = 0; decide)
  have e1 : shortR p ⟨l, 0⟩ = ⟨l, 0⟩ := by unfold shortR; rw [if_neg (by show ¬ (l.length : Int) < p; omega)]
  refine ⟨[], 0, rfl, e1, Nat.zero_le _, ?_, rfl⟩
  show (if (shortR p ⟨l, 0⟩).e = 0 then n else 0) = n
  rw [if_pos h]
theorem inv_count (each : Int) : Inv (countR each) Pn := by
  have h := Inv.bind (R := Pn) inv_num (fun n => inv_short (n * each) n) (fun n => good_short (n * each) n) (fun a c b c' h h' => by
    obtain ⟨rfl, rfl⟩ := h'
    rw [List.append_nil]; exact h)
  have e : (fun s => ((if (shortR ((numR s).1 * each) (numR s).2).e = 0 then (numR s).1 else 0), shortR ((numR s).1 * each) (numR s).2)) = countR each := by
    funext s
    unfold countR
    split <;> rfl
  rw [← e]
  exact h
theorem inv_nums : ∀ k, Inv (numsR k) (fun l c => l.length = k ∧ c = l.flatMap b4)
  | 0 => Inv.pure [] ⟨rfl, rfl⟩
  | k + 1 => Inv.bind (inv_nums k) (fun l => inv_num.map (R := fun l' c => ∃ x, l' = l ++ [x] ∧ c = b4 x) (fun x => l ++ [x]) (fun x c h => ⟨x, rfl, h.1⟩)) (fun l => good_num.map (fun x => l ++ [x])) (fun l c b c' h h' => by
      obtain ⟨h1, h2⟩ := h
      obtain ⟨x, rfl, rfl⟩ := h'
      exact ⟨by rw [List.length_append, h1]; rfl, by rw [List.flatMap_append, h2]; simp⟩)
theorem inv_places : Inv placesR (fun l c => c = encL l) := Inv.bind (inv_count 4) (fun n => inv_nums n.toNat) (fun n => good_nums n.toNat) (fun n c l c' h h' => by
  obtain ⟨rfl, n0, n1⟩ := h
  obtain ⟨h1, rfl⟩ := h'
  unfold encL
  rw [h1, Int.toNat_of_nonneg n0])
theorem inv_waits : ∀ k, Inv (waitsR k) (fun l c => l.length = k ∧ c = l.flatMap encWt)
  | 0 => Inv.pure [] ⟨rfl, rfl⟩
  | k + 1 => Inv.bind (inv_waits k) (fun l => Inv.bind (R := fun l' c => ∃ p, l' = l ++ [p] ∧ c = encWt p) inv_num (fun a => inv_num.map (R := fun l' c => ∃ b, l' = l ++ [(a, b)] ∧ c = b4 b) (fun b => l ++ [(a, b)]) (fun b c h => ⟨b, rfl, h.1⟩)) (fun a => good_num.map (fun b => l ++ [(a, b)])) (fun a c l' c' h h' => by
        obtain ⟨b, rfl, rfl⟩ := h'
        exact ⟨(a, b), rfl, by rw [h.1]; rfl⟩)) (fun l => good_num.bind (fun a => good_num.map (fun b => l ++ [(a, b)]))) (fun l c b c' h h' => by
      obtain ⟨h1, h2⟩ := h
      obtain ⟨x, rfl, rfl⟩ := h'
      exact ⟨by rw [List.length_append, h1]; rfl, by rw [List.flatMap_append, h2]; simp⟩)
end Go.Proofs.YtjpalcejmloocaaGreat.World
namespace Go.Proofs.YtjpalcejmloocaaGreat.World
open Go.RowKit Go.Proofs.YtjpalcejmloocaaGreat.Plain
set_option linter.unusedVariables false
def mkG (L : List PT) (p f : Int) (re : List Int) (wa : List (Int × Int)) (du : List Int) (la : Int) : PW := ⟨L, [], la, ⟨p, f, re, wa, du, ByteArray.empty, ByteArray.empty, 0, 0, []⟩⟩
section
variable (L : List PT)
theorem g6 (p f : Int) (re : List Int) (wa : List (Int × Int)) (du : List Int) : Good (fun s => (mkG L p f re wa du (numR s).1, (numR s).2)) := good_num.map (fun la => mkG L p f re wa du la)
theorem i6 (p f : Int) (re : List Int) (wa : List (Int × Int)) (du : List Int) : Inv (fun s => (mkG L p f re wa du (numR s).1, (numR s).2)) (fun W c => ∃ la, W = mkG L p f re wa du la ∧ c = b4 la) := inv_num.map (fun la => mkG L p f re wa du la) (fun la c h => ⟨la, rfl, h.1⟩)
def f5 (p f : Int) (re : List Int) (wa : List (Int × Int)) (s : RdS) : PW × RdS := (mkG L p f re wa (placesR s).1 (numR (placesR s).2).1, (numR (placesR s).2).2)
theorem g5 (p f : Int) (re : List Int) (wa : List (Int × Int)) : Good (f5 L p f re wa) := good_places.bind (fun du => g6 L p f re wa du)
theorem i5 (p f : Int) (re : List Int) (wa : List (Int × Int)) : Inv (f5 L p f re wa) (fun W c => ∃ du la, W = mkG L p f re wa du la ∧ c = encL du ++ b4 la) :=
  Inv.bind inv_places (fun du => i6 L p f re wa du) (fun du => g6 L p f re wa du) (fun du c W c' h h' => by
    obtain ⟨la, rfl, rfl⟩ := h'
    exact ⟨du, la, rfl, by rw [h]⟩)
def f4 (p f : Int) (re : List Int) (m : Int) (s : RdS) : PW × RdS := f5 L p f re (waitsR m.toNat s).1 (waitsR m.toNat s).2
theorem g4 (p f : Int) (re : List Int) (m : Int) : Good (f4 L p f re m) := (good_waits m.toNat).bind (fun wa => g5 L p f re wa)
theorem i4 (p f : Int) (re : List Int) (m : Int) : Inv (f4 L p f re m) (fun W c => ∃ wa du la, W = mkG L p f re wa du la ∧ wa.length = m.toNat ∧ c = wa.flatMap encWt ++ (encL du ++ b4 la)) :=
  Inv.bind (inv_waits m.toNat) (fun wa => i5 L p f re wa) (fun wa => g5 L p f re wa) (fun wa c W c' h h' => by
    obtain ⟨du, la, rfl, rfl⟩ := h'
    exact ⟨wa, du, la, rfl, h.1, by rw [h.2]⟩)
def f3 (p f : Int) (re : List Int) (s : RdS) : PW × RdS := f4 L p f re (countR 8 s).1 (countR 8 s).2
theorem g3' (p f : Int) (re : List Int) : Good (f3 L p f re) := (good_count 8).bind (fun m => g4 L p f re m)
theorem i3 (p f : Int) (re : List Int) : Inv (f3 L p f re) (fun W c => ∃ wa du la, W = mkG L p f re wa du la ∧ c = b4 wa.length ++ (wa.flatMap encWt ++ (encL du ++ b4 la))) :=
  Inv.bind (inv_count 8) (fun m => i4 L p f re m) (fun m => g4 L p f re m) (fun m c W c' h h' => by
    obtain ⟨rfl, m0, m1⟩ := h
    obtain ⟨wa, du, la, rfl, hl, rfl⟩ := h'
    refine ⟨wa, du, la, rfl, ?_⟩
    rw [hl, Int.toNat_of_nonneg m0])
def f2 (p f : Int) (s : RdS) : PW × RdS := f3 L p f (placesR s).1 (placesR s).2
theorem g2 (p f : Int) : Good (f2 L p f) := good_places.bind (fun re => g3' L p f re)
theorem i2 (p f : Int) : Inv (f2 L p f) (fun W c => ∃ re wa du la, W = mkG L p f re wa du la ∧ c = encL re ++ (b4 wa.length ++ (wa.flatMap encWt ++ (encL du ++ b4 la)))) :=
  Inv.bind inv_places (fun re => i3 L p f re) (fun re => g3' L p f re) (fun re c W c' h h' => by
    obtain ⟨wa, du, la, rfl, rfl⟩ := h'
    exact ⟨re, wa, du, la, rfl, by rw [h]⟩)
def f1 (p : Int) (s : RdS) : PW × RdS := f2 L p (numR s).1 (numR s).2
theorem g1 (p : Int) : Good (f1 L p) := good_num.bind (fun f => g2 L p f)
theorem i1 (p : Int) : Inv (f1 L p) (fun W c => ∃ f re wa du la, W = mkG L p f re wa du la ∧ c = b4 f ++ (encL re ++ (b4 wa.length ++ (wa.flatMap encWt ++ (encL du ++ b4 la))))) :=
  Inv.bind inv_num (fun f => i2 L p f) (fun f => g2 L p f) (fun f c W c' h h' => by
    obtain ⟨re, wa, du, la, rfl, rfl⟩ := h'
    exact ⟨f, re, wa, du, la, rfl, by rw [h.1]⟩)
end
end Go.Proofs.YtjpalcejmloocaaGreat.World
namespace Go.Proofs.YtjpalcejmloocaaGreat.World
open Go.RowKit Go.Proofs.YtjpalcejmloocaaGreat.Plain
set_option linter.unusedVariables false
theorem NewW.push {w w6 : World} {base : Nat} {W : PW} {x : WV} {t : PT} {v' vF : Value} (h : NewW w base W x) (KW : Keep (fun j => x.L.ownBlock = some j) w w6)
    (o6 : w6.ownsRow base 49 6 v' (W.L.length + 1) (flat W.L.length 6 (cL W.L x.fs) ++ [.int .i64 t.cls, .int .i64 t.fmt, .int .i64 t.hash, .bool t.fin, vF, .string t.B]))
    (OW : Own w base 38 vF t.F.length 2 (cF t.F)) (hap : ∀ q, q < W.L.length → Apart vF (x.fs q)) (hn : in64 t.cls ∧ in64 t.fmt ∧ in64 t.hash ∧ t.B.size ≤ maxLen ∧ ∀ v ∈ t.F, in64 v.n) :
    NewW w6 base { W with L := W.L ++ [t] } { x with L := v', fs := fun i => if i = W.L.length then vF else x.fs i } := by
  have KT6 : KT [49] w w6 := Keep.mono KW (fun j hj => by obtain ⟨_, cs, hb⟩ := h.L.block hj; exact ⟨_, _, by simp, hb⟩)
  have hl : (W.L ++ [t]).length = W.L.length + 1 := by simp
  have L6 : Own w6 base 49 v' (W.L ++ [t]).length 6 (cL (W.L ++ [t]) (fun i => if i = W.L.length then vF else x.fs i)) := by
    show w6.ownsRow _ _ _ _ _ _
    have e1 : (List.range 6).map (cL (W.L ++ [t]) (fun i => if i = W.L.length then vF else x.fs i) W.L.length) = [.int .i64 t.cls, .int .i64 t.fmt, .int .i64 t.hash, .bool t.fin, vF, .string t.B] := by
      rw [show List.range 6 = [0, 1, 2, 3, 4, 5] from rfl]
      simp only [List.map_cons, List.map_nil, cL, cT, if_true, tAt_push W.L t W.L.length (by omega)]
    have e2 : flat W.L.length 6 (cL (W.L ++ [t]) (fun i => if i = W.L.length then vF else x.fs i)) = flat W.L.length 6 (cL W.L x.fs) := flat_congr (fun i j hi => by simp only [cL]; rw [if_neg (by omega), tAt_push W.L t i (by omega), if_neg (by omega)])
    rw [hl, flat_succ, e1, e2]
    exact o6
  refine ⟨L6, fun q hq => ?_, fun q p hq hp => ?_, h.dead.kt KT6 (by decide), h.R.kt KT6 (by decide) (by decide) (by decide), ?_⟩
  · have hq : q < W.L.length + 1 := by have := hq; simpa using this
    show Own _ _ _ (if q = W.L.length then _ else _) (tAt (W.L ++ [t]) q).F.length 2 (cF (tAt (W.L ++ [t]) q).F)
    rw [tAt_push W.L t q hq]
    by_cases e : q = W.L.length
    · rw [if_pos e, if_pos e]; exact OW.kt KT6 (by decide)
    · rw [if_neg e, if_neg e]; exact (h.fs q (by omega)).kt KT6 (by decide)
  · have hq : q < W.L.length + 1 := by have := hq; simpa using this
    show Apart (if q = W.L.length then _ else _) (if p = W.L.length then _ else _)
    rw [if_neg (by omega : p ≠ W.L.length)]
    by_cases e : q = W.L.length
    · rw [if_pos e]; exact hap p (by omega)
    · rw [if_neg e]; exact h.ap q p (by omega) hp
  · have n := h.nums
    exact ⟨n.last, n.proc, n.frame, n.how, n.exit, n.out, n.inp, n.ready, n.due, n.wait, n.snaps, fun u hu => by
      rcases List.mem_append.1 hu with hu | hu
      · exact n.things u hu
      · rw [List.mem_singleton.1 hu]; exact hn⟩
/-- another last number -/
theorem NewW.last {w : World} {base : Nat} {W : PW} {x : WV} (h : NewW w base W x) (n : Int) (hn : in64 n) : NewW w base { W with last := n } x :=
  have m := h.nums
  ⟨h.L, h.fs, h.ap, h.dead, h.R, ⟨hn, m.proc, m.frame, m.how, m.exit, m.out, m.inp, m.ready, m.due, m.wait, m.snaps, m.things⟩⟩
theorem infoWg : (Tryz.prog.info? 96).map (fun i => (i.zero, i.size, i.bytes)) = some (some (.agg #[.int .i64 0, .int .i64 0]), 2, 16) := by kernel_rfl
end Go.Proofs.YtjpalcejmloocaaGreat.World
