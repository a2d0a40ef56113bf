/-
  HeapPlays (chapter 5): Make on both heaps.
-/
import Derived.Test.YtjpalcejmloocaaPlaysDo
namespace Go.Proofs.Ytjpalcejmloocaa.RefHeap
open Go.RowKit Go.Proofs.Ytjpalcejmloocaa.Plain Go.Proofs.Ytjpalcejmloocaa.Free Go.Proofs.Ytjpalcejmloocaa.Heap Go.Proofs.Ytjpalcejmloocaa.RefFree
set_option linter.unusedVariables false
section
variable {w w' : World} {h q f ib b0 base : Nat} {o : O3} {vL : Value} {Q A B : List QO} {qq : QO} {S : List Int} {L : List Run} {Bg : List Bool} {is : List Bool} {at_ : Int}
theorem objs_split {A' B' : List PO} (h : objs Q = A' ++ B') : ∃ A B, Q = A ++ B ∧ objs A = A' ∧ objs B = B' := by
  obtain ⟨A, B, h1, h2, h3⟩ := List.map_eq_append_iff.1 h
  exact ⟨A, B, h1, h2, h3⟩
theorem pok_plain (k W : Nat) (fmt cls hash : Int) (hf : fmt = 1 ∨ fmt = 2) (hW : W ≤ 60) (c0 : 0 ≤ cls) (c1 : cls ≤ 65536) (h0 : 0 ≤ hash) (h1 : hash ≤ 3000) : POk ⟨k, W, fmt, cls, hash, List.replicate W (intW 0), [], 0, false⟩ :=
  ⟨.inr ⟨hf, rfl, List.length_replicate, hW⟩, ⟨c0, c1⟩, ⟨h0, h1⟩, ⟨Int.le_refl 0, show (0 : Int) ≤ 2 by decide⟩, fun x hx => (by rw [List.eq_of_mem_replicate hx]; exact intW_bd 0), fun x hx => (by cases hx)⟩
theorem pok_bytes (k W nb : Nat) (cls hash : Int) (hn : nb ≤ 200) (hW : W = (nb + 3) / 4) (c0 : 0 ≤ cls) (c1 : cls ≤ 65536) (h0 : 0 ≤ hash) (h1 : hash ≤ 3000) : POk ⟨k, W, 3, cls, hash, [], List.replicate nb 0, 0, false⟩ :=
  ⟨.inl ⟨rfl, rfl, by simpa using hn, by simpa using hW⟩, ⟨c0, c1⟩, ⟨h0, h1⟩, ⟨Int.le_refl 0, show (0 : Int) ≤ 2 by decide⟩, fun x hx => (by cases hx), fun x hx => (by rw [List.eq_of_mem_replicate hx]; exact ⟨by decide, by decide⟩)⟩
/-- a new object in both -/
theorem do_new (b : Both w h q f ib b0 base o vL Q S L Bg is) (hbb : b0 ≤ base) (few : Q.length < 100) (fmt n cls hash : Int) (p : Nat → PO) (W : Nat) (hp : ∀ k, (p k).k = k ∧ (p k).W = W) (hok : ∀ k, POk (p k)) (M : Nat → List Int) (hM : ∀ k, (M k).length = S.length) (hst : ∀ k y, ¬ inP (p k) y → (M k).getD y 0 = S.getD y 0) (hat : ∀ k, k + 3 + W ≤ S.length → PAt (M k) (Bg.set (k + 1) true) (p k))
    (h1 : ∀ V, Ext w V → Calls Try.prog 8 #[.pointer (some ⟨h, 0, none⟩), .int .i64 fmt, .int .i64 n, .int .i64 cls, .int .i64 hash] V fun e w1 => (bst L (3 + (W : Int)) L.length = none → e = .returned (.tuple #[.int .i64 0, .bool false]) ∧ Ext V w1) ∧ ∀ c, bst L (3 + (W : Int)) L.length = some c → ∃ k : Nat, (nth L c).1 = (k : Int) ∧ e = .returned (.tuple #[.int .i64 ((k : Int) + 1), .bool true]) ∧ Heap w1 h b0 o (M k) (takeAt L c (3 + (W : Int))) (Bg.set (k + 1) true) ∧ HKp b0 o V w1)
    (h2 : bst L (3 + (W : Int)) L.length = none → ∀ V, Ext w V → Calls Try.prog 9 #[.pointer (some ⟨q, 0, none⟩), .int .i64 fmt, .int .i64 n, .int .i64 cls, .int .i64 hash] V fun e w1 => e = .returned (.tuple #[.int .i64 0, .bool false]) ∧ Ext V w1)
    (h3 : ∀ (V : World) (c k : Nat) (A B : List QO), bst L (3 + (W : Int)) L.length = some c → (nth L c).1 = (k : Int) → (∀ a ∈ A, a.o.k < k) → (∀ b ∈ B, k < b.o.k) → (A ++ B).length < 100 → HAt V q f ib base S.length vL (A ++ B) is → Calls Try.prog 9 #[.pointer (some ⟨q, 0, none⟩), .int .i64 fmt, .int .i64 n, .int .i64 cls, .int .i64 hash] V fun e w1 => e = .returned (.tuple #[.int .i64 ((k : Int) + 1), .bool true]) ∧ (∃ v' vF vB, HAt w1 q f ib base S.length v' (A ++ ⟨p k, vF, vB⟩ :: B) (clr is k false (3 + W))) ∧ RK base V w1) :
    ∃ (a : Int) (ok : Bool), a ≤ 65537 ∧ Pair w h q f ib b0 base S.length Q.length o 8 9 [.int .i64 fmt, .int .i64 n, .int .i64 cls, .int .i64 hash] (.tuple #[.int .i64 a, .bool ok]) := by
  cases hb : bst L (3 + (W : Int)) L.length with
  | none => exact ⟨0, false, by decide, pair_no b (fun V x => (h1 V x).mono (fun e w1 hp => hp.1 hb)) (h2 hb)⟩
  | some c =>
    have hbl := bst_lt L _ _ _ hb
    have hm := nth_mem L c hbl
    obtain ⟨k, hk⟩ := Int.eq_ofNat_of_zero_le (b.P.fr.can.weak.ge hm).1
    obtain ⟨room, _⟩ := b.P.room (by omega) hb hk
    have hus := b.us
    obtain ⟨p1, p2⟩ := hp k
    obtain ⟨A', B', e1, hA, hB, P'⟩ := b.P.make (o := p k) (S' := M k) (by rw [p2]; exact hb) (by rw [p1]; exact hk) (hok k) (by rw [p1]; exact hat k (by omega)) (hM k) (hst k)
    obtain ⟨A, B, rfl, rfl, rfl⟩ := objs_split e1
    rw [p1, p2] at P'
    rw [p1] at hA hB
    refine ⟨(k : Int) + 1, true, by omega, pair_yes b hbb (Q' := A ++ ⟨p k, .slice none 0 0, .slice none 0 0⟩ :: B) (is' := clr is k false (3 + W)) (G := fun S' L' Bg' => S' = M k ∧ L' = takeAt L c (3 + (W : Int)) ∧ Bg' = Bg.set (k + 1) true) (by simp; omega) (fun V x => (h1 V x).mono ?_) (fun V R => (h3 V c k A B hb hk (fun a ha => hA a.o (mem_objs ha)) (fun a ha => hB a.o (mem_objs ha)) few R).mono ?_) ?_⟩
    · intro e w1 hpost
      obtain ⟨k', hk', he, H1, k1⟩ := hpost.2 c hb
      obtain rfl : k' = k := by omega
      exact ⟨he, _, _, _, H1, ⟨rfl, rfl, rfl⟩, k1⟩
    · rintro e w1 ⟨he, ⟨v', vF, vB, R1⟩, k1⟩
      exact ⟨he, ⟨v', _, R1, by simp [objs_mid], by simp⟩, k1⟩
    · rintro S' L' Bg' ⟨rfl, rfl, rfl⟩
      rw [objs_mid]
      exact ⟨P', hM k⟩
theorem do_make (b : Both w h q f ib b0 base o vL Q S L Bg is) (hbb : b0 ≤ base) (few : Q.length < 100) (fmt n cls hash : Int) :
    ∃ (a : Int) (ok : Bool), a ≤ 65537 ∧ Pair w h q f ib b0 base S.length Q.length o 8 9 [.int .i64 fmt, .int .i64 n, .int .i64 cls, .int .i64 hash] (.tuple #[.int .i64 a, .bool ok]) := by
  cases hb : badB fmt n cls hash with
  | true => exact ⟨0, false, by decide, pair_no b (fun W x => same_ext (make_no W h fmt n cls hash hb)) (fun W x => rmake_bad W q fmt n cls hash hb)⟩
  | false =>
    unfold badB at hb
    have hg := of_decide_eq_false hb
    have g : 1 ≤ fmt ∧ fmt ≤ 3 ∧ 0 ≤ n ∧ n ≤ mostI fmt ∧ 0 ≤ cls ∧ cls ≤ 65536 ∧ 0 ≤ hash ∧ hash ≤ 3000 := by omega
    obtain ⟨g1, g2, g3, g4, g5, g6, g7, g8⟩ := g
    obtain ⟨m, rfl⟩ := Int.eq_ofNat_of_zero_le g3
    by_cases hf : fmt = 3
    · subst hf
      have hm : m ≤ 200 := by have : mostI 3 = 200 := rfl; omega
      refine do_new b hbb few 3 m cls hash (fun k => ⟨k, (m + 3) / 4, 3, cls, hash, [], List.replicate m 0, 0, false⟩) ((m + 3) / 4) (fun k => ⟨rfl, rfl⟩) (fun k => pok_bytes k _ m cls hash hm rfl g5 g6 g7 g8) (fun k => made S k ((m + 3) / 4) 3 ((((m + 3) / 4 : Nat) : Int) * 4 - m) cls hash 0) (fun k => made_len' ..) (fun k y hy => made_stays _ _ _ _ _ _ _ _ rfl rfl _ hy) (fun k hfit => made_bytes_at k _ m cls hash rfl hfit b.P.blen) (fun V x => make_bytes (b.H.ext x) m cls hash _ hm rfl g5 g6 g7 g8) (fun hn V x => rmakeB_none (b.R.ext x) b.P.fr m cls hash _ hm rfl g5 g6 g7 g8 hn) (fun V c k A B hc hk hA hB hl R => rmakeB R b.P.fr m cls hash _ hm rfl g5 g6 g7 g8 hc hk hA hB hl)
    · have hf2 : fmt = 1 ∨ fmt = 2 := by omega
      have hm : m ≤ 60 := by have : mostI fmt = 60 := if_neg hf; omega
      refine do_new b hbb few fmt m cls hash (fun k => ⟨k, m, fmt, cls, hash, List.replicate m (intW 0), [], 0, false⟩) m (fun k => ⟨rfl, rfl⟩) (fun k => pok_plain k m fmt cls hash hf2 hm g5 g6 g7 g8) (fun k => made S k m fmt 0 cls hash (intW 0)) (fun k => made_len' ..) (fun k y hy => made_stays _ _ _ _ _ _ _ _ rfl rfl _ hy) (fun k hfit => made_plain_at k m fmt cls hash hf2 hfit b.P.blen) (fun V x => make_plain (b.H.ext x) fmt hf2 m cls hash hm g5 g6 g7 g8) (fun hn V x => rmakeP_none (b.R.ext x) b.P.fr fmt cls hash m hf2 hm g5 g6 g7 g8 hn) (fun V c k A B hc hk hA hB hl R => rmakeP R b.P.fr fmt cls hash m hf2 hm g5 g6 g7 g8 hc hk hA hB hl)
end
end Go.Proofs.Ytjpalcejmloocaa.RefHeap
