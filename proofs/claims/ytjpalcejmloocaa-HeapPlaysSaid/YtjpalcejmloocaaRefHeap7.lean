/-
  Chapter 5's reference (colloquyref05): New; what Make refuses; what it cuts.
-/
import Derived.Test.YtjpalcejmloocaaRefHeap6
namespace Go.Proofs.Ytjpalcejmloocaa.RefHeap
open Go.RowKit Go.Proofs.Ytjpalcejmloocaa.Plain Go.Proofs.Ytjpalcejmloocaa.Free Go.Proofs.Ytjpalcejmloocaa.Heap Go.Proofs.Ytjpalcejmloocaa.RefFree
set_option linter.unusedVariables false
section
variable {w w' w2 : World} {h f ib base n : Nat} {vL : Value} {Q Q' A B : List QO} {q : QO} {is is' : List Bool} {at_ : Int}
set_option maxRecDepth 100000 in
set_option maxHeartbeats 2000000 in
theorem rnew5 (v X : Int) (n : Nat) (w : World) (hX : (if v < 0 then 0 else v) = X) (hn : (if 65536 < X then 65536 else X) = (n : Int)) (hn2 : n ≤ 65536) :
    Calls Try.prog 6 #[.int .i64 v] w fun e w' => (∃ h f ib, e = .returned (.pointer (some ⟨h, 0, none⟩)) ∧ HAt w' h f ib w.heap.size n (.slice none 0 0) [] (clr (List.replicate n false) 0 true n)) ∧ Ext w w' := by
  have RN := Lib.hid (rnew v X n w hX hn hn2)
  clear hX hn
  go_enter Try.func6, Try.ntmps6
  go_wp2_with fail
  refine RN.out.mono ?_
  rintro e w1 ⟨⟨g, ib, rfl, F, h1, h2⟩, x1⟩
  have H1 := Lib.hid (show HAt (w1.alloc (.cells #[.slice none 0 0, .pointer (some ⟨g, 0, none⟩)] 43)) w1.heap.size g ib w.heap.size n (.slice none 0 0) [] (clr (List.replicate n false) 0 true n) from
    ⟨Blk.new _ _ _, World.ownsRow_nil _ _ _ _, F.ext ((Ext.refl _).alloc _), fun q hq => (by cases hq), fun q hq => (by cases hq), List.Pairwise.nil, List.Pairwise.nil, ⟨x1.below.size, h1, h2⟩, by simp⟩)
  have X1 := Lib.hid (x1.alloc (.cells #[.slice none 0 0, .pointer (some ⟨g, 0, none⟩)] 43))
  clear F h1 h2 x1 RN
  go_wp2_with fail
  go_ret
  exact ⟨⟨_, g, ib, rfl, H1.out⟩, X1.out⟩
/-- its list cut in two -/
theorem HAt.cuts (H : HAt w h f ib base n vL (A ++ B) is) : ∃ A1 c1 A2 c2, (∀ W, (Instr.sliceAt 40 vL none (some (.int .i64 (A.length : Int))) none).run Try.prog W = .ok (.slice A1 A.length c1) W) ∧ (∀ W, (Instr.sliceAt 40 vL (some (.int .i64 (A.length : Int))) none none).run Try.prog W = .ok (.slice A2 B.length c2) W) ∧ SrcO w A1 A.length (rowO A) ∧ SrcO w A2 B.length (rowO B) := by
  rcases H.row.2 with ⟨hv, h0⟩ | ⟨g, cap, cur, hv, _, _, hc1, hc2, _⟩
  · have e : A ++ B = [] := List.eq_nil_of_length_eq_zero h0
    obtain ⟨rfl, rfl⟩ := List.append_eq_nil_iff.1 e
    subst hv
    exact ⟨none, 0, none, 0, fun W => by kernel_rfl, fun W => by kernel_rfl, ⟨rfl, .inl ⟨rfl, rfl⟩, fun u hu => by cases hu⟩, ⟨rfl, .inl ⟨rfl, rfl⟩, fun u hu => by cases hu⟩⟩
  · obtain ⟨s1, s2⟩ := H.srcs hv
    have hl : (A ++ B).length = A.length + B.length := List.length_append
    refine ⟨_, cap, _, cap - A.length, fun W => ?_, fun W => ?_, s1, s2⟩
    · rw [hv]; exact oslice_to g _ cap A.length (by omega) W
    · rw [hv, oslice_from g _ cap A.length (by omega) hc1 W, show (A ++ B).length - A.length = B.length by omega]
end
end Go.Proofs.Ytjpalcejmloocaa.RefHeap
