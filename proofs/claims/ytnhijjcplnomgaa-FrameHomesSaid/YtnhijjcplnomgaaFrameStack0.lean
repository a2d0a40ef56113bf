/-
  A slice of numbers of the call's own.
-/
import Derived.Test.YtnhijjcplnomgaaStackPlain
namespace Go.Proofs.Ytnhijjcplnomgaa.World
open Go.RowKit Go.Proofs.Ytnhijjcplnomgaa.Plain
set_option linter.unusedVariables false
/-- a slice of numbers of the call's own -/
def OwnN (w : World) (base : Nat) (v : Value) (zs : List Int) : Prop := w.ownsRow base 3 1 v zs.length (zs.map (Value.int .i64))
theorem OwnN.block {w : World} {base j : Nat} {v : Value} {zs : List Int} (h : OwnN w base v zs) (hj : v.ownBlock = some j) : base ≤ j ∧ ∃ cs, Blk w j 3 cs := by
  have h : w.ownsRow base 3 1 v zs.length (zs.map (Value.int .i64)) := h
  rcases h.2 with ⟨rfl, h0⟩ | ⟨g, cap, cur, rfl, hb, hg, _⟩
  · simp [Value.ownBlock] at hj
  · simp [Value.ownBlock] at hj
    subst hj
    exact ⟨hb, cur, hg⟩
theorem OwnN.far {w w' : World} {base : Nat} {v : Value} {zs : List Int} {P : Nat → Prop} (h : OwnN w base v zs) (k : Keep P w w') (hn : ∀ j, v.ownBlock = some j → ¬ P j) : OwnN w' base v zs := by
  have h : w.ownsRow base 3 1 v zs.length (zs.map (Value.int .i64)) := h
  refine ⟨h.1, ?_⟩
  rcases h.2 with hh | ⟨g, cap, cur, e1, h1, hg, rest⟩
  · exact .inl hh
  · exact .inr ⟨g, cap, cur, e1, h1, Blk.keep (show Blk w g 3 cur from hg) k (hn g (by rw [e1]; rfl)), rest⟩
theorem OwnN.ext {w w' : World} {base : Nat} {v : Value} {zs : List Int} (h : OwnN w base v zs) (x : Ext w w') : OwnN w' base v zs := h.far (P := fun _ => False) (Keep.of_ext x _) (fun _ _ hf => hf)
theorem OwnN.form {w : World} {base : Nat} {v : Value} {zs : List Int} (h : OwnN w base v zs) : ∃ A c, v = .slice A zs.length c := by
  have h : w.ownsRow base 3 1 v zs.length (zs.map (Value.int .i64)) := h
  rcases h.2 with ⟨rfl, h0⟩ | ⟨g, cap, cur, rfl, hb, hg, _⟩
  · exact ⟨none, 0, by rw [h0]⟩
  · exact ⟨_, _, rfl⟩
theorem OwnN.at_ {w : World} {base : Nat} {v : Value} {zs : List Int} (h : OwnN w base v zs) (i : Nat) (hi : i < zs.length) : ∃ g c, v = .slice (some ⟨g, 0, none⟩) zs.length c ∧ zs.length ≤ c ∧ c ≤ 9223372036854775807 ∧ g < w.heap.size ∧ w.cell? ⟨g, i, none⟩ = some (.int .i64 (zs.getD i 0)) ∧ ∀ j, w.frozen? ⟨g, j, none⟩ = false := by
  have h : w.ownsRow base 3 1 v zs.length (zs.map (Value.int .i64)) := h
  rcases h.2 with ⟨rfl, h0⟩ | ⟨g, cap, cur, rfl, hb, hg, hn, hcap, hsz, ht⟩
  · omega
  · have hB : Blk w g 3 cur := hg
    unfold maxLen at hcap
    refine ⟨g, cap, rfl, hn, by omega, hB.lt, ?_, hB.frozen⟩
    rw [hB.cell, ← Array.getElem?_toList]
    have e1 : (zs.map (Value.int .i64))[i]? = some (.int .i64 (zs.getD i 0)) := by
      rw [List.getElem?_map, List.getElem?_eq_getElem hi, List.getD_eq_getElem?_getD, List.getElem?_eq_getElem hi]; rfl
    rw [← ht, List.getElem?_take_of_lt (by omega)] at e1
    exact e1
theorem OwnN.nil (w : World) (base : Nat) : OwnN w base (.slice none 0 0) [] := World.ownsRow_nil _ _ _ _
theorem infoInt : (Try.prog.info? 3).map (fun i => (i.zero, i.size, i.bytes)) = some (some (.int .i64 0), 1, 8) := by kernel_rfl
end Go.Proofs.Ytnhijjcplnomgaa.World
