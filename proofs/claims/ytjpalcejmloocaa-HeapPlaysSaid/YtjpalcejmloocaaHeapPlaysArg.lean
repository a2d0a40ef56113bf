/-
  HeapPlays: of whatever arguments.
-/
import Derived.Test.YtjpalcejmloocaaHeapPlays
import Derived.Test.YtjpalcejmloocaaShell
namespace Go.Proofs.Ytjpalcejmloocaa.RefHeap
open Go.RowKit Go.ChangeShapes Go.WideShapes Go.Deep Go.Proofs.Ytjpalcejmloocaa.Plain
set_option maxRecDepth 100000 in
theorem heapPlaysArg {H : Type} {enc : TypeId × Value → H} {r : Reach} {b0 : Nat} {d : DataW H} {p : List MemPlace} (words : Int) (v1 : Value) (w : World) (w0 : (Lit.int .i64 words).wf = true)
    (hv : Value.okWide Try.prog w r b0 22 v1) (h : DataW.Trod enc Try.prog w 0 (fun _ => true) true 22 v1 d p) :
    Calls Try.prog 3 #[.int .i64 words, v1] w fun e w' => e = .returned (.bool true) ∧ Below w.heap.size w w' := by
  obtain ⟨a, len, cap, zs, rfl, hl, hn⟩ := Shell.open_nums Try.underlying22 Try.underlying30 (by kernel_rfl) (by kernel_rfl) (fun j => if j < 5 then .i64 else .u32) (fun j f hj => by
    rcases j with _ | _ | _ | _ | _ | _ | j <;> simp at hj <;> subst hj
    · exact Try.underlying3
    · exact Try.underlying3
    · exact Try.underlying3
    · exact Try.underlying3
    · exact Try.underlying3
    · exact Try.underlying28) (by decide) hv h
  have key : ∀ i, i < len → ∃ g k, a = some ⟨g, k, none⟩ ∧ g < w.heap.size ∧ (∀ j, j < 5 → w.cell? ⟨g, k + i * 6 + j, none⟩ = some (.int .i64 (zs i j)) ∧ (Lit.int .i64 (zs i j)).wf = true) ∧ w.cell? ⟨g, k + i * 6 + 5, none⟩ = some (.int .u32 (zs i 5)) ∧ (Lit.int .u32 (zs i 5)).wf = true := fun i hi => by
    obtain ⟨b, off, h1, h2, h3⟩ := hn i hi
    refine ⟨b, off, h1, h2, fun j hj => ?_, h3 5 (by decide)⟩
    have q := h3 j (by show j < 6; omega)
    simp only [hj, if_true] at q
    exact q
  refine (heapPlays words a len cap (fun i => ⟨zs i 0, zs i 1, zs i 2, zs i 3, zs i 4, zs i 5⟩) w (bounds_i64 w0) ⟨fun i hi => ?_, fun i hi => ?_⟩).mono fun e w' ⟨he, hx⟩ => ⟨he, hx.below⟩
  · obtain ⟨g, k, e, hg, hc, h5, _⟩ := key i hi
    exact ⟨g, k, e, hg, by simpa using (hc 0 (by omega)).1, (hc 1 (by omega)).1, (hc 2 (by omega)).1, (hc 3 (by omega)).1, (hc 4 (by omega)).1, h5⟩
  · obtain ⟨g, k, e, hg, hc, _, h5⟩ := key i hi
    exact ⟨bounds_i64 (hc 0 (by omega)).2, (bounds_i64 (hc 1 (by omega)).2).2, bounds_i64 (hc 3 (by omega)).2, by
      have q : IntKind.u32.min ≤ zs i 5 ∧ zs i 5 ≤ IntKind.u32.max := by simpa [Lit.wf] using h5
      have e1 : IntKind.u32.min = 0 := by decide
      have e2 : IntKind.u32.max = 4294967295 := by decide
      show 0 ≤ zs i 5 ∧ zs i 5 < 4294967296
      omega⟩
end Go.Proofs.Ytjpalcejmloocaa.RefHeap
