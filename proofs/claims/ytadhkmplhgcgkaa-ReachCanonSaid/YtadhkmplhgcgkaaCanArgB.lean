/-
  ReachCanon: of whatever argument.
-/
import Derived.Test.YtadhkmplhgcgkaaCanB
namespace Go.Proofs.Ytadhkmplhgcgkaa.World
open Go.RowKit Go.ChangeShapes Go.WideShapes Go.Proofs.Ytadhkmplhgcgkaa.Plain
set_option maxRecDepth 100000 in
theorem reachCanonArg {H : Type} {enc : TypeId × Value → H} {r : Reach} {b0 : Nat} {d : DataW H} {p : List MemPlace} (v : Value) (w : World) (hv : Value.okWide Try.prog w r b0 31 v) (h : DataW.Trod enc Try.prog w 0 (fun _ => true) true 31 v d p) :
    Calls Try.prog 6 #[v] w fun e w' => e = .returned (.bool true) ∧ Below w.heap.size w w' := by
  obtain ⟨x, W, rfl, hw⟩ := open_world hv h
  exact (reachCanon hw).mono fun e w' ⟨he, hx⟩ => ⟨he, hx.below⟩
end Go.Proofs.Ytadhkmplhgcgkaa.World
