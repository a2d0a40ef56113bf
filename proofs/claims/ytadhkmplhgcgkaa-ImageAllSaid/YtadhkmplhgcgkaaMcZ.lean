/-
  ImgAllArg, as one text (a claim has at most 60 files).
-/
import Derived.Test.YtadhkmplhgcgkaaMc53
namespace Go.Proofs.Ytadhkmplhgcgkaa.World
open Go.RowKit Go.ChangeShapes Go.WideShapes Go.Proofs.Ytadhkmplhgcgkaa.Plain
set_option maxRecDepth 100000 in
theorem imageAllArg {H : Type} {enc : TypeId × Value → H} {r : Reach} {b0 : Nat} {d d1 : DataW H} {p p1 : List MemPlace} (v v1 : Value) (w : World)
    (hv : Value.okWide Try.prog w r b0 31 v) (h : DataW.Trod enc Try.prog w 0 (fun _ => true) true 31 v d p)
    (hv1 : Value.okWide Try.prog w r b0 45 v1) (h1 : DataW.Trod enc Try.prog w 0 (fun _ => true) true 45 v1 d1 p1) :
    Calls Try.prog 7 #[v, v1] w fun e w' => e = .returned (.bool true) ∧ Below w.heap.size w w' := by
  obtain ⟨x, W, rfl, hw⟩ := open_world hv h
  obtain ⟨l, hl, hb, hn⟩ := open_bytes hv1 h1
  exact (imageAll hw hl hb hn).mono fun e w' ⟨he, hx⟩ => ⟨he, hx.below⟩
end Go.Proofs.Ytadhkmplhgcgkaa.World
