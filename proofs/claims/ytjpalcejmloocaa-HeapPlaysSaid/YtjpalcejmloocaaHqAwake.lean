/-
  The walks of HeapRefuses and HeapWalks (chapter 5).
-/
import Derived.Test.YtjpalcejmloocaaHqMake2
import Derived.Test.YtjpalcejmloocaaHqOps
import Derived.Laws.Tables
import Derived.Laws.Rows
import Derived.Deep.DeepCutAuto
namespace Go.Proofs.Ytjpalcejmloocaa.Heap
open Go.RowKit Go.Proofs.Ytjpalcejmloocaa.Plain Go.Proofs.Ytjpalcejmloocaa.Free
set_option linter.unusedVariables false

def s0 : List Int := List.replicate 10 0
def s1 : List Int := made s0 0 2 1 0 0 1 (intW 0)
def s2 : List Int := made s1 5 2 3 3 0 2 0
def g0 : List Bool := List.replicate 11 false
def g1 : List Bool := g0.set 1 true
def g2 : List Bool := g1.set 6 true
theorem size6 : sizeI s2 g2 6 = 5 := by decide +kernel
theorem next1 : nextN g2 1 = 6 := by
  rw [next_no g2 1 (by decide) (by decide), next_no g2 2 (by decide) (by decide), next_no g2 3 (by decide) (by decide), next_no g2 4 (by decide) (by decide), next_yes g2 5 (by decide) (by decide)]
set_option maxHeartbeats 1000000 in
theorem awake (w : World) : Calls Try.prog 4 #[] w fun e w' => e = .returned (.bool true) ∧ Ext w w' := by
  go_enter Try.func4, Try.ntmps4
  go_wp2_with fail
  refine (new 10 10 10 w rfl rfl (by omega)).mono ?_
  rintro e w1 ⟨⟨h, o, rfl, H1⟩, x1⟩
  have H1 : Heap w1 h w.heap.size o s0 [(0, 10)] g0 := H1
  go_wp2_with fail
  refine (make_plain H1 1 (.inl rfl) 2 0 1 (by omega) (by omega) (by omega) (by omega) (by omega)).mono ?_
  rintro e w2 hp
  obtain ⟨k, hk, rfl, H2, K2⟩ := hp.2 0 rfl
  obtain rfl : k = 0 := by have : (0 : Int) = (k : Int) := hk; omega
  have H2 : Heap w2 h w.heap.size o s1 [(5, 5)] g1 := H2
  clear hp hk
  go_wp2_with fail
  refine (make_bytes H2 5 0 2 2 (by omega) (by omega) (by omega) (by omega) (by omega) (by omega)).mono ?_
  rintro e w3 hp
  obtain ⟨k, hk, rfl, H3, K3⟩ := hp.2 0 rfl
  obtain rfl : k = 5 := by have : (5 : Int) = (k : Int) := hk; omega
  have H3 : Heap w3 h w.heap.size o s2 [] g2 := H3
  clear hp hk
  go_wp2_with fail
  refine (make_bytes H3 0 0 3 0 (by omega) (by omega) (by omega) (by omega) (by omega) (by omega)).mono ?_
  rintro e w4 hp
  obtain ⟨rfl, x4⟩ := hp.1 rfl
  clear hp
  have H4 := H3.ext x4
  have sz := size H4 6 (by omega) (by omega)
  rw [size6] at sz
  have SZ := Lib.hid sz
  clear sz
  go_wp2_with fail
  refine SZ.out.mono ?_
  rintro e w5 ⟨rfl, x5⟩
  have nx := next (H4.ext x5) 1 1 rfl (by omega)
  rw [next1] at nx
  have NX := Lib.hid nx
  clear nx
  go_wp2_with fail
  refine NX.out.mono ?_
  rintro e w6 ⟨rfl, rfl⟩
  go_wp2_with fail
  go_ret
  exact ⟨rfl, (hk_ext (hk_ext x1 (Nat.le_refl _) K2) (Nat.le_refl _) K3).trans (x4.trans x5)⟩
end Go.Proofs.Ytjpalcejmloocaa.Heap
