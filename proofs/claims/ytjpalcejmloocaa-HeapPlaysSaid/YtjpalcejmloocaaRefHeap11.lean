/-
  Chapter 5's reference (colloquyref05): Make where there is no room.
-/
import Derived.Test.YtjpalcejmloocaaRefHeap10
namespace Go.Proofs.Ytjpalcejmloocaa.RefHeap
open Go.RowKit Go.Proofs.Ytjpalcejmloocaa.Plain Go.Proofs.Ytjpalcejmloocaa.Free Go.Proofs.Ytjpalcejmloocaa.Heap Go.Proofs.Ytjpalcejmloocaa.RefFree
set_option linter.unusedVariables false
section
variable {w w' w2 : World} {h f ib base n : Nat} {vL : Value} {Q : List QO} {is : List Bool} {L : List Run}
set_option maxRecDepth 100000 in
set_option maxHeartbeats 4000000 in
theorem rmakeP_none (H : HAt w h f ib base n vL Q is) (FR : Frees is L) (fmt cls hash : Int) (W : Nat) (hf : fmt = 1 ∨ fmt = 2) (hW : W ≤ 60) (c0 : 0 ≤ cls) (c1 : cls ≤ 65536) (h0 : 0 ≤ hash) (h1 : hash ≤ 3000) (hb : bst L (3 + (W : Int)) L.length = none) :
    Calls Try.prog 9 #[.pointer (some ⟨h, 0, none⟩), .int .i64 fmt, .int .i64 (W : Int), .int .i64 cls, .int .i64 hash] w fun e w' => e = .returned (.tuple #[.int .i64 0, .bool false]) ∧ Ext w w' := by
  have TK := Lib.hid (rtake H.fr FR (3 + W) (by omega) (by omega))
  obtain ⟨r1, r2, r3⟩ := H.blk.rules
  have HKb := Lib.hid hb
  have f1 : 1 ≤ fmt := by omega
  have f2 : fmt ≤ 3 := by omega
  have f3 : (fmt == 3) = false := beq_eq_false_iff_ne.2 (by omega)
  have w0 : (0 : Int) ≤ (W : Int) := by omega
  have w1 : (W : Int) ≤ 60 := by omega
  clear H FR hb hf
  go_enter Try.func9, Try.ntmps9
  go_wp2_with fail
  rw [show 3 + (W : Int) = ((3 + W : Nat) : Int) by omega]
  refine TK.out.mono ?_
  rintro e w1' hpost
  obtain ⟨rfl, x⟩ := hpost.1 (by rw [show ((3 + W : Nat) : Int) = 3 + (W : Int) by omega]; exact HKb.out)
  have XH := Lib.hid x
  clear hpost x TK
  go_wp2_with fail
  go_ret2
  exact ⟨rfl, XH.out⟩
set_option maxRecDepth 100000 in
set_option maxHeartbeats 4000000 in
theorem rmakeB_none (H : HAt w h f ib base n vL Q is) (FR : Frees is L) (nb : Nat) (cls hash : Int) (W : Nat) (hn : nb ≤ 200) (hWn : W = (nb + 3) / 4) (c0 : 0 ≤ cls) (c1 : cls ≤ 65536) (h0 : 0 ≤ hash) (h1 : hash ≤ 3000) (hb : bst L (3 + (W : Int)) L.length = none) :
    Calls Try.prog 9 #[.pointer (some ⟨h, 0, none⟩), .int .i64 3, .int .i64 (nb : Int), .int .i64 cls, .int .i64 hash] w fun e w' => e = .returned (.tuple #[.int .i64 0, .bool false]) ∧ Ext w w' := by
  have TK := Lib.hid (rtake H.fr FR (3 + W) (by omega) (by omega))
  obtain ⟨r1, r2, r3⟩ := H.blk.rules
  have HKb := Lib.hid hb
  have w0 : (0 : Int) ≤ (nb : Int) := by omega
  have w1 : (nb : Int) ≤ 200 := by omega
  have e4 : ((nb : Int) + 3) / 4 = (W : Int) := by omega
  clear H FR hb hWn
  go_enter Try.func9, Try.ntmps9
  go_wp2_with fail
  rw [show 3 + (W : Int) = ((3 + W : Nat) : Int) by omega]
  refine TK.out.mono ?_
  rintro e w1' hpost
  obtain ⟨rfl, x⟩ := hpost.1 (by rw [show ((3 + W : Nat) : Int) = 3 + (W : Int) by omega]; exact HKb.out)
  have XH := Lib.hid x
  clear hpost x TK
  go_wp2_with fail
  go_ret2
  exact ⟨rfl, XH.out⟩
end
end Go.Proofs.Ytjpalcejmloocaa.RefHeap
