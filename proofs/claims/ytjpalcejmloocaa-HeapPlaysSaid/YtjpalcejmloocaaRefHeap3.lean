/-
  Chapter 5's reference (colloquyref05): Size, Field, Byte, SetField, SetByte.
-/
import Derived.Test.YtjpalcejmloocaaRefHeap2
namespace Go.Proofs.Ytjpalcejmloocaa.RefHeap
open Go.RowKit Go.Proofs.Ytjpalcejmloocaa.Plain Go.Proofs.Ytjpalcejmloocaa.Free Go.Proofs.Ytjpalcejmloocaa.Heap Go.Proofs.Ytjpalcejmloocaa.RefFree
set_option linter.unusedVariables false
/-- what Get answers -/
structure GO where
  a0 : Int
  a1 : Int
  a2 : Int
  a3 : Int
  a4 : Int
  a7 : Int
  a8 : Bool
  AF : Option Addr
  lF : Nat
  cF : Nat
  AB : Option Addr
  lB : Nat
  cB : Nat
  ok : Bool
def GotO (w : World) (h : Nat) (at_ : Int) (G : GO) : Prop := ∀ W, Ext w W → Calls Try.prog 34 #[.pointer (some ⟨h, 0, none⟩), .int .i64 at_] W fun e w' => e = .returned (.tuple #[.agg #[.int .i64 G.a0, .int .i64 G.a1, .int .i64 G.a2, .int .i64 G.a3, .int .i64 G.a4, .slice G.AF G.lF G.cF, .slice G.AB G.lB G.cB, .int .i64 G.a7, .bool G.a8], .bool G.ok]) ∧ Ext W w'
section
variable {w : World} {h : Nat} {at_ : Int} {G : GO}
set_option maxRecDepth 100000 in
set_option maxHeartbeats 2000000 in
theorem size_of (GT : GotO w h at_ G) (hl : G.lF ≤ 1000 ∧ G.lB ≤ 1000) : Calls Try.prog 38 #[.pointer (some ⟨h, 0, none⟩), .int .i64 at_] w fun e w' => e = .returned (.int .i64 (if G.ok then (G.lF : Int) + G.lB else -1)) ∧ Ext w w' := by
  have GH := Lib.hid GT
  obtain ⟨a0, a1, a2, a3, a4, a7, a8, AF, lF, cF, AB, lB, cB, ok⟩ := G
  unfold GotO at GH
  simp only at GH hl ⊢
  obtain ⟨l1, l2⟩ := hl
  clear GT
  go_enter Try.func38, Try.ntmps38
  go_wp2_with fail
  refine (GH.out _ (Ext.refl _)).mono ?_
  rintro e w1 ⟨rfl, x1⟩
  have X1 := Lib.hid x1
  clear x1 GH
  cases ok
  · go_wp2_with fail
    go_ret
    exact ⟨rfl, X1.out.alloc _⟩
  · go_wp2_with fail
    go_ret
    exact ⟨rfl, X1.out.alloc _⟩
set_option maxRecDepth 100000 in
set_option maxHeartbeats 2000000 in
theorem field_out (GT : GotO w h at_ G) (i : Int) (hl : G.lF ≤ 1000) (hi : i < 0 ∨ (G.lF : Int) ≤ i) : Calls Try.prog 43 #[.pointer (some ⟨h, 0, none⟩), .int .i64 at_, .int .i64 i] w fun e w' => e = .returned (.int .u32 0) ∧ Ext w w' := by
  have GH := Lib.hid GT
  obtain ⟨a0, a1, a2, a3, a4, a7, a8, AF, lF, cF, AB, lB, cB, ok⟩ := G
  unfold GotO at GH
  simp only at GH hl hi ⊢
  clear GT
  go_enter Try.func43, Try.ntmps43
  go_wp2_with fail
  refine (GH.out _ (Ext.refl _)).mono ?_
  rintro e w1 ⟨rfl, x1⟩
  have X1 := Lib.hid x1
  clear x1 GH
  by_cases h0 : i < 0
  · clear hi
    go_wp2_with fail
    go_ret
    exact ⟨rfl, X1.out.alloc _⟩
  · have h1 : (lF : Int) ≤ i := by omega
    clear hi
    go_wp2_with fail
    go_ret
    exact ⟨rfl, X1.out.alloc _⟩
set_option maxRecDepth 100000 in
set_option maxHeartbeats 2000000 in
theorem field_in (GT : GotO w h at_ G) (i : Nat) (hl : G.lF ≤ 1000) (hi : i < G.lF) (x : Int) {g : Nat} (hA : G.AF = some ⟨g, 0, none⟩) (hg : g < w.heap.size) (hc : w.cell? ⟨g, i, none⟩ = some (.int .u32 x)) : Calls Try.prog 43 #[.pointer (some ⟨h, 0, none⟩), .int .i64 at_, .int .i64 i] w fun e w' => e = .returned (.int .u32 x) ∧ Ext w w' := by
  have GH := Lib.hid GT
  obtain ⟨a0, a1, a2, a3, a4, a7, a8, AF, lF, cF, AB, lB, cB, ok⟩ := G
  unfold GotO at GH
  simp only at GH hl hi hA ⊢
  subst hA
  clear GT
  go_enter Try.func43, Try.ntmps43
  go_wp2_with fail
  refine (GH.out _ (Ext.refl _)).mono ?_
  rintro e w1 ⟨rfl, x1⟩
  have c1 := (x1.below.cell (p := ⟨g, i, none⟩) hg).trans hc
  have g1 := Nat.lt_of_lt_of_le hg x1.below.size
  have X1 := Lib.hid x1
  have i0 : (0 : Int) ≤ (i : Int) := by omega
  have i1 : (i : Int) < (lF : Int) := by omega
  clear x1 GH hc
  go_wp2_with fail
  go_ret
  exact ⟨rfl, X1.out.alloc _⟩
set_option maxRecDepth 100000 in
set_option maxHeartbeats 2000000 in
theorem byte_out (GT : GotO w h at_ G) (i : Int) (hl : G.lB ≤ 1000) (hi : i < 0 ∨ (G.lB : Int) ≤ i) : Calls Try.prog 45 #[.pointer (some ⟨h, 0, none⟩), .int .i64 at_, .int .i64 i] w fun e w' => e = .returned (.int .i64 (-1)) ∧ Ext w w' := by
  have GH := Lib.hid GT
  obtain ⟨a0, a1, a2, a3, a4, a7, a8, AF, lF, cF, AB, lB, cB, ok⟩ := G
  unfold GotO at GH
  simp only at GH hl hi ⊢
  clear GT
  go_enter Try.func45, Try.ntmps45
  go_wp2_with fail
  refine (GH.out _ (Ext.refl _)).mono ?_
  rintro e w1 ⟨rfl, x1⟩
  have X1 := Lib.hid x1
  clear x1 GH
  by_cases h0 : i < 0
  · clear hi
    go_wp2_with fail
    go_ret
    exact ⟨rfl, X1.out.alloc _⟩
  · have h1 : (lB : Int) ≤ i := by omega
    clear hi
    go_wp2_with fail
    go_ret
    exact ⟨rfl, X1.out.alloc _⟩
set_option maxRecDepth 100000 in
set_option maxHeartbeats 2000000 in
theorem byte_in (GT : GotO w h at_ G) (i : Nat) (hl : G.lB ≤ 1000) (hi : i < G.lB) (x : Int) (x0 : 0 ≤ x ∧ x < 256) {g : Nat} (hA : G.AB = some ⟨g, 0, none⟩) (hg : g < w.heap.size) (hc : w.cell? ⟨g, i, none⟩ = some (.int .u8 x)) : Calls Try.prog 45 #[.pointer (some ⟨h, 0, none⟩), .int .i64 at_, .int .i64 i] w fun e w' => e = .returned (.int .i64 x) ∧ Ext w w' := by
  have GH := Lib.hid GT
  obtain ⟨a0, a1, a2, a3, a4, a7, a8, AF, lF, cF, AB, lB, cB, ok⟩ := G
  unfold GotO at GH
  simp only at GH hl hi hA ⊢
  subst hA
  clear GT
  have hw : IntKind.i64.wrap x = x := IntWalk.i64_in x (by omega)
  go_enter Try.func45, Try.ntmps45
  go_wp2_with fail
  refine (GH.out _ (Ext.refl _)).mono ?_
  rintro e w1 ⟨rfl, x1⟩
  have c1 := (x1.below.cell (p := ⟨g, i, none⟩) hg).trans hc
  have g1 := Nat.lt_of_lt_of_le hg x1.below.size
  have X1 := Lib.hid x1
  have i0 : (0 : Int) ≤ (i : Int) := by omega
  have i1 : (i : Int) < (lB : Int) := by omega
  clear x1 GH hc
  go_wp2_with fail
  go_ret
  exact ⟨rfl, X1.out.alloc _⟩
set_option maxRecDepth 100000 in
set_option maxHeartbeats 2000000 in
theorem setf_out (GT : GotO w h at_ G) (i y : Int) (hl : G.lF ≤ 1000) (hi : i < 0 ∨ (G.lF : Int) ≤ i) : Calls Try.prog 14 #[.pointer (some ⟨h, 0, none⟩), .int .i64 at_, .int .i64 i, .int .u32 y] w fun e w' => e = .returned (.bool false) ∧ Ext w w' := by
  have GH := Lib.hid GT
  obtain ⟨a0, a1, a2, a3, a4, a7, a8, AF, lF, cF, AB, lB, cB, ok⟩ := G
  unfold GotO at GH
  simp only at GH hl hi ⊢
  clear GT
  go_enter Try.func14, Try.ntmps14
  go_wp2_with fail
  refine (GH.out _ (Ext.refl _)).mono ?_
  rintro e w1 ⟨rfl, x1⟩
  have X1 := Lib.hid x1
  clear x1 GH
  by_cases h0 : i < 0
  · clear hi
    go_wp2_with fail
    go_ret
    exact ⟨rfl, X1.out.alloc _⟩
  · have h1 : (lF : Int) ≤ i := by omega
    clear hi
    go_wp2_with fail
    go_ret
    exact ⟨rfl, X1.out.alloc _⟩
set_option maxRecDepth 100000 in
set_option maxHeartbeats 2000000 in
theorem setf_in (GT : GotO w h at_ G) (i : Nat) (y : Int) (hl : G.lF ≤ 1000) (hi : i < G.lF) (x : Value) {g : Nat} (hA : G.AF = some ⟨g, 0, none⟩) (hg : g < w.heap.size) (hc : w.cell? ⟨g, i, none⟩ = some x) (hf : w.frozen? ⟨g, i, none⟩ = false) : Calls Try.prog 14 #[.pointer (some ⟨h, 0, none⟩), .int .i64 at_, .int .i64 i, .int .u32 y] w fun e w' => e = .returned (.bool true) ∧ ∃ w1, Ext w w1 ∧ Ext (w1.setCell ⟨g, i, none⟩ (.int .u32 y)) w' := by
  have GH := Lib.hid GT
  obtain ⟨a0, a1, a2, a3, a4, a7, a8, AF, lF, cF, AB, lB, cB, ok⟩ := G
  unfold GotO at GH
  simp only at GH hl hi hA ⊢
  subst hA
  clear GT
  go_enter Try.func14, Try.ntmps14
  go_wp2_with fail
  refine (GH.out _ (Ext.refl _)).mono ?_
  rintro e w1 ⟨rfl, x1⟩
  have c1 := (x1.below.cell (p := ⟨g, i, none⟩) hg).trans hc
  have f1 := (x1.below.frozen (p := ⟨g, i, none⟩) hg).trans hf
  have g1 := Nat.lt_of_lt_of_le hg x1.below.size
  have X1 := Lib.hid x1
  have i0 : (0 : Int) ≤ (i : Int) := by omega
  have i1 : (i : Int) < (lF : Int) := by omega
  clear x1 GH hc hf
  go_wp2_with fail
  go_ret
  exact ⟨rfl, w1, X1.out, (Ext.refl _).alloc _⟩
set_option maxRecDepth 100000 in
set_option maxHeartbeats 2000000 in
theorem setb_out (GT : GotO w h at_ G) (i y : Int) (hl : G.lB ≤ 1000) (hi : i < 0 ∨ (G.lB : Int) ≤ i) : Calls Try.prog 16 #[.pointer (some ⟨h, 0, none⟩), .int .i64 at_, .int .i64 i, .int .i64 y] w fun e w' => e = .returned (.bool false) ∧ Ext w w' := by
  have GH := Lib.hid GT
  obtain ⟨a0, a1, a2, a3, a4, a7, a8, AF, lF, cF, AB, lB, cB, ok⟩ := G
  unfold GotO at GH
  simp only at GH hl hi ⊢
  clear GT
  go_enter Try.func16, Try.ntmps16
  go_wp2_with fail
  refine (GH.out _ (Ext.refl _)).mono ?_
  rintro e w1 ⟨rfl, x1⟩
  have X1 := Lib.hid x1
  clear x1 GH
  by_cases h0 : i < 0
  · clear hi
    go_wp2_with fail
    go_ret
    exact ⟨rfl, X1.out.alloc _⟩
  · have h1 : (lB : Int) ≤ i := by omega
    clear hi
    go_wp2_with fail
    go_ret
    exact ⟨rfl, X1.out.alloc _⟩
set_option maxRecDepth 100000 in
set_option maxHeartbeats 2000000 in
theorem setb_in (GT : GotO w h at_ G) (i : Nat) (y : Int) (hl : G.lB ≤ 1000) (hi : i < G.lB) (x : Value) {g : Nat} (hA : G.AB = some ⟨g, 0, none⟩) (hg : g < w.heap.size) (hc : w.cell? ⟨g, i, none⟩ = some x) (hf : w.frozen? ⟨g, i, none⟩ = false) : Calls Try.prog 16 #[.pointer (some ⟨h, 0, none⟩), .int .i64 at_, .int .i64 i, .int .i64 y] w fun e w' => e = .returned (.bool true) ∧ ∃ w1, Ext w w1 ∧ Ext (w1.setCell ⟨g, i, none⟩ (.int .u8 (y % 256))) w' := by
  have GH := Lib.hid GT
  obtain ⟨a0, a1, a2, a3, a4, a7, a8, AF, lF, cF, AB, lB, cB, ok⟩ := G
  unfold GotO at GH
  simp only at GH hl hi hA ⊢
  subst hA
  clear GT
  have hw : IntKind.u8.wrap y = y % 256 := rfl
  go_enter Try.func16, Try.ntmps16
  go_wp2_with fail
  refine (GH.out _ (Ext.refl _)).mono ?_
  rintro e w1 ⟨rfl, x1⟩
  have c1 := (x1.below.cell (p := ⟨g, i, none⟩) hg).trans hc
  have f1 := (x1.below.frozen (p := ⟨g, i, none⟩) hg).trans hf
  have g1 := Nat.lt_of_lt_of_le hg x1.below.size
  have X1 := Lib.hid x1
  have i0 : (0 : Int) ≤ (i : Int) := by omega
  have i1 : (i : Int) < (lB : Int) := by omega
  clear x1 GH hc hf
  go_wp2_with fail
  go_ret
  exact ⟨rfl, w1, X1.out, (Ext.refl _).alloc _⟩
end
end Go.Proofs.Ytjpalcejmloocaa.RefHeap
