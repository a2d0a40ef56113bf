/-
  ThingNews, plain; colloquylaw18.awake.
-/
import Derived.Test.YtnhijjcplnomgaaGreatPrimOp
namespace Go.Proofs.YtnhijjcplnomgaaGreat.World
open Go.RowKit Go.Proofs.YtnhijjcplnomgaaGreat.Plain
set_option linter.unusedVariables false
attribute [local go_sem ↓] Go.wp_at_zero Go.wp_at_succ
def T0 : MS := newS firstW 5
def T1 (c : Nat) : MS := T0.make c 0
def T2 (c k : Nat) : MS := (T1 c).make c k
structure TN (c k : Nat) : Prop where
  p0 : T0.phase = 0
  a1 : T0.makeOK c 0 = true
  a2 : T0.makeId c 0 = 23
  a3 : T0.may ⟨true, c⟩ = true
  p1 : (T1 c).phase = 0
  b1 : (T1 c).makeOK c k = true
  b2 : (T1 c).makeId c k = 24
  b3 : (T1 c).may ⟨true, c⟩ = true
  b4 : (T1 c).may ⟨false, k⟩ = true
  p2 : (T2 c k).phase = 0
  c1 : (T2 c k).hash 23 = 24
  c2 : (T2 c k).hash 24 = 25
  c3 : (c = 8 ∨ c = 9) → (T2 c k).size 23 = 0 ∧ (T2 c k).size 24 = k
  c4 : ¬ (c = 8 ∨ c = 9) → (T2 c k).size 24 = (T2 c k).size 23 + k
  c5 : (T2 c k).cls 24 = c
  c6 : (T2 c k).may ⟨true, 23⟩ = true
  c7 : (T2 c k).may ⟨true, 24⟩ = true
  c8 : -1 ≤ (T2 c k).size 23 ∧ (T2 c k).size 23 ≤ 1000
  d1 : (T2 c k).makeOK 0 0 = false
  d2 : (T2 c k).makeOK 19 0 = false
  d3 : (T2 c k).makeOK 22 0 = false
  d4 : (T2 c k).makeOK 23 0 = false
  d5 : (T2 c k).may ⟨true, 0⟩ = true
  d6 : (T2 c k).may ⟨true, 19⟩ = true
  d7 : (T2 c k).may ⟨true, 22⟩ = true
  e1 : (T2 c k).makeOK c (-1) = false
  e2 : (T2 c k).may ⟨true, c⟩ = true
  e3 : (T2 c k).may ⟨false, -1⟩ = true
theorem tn (c k : Nat) (hc : 3 ≤ c) (hc2 : c < 19) (hk : k < 30) : TN c k := by
  have h : ∀ q : Fin 16, ∀ k : Fin 30, T0.phase = 0 ∧ T0.makeOK ((3 + q.1 : Nat) : Int) 0 = true ∧ T0.makeId ((3 + q.1 : Nat) : Int) 0 = 23 ∧ T0.may ⟨true, ((3 + q.1 : Nat) : Int)⟩ = true ∧ (T1 (3 + q.1)).phase = 0 ∧ (T1 (3 + q.1)).makeOK ((3 + q.1 : Nat) : Int) k.1 = true ∧ (T1 (3 + q.1)).makeId ((3 + q.1 : Nat) : Int) k.1 = 24 ∧ (T1 (3 + q.1)).may ⟨true, ((3 + q.1 : Nat) : Int)⟩ = true ∧ (T1 (3 + q.1)).may ⟨false, k.1⟩ = true ∧ (T2 (3 + q.1) k).phase = 0 ∧ (T2 (3 + q.1) k).hash 23 = 24 ∧ (T2 (3 + q.1) k).hash 24 = 25 ∧ ((3 + q.1 = 8 ∨ 3 + q.1 = 9) → (T2 (3 + q.1) k).size 23 = 0 ∧ (T2 (3 + q.1) k).size 24 = k.1) ∧ (¬ (3 + q.1 = 8 ∨ 3 + q.1 = 9) → (T2 (3 + q.1) k).size 24 = (T2 (3 + q.1) k).size 23 + k.1) ∧ (T2 (3 + q.1) k).cls 24 = ((3 + q.1 : Nat) : Int) ∧ (T2 (3 + q.1) k).may ⟨true, 23⟩ = true ∧ (T2 (3 + q.1) k).may ⟨true, 24⟩ = true ∧ (-1 ≤ (T2 (3 + q.1) k).size 23 ∧ (T2 (3 + q.1) k).size 23 ≤ 1000) ∧ (T2 (3 + q.1) k).makeOK 0 0 = false ∧ (T2 (3 + q.1) k).makeOK 19 0 = false ∧ (T2 (3 + q.1) k).makeOK 22 0 = false ∧ (T2 (3 + q.1) k).makeOK 23 0 = false ∧ (T2 (3 + q.1) k).may ⟨true, 0⟩ = true ∧ (T2 (3 + q.1) k).may ⟨true, 19⟩ = true ∧ (T2 (3 + q.1) k).may ⟨true, 22⟩ = true ∧ (T2 (3 + q.1) k).makeOK ((3 + q.1 : Nat) : Int) (-1) = false ∧ (T2 (3 + q.1) k).may ⟨true, ((3 + q.1 : Nat) : Int)⟩ = true ∧ (T2 (3 + q.1) k).may ⟨false, -1⟩ = true := by decide +kernel
  obtain ⟨q, rfl⟩ : ∃ q, c = 3 + q := ⟨c - 3, by omega⟩
  obtain ⟨h1, h2, h3, h4, h5, h6, h7, h8, h9, h10, h11, h12, h13, h14, h15, h16, h17, h18, h19, h20, h21, h22, h23, h24, h25, h26, h27, h28⟩ := h ⟨q, by omega⟩ ⟨k, hk⟩
  exact ⟨h1, h2, h3, h4, h5, h6, h7, h8, h9, h10, h11, h12, h13, h14, h15, h16, h17, h18, h19, h20, h21, h22, h23, h24, h25, h26, h27, h28⟩
structure T18 : Prop where
  a : T0.phase = 0
  b : T0.may ⟨false, 7⟩ = true
  c : T0.may ⟨true, 7⟩ = true
  d : T0.makeOK 7 0 = true
  e : T0.makeId 7 0 = 23
theorem t18 : T18 := by
  have h : T0.phase = 0 ∧ T0.may ⟨false, 7⟩ = true ∧ T0.may ⟨true, 7⟩ = true ∧ T0.makeOK 7 0 = true ∧ T0.makeId 7 0 = 23 := by decide +kernel
  exact ⟨h.1, h.2.1, h.2.2.1, h.2.2.2.1, h.2.2.2.2⟩
section
variable {w w' w2 : World} {F F' F2 : Nat → Prop} {m : Nat}
set_option maxRecDepth 100000 in
set_option maxHeartbeats 1000000 in
theorem awake18 (w : World) : Calls Tryz.prog 28 #[] w fun e w' => e = .returned (.bool true) ∧ Ext w w' := by
  have HF := Lib.hid (@first_ w)
  have AR : Hid (∀ W, Calls Tryz.prog 56 #[.int .i64 25] W fun e w' => e = .returned (.int .i64 2) ∧ W = w') := Lib.hid (fun W => pargs W 25 (by omega))
  go_enter Tryz.func28, Tryz.ntmps28
  go_wp2_with fail
  refine HF.out.mono ?_
  clear HF
  rintro e w1 ⟨x, rfl, b1, x1⟩
  have CN := Lib.hid (objnew (W := firstW) (b1.at_ (nums_of_check first_check)) first_check rfl 5)
  have X1 := Lib.hid x1
  clear b1 x1
  generalize cellsW firstW x = cs at *
  go_wp2_with fail
  refine CN.out.mono ?_
  rintro e w2 ⟨m, F, rfl, m2, hF, x2⟩
  have X2 := Lib.hid (X1.out.trans x2)
  have FL : Hid (∀ k, F k → w.heap.size ≤ k) := Lib.hid (fun k hk => by have := hF k hk; have := X1.out.below.size; omega)
  have m2 : M w2 F m T0 := m2
  have TT := t18
  have C1 := Lib.hid (fun W [x : IsExt w2 W] => pop0r (m2.ext x.out) 22 (.inr (.inl rfl)) false 7 (.inr rfl) TT.b false true 7 (fun W' _ => pa22n W' _ 7))
  have C2 : Hid (∀ W [x : IsExt w2 W], Calls Tryz.prog 27 #[.pointer (some ⟨m, 0, none⟩), .int .i64 26, .agg #[.bool true, .int .i64 7], .slice none 0 0] W fun e w' => e = .returned (.tuple #[.agg #[.bool true, .int .i64 23], .bool true]) ∧ Goes F m (T0.make 7 0) W w') := Lib.hid (fun W x => pop0 (m2.ext x.out) 26 (.inr (.inr (.inr rfl))) true 7 (.inl rfl) TT.c true true 23 (fun W' x' => by
    have q := pa26 ((m2.ext x.out).ext x') (by rw [TT.a]; decide) 7
    rw [TT.d, TT.e] at q
    exact q))
  have i2 : IsExt w2 w2 := ⟨Ext.refl _⟩
  have LT := Lib.hid m2.lt
  clear m2 hF x2 CN X1 TT
  go_wp2_with fail
  refine (C1.out _).mono ?_
  rintro e w3 ⟨rfl, x3⟩
  have i3 : IsExt w2 w3 := ⟨x3⟩
  clear x3 C1 i2
  go_wp2_with fail
  refine calls_name (fun w4 hW => ?_)
  have i4 : IsExt w2 w4 := ⟨by rw [hW]; exact i3.out.alloc _⟩
  have b3 : Blk w4 w3.heap.size 40 #[.bool false, .int .i64 7] := by rw [hW]; exact Blk.new _ _ _
  have l3 : w2.heap.size ≤ w3.heap.size := i3.out.below.size
  clear hW i3
  generalize w3.heap.size = g3 at *
  refine (C2.out _).mono ?_
  rintro e w5 ⟨rfl, F5, m5, v5⟩
  obtain ⟨b5, nF⟩ := v5.blk b3 (fun hf => by have := LT.out _ hf; omega)
  have X5 : Hid (Ext w w5) := Lib.hid (Ext.of_below (Keep.below (X2.out.trans i4.out).below v5.keep (X2.out.trans i4.out).below.size (fun i hi h => by have := FL.out i h; omega)))
  obtain ⟨p1, p2, p3⟩ := b5.rules
  clear m5 v5 C2 i4 b3 b5 nF X2 FL LT
  go_wp2_with (go_at_call 56; refine (AR.out _).mono ?_; rintro e w' ⟨rfl, rfl⟩)
  go_ret
  exact ⟨rfl, X5.out.alloc _⟩
end
end Go.Proofs.YtnhijjcplnomgaaGreat.World
