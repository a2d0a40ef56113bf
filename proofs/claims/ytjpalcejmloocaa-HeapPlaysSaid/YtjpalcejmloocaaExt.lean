/-
  A world that has new blocks and draws, and is else as it was: 'ext w x' (x: the new blocks, the count of draws); it is just what 'Below w.heap.size w' says.
-/
import Derived.Test.YtjpalcejmloocaaPlain
import Derived.WalkKit
import Derived.WalkSmall
import Derived.Laws.Rows
import Derived.Deep.QuietTactic
import Derived.BigQuiet
namespace Go.Proofs.Ytjpalcejmloocaa.Plain
open Go.RowKit

structure More where
  blocks : Array Obj
  draws : Nat
theorem more_nonempty : Nonempty More := ⟨⟨#[], 0⟩⟩
attribute [instance] more_nonempty
def ext (w : World) (x : More) : World := { w with heap := w.heap ++ x.blocks, drawn := x.draws }
def Ext (w w' : World) : Prop := ∃ x, w' = ext w x

section
variable (w : World) (x : More)
theorem size_ext : (ext w x).heap.size = w.heap.size + x.blocks.size := by simp [ext]
theorem block_ext (k : Nat) (h : k < w.heap.size) : (ext w x).heap[k]? = w.heap[k]? := by simp [ext, Array.getElem?_append, h]
theorem cell_ext (b i : Nat) (h : b < w.heap.size) : (ext w x).cell? ⟨b, i, none⟩ = w.cell? ⟨b, i, none⟩ := World.cell?_of_block (w := w) (block_ext w x b h)
theorem frozen_ext (b i : Nat) (h : b < w.heap.size) : (ext w x).frozen? ⟨b, i, none⟩ = w.frozen? ⟨b, i, none⟩ := World.frozen?_of_block (w := w) (block_ext w x b h)
theorem drew_ext : (ext w x).drew = ext w ⟨x.blocks, x.draws + 1⟩ := rfl
theorem drewN_ext (n : Nat) : (ext w x).drewN n = ext w ⟨x.blocks, x.draws + n⟩ := rfl
theorem ext_ext (y : More) : ext (ext w x) y = ext w ⟨x.blocks ++ y.blocks, y.draws⟩ := by simp [ext]
theorem alloc_ext (ob : Obj) : (ext w x).alloc ob = ext w ⟨x.blocks.push ob, x.draws⟩ := by simp [ext, World.alloc]
theorem setCell_ext (b i : Nat) (v : Value) (h : b < w.heap.size) : (ext w x).setCell ⟨b, i, none⟩ v = ext (w.setCell ⟨b, i, none⟩ v) x := by
  unfold ext World.setCell
  simp only [World.mk.injEq, and_true]
  refine Array.ext_getElem? fun k => ?_
  simp only [Array.getElem?_modify, Array.getElem?_append, Array.size_modify]
  by_cases hk : k < w.heap.size
  · simp only [hk, if_true]
  · simp only [hk, if_false]
    rw [if_neg (by omega)]
end
attribute [go_sem] size_ext cell_ext frozen_ext drew_ext drewN_ext setCell_ext

theorem Ext.refl (w : World) : Ext w w := ⟨⟨#[], w.drawn⟩, by simp [ext]⟩
theorem Ext.drew {a w : World} (h : Ext a w) : Ext a w.drew := by obtain ⟨x, rfl⟩ := h; exact ⟨_, drew_ext a x⟩
theorem Ext.drewN {a w : World} (h : Ext a w) (n : Nat) : Ext a (w.drewN n) := by obtain ⟨x, rfl⟩ := h; exact ⟨_, drewN_ext a x n⟩
theorem Ext.alloc {a w : World} (h : Ext a w) (ob : Obj) : Ext a (w.alloc ob) := by obtain ⟨x, rfl⟩ := h; exact ⟨_, alloc_ext a x ob⟩
theorem Ext.ext {a w : World} (h : Ext a w) (y : More) : Ext a (ext w y) := by obtain ⟨x, rfl⟩ := h; exact ⟨_, ext_ext a x y⟩
theorem Ext.trans {a b c : World} (h : Ext a b) (k : Ext b c) : Ext a c := by obtain ⟨y, rfl⟩ := k; exact h.ext y
theorem Ext.below {a w : World} (h : Ext a w) : Below a.heap.size a w := by
  obtain ⟨x, rfl⟩ := h
  exact ⟨rfl, rfl, rfl, by rw [size_ext]; omega, fun k hk => block_ext a x k hk⟩
theorem Ext.of_below {a w : World} (h : Below a.heap.size a w) : Ext a w := by
  refine ⟨⟨w.heap.extract a.heap.size w.heap.size, w.drawn⟩, ?_⟩
  obtain ⟨h1, h2, h3, h4, h5⟩ := h
  cases w with
  | mk heap tape drawn os output =>
    simp only at h1 h2 h3 h4 h5
    subst h1; subst h2; subst h3
    simp only [Plain.ext, World.mk.injEq, and_true]
    refine Array.ext_getElem? fun k => ?_
    rw [Array.getElem?_append]
    by_cases hk : k < a.heap.size
    · rw [if_pos hk]; exact h5 k hk
    · rw [if_neg hk, Array.getElem?_extract]
      by_cases hk2 : k < heap.size
      · rw [if_pos (by omega)]; congr 1; omega
      · rw [if_neg (by omega), Array.getElem?_eq_none (by omega)]

/-! ### a block that is known whole -/
def Blk (w : World) (g : Nat) (t : TypeId) (cs : Array Value) : Prop := w.heap[g]? = some (.cells cs t (0, 0))
section
variable {w w' : World} {g : Nat} {t : TypeId} {cs : Array Value}
theorem Blk.lt (h : Blk w g t cs) : g < w.heap.size := by
  rcases Nat.lt_or_ge g w.heap.size with hlt | hge
  · exact hlt
  · unfold Blk at h; rw [Array.getElem?_eq_none hge] at h; cases h
theorem Blk.cell (h : Blk w g t cs) (i : Nat) : w.cell? ⟨g, i, none⟩ = cs[i]? := cell_of_row w g i cs t (0, 0) h
theorem Blk.frozen (h : Blk w g t cs) (i : Nat) : w.frozen? ⟨g, i, none⟩ = false := by
  unfold Blk at h
  simp [World.frozen?, h]
/-- what the walk takes for rules -/
theorem Blk.rules (h : Blk w g t cs) : (∀ i, w.cell? ⟨g, i, none⟩ = cs[i]?) ∧ (∀ i, w.frozen? ⟨g, i, none⟩ = false) ∧ g < w.heap.size := ⟨h.cell, h.frozen, h.lt⟩
theorem Blk.new (w : World) (t : TypeId) (cs : Array Value) : Blk (w.alloc (.cells cs t)) w.heap.size t cs := heap_alloc_new w _
theorem Blk.drew (h : Blk w g t cs) : Blk w.drew g t cs := h
theorem Blk.drewN (h : Blk w g t cs) (n : Nat) : Blk (w.drewN n) g t cs := h
theorem Blk.alloc (h : Blk w g t cs) (o : Obj) : Blk (w.alloc o) g t cs := (Below.heap_alloc w o g h.lt).trans h
theorem Blk.new' {W : World} (hw : W = w.alloc (.cells cs t)) : Blk W w.heap.size t cs := by rw [hw]; exact Blk.new w t cs
theorem Blk.alloc' {W : World} {o : Obj} (h : Blk w g t cs) (hw : W = w.alloc o) : Blk W g t cs := by rw [hw]; exact h.alloc o
theorem Ext.alloc' {a W : World} {o : Obj} (h : Ext a w) (hw : W = w.alloc o) : Ext a W := by rw [hw]; exact h.alloc o
theorem Blk.set (h : Blk w g t cs) (i : Nat) (u : Value) : Blk (w.setCell ⟨g, i, none⟩ u) g t (cs.setIfInBounds i u) := by
  unfold Blk at h ⊢
  simp [World.setCell, Array.getElem?_modify, h]
theorem Blk.far (h : Blk w g t cs) {p : Addr} (hp : g ≠ p.block) (u : Value) : Blk (w.setCell p u) g t cs := (Below.heap_setCell w p u g hp).trans h
theorem Blk.below {B : Nat} (h : Blk w g t cs) (hb : Below B w w') (hg : g < B) : Blk w' g t cs := (hb.block g hg).trans h
theorem Blk.ext (h : Blk w g t cs) (x : Ext w w') : Blk w' g t cs := h.below x.below h.lt
theorem Blk.ne {g' : Nat} {t' : TypeId} {cs' : Array Value} (h : Blk w g t cs) (h' : Blk w g' t' cs') (hne : t ≠ t') : g ≠ g' := by
  rintro rfl
  unfold Blk at h h'
  rw [h] at h'
  injection h' with h'
  injection h' with _ ht
  exact hne ht
end
/-! ### only the blocks of S have turned, and new ones have come -/
structure Keep (S : Nat → Prop) (w w' : World) : Prop where
  os : w'.os = w.os
  tape : w'.tape = w.tape
  output : w'.output = w.output
  size : w.heap.size ≤ w'.heap.size
  block : ∀ k, k < w.heap.size → ¬ S k → w'.heap[k]? = w.heap[k]?
section
variable {S : Nat → Prop} {a b c w w' : World}
theorem Keep.refl (S : Nat → Prop) (w : World) : Keep S w w := ⟨rfl, rfl, rfl, Nat.le_refl _, fun _ _ _ => rfl⟩
theorem Keep.trans (h : Keep S a b) (k : Keep S b c) : Keep S a c :=
  ⟨k.os.trans h.os, k.tape.trans h.tape, k.output.trans h.output, Nat.le_trans h.size k.size, fun i hi hs => (k.block i (Nat.lt_of_lt_of_le hi h.size) hs).trans (h.block i hi hs)⟩
theorem Keep.mono {S' : Nat → Prop} (h : Keep S a b) (hs : ∀ k, S k → S' k) : Keep S' a b := ⟨h.os, h.tape, h.output, h.size, fun k hk hn => h.block k hk (fun hh => hn (hs k hh))⟩
theorem Keep.of_ext (h : Ext a b) (S : Nat → Prop) : Keep S a b := ⟨h.below.os, h.below.tape, h.below.output, h.below.size, fun k hk _ => h.below.block k hk⟩
theorem Keep.ext (h : Keep S a b) (k : Ext b c) : Keep S a c := h.trans (.of_ext k S)
theorem Keep.drew (h : Keep S a b) : Keep S a b.drew := ⟨h.os, h.tape, h.output, h.size, h.block⟩
theorem Keep.drewN (h : Keep S a b) (n : Nat) : Keep S a (b.drewN n) := ⟨h.os, h.tape, h.output, h.size, h.block⟩
theorem Keep.alloc (h : Keep S a b) (o : Obj) : Keep S a (b.alloc o) := h.ext ((Ext.refl b).alloc o)
theorem Keep.setCell (h : Keep S a b) {p : Addr} (hp : S p.block) (u : Value) : Keep S a (b.setCell p u) :=
  h.trans ⟨rfl, rfl, rfl, by simp [World.setCell], fun k _ hn => Below.heap_setCell b p u k (fun e => hn (by rw [e]; exact hp))⟩
/-- a store into a block that is new since a -/
theorem Keep.setNew (h : Keep S a b) {p : Addr} (hp : a.heap.size ≤ p.block) (u : Value) : Keep S a (b.setCell p u) :=
  ⟨h.os, h.tape, h.output, by simpa [World.setCell] using h.size, fun k hk hn => (Below.heap_setCell b p u k (by omega)).trans (h.block k hk hn)⟩
theorem Blk.keep {g : Nat} {t : TypeId} {cs : Array Value} (h : Blk a g t cs) (k : Keep S a b) (hs : ¬ S g) : Blk b g t cs := (k.block g h.lt hs).trans h
theorem Keep.below {B : Nat} (h : Below B a b) (k : Keep S b c) (hB : B ≤ b.heap.size) (hs : ∀ i, i < B → ¬ S i) : Below B a c :=
  h.trans ⟨k.os, k.tape, k.output, k.size, fun i hi => k.block i (Nat.lt_of_lt_of_le hi hB) (hs i hi)⟩
/-- a world that kept all but new blocks -/
theorem Keep.toExt (h : Keep S a b) (hs : ∀ k, k < a.heap.size → ¬ S k) : Ext a b := Ext.of_below ⟨h.os, h.tape, h.output, h.size, fun k hk => h.block k hk (hs k hk)⟩
end
theorem Ext.setNew {a b : World} (h : Ext a b) {p : Addr} (hp : a.heap.size ≤ p.block) (u : Value) : Ext a (b.setCell p u) :=
  ((Keep.of_ext h (fun _ => False)).setNew hp u).toExt (fun _ _ hf => hf)
/-- a name for the world -/
theorem wp_name {P : Program} {c : Code} {Q : Exit → Act → World → Prop} {a : Act} {w : World} (h : ∀ W, W = w → c.wp P Q a W) : c.wp P Q a w := h w rfl

/-- the class of worlds that a region with reading operations and such callees goes through -/
theorem wp_region_ext {P : Program} {id : Nat} {Q : Exit → Act → World → Prop} {a : Act} {w : World} {l : List Oper} (hm : P.follows .mixedOrders = true) (hB : Region.lexB .any l.toArray = true)
    (h : wpQuiet P l.toArray (fun w' => ∃ x, w' = ext w x) (fun a' => ∀ w', (∃ x, w' = ext w x) → Q .normal a' w') l a) : (Code.region id l.toArray true).wp P Q a w :=
  wp_region_quiet (C := fun w' => ∃ x, w' = ext w x) hm hB ⟨⟨#[], w.drawn + 1⟩, by simp [ext]⟩ (by simpa using h)
/-- at a call: the callee's own new blocks and draws are added -/
theorem calls_ext {P : Program} {f : FuncId} {args : Array Value} {w : World} {x : More} {v : Value}
    (h : Calls P f args (ext w x) fun e w' => e = .returned v ∧ Ext (ext w x) w') : Calls P f args (ext w x) fun e w'' => e = .returned v ∧ ∃ x, w'' = ext w x :=
  h.mono fun _ _ ⟨he, hx⟩ => ⟨he, (Ext.trans ⟨x, rfl⟩ hx)⟩
theorem calls_same {P : Program} {f : FuncId} {args : Array Value} {w : World} {x : More} {v : Value}
    (h : Calls P f args (ext w x) fun e w' => e = .returned v ∧ ext w x = w') : Calls P f args (ext w x) fun e w'' => e = .returned v ∧ ∃ x, w'' = ext w x :=
  h.mono fun _ _ ⟨he, hx⟩ => ⟨he, x, hx.symm⟩
end Go.Proofs.Ytjpalcejmloocaa.Plain
