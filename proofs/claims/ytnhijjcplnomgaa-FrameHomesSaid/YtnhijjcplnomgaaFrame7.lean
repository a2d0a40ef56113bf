/-
  frame.Temp too many homes out; a list of numbers beside a world that is turned.
-/
import Derived.Test.YtnhijjcplnomgaaHomesPlain
import Derived.Test.YtnhijjcplnomgaaFrameStack0
namespace Go.Proofs.Ytnhijjcplnomgaa.World
open Go.RowKit Go.Proofs.Ytnhijjcplnomgaa.Plain
set_option linter.unusedVariables false
attribute [local go_sem ↓] Go.wp_at_zero Go.wp_at_succ
section
variable {w w' w2 : World} {F F' F2 : Nat → Prop} {m : Nat} {S S' : MS} {X : MX}
set_option maxRecDepth 100000 in
theorem fouter_big (h : M w F m S) (id out : Int) (ho : 8 < out) : Calls Try.prog 43 #[.pointer (some ⟨m, 0, none⟩), .int .i64 id, .int .i64 out] w fun e w' => e = .returned (.tuple #[.int .i64 0, .bool false]) ∧ Ext w w' := by
  have d1 : decide (out < 0) = false := decide_eq_false (by omega)
  have d2 : decide (8 < out) = true := decide_eq_true ho
  clear h
  go_enter Try.func43, Try.ntmps43
  go_wp2_with fail
  go_step3
  go_wp2_with fail
  simp only [Exit.noGoto]
  go_ret2
  exact ⟨rfl, is_ext _ _⟩
set_option maxRecDepth 100000 in
set_option maxHeartbeats 1000000 in
theorem ftemp_big (h : M w F m S) {id out : Int} (ho : 8 < out) (n : Int) : Calls Try.prog 17 #[.pointer (some ⟨m, 0, none⟩), .int .i64 id, .int .i64 out, .int .i64 n] w fun e w' => e = .returned (.tuple #[val dV, .bool false]) ∧ Ext w w' := by
  have C1 := Lib.hid (fun W [x : IsExt w W] => fouter_big (h.ext x.out) id out ho)
  clear h ho
  unfold val dV at *
  go_enter Try.func17, Try.ntmps17
  go_wp2_with fail
  refine (C1.out _).mono ?_
  rintro e w1 ⟨rfl, x1⟩
  have i1 : IsExt w w1 := ⟨(is_ext w _).trans x1⟩
  obtain ⟨p1, p2, p3⟩ := ((Blk.new w 40 #[.bool false, .int .i64 0]).ext x1).rules
  clear x1 C1
  go_wp2_with fail
  refine bodyPost_ret (v := .tuple #[.agg #[.bool false, .int .i64 0], .bool false]) (by simp [results, Try.results17, go_sem, p1]) rfl ⟨rfl, ?_⟩
  exact (i1.out.setNew (p := ⟨w.heap.size, 0, none⟩) (Nat.le_refl _) _).setNew (p := ⟨w.heap.size, 1, none⟩) (Nat.le_refl _) _
/-- a world that is turned, and a list of numbers beside it, all made since w -/
structure HS (w wr : World) (F : Nat → Prop) (m : Nat) (S : MS) (v : Value) (l : List Int) : Prop where
  mem : M wr F m S
  own : OwnN wr w.heap.size v l
  nf : ∀ g, v.ownBlock = some g → ¬ F g
  fl : ∀ g, F g → w.heap.size ≤ g
  x : Ext w wr
variable {wr : World} {v : Value} {l : List Int}
theorem HS.ext (h : HS w wr F m S v l) (x : Ext wr w') : HS w w' F m S v l := ⟨h.mem.ext x, h.own.ext x, h.nf, h.fl, h.x.trans x⟩
theorem HS.keep (h : HS w wr F m S v l) (k : Keep F wr w') (mm : M w' F m S') : HS w w' F m S' v l :=
  ⟨mm, h.own.far k h.nf, h.nf, h.fl, Ext.of_below (Keep.below h.x.below k h.x.below.size (fun i hi hf => by have := h.fl i hf; omega))⟩
theorem HS.goes (h : HS w wr F m S v l) (g : Goes F m S' wr w') : ∃ F', HS w w' F' m S' v l := by
  obtain ⟨F', mm, mv⟩ := g
  refine ⟨F', mm, h.own.far mv.keep h.nf, fun g hg hf => ?_, fun g hg => ?_, Ext.of_below (Keep.below h.x.below mv.keep h.x.below.size (fun i hi hf => by have := h.fl i hf; omega))⟩
  · rcases mv.new g hf with h1 | h1
    · exact h.nf g hg h1
    · obtain ⟨_, cs, hb⟩ := h.own.block hg
      have := hb.lt; omega
  · rcases mv.new g hg with h1 | h1
    · exact h.fl g h1
    · have := h.x.below.size; omega
theorem HS.app {n gg cc c : Nat} {A : Option Addr} {w3 : World} {ob : Obj} {x : Int} (h : HS w wr F m S (.slice A n c) l) (hn : l.length = n) (g : (wr.alloc ob).grownBy w3 (Value.slice A n c).ownBlock) (hat : (Value.slice A n c).ownBlock = some gg ∨ gg = wr.heap.size + 1)
    (o3 : w3.ownsRow w.heap.size 3 1 (.slice (some ⟨gg, 0, none⟩) (n + 1) cc) (n + 1) (l.map (Value.int .i64) ++ [.int .i64 x])) : HS w w3 F m S (.slice (some ⟨gg, 0, none⟩) (n + 1) cc) (l ++ [x]) := by
  have kp : Keep (fun j => (Value.slice A n c).ownBlock = some j) wr w3 := ((Keep.refl _ wr).alloc ob).trans ⟨g.os, g.tape, g.output, g.size, fun k hk hn => g.block k hk (fun e => hn e.symm)⟩
  refine ⟨h.mem.far kp (fun j hj hf => h.nf j hj hf), ?_, fun j hj hf => ?_, h.fl, Ext.of_below (Keep.below h.x.below kp h.x.below.size (fun i hi e => by have := (h.own.block e).1; omega))⟩
  · show w3.ownsRow w.heap.size 3 1 _ (l ++ [x]).length _
    rw [List.length_append, hn, List.map_append]; exact o3
  · simp [Value.ownBlock] at hj
    subst hj
    rcases hat with e | e
    · exact h.nf _ e hf
    · have := h.mem.lt _ hf; omega
end
end Go.Proofs.Ytnhijjcplnomgaa.World
