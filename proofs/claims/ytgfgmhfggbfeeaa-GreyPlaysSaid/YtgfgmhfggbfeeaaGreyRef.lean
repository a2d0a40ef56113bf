/-
  Contracts of the document's answer for stacks (package colloquyref09): a struct of three cells and a row of its own.
-/
import Derived.Test.YtgfgmhfggbfeeaaGreyLaws2
namespace Go.Proofs.Ytgfgmhfggbfeeaa.GreyLaws
open Go.RowKit Go.Proofs.Ytgfgmhfggbfeeaa.Plain Go.Proofs.Ytgfgmhfggbfeeaa.Word Go.Proofs.Ytgfgmhfggbfeeaa.Grey
set_option linter.unusedVariables false

structure IsRS (w : World) (g : Nat) (v : Value) (L : List Int) (m : Nat) (o : Bool) : Prop where
  blk : Blk w g 56 #[v, .int .i64 m, .bool o]
  own : w.ownsRow (g + 1) 3 1 v L.length (L.map (Value.int .i64))
theorem IsRS.keep {w w' : World} {g : Nat} {v : Value} {L : List Int} {m : Nat} {o : Bool} {S : Nat → Prop} (h : IsRS w g v L m o) (k : Keep S w w') (hs : ∀ j, g ≤ j → ¬ S j) : IsRS w' g v L m o :=
  ⟨h.blk.keep k (hs g (Nat.le_refl _)), own_keep h.own k (fun j hj => hs j (by omega))⟩
theorem IsRS.ext {w w' : World} {g : Nat} {v : Value} {L : List Int} {m : Nat} {o : Bool} (h : IsRS w g v L m o) (x : Ext w w') : IsRS w' g v L m o :=
  h.keep (Keep.of_ext x (fun _ => False)) (fun _ _ h => h)
theorem rnew (w : World) (v : Int) (K : Nat) (hK : clampM v = (K : Int)) :
    Calls Try.prog 32 #[.int .i64 v] w fun e w' => e = .returned (.pointer (some ⟨w.heap.size, 0, none⟩)) ∧ IsRS w' w.heap.size (.slice none 0 0) [] K false ∧ Ext w w' := by
  have HK := Lib.hid hK
  clear hK
  have fin : ∀ z : Int, z = clampM v → IsRS (w.alloc (.cells #[.slice none 0 0, .int .i64 z, .bool false] 56)) w.heap.size (.slice none 0 0) [] K false := by
    intro z hz
    rw [hz, HK.out]
    exact ⟨Blk.new _ _ _, World.ownsRow_nil _ _ _ _⟩
  go_enter Try.func32, Try.ntmps32
  go_wp2
  all_goals go_ret
  all_goals refine ⟨rfl, fin _ ?_, (Ext.refl _).alloc _⟩
  all_goals unfold clampM
  all_goals (split <;> (try split) <;> omega)
theorem IsRS.grown {w w3 : World} {g : Nat} {v : Value} {L : List Int} {m : Nat} {o : Bool} {ob : Obj} (h : IsRS w g v L m o) (nq : Nat) (g3 : ((w.drewN nq).alloc ob).grownBy w3 v.ownBlock) :
    Blk w3 g 56 #[v, .int .i64 m, .bool o] ∧ Keep (fun k => k = g ∨ v.ownBlock = some k) w w3 := by
  have k3 : Keep (fun k => k = g ∨ v.ownBlock = some k) w w3 := (((Keep.refl _ w).drewN nq).alloc ob).trans ((keep_grown g3).mono (fun k hk => .inr hk.symm))
  refine ⟨?_, k3⟩
  have hb : Blk ((w.drewN nq).alloc ob) g 56 #[v, .int .i64 m, .bool o] := (h.blk.drewN nq).alloc ob
  exact hb.keep (keep_grown g3) (fun e => by have := (h.own.lt g e.symm).1; omega)
theorem IsRS.stored {w3 : World} {g n : Nat} {v v' : Value} {L : List Int} {m : Nat} {o : Bool} (b : Blk w3 g 56 #[v, .int .i64 m, .bool o]) (o3 : w3.ownsRow (g + 1) 3 1 v' n (L.map (Value.int .i64))) (hn : n = L.length) : IsRS (w3.setCell ⟨g, 0, none⟩ v') g v' L m o := by
  subst hn
  refine ⟨b.set 0 v', own_keep o3 ((Keep.refl (· = g) w3).setCell (p := ⟨g, 0, none⟩) rfl v') (fun j hj h => by omega)⟩
theorem rpush_y {w : World} {g : Nat} {v : Value} {L : List Int} {m : Nat} {o : Bool} (h : IsRS w g v L m o) (hl : L.length < m) (hm : m ≤ 100) (x : Int) :
    Calls Try.prog 34 #[.pointer (some ⟨g, 0, none⟩), .int .i64 x] w fun e w' => e = .returned (.bool true) ∧ (∃ v', IsRS w' g v' (L ++ [x]) m o) ∧ Keep (fun k => k = g ∨ v.ownBlock = some k) w w' := by
  obtain ⟨i0, hi, hz0, hz1, hz2⟩ := info_parts info3
  obtain ⟨A, c, rfl⟩ := own_form h.own
  obtain ⟨r1, r2, r3⟩ := h.blk.rules
  have d1 : decide ((m : Int) ≤ (L.length : Int)) = false := by simp; omega
  have d2 : decide (m ≤ L.length) = false := by simp; omega
  have ho := h.own
  go_enter Try.func34, Try.ntmps34
  go_wp2
  go_quiet (fail)
  go_wp2_with (at_builtin; refine wpList_append_own _ rfl _ _ 54 rfl (g + 1) 3 i0 (.int .i64 0) 1 8 Try.underlying54 hi hz0 hz1 hz2 rfl (by decide) _ _ _ rfl ((ho : (w.drewN nq).ownsRow _ _ _ _ _ _).alloc _) ⟨w.heap.size, 0, none⟩ 1 1 [.int .i64 x] rfl rfl (news1 _ _ _) (int_one _) (by unfold maxLen; omega) (by omega) (by simp; omega) ?_; intro v' w3 o3 g3 _; obtain ⟨A', c', rfl⟩ := own_form o3; obtain ⟨b3, k3⟩ := h.grown nq g3; obtain ⟨q1, q2, q3⟩ := b3.rules)
  go_ret
  refine ⟨rfl, ⟨_, IsRS.stored b3 (n := L.length + 1) (by simpa using o3) (by simp)⟩, k3.setCell (p := ⟨g, 0, none⟩) (.inl rfl) _⟩
theorem rpush_n {w : World} {g : Nat} {v : Value} {L : List Int} {m : Nat} {o : Bool} (h : IsRS w g v L m o) (hl : ¬ L.length < m) (hm : m ≤ 100) (hl2 : L.length ≤ 100) (x : Int) :
    Calls Try.prog 34 #[.pointer (some ⟨g, 0, none⟩), .int .i64 x] w fun e w' => e = .returned (.bool false) ∧ (∃ v', IsRS w' g v' L m true) ∧ Keep (fun k => k = g ∨ v.ownBlock = some k) w w' := by
  obtain ⟨A, c, rfl⟩ := own_form h.own
  obtain ⟨r1, r2, r3⟩ := h.blk.rules
  have d1 : decide ((m : Int) ≤ (L.length : Int)) = true := by simp; omega
  have d2 : decide (m ≤ L.length) = true := by simp; omega
  have ho := h.own
  go_enter Try.func34, Try.ntmps34
  go_wp2
  go_quiet (fail)
  go_wp2
  go_ret
  have kk : Keep (· = g) w ((w.setCell ⟨g, 2, none⟩ (.bool true)).drewN nq) := ((Keep.refl (· = g) w).setCell (p := ⟨g, 2, none⟩) rfl _).drewN nq
  exact ⟨rfl, ⟨_, (h.blk.set 2 (.bool true)).drewN nq, own_keep ho kk (fun j hj h => by omega)⟩, kk.mono (fun k hk => .inl hk)⟩
theorem rpop_y {w : World} {g : Nat} {v : Value} {L : List Int} {m : Nat} {o : Bool} {x : Int} (h : IsRS w g v (L ++ [x]) m o) (hm : L.length ≤ 100) :
    Calls Try.prog 36 #[.pointer (some ⟨g, 0, none⟩)] w fun e w' => e = .returned (.tuple #[.int .i64 x, .bool true]) ∧ (∃ v', IsRS w' g v' L m o) ∧ Keep (fun k => k = g ∨ v.ownBlock = some k) w w' := by
  obtain ⟨gr, c, rfl, hg, hn, hcap, hcell, ho⟩ := own_last h.own
  unfold maxLen at hcap
  obtain ⟨r1, r2, r3⟩ := h.blk.rules
  go_enter Try.func36, Try.ntmps36
  go_wp2
  go_ret2
  have kk : Keep (· = g) w (w.setCell ⟨g, 0, none⟩ (.slice (some ⟨gr, 0, none⟩) L.length c)) := (Keep.refl (· = g) w).setCell (p := ⟨g, 0, none⟩) rfl _
  exact ⟨rfl, ⟨_, h.blk.set 0 _, own_keep ho kk (fun j hj h => by omega)⟩, kk.mono (fun k hk => .inl hk)⟩
theorem rpop_n {w : World} {g : Nat} {v : Value} {m : Nat} {o : Bool} (h : IsRS w g v [] m o) :
    Calls Try.prog 36 #[.pointer (some ⟨g, 0, none⟩)] w fun e w' => e = .returned (.tuple #[.int .i64 0, .bool false]) ∧ w = w' := by
  obtain ⟨A, c, rfl⟩ := own_form h.own
  obtain ⟨r1, r2, r3⟩ := h.blk.rules
  simp only [List.length_nil] at r1
  go_enter Try.func36, Try.ntmps36
  go_wp2
  go_ret2
  exact ⟨rfl, rfl⟩
end Go.Proofs.Ytgfgmhfggbfeeaa.GreyLaws
