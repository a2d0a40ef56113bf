/-
  Grey, as one text (a claim has at most 60 files).
-/
import Derived.Test.YtjpalcejmloocaaGreatRows
import Derived.Test.YtjpalcejmloocaaGreatCt01
import Derived.WalkKit
import Derived.RegionTactic
import Derived.BigRegion
import Derived.Lib.Hide
namespace Go.Proofs.YtjpalcejmloocaaGreat.Grey
open Go.RowKit Go.Proofs.YtjpalcejmloocaaGreat.Plain
set_option linter.unusedVariables false

def zeros : Array Value := Array.replicate 100 (.int .i64 0) ++ #[.int .i64 0, .int .i64 0, .bool false]
theorem zeros_size : zeros.size = 103 := by rfl
theorem zero_run (w : World) : (zeroValue 118).run Tryz.prog w = .ok (.agg zeros) w := by kernel_rfl
def clampM (v : Int) : Int := if 100 < v then 100 else if v < 1 then 1 else v

set_option maxHeartbeats 1000000 in
theorem new (w : World) (v : Int) :
    Calls Tryz.prog 36 #[.int .i64 v] w fun e w' => e = .returned (.pointer (some ⟨w.heap.size, 0, none⟩)) ∧ w' = w.alloc (.cells (zeros.setIfInBounds 101 (.int .i64 (clampM v))) 118) := by
  have hz := zero_run
  have hs := zeros_size
  go_enter Tryz.func36, Tryz.ntmps36
  go_wp2
  all_goals go_ret
  all_goals unfold clampM
  · rw [if_pos (by assumption)]; exact ⟨rfl, rfl⟩
  · rw [if_neg (by omega), if_neg (by omega)]; exact ⟨rfl, rfl⟩
  · by_cases h : v < 1
    · rw [if_neg (by omega), if_pos h]; exact ⟨rfl, rfl⟩
    · obtain rfl : v = 1 := by omega
      exact ⟨rfl, rfl⟩
set_option maxHeartbeats 1000000 in
theorem push_yes (w : World) (g n m : Nat) (v x : Int) (hn : n < m) (hm : m ≤ 100) (c100 : w.cell? ⟨g, 100, none⟩ = some (.int .i64 n)) (c101 : w.cell? ⟨g, 101, none⟩ = some (.int .i64 m))
    (cn : w.cell? ⟨g, n, none⟩ = some (.int .i64 x)) (fz : ∀ i, w.frozen? ⟨g, i, none⟩ = false) :
    Calls Tryz.prog 65 #[.pointer (some ⟨g, 0, none⟩), .int .i64 v] w fun e w' => e = .returned (.bool true) ∧ ∃ k, w' = ((w.setCell ⟨g, n, none⟩ (.int .i64 v)).setCell ⟨g, 100, none⟩ (.int .i64 (n + 1))).drewN k := by
  have d1 : decide ((m : Int) ≤ (n : Int)) = false := by simp; omega
  have b1 : (0 : Int) ≤ (n : Int) := by omega
  have b2 : (n : Int) < 100 := by omega
  have cn' : (w.setCell ⟨g, n, none⟩ (.int .i64 v)).cell? ⟨g, 100, none⟩ = some (.int .i64 n) := by
    rw [World.cell?_setCell_other _ _ _ _ (by intro h; injection h; omega)]; exact c100
  have fz' : ∀ i, (w.setCell ⟨g, n, none⟩ (.int .i64 v)).frozen? ⟨g, i, none⟩ = false := fun i => by simp [fz]
  go_enter Tryz.func65, Tryz.ntmps65
  go_wp2
  go_quiet (fail)
  go_wp2
  go_region
  go_wp2
  go_ret
  exact ⟨rfl, nq + 1, rfl⟩
set_option maxHeartbeats 1000000 in
theorem push_no (w : World) (g n m : Nat) (v : Int) (b : Value) (hn : m ≤ n) (c100 : w.cell? ⟨g, 100, none⟩ = some (.int .i64 n)) (c101 : w.cell? ⟨g, 101, none⟩ = some (.int .i64 m)) (c102 : w.cell? ⟨g, 102, none⟩ = some b)
    (fz : ∀ i, w.frozen? ⟨g, i, none⟩ = false) :
    Calls Tryz.prog 65 #[.pointer (some ⟨g, 0, none⟩), .int .i64 v] w fun e w' => e = .returned (.bool false) ∧ ∃ k, w' = (w.setCell ⟨g, 102, none⟩ (.bool true)).drewN k := by
  have d1 : decide ((m : Int) ≤ (n : Int)) = true := by simp; omega
  go_enter Tryz.func65, Tryz.ntmps65
  go_wp2
  go_quiet (fail)
  go_wp2
  go_ret
  exact ⟨rfl, nq, rfl⟩
set_option maxHeartbeats 1000000 in
theorem pop_yes (w : World) (g n : Nat) (x : Int) (hn : n < 100) (c100 : w.cell? ⟨g, 100, none⟩ = some (.int .i64 (n + 1)))
    (cn : w.cell? ⟨g, n, none⟩ = some (.int .i64 x)) (fz : ∀ i, w.frozen? ⟨g, i, none⟩ = false) :
    Calls Tryz.prog 59 #[.pointer (some ⟨g, 0, none⟩)] w fun e w' => e = .returned (.tuple #[.int .i64 x, .bool true]) ∧ ∃ k, w' = (w.setCell ⟨g, 100, none⟩ (.int .i64 n)).drewN k := by
  have d1 : (((n : Int) + 1) == 0) = false := by simp; omega
  have b1 : (0 : Int) ≤ (n : Int) := by omega
  have b2 : (n : Int) < 100 := by omega
  have c100' : (w.setCell ⟨g, 100, none⟩ (.int .i64 n)).cell? ⟨g, 100, none⟩ = some (.int .i64 n) := World.cell?_setCell_same _ _ _ c100
  have cn' : (w.setCell ⟨g, 100, none⟩ (.int .i64 n)).cell? ⟨g, n, none⟩ = some (.int .i64 x) := by
    rw [World.cell?_setCell_other _ _ _ _ (by intro h; injection h; omega)]; exact cn
  go_enter Tryz.func59, Tryz.ntmps59
  go_wp2
  go_quiet (fail)
  go_wp2
  go_ret2
  exact ⟨rfl, nq, rfl⟩
set_option maxHeartbeats 1000000 in
theorem pop_no (w : World) (g : Nat) (c100 : w.cell? ⟨g, 100, none⟩ = some (.int .i64 0)) :
    Calls Tryz.prog 59 #[.pointer (some ⟨g, 0, none⟩)] w fun e w' => e = .returned (.tuple #[.int .i64 0, .bool false]) ∧ w = w' := by
  go_enter Tryz.func59, Tryz.ntmps59
  go_wp2
  go_ret2
  exact ⟨rfl, rfl⟩
theorem clear (w : World) (g : Nat) (b : Value) (c102 : w.cell? ⟨g, 102, none⟩ = some b) (fz : ∀ i, w.frozen? ⟨g, i, none⟩ = false) :
    Calls Tryz.prog 63 #[.pointer (some ⟨g, 0, none⟩)] w fun e w' => e = .returned (.tuple #[]) ∧ w' = w.setCell ⟨g, 102, none⟩ (.bool false) := by
  go_enter Tryz.func63, Tryz.ntmps63
  go_wp2
  go_end0
  exact ⟨rfl, rfl⟩
theorem len (w : World) (g : Nat) (n : Value) (c100 : w.cell? ⟨g, 100, none⟩ = some n) :
    Calls Tryz.prog 112 #[.pointer (some ⟨g, 0, none⟩)] w fun e w' => e = .returned n ∧ w = w' := by
  go_enter Tryz.func112, Tryz.ntmps112
  go_wp2
  go_ret
  exact ⟨rfl, rfl⟩
theorem over (w : World) (g : Nat) (b : Value) (c102 : w.cell? ⟨g, 102, none⟩ = some b) :
    Calls Tryz.prog 61 #[.pointer (some ⟨g, 0, none⟩)] w fun e w' => e = .returned b ∧ w = w' := by
  go_enter Tryz.func61, Tryz.ntmps61
  go_wp2
  go_ret
  exact ⟨rfl, rfl⟩

/-! ### what a stack is -/
structure IsStk (w : World) (g : Nat) (L : List Int) (m : Nat) (o : Bool) (cs : Array Value) : Prop where
  blk : Blk w g 118 cs
  size : cs.size = 103
  le : L.length ≤ m
  m0 : 1 ≤ m
  m1 : m ≤ 100
  at_ : ∀ (i : Nat) (x : Int), L[i]? = some x → cs[i]? = some (.int .i64 x)
  any : ∀ i, i < 100 → ∃ x : Int, cs[i]? = some (.int .i64 x)
  n : cs[100]? = some (.int .i64 L.length)
  most : cs[101]? = some (.int .i64 m)
  over : cs[102]? = some (.bool o)
def Stk (w : World) (g : Nat) (L : List Int) (m : Nat) (o : Bool) : Prop := ∃ cs, IsStk w g L m o cs
section
variable {w w' : World} {g m : Nat} {L : List Int} {o : Bool}
theorem Stk.keep {S : Nat → Prop} (h : Stk w g L m o) (k : Keep S w w') (hs : ¬ S g) : Stk w' g L m o := by
  obtain ⟨cs, h⟩ := h
  exact ⟨cs, h.blk.keep k hs, h.size, h.le, h.m0, h.m1, h.at_, h.any, h.n, h.most, h.over⟩
theorem Stk.ext (h : Stk w g L m o) (k : Ext w w') : Stk w' g L m o := h.keep (.of_ext k (fun _ => False)) (fun h => h)
theorem Stk.lt (h : Stk w g L m o) : g < w.heap.size := by obtain ⟨cs, h⟩ := h; exact h.blk.lt
theorem Stk.le (h : Stk w g L m o) : L.length ≤ m := by obtain ⟨cs, h⟩ := h; exact h.le
theorem Stk.m1 (h : Stk w g L m o) : m ≤ 100 := by obtain ⟨cs, h⟩ := h; exact h.m1

theorem only {w w' : World} {g i j k : Nat} {u v : Value} (hw : w' = ((w.setCell ⟨g, i, none⟩ u).setCell ⟨g, j, none⟩ v).drewN k) : Keep (· = g) w w' := by
  rw [hw]; exact (((Keep.refl (· = g) w).setCell (p := ⟨g, i, none⟩) rfl u).setCell (p := ⟨g, j, none⟩) rfl v).drewN k
theorem only1 {w w' : World} {g i k : Nat} {u : Value} (hw : w' = (w.setCell ⟨g, i, none⟩ u).drewN k) : Keep (· = g) w w' := by
  rw [hw]; exact ((Keep.refl (· = g) w).setCell (p := ⟨g, i, none⟩) rfl u).drewN k

theorem new_stk (w : World) (v : Int) :
    Calls Tryz.prog 36 #[.int .i64 v] w fun e w' => e = .returned (.pointer (some ⟨w.heap.size, 0, none⟩)) ∧ Stk w' w.heap.size [] (clampM v).toNat false ∧ Ext w w' := by
  refine (new w v).mono ?_
  rintro e w' ⟨rfl, rfl⟩
  have hc : 1 ≤ clampM v ∧ clampM v ≤ 100 := by unfold clampM; split <;> (try split) <;> omega
  refine ⟨rfl, ⟨_, Blk.new _ _ _, by simp [zeros_size], by simp, by omega, by omega, by simp, fun i hi => ⟨0, ?_⟩, ?_, ?_, ?_⟩, (Ext.refl _).alloc _⟩
  · rw [Array.getElem?_setIfInBounds_ne (by omega)]
    unfold zeros
    rw [Array.getElem?_append_left (by simpa using hi), Array.getElem?_replicate, if_pos hi]
  · rw [Array.getElem?_setIfInBounds_ne (by omega)]; rfl
  · rw [Array.getElem?_setIfInBounds_self_of_lt (by rw [zeros_size]; omega)]
    have : ((clampM v).toNat : Int) = clampM v := by omega
    rw [this]
  · rw [Array.getElem?_setIfInBounds_ne (by omega)]; rfl

theorem push_y (h : Stk w g L m o) (hl : L.length < m) (v : Int) :
    Calls Tryz.prog 65 #[.pointer (some ⟨g, 0, none⟩), .int .i64 v] w fun e w' => e = .returned (.bool true) ∧ Stk w' g (L ++ [v]) m o ∧ Keep (· = g) w w' := by
  obtain ⟨cs, h⟩ := h
  have hm := h.m1
  obtain ⟨x, hx⟩ := h.any L.length (by omega)
  refine (push_yes w g L.length m v x hl h.m1 (by rw [h.blk.cell, h.n]) (by rw [h.blk.cell, h.most]) (by rw [h.blk.cell, hx]) h.blk.frozen).mono ?_
  rintro e w' ⟨rfl, k, hw⟩
  refine ⟨rfl, ⟨(cs.setIfInBounds L.length (.int .i64 v)).setIfInBounds 100 (.int .i64 (L.length + 1)), ?_⟩, only hw⟩
  have hsz := h.size
  refine ⟨by rw [hw]; exact ((h.blk.set _ _).set _ _).drewN k, by simp [h.size], by simp; omega, h.m0, h.m1, ?_, ?_, ?_, ?_, ?_⟩
  · intro i y hy
    have hi : i < (L ++ [v]).length := by
      rcases Nat.lt_or_ge i (L ++ [v]).length with h1 | h1
      · exact h1
      · rw [List.getElem?_eq_none h1] at hy; cases hy
    simp only [List.length_append, List.length_singleton] at hi
    rw [Array.getElem?_setIfInBounds_ne (by omega)]
    by_cases hil : i = L.length
    · subst hil
      rw [List.getElem?_append_right (Nat.le_refl _)] at hy
      simp at hy
      subst hy
      rw [Array.getElem?_setIfInBounds_self_of_lt (by omega)]
    · rw [Array.getElem?_setIfInBounds_ne (by omega)]
      rw [List.getElem?_append_left (by omega)] at hy
      exact h.at_ i y hy
  · intro i hi
    rw [Array.getElem?_setIfInBounds_ne (by omega)]
    by_cases hil : i = L.length
    · subst hil
      exact ⟨v, Array.getElem?_setIfInBounds_self_of_lt (by omega)⟩
    · rw [Array.getElem?_setIfInBounds_ne (by omega)]; exact h.any i hi
  · rw [Array.getElem?_setIfInBounds_self_of_lt (by simp; omega)]
    simp
  · rw [Array.getElem?_setIfInBounds_ne (by omega), Array.getElem?_setIfInBounds_ne (by omega)]; exact h.most
  · rw [Array.getElem?_setIfInBounds_ne (by omega), Array.getElem?_setIfInBounds_ne (by omega)]; exact h.over
theorem push_n (h : Stk w g L m o) (hl : ¬ L.length < m) (v : Int) :
    Calls Tryz.prog 65 #[.pointer (some ⟨g, 0, none⟩), .int .i64 v] w fun e w' => e = .returned (.bool false) ∧ Stk w' g L m true ∧ Keep (· = g) w w' := by
  obtain ⟨cs, h⟩ := h
  refine (push_no w g L.length m v (.bool o) (by omega) (by rw [h.blk.cell, h.n]) (by rw [h.blk.cell, h.most]) (by rw [h.blk.cell, h.over]) h.blk.frozen).mono ?_
  rintro e w' ⟨rfl, k, hw⟩
  have hsz := h.size
  refine ⟨rfl, ⟨cs.setIfInBounds 102 (.bool true), by rw [hw]; exact (h.blk.set _ _).drewN k, by simp [h.size], h.le, h.m0, h.m1, ?_, ?_, ?_, ?_, ?_⟩, only1 hw⟩
  · intro i y hy
    have hi : i < L.length := by
      rcases Nat.lt_or_ge i L.length with h1 | h1
      · exact h1
      · rw [List.getElem?_eq_none h1] at hy; cases hy
    have := h.le; have := h.m1
    rw [Array.getElem?_setIfInBounds_ne (by omega)]; exact h.at_ i y hy
  · intro i hi
    rw [Array.getElem?_setIfInBounds_ne (by omega)]; exact h.any i hi
  · rw [Array.getElem?_setIfInBounds_ne (by omega)]; exact h.n
  · rw [Array.getElem?_setIfInBounds_ne (by omega)]; exact h.most
  · rw [Array.getElem?_setIfInBounds_self_of_lt (by omega)]
theorem pop_y {x : Int} (h : Stk w g (L ++ [x]) m o) :
    Calls Tryz.prog 59 #[.pointer (some ⟨g, 0, none⟩)] w fun e w' => e = .returned (.tuple #[.int .i64 x, .bool true]) ∧ Stk w' g L m o ∧ Keep (· = g) w w' := by
  obtain ⟨cs, h⟩ := h
  have hm := h.m1
  have hl := h.le
  simp only [List.length_append, List.length_singleton] at hl
  have hn := h.n
  simp only [List.length_append, List.length_singleton] at hn
  refine (pop_yes w g L.length x (by omega) (by rw [h.blk.cell, hn]; simp) (by rw [h.blk.cell]; exact h.at_ L.length x (by simp)) h.blk.frozen).mono ?_
  rintro e w' ⟨rfl, k, hw⟩
  have hsz := h.size
  refine ⟨rfl, ⟨cs.setIfInBounds 100 (.int .i64 L.length), by rw [hw]; exact (h.blk.set _ _).drewN k, by simp [h.size], by omega, h.m0, h.m1, ?_, ?_, ?_, ?_, ?_⟩, only1 hw⟩
  · intro i y hy
    have hi : i < L.length := by
      rcases Nat.lt_or_ge i L.length with h1 | h1
      · exact h1
      · rw [List.getElem?_eq_none h1] at hy; cases hy
    rw [Array.getElem?_setIfInBounds_ne (by omega)]; exact h.at_ i y (by rw [List.getElem?_append_left hi]; exact hy)
  · intro i hi
    rw [Array.getElem?_setIfInBounds_ne (by omega)]; exact h.any i hi
  · rw [Array.getElem?_setIfInBounds_self_of_lt (by omega)]
  · rw [Array.getElem?_setIfInBounds_ne (by omega)]; exact h.most
  · rw [Array.getElem?_setIfInBounds_ne (by omega)]; exact h.over
theorem pop_n (h : Stk w g [] m o) :
    Calls Tryz.prog 59 #[.pointer (some ⟨g, 0, none⟩)] w fun e w' => e = .returned (.tuple #[.int .i64 0, .bool false]) ∧ w = w' := by
  obtain ⟨cs, h⟩ := h
  exact pop_no w g (by rw [h.blk.cell, h.n]; rfl)
theorem clear_stk (h : Stk w g L m o) :
    Calls Tryz.prog 63 #[.pointer (some ⟨g, 0, none⟩)] w fun e w' => e = .returned (.tuple #[]) ∧ Stk w' g L m false ∧ Keep (· = g) w w' := by
  obtain ⟨cs, h⟩ := h
  refine (clear w g (.bool o) (by rw [h.blk.cell, h.over]) h.blk.frozen).mono ?_
  rintro e w' ⟨rfl, hw⟩
  have hsz := h.size
  refine ⟨rfl, ⟨cs.setIfInBounds 102 (.bool false), by rw [hw]; exact h.blk.set _ _, by simp [h.size], h.le, h.m0, h.m1, ?_, ?_, ?_, ?_, ?_⟩, only1 (k := 0) (by rw [hw]; rfl)⟩
  · intro i y hy
    have hi : i < L.length := by
      rcases Nat.lt_or_ge i L.length with h1 | h1
      · exact h1
      · rw [List.getElem?_eq_none h1] at hy; cases hy
    have := h.le; have := h.m1
    rw [Array.getElem?_setIfInBounds_ne (by omega)]; exact h.at_ i y hy
  · intro i hi
    rw [Array.getElem?_setIfInBounds_ne (by omega)]; exact h.any i hi
  · rw [Array.getElem?_setIfInBounds_ne (by omega)]; exact h.n
  · rw [Array.getElem?_setIfInBounds_ne (by omega)]; exact h.most
  · rw [Array.getElem?_setIfInBounds_self_of_lt (by omega)]
theorem len_stk (h : Stk w g L m o) :
    Calls Tryz.prog 112 #[.pointer (some ⟨g, 0, none⟩)] w fun e w' => e = .returned (.int .i64 L.length) ∧ w = w' := by
  obtain ⟨cs, h⟩ := h
  exact len w g _ (by rw [h.blk.cell, h.n])
theorem over_stk (h : Stk w g L m o) :
    Calls Tryz.prog 61 #[.pointer (some ⟨g, 0, none⟩)] w fun e w' => e = .returned (.bool o) ∧ w = w' := by
  obtain ⟨cs, h⟩ := h
  exact over w g _ (by rw [h.blk.cell, h.over])
end
end Go.Proofs.YtjpalcejmloocaaGreat.Grey
