/-
  Free2, Store, as one text (a claim has at most 60 files).
-/
import Derived.Test.YtjpalcejmloocaaGreatVq02
import Derived.Test.YtjpalcejmloocaaGreatRows
import Derived.Test.YtjpalcejmloocaaGreatVq01
import Derived.WalkKit
import Derived.StillTailTactics
import Derived.Laws.CopyOwn
import Derived.Lib.Hide
namespace Go.Proofs.YtjpalcejmloocaaGreat.Free
open Go.RowKit Go.Proofs.YtjpalcejmloocaaGreat.Plain
set_option linter.unusedVariables false

def allL (n : Nat) : List Run := if n = 0 then [] else [(0, (n : Int))]
set_option maxHeartbeats 1000000 in
theorem new (v M : Int) (n : Nat) (w : World) (hM : (if 65536 < v then 65536 else v) = M) (hn : (if 0 < M then M else 0) = (n : Int)) (hn2 : n ≤ 65536) :
    Calls Tryz.prog 133 #[.int .i64 v] w fun e w' => e = .returned (.pointer (some ⟨w.heap.size, 0, none⟩)) ∧ (∃ u, Fre w' w.heap.size w.heap.size u (allL n) n) ∧ Ext w w' := by
  rcases Nat.eq_zero_or_pos n with h0 | h0
  · subst h0
    go_enter Tryz.func133, Tryz.ntmps133
    go_wp2
    go_ret
    refine ⟨rfl, ⟨.slice none 0 0, Blk.new _ _ _, World.ownsRow_nil _ _ _ _, by simp [allL], by simp [allL]⟩, (Ext.refl _).alloc _⟩
  · have d1 : (0 : Int) < (n : Int) := by omega
    obtain rfl : M = (n : Int) := by split at hn <;> omega
    go_enter Tryz.func133, Tryz.ntmps133
    go_wp2
    go_ret
    have e : allL n = [(0, (n : Int))] := by unfold allL; rw [if_neg (by omega)]
    rw [e]
    have hb : Blk ((w.alloc (.cells #[.int .i64 n, .slice (some ⟨w.heap.size + 1, 0, none⟩) 1 1] 197)).alloc (.cells #[.int .i64 0, .int .i64 n] 198)) (w.heap.size + 1) 198 #[.int .i64 0, .int .i64 n] := by
      have := Blk.new (w.alloc (.cells #[.int .i64 n, .slice (some ⟨w.heap.size + 1, 0, none⟩) 1 1] 197)) 198 #[.int .i64 0, .int .i64 n]
      rw [World.size_alloc] at this
      exact this
    refine ⟨rfl, ⟨.slice (some ⟨w.heap.size + 1, 0, none⟩) 1 1, (Blk.new _ _ _).alloc _, ?_, by simp, ?_⟩, ((Ext.refl _).alloc _).alloc _⟩
    · refine ⟨rfl, .inr ⟨w.heap.size + 1, 1, _, rfl, by omega, hb, by simp, by unfold maxLen; omega, rfl, rfl⟩⟩
    · intro r hr
      simp at hr
      subst hr
      exact ⟨by simp, by show (1 : Int) ≤ (n : Int); omega, by simp; omega⟩
def sumTo (L : List Run) : Nat → Int
  | 0 => 0
  | k + 1 => sumTo L k + (nth L k).2
def wordsL (L : List Run) : Int := sumTo L L.length
theorem sumTo_bd {L : List Run} (h : ∀ r ∈ L, 0 ≤ r.1 ∧ 1 ≤ r.2 ∧ r.1 + r.2 ≤ 65536) (k : Nat) (hk : k ≤ L.length) : 0 ≤ sumTo L k ∧ sumTo L k ≤ k * 65536 := by
  induction k with
  | zero => simp [sumTo]
  | succ k ih =>
    have := ih (by omega)
    have := h _ (nth_mem L k (by omega))
    simp only [sumTo]
    omega
end Go.Proofs.YtjpalcejmloocaaGreat.Free
namespace Go.Proofs.YtjpalcejmloocaaGreat.Store
open Go.RowKit Go.Proofs.YtjpalcejmloocaaGreat.Plain
set_option linter.unusedVariables false

theorem info28 : (Tryz.prog.info? 128).map (fun i => (i.zero, i.size, i.bytes)) = some (some (.int .u32 0), 1, 4) := by kernel_rfl
theorem make_run (n : Nat) (hn : n ≤ 65536) (w : World) : (Instr.makeSlice 192 (.int .i64 (n : Int)) (.int .i64 (n : Int))).run Tryz.prog w = .ok (.slice (some ⟨w.heap.size, 0, none⟩) n n) (w.alloc (.cells (Array.replicate n (.int .u32 0)) 128)) := by
  obtain ⟨i0, hi, hz0, hz1, hz2⟩ := info_parts info28
  have h := run_make (P := Tryz.prog) w 192 128 i0 (.int .u32 0) Tryz.underlying192 hi hz0 .i64 .i64 (n : Int) (n : Int) (by omega) (by omega) (by rw [hz2]; omega) (by omega)
  rw [h]
  have e : madeCells (Value.cells (.int .u32 0)) ((n : Int).toNat * i0.size) = Array.replicate n (.int .u32 0) := by
    rw [hz1, Nat.mul_one, Int.toNat_natCast]
    apply Array.ext
    · simp [madeCells]
    · intro j h1 h2
      simp [madeCells, Value.cells, Nat.mod_one]
  rw [e, Int.toNat_natCast]
set_option maxHeartbeats 1000000 in
theorem new (v M : Int) (n : Nat) (w : World) (hM : (if 65536 < v then 65536 else v) = M) (hn : (if 0 < M then M else 0) = (n : Int)) (hn2 : n ≤ 65536) :
    Calls Tryz.prog 132 #[.int .i64 v] w fun e w' => e = .returned (.pointer (some ⟨w.heap.size + 1, 0, none⟩)) ∧ w' = (w.alloc (.cells (Array.replicate n (.int .u32 0)) 128)).alloc (.cells #[.slice (some ⟨w.heap.size, 0, none⟩) n n] 194) := by
  have hmk := make_run n hn2
  go_enter Tryz.func132, Tryz.ntmps132
  go_wp2
  go_ret
  exact ⟨rfl, rfl⟩
theorem len (w : World) (g n : Nat) (a : Option Addr) (c : w.cell? ⟨g, 0, none⟩ = some (.slice a n n)) :
    Calls Tryz.prog 134 #[.pointer (some ⟨g, 0, none⟩)] w fun e w' => e = .returned (.int .i64 n) ∧ w = w' := by
  go_enter Tryz.func134, Tryz.ntmps134
  go_wp2
  go_ret
  exact ⟨rfl, rfl⟩
theorem get_in (w : World) (g b n i : Nat) (x : Int) (hi : i < n) (hn : n ≤ 65536) (c : w.cell? ⟨g, 0, none⟩ = some (.slice (some ⟨b, 0, none⟩) n n)) (cx : w.cell? ⟨b, i, none⟩ = some (.int .u32 x)) :
    Calls Tryz.prog 143 #[.pointer (some ⟨g, 0, none⟩), .int .i64 i] w fun e w' => e = .returned (.int .u32 x) ∧ w = w' := by
  have d1 : decide (n ≤ i) = false := by simp; omega
  go_enter Tryz.func143, Tryz.ntmps143
  go_wp2
  go_ret
  exact ⟨rfl, rfl⟩
theorem get_out (w : World) (g n : Nat) (at_ : Int) (a : Option Addr) (hi : at_ < 0 ∨ 0 ≤ at_ ∧ (n : Int) ≤ at_) (c : w.cell? ⟨g, 0, none⟩ = some (.slice a n n)) :
    Calls Tryz.prog 143 #[.pointer (some ⟨g, 0, none⟩), .int .i64 at_] w fun e w' => e = .returned (.int .u32 0) ∧ w = w' := by
  rcases hi with hi | ⟨h0, hi⟩
  · go_enter Tryz.func143, Tryz.ntmps143
    go_wp2
    go_ret
    exact ⟨rfl, rfl⟩
  · have d0 : decide (at_ < 0) = false := by simp; omega
    have d1 : decide ((n : Int) ≤ at_) = true := by simpa using hi
    go_enter Tryz.func143, Tryz.ntmps143
    go_wp2
    go_ret
    exact ⟨rfl, rfl⟩
theorem put_in (w : World) (g b n i : Nat) (x v : Int) (hi : i < n) (hn : n ≤ 65536) (c : w.cell? ⟨g, 0, none⟩ = some (.slice (some ⟨b, 0, none⟩) n n)) (cx : w.cell? ⟨b, i, none⟩ = some (.int .u32 x)) (fz : w.frozen? ⟨b, i, none⟩ = false) :
    Calls Tryz.prog 137 #[.pointer (some ⟨g, 0, none⟩), .int .i64 i, .int .u32 v] w fun e w' => e = .returned (.bool true) ∧ w' = w.setCell ⟨b, i, none⟩ (.int .u32 v) := by
  have d1 : decide (n ≤ i) = false := by simp; omega
  go_enter Tryz.func137, Tryz.ntmps137
  go_wp2
  go_ret
  exact ⟨rfl, rfl⟩
structure Sto (w : World) (g b : Nat) (L : List Int) : Prop where
  head : Blk w g 194 #[.slice (some ⟨b, 0, none⟩) L.length L.length]
  row : Blk w b 128 (L.map (Value.int .u32)).toArray
  le : L.length ≤ 65536
section
variable {w w' : World} {g b : Nat} {L : List Int}
theorem Sto.ne (h : Sto w g b L) : g ≠ b := h.head.ne h.row (by decide)
theorem Sto.keep {S : Nat → Prop} (h : Sto w g b L) (k : Keep S w w') (h1 : ¬ S g) (h2 : ¬ S b) : Sto w' g b L := ⟨h.head.keep k h1, h.row.keep k h2, h.le⟩
theorem Sto.ext (h : Sto w g b L) (k : Ext w w') : Sto w' g b L := h.keep (.of_ext k (fun _ => False)) (fun h => h) (fun h => h)
theorem row_at (L : List Int) (i : Nat) (hi : i < L.length) : (L.map (Value.int .u32)).toArray[i]? = some (.int .u32 (L.getD i 0)) := by
  simp [List.getD, hi]
theorem new_sto (v M : Int) (n : Nat) (w : World) (hM : (if 65536 < v then 65536 else v) = M) (hn : (if 0 < M then M else 0) = (n : Int)) (hn2 : n ≤ 65536) :
    Calls Tryz.prog 132 #[.int .i64 v] w fun e w' => e = .returned (.pointer (some ⟨w.heap.size + 1, 0, none⟩)) ∧ Sto w' (w.heap.size + 1) w.heap.size (List.replicate n 0) ∧ Ext w w' := by
  refine (new v M n w hM hn hn2).mono ?_
  rintro e w' ⟨rfl, rfl⟩
  have e1 : (Array.replicate n (Value.int .u32 0)) = ((List.replicate n (0 : Int)).map (Value.int .u32)).toArray := by simp
  refine ⟨rfl, ⟨?_, ?_, by simpa using hn2⟩, ((Ext.refl _).alloc _).alloc _⟩
  · have h := Blk.new (w.alloc (.cells (Array.replicate n (.int .u32 0)) 128)) 194 #[.slice (some ⟨w.heap.size, 0, none⟩) n n]
    rw [World.size_alloc] at h
    simpa using h
  · rw [← e1]; exact (Blk.new _ _ _).alloc _
theorem len_sto (h : Sto w g b L) : Calls Tryz.prog 134 #[.pointer (some ⟨g, 0, none⟩)] w fun e w' => e = .returned (.int .i64 L.length) ∧ w = w' :=
  len w g L.length _ (h.head.cell 0)
def getL (L : List Int) (i : Int) : Int := if 0 ≤ i ∧ i < L.length then L.getD i.toNat 0 else 0
theorem get_sto (h : Sto w g b L) (i : Int) : Calls Tryz.prog 143 #[.pointer (some ⟨g, 0, none⟩), .int .i64 i] w fun e w' => e = .returned (.int .u32 (getL L i)) ∧ w = w' := by
  unfold getL
  by_cases h1 : 0 ≤ i ∧ i < L.length
  · rw [if_pos h1]
    obtain ⟨k, rfl⟩ := Int.eq_ofNat_of_zero_le h1.1
    rw [Int.toNat_natCast]
    exact get_in w g b L.length k _ (by omega) h.le (h.head.cell 0) ((h.row.cell k).trans (row_at L k (by omega)))
  · rw [if_neg h1]
    exact get_out w g L.length i _ (by omega) (h.head.cell 0)
theorem set_row (L : List Int) (i : Nat) (v : Int) : ((L.map (Value.int .u32)).toArray).setIfInBounds i (.int .u32 v) = ((L.set i v).map (Value.int .u32)).toArray := by
  simp [List.map_set]
theorem put_y (h : Sto w g b L) (i : Nat) (hi : i < L.length) (v : Int) :
    Calls Tryz.prog 137 #[.pointer (some ⟨g, 0, none⟩), .int .i64 i, .int .u32 v] w fun e w' => e = .returned (.bool true) ∧ Sto w' g b (L.set i v) ∧ Keep (· = b) w w' := by
  refine (put_in w g b L.length i _ v hi h.le (h.head.cell 0) ((h.row.cell i).trans (row_at L i hi)) (h.row.frozen i)).mono ?_
  rintro e w' ⟨rfl, rfl⟩
  refine ⟨rfl, ⟨?_, ?_, by simpa using h.le⟩, (Keep.refl (· = b) w).setCell (p := ⟨b, i, none⟩) rfl _⟩
  · have := h.head.far (p := ⟨b, i, none⟩) h.ne (.int .u32 v)
    simpa using this
  · rw [← set_row]; exact h.row.set i _
end
end Go.Proofs.YtjpalcejmloocaaGreat.Store
