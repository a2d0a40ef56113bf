/-
  Contracts of package store: words side by side, in a slice of the store's own.
-/
import Derived.Test.YtjpalcejmloocaaRows
import Derived.Test.YtjpalcejmloocaaExt
import Derived.WalkKit
import Derived.StillTailTactics
import Derived.Laws.CopyOwn
import Derived.Lib.Hide
namespace Go.Proofs.Ytjpalcejmloocaa.Store
open Go.RowKit Go.Proofs.Ytjpalcejmloocaa.Plain
set_option linter.unusedVariables false

theorem info28 : (Try.prog.info? 28).map (fun i => (i.zero, i.size, i.bytes)) = some (some (.int .u32 0), 1, 4) := by kernel_rfl
theorem make_run (n : Nat) (hn : n ≤ 65536) (w : World) : (Instr.makeSlice 44 (.int .i64 (n : Int)) (.int .i64 (n : Int))).run Try.prog w = .ok (.slice (some ⟨w.heap.size, 0, none⟩) n n) (w.alloc (.cells (Array.replicate n (.int .u32 0)) 28)) := by
  obtain ⟨i0, hi, hz0, hz1, hz2⟩ := info_parts info28
  have h := run_make (P := Try.prog) w 44 28 i0 (.int .u32 0) Try.underlying44 hi hz0 .i64 .i64 (n : Int) (n : Int) (by omega) (by omega) (by rw [hz2]; omega) (by omega)
  rw [h]
  have e : madeCells (Value.cells (.int .u32 0)) ((n : Int).toNat * i0.size) = Array.replicate n (.int .u32 0) := by
    rw [hz1, Nat.mul_one, Int.toNat_natCast]
    apply Array.ext
    · simp [madeCells]
    · intro j h1 h2
      simp [madeCells, Value.cells, Nat.mod_one]
  rw [e, Int.toNat_natCast]
set_option maxHeartbeats 1000000 in
theorem new (v M : Int) (n : Nat) (w : World) (hM : (if 65536 < v then 65536 else v) = M) (hn : (if 0 < M then M else 0) = (n : Int)) (hn2 : n ≤ 65536) :
    Calls Try.prog 23 #[.int .i64 v] w fun e w' => e = .returned (.pointer (some ⟨w.heap.size + 1, 0, none⟩)) ∧ w' = (w.alloc (.cells (Array.replicate n (.int .u32 0)) 28)).alloc (.cells #[.slice (some ⟨w.heap.size, 0, none⟩) n n] 74) := by
  have hmk := make_run n hn2
  go_enter Try.func23, Try.ntmps23
  go_wp2
  go_ret
  exact ⟨rfl, rfl⟩
theorem len (w : World) (g n : Nat) (a : Option Addr) (c : w.cell? ⟨g, 0, none⟩ = some (.slice a n n)) :
    Calls Try.prog 25 #[.pointer (some ⟨g, 0, none⟩)] w fun e w' => e = .returned (.int .i64 n) ∧ w = w' := by
  go_enter Try.func25, Try.ntmps25
  go_wp2
  go_ret
  exact ⟨rfl, rfl⟩
theorem get_in (w : World) (g b n i : Nat) (x : Int) (hi : i < n) (hn : n ≤ 65536) (c : w.cell? ⟨g, 0, none⟩ = some (.slice (some ⟨b, 0, none⟩) n n)) (cx : w.cell? ⟨b, i, none⟩ = some (.int .u32 x)) :
    Calls Try.prog 53 #[.pointer (some ⟨g, 0, none⟩), .int .i64 i] w fun e w' => e = .returned (.int .u32 x) ∧ w = w' := by
  have d1 : decide (n ≤ i) = false := by simp; omega
  go_enter Try.func53, Try.ntmps53
  go_wp2
  go_ret
  exact ⟨rfl, rfl⟩
theorem get_out (w : World) (g n : Nat) (at_ : Int) (a : Option Addr) (hi : at_ < 0 ∨ 0 ≤ at_ ∧ (n : Int) ≤ at_) (c : w.cell? ⟨g, 0, none⟩ = some (.slice a n n)) :
    Calls Try.prog 53 #[.pointer (some ⟨g, 0, none⟩), .int .i64 at_] w fun e w' => e = .returned (.int .u32 0) ∧ w = w' := by
  rcases hi with hi | ⟨h0, hi⟩
  · go_enter Try.func53, Try.ntmps53
    go_wp2
    go_ret
    exact ⟨rfl, rfl⟩
  · have d0 : decide (at_ < 0) = false := by simp; omega
    have d1 : decide ((n : Int) ≤ at_) = true := by simpa using hi
    go_enter Try.func53, Try.ntmps53
    go_wp2
    go_ret
    exact ⟨rfl, rfl⟩
theorem put_in (w : World) (g b n i : Nat) (x v : Int) (hi : i < n) (hn : n ≤ 65536) (c : w.cell? ⟨g, 0, none⟩ = some (.slice (some ⟨b, 0, none⟩) n n)) (cx : w.cell? ⟨b, i, none⟩ = some (.int .u32 x)) (fz : w.frozen? ⟨b, i, none⟩ = false) :
    Calls Try.prog 29 #[.pointer (some ⟨g, 0, none⟩), .int .i64 i, .int .u32 v] w fun e w' => e = .returned (.bool true) ∧ w' = w.setCell ⟨b, i, none⟩ (.int .u32 v) := by
  have d1 : decide (n ≤ i) = false := by simp; omega
  go_enter Try.func29, Try.ntmps29
  go_wp2
  go_ret
  exact ⟨rfl, rfl⟩
theorem put_out (w : World) (g n : Nat) (at_ v : Int) (a : Option Addr) (hi : at_ < 0 ∨ 0 ≤ at_ ∧ (n : Int) ≤ at_) (c : w.cell? ⟨g, 0, none⟩ = some (.slice a n n)) :
    Calls Try.prog 29 #[.pointer (some ⟨g, 0, none⟩), .int .i64 at_, .int .u32 v] w fun e w' => e = .returned (.bool false) ∧ w = w' := by
  rcases hi with hi | ⟨h0, hi⟩
  · go_enter Try.func29, Try.ntmps29
    go_wp2
    go_ret
    exact ⟨rfl, rfl⟩
  · have d0 : decide (at_ < 0) = false := by simp; omega
    have d1 : decide ((n : Int) ≤ at_) = true := by simpa using hi
    go_enter Try.func29, Try.ntmps29
    go_wp2
    go_ret
    exact ⟨rfl, rfl⟩
structure Sto (w : World) (g b : Nat) (L : List Int) : Prop where
  head : Blk w g 74 #[.slice (some ⟨b, 0, none⟩) L.length L.length]
  row : Blk w b 28 (L.map (Value.int .u32)).toArray
  le : L.length ≤ 65536
section
variable {w w' : World} {g b : Nat} {L : List Int}
theorem Sto.ne (h : Sto w g b L) : g ≠ b := h.head.ne h.row (by decide)
theorem Sto.keep {S : Nat → Prop} (h : Sto w g b L) (k : Keep S w w') (h1 : ¬ S g) (h2 : ¬ S b) : Sto w' g b L := ⟨h.head.keep k h1, h.row.keep k h2, h.le⟩
theorem Sto.ext (h : Sto w g b L) (k : Ext w w') : Sto w' g b L := h.keep (.of_ext k (fun _ => False)) (fun h => h) (fun h => h)
theorem row_at (L : List Int) (i : Nat) (hi : i < L.length) : (L.map (Value.int .u32)).toArray[i]? = some (.int .u32 (L.getD i 0)) := by
  simp [List.getD, hi]
theorem new_sto (v M : Int) (n : Nat) (w : World) (hM : (if 65536 < v then 65536 else v) = M) (hn : (if 0 < M then M else 0) = (n : Int)) (hn2 : n ≤ 65536) :
    Calls Try.prog 23 #[.int .i64 v] w fun e w' => e = .returned (.pointer (some ⟨w.heap.size + 1, 0, none⟩)) ∧ Sto w' (w.heap.size + 1) w.heap.size (List.replicate n 0) ∧ Ext w w' := by
  refine (new v M n w hM hn hn2).mono ?_
  rintro e w' ⟨rfl, rfl⟩
  have e1 : (Array.replicate n (Value.int .u32 0)) = ((List.replicate n (0 : Int)).map (Value.int .u32)).toArray := by simp
  refine ⟨rfl, ⟨?_, ?_, by simpa using hn2⟩, ((Ext.refl _).alloc _).alloc _⟩
  · have h := Blk.new (w.alloc (.cells (Array.replicate n (.int .u32 0)) 28)) 74 #[.slice (some ⟨w.heap.size, 0, none⟩) n n]
    rw [World.size_alloc] at h
    simpa using h
  · rw [← e1]; exact (Blk.new _ _ _).alloc _
theorem len_sto (h : Sto w g b L) : Calls Try.prog 25 #[.pointer (some ⟨g, 0, none⟩)] w fun e w' => e = .returned (.int .i64 L.length) ∧ w = w' :=
  len w g L.length _ (h.head.cell 0)
def getL (L : List Int) (i : Int) : Int := if 0 ≤ i ∧ i < L.length then L.getD i.toNat 0 else 0
theorem get_sto (h : Sto w g b L) (i : Int) : Calls Try.prog 53 #[.pointer (some ⟨g, 0, none⟩), .int .i64 i] w fun e w' => e = .returned (.int .u32 (getL L i)) ∧ w = w' := by
  unfold getL
  by_cases h1 : 0 ≤ i ∧ i < L.length
  · rw [if_pos h1]
    obtain ⟨k, rfl⟩ := Int.eq_ofNat_of_zero_le h1.1
    rw [Int.toNat_natCast]
    exact get_in w g b L.length k _ (by omega) h.le (h.head.cell 0) ((h.row.cell k).trans (row_at L k (by omega)))
  · rw [if_neg h1]
    exact get_out w g L.length i _ (by omega) (h.head.cell 0)
theorem set_row (L : List Int) (i : Nat) (v : Int) : ((L.map (Value.int .u32)).toArray).setIfInBounds i (.int .u32 v) = ((L.set i v).map (Value.int .u32)).toArray := by
  simp [List.map_set]
theorem put_y (h : Sto w g b L) (i : Nat) (hi : i < L.length) (v : Int) :
    Calls Try.prog 29 #[.pointer (some ⟨g, 0, none⟩), .int .i64 i, .int .u32 v] w fun e w' => e = .returned (.bool true) ∧ Sto w' g b (L.set i v) ∧ Keep (· = b) w w' := by
  refine (put_in w g b L.length i _ v hi h.le (h.head.cell 0) ((h.row.cell i).trans (row_at L i hi)) (h.row.frozen i)).mono ?_
  rintro e w' ⟨rfl, rfl⟩
  refine ⟨rfl, ⟨?_, ?_, by simpa using h.le⟩, (Keep.refl (· = b) w).setCell (p := ⟨b, i, none⟩) rfl _⟩
  · have := h.head.far (p := ⟨b, i, none⟩) h.ne (.int .u32 v)
    simpa using this
  · rw [← set_row]; exact h.row.set i _
theorem put_n (h : Sto w g b L) (i v : Int) (hi : i < 0 ∨ 0 ≤ i ∧ (L.length : Int) ≤ i) :
    Calls Try.prog 29 #[.pointer (some ⟨g, 0, none⟩), .int .i64 i, .int .u32 v] w fun e w' => e = .returned (.bool false) ∧ w = w' :=
  put_out w g L.length i v _ hi (h.head.cell 0)
end
end Go.Proofs.Ytjpalcejmloocaa.Store
