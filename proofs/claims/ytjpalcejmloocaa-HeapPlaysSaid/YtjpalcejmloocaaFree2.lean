/-
  Contracts of package free (chapter 4): New, Words, Longest.
-/
import Derived.Test.YtjpalcejmloocaaFree
namespace Go.Proofs.Ytjpalcejmloocaa.Free
open Go.RowKit Go.Proofs.Ytjpalcejmloocaa.Plain
set_option linter.unusedVariables false

def allL (n : Nat) : List Run := if n = 0 then [] else [(0, (n : Int))]
set_option maxHeartbeats 1000000 in
theorem new (v M : Int) (n : Nat) (w : World) (hM : (if 65536 < v then 65536 else v) = M) (hn : (if 0 < M then M else 0) = (n : Int)) (hn2 : n ≤ 65536) :
    Calls Try.prog 24 #[.int .i64 v] w fun e w' => e = .returned (.pointer (some ⟨w.heap.size, 0, none⟩)) ∧ (∃ u, Fre w' w.heap.size w.heap.size u (allL n) n) ∧ Ext w w' := by
  rcases Nat.eq_zero_or_pos n with h0 | h0
  · subst h0
    go_enter Try.func24, Try.ntmps24
    go_wp2
    go_ret
    refine ⟨rfl, ⟨.slice none 0 0, Blk.new _ _ _, World.ownsRow_nil _ _ _ _, by simp [allL], by simp [allL]⟩, (Ext.refl _).alloc _⟩
  · have d1 : (0 : Int) < (n : Int) := by omega
    obtain rfl : M = (n : Int) := by split at hn <;> omega
    go_enter Try.func24, Try.ntmps24
    go_wp2
    go_ret
    have e : allL n = [(0, (n : Int))] := by unfold allL; rw [if_neg (by omega)]
    rw [e]
    have hb : Blk ((w.alloc (.cells #[.int .i64 n, .slice (some ⟨w.heap.size + 1, 0, none⟩) 1 1] 77)).alloc (.cells #[.int .i64 0, .int .i64 n] 78)) (w.heap.size + 1) 78 #[.int .i64 0, .int .i64 n] := by
      have := Blk.new (w.alloc (.cells #[.int .i64 n, .slice (some ⟨w.heap.size + 1, 0, none⟩) 1 1] 77)) 78 #[.int .i64 0, .int .i64 n]
      rw [World.size_alloc] at this
      exact this
    refine ⟨rfl, ⟨.slice (some ⟨w.heap.size + 1, 0, none⟩) 1 1, (Blk.new _ _ _).alloc _, ?_, by simp, ?_⟩, ((Ext.refl _).alloc _).alloc _⟩
    · refine ⟨rfl, .inr ⟨w.heap.size + 1, 1, _, rfl, by omega, hb, by simp, by unfold maxLen; omega, rfl, rfl⟩⟩
    · intro r hr
      simp at hr
      subst hr
      exact ⟨by simp, by show (1 : Int) ≤ (n : Int); omega, by simp; omega⟩
def sumTo (L : List Run) : Nat → Int
  | 0 => 0
  | k + 1 => sumTo L k + (nth L k).2
def wordsL (L : List Run) : Int := sumTo L L.length
theorem sumTo_bd {L : List Run} (h : ∀ r ∈ L, 0 ≤ r.1 ∧ 1 ≤ r.2 ∧ r.1 + r.2 ≤ 65536) (k : Nat) (hk : k ≤ L.length) : 0 ≤ sumTo L k ∧ sumTo L k ≤ k * 65536 := by
  induction k with
  | zero => simp [sumTo]
  | succ k ih =>
    have := ih (by omega)
    have := h _ (nth_mem L k (by omega))
    simp only [sumTo]
    omega
set_option maxHeartbeats 1000000 in
theorem words {w : World} {g base : Nat} {v : Value} {L : List Run} {N : Int} (h : Fre w g base v L N) :
    Calls Try.prog 57 #[.pointer (some ⟨g, 0, none⟩)] w fun e w' => e = .returned (.int .i64 (wordsL L)) ∧ Ext w w' := by
  rcases own_rw h.own with ⟨rfl, rfl⟩ | ⟨gr, cap, cur, rfl, hbase, hr⟩
  · obtain ⟨r1, r2, r3⟩ := h.blk.rules
    go_enter Try.func57, Try.ntmps57
    go_wp2
    go_loopw [3, 11] (fun b i wr => b = .int .i64 0 ∧ i = .int .i64 0 ∧ Ext w wr) (fun _ _ _ => 0)
    case atStart => exact ⟨rfl, rfl, Ext.refl _⟩
    case round =>
      obtain ⟨rfl, rfl, hx⟩ := hrel
      go_wp2
      go_ret
      exact ⟨rfl, hx⟩
  · have hle := h.len
    obtain ⟨r1, r2, r3⟩ := h.blk.rules
    have HB := Lib.hid h.bd
    have HR := Lib.hid hr
    have hcap := hr.capLe
    have hlc := hr.le
    unfold maxLen at hcap
    clear h hr
    unfold wordsL
    generalize hll : L.length = len at r1 hle hlc ⊢
    have HL := Lib.hid hll
    clear hll
    go_enter Try.func57, Try.ntmps57
    go_wp2
    go_loopw [3, 11] (fun b i wr => ∃ k : Nat, k ≤ len ∧ i = .int .i64 k ∧ b = .int .i64 (sumTo L k) ∧ Ext w wr) (fun _ i _ => len - (intOf i).toNat)
    case atStart => exact ⟨0, Nat.zero_le _, rfl, rfl, Ext.refl _⟩
    case round =>
      obtain ⟨k, hk, rfl, rfl, hx⟩ := hrel
      by_cases hlt : k < len
      · obtain ⟨c1, c2⟩ := HR.out.get hx k (by rw [HL.out]; exact hlt)
        obtain ⟨q1, q3, q4⟩ := HB.out _ (nth_mem L k (by rw [HL.out]; exact hlt))
        have hgr : gr < wr.heap.size := by have := hx.below.size; have := HR.out.blk.lt; omega
        obtain ⟨s1, s2⟩ := sumTo_bd HB.out k (by rw [HL.out]; omega)
        have SS : Hid (sumTo L (k + 1) = sumTo L k + (nth L k).2) := rfl
        generalize nth L k = x at c1 c2 q1 q3 q4 SS
        generalize sumTo L k = y at s1 s2 SS ⊢
        go_wp2
        go_roundw
        case rel => exact ⟨k + 1, by omega, by go_num, by rw [SS.out], hx.alloc _⟩
        case measure => simp [intOf]; omega
      · obtain rfl : k = len := by omega
        go_wp2
        go_ret
        exact ⟨rfl, hx⟩
def maxTo (L : List Run) : Nat → Int
  | 0 => 0
  | k + 1 => if maxTo L k < (nth L k).2 then (nth L k).2 else maxTo L k
def longL (L : List Run) : Int := maxTo L L.length
end Go.Proofs.Ytjpalcejmloocaa.Free
